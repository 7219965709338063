/- (several texts in one: Rep, RepR, UtfWB, RuN, RuO, RuX, RuY, RuZ, RsA, RsB, RsC, RsD, RsE, RtA, RtB, RtC) Own work. -/
import Derived.LaidHandle
import Derived.LaidLaws
import Derived.Stop.LaidErr
import Derived.Test.YtechilkjfhpkpaaGreatDoorPS4
namespace Go.Proofs.YtechilkjfhpkpaaGreatDoor.Rep
open Go Vm Go.RowKit Num Mem Go.ChangeShapes Shut
inductive Sh where
  | int (k : IntKind) | bool | str | fl (k : FloatKind) | sl (es : List Sh)
def sumTo (f : Nat → Nat) : Nat → Nat
  | 0 => 0
  | n + 1 => sumTo f n + f n
theorem sumTo_ge (f : Nat → Nat) : ∀ n i, i < n → f i ≤ sumTo f n
  | 0, i, h => absurd h (Nat.not_lt_zero _)
  | n + 1, i, h => by
    rcases Nat.lt_succ_iff_lt_or_eq.1 h with h | rfl
    · have := sumTo_ge f n i h; simp only [sumTo]; omega
    · simp only [sumTo]; omega
theorem sumTo_len (f : Nat → Nat) : ∀ n, (∀ i, i < n → 1 ≤ f i) → n ≤ sumTo f n
  | 0, _ => Nat.le_refl _
  | n + 1, h => by
    have := sumTo_len f n fun i hi => h i (by omega)
    have := h n (by omega)
    simp only [sumTo]; omega
theorem sumTo_bulk {H : Type} : ∀ l : List (DataW H), sumTo (fun i => Rows.uptoBulk (l.getD i .nil)) l.length ≤ Rows.uptoBulkAll l := by
  intro l
  have key : ∀ (l : List (DataW H)) (n : Nat), n ≤ l.length → sumTo (fun i => Rows.uptoBulk (l.getD i .nil)) n = Rows.uptoBulkAll (l.take n) := by
    intro l n
    induction n with
    | zero => intro _; simp [sumTo, Rows.uptoBulkAll]
    | succ n ih =>
      intro h
      simp only [sumTo]
      rw [ih (by omega), List.take_add_one, bulk_app, List.getElem?_eq_getElem (by omega)]
      simp [Rows.uptoBulkAll, List.getD, List.getElem?_eq_getElem (show n < l.length by omega)]
  rw [key l l.length (Nat.le_refl _), List.take_length]; exact Nat.le_refl _
inductive Cl (w : World) : Sh → Value → Nat → Prop
  | int {k : IntKind} {n : Int} {b : Nat} : k.min ≤ n → n ≤ k.max → Cl w (.int k) (.int k n) b
  | bool {x : Bool} {b : Nat} : Cl w .bool (.bool x) b
  | str {s : ByteArray} {b : Nat} : s.size < b → Cl w .str (.string s) b
  | fl {k : FloatKind} {n b : Nat} : (Lit.float k n).wf = true → Cl w (.fl k) (.float k n) b
  | sl {s : Sl} {es : List Sh} {b : Nat} (f : Nat → Nat) (U : Nat → Nat → Value) : s.n ≤ s.c → s.c ≤ maxLen → (∀ i, i < s.n → 1 ≤ f i) → sumTo f s.n < b → (s.a = none → s = nilS) →
      (0 < s.n → ∃ g o, s.a = some ⟨g, o, none⟩ ∧ ∀ i j sh, i < s.n → es[j]? = some sh → w.cell? ⟨g, o + (i * es.length + j), none⟩ = some (U i j)) →
      (∀ i j sh, i < s.n → es[j]? = some sh → Cl w sh (U i j) (f i)) → Cl w (.sl es) s.v b
def Row (w : World) (shs : List Sh) (cs : List Value) (b : Nat) : Prop := cs.length = shs.length ∧ ∀ (j : Nat) (sh : Sh), shs[j]? = some sh → ∃ v, cs[j]? = some v ∧ Cl w sh v b
theorem Cl.mono {w : World} {sh : Sh} {v : Value} {b b' : Nat} (h : Cl w sh v b) (hb : b ≤ b') : Cl w sh v b' := by
  cases h with
  | int h1 h2 => exact .int h1 h2
  | bool => exact .bool
  | str h => exact .str (by omega)
  | fl h => exact .fl h
  | sl f U h1 h2 h3 h4 h5 h6 h7 => exact .sl f U h1 h2 h3 (by omega) h5 h6 h7
theorem Cl.keep {w w' : World} (k : Keep w w') {sh : Sh} {v : Value} {b : Nat} (h : Cl w sh v b) : Cl w' sh v b := by
  induction h with
  | int h1 h2 => exact .int h1 h2
  | bool => exact .bool
  | str h => exact .str h
  | fl h => exact .fl h
  | sl f U h1 h2 h3 h4 h5 h6 _ ih =>
    exact .sl f U h1 h2 h3 h4 h5 (fun hn => let ⟨g, o, ha, hc⟩ := h6 hn; ⟨g, o, ha, fun i j sh hi hj => k.cell (hc i j sh hi hj)⟩) ih
theorem Cl.int_inv {w : World} {k : IntKind} {v : Value} {b : Nat} (h : Cl w (.int k) v b) : ∃ n, v = .int k n ∧ k.min ≤ n ∧ n ≤ k.max := by
  cases h with | int h1 h2 => exact ⟨_, rfl, h1, h2⟩
theorem Cl.bool_inv {w : World} {v : Value} {b : Nat} (h : Cl w .bool v b) : ∃ x, v = .bool x := by
  cases h with | bool => exact ⟨_, rfl⟩
theorem Cl.str_inv {w : World} {v : Value} {b : Nat} (h : Cl w .str v b) : ∃ s, v = .string s ∧ s.size < b := by
  cases h with | str h => exact ⟨_, rfl, h⟩
theorem Cl.fl_inv {w : World} {k : FloatKind} {v : Value} {b : Nat} (h : Cl w (.fl k) v b) : ∃ n, v = .float k n ∧ (Lit.float k n).wf = true := by
  cases h with | fl h => exact ⟨_, rfl, h⟩
theorem Cl.sl_ex {w : World} {es : List Sh} {v : Value} {b : Nat} (h : Cl w (.sl es) v b) : ∃ s : Sl, v = s.v := by
  cases h with | sl => exact ⟨_, rfl⟩
theorem sl_v_inj {s t : Sl} (h : s.v = t.v) : s = t := by
  cases s; cases t; simp only [Value.slice.injEq] at h; obtain ⟨rfl, rfl, rfl⟩ := h; rfl
theorem Cl.sl_inv {w : World} {es : List Sh} {s : Sl} {b : Nat} (h : Cl w (.sl es) s.v b) : ∃ (f : Nat → Nat) (U : Nat → Nat → Value), s.n ≤ s.c ∧ s.c ≤ maxLen ∧ (∀ i, i < s.n → 1 ≤ f i) ∧ sumTo f s.n < b ∧ (s.a = none → s = nilS) ∧
    (0 < s.n → ∃ g o, s.a = some ⟨g, o, none⟩ ∧ ∀ i j sh, i < s.n → es[j]? = some sh → w.cell? ⟨g, o + (i * es.length + j), none⟩ = some (U i j)) ∧
    (∀ i j sh, i < s.n → es[j]? = some sh → Cl w sh (U i j) (f i)) := by
  generalize hv : s.v = v at h
  cases h with
  | sl f U h1 h2 h3 h4 h5 h6 h7 =>
    have := sl_v_inj hv
    subst this
    exact ⟨f, U, h1, h2, h3, h4, h5, h6, h7⟩
theorem Cl.len {w : World} {es : List Sh} {s : Sl} {b : Nat} (h : Cl w (.sl es) s.v b) : s.n < b := by
  obtain ⟨f, U, h1, h2, h3, h4, h5, h6, h7⟩ := h.sl_inv
  have := sumTo_len f s.n h3
  omega
theorem Cl.ix {w : World} {es : List Sh} {s : Sl} {b : Nat} (h : Cl w (.sl es) s.v b) {i : Int} (h0 : 0 ≤ i) (hi : i < s.n) {sz : Nat} (hsz : sz = es.length) {K : Addr → Prop}
    (hK : ∀ (a : Addr) (V : Nat → Value), (∀ j sh, es[j]? = some sh → w.cell? (a.add j) = some (V j) ∧ Cl w sh (V j) b) → K a) : G.ix s.a s.n i sz K := by
  obtain ⟨f, U, h1, h2, h3, h4, h5, h6, h7⟩ := h.sl_inv
  obtain ⟨g, o, ha, hc⟩ := h6 (by omega)
  rw [ha]
  subst hsz
  refine ⟨⟨h0, hi⟩, hK _ (U i.toNat) fun j sh hj => ⟨?_, (h7 i.toNat j sh (by omega) hj).mono ?_⟩⟩
  · rw [addr_add, addr_add, Nat.add_assoc]
    exact hc _ j sh (by omega) hj
  · have := sumTo_ge f s.n i.toNat (by omega)
    omega
def fsOf (P : Program) (go : TypeId → Option (List Sh)) : Nat → List Field → Option (List Sh)
  | _, [] => some []
  | off, f :: r => match go f.type with
    | some l => bif Nat.beq f.offset off && Nat.beq (P.cellsOf f.type) l.length then (fsOf P go (off + l.length) r).map (l ++ ·) else none
    | none => none
def shOf (P : Program) : Nat → TypeId → Option (List Sh)
  | 0, _ => none
  | d + 1, t => match P.underlying t with
    | some (.int k) => some [.int k]
    | some .bool => some [.bool]
    | some .string => some [.str]
    | some (.float k) => some [.fl k]
    | some (.slice e) => match shOf P d e with
      | some l => bif Nat.beq (P.cellsOf e) l.length && Nat.blt 0 l.length then some [.sl l] else none
      | none => none
    | some (.struct fs) => match fsOf P (shOf P d) 0 fs.toList with
      | some l => bif Nat.beq (P.cellsOf t) l.length then some l else none
      | none => none
    | _ => none
theorem nbeq {a b : Nat} {α : Type} {x : Option α} {y : α} (h : (bif Nat.beq a b then x else none) = some y) : a = b ∧ x = some y := by
  cases e : Nat.beq a b with
  | false => rw [e] at h; cases h
  | true => rw [e] at h; exact ⟨Nat.eq_of_beq_eq_true e, h⟩
theorem addr_none {w : World} {a : Addr} {v : Value} (h : w.cell? a = some v) : a.spot = none := by
  obtain ⟨g, o, sp⟩ := a
  cases sp with
  | none => rfl
  | some x =>
    simp only [World.cell?] at h
    simp at h
    split at h <;> simp_all
theorem Row.app {w : World} {xs ys : List Sh} {cs : List Value} {b : Nat} (h1 : Row w xs (cs.take xs.length) b) (h2 : Row w ys (cs.drop xs.length) b) : Row w (xs ++ ys) cs b := by
  obtain ⟨l1, h1⟩ := h1
  obtain ⟨l2, h2⟩ := h2
  rw [List.length_take] at l1
  rw [List.length_drop] at l2
  refine ⟨by simp; omega, fun j sh hj => ?_⟩
  rcases Nat.lt_or_ge j xs.length with hlt | hge
  · rw [List.getElem?_append_left hlt] at hj
    obtain ⟨v, hv, hc⟩ := h1 j sh hj
    rw [List.getElem?_take, if_pos hlt] at hv
    exact ⟨v, hv, hc⟩
  · rw [List.getElem?_append_right hge] at hj
    obtain ⟨v, hv, hc⟩ := h2 _ sh hj
    rw [List.getElem?_drop, show xs.length + (j - xs.length) = j by omega] at hv
    exact ⟨v, hv, hc⟩
theorem Row.mono {w : World} {shs : List Sh} {cs : List Value} {b b' : Nat} (h : Row w shs cs b) (hb : b ≤ b') : Row w shs cs b' :=
  ⟨h.1, fun j sh hj => let ⟨v, hv, hc⟩ := h.2 j sh hj; ⟨v, hv, hc.mono hb⟩⟩
section
variable {H : Type} {enc : TypeId × Value → H} {P : Program} {w : World} {spare : Nat → Bool} {held : Bool}
theorem fields_row {go : TypeId → Option (List Sh)} {fuel : Nat} {cs : List Value} {B : Nat} (ih : ∀ t cs x shs, DataW.trod enc P w 0 spare held fuel t cs = some x → go t = some shs → Row w shs cs (Rows.uptoBulk x.1)) :
    ∀ (r : List Field) (ys : List (DataW H × List MemPlace)) (off : Nat) (l : List Sh), fsOf P go off r = some l → ys.length = r.length →
      (∀ (i : Nat) (f : Field), r[i]? = some f → DataW.trod enc P w 0 spare held fuel f.type ((cs.drop f.offset).take (P.cellsOf f.type)) = ys[i]?) → (∀ y ∈ ys, Rows.uptoBulk y.1 ≤ B) → off + l.length ≤ cs.length →
      Row w l ((cs.drop off).take l.length) B
  | [], ys, off, l, h, _, _, _, _ => by
    cases h
    exact ⟨by simp, fun j sh hj => by simp at hj⟩
  | f :: r, ys, off, l, h, hy, hf, hB, hlen => by
    simp only [fsOf] at h
    split at h
    case h_2 => cases h
    rename_i lf hlf
    cases hc : (Nat.beq f.offset off && Nat.beq (P.cellsOf f.type) lf.length) with
    | false => rw [hc] at h; cases h
    | true =>
      rw [hc] at h
      simp only [Bool.and_eq_true] at hc
      have ho : f.offset = off := Nat.eq_of_beq_eq_true hc.1
      have hcl : P.cellsOf f.type = lf.length := Nat.eq_of_beq_eq_true hc.2
      obtain ⟨l', hl', rfl⟩ := Option.map_eq_some_iff.1 h
      cases ys with
      | nil => simp at hy
      | cons y ys =>
        rw [List.length_append] at hlen
        have h0 := hf 0 f rfl
        rw [ho, hcl] at h0
        have r1 := (ih _ _ _ _ h0 hlf).mono (hB y (List.mem_cons_self ..))
        have r2 := fields_row ih r ys (off + lf.length) l' hl' (by simpa using hy) (fun i f hi => hf (i + 1) f hi) (fun z hz => hB z (List.mem_cons_of_mem _ hz)) (by omega)
        refine Row.app ?_ ?_
        · rw [List.take_take, List.length_append, Nat.min_eq_left (by omega)]; exact r1
        · rw [List.drop_take, List.drop_drop, List.length_append, show lf.length + l'.length - lf.length = l'.length by omega]; exact r2
theorem row_of_trod : ∀ (fuel d : Nat) (t : TypeId) (cs : List Value) (x : DataW H × List MemPlace) (shs : List Sh), DataW.trod enc P w 0 spare held fuel t cs = some x → shOf P d t = some shs → Row w shs cs (Rows.uptoBulk x.1)
  | 0, _, _, _, _, _, h, _ => by simp [DataW.trod] at h
  | _ + 1, 0, _, _, _, _, _, hs => by cases hs
  | fuel + 1, d + 1, t, cs, x, shs, h, hs => by
    simp only [shOf] at hs
    cases hu : P.underlying t with
    | none => rw [hu] at hs; cases hs
    | some ty =>
      rw [hu] at hs
      cases ty with
      | int k =>
        cases hs
        rw [DataW.trod_step] at h
        unfold DataW.trodStep at h
        rw [hu] at h
        split at h <;> simp_all
        obtain ⟨⟨rfl, hw⟩, rfl⟩ := h
        rename_i n _ _
        simp only [Lit.wf, Bool.and_eq_true, decide_eq_true_eq] at hw
        exact ⟨rfl, fun j sh hj => by
          cases j with
          | zero => simp at hj; subst hj; exact ⟨_, rfl, .int hw.1 hw.2⟩
          | succ j => simp at hj⟩
      | bool =>
        cases hs
        rw [DataW.trod_step] at h
        unfold DataW.trodStep at h
        rw [hu] at h
        split at h <;> simp_all
        exact ⟨rfl, fun j sh hj => by
          cases j with
          | zero => simp at hj; subst hj; exact ⟨_, rfl, .bool⟩
          | succ j => simp at hj⟩
      | float k =>
        cases hs
        rw [DataW.trod_step] at h
        unfold DataW.trodStep at h
        rw [hu] at h
        split at h <;> simp_all
        obtain ⟨⟨rfl, hw⟩, rfl⟩ := h
        exact ⟨rfl, fun j sh hj => by
          cases j with
          | zero => simp at hj; subst hj; exact ⟨_, rfl, .fl hw⟩
          | succ j => simp at hj⟩
      | string =>
        cases hs
        rw [DataW.trod_step] at h
        unfold DataW.trodStep at h
        rw [hu] at h
        split at h <;> simp_all
        obtain ⟨hw, rfl⟩ := h
        exact ⟨rfl, fun j sh hj => by
          cases j with
          | zero => simp at hj; subst hj; exact ⟨_, rfl, .str (by show _ < List.length _ + 1; rw [Array.length_toList]; exact Nat.lt_succ_self _)⟩
          | succ j => simp at hj⟩
      | slice e =>
        simp only [] at hs
        split at hs
        case h_2 => cases hs
        rename_i l hl
        cases hc : (Nat.beq (P.cellsOf e) l.length && Nat.blt 0 l.length) with
        | false => rw [hc] at hs; cases hs
        | true =>
          rw [hc] at hs
          cases hs
          simp only [Bool.and_eq_true] at hc
          have hsz : P.cellsOf e = l.length := Nat.eq_of_beq_eq_true hc.1
          have hpos : 0 < l.length := Nat.blt_eq.mp hc.2
          have one : ∀ v, Cl w (.sl l) v (Rows.uptoBulk x.1) → Row w [.sl l] [v] (Rows.uptoBulk x.1) := fun v hv => ⟨rfl, fun j sh hj => by
            cases j with
            | zero => simp at hj; subst hj; exact ⟨_, rfl, hv⟩
            | succ j => simp at hj⟩
          rcases DataW.trod_slice hu h with ⟨rfl, rfl⟩ | ⟨a, len, cap, elems, rest, n, hn, rfl, rfl, _, hlc, hcm, hlen, hel, _, _⟩
          · exact one _ (.sl (s := nilS) (fun _ => 1) (fun _ _ => undef) (Nat.le_refl _) (Nat.zero_le _) (fun _ _ => Nat.le_refl _) (by simp [sumTo, Rows.uptoBulk]) (fun _ => rfl) (fun h => absurd h (Nat.not_lt_zero _)) (fun i j sh h => absurd h (Nat.not_lt_zero _)))
          · have hnf : n = fuel := by omega
            subst hnf
            have hx : ∀ i, i < len → ∃ cs', w.cells? 0 (a.add (i * l.length)) l.length = some cs' ∧ Row w l cs' (Rows.uptoBulk ((elems.map (·.1)).getD i .nil)) := by
              intro i hi
              have hi' : i < elems.length := by omega
              have h1 := hel i hi
              rw [List.getElem?_eq_getElem hi', hsz] at h1
              obtain ⟨cs', h2, h3⟩ := Option.bind_eq_some_iff.1 h1
              refine ⟨cs', h2, ?_⟩
              have := row_of_trod _ d e cs' _ l h3 hl
              simpa [List.getD, List.getElem?_eq_getElem hi'] using this
            have hcell : ∀ i j, i < len → j < l.length → ∃ v, w.cell? (a.add (i * l.length + j)) = some v ∧ ∀ sh, l[j]? = some sh → Cl w sh v (Rows.uptoBulk ((elems.map (·.1)).getD i .nil)) := by
              intro i j hi hj
              obtain ⟨cs', h2, hlc', h3⟩ := hx i hi
              obtain ⟨_, _, h4⟩ := World.cells?_some h2
              obtain ⟨sh, hsh⟩ : ∃ sh, l[j]? = some sh := ⟨l[j], List.getElem?_eq_getElem hj⟩
              obtain ⟨v, hv, hcl⟩ := h3 j sh hsh
              refine ⟨v, ?_, fun sh' hsh' => ?_⟩
              · have := h4 j hj
                rw [hv] at this
                rw [← this]
                congr 1
                unfold Addr.add
                by_cases h1 : i * l.length = 0 <;> by_cases h2 : j = 0 <;> simp [h1, h2, Nat.add_assoc]
              · rw [hsh] at hsh'; cases hsh'; exact hcl
            classical
            let U : Nat → Nat → Value := fun i j => if h : i < len ∧ j < l.length then Classical.choose (hcell i j h.1 h.2) else undef
            have hU : ∀ i j, i < len → j < l.length → w.cell? (a.add (i * l.length + j)) = some (U i j) ∧ ∀ sh, l[j]? = some sh → Cl w sh (U i j) (Rows.uptoBulk ((elems.map (·.1)).getD i .nil)) := by
              intro i j hi hj
              have := Classical.choose_spec (hcell i j hi hj)
              simp only [U, dif_pos (And.intro hi hj)]
              exact this
            refine one _ (.sl (s := ⟨some a, len, cap⟩) (fun i => Rows.uptoBulk ((elems.map (·.1)).getD i .nil)) U hlc hcm (fun i _ => bulk_one _) ?_ (fun h => by cases h) (fun hn => ?_) fun i j sh hi hj => (hU i j hi ((List.getElem?_eq_some_iff.1 hj).1)).2 sh hj)
            · have h1 := sumTo_bulk (elems.map (·.1))
              rw [List.length_map, hlen] at h1
              simp only [Rows.uptoBulk]
              omega
            · have h0 := (hU 0 0 hn hpos).1
              have hs0 : a.spot = none := by
                rw [Nat.zero_mul, Nat.zero_add, show a.add 0 = a by simp [Addr.add]] at h0
                exact addr_none h0
              obtain ⟨g, o, sp⟩ := a
              simp only at hs0
              subst hs0
              refine ⟨g, o, rfl, fun i j sh hi hj => ?_⟩
              have := (hU i j hi ((List.getElem?_eq_some_iff.1 hj).1)).1
              rwa [addr_add] at this
      | struct fs =>
        simp only [] at hs
        split at hs
        case h_2 => cases hs
        rename_i l hl
        obtain ⟨hct, hs⟩ := nbeq hs
        cases hs
        obtain ⟨xs, n, hn, rfl, hlen, hxl, hf⟩ := DataW.trod_struct hu h
        have hnf : n = fuel := by omega
        subst hnf
        have := fields_row (B := Rows.uptoBulkAll (xs.map (·.1)) + 1) (cs := cs) (go := shOf P d) (fun t cs x shs h hs => row_of_trod n d t cs x shs h hs) fs.toList xs 0 shs hl (by simpa using hxl) (fun i f hi => hf i f (by simpa using hi)) (fun x hx => by
          have := bulk_part (l := xs.map (·.1)) (List.mem_map_of_mem hx); omega) (by omega)
        rw [List.drop_zero, List.take_of_length_le (by omega)] at this
        exact this
      | _ => cases hs
theorem open_sl {base : Nat} {t e : TypeId} {v : Value} {d : DataW H} {p : List MemPlace} {es : List Sh} (n : Nat) (hu : P.underlying t = some (.slice e)) (hs : shOf P n t = some [.sl es]) (hval : Value.okWide P w .any base t v)
    (h : DataW.Trod enc P w 0 spare held t v d p) : ∃ s : Sl, v = s.v ∧ Cl w (.sl es) s.v (Rows.uptoBulk d) := by
  obtain ⟨a, m, c, rfl⟩ := WideShapes.okWide_slice hu hval
  obtain ⟨fuel, h⟩ := h
  obtain ⟨hl, hr⟩ := row_of_trod fuel n t _ _ _ h hs
  obtain ⟨v, hv, hc⟩ := hr 0 _ rfl
  have : v = .slice a m c := by simpa [Value.cells] using hv.symm
  subst this
  exact ⟨⟨a, m, c⟩, rfl, hc⟩
theorem open_row {base : Nat} {t : TypeId} {fs : Array Field} {v : Value} {d : DataW H} {p : List MemPlace} {shs : List Sh} (n : Nat) (hu : P.underlying t = some (.struct fs)) (hs : shOf P n t = some shs) (hval : Value.okWide P w .any base t v)
    (h : DataW.Trod enc P w 0 spare held t v d p) : ∃ cs : List Value, v = .agg ⟨cs⟩ ∧ Row w shs cs (Rows.uptoBulk d) := by
  obtain ⟨cs, rfl, _⟩ := WideShapes.okWide_struct hu hval
  obtain ⟨fuel, h⟩ := h
  exact ⟨cs.toList, rfl, row_of_trod fuel n t _ _ _ h hs⟩
end
end Go.Proofs.YtechilkjfhpkpaaGreatDoor.Rep

namespace Go.Proofs.YtechilkjfhpkpaaGreatDoor.Rep
open Go Vm Go.RowKit Num Mem
variable {w : World} {α : Type}
theorem flat_at {enc : α → List Value} {k : Nat} (hk : ∀ x, (enc x).length = k) : ∀ (m : List α) (i j : Nat), j < k → (m.flatMap enc)[i * k + j]? = (m[i]?).bind fun x => (enc x)[j]?
  | [], i, j, _ => by simp
  | x :: m, 0, j, hj => by
    simp only [List.flatMap_cons, Nat.zero_mul, Nat.zero_add]
    rw [List.getElem?_append_left (by rw [hk]; exact hj)]; simp
  | x :: m, i + 1, j, hj => by
    simp only [List.flatMap_cons]
    rw [List.getElem?_append_right (by rw [hk, Nat.add_mul]; omega), hk, show (i + 1) * k + j - k = i * k + j by rw [Nat.add_mul]; omega, flat_at hk m i j hj]
    simp
theorem flat_len {enc : α → List Value} {k : Nat} (hk : ∀ x, (enc x).length = k) : ∀ m : List α, (m.flatMap enc).length = m.length * k
  | [] => by simp
  | x :: m => by simp only [List.flatMap_cons, List.length_append, List.length_cons, hk, flat_len hk m, Nat.add_mul]; omega
theorem rows_of [Inhabited α] {s : Sl} {b : Nat} {es : List Sh} {enc : α → List Value} {Q : α → Prop} (hk : ∀ x, (enc x).length = es.length) (hpos : 0 < es.length) (h : Cl w (.sl es) s.v b)
    (inv : ∀ V : Nat → Value, (∀ j sh, es[j]? = some sh → Cl w sh (V j) b) → ∃ x, (∀ j, j < es.length → (enc x)[j]? = some (V j)) ∧ Q x) :
    ∃ m : List α, Rd w s es.length (m.flatMap enc) ∧ s.n = m.length ∧ s.n < b ∧ s.n ≤ maxLen ∧ ∀ x ∈ m, Q x := by
  have hb := h.len
  obtain ⟨f, U, h1, h2, h3, h4, h5, h6, h7⟩ := h.sl_inv
  have get : ∀ i, i < s.n → ∃ x : α, (∀ j, j < es.length → (enc x)[j]? = some (U i j)) ∧ Q x := fun i hi => inv (U i) fun j sh hj => (h7 i j sh hi hj).mono (by have := sumTo_ge f s.n i hi; omega)
  obtain ⟨g, hg⟩ : ∃ g : Nat → α, ∀ i, i < s.n → (∀ j, j < es.length → (enc (g i))[j]? = some (U i j)) ∧ Q (g i) :=
    ⟨fun i => if hi : i < s.n then (get i hi).choose else default, fun i hi => by simp only [dif_pos hi]; exact (get i hi).choose_spec⟩
  refine ⟨(List.range s.n).map g, ⟨h1, by rw [flat_len hk]; simp, fun hne => ?_⟩, by simp, hb, by omega, fun x hx => ?_⟩
  · have hn : 0 < s.n := by
      rcases Nat.eq_zero_or_pos s.n with e | e
      · rw [e] at hne; exact absurd rfl hne
      · exact e
    obtain ⟨gb, o, ha, hc⟩ := h6 hn
    refine ⟨gb, o, ha, fun j v hv => ?_⟩
    have hj : j < s.n * es.length := by
      have := (List.getElem?_eq_some_iff.1 hv).1
      rwa [flat_len hk, List.length_map, List.length_range] at this
    have hi : j / es.length < s.n := Nat.div_lt_of_lt_mul (by rw [Nat.mul_comm]; exact hj)
    have hr : j % es.length < es.length := Nat.mod_lt _ hpos
    have ej : j = j / es.length * es.length + j % es.length := by rw [Nat.mul_comm]; exact (Nat.div_add_mod j es.length).symm
    rw [ej] at hv ⊢
    rw [flat_at hk _ _ _ hr] at hv
    have hm : ((List.range s.n).map g)[j / es.length]? = some (g (j / es.length)) := by simp [hi]
    rw [hm, Option.bind_some, (hg _ hi).1 _ hr] at hv
    injection hv with hv
    rw [← hv]
    obtain ⟨sh, hsh⟩ : ∃ sh, es[j % es.length]? = some sh := ⟨_, List.getElem?_eq_getElem hr⟩
    exact hc _ _ sh hi hsh
  · obtain ⟨i, hi, rfl⟩ := List.mem_map.1 hx
    exact (hg i (List.mem_range.1 hi)).2
end Go.Proofs.YtechilkjfhpkpaaGreatDoor.Rep

namespace Go.Proofs.YtechilkjfhpkpaaGreatDoor.Utf
open Go Vm Go.RowKit Num Mem
open Go.Lib (VarReads cells_of_tab firstTab firstT accLo accHi array_elem ints_of_struct Utf8Tabs)
theorem utab_of {w : World} (h3 : VarReads Tryz.prog w "unicode/utf8.first" Go.Lib.firstData) (h4 : VarReads Tryz.prog w "unicode/utf8.acceptRanges" Go.Lib.acceptData) : UTab w := by
  refine ⟨fun c hc => ?_, fun i hi => ?_⟩
  · obtain ⟨g, t, cs, fuel, p, hg, hty, hvar, hd⟩ := h3
    obtain rfl := Option.some.inj ((show Tryz.prog.globalNamed "unicode/utf8.first" = some 2 by kernel_rfl).symm.trans hg)
    obtain rfl := Option.some.inj ((show (Tryz.prog.globals[2]?).map (·.type) = some 145 by kernel_rfl).symm.trans hty)
    have hcs := cells_of_tab (e := 5) (n := 256) (by kernel_rfl) (by kernel_rfl) (by kernel_rfl) (by kernel_rfl) hd
    have := World.var?_cell hg hvar c
    rw [this, ← Array.getElem?_toList, hcs]
    simp [firstTab, hc]
  · obtain ⟨g, t, cs, fuel, p, hg, hty, hvar, hd⟩ := h4
    obtain rfl := Option.some.inj ((show Tryz.prog.globalNamed "unicode/utf8.acceptRanges" = some 3 by kernel_rfl).symm.trans hg)
    obtain rfl := Option.some.inj ((show (Tryz.prog.globals[3]?).map (·.type) = some 148 by kernel_rfl).symm.trans hty)
    obtain ⟨fuel', d, q, hdi, he⟩ := array_elem (n := 16) (e := 147) (by kernel_rfl) hd i hi
    simp only [List.getElem?_map, List.getElem?_range hi, Option.map_some, Option.some.injEq] at hdi
    subst hdi
    have hc2 : Tryz.prog.cellsOf 147 = 2 := by kernel_rfl
    rw [hc2] at he
    obtain ⟨f0, f1, hs, hf0, hf1, ho0, ho1⟩ : ∃ f0 f1 : Field, Tryz.prog.underlying 147 = some (.struct #[f0, f1]) ∧ f0.type = 5 ∧ f1.type = 5 ∧ f0.offset = 0 ∧ f1.offset = 1 :=
      ⟨{ name := "lo", type := 5, offset := 0, embedded := false, tag := "", pkgPath := "unicode/utf8", byteOffset := 0 }, { name := "hi", type := 5, offset := 1, embedded := false, tag := "", pkgPath := "unicode/utf8", byteOffset := 1 }, by kernel_rfl, rfl, rfl, rfl, rfl⟩
    have ht5 : Tryz.prog.underlying 5 = some (.int .u8) := by kernel_rfl
    have hc5 : Tryz.prog.cellsOf 5 = 1 := by kernel_rfl
    have hcs := ints_of_struct (k := .u8) hs (fun j f hj => by
      match j, hj with
      | 0, hj => simp at hj; subst hj; rw [hf0]; exact ⟨ht5, ho0, hc5⟩
      | 1, hj => simp at hj; subst hj; rw [hf1]; exact ⟨ht5, ho1, hc5⟩
      | j + 2, hj => simp at hj) (by rw [hc2]; rfl) he
    have e0 := congrArg (·[0]?) hcs
    have e1 := congrArg (·[1]?) hcs
    simp only [List.getElem?_take, List.getElem?_drop] at e0 e1
    constructor
    · rw [World.var?_cell hg hvar (2 * i), ← Array.getElem?_toList]
      simpa [Nat.mul_comm] using e0
    · rw [World.var?_cell hg hvar (2 * i + 1), ← Array.getElem?_toList]
      simpa [Nat.mul_comm] using e1
theorem first_same : (Rows.laid_unicode_utf8_first : DataW Unit) = Go.Lib.firstData := by kernel_rfl
theorem accept_same : (Rows.laid_unicode_utf8_acceptRanges : DataW Unit) = Go.Lib.acceptData := by kernel_rfl
theorem utab_laid {w : World} {l : List (String × DataW Unit)} (h : laidMet Tryz.prog l w) (h1 : ("unicode/utf8.first", Rows.laid_unicode_utf8_first) ∈ l) (h2 : ("unicode/utf8.acceptRanges", Rows.laid_unicode_utf8_acceptRanges) ∈ l) : UTab w :=
  utab_of (by rw [← first_same]; exact Go.Lib.laidMet.reads h h1) (by rw [← accept_same]; exact Go.Lib.laidMet.reads h h2)
end Go.Proofs.YtechilkjfhpkpaaGreatDoor.Utf
namespace Go.Proofs.YtechilkjfhpkpaaGreatDoor.Utf
open Go Vm Go.RowKit Num Mem
theorem own : ownKnob Tryz.prog.godebug = none := by kernel_rfl
noncomputable def utfWorld (w : World) : World :=
  { w with heap := (w.heap.modify 2 fun
      | .cells _ t frozen => .cells (Go.Lib.firstTab.map fun z => Value.int .u8 z).toArray t frozen
      | o => o).modify 3 fun
      | .cells _ t frozen => .cells ((List.range 16).flatMap fun i => [Value.int .u8 (Go.Lib.accLo i), Value.int .u8 (Go.Lib.accHi i)]).toArray t frozen
      | o => o }
end Go.Proofs.YtechilkjfhpkpaaGreatDoor.Utf

namespace Go.Proofs.YtechilkjfhpkpaaGreatDoor.Ru
open Go Vm Go.RowKit Num Mem Utf Lib Lab Rep
abbrev LAID : List (String × DataW Unit) := [("unicode/utf8.acceptRanges", Rows.laid_unicode_utf8_acceptRanges), ("errors.errorType", Rows.laid_errors_errorType), ("tocsin/rules.errWrong", Rows.laid_tocsin_rules_errWrong), ("unicode/utf8.first", Rows.laid_unicode_utf8_first)]
theorem gW : Tryz.prog.globalNamed "tocsin/rules.errWrong" = some 0 := by kernel_rfl
theorem gWType : (Tryz.prog.globals[0]?).map (·.type) = some 77 := by kernel_rfl
theorem cells249 : Tryz.prog.cellsOf 249 = 1 := by kernel_rfl
theorem cells9 : Tryz.prog.cellsOf 9 = 1 := by kernel_rfl
theorem star : "*" ++ "errors.errorString" = "*errors.errorString" := by decide
theorem row228 (u : TypeId) (h : Tryz.prog.typeName? 3 u = some "*errors.errorString") : u = 228 :=
  typeName_ptr_named (nm := "errors.errorString") (by rw [star]; kernel_rfl) (by kernel_rfl) (by decide) u (by rw [star]; exact h)
theorem etG : Tryz.prog.globalNamed "errors.errorType" = some 4 := by kernel_rfl
theorem rtT : (Tryz.prog.cutTypes.find? (·.1 == "internal/reflectlite.rtype")).map (·.2) = some 184 := by kernel_rfl
theorem oneRow : ((List.range 261).filter fun t => Tryz.prog.rowNamed t [101, 114, 114, 111, 114]) = [77] := by kernel_rfl
theorem szT : Tryz.prog.types.size = 261 := by kernel_rfl
theorem split {W : World} (h : laidMetH Tryz.prog LAID W) : laidMet Tryz.prog [("unicode/utf8.acceptRanges", Rows.laid_unicode_utf8_acceptRanges), ("tocsin/rules.errWrong", Rows.laid_tocsin_rules_errWrong), ("unicode/utf8.first", Rows.laid_unicode_utf8_first)] W ∧ handlesMet Tryz.prog [("errors.errorType", Rows.laid_errors_errorType)] W := h
set_option maxRecDepth 100000 in
theorem laid_tabs {W : World} (h : laidMetH Tryz.prog LAID W) : UTab W ∧ ETab W := by
  obtain ⟨h1, h2⟩ := split h
  refine ⟨utab_laid h1 (.tail _ (.tail _ (.head _))) (.head _), ?_, ?_⟩
  · obtain ⟨ps, ⟨gA, tA, csA, fA, pA, qA, _, _, _, _, ⟨g0, t0, cs0, f0, p0, q0, hg0, ht0, hv0, hd0, _, e0⟩, eA⟩, _, hrows⟩ := h1
    obtain rfl := Option.some.inj (gW.symm.trans hg0)
    obtain rfl := Option.some.inj (gWType.symm.trans ht0)
    subst e0
    subst eA
    obtain ⟨l0⟩ := cs0
    have ok0 : ∀ u v, l0 = [.iface u v] → Value.okWide Tryz.prog W .any 0 u v := fun u v e => by
      subst e
      exact (hrows 0 0 (by simp [MemPlace.row])).2 u v (by simpa using World.var?_cell hg0 hv0 0)
    obtain ⟨a0, s0, rfl, hc0, hs0, hz0, _⟩ := errorString_of_trod (tp := 228) (te := 249) (ts := 9) Tryz.underlying77 row228 Tryz.underlying228 Tryz.underlying249 rfl rfl (by kernel_rfl) cells249 cells9 hd0 ok0
    exact ⟨a0, by simpa using World.var?_cell gW hv0 0⟩
  · obtain ⟨name, u, ty, e1, e2, e3, e4, e5⟩ := h2 _ (List.mem_singleton.2 rfl)
    have en : name = [101, 114, 114, 111, 114] := (Option.some.inj e1).symm
    subst en
    obtain rfl := Option.some.inj (rtT.symm.trans e2)
    have hm : ty ∈ (List.range 261).filter fun t => Tryz.prog.rowNamed t [101, 114, 114, 111, 114] := List.mem_filter.2 ⟨List.mem_range.2 (by rw [← szT]; exact e3), e4⟩
    rw [oneRow] at hm
    obtain rfl := List.mem_singleton.1 hm
    have hh : typeHandle Tryz.prog 77 = .pointer (some ⟨6, 77, none⟩) := by kernel_rfl
    rw [hh] at e5
    simpa using World.var?_cell etG e5 0
noncomputable def low : Nat := (World.holding Tryz.prog default ⟨#[], #[], []⟩).heap.size
noncomputable def errWorld (os : Os) : World :=
  let w0 := utfWorld (World.holding Tryz.prog os ⟨#[.cells #[.string ⟨#[99, 97, 110, 32, 110, 111, 116, 32, 98, 101]⟩] 249], #[], []⟩)
  { w0 with heap := (w0.heap.modify 0 fun
      | .cells _ t frozen => .cells #[.iface 228 (.pointer (some ⟨low, 0, none⟩))] t frozen
      | o => o).modify 4 fun
      | .cells _ t frozen => .cells #[.iface 184 (.agg #[.pointer (some ⟨6, 77, none⟩)])] t frozen
      | o => o }
theorem err_met (os : Os) (args : Array Value) : laidMetH Tryz.prog LAID ((errWorld os).forCall (fun _ _ => 0) ⟨#[], args, []⟩).memory :=
  laidMetH_of_parts (laidMet_of_run' 8 (by kernel_rfl) (by kernel_rfl)) (by kernel_rfl)
end Go.Proofs.YtechilkjfhpkpaaGreatDoor.Ru

namespace Go.Proofs.YtechilkjfhpkpaaGreatDoor.Ru
open Go Vm Go.RowKit Num Mem Utf Lib Lab
variable {ω ω' ωb : Tg} {w w' w0 wb : World} {t gs gm : Nat} {M : List Av} {r : Rl} {now last : Int} {s sl : Sl}
theorem bits_ok {n : Nat} {K : Int → World → Prop} (hK : K (n : Int) w) : C.math_Float64bits n w K := hK
abbrev RdAs (w : World) (s : Sl) (x : QL) : Prop := Rd w s 6 (avs x) ∧ ∀ p ∈ x, Rd w p.2 2 (labs p.1.1) ∧ p.1.1.length ≤ 9000000000000000000
abbrev RdOs (w : World) (s : Sl) (x : OQ) : Prop := Rd w s 1 (sls x) ∧ ∀ p ∈ x, Rd w p.2 2 (labs p.1) ∧ p.1.length ≤ 9000000000000000000
theorem asame_ok {a b : Sl} {x y : QL} (ha : RdAs w0 a x) (hb : RdAs w0 b y) (hl : x.length ≤ 1000000000000) {K : Bool → World → Prop} (hK : ∀ w', Keep w0 w' → K (decide (x.map (·.1) = y.map (·.1))) w') : C.tocsinref19_Same a b w0 K := by
  unfold C.tocsinref19_Same
  have hna := rdA_n ha.1
  have hnb := rdA_n hb.1
  have no : (∃ i : Nat, (x[i]?).map (fun p : Av × Sl => p.1) ≠ (y[i]?).map (fun p : Av × Sl => p.1)) → ∀ w', Keep w0 w' → K false w' := fun ⟨i, h⟩ w' k => by
    have := hK w' k
    rw [decide_eq_false fun e => h (by rw [← List.getElem?_map, ← List.getElem?_map, e])] at this
    exact this
  refine cond_ne (fun h => no ⟨min x.length y.length, fun e => ?_⟩ w0 (Keep.refl w0)) (fun h => ?_)
  · have hne : x.length ≠ y.length := fun e => h (by rw [hna, hnb, e])
    rcases Nat.lt_or_gt_of_ne hne with hlt | hlt
    · rw [Nat.min_eq_left (by omega), List.getElem?_eq_none (Nat.le_refl _), List.getElem?_eq_getElem hlt] at e; cases e
    · rw [Nat.min_eq_right (by omega), List.getElem?_eq_none (Nat.le_refl y.length), List.getElem?_eq_getElem hlt] at e; cases e
  have el : x.length = y.length := by omega
  unfold C.tocsinref19_Same.S9
  refine C.tocsinref19_Same.L5_ind fun X hX => ?_
  have key : ∀ (d i : Nat) (w1 : World), i + d = x.length → Keep w0 w1 → (∀ j, j < i → (x[j]?).map (·.1) = (y[j]?).map (·.1)) → X a b (i : Int) w1 := by
    intro d
    induction d with
    | zero =>
      intro i w1 hi k h0
      refine hX _ _ _ _ ?_
      unfold C.tocsinref19_Same.S7 C.tocsinref19_Same.S2
      have := hK w1 k
      rw [decide_eq_true (show x.map (·.1) = y.map (·.1) from List.ext_getElem? fun j => by
        rw [List.getElem?_map, List.getElem?_map]
        rcases Nat.lt_or_ge j i with hj | hj
        · exact h0 j hj
        · rw [List.getElem?_eq_none (by omega), List.getElem?_eq_none (by omega)])] at this
      exact cond_d (fun h => by omega) (fun _ => this)
    | succ d ih =>
      intro i w1 hi k h0
      refine hX _ _ _ _ ?_
      unfold C.tocsinref19_Same.S7
      have hix : i < x.length := by omega
      have hiy : i < y.length := by omega
      have hxi : x[i]? = some x[i] := List.getElem?_eq_getElem hix
      have hyi : y[i]? = some y[i] := List.getElem?_eq_getElem hiy
      obtain ⟨hpx, hlx⟩ := ha.2 _ (List.getElem_mem hix)
      obtain ⟨hpy, hly⟩ := hb.2 _ (List.getElem_mem hiy)
      have no' : (x[i]).1 ≠ (y[i]).1 → ∀ w', Keep w0 w' → K false w' := fun h => no ⟨i, by rw [hxi, hyi]; exact fun e => h (Option.some.inj e)⟩
      have yes : (x[i]).1 = (y[i]).1 → ∀ w', Keep w0 w' → X a b (IntKind.i64.wrap ((i : Int) + 1)) w' := fun h w' k' => by
        rw [wI64 (by omega) (by omega), show (i : Int) + 1 = ((i + 1 : Nat) : Int) by omega]
        refine ih (i + 1) w' (by omega) k' fun j hj => ?_
        rcases Nat.lt_or_ge j i with hj' | hj'
        · exact h0 j hj'
        · rw [show j = i by omega, hxi, hyi]; exact congrArg some h
      generalize x[i] = p at *
      generalize y[i] = q at *
      refine cond_d (fun _ => ?_) (fun h => by omega)
      refine rdA_at (ha.1.keep k) (k := i) rfl hxi fun a1 ac => ac_at ac <| loc_ok p fun g2 w2 k2 hg2 b2 => ?_
      have k02 := Keep.trans k k2.1
      refine rdA_at (hb.1.keep k02) (k := i) rfl hyi fun a3 ac3 => ac_at ac3 <| loc_ok q fun g4 w4 k4 hg4 b4 => ?_
      have k04 := Keep.trans (Keep.trans k02 k4.1) (Keep.drew w4)
      have b2' := b2.keep (Keep.trans k4.1 (Keep.drew w4))
      have b4' := b4.keep (Keep.drew w4)
      refine cSl_at (s := p.2) (by rw [b2'.cell]; rfl) <| cSl_at (s := q.2) (by rw [b4'.cell]; rfl) ?_
      refine rsame_ok (hpx.keep k04) (hpy.keep k04) hlx fun w5 k5 => ?_
      have k05 := Keep.trans k04 k5
      have c2 := blk_ac (b2'.keep k5)
      have c4 := blk_ac (b4'.keep k5)
      refine cond_not (fun h => no' (fun e => of_decide_eq_false h (by rw [e])) w5 k05) (fun h1 => ?_)
      refine cI_at c2.2.1 <| cI_at c4.2.1 <| cond_ne (fun h => no' (fun e => h (by rw [e])) w5 k05) (fun h2 => ?_)
      refine cI_at c2.2.2.1 <| cI_at c4.2.2.1 <| cond_ne (fun h => no' (fun e => h (by rw [e])) w5 k05) (fun h3 => ?_)
      refine cI_at c2.2.2.2.1 <| cI_at c4.2.2.2.1 <| cond_ne (fun h => no' (fun e => h (by rw [e])) w5 k05) (fun h4 => ?_)
      refine cI_at c2.2.2.2.2.1 <| cI_at c4.2.2.2.2.1 <| cond_ne (fun h => no' (fun e => h (by rw [e])) w5 k05) (fun h5 => ?_)
      refine cF_at c2.2.2.2.2.2 <| cF_at c4.2.2.2.2.2 <| bits_ok ⟨by rw [addr_add]; exact sameK (b4'.keep k5) (Keep.refl w5), bits_ok <| cond_ne (fun h => no' (fun e => h (by rw [e])) w5 k05) (fun h6 => ?_)⟩
      refine yes ?_ w5 k05
      have h1 := of_decide_eq_true h1
      have h6 : p.1.2.2.2.2.2 = q.1.2.2.2.2.2 := by omega
      obtain ⟨⟨m, a1, a2, a3, a4, a5⟩, _⟩ := p
      obtain ⟨⟨m', b1, b2, b3, b4, b5⟩, _⟩ := q
      dsimp only at h1 h2 h3 h4 h5 h6 ⊢
      rw [h1, h2, h3, h4, h5, h6]
  exact key x.length 0 w0 (by omega) (Keep.refl w0) (fun j hj => by omega)
theorem rdO_at {s : Sl} {l : OQ} (h : Rd w s 1 (sls l)) {i : Int} {k : Nat} {p : List Lb × Sl} (ei : i = (k : Int)) (hx : l[k]? = some p) {K : Addr → Prop} (hK : ∀ a : Addr, w.cell? a = some p.2.v → K a) : G.ix s.a s.n i 1 K := by
  have hk : k < l.length := (List.getElem?_eq_some_iff.1 hx).1
  have hn := sls_n h
  subst ei
  refine Rd.ix h (by decide) (by omega) (by omega) fun a hc => hK a ?_
  have := hc 0 p.2.v (by decide) (by rw [Int.toNat_natCast, Nat.mul_one, Nat.add_zero, sls, List.getElem?_map, hx]; rfl)
  rwa [show a.add 0 = a by simp [Addr.add]] at this
theorem sets_ok {a b : Sl} {x y : OQ} (ha : RdOs w0 a x) (hb : RdOs w0 b y) (hl : x.length ≤ 1000000000000) {K : Bool → World → Prop} (hK : ∀ w', Keep w0 w' → K (decide (x.map (·.1) = y.map (·.1))) w') : C.tocsinref19_SameSets a b w0 K := by
  unfold C.tocsinref19_SameSets
  have hna := sls_n ha.1
  have hnb := sls_n hb.1
  have no : (∃ i : Nat, (x[i]?).map (fun p : List Lb × Sl => p.1) ≠ (y[i]?).map (fun p : List Lb × Sl => p.1)) → ∀ w', Keep w0 w' → K false w' := fun ⟨i, h⟩ w' k => by
    have := hK w' k
    rw [decide_eq_false fun e => h (by rw [← List.getElem?_map, ← List.getElem?_map, e])] at this
    exact this
  refine cond_ne (fun h => no ⟨min x.length y.length, fun e => ?_⟩ w0 (Keep.refl w0)) (fun h => ?_)
  · have hne : x.length ≠ y.length := fun e => h (by rw [hna, hnb, e])
    rcases Nat.lt_or_gt_of_ne hne with hlt | hlt
    · rw [Nat.min_eq_left (by omega), List.getElem?_eq_none (Nat.le_refl _), List.getElem?_eq_getElem hlt] at e; cases e
    · rw [Nat.min_eq_right (by omega), List.getElem?_eq_none (Nat.le_refl y.length), List.getElem?_eq_getElem hlt] at e; cases e
  have el : x.length = y.length := by omega
  unfold C.tocsinref19_SameSets.S9
  refine C.tocsinref19_SameSets.L5_ind fun X hX => ?_
  have key : ∀ (d i : Nat) (w1 : World), i + d = x.length → Keep w0 w1 → (∀ j, j < i → (x[j]?).map (·.1) = (y[j]?).map (·.1)) → X a b (i : Int) w1 := by
    intro d
    induction d with
    | zero =>
      intro i w1 hi k h0
      refine hX _ _ _ _ ?_
      unfold C.tocsinref19_SameSets.S7 C.tocsinref19_SameSets.S2
      have := hK w1 k
      rw [decide_eq_true (show x.map (·.1) = y.map (·.1) from List.ext_getElem? fun j => by
        rw [List.getElem?_map, List.getElem?_map]
        rcases Nat.lt_or_ge j i with hj | hj
        · exact h0 j hj
        · rw [List.getElem?_eq_none (by omega), List.getElem?_eq_none (by omega)])] at this
      exact cond_d (fun h => by omega) (fun _ => this)
    | succ d ih =>
      intro i w1 hi k h0
      refine hX _ _ _ _ ?_
      unfold C.tocsinref19_SameSets.S7
      have hix : i < x.length := by omega
      have hiy : i < y.length := by omega
      have hxi : x[i]? = some x[i] := List.getElem?_eq_getElem hix
      have hyi : y[i]? = some y[i] := List.getElem?_eq_getElem hiy
      obtain ⟨hpx, hlx⟩ := ha.2 _ (List.getElem_mem hix)
      obtain ⟨hpy, hly⟩ := hb.2 _ (List.getElem_mem hiy)
      have k1 := Keep.trans k (Keep.drew w1)
      refine cond_d (fun _ => ?_) (fun h => by omega)
      refine rdO_at (ha.1.keep k1) (k := i) rfl hxi fun a1 c1 => cSl_at c1 <| rdO_at (hb.1.keep k1) (k := i) rfl hyi fun a2 c2 => cSl_at c2 ?_
      refine rsame_ok (hpx.keep k1) (hpy.keep k1) hlx fun w5 k5 => cond_not (fun h => no ⟨i, ?_⟩ w5 (Keep.trans k1 k5)) (fun h1 => ?_)
      · rw [hxi, hyi]; exact fun e => of_decide_eq_false h (Option.some.inj e)
      · rw [wI64 (by omega) (by omega), show (i : Int) + 1 = ((i + 1 : Nat) : Int) by omega]
        refine ih (i + 1) w5 (by omega) (Keep.trans k1 k5) fun j hj => ?_
        rcases Nat.lt_or_ge j i with hj' | hj'
        · exact h0 j hj'
        · rw [show j = i by omega, hxi, hyi]; exact congrArg some (of_decide_eq_true h1)
  exact key x.length 0 w0 (by omega) (Keep.refl w0) (fun j hj => by omega)
theorem tiP : TI Tryz.prog 35 45 2 32 := TI.of (z := .agg #[.slice none 0 0, .float .f64 0]) (by kernel_rfl) (by kernel_rfl) rfl (by decide)
def tA (r : Rl) (p : Pt) : Av := (labO r p.1, 0, 0, 0, 0, p.2)
theorem getM_insN {x : Av} {m : List Lb} (hM : M.Pairwise ltA) : getM (insM x M) m = none ↔ x.1 ≠ m ∧ getM M m = none := by
  rw [getM_none, getM_none]
  constructor
  · intro h
    refine ⟨h x ((mem_insM hM).2 (.inl rfl)), fun a ha e => ?_⟩
    by_cases e' : a.1 = x.1
    · exact h x ((mem_insM hM).2 (.inl rfl)) (e'.symm.trans e)
    · exact h a ((mem_insM hM).2 (.inr ⟨ha, e'⟩)) e
  · rintro ⟨h1, h2⟩ a ha
    rcases (mem_insM hM).1 ha with rfl | ⟨h3, _⟩
    · exact h1
    · exact h2 a h3
theorem over_len {T M : List Av} : (overM r now T M).length ≤ M.length + T.length := Nat.le_trans (List.length_filterMap_le _ _) merge_len
theorem step_len {T M : List Av} : (stepM r now T M).length ≤ M.length + T.length := Nat.le_trans (List.length_filterMap_le _ _) merge_len
structure Good (M : List Av) : Prop where
  up : M.Pairwise ltA
  rt : ∀ a ∈ M, (rt a.1).1 = 0
theorem Good.nil : Good [] := ⟨List.Pairwise.nil, by simp⟩
theorem Good.step {ps : List Pt} (h : Good M) (hr : RlOk r) (he : toldE r ps = 0) : Good (stepM r now (toldL r ps) M) := ⟨step_up h.up, fun a ha => by
  obtain ⟨b, hb, e⟩ := List.mem_filterMap.1 ha
  rw [stepA_lab e]
  exact merge_rt (nodupL (toldS_up r ps)) h.up (told_rt hr he) h.rt b hb⟩
theorem stepE_told {ps : List Pt} (h : stepE r last now ps = 0) : toldE r ps = 0 ∧ timeB now = true ∧ last < now := by
  unfold stepE at h
  by_cases h' : timeB now = false ∨ now ≤ last
  · rw [if_pos h'] at h; exact absurd h (by decide)
  · rw [if_neg h'] at h
    refine ⟨h, ?_, ?_⟩
    · cases e : timeB now with
      | false => exact absurd (.inl e) h'
      | true => rfl
    · exact Int.not_le.1 fun h2 => h' (.inr h2)
end Go.Proofs.YtechilkjfhpkpaaGreatDoor.Ru

namespace Go.Proofs.YtechilkjfhpkpaaGreatDoor.Ru
open Go Vm Go.RowKit Num Mem Utf Lib Lab Rep
variable {w w' : World} {α : Type}
instance : Inhabited Sl := ⟨nilS⟩
theorem rows_ofS [Inhabited α] {s : Sl} {b : Nat} {es : List Sh} {enc : α → List Value} {Q : α → Nat → Prop} (hk : ∀ x, (enc x).length = es.length) (hpos : 0 < es.length) (h : Cl w (.sl es) s.v b)
    (inv : ∀ (V : Nat → Value) (c : Nat), c < b → (∀ j sh, es[j]? = some sh → Cl w sh (V j) c) → ∃ x, (∀ j, j < es.length → (enc x)[j]? = some (V j)) ∧ Q x c) :
    ∃ (m : List α) (f : Nat → Nat), Rd w s es.length (m.flatMap enc) ∧ s.n = m.length ∧ sumTo f m.length < b ∧ s.n ≤ maxLen ∧ s.n < b ∧ ∀ i x, m[i]? = some x → Q x (f i) := by
  have hb := h.len
  obtain ⟨f, U, h1, h2, h3, h4, h5, h6, h7⟩ := h.sl_inv
  have get : ∀ i, i < s.n → ∃ x : α, (∀ j, j < es.length → (enc x)[j]? = some (U i j)) ∧ Q x (f i) := fun i hi => inv (U i) (f i) (by have := sumTo_ge f s.n i hi; omega) fun j sh hj => h7 i j sh hi hj
  obtain ⟨g, hg⟩ : ∃ g : Nat → α, ∀ i, i < s.n → (∀ j, j < es.length → (enc (g i))[j]? = some (U i j)) ∧ Q (g i) (f i) :=
    ⟨fun i => if hi : i < s.n then (get i hi).choose else default, fun i hi => by simp only [dif_pos hi]; exact (get i hi).choose_spec⟩
  refine ⟨(List.range s.n).map g, f, ⟨h1, by rw [flat_len hk]; simp, fun hne => ?_⟩, by simp, by simpa using h4, by omega, hb, fun i x hx => ?_⟩
  · have hn : 0 < s.n := by
      rcases Nat.eq_zero_or_pos s.n with e | e
      · rw [e] at hne; exact absurd rfl hne
      · exact e
    obtain ⟨gb, o, ha, hc⟩ := h6 hn
    refine ⟨gb, o, ha, fun j v hv => ?_⟩
    have hj : j < s.n * es.length := by
      have := (List.getElem?_eq_some_iff.1 hv).1
      rwa [flat_len hk, List.length_map, List.length_range] at this
    have hi : j / es.length < s.n := Nat.div_lt_of_lt_mul (by rw [Nat.mul_comm]; exact hj)
    have hr : j % es.length < es.length := Nat.mod_lt _ hpos
    have ej : j = j / es.length * es.length + j % es.length := by rw [Nat.mul_comm]; exact (Nat.div_add_mod j es.length).symm
    rw [ej] at hv ⊢
    rw [flat_at hk _ _ _ hr] at hv
    have hm : ((List.range s.n).map g)[j / es.length]? = some (g (j / es.length)) := by simp [hi]
    rw [hm, Option.bind_some, (hg _ hi).1 _ hr] at hv
    injection hv with hv
    rw [← hv]
    obtain ⟨sh, hsh⟩ : ∃ sh, es[j % es.length]? = some sh := ⟨_, List.getElem?_eq_getElem hr⟩
    exact hc _ _ sh hi hsh
  · rw [List.getElem?_map] at hx
    rcases Nat.lt_or_ge i s.n with hi | hi
    · rw [List.getElem?_range hi] at hx
      injection hx with hx
      rw [← hx]; exact (hg i hi).2
    · rw [List.getElem?_eq_none (by simpa using hi)] at hx; cases hx
def LbSm (b : Nat) (m : List Lb) : Prop := m.length < b ∧ ∀ x ∈ m, x.1.size < b ∧ x.2.size < b
theorem labs_of {s : Sl} {b : Nat} (h : Cl w (.sl [.str, .str]) s.v b) : ∃ m : List Lb, Rd w s 2 (labs m) ∧ s.n = m.length ∧ s.n ≤ maxLen ∧ LbSm b m := by
  obtain ⟨m, h1, h2, h3, h4, h5⟩ := rows_of (α := Lb) (enc := labC) (Q := fun x => x.1.size < b ∧ x.2.size < b) (fun _ => rfl) (by decide) h fun V hV => by
    obtain ⟨s0, e0, h0⟩ := (hV 0 _ rfl).str_inv
    obtain ⟨s1, e1, h1⟩ := (hV 1 _ rfl).str_inv
    refine ⟨(s0, s1), fun j hj => ?_, h0, h1⟩
    match j, hj with
    | 0, _ => rw [e0]; rfl
    | 1, _ => rw [e1]; rfl
  exact ⟨m, h1, h2, h4, by omega, h5⟩
abbrev shL : Sh := .sl [.str, .str]
abbrev shP : Sh := .sl [shL, .fl .f64]
theorem points_of {s : Sl} {b : Nat} (h : Cl w shP s.v b) : ∃ q : PQ, RdPs w s q ∧ s.n = q.length ∧ q.length < b ∧ ∀ p ∈ q, LbSm b p.1.1 := by
  obtain ⟨m, h1, h2, h3, h4, h5⟩ := rows_of (α := Pt × Sl) (enc := ptC) (Q := fun x => Rd w x.2 2 (labs x.1.1) ∧ LbSm b x.1.1) (fun _ => rfl) (by decide) h fun V hV => by
    have c0 := hV 0 _ rfl
    obtain ⟨s0, e0⟩ := c0.sl_ex
    obtain ⟨n1, e1, h1⟩ := (hV 1 _ rfl).fl_inv
    rw [e0] at c0
    obtain ⟨m, g1, g2, g3, g4⟩ := labs_of c0
    refine ⟨((m, n1), s0), fun j hj => ?_, g1, g4⟩
    match j, hj with
    | 0, _ => rw [e0]; rfl
    | 1, _ => rw [e1]; rfl
  exact ⟨m, ⟨h1, fun p hp => (h5 p hp).1⟩, h2, by omega, fun p hp => (h5 p hp).2⟩
theorem alerts_of {s : Sl} {b : Nat} (h : Cl w (.sl [shL, .int .i64, .int .i64, .int .i64, .int .i64, .fl .f64]) s.v b) : ∃ q : QL, Rd w s 6 (avs q) ∧ s.n = q.length ∧ q.length < b ∧ ∀ p ∈ q, Rd w p.2 2 (labs p.1.1) ∧ LbSm b p.1.1 := by
  obtain ⟨m, h1, h2, h3, h4, h5⟩ := rows_of (α := Av × Sl) (enc := avC) (Q := fun x => Rd w x.2 2 (labs x.1.1) ∧ LbSm b x.1.1) (fun _ => rfl) (by decide) h fun V hV => by
    have c0 := hV 0 _ rfl
    obtain ⟨s0, e0⟩ := c0.sl_ex
    obtain ⟨n1, e1, _⟩ := (hV 1 _ rfl).int_inv
    obtain ⟨n2, e2, _⟩ := (hV 2 _ rfl).int_inv
    obtain ⟨n3, e3, _⟩ := (hV 3 _ rfl).int_inv
    obtain ⟨n4, e4, _⟩ := (hV 4 _ rfl).int_inv
    obtain ⟨n5, e5, _⟩ := (hV 5 _ rfl).fl_inv
    rw [e0] at c0
    obtain ⟨m, g1, g2, g3, g4⟩ := labs_of c0
    refine ⟨((m, n1, n2, n3, n4, n5), s0), fun j hj => ?_, g1, g4⟩
    match j, hj with
    | 0, _ => rw [e0]; rfl
    | 1, _ => rw [e1]; rfl
    | 2, _ => rw [e2]; rfl
    | 3, _ => rw [e3]; rfl
    | 4, _ => rw [e4]; rfl
    | 5, _ => rw [e5]; rfl
  exact ⟨m, h1, h2, by omega, h5⟩
abbrev Tk := Int × Sl × PQ
def tkC (x : Tk) : List Value := [.int .i64 x.1, x.2.1.v]
def tks (m : List Tk) : List Value := m.flatMap tkC
structure Scr (w : World) (s : Sl) (m : List Tk) (f : Nat → Nat) (b : Nat) : Prop where
  row : Rd w s 2 (tks m)
  len : s.n = m.length
  sum : sumTo f m.length < b
  el : ∀ i x, m[i]? = some x → RdPs w x.2.1 x.2.2 ∧ x.2.2.length ≤ f i ∧ ∀ p ∈ x.2.2, LbSm b p.1.1
theorem Scr.keep {s : Sl} {m : List Tk} {f : Nat → Nat} {b : Nat} (h : Scr w s m f b) (k : Keep w w') : Scr w' s m f b := ⟨h.row.keep k, h.len, h.sum, fun i x hx => ⟨(h.el i x hx).1.keep k, (h.el i x hx).2⟩⟩
theorem sumTo_mono (f : Nat → Nat) {i n : Nat} (h : i ≤ n) : sumTo f i ≤ sumTo f n := by
  induction n with
  | zero => rw [Nat.le_zero.1 h]; exact Nat.le_refl _
  | succ n ih =>
    rcases Nat.lt_or_ge n i with h' | h'
    · rw [show i = n + 1 by omega]; exact Nat.le_refl _
    · have := ih h'
      simp only [sumTo]; omega
theorem Scr.up {s : Sl} {m : List Tk} {f : Nat → Nat} {b i : Nat} (h : Scr w s m f b) (hi : i ≤ m.length) : sumTo f i < b := Nat.lt_of_le_of_lt (sumTo_mono f hi) h.sum
theorem LbSm.mono {b c : Nat} {m : List Lb} (h : LbSm b m) (hb : b ≤ c) : LbSm c m := ⟨by have := h.1; omega, fun x hx => ⟨by have := (h.2 x hx).1; omega, by have := (h.2 x hx).2; omega⟩⟩
theorem Scr.mono {s : Sl} {m : List Tk} {f : Nat → Nat} {b c : Nat} (h : Scr w s m f b) (hb : b ≤ c) : Scr w s m f c := ⟨h.row, h.len, by have := h.sum; omega, fun i x hx => ⟨(h.el i x hx).1, (h.el i x hx).2.1, fun p hp => ((h.el i x hx).2.2 p hp).mono hb⟩⟩
theorem script_of {s : Sl} {b : Nat} (h : Cl w (.sl [.int .i64, shP]) s.v b) : ∃ m f, Scr w s m f b ∧ m.length < b := by
  obtain ⟨m, f, h1, h2, h3, h4, h4', h5⟩ := rows_ofS (α := Tk) (enc := tkC) (Q := fun x c => RdPs w x.2.1 x.2.2 ∧ x.2.2.length ≤ c ∧ ∀ p ∈ x.2.2, LbSm b p.1.1) (fun _ => rfl) (by decide) h fun V c hc hV => by
    obtain ⟨n0, e0, _⟩ := (hV 0 _ rfl).int_inv
    have c1 := hV 1 _ rfl
    obtain ⟨s1, e1⟩ := c1.sl_ex
    rw [e1] at c1
    obtain ⟨q, g1, g2, g3, g4⟩ := points_of c1
    refine ⟨(n0, s1, q), fun j hj => ?_, g1, (by show q.length ≤ c; omega), fun p hp => (g4 p hp).mono (by omega)⟩
    match j, hj with
    | 0, _ => rw [e0]; rfl
    | 1, _ => rw [e1]; rfl
  exact ⟨m, f, ⟨h1, h2, h3, h5⟩, by omega⟩
theorem rdK_at {s : Sl} {m : List Tk} {f : Nat → Nat} {b : Nat} (h : Scr w s m f b) {i : Int} {k : Nat} {x : Tk} (ei : i = (k : Int)) (hx : m[k]? = some x) {K : Addr → Prop}
    (hK : ∀ a : Addr, w.cell? a = some (.int .i64 x.1) → w.cell? (a.add 1) = some x.2.1.v → K a) : G.ix s.a s.n i 2 K := by
  have hk : k < m.length := (List.getElem?_eq_some_iff.1 hx).1
  have hn := h.len
  subst ei
  refine Rd.ix h.row (by decide) (by omega) (by omega) fun a hc => hK a ?_ ?_
  · have := hc 0 (.int .i64 x.1) (by decide) (by rw [Int.toNat_natCast, tks, flat_at (enc := tkC) (k := 2) (fun _ => rfl) m k 0 (by decide), hx]; rfl)
    rwa [show a.add 0 = a by simp [Addr.add]] at this
  · exact hc 1 x.2.1.v (by decide) (by rw [Int.toNat_natCast, tks, flat_at (enc := tkC) (k := 2) (fun _ => rfl) m k 1 (by decide), hx]; rfl)
def RlSm (b : Nat) (r : Rl) : Prop := r.nm.size < b ∧ r.ex.size < b ∧ LbSm b r.ls
theorem RlSm.mono {b c : Nat} {r : Rl} (h : RlSm b r) (hb : b ≤ c) : RlSm c r := ⟨by have := h.1; omega, by have := h.2.1; omega, h.2.2.mono hb⟩
set_option maxRecDepth 100000 in
theorem open_rule {H : Type} {enc : TypeId × Value → H} {base : Nat} {v : Value} {d : DataW H} {p : List MemPlace} {spare held} (hval : Value.okWide Tryz.prog w .any base 24 v) (h : DataW.Trod enc Tryz.prog w 0 spare held 24 v d p) :
    ∃ (r : Rl) (s : Sl), v = .agg ⟨[.bool r.rc, .string r.nm, .string r.ex, .int .i64 r.fo, .int .i64 r.ke, s.v]⟩ ∧ Rd w s 2 (labs r.ls) ∧ RlSm (Rows.uptoBulk d) r := by
  obtain ⟨cs, rfl, hl, hr⟩ := open_row (fs := match Tryz.prog.underlying 24 with | some (.struct fs) => fs | _ => #[]) (shs := [.bool, .str, .str, .int .i64, .int .i64, shL]) 8 (by kernel_rfl) (by kernel_rfl) hval h
  obtain ⟨v0, e0, h0⟩ := hr 0 _ rfl
  obtain ⟨v1, e1, h1⟩ := hr 1 _ rfl
  obtain ⟨v2, e2, h2⟩ := hr 2 _ rfl
  obtain ⟨v3, e3, h3⟩ := hr 3 _ rfl
  obtain ⟨v4, e4, h4⟩ := hr 4 _ rfl
  obtain ⟨v5, e5, h5⟩ := hr 5 _ rfl
  obtain ⟨b0, rfl⟩ := h0.bool_inv
  obtain ⟨s1, rfl, g1⟩ := h1.str_inv
  obtain ⟨s2, rfl, g2⟩ := h2.str_inv
  obtain ⟨n3, rfl, _⟩ := h3.int_inv
  obtain ⟨n4, rfl, _⟩ := h4.int_inv
  obtain ⟨s5, rfl⟩ := h5.sl_ex
  obtain ⟨m, k1, k2, k3, k4⟩ := labs_of h5
  refine ⟨⟨b0, s1, s2, n3, n4, m⟩, s5, ?_, k1, g1, g2, k4⟩
  match cs, hl, e0, e1, e2, e3, e4, e5 with
  | [c0, c1, c2, c3, c4, c5], _, e0, e1, e2, e3, e4, e5 =>
    simp only [List.getElem?_cons_zero, List.getElem?_cons_succ, Option.some.injEq] at e0 e1 e2 e3 e4 e5
    rw [e0, e1, e2, e3, e4, e5]
end Go.Proofs.YtechilkjfhpkpaaGreatDoor.Ru

namespace Go.Proofs.YtechilkjfhpkpaaGreatDoor.Ru
open Go Vm Go.RowKit Num Mem Utf Lib Lab Rep
variable {ω ω' ωb : Tg} {w w' w0 wb : World} {t gs gm : Nat} {M : List Av} {r : Rl} {now last : Int} {s sl : Sl}
theorem newE_rl (h : newE r (-1) = 0) : ruleB r = true ∧ r.rc = false := by
  unfold newE at h
  by_cases h' : ruleB r = true ∧ r.rc = false
  · exact h'
  · rw [if_neg h'] at h; exact absurd h (by decide)
theorem rl_cells {g : Nat} (b1 : Blk w g 24 (rlC r s)) {Z : Bool → ByteArray → ByteArray → Int → Int → Sl → Prop} (hZ : Z r.rc r.nm r.ex r.fo r.ke s) :
    G.cB ⟨g, 0, none⟩ w fun b67 => G.cS (Addr.add ⟨g, 0, none⟩ 1) w fun s68 => G.cS (Addr.add ⟨g, 0, none⟩ 2) w fun s69 => G.cI .i64 (Addr.add ⟨g, 0, none⟩ 3) w fun n70 => G.cI .i64 (Addr.add ⟨g, 0, none⟩ 4) w fun n71 => G.cSl (Addr.add ⟨g, 0, none⟩ 5) w fun l72 => Z b67 s68 s69 n70 n71 l72 :=
  cB_at (b := r.rc) (by rw [b1.cell]; rfl) <| cS_at (b := r.nm) (by rw [addr_add, b1.cell]; rfl) <| cS_at (b := r.ex) (by rw [addr_add, b1.cell]; rfl) <| cI_at (n := r.fo) (by rw [addr_add, b1.cell]; rfl) <| cI_at (n := r.ke) (by rw [addr_add, b1.cell]; rfl) <| cSl_at (s := s) (by rw [addr_add, b1.cell]; rfl) hZ
def nextL (r : Rl) (last now : Int) (ps : List Pt) : Int := if stepE r last now ps = 0 then now else last
def nextM (r : Rl) (last now : Int) (ps : List Pt) (M : List Av) : List Av := if stepE r last now ps = 0 then stepM r now (toldL r ps) M else M
theorem rdA_of {u v : Nat} {a : Sl} {ql : QL} {M : List Av} (h : OT ω w u 41 6 a (avs ql)) (e : ql.map (·.1) = M) (he : ∀ p ∈ ql, OT ω w v 99 2 p.2 (labs p.1.1)) (hM : ∀ a ∈ M, (rt a.1).1 = 0) : RdAs w a ql :=
  ⟨h.rd, fun p hp => ⟨(he p hp).rd, by
    have := (rt_short (hM p.1 (by rw [← e]; exact List.mem_map_of_mem hp))).1
    omega⟩⟩
theorem RdAs.keep {a : Sl} {x : QL} (h : RdAs w a x) (k : Keep w w') : RdAs w' a x := ⟨h.1.keep k, fun p hp => ⟨(h.2 p hp).1.keep k, (h.2 p hp).2⟩⟩
theorem RdOs.keep {a : Sl} {x : OQ} (h : RdOs w a x) (k : Keep w w') : RdOs w' a x := ⟨h.1.keep k, fun p hp => ⟨(h.2 p hp).1.keep k, (h.2 p hp).2⟩⟩
theorem RdAs.nil (w : World) : RdAs w nilS [] := ⟨Rd.nil w 6, by simp⟩
theorem RdOs.nil (w : World) : RdOs w nilS [] := ⟨Rd.nil w 1, by simp⟩
theorem over_rt {T M : List Av} {ps : List Pt} (h : Good M) (hr : RlOk r) (he : toldE r ps = 0) : ∀ m ∈ overM r now (toldL r ps) M, (rt m).1 = 0 := fun m hm => by
  obtain ⟨b, hb, e⟩ := List.mem_filterMap.1 hm
  have eb : m = b.1 := by
    unfold overA at e
    split at e
    · cases e
    · split at e
      · cases e
      · split at e
        · injection e with e; exact e.symm
        · cases e
  rw [eb]
  exact merge_rt (nodupL (toldS_up r ps)) h.up (told_rt hr he) h.rt b hb
theorem rdO_of {u v : Nat} {a : Sl} {oq : OQ} {O : List (List Lb)} (h : OT ω w u 22 1 a (sls oq)) (e : oq.map (·.1) = O) (he : ∀ p ∈ oq, OT ω w v 99 2 p.2 (labs p.1)) (hO : ∀ m ∈ O, (rt m).1 = 0) : RdOs w a oq :=
  ⟨h.rd, fun p hp => ⟨(he p hp).rd, by
    have := (rt_short (hO p.1 (by rw [← e]; exact List.mem_map_of_mem hp))).1
    omega⟩⟩
theorem step1_ok (m : Nat) {q : PQ} (top : Top w0 ω w) (htab : UTab w0) (het : ETab w0) (t0 : 0 < t) (hm : t + 3 ≤ m) (ks : KS ω w t gs r last M) (hr : RlOk r) (hM : Good M) (hMl : M.length ≤ 20000000) (hq : RdPs w s q) (hql : q.length ≤ 10000000)
    {K : Sl → Sl → Int → World → Prop}
    (hK : ∀ a o ql oq ua va uo vo ω' w', m < ua → ua < va → va < uo → uo < vo → Stp (DT2 t) ω ω' w w' → KS ω' w' t gs r (nextL r last now (q.map (·.1))) (nextM r last now (q.map (·.1)) M) → Good (nextM r last now (q.map (·.1)) M) → (nextM r last now (q.map (·.1)) M).length ≤ M.length + q.length →
      OT ω' w' ua 41 6 a (avs ql) → (∀ p ∈ ql, OT ω' w' va 99 2 p.2 (labs p.1.1)) → RdAs w' a ql →
      OT ω' w' uo 22 1 o (sls oq) → (∀ p ∈ oq, OT ω' w' vo 99 2 p.2 (labs p.1)) → RdOs w' o oq → ql.length ≤ M.length + q.length → oq.length ≤ M.length + q.length →
      (stepE r last now (q.map (·.1)) ≠ 0 → ql = [] ∧ oq = []) → (stepE r last now (q.map (·.1)) = 0 → ql.map (·.1) = nextM r last now (q.map (·.1)) M ∧ oq.map (·.1) = overM r now (toldL r (q.map (·.1))) M) → K a o (stepE r last now (q.map (·.1))) w') : C.rules_Keeper_Step (some ⟨gs, 0, none⟩) now s w K := by
  refine step_ok m top htab het t0 hm ks hr hM.up hM.rt hMl hq hql (fun hne ω' w' k => ?_) (fun he a o ql oq ua va uo vo ω' w' h1 h2 h3 h4 k ks' oa eq hea oo eo heo => ?_)
  · have eL : nextL r last now (q.map (·.1)) = last := if_neg hne
    have eM : nextM r last now (q.map (·.1)) M = M := if_neg hne
    rw [eL, eM] at hK
    exact hK nilS nilS [] [] (m + 1) (m + 2) (m + 3) (m + 4) ω' w' (by omega) (by omega) (by omega) (by omega) (k.non _) (ks.stp k (off_non t)) hM (by omega) (OT.nil ..) (by simp) (RdAs.nil w') (OT.nil ..) (by simp) (RdOs.nil w') (by simp) (by simp) (fun _ => ⟨rfl, rfl⟩) (fun h => absurd h hne)
  · have het := (stepE_told he).1
    have eL : nextL r last now (q.map (·.1)) = now := if_pos he
    have eM : nextM r last now (q.map (·.1)) M = stepM r now (toldL r (q.map (·.1))) M := if_pos he
    rw [eL, eM] at hK
    have hT : (toldL r (q.map (·.1))).length ≤ q.length := by have := toldS_len r (q.map (·.1)); rw [List.length_map] at this; exact this
    have g := Good.step (r := r) (now := now) hM hr het
    have l1 := step_len (r := r) (now := now) (T := toldL r (q.map (·.1))) (M := M)
    have l2 := over_len (r := r) (now := now) (T := toldL r (q.map (·.1))) (M := M)
    have e1 := congrArg List.length eq
    have e2 := congrArg List.length eo
    rw [List.length_map] at e1 e2
    have := hK a o ql oq ua va uo vo ω' w' h1 h2 h3 h4 k ks' g (by omega) oa hea (rdA_of oa eq hea g.rt) oo heo (rdO_of oo eo heo (over_rt (T := []) hM hr het)) (by omega) (by omega) (fun h => absurd he h) (fun _ => ⟨eq, eo⟩)
    rw [he] at this; exact this
end Go.Proofs.YtechilkjfhpkpaaGreatDoor.Ru

namespace Go.Proofs.YtechilkjfhpkpaaGreatDoor.Ru
open Go Vm Go.RowKit Num Mem Utf Lib Lab Rep
variable {ω ω' ωb : Tg} {w w' w0 wb : World} {t gs gm : Nat} {M : List Av} {r : Rl} {now last : Int} {s sl rs xs : Sl}
theorem labE_wE (hr : ruleB r = true) (l : List Lb) : labE r l = wE l (moreA r) := by unfold labE; rw [if_pos hr]
theorem labO_len (hr : ruleB r = true) {l : List Lb} (h : labE r l = 0) : (labO r l).length ≤ 16 := by
  rw [labE_wE hr] at h
  exact (rt_short (labO_rt (rl_of hr) h)).1
theorem kactive_ok (ω : Tg) (ks : KS ω w t gs r last M) (hM : Good M) (hl : M.length ≤ 100000000) (u v : Nat) {K : Sl → World → Prop}
    (hK : ∀ a ql ω' w', Stp Non ω ω' w w' → OT ω' w' u 41 6 a (avs ql) → ql.map (·.1) = M → (∀ p ∈ ql, OT ω' w' v 99 2 p.2 (labs p.1.1)) → K a w') : C.rules_Keeper_Active (some ⟨gs, 0, none⟩) w K := by
  obtain ⟨gm, pl, rs, ka, hp⟩ := ks
  have hpl := hp.length_eq
  rw [List.length_map] at hpl
  refine active_ok ω ka.aw hp hM.up (by omega) (fun p hpm => (rt_short (hM.rt _ (mem_perm hp hpm))).1) u (fun _ => v) fun a ql ω' w' k o e he => hK a ql ω' w' k o e fun p hp => ?_
  obtain ⟨j, hj, rfl⟩ := List.mem_iff_getElem.1 hp
  exact he j hj
end Go.Proofs.YtechilkjfhpkpaaGreatDoor.Ru

namespace Go.Proofs.YtechilkjfhpkpaaGreatDoor.Ru
open Go Vm Go.RowKit Num Mem Utf Lib Lab Rep
variable {T M N : List Av} {r : Rl} {now last : Int} {m : List Lb}
def posM (M : List Av) (m : List Lb) : Nat := (M.takeWhile fun a => decide (cmpL a.1 m < 0)).length
theorem posM_le : posM M m ≤ M.length := by
  unfold posM
  have := List.takeWhile_prefix (p := fun a : Av => decide (cmpL a.1 m < 0)) (l := M)
  exact this.length_le
theorem posM_lt : ∀ {M : List Av} {i : Nat} {a : Av}, i < posM M m → M[i]? = some a → cmpL a.1 m < 0
  | [], i, a, h, _ => by simp [posM] at h
  | b :: r, i, a, h, e => by
    unfold posM at h
    rw [List.takeWhile_cons] at h
    split at h
    · rename_i hb
      cases i with
      | zero => simp at e; subst e; exact of_decide_eq_true hb
      | succ i => exact posM_lt (M := r) (by unfold posM; simpa using h) (by simpa using e)
    · simp at h
theorem posM_ge : ∀ {M : List Av} {i : Nat} {a : Av}, M.Pairwise ltA → posM M m ≤ i → M[i]? = some a → ¬ cmpL a.1 m < 0
  | [], i, a, _, _, e => by simp at e
  | b :: r, i, a, hM, h, e => by
    have h' := List.pairwise_cons.1 hM
    unfold posM at h
    rw [List.takeWhile_cons] at h
    split at h
    · rename_i hb
      cases i with
      | zero => simp at h
      | succ i => exact posM_ge (M := r) h'.2 (by unfold posM; simpa using h) (by simpa using e)
    · rename_i hb
      have hb : ¬ cmpL b.1 m < 0 := by simpa using hb
      cases i with
      | zero => simp at e; subst e; exact hb
      | succ i =>
        have hm : a ∈ r := List.mem_of_getElem? (by simpa using e)
        exact fun hlt => hb (cmpL_cmp.trans _ _ _ (h'.1 a hm) hlt)
theorem posM_some (hM : M.Pairwise ltA) {o : Av} (h : getM M m = some o) : M[posM M m]? = some o := by
  obtain ⟨h1, h2⟩ := (getM_some hM).1 h
  obtain ⟨j, hj, ej⟩ := List.mem_iff_getElem.1 h1
  have ej' : M[j]? = some o := by rw [List.getElem?_eq_getElem hj, ej]
  have hge : posM M m ≤ j := by
    rcases Nat.lt_or_ge j (posM M m) with hlt | hge
    · have := posM_lt hlt ej'
      rw [h2, cmpL_cmp.self] at this; omega
    · exact hge
  rcases Nat.eq_or_lt_of_le hge with e | hlt
  · rw [e]; exact ej'
  · have hp : posM M m < M.length := by omega
    have a0 := posM_ge (m := m) hM (Nat.le_refl _) (List.getElem?_eq_getElem hp)
    have := (List.pairwise_iff_getElem.1 hM) (posM M m) j hp hj hlt
    rw [ej] at this
    unfold ltA at this
    rw [h2] at this
    exact absurd this a0
theorem posM_at (hM : M.Pairwise ltA) {o : Av} (h : M[posM M m]? = some o) : (getM M m).isSome = decide (o.1 = m) := by
  by_cases e : o.1 = m
  · rw [(getM_some hM).2 ⟨List.mem_of_getElem? h, e⟩, decide_eq_true e]; rfl
  · rw [decide_eq_false e]
    cases hg : getM M m with
    | none => rfl
    | some q =>
      have := posM_some hM hg
      rw [h] at this
      injection this with this
      exact absurd ((getM_some hM).1 hg).2 (by rw [← this]; exact e)
theorem posM_end (hM : M.Pairwise ltA) (h : M.length ≤ posM M m) : getM M m = none := by
  cases hg : getM M m with
  | none => rfl
  | some q =>
    have := posM_some hM hg
    rw [List.getElem?_eq_none h] at this; cases this
theorem insM_split {a : Av} : ∀ {M : List Av}, M.Pairwise ltA → insM a M = M.take (posM M a.1) ++ (a :: M.drop (posM M a.1 + if (getM M a.1).isSome = true then 1 else 0))
  | [], _ => by simp [insM, posM, getM]
  | b :: r, hM => by
    have h' := List.pairwise_cons.1 hM
    by_cases hb : cmpL b.1 a.1 < 0
    · have ep : posM (b :: r) a.1 = posM r a.1 + 1 := by unfold posM; rw [List.takeWhile_cons, if_pos (decide_eq_true hb)]; rfl
      have hne : b.1 ≠ a.1 := fun e => by rw [e, cmpL_cmp.self] at hb; omega
      have eg : getM (b :: r) a.1 = getM r a.1 := by unfold getM; rw [List.find?_cons, decide_eq_false hne]
      have hn : ¬ cmpL a.1 b.1 < 0 := by have := cmpL_cmp.anti b.1 a.1; omega
      unfold insM
      rw [if_neg hne, if_neg hn, ep, eg, insM_split h'.2, List.take_succ_cons, show posM r a.1 + 1 + (if (getM r a.1).isSome = true then 1 else 0) = (posM r a.1 + (if (getM r a.1).isSome = true then 1 else 0)) + 1 by omega, List.drop_succ_cons]
      rfl
    · have ep : posM (b :: r) a.1 = 0 := by unfold posM; rw [List.takeWhile_cons, if_neg (by simpa using hb)]; rfl
      have e0 : (b :: r)[posM (b :: r) a.1]? = some b := by rw [ep]; rfl
      have := posM_at hM e0
      rw [this, ep]
      unfold insM
      by_cases e : b.1 = a.1
      · rw [if_pos e, decide_eq_true e]; rfl
      · rw [if_neg e, decide_eq_false e, if_pos (by
          have h1 := cmpL_cmp.anti b.1 a.1
          have h2 : cmpL b.1 a.1 ≠ 0 := fun q => e ((cmpL_cmp.eq _ _).1 q)
          omega)]; rfl
def insAll (N L : List Av) : List Av := L.foldl (fun N a => insM a N) N
theorem insAll_up : ∀ {L N : List Av}, N.Pairwise ltA → (insAll N L).Pairwise ltA
  | [], _, h => h
  | _ :: L, _, h => insAll_up (L := L) (insM_up h)
theorem insAll_len : ∀ {L N : List Av}, (insAll N L).length ≤ N.length + L.length
  | [], _ => Nat.le_refl _
  | a :: L, N => by
    have h1 : (insAll (insM a N) L).length ≤ (insM a N).length + L.length := insAll_len
    have h2 : (insM a N).length ≤ N.length + 1 := insM_len
    show (insAll (insM a N) L).length ≤ _
    rw [List.length_cons]; omega
theorem insAll_snoc (N L : List Av) (a : Av) : insAll N (L ++ [a]) = insM a (insAll N L) := by unfold insAll; rw [List.foldl_append]; rfl
theorem insAll_take {L : List Av} {i : Nat} (h : i < L.length) (N : List Av) : insAll N (L.take (i + 1)) = insM L[i] (insAll N (L.take i)) := by
  rw [List.take_succ_eq_append_getElem h, insAll_snoc]
theorem mem_insAll {x : Av} : ∀ {L N : List Av}, (L.map (·.1)).Nodup → N.Pairwise ltA → (x ∈ insAll N L ↔ x ∈ L ∨ (x ∈ N ∧ ∀ a ∈ L, a.1 ≠ x.1))
  | [], N, _, _ => by simp [insAll]
  | b :: L, N, hL, hN => by
    have hL' := List.nodup_cons.1 hL
    show x ∈ insAll (insM b N) L ↔ _
    rw [mem_insAll hL'.2 (insM_up hN), mem_insM hN]
    constructor
    · rintro (h1 | ⟨rfl | ⟨h1, h2⟩, h3⟩)
      · exact .inl (List.mem_cons_of_mem _ h1)
      · exact .inl List.mem_cons_self
      · refine .inr ⟨h1, fun a ha => ?_⟩
        rcases List.mem_cons.1 ha with rfl | ha
        · exact fun e => h2 e.symm
        · exact h3 a ha
    · rintro (h1 | ⟨h1, h2⟩)
      · rcases List.mem_cons.1 h1 with rfl | h1
        · refine .inr ⟨.inl rfl, fun a ha e => hL'.1 ?_⟩
          rw [show (fun x : Av => x.1) x = a.1 from e.symm]; exact List.mem_map_of_mem ha
        · exact .inl h1
      · exact .inr ⟨.inr ⟨h1, fun e => h2 b List.mem_cons_self e.symm⟩, fun a ha => h2 a (List.mem_cons_of_mem _ ha)⟩
def keepR (r : Rl) (now : Int) (T : List Av) (a : Av) : Option Av := if inT T a then none else stepA r now T a
def refM (r : Rl) (now : Int) (T M : List Av) : List Av := insAll (insAll [] (T.map (nx r now M))) (M.filterMap (keepR r now T))
theorem keepR_some {a b : Av} (h : keepR r now T a = some b) : inT T a = false ∧ stepA r now T a = some b := by
  unfold keepR at h
  split at h
  · cases h
  · rename_i h1
    exact ⟨by simpa using h1, h⟩
theorem keepR_of {a : Av} (h : inT T a = false) : keepR r now T a = stepA r now T a := by unfold keepR; rw [if_neg (by rw [h]; decide)]
theorem nxs_names (M : List Av) : ∀ T : List Av, (T.map (nx r now M)).map (·.1) = T.map (·.1)
  | [] => rfl
  | a :: T => by rw [List.map_cons, List.map_cons, List.map_cons, nxs_names M T, nx_lab]
theorem inT_no {a : Av} : inT T a = false ↔ ∀ b ∈ T, b.1 ≠ a.1 := by
  unfold inT
  rw [← getM_none]
  cases getM T a.1 <;> simp
theorem inT_nx {c : Av} (hc : c ∈ T) : inT T (nx r now M c) = true := by
  cases h : inT T (nx r now M c) with
  | true => rfl
  | false => exact absurd (nx_lab M c).symm (inT_no.1 h c hc)
theorem fm_names {f : Av → Option Av} (hf : ∀ a b, f a = some b → b.1 = a.1) (h : M.Pairwise ltA) : ((M.filterMap f).map (·.1)).Nodup := nodupL (fm_up hf h)
theorem ref_eq (hT : T.Pairwise ltA) (hM : M.Pairwise ltA) : refM r now T M = stepM r now T M := by
  have mem := mem_merge (r := r) (now := now) (nodupL hT) hM
  have n1 : ((T.map (nx r now M)).map (·.1)).Nodup := by rw [nxs_names]; exact nodupL hT
  have u1 : (insAll [] (T.map (nx r now M))).Pairwise ltA := insAll_up List.Pairwise.nil
  have n2 : ((M.filterMap (keepR r now T)).map (·.1)).Nodup := fm_names (fun a b h => stepA_lab (keepR_some h).2) hM
  refine upA_eq (insAll_up u1) (step_up hM) fun x => ?_
  unfold refM stepM
  rw [mem_insAll n2 u1, mem_insAll n1 List.Pairwise.nil, List.mem_filterMap, List.mem_filterMap]
  constructor
  · rintro (⟨a, ha, e⟩ | ⟨h1 | h1, _⟩)
    · obtain ⟨h1, h2⟩ := keepR_some e
      exact ⟨a, (mem a).2 (.inr ⟨ha, inT_no.1 h1⟩), h2⟩
    · obtain ⟨c, hc, rfl⟩ := List.mem_map.1 h1
      exact ⟨_, (mem _).2 (.inl ⟨c, hc, rfl⟩), (stepA_in (inT_nx hc)).1⟩
    · exact absurd h1.1 (by simp)
  · rintro ⟨b, hb, e⟩
    rcases (mem b).1 hb with ⟨c, hc, rfl⟩ | ⟨h1, h2⟩
    · rw [(stepA_in (inT_nx hc)).1] at e
      injection e with e
      subst e
      refine .inr ⟨.inl (List.mem_map_of_mem hc), fun a ha e => ?_⟩
      obtain ⟨d, _, ed⟩ := List.mem_filterMap.1 ha
      obtain ⟨g1, g2⟩ := keepR_some ed
      rw [nx_lab, stepA_lab g2] at e
      exact inT_no.1 g1 c hc e.symm
    · exact .inl ⟨b, h1, by rw [keepR_of (inT_no.2 h2)]; exact e⟩
theorem over_mem {a : Av} (h : (overA r now T a).isSome = true) : inT T a = false := by
  cases hi : inT T a with
  | false => rfl
  | true => rw [(stepA_in hi).2] at h; cases h
theorem fm_filter {β : Type} {f : Av → Option β} {g : Av → β} (hf : ∀ a b, f a = some b → b = g a) : ∀ L : List Av, L.filterMap f = (L.filter fun a => (f a).isSome).map g
  | [] => rfl
  | a :: L => by
    cases e : f a with
    | none => rw [List.filterMap_cons_none e, List.filter_cons_of_neg (by rw [e]; exact fun h => by cases h), fm_filter hf L]
    | some b => rw [List.filterMap_cons_some e, List.filter_cons_of_pos (by rw [e]; rfl), List.map_cons, fm_filter hf L, hf a b e]
theorem overA_l {a : Av} {m : List Lb} (h : overA r now T a = some m) : m = a.1 := by
  unfold overA at h
  split at h
  · cases h
  · split at h
    · cases h
    · split at h
      · injection h with h; exact h.symm
      · cases h
theorem over_eq (hT : T.Pairwise ltA) (hM : M.Pairwise ltA) : M.filterMap (overA r now T) = overM r now T M := by
  have mem := mem_merge (r := r) (now := now) (nodupL hT) hM
  unfold overM
  rw [fm_filter (g := fun a => a.1) (fun _ _ h => overA_l h), fm_filter (g := fun a => a.1) (fun _ _ h => overA_l h)]
  congr 1
  refine upA_eq (hM.sublist List.filter_sublist) ((merge_up hM).sublist List.filter_sublist) fun x => ?_
  rw [List.mem_filter, List.mem_filter, mem]
  constructor
  · rintro ⟨h1, h2⟩
    exact ⟨.inr ⟨h1, inT_no.1 (over_mem h2)⟩, h2⟩
  · rintro ⟨⟨c, hc, rfl⟩ | ⟨h1, _⟩, h2⟩
    · have := over_mem h2
      rw [inT_nx hc] at this; cases this
    · exact ⟨h1, h2⟩
end Go.Proofs.YtechilkjfhpkpaaGreatDoor.Ru

namespace Go.Proofs.YtechilkjfhpkpaaGreatDoor.Ru
open Go Vm Go.RowKit Num Mem Utf Lib Lab Rep
variable {ω ω' ωb : Tg} {w w' w0 wb : World} {t gr : Nat} {T : Nat → Bool} {M : List Av} {r : Rl} {now last : Int} {m : List Lb} {l s x rs : Sl} {ql : QL}
theorem rat_ok (h : RdAs w0 l ql) (eq : ql.map (·.1) = M) (hM : M.Pairwise ltA) (hl : ql.length ≤ 100000000) (hx : Rd w0 x 2 (labs m)) {K : Int → Bool → World → Prop} (hK : ∀ w', Keep w0 w' → K ((posM M m : Nat) : Int) (getM M m).isSome w') : C.tocsinref19_at l x w0 K := by
  have hln := rdA_n h.1
  have hq : ql.length = M.length := by rw [← eq, List.length_map]
  have at_ : ∀ {i : Nat} {p : Av × Sl}, ql[i]? = some p → M[i]? = some p.1 := fun {i p} hp => by rw [← eq, List.getElem?_map, hp]; rfl
  unfold C.tocsinref19_at
  refine C.tocsinref19_at.L5_ind fun X hX => ?_
  have stop : ∀ w, Keep w0 w → C.tocsinref19_at.S2 K l x ((posM M m : Nat) : Int) w := by
    intro w k
    unfold C.tocsinref19_at.S2
    refine cond_d (fun hlt => ?_) (fun hge => ?_)
    · obtain ⟨p, hp⟩ : ∃ p, ql[posM M m]? = some p := ⟨_, List.getElem?_eq_getElem (by omega)⟩
      have hpm := List.mem_of_getElem? hp
      refine rdA_at (h.1.keep k) (k := posM M m) rfl hp fun a ac => cSl_at ac.1 <| rsame_ok ((h.2 p hpm).1.keep k) (hx.keep k) (h.2 p hpm).2 fun w2 k2 => ?_
      rw [← posM_at hM (at_ hp)]
      exact hK w2 (Keep.trans k k2)
    · have := hK w k
      rw [posM_end hM (by omega)] at this; exact this
  have key : ∀ (d k : Nat) (w : World), k = d → posM M m ≤ k → k ≤ ql.length → Keep w0 w → X l x (k : Int) w := by
    intro d
    induction d with
    | zero =>
      intro k w hk hp hkl kp
      refine hX _ _ _ _ ?_
      unfold C.tocsinref19_at.S7
      refine cond_d (fun hh => by omega) fun _ => ?_
      rw [show (k : Int) = ((posM M m : Nat) : Int) by omega]
      exact stop w kp
    | succ d ih =>
      intro k w hk hp hkl kp
      refine hX _ _ _ _ ?_
      unfold C.tocsinref19_at.S7
      refine cond_d (fun _ => ?_) (fun hh => by omega)
      obtain ⟨p, hpi⟩ : ∃ p, ql[k - 1]? = some p := ⟨_, List.getElem?_eq_getElem (by omega)⟩
      have hpm := List.mem_of_getElem? hpi
      have ek : IntKind.i64.wrap ((k : Int) - 1) = ((k - 1 : Nat) : Int) := by rw [wI64 (by omega) (by omega)]; omega
      rw [ek]
      refine rdA_at (h.1.keep kp) (k := k - 1) rfl hpi fun a ac => cSl_at ac.1 <| rcmp_ok ((h.2 p hpm).1.keep kp) (hx.keep kp) (h.2 p hpm).2 fun w2 k2 => ?_
      refine cond_d (fun hge => ?_) (fun hlt => ?_)
      · refine ih (k - 1) w2 (by omega) ?_ (by omega) (Keep.trans kp k2)
        rcases Nat.lt_or_ge (k - 1) (posM M m) with h1 | h1
        · have := posM_lt h1 (at_ hpi); omega
        · exact h1
      · have : k = posM M m := by
          rcases Nat.lt_or_ge (k - 1) (posM M m) with h1 | h1
          · omega
          · exact absurd (by omega) (posM_ge hM h1 (at_ hpi))
        rw [show (k : Int) = ((posM M m : Nat) : Int) by omega]
        exact stop w2 (Keep.trans kp k2)
  exact (by rw [hln]; exact key ql.length ql.length w0 rfl (by rw [hq]; exact posM_le) (Nat.le_refl _) (Keep.refl w0))
theorem avs_take (n : Nat) (ql : QL) : (avs ql).take (n * 6) = avs (ql.take n) := by
  have e : ql = ql.take n ++ ql.drop n := (List.take_append_drop n ql).symm
  rcases Nat.lt_or_ge n ql.length with h | h
  · conv => lhs; rw [e, avs_app, List.take_append_of_le_length (by rw [avs_len, List.length_take]; omega), List.take_of_length_le (by rw [avs_len, List.length_take]; omega)]
  · rw [List.take_of_length_le (by rw [avs_len]; omega), List.take_of_length_le h]
theorem avs_drop (n : Nat) (ql : QL) : (avs ql).drop (n * 6) = avs (ql.drop n) := by
  have e : ql = ql.take n ++ ql.drop n := (List.take_append_drop n ql).symm
  rcases Nat.lt_or_ge n ql.length with h | h
  · conv => lhs; rw [e, avs_app, List.drop_append_of_le_length (by rw [avs_len, List.length_take]; omega), List.drop_of_length_le (by rw [avs_len, List.length_take]; omega), List.nil_append]
  · rw [List.drop_of_length_le (by rw [avs_len]; omega), List.drop_of_length_le h]; rfl
theorem avs_snoc (ql : QL) (p : Av × Sl) : avs (ql ++ [p]) = avs ql ++ avC p := by rw [avs_app]; simp [avs]
theorem rput_ok (ω : Tg) (u : Nat) {a : Av} (h : RdAs w l ql) (eq : ql.map (·.1) = M) (hM : M.Pairwise ltA) (hl : ql.length ≤ 50000000) (hx : Rd w s 2 (labs a.1)) {K : Sl → World → Prop}
    (hK : ∀ r ql' ω' w', Stp Non ω ω' w w' → OT ω' w' u 41 6 r (avs ql') → (∀ p ∈ ql', p ∈ ql ∨ p = (a, s)) → ql'.map (·.1) = insM a M → K r w') : C.tocsinref19_put l s a.2.1 a.2.2.1 a.2.2.2.1 a.2.2.2.2.1 a.2.2.2.2.2 w K := by
  have hln := rdA_n h.1
  have hq : ql.length = M.length := by rw [← eq, List.length_map]
  have hpos := posM_le (M := M) (m := a.1)
  unfold C.tocsinref19_put
  refine new_T (ω := fun _ => 0) 7 fun g ω1 w1 k1 b1 => ?_
  have b1 : BT ω1 w1 7 g 41 (avC (a, s)) := b1
  have top1 := (Top.init w).stp k1
  refine cSl_at (s := s) (by rw [b1.cell]; rfl) <| rat_ok (h.keep top1.k) eq hM (by omega) (hx.keep top1.k) fun w2 k2 => ?_
  have top2 := top1.stp (k2.stp0 ω1)
  have b2 := b1.stp (k2.stp0 ω1)
  refine Rd.slc (h.1.keep top2.k) (lo := 0) (hi := posM M a.1) (Nat.zero_le _) (by omega) rfl rfl fun la hla hna _ => ?_
  rw [Nat.zero_mul, List.drop_zero, Nat.sub_zero, avs_take] at hla
  refine app_T tiA (OT.nil ω1 w2 2 41 6) hla avs_one (by simp only [maxLen, nilS]; omega) (by simp only [nilS]; omega) fun r5 ω5 w5 k5 o5' n5 => ?_
  rw [List.nil_append] at o5'
  have n5 : r5.n = posM M a.1 := by rw [n5, hna]; simp [nilS]
  have b5 := b2.stp k5
  refine ac_at (blk_ac b5.blk) ?_
  refine push_T (n := 1) tiA o5' rfl (by intro v hv; simp at hv; rcases hv with rfl | rfl | rfl | rfl | rfl | rfl <;> rfl) (by simp only [maxLen]; omega) (by omega) fun r6 ω6 w6 k6 o6 n6 => ?_
  have top6 := (top2.stp k5).stp k6
  have e6 : avs (ql.take (posM M a.1)) ++ avC (a, s) = avs (ql.take (posM M a.1) ++ [(a, s)]) := (avs_snoc _ (a, s)).symm
  have o6 : OT ω6 w6 2 41 6 r6 (avs (ql.take (posM M a.1) ++ [(a, s)])) := by rw [← e6]; exact o6
  have fin : ∀ (i : Nat), i ≤ ql.length → M.take (posM M a.1) ++ (a :: M.drop i) = insM a M → C.tocsinref19_put.S2 K l (i : Int) r6 w6 := by
    intro i hi he
    unfold C.tocsinref19_put.S2
    refine Rd.slc (h.1.keep top6.k) (lo := i) (hi := l.n) (by omega) (Nat.le_refl _) rfl rfl fun lb hlb hnb _ => ?_
    have hlb' : Rd w6 lb 6 (avs (ql.drop i)) := by
      rw [avs_drop, List.take_of_length_le (by rw [avs_len, List.length_drop]; omega)] at hlb
      exact hlb
    refine app_T tiA o6 hlb' avs_one (by simp only [maxLen]; omega) (by omega) fun r7 ω7 w7 k7 o7 _ => ?_
    rw [← avs_app] at o7
    have top7 := top6.stp k7
    refine hK r7 (ql.take (posM M a.1) ++ [(a, s)] ++ ql.drop i) (ext ω w.heap.size u) w7 (top7.k.stp ω u) ?_ (fun p hp => ?_) ?_
    · have := OT.new o7 top7
      exact Own.tag this (Nat.le_refl _) ω u
    · rcases List.mem_append.1 hp with hp | hp
      · rcases List.mem_append.1 hp with hp | hp
        · exact .inl (List.mem_of_mem_take hp)
        · exact .inr (List.mem_singleton.1 hp)
      · exact .inl (List.mem_of_mem_drop hp)
    · rw [List.map_append, List.map_append, List.map_take, List.map_drop, eq, List.append_assoc]; exact he
  have es := insM_split (a := a) hM
  cases hg : (getM M a.1).isSome with
  | true =>
    rw [if_pos hg] at es
    refine cond_t rfl ?_
    rw [wI64 (by omega) (by omega), show ((posM M a.1 : Nat) : Int) + 1 = ((posM M a.1 + 1 : Nat) : Int) by omega]
    obtain ⟨o, ho⟩ := Option.isSome_iff_exists.1 hg
    have := (List.getElem?_eq_some_iff.1 (posM_some hM ho)).1
    exact fin (posM M a.1 + 1) (by omega) es.symm
  | false =>
    rw [if_neg (by rw [hg]; decide), Nat.add_zero] at es
    exact cond_f rfl (fin (posM M a.1) (by omega) es.symm)
abbrev rkC (r : Rl) (rs l : Sl) (last : Int) : List Value := [.bool r.rc, .string r.nm, .string r.ex, .int .i64 r.fo, .int .i64 r.ke, rs.v, l.v, .int .i64 last]
structure RKa (ω : Tg) (w : World) (t gr : Nat) (r : Rl) (last : Int) (l : Sl) (ql : QL) (rs : Sl) : Prop where
  hd : BT ω w t gr 59 (rkC r rs l last)
  rl : RT ω w 0 rs 2 (labs r.ls)
  row : RT ω w (t + 1) l 6 (avs ql)
  lab : ∀ p ∈ ql, RT ω w (t + 2) p.2 2 (labs p.1.1)
def RK (ω : Tg) (w : World) (t gr : Nat) (r : Rl) (last : Int) (M : List Av) : Prop := ∃ l ql rs, RKa ω w t gr r last l ql rs ∧ ql.map (·.1) = M
def OffR (t : Nat) (T : Nat → Bool) : Prop := T 0 = false ∧ T t = false ∧ T (t + 1) = false ∧ T (t + 2) = false
theorem offR_non (t : Nat) : OffR t Non := ⟨rfl, rfl, rfl, rfl⟩
theorem offR_one {t u : Nat} (h : 0 < u ∧ (u < t ∨ t + 2 < u)) : OffR t (Mem.One u) := ⟨beq_no (by omega), beq_no (by omega), beq_no (by omega), beq_no (by omega)⟩
theorem RKa.stp (h : RKa ω w t gr r last l ql rs) (k : Stp T ω ω' w w') (hT : OffR t T) : RKa ω' w' t gr r last l ql rs := ⟨h.hd.stp k hT.2.1, h.rl.stp k hT.1, h.row.stp k hT.2.2.1, fun p hp => (h.lab p hp).stp k hT.2.2.2⟩
theorem RK.stp (h : RK ω w t gr r last M) (k : Stp T ω ω' w w') (hT : OffR t T) : RK ω' w' t gr r last M := let ⟨l, ql, rs, a, b⟩ := h; ⟨l, ql, rs, a.stp k hT, b⟩
theorem rk_cells {g : Nat} {e : TypeId} {cs : List Value} (b1 : Blk w g e ([.bool r.rc, .string r.nm, .string r.ex, .int .i64 r.fo, .int .i64 r.ke, s.v] ++ cs)) {Z : Bool → ByteArray → ByteArray → Int → Int → Sl → Prop} (hZ : Z r.rc r.nm r.ex r.fo r.ke s) :
    G.cB ⟨g, 0, none⟩ w fun b67 => G.cS (Addr.add ⟨g, 0, none⟩ 1) w fun s68 => G.cS (Addr.add ⟨g, 0, none⟩ 2) w fun s69 => G.cI .i64 (Addr.add ⟨g, 0, none⟩ 3) w fun n70 => G.cI .i64 (Addr.add ⟨g, 0, none⟩ 4) w fun n71 => G.cSl (Addr.add ⟨g, 0, none⟩ 5) w fun l72 => Z b67 s68 s69 n70 n71 l72 :=
  cB_at (b := r.rc) (by rw [b1.cell]; rfl) <| cS_at (b := r.nm) (by rw [addr_add, b1.cell]; rfl) <| cS_at (b := r.ex) (by rw [addr_add, b1.cell]; rfl) <| cI_at (n := r.fo) (by rw [addr_add, b1.cell]; rfl) <| cI_at (n := r.ke) (by rw [addr_add, b1.cell]; rfl) <| cSl_at (s := s) (by rw [addr_add, b1.cell]; rfl) hZ
theorem rnew_ok (t : Nat) (top : Top w0 ω w) (hs : Rd w0 s 2 (labs r.ls)) (hsz : ∀ x ∈ r.ls, x.2.size ≤ 140737488355300) (hl : r.ls.length ≤ 100000000) {K : Option Addr → Int → World → Prop}
    (hE : newE r (-1) ≠ 0 → ∀ ω' w', Stp Non ω ω' w w' → K none 201 w')
    (hK : newE r (-1) = 0 → ∀ gr ω' w', Stp Non ω ω' w w' → RK ω' w' t gr r (-1) [] → K (some ⟨gr, 0, none⟩) 0 w') : C.tocsinref19_New r.rc r.nm r.ex r.fo r.ke s w K := by
  unfold C.tocsinref19_New
  refine new_T (ω := ω) 0 fun g ω1 w1 k1 b1 => ?_
  have b1 : BT ω1 w1 0 g 24 (rlC r s) := b1
  have top1 := top.stp k1
  have e : newE r (-1) = if ruleB r = true ∧ r.rc = false then 0 else 201 := by
    unfold newE
    rw [if_neg (show ¬ ((-1 : Int) < -1 ∨ (-1 : Int) > 1125899906842624) by omega)]
  refine rl_cells b1.blk <| rrule_ok (hs.keep top1.k) hsz hl fun w2 k2 => ?_
  have s2 := k2.stp0 ω1
  have k02 := k1.trans s2
  have b2 := b1.stp s2
  unfold ruleE
  by_cases hr : ruleB r = true
  · rw [if_pos hr]
    refine cond_f rfl <| cB_at (b := r.rc) (by rw [b2.cell]; rfl) <| cond_of (fun hrc => ?_) (fun hrc => ?_)
    · rw [if_neg (fun h => by rw [hrc] at h; cases h.2)] at e
      exact hE (by rw [e]; decide) ω1 w2 k02
    · rw [if_pos ⟨hr, hrc⟩] at e
      refine rl_cells b2.blk ?_
      refine new_T (ω := ω1) t fun gr ω3 w3 k3 b3 => hK e gr ω3 w3 (k02.trans k3) ⟨nilS, [], s, ⟨b3, ?_, RT.nil .., by simp⟩, rfl⟩
      exact Top.rt ((top1.stp s2).stp k3) hs
  · rw [if_neg hr]
    rw [if_neg (fun h => hr h.1)] at e
    exact cond_t rfl (hE (by rw [e]; decide) ω1 w2 k02)
theorem rtold_ok (ω : Tg) {q : PQ} (hr : ruleB r = true) (hb : Blk w gr 59 (rkC r rs x last)) (hrs : Rd w rs 2 (labs r.ls)) (hq : RdPs w s q) (hl : q.length ≤ 10000000) {b : Nat} (hqz : ∀ p ∈ q, LbSm b p.1.1) (hbb : b ≤ 2000000) (ta tb : Nat) {K : Sl → Int → World → Prop}
    (hK : ∀ l ql ω' w', Stp Non ω ω' w w' → (toldE r (q.map (·.1)) ≠ 0 → l = nilS) → (toldE r (q.map (·.1)) = 0 → OT ω' w' ta 41 6 l (avs ql) ∧ ql.map (·.1) = toldL r (q.map (·.1)) ∧ ∀ p ∈ ql, OT ω' w' tb 99 2 p.2 (labs p.1.1)) → K l (toldE r (q.map (·.1))) w') :
    C.tocsinref19_Keeper_told (some ⟨gr, 0, none⟩) s w K := by
  unfold C.tocsinref19_Keeper_told C.tocsinref19_Keeper_told.S9
  have hsn := rdP_n hq.row
  have ok := rl_of hr
  obtain ⟨r16, rsz⟩ := rt_short ok.rt
  refine C.tocsinref19_Keeper_told.L5_ind fun X hX => ?_
  generalize hps : q.map (·.1) = ps at *
  have hpl : ps.length = q.length := by rw [← hps, List.length_map]
  have key : ∀ (d i : Nat) (l : Sl) (ql : QL) (ωl : Tg) (w2 : World), i + d = q.length → Top w ωl w2 → OT ωl w2 5 41 6 l (avs ql) → (∀ p ∈ ql, OT ωl w2 6 99 2 p.2 (labs p.1.1) ∧ p.1.1.length ≤ 16) → ql.map (·.1) = (toldS r (ps.take i)).2 → (∀ j (h : j < ps.length), j < i → wE (ps[j]).1 (moreA r) = 0) →
      X (some ⟨gr, 0, none⟩) s l (toldS r (ps.take i)).1 (i : Int) w2 := by
    intro d
    induction d with
    | zero =>
      intro i l ql ωl w2 hi top ol hlab eq h0
      refine hX _ _ _ _ _ _ ?_
      unfold C.tocsinref19_Keeper_told.S7 C.tocsinref19_Keeper_told.S2
      have efe : firstE r ps = 0 := by rw [firstE_drop (i := ps.length) fun j h _ => h0 j h (by omega), List.drop_length]; rfl
      rw [List.take_of_length_le (by omega)] at eq ⊢
      have ee : toldE r ps = if (toldS r ps).1 then 150 else 0 := by unfold toldE; rw [if_neg (by rw [efe]; decide)]
      refine cond_d (fun h => by omega) (fun _ => cond_of (fun htw => ?_) (fun htw => ?_))
      · rw [if_pos htw] at ee
        have := hK nilS [] (rtg ω ωl w.heap.size (ft ta tb)) w2 (rtg_stp top.k ω ωl _) (fun _ => rfl) (fun h => by rw [ee] at h; exact absurd h (by decide))
        rw [ee] at this; exact this
      · rw [if_neg (by rw [htw]; decide)] at ee
        have := hK l ql (rtg ω ωl w.heap.size (ft ta tb)) w2 (rtg_stp top.k ω ωl _) (fun h => absurd ee h) (fun _ => ⟨ol.rtg top (ft ta tb), eq, fun p hp => (hlab p hp).1.rtg top (ft ta tb)⟩)
        rw [ee] at this; exact this
    | succ d ih =>
      intro i l ql ωl w2 hi top ol hlab eq h0
      refine hX _ _ _ _ _ _ ?_
      unfold C.tocsinref19_Keeper_told.S7
      have hiq : i < q.length := by omega
      have hx : q[i]? = some q[i] := List.getElem?_eq_getElem hiq
      have epi : ps[i]'(by omega) = (q[i]).1 := by simp [← hps]
      have hmem := List.getElem_mem hiq
      have est := toldS_take (r := r) (show i < ps.length by omega)
      rw [epi] at est
      have hup := toldS_up r (ps.take i)
      have hTl := toldS_len r (ps.take i)
      rw [List.length_take, ← eq, List.length_map] at hTl
      have kd := Keep.trans top.k (Keep.drew w2)
      have sd := drew_stp ωl w2
      have topd := top.stp sd
      refine cond_d (fun _ => ptr_at <| rk_cells (hb.keep kd) ?_) (fun h => by omega)
      refine rdP_at (hq.row.keep kd) (k := i) rfl hx fun a a0 a1 => cSl_at a0 ?_
      refine rlabels_ok (hrs.keep kd) (fun y hy => by have := (rsz y hy).2; omega) (by omega) ((hq.el _ hmem).keep kd) (fun y hy => by have := ((hqz _ hmem).2 y hy).2; omega) fun l3 w3 k3 h1 h2 => ?_
      have e3 : labE r (q[i]).1.1 = wE (q[i]).1.1 (moreA r) := labE_wE hr _
      by_cases he : wE (q[i]).1.1 (moreA r) = 0
      · have he' := e3.trans he
        refine cond_ne (fun h => absurd he' h) (fun _ => ?_)
        have o3 := h2 he'
        have s3 := k3.stp ωl 6
        have ot3 : OT (ext ωl w2.drew.heap.size 6) w3 6 99 2 l3 (labs (labO r (q[i]).1.1)) := Own.tag o3 (Nat.le_refl _) ωl 6
        have top3 := topd.stp s3
        have ol3 := (ol.stp sd).stp s3
        have hlab3 : ∀ p ∈ ql, OT (ext ωl w2.drew.heap.size 6) w3 6 99 2 p.2 (labs p.1.1) ∧ p.1.1.length ≤ 16 := fun p hp => ⟨((hlab p hp).1.stp sd).stp s3, (hlab p hp).2⟩
        generalize ext ωl w2.drew.heap.size 6 = ω3 at *
        have h16 := labO_len hr he'
        have ra3 : RdAs w3 l ql := ⟨ol3.rd, fun p hp => ⟨(hlab3 p hp).1.rd, by have := (hlab3 p hp).2; omega⟩⟩
        refine rat_ok ra3 eq hup (by omega) ot3.rd fun w4 k4 => ?_
        have s4 := k4.stp0 ω3
        have top4 := top3.stp s4
        have go : ∀ many' : Bool, many' = (tstep r (toldS r (ps.take i)) (q[i]).1).1 → G.ix s.a s.n (i : Int) 2 fun p37 => G.cF .f64 (p37.add 1) w4 fun f38 => C.tocsinref19_put l l3 (0 : Int) (0 : Int) (0 : Int) (0 : Int) f38 w4 fun l39 w40 => X (some ⟨gr, 0, none⟩) s l39 many' (IntKind.i64.wrap ((i : Int) + (1 : Int))) w40 := fun many' em => by
          refine rdP_at (hq.row.keep top4.k) (k := i) rfl hx fun a a0 a1 => cF_at a1 ?_
          refine rput_ok ω3 5 (a := tA r (q[i]).1) (ra3.keep k4) eq hup (by omega) (ot3.rd.keep k4) fun r5 ql5 ω5 w5 k5 o5 hp5 eq5 => ?_
          have s35 := s4.trans k5
          rw [wI64 (by omega) (by omega), show (i : Int) + 1 = ((i + 1 : Nat) : Int) by omega, em, ← est]
          refine ih (i + 1) r5 ql5 ω5 w5 (by omega) (top4.stp k5) o5 (fun p hp => ?_) (by rw [est]; exact eq5) fun j h hj => ?_
          · rcases hp5 p hp with hp | rfl
            · exact ⟨(hlab3 p hp).1.stp s35, (hlab3 p hp).2⟩
            · exact ⟨ot3.stp s35, h16⟩
          · by_cases e : j = i
            · subst e; rw [epi]; exact he
            · exact h0 j h (by omega)
        refine cond_of (fun htw => go true ?_) (fun htw => go _ ?_)
        · unfold tstep; rw [htw]; rfl
        · unfold tstep; rw [htw]; rfl
      · refine cond_ne (fun _ => ?_) (fun h => absurd (e3.symm.trans h) he)
        have efe : firstE r ps = wE (q[i]).1.1 (moreA r) := by
          rw [firstE_drop h0, List.drop_eq_getElem_cons (show i < ps.length by omega), firstE, epi, if_pos he]
        have ee : toldE r ps = labE r (q[i]).1.1 := by unfold toldE; rw [efe, if_pos he, e3]
        have top3 : Top w (ext ωl w2.drew.heap.size 8) w3 := topd.stp (k3.stp ωl 8)
        have := hK nilS [] (rtg ω _ w.heap.size (ft ta tb)) w3 (rtg_stp top3.k ω (ext ωl w2.drew.heap.size 8) _) (fun _ => rfl) (fun h => absurd (e3.symm.trans (ee.symm.trans h)) he)
        rw [ee] at this; exact this
  exact key q.length 0 nilS [] (fun _ => 0) w (by omega) (Top.init w) (OT.nil ..) (by simp) (by simp [toldS]) (fun j h hj => by omega)
end Go.Proofs.YtechilkjfhpkpaaGreatDoor.Ru

namespace Go.Proofs.YtechilkjfhpkpaaGreatDoor.Ru
open Go Vm Go.RowKit Num Mem Utf Lib Lab Rep
variable {ω ω' ωb : Tg} {w w' w0 wb : World} {t ta vp uo gr : Nat} {r : Rl} {now last : Int} {kl tl nl gl s x rs : Sl} {kq tq nq : QL} {oq : OQ} {T M N : List Av}
structure SFr (ωb : Tg) (wb : World) (t ta vp uo : Nat) (kq tq : QL) (M T : List Av) : Prop where
  t0 : 0 < t
  f1 : ∀ i, i < wb.heap.size → ωb i ≠ vp
  f2 : ∀ i, i < wb.heap.size → ωb i ≠ uo
  l1 : t + 2 < ta
  l2 : ta < vp
  l3 : vp < uo
  ek : kq.map (·.1) = M
  et : tq.map (·.1) = T
  hM : M.Pairwise ltA
  hT : T.Pairwise ltA
  sM : ∀ p ∈ kq, p.1.1.length ≤ 16
  sT : ∀ p ∈ tq, p.1.1.length ≤ 16
  lM : kq.length ≤ 20000000
  lT : tq.length ≤ 20000000
structure SR (ωb ω : Tg) (wb w w0 : World) (t ta uo gr : Nat) (r : Rl) (rs : Sl) (now : Int) (kl : Sl) (kq : QL) (tl : Sl) (tq : QL) (nl : Sl) (nq : QL) (N : List Av) (gl : Sl) (oq : OQ) : Prop where
  sp : Stp (Mem.One t) ωb ω wb w
  top : Top w0 ω w
  kp : RKa ω w t gr r now kl kq rs
  trow : RT ω w ta tl 6 (avs tq)
  tlab : ∀ p ∈ tq, RT ω w (t + 2) p.2 2 (labs p.1.1)
  nrow : RT ω w (t + 1) nl 6 (avs nq)
  nlab : ∀ p ∈ nq, RT ω w (t + 2) p.2 2 (labs p.1.1) ∧ p.1.1.length ≤ 16
  en : nq.map (·.1) = N
  hN : N.Pairwise ltA
  grow : OT ω w uo 22 1 gl (sls oq)
  glab : ∀ p ∈ oq, RT ω w (t + 2) p.2 2 (labs p.1) ∧ p.1.length ≤ 16
theorem SR.non (h : SR ωb ω wb w w0 t ta uo gr r rs now kl kq tl tq nl nq N gl oq) (k : Stp Non ω ω' w w') : SR ωb ω' wb w' w0 t ta uo gr r rs now kl kq tl tq nl nq N gl oq :=
  ⟨h.sp.trans (k.non _), h.top.stp k, h.kp.stp k (offR_non t), h.trow.stp k, fun p hp => (h.tlab p hp).stp k, h.nrow.stp k, fun p hp => ⟨(h.nlab p hp).1.stp k, (h.nlab p hp).2⟩, h.en, h.hN, h.grow.stp k, fun p hp => ⟨(h.glab p hp).1.stp k, (h.glab p hp).2⟩⟩
theorem SR.loc (F : SFr ωb wb t ta vp uo kq tq M T) (h : SR ωb ω wb w w0 t ta uo gr r rs now kl kq tl tq nl nq N gl oq) (k : Stp (Mem.One vp) ω ω' w w') : SR ωb ω' wb w' w0 t ta uo gr r rs now kl kq tl tq nl nq N gl oq :=
  have l0 := F.t0
  have l1 := F.l1
  have l2 := F.l2
  have l3 := F.l3
  ⟨h.sp.fresh k F.f1, h.top.stp k (beq_no (by omega)), h.kp.stp k (offR_one (by omega)), h.trow.stp k (beq_no (by omega)), fun p hp => (h.tlab p hp).stp k (beq_no (by omega)), h.nrow.stp k (beq_no (by omega)), fun p hp => ⟨(h.nlab p hp).1.stp k (beq_no (by omega)), (h.nlab p hp).2⟩, h.en, h.hN, h.grow.stp k (beq_no (by omega)), fun p hp => ⟨(h.glab p hp).1.stp k (beq_no (by omega)), (h.glab p hp).2⟩⟩
theorem SR.ra (h : SR ωb ω wb w w0 t ta uo gr r rs now kl kq tl tq nl nq N gl oq) : RdAs w nl nq := ⟨h.nrow.rd, fun p hp => ⟨(h.nlab p hp).1.rd, by have := (h.nlab p hp).2; omega⟩⟩
theorem SR.kra (F : SFr ωb wb t ta vp uo kq tq M T) (h : SR ωb ω wb w w0 t ta uo gr r rs now kl kq tl tq nl nq N gl oq) : RdAs w kl kq := ⟨h.kp.row.rd, fun p hp => ⟨(h.kp.lab p hp).rd, by have := F.sM p hp; omega⟩⟩
theorem SR.tra (F : SFr ωb wb t ta vp uo kq tq M T) (h : SR ωb ω wb w w0 t ta uo gr r rs now kl kq tl tq nl nq N gl oq) : RdAs w tl tq := ⟨h.trow.rd, fun p hp => ⟨(h.tlab p hp).rd, by have := F.sT p hp; omega⟩⟩
theorem rs_put (h : SR ωb ω wb w w0 t ta uo gr r rs now kl kq tl tq nl nq N gl oq) {g : Nat} {y : Av} {sy : Sl} (b : Blk w g 41 (avC (y, sy))) (hy : RT ω w (t + 2) sy 2 (labs y.1)) (h16 : y.1.length ≤ 16) (hnl : nq.length ≤ 50000000) {Z : Sl → World → Prop}
    (hZ : ∀ nl' nq' ω' w', Stp Non ω ω' w w' → SR ωb ω' wb w' w0 t ta uo gr r rs now kl kq tl tq nl' nq' (insM y N) gl oq → Z nl' w') :
    G.cSl ⟨g, 0, none⟩ w fun l => G.cI .i64 (Addr.add ⟨g, 0, none⟩ 1) w fun n1 => G.cI .i64 (Addr.add ⟨g, 0, none⟩ 2) w fun n2 => G.cI .i64 (Addr.add ⟨g, 0, none⟩ 3) w fun n3 => G.cI .i64 (Addr.add ⟨g, 0, none⟩ 4) w fun n4 => G.cF .f64 (Addr.add ⟨g, 0, none⟩ 5) w fun f5 => C.tocsinref19_put nl l n1 n2 n3 n4 f5 w Z := by
  refine ac_at (blk_ac b) ?_
  refine rput_ok ω (t + 1) (a := y) h.ra h.en h.hN hnl hy.rd fun r2 q2 ω2 w2 k2 o2 hp2 e2 => ?_
  have h2 := h.non k2
  refine hZ r2 q2 ω2 w2 k2 ⟨h2.sp, h2.top, h2.kp, h2.trow, h2.tlab, o2.rt, fun p hp => ?_, e2, insM_up h.hN, h2.grow, h2.glab⟩
  rcases hp2 p hp with hp | rfl
  · exact h2.nlab p hp
  · exact ⟨hy.stp k2, h16⟩
theorem SR.nlen (h : SR ωb ω wb w w0 t ta uo gr r rs now kl kq tl tq nl nq N gl oq) : nq.length = N.length := by rw [← h.en, List.length_map]
theorem rs_tail (F : SFr ωb wb t ta vp uo kq tq M T) (h : SR ωb ω wb w w0 t ta uo gr r rs now kl kq tl tq nl nq N gl oq) {g i : Nat} {y : Av} {sy : Sl} {p : Av × Sl} (hi : tq[i]? = some p) (b : BT ω w vp g 41 (avC (y, sy))) (hy : RT ω w (t + 2) sy 2 (labs y.1)) (h16 : y.1.length ≤ 16) (hnl : N.length ≤ 50000000) {Z : Sl → World → Prop}
    (hZ : ∀ nl' nq' ω' w', SR ωb ω' wb w' w0 t ta uo gr r rs now kl kq tl tq nl' nq' (insM (upA r now y p.1.2.2.2.2.2) N) gl oq → Z nl' w') :
    G.st (Addr.add ⟨g, 0, none⟩ 4) (.int .i64 (-1 : Int)) w fun w148 => G.ix tl.a tl.n (i : Int) 6 fun p149 => G.cF .f64 (p149.add 5) w148 fun f150 => G.st (Addr.add ⟨g, 0, none⟩ 5) (.float .f64 f150) w148 fun w151 => G.cI .i64 (Addr.add ⟨g, 0, none⟩ 1) w151.drew fun n152 => G.cond (n152 == (1 : Int)) (G.cI .i64 (Addr.add ⟨g, 0, none⟩ 2) w151.drew fun n153 => G.ptr (some ⟨gr, 0, none⟩) fun p154 => G.cI .i64 (p154.add 3) w151.drew fun n155 => G.cond (decide ((IntKind.i64.wrap (now - n153)) ≥ n155))
      (G.st (Addr.add ⟨g, 0, none⟩ 1) (.int .i64 (2 : Int)) w151.drew fun w156 => G.st (Addr.add ⟨g, 0, none⟩ 3) (.int .i64 now) w156 fun w157 => G.cSl ⟨g, 0, none⟩ w157 fun l158 => G.cI .i64 (Addr.add ⟨g, 0, none⟩ 1) w157 fun n159 => G.cI .i64 (Addr.add ⟨g, 0, none⟩ 2) w157 fun n160 => G.cI .i64 (Addr.add ⟨g, 0, none⟩ 3) w157 fun n161 => G.cI .i64 (Addr.add ⟨g, 0, none⟩ 4) w157 fun n162 => G.cF .f64 (Addr.add ⟨g, 0, none⟩ 5) w157 fun f163 => C.tocsinref19_put nl l158 n159 n160 n161 n162 f163 w157 Z)
      (G.cSl ⟨g, 0, none⟩ w151.drew fun l166 => G.cI .i64 (Addr.add ⟨g, 0, none⟩ 1) w151.drew fun n167 => G.cI .i64 (Addr.add ⟨g, 0, none⟩ 2) w151.drew fun n168 => G.cI .i64 (Addr.add ⟨g, 0, none⟩ 3) w151.drew fun n169 => G.cI .i64 (Addr.add ⟨g, 0, none⟩ 4) w151.drew fun n170 => G.cF .f64 (Addr.add ⟨g, 0, none⟩ 5) w151.drew fun f171 => C.tocsinref19_put nl l166 n167 n168 n169 n170 f171 w151.drew Z))
      (G.cSl ⟨g, 0, none⟩ w151.drew fun l174 => G.cI .i64 (Addr.add ⟨g, 0, none⟩ 1) w151.drew fun n175 => G.cI .i64 (Addr.add ⟨g, 0, none⟩ 2) w151.drew fun n176 => G.cI .i64 (Addr.add ⟨g, 0, none⟩ 3) w151.drew fun n177 => G.cI .i64 (Addr.add ⟨g, 0, none⟩ 4) w151.drew fun n178 => G.cF .f64 (Addr.add ⟨g, 0, none⟩ 5) w151.drew fun f179 => C.tocsinref19_put nl l174 n175 n176 n177 n178 f179 w151.drew Z) := by
  have l0 := F.t0
  have l1 := F.l1
  have l2 := F.l2
  have l3 := F.l3
  have hnq := h.nlen
  refine st_TA b (by simp [avC]) fun ω1 w1 k1 b1 => ?_
  have h1 := h.loc F k1
  refine rdA_at h1.trow.rd (k := i) rfl hi fun a ac => cF_at ac.2.2.2.2.2 <| st_TA b1 (by simp [avC]) fun ω2 w2 k2 b2 => ?_
  have sd := drew_stp ω2 w2
  have h2 := (h1.loc F k2).non sd
  have b2 : BT ω2 w2.drew vp g 41 (avC ((y.1, y.2.1, y.2.2.1, y.2.2.2.1, -1, p.1.2.2.2.2.2), sy)) := b2.stp sd
  have hy2 := ((hy.stp k1 (beq_no (by omega))).stp k2 (beq_no (by omega))).stp sd
  have stay : ¬ (y.2.1 = 1 ∧ IntKind.i64.wrap (now - y.2.2.1) ≥ r.fo) → upA r now y p.1.2.2.2.2.2 = (y.1, y.2.1, y.2.2.1, y.2.2.2.1, -1, p.1.2.2.2.2.2) := fun hn => by unfold upA; rw [if_neg hn]
  refine cI_at (n := y.2.1) (by rw [addr_add, b2.cell]; rfl) <| cond_eq (fun e1 => ?_) (fun e1 => ?_)
  · refine cI_at (n := y.2.2.1) (by rw [addr_add, b2.cell]; rfl) <| ptr_at <| cI_at (n := r.fo) (by rw [addr_add, h2.kp.hd.cell]; rfl) <| cond_d (fun hge => ?_) (fun hlt => ?_)
    · refine st_TA b2 (by simp [avC]) fun ω3 w3 k3 b3 => st_TA b3 (by simp [avC]) fun ω4 w4 k4 b4 => ?_
      have h4 := (h2.loc F k3).loc F k4
      have b4 : BT ω4 w4 vp g 41 (avC ((y.1, 2, y.2.2.1, now, -1, p.1.2.2.2.2.2), sy)) := b4
      have hy4 := (hy2.stp k3 (beq_no (by omega))).stp k4 (beq_no (by omega))
      have eu : upA r now y p.1.2.2.2.2.2 = (y.1, 2, y.2.2.1, now, -1, p.1.2.2.2.2.2) := by unfold upA; rw [if_pos ⟨e1, hge⟩]
      refine rs_put h4 b4.blk hy4 h16 (by omega) fun nl' nq' ω' w' _ h' => hZ nl' nq' ω' w' ?_
      rw [eu]; exact h'
    · refine rs_put h2 b2.blk hy2 h16 (by omega) fun nl' nq' ω' w' _ h' => hZ nl' nq' ω' w' ?_
      rw [stay fun hh => hlt hh.2]; exact h'
  · refine rs_put h2 b2.blk hy2 h16 (by omega) fun nl' nq' ω' w' _ h' => hZ nl' nq' ω' w' ?_
    rw [stay fun hh => e1 hh.1]; exact h'
theorem rs_gone (F : SFr ωb wb t ta vp uo kq tq M T) (h : SR ωb ω wb w w0 t ta uo gr r rs now kl kq tl tq nl nq N gl oq) {g : Nat} {y : Av} {sy : Sl} (b : BT ω w vp g 41 (avC (y, sy))) (hy : RT ω w (t + 2) sy 2 (labs y.1)) (h16 : y.1.length ≤ 16) (hnl : N.length ≤ 50000000) (hol : oq.length ≤ 50000000) {Y Z : Sl → World → Prop}
    (hY : IntKind.i64.wrap (now - y.2.2.2.2.1) ≥ r.ke → ∀ gl' ω' w', SR ωb ω' wb w' w0 t ta uo gr r rs now kl kq tl tq nl nq N gl' (oq ++ [(y.1, sy)]) → Y gl' w')
    (hZ : ¬ IntKind.i64.wrap (now - y.2.2.2.2.1) ≥ r.ke → ∀ nl' nq' ω' w', SR ωb ω' wb w' w0 t ta uo gr r rs now kl kq tl tq nl' nq' (insM y N) gl oq → Z nl' w') :
    G.cI .i64 (Addr.add ⟨g, 0, none⟩ 4) w fun n61 => G.ptr (some ⟨gr, 0, none⟩) fun p62 => G.cI .i64 (p62.add 4) w fun n63 => G.cond (decide ((IntKind.i64.wrap (now - n61)) ≥ n63)) (G.cSl ⟨g, 0, none⟩ w fun l64 => G.new (.cells #[l64.v] 22) w fun p65 w66 => G.runSl C.pr (Builtin.append_ #[32, 32] 32 #[gl.v, (Sl.v (⟨some p65, 1, 1⟩ : Sl))]) w66 Y)
      (G.cSl ⟨g, 0, none⟩ w fun l166 => G.cI .i64 (Addr.add ⟨g, 0, none⟩ 1) w fun n167 => G.cI .i64 (Addr.add ⟨g, 0, none⟩ 2) w fun n168 => G.cI .i64 (Addr.add ⟨g, 0, none⟩ 3) w fun n169 => G.cI .i64 (Addr.add ⟨g, 0, none⟩ 4) w fun n170 => G.cF .f64 (Addr.add ⟨g, 0, none⟩ 5) w fun f171 => C.tocsinref19_put nl l166 n167 n168 n169 n170 f171 w Z) := by
  have l0 := F.t0
  have l1 := F.l1
  have l2 := F.l2
  have l3 := F.l3
  have hnq := h.nlen
  refine cI_at (n := y.2.2.2.2.1) (by rw [addr_add, b.cell]; rfl) <| ptr_at <| cI_at (n := r.ke) (by rw [addr_add, h.kp.hd.cell]; rfl) <| cond_d (fun hge => ?_) (fun hlt => ?_)
  · have hgn := sls_n h.grow.rd
    refine cSl_at (s := sy) (by rw [b.cell]; rfl) <| push_T (n := 1) tiO h.grow rfl (by intro v hv; simp at hv; subst hv; rfl) (by simp only [maxLen]; omega) (by omega) fun r2 ω2 w2 k2 o2 _ => ?_
    have o2 : OT ω2 w2 uo 22 1 r2 (sls (oq ++ [(y.1, sy)])) := by unfold sls at o2 ⊢; rw [List.map_append]; exact o2
    refine hY hge r2 ω2 w2 ⟨h.sp.fresh k2 F.f2, h.top.stp k2 (beq_no (by omega)), h.kp.stp k2 (offR_one (by omega)), h.trow.stp k2 (beq_no (by omega)), fun p hp => (h.tlab p hp).stp k2 (beq_no (by omega)), h.nrow.stp k2 (beq_no (by omega)), fun p hp => ⟨(h.nlab p hp).1.stp k2 (beq_no (by omega)), (h.nlab p hp).2⟩, h.en, h.hN, o2, fun p hp => ?_⟩
    rcases List.mem_append.1 hp with hp | hp
    · exact ⟨(h.glab p hp).1.stp k2 (beq_no (by omega)), (h.glab p hp).2⟩
    · rw [List.mem_singleton.1 hp]; exact ⟨hy.stp k2 (beq_no (by omega)), h16⟩
  · exact rs_put h b.blk hy h16 (by omega) fun nl' nq' ω' w' _ h' => hZ hlt nl' nq' ω' w' h'
theorem loc_T (ω : Tg) (v : Nat) (q : Av × Sl) {Z : Addr → World → Prop} (hK : ∀ g ω' w', Stp Non ω ω' w w' → BT ω' w' v g 41 (avC q) → Z ⟨g, 0, none⟩ w') :
    G.new (.cells #[nilS.v, (.int .i64 (0 : Int)), (.int .i64 (0 : Int)), (.int .i64 (0 : Int)), (.int .i64 (0 : Int)), (.float .f64 0)] 41) w fun p w1 => G.st p q.2.v w1 fun w2 => G.st (p.add 1) (.int .i64 q.1.2.1) w2 fun w3 => G.st (p.add 2) (.int .i64 q.1.2.2.1) w3 fun w4 => G.st (p.add 3) (.int .i64 q.1.2.2.2.1) w4 fun w5 => G.st (p.add 4) (.int .i64 q.1.2.2.2.2.1) w5 fun w6 => G.st (p.add 5) (.float .f64 q.1.2.2.2.2.2) w6 fun w7 => Z p w7 :=
  loc_ok q fun g w' k hg b => hK g (ext ω w.heap.size v) w' (k.1.stp ω v) ⟨b, ext_new hg⟩
theorem rs_loop2 (F : SFr ωb wb t ta vp uo kq tq M T) (hl : N.length ≤ 20000000) {K : Sl → Int → World → Prop}
    (hK : ∀ nl nq gl oq ω w, SR ωb ω wb w w0 t ta uo gr r rs now kl kq tl tq nl nq (insAll N (M.filterMap (keepR r now T))) gl oq → oq.map (·.1) = M.filterMap (overA r now T) → C.tocsinref19_Keeper_Step.S2 K (some ⟨gr, 0, none⟩) nl gl w)
    (h : SR ωb ω wb w w0 t ta uo gr r rs now kl kq tl tq nl nq N nilS []) : C.tocsinref19_Keeper_Step.S9 K (some ⟨gr, 0, none⟩) now tl nl nilS w := by
  have l0 := F.t0
  have l1 := F.l1
  have l2 := F.l2
  have l3 := F.l3
  have lM := F.lM
  have hkM : kq.length = M.length := by rw [← F.ek, List.length_map]
  have hkn : ∀ {ω w nl nq N gl oq}, SR ωb ω wb w w0 t ta uo gr r rs now kl kq tl tq nl nq N gl oq → kl.n = kq.length := fun h => rdA_n h.kp.row.rd
  unfold C.tocsinref19_Keeper_Step.S9
  refine C.tocsinref19_Keeper_Step.L5_ind fun X hX => ?_
  have key : ∀ (d i : Nat) (nl : Sl) (nq : QL) (gl : Sl) (oq : OQ) (ω : Tg) (w : World), i + d = kq.length → SR ωb ω wb w w0 t ta uo gr r rs now kl kq tl tq nl nq (insAll N ((M.take i).filterMap (keepR r now T))) gl oq → oq.map (·.1) = (M.take i).filterMap (overA r now T) → X (some ⟨gr, 0, none⟩) now tl nl gl (i : Int) w := by
    intro d
    induction d with
    | zero =>
      intro i nl nq gl oq ω w hi h eo
      refine hX _ _ _ _ _ _ _ ?_
      unfold C.tocsinref19_Keeper_Step.S7
      have hn := hkn h
      rw [List.take_of_length_le (by omega)] at h eo
      exact ptr_at <| cSl_at (s := kl) (by rw [addr_add, h.kp.hd.cell]; rfl) <| cond_d (fun hh => by omega) (fun _ => hK nl nq gl oq ω w h eo)
    | succ d ih =>
      intro i nl nq gl oq ω w hi h eo
      refine hX _ _ _ _ _ _ _ ?_
      unfold C.tocsinref19_Keeper_Step.S7
      have hn := hkn h
      have hik : i < kq.length := by omega
      have hiM : i < M.length := by omega
      have hx : kq[i]? = some kq[i] := List.getElem?_eq_getElem hik
      have em : (kq[i]).1 = M[i] := by simp [← F.ek]
      have hmem := List.getElem_mem hik
      have e1 : (M.take (i + 1)).filterMap (keepR r now T) = (M.take i).filterMap (keepR r now T) ++ (keepR r now T M[i]).toList := fm_take hiM
      have e2 : (M.take (i + 1)).filterMap (overA r now T) = (M.take i).filterMap (overA r now T) ++ (overA r now T M[i]).toList := fm_take hiM
      have hlen : (insAll N ((M.take i).filterMap (keepR r now T))).length ≤ 40000000 := by
        have a1 := insAll_len (N := N) (L := (M.take i).filterMap (keepR r now T))
        have a2 := List.length_filterMap_le (keepR r now T) (M.take i)
        rw [List.length_take] at a2
        omega
      have hol : oq.length ≤ 20000000 := by
        have a1 := congrArg List.length eo
        have a2 := List.length_filterMap_le (overA r now T) (M.take i)
        rw [List.length_map] at a1
        rw [List.length_take] at a2
        omega
      rw [← em] at e1 e2
      have h16 := F.sM _ hmem
      have next : ∀ nl' nq' gl' oq' ω' w', SR ωb ω' wb w' w0 t ta uo gr r rs now kl kq tl tq nl' nq' (insAll N ((M.take (i + 1)).filterMap (keepR r now T))) gl' oq' → oq'.map (·.1) = (M.take (i + 1)).filterMap (overA r now T) → X (some ⟨gr, 0, none⟩) now tl nl' gl' (IntKind.i64.wrap ((i : Int) + 1)) w' := fun nl' nq' gl' oq' ω' w' h1 h2 => by
        rw [wI64 (by omega) (by omega), show (i : Int) + 1 = ((i + 1 : Nat) : Int) by omega]
        exact ih (i + 1) nl' nq' gl' oq' ω' w' (by omega) h1 h2
      generalize kq[i] = p at *
      refine ptr_at <| cSl_at (s := kl) (by rw [addr_add, h.kp.hd.cell]; rfl) <| cond_d (fun _ => ?_) (fun hh => by omega)
      refine ptr_at <| cSl_at (s := kl) (by rw [addr_add, h.kp.hd.cell]; rfl) <| rdA_at h.kp.row.rd (k := i) rfl hx fun a ac => ac_at ac <| loc_T ω vp p fun g ω1 w1 k1 b1 => ?_
      have h1 := h.non k1
      refine cSl_at (s := p.2) (by rw [b1.cell]; rfl) <| rat_ok (h1.tra F) F.et F.hT (by have := F.lT; omega) (h1.kp.lab p hmem).rd fun w2 k2 => ?_
      have s2 := k2.stp0 ω1
      have h2 := h1.non s2
      have b2 := b1.stp s2
      have hp2 := h2.kp.lab p hmem
      cases hin : inT T p.1 with
      | true =>
        have a1 : keepR r now T p.1 = none := by unfold keepR; rw [if_pos hin]
        have a2 := (stepA_in (r := r) (now := now) hin).2
        rw [a1, Option.toList_none, List.append_nil] at e1
        rw [a2, Option.toList_none, List.append_nil] at e2
        unfold inT at hin
        rw [hin]
        exact cond_t rfl (next nl nq gl oq ω1 w2 (by rw [e1]; exact h2) (by rw [e2]; exact eo))
      | false =>
        have ek := keepR_of (r := r) (now := now) hin
        have hin' := hin
        unfold inT at hin'
        rw [hin']
        refine cond_f rfl <| cI_at (n := p.1.2.1) (by rw [addr_add, b2.cell]; rfl) <| cond_eq (fun hs => ?_) (fun hs => ?_)
        · obtain ⟨a1, a2⟩ := stepA_pend (r := r) (now := now) hin hs
          rw [ek, a1, Option.toList_none, List.append_nil] at e1
          rw [a2, Option.toList_none, List.append_nil] at e2
          exact next nl nq gl oq ω1 w2 (by rw [e1]; exact h2) (by rw [e2]; exact eo)
        · have fin : ∀ (ω3 : Tg) (w3 : World), SR ωb ω3 wb w3 w0 t ta uo gr r rs now kl kq tl tq nl nq (insAll N ((M.take i).filterMap (keepR r now T))) gl oq → BT ω3 w3 vp g 41 (avC (goneA now p.1, p.2)) →
              G.cI .i64 (Addr.add ⟨g, 0, none⟩ 4) w3 fun n61 => G.ptr (some ⟨gr, 0, none⟩) fun p62 => G.cI .i64 (p62.add 4) w3 fun n63 => G.cond (decide ((IntKind.i64.wrap (now - n61)) ≥ n63)) (G.cSl ⟨g, 0, none⟩ w3 fun l64 => G.new (.cells #[l64.v] 22) w3 fun p65 w66 => G.runSl C.pr (Builtin.append_ #[32, 32] 32 #[gl.v, (Sl.v (⟨some p65, 1, 1⟩ : Sl))]) w66 fun l67 w68 => X (some ⟨gr, 0, none⟩) now tl nl l67 (IntKind.i64.wrap ((i : Int) + 1)) w68)
                (G.cSl ⟨g, 0, none⟩ w3 fun l166 => G.cI .i64 (Addr.add ⟨g, 0, none⟩ 1) w3 fun n167 => G.cI .i64 (Addr.add ⟨g, 0, none⟩ 2) w3 fun n168 => G.cI .i64 (Addr.add ⟨g, 0, none⟩ 3) w3 fun n169 => G.cI .i64 (Addr.add ⟨g, 0, none⟩ 4) w3 fun n170 => G.cF .f64 (Addr.add ⟨g, 0, none⟩ 5) w3 fun f171 => C.tocsinref19_put nl l166 n167 n168 n169 n170 f171 w3 fun l75 w76 => X (some ⟨gr, 0, none⟩) now tl l75 gl (IntKind.i64.wrap ((i : Int) + 1)) w76) := fun ω3 w3 h3 b3 => by
            have el := goneA_lab (now := now) p.1
            refine rs_gone F h3 b3 (by rw [el]; exact h3.kp.lab p hmem) (by rw [el]; exact h16) (by omega) (by omega) (fun hge gl' ω' w' h' => ?_) (fun hlt nl' nq' ω' w' h' => ?_)
            · obtain ⟨a1, a2⟩ := stepA_go (r := r) (now := now) hin hs hge
              rw [ek, a1, Option.toList_none, List.append_nil] at e1
              rw [a2] at e2
              refine next nl nq gl' _ ω' w' (by rw [e1]; exact h') ?_
              rw [e2, List.map_append, eo, ← el]; rfl
            · obtain ⟨a1, a2⟩ := stepA_stay (r := r) (now := now) hin hs hlt
              rw [ek, a1] at e1
              rw [a2, Option.toList_none, List.append_nil] at e2
              refine next nl' nq' gl oq ω' w' ?_ (by rw [e2]; exact eo)
              rw [e1, Option.toList_some, insAll_snoc]; exact h'
          refine cI_at (n := p.1.2.2.2.2.1) (by rw [addr_add, b2.cell]; rfl) <| cond_d (fun hlt => ?_) (fun hge => ?_)
          · refine st_TA b2 (by simp [avC]) fun ω3 w3 k3 b3 => ?_
            have sd := drew_stp ω3 w3
            refine fin ω3 w3.drew ((h2.loc F k3).non sd) ?_
            unfold goneA
            rw [if_pos hlt]
            exact b3.stp sd
          · have sd := drew_stp ω1 w2
            refine fin ω1 w2.drew (h2.non sd) ?_
            unfold goneA
            rw [if_neg hge]
            exact b2.stp sd
  exact key kq.length 0 nl nq nilS [] ω w (by omega) (by simpa [insAll] using h) rfl
theorem rs_loop1 (F : SFr ωb wb t ta vp uo kq tq M T) {K : Sl → Int → World → Prop}
    (hK : ∀ nl nq gl oq ω w, SR ωb ω wb w w0 t ta uo gr r rs now kl kq tl tq nl nq (refM r now T M) gl oq → oq.map (·.1) = M.filterMap (overA r now T) → C.tocsinref19_Keeper_Step.S2 K (some ⟨gr, 0, none⟩) nl gl w)
    (h : SR ωb ω wb w w0 t ta uo gr r rs now kl kq tl tq nilS [] [] nilS []) : C.tocsinref19_Keeper_Step.S17 K (some ⟨gr, 0, none⟩) now tl nilS nilS w := by
  have l0 := F.t0
  have l1 := F.l1
  have l2 := F.l2
  have l3 := F.l3
  have lT := F.lT
  have htT : tq.length = T.length := by rw [← F.et, List.length_map]
  have hkM : kq.length = M.length := by rw [← F.ek, List.length_map]
  have htn := rdA_n h.trow.rd
  unfold C.tocsinref19_Keeper_Step.S17
  refine C.tocsinref19_Keeper_Step.L13_ind fun X hX => ?_
  have key : ∀ (d i : Nat) (nl : Sl) (nq : QL) (ω : Tg) (w : World), i + d = tq.length → SR ωb ω wb w w0 t ta uo gr r rs now kl kq tl tq nl nq (insAll [] ((T.map (nx r now M)).take i)) nilS [] → X (some ⟨gr, 0, none⟩) now tl nl nilS (i : Int) w := by
    intro d
    induction d with
    | zero =>
      intro i nl nq ω w hi h
      refine hX _ _ _ _ _ _ _ ?_
      unfold C.tocsinref19_Keeper_Step.S15
      rw [List.take_of_length_le (by rw [List.length_map]; omega)] at h
      refine cond_d (fun hh => by omega) (fun _ => rs_loop2 F ?_ hK h)
      have a1 := insAll_len (N := []) (L := T.map (nx r now M))
      rw [List.length_map, List.length_nil] at a1
      omega
    | succ d ih =>
      intro i nl nq ω w hi h
      refine hX _ _ _ _ _ _ _ ?_
      unfold C.tocsinref19_Keeper_Step.S15
      have hit : i < tq.length := by omega
      have hiT : i < T.length := by omega
      have hx : tq[i]? = some tq[i] := List.getElem?_eq_getElem hit
      have em : (tq[i]).1 = T[i] := by simp [← F.et]
      have hmem := List.getElem_mem hit
      have hiN : i < (T.map (nx r now M)).length := by rw [List.length_map]; exact hiT
      have et := insAll_take hiN []
      rw [List.getElem_map, ← em] at et
      have hlen : (insAll [] ((T.map (nx r now M)).take i)).length ≤ 40000000 := by
        have a1 := insAll_len (N := []) (L := (T.map (nx r now M)).take i)
        rw [List.length_take, List.length_nil] at a1
        omega
      have h16 := F.sT _ hmem
      have next : ∀ nl' nq' ω' w', SR ωb ω' wb w' w0 t ta uo gr r rs now kl kq tl tq nl' nq' (insAll [] ((T.map (nx r now M)).take (i + 1))) nilS [] → X (some ⟨gr, 0, none⟩) now tl nl' nilS (IntKind.i64.wrap ((i : Int) + 1)) w' := fun nl' nq' ω' w' h1 => by
        rw [wI64 (by omega) (by omega), show (i : Int) + 1 = ((i + 1 : Nat) : Int) by omega]
        exact ih (i + 1) nl' nq' ω' w' (by omega) h1
      generalize tq[i] = p at *
      refine cond_d (fun _ => ?_) (fun hh => by omega)
      refine rdA_at h.trow.rd (k := i) rfl hx fun a ac => cSl_at ac.1 <| loc_T ω vp ((p.1.1, 1, now, -1, 0, 0), p.2) fun g ω1 w1 k1 b1 => ?_
      have s1 := k1.trans (drew_stp ω1 w1)
      have h1 := h.non s1
      have b1 := b1.stp (drew_stp ω1 w1)
      refine ptr_at <| cSl_at (s := kl) (by rw [addr_add, h1.kp.hd.cell]; rfl) <| rdA_at h1.trow.rd (k := i) rfl hx fun a2 ac2 => cSl_at ac2.1 <| rat_ok (h1.kra F) F.ek F.hM (by have := F.lM; omega) (h1.tlab p hmem).rd fun w2 k2 => ?_
      have s2 := k2.stp0 ω1
      have h2 := h1.non s2
      have b2 := b1.stp s2
      have hp2 := h2.tlab p hmem
      cases hg : getM M p.1.1 with
      | some y =>
        have enx : nx r now M p.1 = upA r now y p.1.2.2.2.2.2 := by unfold nx; rw [hg]; exact nextA_some ((getM_some F.hM).1 hg).2 _
        rw [enx] at et
        have hpos := posM_some F.hM hg
        obtain ⟨c, hc, ec⟩ : ∃ c, kq[posM M p.1.1]? = some c ∧ c.1 = y := by
          have := hpos
          rw [← F.ek, List.getElem?_map] at this
          obtain ⟨c, hc, e⟩ := Option.map_eq_some_iff.1 this
          rw [F.ek] at hc
          exact ⟨c, hc, e⟩
        have hcm := List.mem_of_getElem? hc
        refine cond_t rfl <| ptr_at <| cSl_at (s := kl) (by rw [addr_add, h2.kp.hd.cell]; rfl) <| rdA_at h2.kp.row.rd (k := posM M p.1.1) rfl hc fun a3 ac3 => ac_at ac3 ?_
        refine st_T b2 (by simp [avC]) fun ω3 w3 k3 b3 => st_TA b3 (by simp [avC]) fun ω4 w4 k4 b4 => st_TA b4 (by simp [avC]) fun ω5 w5 k5 b5 => st_TA b5 (by simp [avC]) fun ω6 w6 k6 b6 => st_TA b6 (by simp [avC]) fun ω7 w7 k7 b7 => st_TA b7 (by simp [avC]) fun ω8 w8 k8 b8 => ?_
        have kk := (((((k3.trans k4).trans k5).trans k6).trans k7).trans k8)
        have h8 := h2.loc F kk
        have b8 : BT ω8 w8 vp g 41 (avC (c.1, c.2)) := b8
        have hyl := h8.kp.lab c hcm
        refine rs_tail F h8 hx b8 hyl (F.sM c hcm) (by omega) fun nl' nq' ω' w' h' => next nl' nq' ω' w' ?_
        rw [et, ← ec]; exact h'
      | none =>
        have enx : nx r now M p.1 = upA r now (p.1.1, 1, now, -1, 0, 0) p.1.2.2.2.2.2 := by unfold nx; rw [hg]; exact nextA_none _ _ _
        rw [enx] at et
        refine cond_f rfl <| rs_tail F h2 hx b2 hp2 h16 (by omega) fun nl' nq' ω' w' h' => next nl' nq' ω' w' ?_
        rw [et]; exact h'
  exact key tq.length 0 nilS [] ω w (by omega) (by simpa [insAll] using h)
theorem rstep_ok {q : PQ} (top : Top w0 ω w) (hr : ruleB r = true) (t0 : 0 < t) (rk : RK ω w t gr r last M) (hM : Good M) (hMl : M.length ≤ 20000000) (hq : RdPs w s q) (hql : q.length ≤ 10000000) {b : Nat} (hqz : ∀ p ∈ q, LbSm b p.1.1) (hb : b ≤ 2000000) {K : Sl → Int → World → Prop}
    (hE : stepE r last now (q.map (·.1)) ≠ 0 → ∀ ω' w', Stp Non ω ω' w w' → K nilS (stepE r last now (q.map (·.1))) w')
    (hOK : stepE r last now (q.map (·.1)) = 0 → ∀ o oq ω' w', Stp (Mem.One t) ω ω' w w' → RK ω' w' t gr r now (stepM r now (toldL r (q.map (·.1))) M) → RdOs w' o oq → oq.map (·.1) = overM r now (toldL r (q.map (·.1))) M → K o 0 w') :
    C.tocsinref19_Keeper_Step (some ⟨gr, 0, none⟩) now s w K := by
  unfold C.tocsinref19_Keeper_Step
  obtain ⟨kl, kq, rs, ka, ek⟩ := rk
  obtain ⟨ta, hta, hfta⟩ := fresh ω w.heap.size (t + 2)
  obtain ⟨vp, hvp, hfvp⟩ := fresh ω w.heap.size ta
  obtain ⟨uo, huo, hfuo⟩ := fresh ω w.heap.size vp
  have ok := rl_of hr
  have bad : ¬ (0 ≤ now ∧ now ≤ 1125899906842624 ∧ last < now) → stepE r last now (q.map (·.1)) = 1 := fun hn => by
    unfold stepE
    refine if_pos ?_
    unfold timeB
    by_cases h1 : 0 ≤ now
    · by_cases h2 : now ≤ 1125899906842624
      · exact .inr (by omega)
      · exact .inl (by rw [decide_eq_false h2, Bool.and_false])
    · exact .inl (by rw [decide_eq_false h1, Bool.false_and])
  have err : ¬ (0 ≤ now ∧ now ≤ 1125899906842624 ∧ last < now) → K nilS 1 w := fun hn => by
    have e := bad hn
    rw [e] at hE
    exact hE (by decide) ω w (Stp.refl _ _ _)
  refine cond_d (fun h1 => err (by omega)) (fun h1 => cond_d (fun h2 => err (by omega)) (fun h2 => ?_))
  refine ptr_at <| cI_at (n := last) (by rw [addr_add, ka.hd.cell]; rfl) <| cond_d (fun h3 => err (by omega)) (fun h3 => ?_)
  have ee : stepE r last now (q.map (·.1)) = toldE r (q.map (·.1)) := by
    unfold stepE timeB
    refine if_neg fun h => ?_
    rw [decide_eq_true (show 0 ≤ now by omega), decide_eq_true (show now ≤ 1125899906842624 by omega)] at h
    rcases h with h | h
    · cases h
    · omega
  rw [ee] at hE hOK
  refine rtold_ok ω hr ka.hd.blk ka.rl.rd hq hql hqz hb ta (t + 2) fun tl tq ω1 w1 k1 e1 e2 => ?_
  by_cases he : toldE r (q.map (·.1)) = 0
  · obtain ⟨ot, et, hlt⟩ := e2 he
    refine cond_ne (fun h => absurd he h) (fun _ => ?_)
    have hTrt := told_rt ok he
    have hTup : (toldL r (q.map (·.1))).Pairwise ltA := toldS_up r _
    have hTlen : (toldL r (q.map (·.1))).length ≤ (q.map (·.1)).length := toldS_len r _
    rw [List.length_map] at hTlen
    have hOK := hOK he
    generalize toldL r (q.map (·.1)) = T at *
    have ka1 := ka.stp k1 (offR_non t)
    refine ptr_at <| st_TA ka1.hd (by simp) fun ω2 w2 k2 b2 => ?_
    have b2 : BT ω2 w2 t gr 59 (rkC r rs kl now) := b2
    have hkl : kq.length = M.length := by rw [← ek, List.length_map]
    have htl : tq.length = T.length := by rw [← et, List.length_map]
    have F : SFr ω w t ta vp uo kq tq M T := ⟨t0, hfvp, hfuo, by omega, hvp, huo, ek, et, hM.up, hTup, fun p hp => (rt_short (hM.rt _ (by rw [← ek]; exact List.mem_map_of_mem hp))).1, fun p hp => (rt_short (hTrt _ (by rw [← et]; exact List.mem_map_of_mem hp))).1, by omega, by omega⟩
    refine rs_loop1 F (fun nl nq gl oq ω3 w3 h3 eo => ?_) ⟨(k1.non _).trans k2, (top.stp k1).stp k2 (beq_no (by omega)), ⟨b2, ka1.rl.stp k2 (beq_no (by omega)), ka1.row.stp k2 (beq_no (by omega)), fun p hp => (ka1.lab p hp).stp k2 (beq_no (by omega))⟩, ot.rt.stp k2 (beq_no (by omega)), fun p hp => (hlt p hp).rt.stp k2 (beq_no (by omega)), RT.nil .., by simp, rfl, List.Pairwise.nil, OT.nil .., by simp⟩
    unfold C.tocsinref19_Keeper_Step.S2
    rw [ref_eq hTup hM.up] at h3
    rw [over_eq hTup hM.up] at eo
    refine ptr_at <| st_TA h3.kp.hd (by simp) fun ω4 w4 k4 b4 => ?_
    refine hOK gl oq ω4 w4 (h3.sp.trans k4) ⟨nl, nq, rs, ⟨b4, h3.kp.rl.stp k4 (beq_no (by omega)), h3.nrow.stp k4 (beq_no (by omega)), fun p hp => (h3.nlab p hp).1.stp k4 (beq_no (by omega))⟩, h3.en⟩ ⟨(h3.grow.stp k4 (beq_no (by omega))).rd, fun p hp => ⟨((h3.glab p hp).1.stp k4 (beq_no (by omega))).rd, by have := (h3.glab p hp).2; omega⟩⟩ eo
  · have := hE he ω1 w1 k1
    rw [e1 he]
    exact cond_ne (fun _ => this) (fun h => absurd h he)
end Go.Proofs.YtechilkjfhpkpaaGreatDoor.Ru

namespace Go.Proofs.YtechilkjfhpkpaaGreatDoor.Ru
open Go Vm Go.RowKit Num Mem Utf Lib Lab Rep
variable {ω ω' ωb : Tg} {w w' w0 : World} {t u v : Nat} {T : Nat → Bool} {r : Rl} {s a l : Sl} {ql : QL} {oq : OQ} {q : PQ}
theorem own9b_ok {m : List Lb} (h : Rd w s 2 (labs m)) (hm : m.length ≤ 100000000) {K : Sl → World → Prop} (hK : ∀ r w', Keep w w' → Mem.Own w' w.heap.size 99 2 r (labs m) → K r w') : C.tocsinref09_Own s w K := by
  have hn := rdL_n h
  unfold C.tocsinref09_Own
  refine app_T tiL (OT.nil (fun _ => 0) w 5 99 2) h labs_one (by simp only [maxLen]; omega) (by simp only []; omega) fun r ω' w' k o _ => ?_
  have top := (Top.init w).stp k
  rw [List.nil_append] at o
  exact hK r w' top.k (OT.new o top)
theorem pts_snoc (q : PQ) (p : Pt × Sl) : pts (q ++ [p]) = pts q ++ ptC p := by rw [pts_app]; simp [pts]
theorem copyP_ok (ω : Tg) (u v : Nat) (hq : RdPs w s q) (hl : q.length ≤ 10000000) (hz : ∀ p ∈ q, p.1.1.length ≤ 100000000) {K : Sl → World → Prop}
    (hK : ∀ r q' ω' w', Stp Non ω ω' w w' → OT ω' w' u 45 2 r (pts q') → q'.map (·.1) = q.map (·.1) → (∀ p ∈ q', OT ω' w' v 99 2 p.2 (labs p.1.1)) → K r w') : C.tocsinref11_CopyPoints s w K := by
  unfold C.tocsinref11_CopyPoints C.tocsinref11_CopyPoints.S9
  have hsn := rdP_n hq.row
  refine C.tocsinref11_CopyPoints.L5_ind fun X hX => ?_
  have key : ∀ (d i : Nat) (o : Sl) (q' : PQ) (ωl : Tg) (w2 : World), i + d = q.length → Top w ωl w2 → OT ωl w2 5 45 2 o (pts q') → q'.map (·.1) = (q.take i).map (·.1) → (∀ p ∈ q', OT ωl w2 6 99 2 p.2 (labs p.1.1)) → X s o (i : Int) w2 := by
    intro d
    induction d with
    | zero =>
      intro i o q' ωl w2 hi top oo eq hlab
      refine hX _ _ _ _ ?_
      unfold C.tocsinref11_CopyPoints.S7 C.tocsinref11_CopyPoints.S2
      rw [List.take_of_length_le (by omega)] at eq
      exact cond_d (fun h => by omega) (fun _ => hK o q' (rtg ω ωl w.heap.size (ft u v)) w2 (rtg_stp top.k ω ωl _) (oo.rtg top (ft u v)) eq fun p hp => (hlab p hp).rtg top (ft u v))
    | succ d ih =>
      intro i o q' ωl w2 hi top oo eq hlab
      refine hX _ _ _ _ ?_
      unfold C.tocsinref11_CopyPoints.S7
      have hiq : i < q.length := by omega
      have hx : q[i]? = some q[i] := List.getElem?_eq_getElem hiq
      have hmem := List.getElem_mem hiq
      have et : (q.take (i + 1)).map (·.1) = (q.take i).map (·.1) ++ [(q[i]).1] := by rw [List.take_succ_eq_append_getElem hiq, List.map_append]; rfl
      have hol := congrArg List.length eq
      rw [List.length_map, List.length_map, List.length_take] at hol
      have hon := rdP_n oo.rd
      have hzz := hz _ hmem
      generalize q[i] = p at *
      have kd := Keep.trans top.k (Keep.drew w2)
      have sd := drew_stp ωl w2
      refine cond_d (fun _ => ?_) (fun h => by omega)
      refine rdP_at (hq.row.keep kd) (k := i) rfl hx fun a a0 a1 => cSl_at a0 <| rdP_at (hq.row.keep kd) (k := i) rfl hx fun a' a0' a1' => cF_at a1' ?_
      refine own9b_ok ((hq.el _ hmem).keep kd) hzz fun r3 w3 k3 o3 => ⟨?_, ?_⟩
      · exact same_stp (T := Non) (k3.stp0 ωl) (cell_lt a1') rfl
      have s3 := k3.stp ωl 6
      have ot3 : OT (ext ωl w2.drew.heap.size 6) w3 6 99 2 r3 (labs p.1.1) := Own.tag o3 (Nat.le_refl _) ωl 6
      have top3 := (top.stp sd).stp s3
      have oo3 := (oo.stp sd).stp s3
      have hlab3 : ∀ p ∈ q', OT (ext ωl w2.drew.heap.size 6) w3 6 99 2 p.2 (labs p.1.1) := fun p hp => ((hlab p hp).stp sd).stp s3
      generalize ext ωl w2.drew.heap.size 6 = ω3 at *
      refine push_T (n := 1) tiP oo3 rfl (by intro v hv; simp at hv; rcases hv with rfl | rfl <;> rfl) (by simp only [maxLen]; omega) (by omega) fun r4 ω4 w4 k4 o4 _ => ?_
      rw [wI64 (by omega) (by omega), show (i : Int) + 1 = ((i + 1 : Nat) : Int) by omega]
      refine ih (i + 1) r4 (q' ++ [(p.1, r3)]) ω4 w4 (by omega) (top3.stp k4) (by rw [pts_snoc]; exact o4) (by rw [List.map_append, eq, et]; rfl) fun p' hp => ?_
      rcases List.mem_append.1 hp with hp | hp
      · exact (hlab3 p' hp).stp k4
      · rw [List.mem_singleton.1 hp]; exact ot3.stp k4
  exact key q.length 0 nilS [] (fun _ => 0) w (by omega) (Top.init w) (OT.nil ..) (by simp) (by simp)
theorem samePts_ok {b : Sl} {x y : PQ} (ha : RdPs w0 a x) (hb : RdPs w0 b y) (e : x.map (·.1) = y.map (·.1)) (hz : ∀ p ∈ x, p.1.1.length ≤ 9000000000000000000) (hl : x.length ≤ 1000000000000) {K : Bool → World → Prop} (hK : ∀ w', Keep w0 w' → K true w') : C.tocsinref11_SamePoints a b w0 K := by
  have hna := rdP_n ha.row
  have hnb := rdP_n hb.row
  have hlen := congrArg List.length e
  rw [List.length_map, List.length_map] at hlen
  unfold C.tocsinref11_SamePoints C.tocsinref11_SamePoints.S9
  refine cond_ne (fun h => absurd (by omega) h) (fun _ => ?_)
  refine C.tocsinref11_SamePoints.L5_ind fun X hX => ?_
  have key : ∀ (d i : Nat) (w : World), i + d = x.length → Keep w0 w → X a b (i : Int) w := by
    intro d
    induction d with
    | zero =>
      intro i w hi k
      refine hX _ _ _ _ ?_
      unfold C.tocsinref11_SamePoints.S7 C.tocsinref11_SamePoints.S2
      exact cond_d (fun hh => by omega) (fun _ => hK w k)
    | succ d ih =>
      intro i w hi k
      refine hX _ _ _ _ ?_
      unfold C.tocsinref11_SamePoints.S7
      have hix : i < x.length := by omega
      have hiy : i < y.length := by omega
      have hxi : x[i]? = some x[i] := List.getElem?_eq_getElem hix
      have hyi : y[i]? = some y[i] := List.getElem?_eq_getElem hiy
      have hxy : (x[i]).1 = (y[i]).1 := by
        have h1 : (x.map (·.1))[i]? = some (x[i]).1 := by rw [List.getElem?_map, hxi]; rfl
        rw [e, List.getElem?_map, hyi] at h1
        exact (Option.some.inj h1).symm
      have hmx := List.getElem_mem hix
      have hmy := List.getElem_mem hiy
      generalize x[i] = p at *
      generalize y[i] = p' at *
      have kd := Keep.trans k (Keep.drew w)
      refine cond_d (fun _ => ?_) (fun hh => by omega)
      refine rdP_at (ha.row.keep kd) (k := i) rfl hxi fun a1 c1 _ => cSl_at c1 <| rdP_at (hb.row.keep kd) (k := i) rfl hyi fun a2 c2 _ => cSl_at c2 ?_
      refine rsame_ok ((ha.el _ hmx).keep kd) ((hb.el _ hmy).keep kd) (hz _ hmx) fun w3 k3 => ?_
      have k03 := Keep.trans kd k3
      rw [decide_eq_true (by rw [hxy])]
      refine cond_f rfl <| rdP_at (ha.row.keep k03) (k := i) rfl hxi fun a1 _ c1 => cF_at c1 <| rdP_at (hb.row.keep k03) (k := i) rfl hyi fun a2 _ c2 => cF_at c2 <| bits_ok ⟨⟨rfl, fun _ _ => rfl⟩, bits_ok <| cond_ne (fun h => absurd (by rw [hxy]) h) (fun _ => ?_)⟩
      rw [wI64 (by omega) (by omega), show (i : Int) + 1 = ((i + 1 : Nat) : Int) by omega]
      exact ih (i + 1) w3 (by omega) k03
  exact key x.length 0 w0 (by omega) (Keep.refl w0)
def WB (ω : Tg) (w : World) (v : Nat) (s : Sl) : Prop := s.n ≤ 100000000 ∧ (s.n = 0 ∨ ∃ g e cs, s.a = some ⟨g, 0, none⟩ ∧ BT ω w v g e cs ∧ s.n * 2 ≤ cs.length)
theorem WB.stp (h : WB ω w v s) (k : Stp T ω ω' w w') (hT : T v = false) : WB ω' w' v s := ⟨h.1, h.2.imp_right fun ⟨g, e, cs, ha, hb, hl⟩ => ⟨g, e, cs, ha, hb.stp k hT, hl⟩⟩
theorem OT.wb {e : TypeId} {xs : List Value} (h : OT ω w v e 2 s xs) (hs : s.n ≤ 100000000) : WB ω w v s := by
  refine ⟨hs, ?_⟩
  rcases h.cases with ⟨rfl, _⟩ | ⟨g, cur, ha, hb, hn, hm, hl, ht⟩
  · exact .inl rfl
  · exact .inr ⟨g, e, cur, ha, hb, by rw [hl]; exact Nat.mul_le_mul_right _ hn⟩
theorem st_W {g j : Nat} {e : TypeId} {cs : List Value} {val : Value} (hb : BT ω w v g e cs) (hj : j < cs.length) {K : World → Prop} (hK : ∀ ω' w', Stp (Mem.One v) ω ω' w w' → (∀ s, WB ω w v s → WB ω' w' v s) → K w') : G.st ⟨g, j, none⟩ val w K := by
  refine st_at (by rw [hb.cell, List.getElem?_eq_getElem hj]) (hb.blk.frozen j) (hK (ext ω w.heap.size v) _ (Chg.stp (setCell_chg w g j val) fun k hk => by rw [hk]; exact hb.tag) fun s hs => ⟨hs.1, hs.2.imp_right ?_⟩)
  rintro ⟨g2, e2, cs2, ha, hb2, hl⟩
  by_cases he : g2 = g
  · subst he
    obtain ⟨rfl, rfl⟩ := hb2.blk.uniq hb.blk
    exact ⟨g2, e2, _, ha, ⟨hb2.blk.set j val, by rw [ext_old hb2.blk.lt]; exact hb2.tag⟩, by rw [List.length_set]; exact hl⟩
  · refine ⟨g2, e2, cs2, ha, ⟨?_, by rw [ext_old hb2.blk.lt]; exact hb2.tag⟩, hl⟩
    unfold Blk
    rw [Below.heap_setCell _ _ _ _ he]; exact hb2.blk
theorem wb_st {k : Nat} (h : WB ω w v s) (hk : k < s.n) {val : Value} {K : World → Prop} (hK : ∀ ω' w', Stp (Mem.One v) ω ω' w w' → (∀ s, WB ω w v s → WB ω' w' v s) → K w') : G.ix s.a s.n (k : Int) 2 fun p => G.st (p.add 1) val w K := by
  rcases h.2 with h | ⟨g, e, cs, ha, hb, hl⟩
  · omega
  · rw [ha]
    refine ⟨⟨by omega, by omega⟩, ?_⟩
    rw [Int.toNat_natCast, addr_add]
    show G.st (Addr.add ⟨g, 0 + k * 2, none⟩ 1) val w K
    rw [addr_add]
    exact st_W hb (by omega) hK
theorem spoilL_ok (huv : u ≠ v) (ol : RT ω w u l 1 (sls oq)) (hl : oq.length ≤ 100000000) (hw : ∀ p ∈ oq, WB ω w v p.2) {K : World → Prop} (hK : ∀ ω' w', Stp (Mem.One v) ω ω' w w' → K w') : C.tocsinlaw19_spoil.S18 K l w := by
  have hn := sls_n ol.rd
  unfold C.tocsinlaw19_spoil.S18
  refine C.tocsinlaw19_spoil.L3_ind fun X hX => ?_
  have key : ∀ (d i : Nat) (ω1 : Tg) (w1 : World), i + d = oq.length → Stp (Mem.One v) ω ω1 w w1 → RT ω1 w1 u l 1 (sls oq) → (∀ p ∈ oq, WB ω1 w1 v p.2) → X l (i : Int) w1 := by
    intro d
    induction d with
    | zero =>
      intro i ω1 w1 hi sp o1 hw1
      refine hX _ _ _ ?_
      unfold C.tocsinlaw19_spoil.S16
      exact cond_d (fun hh => by omega) (fun _ => hK ω1 w1 sp)
    | succ d ih =>
      intro i ω1 w1 hi sp o1 hw1
      refine hX _ _ _ ?_
      unfold C.tocsinlaw19_spoil.S16
      refine cond_d (fun _ => ?_) (fun hh => by omega)
      unfold C.tocsinlaw19_spoil.S13
      refine C.tocsinlaw19_spoil.L9_ind fun Y hY => ?_
      have hiq : i < oq.length := by omega
      have hx : oq[i]? = some oq[i] := List.getElem?_eq_getElem hiq
      have hm := List.getElem_mem hiq
      generalize oq[i] = p at *
      have hb := (hw1 p hm).1
      have inner : ∀ (d2 k : Nat) (ω2 : Tg) (w2 : World), k + d2 = p.2.n → Stp (Mem.One v) ω ω2 w w2 → RT ω2 w2 u l 1 (sls oq) → (∀ p ∈ oq, WB ω2 w2 v p.2) → Y l (i : Int) (k : Int) w2 := by
        intro d2
        induction d2 with
        | zero =>
          intro k ω2 w2 hk sp2 o2 hw2
          refine hY _ _ _ _ ?_
          unfold C.tocsinlaw19_spoil.S11 C.tocsinlaw19_spoil.S5
          refine rdO_at o2.rd (k := i) rfl hx fun a ca => cSl_at ca <| cond_d (fun hh => by omega) fun _ => ?_
          rw [wI64 (by omega) (by omega), show (i : Int) + 1 = ((i + 1 : Nat) : Int) by omega]
          exact ih (i + 1) ω2 w2 (by omega) sp2 o2 hw2
        | succ d2 ih2 =>
          intro k ω2 w2 hk sp2 o2 hw2
          refine hY _ _ _ _ ?_
          unfold C.tocsinlaw19_spoil.S11
          refine rdO_at o2.rd (k := i) rfl hx fun a ca => cSl_at ca <| cond_d (fun _ => ?_) (fun hh => by omega)
          refine rdO_at o2.rd (k := i) rfl hx fun a ca => cSl_at ca <| wb_st (hw2 p hm) (by omega) fun ω3 w3 k3 hall => ?_
          rw [wI64 (by omega) (by omega), show (k : Int) + 1 = ((k + 1 : Nat) : Int) by omega]
          exact ih2 (k + 1) ω3 w3 (by omega) (sp2.trans k3) (o2.stp k3 (beq_no huv)) fun p hp => hall _ (hw2 p hp)
      exact inner p.2.n 0 ω1 w1 (by omega) sp o1 hw1
  exact key oq.length 0 ω w (by omega) (Stp.refl _ _ _) ol hw
def SpI (e : TypeId) (sz : Nat) (ω : Tg) (w : World) (u v : Nat) (l : Sl) (n i : Nat) : Prop := ∃ xs, OT ω w u e sz l xs ∧ xs.length = n * sz ∧ ∀ j, i ≤ j → j < n → ∃ s : Sl, xs[j * sz]? = some s.v ∧ WB ω w v s
theorem spoilA_ok (huv : u ≠ v) {n : Nat} (hln : a.n = n) (hn : n ≤ 100000000) (h : SpI 41 6 ω w u v a n 0) {K : World → Prop} (hK : ∀ ω' w', Stp (Duo u v) ω ω' w w' → C.tocsinlaw19_spoil.S18 K l w') : C.tocsinlaw19_spoil a l w K := by
  unfold C.tocsinlaw19_spoil C.tocsinlaw19_spoil.S39
  refine C.tocsinlaw19_spoil.L21_ind fun X hX => ?_
  have key : ∀ (d i : Nat) (ω1 : Tg) (w1 : World), i + d = n → Stp (Duo u v) ω ω1 w w1 → SpI 41 6 ω1 w1 u v a n i → X a l (i : Int) w1 := by
    intro d
    induction d with
    | zero =>
      intro i ω1 w1 hi sp hs
      refine hX _ _ _ _ ?_
      unfold C.tocsinlaw19_spoil.S37
      exact cond_d (fun hh => by omega) (fun _ => hK ω1 w1 sp)
    | succ d ih =>
      intro i ω1 w1 hi sp hs
      refine hX _ _ _ _ ?_
      unfold C.tocsinlaw19_spoil.S37
      refine cond_d (fun _ => ?_) (fun hh => by omega)
      unfold C.tocsinlaw19_spoil.S33
      refine C.tocsinlaw19_spoil.L29_ind fun Y hY => ?_
      obtain ⟨xs0, o0, hx0, hw0⟩ := hs
      obtain ⟨s, hs0, hws⟩ := hw0 i (Nat.le_refl _) (by omega)
      have hsb := hws.1
      have inner : ∀ (d2 k : Nat) (ω2 : Tg) (w2 : World), k + d2 = s.n → Stp (Duo u v) ω ω2 w w2 → OT ω2 w2 u 41 6 a xs0 → (∀ j, i ≤ j → j < n → ∃ s : Sl, xs0[j * 6]? = some s.v ∧ WB ω2 w2 v s) → WB ω2 w2 v s → Y a l (i : Int) (k : Int) w2 := by
        intro d2
        induction d2 with
        | zero =>
          intro k ω2 w2 hk sp2 o2 hw2 hws2
          refine hY _ _ _ _ _ ?_
          unfold C.tocsinlaw19_spoil.S31
          refine o2.at_ (k := i) rfl (by omega) fun p hp _ _ hc => ?_
          have c0 := hc 0 s.v (by decide) (by simpa using hs0)
          rw [show p.add 0 = p by simp [Addr.add]] at c0
          refine cSl_at c0 <| cond_d (fun hh => by omega) fun _ => ?_
          unfold C.tocsinlaw19_spoil.S26
          refine o2.at_ (k := i) rfl (by omega) fun p1 hp1 _ _ _ => ?_
          refine o2.st (i := i) (j := 2) (by omega) (by decide) _ hp1 fun ω3 w3 k3 o3 => ?_
          unfold C.tocsinlaw19_spoil.S23
          rw [wI64 (by omega) (by omega), show (i : Int) + 1 = ((i + 1 : Nat) : Int) by omega]
          refine ih (i + 1) ω3 w3 (by omega) (sp2.trans k3.one) ⟨_, o3, by simp only [List.length_set]; exact hx0, fun j hj hjn => ?_⟩
          obtain ⟨sj, hsj, hwj⟩ := hw2 j (by omega) hjn
          refine ⟨sj, ?_, hwj.stp k3 (beq_no (Ne.symm huv))⟩
          rw [List.getElem?_set_ne (by omega)]
          exact hsj
        | succ d2 ih2 =>
          intro k ω2 w2 hk sp2 o2 hw2 hws2
          refine hY _ _ _ _ _ ?_
          unfold C.tocsinlaw19_spoil.S31
          have rd : ∀ {Z : Sl → Prop}, Z s → G.ix a.a a.n (i : Int) 6 fun p => G.cSl p w2 Z := fun {Z} hz => o2.at_ (k := i) rfl (by omega) fun p hp _ _ hc => by
            have c0 := hc 0 s.v (by decide) (by simpa using hs0)
            rw [show p.add 0 = p by simp [Addr.add]] at c0
            exact cSl_at c0 hz
          refine rd <| cond_d (fun _ => ?_) (fun hh => by omega)
          refine rd <| wb_st hws2 (by omega) fun ω3 w3 k3 hall => ?_
          rw [wI64 (by omega) (by omega), show (k : Int) + 1 = ((k + 1 : Nat) : Int) by omega]
          exact ih2 (k + 1) ω3 w3 (by omega) (sp2.trans k3.two) (o2.stp k3 (beq_no huv)) (fun j hj hjn => (hw2 j hj hjn).imp fun sj h => ⟨h.1, hall sj h.2⟩) (hall s hws2)
      exact inner s.n 0 ω1 w1 (by omega) sp o0 hw0 hws
  exact key n 0 ω w (by omega) (Stp.refl _ _ _) h
theorem spoilP_ok (huv : u ≠ v) {n : Nat} (hln : a.n = n) (hn : n ≤ 100000000) (h : SpI 45 2 ω w u v a n 0) {K : World → Prop} (hK : ∀ ω' w', Stp (Duo u v) ω ω' w w' → K w') : C.tocsinref11_SpoilPoints a w K := by
  unfold C.tocsinref11_SpoilPoints
  refine C.tocsinref11_SpoilPoints.L3_ind fun X hX => ?_
  have key : ∀ (d i : Nat) (ω1 : Tg) (w1 : World), i + d = n → Stp (Duo u v) ω ω1 w w1 → SpI 45 2 ω1 w1 u v a n i → X a (i : Int) w1 := by
    intro d
    induction d with
    | zero =>
      intro i ω1 w1 hi sp hs
      refine hX _ _ _ ?_
      unfold C.tocsinref11_SpoilPoints.S19
      exact cond_d (fun hh => by omega) (fun _ => hK ω1 w1 sp)
    | succ d ih =>
      intro i ω1 w1 hi sp hs
      refine hX _ _ _ ?_
      unfold C.tocsinref11_SpoilPoints.S19
      refine cond_d (fun _ => ?_) (fun hh => by omega)
      unfold C.tocsinref11_SpoilPoints.S15
      refine C.tocsinref11_SpoilPoints.L11_ind fun Y hY => ?_
      obtain ⟨xs0, o0, hx0, hw0⟩ := hs
      obtain ⟨s, hs0, hws⟩ := hw0 i (Nat.le_refl _) (by omega)
      have hsb := hws.1
      have inner : ∀ (d2 k : Nat) (ω2 : Tg) (w2 : World), k + d2 = s.n → Stp (Duo u v) ω ω2 w w2 → OT ω2 w2 u 45 2 a xs0 → (∀ j, i ≤ j → j < n → ∃ s : Sl, xs0[j * 2]? = some s.v ∧ WB ω2 w2 v s) → WB ω2 w2 v s → Y a (i : Int) (k : Int) w2 := by
        intro d2
        induction d2 with
        | zero =>
          intro k ω2 w2 hk sp2 o2 hw2 hws2
          refine hY _ _ _ _ ?_
          unfold C.tocsinref11_SpoilPoints.S13
          refine o2.at_ (k := i) rfl (by omega) fun p hp _ _ hc => ?_
          have c0 := hc 0 s.v (by decide) (by simpa using hs0)
          rw [show p.add 0 = p by simp [Addr.add]] at c0
          refine cSl_at c0 <| cond_d (fun hh => by omega) fun _ => ?_
          unfold C.tocsinref11_SpoilPoints.S8
          refine o2.at_ (k := i) rfl (by omega) fun p1 hp1 _ _ _ => ?_
          refine o2.st (i := i) (j := 1) (by omega) (by decide) _ hp1 fun ω3 w3 k3 o3 => ?_
          refine o3.at_ (k := i) rfl (by omega) fun p2 hp2 _ _ _ => ?_
          have e0 : p2 = p2.add 0 := by simp [Addr.add]
          rw [e0]
          refine o3.st (i := i) (j := 0) (by omega) (by decide) _ hp2 fun ω4 w4 k4 o4 => ?_
          unfold C.tocsinref11_SpoilPoints.S5
          rw [wI64 (by omega) (by omega), show (i : Int) + 1 = ((i + 1 : Nat) : Int) by omega]
          have k34 := k3.trans k4
          refine ih (i + 1) ω4 w4 (by omega) (sp2.trans k34.one) ⟨_, o4, by simp only [List.length_set]; exact hx0, fun j hj hjn => ?_⟩
          obtain ⟨sj, hsj, hwj⟩ := hw2 j (by omega) hjn
          refine ⟨sj, ?_, hwj.stp k34 (beq_no (Ne.symm huv))⟩
          rw [List.getElem?_set_ne (by omega), List.getElem?_set_ne (by omega)]
          exact hsj
        | succ d2 ih2 =>
          intro k ω2 w2 hk sp2 o2 hw2 hws2
          refine hY _ _ _ _ ?_
          unfold C.tocsinref11_SpoilPoints.S13
          have rd : ∀ {Z : Sl → Prop}, Z s → G.ix a.a a.n (i : Int) 2 fun p => G.cSl p w2 Z := fun {Z} hz => o2.at_ (k := i) rfl (by omega) fun p hp _ _ hc => by
            have c0 := hc 0 s.v (by decide) (by simpa using hs0)
            rw [show p.add 0 = p by simp [Addr.add]] at c0
            exact cSl_at c0 hz
          refine rd <| cond_d (fun _ => ?_) (fun hh => by omega)
          refine rd <| wb_st hws2 (by omega) fun ω3 w3 k3 hall => ?_
          rw [wI64 (by omega) (by omega), show (k : Int) + 1 = ((k + 1 : Nat) : Int) by omega]
          exact ih2 (k + 1) ω3 w3 (by omega) (sp2.trans k3.two) (o2.stp k3 (beq_no huv)) (fun j hj hjn => (hw2 j hj hjn).imp fun sj h => ⟨h.1, hall sj h.2⟩) (hall s hws2)
      exact inner s.n 0 ω1 w1 (by omega) sp o0 hw0 hws
  exact key n 0 ω w (by omega) (Stp.refl _ _ _) h
end Go.Proofs.YtechilkjfhpkpaaGreatDoor.Ru

namespace Go.Proofs.YtechilkjfhpkpaaGreatDoor.Ru
open Go Vm Go.RowKit Num Mem Utf Lib Lab Rep
variable {ω ω' ωb : Tg} {w w' w0 wb : World} {t gs gr : Nat} {T : Nat → Bool} {M : List Av} {r : Rl} {now last : Int} {s sl a l lv qs : Sl} {ql : QL} {oq : OQ} {q : PQ}
def Ev : Nat → Bool := fun u => !(Nat.beq u 0 || Nat.beq u 9)
theorem ev_of (k : Stp T ω ω' w w') (h0 : T 0 = false) (h9 : T 9 = false) : Stp Ev ω ω' w w' := k.mono fun u hu => by
  unfold Ev at hu
  rw [Bool.not_eq_false', Bool.or_eq_true] at hu
  rcases hu with hu | hu
  · rw [Nat.eq_of_beq_eq_true hu]; exact h0
  · rw [Nat.eq_of_beq_eq_true hu]; exact h9
theorem ev0 : Ev 0 = false := rfl
theorem ev9 : Ev 9 = false := rfl
theorem duo_no {u a b : Nat} (h1 : u ≠ a) (h2 : u ≠ b) : Duo a b u = false := by unfold Duo; rw [beq_no h1, beq_no h2]; rfl
theorem last_ok {K : Int → World → Prop} (ks : KS ω w t gs r last M) (hK : K last w) : C.rules_Keeper_Last (some ⟨gs, 0, none⟩) w K := by
  obtain ⟨gm, pl, rs, ka, hp⟩ := ks
  unfold C.rules_Keeper_Last
  exact cond_f rfl <| ptr_at <| cI_at (n := last) (by rw [addr_add, ka.hd.cell]; rfl) hK
theorem spA_of {u v n : Nat} (o : OT ω w u 41 6 a (avs ql)) (hn : n = ql.length) (he : ∀ p ∈ ql, OT ω w v 99 2 p.2 (labs p.1.1)) (h16 : ∀ p ∈ ql, p.1.1.length ≤ 100000000) : SpI 41 6 ω w u v a n 0 := by
  subst hn
  refine ⟨avs ql, o, avs_len ql, fun j _ hj => ?_⟩
  have hx : ql[j]? = some ql[j] := List.getElem?_eq_getElem hj
  have hm := List.getElem_mem hj
  refine ⟨(ql[j]).2, (by have := avs_at ql j _ hx 0 (by decide); simpa [avC] using this), OT.wb (he _ hm) ?_⟩
  have := rdL_n (he _ hm).rd
  have := h16 _ hm
  omega
theorem spP_of {u v n : Nat} (o : OT ω w u 45 2 lv (pts q)) (hn : n = q.length) (he : ∀ p ∈ q, OT ω w v 99 2 p.2 (labs p.1.1)) (h16 : ∀ p ∈ q, p.1.1.length ≤ 100000000) : SpI 45 2 ω w u v lv n 0 := by
  subst hn
  refine ⟨pts q, o, pts_len q, fun j _ hj => ?_⟩
  have hx : q[j]? = some q[j] := List.getElem?_eq_getElem hj
  have hm := List.getElem_mem hj
  refine ⟨(q[j]).2, (by have := (pts_at q j _ hx).1; simpa using this), OT.wb (he _ hm) ?_⟩
  have := rdL_n (he _ hm).rd
  have := h16 _ hm
  omega
theorem RK.ra (rk : RK ω w t gr r last M) (hM : Good M) : ∃ l ql, w.cell? ⟨gr, 6, none⟩ = some (Sl.v l) ∧ w.cell? ⟨gr, 7, none⟩ = some (.int .i64 last) ∧ gr < w.heap.size ∧ ω gr = t ∧ RdAs w l ql ∧ ql.map (·.1) = M := by
  obtain ⟨l, ql, rs, ka, e⟩ := rk
  refine ⟨l, ql, by rw [ka.hd.cell]; rfl, by rw [ka.hd.cell]; rfl, ka.hd.blk.lt, ka.hd.tag, ⟨ka.row.rd, fun p hp => ⟨(ka.lab p hp).rd, ?_⟩⟩, e⟩
  have := (rt_short (hM.rt p.1 (by rw [← e]; exact List.mem_map_of_mem hp))).1
  omega
theorem both_ok (ks : KS ω w 1 gs r last M) (rk : RK ω w 10 gr r last M) (hM : Good M) (hMl : M.length ≤ 20000000) {Z : Bool → World → Prop}
    (hZ : ∀ ω' w', Stp Non ω ω' w w' → KS ω' w' 1 gs r last M → RK ω' w' 10 gr r last M → Z true w') :
    G.ptr (some ⟨gr, 0, none⟩) fun p21 => G.cSl (p21.add 6) w.drew fun l22 => C.rules_Keeper_Active (some ⟨gs, 0, none⟩) w.drew fun l23 w24 => sameAt (p21.add 6) 1 w.drew w24 ∧ (C.tocsinref19_Same l23 l22 w24 Z) := by
  have sd := drew_stp ω w
  have ksd := ks.stp sd (off_non 1)
  have rkd := rk.stp sd (offR_non 10)
  obtain ⟨kl, kq, c6, c7, hlt, htg, ra, ek⟩ := rkd.ra hM
  refine ptr_at <| cSl_at (s := kl) (by rw [addr_add]; exact c6) ?_
  refine kactive_ok ω ksd hM (by omega) 40 41 fun a7 ql7 ω7 w7 k7 oa7 e7 he7 => ⟨?_, ?_⟩
  · exact same_stp (T := Non) k7 (by rw [addr_add]; exact hlt) rfl
  have hl7 := congrArg List.length e7
  rw [List.length_map] at hl7
  refine asame_ok (rdA_of oa7 e7 he7 hM.rt) (ra.keep k7.keep) (by omega) fun w8 k8 => ?_
  rw [decide_eq_true (e7.trans ek.symm)]
  have s8 := sd.trans (k7.trans (k8.stp0 ω7))
  exact hZ ω7 w8 s8 (ks.stp s8 (off_non 1)) (rk.stp s8 (offR_non 10))
theorem lasts_ok (ks : KS ω w 1 gs r last M) (rk : RK ω w 10 gr r last M) (hM : Good M) {Z : Int → Int → World → Prop} (hZ : Z last last w) :
    G.ptr (some ⟨gr, 0, none⟩) fun p27 => G.cI .i64 (p27.add 7) w fun n28 => C.rules_Keeper_Last (some ⟨gs, 0, none⟩) w fun n29 w30 => sameAt (p27.add 7) 1 w w30 ∧ Z n29 n28 w30 := by
  obtain ⟨kl, kq, c6, c7, hlt, htg, ra, ek⟩ := rk.ra hM
  exact ptr_at <| cI_at (n := last) (by rw [addr_add]; exact c7) <| last_ok ks ⟨⟨rfl, fun _ _ => rfl⟩, hZ⟩
theorem step_S2 {ua va uo vo n n' : Nat} (h1 : 30 < ua) (h2 : ua < va) (h3 : va < uo) (h4 : uo < vo) (ks : KS ω w 1 gs r last M) (rk : RK ω w 10 gr r last M) (hM : Good M) (hMl : M.length ≤ 20000000)
    (ha : SpI 41 6 ω w ua va a n 0) (han : a.n = n) (hn : n ≤ 100000000) (hl : RT ω w uo l 1 (sls oq)) (hol : oq.length ≤ 100000000) (hlw : ∀ p ∈ oq, WB ω w vo p.2) (hv : SpI 45 2 ω w 20 21 lv n' 0) (hvn : lv.n = n') (hn' : n' ≤ 100000000) {K : Bool → World → Prop}
    (hK : ∀ ω' w', Stp Ev ω ω' w w' → KS ω' w' 1 gs r last M → RK ω' w' 10 gr r last M → K true w') : C.tocsinlaw19_step.S2 K (some ⟨gs, 0, none⟩) (some ⟨gr, 0, none⟩) lv a l w := by
  unfold C.tocsinlaw19_step.S2
  refine spoilA_ok (Nat.ne_of_lt h2) han hn ha fun ω1 w1 k1 => ?_
  have off1 : ∀ {x : Nat}, x ≠ ua → x ≠ va → Duo ua va x = false := fun h h' => duo_no h h'
  have ks1 := ks.stp k1 ⟨off1 (by omega) (by omega), off1 (by omega) (by omega), off1 (by omega) (by omega), off1 (by omega) (by omega)⟩
  have rk1 := rk.stp k1 ⟨off1 (by omega) (by omega), off1 (by omega) (by omega), off1 (by omega) (by omega), off1 (by omega) (by omega)⟩
  refine spoilL_ok (Nat.ne_of_lt h4) (hl.stp k1 (off1 (by omega) (by omega))) hol (fun p hp => (hlw p hp).stp k1 (off1 (by omega) (by omega))) fun ω2 w2 k2 => ?_
  have ks2 := ks1.stp k2 (off_one (by omega))
  have rk2 := rk1.stp k2 (offR_one (by omega))
  obtain ⟨xs, ov, hvl, hvw⟩ := hv
  have ov2 := (ov.stp k1 (off1 (by omega) (by omega))).stp k2 (beq_no (by omega))
  refine spoilP_ok (u := 20) (v := 21) (by decide) hvn hn' ⟨xs, ov2, hvl, fun j h h' => (hvw j h h').imp fun s hs => ⟨hs.1, (hs.2.stp k1 (off1 (by omega) (by omega))).stp k2 (beq_no (by omega))⟩⟩ fun ω3 w3 k3 => ?_
  have ks3 := ks2.stp k3 ⟨rfl, rfl, rfl, rfl⟩
  have rk3 := rk2.stp k3 ⟨rfl, rfl, rfl, rfl⟩
  have e3 : Stp Ev ω ω3 w w3 := ((ev_of k1 (off1 (by omega) (by omega)) (off1 (by omega) (by omega))).trans (ev_of k2 (beq_no (by omega)) (beq_no (by omega)))).trans (ev_of k3 rfl rfl)
  refine both_ok ks3 rk3 hM hMl fun ω4 w4 k4 ks4 rk4 => ?_
  refine cond_t rfl <| lasts_ok ks4 rk4 hM (Z := fun n29 n28 w30 => K (n29 == n28) w30) ?_
  rw [beq_self_eq_true]
  exact hK ω4 w4 (e3.trans (k4.non _)) ks4 rk4
theorem step_law (top : Top w0 ω w) (htab : UTab w0) (het : ETab w0) (hrb : ruleB r = true) (ks : KS ω w 1 gs r last M) (rk : RK ω w 10 gr r last M) (hM : Good M) (hMl : M.length ≤ 5000000) (hq : RdPs w0 qs q) (hql : q.length ≤ 5000000) {b : Nat} (hqz : ∀ p ∈ q, LbSm b p.1.1) (hb : b ≤ 2000000) {K : Bool → World → Prop}
    (hK : ∀ ω' w', Stp Ev ω ω' w w' → KS ω' w' 1 gs r (nextL r last now (q.map (·.1))) (nextM r last now (q.map (·.1)) M) → RK ω' w' 10 gr r (nextL r last now (q.map (·.1))) (nextM r last now (q.map (·.1)) M) → Good (nextM r last now (q.map (·.1)) M) → (nextM r last now (q.map (·.1)) M).length ≤ M.length + q.length → K true w') :
    C.tocsinlaw19_step (some ⟨gs, 0, none⟩) (some ⟨gr, 0, none⟩) now qs w K := by
  unfold C.tocsinlaw19_step
  have hr := rl_of hrb
  refine new_T (ω := ω) 8 fun g ω1 w1 k1 b1 => cSl_at (s := qs) (by rw [addr_add, b1.cell]; rfl) ?_
  have top1 := top.stp k1
  have hz : ∀ p ∈ q, p.1.1.length ≤ 100000000 := fun p hp => by have := (hqz p hp).1; omega
  refine copyP_ok ω1 20 21 (hq.keep top1.k) (by omega) hz fun lv q2 ω2 w2 k2 ov eq2 hv2 => ?_
  have top2 := top1.stp k2
  have b2 := b1.stp k2
  have ks2 := (ks.stp k1 (off_non 1)).stp k2 (off_non 1)
  have rk2 := (rk.stp k1 (offR_non 10)).stp k2 (offR_non 10)
  have hq2l := congrArg List.length eq2
  rw [List.length_map, List.length_map] at hq2l
  have hlvn := rdP_n ov.rd
  have hz2 : ∀ p ∈ q2, p.1.1.length ≤ 100000000 := fun p hp => by
    have : p.1 ∈ q.map (·.1) := by rw [← eq2]; exact List.mem_map_of_mem hp
    obtain ⟨p', hp', e⟩ := List.mem_map.1 this
    rw [← e]; exact hz p' hp'
  refine cI_at (n := now) (by rw [b2.cell]; rfl) ?_
  refine step1_ok 30 top2 htab het (by decide) (by decide) ks2 hr hM (by omega) ⟨ov.rd, fun p hp => (hv2 p hp).rd⟩ (by omega) fun l37 l38 ql oq ua va uo vo ω3 w3 h1 h2 h3 h4 k3 ks3 hM3 hM3l oa hea ra oo heo ro hqll hoql hE hOK => ?_
  rw [eq2] at ks3 hM3 hM3l hE hOK
  rw [hq2l] at hM3l hqll hoql
  rw [show stepE r last now (q2.map (·.1)) = stepE r last now (q.map (·.1)) by rw [eq2]]
  have top3 := top2.stp k3 (dt2_off (by omega))
  have b3 := b2.stp k3 (dt2_off (by omega))
  have rk3 := rk2.stp k3 ⟨dt2_off (by omega), dt2_off (by omega), dt2_off (by omega), dt2_off (by omega)⟩
  have ov3 := ov.stp k3 (dt2_off (by omega))
  have hv3 : ∀ p ∈ q2, OT ω3 w3 21 99 2 p.2 (labs p.1.1) := fun p hp => (hv2 p hp).stp k3 (dt2_off (by omega))
  have e3 : Stp Ev ω ω3 w w3 := ((ev_of k1 rfl rfl).trans (ev_of k2 rfl rfl)).trans (ev_of k3 (dt2_off (by omega)) (dt2_off (by omega)))
  have hla : ∀ p ∈ ql, p.1.1.length ≤ 100000000 := fun p hp => by
    by_cases he : stepE r last now (q.map (·.1)) = 0
    · have := (rt_short (hM3.rt p.1 (by rw [← (hOK he).1]; exact List.mem_map_of_mem hp))).1
      omega
    · rw [(hE he).1] at hp; cases hp
  have hlo : ∀ p ∈ oq, p.1.length ≤ 100000000 := fun p hp => by
    by_cases he : stepE r last now (q.map (·.1)) = 0
    · have := (rt_short (over_rt (T := []) (now := now) hM hr (stepE_told he).1 p.1 (by rw [← (hOK he).2]; exact List.mem_map_of_mem hp))).1
      omega
    · rw [(hE he).2] at hp; cases hp
  refine cI_at (n := now) (by rw [b3.cell]; rfl) <| cSl_at (s := qs) (by rw [addr_add, b3.cell]; rfl) ?_
  -- behind both
  have fin : ∀ (x : Sl) (ox : OQ) (ω4 : Tg) (w4 : World), Stp (Mem.One 10) ω3 ω4 w3 w4 → RK ω4 w4 10 gr r (nextL r last now (q.map (·.1))) (nextM r last now (q.map (·.1)) M) → RdOs w4 x ox → oq.map (·.1) = ox.map (·.1) →
      C.tocsinref19_SameSets l38 x w4 fun b46 w47 => G.cond (!b46) (K false w47) (G.cSl (Addr.add ⟨g, 0, none⟩ 1) w47 fun l48 => C.tocsinref11_SamePoints lv l48 w47 fun b49 w50 => G.cond (!b49) (K false w50) (G.cond (stepE r last now (q.map (·.1)) != (0 : Int)) (G.cond (decide (((l37.n : Nat) : Int) > (0 : Int))) (K false w50) (G.cond (stepE r last now (q.map (·.1)) == (0 : Int)) (G.ptr (some ⟨gr, 0, none⟩) fun p51 => G.cSl (p51.add 6) w50 fun l52 => C.tocsinref19_Same l37 l52 w50 fun b53 w54 => G.cond (!b53) (K false w54) (C.tocsinlaw19_step.S2 K (some ⟨gs, 0, none⟩) (some ⟨gr, 0, none⟩) lv l37 l38 w54)) (C.tocsinlaw19_step.S2 K (some ⟨gs, 0, none⟩) (some ⟨gr, 0, none⟩) lv l37 l38 w50))) (G.cond (stepE r last now (q.map (·.1)) == (0 : Int)) (G.ptr (some ⟨gr, 0, none⟩) fun p55 => G.cSl (p55.add 6) w50 fun l56 => C.tocsinref19_Same l37 l56 w50 fun b57 w58 => G.cond (!b57) (K false w58) (C.tocsinlaw19_step.S2 K (some ⟨gs, 0, none⟩) (some ⟨gr, 0, none⟩) lv l37 l38 w58)) (C.tocsinlaw19_step.S2 K (some ⟨gs, 0, none⟩) (some ⟨gr, 0, none⟩) lv l37 l38 w50)))) := by
    intro x ox ω4 w4 k4 rk4 rox eox
    have top4 := top3.stp k4
    have ks4 := ks3.stp k4 (off_one (by omega))
    have b4 := b3.stp k4
    have oa4 := oa.stp k4 (beq_no (by omega))
    have hea4 : ∀ p ∈ ql, OT ω4 w4 va 99 2 p.2 (labs p.1.1) := fun p hp => (hea p hp).stp k4 (beq_no (by omega))
    have oo4 := oo.stp k4 (beq_no (by omega))
    have heo4 : ∀ p ∈ oq, OT ω4 w4 vo 99 2 p.2 (labs p.1) := fun p hp => (heo p hp).stp k4 (beq_no (by omega))
    have ov4 := ov3.stp k4
    have hv4 : ∀ p ∈ q2, OT ω4 w4 21 99 2 p.2 (labs p.1.1) := fun p hp => (hv3 p hp).stp k4
    have e4 := e3.trans (ev_of k4 rfl rfl)
    refine sets_ok ⟨oo4.rd, fun p hp => ⟨(heo4 p hp).rd, by have := hlo p hp; omega⟩⟩ rox (by omega) fun w5 k5 => ?_
    rw [decide_eq_true eox]
    have s5 := k5.stp0 ω4
    refine cond_f rfl <| cSl_at (s := qs) (by rw [addr_add, (b4.stp s5).cell]; rfl) ?_
    refine samePts_ok (RdPs.keep ⟨ov4.rd, fun p hp => (hv4 p hp).rd⟩ k5) (hq.keep (top4.stp s5).k) eq2 (fun p hp => by have := hz2 p hp; omega) (by omega) fun w6 k6 => ?_
    have s6 : Stp Non ω4 ω4 w4 w6 := (Keep.trans k5 k6).stp0 ω4
    have S2 : ∀ w7, Keep w6 w7 → C.tocsinlaw19_step.S2 K (some ⟨gs, 0, none⟩) (some ⟨gr, 0, none⟩) lv l37 l38 w7 := fun w7 k7 => by
      have s7 : Stp Non ω4 ω4 w4 w7 := s6.trans (k7.stp0 ω4)
      refine step_S2 h1 h2 h3 h4 (ks4.stp s7 (off_non 1)) (rk4.stp s7 (offR_non 10)) hM3 (by omega) (spA_of (oa4.stp s7) rfl (fun p hp => (hea4 p hp).stp s7) hla) (rdA_n oa4.rd) (by omega) (oo4.rt.stp s7) (by omega) (fun p hp => OT.wb ((heo4 p hp).stp s7) (by have := rdL_n (heo4 p hp).rd; have := hlo p hp; omega)) (spP_of (ov4.stp s7) rfl (fun p hp => (hv4 p hp).stp s7) hz2) hlvn (by omega) fun ω8 w8 e8 ks8 rk8 => ?_
      exact hK ω8 w8 ((e4.trans (s7.non _)).trans e8) ks8 rk8 hM3 hM3l
    refine cond_f rfl ?_
    by_cases he : stepE r last now (q.map (·.1)) = 0
    · rw [he]
      refine cond_f rfl <| cond_t rfl ?_
      have rk6 := rk4.stp s6 (offR_non 10)
      obtain ⟨kl, kq, c6, c7, hlt, htg, rak, ek⟩ := rk6.ra hM3
      refine ptr_at <| cSl_at (s := kl) (by rw [addr_add]; exact c6) ?_
      refine asame_ok (RdAs.keep ⟨oa4.rd, fun p hp => ⟨(hea4 p hp).rd, by have := hla p hp; omega⟩⟩ (Keep.trans k5 k6)) rak (by omega) fun w7 k7 => ?_
      rw [decide_eq_true ((hOK he).1.trans ek.symm)]
      exact cond_f rfl (S2 w7 k7)
    · rw [beq_eq_false_iff_ne.2 he, show (stepE r last now (q.map (·.1)) != 0) = true from bne_iff_ne.2 he]
      have hq0 := (hE he).1
      have hn := rdA_n oa.rd
      rw [hq0] at hn
      refine cond_t rfl <| cond_d (fun h => ?_) (fun _ => cond_f rfl (S2 w6 (Keep.refl _)))
      rw [List.length_nil] at hn; omega
  by_cases he : stepE r last now (q.map (·.1)) = 0
  · have eL : nextL r last now (q.map (·.1)) = now := if_pos he
    have eM : nextM r last now (q.map (·.1)) M = stepM r now (toldL r (q.map (·.1))) M := if_pos he
    refine rstep_ok top3 hrb (by decide) rk3 hM (by omega) (hq.keep top3.k) (by omega) hqz hb (fun hne => absurd he hne) (fun _ o ox ω4 w4 k4 rk4 rox eox => ?_)
    refine cond_f (by rw [he]; rfl) (fin o ox ω4 w4 k4 (by rw [eL, eM]; exact rk4) rox (by rw [(hOK he).2, eox]))
  · have eL : nextL r last now (q.map (·.1)) = last := if_neg he
    have eM : nextM r last now (q.map (·.1)) M = M := if_neg he
    refine rstep_ok top3 hrb (by decide) rk3 hM (by omega) (hq.keep top3.k) (by omega) hqz hb (fun _ ω4 w4 k4 => ?_) (fun h => absurd h he)
    refine cond_f (by rw [bne_self_eq_false]) (fin nilS [] ω4 w4 (k4.non _) (by rw [eL, eM]; exact rk3.stp k4 (offR_non 10)) (RdOs.nil w4) (by rw [(hE he).2]))
theorem steps_law (htab : UTab w0) (het : ETab w0) (hs : Rd w0 s 2 (labs r.ls)) {b : Nat} (hz : RlSm b r) (hb : b ≤ 2000000) {m : List Tk} {f : Nat → Nat} (hc : Scr w0 sl m f b) (hml : m.length < b) {K : Bool → World → Prop} (hK : ∀ w', Keep w0 w' → K true w') :
    C.tocsinlaw19_RulesSteps r.rc r.nm r.ex r.fo r.ke s sl w0 K := by
  unfold C.tocsinlaw19_RulesSteps
  have hzl := hz.2.2.1
  have hsz : ∀ x ∈ r.ls, x.2.size ≤ 140737488355300 := fun x hx => by have := (hz.2.2.2 x hx).2; omega
  have hsn := hc.len
  have S2 : ∀ w1, Keep w0 w1 → C.tocsinlaw19_RulesSteps.S2 K w1 := fun w1 k1 => known_ok (htab.keep k1) (het.keep k1) fun w' k' => hK w' (Keep.trans k1 k')
  refine new_T (ω := fun _ => 0) 9 fun g ω1 w1 k1 b1 => ?_
  have b1 : BT ω1 w1 9 g 24 (rlC r s) := b1
  have top1 := (Top.init w0).stp k1
  refine rl_cells b1.blk ?_
  refine new_ok ω1 1 (htab.keep top1.k) (hs.keep top1.k) (by omega) (fun hne ω2 w2 k2 => ?_) (fun h0 gs ω2 w2 k2 ks2 => ?_)
  · have top2 := top1.stp k2
    refine rl_cells (b1.stp k2).blk <| rnew_ok 10 top2 hs hsz (by omega) (fun _ ω3 w3 k3 => ?_) (fun h => absurd h hne)
    exact cond_f rfl <| cond_f rfl <| cond_t rfl (S2 w3 (top2.stp k3).k)
  have hrb := (newE_rl h0).1
  have top2 := top1.stp k2
  refine rl_cells (b1.stp k2).blk <| rnew_ok 10 top2 hs hsz (by omega) (fun h => absurd h0 h) (fun _ gr ω3 w3 k3 rk3 => ?_)
  refine cond_f rfl <| cond_f rfl <| cond_f rfl ?_
  unfold C.tocsinlaw19_RulesSteps.S9
  refine C.tocsinlaw19_RulesSteps.L5_ind fun X hX => ?_
  have key : ∀ (d i : Nat) (last : Int) (M : List Av) (ω : Tg) (w4 : World), i + d = m.length → Top w0 ω w4 → KS ω w4 1 gs r last M → RK ω w4 10 gr r last M → Good M → M.length ≤ sumTo f i → X sl (some ⟨gs, 0, none⟩) (some ⟨gr, 0, none⟩) (i : Int) w4 := by
    intro d
    induction d with
    | zero =>
      intro i last M ω w4 hi top ks rk hM hMl
      refine hX _ _ _ _ _ ?_
      unfold C.tocsinlaw19_RulesSteps.S7
      exact cond_d (fun h => by omega) (fun _ => S2 w4 top.k)
    | succ d ih =>
      intro i last M ω w4 hi top ks rk hM hMl
      refine hX _ _ _ _ _ ?_
      unfold C.tocsinlaw19_RulesSteps.S7
      have him : i < m.length := by omega
      have hx : m[i]? = some m[i] := List.getElem?_eq_getElem him
      obtain ⟨hq, hql, hqz⟩ := hc.el i _ hx
      generalize m[i] = x at *
      obtain ⟨now, qs, q⟩ := x
      dsimp only at hq hql hqz
      have hsum := hc.up (show i + 1 ≤ m.length by omega)
      have hsum1 : sumTo f (i + 1) = sumTo f i + f i := rfl
      refine cond_d (fun _ => ?_) (fun h => by omega)
      refine rdK_at (hc.keep top.k) (k := i) rfl hx fun a a0 a1 => cI_at a0 <| cSl_at a1 ?_
      refine step_law top htab het hrb ks rk hM (by omega) hq (by omega) hqz hb fun ω5 w5 e5 ks5 rk5 hM5 hM5l => ?_
      refine cond_f rfl ?_
      rw [wI64 (by omega) (by omega), show (i : Int) + 1 = ((i + 1 : Nat) : Int) by omega]
      exact ih (i + 1) _ _ ω5 w5 (by omega) (top.stp e5 ev0) ks5 rk5 hM5 (by omega)
  exact key m.length 0 (-1) [] ω3 w3 (by omega) (top2.stp k3) (ks2.stp k3 (off_non 1)) rk3 Good.nil (Nat.zero_le _)
end Go.Proofs.YtechilkjfhpkpaaGreatDoor.Ru

namespace Go.Proofs.YtechilkjfhpkpaaGreatDoor.Ru
open Go Vm Go.RowKit Num Mem Utf Lib Lab Rep
variable {T M N : List Av} {r : Rl} {now last : Int} {m : List Lb}
structure CanA (last : Int) (a : Av) : Prop where
  rt : (Lab.rt a.1).1 = 0
  ne : a.1.length ≠ 0
  s0 : 0 ≤ a.2.2.1
  s1 : a.2.2.1 ≤ last
  st : (a.2.1 = 1 ∧ a.2.2.2.1 = -1 ∧ a.2.2.2.2.1 = -1) ∨ (a.2.1 = 2 ∧ a.2.2.1 ≤ a.2.2.2.1 ∧ a.2.2.2.1 ≤ last ∧ (a.2.2.2.2.1 = -1 ∨ (a.2.2.2.1 ≤ a.2.2.2.2.1 ∧ a.2.2.2.2.1 ≤ last)))
def stB (last : Int) (a : Av) : Bool :=
  if a.2.1 = 1 then decide (a.2.2.2.1 = -1) && decide (a.2.2.2.2.1 = -1)
  else decide (a.2.1 = 2) && (decide (a.2.2.1 ≤ a.2.2.2.1) && (decide (a.2.2.2.1 ≤ last) && (decide (a.2.2.2.2.1 = -1) || (decide (a.2.2.2.1 ≤ a.2.2.2.2.1) && decide (a.2.2.2.2.1 ≤ last)))))
def canB (last : Int) (a : Av) : Bool := decide ((rt a.1).1 = 0) && (decide (a.1.length ≠ 0) && (decide (0 ≤ a.2.2.1) && (decide (a.2.2.1 ≤ last) && stB last a)))
theorem stB_iff {a : Av} : stB last a = true ↔ (a.2.1 = 1 ∧ a.2.2.2.1 = -1 ∧ a.2.2.2.2.1 = -1) ∨ (a.2.1 = 2 ∧ a.2.2.1 ≤ a.2.2.2.1 ∧ a.2.2.2.1 ≤ last ∧ (a.2.2.2.2.1 = -1 ∨ (a.2.2.2.1 ≤ a.2.2.2.2.1 ∧ a.2.2.2.2.1 ≤ last))) := by
  unfold stB
  by_cases h : a.2.1 = 1
  · rw [if_pos h, Bool.and_eq_true, decide_eq_true_eq, decide_eq_true_eq]
    constructor
    · exact fun h' => .inl ⟨h, h'⟩
    · rintro (h' | h')
      · exact h'.2
      · omega
  · rw [if_neg h]
    simp only [Bool.and_eq_true, Bool.or_eq_true, decide_eq_true_eq]
    constructor
    · exact fun h' => .inr h'
    · rintro (h' | h')
      · exact absurd h'.1 h
      · exact h'
theorem can_iff {a : Av} : canB last a = true ↔ CanA last a := by
  unfold canB
  simp only [Bool.and_eq_true, decide_eq_true_eq, stB_iff]
  exact ⟨fun ⟨a, b, c, d, e⟩ => ⟨a, b, c, d, e⟩, fun ⟨a, b, c, d, e⟩ => ⟨a, b, c, d, e⟩⟩
theorem CanA.mono {a : Av} {l2 : Int} (h : CanA last a) (hl : last ≤ l2) : CanA l2 a := ⟨h.rt, h.ne, h.s0, by have := h.s1; omega, by
  rcases h.st with h1 | ⟨h1, h2, h3, h4⟩
  · exact .inl h1
  · refine .inr ⟨h1, h2, by omega, ?_⟩
    rcases h4 with h4 | h4
    · exact .inl h4
    · exact .inr ⟨h4.1, by omega⟩⟩
theorem labO_ne (hr : ruleB r = true) (hc : r.rc = false) (l : List Lb) : (labO r l).length ≠ 0 := by
  have hs : r.nm ≠ noB := fun e => by
    unfold ruleB nameB at hr
    rw [hc, Bool.and_eq_true] at hr
    have h1 := hr.1
    rw [if_neg (by decide), e] at h1
    exact absurd h1 (by decide)
  have hm : (aN, r.nm) ∈ labO r l := mem_outL.2 ⟨hs, .inl (by unfold moreA; exact List.mem_cons_of_mem _ List.mem_cons_self)⟩
  intro e
  rw [List.eq_nil_of_length_eq_zero e] at hm
  cases hm
theorem told_ne (hr : ruleB r = true) (hc : r.rc = false) {ps : List Pt} : ∀ a ∈ toldL r ps, a.1.length ≠ 0 := fun a ha => by
  obtain ⟨p, _, e⟩ := mem_told ha
  rw [e]; exact labO_ne hr hc _
theorem can_next (hn : 0 ≤ now) (hl : last < now) {o : Option Av} {l : List Lb} {b : Nat} (hrt : (rt l).1 = 0) (hne : l.length ≠ 0) (ho : ∀ x, o = some x → CanA last x) : CanA now (nextA r now o l b) := by
  cases o with
  | none =>
    unfold nextA
    dsimp only
    split
    · exact ⟨hrt, hne, hn, Int.le_refl _, .inr ⟨rfl, Int.le_refl _, Int.le_refl _, .inl rfl⟩⟩
    · exact ⟨hrt, hne, hn, Int.le_refl _, .inl ⟨rfl, rfl, rfl⟩⟩
  | some x =>
    have h := ho x rfl
    have h1 := h.s1
    unfold nextA
    dsimp only
    split
    · exact ⟨hrt, hne, h.s0, by show x.2.2.1 ≤ now; omega, .inr ⟨rfl, by show x.2.2.1 ≤ now; omega, Int.le_refl _, .inl rfl⟩⟩
    · refine ⟨hrt, hne, h.s0, by show x.2.2.1 ≤ now; omega, ?_⟩
      rcases h.st with ⟨a1, a2, a3⟩ | ⟨a1, a2, a3, a4⟩
      · exact .inl ⟨a1, a2, rfl⟩
      · exact .inr ⟨a1, a2, by show x.2.2.2.1 ≤ now; omega, .inl rfl⟩
theorem can_gone (hl : last < now) {b : Av} (h : CanA last b) (h1 : ¬ b.2.1 = 1) : CanA now (goneA now b) := by
  have hs := h.s1
  rcases h.st with ⟨a1, _⟩ | ⟨a1, a2, a3, a4⟩
  · exact absurd a1 h1
  unfold goneA
  split
  · exact ⟨h.rt, h.ne, h.s0, by show b.2.2.1 ≤ now; omega, .inr ⟨a1, a2, by show b.2.2.2.1 ≤ now; omega, .inr ⟨by show b.2.2.2.1 ≤ now; omega, Int.le_refl _⟩⟩⟩
  · exact h.mono (by omega)
theorem can_step (hr : ruleB r = true) (hc : r.rc = false) {ps : List Pt} (hM : M.Pairwise ltA) (h : ∀ a ∈ M, CanA last a) (he : stepE r last now ps = 0) : ∀ a ∈ stepM r now (toldL r ps) M, CanA now a := fun a ha => by
  obtain ⟨ht, htb, hl⟩ := stepE_told he
  unfold timeB at htb
  rw [Bool.and_eq_true] at htb
  have t1 := of_decide_eq_true htb.1
  have hT : (toldL r ps).Pairwise ltA := toldS_up r ps
  obtain ⟨b, hb, e⟩ := List.mem_filterMap.1 ha
  rcases (mem_merge (r := r) (now := now) (nodupL hT) hM b).1 hb with ⟨c, hcT, rfl⟩ | ⟨h1, h2⟩
  · rw [(stepA_in (inT_nx hcT)).1] at e
    injection e with e
    subst e
    exact can_next t1 hl (told_rt (rl_of hr) ht c hcT) (told_ne hr hc c hcT) fun x hx => h x ((getM_some hM).1 hx).1
  · have hi := inT_no.2 h2
    by_cases hs : b.2.1 = 1
    · rw [(stepA_pend hi hs).1] at e; cases e
    · by_cases hg : goesA r now b
      · rw [(stepA_go hi hs hg).1] at e; cases e
      · rw [(stepA_stay hi hs hg).1] at e
        injection e with e
        subst e
        exact can_gone hl (h b h1) hs
theorem insAll_nodup {L : List Av} (hL : (L.map (·.1)).Nodup) {x : Av} : x ∈ insAll [] L ↔ x ∈ L := by
  rw [mem_insAll hL List.Pairwise.nil]; simp
theorem insAll_up_self {L : List Av} (h : L.Pairwise ltA) : insAll [] L = L := upA_eq (insAll_up List.Pairwise.nil) h fun _ => insAll_nodup (nodupL h)
theorem getM_insAll : ∀ {L N : List Av}, N.Pairwise ltA → (getM (insAll N L) m = none ↔ getM N m = none ∧ ∀ a ∈ L, a.1 ≠ m)
  | [], N, _ => by simp [insAll]
  | a :: L, N, hN => by
    show getM (insAll (insM a N) L) m = none ↔ _
    rw [getM_insAll (insM_up hN), getM_insN hN]
    constructor
    · rintro ⟨⟨h1, h2⟩, h3⟩
      exact ⟨h2, fun b hb => (List.mem_cons.1 hb).elim (fun e => by rw [e]; exact h1) (h3 b)⟩
    · rintro ⟨h1, h2⟩
      exact ⟨⟨h2 a List.mem_cons_self, h1⟩, fun b hb => h2 b (List.mem_cons_of_mem _ hb)⟩
end Go.Proofs.YtechilkjfhpkpaaGreatDoor.Ru

namespace Go.Proofs.YtechilkjfhpkpaaGreatDoor.Ru
open Go Vm Go.RowKit Num Mem Utf Lib Lab Rep
variable {ω ω' ωl : Tg} {w w' w0 wb : World} {t gs gm gr : Nat} {T : Nat → Bool} {M N : List Av} {r : Rl} {now last : Int} {s sl l rs : Sl} {ql pl : QL} {a : Av}
theorem stB_one (h : a.2.1 = 1) : stB last a = ((a.2.1 == (1 : Int)) && ((a.2.2.2.1 == (-1 : Int)) && ((a.2.2.2.2.1 == (-1 : Int)) && true))) := by
  unfold stB
  rw [if_pos h, h]
  by_cases h5 : a.2.2.2.1 = -1 <;> by_cases h6 : a.2.2.2.2.1 = -1 <;> simp [h5, h6]
theorem stB_two (h1 : ¬ a.2.1 = 1) (h2 : a.2.1 = 2) : stB last a = (decide (a.2.2.1 ≤ a.2.2.2.1) && (decide (a.2.2.2.1 ≤ last) && (decide (a.2.2.2.2.1 = -1) || (decide (a.2.2.2.1 ≤ a.2.2.2.2.1) && decide (a.2.2.2.2.1 ≤ last))))) := by
  unfold stB
  rw [if_neg h1, decide_eq_true h2, Bool.true_and]
theorem stB_no (h1 : ¬ a.2.1 = 1) (h2 : ¬ a.2.1 = 2) : stB last a = false := by
  unfold stB
  rw [if_neg h1, decide_eq_false h2, Bool.false_and]
theorem two_at {g : Nat} (b : Blk w g 41 (avC (a, s))) (h1 : ¬ a.2.1 = 1) (h2 : a.2.1 = 2) {K : Bool → World → Prop} (hK : K (stB last a) w) :
    G.cI .i64 (Addr.add ⟨g, 0, none⟩ 3) w fun n29 => G.cI .i64 (Addr.add ⟨g, 0, none⟩ 2) w fun n30 => G.cond (decide (n29 ≥ n30)) (G.cI .i64 (Addr.add ⟨g, 0, none⟩ 3) w fun n31 => G.cond (decide (n31 ≤ last)) (G.cI .i64 (Addr.add ⟨g, 0, none⟩ 4) w fun n32 => G.cond (n32 == (-1 : Int)) (K true w) (G.cI .i64 (Addr.add ⟨g, 0, none⟩ 4) w fun n33 => G.cI .i64 (Addr.add ⟨g, 0, none⟩ 3) w fun n34 => G.cond (decide (n33 ≥ n34)) (G.cI .i64 (Addr.add ⟨g, 0, none⟩ 4) w fun n35 => K (decide (n35 ≤ last)) w) (K false w))) (K false w)) (K false w) := by
  have e := stB_two (last := last) h1 h2
  have c2 : w.cell? (Addr.add ⟨g, 0, none⟩ 2) = some (.int .i64 a.2.2.1) := by rw [addr_add, b.cell]; rfl
  have c3 : w.cell? (Addr.add ⟨g, 0, none⟩ 3) = some (.int .i64 a.2.2.2.1) := by rw [addr_add, b.cell]; rfl
  have c4 : w.cell? (Addr.add ⟨g, 0, none⟩ 4) = some (.int .i64 a.2.2.2.2.1) := by rw [addr_add, b.cell]; rfl
  rw [e] at hK
  refine cI_at c3 <| cI_at c2 <| cond_d (fun h => ?_) (fun h => ?_)
  · rw [decide_eq_true (show a.2.2.1 ≤ a.2.2.2.1 by omega), Bool.true_and] at hK
    refine cI_at c3 <| cond_d (fun h => ?_) (fun h => ?_)
    · rw [decide_eq_true h, Bool.true_and] at hK
      refine cI_at c4 <| cond_eq (fun h => ?_) (fun h => ?_)
      · rw [decide_eq_true h, Bool.true_or] at hK; exact hK
      · rw [decide_eq_false h, Bool.false_or] at hK
        refine cI_at c4 <| cI_at c3 <| cond_d (fun h => ?_) (fun h => ?_)
        · rw [decide_eq_true (show a.2.2.2.1 ≤ a.2.2.2.2.1 by omega), Bool.true_and] at hK
          exact cI_at c4 hK
        · rw [decide_eq_false (show ¬ a.2.2.2.1 ≤ a.2.2.2.2.1 by omega), Bool.false_and] at hK; exact hK
    · rw [decide_eq_false h, Bool.false_and] at hK; exact hK
  · rw [decide_eq_false (show ¬ a.2.2.1 ≤ a.2.2.2.1 by omega), Bool.false_and] at hK; exact hK
theorem can_ok (ht : UTab w) (hs : Rd w s 2 (labs a.1)) {K : Bool → World → Prop} (hK : ∀ w', Keep w w' → K (canB last a) w') : C.rules_can s a.2.1 a.2.2.1 a.2.2.2.1 a.2.2.2.2.1 a.2.2.2.2.2 last w K := by
  unfold C.rules_can
  have hsn := rdL_n hs
  refine newD fun g w1 k1 hg b1 => ?_
  have b1 : Blk w1 g 41 (avC (a, s)) := b1
  refine cSl_at (s := s) (by rw [b1.cell]; rfl) <| right_ok (ht.keep k1.1) (hs.keep k1.1) fun w2 k2 => ?_
  have hK := hK w2 (Keep.trans k1.1 k2)
  have b2 := b1.keep k2
  have c1 : w2.cell? (Addr.add ⟨g, 0, none⟩ 1) = some (.int .i64 a.2.1) := by rw [addr_add, b2.cell]; rfl
  have c2 : w2.cell? (Addr.add ⟨g, 0, none⟩ 2) = some (.int .i64 a.2.2.1) := by rw [addr_add, b2.cell]; rfl
  unfold canB at hK
  refine cond_ne (fun h => by rw [decide_eq_false h, Bool.false_and] at hK; exact hK) (fun h => ?_)
  rw [decide_eq_true h, Bool.true_and] at hK
  refine cSl_at (s := s) (by rw [b2.cell]; rfl) <| cond_eq (fun h => by rw [decide_eq_false (show ¬ a.1.length ≠ 0 by omega), Bool.false_and] at hK; exact hK) (fun h => ?_)
  rw [decide_eq_true (show a.1.length ≠ 0 by omega), Bool.true_and] at hK
  refine cI_at c2 <| cond_d (fun h => by rw [decide_eq_false (show ¬ 0 ≤ a.2.2.1 by omega), Bool.false_and] at hK; exact hK) (fun h => ?_)
  rw [decide_eq_true (show 0 ≤ a.2.2.1 by omega), Bool.true_and] at hK
  refine cI_at c2 <| cond_d (fun h => by rw [decide_eq_false (show ¬ a.2.2.1 ≤ last by omega), Bool.false_and] at hK; exact hK) (fun h => ?_)
  rw [decide_eq_true (show a.2.2.1 ≤ last by omega), Bool.true_and] at hK
  refine cI_at c1 <| cond_eq (fun h1 => ?_) (fun h1 => cond_eq (fun h2 => two_at b2 h1 h2 hK) (fun h2 => by rw [stB_no h1 h2] at hK; exact hK))
  refine cI_at c1 <| cI_at (n := a.2.2.2.1) (by rw [addr_add, b2.cell]; rfl) <| cI_at (n := a.2.2.2.2.1) (by rw [addr_add, b2.cell]; rfl) ?_
  rw [stB_one h1] at hK; exact hK
theorem rcan_ok (hs : Rd w s 2 (labs a.1)) (hz : ∀ x ∈ a.1, x.2.size ≤ 140737488355300) {K : Bool → World → Prop} (hK : ∀ w', Keep w w' → K (canB last a) w') : C.tocsinref19_can s a.2.1 a.2.2.1 a.2.2.2.1 a.2.2.2.2.1 a.2.2.2.2.2 last w K := by
  unfold C.tocsinref19_can
  have hsn := rdL_n hs
  refine newD fun g w1 k1 hg b1 => ?_
  have b1 : Blk w1 g 41 (avC (a, s)) := b1
  refine cSl_at (s := s) (by rw [b1.cell]; rfl) <| rright_ok (hs.keep k1.1) hz fun w2 k2 => ?_
  have hK := hK w2 (Keep.trans k1.1 k2)
  have b2 := b1.keep k2
  have c1 : w2.cell? (Addr.add ⟨g, 0, none⟩ 1) = some (.int .i64 a.2.1) := by rw [addr_add, b2.cell]; rfl
  have c2 : w2.cell? (Addr.add ⟨g, 0, none⟩ 2) = some (.int .i64 a.2.2.1) := by rw [addr_add, b2.cell]; rfl
  unfold canB at hK
  refine cond_ne (fun h => by rw [decide_eq_false h, Bool.false_and] at hK; exact hK) (fun h => ?_)
  rw [decide_eq_true h, Bool.true_and] at hK
  refine cSl_at (s := s) (by rw [b2.cell]; rfl) <| cond_eq (fun h => by rw [decide_eq_false (show ¬ a.1.length ≠ 0 by omega), Bool.false_and] at hK; exact hK) (fun h => ?_)
  rw [decide_eq_true (show a.1.length ≠ 0 by omega), Bool.true_and] at hK
  refine cI_at c2 <| cond_d (fun h => by rw [decide_eq_false (show ¬ 0 ≤ a.2.2.1 by omega), Bool.false_and] at hK; exact hK) (fun h => ?_)
  rw [decide_eq_true (show 0 ≤ a.2.2.1 by omega), Bool.true_and] at hK
  refine cI_at c2 <| cond_d (fun h => by rw [decide_eq_false (show ¬ a.2.2.1 ≤ last by omega), Bool.false_and] at hK; exact hK) (fun h => ?_)
  rw [decide_eq_true (show a.2.2.1 ≤ last by omega), Bool.true_and] at hK
  refine cI_at c1 <| cond_eq (fun h1 => ?_) (fun h1 => cI_at c1 <| cond_eq (fun h2 => two_at b2 h1 h2 hK) (fun h2 => by rw [stB_no h1 h2] at hK; exact hK))
  rw [stB_one h1, h1] at hK
  refine cI_at (n := a.2.2.2.1) (by rw [addr_add, b2.cell]; rfl) <| cond_eq (fun h => ?_) (fun h => ?_)
  · refine cI_at (n := a.2.2.2.2.1) (by rw [addr_add, b2.cell]; rfl) ?_
    rw [h, Bool.and_true] at hK
    exact hK
  · rw [beq_eq_false_iff_ne.2 h] at hK
    exact hK
def restE (r : Rl) (last : Int) (L : List Av) : Int := if newE r last ≠ 0 then newE r last else if L.all (canB last) = false then 220 else if (L.map (·.1)).Nodup then 0 else 6
theorem restE_new {L : List Av} (h : newE r last ≠ 0) : restE r last L = newE r last := by unfold restE; rw [if_pos h]
theorem restE_can {L : List Av} (h : newE r last = 0) (hc : L.all (canB last) = false) : restE r last L = 220 := by unfold restE; rw [if_neg (by rw [h]; decide), if_pos hc]
theorem restE_dup {L : List Av} (h : newE r last = 0) (hc : L.all (canB last) = true) (hn : ¬ (L.map (·.1)).Nodup) : restE r last L = 6 := by unfold restE; rw [if_neg (by rw [h]; decide), if_neg (by rw [hc]; decide), if_neg hn]
theorem restE_ok {L : List Av} (h : newE r last = 0) (hc : L.all (canB last) = true) (hn : (L.map (·.1)).Nodup) : restE r last L = 0 := by unfold restE; rw [if_neg (by rw [h]; decide), if_neg (by rw [hc]; decide), if_pos hn]
theorem restE_zero {L : List Av} (h : restE r last L = 0) : newE r last = 0 ∧ (∀ a ∈ L, CanA last a) ∧ (L.map (·.1)).Nodup := by
  by_cases h1 : newE r last = 0
  · by_cases h2 : L.all (canB last) = true
    · by_cases h3 : (L.map (·.1)).Nodup
      · exact ⟨h1, fun a ha => can_iff.1 (List.all_eq_true.1 h2 a ha), h3⟩
      · rw [restE_dup h1 h2 h3] at h; exact absurd h (by decide)
    · rw [restE_can h1 (Bool.eq_false_iff.2 h2)] at h; exact absurd h (by decide)
  · rw [restE_new h1] at h; exact absurd h h1
theorem take_names {L : List Av} {i : Nat} (h : i < L.length) : ((L.take (i + 1)).map (·.1)).Nodup ↔ ((L.take i).map (·.1)).Nodup ∧ getM (insAll [] (L.take i)) L[i].1 = none := by
  rw [getM_insAll List.Pairwise.nil, List.take_succ_eq_append_getElem h, List.map_append, List.nodup_append]
  constructor
  · rintro ⟨h1, _, h3⟩
    exact ⟨h1, rfl, fun a ha => h3 _ (List.mem_map_of_mem ha) _ (by simp)⟩
  · rintro ⟨h1, _, h3⟩
    refine ⟨h1, by simp, fun x hx y hy => ?_⟩
    obtain ⟨a, ha, rfl⟩ := List.mem_map.1 hx
    simp only [List.map_cons, List.map_nil, List.mem_singleton] at hy
    rw [hy]; exact h3 a ha
theorem take_dup {L : List Av} {i : Nat} (h : ¬ ((L.take i).map (·.1)).Nodup) : ¬ (L.map (·.1)).Nodup := fun hn => h (((List.take_sublist i L).map (·.1)).nodup hn)
theorem KSa.rtg (h : KSa ωl w' 1 gs gm r last pl rs) (top : Top w ωl w') : KSa (Mem.rtg ω ωl w.heap.size (fun x => x)) w' 1 gs gm r last pl rs :=
  ⟨h.hd.rtg top (fun x => x), h.rl.rtg top (fun x => x), ⟨h.pm.mp.rtg top (fun x => x), fun p hp => (h.pm.rt p hp).rtg top (fun x => x)⟩⟩
theorem rst_tail {g : Nat} {o : Bool} (top : Top w0 ωl w) (htab : UTab w0) (ka : KSa ωl w 1 gs gm r last pl rs) (hp : (pl.map (·.1)).Perm M) (hM : M.Pairwise ltA) (b : BT ωl w 50 g 41 (avC (a, s))) (hs : Rd w s 2 (labs a.1)) (hr : (rt a.1).1 = 0) {K : World → Prop} {E : World → Prop}
    (hE : o = true → ∀ ω' w', Top w0 ω' w' → E w') (hK : o = false → ∀ pl' ω' w', Top w0 ω' w' → KSa ω' w' 1 gs gm r last pl' rs → (pl'.map (·.1)).Perm (insM a M) → K w') :
    G.cond o (E w) (G.cSl ⟨g, 0, none⟩ w fun l69 => C.slices_Clone_Label_Label l69 w fun l70 w71 => G.st ⟨g, 0, none⟩ l70.v w71 fun w72 => G.ptr (some ⟨gs, 0, none⟩) fun p73 => G.cM (p73.add 6) w72.drew fun m74 => G.cSl ⟨g, 0, none⟩ w72.drew fun l75 => G.cSl ⟨g, 0, none⟩ w72.drew fun l76 => G.cI .i64 (Addr.add ⟨g, 0, none⟩ 1) w72.drew fun n77 => G.cI .i64 (Addr.add ⟨g, 0, none⟩ 2) w72.drew fun n78 => G.cI .i64 (Addr.add ⟨g, 0, none⟩ 3) w72.drew fun n79 => G.cI .i64 (Addr.add ⟨g, 0, none⟩ 4) w72.drew fun n80 => G.cF .f64 (Addr.add ⟨g, 0, none⟩ 5) w72.drew fun f81 => C.rules_key l75 w72.drew fun s82 w83 => sameAt (p73.add 6) 1 w72.drew w83 ∧ sameAt ⟨g, 0, none⟩ 6 w72.drew w83 ∧ (G.runU C.pr (Instr.mapUpdate 73 (.map m74) (.string s82) (.agg #[l76.v, (.int .i64 n77), (.int .i64 n78), (.int .i64 n79), (.int .i64 n80), (.float .f64 f81)])) w83 fun w84 => K w84)) := by
  refine cond_of (fun h => hE h ωl w top) (fun h => ?_)
  have h16 := (rt_short hr).1
  refine cSl_at (s := s) (by rw [b.cell]; rfl) <| cloneL_ok hs h16 fun l70 w1 k1 o1 => ?_
  have s1 := k1.stp ωl 3
  have r1 : RT (ext ωl w.heap.size 3) w1 3 l70 2 (labs a.1) := Own.rt o1 (Nat.le_refl _) ωl 3
  have top1 := top.stp s1
  have ka1 := ka.stp s1 (off_non 1)
  have b1 := b.stp s1
  generalize ext ωl w.heap.size 3 = ω1 at *
  refine st_T b1 (by simp [avC]) fun ω2 w2 k2 b2 => ?_
  have b2 : BT ω2 w2 50 g 41 (avC (a, l70)) := b2
  have s3 := drew_stp ω2 w2
  have top3 := (top1.stp k2).stp s3
  have ka3 := (ka1.stp k2 (off_one (by omega))).stp s3 (off_non 1)
  have r3 := (r1.stp k2).stp s3
  have b3 := b2.stp s3
  refine ptr_at ⟨some gm, by rw [addr_add, ka3.hd.cell]; rfl, cSl_at (s := l70) (by rw [b3.cell]; rfl) <| ac_at (blk_ac b3.blk) ?_⟩
  refine key_ok (htab.keep top3.k) r3.rd hr fun w4 k4 => ⟨by rw [addr_add]; exact sameK ka3.hd.blk k4, sameK b3.blk k4, ?_⟩
  have s4 := k4.stp0 ω2
  have ka4 := ka3.stp s4 (off_non 1)
  have r4 := r3.stp s4
  refine updV (v := encV (a, l70)) ka4.pm.mp mapT strT fun ω5 w5 k5 m5 => ?_
  obtain ⟨pl5, pm5, hp5⟩ := upd_MS (a := a) (sl := l70) (by decide) ka4.pm hp hM k5 m5 r4
  exact hK h pl5 ω5 w5 ((top3.stp s4).stp k5) ⟨ka4.hd.stp k5, ka4.rl.stp k5, pm5⟩ hp5
theorem restore_ok (ω : Tg) (ht : UTab w) (hs : Rd w s 2 (labs r.ls)) (hl : r.ls.length ≤ 100000000) (ra : RdAs w l ql) (hql : ql.length ≤ 50000000) {K : Option Addr → Int → World → Prop}
    (hE : restE r last (ql.map (·.1)) ≠ 0 → ∀ ω' w', Stp Non ω ω' w w' → K none (restE r last (ql.map (·.1))) w')
    (hK : restE r last (ql.map (·.1)) = 0 → ∀ gs ω' w', Stp Non ω ω' w w' → KS ω' w' 1 gs r last (insAll [] (ql.map (·.1))) → K (some ⟨gs, 0, none⟩) 0 w') : C.rules_Restore r.rc r.nm r.ex r.fo r.ke s l last w K := by
  generalize hL : ql.map (·.1) = L at *
  have hLl : L.length = ql.length := by rw [← hL, List.length_map]
  refine restore_pre (fun _ => 0) 1 ht hs hl (fun hne ω' w' k => ?_) (fun h0 gs gm rs ω1 w1 k1 ka1 => ?_)
  · have e := restE_new (L := L) hne
    rw [e] at hE
    exact hE hne ω w' (k.keep.stp0 ω)
  have top1 := (Top.init w).stp k1
  have hln := rdA_n ra.1
  unfold C.rules_Restore.S17
  refine C.rules_Restore.L13_ind fun X hX => ?_
  have key : ∀ (d i : Nat) (ωl : Tg) (w2 : World), i + d = ql.length → Top w ωl w2 → KSa ωl w2 1 gs gm r last [] rs → (∀ j (h : j < L.length), j < i → canB last L[j] = true) → X l last (some ⟨gs, 0, none⟩) l ((l.n : Nat) : Int) (i : Int) w2 := by
    intro d
    induction d with
    | zero =>
      intro i ωl w2 hi top ka hc
      refine hX _ _ _ _ _ _ _ ?_
      unfold C.rules_Restore.S15 C.rules_Restore.S9
      refine cond_d (fun h => by omega) (fun _ => ?_)
      have hall : L.all (canB last) = true := List.all_eq_true.2 fun x hx => by
        obtain ⟨j, hj, rfl⟩ := List.mem_iff_getElem.1 hx
        exact hc j hj (by omega)
      refine C.rules_Restore.L5_ind fun Y hY => ?_
      have key2 : ∀ (d i : Nat) (pl : QL) (ωl : Tg) (w2 : World), i + d = ql.length → Top w ωl w2 → KSa ωl w2 1 gs gm r last pl rs → (pl.map (·.1)).Perm (insAll [] (L.take i)) → ((L.take i).map (·.1)).Nodup → Y (some ⟨gs, 0, none⟩) l ((l.n : Nat) : Int) (i : Int) w2 := by
        intro d
        induction d with
        | zero =>
          intro i pl ωl w2 hi top ka hp hn
          refine hY _ _ _ _ _ ?_
          unfold C.rules_Restore.S7 C.rules_Restore.S2
          rw [List.take_of_length_le (by omega)] at hp hn
          exact cond_d (fun h => by omega) (fun _ => hK (restE_ok h0 hall hn) gs _ w2 (rtg_stp top.k ω ωl _) ⟨gm, pl, rs, ka.rtg top, hp⟩)
        | succ d ih =>
          intro i pl ωl w2 hi top ka hp hn
          refine hY _ _ _ _ _ ?_
          unfold C.rules_Restore.S7
          have hiq : i < ql.length := by omega
          have hiL : i < L.length := by omega
          have hx : ql[i]? = some ql[i] := List.getElem?_eq_getElem hiq
          have eL : L[i] = (ql[i]).1 := by simp [← hL]
          have hmem := List.getElem_mem hiq
          have hup : (insAll [] (L.take i)).Pairwise ltA := insAll_up List.Pairwise.nil
          have etk := insAll_take hiL []
          have htn := take_names hiL
          have hrt := (can_iff.1 (List.all_eq_true.1 hall _ (List.getElem_mem hiL))).rt
          rw [eL] at etk htn hrt
          have dup : ∀ (o : Bool), o = (getM (insAll [] (L.take i)) (ql[i]).1.1).isSome → o = true → ∀ ω' w', Top w ω' w' → K none 6 w' := fun o eo ho ω' w' top' => by
            have hd : ¬ (L.map (·.1)).Nodup := take_dup (i := i + 1) fun h => by
              rw [(htn.1 h).2] at eo
              rw [eo] at ho; cases ho
            have e := restE_dup h0 hall hd
            rw [e] at hE
            exact hE (by decide) ω w' (top'.k.stp0 ω)
          have next : ∀ (o : Bool), o = (getM (insAll [] (L.take i)) (ql[i]).1.1).isSome → o = false → ∀ pl' ω' w', Top w ω' w' → KSa ω' w' 1 gs gm r last pl' rs → (pl'.map (·.1)).Perm (insM (ql[i]).1 (insAll [] (L.take i))) → Y (some ⟨gs, 0, none⟩) l ((l.n : Nat) : Int) (IntKind.i64.wrap ((i : Int) + 1)) w' := fun o eo ho pl' ω' w' top' ka' hp' => by
            rw [wI64 (by omega) (by omega), show (i : Int) + 1 = ((i + 1 : Nat) : Int) by omega]
            refine ih (i + 1) pl' ω' w' (by omega) top' ka' (by rw [etk]; exact hp') (htn.2 ⟨hn, ?_⟩)
            rw [ho] at eo
            cases hg : getM (insAll [] (L.take i)) (ql[i]).1.1 with
            | none => rfl
            | some y => rw [hg] at eo; cases eo
          refine cond_d (fun _ => ?_) (fun h => by omega)
          have hrd := (ra.2 _ hmem).1
          generalize ql[i] = p at *
          generalize insAll [] (L.take i) = M at *
          refine rdA_at (ra.1.keep top.k) (k := i) rfl hx fun a ac => ac_at ac ?_
          refine loc_ok p fun g w3 k3 hg b3 => ?_
          have s3 := (k3.1.stp ωl 50).trans (drew_stp _ w3)
          have top3 := top.stp s3
          have ka3 := ka.stp s3 (off_non 1)
          have b3 : BT (ext ωl w2.heap.size 50) w3.drew 50 g 41 (avC p) := ⟨b3, ext_new hg⟩
          generalize ext ωl w2.heap.size 50 = ω3 at *
          generalize w3.drew = w4 at *
          refine ptr_at ⟨some gm, by rw [addr_add, ka3.hd.cell]; rfl, cSl_at (s := p.2) (by rw [b3.cell]; rfl) ⟨?_, ?_⟩⟩
          · refine key_ok (ht.keep top3.k) (hrd.keep top3.k) hrt fun w5 k5 => ⟨by rw [addr_add]; exact sameK ka3.hd.blk k5, ?_⟩
            have s5 := k5.stp0 ω3
            have top5 := top3.stp s5
            have ka5 := ka3.stp s5 (off_non 1)
            have b5 := b3.stp s5
            refine ⟨?_, ?_⟩
            · have look : ∀ (o : Bool) (q : Av × Sl), o = (getM M p.1.1).isSome → G.ag (encV q) 6 fun c53 => G.vSl c53[0 + 0]? fun l55 => G.vI .i64 c53[0 + 1]? fun n56 => G.vI .i64 c53[0 + 2]? fun n57 => G.vI .i64 c53[0 + 3]? fun n58 => G.vI .i64 c53[0 + 4]? fun n59 => G.vF .f64 c53[0 + 5]? fun f60 => G.new (.cells #[nilS.v, (.int .i64 (0 : Int)), (.int .i64 (0 : Int)), (.int .i64 (0 : Int)), (.int .i64 (0 : Int)), (.float .f64 0)] 41) w5 fun p61 w62 => G.st p61 l55.v w62 fun w63 => G.st (p61.add 1) (.int .i64 n56) w63 fun w64 => G.st (p61.add 2) (.int .i64 n57) w64 fun w65 => G.st (p61.add 3) (.int .i64 n58) w65 fun w66 => G.st (p61.add 4) (.int .i64 n59) w66 fun w67 => G.st (p61.add 5) (.float .f64 f60) w67 fun w68 =>
                  G.cond o (K none (6 : Int) w68) (G.cSl ⟨g, 0, none⟩ w68 fun l69 => C.slices_Clone_Label_Label l69 w68 fun l70 w71 => G.st ⟨g, 0, none⟩ l70.v w71 fun w72 => G.ptr (some ⟨gs, 0, none⟩) fun p73 => G.cM (p73.add 6) w72.drew fun m74 => G.cSl ⟨g, 0, none⟩ w72.drew fun l75 => G.cSl ⟨g, 0, none⟩ w72.drew fun l76 => G.cI .i64 (Addr.add ⟨g, 0, none⟩ 1) w72.drew fun n77 => G.cI .i64 (Addr.add ⟨g, 0, none⟩ 2) w72.drew fun n78 => G.cI .i64 (Addr.add ⟨g, 0, none⟩ 3) w72.drew fun n79 => G.cI .i64 (Addr.add ⟨g, 0, none⟩ 4) w72.drew fun n80 => G.cF .f64 (Addr.add ⟨g, 0, none⟩ 5) w72.drew fun f81 => C.rules_key l75 w72.drew fun s82 w83 => sameAt (p73.add 6) 1 w72.drew w83 ∧ sameAt ⟨g, 0, none⟩ 6 w72.drew w83 ∧ (G.runU C.pr (Instr.mapUpdate 73 (.map m74) (.string s82) (.agg #[l76.v, (.int .i64 n77), (.int .i64 n78), (.int .i64 n79), (.int .i64 n80), (.float .f64 f81)])) w83 fun w84 => Y (some ⟨gs, 0, none⟩) l ((l.n : Nat) : Int) (IntKind.i64.wrap ((i : Int) + (1 : Int))) w84)) := fun o q eo => by
                refine enc_at q <| loc_ok q fun g6 w6 k6 _ _ => ?_
                have s6 := k6.1.stp0 ω3
                exact rst_tail (top5.stp s6) ht (ka5.stp s6 (off_non 1)) hp hup (b5.stp s6) (hrd.keep (top5.stp s6).k) hrt (E := fun w => K none 6 w) (fun ho ω' w' t' => dup o eo ho ω' w' t') (fun ho pl' ω' w' t' ka' hp' => next o eo ho pl' ω' w' t' ka' hp')
              exact look_ok ka5.pm.mp hp hup (fun hn0 => look false (zeroA, nilS) (by rw [hn0]; rfl)) (fun q _ hg0 => look true q (by rw [hg0]; rfl))
            · refine new_T (ω := ω3) 51 fun g6 ω6 w6 k6 b6 => ⟨?_, ?_⟩
              · rw [addr_add]; exact ka3.hd.sameT (s5.trans k6)
              have top6 := top5.stp k6
              have ka6 := ka5.stp k6 (off_non 1)
              have b6' := b5.stp k6
              have look : ∀ (o : Bool) (q : Av × Sl), o = (getM M p.1.1).isSome → G.ag (encV q) 6 fun c53 => G.vSl c53[0 + 0]? fun l55 => G.vI .i64 c53[0 + 1]? fun n56 => G.vI .i64 c53[0 + 2]? fun n57 => G.vI .i64 c53[0 + 3]? fun n58 => G.vI .i64 c53[0 + 4]? fun n59 => G.vF .f64 c53[0 + 5]? fun f60 => G.st ⟨g6, 0, none⟩ l55.v w6 fun w63 => G.st (Addr.add ⟨g6, 0, none⟩ 1) (.int .i64 n56) w63 fun w64 => G.st (Addr.add ⟨g6, 0, none⟩ 2) (.int .i64 n57) w64 fun w65 => G.st (Addr.add ⟨g6, 0, none⟩ 3) (.int .i64 n58) w65 fun w66 => G.st (Addr.add ⟨g6, 0, none⟩ 4) (.int .i64 n59) w66 fun w67 => G.st (Addr.add ⟨g6, 0, none⟩ 5) (.float .f64 f60) w67 fun w68 =>
                  G.cond o (K none (6 : Int) w68) (G.cSl ⟨g, 0, none⟩ w68 fun l69 => C.slices_Clone_Label_Label l69 w68 fun l70 w71 => G.st ⟨g, 0, none⟩ l70.v w71 fun w72 => G.ptr (some ⟨gs, 0, none⟩) fun p73 => G.cM (p73.add 6) w72.drew fun m74 => G.cSl ⟨g, 0, none⟩ w72.drew fun l75 => G.cSl ⟨g, 0, none⟩ w72.drew fun l76 => G.cI .i64 (Addr.add ⟨g, 0, none⟩ 1) w72.drew fun n77 => G.cI .i64 (Addr.add ⟨g, 0, none⟩ 2) w72.drew fun n78 => G.cI .i64 (Addr.add ⟨g, 0, none⟩ 3) w72.drew fun n79 => G.cI .i64 (Addr.add ⟨g, 0, none⟩ 4) w72.drew fun n80 => G.cF .f64 (Addr.add ⟨g, 0, none⟩ 5) w72.drew fun f81 => C.rules_key l75 w72.drew fun s82 w83 => sameAt (p73.add 6) 1 w72.drew w83 ∧ sameAt ⟨g, 0, none⟩ 6 w72.drew w83 ∧ (G.runU C.pr (Instr.mapUpdate 73 (.map m74) (.string s82) (.agg #[l76.v, (.int .i64 n77), (.int .i64 n78), (.int .i64 n79), (.int .i64 n80), (.float .f64 f81)])) w83 fun w84 => Y (some ⟨gs, 0, none⟩) l ((l.n : Nat) : Int) (IntKind.i64.wrap ((i : Int) + (1 : Int))) w84)) := fun o q eo => by
                refine enc_at q <| st_T b6 (by simp) fun ω7 w7 k7 b7 => st_TA b7 (by simp) fun ω8 w8 k8 b8 => st_TA b8 (by simp) fun ω9 w9 k9 b9 => st_TA b9 (by simp) fun ω10 w10 k10 b10 => st_TA b10 (by simp) fun ω11 w11 k11 b11 => st_TA b11 (by simp) fun ω12 w12 k12 _ => ?_
                have kk := (((((k7.trans k8).trans k9).trans k10).trans k11).trans k12)
                exact rst_tail (top6.stp kk) ht (ka6.stp kk (off_one (by omega))) hp hup (b6'.stp kk) (hrd.keep (top6.stp kk).k) hrt (E := fun w => K none 6 w) (fun ho ω' w' t' => dup o eo ho ω' w' t') (fun ho pl' ω' w' t' ka' hp' => next o eo ho pl' ω' w' t' ka' hp')
              exact look_ok ka6.pm.mp hp hup (fun hn0 => look false (zeroA, nilS) (by rw [hn0]; rfl)) (fun q _ hg0 => look true q (by rw [hg0]; rfl))
          · refine new_T (ω := ω3) 51 fun g6 ω6 w6 k6 b6 => ⟨?_, b3.sameT k6, ?_⟩
            · rw [addr_add]; exact ka3.hd.sameT k6
            have top6 := top3.stp k6
            refine key_ok (ht.keep top6.k) (hrd.keep top6.k) hrt fun w7 k7 => ⟨?_, ?_⟩
            · rw [addr_add]; exact ka3.hd.sameT (k6.trans (k7.stp0 ω6))
            have s7 := k7.stp0 ω6
            have top7 := top6.stp s7
            have ka7 := (ka3.stp k6 (off_non 1)).stp s7 (off_non 1)
            have b7' := (b3.stp k6).stp s7
            have b67 := b6.stp s7
            have look : ∀ (o : Bool) (q : Av × Sl), o = (getM M p.1.1).isSome → G.ag (encV q) 6 fun c53 => G.vSl c53[0 + 0]? fun l55 => G.vI .i64 c53[0 + 1]? fun n56 => G.vI .i64 c53[0 + 2]? fun n57 => G.vI .i64 c53[0 + 3]? fun n58 => G.vI .i64 c53[0 + 4]? fun n59 => G.vF .f64 c53[0 + 5]? fun f60 => G.st ⟨g6, 0, none⟩ l55.v w7 fun w63 => G.st (Addr.add ⟨g6, 0, none⟩ 1) (.int .i64 n56) w63 fun w64 => G.st (Addr.add ⟨g6, 0, none⟩ 2) (.int .i64 n57) w64 fun w65 => G.st (Addr.add ⟨g6, 0, none⟩ 3) (.int .i64 n58) w65 fun w66 => G.st (Addr.add ⟨g6, 0, none⟩ 4) (.int .i64 n59) w66 fun w67 => G.st (Addr.add ⟨g6, 0, none⟩ 5) (.float .f64 f60) w67 fun w68 =>
                G.cond o (K none (6 : Int) w68) (G.cSl ⟨g, 0, none⟩ w68 fun l69 => C.slices_Clone_Label_Label l69 w68 fun l70 w71 => G.st ⟨g, 0, none⟩ l70.v w71 fun w72 => G.ptr (some ⟨gs, 0, none⟩) fun p73 => G.cM (p73.add 6) w72.drew fun m74 => G.cSl ⟨g, 0, none⟩ w72.drew fun l75 => G.cSl ⟨g, 0, none⟩ w72.drew fun l76 => G.cI .i64 (Addr.add ⟨g, 0, none⟩ 1) w72.drew fun n77 => G.cI .i64 (Addr.add ⟨g, 0, none⟩ 2) w72.drew fun n78 => G.cI .i64 (Addr.add ⟨g, 0, none⟩ 3) w72.drew fun n79 => G.cI .i64 (Addr.add ⟨g, 0, none⟩ 4) w72.drew fun n80 => G.cF .f64 (Addr.add ⟨g, 0, none⟩ 5) w72.drew fun f81 => C.rules_key l75 w72.drew fun s82 w83 => sameAt (p73.add 6) 1 w72.drew w83 ∧ sameAt ⟨g, 0, none⟩ 6 w72.drew w83 ∧ (G.runU C.pr (Instr.mapUpdate 73 (.map m74) (.string s82) (.agg #[l76.v, (.int .i64 n77), (.int .i64 n78), (.int .i64 n79), (.int .i64 n80), (.float .f64 f81)])) w83 fun w84 => Y (some ⟨gs, 0, none⟩) l ((l.n : Nat) : Int) (IntKind.i64.wrap ((i : Int) + (1 : Int))) w84)) := fun o q eo => by
              refine enc_at q <| st_T b67 (by simp) fun ω7 w7 k7 b7 => st_TA b7 (by simp) fun ω8 w8 k8 b8 => st_TA b8 (by simp) fun ω9 w9 k9 b9 => st_TA b9 (by simp) fun ω10 w10 k10 b10 => st_TA b10 (by simp) fun ω11 w11 k11 b11 => st_TA b11 (by simp) fun ω12 w12 k12 _ => ?_
              have kk := (((((k7.trans k8).trans k9).trans k10).trans k11).trans k12)
              exact rst_tail (top7.stp kk) ht (ka7.stp kk (off_one (by omega))) hp hup (b7'.stp kk) (hrd.keep (top7.stp kk).k) hrt (E := fun w => K none 6 w) (fun ho ω' w' t' => dup o eo ho ω' w' t') (fun ho pl' ω' w' t' ka' hp' => next o eo ho pl' ω' w' t' ka' hp')
            exact look_ok ka7.pm.mp hp hup (fun hn0 => look false (zeroA, nilS) (by rw [hn0]; rfl)) (fun q _ hg0 => look true q (by rw [hg0]; rfl))
      exact key2 ql.length 0 [] ωl w2 (by omega) top ka (by simp [insAll]) (by simp)
    | succ d ih =>
      intro i ωl w2 hi top ka hc
      refine hX _ _ _ _ _ _ _ ?_
      unfold C.rules_Restore.S15
      have hiq : i < ql.length := by omega
      have hiL : i < L.length := by omega
      have hx : ql[i]? = some ql[i] := List.getElem?_eq_getElem hiq
      have eL : L[i] = (ql[i]).1 := by simp [← hL]
      have hmem := List.getElem_mem hiq
      refine cond_d (fun _ => ?_) (fun h => by omega)
      refine rdA_at (ra.1.keep top.k) (k := i) rfl hx fun a ac => ac_at ac <| loc_ok ql[i] fun g w3 k3 hg b3 => ac_at (blk_ac b3) ?_
      have s3 := k3.1.stp0 ωl
      have top3 := top.stp s3
      refine can_ok (a := (ql[i]).1) (ht.keep top3.k) ((ra.2 _ hmem).1.keep top3.k) fun w4 k4 => ?_
      have s4 := s3.trans (k4.stp0 ωl)
      have top4 := top.stp s4
      refine cond_of (fun hf => ?_) (fun htr => ?_)
      · have hall : L.all (canB last) = false := by
          rw [List.all_eq_false]
          refine ⟨L[i], List.getElem_mem hiL, ?_⟩
          rw [eL]
          simpa using hf
        have e := restE_can h0 hall
        rw [e] at hE
        exact hE (by decide) ω w4 (top4.k.stp0 ω)
      · rw [wI64 (by omega) (by omega), show (i : Int) + 1 = ((i + 1 : Nat) : Int) by omega]
        refine ih (i + 1) ωl w4 (by omega) top4 (ka.stp s4 (off_non 1)) fun j hj hji => ?_
        by_cases ej : j = i
        · subst ej; rw [eL]; simpa using htr
        · exact hc j hj (by omega)
  exact key ql.length 0 ω1 w1 (by omega) top1 ka1 (fun j hj h => by omega)
end Go.Proofs.YtechilkjfhpkpaaGreatDoor.Ru

namespace Go.Proofs.YtechilkjfhpkpaaGreatDoor.Ru
open Go Vm Go.RowKit Num Mem Utf Lib Lab Rep
variable {ω ω' ωb : Tg} {w w' w0 wb : World} {t gs gm gr : Nat} {T : Nat → Bool} {M N : List Av} {r : Rl} {now last : Int} {s sl l rs : Sl} {ql pl oq : QL} {a : Av}
theorem newE_of (hr : ruleB r = true) (hc : r.rc = false) (h1 : -1 ≤ last) (h2 : last ≤ 1125899906842624) : newE r last = 0 := by
  unfold newE
  rw [if_pos ⟨hr, hc⟩, if_neg (by omega)]
theorem newE_rl' (h : newE r last = 0) : ruleB r = true ∧ r.rc = false ∧ -1 ≤ last ∧ last ≤ 1125899906842624 := by
  unfold newE at h
  by_cases h' : ruleB r = true ∧ r.rc = false
  · rw [if_pos h'] at h
    refine ⟨h'.1, h'.2, ?_⟩
    by_cases h2 : last < -1 ∨ last > 1125899906842624
    · rw [if_pos h2] at h; exact absurd h (by decide)
    · omega
  · rw [if_neg h'] at h; exact absurd h (by decide)
theorem rrest_ok (top : Top w0 ω w) (hs : Rd w0 s 2 (labs r.ls)) (hsz : ∀ x ∈ r.ls, x.2.size ≤ 140737488355300) (hl : r.ls.length ≤ 100000000) (ra : RdAs w0 l ql) (hql : ql.length ≤ 20000000) (hz : ∀ p ∈ ql, ∀ x ∈ p.1.1, x.2.size ≤ 140737488355300) (hzl : ∀ p ∈ ql, p.1.1.length ≤ 100000000) {K : Option Addr → Int → World → Prop}
    (hE : restE r last (ql.map (·.1)) ≠ 0 → ∀ ω' w', Stp (Mem.One 10) ω ω' w w' → K none (restE r last (ql.map (·.1))) w')
    (hK : restE r last (ql.map (·.1)) = 0 → ∀ gr ω' w', Stp (Mem.One 10) ω ω' w w' → RK ω' w' 10 gr r last (insAll [] (ql.map (·.1))) → K (some ⟨gr, 0, none⟩) 0 w') : C.tocsinref19_Restore r.rc r.nm r.ex r.fo r.ke s l last w K := by
  unfold C.tocsinref19_Restore
  obtain ⟨vp, hvp, hfv⟩ := fresh ω w.heap.size 12
  have heq : ∃ L, ql.map (·.1) = L := ⟨_, rfl⟩
  obtain ⟨L, hL⟩ := heq
  rw [hL] at hE hK
  have hLl : L.length = ql.length := by rw [← hL, List.length_map]
  refine new_T (ω := ω) 0 fun g ω1 w1 k1 b1 => ?_
  have b1 : BT ω1 w1 0 g 24 (rlC r s) := b1
  have top1 := top.stp k1
  refine rl_cells b1.blk <| rnew_ok 10 top1 hs hsz hl (fun hne ω2 w2 k2 => ?_) (fun h0 gr ω2 w2 k2 rk2 => ?_)
  · have e : newE r last = 201 := by
      unfold newE at hne ⊢
      split
      · rename_i h; rw [if_pos h, if_neg (by omega)] at hne; exact absurd rfl hne
      · rfl
    have e2 := restE_new (r := r) (last := last) (L := L) (by rw [e]; decide)
    rw [e] at e2
    rw [e2] at hE
    exact cond_t rfl (hE (by decide) ω2 w2 ((k1.trans k2).non _))
  obtain ⟨hr, hrc⟩ := newE_rl h0
  have sp2 : Stp (Mem.One 10) ω ω2 w w2 := (k1.trans k2).non _
  have top2 := top1.stp k2
  have enew : newE r last = if last < -1 ∨ last > 1125899906842624 then 1 else 0 := by unfold newE; rw [if_pos ⟨hr, hrc⟩]
  have bad : (last < -1 ∨ last > 1125899906842624) → K none 1 w2 := fun h => by
    rw [if_pos h] at enew
    have e2 := restE_new (r := r) (last := last) (L := L) (by rw [enew]; decide)
    rw [enew] at e2
    rw [e2] at hE
    exact hE (by decide) ω2 w2 sp2
  refine cond_f rfl <| cond_d (fun h => bad (.inl h)) (fun h1 => cond_d (fun h => bad (.inr h)) (fun h2 => ?_))
  rw [if_neg (by omega)] at enew
  have hln := rdA_n ra.1
  unfold C.tocsinref19_Restore.S17
  refine C.tocsinref19_Restore.L13_ind fun X hX => ?_
  have key : ∀ (d i : Nat) (w3 : World), i + d = ql.length → Keep w2 w3 → (∀ j (h : j < L.length), j < i → canB last L[j] = true) → X l last (some ⟨gr, 0, none⟩) (i : Int) w3 := by
    intro d
    induction d with
    | zero =>
      intro i w3 hi k3 hc
      refine hX _ _ _ _ _ ?_
      unfold C.tocsinref19_Restore.S15 C.tocsinref19_Restore.S9
      refine cond_d (fun h => by omega) (fun _ => ?_)
      have hall : L.all (canB last) = true := List.all_eq_true.2 fun x hx => by
        obtain ⟨j, hj, rfl⟩ := List.mem_iff_getElem.1 hx
        exact hc j hj (by omega)
      have h16 : ∀ a ∈ L, a.1.length ≤ 16 := fun a ha => (rt_short (can_iff.1 (List.all_eq_true.1 hall a ha)).rt).1
      have s3 := k3.stp0 ω2
      obtain ⟨kl, kq, rs, ka, ek⟩ := rk2.stp s3 (offR_non 10)
      have ek0 : kq = [] := List.map_eq_nil_iff.1 ek
      subst ek0
      refine C.tocsinref19_Restore.L5_ind fun Y hY => ?_
      have key2 : ∀ (d i : Nat) (kl : Sl) (kq : QL) (ω3 : Tg) (w3 : World), i + d = ql.length → Stp (Mem.One 10) ω ω3 w w3 → Top w0 ω3 w3 → RKa ω3 w3 10 gr r (-1) kl kq rs → kq.map (·.1) = insAll [] (L.take i) → ((L.take i).map (·.1)).Nodup → Y l last (some ⟨gr, 0, none⟩) (i : Int) w3 := by
        intro d
        induction d with
        | zero =>
          intro i kl kq ω3 w3 hi sp top ka ek hn
          refine hY _ _ _ _ _ ?_
          unfold C.tocsinref19_Restore.S7 C.tocsinref19_Restore.S2
          rw [List.take_of_length_le (by omega)] at ek hn
          refine cond_d (fun h => by omega) (fun _ => ptr_at <| st_TA ka.hd (by simp) fun ω4 w4 k4 b4 => ?_)
          exact hK (restE_ok enew hall hn) gr ω4 w4 (sp.trans k4) ⟨kl, kq, rs, ⟨b4, ka.rl.stp k4 (beq_no (by omega)), ka.row.stp k4 (beq_no (by omega)), fun p hp => (ka.lab p hp).stp k4 (beq_no (by omega))⟩, ek⟩
        | succ d ih =>
          intro i kl kq ω3 w3 hi sp top ka ek hn
          refine hY _ _ _ _ _ ?_
          unfold C.tocsinref19_Restore.S7
          have hiq : i < ql.length := by omega
          have hiL : i < L.length := by omega
          have hx : ql[i]? = some ql[i] := List.getElem?_eq_getElem hiq
          have eL : L[i] = (ql[i]).1 := by simp [← hL]
          have hmem := List.getElem_mem hiq
          have hup : (insAll [] (L.take i)).Pairwise ltA := insAll_up List.Pairwise.nil
          have etk := insAll_take hiL []
          have htn := take_names hiL
          have hp16 := h16 _ (List.getElem_mem hiL)
          rw [eL] at etk htn hp16
          have hk16 : ∀ p ∈ kq, p.1.1.length ≤ 16 := fun p hp => by
            have : p.1 ∈ insAll [] (L.take i) := by rw [← ek]; exact List.mem_map_of_mem hp
            exact h16 _ (List.mem_of_mem_take ((insAll_nodup hn).1 this))
          have hkl : kq.length ≤ ql.length := by
            have a1 := congrArg List.length ek
            have a2 := insAll_len (N := []) (L := L.take i)
            rw [List.length_map] at a1
            rw [List.length_take, List.length_nil] at a2
            omega
          have sd := drew_stp ω3 w3
          have spd := sp.trans (sd.non _)
          have topd := top.stp sd
          have kad := ka.stp sd (offR_non 10)
          have rakq : ∀ {ω w kl kq}, RKa ω w 10 gr r (-1) kl kq rs → (∀ p ∈ kq, p.1.1.length ≤ 16) → RdAs w kl kq := fun ka h => ⟨ka.row.rd, fun p hp => ⟨(ka.lab p hp).rd, by have := h p hp; omega⟩⟩
          have hrd := (ra.2 _ hmem).1
          have hzz := hzl _ hmem
          generalize ql[i] = p at *
          generalize hM : insAll [] (L.take i) = M at *
          refine cond_d (fun _ => ?_) (fun h => by omega)
          refine ptr_at <| cSl_at (s := kl) (by rw [addr_add, kad.hd.cell]; rfl) <| rdA_at (ra.1.keep topd.k) (k := i) rfl hx fun a ac => cSl_at ac.1 <| rat_ok (rakq kad hk16) ek hup (by omega) (hrd.keep topd.k) fun w4 k4 => ?_
          have s4 := k4.stp0 ω3
          have sp4 := spd.trans (s4.non _)
          have top4 := topd.stp s4
          have ka4 := kad.stp s4 (offR_non 10)
          refine cond_of (fun ho => ?_) (fun ho => ?_)
          · have hd : ¬ (L.map (·.1)).Nodup := take_dup (i := i + 1) fun h => by
              rw [(htn.1 h).2] at ho; cases ho
            have e := restE_dup enew hall hd
            rw [e] at hE
            exact hE (by decide) ω3 w4 sp4
          have hg : getM M p.1.1 = none := by
            cases hg : getM M p.1.1 with
            | none => rfl
            | some y => rw [hg] at ho; cases ho
          refine rdA_at (ra.1.keep top4.k) (k := i) rfl hx fun a ac => ac_at ac <| loc_T ω3 vp p fun g5 ω5 w5 k5 b5 => ?_
          have top5 := top4.stp k5
          have ka5 := ka4.stp k5 (offR_non 10)
          refine cSl_at (s := p.2) (by rw [b5.cell]; rfl) <| own9b_ok (hrd.keep top5.k) hzz fun r6 w6 k6 o6 => ?_
          have s6 := k6.stp ω5 12
          have r6t : RT (ext ω5 w5.heap.size 12) w6 12 r6 2 (labs p.1.1) := Own.rt o6 (Nat.le_refl _) ω5 12
          have top6 := top5.stp s6
          have ka6 := ka5.stp s6 (offR_non 10)
          have b6 := b5.stp s6
          have sp6 := sp4.trans ((k5.trans s6).non _)
          generalize ext ω5 w5.heap.size 12 = ω6 at *
          refine st_T b6 (by simp [avC]) fun ω7 w7 k7 b7 => ?_
          have b7 : BT ω7 w7 vp g5 41 (avC (p.1, r6)) := b7
          have sd7 := drew_stp ω7 w7
          have top7 := (top6.stp k7 (beq_no (by omega))).stp sd7
          have ka7 := (ka6.stp k7 (offR_one (by omega))).stp sd7 (offR_non 10)
          have b7d := b7.stp sd7
          have r7 := (r6t.stp k7 (beq_no (by omega))).stp sd7
          have sp7 := (sp6.fresh k7 hfv).trans (sd7.non _)
          refine ptr_at <| cSl_at (s := kl) (by rw [addr_add, ka7.hd.cell]; rfl) <| ac_at (blk_ac b7d.blk) ?_
          refine rput_ok ω7 11 (a := p.1) (rakq ka7 hk16) ek hup (by omega) r7.rd fun r8 q8 ω8 w8 k8 o8 hp8 e8 => ?_
          have ka8 := ka7.stp k8 (offR_non 10)
          refine ptr_at <| st_TA ka8.hd (by simp) fun ω9 w9 k9 b9 => ?_
          rw [wI64 (by omega) (by omega), show (i : Int) + 1 = ((i + 1 : Nat) : Int) by omega]
          refine ih (i + 1) r8 q8 ω9 w9 (by omega) ((sp7.trans (k8.non _)).trans k9) ((top7.stp k8).stp k9) ⟨b9, ka8.rl.stp k9, (o8.rt).stp k9, fun p' hp' => ?_⟩ (by rw [etk]; exact e8) (htn.2 ⟨hn, hg⟩)
          rcases hp8 p' hp' with hp' | rfl
          · exact (ka8.lab p' hp').stp k9
          · exact (r7.stp k8).stp k9
      exact key2 ql.length 0 kl [] ω2 w3 (by omega) (sp2.trans (s3.non _)) (top2.stp s3) ka (by simp [insAll]) (by simp)
    | succ d ih =>
      intro i w3 hi k3 hc
      refine hX _ _ _ _ _ ?_
      unfold C.tocsinref19_Restore.S15
      have hiq : i < ql.length := by omega
      have hiL : i < L.length := by omega
      have hx : ql[i]? = some ql[i] := List.getElem?_eq_getElem hiq
      have eL : L[i] = (ql[i]).1 := by simp [← hL]
      have hmem := List.getElem_mem hiq
      have k03 := Keep.trans top2.k k3
      refine cond_d (fun _ => ?_) (fun h => by omega)
      refine rdA_at (ra.1.keep k03) (k := i) rfl hx fun a ac => ac_at ac ?_
      refine rcan_ok (a := (ql[i]).1) ((ra.2 _ hmem).1.keep k03) (hz _ hmem) fun w4 k4 => ?_
      refine cond_of (fun hf => ?_) (fun htr => ?_)
      · have hall : L.all (canB last) = false := by
          rw [List.all_eq_false]
          refine ⟨L[i], List.getElem_mem hiL, ?_⟩
          rw [eL]
          simpa using hf
        have e := restE_can enew hall
        rw [e] at hE
        exact hE (by decide) ω2 w4 (sp2.trans (((Keep.trans k3 k4).stp0 ω2).non _))
      · rw [wI64 (by omega) (by omega), show (i : Int) + 1 = ((i + 1 : Nat) : Int) by omega]
        refine ih (i + 1) w4 (by omega) (Keep.trans k3 k4) fun j hj hji => ?_
        by_cases ej : j = i
        · subst ej; rw [eL]; simpa using htr
        · exact hc j hj (by omega)
  exact key ql.length 0 w2 (by omega) (Keep.refl _) (fun j hj h => by omega)
theorem rest_S9 {g : Nat} (htab : UTab w0) (het : ETab w0) (hs : Rd w0 s 2 (labs r.ls)) (hl : r.ls.length ≤ 100000000) (hrb : ruleB r = true) (hrc : r.rc = false) {b : Nat} (hb : b ≤ 2000000) {m : List Tk} {f : Nat → Nat} (hc : Scr w0 sl m f b) (hml : m.length < b) {K : Bool → World → Prop} (hK : ∀ w', Keep w0 w' → K true w')
    (top : Top w0 ω w) (bg : BT ω w 9 g 24 (rlC r s)) (ks : KS ω w 1 gs r last M) (rk : RK ω w 10 gr r last M) (hM : Good M) (hMl : M.length ≤ 2000000) (hcan : ∀ a ∈ M, CanA last a) (h1 : -1 ≤ last) (h2 : last ≤ 1125899906842624) :
    C.tocsinlaw19_RulesRestored.S9 K sl (some ⟨g, 0, none⟩) (some ⟨gs, 0, none⟩) (some ⟨gr, 0, none⟩) w := by
  have hsn := hc.len
  unfold C.tocsinlaw19_RulesRestored.S9
  refine C.tocsinlaw19_RulesRestored.L5_ind fun X hX => ?_
  have key : ∀ (d i gs : Nat) (last : Int) (M' : List Av) (ω : Tg) (w4 : World), i + d = m.length → Top w0 ω w4 → BT ω w4 9 g 24 (rlC r s) → KS ω w4 1 gs r last M' → RK ω w4 10 gr r last M' → Good M' → M'.length ≤ M.length + sumTo f i → (∀ a ∈ M', CanA last a) → -1 ≤ last → last ≤ 1125899906842624 → X sl (some ⟨g, 0, none⟩) (some ⟨gs, 0, none⟩) (some ⟨gr, 0, none⟩) (i : Int) w4 := by
    intro d
    induction d with
    | zero =>
      intro i gs last M' ω w4 hi top bg ks rk hM' hMl' hcan h1 h2
      refine hX _ _ _ _ _ _ ?_
      unfold C.tocsinlaw19_RulesRestored.S7 C.tocsinlaw19_RulesRestored.S2
      exact cond_d (fun h => by omega) (fun _ => known_ok (htab.keep top.k) (het.keep top.k) fun w' k' => hK w' (Keep.trans top.k k'))
    | succ d ih =>
      intro i gs last M' ω w4 hi top bg ks rk hM' hMl' hcan h1 h2
      refine hX _ _ _ _ _ _ ?_
      unfold C.tocsinlaw19_RulesRestored.S7
      have him : i < m.length := by omega
      have hx : m[i]? = some m[i] := List.getElem?_eq_getElem him
      obtain ⟨hq, hql, hqz⟩ := hc.el i _ hx
      generalize m[i] = x at *
      obtain ⟨now, qs, q⟩ := x
      dsimp only at hq hql hqz
      have hsum := hc.up (show i + 1 ≤ m.length by omega)
      have hsum1 : sumTo f (i + 1) = sumTo f i + f i := rfl
      refine cond_d (fun _ => ?_) (fun h => by omega)
      refine rdK_at (hc.keep top.k) (k := i) rfl hx fun a a0 a1 => cI_at a0 <| cSl_at a1 ?_
      refine step_law top htab het hrb ks rk hM' (by omega) hq (by omega) hqz hb fun ω5 w5 e5 ks5 rk5 hM5 hM5l => ?_
      have top5 := top.stp e5 ev0
      have bg5 := bg.stp e5 ev9
      have hcan5 : (∀ a ∈ nextM r last now (q.map (·.1)) M', CanA (nextL r last now (q.map (·.1))) a) ∧ -1 ≤ nextL r last now (q.map (·.1)) ∧ nextL r last now (q.map (·.1)) ≤ 1125899906842624 := by
        unfold nextM nextL
        by_cases he : stepE r last now (q.map (·.1)) = 0
        · rw [if_pos he, if_pos he]
          obtain ⟨ht, htb, hlt⟩ := stepE_told he
          unfold timeB at htb
          rw [Bool.and_eq_true] at htb
          have t1 := of_decide_eq_true htb.1
          have t2 := of_decide_eq_true htb.2
          exact ⟨can_step hrb hrc hM'.up hcan he, by omega, t2⟩
        · rw [if_neg he, if_neg he]
          exact ⟨hcan, h1, h2⟩
      generalize nextM r last now (q.map (·.1)) M' = M5 at *
      generalize nextL r last now (q.map (·.1)) = l5 at *
      obtain ⟨hcan5, h15, h25⟩ := hcan5
      have sd := drew_stp ω5 w5
      have topd := top5.stp sd
      have bgd := bg5.stp sd
      refine cond_f rfl <| ptr_at <| rl_cells bgd.blk ?_
      refine kactive_ok ω5 (ks5.stp sd (off_non 1)) hM5 (by omega) 40 41 fun a7 ql7 ω7 w7 k7 oa7 e7 he7 => ⟨bgd.sameT k7, ?_⟩
      have s7 : Stp Non ω5 ω7 w5 w7 := sd.trans k7
      refine last_ok (ks5.stp s7 (off_non 1)) ⟨bgd.sameT k7, ?_⟩
      have top7 := topd.stp k7
      have hl7 := congrArg List.length e7
      rw [List.length_map] at hl7
      have rE : restE r l5 (ql7.map (·.1)) = 0 := by
        rw [e7]
        exact restE_ok (newE_of hrb hrc h15 h25) (List.all_eq_true.2 fun a ha => can_iff.2 (hcan5 a ha)) (nodupL hM5.up)
      refine restore_ok ω7 (htab.keep top7.k) (hs.keep top7.k) hl (rdA_of oa7 e7 he7 hM5.rt) (by omega) (fun hne => absurd rE hne) (fun _ gs8 ω8 w8 k8 ks8 => ?_)
      rw [e7, insAll_up_self hM5.up] at ks8
      refine cond_f rfl <| cond_f rfl ?_
      rw [wI64 (by omega) (by omega), show (i : Int) + 1 = ((i + 1 : Nat) : Int) by omega]
      have s8 := s7.trans k8
      exact ih (i + 1) gs8 l5 M5 ω8 w8 (by omega) (top5.stp s8) (bg5.stp s8) ks8 (rk5.stp s8 (offR_non 10)) hM5 (by omega) hcan5 h15 h25
  exact key m.length 0 gs last M ω w (by omega) top bg ks rk hM (by simp [sumTo]) hcan h1 h2
theorem rest_S11 {g : Nat} {own : Sl} (htab : UTab w0) (het : ETab w0) (hs : Rd w0 s 2 (labs r.ls)) {b : Nat} (hz : RlSm b r) (hb : b ≤ 2000000) {m : List Tk} {f : Nat → Nat} (hc : Scr w0 sl m f b) (hml : m.length < b) (hl : Rd w0 l 6 (avs ql)) (hle : ∀ p ∈ ql, Rd w0 p.2 2 (labs p.1.1) ∧ LbSm b p.1.1) (hql : ql.length < b) {K : Bool → World → Prop} (hK : ∀ w', Keep w0 w' → K true w')
    (top : Top w0 ω w) (bg : BT ω w 9 g 24 (rlC r s)) (oo : OT ω w 20 41 6 own (avs oq)) (ho : ∀ p ∈ oq, OT ω w 21 99 2 p.2 (labs p.1.1)) (eo : oq.map (·.1) = ql.map (·.1)) :
    C.tocsinlaw19_RulesRestored.S11 K l last sl (some ⟨g, 0, none⟩) own w := by
  unfold C.tocsinlaw19_RulesRestored.S11
  have hzl := hz.2.2.1
  have hsz : ∀ x ∈ r.ls, x.2.size ≤ 140737488355300 := fun x hx => by have := (hz.2.2.2 x hx).2; omega
  have hol := congrArg List.length eo
  rw [List.length_map, List.length_map] at hol
  have hlen : ∀ p ∈ ql, p.1.1.length ≤ 100000000 := fun p hp => by have := (hle p hp).2.1; omega
  have holen : ∀ p ∈ oq, p.1.1.length ≤ 100000000 := fun p hp => by
    have : p.1 ∈ ql.map (·.1) := by rw [← eo]; exact List.mem_map_of_mem hp
    obtain ⟨p', hp', e⟩ := List.mem_map.1 this
    rw [← e]; exact hlen p' hp'
  have ral : RdAs w0 l ql := ⟨hl, fun p hp => ⟨(hle p hp).1, by have := hlen p hp; omega⟩⟩
  have rao : ∀ {ω' w'}, Stp Non ω ω' w w' → RdAs w' own oq := fun k => ⟨(oo.stp k).rd, fun p hp => ⟨((ho p hp).stp k).rd, by have := holen p hp; omega⟩⟩
  have known : ∀ w1, Keep w0 w1 → C.tocsinlaw19_known w1 fun b w' => K b w' := fun w1 k1 => known_ok (htab.keep k1) (het.keep k1) fun w' k' => hK w' (Keep.trans k1 k')
  refine ptr_at <| rl_cells bg.blk ?_
  refine restore_ok ω (htab.keep top.k) (hs.keep top.k) (by omega) (rao (Stp.refl _ _ _)) (by omega) (fun hne ω1 w1 k1 => ?_) (fun h0 gs ω1 w1 k1 ks1 => ?_)
  · rw [eo] at hne ⊢
    have top1 := top.stp k1
    refine ptr_at <| rl_cells (bg.stp k1).blk ?_
    refine rrest_ok top1 hs hsz (by omega) ral (by omega) (fun p hp x hx => by have := ((hle p hp).2.2 x hx).2; omega) hlen (fun _ ω2 w2 k2 => ?_) (fun h => absurd h hne)
    have top2 := top1.stp k2
    have ra2 : RdAs w2 own oq := ⟨((oo.stp k1).stp k2).rd, fun p hp => ⟨(((ho p hp).stp k1).stp k2).rd, by have := holen p hp; omega⟩⟩
    refine cond_f (by rw [bne_self_eq_false]) <| cond_f rfl <| asame_ok ra2 (ral.keep top2.k) (by omega) fun w3 k3 => ?_
    rw [decide_eq_true eo]
    exact cond_f rfl <| cond_t rfl (known w3 (Keep.trans top2.k k3))
  · rw [eo] at h0 ks1
    have top1 := top.stp k1
    refine ptr_at <| rl_cells (bg.stp k1).blk ?_
    refine rrest_ok top1 hs hsz (by omega) ral (by omega) (fun p hp x hx => by have := ((hle p hp).2.2 x hx).2; omega) hlen (fun hne => absurd h0 hne) (fun _ gr ω2 w2 k2 rk2 => ?_)
    have top2 := top1.stp k2
    have oo2 := (oo.stp k1).stp k2
    have ho2 : ∀ p ∈ oq, OT ω2 w2 21 99 2 p.2 (labs p.1.1) := fun p hp => ((ho p hp).stp k1).stp k2
    have ks2 := ks1.stp k2 (off_one (by omega))
    have bg2 := (bg.stp k1).stp k2
    refine cond_f rfl <| cond_f rfl <| asame_ok ⟨oo2.rd, fun p hp => ⟨(ho2 p hp).rd, by have := holen p hp; omega⟩⟩ (ral.keep top2.k) (by omega) fun w3 k3 => ?_
    rw [decide_eq_true eo]
    have s3 := k3.stp0 ω2
    refine cond_f rfl <| cond_f rfl ?_
    refine spoilA_ok (u := 20) (v := 21) (ω := ω2) (by decide) (rdA_n oo2.rd) (by omega) (spA_of (oo2.stp s3) rfl (fun p hp => (ho2 p hp).stp s3) holen) fun ω4 w4 k4 => ?_
    refine spoilL_ok (u := 60) (v := 61) (ω := ω4) (oq := []) (by decide) (RT.nil ..) (by simp) (by simp) fun ω5 w5 k5 => ?_
    obtain ⟨hnew, hcan, hnd⟩ := restE_zero h0
    obtain ⟨hr, hrc, h1, h2⟩ := newE_rl' hnew
    have hmem : ∀ a ∈ insAll [] (ql.map (·.1)), CanA last a := fun a ha => hcan a ((insAll_nodup hnd).1 ha)
    have hM : Good (insAll [] (ql.map (·.1))) := ⟨insAll_up List.Pairwise.nil, fun a ha => (hmem a ha).rt⟩
    have hMl := insAll_len (N := []) (L := ql.map (·.1))
    rw [List.length_map, List.length_nil] at hMl
    have ks5 := ((ks2.stp s3 (off_non 1)).stp k4 ⟨rfl, rfl, rfl, rfl⟩).stp k5 (off_one (by omega))
    have rk5 := ((rk2.stp s3 (offR_non 10)).stp k4 ⟨rfl, rfl, rfl, rfl⟩).stp k5 (offR_one (by omega))
    have top5 := ((top2.stp s3).stp k4).stp k5
    have bg5 := ((bg2.stp s3).stp k4).stp k5
    generalize insAll [] (ql.map (·.1)) = M at *
    refine both_ok ks5 rk5 hM (by omega) fun ω6 w6 k6 ks6 rk6 => ?_
    refine cond_f rfl ?_
    refine lasts_ok ks6 rk6 hM (Z := fun n99 n98 w100 => G.cond (n99 != n98) (K false w100) (C.tocsinlaw19_RulesRestored.S9 K sl (some ⟨g, 0, none⟩) (some ⟨gs, 0, none⟩) (some ⟨gr, 0, none⟩) w100)) ?_
    refine cond_f (by rw [bne_self_eq_false]) ?_
    exact rest_S9 htab het hs (by omega) hr hrc hb hc hml hK (top5.stp k6) (bg5.stp k6) ks6 rk6 hM (by omega) hmem h1 h2
theorem restored_law (htab : UTab w0) (het : ETab w0) (hs : Rd w0 s 2 (labs r.ls)) {b : Nat} (hz : RlSm b r) (hb : b ≤ 2000000) {m : List Tk} {f : Nat → Nat} (hc : Scr w0 sl m f b) (hml : m.length < b) (hl : Rd w0 l 6 (avs ql)) (hle : ∀ p ∈ ql, Rd w0 p.2 2 (labs p.1.1) ∧ LbSm b p.1.1) (hql : ql.length < b) {K : Bool → World → Prop} (hK : ∀ w', Keep w0 w' → K true w') :
    C.tocsinlaw19_RulesRestored r.rc r.nm r.ex r.fo r.ke s l last sl w0 K := by
  unfold C.tocsinlaw19_RulesRestored
  have hln := rdA_n hl
  refine new_T (ω := fun _ => 0) 9 fun g ω1 w1 k1 b1 => ?_
  have b1 : BT ω1 w1 9 g 24 (rlC r s) := b1
  have top1 := (Top.init w0).stp k1
  unfold C.tocsinlaw19_RulesRestored.S18
  refine C.tocsinlaw19_RulesRestored.L14_ind fun X hX => ?_
  have key : ∀ (d i : Nat) (own : Sl) (oq : QL) (ω : Tg) (w : World), i + d = ql.length → Top w0 ω w → BT ω w 9 g 24 (rlC r s) → OT ω w 20 41 6 own (avs oq) → (∀ p ∈ oq, OT ω w 21 99 2 p.2 (labs p.1.1)) → oq.map (·.1) = (ql.take i).map (·.1) → X l last sl (some ⟨g, 0, none⟩) own (i : Int) w := by
    intro d
    induction d with
    | zero =>
      intro i own oq ω w hi top bg oo ho eo
      refine hX _ _ _ _ _ _ _ ?_
      unfold C.tocsinlaw19_RulesRestored.S16
      rw [List.take_of_length_le (by omega)] at eo
      exact cond_d (fun h => by omega) (fun _ => rest_S11 htab het hs hz hb hc hml hl hle hql hK top bg oo ho eo)
    | succ d ih =>
      intro i own oq ω w hi top bg oo ho eo
      refine hX _ _ _ _ _ _ _ ?_
      unfold C.tocsinlaw19_RulesRestored.S16
      have hiq : i < ql.length := by omega
      have hx : ql[i]? = some ql[i] := List.getElem?_eq_getElem hiq
      have hmem := List.getElem_mem hiq
      have et : (ql.take (i + 1)).map (·.1) = (ql.take i).map (·.1) ++ [(ql[i]).1] := by rw [List.take_succ_eq_append_getElem hiq, List.map_append]; rfl
      have hol := congrArg List.length eo
      rw [List.length_map, List.length_map, List.length_take] at hol
      have hon := rdA_n oo.rd
      obtain ⟨hrd, hsm⟩ := hle _ hmem
      have hsl := hsm.1
      generalize ql[i] = p at *
      refine cond_d (fun _ => ?_) (fun h => by omega)
      refine rdA_at (hl.keep top.k) (k := i) rfl hx fun a ac => ac_at ac <| loc_T ω 50 p fun g5 ω5 w5 k5 b5 => ?_
      have top5 := top.stp k5
      refine cSl_at (s := p.2) (by rw [b5.cell]; rfl) <| own9b_ok (hrd.keep top5.k) (by omega) fun r6 w6 k6 o6 => ?_
      have s6 := k6.stp ω5 21
      have o6t : OT (ext ω5 w5.heap.size 21) w6 21 99 2 r6 (labs p.1.1) := Own.tag o6 (Nat.le_refl _) ω5 21
      have top6 := top5.stp s6
      have b6 := b5.stp s6
      have k56 := k5.trans s6
      have oo6 := oo.stp k56
      have ho6 : ∀ p ∈ oq, OT (ext ω5 w5.heap.size 21) w6 21 99 2 p.2 (labs p.1.1) := fun p hp => (ho p hp).stp k56
      have bg6 := bg.stp k56
      generalize ext ω5 w5.heap.size 21 = ω6 at *
      refine st_T b6 (by simp [avC]) fun ω7 w7 k7 b7 => ?_
      have b7 : BT ω7 w7 50 g5 41 (avC (p.1, r6)) := b7
      refine ac_at (blk_ac b7.blk) ?_
      refine push_T (n := 1) tiA (oo6.stp k7) rfl (by intro v hv; simp at hv; rcases hv with rfl | rfl | rfl | rfl | rfl | rfl <;> rfl) (by simp only [maxLen]; omega) (by omega) fun r8 ω8 w8 k8 o8 _ => ?_
      rw [wI64 (by omega) (by omega), show (i : Int) + 1 = ((i + 1 : Nat) : Int) by omega]
      refine ih (i + 1) r8 (oq ++ [(p.1, r6)]) ω8 w8 (by omega) ((top6.stp k7).stp k8) ((bg6.stp k7).stp k8) (by rw [avs_snoc]; exact o8) (fun p' hp' => ?_) (by rw [List.map_append, eo, et]; rfl)
      rcases List.mem_append.1 hp' with hp' | hp'
      · exact ((ho6 p' hp').stp k7).stp k8
      · rw [List.mem_singleton.1 hp']; exact (o6t.stp k7).stp k8
  exact key ql.length 0 nilS [] ω1 w1 (by omega) top1 b1 (OT.nil ..) (by simp) (by simp)
end Go.Proofs.YtechilkjfhpkpaaGreatDoor.Ru
