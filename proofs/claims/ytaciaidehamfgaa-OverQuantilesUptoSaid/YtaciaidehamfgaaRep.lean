/- What an argument of whatever shape (numbers, texts, structs, slices of such) reads as: one law for all. Own work. -/
import Derived.Test.YtaciaidehamfgaaShut
namespace Go.Proofs.Ytaciaidehamfgaa.Rep
open Go Vm Go.RowKit Num Mem Go.ChangeShapes Shut

/-- The shape of a cell. -/
inductive Sh where
  | int (k : IntKind) | bool | str | fl (k : FloatKind) | sl (es : List Sh)

def sumTo (f : Nat → Nat) : Nat → Nat
  | 0 => 0
  | n + 1 => sumTo f n + f n
theorem sumTo_ge (f : Nat → Nat) : ∀ n i, i < n → f i ≤ sumTo f n
  | 0, i, h => absurd h (Nat.not_lt_zero _)
  | n + 1, i, h => by
    rcases Nat.lt_succ_iff_lt_or_eq.1 h with h | rfl
    · have := sumTo_ge f n i h; simp only [sumTo]; omega
    · simp only [sumTo]; omega
theorem sumTo_len (f : Nat → Nat) : ∀ n, (∀ i, i < n → 1 ≤ f i) → n ≤ sumTo f n
  | 0, _ => Nat.le_refl _
  | n + 1, h => by
    have := sumTo_len f n fun i hi => h i (by omega)
    have := h n (by omega)
    simp only [sumTo]; omega
theorem sumTo_congr (f g : Nat → Nat) : ∀ n, (∀ i, i < n → f i = g i) → sumTo f n = sumTo g n
  | 0, _ => rfl
  | n + 1, h => by simp only [sumTo]; rw [sumTo_congr f g n fun i hi => h i (by omega), h n (by omega)]
theorem sumTo_bulk {H : Type} : ∀ l : List (DataW H), sumTo (fun i => Rows.uptoBulk (l.getD i .nil)) l.length ≤ Rows.uptoBulkAll l := by
  intro l
  have key : ∀ (l : List (DataW H)) (n : Nat), n ≤ l.length → sumTo (fun i => Rows.uptoBulk (l.getD i .nil)) n = Rows.uptoBulkAll (l.take n) := by
    intro l n
    induction n with
    | zero => intro _; simp [sumTo, Rows.uptoBulkAll]
    | succ n ih =>
      intro h
      simp only [sumTo]
      rw [ih (by omega), List.take_add_one, bulk_app, List.getElem?_eq_getElem (by omega)]
      simp [Rows.uptoBulkAll, List.getD, List.getElem?_eq_getElem (show n < l.length by omega)]
  rw [key l l.length (Nat.le_refl _), List.take_length]; exact Nat.le_refl _

/-- A cell that reads in world w, of bulk at most b. -/
inductive Cl (w : World) : Sh → Value → Nat → Prop
  | int {k : IntKind} {n : Int} {b : Nat} : k.min ≤ n → n ≤ k.max → Cl w (.int k) (.int k n) b
  | bool {x : Bool} {b : Nat} : Cl w .bool (.bool x) b
  | str {s : ByteArray} {b : Nat} : s.size < b → Cl w .str (.string s) b
  | fl {k : FloatKind} {n b : Nat} : (Lit.float k n).wf = true → Cl w (.fl k) (.float k n) b
  | sl {s : Sl} {es : List Sh} {b : Nat} (f : Nat → Nat) (U : Nat → Nat → Value) : s.n ≤ s.c → s.c ≤ maxLen → (∀ i, i < s.n → 1 ≤ f i) → sumTo f s.n < b → (s.a = none → s = nilS) →
      (0 < s.n → ∃ g o, s.a = some ⟨g, o, none⟩ ∧ ∀ i j sh, i < s.n → es[j]? = some sh → w.cell? ⟨g, o + (i * es.length + j), none⟩ = some (U i j)) →
      (∀ i j sh, i < s.n → es[j]? = some sh → Cl w sh (U i j) (f i)) → Cl w (.sl es) s.v b
def Row (w : World) (shs : List Sh) (cs : List Value) (b : Nat) : Prop := cs.length = shs.length ∧ ∀ (j : Nat) (sh : Sh), shs[j]? = some sh → ∃ v, cs[j]? = some v ∧ Cl w sh v b

theorem Cl.mono {w : World} {sh : Sh} {v : Value} {b b' : Nat} (h : Cl w sh v b) (hb : b ≤ b') : Cl w sh v b' := by
  cases h with
  | int h1 h2 => exact .int h1 h2
  | bool => exact .bool
  | str h => exact .str (by omega)
  | fl h => exact .fl h
  | sl f U h1 h2 h3 h4 h5 h6 h7 => exact .sl f U h1 h2 h3 (by omega) h5 h6 h7
theorem Cl.keep {w w' : World} (k : Keep w w') {sh : Sh} {v : Value} {b : Nat} (h : Cl w sh v b) : Cl w' sh v b := by
  induction h with
  | int h1 h2 => exact .int h1 h2
  | bool => exact .bool
  | str h => exact .str h
  | fl h => exact .fl h
  | sl f U h1 h2 h3 h4 h5 h6 _ ih =>
    exact .sl f U h1 h2 h3 h4 h5 (fun hn => let ⟨g, o, ha, hc⟩ := h6 hn; ⟨g, o, ha, fun i j sh hi hj => k.cell (hc i j sh hi hj)⟩) ih

theorem Cl.int_inv {w : World} {k : IntKind} {v : Value} {b : Nat} (h : Cl w (.int k) v b) : ∃ n, v = .int k n ∧ k.min ≤ n ∧ n ≤ k.max := by
  cases h with | int h1 h2 => exact ⟨_, rfl, h1, h2⟩
theorem Cl.bool_inv {w : World} {v : Value} {b : Nat} (h : Cl w .bool v b) : ∃ x, v = .bool x := by
  cases h with | bool => exact ⟨_, rfl⟩
theorem Cl.str_inv {w : World} {v : Value} {b : Nat} (h : Cl w .str v b) : ∃ s, v = .string s ∧ s.size < b := by
  cases h with | str h => exact ⟨_, rfl, h⟩
theorem Cl.fl_inv {w : World} {k : FloatKind} {v : Value} {b : Nat} (h : Cl w (.fl k) v b) : ∃ n, v = .float k n ∧ (Lit.float k n).wf = true := by
  cases h with | fl h => exact ⟨_, rfl, h⟩
theorem Cl.sl_ex {w : World} {es : List Sh} {v : Value} {b : Nat} (h : Cl w (.sl es) v b) : ∃ s : Sl, v = s.v := by
  cases h with | sl => exact ⟨_, rfl⟩
theorem sl_v_inj {s t : Sl} (h : s.v = t.v) : s = t := by
  cases s; cases t; simp only [Value.slice.injEq] at h; obtain ⟨rfl, rfl, rfl⟩ := h; rfl
theorem Cl.sl_inv {w : World} {es : List Sh} {s : Sl} {b : Nat} (h : Cl w (.sl es) s.v b) : ∃ (f : Nat → Nat) (U : Nat → Nat → Value), s.n ≤ s.c ∧ s.c ≤ maxLen ∧ (∀ i, i < s.n → 1 ≤ f i) ∧ sumTo f s.n < b ∧ (s.a = none → s = nilS) ∧
    (0 < s.n → ∃ g o, s.a = some ⟨g, o, none⟩ ∧ ∀ i j sh, i < s.n → es[j]? = some sh → w.cell? ⟨g, o + (i * es.length + j), none⟩ = some (U i j)) ∧
    (∀ i j sh, i < s.n → es[j]? = some sh → Cl w sh (U i j) (f i)) := by
  generalize hv : s.v = v at h
  cases h with
  | sl f U h1 h2 h3 h4 h5 h6 h7 =>
    have := sl_v_inj hv
    subst this
    exact ⟨f, U, h1, h2, h3, h4, h5, h6, h7⟩
theorem Cl.len {w : World} {es : List Sh} {s : Sl} {b : Nat} (h : Cl w (.sl es) s.v b) : s.n < b := by
  obtain ⟨f, U, h1, h2, h3, h4, h5, h6, h7⟩ := h.sl_inv
  have := sumTo_len f s.n h3
  omega
/-- An element. -/
theorem Cl.ix {w : World} {es : List Sh} {s : Sl} {b : Nat} (h : Cl w (.sl es) s.v b) {i : Int} (h0 : 0 ≤ i) (hi : i < s.n) {sz : Nat} (hsz : sz = es.length) {K : Addr → Prop}
    (hK : ∀ (a : Addr) (V : Nat → Value), (∀ j sh, es[j]? = some sh → w.cell? (a.add j) = some (V j) ∧ Cl w sh (V j) b) → K a) : G.ix s.a s.n i sz K := by
  obtain ⟨f, U, h1, h2, h3, h4, h5, h6, h7⟩ := h.sl_inv
  obtain ⟨g, o, ha, hc⟩ := h6 (by omega)
  rw [ha]
  subst hsz
  refine ⟨⟨h0, hi⟩, hK _ (U i.toNat) fun j sh hj => ⟨?_, (h7 i.toNat j sh (by omega) hj).mono ?_⟩⟩
  · rw [addr_add, addr_add, Nat.add_assoc]
    exact hc _ j sh (by omega) hj
  · have := sumTo_ge f s.n i.toNat (by omega)
    omega

/-- The shape of a struct's fields. -/
def fsOf (P : Program) (go : TypeId → Option (List Sh)) : Nat → List Field → Option (List Sh)
  | _, [] => some []
  | off, f :: r => match go f.type with
    | some l => bif Nat.beq f.offset off && Nat.beq (P.cellsOf f.type) l.length then (fsOf P go (off + l.length) r).map (l ++ ·) else none
    | none => none
/-- The shape of a type. -/
def shOf (P : Program) : Nat → TypeId → Option (List Sh)
  | 0, _ => none
  | d + 1, t => match P.underlying t with
    | some (.int k) => some [.int k]
    | some .bool => some [.bool]
    | some .string => some [.str]
    | some (.float k) => some [.fl k]
    | some (.slice e) => match shOf P d e with
      | some l => bif Nat.beq (P.cellsOf e) l.length && Nat.blt 0 l.length then some [.sl l] else none
      | none => none
    | some (.struct fs) => match fsOf P (shOf P d) 0 fs.toList with
      | some l => bif Nat.beq (P.cellsOf t) l.length then some l else none
      | none => none
    | _ => none

theorem nbeq {a b : Nat} {α : Type} {x : Option α} {y : α} (h : (bif Nat.beq a b then x else none) = some y) : a = b ∧ x = some y := by
  cases e : Nat.beq a b with
  | false => rw [e] at h; cases h
  | true => rw [e] at h; exact ⟨Nat.eq_of_beq_eq_true e, h⟩

theorem addr_none {w : World} {a : Addr} {v : Value} (h : w.cell? a = some v) : a.spot = none := by
  obtain ⟨g, o, sp⟩ := a
  cases sp with
  | none => rfl
  | some x =>
    simp only [World.cell?] at h
    simp at h
    split at h <;> simp_all

theorem Row.app {w : World} {xs ys : List Sh} {cs : List Value} {b : Nat} (h1 : Row w xs (cs.take xs.length) b) (h2 : Row w ys (cs.drop xs.length) b) : Row w (xs ++ ys) cs b := by
  obtain ⟨l1, h1⟩ := h1
  obtain ⟨l2, h2⟩ := h2
  rw [List.length_take] at l1
  rw [List.length_drop] at l2
  refine ⟨by simp; omega, fun j sh hj => ?_⟩
  rcases Nat.lt_or_ge j xs.length with hlt | hge
  · rw [List.getElem?_append_left hlt] at hj
    obtain ⟨v, hv, hc⟩ := h1 j sh hj
    rw [List.getElem?_take, if_pos hlt] at hv
    exact ⟨v, hv, hc⟩
  · rw [List.getElem?_append_right hge] at hj
    obtain ⟨v, hv, hc⟩ := h2 _ sh hj
    rw [List.getElem?_drop, show xs.length + (j - xs.length) = j by omega] at hv
    exact ⟨v, hv, hc⟩
theorem Row.mono {w : World} {shs : List Sh} {cs : List Value} {b b' : Nat} (h : Row w shs cs b) (hb : b ≤ b') : Row w shs cs b' :=
  ⟨h.1, fun j sh hj => let ⟨v, hv, hc⟩ := h.2 j sh hj; ⟨v, hv, hc.mono hb⟩⟩

section
variable {H : Type} {enc : TypeId × Value → H} {P : Program} {w : World} {spare : Nat → Bool} {held : Bool}

theorem fields_row {go : TypeId → Option (List Sh)} {fuel : Nat} {cs : List Value} {B : Nat} (ih : ∀ t cs x shs, DataW.trod enc P w 0 spare held fuel t cs = some x → go t = some shs → Row w shs cs (Rows.uptoBulk x.1)) :
    ∀ (r : List Field) (ys : List (DataW H × List MemPlace)) (off : Nat) (l : List Sh), fsOf P go off r = some l → ys.length = r.length →
      (∀ (i : Nat) (f : Field), r[i]? = some f → DataW.trod enc P w 0 spare held fuel f.type ((cs.drop f.offset).take (P.cellsOf f.type)) = ys[i]?) → (∀ y ∈ ys, Rows.uptoBulk y.1 ≤ B) → off + l.length ≤ cs.length →
      Row w l ((cs.drop off).take l.length) B
  | [], ys, off, l, h, _, _, _, _ => by
    cases h
    exact ⟨by simp, fun j sh hj => by simp at hj⟩
  | f :: r, ys, off, l, h, hy, hf, hB, hlen => by
    simp only [fsOf] at h
    split at h
    case h_2 => cases h
    rename_i lf hlf
    cases hc : (Nat.beq f.offset off && Nat.beq (P.cellsOf f.type) lf.length) with
    | false => rw [hc] at h; cases h
    | true =>
      rw [hc] at h
      simp only [Bool.and_eq_true] at hc
      have ho : f.offset = off := Nat.eq_of_beq_eq_true hc.1
      have hcl : P.cellsOf f.type = lf.length := Nat.eq_of_beq_eq_true hc.2
      obtain ⟨l', hl', rfl⟩ := Option.map_eq_some_iff.1 h
      cases ys with
      | nil => simp at hy
      | cons y ys =>
        rw [List.length_append] at hlen
        have h0 := hf 0 f rfl
        rw [ho, hcl] at h0
        have r1 := (ih _ _ _ _ h0 hlf).mono (hB y (List.mem_cons_self ..))
        have r2 := fields_row ih r ys (off + lf.length) l' hl' (by simpa using hy) (fun i f hi => hf (i + 1) f hi) (fun z hz => hB z (List.mem_cons_of_mem _ hz)) (by omega)
        refine Row.app ?_ ?_
        · rw [List.take_take, List.length_append, Nat.min_eq_left (by omega)]; exact r1
        · rw [List.drop_take, List.drop_drop, List.length_append, show lf.length + l'.length - lf.length = l'.length by omega]; exact r2

theorem row_of_trod : ∀ (fuel d : Nat) (t : TypeId) (cs : List Value) (x : DataW H × List MemPlace) (shs : List Sh), DataW.trod enc P w 0 spare held fuel t cs = some x → shOf P d t = some shs → Row w shs cs (Rows.uptoBulk x.1)
  | 0, _, _, _, _, _, h, _ => by simp [DataW.trod] at h
  | _ + 1, 0, _, _, _, _, _, hs => by cases hs
  | fuel + 1, d + 1, t, cs, x, shs, h, hs => by
    simp only [shOf] at hs
    cases hu : P.underlying t with
    | none => rw [hu] at hs; cases hs
    | some ty =>
      rw [hu] at hs
      cases ty with
      | int k =>
        cases hs
        rw [DataW.trod_step] at h
        unfold DataW.trodStep at h
        rw [hu] at h
        split at h <;> simp_all
        obtain ⟨⟨rfl, hw⟩, rfl⟩ := h
        rename_i n _ _
        simp only [Lit.wf, Bool.and_eq_true, decide_eq_true_eq] at hw
        exact ⟨rfl, fun j sh hj => by
          cases j with
          | zero => simp at hj; subst hj; exact ⟨_, rfl, .int hw.1 hw.2⟩
          | succ j => simp at hj⟩
      | bool =>
        cases hs
        rw [DataW.trod_step] at h
        unfold DataW.trodStep at h
        rw [hu] at h
        split at h <;> simp_all
        exact ⟨rfl, fun j sh hj => by
          cases j with
          | zero => simp at hj; subst hj; exact ⟨_, rfl, .bool⟩
          | succ j => simp at hj⟩
      | float k =>
        cases hs
        rw [DataW.trod_step] at h
        unfold DataW.trodStep at h
        rw [hu] at h
        split at h <;> simp_all
        obtain ⟨⟨rfl, hw⟩, rfl⟩ := h
        exact ⟨rfl, fun j sh hj => by
          cases j with
          | zero => simp at hj; subst hj; exact ⟨_, rfl, .fl hw⟩
          | succ j => simp at hj⟩
      | string =>
        cases hs
        rw [DataW.trod_step] at h
        unfold DataW.trodStep at h
        rw [hu] at h
        split at h <;> simp_all
        obtain ⟨hw, rfl⟩ := h
        exact ⟨rfl, fun j sh hj => by
          cases j with
          | zero => simp at hj; subst hj; exact ⟨_, rfl, .str (by show _ < List.length _ + 1; rw [Array.length_toList]; exact Nat.lt_succ_self _)⟩
          | succ j => simp at hj⟩
      | slice e =>
        simp only [] at hs
        split at hs
        case h_2 => cases hs
        rename_i l hl
        cases hc : (Nat.beq (P.cellsOf e) l.length && Nat.blt 0 l.length) with
        | false => rw [hc] at hs; cases hs
        | true =>
          rw [hc] at hs
          cases hs
          simp only [Bool.and_eq_true] at hc
          have hsz : P.cellsOf e = l.length := Nat.eq_of_beq_eq_true hc.1
          have hpos : 0 < l.length := Nat.blt_eq.mp hc.2
          have one : ∀ v, Cl w (.sl l) v (Rows.uptoBulk x.1) → Row w [.sl l] [v] (Rows.uptoBulk x.1) := fun v hv => ⟨rfl, fun j sh hj => by
            cases j with
            | zero => simp at hj; subst hj; exact ⟨_, rfl, hv⟩
            | succ j => simp at hj⟩
          rcases DataW.trod_slice hu h with ⟨rfl, rfl⟩ | ⟨a, len, cap, elems, rest, n, hn, rfl, rfl, _, hlc, hcm, hlen, hel, _, _⟩
          · exact one _ (.sl (s := nilS) (fun _ => 1) (fun _ _ => undef) (Nat.le_refl _) (Nat.zero_le _) (fun _ _ => Nat.le_refl _) (by simp [sumTo, Rows.uptoBulk]) (fun _ => rfl) (fun h => absurd h (Nat.not_lt_zero _)) (fun i j sh h => absurd h (Nat.not_lt_zero _)))
          · have hnf : n = fuel := by omega
            subst hnf
            have hx : ∀ i, i < len → ∃ cs', w.cells? 0 (a.add (i * l.length)) l.length = some cs' ∧ Row w l cs' (Rows.uptoBulk ((elems.map (·.1)).getD i .nil)) := by
              intro i hi
              have hi' : i < elems.length := by omega
              have h1 := hel i hi
              rw [List.getElem?_eq_getElem hi', hsz] at h1
              obtain ⟨cs', h2, h3⟩ := Option.bind_eq_some_iff.1 h1
              refine ⟨cs', h2, ?_⟩
              have := row_of_trod _ d e cs' _ l h3 hl
              simpa [List.getD, List.getElem?_eq_getElem hi'] using this
            have hcell : ∀ i j, i < len → j < l.length → ∃ v, w.cell? (a.add (i * l.length + j)) = some v ∧ ∀ sh, l[j]? = some sh → Cl w sh v (Rows.uptoBulk ((elems.map (·.1)).getD i .nil)) := by
              intro i j hi hj
              obtain ⟨cs', h2, hlc', h3⟩ := hx i hi
              obtain ⟨_, _, h4⟩ := World.cells?_some h2
              obtain ⟨sh, hsh⟩ : ∃ sh, l[j]? = some sh := ⟨l[j], List.getElem?_eq_getElem hj⟩
              obtain ⟨v, hv, hcl⟩ := h3 j sh hsh
              refine ⟨v, ?_, fun sh' hsh' => ?_⟩
              · have := h4 j hj
                rw [hv] at this
                rw [← this]
                congr 1
                unfold Addr.add
                by_cases h1 : i * l.length = 0 <;> by_cases h2 : j = 0 <;> simp [h1, h2, Nat.add_assoc]
              · rw [hsh] at hsh'; cases hsh'; exact hcl
            classical
            let U : Nat → Nat → Value := fun i j => if h : i < len ∧ j < l.length then Classical.choose (hcell i j h.1 h.2) else undef
            have hU : ∀ i j, i < len → j < l.length → w.cell? (a.add (i * l.length + j)) = some (U i j) ∧ ∀ sh, l[j]? = some sh → Cl w sh (U i j) (Rows.uptoBulk ((elems.map (·.1)).getD i .nil)) := by
              intro i j hi hj
              have := Classical.choose_spec (hcell i j hi hj)
              simp only [U, dif_pos (And.intro hi hj)]
              exact this
            refine one _ (.sl (s := ⟨some a, len, cap⟩) (fun i => Rows.uptoBulk ((elems.map (·.1)).getD i .nil)) U hlc hcm (fun i _ => bulk_one _) ?_ (fun h => by cases h) (fun hn => ?_) fun i j sh hi hj => (hU i j hi ((List.getElem?_eq_some_iff.1 hj).1)).2 sh hj)
            · have h1 := sumTo_bulk (elems.map (·.1))
              rw [List.length_map, hlen] at h1
              simp only [Rows.uptoBulk]
              omega
            · have h0 := (hU 0 0 hn hpos).1
              have hs0 : a.spot = none := by
                rw [Nat.zero_mul, Nat.zero_add, show a.add 0 = a by simp [Addr.add]] at h0
                exact addr_none h0
              obtain ⟨g, o, sp⟩ := a
              simp only at hs0
              subst hs0
              refine ⟨g, o, rfl, fun i j sh hi hj => ?_⟩
              have := (hU i j hi ((List.getElem?_eq_some_iff.1 hj).1)).1
              rwa [addr_add] at this
      | struct fs =>
        simp only [] at hs
        split at hs
        case h_2 => cases hs
        rename_i l hl
        obtain ⟨hct, hs⟩ := nbeq hs
        cases hs
        obtain ⟨xs, n, hn, rfl, hlen, hxl, hf⟩ := DataW.trod_struct hu h
        have hnf : n = fuel := by omega
        subst hnf
        have := fields_row (B := Rows.uptoBulkAll (xs.map (·.1)) + 1) (cs := cs) (go := shOf P d) (fun t cs x shs h hs => row_of_trod n d t cs x shs h hs) fs.toList xs 0 shs hl (by simpa using hxl) (fun i f hi => hf i f (by simpa using hi)) (fun x hx => by
          have := bulk_part (l := xs.map (·.1)) (List.mem_map_of_mem hx); omega) (by omega)
        rw [List.drop_zero, List.take_of_length_le (by omega)] at this
        exact this
      | _ => cases hs
/-- A slice that came in. -/
theorem open_sl {base : Nat} {t e : TypeId} {v : Value} {d : DataW H} {p : List MemPlace} {es : List Sh} (n : Nat) (hu : P.underlying t = some (.slice e)) (hs : shOf P n t = some [.sl es]) (hval : Value.okWide P w .any base t v)
    (h : DataW.Trod enc P w 0 spare held t v d p) : ∃ s : Sl, v = s.v ∧ Cl w (.sl es) s.v (Rows.uptoBulk d) := by
  obtain ⟨a, m, c, rfl⟩ := WideShapes.okWide_slice hu hval
  obtain ⟨fuel, h⟩ := h
  obtain ⟨hl, hr⟩ := row_of_trod fuel n t _ _ _ h hs
  obtain ⟨v, hv, hc⟩ := hr 0 _ rfl
  have : v = .slice a m c := by simpa [Value.cells] using hv.symm
  subst this
  exact ⟨⟨a, m, c⟩, rfl, hc⟩
/-- A float that came in. -/
theorem open_fl {base : Nat} {t : TypeId} {k : FloatKind} {v : Value} {d : DataW H} {p : List MemPlace} (hu : P.underlying t = some (.float k)) (hval : Value.okWide P w .any base t v) (h : DataW.Trod enc P w 0 spare held t v d p) : ∃ n, v = .float k n ∧ (Lit.float k n).wf = true := by
  obtain ⟨fuel, h⟩ := h
  cases fuel with
  | zero => simp [DataW.trod] at h
  | succ n =>
    rw [DataW.trod_step] at h
    unfold DataW.trodStep at h
    rw [hu] at h
    simp only [Value.okWide, hu, Cell.okWide] at hval
    cases v <;> simp_all [Cell.ok, Value.cells]
/-- A struct that came in. -/
theorem open_row {base : Nat} {t : TypeId} {fs : Array Field} {v : Value} {d : DataW H} {p : List MemPlace} {shs : List Sh} (n : Nat) (hu : P.underlying t = some (.struct fs)) (hs : shOf P n t = some shs) (hval : Value.okWide P w .any base t v)
    (h : DataW.Trod enc P w 0 spare held t v d p) : ∃ cs : List Value, v = .agg ⟨cs⟩ ∧ Row w shs cs (Rows.uptoBulk d) := by
  obtain ⟨cs, rfl, _⟩ := WideShapes.okWide_struct hu hval
  obtain ⟨fuel, h⟩ := h
  exact ⟨cs.toList, rfl, row_of_trod fuel n t _ _ _ h hs⟩
end
end Go.Proofs.Ytaciaidehamfgaa.Rep
