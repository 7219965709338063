/- Layer 8: what bytes say; Split and Join. Own work. -/
import Derived.Test.YtpadehbcjkhegaaDoorChunkK
namespace Go.Proofs.YtpadehbcjkhegaaDoor.Mem
open Go Vm Go.RowKit Num
/-- s[lo:hi:hi]. -/
theorem Rd.slc3 {w : World} {s : Sl} {sz : Nat} {cs : List Value} (h : Rd w s sz cs) {lo hi : Nat} (h1 : lo ≤ hi) (h2 : hi ≤ s.n) {i j k : Int} (ei : i = lo) (ej : j = hi) (ek : k = hi) {K : Sl → Prop}
    (hK : ∀ r : Sl, Rd w r sz ((cs.drop (lo * sz)).take ((hi - lo) * sz)) → r.n = hi - lo → K r) : G.slc3 s i j k sz K := by
  subst ei ej ek
  have hnc := h.1
  refine ⟨⟨by omega, by omega, by omega, by omega⟩, hK _ ?_ (by simp)⟩
  have hl := h.2.1
  refine ⟨by simp, ?_, fun hne => ?_⟩
  · rw [List.length_take, List.length_drop, hl]
    simp only [Int.toNat_natCast]
    rw [Nat.min_eq_left]
    rw [← Nat.sub_mul]
    exact Nat.mul_le_mul_right _ (by omega)
  · have hcs : cs ≠ [] := by rintro rfl; simp at hne
    obtain ⟨g, o, ha, hc⟩ := h.2.2 hcs
    have hlo : ¬ hi = lo := by
      intro e
      apply hne
      apply List.eq_nil_of_length_eq_zero
      rw [List.length_take, List.length_drop, hl]
      have : hi - lo = 0 := by omega
      rw [this]; simp
    rw [Int.toNat_natCast, Int.toNat_natCast, if_neg hlo, ha]
    refine ⟨g, o + lo * sz, by rw [Option.map_some, addr_add], fun k v hv => ?_⟩
    rw [List.getElem?_take] at hv
    split at hv
    · rw [List.getElem?_drop] at hv
      rw [Nat.add_assoc]
      exact hc _ v hv
    · cases hv
end Go.Proofs.YtpadehbcjkhegaaDoor.Mem
namespace Go.Proofs.YtpadehbcjkhegaaDoor.Chunk
open Go Vm Go.RowKit Num Mem Bits Vint Rep
variable {ω ω' : Tg} {w w' w0 : World} {bs : List UInt8}

/-! ## What bytes say -/
open Classical in
noncomputable def dec (b : List UInt8) : Option (List Smp) := if h : ∃ l, Valid l ∧ b = enc l then some h.choose else none
theorem dec_some {b : List UInt8} {l : List Smp} (h : dec b = some l) : Valid l ∧ b = enc l := by
  unfold dec at h
  split at h
  · rename_i hx
    rw [← Option.some.inj h]
    exact hx.choose_spec
  · cases h
theorem dec_none {b : List UInt8} (h : dec b = none) : ∀ l, Valid l → b ≠ enc l := by
  intro l hl e
  unfold dec at h
  rw [dif_pos ⟨l, hl, e⟩] at h
  cases h
theorem dec_enc {l : List Smp} (h : Valid l) : dec (enc l) = some l := by
  cases hd : dec (enc l) with
  | none => exact absurd rfl (dec_none hd l h)
  | some m =>
    obtain ⟨hm, e⟩ := dec_some hd
    rw [enc_free h hm (x := []) (by rw [List.append_nil]; exact e)]
def decE (b : List UInt8) : Prop := dec b = none
theorem decode_dec (hT : DTab w0) {b : Sl} (hb : RdB w0 b bs) {K : Sl → Int → World → Prop}
    (hE : dec bs = none → ∀ w', Keep w0 w' → K nilS 3 w')
    (hK : ∀ l, dec bs = some l → Valid l → ∀ r w', Keep w0 w' → Mem.Own w' w0.heap.size 26 2 r (smps l) → K r 0 w') : C.chunk_Decode b w0 K :=
  decode_ok hT hb (fun h => hE (by
    cases hd : dec bs with
    | none => rfl
    | some l => obtain ⟨h1, h2⟩ := dec_some hd; exact absurd h2 (h l h1))) fun l hl e => hK l (by rw [e]; exact dec_enc hl) hl

/-- A slice of byte slices. -/
structure RdL (w : World) (s : Sl) (ss : List Sl) (bss : List (List UInt8)) : Prop where
  rd : Rd w s 1 (ss.map Sl.v)
  len : ss.length = bss.length
  el : ∀ (j : Nat) q b, ss[j]? = some q → bss[j]? = some b → RdB w q b
theorem RdL.keep {s : Sl} {ss : List Sl} {bss : List (List UInt8)} (h : RdL w s ss bss) (k : Keep w w') : RdL w' s ss bss := ⟨h.rd.keep k, h.len, fun j q b h1 h2 => (h.el j q b h1 h2).keep k⟩
theorem RdL.n {s : Sl} {ss : List Sl} {bss : List (List UInt8)} (h : RdL w s ss bss) : s.n = bss.length := by
  have := h.rd.2.1
  rw [List.length_map, h.len] at this
  omega
theorem RdL.at_ {s : Sl} {ss : List Sl} {bss : List (List UInt8)} (h : RdL w s ss bss) {i : Nat} {b : List UInt8} (hb : bss[i]? = some b) {K : Sl → Prop} (hK : ∀ q, RdB w q b → K q) : G.ix s.a s.n (i : Int) 1 fun p => G.cSl p w K := by
  have hi : i < bss.length := (List.getElem?_eq_some_iff.1 hb).1
  have hi' : i < ss.length := by rw [h.len]; exact hi
  have hs : ss[i]? = some ss[i] := List.getElem?_eq_getElem hi'
  refine Rd.ix h.rd (by decide) (by omega) (by rw [h.n]; omega) fun a ha => cSl_at (s := ss[i]) ?_ (hK _ (h.el i _ b hs hb))
  have := ha 0 (Sl.v ss[i]) (by decide) (by simp [hs])
  rwa [show a.add 0 = a by simp [Addr.add]] at this

/-! ## Join -/
noncomputable def joinL : List Smp → List (List UInt8) → Nat → List Smp × Int × Nat
  | out, [], _ => (out, 0, 0)
  | out, b :: r, i => match dec b with
    | none => ([], 3, i)
    | some x => if x ≠ [] ∧ out ≠ [] ∧ (x.head?.getD (0, 0)).1 ≤ (lastS out).1 then ([], 90, i) else joinL (out ++ x) r (i + 1)
theorem join_ok (hT : DTab w0) {s : Sl} {ss : List Sl} {bss : List (List UInt8)} (h : RdL w0 s ss bss) (hl : bss.length ≤ 100) {K : Sl → Int → Int → World → Prop}
    (hK : ∀ r w', Keep w0 w' → Mem.Own w' w0.heap.size 26 2 r (smps (joinL [] bss 0).1) → K r (joinL [] bss 0).2.1 ((joinL [] bss 0).2.2 : Int) w') : C.chunk_Join s w0 K := by
  have hn := h.n
  unfold C.chunk_Join C.chunk_Join.S9
  refine C.chunk_Join.L5_ind fun X hX => ?_
  have key : ∀ (d i : Nat) (out : Sl) (ol : List Smp) (ω : Tg) (w : World), i + d = bss.length → ol.length ≤ 120 * i → joinL ol (bss.drop i) i = joinL [] bss 0 → Top w0 ω w → OS ω w 5 out ol → X out s ((s.n : Nat) : Int) (i : Int) w := by
    intro d
    induction d with
    | zero =>
      intro i out ol ω w hi hol e top o
      refine hX _ _ _ _ _ ?_
      unfold C.chunk_Join.S7 C.chunk_Join.S2
      refine cond_d (fun h => by omega) (fun _ => ?_)
      rw [List.drop_of_length_le (by omega)] at e
      have := hK out w top.k (by rw [← e]; exact o.from top (by decide))
      rwa [← e] at this
    | succ d ih =>
      intro i out ol ω w hi hol e top o
      refine hX _ _ _ _ _ ?_
      unfold C.chunk_Join.S7
      have hib : i < bss.length := by omega
      refine cond_d (fun _ => ?_) (fun h => by omega)
      refine (h.keep top.k).at_ (List.getElem?_eq_getElem hib) fun q hq => ?_
      rw [List.drop_eq_getElem_cons hib, joinL] at e
      refine decode_dec (hT.keep top.k) hq (fun hd w1 k1 => ?_) (fun x hd hv r w1 k1 o1 => ?_)
      · rw [hd] at e
        refine cond_t rfl ?_
        have k01 := Keep.trans top.k k1
        have := hK nilS w1 k01 (by rw [← e]; exact Mem.Own.nil _ _ _ _)
        rwa [← e] at this
      · rw [hd] at e
        simp only at e
        refine cond_f rfl ?_
        have k01 := Keep.trans top.k k1
        have s1 := k1.stp0 ω
        have top1 := top.stp s1
        have o' := o.stp s1
        have hrn : r.n = x.length := by have := o1.1; rw [smps_len] at this; omega
        have hon := OS.len o
        have hxl := hv.len
        have kd := drew_stp ω w1
        have od := o'.stp kd
        have topd := top1.stp kd
        have rd := (Mem.Own.rd o1).keep kd.keep
        -- the common end
        have app : ¬ (x ≠ [] ∧ ol ≠ [] ∧ (x.head?.getD (0, 0)).1 ≤ (lastS ol).1) → G.runSl Tryd.prog (Builtin.append_ #[24, 24] 24 #[out.v, r.v]) w1.drew fun l27 w28 => X l27 s ((s.n : Nat) : Int) (IntKind.i64.wrap ((i : Int) + (1 : Int))) w28 := by
          intro hno
          rw [if_neg hno] at e
          refine app_T tiS od rd smps_one (by simp only [maxLen]; omega) (by omega) fun q2 ω2 w2 k2 o2 hq2 => ?_
          rw [wI64 (by omega) (by omega), show (i : Int) + 1 = ((i + 1 : Nat) : Int) by omega]
          exact ih (i + 1) q2 (ol ++ x) ω2 w2 (by omega) (by rw [List.length_append]; omega) e (topd.stp k2) (by rw [OS, smps_app]; exact o2)
        refine cond_d (fun h1 => cond_d (fun h2 => ?_) (fun h2 => app ?_)) (fun h1 => app ?_)
        · obtain ⟨y, hy⟩ : ∃ y, x[0]? = some y := ⟨_, List.getElem?_eq_getElem (by omega)⟩
          obtain ⟨z, hz⟩ : ∃ z, ol[ol.length - 1]? = some z := ⟨_, List.getElem?_eq_getElem (by omega)⟩
          have hlast : lastS ol = z := by unfold lastS; rw [List.getLast?_eq_getElem?, hz]; rfl
          have hhead : x.head?.getD (0, 0) = y := by rw [List.head?_eq_getElem?, hy]; rfl
          refine rdS_at rd (k := 0) rfl hy fun p hc0 _ => cI_at hc0 ?_
          refine rdS_at od.rd (k := ol.length - 1) (by rw [wI64 (by omega) (by omega)]; omega) hz fun p2 hd0 _ => cI_at hd0 ?_
          refine cond_d (fun h3 => ?_) (fun h3 => app (by rw [hhead, hlast]; intro h; exact h3 h.2.2))
          rw [if_pos ⟨by rintro rfl; simp at hy, by rintro rfl; simp at hz, by rw [hhead, hlast]; exact h3⟩] at e
          have := hK nilS _ topd.k (by rw [← e]; exact Mem.Own.nil _ _ _ _)
          rwa [← e] at this
        · rintro ⟨_, h3, _⟩
          exact h3 (List.eq_nil_of_length_eq_zero (by omega))
        · rintro ⟨h3, _⟩
          exact h3 (List.eq_nil_of_length_eq_zero (by omega))
  exact key bss.length 0 nilS [] (fun _ => 0) w0 (by omega) (by simp) rfl (Top.init w0) (OT.nil _ _ _ _ _)

/-! ## Split -/
def swr : List Smp → List Smp → Nat → Int × Nat
  | _, [], _ => (0, 0)
  | pre, s :: r, i => if s.1 < 0 ∨ s.1 > 1125899906842624 then (1, i) else if late pre s.1 then (90, i) else swr (pre ++ [s]) r (i + 1)
inductive Rising : List Smp → Prop
  | nil : Rising []
  | snoc {l : List Smp} {s : Smp} : Rising l → 0 ≤ s.1 → s.1 ≤ 1125899906842624 → late l s.1 = false → s.2 < 18446744073709551616 → Rising (l ++ [s])
theorem Rising.inv {l : List Smp} {s : Smp} (h : Rising (l ++ [s])) : Rising l ∧ 0 ≤ s.1 ∧ s.1 ≤ 1125899906842624 ∧ late l s.1 = false ∧ s.2 < 18446744073709551616 := by
  generalize hm : l ++ [s] = m at h
  cases h with
  | nil => simp at hm
  | snoc h1 h2 h3 h4 h5 =>
    obtain ⟨rfl, e⟩ := List.append_inj' hm rfl
    simp only [List.cons.injEq, and_true] at e
    subst e
    exact ⟨h1, h2, h3, h4, h5⟩
theorem Rising.parts {a : List Smp} : ∀ {b : List Smp}, Rising (a ++ b) → Rising a ∧ Rising b := by
  have key : ∀ (n : Nat) (b : List Smp), b.length = n → Rising (a ++ b) → Rising a ∧ Rising b := by
    intro n
    induction n with
    | zero => intro b hb h; rw [List.eq_nil_of_length_eq_zero hb, List.append_nil] at h; exact ⟨h, by rw [List.eq_nil_of_length_eq_zero hb]; exact .nil⟩
    | succ n ih =>
      intro b hb h
      rcases List.eq_nil_or_concat b with rfl | ⟨c, s, rfl⟩
      · simp at hb
      · rw [List.concat_eq_append, ← List.append_assoc] at h
        obtain ⟨h1, h2, h3, h4, h5⟩ := h.inv
        obtain ⟨i1, i2⟩ := ih c (by simpa using hb) h1
        refine ⟨i1, ?_⟩
        rw [List.concat_eq_append]
        refine .snoc i2 h2 h3 ?_ h5
        unfold late at h4 ⊢
        cases hc : c.getLast? with
        | none => rfl
        | some z =>
          have : (a ++ c).getLast? = some z := by rw [List.getLast?_append, hc]; rfl
          rw [this] at h4
          exact h4
  intro b h
  exact key _ b rfl h
theorem Rising.valid {l : List Smp} (h : Rising l) (hl : l.length ≤ 120) : Valid l := by
  induction h with
  | nil => exact .nil
  | snoc h1 h2 h3 h4 h5 ih =>
    rw [List.length_append, List.length_singleton] at hl
    refine .snoc (ih (by omega)) ?_ h5
    unfold wrong
    rw [if_neg (by omega), h4, if_neg (by decide), if_neg (by omega)]
theorem swr_rising : ∀ (r pre : List Smp) (i : Nat), Rising pre → (∀ s ∈ r, s.2 < 18446744073709551616) → (swr pre r i).1 = 0 → Rising (pre ++ r)
  | [], pre, i, hp, _, _ => by simpa using hp
  | s :: r, pre, i, hp, hr, h => by
    simp only [swr] at h
    split at h
    · exact absurd (show (1 : Int) = 0 from h) (by decide)
    · rename_i h1
      split at h
      · exact absurd (show (90 : Int) = 0 from h) (by decide)
      · rename_i h2
        have := swr_rising r (pre ++ [s]) (i + 1) (.snoc hp (by omega) (by omega) (by simpa using h2) (hr s (List.mem_cons_self ..))) (fun x hx => hr x (List.mem_cons_of_mem _ hx)) h
        simpa using this
def pce (m : List Smp) (i : Nat) : List Smp := (m.drop (120 * i)).take 120
def pcs (m : List Smp) (n : Nat) : List (List UInt8) := (List.range n).map fun i => enc (pce m i)
theorem pce_len (m : List Smp) (i : Nat) : (pce m i).length ≤ 120 := by unfold pce; rw [List.length_take]; omega
theorem pce_valid {m : List Smp} (h : Rising m) (i : Nat) : Valid (pce m i) := by
  refine Rising.valid ?_ (pce_len m i)
  unfold pce
  rw [← List.take_append_drop (120 * i) m] at h
  have h2 := h.parts.2
  rw [← List.take_append_drop 120 (m.drop (120 * i))] at h2
  exact h2.parts.1
theorem pcs_succ (m : List Smp) (n : Nat) : pcs m (n + 1) = pcs m n ++ [enc (pce m n)] := by unfold pcs; rw [List.range_succ, List.map_append]; rfl

theorem tiBB : TI Tryd.prog 54 27 1 24 := TI.of (z := nilS.v) (by kernel_rfl) (by kernel_rfl) rfl (by decide)
end Go.Proofs.YtpadehbcjkhegaaDoor.Chunk
