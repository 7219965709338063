/- Layer 17 (over): the functions of a window, one by one. Own work. -/
import Derived.Test.YtaciaidehamfgaaCa
import Derived.Test.YtaciaidehamfgaaFm
import Derived.Test.YtaciaidehamfgaaSmp
namespace Go.Proofs.Ytaciaidehamfgaa.Ov
open Go Vm Go.RowKit Num Mem Fl Sm
variable {ω ω' : Tg} {w w' w0 : World} {T : Nat → Bool} {t u g : Nat}

/-! ## Rules -/
theorem fa_T {op : BinOp} {a b : Nat} {K : Nat → World → Prop} (hK : ∀ r w', Stp Non ω ω w w' → nm r = fo op (nm a) (nm b) → K r w') : G.fa op a b w K :=
  fa_at fun r w' h e => by
    rcases h with rfl | rfl
    · exact hK r _ (Stp.refl _ _ _) e
    · exact hK r _ (drew_stp ω w) e
theorem isB_at {b : Bool} {K : Bool → Prop} (h : K b) : G.isB (.bool b) K := h
theorem isI_at {n : Int} {K : Int → Prop} (h : K n) : G.isI .i64 (.int .i64 n) K := h
theorem isF_at {b : Nat} {K : Nat → Prop} (h : K b) : G.isF (.float .f64 b) K := h
/-- A copy of a sample. -/
theorem locT {e : TypeId} {o : Array Value} {a b : Value} (ho : o.size = 2) {Z : Addr → World → Prop} (hK : ∀ g ω' w', Stp (Mem.One 50) ω ω' w w' → BT ω' w' 50 g e [a, b] → Z ⟨g, 0, none⟩ w') :
    G.new (.cells o e) w fun p w1 => G.st p a w1 fun w2 => G.st (p.add 1) b w2 fun w3 => Z p w3 :=
  new_T 50 fun g ω1 w1 k1 b1 => st_T b1 (by rw [Array.length_toList]; omega) fun ω2 w2 k2 b2 => st_TA b2 (by rw [List.length_set, Array.length_toList]; omega) fun ω3 w3 k3 b3 => hK g ω3 w3 ((k1.non _).trans (k2.trans k3)) (by
    obtain ⟨l⟩ := o
    match l, ho with
    | [x, y], _ => exact b3)
theorem frombits_ok {n : Int} {K : Nat → World → Prop} (hK : K n.toNat w) : C.math_Float64frombits n w K := hK
theorem bits_ok {n : Nat} {K : Int → World → Prop} (hK : K (n : Int) w) : C.math_Float64bits n w K := hK
theorem told_ok {b : Nat} {K : Nat → World → Prop} (hK : K (tb (nm b)) w) : C.over_told b w K := by
  unfold C.over_told
  rw [fne_nm, veq_self]
  rcases nm_cases b with ⟨h, e⟩ | ⟨h, e⟩
  · rw [e] at hK ⊢
    exact cond_t rfl (frombits_ok hK)
  · rw [e] at hK ⊢
    exact cond_f rfl hK
theorem rtold_ok {b : Nat} {K : Nat → World → Prop} (hK : K (tb (nm b)) w) : C.tocsinref15_Told b w K := by
  unfold C.tocsinref15_Told
  rw [fne_nm, veq_self]
  rcases nm_cases b with ⟨h, e⟩ | ⟨h, e⟩
  · rw [e] at hK ⊢
    exact cond_t rfl (frombits_ok hK)
  · rw [e] at hK ⊢
    exact cond_f rfl hK
/-! ## Seconds -/
def sec (n : Int) : FV := fo .quo (nm (FloatKind.f64.nearest n)) (nm 4652007308841189376)
theorem sec_ok {n : Int} {K : Nat → World → Prop} (hK : ∀ r w', Stp Non ω ω w w' → nm r = sec n → K r w') : C.over_seconds n w K := by
  unfold C.over_seconds
  exact fa_T (ω := ω) hK

abbrev tW := 52
abbrev tS := 33
/-! ## The sum -/
def sumV : List Smp → FV
  | [] => none
  | x :: r => r.foldl (fun s y => fo .add s (nm y.2)) (nm x.2)
theorem tail_rd {s : Sl} {x : Smp} {r : List Smp} (h : Rd w s 2 (smps (x :: r))) {K : Sl → Prop} (hK : ∀ q, Rd w q 2 (smps r) → q.n = r.length → K q) : G.slc s (1 : Int) ((s.n : Nat) : Int) 2 K := by
  have hn := rdS_len h
  rw [List.length_cons] at hn
  refine Rd.slc h (lo := 1) (hi := s.n) (by omega) (Nat.le_refl _) rfl rfl fun q hq _ _ => ?_
  have e : smps (x :: r) = .int .i64 x.1 :: .float .f64 x.2 :: smps r := rfl
  rw [e, List.drop_succ_cons, List.drop_succ_cons, List.drop_zero, List.take_of_length_le (by rw [smps_len]; omega)] at hq
  exact hK q hq (rdS_len hq)
theorem sum_ok {s : Sl} {m : List Smp} (h : Rd w0 s 2 (smps m)) (hm : m ≠ []) (hl : m.length ≤ 100000000) (fr to : Int) {K : Nat → World → Prop} (hK : ∀ r w', Keep w0 w' → nm r = sumV m → K r w') : C.over_window_sum s fr to w0 K := by
  unfold C.over_window_sum
  obtain ⟨x, r, rfl⟩ : ∃ x r, m = x :: r := by cases m with | nil => exact absurd rfl hm | cons x r => exact ⟨x, r, rfl⟩
  rw [List.length_cons] at hl
  refine new_T (ω := fun _ => 0) 1 fun g1 ω1 w1 k1 b1 => cSl_at (s := s) (by rw [b1.cell]; rfl) ?_
  have top1 := (Top.init w0).stp k1
  refine rdS_at (h.keep top1.k) (k := 0) rfl rfl fun p _ f1 => cF_at f1 ?_
  unfold C.over_window_sum.S9
  refine ptr_at <| cSl_at (s := s) (by rw [b1.cell]; rfl) <| tail_rd h fun q hq hqn => ?_
  refine C.over_window_sum.L5_ind fun X hX => ?_
  have key : ∀ (d i : Nat) (v : Nat) (ω : Tg) (w : World), i + d = r.length → Top w0 ω w → nm v = (r.take i).foldl (fun s y => fo .add s (nm y.2)) (nm x.2) → X v q ((q.n : Nat) : Int) (i : Int) w := by
    intro d
    induction d with
    | zero =>
      intro i v ω w hi top e
      refine hX _ _ _ _ _ ?_
      unfold C.over_window_sum.S7 C.over_window_sum.S2
      rw [List.take_of_length_le (by omega)] at e
      exact cond_d (fun h => by omega) (fun _ => hK v w top.k e)
    | succ d ih =>
      intro i v ω w hi top e
      refine hX _ _ _ _ _ ?_
      unfold C.over_window_sum.S7
      have hir : i < r.length := by omega
      refine cond_d (fun _ => ?_) (fun h => by omega)
      refine rdS_at (hq.keep top.k) (k := i) rfl (List.getElem?_eq_getElem hir) fun p f0 f1 => cI_at f0 <| cF_at f1 ?_
      refine locT (ω := ω) rfl fun g3 ω3 w3 k3 b3 => cF_at (b := r[i].2) (by rw [addr_add, b3.cell]; rfl) ?_
      refine fa_T (ω := ω3) fun v4 w4 k4 e4 => ?_
      rw [wI64 (by omega) (by omega), show (i : Int) + 1 = ((i + 1 : Nat) : Int) by omega]
      refine ih (i + 1) v4 ω3 w4 (by omega) ((top.stp k3).stp k4) ?_
      rw [List.take_succ_eq_append_getElem hir, List.foldl_append, ← e]; exact e4
  exact key r.length 0 x.2 ω1 w1 (by omega) top1 rfl
/-! ## The best -/
def bestV (ab : FV → FV → Bool) : List Smp → FV
  | [] => none
  | x :: r => r.foldl (fun m y => if m = none then nm y.2 else if ab (nm y.2) m then nm y.2 else m) (nm x.2)
theorem best_ok {s : Sl} {m : List Smp} (h : Rd w0 s 2 (smps m)) (hm : m ≠ []) (hl : m.length ≤ 100000000) (fr to : Int) {above : Value} {ab : FV → FV → Bool}
    (hab : ∀ a b w (K : Value → World → Prop), K (.bool (ab (nm a) (nm b))) w → G.callV C.pr C.over_window_best.F above [.float .f64 a, .float .f64 b] w K) {K : Nat → World → Prop} (hK : ∀ r w', Keep w0 w' → nm r = bestV ab m → K r w') : C.over_window_best s fr to above w0 K := by
  unfold C.over_window_best
  obtain ⟨x, r, rfl⟩ : ∃ x r, m = x :: r := by cases m with | nil => exact absurd rfl hm | cons x r => exact ⟨x, r, rfl⟩
  rw [List.length_cons] at hl
  refine new_T (ω := fun _ => 0) 1 fun g1 ω1 w1 k1 b1 => cSl_at (s := s) (by rw [b1.cell]; rfl) ?_
  have top1 := (Top.init w0).stp k1
  refine rdS_at (h.keep top1.k) (k := 0) rfl rfl fun p _ f1 => cF_at f1 ?_
  unfold C.over_window_best.S9
  refine ptr_at <| cSl_at (s := s) (by rw [b1.cell]; rfl) <| tail_rd h fun q hq hqn => ?_
  refine C.over_window_best.L5_ind fun X hX => ?_
  have key : ∀ (d i : Nat) (v : Nat) (ω : Tg) (w : World), i + d = r.length → Top w0 ω w → nm v = (r.take i).foldl (fun m y => if m = none then nm y.2 else if ab (nm y.2) m then nm y.2 else m) (nm x.2) → X above v q ((q.n : Nat) : Int) (i : Int) w := by
    intro d
    induction d with
    | zero =>
      intro i v ω w hi top e
      refine hX _ _ _ _ _ _ ?_
      unfold C.over_window_best.S7 C.over_window_best.S2
      rw [List.take_of_length_le (by omega)] at e
      exact cond_d (fun h => by omega) (fun _ => hK v w top.k e)
    | succ d ih =>
      intro i v ω w hi top e
      refine hX _ _ _ _ _ _ ?_
      unfold C.over_window_best.S7
      have hir : i < r.length := by omega
      refine cond_d (fun _ => ?_) (fun h => by omega)
      refine rdS_at (hq.keep top.k) (k := i) rfl (List.getElem?_eq_getElem hir) fun p f0 f1 => cI_at f0 <| cF_at f1 ?_
      refine locT (ω := ω) rfl fun g3 ω3 w3 k3 b3 => ?_
      have top3 := top.stp k3
      have et : (r.take (i + 1)).foldl (fun m y => if m = none then nm y.2 else if ab (nm y.2) m then nm y.2 else m) (nm x.2) = if nm v = none then nm r[i].2 else if ab (nm r[i].2) (nm v) then nm r[i].2 else nm v := by
        rw [List.take_succ_eq_append_getElem hir, List.foldl_append, ← e]; rfl
      rw [wI64 (by omega) (by omega), show (i : Int) + 1 = ((i + 1 : Nat) : Int) by omega]
      rw [fne_nm, veq_self]
      rcases nm_cases v with ⟨_, ev⟩ | ⟨_, ev⟩
      · rw [ev] at et ⊢
        rw [if_pos rfl] at et
        refine cond_t rfl <| cF_at (b := r[i].2) (by rw [addr_add, b3.cell]; rfl) ?_
        exact ih (i + 1) _ ω3 w3 (by omega) top3 et.symm
      · have hs : (nm v).isSome = true := by rw [ev]; rfl
        rw [if_neg (by rw [ev]; exact Option.some_ne_none _)] at et
        rw [hs]
        refine cond_f rfl <| cF_at (b := r[i].2) (by rw [addr_add, b3.cell]; rfl) ?_
        refine hab _ _ _ _ ?_
        refine isB_at ?_
        refine cond_of (fun hc => ?_) (fun hc => ?_)
        · refine cF_at (b := r[i].2) (by rw [addr_add, b3.cell]; rfl) ?_
          rw [if_pos hc] at et
          exact ih (i + 1) _ ω3 w3 (by omega) top3 et.symm
        · rw [if_neg (by rw [hc]; decide)] at et
          exact ih (i + 1) v ω3 w3 (by omega) top3 et.symm
  exact key r.length 0 x.2 ω1 w1 (by omega) top1 rfl

/-! ## Changes, resets -/
def cntV (p : FV → FV → Bool) : List Smp → Nat
  | x :: y :: r => (if p (nm x.2) (nm y.2) then 1 else 0) + cntV p (y :: r)
  | _ => 0
theorem cnt_le (p : FV → FV → Bool) : ∀ m : List Smp, cntV p m ≤ m.length - 1
  | [] => Nat.zero_le _
  | [_] => Nat.zero_le _
  | x :: y :: r => by
    have := cnt_le p (y :: r)
    unfold cntV
    simp only [List.length_cons] at *
    split <;> omega
def chg (x y : FV) : Bool := !veq y x && (!(!veq y y && !veq x x))
def rst (x y : FV) : Bool := vlt y x
theorem cnt_mono {p q : FV → FV → Bool} (h : ∀ x y, p x y = true → q x y = true) : ∀ m : List Smp, cntV p m ≤ cntV q m
  | [] => Nat.le_refl _
  | [_] => Nat.le_refl _
  | x :: y :: r => by
    have := cnt_mono h (y :: r)
    unfold cntV
    by_cases hp : p (nm x.2) (nm y.2) = true
    · rw [if_pos hp, if_pos (h _ _ hp)]; omega
    · rw [if_neg hp]; split <;> omega
theorem cnt_take (p : FV → FV → Bool) : ∀ (m : List Smp) (i : Nat) (h : i + 1 < m.length), cntV p (m.take (i + 2)) = cntV p (m.take (i + 1)) + (if p (nm m[i].2) (nm m[i + 1].2) then 1 else 0)
  | x :: y :: r, 0, _ => by simp [cntV]
  | x :: y :: r, i + 1, h => by
    have ih := cnt_take p (y :: r) i (by simp at h ⊢; omega)
    simp only [List.take_succ_cons] at ih ⊢
    unfold cntV
    rw [ih]
    simp only [List.getElem_cons_succ]
    omega
  | [_], i, h => by simp at h
  | [], i, h => by simp at h
theorem rst_chg (x y : FV) : rst x y = true → chg x y = true := by
  unfold rst chg
  cases x with
  | none => cases y <;> simp [vlt]
  | some a =>
    cases y with
    | none => simp [vlt]
    | some b =>
      intro h
      have h1 := of_decide_eq_true h
      have h2 : veq (some b) (some a) = false := decide_eq_false (by omega)
      rw [h2, veq_self]; rfl
theorem changes_ok {s : Sl} {m : List Smp} (h : Rd w0 s 2 (smps m)) (hm : m ≠ []) (hl : m.length ≤ 100000000) (fr to : Int) {K : Nat → World → Prop} (hK : ∀ w', Keep w0 w' → K (FloatKind.f64.nearest ((cntV chg m : Nat) : Int)) w') : C.over_window_changes s fr to w0 K := by
  unfold C.over_window_changes
  obtain ⟨x, r, rfl⟩ : ∃ x r, m = x :: r := by cases m with | nil => exact absurd rfl hm | cons x r => exact ⟨x, r, rfl⟩
  rw [List.length_cons] at hl
  refine new_T (ω := fun _ => 0) 1 fun g1 ω1 w1 k1 b1 => ?_
  have top1 := (Top.init w0).stp k1
  unfold C.over_window_changes.S9
  refine ptr_at <| cSl_at (s := s) (by rw [b1.cell]; rfl) <| tail_rd h fun q hq hqn => ?_
  refine C.over_window_changes.L5_ind fun X hX => ?_
  have key : ∀ (d i : Nat) (ω : Tg) (w : World), i + d = r.length → Top w0 ω w → BT ω w 1 g1 52 [s.v, .int .i64 fr, .int .i64 to] → X (some ⟨g1, 0, none⟩) ((cntV chg ((x :: r).take (i + 1)) : Nat) : Int) q ((q.n : Nat) : Int) (i : Int) w := by
    intro d
    induction d with
    | zero =>
      intro i ω w hi top b
      refine hX _ _ _ _ _ _ ?_
      unfold C.over_window_changes.S7 C.over_window_changes.S2
      rw [List.take_of_length_le (by simp; omega)]
      exact cond_d (fun h => by omega) (fun _ => hK w top.k)
    | succ d ih =>
      intro i ω w hi top b
      refine hX _ _ _ _ _ _ ?_
      unfold C.over_window_changes.S7
      have hir : i < r.length := by omega
      refine cond_d (fun _ => ?_) (fun h => by omega)
      refine rdS_at (hq.keep top.k) (k := i) rfl (List.getElem?_eq_getElem hir) fun p f0 f1 => cI_at f0 <| cF_at f1 ?_
      refine locT (ω := ω) rfl fun g3 ω3 w3 k3 b3 => ?_
      have top3 := top.stp k3
      have b1' := b.stp k3
      have hix : (x :: r)[i]? = some ((x :: r)[i]'(by simp; omega)) := List.getElem?_eq_getElem _
      refine ptr_at <| cSl_at (s := s) (by rw [b1'.cell]; rfl) ?_
      refine rdS_at (h.keep top3.k) (k := i) rfl hix fun p f0 f1 => cF_at f1 ?_
      have et := cnt_take chg (x :: r) i (by simp; omega)
      rw [List.getElem_cons_succ] at et
      have hc := cnt_le chg ((x :: r).take (i + 1))
      rw [List.length_take] at hc
      generalize (x :: r)[i]'(by simp; omega) = y at *
      have eyes : chg (nm y.2) (nm r[i].2) = true → X (some ⟨g1, 0, none⟩) (IntKind.i64.wrap (((cntV chg ((x :: r).take (i + 1)) : Nat) : Int) + 1)) q ((q.n : Nat) : Int) (IntKind.i64.wrap ((i : Int) + 1)) w3 := fun hy => by
        rw [if_pos hy] at et
        rw [wI64 (by omega) (by omega), wI64 (by omega) (by omega), show (i : Int) + 1 = ((i + 1 : Nat) : Int) by omega, show ((cntV chg ((x :: r).take (i + 1)) : Nat) : Int) + 1 = ((cntV chg ((x :: r).take (i + 1)) + 1 : Nat) : Int) by omega, ← et]
        exact ih (i + 1) ω3 w3 (by omega) top3 b1'
      have eno : chg (nm y.2) (nm r[i].2) = false → X (some ⟨g1, 0, none⟩) ((cntV chg ((x :: r).take (i + 1)) : Nat) : Int) q ((q.n : Nat) : Int) (IntKind.i64.wrap ((i : Int) + 1)) w3 := fun hy => by
        have et' : cntV chg ((x :: r).take (i + 1)) = cntV chg ((x :: r).take (i + 2)) := by rw [et, if_neg (by rw [hy]; decide)]; rfl
        rw [wI64 (by omega) (by omega), show (i : Int) + 1 = ((i + 1 : Nat) : Int) by omega, et']
        exact ih (i + 1) ω3 w3 (by omega) top3 b1'
      refine cF_at (b := r[i].2) (by rw [addr_add, b3.cell]; rfl) ?_
      rw [fne_nm, fne_nm]
      unfold chg at eyes eno
      refine cond_of (fun h1 => ?_) (fun h1 => ?_)
      · rw [h1] at eyes eno
        refine cF_at (b := r[i].2) (by rw [addr_add, b3.cell]; rfl) <| cF_at (b := r[i].2) (by rw [addr_add, b3.cell]; rfl) ?_
        rw [fne_nm]
        refine cond_of (fun h2 => ?_) (fun h2 => ?_)
        · rw [h2] at eyes eno
          refine cond_of (fun h3 => ?_) (fun h3 => ?_)
          · exact eyes (by rw [Bool.true_and, Bool.true_and]; exact h3)
          · exact eno (by rw [Bool.true_and, Bool.true_and]; exact h3)
        · rw [h2] at eyes eno
          exact eyes rfl
      · rw [h1] at eyes eno
        exact eno rfl
  exact key r.length 0 ω1 w1 (by omega) top1 b1
theorem resets_ok {s : Sl} {m : List Smp} (h : Rd w0 s 2 (smps m)) (hm : m ≠ []) (hl : m.length ≤ 100000000) (fr to : Int) {K : Nat → World → Prop} (hK : ∀ w', Keep w0 w' → K (FloatKind.f64.nearest ((cntV rst m : Nat) : Int)) w') : C.over_window_resets s fr to w0 K := by
  unfold C.over_window_resets
  obtain ⟨x, r, rfl⟩ : ∃ x r, m = x :: r := by cases m with | nil => exact absurd rfl hm | cons x r => exact ⟨x, r, rfl⟩
  rw [List.length_cons] at hl
  refine new_T (ω := fun _ => 0) 1 fun g1 ω1 w1 k1 b1 => ?_
  have top1 := (Top.init w0).stp k1
  unfold C.over_window_resets.S9
  refine ptr_at <| cSl_at (s := s) (by rw [b1.cell]; rfl) <| tail_rd h fun q hq hqn => ?_
  refine C.over_window_resets.L5_ind fun X hX => ?_
  have key : ∀ (d i : Nat) (ω : Tg) (w : World), i + d = r.length → Top w0 ω w → BT ω w 1 g1 52 [s.v, .int .i64 fr, .int .i64 to] → X (some ⟨g1, 0, none⟩) ((cntV rst ((x :: r).take (i + 1)) : Nat) : Int) q ((q.n : Nat) : Int) (i : Int) w := by
    intro d
    induction d with
    | zero =>
      intro i ω w hi top b
      refine hX _ _ _ _ _ _ ?_
      unfold C.over_window_resets.S7 C.over_window_resets.S2
      rw [List.take_of_length_le (by simp; omega)]
      exact cond_d (fun h => by omega) (fun _ => hK w top.k)
    | succ d ih =>
      intro i ω w hi top b
      refine hX _ _ _ _ _ _ ?_
      unfold C.over_window_resets.S7
      have hir : i < r.length := by omega
      refine cond_d (fun _ => ?_) (fun h => by omega)
      refine rdS_at (hq.keep top.k) (k := i) rfl (List.getElem?_eq_getElem hir) fun p f0 f1 => cI_at f0 <| cF_at f1 ?_
      refine locT (ω := ω) rfl fun g3 ω3 w3 k3 b3 => ?_
      have sd := drew_stp ω3 w3
      have top3 := (top.stp k3).stp sd
      have b1' := (b.stp k3).stp sd
      have b3' := b3.stp sd
      have hix : (x :: r)[i]? = some ((x :: r)[i]'(by simp; omega)) := List.getElem?_eq_getElem _
      refine cF_at (b := r[i].2) (by rw [addr_add, b3'.cell]; rfl) ?_
      refine ptr_at <| cSl_at (s := s) (by rw [b1'.cell]; rfl) ?_
      refine rdS_at (h.keep top3.k) (k := i) rfl hix fun p f0 f1 => cF_at f1 ?_
      have et := cnt_take rst (x :: r) i (by simp; omega)
      rw [List.getElem_cons_succ] at et
      have hc := cnt_le rst ((x :: r).take (i + 1))
      rw [List.length_take] at hc
      generalize (x :: r)[i]'(by simp; omega) = y at *
      rw [flt_nm]
      refine cond_of (fun h1 => ?_) (fun h1 => ?_)
      · rw [if_pos (show rst (nm y.2) (nm r[i].2) = true from h1)] at et
        rw [wI64 (by omega) (by omega), wI64 (by omega) (by omega), show (i : Int) + 1 = ((i + 1 : Nat) : Int) by omega, show ((cntV rst ((x :: r).take (i + 1)) : Nat) : Int) + 1 = ((cntV rst ((x :: r).take (i + 1)) + 1 : Nat) : Int) by omega, ← et]
        exact ih (i + 1) ω3 w3.drew (by omega) top3 b1'
      · have et' : cntV rst ((x :: r).take (i + 1)) = cntV rst ((x :: r).take (i + 2)) := by rw [et, if_neg (by rw [show rst (nm y.2) (nm r[i].2) = false from h1]; decide)]; rfl
        rw [wI64 (by omega) (by omega), show (i : Int) + 1 = ((i + 1 : Nat) : Int) by omega, et']
        exact ih (i + 1) ω3 w3.drew (by omega) top3 b1'
  exact key r.length 0 ω1 w1 (by omega) top1 b1
end Go.Proofs.Ytaciaidehamfgaa.Ov
