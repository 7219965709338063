/- Layer 17 (over): bounds. Own work. -/
import Derived.Test.YtaciaidehamfgaaOvK
namespace Go.Proofs.Ytaciaidehamfgaa.Ov
open Go Vm Go.RowKit Num Mem Fl Sm
variable {ω ω' : Tg} {w w' w0 : World} {T : Nat → Bool} {t u g : Nat}
set_option exponentiation.threshold 3000

/-! ## Plain -/
def bstep (ab : FV → FV → Bool) (m : FV) (y : Smp) : FV := if m = none then nm y.2 else if ab (nm y.2) m then nm y.2 else m
theorem best_foldl {ab : FV → FV → Bool} {f : Int → Int} (hab : ∀ x y, ab (some x) (some y) = decide (f (key x) < f (key y))) : ∀ (r : List Smp) (b : Nat), (∀ y ∈ r, isN y.2 = false) →
    ∃ c, r.foldl (bstep ab) (some b) = some c ∧ (c = b ∨ ∃ y ∈ r, c = y.2) ∧ f (key c) ≤ f (key b) ∧ ∀ y ∈ r, f (key c) ≤ f (key y.2)
  | [], b, _ => ⟨b, rfl, .inl rfl, Int.le_refl _, fun y hy => by cases hy⟩
  | x :: r, b, h => by
    have hx : nm x.2 = some x.2 := nm_some (h x List.mem_cons_self)
    have hr : ∀ y ∈ r, isN y.2 = false := fun y hy => h y (List.mem_cons_of_mem _ hy)
    have e : bstep ab (some b) x = if f (key x.2) < f (key b) then some x.2 else some b := by
      unfold bstep
      rw [if_neg (Option.some_ne_none b), hx, hab]
      by_cases hc : f (key x.2) < f (key b)
      · rw [if_pos hc, if_pos (decide_eq_true hc)]
      · rw [if_neg hc, if_neg (by rw [decide_eq_false hc]; decide)]
    rw [List.foldl_cons, e]
    by_cases hc : f (key x.2) < f (key b)
    · rw [if_pos hc]
      obtain ⟨c, h1, h2, h3, h4⟩ := best_foldl hab r x.2 hr
      refine ⟨c, h1, .inr ?_, by omega, fun y hy => ?_⟩
      · rcases h2 with h2 | ⟨y, hy, h2⟩
        · exact ⟨x, List.mem_cons_self, h2⟩
        · exact ⟨y, List.mem_cons_of_mem _ hy, h2⟩
      · rcases List.mem_cons.1 hy with rfl | hy
        · exact h3
        · exact h4 y hy
    · rw [if_neg hc]
      obtain ⟨c, h1, h2, h3, h4⟩ := best_foldl hab r b hr
      refine ⟨c, h1, ?_, h3, fun y hy => ?_⟩
      · rcases h2 with h2 | ⟨y, hy, h2⟩
        · exact .inl h2
        · exact .inr ⟨y, List.mem_cons_of_mem _ hy, h2⟩
      · rcases List.mem_cons.1 hy with rfl | hy
        · omega
        · exact h4 y hy
theorem best_all {ab : FV → FV → Bool} {f : Int → Int} (hab : ∀ x y, ab (some x) (some y) = decide (f (key x) < f (key y))) {m : List Smp} (hm : m ≠ []) (h : ∀ y ∈ m, isN y.2 = false) :
    ∃ c, bestV ab m = some c ∧ isN c = false ∧ ∀ y ∈ m, f (key c) ≤ f (key y.2) := by
  cases m with
  | nil => exact absurd rfl hm
  | cons x r =>
    obtain ⟨c, h1, h2, h3, h4⟩ := best_foldl hab r x.2 fun y hy => h y (List.mem_cons_of_mem _ hy)
    refine ⟨c, ?_, ?_, fun y hy => ?_⟩
    · show r.foldl (bstep ab) (nm x.2) = _
      rw [nm_some (h x List.mem_cons_self)]; exact h1
    · rcases h2 with rfl | ⟨y, hy, rfl⟩
      · exact h _ List.mem_cons_self
      · exact h y (List.mem_cons_of_mem _ hy)
    · rcases List.mem_cons.1 hy with rfl | hy
      · exact h3
      · exact h4 y hy
theorem near_ne {n m : Nat} (hn : n < 9007199254740992) (hm : m < 9007199254740992) (h : n < m) : veq (nm (FloatKind.f64.nearest (n : Int))) (nm (FloatKind.f64.nearest (m : Int))) = false := by
  have h1 := near_lt hn hm
  rw [near_nm hn, near_nm hm] at h1 ⊢
  rw [decide_eq_true h] at h1
  have := of_decide_eq_true h1
  exact decide_eq_false (by omega)
theorem near_one : FloatKind.f64.nearest ((1 : Nat) : Int) = 4607182418800017408 := by decide +kernel
theorem tb_near {n : Nat} (hn : n < 9007199254740992) : tb (nm (FloatKind.f64.nearest (n : Int))) = FloatKind.f64.nearest (n : Int) := by rw [near_nm hn]; rfl

/-! ## The law -/
abbrev nCount : ByteArray := ⟨#[99, 111, 117, 110, 116, 95, 111, 118, 101, 114, 95, 116, 105, 109, 101]⟩
abbrev nLast : ByteArray := ⟨#[108, 97, 115, 116, 95, 111, 118, 101, 114, 95, 116, 105, 109, 101]⟩
abbrev nMin : ByteArray := ⟨#[109, 105, 110, 95, 111, 118, 101, 114, 95, 116, 105, 109, 101]⟩
abbrev nMax : ByteArray := ⟨#[109, 97, 120, 95, 111, 118, 101, 114, 95, 116, 105, 109, 101]⟩
abbrev nOne : ByteArray := ⟨#[112, 114, 101, 115, 101, 110, 116, 95, 111, 118, 101, 114, 95, 116, 105, 109, 101]⟩
abbrev nChg : ByteArray := ⟨#[99, 104, 97, 110, 103, 101, 115]⟩
abbrev nRst : ByteArray := ⟨#[114, 101, 115, 101, 116, 115]⟩
theorem t_count : teller nCount 0 = some (.inr (nCount, 1, 50)) := by kernel_rfl
theorem t_last : teller nLast 0 = some (.inr (nLast, 1, 57)) := by kernel_rfl
theorem t_min : teller nMin 0 = some (.inr (nMin, 1, 61)) := by kernel_rfl
theorem t_max : teller nMax 0 = some (.inr (nMax, 1, 58)) := by kernel_rfl
theorem t_one : teller nOne 0 = some (.inr (nOne, 1, 63)) := by kernel_rfl
theorem t_chg : teller nChg 0 = some (.inr (nChg, 1, 49)) := by kernel_rfl
theorem t_rst : teller nRst 0 = some (.inr (nRst, 1, 65)) := by kernel_rfl
theorem bounds_loop {s : Sl} {l : List Smp} {n last least most : Nat} (hs : Rd w0 s 2 (smps l)) (hl : l.length ≤ 20000000)
    (h : (∀ x ∈ l, isN x.2 = false) → G.feq n (FloatKind.f64.nearest ((l.length : Nat) : Int)) = true ∧ G.fge last least = true ∧ G.fle last most = true)
    {K : Bool → World → Prop} (hK : ∀ w', Keep w0 w' → K true w') : C.tocsinlaw17_OverBounds.S9 K s n last least most w0 := by
  unfold C.tocsinlaw17_OverBounds.S9
  have hsn := rdS_len hs
  refine C.tocsinlaw17_OverBounds.L5_ind fun X hX => ?_
  have key : ∀ (d i : Nat) (w : World), i + d = l.length → Keep w0 w → (∀ (j : Nat) (h : j < i) (h' : j < l.length), isN l[j].2 = false) → X s n last least most (i : Int) w := by
    intro d
    induction d with
    | zero =>
      intro i w hi k h3
      refine hX _ _ _ _ _ _ _ ?_
      unfold C.tocsinlaw17_OverBounds.S7 C.tocsinlaw17_OverBounds.S2
      obtain ⟨e1, e2, e3⟩ := h fun x hx => by obtain ⟨j, hj, rfl⟩ := List.mem_iff_getElem.1 hx; exact h3 j (by omega) hj
      refine cond_d (fun h => by omega) (fun _ => ?_)
      rw [hsn]
      exact cond_t e1 <| cond_t e2 <| cond_t e3 <| known_ok fun w2 k2 => hK w2 (Keep.trans k k2)
    | succ d ih =>
      intro i w hi k h3
      refine hX _ _ _ _ _ _ _ ?_
      unfold C.tocsinlaw17_OverBounds.S7
      have him : i < l.length := by omega
      have hx : l[i]? = some l[i] := List.getElem?_eq_getElem him
      have kd : Keep w0 w.drew := Keep.trans k (Keep.drew w)
      refine cond_d (fun _ => ?_) (fun h => by omega)
      refine rdS_at (hs.keep k) (k := i) rfl hx fun p _ f1 => cF_at f1 ?_
      refine rdS_at (hs.keep k) (k := i) rfl hx fun p _ f1 => cF_at f1 ?_
      rw [fne_nm, veq_self]
      rcases nm_cases l[i].2 with ⟨hn, en⟩ | ⟨hn, en⟩
      · exact cond_t (by rw [en]; rfl) (known_ok fun w2 k2 => hK w2 (Keep.trans kd k2))
      refine cond_f (by rw [en]; rfl) ?_
      rw [wI64 (by omega) (by omega), show (i : Int) + 1 = ((i + 1 : Nat) : Int) by omega]
      refine ih (i + 1) w.drew (by omega) kd fun j h h' => ?_
      by_cases e : j = i
      · subst e; exact hn
      · exact h3 j (by omega) h'
  exact key l.length 0 w0 (by omega) (Keep.refl w0) (fun j h => by omega)
theorem bounds_law {s : Sl} {l : List Smp} {fr to : Int} (hs : Rd w0 s 2 (smps l)) (hl : l.length ≤ 20000000) (h64 : ∀ x ∈ l, x.2 < 18446744073709551616)
    {K : Bool → World → Prop} (hK : ∀ w', Keep w0 w' → K true w') : C.tocsinlaw17_OverBounds s fr to w0 K := by
  unfold C.tocsinlaw17_OverBounds
  have hsn := rdS_len hs
  refine call_ok hs (by omega) h64 fun w1 k1 => call_ok (hs.keep k1) (by omega) h64 fun w2 k2 => ?_
  have k02 := Keep.trans k1 k2
  refine call_ok (hs.keep k02) (by omega) h64 fun w3 k3 => ?_
  have k03 := Keep.trans k02 k3
  refine call_ok (hs.keep k03) (by omega) h64 fun w4 k4 => ?_
  have k04 := Keep.trans k03 k4
  refine call_ok (hs.keep k04) (by omega) h64 fun w5 k5 => ?_
  have k05 := Keep.trans k04 k5
  refine call_ok (hs.keep k05) (by omega) h64 fun w6 k6 => ?_
  have k06 := Keep.trans k05 k6
  refine call_ok (hs.keep k06) (by omega) h64 fun w7 k7 => ?_
  have kk := Keep.trans k06 k7
  have kn : C.tocsinlaw17_known w7 fun b w => K b w := known_ok fun w8 k8 => hK w8 (Keep.trans kk k8)
  rw [callR_at t_count, callR_at t_last, callR_at t_min, callR_at t_max, callR_at t_one, callR_at t_chg, callR_at t_rst]
  by_cases hc : (argB fr to && okB to fr l) = true
  · simp only [if_pos hc]
    by_cases h2 : ((live l).length : Int) < 1
    · simp only [if_pos h2]
      exact cond_f rfl <| cond_t rfl kn
    · simp only [if_neg h2]
      have hll : (live l).length ≤ l.length := List.length_filter_le _ _
      have hm : live l ≠ [] := fun e => by rw [e] at h2; exact h2 (by decide)
      have hcc := cnt_le chg (live l)
      have hrc : cntV rst (live l) ≤ cntV chg (live l) := cnt_mono rst_chg (live l)
      have v50 : tb (valV 50 (live l) fr to) = FloatKind.f64.nearest (((live l).length : Nat) : Int) := tb_near (by omega)
      have v49 : tb (valV 49 (live l) fr to) = FloatKind.f64.nearest ((cntV chg (live l) : Nat) : Int) := tb_near (by omega)
      have v65 : tb (valV 65 (live l) fr to) = FloatKind.f64.nearest ((cntV rst (live l) : Nat) : Int) := tb_near (by omega)
      have v63 : tb (valV 63 (live l) fr to) = 4607182418800017408 := by show tb (nm 4607182418800017408) = _; decide +kernel
      rw [v50, v49, v65, v63]
      refine cond_f rfl <| cond_f rfl <| cond_f (by decide +kernel) ?_
      rw [flt_nm, fgt_nm, fgt_nm, fge_nm, ← near_one, hsn, near_lt (by omega) (by omega), near_lt (by omega) (by omega), near_lt (by omega) (by omega), near_lt (by omega) (by omega), near_ne (by omega) (by omega) (show cntV chg (live l) < (live l).length by omega)]
      refine cond_f (decide_eq_false (by omega)) <| cond_f (decide_eq_false (by omega)) <| cond_f (decide_eq_false (by omega)) <| cond_f (by rw [decide_eq_false (by omega)]; rfl) ?_
      refine bounds_loop (hs.keep kk) hl (fun hN => ?_) fun w8 k8 => hK w8 (Keep.trans kk k8)
      have el := live_all hN
      rw [el] at hm ⊢
      have hlen : 0 < l.length := List.length_pos_iff.2 hm
      have hx : l[l.length - 1]? = some (l[l.length - 1]'(by omega)) := List.getElem?_eq_getElem _
      have hmem : l[l.length - 1]'(by omega) ∈ l := List.getElem_mem _
      generalize l[l.length - 1]'(by omega) = xl at *
      have nl := hN xl hmem
      have v57 : tb (valV 57 l fr to) = xl.2 := by show tb (lastF l) = _; unfold lastF; rw [hx]; show tb (nm xl.2) = _; rw [nm_some nl]; rfl
      obtain ⟨c, c1, c2, c3⟩ := best_all (ab := vlt) (f := fun x => x) (fun _ _ => rfl) hm hN
      obtain ⟨e, e1, e2, e3⟩ := best_all (ab := fun a b => vlt b a) (f := fun x => -x) (fun x y => by show decide (key y < key x) = decide (-key x < -key y); congr 1; apply propext; omega) hm hN
      have v61 : tb (valV 61 l fr to) = c := by show tb (bestV vlt l) = _; rw [c1]; rfl
      have v58 : tb (valV 58 l fr to) = e := by show tb (bestV (fun a b => vlt b a) l) = _; rw [e1]; rfl
      rw [v57, v61, v58, feq_nm, fge_nm, fle_nm, veq_self, near_nm (by omega), nm_some nl, nm_some c2, nm_some e2]
      have h1 := c3 xl hmem
      have h3 := e3 xl hmem
      refine ⟨rfl, ?_, ?_⟩
      · show (decide (key c < key xl.2) || decide (key xl.2 = key c)) = true
        by_cases h : key c = key xl.2
        · rw [decide_eq_true (show key xl.2 = key c from h.symm), Bool.or_true]
        · rw [decide_eq_true (show key c < key xl.2 by omega)]; rfl
      · show (decide (key xl.2 < key e) || decide (key xl.2 = key e)) = true
        by_cases h : key xl.2 = key e
        · rw [decide_eq_true h, Bool.or_true]
        · rw [decide_eq_true (show key xl.2 < key e by omega)]; rfl
  · simp only [if_neg hc]
    exact cond_t rfl kn
end Go.Proofs.Ytaciaidehamfgaa.Ov
