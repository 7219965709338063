/- Layer 17 (over): what rises. Own work. -/
import Derived.Test.YtaciaidehamfgaaOvJ
namespace Go.Proofs.Ytaciaidehamfgaa.Ov
open Go Vm Go.RowKit Num Mem Fl Sm
variable {ω ω' : Tg} {w w' w0 : World} {T : Nat → Bool} {t u g : Nat}
set_option exponentiation.threshold 3000

/-! ## Plain -/
theorem sub_inf {a : Nat} (h : rg a = (9218868437227405312 : Nat)) : floatBits .sub .f64 a a = none := by
  show ((FloatKind.f64.decode a).sum (FloatKind.f64.decode a).opposite).map Ieee.double.write = _
  rw [dec_inf h]
  cases sgn a <;> rfl
theorem zero_sub {a b : Nat} (ha : rg a = 0) (hb : rg b = 0) (h64 : a < 18446744073709551616) (g64 : b < 18446744073709551616) : vlt (nm 0) (fo .sub (some a) (some b)) = false := by
  have ea := word_self h64
  have eb := word_self g64
  rw [ha] at ea; rw [hb] at eb
  rw [← ea, ← eb]
  cases sgn a <;> cases sgn b <;> decide +kernel
/-- What is equal has no difference above 0. -/
theorem sub_eq {a b : Nat} (na : isN a = false) (h : key a = key b) (h64 : a < 18446744073709551616) (g64 : b < 18446744073709551616) : vlt (nm 0) (fo .sub (some a) (some b)) = false := by
  have hr := isN_iff.1 na
  by_cases e : a = b
  · subst e
    show vlt (nm 0) (floatBits .sub .f64 a a) = false
    by_cases hi : rg a = (9218868437227405312 : Nat)
    · rw [sub_inf hi, zero_facts.1]; rfl
    · rw [sub_self_f (by omega)]; decide +kernel
  · have ea := word_self h64
    have eb := word_self g64
    have hz : rg a = 0 ∧ rg b = 0 := by
      by_cases hs : sgn a = sgn b
      · exfalso
        apply e
        have : rg a = rg b := by unfold key at h; rw [hs] at h; split at h <;> omega
        rw [← ea, ← eb, hs, this]
      · unfold key at h
        cases h1 : sgn a <;> cases h2 : sgn b <;> rw [h1, h2] at h hs <;> simp only [Bool.false_eq_true, if_false, if_true] at h
        · exact absurd rfl hs
        · omega
        · omega
        · exact absurd rfl hs
    exact zero_sub hz.1 hz.2 h64 g64
theorem addV_id : ∀ (m : List Smp) (r : FV), (∀ (j : Nat) (h : j + 1 < m.length), vlt (nm m[j + 1].2) (nm m[j].2) = false) → addV m r = r
  | [], _, _ => rfl
  | [_], _, _ => rfl
  | x :: y :: l, r, h => by
    have h0 := h 0 (by simp)
    rw [addV, if_neg (by rw [show vlt (nm y.2) (nm x.2) = false from h0]; decide)]
    exact addV_id (y :: l) r fun j hj => h (j + 1) (by simpa using hj)
/-- Where nothing falls, and all are the same or begin below 0, increase is delta. -/
theorem slope_same {m : List Smp} {x0 xl : Smp} {fr to : Int} (h0 : m.head? = some x0) (hl : m.getLast? = some xl) (hno : ∀ (j : Nat) (h : j + 1 < m.length), vlt (nm m[j + 1].2) (nm m[j].2) = false)
    (hz : (vlt (nm 0) (nm x0.2) || veq (nm x0.2) (nm 0)) = true → vlt (nm 0) (fo .sub (nm xl.2) (nm x0.2)) = false) : slopeV true false m fr to = slopeV false false m fr to := by
  have ea := addV_id m (fo .sub (nm xl.2) (nm x0.2)) hno
  unfold slopeV
  rw [h0, hl]
  simp only [if_true, Bool.false_eq_true, if_false, Bool.true_and, Bool.false_and]
  rw [ea]
  have hc : ∀ z s : FV, (if (vlt (nm 0) (fo .sub (nm xl.2) (nm x0.2)) && ((vlt (nm 0) (nm x0.2) || veq (nm x0.2) (nm 0)) && vlt z s)) = true then z else s) = s := fun z s => by
    refine if_neg fun hc => ?_
    simp only [Bool.and_eq_true] at hc
    rw [hz hc.2.1] at hc
    exact absurd hc.1 (by decide)
  rw [hc]
theorem live_all : ∀ {l : List Smp}, (∀ x ∈ l, isN x.2 = false) → live l = l := fun {l} h => by
  unfold live
  rw [List.filter_eq_self]
  intro x hx
  refine bne_iff_ne.2 fun e => ?_
  have := h x hx
  rw [e] at this
  exact absurd this (by decide +kernel)
theorem callR_at {name : ByteArray} {r : Row} {l : List Smp} {fr to : Int} {q : Nat} (ht : teller name q = some (.inr r)) :
    callR name l fr to q = if argB fr to && okB to fr l then (if ((live l).length : Int) < r.2.1 then (0, false, 0) else (tb (valV r.2.2 (live l) fr to), true, 0)) else (0, false, 1) := by
  unfold callR; rw [ht]; rfl

/-! ## The law -/
theorem t_inc : teller ⟨#[105, 110, 99, 114, 101, 97, 115, 101]⟩ 0 = some (.inr (⟨#[105, 110, 99, 114, 101, 97, 115, 101]⟩, 2, 55)) := by kernel_rfl
theorem t_del : teller ⟨#[100, 101, 108, 116, 97]⟩ 0 = some (.inr (⟨#[100, 101, 108, 116, 97]⟩, 2, 51)) := by kernel_rfl
theorem t_rate : teller ⟨#[114, 97, 116, 101]⟩ 0 = some (.inr (⟨#[114, 97, 116, 101]⟩, 2, 64)) := by kernel_rfl
theorem rises_loop {s : Sl} {l : List Smp} {a b : Nat} (hs : Rd w0 s 2 (smps l)) (h2 : 2 ≤ l.length) (hl : l.length ≤ 20000000)
    (hab : (∀ x ∈ l, isN x.2 = false) → (∀ (j : Nat) (h : j + 1 < l.length), vlt (nm l[j + 1].2) (nm l[j].2) = false) → ((vlt (nm 0) (nm (l[0]'(by omega)).2) || veq (nm (l[0]'(by omega)).2) (nm 0)) = true → veq (nm (l[0]'(by omega)).2) (nm (l[l.length - 1]'(by omega)).2) = true) → a = b)
    {K : Bool → World → Prop} (hK : ∀ w', Keep w0 w' → K true w') : C.tocsinlaw17_OverRises.S9 K s a b w0 := by
  unfold C.tocsinlaw17_OverRises.S9
  have hsn := rdS_len hs
  refine C.tocsinlaw17_OverRises.L5_ind fun X hX => ?_
  have key : ∀ (d i : Nat) (w : World), i + d = l.length → Keep w0 w → (∀ (j : Nat) (h : j < i) (h' : j < l.length), isN l[j].2 = false) → (∀ (j : Nat) (h : j + 1 < i) (h' : j + 1 < l.length), vlt (nm l[j + 1].2) (nm l[j].2) = false) → X s a b (i : Int) w := by
    intro d
    induction d with
    | zero =>
      intro i w hi k h3 h4
      refine hX _ _ _ _ _ ?_
      unfold C.tocsinlaw17_OverRises.S7 C.tocsinlaw17_OverRises.S2
      refine cond_d (fun h => by omega) (fun _ => ?_)
      have kd : Keep w0 w.drew := Keep.trans k (Keep.drew w)
      have kn : ∀ w', Keep w w' → C.tocsinlaw17_known w'.drew fun b w => K b w := fun w' k' => known_ok fun w2 k2 => hK w2 (Keep.trans (Keep.trans k (Keep.trans k' (Keep.drew w'))) k2)
      have fin : a = b → ∀ {w'}, Keep w0 w' → C.tocsinlaw17_bits a b w' fun b19 w20 => G.cond b19 (C.tocsinlaw17_known w20 fun b21 w22 => K b21 w22) (K false w20) := fun e {w'} k' => bits17_ok <| cond_t (decide_eq_true e) <| known_ok fun w2 k2 => hK w2 (Keep.trans k' k2)
      have hab := hab (fun x hx => by obtain ⟨j, hj, rfl⟩ := List.mem_iff_getElem.1 hx; exact h3 j (by omega) hj) (fun j hj => h4 j (by omega) hj)
      have hx0 : l[0]? = some (l[0]'(by omega)) := List.getElem?_eq_getElem _
      have hxl : l[l.length - 1]? = some (l[l.length - 1]'(by omega)) := List.getElem?_eq_getElem _
      generalize l[0]'(by omega) = x0 at *
      generalize l[l.length - 1]'(by omega) = xl at *
      refine rdS_at (hs.keep k) (k := 0) rfl hx0 fun p _ f1 => cF_at f1 ?_
      rw [fge_nm]
      refine cond_of (fun hge => ?_) (fun hlt => ?_)
      · refine rdS_at (hs.keep k) (k := 0) rfl hx0 fun p _ f1 => cF_at f1 ?_
        refine rdS_at (hs.keep k) (k := l.length - 1) (by rw [wI64 (by omega) (by omega)]; omega) hxl fun p _ f1 => cF_at f1 ?_
        rw [fne_nm]
        refine cond_of (fun hne => kn w (Keep.refl w)) (fun heq => ?_)
        exact fin (hab fun _ => by simpa using heq) kd
      · exact fin (hab fun h => by rw [hlt] at h; cases h) kd
    | succ d ih =>
      intro i w hi k h3 h4
      refine hX _ _ _ _ _ ?_
      unfold C.tocsinlaw17_OverRises.S7
      have him : i < l.length := by omega
      have hx : l[i]? = some l[i] := List.getElem?_eq_getElem him
      have kd : Keep w0 w.drew := Keep.trans k (Keep.drew w)
      have kn : C.tocsinlaw17_known w.drew fun b w => K b w := known_ok fun w2 k2 => hK w2 (Keep.trans kd k2)
      refine cond_d (fun _ => ?_) (fun h => by omega)
      refine rdS_at (hs.keep k) (k := i) rfl hx fun p _ f1 => cF_at f1 ?_
      refine rdS_at (hs.keep k) (k := i) rfl hx fun p _ f1 => cF_at f1 ?_
      rw [fne_nm, veq_self]
      rcases nm_cases l[i].2 with ⟨hn, en⟩ | ⟨hn, en⟩
      · exact cond_t (by rw [en]; rfl) kn
      refine cond_f (by rw [en]; rfl) ?_
      have h3' : ∀ (j : Nat) (h : j < i + 1) (h' : j < l.length), isN l[j].2 = false := fun j h h' => by
        by_cases e : j = i
        · subst e; exact hn
        · exact h3 j (by omega) h'
      have next : (∀ (h0 : 0 < i), vlt (nm l[i].2) (nm (l[i - 1]'(by omega)).2) = false) → X s a b (IntKind.i64.wrap ((i : Int) + 1)) w.drew := fun h => by
        rw [wI64 (by omega) (by omega), show (i : Int) + 1 = ((i + 1 : Nat) : Int) by omega]
        refine ih (i + 1) w.drew (by omega) kd h3' fun j hj hj' => ?_
        by_cases e : j + 1 = i
        · subst e; exact h (by omega)
        · exact h4 j (by omega) hj'
      refine cond_d (fun h0 => ?_) (fun h0 => next fun h => by omega)
      refine rdS_at (hs.keep k) (k := i) rfl hx fun p _ f1 => cF_at f1 ?_
      refine rdS_at (hs.keep k) (k := i - 1) (by rw [wI64 (by omega) (by omega)]; omega) (List.getElem?_eq_getElem (by omega)) fun p _ f1 => cF_at f1 ?_
      rw [flt_nm]
      exact cond_of (fun _ => kn) (fun h => next fun _ => h)
  exact key l.length 0 w0 (by omega) (Keep.refl w0) (fun j h => by omega) (fun j h => by omega)
theorem rises_law {s : Sl} {l : List Smp} {fr to : Int} (hs : Rd w0 s 2 (smps l)) (hl : l.length ≤ 20000000) (h64 : ∀ x ∈ l, x.2 < 18446744073709551616)
    {K : Bool → World → Prop} (hK : ∀ w', Keep w0 w' → K true w') : C.tocsinlaw17_OverRises s fr to w0 K := by
  unfold C.tocsinlaw17_OverRises
  have hsn := rdS_len hs
  refine call_ok hs (by omega) h64 fun w1 k1 => call_ok (hs.keep k1) (by omega) h64 fun w2 k2 => call_ok (hs.keep (Keep.trans k1 k2)) (by omega) h64 fun w3 k3 => ?_
  have kk := Keep.trans (Keep.trans k1 k2) k3
  have kn : C.tocsinlaw17_known w3 fun b w => K b w := known_ok fun w4 k4 => hK w4 (Keep.trans kk k4)
  rw [callR_at t_inc, callR_at t_del, callR_at t_rate]
  by_cases hc : (argB fr to && okB to fr l) = true
  · rw [if_pos hc, if_pos hc, if_pos hc]
    by_cases h2 : ((live l).length : Int) < 2
    · rw [if_pos h2, if_pos h2, if_pos h2]
      exact cond_f rfl <| cond_f rfl <| cond_f rfl <| cond_f rfl <| cond_t rfl kn
    · rw [if_neg h2, if_neg h2, if_neg h2]
      refine cond_f rfl <| cond_f rfl <| cond_f rfl <| cond_f rfl <| cond_f rfl <| cond_d (fun _ => kn) (fun hn => ?_)
      refine rises_loop (hs.keep kk) (by omega) hl (fun h1 h3 h4 => ?_) fun w4 k4 => hK w4 (Keep.trans kk k4)
      rw [live_all h1]
      show tb (slopeV true false l fr to) = tb (slopeV false false l fr to)
      have hx0 : l.head? = some (l[0]'(by omega)) := by rw [List.head?_eq_getElem?]; exact List.getElem?_eq_getElem _
      have hxl : l.getLast? = some (l[l.length - 1]'(by omega)) := by rw [List.getLast?_eq_getElem?]; exact List.getElem?_eq_getElem _
      have m0 : l[0]'(by omega) ∈ l := List.getElem_mem _
      have ml : l[l.length - 1]'(by omega) ∈ l := List.getElem_mem _
      rw [slope_same hx0 hxl h3 fun hz => ?_]
      have h4 := h4 hz
      have n0 := h1 _ m0
      have nl := h1 _ ml
      rw [nm_some n0, nm_some nl] at h4 ⊢
      exact sub_eq nl (of_decide_eq_true h4).symm (h64 _ ml) (h64 _ m0)
  · rw [if_neg hc, if_neg hc, if_neg hc]
    exact cond_f rfl <| cond_f rfl <| cond_f rfl <| cond_f rfl <| cond_t rfl kn
end Go.Proofs.Ytaciaidehamfgaa.Ov
