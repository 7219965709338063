/- Layer 2: a whole number is written. Own work. -/
import Derived.Test.YtnilefminhchfaaDoorBitsF
namespace Go.Proofs.YtnilefminhchfaaDoor.Bits
open Go Vm Go.RowKit Num Mem

theorem putBs_app : ∀ (xs ys : List Bool) (l : List UInt8) (n : Nat), putBs l n (xs ++ ys) = putBs (putBs l n xs) (n + xs.length) ys
  | [], ys, l, n => rfl
  | x :: xs, ys, l, n => by
    show putBs (putB l n x) (n + 1) (xs ++ ys) = putBs (putBs (putB l n x) (n + 1) xs) (n + (xs.length + 1)) ys
    rw [putBs_app xs ys, show n + (xs.length + 1) = n + 1 + xs.length by omega]
theorem low_and {n : Int} {k : Nat} (hk : k < 64) : Go.bits .and .u64 (IntKind.u64.wrap n) (IntKind.u64.wrap ((shl .u64 (1 : Int) (IntKind.u64.wrap (k : Int))) - (1 : Int))) = ((lowN n k : Nat) : Int) := by
  have hp : 2 ^ k ≤ 2 ^ 63 := Nat.pow_le_pow_right (by decide) (by omega)
  have hp0 : 0 < 2 ^ k := Nat.pow_pos (by decide)
  have hu := uN_lt n
  have e := shl_nat .u64 (1 : Int) k (by simp only [IntKind.bits]; omega)
  rw [show (1 : Int) * 2 ^ k = ((2 ^ k : Nat) : Int) by simp, wU64_id (by omega) (by omega)] at e
  rw [wU64_id (x := (k : Int)) (by omega) (by omega), e, show ((2 ^ k : Nat) : Int) - 1 = ((2 ^ k - 1 : Nat) : Int) by omega, wU64_id (x := ((2 ^ k - 1 : Nat) : Int)) (by omega) (by omega), wrapU,
    bits_and rfl (by simp only [IntKind.bits]; omega) (by simp only [IntKind.bits]; omega), Nat.and_two_pow_sub_one_eq_mod]
  unfold lowN
  rw [if_pos hk]
theorem low_good {n : Int} {k : Nat} (hk : k ≤ 64) : ¬ badB (lowN n k) (k : Int) := by
  rintro (h | h | ⟨h, h'⟩)
  · omega
  · omega
  · apply h'
    rw [Int.toNat_natCast]
    unfold lowN
    rw [if_pos (by omega)]
    exact Nat.div_eq_of_lt (Nat.mod_lt _ (Nat.pow_pos (by decide)))
theorem form_len (n : Int) : (form n).length = row n + (if row n < 8 then 1 else 0) + wid (row n) := by
  unfold form
  rw [List.length_append, List.length_append, List.length_replicate, low_len]
  split <;> simp <;> omega

/-- The low bits behind what is there. -/
theorem lows_ok {w0 w : World} {B g : Nat} {s0 s : Sl} {l : List UInt8} {m : Nat} {n : Int} {k : Nat} (hk : k ≤ 64) (hm : m + k ≤ 8388608) (h : Wr w B g s l m) (hB : B ≤ w.heap.size) (hc : Chg (foot g s0) w0 w) (hf : ∀ j, foot g s j → foot g s0 j ∨ w0.heap.size ≤ j)
    {K : Int → World → Prop} (hK : ∀ s' w', Chg (foot g s0) w0 w' → Wr w' B g s' (putBs l m (low (lowN n k) k)) (m + k) → (∀ j, foot g s' j → foot g s0 j ∨ w0.heap.size ≤ j) → K 0 w') :
    G.cond (decide ((k : Int) < (64 : Int))) (G.nn (IntKind.u64.wrap (k : Int)) <| C.bits_Writer_Bits (wp g) (Go.bits .and .u64 (IntKind.u64.wrap n) (IntKind.u64.wrap ((shl .u64 (1 : Int) (IntKind.u64.wrap (k : Int))) - (1 : Int)))) (k : Int) w fun n9 w10 => K n9 w10) (C.bits_Writer_Bits (wp g) (IntKind.u64.wrap n) (k : Int) w fun n11 w12 => K n11 w12) := by
  have fin : C.bits_Writer_Bits (wp g) ((lowN n k : Nat) : Int) (k : Int) w K := by
    refine bits_ok h hB (by omega) (lowN_lt n k) (fun hb => absurd hb (low_good hk)) (fun _ h => by omega) fun _ _ s' w' c1 h1 f1 => ?_
    rw [Int.toNat_natCast] at h1
    exact hK s' w' (Chg.then hc c1 hf) h1 fun j hj => (f1 j hj).elim (hf j) fun e => .inr (Nat.le_trans hc.size e)
  refine cond_d (fun h1 => ⟨by rw [wU64_id (by omega) (by omega)]; omega, ?_⟩) (fun h1 => ?_)
  · rw [low_and (by omega)]; exact fin
  · have e : IntKind.u64.wrap n = ((lowN n k : Nat) : Int) := by
      rw [wrapU]; unfold lowN; rw [if_neg (by omega)]
    rw [e]; exact fin

theorem int_ok {w : World} {B g : Nat} {s : Sl} {l : List UInt8} {m : Nat} {n : Int} (ht : WTab w) (h : Wr w B g s l m) (hB : B ≤ w.heap.size) (hm : m ≤ 8388608) {K : Int → World → Prop}
    (hF : 8388608 < m + (form n).length → K 8 w.drew)
    (hK : m + (form n).length ≤ 8388608 → ∀ s' w', Chg (foot g s) w w' → Wr w' B g s' (putBs l m (form n)) (m + (form n).length) → (∀ j, foot g s' j → foot g s j ∨ w.heap.size ≤ j) → K 0 w') : C.bits_Writer_Int (wp g) n w K := by
  unfold C.bits_Writer_Int
  have hr := row_le n
  have hwid : wid (row n) ≤ 64 := wid_le ⟨row n, by omega⟩
  rw [form_len] at hF hK
  refine cond_f rfl (form_ok ht ?_)
  refine (h.keep (Keep.drew w)).rd1 ?_
  refine ahead_ok hr ⟨⟨trivial, rfl, fun _ _ => rfl⟩, ?_⟩
  have ha : (if row n < 8 then 1 else 0) ≤ 1 := by split <;> omega
  rw [wI64 (by omega) (by omega), wI64 (by omega) (by omega)]
  refine cond_d (fun h1 => hF (by omega)) (fun h1 => ?_)
  have hK := hK (by omega)
  have hd := h.keep (Keep.drew w)
  have hcd : Chg (foot g s) w w.drew := Keep.chg (Keep.drew w) _
  have hBd : B ≤ w.drew.heap.size := Nat.le_trans hB hcd.size
  unfold C.bits_Writer_Int.S9
  refine C.bits_Writer_Int.L5_ind fun X hX => ?_
  have key : ∀ (e i : Nat) (s' : Sl) (w' : World), e + i = row n → B ≤ w'.heap.size → Wr w' B g s' (putBs l m (List.replicate i true)) (m + i) → Chg (foot g s) w w' → (∀ j, foot g s' j → foot g s j ∨ w.heap.size ≤ j) →
      X (wp g) n ((row n : Nat) : Int) ((wid (row n) : Nat) : Int) ((row n : Nat) : Int) (i : Int) w' := by
    intro e
    induction e with
    | zero =>
      intro i s' w' hi hB' h' hc hf
      have hi' : i = row n := by omega
      subst hi'
      refine hX _ _ _ _ _ _ _ ?_
      unfold C.bits_Writer_Int.S7 C.bits_Writer_Int.S2
      refine cond_d (fun h => by omega) (fun _ => ?_)
      refine cond_d (fun h8 => ?_) (fun h8 => ?_)
      · have h8' : row n < 8 := by omega
        simp only [if_pos h8'] at hK h1
        refine put_ok h' hB' (by omega) false fun s2 w2 c2 h2 f2 => ?_
        refine lows_ok hwid (by omega) h2 (Nat.le_trans hB' c2.size) (Chg.then hc c2 hf) (fun j hj => (f2 j hj).elim (hf j) fun e => .inr (Nat.le_trans hc.size e)) fun s3 w3 c3 h3 f3 => hK s3 w3 c3 ?_ f3
        have e : putBs l m (form n) = putBs (putB (putBs l m (List.replicate (row n) true)) (m + row n) false) (m + row n + 1) (low (lowN n (wid (row n))) (wid (row n))) := by
          unfold form
          rw [if_pos h8', putBs_app, List.length_replicate, putBs_app]; rfl
        rw [e, show m + (row n + 1 + wid (row n)) = m + row n + 1 + wid (row n) by omega]
        exact h3
      · have h8' : ¬ row n < 8 := by omega
        simp only [if_neg h8'] at hK h1
        refine lows_ok hwid (by omega) h' hB' hc hf fun s3 w3 c3 h3 f3 => hK s3 w3 c3 ?_ f3
        have e : putBs l m (form n) = putBs (putBs l m (List.replicate (row n) true)) (m + row n) (low (lowN n (wid (row n))) (wid (row n))) := by
          unfold form
          rw [if_neg h8', putBs_app, List.length_replicate]; rfl
        rw [e, show m + (row n + 0 + wid (row n)) = m + row n + wid (row n) by omega]
        exact h3
    | succ e ih =>
      intro i s' w' hi hB' h' hc hf
      refine hX _ _ _ _ _ _ _ ?_
      unfold C.bits_Writer_Int.S7
      refine cond_d (fun _ => ?_) (fun h => by omega)
      refine put_ok h' hB' (by omega) true fun s2 w2 c2 h2 f2 => ?_
      rw [wI64 (by omega) (by omega)]
      refine ih (i + 1) s2 w2 (by omega) (Nat.le_trans hB' c2.size) ?_ (Chg.then hc c2 hf) fun j hj => (f2 j hj).elim (hf j) fun e => .inr (Nat.le_trans hc.size e)
      rw [List.replicate_succ', putBs_app, List.length_replicate]
      exact h2
  exact key (row n) 0 s _ (by omega) hBd hd hcd fun j hj => .inl hj
end Go.Proofs.YtnilefminhchfaaDoor.Bits
