/- (own side alone) Layer 1: what the functions of vint and of its reference compute. Own work. -/
import Derived.Test.YtfkpehcbijgmnaaGreatDoorBytes
import Derived.Test.YtfkpehcbijgmnaaGreatDoorCa
namespace Go.Proofs.YtfkpehcbijgmnaaGreatDoor.Vint
open Go Vm Go.RowKit Num Mem

/-! ## uvarints -/
def putU (n : Nat) : List UInt8 := if n < 128 then [UInt8.ofNat n] else UInt8.ofNat (n % 128 + 128) :: putU (n / 128)
termination_by n
decreasing_by omega
theorem putU_lt {n : Nat} (h : n < 128) : putU n = [UInt8.ofNat n] := by rw [putU, if_pos h]
theorem putU_ge {n : Nat} (h : ¬ n < 128) : putU n = UInt8.ofNat (n % 128 + 128) :: putU (n / 128) := by rw [putU, if_neg h]
theorem putU_len : ∀ (k n : Nat), n < 128 ^ (k + 1) → (putU n).length ≤ k + 1
  | 0, n, h => by rw [putU_lt (by simpa using h)]; simp
  | k + 1, n, h => by
    by_cases hn : n < 128
    · rw [putU_lt hn]; simp
    · rw [putU_ge hn]
      have := putU_len k (n / 128) (Nat.div_lt_of_lt_mul (by rw [Nat.pow_succ] at h; omega))
      simp; omega
theorem p128 : (18446744073709551616 : Nat) ≤ 128 ^ (9 + 1) := by decide +kernel
theorem putU_len64 {n : Nat} (h : n < 18446744073709551616) : (putU n).length ≤ 10 := by
  have h1 := p128
  have := putU_len 9 n (by generalize 128 ^ (9 + 1) = q at *; omega)
  omega

theorem or128 : ∀ m : Fin 256, (m.val ||| 128) = m.val % 128 + 128 := by decide +kernel

theorem elem_or (n : Nat) : Value.int .u8 (Go.bits .or .u8 (IntKind.u8.wrap (n : Int)) (128 : Int)) = vB (UInt8.ofNat (n % 128 + 128)) := by
  have e1 : IntKind.u8.wrap (n : Int) = ((n % 256 : Nat) : Int) := by rw [wU8]; omega
  have e2 : (128 : Int) = ((128 : Nat) : Int) := rfl
  rw [e1, e2, bits_or rfl (by simp [IntKind.bits]; omega) (by simp [IntKind.bits]), ← vB_lit (by omega)]
  have := or128 ⟨n % 256, by omega⟩
  simp only at this
  rw [this]
  congr 1
  omega
theorem elem_low {n : Nat} (h : n < 128) : Value.int .u8 (IntKind.u8.wrap (n : Int)) = vB (UInt8.ofNat n) := by
  rw [wU8_id (by omega) (by omega), vB_lit (by omega)]
theorem elem_mod (n : Nat) : Value.int .u8 (IntKind.u8.wrap ((IntKind.u8.wrap (Int.tmod (n : Int) (128 : Int))) + (128 : Int))) = vB (UInt8.ofNat (n % 128 + 128)) := by
  have e1 : Int.tmod (n : Int) (128 : Int) = ((n % 128 : Nat) : Int) := rfl
  rw [e1, wU8_id (x := ((n % 128 : Nat) : Int)) (by omega) (by omega), wU8_id (by omega) (by omega), ← vB_lit (by omega)]
  congr 1

theorem joined_ok {w : World} {b c : Sl} {l m : List UInt8} (hb : RdB w b l) (hc : RdB w c m) (hl : l.length + m.length ≤ 140737488355328) {K : Sl → World → Prop}
    (hK : ∀ r w', Keep w w' → OwnB w' w.heap.size r (l ++ m) → K r w') : C.vint_joined b c w K := by
  have h1 := hb.len
  have h2 := hc.len
  unfold C.vint_joined
  refine make0B (c := l.length + m.length) (by rw [wI64 (by omega) (by omega), h1, h2]; rfl) (Keep.refl w) (Nat.le_refl _) hl fun r0 w1 k1 o1 => ?_
  refine appB k1 k1.size o1 (hb.keep k1) (by simp; omega) fun r1 w2 k2 o2 => ?_
  refine appB k2 k2.size o2 (hc.keep k2) (by simp; omega) fun r2 w3 k3 o3 => ?_
  exact hK r2 w3 k3 (by simpa using o3)
theorem putU_ok {w0 : World} {b : Sl} {l : List UInt8} {n : Nat} (hn : n < 18446744073709551616) (hb : RdB w0 b l) (hl : l.length ≤ 140737488355300) {K : Sl → World → Prop}
    (hK : ∀ r w', Keep w0 w' → OwnB w' w0.heap.size r (l ++ putU n) → K r w') : C.vint_PutU b (n : Int) w0 K := by
  unfold C.vint_PutU
  refine C.vint_PutU.L5_ind fun X hX => ?_
  have key : ∀ (n : Nat) (pre : List UInt8) (c : Sl) (w : World), n < 18446744073709551616 → (pre ++ putU n).length ≤ 10 → Keep w0 w → OwnB w w0.heap.size c pre →
      (∀ r w', Keep w0 w' → OwnB w' w0.heap.size r (l ++ (pre ++ putU n)) → K r w') → X b (n : Int) c w := by
    intro n
    induction n using Nat.strongRecOn with
    | _ n ih =>
      intro pre c w hn hlen hk ho hK
      refine hX _ _ _ _ ?_
      unfold C.vint_PutU.S7
      have hpre : pre.length ≤ 10 := by simp at hlen; omega
      refine cond_d (fun h => ?_) (fun h => ?_)
      · have h' : ¬ n < 128 := by omega
        rw [putU_ge h'] at hlen hK
        refine pushB (m := [UInt8.ofNat (n % 128 + 128)]) hk hk.size ho (by rw [elem_or]; rfl) (by rfl) (by omega) fun r w' k1 k2 => ?_
        refine ⟨by decide, ?_⟩
        have e : shr .u64 (n : Int) (7 : Int) = ((n / 128 : Nat) : Int) := by
          have := shr_nat .u64 (n : Int) 7 (by decide)
          rw [show ((7 : Nat) : Int) = (7 : Int) from rfl] at this
          rw [this]; omega
        rw [e]
        refine ih (n / 128) (by omega) _ r w' (by omega) (by simpa using hlen) k1 k2 fun r w' k o => hK r w' k (by simpa using o)
      · have h' : n < 128 := by omega
        rw [putU_lt h'] at hK
        unfold C.vint_PutU.S2
        refine pushB (m := [UInt8.ofNat n]) hk hk.size ho (by rw [elem_low h']; rfl) (by rfl) (by omega) fun r w' k1 k2 => ?_
        refine joined_ok (hb.keep k1) k2.rd (by simp; omega) fun r w2 k3 o3 => ?_
        exact hK r w2 (Keep.trans k1 k3) (o3.mono k1.size)
  exact key n [] nilS w0 hn (by simpa using putU_len64 hn) (Keep.refl _) (OwnB.nil _ _) (by simpa using hK)

end Go.Proofs.YtfkpehcbijgmnaaGreatDoor.Vint
