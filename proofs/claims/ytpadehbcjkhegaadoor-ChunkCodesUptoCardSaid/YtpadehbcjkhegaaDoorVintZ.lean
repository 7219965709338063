/- Layer 1: varints written, as other layers use them. Own work. -/
import Derived.Test.YtpadehbcjkhegaaDoorVint
namespace Go.Proofs.YtpadehbcjkhegaaDoor.Vint
open Go Vm Go.RowKit Num Mem

def zz (n : Int) : Nat := if 0 ≤ n then (2 * n).toNat else (-2 * n - 1).toNat
def bk (u : Nat) : Int := if u % 2 = 0 then ((u / 2 : Nat) : Int) else -((u / 2 : Nat) : Int) - 1
theorem bk_zz (n : Int) : bk (zz n) = n := by
  unfold bk zz
  split <;> split <;> omega
theorem zz_lt {n : Int} (h1 : -9223372036854775808 ≤ n) (h2 : n < 9223372036854775808) : zz n < 18446744073709551616 := by
  unfold zz; split <;> omega

theorem xor_all (x : Nat) (hx : x < 18446744073709551616) : x ^^^ 18446744073709551615 = 18446744073709551615 - x := by
  have h := BitVec.xor_allOnes (x := BitVec.ofNat 64 x)
  have := congrArg BitVec.toNat h
  rw [BitVec.toNat_xor, BitVec.toNat_not, BitVec.toNat_ofNat, BitVec.toNat_allOnes, Nat.mod_eq_of_lt (by omega)] at this
  exact this

theorem zig (n : Int) (h1 : -9223372036854775808 ≤ n) (h2 : n < 9223372036854775808) :
    Go.bits .xor .u64 (shl .u64 (IntKind.u64.wrap n) (1 : Int)) (IntKind.u64.wrap (shr .i64 n (63 : Int))) = ((zz n : Nat) : Int) := by
  have e1 := shl_nat .u64 (IntKind.u64.wrap n) 1 (by decide)
  have e2 := shr_nat .i64 n 63 (by decide)
  rw [show ((1 : Nat) : Int) = (1 : Int) from rfl] at e1
  rw [show ((63 : Nat) : Int) = (63 : Int) from rfl] at e2
  rw [e1, e2]
  by_cases h : 0 ≤ n
  · rw [show n / 2 ^ 63 = ((0 : Nat) : Int) by omega, wU64_id (x := ((0 : Nat) : Int)) (by decide) (by decide), wU64_id (x := n) h (by omega),
      show n * 2 ^ 1 = (((2 * n).toNat : Nat) : Int) by omega, wU64_id (by omega) (by omega), bits_xor rfl (by simp only [IntKind.bits]; omega) (by decide), Nat.xor_zero]
    unfold zz
    rw [if_pos h]
  · have ew : IntKind.u64.wrap (IntKind.u64.wrap n * 2 ^ 1) = (((2 * n + 18446744073709551616).toNat : Nat) : Int) := by
      rw [wU64, wU64]; omega
    have es : IntKind.u64.wrap (n / 2 ^ 63) = ((18446744073709551615 : Nat) : Int) := by rw [wU64]; omega
    rw [ew, es, bits_xor rfl (by simp only [IntKind.bits]; omega) (by decide), xor_all _ (by omega)]
    unfold zz
    rw [if_neg h]
    omega

theorem putI_ok {w0 : World} {b : Sl} {l : List UInt8} {n : Int} (h1 : -9223372036854775808 ≤ n) (h2 : n < 9223372036854775808) (hb : RdB w0 b l) (hl : l.length ≤ 140737488355300) {K : Sl → World → Prop}
    (hK : ∀ r w', Keep w0 w' → OwnB w' w0.heap.size r (l ++ putU (zz n)) → K r w') : C.vint_PutI b n w0 K := by
  unfold C.vint_PutI
  refine ⟨by decide, by decide, ?_⟩
  rw [zig n h1 h2]
  exact putU_ok (zz_lt h1 h2) hb hl hK
theorem rputI_ok {w0 : World} {b : Sl} {l : List UInt8} {n : Int} (h1 : -9223372036854775808 ≤ n) (h2 : n < 9223372036854775808) (hb : RdB w0 b l) (hl : l.length ≤ 140737488355300) {K : Sl → World → Prop}
    (hK : ∀ r w', Keep w0 w' → OwnB w' w0.heap.size r (l ++ putU (zz n)) → K r w') : C.tocsinref01_PutI b n w0 K := by
  have hz := zz_lt h1 h2
  unfold C.tocsinref01_PutI C.tocsinref01_turn
  have fin := rputU_ok hz hb hl hK
  refine cond_d (fun h => ?_) (fun h => ?_)
  · rw [show IntKind.u64.wrap ((2 : Int) * (IntKind.u64.wrap n)) = ((zz n : Nat) : Int) by unfold zz; rw [if_pos (by omega), wU64, wU64]; omega]
    exact fin
  · rw [wI64 (x := n + 1) (by omega) (by omega), wI64 (by omega) (by omega),
      show IntKind.u64.wrap ((IntKind.u64.wrap ((2 : Int) * (IntKind.u64.wrap (0 - (n + 1))))) + (1 : Int)) = ((zz n : Nat) : Int) by unfold zz; rw [if_neg (by omega), wU64, wU64, wU64]; omega]
    exact fin

end Go.Proofs.YtpadehbcjkhegaaDoor.Vint
