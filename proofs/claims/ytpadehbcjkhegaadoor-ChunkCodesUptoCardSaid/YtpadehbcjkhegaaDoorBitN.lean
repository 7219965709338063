/- Numbers of so many bits; how many bits 0 a number begins and ends with. Own work. -/
import Derived.Test.YtpadehbcjkhegaaDoorBitsB
import Derived.Lib.BitFns
import Derived.Lib.TrailingZeros
namespace Go.Proofs.YtpadehbcjkhegaaDoor.Bits
open Go Vm Go.RowKit Num Mem

def fitsB (n : Int) (k : Nat) : Bool := decide (-(2 ^ (k - 1) - 1) ≤ n) && decide (n ≤ 2 ^ (k - 1))
def uN (n : Int) : Nat := (n % 18446744073709551616).toNat
/-- The lowest bits. -/
def lowN (n : Int) (k : Nat) : Nat := if k < 64 then uN n % 2 ^ k else uN n
theorem uN_lt (n : Int) : uN n < 18446744073709551616 := by unfold uN; omega
theorem lowN_lt (n : Int) (k : Nat) : lowN n k < 18446744073709551616 := by
  have := uN_lt n
  unfold lowN; split
  · exact Nat.lt_of_le_of_lt (Nat.mod_le _ _) this
  · exact this
theorem wrapU (n : Int) : IntKind.u64.wrap n = ((uN n : Nat) : Int) := by rw [wU64]; unfold uN; omega

theorem low_and {n : Int} {k : Nat} (hk : k < 64) : Go.bits .and .u64 (IntKind.u64.wrap n) (IntKind.u64.wrap ((shl .u64 (1 : Int) (IntKind.u64.wrap (k : Int))) - (1 : Int))) = ((lowN n k : Nat) : Int) := by
  have hp : 2 ^ k ≤ 2 ^ 63 := Nat.pow_le_pow_right (by decide) (by omega)
  have hp0 : 0 < 2 ^ k := Nat.pow_pos (by decide)
  have hu := uN_lt n
  have e := shl_nat .u64 (1 : Int) k (by simp only [IntKind.bits]; omega)
  rw [show (1 : Int) * 2 ^ k = ((2 ^ k : Nat) : Int) by simp, wU64_id (by omega) (by omega)] at e
  rw [wU64_id (x := (k : Int)) (by omega) (by omega), e, show ((2 ^ k : Nat) : Int) - 1 = ((2 ^ k - 1 : Nat) : Int) by omega, wU64_id (x := ((2 ^ k - 1 : Nat) : Int)) (by omega) (by omega), wrapU,
    bits_and rfl (by simp only [IntKind.bits]; omega) (by simp only [IntKind.bits]; omega), Nat.and_two_pow_sub_one_eq_mod]
  unfold lowN
  rw [if_pos hk]
theorem lowN_lt2 (n : Int) {k : Nat} (hk : k ≤ 64) : lowN n k < 2 ^ k := by
  unfold lowN
  split
  · exact Nat.mod_lt _ (Nat.pow_pos (by decide))
  · rw [show k = 64 by omega]; exact uN_lt n
/-- The test of a range, as both texts make it. -/
theorem fits_cond {n : Int} {k : Nat} (hk : 0 < k) (hk' : k ≤ 56) {X Y : Prop} (h1 : fitsB n k = true → X) (h2 : fitsB n k = false → Y) :
    G.cond (decide (n ≥ (IntKind.i64.wrap (0 - (IntKind.i64.wrap ((shl .i64 (1 : Int) (IntKind.u64.wrap (IntKind.i64.wrap ((k : Int) - (1 : Int))))) - (1 : Int))))))) (G.cond (decide (n ≤ (shl .i64 (1 : Int) (IntKind.u64.wrap (IntKind.i64.wrap ((k : Int) - (1 : Int))))))) X Y) Y := by
  have e1 : IntKind.u64.wrap (IntKind.i64.wrap ((k : Int) - (1 : Int))) = ((k - 1 : Nat) : Int) := by
    rw [wI64 (by omega) (by omega), wU64_id (by omega) (by omega)]; omega
  rw [e1]
  have e2 := shl_nat .i64 (1 : Int) (k - 1) (by simp only [IntKind.bits]; omega)
  have hp : 2 ^ (k - 1) ≤ 2 ^ 55 := Nat.pow_le_pow_right (by decide) (by omega)
  have hp0 : 0 < 2 ^ (k - 1) := Nat.pow_pos (by decide)
  have e3 : (1 : Int) * 2 ^ (k - 1) = ((2 ^ (k - 1) : Nat) : Int) := by simp
  rw [e3, wI64 (by omega) (by omega)] at e2
  have e4 : (2 : Int) ^ (k - 1) = ((2 ^ (k - 1) : Nat) : Int) := by simp
  unfold fitsB at h1 h2
  rw [e4] at h1 h2
  rw [e2]
  generalize 2 ^ (k - 1) = q at *
  rw [wI64 (x := (q : Int) - 1) (by omega) (by omega), wI64 (by omega) (by omega)]
  refine cond_d (fun a => cond_d (fun b => h1 ?_) (fun b => h2 ?_)) (fun a => h2 ?_)
  · simp; omega
  · simp; omega
  · simp; omega

/-! How many bits 0 stand ahead, and behind. -/
def lead (x : Nat) : Nat := min (64 - Lib.bitLen x) 31
def trail (x : Nat) : Nat := Lib.ctz 64 x
end Go.Proofs.YtpadehbcjkhegaaDoor.Bits
