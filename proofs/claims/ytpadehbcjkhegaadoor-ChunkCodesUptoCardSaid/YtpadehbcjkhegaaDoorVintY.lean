/- Whole numbers back from their turned form. Own work. -/
import Derived.Test.YtpadehbcjkhegaaDoorVintZ
namespace Go.Proofs.YtpadehbcjkhegaaDoor.Vint
open Go Vm Go.RowKit Num Mem
theorem bits_xor64 {x y : Nat} (hx : x < 18446744073709551616) (hy : y < 18446744073709551616) : Go.bits .xor .i64 (x : Int) (y : Int) = IntKind.i64.wrap ((x ^^^ y : Nat) : Int) := by
  have e : (BitVec.ofNat 64 x ^^^ BitVec.ofNat 64 y).toNat = x ^^^ y := by
    rw [BitVec.toNat_xor, BitVec.toNat_ofNat, BitVec.toNat_ofNat, Nat.mod_eq_of_lt (by omega), Nat.mod_eq_of_lt (by omega)]
  unfold Go.bits
  simp only [ofInt_nat]
  exact congrArg (fun t : Nat => IntKind.i64.wrap (t : Int)) e
theorem ofInt_neg1 : BitVec.ofInt 64 (-1) = BitVec.ofInt 64 ((18446744073709551615 : Nat) : Int) := by decide +kernel
theorem bits_xor_neg (x : Int) : Go.bits .xor .i64 x (-1) = Go.bits .xor .i64 x ((18446744073709551615 : Nat) : Int) := by
  unfold Go.bits
  exact congrArg (fun t : BitVec 64 => IntKind.i64.wrap (((BitVec.ofInt 64 x ^^^ t).toNat : Nat) : Int)) ofInt_neg1

theorem zag (u : Nat) (hu : u < 18446744073709551616) :
    Go.bits .xor .i64 (IntKind.i64.wrap (shr .u64 (u : Int) (1 : Int))) (IntKind.i64.wrap (0 - (IntKind.i64.wrap (Go.bits .and .u64 (u : Int) (1 : Int))))) = bk u := by
  have e2 := shr_nat .u64 (u : Int) 1 (by decide)
  rw [show ((1 : Nat) : Int) = (1 : Int) from rfl] at e2
  have e3 : Go.bits .and .u64 (u : Int) (1 : Int) = ((u % 2 : Nat) : Int) := by
    rw [show (1 : Int) = ((1 : Nat) : Int) from rfl, bits_and rfl (by simp only [IntKind.bits]; omega) (by decide), Nat.and_one_is_mod]
  rw [e2, e3, show (u : Int) / 2 ^ 1 = ((u / 2 : Nat) : Int) by omega, wI64 (x := ((u / 2 : Nat) : Int)) (by omega) (by omega), wI64 (x := ((u % 2 : Nat) : Int)) (by omega) (by omega), wI64 (by omega) (by omega)]
  unfold bk
  by_cases h : u % 2 = 0
  · rw [if_pos h, h, show (0 : Int) - ((0 : Nat) : Int) = ((0 : Nat) : Int) from rfl, bits_xor64 (by omega) (by omega), Nat.xor_zero, wI64 (by omega) (by omega)]
  · rw [if_neg h, show u % 2 = 1 by omega, show (0 : Int) - ((1 : Nat) : Int) = -1 from rfl, bits_xor_neg, bits_xor64 (by omega) (by omega), xor_all _ (by omega), wI64']
    split <;> omega

end Go.Proofs.YtpadehbcjkhegaaDoor.Vint
