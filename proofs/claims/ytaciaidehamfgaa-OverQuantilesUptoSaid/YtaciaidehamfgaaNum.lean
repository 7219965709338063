/- Whole numbers as Go has them: wraps, shifts, bits. Own work. -/
import Derived.Test.YtaciaidehamfgaaVmLift
namespace Go.Proofs.Ytaciaidehamfgaa.Num
open Go Vm

theorem wU8 (x : Int) : IntKind.u8.wrap x = x % 256 := by simp [IntKind.wrap, IntKind.bits, IntKind.signed]
theorem wU16 (x : Int) : IntKind.u16.wrap x = x % 65536 := by simp [IntKind.wrap, IntKind.bits, IntKind.signed]
theorem wU32 (x : Int) : IntKind.u32.wrap x = x % 4294967296 := by simp [IntKind.wrap, IntKind.bits, IntKind.signed]
theorem wU64 (x : Int) : IntKind.u64.wrap x = x % 18446744073709551616 := by simp [IntKind.wrap, IntKind.bits, IntKind.signed]
theorem wI64' (x : Int) : IntKind.i64.wrap x = if x % 18446744073709551616 ≥ 9223372036854775808 then x % 18446744073709551616 - 18446744073709551616 else x % 18446744073709551616 := by
  simp [IntKind.wrap, IntKind.bits, IntKind.signed]
theorem wI64 {x : Int} (h1 : -9223372036854775808 ≤ x) (h2 : x < 9223372036854775808) : IntKind.i64.wrap x = x := by
  rw [wI64']
  split <;> omega
theorem wU64_id {x : Int} (h1 : 0 ≤ x) (h2 : x < 18446744073709551616) : IntKind.u64.wrap x = x := by
  rw [wU64]; omega
theorem wU8_id {x : Int} (h1 : 0 ≤ x) (h2 : x < 256) : IntKind.u8.wrap x = x := by
  rw [wU8]; omega
theorem wU32_id {x : Int} (h1 : 0 ≤ x) (h2 : x < 4294967296) : IntKind.u32.wrap x = x := by
  rw [wU32]; omega

theorem shr_nat (k : IntKind) (x : Int) (b : Nat) (hb : b ≤ k.bits) : shr k x (b : Int) = x / (2 ^ b : Int) := by
  unfold shr
  rw [Int.toNat_natCast, Nat.min_eq_left hb, Int.fdiv_eq_ediv_of_nonneg _ (Int.le_of_lt (Int.pow_pos (by decide)))]
theorem shl_nat (k : IntKind) (x : Int) (b : Nat) (hb : b ≤ k.bits) : shl k x (b : Int) = k.wrap (x * 2 ^ b) := by
  unfold shl
  rw [Int.toNat_natCast, Nat.min_eq_left hb]

theorem ofInt_nat (n : Nat) (x : Nat) : BitVec.ofInt n (x : Int) = BitVec.ofNat n x := by simp

theorem wrap_nat {k : IntKind} {x : Nat} (hk : k.signed = false) (hx : x < 2 ^ k.bits) : k.wrap (x : Int) = x := by
  unfold IntKind.wrap
  simp only [hk, Bool.false_and, Bool.false_eq_true, if_false]
  have : ((2 : Int) ^ k.bits) = ((2 ^ k.bits : Nat) : Int) := by simp
  rw [this]
  exact_mod_cast Nat.mod_eq_of_lt hx

theorem bits_and {k : IntKind} {x y : Nat} (hk : k.signed = false) (hx : x < 2 ^ k.bits) (hy : y < 2 ^ k.bits) : Go.bits .and k (x : Int) (y : Int) = ((x &&& y : Nat) : Int) := by
  unfold Go.bits
  simp only [ofInt_nat, BitVec.toNat_and, BitVec.toNat_ofNat, Nat.mod_eq_of_lt hx, Nat.mod_eq_of_lt hy]
  exact wrap_nat hk (Nat.and_lt_two_pow _ hy)
theorem bits_or {k : IntKind} {x y : Nat} (hk : k.signed = false) (hx : x < 2 ^ k.bits) (hy : y < 2 ^ k.bits) : Go.bits .or k (x : Int) (y : Int) = ((x ||| y : Nat) : Int) := by
  unfold Go.bits
  simp only [ofInt_nat, BitVec.toNat_or, BitVec.toNat_ofNat, Nat.mod_eq_of_lt hx, Nat.mod_eq_of_lt hy]
  exact wrap_nat hk (Nat.or_lt_two_pow hx hy)
theorem bits_xor {k : IntKind} {x y : Nat} (hk : k.signed = false) (hx : x < 2 ^ k.bits) (hy : y < 2 ^ k.bits) : Go.bits .xor k (x : Int) (y : Int) = ((x ^^^ y : Nat) : Int) := by
  unfold Go.bits
  simp only [ofInt_nat, BitVec.toNat_xor, BitVec.toNat_ofNat, Nat.mod_eq_of_lt hx, Nat.mod_eq_of_lt hy]
  exact wrap_nat hk (Nat.xor_lt_two_pow hx hy)

/-! 32 bits as BitVec. -/
abbrev B32 := BitVec 32
theorem xor32 (a b : B32) : Go.bits .xor .u32 (a.toNat : Int) (b.toNat : Int) = ((a ^^^ b).toNat : Int) := by
  rw [bits_xor rfl a.isLt b.isLt, BitVec.toNat_xor]
theorem and32 (a b : B32) : Go.bits .and .u32 (a.toNat : Int) (b.toNat : Int) = ((a &&& b).toNat : Int) := by
  rw [bits_and rfl a.isLt b.isLt, BitVec.toNat_and]
theorem shr32 (a : B32) (b : Nat) (hb : b ≤ 32) : shr .u32 (a.toNat : Int) (b : Int) = ((a >>> b).toNat : Int) := by
  rw [shr_nat _ _ _ hb, BitVec.toNat_ushiftRight, Nat.shiftRight_eq_div_pow]
  simp
theorem not32 : notK .u32 = ((BitVec.allOnes 32).toNat : Int) := by decide

/-- A number's low byte. -/
def u8 (n : Int) : UInt8 := UInt8.ofNat (n % 256).toNat
theorem u8_toNat (n : Int) : ((u8 n).toNat : Int) = n % 256 := by
  unfold u8
  rw [UInt8.toNat_ofNat']
  omega
theorem byte_lt (b : UInt8) : (b.toNat : Int) < 256 := by have := b.toNat_lt; omega
end Go.Proofs.Ytaciaidehamfgaa.Num
