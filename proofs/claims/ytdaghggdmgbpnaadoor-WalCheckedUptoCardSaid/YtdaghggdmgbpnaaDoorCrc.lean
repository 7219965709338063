/- The sum of bytes, bit by bit and by half bytes: plain. Own work. -/
import Derived.Test.YtdaghggdmgbpnaaDoorNum
namespace Go.Proofs.YtdaghggdmgbpnaaDoor.Crc
open Num

def poly : B32 := 0x82f63b78#32
def step1 (r : B32) : B32 := (r >>> 1) ^^^ (if r.getLsbD 0 then poly else 0#32)
def steps : Nat → B32 → B32
  | 0, r => r
  | n + 1, r => steps n (step1 r)
theorem steps_add (a b : Nat) (r : B32) : steps (a + b) r = steps b (steps a r) := by
  induction a generalizing r with
  | zero => simp [steps]
  | succ a ih => rw [Nat.succ_add]; exact ih _
def crcB (r : B32) (c : UInt8) : B32 := steps 8 (r ^^^ BitVec.ofNat 32 c.toNat)
def crc (r : B32) (l : List UInt8) : B32 := l.foldl crcB r
def crcOn (s : B32) (l : List UInt8) : B32 := ~~~(crc (~~~s) l)
theorem crcOn_append (s : B32) (l m : List UInt8) : crcOn (crcOn s l) m = crcOn s (l ++ m) := by
  unfold crcOn crc
  rw [List.foldl_append, BitVec.not_not]

def tab : List B32 := [0x00000000#32, 0x105ec76f#32, 0x20bd8ede#32, 0x30e349b1#32, 0x417b1dbc#32, 0x5125dad3#32, 0x61c69362#32, 0x7198540d#32,
  0x82f63b78#32, 0x92a8fc17#32, 0xa24bb5a6#32, 0xb21572c9#32, 0xc38d26c4#32, 0xd3d3e1ab#32, 0xe330a81a#32, 0xf36e6f75#32]

theorem step1_xor (a b : B32) : step1 (a ^^^ b) = step1 a ^^^ step1 b := by
  unfold step1
  rw [BitVec.ushiftRight_xor_distrib, BitVec.getLsbD_xor]
  cases ha : a.getLsbD 0 <;> cases hb : b.getLsbD 0 <;> simp
  · rw [BitVec.xor_assoc]
  · rw [BitVec.xor_assoc, BitVec.xor_assoc, BitVec.xor_comm (b >>> 1)]
  · rw [BitVec.xor_assoc, BitVec.xor_comm poly, BitVec.xor_assoc, BitVec.xor_self, BitVec.xor_zero]
theorem steps_xor (n : Nat) (a b : B32) : steps n (a ^^^ b) = steps n a ^^^ steps n b := by
  induction n generalizing a b with
  | zero => rfl
  | succ n ih => simp only [steps]; rw [step1_xor, ih]
theorem step1_even {r : B32} (h : r.getLsbD 0 = false) : step1 r = r >>> 1 := by
  unfold step1
  rw [h]
  simp
theorem steps_hi (x : B32) : ∀ k, k ≤ 4 → steps k (x <<< 4) = (x <<< 4) >>> k := by
  intro k
  induction k with
  | zero => intro _; simp [steps]
  | succ k ih =>
    intro hk
    rw [steps_add k 1, ih (by omega)]
    show step1 _ = _
    rw [step1_even]
    · rw [← BitVec.shiftRight_add]
    · rw [BitVec.getLsbD_ushiftRight, BitVec.getLsbD_shiftLeft]
      simp; omega
theorem split4 (r : B32) : r = ((r >>> 4) <<< 4) ^^^ (r &&& 15#32) := by
  apply BitVec.eq_of_getLsbD_eq
  intro i hi
  rw [BitVec.getLsbD_xor, BitVec.getLsbD_shiftLeft, BitVec.getLsbD_ushiftRight, BitVec.getLsbD_and]
  by_cases h : i < 4
  · have : (15#32).getLsbD i = true := by
      have : ∀ j : Fin 4, (15#32).getLsbD j.val = true := by decide
      exact this ⟨i, h⟩
    simp [h, this]
  · have : (15#32).getLsbD i = false := by
      have : ∀ j : Fin 32, 4 ≤ j.val → (15#32).getLsbD j.val = false := by decide
      exact this ⟨i, hi⟩ (show 4 ≤ i by omega)
    have e : 4 + (i - 4) = i := by omega
    simp only [e, this, hi, h, decide_true, decide_false, Bool.not_false, Bool.true_and, Bool.and_false, Bool.xor_false]
theorem steps_lo : ∀ i : Fin 16, steps 4 (BitVec.ofNat 32 i.val) = tab.getD i.val 0#32 := by decide +kernel
theorem low_lt (r : B32) : (r &&& 15#32).toNat < 16 := by
  rw [BitVec.toNat_and]
  exact Nat.lt_of_le_of_lt Nat.and_le_right (by decide)
theorem steps4 (r : B32) : steps 4 r = (r >>> 4) ^^^ tab.getD (r &&& 15#32).toNat 0#32 := by
  have h := steps_lo ⟨(r &&& 15#32).toNat, low_lt r⟩
  simp only [BitVec.ofNat_toNat, BitVec.setWidth_eq] at h
  rw [← h]
  conv => lhs; rw [split4 r, steps_xor, steps_hi _ 4 (Nat.le_refl _)]
  congr 1
  apply BitVec.eq_of_getLsbD_eq
  intro i hi
  rw [BitVec.getLsbD_ushiftRight, BitVec.getLsbD_shiftLeft, BitVec.getLsbD_ushiftRight, BitVec.getLsbD_ushiftRight]
  by_cases h4 : 4 + i < 32
  · simp [h4]
  · have : r.getLsbD (4 + i) = false := BitVec.getLsbD_of_ge _ _ (by omega)
    simp [this]
theorem steps8 (r : B32) : steps 8 r = steps 4 (steps 4 r) := steps_add 4 4 r
end Go.Proofs.YtdaghggdmgbpnaaDoor.Crc
