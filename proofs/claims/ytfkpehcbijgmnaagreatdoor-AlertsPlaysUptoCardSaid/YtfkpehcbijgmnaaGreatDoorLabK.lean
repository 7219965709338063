/- Layer 4: a label set's text, as a key; unlike sets have unlike texts. Own work. -/
import Derived.Test.YtfkpehcbijgmnaaGreatDoorLabP
import Derived.Test.YtfkpehcbijgmnaaGreatDoorLbr
import Derived.Test.YtfkpehcbijgmnaaGreatDoorSmp
namespace Go.Proofs.YtfkpehcbijgmnaaGreatDoor.Lab
open Go Vm Go.RowKit Num Mem Utf Lib Vint
variable {ω ω' : Tg} {w w' w0 : World}

theorem tiL : TI Tryz.prog 32 48 2 32 := TI.of (z := .agg #[.string ⟨#[]⟩, .string ⟨#[]⟩]) (by kernel_rfl) (by kernel_rfl) rfl (by decide)
theorem labs_one {l : List Lb} : ∀ v ∈ labs l, v.oneCell' = true := by
  intro v hv
  obtain ⟨s, _, hs⟩ := List.mem_flatMap.1 hv
  simp only [labC, List.mem_cons, List.not_mem_nil, or_false] at hs
  rcases hs with rfl | rfl <;> rfl
def keyOf (m : List Lb) : ByteArray := str (Lab.put m)
theorem u8_inj {a b : Nat} (ha : a < 256) (hb : b < 256) (h : UInt8.ofNat a = UInt8.ofNat b) : a = b := by
  have := congrArg UInt8.toNat h
  rw [UInt8.toNat_ofNat', UInt8.toNat_ofNat', Nat.mod_eq_of_lt ha, Nat.mod_eq_of_lt hb] at this
  exact this
theorem putU_inj : ∀ (f n n' : Nat) (y y' : List UInt8), n < f → putU n ++ y = putU n' ++ y' → n = n' ∧ y = y'
  | 0, n, n', y, y', h, _ => absurd h (Nat.not_lt_zero _)
  | f + 1, n, n', y, y', h, e => by
    by_cases h1 : n < 128 <;> by_cases h2 : n' < 128
    · rw [putU_lt h1, putU_lt h2] at e
      simp only [List.cons_append, List.nil_append, List.cons.injEq] at e
      exact ⟨u8_inj (by omega) (by omega) e.1, e.2⟩
    · rw [putU_lt h1, putU_ge h2] at e
      simp only [List.cons_append, List.nil_append, List.cons.injEq] at e
      have := u8_inj (by omega) (by omega) e.1
      omega
    · rw [putU_ge h1, putU_lt h2] at e
      simp only [List.cons_append, List.nil_append, List.cons.injEq] at e
      have := u8_inj (by omega) (by omega) e.1
      omega
    · rw [putU_ge h1, putU_ge h2] at e
      simp only [List.cons_append, List.cons.injEq] at e
      have e1 := u8_inj (by omega) (by omega) e.1
      obtain ⟨e2, e3⟩ := putU_inj f (n / 128) (n' / 128) y y' (by omega) e.2
      exact ⟨by omega, e3⟩
theorem txt_inj {s s' : ByteArray} {y y' : List UInt8} (h : txt s ++ y = txt s' ++ y') : s = s' ∧ y = y' := by
  unfold txt at h
  rw [List.append_assoc, List.append_assoc] at h
  obtain ⟨h1, h2⟩ := putU_inj _ _ _ _ _ (Nat.lt_succ_self _) h
  obtain ⟨h3, h4⟩ := List.append_inj h2 (by rw [← szB, ← szB, h1])
  refine ⟨?_, h4⟩
  have : s.data = s'.data := Array.toList_inj.1 h3
  cases s; cases s'; simp at this; rw [this]
theorem flat_inj : ∀ {a b : List Lb}, a.length = b.length → a.flatMap labB = b.flatMap labB → a = b
  | [], [], _, _ => rfl
  | [], y :: b, h, _ => by simp at h
  | x :: a, [], h, _ => by simp at h
  | x :: a, y :: b, h, e => by
    simp only [List.flatMap_cons, labB, List.append_assoc] at e
    obtain ⟨e1, e⟩ := txt_inj e
    obtain ⟨e2, e⟩ := txt_inj e
    rw [Prod.ext e1 e2, flat_inj (by simpa using h) e]
theorem put_inj {a b : List Lb} (h : Lab.put a = Lab.put b) : a = b := by
  unfold Lab.put at h
  obtain ⟨h1, h2⟩ := putU_inj _ _ _ _ _ (Nat.lt_succ_self _) h
  exact flat_inj h1 h2
theorem key_inj {a b : List Lb} (h : keyOf a = keyOf b) : a = b := by
  refine put_inj ?_
  have := congrArg Utf.bytes h
  rwa [keyOf, keyOf, bytes_str, bytes_str] at this

end Go.Proofs.YtfkpehcbijgmnaaGreatDoor.Lab
