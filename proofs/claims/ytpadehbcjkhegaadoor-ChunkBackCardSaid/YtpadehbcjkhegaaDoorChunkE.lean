/- Layer 8: numbers, times and values are read. Own work. -/
import Derived.Test.YtpadehbcjkhegaaDoorChunkD
namespace Go.Proofs.YtpadehbcjkhegaaDoor.Chunk
open Go Vm Go.RowKit Num Mem Bits Vint
variable {ω ω' : Tg} {w w' w0 : World} {t gd p k : Nat} {bs : List UInt8} {A B : Int} {kn bad : Bool}

theorem and127 (v : Nat) (hv : v < 256) : Go.bits .and .u64 (v : Int) (127 : Int) = ((v % 128 : Nat) : Int) := by
  rw [show (127 : Int) = ((127 : Nat) : Int) from rfl, bits_and rfl (by simp only [IntKind.bits]; omega) (by decide)]
  congr 1
  exact Nat.and_two_pow_sub_one_eq_mod v 7
theorem shl64 (z e : Nat) (he : e ≤ 64) : shl .u64 (z : Int) (e : Int) = ((z * 2 ^ e % 18446744073709551616 : Nat) : Int) := by
  have h := shl_nat .u64 (z : Int) e (by simp only [IntKind.bits]; omega)
  rw [h, wU64]
  have : (z : Int) * 2 ^ e = ((z * 2 ^ e : Nat) : Int) := by simp
  rw [this]; omega
theorem or64 {a b : Nat} (ha : a < 18446744073709551616) (hb : b < 18446744073709551616) : Go.bits .or .u64 (a : Int) (b : Int) = ((a ||| b : Nat) : Int) ∧ (a ||| b) < 18446744073709551616 :=
  ⟨bits_or rfl (by simp only [IntKind.bits]; omega) (by simp only [IntKind.bits]; omega), Nat.or_lt_two_pow (n := 64) ha hb⟩
theorem or_plus {acc z e : Nat} (ha : acc < 2 ^ e) (hz : z * 2 ^ e < 18446744073709551616) : acc ||| (z * 2 ^ e % 18446744073709551616) = acc + z * 2 ^ e := by
  rw [Nat.mod_eq_of_lt hz]
  have := Nat.two_pow_add_eq_or_of_lt ha z
  rw [Nat.mul_comm, Nat.or_comm, ← this]; omega
theorem byteBits_one (c : UInt8) (l : List UInt8) : byteBits (c :: l) = low c.toNat 8 ++ byteBits l := rfl
theorem ofNat_val {n : Nat} (h : n < 256) : (UInt8.ofNat n).toNat = n := by simp [UInt8.toNat_ofNat']; omega

set_option maxRecDepth 20000 in
theorem uvar_ok (h : RdS ω w t gd bs p A B kn bad) {K : Int → World → Prop}
    (hK : ∀ (v p' : Nat) bad' ω' w', v < 18446744073709551616 → (∀ n tail, n < 18446744073709551616 → rest bs p = byteBits (putU n) ++ tail → v = n ∧ rest bs p' = tail ∧ bad' = bad) → Stp (Rng t 3) ω ω' w w' → RdS ω' w' t gd bs p' A B kn bad' → K (v : Int) w') : C.chunk_reader_uvarint (wp gd) w K := by
  unfold C.chunk_reader_uvarint C.chunk_reader_uvarint.S9
  refine C.chunk_reader_uvarint.L5_ind fun X hX => ?_
  have key : ∀ (j i acc p1 : Nat) (b1 : Bool) (ω1 : Tg) (w1 : World), i + j = 10 → acc < 18446744073709551616 → Stp (Rng t 3) ω ω1 w w1 → RdS ω1 w1 t gd bs p1 A B kn b1 →
      (∀ n tail, n < 18446744073709551616 → rest bs p = byteBits (putU n) ++ tail → ∃ m, n = acc + m * 2 ^ (7 * i) ∧ acc < 2 ^ (7 * i) ∧ (i = 0 ∨ 1 ≤ m) ∧ rest bs p1 = byteBits (putU m) ++ tail ∧ b1 = bad) → X (wp gd) (acc : Int) (i : Int) w1 := by
    intro j
    induction j with
    | zero =>
      intro i acc p1 b1 ω1 w1 hi ha s r good
      refine hX _ _ _ _ ?_
      unfold C.chunk_reader_uvarint.S7 C.chunk_reader_uvarint.S2
      refine cond_d (fun h => by omega) (fun _ => hK acc p1 b1 ω1 w1 ha (fun n tail hn e => ?_) s r)
      obtain ⟨m, h1, _, h2, _⟩ := good n tail hn e
      have : i = 10 := by omega
      subst this
      have : 1 * 2 ^ (7 * 10) ≤ m * 2 ^ (7 * 10) := Nat.mul_le_mul_right _ (by omega)
      omega
    | succ j ih =>
      intro i acc p1 b1 ω1 w1 hi ha s r good
      refine hX _ _ _ _ ?_
      unfold C.chunk_reader_uvarint.S7
      refine cond_d (fun _ => ?_) (fun h => by omega)
      refine dbits_ok r (k := 8) (by decide) rfl fun v p2 b2 ω2 w2 hv hg s2 r2 => ?_
      have e7 : IntKind.u64.wrap (IntKind.i64.wrap ((7 : Int) * (i : Int))) = ((7 * i : Nat) : Int) := by rw [wI64 (by omega) (by omega), wU64_id (by omega) (by omega)]; omega
      rw [e7]
      refine ⟨by omega, ?_⟩
      rw [and127 v (by omega), shl64 _ _ (by omega)]
      have hy : v % 128 * 2 ^ (7 * i) % 18446744073709551616 < 18446744073709551616 := Nat.mod_lt _ (by decide)
      obtain ⟨eo, ho⟩ := or64 ha hy
      rw [eo]
      have hpow : 2 ^ (7 * (i + 1)) = 2 ^ (7 * i) * 128 := by rw [show 7 * (i + 1) = 7 * i + 7 by omega, Nat.pow_add]
      -- what was ahead
      have look : ∀ n tail, n < 18446744073709551616 → rest bs p = byteBits (putU n) ++ tail → ∃ m, n = acc + m * 2 ^ (7 * i) ∧ acc < 2 ^ (7 * i) ∧ ((m < 128 ∧ v = m ∧ rest bs p2 = tail ∧ b2 = bad) ∨ (128 ≤ m ∧ v = m % 128 + 128 ∧ rest bs p2 = byteBits (putU (m / 128)) ++ tail ∧ b2 = bad)) := by
        intro n tail hn e
        obtain ⟨m, h1, h2, _, h3, h4⟩ := good n tail hn e
        refine ⟨m, h1, h2, ?_⟩
        rcases Nat.lt_or_ge m 128 with hm | hm
        · rw [putU_lt hm, byteBits_one, ofNat_val (by omega)] at h3
          obtain ⟨q1, q2, q3⟩ := hg m tail (by omega) (by rw [h3]; simp [byteBits])
          exact .inl ⟨hm, q1, q2, q3.trans h4⟩
        · rw [putU_ge (by omega), byteBits_one, ofNat_val (by omega), List.append_assoc] at h3
          obtain ⟨q1, q2, q3⟩ := hg (m % 128 + 128) _ (by omega) h3
          exact .inr ⟨hm, q1, q2, q3.trans h4⟩
      refine cond_d (fun hlt => ?_) (fun hge => ?_)
      · unfold C.chunk_reader_uvarint.S2
        refine hK _ p2 b2 ω2 w2 ho (fun n tail hn e => ?_) (s.trans s2) r2
        obtain ⟨m, h1, h2, hc⟩ := look n tail hn e
        rcases hc with ⟨hm, rfl, q2, q3⟩ | ⟨hm, q1, _⟩
        · refine ⟨?_, q2, q3⟩
          rw [Nat.mod_eq_of_lt hm, or_plus h2 (by omega), h1]
        · omega
      · rw [wI64 (by omega) (by omega), show (i : Int) + 1 = ((i + 1 : Nat) : Int) by omega]
        refine ih (i + 1) _ p2 b2 ω2 w2 (by omega) ho (s.trans s2) r2 fun n tail hn e => ?_
        obtain ⟨m, h1, h2, hc⟩ := look n tail hn e
        rcases hc with ⟨hm, rfl, _⟩ | ⟨hm, rfl, q2, q3⟩
        · omega
        · have em : (m % 128 + 128) % 128 = m % 128 := by omega
          have hsm : m % 128 * 2 ^ (7 * i) ≤ m * 2 ^ (7 * i) := Nat.mul_le_mul_right _ (Nat.mod_le _ _)
          have e3 : m * 2 ^ (7 * i) = m % 128 * 2 ^ (7 * i) + m / 128 * 2 ^ (7 * (i + 1)) := by
            rw [hpow]
            have : m = m % 128 + m / 128 * 128 := by omega
            conv => lhs; rw [this, Nat.add_mul, Nat.mul_assoc, Nat.mul_comm 128]
          refine ⟨m / 128, ?_, ?_, .inr (by omega), q2, q3⟩
          · rw [em, or_plus h2 (by omega)]; omega
          · rw [em, or_plus h2 (by omega), hpow]
            have : m % 128 * 2 ^ (7 * i) ≤ 127 * 2 ^ (7 * i) := Nat.mul_le_mul_right _ (by omega)
            omega
  exact key 10 0 0 p bad ω w (by omega) (by decide) (Stp.refl _ _ _) h fun n tail hn e => ⟨n, by simp, by decide, .inl rfl, e, rfl⟩
end Go.Proofs.YtpadehbcjkhegaaDoor.Chunk
