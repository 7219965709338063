/- Layer 8: times are read. Own work. -/
import Derived.Test.YtpadehbcjkhegaaDoorChunkE2
namespace Go.Proofs.YtpadehbcjkhegaaDoor.Chunk
open Go Vm Go.RowKit Num Mem Bits Vint
variable {ω ω' : Tg} {w w' w0 : World} {t gd p k : Nat} {bs : List UInt8} {A B : Int} {kn bad : Bool}

/-- Which form a time has, and what stands behind its bits 1. -/
def tcls (d : Int) : Nat := if d = 0 then 0 else if fitsB d 14 then 1 else if fitsB d 17 then 2 else if fitsB d 20 then 3 else 4
def tw (c : Nat) : Nat := [0, 14, 17, 20, 64].getD c 0
def tbody (d : Int) : List Bool := low (lowN d (tw (tcls d))) (tw (tcls d))
theorem tcls_le (d : Int) : tcls d ≤ 4 := by unfold tcls; repeat' split <;> try omega
theorem tform_cls (d : Int) : tform d = List.replicate (tcls d) true ++ ((if tcls d < 4 then [false] else []) ++ tbody d) := by
  unfold tform tbody tcls
  split
  · rfl
  · split
    · rfl
    · split
      · rfl
      · split
        · rfl
        · rfl
theorem tcls_fits {d : Int} (h0 : tcls d ≠ 0) (h4 : tcls d < 4) : fitsB d (tw (tcls d)) = true := by
  unfold tcls at *
  split at h0
  · exact absurd rfl h0
  · split
    · rename_i h; exact absurd h (by assumption)
    · split
      · assumption
      · split
        · assumption
        · split
          · assumption
          · rename_i h1 h2 h3 h4'
            simp only [h1, h2, h3, h4', if_false, if_neg] at h4
            simp at h4
theorem says {d : Int} {k : Nat} (hk : 0 < k) (hk' : k ≤ 56) (hf : fitsB d k = true) : (lowN d k ≤ 2 ^ (k - 1) ∧ d = (lowN d k : Int)) ∨ (2 ^ (k - 1) < lowN d k ∧ d = (lowN d k : Int) - 2 ^ k) := by
  have hp : 2 ^ (k - 1) ≤ 2 ^ 55 := Nat.pow_le_pow_right (by decide) (by omega)
  have e2 : 2 ^ k = 2 ^ (k - 1) * 2 := by rw [← Nat.pow_succ]; congr 1; omega
  have e4 : (2 : Int) ^ (k - 1) = ((2 ^ (k - 1) : Nat) : Int) := by simp
  have e5 : (2 : Int) ^ k = ((2 ^ k : Nat) : Int) := by simp
  simp only [fitsB, Bool.and_eq_true, decide_eq_true_eq] at hf
  rw [e4] at hf
  rw [e5]
  unfold lowN
  rw [if_pos (by omega)]
  have hmod : 18446744073709551616 % 2 ^ k = 0 := by
    have : (18446744073709551616 : Nat) = 2 ^ k * 2 ^ (64 - k) := by rw [← Nat.pow_add, show k + (64 - k) = 64 by omega]
    rw [this, Nat.mul_mod_right]
  by_cases hd : 0 ≤ d
  · left
    have : uN d = d.toNat := by unfold uN; omega
    rw [this, Nat.mod_eq_of_lt (by omega)]
    omega
  · right
    have hu : uN d = 18446744073709551616 - (-d).toNat := by unfold uN; omega
    obtain ⟨q, hq⟩ : ∃ q, 18446744073709551616 = 2 ^ k * q := ⟨2 ^ (64 - k), by rw [← Nat.pow_add, show k + (64 - k) = 64 by omega]⟩
    have hq1 : 1 ≤ q := by
      rcases Nat.eq_zero_or_pos q with h | h
      · rw [h] at hq; simp at hq
      · exact h
    have hv : uN d = 2 ^ k * (q - 1) + (2 ^ k - (-d).toNat) := by
      rw [hu, hq, Nat.mul_sub, Nat.mul_one]
      have : 2 ^ k * 1 ≤ 2 ^ k * q := Nat.mul_le_mul_left _ hq1
      omega
    rw [hv, Nat.mul_add_mod, Nat.mod_eq_of_lt (by omega)]
    omega

set_option maxRecDepth 20000 in
theorem timeS2_ok (h : RdS ω w t gd bs p A B kn bad) {k : Nat} (hk : 0 < k) (hk' : k ≤ 56) {x : Int} (hx : x = (k : Int)) {K : Int → World → Prop}
    (hK : ∀ (v : Int) (p' : Nat) bad' ω' w', (∀ d tail, fitsB d k = true → rest bs p = low (lowN d k) k ++ tail → v = d ∧ rest bs p' = tail ∧ bad' = bad) → Stp (Rng t 3) ω ω' w w' → RdS ω' w' t gd bs p' A B kn bad' → K v w') : C.chunk_reader_time.S2 K (wp gd) x w := by
  unfold C.chunk_reader_time.S2
  refine dbits_ok h (k := k) (by omega) hx fun v p2 b2 ω2 w2 hv hg s2 r2 => ?_
  subst hx
  have hp : 2 ^ (k - 1) ≤ 2 ^ 55 := Nat.pow_le_pow_right (by decide) (by omega)
  have e2 : 2 ^ k = 2 ^ (k - 1) * 2 := by rw [← Nat.pow_succ]; congr 1; omega
  have e1 : IntKind.u64.wrap (IntKind.i64.wrap ((k : Int) - (1 : Int))) = ((k - 1 : Nat) : Int) := by
    rw [wI64 (by omega) (by omega), wU64_id (by omega) (by omega)]; omega
  have es : shl .u64 (1 : Int) ((k - 1 : Nat) : Int) = ((2 ^ (k - 1) : Nat) : Int) := by
    have := shl64 1 (k - 1) (by omega)
    rw [Nat.one_mul, Nat.mod_eq_of_lt (by omega)] at this
    exact this
  have es2 : shl .i64 (1 : Int) ((k : Nat) : Int) = ((2 ^ k : Nat) : Int) := by
    have := shl_nat .i64 (1 : Int) k (by simp only [IntKind.bits]; omega)
    rw [this, show (1 : Int) * 2 ^ k = ((2 ^ k : Nat) : Int) by simp, wI64 (by omega) (by omega)]
  rw [e1, es]
  refine ⟨by omega, ?_⟩
  have vv : IntKind.i64.wrap (v : Int) = (v : Int) := wI64 (by omega) (by omega)
  refine cond_d (fun h1 => ⟨by rw [wU64]; omega, ?_⟩) (fun h1 => ?_)
  · rw [wU64_id (by omega) (by omega), es2, vv, wI64 (by omega) (by omega)]
    refine hK _ p2 b2 ω2 w2 (fun d tail hf e => ?_) s2 r2
    obtain ⟨q1, q2, q3⟩ := hg _ tail (lowN_lt2 d (by omega)) e
    have e5 : (2 : Int) ^ k = ((2 ^ k : Nat) : Int) := by simp
    rcases says hk hk' hf with ⟨u1, u2⟩ | ⟨u1, u2⟩
    · omega
    · exact ⟨by rw [u2, e5, q1], q2, q3⟩
  · rw [vv]
    refine hK _ p2 b2 ω2 w2 (fun d tail hf e => ?_) s2 r2
    obtain ⟨q1, q2, q3⟩ := hg _ tail (lowN_lt2 d (by omega)) e
    rcases says hk hk' hf with ⟨u1, u2⟩ | ⟨u1, u2⟩
    · exact ⟨by rw [q1, ← u2], q2, q3⟩
    · omega

theorem time_rd (h : RdS ω w t gd bs p A B kn bad) {K : Int → World → Prop}
    (hK : ∀ (v : Int) (p' : Nat) bad' ω' w', (∀ d tail, -9223372036854775808 ≤ d → d < 9223372036854775808 → rest bs p = tform d ++ tail → v = d ∧ rest bs p' = tail ∧ bad' = bad) → Stp (Rng t 3) ω ω' w w' → RdS ω' w' t gd bs p' A B kn bad' → K v w') : C.chunk_reader_time (wp gd) w K := by
  unfold C.chunk_reader_time
  refine C.chunk_reader_time.L6_ind fun X hX => ?_
  have s3 : ∀ (i p1 : Nat) (b1 : Bool) (ω1 : Tg) (w1 : World), i ≤ 4 → Stp (Rng t 3) ω ω1 w w1 → RdS ω1 w1 t gd bs p1 A B kn b1 →
      (∀ d tail, rest bs p = tform d ++ tail → tcls d = i ∧ rest bs p1 = tbody d ++ tail ∧ b1 = bad) → C.chunk_reader_time.S3 K (wp gd) (i : Int) w1 := by
    intro i p1 b1 ω1 w1 hi s r good
    unfold C.chunk_reader_time.S3
    have two : ∀ k, 0 < k → k ≤ 56 → i ≠ 0 → i < 4 → k = tw i → C.chunk_reader_time.S2 K (wp gd) (k : Int) w1 := fun k h0 h1 hi0 hi4 hk =>
      timeS2_ok r h0 h1 rfl fun v p2 b2 ω2 w2 hg s2 r2 => hK v p2 b2 ω2 w2 (fun d tail _ _ e => by
        obtain ⟨u1, u2, u3⟩ := good d tail e
        have hf := tcls_fits (d := d) (by omega) (by omega)
        rw [u1, ← hk] at hf
        unfold tbody at u2
        rw [u1, ← hk] at u2
        obtain ⟨q1, q2, q3⟩ := hg d tail hf u2
        exact ⟨q1, q2, q3.trans u3⟩) (s.trans s2) r2
    refine cond_eq (fun h0 => ?_) (fun h0 => cond_eq (fun h1 => two 14 (by decide) (by decide) (by omega) (by omega) (by rw [show i = 1 by omega]; rfl)) (fun h1 => cond_eq (fun h2 => two 17 (by decide) (by decide) (by omega) (by omega) (by rw [show i = 2 by omega]; rfl)) (fun h2 => cond_eq (fun h3 => two 20 (by decide) (by decide) (by omega) (by omega) (by rw [show i = 3 by omega]; rfl)) (fun h3 => cond_eq (fun h4 => ?_) (fun h4 => by omega)))))
    · refine hK 0 p1 b1 ω1 w1 (fun d tail _ _ e => ?_) s r
      obtain ⟨u1, u2, u3⟩ := good d tail e
      have hd : d = 0 := by
        rcases Int.decEq d 0 with h | h
        · unfold tcls at u1
          rw [if_neg h] at u1
          split at u1
          · omega
          · split at u1
            · omega
            · split at u1 <;> omega
        · exact h
      subst hd
      exact ⟨rfl, u2, u3⟩
    · refine dbits_ok r (k := 64) (by decide) rfl fun v p2 b2 ω2 w2 hv hg s2 r2 => hK _ p2 b2 ω2 w2 (fun d tail hd1 hd2 e => ?_) (s.trans s2) r2
      obtain ⟨u1, u2, u3⟩ := good d tail e
      unfold tbody at u2
      rw [u1, show i = 4 by omega] at u2
      obtain ⟨q1, q2, q3⟩ := hg (lowN d 64) tail (lowN_lt2 d (by decide)) u2
      refine ⟨?_, q2, q3.trans u3⟩
      rw [q1]
      have : lowN d 64 = uN d := by unfold lowN; rw [if_neg (by decide)]
      rw [this, wI64']
      unfold uN
      split <;> omega
  have key : ∀ (j i p1 : Nat) (b1 : Bool) (ω1 : Tg) (w1 : World), i + j = 4 → Stp (Rng t 3) ω ω1 w w1 → RdS ω1 w1 t gd bs p1 A B kn b1 →
      (∀ d tail, rest bs p = tform d ++ tail → i ≤ tcls d ∧ rest bs p1 = List.replicate (tcls d - i) true ++ ((if tcls d < 4 then [false] else []) ++ (tbody d ++ tail)) ∧ b1 = bad) → X (wp gd) (i : Int) w1 := by
    intro j
    induction j with
    | zero =>
      intro i p1 b1 ω1 w1 hi s r good
      refine hX _ _ _ ?_
      unfold C.chunk_reader_time.S8
      refine cond_d (fun h => by omega) (fun _ => s3 i p1 b1 ω1 w1 (by omega) s r fun d tail e => ?_)
      obtain ⟨u1, u2, u3⟩ := good d tail e
      have := tcls_le d
      refine ⟨by omega, ?_, u3⟩
      rw [show tcls d - i = 0 by omega, if_neg (by omega)] at u2
      exact u2
    | succ j ih =>
      intro i p1 b1 ω1 w1 hi s r good
      refine hX _ _ _ ?_
      unfold C.chunk_reader_time.S8
      refine cond_d (fun _ => ?_) (fun h => by omega)
      refine dbits_ok r (k := 1) (by decide) rfl fun v p2 b2 ω2 w2 hv hg s2 r2 => ?_
      refine cond_eq (fun h1 => ?_) (fun h1 => ?_)
      · rw [wI64 (by omega) (by omega), show (i : Int) + 1 = ((i + 1 : Nat) : Int) by omega]
        refine ih (i + 1) p2 b2 ω2 w2 (by omega) (s.trans s2) r2 fun d tail e => ?_
        obtain ⟨u1, u2, u3⟩ := good d tail e
        rcases Nat.eq_or_lt_of_le u1 with h | h
        · rw [← h, Nat.sub_self, if_pos (by omega)] at u2
          have := (hg 0 _ (by decide) u2).1
          omega
        · rw [show tcls d - i = (tcls d - (i + 1)) + 1 by omega, List.replicate_succ, List.cons_append] at u2
          obtain ⟨q1, q2, q3⟩ := hg 1 _ (by decide) u2
          exact ⟨by omega, q2, q3.trans u3⟩
      · refine s3 i p2 b2 ω2 w2 (by omega) (s.trans s2) r2 fun d tail e => ?_
        obtain ⟨u1, u2, u3⟩ := good d tail e
        rcases Nat.eq_or_lt_of_le u1 with h | h
        · rw [← h, Nat.sub_self, if_pos (by omega)] at u2
          obtain ⟨q1, q2, q3⟩ := hg 0 _ (by decide) u2
          exact ⟨h.symm, q2, q3.trans u3⟩
        · rw [show tcls d - i = (tcls d - (i + 1)) + 1 by omega, List.replicate_succ, List.cons_append] at u2
          obtain ⟨q1, q2, q3⟩ := hg 1 _ (by decide) u2
          omega
  refine key 4 0 p bad ω w (by omega) (Stp.refl _ _ _) h fun d tail e => ⟨by omega, ?_, rfl⟩
  rw [e, tform_cls, Nat.sub_zero]
  simp only [List.append_assoc]
end Go.Proofs.YtpadehbcjkhegaaDoor.Chunk
