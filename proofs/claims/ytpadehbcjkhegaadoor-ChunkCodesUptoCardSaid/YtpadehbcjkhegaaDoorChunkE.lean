/- Layer 8: numbers, times and values are read. Own work. -/
import Derived.Test.YtpadehbcjkhegaaDoorChunkD
namespace Go.Proofs.YtpadehbcjkhegaaDoor.Chunk
open Go Vm Go.RowKit Num Mem Bits Vint
variable {ω ω' : Tg} {w w' w0 : World} {t gd p k : Nat} {bs : List UInt8} {A B : Int} {kn bad : Bool}

theorem and127 (v : Nat) (hv : v < 256) : Go.bits .and .u64 (v : Int) (127 : Int) = ((v % 128 : Nat) : Int) := by
  rw [show (127 : Int) = ((127 : Nat) : Int) from rfl, bits_and rfl (by simp only [IntKind.bits]; omega) (by decide)]
  congr 1
  exact Nat.and_two_pow_sub_one_eq_mod v 7
theorem shl64 (z e : Nat) (he : e ≤ 64) : shl .u64 (z : Int) (e : Int) = ((z * 2 ^ e % 18446744073709551616 : Nat) : Int) := by
  have h := shl_nat .u64 (z : Int) e (by simp only [IntKind.bits]; omega)
  rw [h, wU64]
  have : (z : Int) * 2 ^ e = ((z * 2 ^ e : Nat) : Int) := by simp
  rw [this]; omega
theorem or64 {a b : Nat} (ha : a < 18446744073709551616) (hb : b < 18446744073709551616) : Go.bits .or .u64 (a : Int) (b : Int) = ((a ||| b : Nat) : Int) ∧ (a ||| b) < 18446744073709551616 :=
  ⟨bits_or rfl (by simp only [IntKind.bits]; omega) (by simp only [IntKind.bits]; omega), Nat.or_lt_two_pow (n := 64) ha hb⟩
theorem or_plus {acc z e : Nat} (ha : acc < 2 ^ e) (hz : z * 2 ^ e < 18446744073709551616) : acc ||| (z * 2 ^ e % 18446744073709551616) = acc + z * 2 ^ e := by
  rw [Nat.mod_eq_of_lt hz]
  have := Nat.two_pow_add_eq_or_of_lt ha z
  rw [Nat.mul_comm, Nat.or_comm, ← this]; omega
theorem byteBits_one (c : UInt8) (l : List UInt8) : byteBits (c :: l) = low c.toNat 8 ++ byteBits l := rfl
theorem ofNat_val {n : Nat} (h : n < 256) : (UInt8.ofNat n).toNat = n := by simp [UInt8.toNat_ofNat']; omega

set_option maxRecDepth 20000 in
theorem uvar_ok (h : RdS ω w t gd bs p A B kn bad) {K : Int → World → Prop}
    (hK : ∀ (v p' : Nat) bad' ω' w', v < 18446744073709551616 → (∀ n tail, n < 18446744073709551616 → rest bs p = byteBits (putU n) ++ tail → v = n ∧ rest bs p' = tail ∧ bad' = bad) → Stp (Rng t 3) ω ω' w w' → RdS ω' w' t gd bs p' A B kn bad' → K (v : Int) w') : C.chunk_reader_uvarint (wp gd) w K := by
  unfold C.chunk_reader_uvarint C.chunk_reader_uvarint.S9
  refine C.chunk_reader_uvarint.L5_ind fun X hX => ?_
  have key : ∀ (j i acc p1 : Nat) (b1 : Bool) (ω1 : Tg) (w1 : World), i + j = 10 → acc < 18446744073709551616 → Stp (Rng t 3) ω ω1 w w1 → RdS ω1 w1 t gd bs p1 A B kn b1 →
      (∀ n tail, n < 18446744073709551616 → rest bs p = byteBits (putU n) ++ tail → ∃ m, n = acc + m * 2 ^ (7 * i) ∧ acc < 2 ^ (7 * i) ∧ (i = 0 ∨ 1 ≤ m) ∧ rest bs p1 = byteBits (putU m) ++ tail ∧ b1 = bad) → X (wp gd) (acc : Int) (i : Int) w1 := by
    intro j
    induction j with
    | zero =>
      intro i acc p1 b1 ω1 w1 hi ha s r good
      refine hX _ _ _ _ ?_
      unfold C.chunk_reader_uvarint.S7 C.chunk_reader_uvarint.S2
      refine cond_d (fun h => by omega) (fun _ => hK acc p1 b1 ω1 w1 ha (fun n tail hn e => ?_) s r)
      obtain ⟨m, h1, _, h2, _⟩ := good n tail hn e
      have : i = 10 := by omega
      subst this
      have : 1 * 2 ^ (7 * 10) ≤ m * 2 ^ (7 * 10) := Nat.mul_le_mul_right _ (by omega)
      omega
    | succ j ih =>
      intro i acc p1 b1 ω1 w1 hi ha s r good
      refine hX _ _ _ _ ?_
      unfold C.chunk_reader_uvarint.S7
      refine cond_d (fun _ => ?_) (fun h => by omega)
      refine dbits_ok r (k := 8) (by decide) rfl fun v p2 b2 ω2 w2 hv hg s2 r2 => ?_
      have e7 : IntKind.u64.wrap (IntKind.i64.wrap ((7 : Int) * (i : Int))) = ((7 * i : Nat) : Int) := by rw [wI64 (by omega) (by omega), wU64_id (by omega) (by omega)]; omega
      rw [e7]
      refine ⟨by omega, ?_⟩
      rw [and127 v (by omega), shl64 _ _ (by omega)]
      have hy : v % 128 * 2 ^ (7 * i) % 18446744073709551616 < 18446744073709551616 := Nat.mod_lt _ (by decide)
      obtain ⟨eo, ho⟩ := or64 ha hy
      rw [eo]
      have hpow : 2 ^ (7 * (i + 1)) = 2 ^ (7 * i) * 128 := by rw [show 7 * (i + 1) = 7 * i + 7 by omega, Nat.pow_add]
      -- what was ahead
      have look : ∀ n tail, n < 18446744073709551616 → rest bs p = byteBits (putU n) ++ tail → ∃ m, n = acc + m * 2 ^ (7 * i) ∧ acc < 2 ^ (7 * i) ∧ ((m < 128 ∧ v = m ∧ rest bs p2 = tail ∧ b2 = bad) ∨ (128 ≤ m ∧ v = m % 128 + 128 ∧ rest bs p2 = byteBits (putU (m / 128)) ++ tail ∧ b2 = bad)) := by
        intro n tail hn e
        obtain ⟨m, h1, h2, _, h3, h4⟩ := good n tail hn e
        refine ⟨m, h1, h2, ?_⟩
        rcases Nat.lt_or_ge m 128 with hm | hm
        · rw [putU_lt hm, byteBits_one, ofNat_val (by omega)] at h3
          obtain ⟨q1, q2, q3⟩ := hg m tail (by omega) (by rw [h3]; simp [byteBits])
          exact .inl ⟨hm, q1, q2, q3.trans h4⟩
        · rw [putU_ge (by omega), byteBits_one, ofNat_val (by omega), List.append_assoc] at h3
          obtain ⟨q1, q2, q3⟩ := hg (m % 128 + 128) _ (by omega) h3
          exact .inr ⟨hm, q1, q2, q3.trans h4⟩
      refine cond_d (fun hlt => ?_) (fun hge => ?_)
      · unfold C.chunk_reader_uvarint.S2
        refine hK _ p2 b2 ω2 w2 ho (fun n tail hn e => ?_) (s.trans s2) r2
        obtain ⟨m, h1, h2, hc⟩ := look n tail hn e
        rcases hc with ⟨hm, rfl, q2, q3⟩ | ⟨hm, q1, _⟩
        · refine ⟨?_, q2, q3⟩
          rw [Nat.mod_eq_of_lt hm, or_plus h2 (by omega), h1]
        · omega
      · rw [wI64 (by omega) (by omega), show (i : Int) + 1 = ((i + 1 : Nat) : Int) by omega]
        refine ih (i + 1) _ p2 b2 ω2 w2 (by omega) ho (s.trans s2) r2 fun n tail hn e => ?_
        obtain ⟨m, h1, h2, hc⟩ := look n tail hn e
        rcases hc with ⟨hm, rfl, _⟩ | ⟨hm, rfl, q2, q3⟩
        · omega
        · have em : (m % 128 + 128) % 128 = m % 128 := by omega
          have hsm : m % 128 * 2 ^ (7 * i) ≤ m * 2 ^ (7 * i) := Nat.mul_le_mul_right _ (Nat.mod_le _ _)
          have e3 : m * 2 ^ (7 * i) = m % 128 * 2 ^ (7 * i) + m / 128 * 2 ^ (7 * (i + 1)) := by
            rw [hpow]
            have : m = m % 128 + m / 128 * 128 := by omega
            conv => lhs; rw [this, Nat.add_mul, Nat.mul_assoc, Nat.mul_comm 128]
          refine ⟨m / 128, ?_, ?_, .inr (by omega), q2, q3⟩
          · rw [em, or_plus h2 (by omega)]; omega
          · rw [em, or_plus h2 (by omega), hpow]
            have : m % 128 * 2 ^ (7 * i) ≤ 127 * 2 ^ (7 * i) := Nat.mul_le_mul_right _ (by omega)
            omega
  exact key 10 0 0 p bad ω w (by omega) (by decide) (Stp.refl _ _ _) h fun n tail hn e => ⟨n, by simp, by decide, .inl rfl, e, rfl⟩
end Go.Proofs.YtpadehbcjkhegaaDoor.Chunk

namespace Go.Proofs.YtpadehbcjkhegaaDoor.Chunk
open Go Vm Go.RowKit Num Mem Bits Vint
variable {ω ω' : Tg} {w w' w0 : World} {t gd p k : Nat} {bs : List UInt8} {A B : Int} {kn bad : Bool}

theorem vform_cases (wn : Win) (x : Nat) : (x = 0 ∧ vform wn x = (low 0 1, wn)) ∨ (x ≠ 0 ∧ ∃ a b, wn = some (a, b) ∧ a ≤ lead x ∧ b ≤ trail x ∧ vform wn x = (low 1 1 ++ low 0 1 ++ low (x / 2 ^ b) (64 - a - b), wn)) ∨
    (x ≠ 0 ∧ vform wn x = (low 1 1 ++ low 1 1 ++ low (lead x) 5 ++ low ((64 - lead x - trail x) % 64) 6 ++ low (x / 2 ^ trail x) (64 - lead x - trail x), some (lead x, trail x))) := by
  unfold vform
  split
  · rename_i h; exact .inl ⟨h, rfl⟩
  · rename_i h
    split
    · rename_i hh
      cases wn with
      | none => cases hh
      | some ab =>
        obtain ⟨a, b⟩ := ab
        simp only [holdsW, Bool.and_eq_true, decide_eq_true_eq] at hh
        exact .inr (.inl ⟨h, a, b, rfl, hh.1, hh.2, rfl⟩)
    · exact .inr (.inr ⟨h, rfl⟩)
/-- A window as the reader has it. -/
def okW (kn : Bool) (A B : Int) : Prop := kn = true → 0 ≤ A ∧ A ≤ 31 ∧ 1 ≤ 64 - A - B ∧ 64 - A - B ≤ 64
def repr (wn : Win) (kn : Bool) (A B : Int) : Prop := match wn with | none => kn = false | some (a, b) => kn = true ∧ A = (a : Int) ∧ B = (b : Int)

theorem RdS.setBad (h : RdS ω w t gd bs p A B kn bad) {K : World → Prop} (hK : ∀ ω' w', Stp (Rng t 3) ω ω' w w' → RdS ω' w' t gd bs p A B kn true → K w') : G.st (Addr.add ⟨gd, 0, none⟩ 4) (.bool true) w K := by
  obtain ⟨gr, b, r⟩ := h.ex
  exact st_TA b (by simp) fun ω2 w2 s2 b2 => hK ω2 w2 (s2.rng (by omega) (by omega)) ⟨gr, b2, r.stp s2 (beq_no (by omega)) (beq_no (by omega))⟩

theorem same_cell {g j : Nat} {v : Value} {w w' : World} (h : w.cell? ⟨g, j, none⟩ = some v) (h' : w'.cell? ⟨g, j, none⟩ = some v) : sameAt ⟨g, j, none⟩ 1 w w' := by
  refine ⟨by rw [h, h'], fun i hi => ?_⟩
  have : i = 0 := by omega
  subst this
  rw [addr_add, Nat.add_zero, h, h']
theorem valS2_ok (h : RdS ω w t gd bs p A B kn bad) (hW : okW kn A B) {K : Int → World → Prop}
    (hK : ∀ (v p' : Nat) bad' ω' w', v < 18446744073709551616 → (∀ a b x tail, kn = true → A = ((a : Nat) : Int) → B = ((b : Nat) : Int) → a ≤ 31 → a + b ≤ 63 → x < 18446744073709551616 → x ≠ 0 → a ≤ lead x → b ≤ trail x → rest bs p = low (x / 2 ^ b) (64 - a - b) ++ tail → v = x ∧ rest bs p' = tail ∧ bad' = bad) →
      Stp (Rng t 3) ω ω' w w' → RdS ω' w' t gd bs p' A B kn bad' → K (v : Int) w') : C.chunk_reader_value.S2 K (wp gd) w := by
  unfold C.chunk_reader_value.S2
  obtain ⟨gr, b, r⟩ := h.ex
  refine ptr_at (cB_at (b := kn) (by rw [addr_add, b.cell]; rfl) ?_)
  refine cond_of (fun hk => ?_) (fun hk => ?_)
  · have hk' : kn = false := by cases kn; rfl; cases hk
    refine ptr_at (h.setBad fun ω2 w2 s2 h2 => ?_)
    exact hK 0 p true ω2 w2 (by decide) (fun a b x tail e => by rw [hk'] at e; cases e) s2 h2
  have hk' : kn = true := by cases kn; cases hk; rfl
  obtain ⟨hA0, hA1, hn1, hn2⟩ := hW hk'
  refine ptr_at (cI_at (n := B) (by rw [addr_add, addr_add, b.cell]; rfl) ?_)
  refine cond_d (fun hB => ?_) (fun hB => ?_)
  · refine ptr_at (h.setBad fun ω2 w2 s2 h2 => ?_)
    exact hK 0 p true ω2 w2 (by decide) (fun a b x tail _ _ e => by omega) s2 h2
  have kd := drew_stp ω w
  have hd := h.non kd
  have b' := b.stp kd
  refine ptr_at (cI_at (n := A) (by rw [addr_add, b'.cell]; rfl) (ptr_at (cI_at (n := B) (by rw [addr_add, addr_add, b'.cell]; rfl) (ptr_at (cI_at (n := B) (by rw [addr_add, addr_add, b'.cell]; rfl) ?_)))))
  rw [wI64 (x := 64 - A) (by omega) (by omega), wI64 (by omega) (by omega)]
  refine dbits_ok hd (k := (64 - A - B).toNat) (by omega) (by omega) fun v p2 b2 ω2 w2 hv hg s2 r2 => ⟨?_, by rw [wU64]; omega, ?_⟩
  · rw [addr_add, addr_add]
    obtain ⟨gr2, bb, rr⟩ := r2.ex
    exact same_cell (v := .int .i64 B) (by rw [b'.cell]; rfl) (by rw [bb.cell]; rfl)
  rw [wU64_id (by omega) (by omega), show B = ((B.toNat : Nat) : Int) by omega, shl64 _ _ (by omega)]
  refine hK _ p2 b2 ω2 w2 (Nat.mod_lt _ (by decide)) (fun a c x tail _ ea eb ha hab hx hx0 hla htb e => ?_) ((kd.non _).trans s2) r2
  have en : (64 - A - B).toNat = 64 - a - c := by omega
  rw [en] at hg hv
  obtain ⟨q1, q2, q3⟩ := hg _ tail (mid_lt hx hla (by omega)) e
  refine ⟨?_, q2, q3⟩
  rw [q1, show B.toNat = c by omega, mul_div_trail hx hx0 htb, Nat.mod_eq_of_lt hx]

theorem value_rd (h : RdS ω w t gd bs p A B kn bad) (hW : okW kn A B) {K : Int → World → Prop}
    (hK : ∀ (v p' : Nat) bad' A' B' kn' ω' w', v < 18446744073709551616 → okW kn' A' B' → (∀ wn x tail, WinOk wn → repr wn kn A B → x < 18446744073709551616 → rest bs p = (vform wn x).1 ++ tail → v = x ∧ rest bs p' = tail ∧ bad' = bad ∧ repr (vform wn x).2 kn' A' B') →
      Stp (Rng t 3) ω ω' w w' → RdS ω' w' t gd bs p' A' B' kn' bad' → K (v : Int) w') : C.chunk_reader_value (wp gd) w K := by
  unfold C.chunk_reader_value
  refine dbits_ok h (k := 1) (by decide) rfl fun v1 p1 b1 ω1 w1 hv1 hg1 s1 r1 => ?_
  -- the first bit
  have g0 : ∀ wn x tail, rest bs p = (vform wn x).1 ++ tail → (x = 0 ∧ vform wn x = (low 0 1, wn) ∧ v1 = 0 ∧ rest bs p1 = tail ∧ b1 = bad) ∨ (v1 = 1 ∧ b1 = bad ∧ x ≠ 0 ∧
      ((∃ a b, wn = some (a, b) ∧ a ≤ lead x ∧ b ≤ trail x ∧ vform wn x = (low 1 1 ++ low 0 1 ++ low (x / 2 ^ b) (64 - a - b), wn) ∧ rest bs p1 = low 0 1 ++ (low (x / 2 ^ b) (64 - a - b) ++ tail)) ∨
       ((vform wn x).2 = some (lead x, trail x) ∧ rest bs p1 = low 1 1 ++ (low (lead x) 5 ++ (low ((64 - lead x - trail x) % 64) 6 ++ (low (x / 2 ^ trail x) (64 - lead x - trail x) ++ tail)))))) := by
    intro wn x tail e
    rcases vform_cases wn x with ⟨h0, hf⟩ | ⟨h0, a, b, hw, ha, hb, hf⟩ | ⟨h0, hf⟩
    · rw [hf] at e
      obtain ⟨q1, q2, q3⟩ := hg1 0 tail (by decide) e
      exact .inl ⟨h0, hf, q1, q2, q3⟩
    · rw [hf] at e
      simp only [List.append_assoc] at e
      obtain ⟨q1, q2, q3⟩ := hg1 1 _ (by decide) e
      exact .inr ⟨q1, q3, h0, .inl ⟨a, b, hw, ha, hb, hf, q2⟩⟩
    · rw [hf] at e
      simp only [List.append_assoc] at e
      obtain ⟨q1, q2, q3⟩ := hg1 1 _ (by decide) e
      exact .inr ⟨q1, q3, h0, .inr ⟨by rw [hf], q2⟩⟩
  refine cond_eq (fun hz => ?_) (fun hz => ?_)
  · refine hK 0 p1 b1 A B kn ω1 w1 (by decide) hW (fun wn x tail _ hr _ e => ?_) s1 r1
    rcases g0 wn x tail e with ⟨h0, hf, _, q2, q3⟩ | ⟨q1, _⟩
    · exact ⟨h0.symm, q2, q3, by rw [hf]; exact hr⟩
    · omega
  have one : v1 = 1 := by omega
  refine dbits_ok r1 (k := 1) (by decide) rfl fun v2 p2 b2 ω2 w2 hv2 hg2 s2 r2 => ?_
  have s02 := s1.trans s2
  have fin : ∀ (A' B' : Int) (kn' : Bool) (p3 : Nat) (b3 : Bool) (ω3 : Tg) (w3 : World), Stp (Rng t 3) ω ω3 w w3 → RdS ω3 w3 t gd bs p3 A' B' kn' b3 → okW kn' A' B' →
      (∀ wn x tail, WinOk wn → repr wn kn A B → x < 18446744073709551616 → rest bs p = (vform wn x).1 ++ tail → ∃ a b, kn' = true ∧ A' = ((a : Nat) : Int) ∧ B' = ((b : Nat) : Int) ∧ a ≤ 31 ∧ a + b ≤ 63 ∧ x ≠ 0 ∧ a ≤ lead x ∧ b ≤ trail x ∧ (vform wn x).2 = some (a, b) ∧ rest bs p3 = low (x / 2 ^ b) (64 - a - b) ++ tail ∧ b3 = bad) → C.chunk_reader_value.S2 K (wp gd) w3 := by
    intro A' B' kn' p3 b3 ω3 w3 s3 r3 hW3 good
    refine valS2_ok r3 hW3 fun v p4 b4 ω4 w4 hv hg s4 r4 => hK v p4 b4 A' B' kn' ω4 w4 hv hW3 (fun wn x tail hwn hr hx e => ?_) (s3.trans s4) r4
    obtain ⟨a, b, c1, c2, c3, c4, c5, c6, c7, c8, c9, c10, c11⟩ := good wn x tail hwn hr hx e
    obtain ⟨q1, q2, q3⟩ := hg a b x tail c1 c2 c3 c4 c5 hx c6 c7 c8 c10
    exact ⟨q1, q2, q3.trans c11, by rw [c9]; exact ⟨c1, c2, c3⟩⟩
  refine cond_eq (fun h1 => ?_) (fun h1 => ?_)
  · refine dbits_ok r2 (k := 5) (by decide) rfl fun v5 p5 b5 ω5 w5 hv5 hg5 s5 r5 => ?_
    refine dbits_ok r5 (k := 6) (by decide) rfl fun v6 p6 b6 ω6 w6 hv6 hg6 s6 r6 => ?_
    have s06 := (s02.trans s5).trans s6
    -- what was ahead
    have g2 : ∀ wn x tail, rest bs p = (vform wn x).1 ++ tail → x ≠ 0 ∧ (vform wn x).2 = some (lead x, trail x) ∧ (lead x < 32 → v5 = lead x ∧ v6 = (64 - lead x - trail x) % 64 ∧ rest bs p6 = low (x / 2 ^ trail x) (64 - lead x - trail x) ++ tail ∧ b6 = bad) := by
      intro wn x tail e
      rcases g0 wn x tail e with ⟨_, _, q1, _⟩ | ⟨_, q3, h0, ⟨a, b, _, _, _, _, q2⟩ | ⟨hf, q2⟩⟩
      · omega
      · have := (hg2 0 _ (by decide) q2).1
        omega
      · refine ⟨h0, hf, fun hl => ?_⟩
        obtain ⟨_, u2, u3⟩ := hg2 1 _ (by decide) q2
        obtain ⟨y1, y2, y3⟩ := hg5 _ _ (by omega) u2
        obtain ⟨z1, z2, z3⟩ := hg6 _ _ (by omega) y2
        exact ⟨y1, z1, z2, ((z3.trans y3).trans u3).trans q3⟩
    rw [wI64 (x := (v6 : Int)) (by omega) (by omega), wI64 (x := (v5 : Int)) (by omega) (by omega), wI64 (x := 64 - (v5 : Int)) (by omega) (by omega)]
    have put : ∀ (B' : Int), -9223372036854775808 ≤ B' ∧ B' < 9223372036854775808 → okW true (v5 : Int) B' → (∀ wn x tail, x < 18446744073709551616 → rest bs p = (vform wn x).1 ++ tail → B' = ((trail x : Nat) : Int)) →
        G.ptr (wp gd) fun p31 => G.st (p31.add 1) (.int .i64 (v5 : Int)) w6 fun w32 => G.st ((p31.add 1).add 1) (.int .i64 (IntKind.i64.wrap B')) w32 fun w33 => G.ptr (wp gd) fun p34 => G.st (p34.add 3) (.bool true) w33 fun w35 => C.chunk_reader_value.S2 K (wp gd) w35 := by
      intro B' hB' hok hB
      rw [wI64 hB'.1 hB'.2]
      obtain ⟨gr, bb, rr⟩ := r6.ex
      refine ptr_at (st_TA bb (by simp) fun ω7 w7 s7 b7 => ?_)
      rw [addr_add, addr_add]
      refine st_T b7 (by simp) fun ω8 w8 s8 b8 => ?_
      refine ptr_at (st_TA b8 (by simp) fun ω9 w9 s9 b9 => ?_)
      have s69 := (s7.trans s8).trans s9
      refine fin (v5 : Int) B' true p6 b6 ω9 w9 (s06.trans (s69.rng (by omega) (by omega))) ⟨gr, b9, rr.stp s69 (beq_no (by omega)) (beq_no (by omega))⟩ hok fun wn x tail hwn hr hx e => ?_
      obtain ⟨h0, hf, hh⟩ := g2 wn x tail e
      have hl := lead_le x
      have hlt := lead_trail hx h0
      obtain ⟨q1, q2, q3, q4⟩ := hh (by omega)
      exact ⟨lead x, trail x, rfl, by rw [q1], hB wn x tail hx e, hl, hlt, h0, Nat.le_refl _, Nat.le_refl _, hf, q3, q4⟩
    have tr : ∀ wn x tail, x < 18446744073709551616 → rest bs p = (vform wn x).1 ++ tail → v5 = lead x ∧ v6 = (64 - lead x - trail x) % 64 ∧ lead x + trail x ≤ 63 := by
      intro wn x tail hx e
      obtain ⟨h0, hf, hh⟩ := g2 wn x tail e
      have hl := lead_le x
      obtain ⟨q1, q2, _⟩ := hh (by omega)
      exact ⟨q1, q2, lead_trail hx h0⟩
    refine cond_eq (fun h6 => put _ (by omega) (fun _ => by omega) fun wn x tail hx e => ?_) (fun h6 => put _ (by omega) (fun _ => by omega) fun wn x tail hx e => ?_)
    · obtain ⟨q1, q2, q3⟩ := tr wn x tail hx e
      omega
    · obtain ⟨q1, q2, q3⟩ := tr wn x tail hx e
      omega
  · refine fin A B kn p2 b2 ω2 w2 s02 r2 hW fun wn x tail hwn hr hx e => ?_
    rcases g0 wn x tail e with ⟨_, _, q1, _⟩ | ⟨_, q3, h0, ⟨a, b, hw, ha, hb, hf, q2⟩ | ⟨hf, q2⟩⟩
    · omega
    · obtain ⟨_, u2, u3⟩ := hg2 0 _ (by decide) q2
      rw [hw] at hr
      obtain ⟨c1, c2, c3⟩ := hr
      obtain ⟨c4, c5⟩ := hwn a b hw
      exact ⟨a, b, c1, c2, c3, c4, c5, h0, ha, hb, by rw [hf]; exact hw, u2, u3.trans q3⟩
    · have := (hg2 1 _ (by decide) q2).1
      omega
end Go.Proofs.YtpadehbcjkhegaaDoor.Chunk

namespace Go.Proofs.YtpadehbcjkhegaaDoor.Chunk
open Go Vm Go.RowKit Num Mem Bits Vint
variable {ω ω' : Tg} {w w' w0 : World} {t gd p k : Nat} {bs : List UInt8} {A B : Int} {kn bad : Bool}

/-- Which form a time has, and what stands behind its bits 1. -/
def tcls (d : Int) : Nat := if d = 0 then 0 else if fitsB d 14 then 1 else if fitsB d 17 then 2 else if fitsB d 20 then 3 else 4
def tw (c : Nat) : Nat := [0, 14, 17, 20, 64].getD c 0
def tbody (d : Int) : List Bool := low (lowN d (tw (tcls d))) (tw (tcls d))
theorem tcls_le (d : Int) : tcls d ≤ 4 := by unfold tcls; repeat' split <;> try omega
theorem tform_cls (d : Int) : tform d = List.replicate (tcls d) true ++ ((if tcls d < 4 then [false] else []) ++ tbody d) := by
  unfold tform tbody tcls
  split
  · rfl
  · split
    · rfl
    · split
      · rfl
      · split
        · rfl
        · rfl
theorem tcls_fits {d : Int} (h0 : tcls d ≠ 0) (h4 : tcls d < 4) : fitsB d (tw (tcls d)) = true := by
  unfold tcls at *
  split at h0
  · exact absurd rfl h0
  · split
    · rename_i h; exact absurd h (by assumption)
    · split
      · assumption
      · split
        · assumption
        · split
          · assumption
          · rename_i h1 h2 h3 h4'
            simp only [h1, h2, h3, h4', if_false, if_neg] at h4
            simp at h4
theorem says {d : Int} {k : Nat} (hk : 0 < k) (hk' : k ≤ 56) (hf : fitsB d k = true) : (lowN d k ≤ 2 ^ (k - 1) ∧ d = (lowN d k : Int)) ∨ (2 ^ (k - 1) < lowN d k ∧ d = (lowN d k : Int) - 2 ^ k) := by
  have hp : 2 ^ (k - 1) ≤ 2 ^ 55 := Nat.pow_le_pow_right (by decide) (by omega)
  have e2 : 2 ^ k = 2 ^ (k - 1) * 2 := by rw [← Nat.pow_succ]; congr 1; omega
  have e4 : (2 : Int) ^ (k - 1) = ((2 ^ (k - 1) : Nat) : Int) := by simp
  have e5 : (2 : Int) ^ k = ((2 ^ k : Nat) : Int) := by simp
  simp only [fitsB, Bool.and_eq_true, decide_eq_true_eq] at hf
  rw [e4] at hf
  rw [e5]
  unfold lowN
  rw [if_pos (by omega)]
  have hmod : 18446744073709551616 % 2 ^ k = 0 := by
    have : (18446744073709551616 : Nat) = 2 ^ k * 2 ^ (64 - k) := by rw [← Nat.pow_add, show k + (64 - k) = 64 by omega]
    rw [this, Nat.mul_mod_right]
  by_cases hd : 0 ≤ d
  · left
    have : uN d = d.toNat := by unfold uN; omega
    rw [this, Nat.mod_eq_of_lt (by omega)]
    omega
  · right
    have hu : uN d = 18446744073709551616 - (-d).toNat := by unfold uN; omega
    obtain ⟨q, hq⟩ : ∃ q, 18446744073709551616 = 2 ^ k * q := ⟨2 ^ (64 - k), by rw [← Nat.pow_add, show k + (64 - k) = 64 by omega]⟩
    have hq1 : 1 ≤ q := by
      rcases Nat.eq_zero_or_pos q with h | h
      · rw [h] at hq; simp at hq
      · exact h
    have hv : uN d = 2 ^ k * (q - 1) + (2 ^ k - (-d).toNat) := by
      rw [hu, hq, Nat.mul_sub, Nat.mul_one]
      have : 2 ^ k * 1 ≤ 2 ^ k * q := Nat.mul_le_mul_left _ hq1
      omega
    rw [hv, Nat.mul_add_mod, Nat.mod_eq_of_lt (by omega)]
    omega

set_option maxRecDepth 20000 in
theorem timeS2_ok (h : RdS ω w t gd bs p A B kn bad) {k : Nat} (hk : 0 < k) (hk' : k ≤ 56) {x : Int} (hx : x = (k : Int)) {K : Int → World → Prop}
    (hK : ∀ (v : Int) (p' : Nat) bad' ω' w', (∀ d tail, fitsB d k = true → rest bs p = low (lowN d k) k ++ tail → v = d ∧ rest bs p' = tail ∧ bad' = bad) → Stp (Rng t 3) ω ω' w w' → RdS ω' w' t gd bs p' A B kn bad' → K v w') : C.chunk_reader_time.S2 K (wp gd) x w := by
  unfold C.chunk_reader_time.S2
  refine dbits_ok h (k := k) (by omega) hx fun v p2 b2 ω2 w2 hv hg s2 r2 => ?_
  subst hx
  have hp : 2 ^ (k - 1) ≤ 2 ^ 55 := Nat.pow_le_pow_right (by decide) (by omega)
  have e2 : 2 ^ k = 2 ^ (k - 1) * 2 := by rw [← Nat.pow_succ]; congr 1; omega
  have e1 : IntKind.u64.wrap (IntKind.i64.wrap ((k : Int) - (1 : Int))) = ((k - 1 : Nat) : Int) := by
    rw [wI64 (by omega) (by omega), wU64_id (by omega) (by omega)]; omega
  have es : shl .u64 (1 : Int) ((k - 1 : Nat) : Int) = ((2 ^ (k - 1) : Nat) : Int) := by
    have := shl64 1 (k - 1) (by omega)
    rw [Nat.one_mul, Nat.mod_eq_of_lt (by omega)] at this
    exact this
  have es2 : shl .i64 (1 : Int) ((k : Nat) : Int) = ((2 ^ k : Nat) : Int) := by
    have := shl_nat .i64 (1 : Int) k (by simp only [IntKind.bits]; omega)
    rw [this, show (1 : Int) * 2 ^ k = ((2 ^ k : Nat) : Int) by simp, wI64 (by omega) (by omega)]
  rw [e1, es]
  refine ⟨by omega, ?_⟩
  have vv : IntKind.i64.wrap (v : Int) = (v : Int) := wI64 (by omega) (by omega)
  refine cond_d (fun h1 => ⟨by rw [wU64]; omega, ?_⟩) (fun h1 => ?_)
  · rw [wU64_id (by omega) (by omega), es2, vv, wI64 (by omega) (by omega)]
    refine hK _ p2 b2 ω2 w2 (fun d tail hf e => ?_) s2 r2
    obtain ⟨q1, q2, q3⟩ := hg _ tail (lowN_lt2 d (by omega)) e
    have e5 : (2 : Int) ^ k = ((2 ^ k : Nat) : Int) := by simp
    rcases says hk hk' hf with ⟨u1, u2⟩ | ⟨u1, u2⟩
    · omega
    · exact ⟨by rw [u2, e5, q1], q2, q3⟩
  · rw [vv]
    refine hK _ p2 b2 ω2 w2 (fun d tail hf e => ?_) s2 r2
    obtain ⟨q1, q2, q3⟩ := hg _ tail (lowN_lt2 d (by omega)) e
    rcases says hk hk' hf with ⟨u1, u2⟩ | ⟨u1, u2⟩
    · exact ⟨by rw [q1, ← u2], q2, q3⟩
    · omega

theorem time_rd (h : RdS ω w t gd bs p A B kn bad) {K : Int → World → Prop}
    (hK : ∀ (v : Int) (p' : Nat) bad' ω' w', (∀ d tail, -9223372036854775808 ≤ d → d < 9223372036854775808 → rest bs p = tform d ++ tail → v = d ∧ rest bs p' = tail ∧ bad' = bad) → Stp (Rng t 3) ω ω' w w' → RdS ω' w' t gd bs p' A B kn bad' → K v w') : C.chunk_reader_time (wp gd) w K := by
  unfold C.chunk_reader_time
  refine C.chunk_reader_time.L6_ind fun X hX => ?_
  have s3 : ∀ (i p1 : Nat) (b1 : Bool) (ω1 : Tg) (w1 : World), i ≤ 4 → Stp (Rng t 3) ω ω1 w w1 → RdS ω1 w1 t gd bs p1 A B kn b1 →
      (∀ d tail, rest bs p = tform d ++ tail → tcls d = i ∧ rest bs p1 = tbody d ++ tail ∧ b1 = bad) → C.chunk_reader_time.S3 K (wp gd) (i : Int) w1 := by
    intro i p1 b1 ω1 w1 hi s r good
    unfold C.chunk_reader_time.S3
    have two : ∀ k, 0 < k → k ≤ 56 → i ≠ 0 → i < 4 → k = tw i → C.chunk_reader_time.S2 K (wp gd) (k : Int) w1 := fun k h0 h1 hi0 hi4 hk =>
      timeS2_ok r h0 h1 rfl fun v p2 b2 ω2 w2 hg s2 r2 => hK v p2 b2 ω2 w2 (fun d tail _ _ e => by
        obtain ⟨u1, u2, u3⟩ := good d tail e
        have hf := tcls_fits (d := d) (by omega) (by omega)
        rw [u1, ← hk] at hf
        unfold tbody at u2
        rw [u1, ← hk] at u2
        obtain ⟨q1, q2, q3⟩ := hg d tail hf u2
        exact ⟨q1, q2, q3.trans u3⟩) (s.trans s2) r2
    refine cond_eq (fun h0 => ?_) (fun h0 => cond_eq (fun h1 => two 14 (by decide) (by decide) (by omega) (by omega) (by rw [show i = 1 by omega]; rfl)) (fun h1 => cond_eq (fun h2 => two 17 (by decide) (by decide) (by omega) (by omega) (by rw [show i = 2 by omega]; rfl)) (fun h2 => cond_eq (fun h3 => two 20 (by decide) (by decide) (by omega) (by omega) (by rw [show i = 3 by omega]; rfl)) (fun h3 => cond_eq (fun h4 => ?_) (fun h4 => by omega)))))
    · refine hK 0 p1 b1 ω1 w1 (fun d tail _ _ e => ?_) s r
      obtain ⟨u1, u2, u3⟩ := good d tail e
      have hd : d = 0 := by
        rcases Int.decEq d 0 with h | h
        · unfold tcls at u1
          rw [if_neg h] at u1
          split at u1
          · omega
          · split at u1
            · omega
            · split at u1 <;> omega
        · exact h
      subst hd
      exact ⟨rfl, u2, u3⟩
    · refine dbits_ok r (k := 64) (by decide) rfl fun v p2 b2 ω2 w2 hv hg s2 r2 => hK _ p2 b2 ω2 w2 (fun d tail hd1 hd2 e => ?_) (s.trans s2) r2
      obtain ⟨u1, u2, u3⟩ := good d tail e
      unfold tbody at u2
      rw [u1, show i = 4 by omega] at u2
      obtain ⟨q1, q2, q3⟩ := hg (lowN d 64) tail (lowN_lt2 d (by decide)) u2
      refine ⟨?_, q2, q3.trans u3⟩
      rw [q1]
      have : lowN d 64 = uN d := by unfold lowN; rw [if_neg (by decide)]
      rw [this, wI64']
      unfold uN
      split <;> omega
  have key : ∀ (j i p1 : Nat) (b1 : Bool) (ω1 : Tg) (w1 : World), i + j = 4 → Stp (Rng t 3) ω ω1 w w1 → RdS ω1 w1 t gd bs p1 A B kn b1 →
      (∀ d tail, rest bs p = tform d ++ tail → i ≤ tcls d ∧ rest bs p1 = List.replicate (tcls d - i) true ++ ((if tcls d < 4 then [false] else []) ++ (tbody d ++ tail)) ∧ b1 = bad) → X (wp gd) (i : Int) w1 := by
    intro j
    induction j with
    | zero =>
      intro i p1 b1 ω1 w1 hi s r good
      refine hX _ _ _ ?_
      unfold C.chunk_reader_time.S8
      refine cond_d (fun h => by omega) (fun _ => s3 i p1 b1 ω1 w1 (by omega) s r fun d tail e => ?_)
      obtain ⟨u1, u2, u3⟩ := good d tail e
      have := tcls_le d
      refine ⟨by omega, ?_, u3⟩
      rw [show tcls d - i = 0 by omega, if_neg (by omega)] at u2
      exact u2
    | succ j ih =>
      intro i p1 b1 ω1 w1 hi s r good
      refine hX _ _ _ ?_
      unfold C.chunk_reader_time.S8
      refine cond_d (fun _ => ?_) (fun h => by omega)
      refine dbits_ok r (k := 1) (by decide) rfl fun v p2 b2 ω2 w2 hv hg s2 r2 => ?_
      refine cond_eq (fun h1 => ?_) (fun h1 => ?_)
      · rw [wI64 (by omega) (by omega), show (i : Int) + 1 = ((i + 1 : Nat) : Int) by omega]
        refine ih (i + 1) p2 b2 ω2 w2 (by omega) (s.trans s2) r2 fun d tail e => ?_
        obtain ⟨u1, u2, u3⟩ := good d tail e
        rcases Nat.eq_or_lt_of_le u1 with h | h
        · rw [← h, Nat.sub_self, if_pos (by omega)] at u2
          have := (hg 0 _ (by decide) u2).1
          omega
        · rw [show tcls d - i = (tcls d - (i + 1)) + 1 by omega, List.replicate_succ, List.cons_append] at u2
          obtain ⟨q1, q2, q3⟩ := hg 1 _ (by decide) u2
          exact ⟨by omega, q2, q3.trans u3⟩
      · refine s3 i p2 b2 ω2 w2 (by omega) (s.trans s2) r2 fun d tail e => ?_
        obtain ⟨u1, u2, u3⟩ := good d tail e
        rcases Nat.eq_or_lt_of_le u1 with h | h
        · rw [← h, Nat.sub_self, if_pos (by omega)] at u2
          obtain ⟨q1, q2, q3⟩ := hg 0 _ (by decide) u2
          exact ⟨h.symm, q2, q3.trans u3⟩
        · rw [show tcls d - i = (tcls d - (i + 1)) + 1 by omega, List.replicate_succ, List.cons_append] at u2
          obtain ⟨q1, q2, q3⟩ := hg 1 _ (by decide) u2
          omega
  refine key 4 0 p bad ω w (by omega) (Stp.refl _ _ _) h fun d tail e => ⟨by omega, ?_, rfl⟩
  rw [e, tform_cls, Nat.sub_zero]
  simp only [List.append_assoc]
end Go.Proofs.YtpadehbcjkhegaaDoor.Chunk
