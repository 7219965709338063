/- Layer 8: values are read. Own work. -/
import Derived.Test.YtpadehbcjkhegaaDoorChunkE
namespace Go.Proofs.YtpadehbcjkhegaaDoor.Chunk
open Go Vm Go.RowKit Num Mem Bits Vint
variable {ω ω' : Tg} {w w' w0 : World} {t gd p k : Nat} {bs : List UInt8} {A B : Int} {kn bad : Bool}

theorem vform_cases (wn : Win) (x : Nat) : (x = 0 ∧ vform wn x = (low 0 1, wn)) ∨ (x ≠ 0 ∧ ∃ a b, wn = some (a, b) ∧ a ≤ lead x ∧ b ≤ trail x ∧ vform wn x = (low 1 1 ++ low 0 1 ++ low (x / 2 ^ b) (64 - a - b), wn)) ∨
    (x ≠ 0 ∧ vform wn x = (low 1 1 ++ low 1 1 ++ low (lead x) 5 ++ low ((64 - lead x - trail x) % 64) 6 ++ low (x / 2 ^ trail x) (64 - lead x - trail x), some (lead x, trail x))) := by
  unfold vform
  split
  · rename_i h; exact .inl ⟨h, rfl⟩
  · rename_i h
    split
    · rename_i hh
      cases wn with
      | none => cases hh
      | some ab =>
        obtain ⟨a, b⟩ := ab
        simp only [holdsW, Bool.and_eq_true, decide_eq_true_eq] at hh
        exact .inr (.inl ⟨h, a, b, rfl, hh.1, hh.2, rfl⟩)
    · exact .inr (.inr ⟨h, rfl⟩)
/-- A window as the reader has it. -/
def okW (kn : Bool) (A B : Int) : Prop := kn = true → 0 ≤ A ∧ A ≤ 31 ∧ 1 ≤ 64 - A - B ∧ 64 - A - B ≤ 64
def repr (wn : Win) (kn : Bool) (A B : Int) : Prop := match wn with | none => kn = false | some (a, b) => kn = true ∧ A = (a : Int) ∧ B = (b : Int)

theorem RdS.setBad (h : RdS ω w t gd bs p A B kn bad) {K : World → Prop} (hK : ∀ ω' w', Stp (Rng t 3) ω ω' w w' → RdS ω' w' t gd bs p A B kn true → K w') : G.st (Addr.add ⟨gd, 0, none⟩ 4) (.bool true) w K := by
  obtain ⟨gr, b, r⟩ := h.ex
  exact st_TA b (by simp) fun ω2 w2 s2 b2 => hK ω2 w2 (s2.rng (by omega) (by omega)) ⟨gr, b2, r.stp s2 (beq_no (by omega)) (beq_no (by omega))⟩

theorem same_cell {g j : Nat} {v : Value} {w w' : World} (h : w.cell? ⟨g, j, none⟩ = some v) (h' : w'.cell? ⟨g, j, none⟩ = some v) : sameAt ⟨g, j, none⟩ 1 w w' := by
  refine ⟨by rw [h, h'], fun i hi => ?_⟩
  have : i = 0 := by omega
  subst this
  rw [addr_add, Nat.add_zero, h, h']
theorem valS2_ok (h : RdS ω w t gd bs p A B kn bad) (hW : okW kn A B) {K : Int → World → Prop}
    (hK : ∀ (v p' : Nat) bad' ω' w', v < 18446744073709551616 → (∀ a b x tail, kn = true → A = ((a : Nat) : Int) → B = ((b : Nat) : Int) → a ≤ 31 → a + b ≤ 63 → x < 18446744073709551616 → x ≠ 0 → a ≤ lead x → b ≤ trail x → rest bs p = low (x / 2 ^ b) (64 - a - b) ++ tail → v = x ∧ rest bs p' = tail ∧ bad' = bad) →
      Stp (Rng t 3) ω ω' w w' → RdS ω' w' t gd bs p' A B kn bad' → K (v : Int) w') : C.chunk_reader_value.S2 K (wp gd) w := by
  unfold C.chunk_reader_value.S2
  obtain ⟨gr, b, r⟩ := h.ex
  refine ptr_at (cB_at (b := kn) (by rw [addr_add, b.cell]; rfl) ?_)
  refine cond_of (fun hk => ?_) (fun hk => ?_)
  · have hk' : kn = false := by cases kn; rfl; cases hk
    refine ptr_at (h.setBad fun ω2 w2 s2 h2 => ?_)
    exact hK 0 p true ω2 w2 (by decide) (fun a b x tail e => by rw [hk'] at e; cases e) s2 h2
  have hk' : kn = true := by cases kn; cases hk; rfl
  obtain ⟨hA0, hA1, hn1, hn2⟩ := hW hk'
  refine ptr_at (cI_at (n := B) (by rw [addr_add, addr_add, b.cell]; rfl) ?_)
  refine cond_d (fun hB => ?_) (fun hB => ?_)
  · refine ptr_at (h.setBad fun ω2 w2 s2 h2 => ?_)
    exact hK 0 p true ω2 w2 (by decide) (fun a b x tail _ _ e => by omega) s2 h2
  have kd := drew_stp ω w
  have hd := h.non kd
  have b' := b.stp kd
  refine ptr_at (cI_at (n := A) (by rw [addr_add, b'.cell]; rfl) (ptr_at (cI_at (n := B) (by rw [addr_add, addr_add, b'.cell]; rfl) (ptr_at (cI_at (n := B) (by rw [addr_add, addr_add, b'.cell]; rfl) ?_)))))
  rw [wI64 (x := 64 - A) (by omega) (by omega), wI64 (by omega) (by omega)]
  refine dbits_ok hd (k := (64 - A - B).toNat) (by omega) (by omega) fun v p2 b2 ω2 w2 hv hg s2 r2 => ⟨?_, by rw [wU64]; omega, ?_⟩
  · rw [addr_add, addr_add]
    obtain ⟨gr2, bb, rr⟩ := r2.ex
    exact same_cell (v := .int .i64 B) (by rw [b'.cell]; rfl) (by rw [bb.cell]; rfl)
  rw [wU64_id (by omega) (by omega), show B = ((B.toNat : Nat) : Int) by omega, shl64 _ _ (by omega)]
  refine hK _ p2 b2 ω2 w2 (Nat.mod_lt _ (by decide)) (fun a c x tail _ ea eb ha hab hx hx0 hla htb e => ?_) ((kd.non _).trans s2) r2
  have en : (64 - A - B).toNat = 64 - a - c := by omega
  rw [en] at hg hv
  obtain ⟨q1, q2, q3⟩ := hg _ tail (mid_lt hx hla (by omega)) e
  refine ⟨?_, q2, q3⟩
  rw [q1, show B.toNat = c by omega, mul_div_trail hx hx0 htb, Nat.mod_eq_of_lt hx]

theorem value_rd (h : RdS ω w t gd bs p A B kn bad) (hW : okW kn A B) {K : Int → World → Prop}
    (hK : ∀ (v p' : Nat) bad' A' B' kn' ω' w', v < 18446744073709551616 → okW kn' A' B' → (∀ wn x tail, WinOk wn → repr wn kn A B → x < 18446744073709551616 → rest bs p = (vform wn x).1 ++ tail → v = x ∧ rest bs p' = tail ∧ bad' = bad ∧ repr (vform wn x).2 kn' A' B') →
      Stp (Rng t 3) ω ω' w w' → RdS ω' w' t gd bs p' A' B' kn' bad' → K (v : Int) w') : C.chunk_reader_value (wp gd) w K := by
  unfold C.chunk_reader_value
  refine dbits_ok h (k := 1) (by decide) rfl fun v1 p1 b1 ω1 w1 hv1 hg1 s1 r1 => ?_
  -- the first bit
  have g0 : ∀ wn x tail, rest bs p = (vform wn x).1 ++ tail → (x = 0 ∧ vform wn x = (low 0 1, wn) ∧ v1 = 0 ∧ rest bs p1 = tail ∧ b1 = bad) ∨ (v1 = 1 ∧ b1 = bad ∧ x ≠ 0 ∧
      ((∃ a b, wn = some (a, b) ∧ a ≤ lead x ∧ b ≤ trail x ∧ vform wn x = (low 1 1 ++ low 0 1 ++ low (x / 2 ^ b) (64 - a - b), wn) ∧ rest bs p1 = low 0 1 ++ (low (x / 2 ^ b) (64 - a - b) ++ tail)) ∨
       ((vform wn x).2 = some (lead x, trail x) ∧ rest bs p1 = low 1 1 ++ (low (lead x) 5 ++ (low ((64 - lead x - trail x) % 64) 6 ++ (low (x / 2 ^ trail x) (64 - lead x - trail x) ++ tail)))))) := by
    intro wn x tail e
    rcases vform_cases wn x with ⟨h0, hf⟩ | ⟨h0, a, b, hw, ha, hb, hf⟩ | ⟨h0, hf⟩
    · rw [hf] at e
      obtain ⟨q1, q2, q3⟩ := hg1 0 tail (by decide) e
      exact .inl ⟨h0, hf, q1, q2, q3⟩
    · rw [hf] at e
      simp only [List.append_assoc] at e
      obtain ⟨q1, q2, q3⟩ := hg1 1 _ (by decide) e
      exact .inr ⟨q1, q3, h0, .inl ⟨a, b, hw, ha, hb, hf, q2⟩⟩
    · rw [hf] at e
      simp only [List.append_assoc] at e
      obtain ⟨q1, q2, q3⟩ := hg1 1 _ (by decide) e
      exact .inr ⟨q1, q3, h0, .inr ⟨by rw [hf], q2⟩⟩
  refine cond_eq (fun hz => ?_) (fun hz => ?_)
  · refine hK 0 p1 b1 A B kn ω1 w1 (by decide) hW (fun wn x tail _ hr _ e => ?_) s1 r1
    rcases g0 wn x tail e with ⟨h0, hf, _, q2, q3⟩ | ⟨q1, _⟩
    · exact ⟨h0.symm, q2, q3, by rw [hf]; exact hr⟩
    · omega
  have one : v1 = 1 := by omega
  refine dbits_ok r1 (k := 1) (by decide) rfl fun v2 p2 b2 ω2 w2 hv2 hg2 s2 r2 => ?_
  have s02 := s1.trans s2
  have fin : ∀ (A' B' : Int) (kn' : Bool) (p3 : Nat) (b3 : Bool) (ω3 : Tg) (w3 : World), Stp (Rng t 3) ω ω3 w w3 → RdS ω3 w3 t gd bs p3 A' B' kn' b3 → okW kn' A' B' →
      (∀ wn x tail, WinOk wn → repr wn kn A B → x < 18446744073709551616 → rest bs p = (vform wn x).1 ++ tail → ∃ a b, kn' = true ∧ A' = ((a : Nat) : Int) ∧ B' = ((b : Nat) : Int) ∧ a ≤ 31 ∧ a + b ≤ 63 ∧ x ≠ 0 ∧ a ≤ lead x ∧ b ≤ trail x ∧ (vform wn x).2 = some (a, b) ∧ rest bs p3 = low (x / 2 ^ b) (64 - a - b) ++ tail ∧ b3 = bad) → C.chunk_reader_value.S2 K (wp gd) w3 := by
    intro A' B' kn' p3 b3 ω3 w3 s3 r3 hW3 good
    refine valS2_ok r3 hW3 fun v p4 b4 ω4 w4 hv hg s4 r4 => hK v p4 b4 A' B' kn' ω4 w4 hv hW3 (fun wn x tail hwn hr hx e => ?_) (s3.trans s4) r4
    obtain ⟨a, b, c1, c2, c3, c4, c5, c6, c7, c8, c9, c10, c11⟩ := good wn x tail hwn hr hx e
    obtain ⟨q1, q2, q3⟩ := hg a b x tail c1 c2 c3 c4 c5 hx c6 c7 c8 c10
    exact ⟨q1, q2, q3.trans c11, by rw [c9]; exact ⟨c1, c2, c3⟩⟩
  refine cond_eq (fun h1 => ?_) (fun h1 => ?_)
  · refine dbits_ok r2 (k := 5) (by decide) rfl fun v5 p5 b5 ω5 w5 hv5 hg5 s5 r5 => ?_
    refine dbits_ok r5 (k := 6) (by decide) rfl fun v6 p6 b6 ω6 w6 hv6 hg6 s6 r6 => ?_
    have s06 := (s02.trans s5).trans s6
    -- what was ahead
    have g2 : ∀ wn x tail, rest bs p = (vform wn x).1 ++ tail → x ≠ 0 ∧ (vform wn x).2 = some (lead x, trail x) ∧ (lead x < 32 → v5 = lead x ∧ v6 = (64 - lead x - trail x) % 64 ∧ rest bs p6 = low (x / 2 ^ trail x) (64 - lead x - trail x) ++ tail ∧ b6 = bad) := by
      intro wn x tail e
      rcases g0 wn x tail e with ⟨_, _, q1, _⟩ | ⟨_, q3, h0, ⟨a, b, _, _, _, _, q2⟩ | ⟨hf, q2⟩⟩
      · omega
      · have := (hg2 0 _ (by decide) q2).1
        omega
      · refine ⟨h0, hf, fun hl => ?_⟩
        obtain ⟨_, u2, u3⟩ := hg2 1 _ (by decide) q2
        obtain ⟨y1, y2, y3⟩ := hg5 _ _ (by omega) u2
        obtain ⟨z1, z2, z3⟩ := hg6 _ _ (by omega) y2
        exact ⟨y1, z1, z2, ((z3.trans y3).trans u3).trans q3⟩
    rw [wI64 (x := (v6 : Int)) (by omega) (by omega), wI64 (x := (v5 : Int)) (by omega) (by omega), wI64 (x := 64 - (v5 : Int)) (by omega) (by omega)]
    have put : ∀ (B' : Int), -9223372036854775808 ≤ B' ∧ B' < 9223372036854775808 → okW true (v5 : Int) B' → (∀ wn x tail, x < 18446744073709551616 → rest bs p = (vform wn x).1 ++ tail → B' = ((trail x : Nat) : Int)) →
        G.ptr (wp gd) fun p31 => G.st (p31.add 1) (.int .i64 (v5 : Int)) w6 fun w32 => G.st ((p31.add 1).add 1) (.int .i64 (IntKind.i64.wrap B')) w32 fun w33 => G.ptr (wp gd) fun p34 => G.st (p34.add 3) (.bool true) w33 fun w35 => C.chunk_reader_value.S2 K (wp gd) w35 := by
      intro B' hB' hok hB
      rw [wI64 hB'.1 hB'.2]
      obtain ⟨gr, bb, rr⟩ := r6.ex
      refine ptr_at (st_TA bb (by simp) fun ω7 w7 s7 b7 => ?_)
      rw [addr_add, addr_add]
      refine st_T b7 (by simp) fun ω8 w8 s8 b8 => ?_
      refine ptr_at (st_TA b8 (by simp) fun ω9 w9 s9 b9 => ?_)
      have s69 := (s7.trans s8).trans s9
      refine fin (v5 : Int) B' true p6 b6 ω9 w9 (s06.trans (s69.rng (by omega) (by omega))) ⟨gr, b9, rr.stp s69 (beq_no (by omega)) (beq_no (by omega))⟩ hok fun wn x tail hwn hr hx e => ?_
      obtain ⟨h0, hf, hh⟩ := g2 wn x tail e
      have hl := lead_le x
      have hlt := lead_trail hx h0
      obtain ⟨q1, q2, q3, q4⟩ := hh (by omega)
      exact ⟨lead x, trail x, rfl, by rw [q1], hB wn x tail hx e, hl, hlt, h0, Nat.le_refl _, Nat.le_refl _, hf, q3, q4⟩
    have tr : ∀ wn x tail, x < 18446744073709551616 → rest bs p = (vform wn x).1 ++ tail → v5 = lead x ∧ v6 = (64 - lead x - trail x) % 64 ∧ lead x + trail x ≤ 63 := by
      intro wn x tail hx e
      obtain ⟨h0, hf, hh⟩ := g2 wn x tail e
      have hl := lead_le x
      obtain ⟨q1, q2, _⟩ := hh (by omega)
      exact ⟨q1, q2, lead_trail hx h0⟩
    refine cond_eq (fun h6 => put _ (by omega) (fun _ => by omega) fun wn x tail hx e => ?_) (fun h6 => put _ (by omega) (fun _ => by omega) fun wn x tail hx e => ?_)
    · obtain ⟨q1, q2, q3⟩ := tr wn x tail hx e
      omega
    · obtain ⟨q1, q2, q3⟩ := tr wn x tail hx e
      omega
  · refine fin A B kn p2 b2 ω2 w2 s02 r2 hW fun wn x tail hwn hr hx e => ?_
    rcases g0 wn x tail e with ⟨_, _, q1, _⟩ | ⟨_, q3, h0, ⟨a, b, hw, ha, hb, hf, q2⟩ | ⟨hf, q2⟩⟩
    · omega
    · obtain ⟨_, u2, u3⟩ := hg2 0 _ (by decide) q2
      rw [hw] at hr
      obtain ⟨c1, c2, c3⟩ := hr
      obtain ⟨c4, c5⟩ := hwn a b hw
      exact ⟨a, b, c1, c2, c3, c4, c5, h0, ha, hb, by rw [hf]; exact hw, u2, u3.trans q3⟩
    · have := (hg2 1 _ (by decide) q2).1
      omega
end Go.Proofs.YtpadehbcjkhegaaDoor.Chunk
