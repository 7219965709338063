/- Layer 8: samples at even steps; ChunkFew. Own work. -/
import Derived.Test.YtpadehbcjkhegaaDoorChunkB
namespace Go.Proofs.YtpadehbcjkhegaaDoor.Chunk
open Go Vm Go.RowKit Num Mem Bits Vint
variable {ω ω' : Tg} {w w' w0 : World}

theorem Valid.inv {l : List Smp} {s : Smp} (h : Valid (l ++ [s])) : Valid l ∧ wrong l s.1 = 0 ∧ s.2 < 18446744073709551616 := by
  generalize hm : l ++ [s] = m at h
  cases h with
  | nil => simp at hm
  | snoc h1 h2 h3 =>
    obtain ⟨rfl, e⟩ := List.append_inj' hm rfl
    simp only [List.cons.injEq, and_true] at e
    subst e
    exact ⟨h1, h2, h3⟩
theorem Valid.pre {a : List Smp} : ∀ {b : List Smp}, Valid (a ++ b) → Valid a := by
  have key : ∀ (n : Nat) (b : List Smp), b.length = n → Valid (a ++ b) → Valid a := by
    intro n
    induction n with
    | zero => intro b hb h; rw [List.eq_nil_of_length_eq_zero hb, List.append_nil] at h; exact h
    | succ n ih =>
      intro b hb h
      rcases List.eq_nil_or_concat b with rfl | ⟨c, s, rfl⟩
      · simp at hb
      · rw [List.concat_eq_append, ← List.append_assoc] at h
        exact ih c (by simpa using hb) h.inv.1
  intro b h
  exact key _ b rfl h
theorem firstW_zero : ∀ (r pre : List Smp) (i : Nat), Valid (pre ++ r) → firstW pre r i = (0, 0)
  | [], pre, i, _ => rfl
  | s :: r, pre, i, h => by
    have h' : Valid ((pre ++ [s]) ++ r) := by simpa using h
    rw [firstW, if_pos h'.pre.inv.2.1]
    exact firstW_zero r (pre ++ [s]) (i + 1) h'

/-- Samples at even steps. -/
def evenS (t step : Int) (v : Nat) : Nat → List Smp
  | 0 => []
  | n + 1 => evenS t step v n ++ [(t + step * (n : Int), v)]
theorem evenS_len (t step : Int) (v : Nat) : ∀ n, (evenS t step v n).length = n
  | 0 => rfl
  | n + 1 => by rw [evenS, List.length_append, evenS_len t step v n]; rfl
theorem evenS_take {t step : Int} {v : Nat} : ∀ n k, k ≤ n → (evenS t step v n).take k = evenS t step v k
  | 0, k, h => by rw [show k = 0 by omega]; rfl
  | n + 1, k, h => by
    rcases Nat.lt_or_ge n k with hk | hk
    · rw [show k = n + 1 by omega, List.take_of_length_le (by rw [evenS_len]; exact Nat.le_refl _)]
    · rw [evenS, List.take_append_of_le_length (by rw [evenS_len]; exact hk), evenS_take n k hk]
theorem step_le {step : Int} (h0 : 1 ≤ step) (h1 : step ≤ 1073741824) (n : Nat) (hn : n ≤ 101) : 0 ≤ step * (n : Int) ∧ step * (n : Int) ≤ 108447924224 := by
  have a := Int.mul_le_mul_of_nonneg_right h1 (Int.natCast_nonneg n)
  have b := Int.mul_nonneg (by omega : 0 ≤ step) (Int.natCast_nonneg n)
  omega
theorem evenS_valid {t step : Int} {v : Nat} (ht : 0 ≤ t) (ht2 : t ≤ 562949953421312) (h0 : 1 ≤ step) (h1 : step ≤ 1073741824) (hv : v < 18446744073709551616) : ∀ n, n ≤ 102 → Valid (evenS t step v n)
  | 0, _ => .nil
  | n + 1, hn => by
    have ih := evenS_valid ht ht2 h0 h1 hv n (by omega)
    refine .snoc ih ?_ hv
    have hb := step_le h0 h1 n (by omega)
    unfold wrong
    rw [if_neg (by simp only; omega)]
    have hl : late (evenS t step v n) (t + step * (n : Int)) = false := by
      unfold late
      cases n with
      | zero => rfl
      | succ k =>
        rw [evenS, List.getLast?_concat]
        simp only [decide_eq_false_iff_not]
        have e : step * ((k + 1 : Nat) : Int) = step * (k : Int) + step := by rw [Int.natCast_succ, Int.mul_add, Int.mul_one]
        rw [e]; omega
    rw [hl, if_neg (by decide), evenS_len, if_neg (by omega)]
theorem evenS_bits (t step : Int) (v : Nat) : ∀ k, (run (evenS t step v (k + 2))).1.length = (run (evenS t step v 2)).1.length + 2 * k
  | 0 => rfl
  | k + 1 => by
    have ih := evenS_bits t step v k
    have e : evenS t step v (k + 1 + 2) = evenS t step v (k + 2) ++ [(t + step * ((k + 2 : Nat) : Int), v)] := rfl
    have er : (evenS t step v (k + 2)).reverse = (t + step * ((k + 1 : Nat) : Int), v) :: (t + step * (k : Int), v) :: (evenS t step v k).reverse := by
      simp [evenS]
    rw [e, run_snoc, List.length_append, ih]
    have e2 : step * ((k + 2 : Nat) : Int) = step * (k : Int) + step + step := by
      rw [show ((k + 2 : Nat) : Int) = (k : Int) + 1 + 1 by omega, Int.mul_add, Int.mul_add, Int.mul_one]
    have e1 : step * ((k + 1 : Nat) : Int) = step * (k : Int) + step := by rw [Int.natCast_succ, Int.mul_add, Int.mul_one]
    unfold emit
    rw [er]
    simp only []
    rw [show t + step * ((k + 2 : Nat) : Int) - (t + step * ((k + 1 : Nat) : Int)) - (t + step * ((k + 1 : Nat) : Int) - (t + step * (k : Int))) = 0 by omega, Nat.xor_self]
    unfold tform vform
    rw [if_pos rfl, if_pos rfl]
    simp only [List.length_append, low_len]
    omega
theorem enc_len (l : List Smp) : (enc l).length = 2 + ((run l).1.length + 7) / 8 := by
  unfold enc
  rw [List.length_cons, List.length_cons, pk_len]; omega

theorem few_law (hT : DTab w0) {t step n : Int} {v : Nat} (hv : v < 18446744073709551616) (_ : -9223372036854775808 ≤ n) (_ : n ≤ 9223372036854775807) {K : Bool → World → Prop} (hK : ∀ w', Keep w0 w' → K true w') : C.tocsinlaw08_ChunkFew t step v n w0 K := by
  unfold C.tocsinlaw08_ChunkFew
  refine cond_d (fun _ => awake_ok hT hK) (fun ht => cond_d (fun _ => awake_ok hT hK) (fun h0 => cond_d (fun _ => awake_ok hT hK) (fun ht2 => cond_d (fun _ => awake_ok hT hK) (fun h1 => ⟨by decide, by decide, ?_⟩))))
  have en : ∃ N : Nat, 2 ≤ N ∧ N ≤ 101 ∧ IntKind.i64.wrap ((2 : Int) + (Int.tmod (IntKind.i64.wrap ((Int.tmod n (100 : Int)) + (100 : Int))) (100 : Int))) = (N : Int) := by
    have a1 : -100 < Int.tmod n 100 := Int.lt_tmod_of_pos n (by decide)
    have a2 : Int.tmod n 100 < 100 := Int.tmod_lt_of_pos n (by decide)
    rw [wI64 (x := Int.tmod n 100 + 100) (by omega) (by omega)]
    have b1 : 0 ≤ Int.tmod (Int.tmod n 100 + 100) 100 := Int.tmod_nonneg _ (by omega)
    have b2 : Int.tmod (Int.tmod n 100 + 100) 100 < 100 := Int.tmod_lt_of_pos _ (by decide)
    generalize Int.tmod (Int.tmod n 100 + 100) 100 = q at *
    exact ⟨(2 + q).toNat, by omega, by omega, by rw [wI64 (by omega) (by omega)]; omega⟩
  obtain ⟨N, hN2, hN, eN⟩ := en
  rw [eN]
  unfold C.tocsinlaw08_ChunkFew.S9
  refine C.tocsinlaw08_ChunkFew.L5_ind fun X hX => ?_
  have key : ∀ (d i : Nat) (s : Sl) (ω : Tg) (w : World), i + d = N → Top w0 ω w → OS ω w 1 s (evenS t step v i) → X t step v (N : Int) s (i : Int) w := by
    intro d
    induction d with
    | zero =>
      intro i s ω w hi top o
      have hi' : i = N := by omega
      subst hi'
      refine hX _ _ _ _ _ _ _ ?_
      unfold C.tocsinlaw08_ChunkFew.S7 C.tocsinlaw08_ChunkFew.S2
      refine cond_d (fun h => by omega) (fun _ => ?_)
      have hsn := o.len
      rw [evenS_len] at hsn
      have hval := evenS_valid (v := v) (step := step) (t := t) (by omega) (by omega) (by omega) (by omega) hv i (by omega)
      have hval2 := evenS_valid (v := v) (step := step) (t := t) (by omega) (by omega) (by omega) (by omega) hv 2 (by omega)
      refine Rd.slc o.rd (lo := 0) (hi := 2) (by omega) (by omega) rfl rfl fun r hr hrn _ => ?_
      have er : ((smps (evenS t step v i)).drop (0 * 2)).take ((2 - 0) * 2) = smps (evenS t step v 2) := by
        rw [← evenS_take i 2 hN2]
        have : smps (evenS t step v i) = smps ((evenS t step v i).take 2) ++ smps ((evenS t step v i).drop 2) := by rw [← smps_app, List.take_append_drop]
        rw [this, Nat.zero_mul, List.drop_zero, List.take_append_of_le_length (by rw [smps_len, List.length_take, evenS_len]; omega), List.take_of_length_le (by rw [smps_len, List.length_take, evenS_len]; omega)]
      rw [er] at hr
      have hmem : ∀ n, n ≤ 102 → ∀ x ∈ evenS t step v n, x.2 < 18446744073709551616 := fun n hn x hx => ((evenS_valid (v := v) (step := step) (t := t) (by omega) (by omega) (by omega) (by omega) hv n hn).mem x hx).2.2
      have f2 := firstW_zero (evenS t step v 2) [] 0 hval2
      have fi := firstW_zero (evenS t step v i) [] 0 hval
      refine encode_ok (hT.keep top.k) hr (hmem 2 (by omega)) (by rw [evenS_len]; omega) (fun h => absurd (by rw [f2]) h) fun _ _ a w1 k1 o1 => ?_
      have k01 := Keep.trans top.k k1
      refine encode_ok (hT.keep k01) (o.rd.keep k1) (hmem i (by omega)) (by rw [evenS_len]; omega) (fun h => absurd (by rw [fi]) h) fun _ _ b w2 k2 o2 => ?_
      have k02 := Keep.trans k01 k2
      refine cond_t rfl <| cond_t rfl ⟨by decide, ?_⟩
      have la := o1.len
      have lb := o2.len
      rw [enc_len] at la lb
      have hb := evenS_bits t step v (i - 2)
      rw [show i - 2 + 2 = i by omega] at hb
      rw [hb] at lb
      have hbl := run_len hval2
      rw [evenS_len] at hbl
      generalize (run (evenS t step v 2)).1.length = B at *
      rw [wI64 (x := (i : Int) - 2) (by omega) (by omega), wI64 (x := 2 * ((i : Int) - 2)) (by omega) (by omega)]
      have ed : Int.tdiv (2 * ((i : Int) - 2)) 8 = ((2 * (i - 2) / 8 : Nat) : Int) := by rw [show 2 * ((i : Int) - 2) = ((2 * (i - 2) : Nat) : Int) by omega]; rfl
      have ed2 : Int.tdiv (IntKind.i64.wrap (2 * ((i : Int) - 2) + 7)) 8 = (((2 * (i - 2) + 7) / 8 : Nat) : Int) := by rw [wI64 (by omega) (by omega), show 2 * ((i : Int) - 2) + 7 = ((2 * (i - 2) + 7 : Nat) : Int) by omega]; rfl
      rw [ed, ed2, wI64 (x := ((2 * (i - 2) / 8 : Nat) : Int)) (by omega) (by omega), wI64 (x := (a.n : Int) + _) (by omega) (by omega), wI64 (x := (a.n : Int) + _ - 1) (by omega) (by omega)]
      refine cond_t (decide_eq_true (by omega)) ⟨by decide, ?_⟩
      rw [wI64 (x := (((2 * (i - 2) + 7) / 8 : Nat) : Int)) (by omega) (by omega), wI64 (x := (a.n : Int) + _) (by omega) (by omega)]
      refine cond_t (decide_eq_true (by omega)) ?_
      exact awake_ok (hT.keep k02) fun w' k' => hK w' (Keep.trans k02 k')
    | succ d ih =>
      intro i s ω w hi top o
      have hsn := o.len
      rw [evenS_len] at hsn
      refine hX _ _ _ _ _ _ _ ?_
      unfold C.tocsinlaw08_ChunkFew.S7
      refine cond_d (fun _ => ?_) (fun h => by omega)
      have hb := step_le (step := step) (by omega) (by omega) i (by omega)
      rw [wI64 (x := step * (i : Int)) (by omega) (by omega), wI64 (x := t + step * (i : Int)) (by omega) (by omega)]
      refine push_T tiS o (n := 1) (by rfl) (by intro x hx; simp at hx; rcases hx with rfl | rfl <;> rfl) (by simp only [maxLen]; omega) (by omega) fun r ω1 w1 k1 o1 hr => ?_
      rw [wI64 (by omega) (by omega), show (i : Int) + 1 = ((i + 1 : Nat) : Int) by omega]
      refine ih (i + 1) r ω1 w1 (by omega) (top.stp k1) ?_
      rw [OS, evenS, smps_app]
      exact o1
  exact key N 0 nilS (fun _ => 0) w0 (by omega) (Top.init w0) (OT.nil _ _ _ _ _)
end Go.Proofs.YtpadehbcjkhegaaDoor.Chunk
