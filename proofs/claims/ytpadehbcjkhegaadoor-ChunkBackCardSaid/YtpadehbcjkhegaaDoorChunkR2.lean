/- Layer 8: the reference writes: numbers' bits 0 ahead and behind; values, times, samples. Own work. -/
import Derived.Test.YtpadehbcjkhegaaDoorChunkR
namespace Go.Proofs.YtpadehbcjkhegaaDoor.Bits
open Go Vm Go.RowKit Num Mem
theorem bitLenAux_up : ∀ f x k, x < 2 ^ k → Lib.bitLenAux f x ≤ k
  | 0, _, _, _ => Nat.zero_le _
  | f + 1, x, k, h => by
    unfold Lib.bitLenAux
    split
    · exact Nat.zero_le _
    · cases k with
      | zero => simp at h; omega
      | succ k =>
        have := bitLenAux_up f (x / 2) k (by rw [Nat.pow_succ] at h; omega)
        omega
theorem lt_bitLen {x k : Nat} (h : k < Lib.bitLen x) : 2 ^ k ≤ x := by
  rcases Nat.lt_or_ge x (2 ^ k) with h1 | h1
  · have : Lib.bitLen x ≤ k := bitLenAux_up 64 x k h1
    omega
  · exact h1
theorem bit_val {v i : Nat} (hv : v < 18446744073709551616) (hi : i ≤ 64) : Go.bits .and .u64 (shr .u64 (v : Int) (i : Int)) (1 : Int) = ((v / 2 ^ i % 2 : Nat) : Int) := by
  have hlt : v / 2 ^ i < 18446744073709551616 := Nat.lt_of_le_of_lt (Nat.div_le_self _ _) hv
  rw [shr64 hi, show (1 : Int) = ((1 : Nat) : Int) from rfl, bits_and rfl (by simp only [IntKind.bits]; omega) (by decide), Nat.and_one_is_mod]
/-- Bits ahead. -/
theorem ahead_0 {x n : Nat} (h : x < 18446744073709551616) (hn : n < lead x) : x / 2 ^ (63 - n) % 2 = 0 := by
  have h1 : x < 2 ^ (63 - n) := by
    refine Nat.lt_of_lt_of_le (lt_lead h (Nat.le_refl _)) (Nat.pow_le_pow_right (by decide) ?_)
    have := lead_le x
    omega
  rw [Nat.div_eq_of_lt h1]
theorem ahead_1 {x : Nat} (h : x < 18446744073709551616) (hn : lead x < 31) : x / 2 ^ (63 - lead x) % 2 = 1 := by
  have hb := bitLen_le x
  have e : Lib.bitLen x = 64 - lead x := by unfold lead at *; omega
  have h1 := lt_bitLen (x := x) (k := 63 - lead x) (by omega)
  have h2 : x < 2 ^ (63 - lead x) * 2 := by
    have := bitLen_lt h
    rw [e, show 64 - lead x = (63 - lead x) + 1 by omega, Nat.pow_succ] at this
    exact this
  have h3 : x / 2 ^ (63 - lead x) = 1 := by
    rw [Nat.div_eq_iff (Nat.pow_pos (by decide))]; omega
  rw [h3]
theorem behind_0 {x n : Nat} (h : x < 18446744073709551616) (h0 : x ≠ 0) (hn : n < trail x) : x / 2 ^ n % 2 = 0 := by
  obtain ⟨m, hm, _⟩ := trail_spec h h0
  have e : 2 ^ trail x = 2 ^ n * (2 * 2 ^ (trail x - n - 1)) := by
    rw [Nat.mul_comm 2, ← Nat.pow_succ, ← Nat.pow_add]
    congr 1; omega
  have : x / 2 ^ n = 2 * (2 ^ (trail x - n - 1) * (2 * m + 1)) := by
    conv => lhs; rw [hm, e]
    rw [Nat.mul_assoc, Nat.mul_div_cancel_left _ (Nat.pow_pos (by decide)), Nat.mul_assoc]
  rw [this]; omega
theorem behind_1 {x : Nat} (h : x < 18446744073709551616) (h0 : x ≠ 0) : x / 2 ^ trail x % 2 = 1 := by
  obtain ⟨m, hm, _⟩ := trail_spec h h0
  have : x / 2 ^ trail x = 2 * m + 1 := by
    conv => lhs; lhs; rw [hm]
    exact Nat.mul_div_cancel_left _ (Nat.pow_pos (by decide))
  rw [this]; omega
end Go.Proofs.YtpadehbcjkhegaaDoor.Bits
namespace Go.Proofs.YtpadehbcjkhegaaDoor.Chunk
open Go Vm Go.RowKit Num Mem Bits Vint
variable {ω ω' : Tg} {w w' w0 : World} {t : Nat}

theorem rlead_ok {x : Nat} (h : x < 18446744073709551616) {K : Int → World → Prop} (hK : K ((lead x : Nat) : Int) w) : C.tocsinref08_lead (x : Int) w K := by
  unfold C.tocsinref08_lead
  refine C.tocsinref08_lead.L5_ind fun X hX => ?_
  have hl := lead_le x
  have key : ∀ (d n : Nat), n + d = lead x → X (x : Int) (n : Int) w := by
    intro d
    induction d with
    | zero =>
      intro n hn
      refine hX _ _ _ ?_
      unfold C.tocsinref08_lead.S7 C.tocsinref08_lead.S2
      have en : n = lead x := by omega
      subst en
      refine cond_d (fun h31 => ⟨by rw [wU64]; omega, ?_⟩) (fun _ => hK)
      rw [wI64 (x := 63 - ((lead x : Nat) : Int)) (by omega) (by omega), wU64_id (by omega) (by omega), show 63 - ((lead x : Nat) : Int) = ((63 - lead x : Nat) : Int) by omega, bit_val h (by omega), ahead_1 h (by omega)]
      exact cond_f rfl hK
    | succ d ih =>
      intro n hn
      refine hX _ _ _ ?_
      unfold C.tocsinref08_lead.S7
      refine cond_d (fun h31 => ⟨by rw [wU64]; omega, ?_⟩) (fun h => by omega)
      rw [wI64 (x := 63 - (n : Int)) (by omega) (by omega), wU64_id (by omega) (by omega), show 63 - (n : Int) = ((63 - n : Nat) : Int) by omega, bit_val h (by omega), ahead_0 h (by omega)]
      refine cond_t rfl ?_
      rw [wI64 (by omega) (by omega), show (n : Int) + 1 = ((n + 1 : Nat) : Int) by omega]
      exact ih (n + 1) (by omega)
  exact key (lead x) 0 (by omega)
theorem rtrail_ok {x : Nat} (h : x < 18446744073709551616) (h0 : x ≠ 0) {K : Int → World → Prop} (hK : K ((trail x : Nat) : Int) w) : C.tocsinref08_trail (x : Int) w K := by
  unfold C.tocsinref08_trail
  refine C.tocsinref08_trail.L5_ind fun X hX => ?_
  obtain ⟨_, _, hl⟩ := trail_spec h h0
  have key : ∀ (d n : Nat), n + d = trail x → X (x : Int) (n : Int) w := by
    intro d
    induction d with
    | zero =>
      intro n hn
      refine hX _ _ _ ?_
      unfold C.tocsinref08_trail.S7 C.tocsinref08_trail.S2
      have en : n = trail x := by omega
      subst en
      refine ⟨by rw [wU64]; omega, ?_⟩
      rw [wU64_id (by omega) (by omega), bit_val h (by omega), behind_1 h h0]
      exact cond_f rfl hK
    | succ d ih =>
      intro n hn
      refine hX _ _ _ ?_
      unfold C.tocsinref08_trail.S7
      refine ⟨by rw [wU64]; omega, ?_⟩
      rw [wU64_id (by omega) (by omega), bit_val h (by omega), behind_0 h h0 (by omega)]
      refine cond_t rfl ?_
      rw [wI64 (by omega) (by omega), show (n : Int) + 1 = ((n + 1 : Nat) : Int) by omega]
      exact ih (n + 1) (by omega)
  exact key (trail x) 0 (by omega)

theorem whole_ok {u gs : Nat} {bs : List Bool} {a : Int} (h : StT ω w t gs bs a) {b : Sl} {m : List UInt8} (hb : OBy ω w u b m) (hu : Duo t (t + 1) u = false) (hn : bs.length + 8 * m.length ≤ 8388608) {K : World → Prop}
    (hK : ∀ ω' w', Stp (Duo t (t + 1)) ω ω' w w' → StT ω' w' t gs (bs ++ byteBits m) a → K w') : C.tocsinref08_whole (wp gs) b w K := by
  unfold C.tocsinref08_whole
  refine C.tocsinref08_whole.L3_ind fun X hX => ?_
  have hbn := hb.len
  have key : ∀ (d i : Nat) (ω' : Tg) (w' : World), d + i = m.length → Stp (Duo t (t + 1)) ω ω' w w' → OBy ω' w' u b m → StT ω' w' t gs (bs ++ byteBits (m.take i)) a → X (wp gs) b ((b.n : Nat) : Int) (i : Int) w' := by
    intro d
    induction d with
    | zero =>
      intro i ω' w' hi k hb' h'
      refine hX _ _ _ _ _ ?_
      unfold C.tocsinref08_whole.S5
      refine cond_d (fun h => by omega) (fun _ => hK ω' w' k ?_)
      rwa [show i = m.length by omega, List.take_length] at h'
    | succ d ih =>
      intro i ω' w' hi k hb' h'
      have him : i < m.length := by omega
      refine hX _ _ _ _ _ ?_
      unfold C.tocsinref08_whole.S5
      refine cond_d (fun _ => ?_) (fun h => by omega)
      refine RdB.at_ hb'.rd him ?_
      have hlt := m[i].toNat_lt
      have htl : (m.take i).length = i := by rw [List.length_take, Nat.min_eq_left (by omega)]
      refine write_T (v := m[i].toNat) (k := 8) (by omega) (by decide) h' (by rw [List.length_append, byteBits_len, htl]; omega) (by rw [wU64_id (by omega) (by omega)]) rfl fun ω2 w2 k2 h2 => ?_
      rw [wI64 (by omega) (by omega), show (i : Int) + 1 = ((i + 1 : Nat) : Int) by omega]
      refine ih (i + 1) ω2 w2 (by omega) (k.trans k2) (hb'.stp k2 hu) ?_
      have e : byteBits (m.take (i + 1)) = byteBits (m.take i) ++ low m[i].toNat 8 := by
        rw [List.take_add_one, List.getElem?_eq_getElem him]
        unfold byteBits
        rw [List.flatMap_append]
        simp
      rw [e, ← List.append_assoc]
      exact h2
  exact key m.length 0 ω w (by omega) (Stp.refl _ _ _) hb (by simpa [byteBits] using h)
end Go.Proofs.YtpadehbcjkhegaaDoor.Chunk
