/- Floats of 64 bits, plain: which number a word stands for, by its rung; rounding; order. Own work. -/
import Derived.Test.YtaciaidehamfgaaVmLift
namespace Go.Proofs.Ytaciaidehamfgaa.Fl
open Go Vm Ieee

theorem swE : Ieee.double.signWeight = (9223372036854775808 : Nat) := rfl
theorem bE : Ieee.double.binade = (4503599627370496 : Nat) := rfl
theorem infE : Ieee.double.infRung = (9218868437227405312 : Nat) := rfl
theorem lpE : Ieee.double.leastPlace = -1074 := rfl
theorem fbE : Ieee.double.fractionBits = 52 := rfl
/-- A finite rung's number, in units of 2^-1074. -/
def V (r : Nat) : Nat := if r < (4503599627370496 : Nat) then r else ((4503599627370496 : Nat) + r % (4503599627370496 : Nat)) * 2 ^ (r / (4503599627370496 : Nat) - 1)
theorem V_xy (x y : Nat) (hy : y < (4503599627370496 : Nat)) : V (x * (4503599627370496 : Nat) + y) = if x = 0 then y else ((4503599627370496 : Nat) + y) * 2 ^ (x - 1) := by
  unfold V
  have h1 : (x * (4503599627370496 : Nat) + y) / (4503599627370496 : Nat) = x := by rw [Nat.mul_comm, Nat.mul_add_div (by decide), Nat.div_eq_of_lt hy]; rfl
  have h2 : (x * (4503599627370496 : Nat) + y) % (4503599627370496 : Nat) = y := by rw [Nat.mul_comm, Nat.mul_add_mod, Nat.mod_eq_of_lt hy]
  rw [h1, h2]
  by_cases hx : x = 0
  · subst hx; rw [if_pos (by omega), if_pos rfl]; omega
  · rw [if_neg hx, if_neg]
    have : (4503599627370496 : Nat) ≤ x * (4503599627370496 : Nat) := Nat.le_mul_of_pos_left _ (by omega)
    omega
theorem V_bd (x y : Nat) (hy : y < (4503599627370496 : Nat)) : (x ≠ 0 → (4503599627370496 : Nat) * 2 ^ (x - 1) ≤ V (x * (4503599627370496 : Nat) + y)) ∧ V (x * (4503599627370496 : Nat) + y) < (4503599627370496 : Nat) * 2 ^ x := by
  rw [V_xy x y hy]
  by_cases hx : x = 0
  · subst hx; simp; exact hy
  · rw [if_neg hx]
    obtain ⟨k, rfl⟩ : ∃ k, x = k + 1 := ⟨x - 1, by omega⟩
    have hp : 0 < 2 ^ k := Nat.two_pow_pos k
    refine ⟨fun _ => Nat.mul_le_mul_right _ (by omega), ?_⟩
    show ((4503599627370496 : Nat) + y) * 2 ^ k < (4503599627370496 : Nat) * 2 ^ (k + 1)
    calc ((4503599627370496 : Nat) + y) * 2 ^ k < ((4503599627370496 : Nat) + (4503599627370496 : Nat)) * 2 ^ k := Nat.mul_lt_mul_of_pos_right (by omega) hp
      _ = (4503599627370496 : Nat) * 2 ^ (k + 1) := by rw [Nat.pow_succ]; generalize 2 ^ k = p; omega
theorem V_mono {r r' : Nat} (h : r < r') : V r < V r' := by
  obtain ⟨x, y, rfl, hy⟩ : ∃ x y, r = x * (4503599627370496 : Nat) + y ∧ y < (4503599627370496 : Nat) := ⟨r / (4503599627370496 : Nat), r % (4503599627370496 : Nat), by rw [Nat.mul_comm]; exact (Nat.div_add_mod r (4503599627370496 : Nat)).symm, Nat.mod_lt _ (by decide)⟩
  obtain ⟨x', y', rfl, hy'⟩ : ∃ x y, r' = x * (4503599627370496 : Nat) + y ∧ y < (4503599627370496 : Nat) := ⟨r' / (4503599627370496 : Nat), r' % (4503599627370496 : Nat), by rw [Nat.mul_comm]; exact (Nat.div_add_mod r' (4503599627370496 : Nat)).symm, Nat.mod_lt _ (by decide)⟩
  by_cases hx : x = x'
  · subst hx
    rw [V_xy x y hy, V_xy x y' hy']
    split
    · omega
    · exact Nat.mul_lt_mul_of_pos_right (by omega) (Nat.two_pow_pos _)
  · have hlt : x < x' := by
      apply Nat.lt_of_not_le
      intro hle
      have : x' + 1 ≤ x := by omega
      have := Nat.mul_le_mul_right (4503599627370496 : Nat) this
      rw [Nat.add_mul] at this
      omega
    have h1 := (V_bd x y hy).2
    have h2 := (V_bd x' y' hy').1 (by omega)
    have h3 : (4503599627370496 : Nat) * 2 ^ x ≤ (4503599627370496 : Nat) * 2 ^ (x' - 1) := Nat.mul_le_mul_left _ (Nat.pow_le_pow_right (by decide) (by omega))
    omega
theorem V_le {r r' : Nat} : V r ≤ V r' ↔ r ≤ r' := by
  constructor
  · intro h; apply Nat.le_of_not_lt; intro hl; have := V_mono hl; omega
  · intro h; rcases Nat.eq_or_lt_of_le h with e | h
    · rw [e]; exact Nat.le_refl _
    · exact Nat.le_of_lt (V_mono h)
theorem V_inj {r r' : Nat} (h : V r = V r') : r = r' := by
  have h1 := V_le.1 (Nat.le_of_eq h); have h2 := V_le.1 (Nat.le_of_eq h.symm); omega
theorem V_of (E k : Nat) (h : (E = 0 ∧ k ≤ 2 * (4503599627370496 : Nat)) ∨ ((4503599627370496 : Nat) ≤ k ∧ k ≤ 2 * (4503599627370496 : Nat))) : V (E * (4503599627370496 : Nat) + k) = k * 2 ^ E := by
  by_cases h1 : k < (4503599627370496 : Nat)
  · obtain ⟨rfl, _⟩ : E = 0 ∧ k ≤ 2 * (4503599627370496 : Nat) := by rcases h with h | h; exact h; omega
    rw [V_xy 0 k h1, if_pos rfl]; simp
  · by_cases h2 : k < 2 * (4503599627370496 : Nat)
    · have e : E * (4503599627370496 : Nat) + k = (E + 1) * (4503599627370496 : Nat) + (k - (4503599627370496 : Nat)) := by omega
      rw [e, V_xy _ _ (by omega), if_neg (by omega), Nat.add_sub_cancel, Nat.add_sub_cancel' (by omega)]
    · have : k = 2 * (4503599627370496 : Nat) := by rcases h with h | h <;> omega
      subst this
      have e : E * (4503599627370496 : Nat) + 2 * (4503599627370496 : Nat) = (E + 2) * (4503599627370496 : Nat) + 0 := by omega
      rw [e, V_xy _ _ (by decide), if_neg (by omega), show E + 2 - 1 = E + 1 by omega, Nat.pow_succ, Nat.add_zero]
      omega

/-! ## Whole parts -/
theorem cut_facts (way : Toward) (s : Bool) (n d : Nat) : ∃ up : Nat, way.cut s n d = n / 2 ^ d + up ∧ up ≤ 1 ∧ (n % 2 ^ d = 0 → up = 0) ∧ ((way = .zero ∨ (way = .down ∧ s = false)) → up = 0) := by
  unfold Toward.cut
  simp only [Nat.one_shiftLeft]
  by_cases hd : d ≤ n.log2 + 2
  · rw [Nat.min_eq_left hd]
    refine ⟨_, rfl, ?_, ?_, ?_⟩
    · cases way <;> simp only [] <;> exact Bool.toNat_le _
    · intro h0
      rw [h0]
      cases way <;> simp
    · rintro (rfl | ⟨rfl, rfl⟩) <;> rfl
  · rw [Nat.min_eq_right (by omega)]
    have hn : n < 2 ^ (n.log2 + 2) := Nat.lt_of_lt_of_le Nat.lt_log2_self (Nat.pow_le_pow_right (by decide) (by omega))
    have hn2 : 2 * n < 2 ^ (n.log2 + 2) := by
      have := @Nat.lt_log2_self n
      rw [Nat.pow_succ (n := 2) (m := n.log2 + 1)]; omega
    have hnd : n < 2 ^ d := Nat.lt_of_lt_of_le hn (Nat.pow_le_pow_right (by decide) (by omega))
    rw [Nat.div_eq_of_lt hn, Nat.mod_eq_of_lt hn, Nat.div_eq_of_lt hnd, Nat.mod_eq_of_lt hnd]
    refine ⟨_, rfl, ?_, ?_, ?_⟩
    · cases way <;> simp only [] <;> exact Bool.toNat_le _
    · rintro rfl
      cases way <;> simp
    · rintro (rfl | ⟨rfl, rfl⟩) <;> rfl
theorem cut_le {way : Toward} {s : Bool} {n d k : Nat} (h : n ≤ k * 2 ^ d) : way.cut s n d ≤ k := by
  obtain ⟨up, e, h1, h2, _⟩ := cut_facts way s n d
  rw [e]
  have hp : 0 < 2 ^ d := Nat.two_pow_pos d
  by_cases h0 : n % 2 ^ d = 0
  · rw [h2 h0, Nat.add_zero]; exact (Nat.div_le_iff_le_mul_add_pred hp).2 (by rw [Nat.mul_comm]; omega)
  · have : n / 2 ^ d < k := by
      apply (Nat.div_lt_iff_lt_mul hp).2
      rcases Nat.eq_or_lt_of_le h with e | h
      · rw [e, Nat.mul_mod_left] at h0; exact absurd rfl h0
      · exact h
    omega
theorem cut_ge {way : Toward} {s : Bool} {n d k : Nat} (h : k * 2 ^ d ≤ n) : k ≤ way.cut s n d := by
  obtain ⟨up, e, _⟩ := cut_facts way s n d
  rw [e]
  have := (Nat.le_div_iff_mul_le (Nat.two_pow_pos d)).2 h
  omega
theorem cut_zero {way : Toward} {s : Bool} {n d : Nat} (h : way = .zero ∨ (way = .down ∧ s = false)) : way.cut s n d = n / 2 ^ d := by
  obtain ⟨up, e, _, _, h3⟩ := cut_facts way s n d
  rw [e, h3 h]; rfl

/-! ## Rounding -/
/-- The rung nearest to mag * 2^place. -/
def rnd (mag : Nat) (place : Int) : Nat :=
  if mag = 0 then 0 else
  min ((max (place + mag.log2 - 52) (-1074) + 1074).toNat * (4503599627370496 : Nat) + Toward.even.cut false (mag <<< (place - max (place + mag.log2 - 52) (-1074)).toNat) ((max (place + mag.log2 - 52) (-1074) - place).toNat)) (9218868437227405312 : Nat)
theorem cut_sign (s t : Bool) (n d : Nat) : Toward.even.cut s n d = Toward.even.cut t n d := rfl
theorem nearest_rnd (s : Bool) (mag : Nat) (place : Int) : Ieee.double.nearest s mag place = Ieee.double.word s (rnd mag place) := by
  unfold Format.nearest rnd
  split
  · rfl
  · rw [fbE, lpE, bE, infE]
    simp only [show ∀ x : Int, x - (-1074) = x + 1074 from fun x => by omega, cut_sign s false]
    rfl
theorem pow_le_iff {u v c : Nat} : u * 2 ^ c ≤ v * 2 ^ c ↔ u ≤ v := Nat.mul_le_mul_right_iff (Nat.two_pow_pos c)
/-- What rounding goes by. -/
theorem rnd_facts {mag : Nat} (h0 : mag ≠ 0) (place p : Int) (h1 : p ≤ place) (h2 : p ≤ -1074) : ∃ E kept : Nat, rnd mag place = min (E * (4503599627370496 : Nat) + kept) (9218868437227405312 : Nat) ∧ V (E * (4503599627370496 : Nat) + kept) = kept * 2 ^ E ∧
    (∀ k, mag * 2 ^ (place - p).toNat ≤ k * 2 ^ (E + (-1074 - p).toNat) → kept ≤ k) ∧ (∀ k, k * 2 ^ (E + (-1074 - p).toNat) ≤ mag * 2 ^ (place - p).toNat → k ≤ kept) ∧
    (1 ≤ E → (4503599627370496 : Nat) ≤ kept ∧ (4503599627370496 : Nat) * 2 ^ (E + (-1074 - p).toNat) ≤ mag * 2 ^ (place - p).toNat) ∧ mag * 2 ^ (place - p).toNat < 2 * (4503599627370496 : Nat) * 2 ^ (E + (-1074 - p).toNat) := by
  have l1 := Nat.log2_self_le h0
  have l2 := @Nat.lt_log2_self mag
  obtain ⟨last, hlast⟩ : ∃ last, last = max (place + mag.log2 - 52) (-1074) := ⟨_, rfl⟩
  obtain ⟨E, hE⟩ : ∃ E : Nat, last = (E : Int) - 1074 := ⟨(last + 1074).toNat, by omega⟩
  obtain ⟨s, hs⟩ : ∃ s : Nat, s = (place - last).toNat := ⟨_, rfl⟩
  obtain ⟨d, hd⟩ : ∃ d : Nat, d = (last - place).toNat := ⟨_, rfl⟩
  obtain ⟨a, ha⟩ : ∃ a : Nat, a = (place - p).toNat := ⟨_, rfl⟩
  obtain ⟨b, hb⟩ : ∃ b : Nat, b = (-1074 - p).toNat := ⟨_, rfl⟩
  have hr : rnd mag place = min (E * (4503599627370496 : Nat) + Toward.even.cut false (mag * 2 ^ s) d) (9218868437227405312 : Nat) := by
    unfold rnd
    rw [if_neg h0, ← hlast, ← hs, ← hd, Nat.shiftLeft_eq, show (last + 1074).toNat = E by omega]
  rw [← ha, ← hb]
  have hrel : a + d = s + b + E := by omega
  have sc : ∀ k, (mag * 2 ^ a ≤ k * 2 ^ (E + b) ↔ mag * 2 ^ s ≤ k * 2 ^ d) := fun k => by
    rw [← pow_le_iff (c := d), Nat.mul_assoc, ← Nat.pow_add, hrel, show s + b + E = s + (E + b) by omega, Nat.pow_add, ← Nat.mul_assoc, Nat.mul_right_comm k, pow_le_iff]
  have sc2 : ∀ k, (k * 2 ^ (E + b) ≤ mag * 2 ^ a ↔ k * 2 ^ d ≤ mag * 2 ^ s) := fun k => by
    rw [← pow_le_iff (c := d), Nat.mul_assoc mag, ← Nat.pow_add, hrel, show s + b + E = s + (E + b) by omega, Nat.pow_add 2 s, ← Nat.mul_assoc mag, Nat.mul_right_comm k, pow_le_iff]
  have hlog : mag.log2 + s ≤ d + 52 := by omega
  have hup : mag * 2 ^ s < 2 * (4503599627370496 : Nat) * 2 ^ d := by
    calc mag * 2 ^ s < 2 ^ (mag.log2 + 1) * 2 ^ s := Nat.mul_lt_mul_of_pos_right l2 (Nat.two_pow_pos s)
      _ = 2 ^ (mag.log2 + s + 1) := by rw [← Nat.pow_add]; congr 1; omega
      _ ≤ 2 ^ (d + 53) := Nat.pow_le_pow_right (by decide) (by omega)
      _ = 2 * (4503599627370496 : Nat) * 2 ^ d := by rw [Nat.pow_add, Nat.mul_comm]
  have hlo : 1 ≤ E → (4503599627370496 : Nat) * 2 ^ d ≤ mag * 2 ^ s := fun h => by
    have he : mag.log2 + s = d + 52 := by omega
    calc (4503599627370496 : Nat) * 2 ^ d = 2 ^ (mag.log2 + s) := by rw [he, Nat.pow_add, Nat.mul_comm]
      _ = 2 ^ mag.log2 * 2 ^ s := Nat.pow_add ..
      _ ≤ mag * 2 ^ s := Nat.mul_le_mul_right _ l1
  have kup : Toward.even.cut false (mag * 2 ^ s) d ≤ 2 * (4503599627370496 : Nat) := cut_le (Nat.le_of_lt hup)
  refine ⟨E, _, hr, V_of E _ ?_, fun k h => cut_le ((sc k).1 h), fun k h => cut_ge ((sc2 k).1 h), fun h => ⟨cut_ge (hlo h), (sc2 _).2 (hlo h)⟩, ?_⟩
  · by_cases h : 1 ≤ E
    · exact .inr ⟨cut_ge (hlo h), kup⟩
    · exact .inl ⟨by omega, kup⟩
  · apply Nat.lt_of_not_le
    intro h
    have := (sc2 _).1 h
    omega
theorem split_r (r : Nat) : ∃ x y, r = x * (4503599627370496 : Nat) + y ∧ y < (4503599627370496 : Nat) := ⟨r / (4503599627370496 : Nat), r % (4503599627370496 : Nat), by rw [Nat.mul_comm]; exact (Nat.div_add_mod r (4503599627370496 : Nat)).symm, Nat.mod_lt _ (by decide)⟩
theorem V_zero : V 0 = 0 := rfl
theorem rnd_le {mag r : Nat} {place p : Int} (h1 : p ≤ place) (h2 : p ≤ -1074) (h : mag * 2 ^ (place - p).toNat ≤ V r * 2 ^ (-1074 - p).toNat) : rnd mag place ≤ r := by
  by_cases h0 : mag = 0
  · subst h0; simp [rnd]
  obtain ⟨E, kept, e1, e2, e3, e4, e5, e6⟩ := rnd_facts h0 place p h1 h2
  rw [e1]
  refine Nat.le_trans (Nat.min_le_left _ _) (V_le.1 ?_)
  rw [e2]
  generalize (-1074 - p).toNat = b at *
  generalize mag * 2 ^ (place - p).toNat = M at *
  obtain ⟨x, y, rfl, hy⟩ := split_r r
  have key : ∀ k0, V (x * (4503599627370496 : Nat) + y) = k0 * 2 ^ E → kept * 2 ^ E ≤ V (x * (4503599627370496 : Nat) + y) := fun k0 hk => by
    rw [hk] at h ⊢
    exact Nat.mul_le_mul_right _ (e3 k0 (by rw [Nat.pow_add, ← Nat.mul_assoc]; exact h))
  by_cases hE : 1 ≤ E
  · by_cases hx : E + 1 ≤ x
    · refine key (((4503599627370496 : Nat) + y) * 2 ^ (x - 1 - E)) ?_
      rw [V_xy x y hy, if_neg (by omega), Nat.mul_assoc, ← Nat.pow_add]
      congr 2; omega
    · exfalso
      have h3 := (V_bd x y hy).2
      have h4 : (4503599627370496 : Nat) * 2 ^ x ≤ (4503599627370496 : Nat) * 2 ^ E := Nat.mul_le_mul_left _ (Nat.pow_le_pow_right (by decide) (by omega))
      have h5 := (e5 hE).2
      rw [Nat.pow_add, ← Nat.mul_assoc] at h5
      have h6 := pow_le_iff.1 (Nat.le_trans h5 h)
      omega
  · obtain rfl : E = 0 := by omega
    exact key (V (x * (4503599627370496 : Nat) + y)) (by simp)
theorem rnd_ge {mag r : Nat} {place p : Int} (h1 : p ≤ place) (h2 : p ≤ -1074) (hr : r ≤ (9218868437227405312 : Nat)) (h : V r * 2 ^ (-1074 - p).toNat ≤ mag * 2 ^ (place - p).toNat) : r ≤ rnd mag place := by
  by_cases h0 : mag = 0
  · subst h0
    rw [Nat.zero_mul] at h
    have hv : V r = 0 := by
      rcases Nat.mul_eq_zero.1 (Nat.le_zero.1 h) with h | h
      · exact h
      · exact absurd h (Nat.ne_of_gt (Nat.two_pow_pos _))
    rw [V_inj (hv.trans V_zero.symm)]; exact Nat.zero_le _
  obtain ⟨E, kept, e1, e2, e3, e4, e5, e6⟩ := rnd_facts h0 place p h1 h2
  rw [e1]
  refine Nat.le_min.2 ⟨V_le.1 ?_, hr⟩
  rw [e2]
  generalize (-1074 - p).toNat = b at *
  generalize mag * 2 ^ (place - p).toNat = M at *
  obtain ⟨x, y, rfl, hy⟩ := split_r r
  have key : ∀ k0, V (x * (4503599627370496 : Nat) + y) = k0 * 2 ^ E → V (x * (4503599627370496 : Nat) + y) ≤ kept * 2 ^ E := fun k0 hk => by
    rw [hk] at h ⊢
    exact Nat.mul_le_mul_right _ (e4 k0 (by rw [Nat.pow_add, ← Nat.mul_assoc]; exact h))
  by_cases hx : E + 2 ≤ x
  · exfalso
    have h3 := (V_bd x y hy).1 (by omega)
    have h4 : (4503599627370496 : Nat) * 2 ^ (E + 1) ≤ (4503599627370496 : Nat) * 2 ^ (x - 1) := Nat.mul_le_mul_left _ (Nat.pow_le_pow_right (by decide) (by omega))
    rw [Nat.pow_add, ← Nat.mul_assoc] at e6
    have h6 : ¬ 2 * (4503599627370496 : Nat) * 2 ^ E ≤ V (x * (4503599627370496 : Nat) + y) := fun hc => by
      have := Nat.mul_le_mul_right (2 ^ b) hc
      omega
    rw [Nat.pow_succ] at h4
    omega
  · by_cases hx1 : x = E + 1
    · subst hx1
      exact key ((4503599627370496 : Nat) + y) (by rw [V_xy _ y hy, if_neg (by omega), Nat.add_sub_cancel])
    · by_cases hE : 1 ≤ E
      · have h3 := (V_bd x y hy).2
        have h4 : (4503599627370496 : Nat) * 2 ^ x ≤ (4503599627370496 : Nat) * 2 ^ E := Nat.mul_le_mul_left _ (Nat.pow_le_pow_right (by decide) (by omega))
        have h5 : (4503599627370496 : Nat) * 2 ^ E ≤ kept * 2 ^ E := Nat.mul_le_mul_right _ (e5 hE).1
        omega
      · obtain rfl : E = 0 := by omega
        exact key (V (x * (4503599627370496 : Nat) + y)) (by simp)
theorem rnd_eq {mag r : Nat} {place p : Int} (h1 : p ≤ place) (h2 : p ≤ -1074) (hr : r ≤ (9218868437227405312 : Nat)) (h : mag * 2 ^ (place - p).toNat = V r * 2 ^ (-1074 - p).toNat) : rnd mag place = r :=
  Nat.le_antisymm (rnd_le h1 h2 (Nat.le_of_eq h)) (rnd_ge h1 h2 hr (Nat.le_of_eq h.symm))
theorem rnd_inf (mag : Nat) (place : Int) : rnd mag place ≤ (9218868437227405312 : Nat) := by
  unfold rnd; split
  · omega
  · exact Nat.min_le_right _ _

/-! ## Words -/
def sgn (w : Nat) : Bool := w / (9223372036854775808 : Nat) % 2 == 1
def rg (w : Nat) : Nat := w % (9223372036854775808 : Nat)
def key (w : Nat) : Int := if sgn w then -(rg w : Int) else (rg w : Int)
def isN (w : Nat) : Bool := (FloatKind.f64.decode w).isNaN
theorem word_eq (s : Bool) (r : Nat) : Ieee.double.word s r = if s then (9223372036854775808 : Nat) + r else r := rfl
theorem sgn_word (s : Bool) {r : Nat} (h : r ≤ (9218868437227405312 : Nat)) : sgn (Ieee.double.word s r) = s ∧ rg (Ieee.double.word s r) = r := by
  rw [word_eq]
  cases s
  · simp only [Bool.false_eq_true, if_false]
    unfold sgn rg
    exact ⟨by rw [Nat.div_eq_of_lt (by omega)]; rfl, Nat.mod_eq_of_lt (by omega)⟩
  · simp only [if_true]
    unfold sgn rg
    rw [show ((9223372036854775808 : Nat) + r) / (9223372036854775808 : Nat) = 1 by omega, show ((9223372036854775808 : Nat) + r) % (9223372036854775808 : Nat) = r by omega]; exact ⟨rfl, rfl⟩
theorem word_self {w : Nat} (hw : w < 18446744073709551616) : Ieee.double.word (sgn w) (rg w) = w := by
  rw [word_eq]
  unfold sgn rg
  by_cases h : w < (9223372036854775808 : Nat)
  · rw [Nat.div_eq_of_lt h, Nat.mod_eq_of_lt h]; rfl
  · rw [show w / (9223372036854775808 : Nat) = 1 by omega, show w % (9223372036854775808 : Nat) = w - (9223372036854775808 : Nat) by omega]
    show (9223372036854775808 : Nat) + (w - (9223372036854775808 : Nat)) = w
    omega
theorem dec_eq (w : Nat) : FloatKind.f64.decode w = if rg w < (4503599627370496 : Nat) then .number (sgn w) (rg w) (-1074) else if rg w < (9218868437227405312 : Nat) then .number (sgn w) ((4503599627370496 : Nat) + rg w % (4503599627370496 : Nat)) (-1074 + ((rg w / (4503599627370496 : Nat) - 1 : Nat) : Int)) else if rg w = (9218868437227405312 : Nat) then .infinity (sgn w) else .nan (sgn w) (rg w - (9218868437227405312 : Nat)) := rfl
theorem dec_fin {w : Nat} (h : rg w < (9218868437227405312 : Nat)) : ∃ m e, FloatKind.f64.decode w = .number (sgn w) m e ∧ m * 2 ^ (e + 1074).toNat = V (rg w) ∧ -1074 ≤ e := by
  rw [dec_eq]
  unfold V
  split
  · exact ⟨_, _, rfl, by simp, by omega⟩
  · refine ⟨_, _, rfl, ?_, by omega⟩
    congr 2; omega
theorem dec_inf {w : Nat} (h : rg w = (9218868437227405312 : Nat)) : FloatKind.f64.decode w = .infinity (sgn w) := by rw [dec_eq, if_neg (by omega), if_neg (by omega), if_pos h]
theorem isN_iff {w : Nat} : isN w = false ↔ rg w ≤ (9218868437227405312 : Nat) := by
  unfold isN
  rw [dec_eq]
  split
  · exact ⟨fun _ => by omega, fun _ => rfl⟩
  · split
    · exact ⟨fun _ => by omega, fun _ => rfl⟩
    · split
      · exact ⟨fun _ => by omega, fun _ => rfl⟩
      · exact ⟨fun h => (by cases h), fun h => by omega⟩
theorem isN_word (s : Bool) {r : Nat} (h : r ≤ (9218868437227405312 : Nat)) : isN (Ieee.double.word s r) = false := isN_iff.2 (by rw [(sgn_word s h).2]; exact h)
theorem write_num (s : Bool) (m : Nat) (e : Int) : Ieee.double.write (.number s m e) = Ieee.double.word s (rnd m e) := nearest_rnd s m e
theorem isN_write {d : Datum} (h : d.isNaN = false) : isN (Ieee.double.write d) = false := by
  cases d with
  | nan s t => cases h
  | infinity s => exact isN_word s (Nat.le_refl (9218868437227405312 : Nat))
  | number s m e => rw [write_num]; exact isN_word s (rnd_inf m e)
end Go.Proofs.Ytaciaidehamfgaa.Fl
