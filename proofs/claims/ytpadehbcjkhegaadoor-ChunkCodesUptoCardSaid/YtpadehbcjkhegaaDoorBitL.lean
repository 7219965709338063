/- math/bits: how long a number is, how many bits 0 it ends with. Own work. -/
import Derived.Test.YtpadehbcjkhegaaDoorBitN
import Derived.Test.YtpadehbcjkhegaaDoorCa1
namespace Go.Proofs.YtpadehbcjkhegaaDoor.Bits
open Go Vm Go.RowKit Num Mem

/-! ## Plain laws -/
theorem bitLenAux_le : ∀ f x, Lib.bitLenAux f x ≤ f
  | 0, _ => Nat.le_refl _
  | f + 1, x => by
    simp only [Lib.bitLenAux]
    split
    · omega
    · have := bitLenAux_le f (x / 2); omega
theorem bitLenAux_lt : ∀ f x, x < 2 ^ f → x < 2 ^ Lib.bitLenAux f x
  | 0, x, h => by simpa [Lib.bitLenAux] using h
  | f + 1, x, h => by
    simp only [Lib.bitLenAux]
    split
    · simp; omega
    · have := bitLenAux_lt f (x / 2) (by rw [Nat.pow_succ] at h; omega)
      rw [Nat.pow_add]; omega
theorem bitLenAux_ge : ∀ f x k, x < 2 ^ f → 2 ^ k ≤ x → k < Lib.bitLenAux f x
  | 0, x, k, h, hk => by
    have : 0 < 2 ^ k := Nat.pow_pos (by decide)
    simp at h; omega
  | f + 1, x, k, h, hk => by
    have hp : 0 < 2 ^ k := Nat.pow_pos (by decide)
    simp only [Lib.bitLenAux]
    rw [if_neg (by omega)]
    cases k with
    | zero => omega
    | succ k =>
      have := bitLenAux_ge f (x / 2) k (by rw [Nat.pow_succ] at h; omega) (by rw [Nat.pow_succ] at hk; omega)
      omega
theorem bitLen_le (x : Nat) : Lib.bitLen x ≤ 64 := bitLenAux_le 64 x
theorem bitLen_lt {x : Nat} (h : x < 18446744073709551616) : x < 2 ^ Lib.bitLen x := bitLenAux_lt 64 x h
theorem bitLen_ge {x k : Nat} (h : x < 18446744073709551616) (hk : 2 ^ k ≤ x) : k < Lib.bitLen x := bitLenAux_ge 64 x k h hk
theorem trail_spec {x : Nat} (h : x < 18446744073709551616) (h0 : x ≠ 0) : ∃ m, x = 2 ^ trail x * (2 * m + 1) ∧ trail x < 64 := by
  unfold trail Lib.ctz
  rw [if_neg h0]
  exact Lib.ctzFrom_spec 64 x (by omega) h
theorem lead_trail {x : Nat} (h : x < 18446744073709551616) (h0 : x ≠ 0) : lead x + trail x ≤ 63 := by
  obtain ⟨m, hm, hk⟩ := trail_spec h h0
  have h1 : 2 ^ trail x ≤ x := by
    conv => rhs; rw [hm]
    exact Nat.le_mul_of_pos_right _ (by omega)
  have := bitLen_ge h h1
  have := bitLen_le x
  unfold lead; omega
theorem lead_le (x : Nat) : lead x ≤ 31 := by unfold lead; omega
theorem lt_lead {x a : Nat} (h : x < 18446744073709551616) (ha : a ≤ lead x) : x < 2 ^ (64 - a) := by
  have h1 := bitLen_lt h
  have := bitLen_le x
  refine Nat.lt_of_lt_of_le h1 (Nat.pow_le_pow_right (by decide) ?_)
  unfold lead at ha; omega
/-- The bits between. -/
theorem mid_lt {x a b : Nat} (h : x < 18446744073709551616) (ha : a ≤ lead x) (hab : a + b ≤ 64) : x / 2 ^ b < 2 ^ (64 - a - b) := by
  have h1 := lt_lead h ha
  refine Nat.div_lt_of_lt_mul ?_
  rw [← Nat.pow_add, show b + (64 - a - b) = 64 - a by omega]
  exact h1
theorem mul_div_trail {x b : Nat} (h : x < 18446744073709551616) (h0 : x ≠ 0) (hb : b ≤ trail x) : x / 2 ^ b * 2 ^ b = x := by
  obtain ⟨m, hm, hk⟩ := trail_spec h h0
  refine Nat.div_mul_cancel ?_
  conv => rhs; rw [hm]
  exact Nat.dvd_trans (Nat.pow_dvd_pow 2 hb) (Nat.dvd_mul_right _ _)

/-! ## The library's functions -/
def len8s : ByteArray := ⟨#[0, 1, 2, 2, 3, 3, 3, 3, 4, 4, 4, 4, 4, 4, 4, 4, 5, 5, 5, 5, 5, 5, 5, 5, 5, 5, 5, 5, 5, 5, 5, 5, 6, 6, 6, 6, 6, 6, 6, 6, 6, 6, 6, 6, 6, 6, 6, 6, 6, 6, 6, 6, 6, 6, 6, 6, 6, 6, 6, 6, 6, 6, 6, 6, 7, 7, 7, 7, 7, 7, 7, 7, 7, 7, 7, 7, 7, 7, 7, 7, 7, 7, 7, 7, 7, 7, 7, 7, 7, 7, 7, 7, 7, 7, 7, 7, 7, 7, 7, 7, 7, 7, 7, 7, 7, 7, 7, 7, 7, 7, 7, 7, 7, 7, 7, 7, 7, 7, 7, 7, 7, 7, 7, 7, 7, 7, 7, 7, 8, 8, 8, 8, 8, 8, 8, 8, 8, 8, 8, 8, 8, 8, 8, 8, 8, 8, 8, 8, 8, 8, 8, 8, 8, 8, 8, 8, 8, 8, 8, 8, 8, 8, 8, 8, 8, 8, 8, 8, 8, 8, 8, 8, 8, 8, 8, 8, 8, 8, 8, 8, 8, 8, 8, 8, 8, 8, 8, 8, 8, 8, 8, 8, 8, 8, 8, 8, 8, 8, 8, 8, 8, 8, 8, 8, 8, 8, 8, 8, 8, 8, 8, 8, 8, 8, 8, 8, 8, 8, 8, 8, 8, 8, 8, 8, 8, 8, 8, 8, 8, 8, 8, 8, 8, 8, 8, 8, 8, 8, 8, 8, 8, 8, 8, 8, 8, 8, 8, 8, 8, 8, 8, 8, 8, 8, 8, 8]⟩
theorem len8s_at : ∀ n : Fin 256, len8s[n.val]? = some (UInt8.ofNat (Lib.bitLen n.val)) := by decide +kernel
theorem ixs_len {n : Nat} (hn : n < 256) {i : Int} (hi : i = (n : Int)) {K : Int → Prop} (hK : K ((Lib.bitLen n : Nat) : Int)) : G.ixS len8s i K := by
  subst hi
  refine ⟨UInt8.ofNat (Lib.bitLen n), by omega, len8s_at ⟨n, hn⟩, ?_⟩
  have := Lib.bitLen_le8 ⟨n, hn⟩
  rw [UInt8.toNat_ofNat', Nat.mod_eq_of_lt (by simp only at this; omega)]
  exact hK
theorem shr64 {x k : Nat} (hk : k ≤ 64) : shr .u64 (x : Int) (k : Int) = ((x / 2 ^ k : Nat) : Int) := by
  have e := shr_nat .u64 (x : Int) k (by simp only [IntKind.bits]; omega)
  rw [e]; simp
theorem len64_ok {x : Nat} (h : x < 18446744073709551616) {w : World} {K : Int → World → Prop} (hK : K ((Lib.bitLen x : Nat) : Int) w) : C.bits_Len64 (x : Int) w K := by
  have hb := bitLen_le x
  have s2 : ∀ (y n : Nat), y < 65536 → n + Lib.bitLen y = Lib.bitLen x → C.bits_Len64.S2 K (y : Int) (n : Int) w := by
    intro y n hy hn
    unfold C.bits_Len64.S2
    refine cond_d (fun h1 => ⟨by decide, ?_⟩) (fun h1 => ?_)
    · have e : shr .u64 (y : Int) (8 : Int) = ((y / 2 ^ 8 : Nat) : Int) := shr64 (k := 8) (by decide)
      rw [e]
      have h8 := Lib.bitLen_shift 8 y (by omega) (by omega)
      refine ixs_len (n := y / 2 ^ 8) (by omega) (by rw [wU8_id (by omega) (by omega)]) ?_
      rw [wI64 (x := (n : Int) + 8) (by omega) (by omega), wI64 (x := ((Lib.bitLen _ : Nat) : Int)) (by omega) (by omega), wI64 (by omega) (by omega), show (n : Int) + 8 + ((Lib.bitLen (y / 2 ^ 8) : Nat) : Int) = ((Lib.bitLen x : Nat) : Int) by omega]
      exact hK
    · refine ixs_len (n := y) (by omega) (by rw [wU8_id (by omega) (by omega)]) ?_
      rw [wI64 (x := ((Lib.bitLen _ : Nat) : Int)) (by omega) (by omega), wI64 (by omega) (by omega), show (n : Int) + ((Lib.bitLen y : Nat) : Int) = ((Lib.bitLen x : Nat) : Int) by omega]
      exact hK
  have s3 : ∀ (y n : Nat), y < 4294967296 → n + Lib.bitLen y = Lib.bitLen x → C.bits_Len64.S3 K (y : Int) (n : Int) w := by
    intro y n hy hn
    unfold C.bits_Len64.S3
    refine cond_d (fun h1 => ⟨by decide, ?_⟩) (fun h1 => s2 y n (by omega) hn)
    have e : shr .u64 (y : Int) (16 : Int) = ((y / 2 ^ 16 : Nat) : Int) := shr64 (k := 16) (by decide)
    have h8 := Lib.bitLen_shift 16 y (by omega) (by omega)
    rw [e, wI64 (by omega) (by omega), show (n : Int) + 16 = ((n + 16 : Nat) : Int) by omega]
    exact s2 _ _ (by omega) (by omega)
  unfold C.bits_Len64
  refine cond_d (fun h1 => ⟨by decide, ?_⟩) (fun h1 => s3 x 0 (by omega) (by omega))
  have e : shr .u64 (x : Int) (32 : Int) = ((x / 2 ^ 32 : Nat) : Int) := shr64 (k := 32) (by decide)
  have h8 := Lib.bitLen_shift 32 x (by omega) (by omega)
  rw [e]
  exact s3 _ 32 (by omega) (by omega)
theorem leading_ok {x : Nat} (h : x < 18446744073709551616) {w : World} {K : Int → World → Prop} (hK : K ((64 - Lib.bitLen x : Nat) : Int) w) : C.bits_LeadingZeros64 (x : Int) w K := by
  have hb := bitLen_le x
  unfold C.bits_LeadingZeros64
  refine len64_ok h ?_
  rw [wI64 (by omega) (by omega), show (64 : Int) - ((Lib.bitLen x : Nat) : Int) = ((64 - Lib.bitLen x : Nat) : Int) by omega]
  exact hK
/-- The table of the library stands in its variable. -/
def DTab (w : World) : Prop := ∀ j, j < 64 → w.cell? ⟨1, j, none⟩ = some (.int .u8 ((Lib.deBruijn64tab.getD j 0 : Nat) : Int))
theorem DTab.keep {w w' : World} (h : DTab w) (k : Keep w w') : DTab w' := fun i hi => k.cell (h i hi)
theorem DTab.top {w0 w : World} {ω : Tg} (h : DTab w0) (k : Top w0 ω w) : DTab w := h.keep k.k
theorem trailing_ok {x : Nat} (h : x < 18446744073709551616) (h0 : x ≠ 0) {w : World} (ht : DTab w) {K : Int → World → Prop} (hK : K ((trail x : Nat) : Int) w) : C.bits_TrailingZeros64 (x : Int) w K := by
  unfold C.bits_TrailingZeros64
  refine cond_f (by simp; omega) ⟨by decide, ?_⟩
  obtain ⟨hlow, hk⟩ := Lib.lowest_bit 64 x h0 h
  obtain ⟨hi, htab⟩ := Lib.deBruijn64_at _ hk
  have e1 : IntKind.u64.wrap (0 - (x : Int)) = ((18446744073709551616 - x : Nat) : Int) := by rw [wU64]; omega
  rw [e1, bits_and rfl (by simp only [IntKind.bits]; omega) (by simp only [IntKind.bits]; omega), show x &&& (18446744073709551616 - x) = x &&& (2 ^ 64 - x) from rfl, hlow]
  have e2 : IntKind.u64.wrap (((2 ^ Lib.ctz 64 x : Nat) : Int) * 285870213051353865) = ((2 ^ Lib.ctz 64 x * 285870213051353865 % 18446744073709551616 : Nat) : Int) := by rw [wU64]; omega
  rw [e2, show (58 : Int) = ((58 : Nat) : Int) from rfl, shr64 (by decide), show (2 : Nat) ^ 58 = 288230376151711744 from rfl]
  generalize 2 ^ Lib.ctz 64 x * 285870213051353865 % 18446744073709551616 / 288230376151711744 = j at *
  refine ⟨⟨by omega, by omega⟩, cI_at (n := ((trail x : Nat) : Int)) ?_ ?_⟩
  · rw [addr_add, Int.toNat_natCast, Nat.mul_one, Nat.zero_add, ht j hi, htab]; rfl
  · have : trail x < 64 := hk
    rw [wI64 (by omega) (by omega)]
    exact hK
theorem mask_ok {n : Nat} (hn : n ≤ 64) {w : World} {K : Int → World → Prop} (hK : K ((2 ^ n - 1 : Nat) : Int) w) : C.chunk_mask (n : Int) w K := by
  unfold C.chunk_mask
  refine cond_d (fun h => ?_) (fun h => ⟨by rw [wU64_id (by omega) (by omega)]; omega, ?_⟩)
  · rw [show n = 64 by omega] at hK; exact hK
  · have hp : 2 ^ n ≤ 2 ^ 63 := Nat.pow_le_pow_right (by decide) (by omega)
    have hp0 : 0 < 2 ^ n := Nat.pow_pos (by decide)
    have e := shl_nat .u64 (1 : Int) n (by simp only [IntKind.bits]; omega)
    rw [show (1 : Int) * 2 ^ n = ((2 ^ n : Nat) : Int) by simp, wU64_id (by omega) (by omega)] at e
    rw [wU64_id (x := (n : Int)) (by omega) (by omega), e, show ((2 ^ n : Nat) : Int) - 1 = ((2 ^ n - 1 : Nat) : Int) by omega, wU64_id (by omega) (by omega)]
    exact hK
theorem and_mask {x n : Nat} (hx : x < 2 ^ n) (hn : n ≤ 64) : Go.bits .and .u64 (x : Int) ((2 ^ n - 1 : Nat) : Int) = (x : Int) := by
  have h1 : 2 ^ n ≤ 2 ^ 64 := Nat.pow_le_pow_right (by decide) hn
  rw [bits_and rfl (by simp only [IntKind.bits]; omega) (by simp only [IntKind.bits]; omega), Nat.and_two_pow_sub_one_eq_mod, Nat.mod_eq_of_lt hx]
end Go.Proofs.YtpadehbcjkhegaaDoor.Bits
