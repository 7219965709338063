/- Layer 1: varints; VintNumbers. Own work. -/
import Derived.Test.YtpgpdeojggcibaaDoorVintU
namespace Go.Proofs.YtpgpdeojggcibaaDoor.Vint
open Go Vm Go.RowKit Num Mem Crc

def zz (n : Int) : Nat := if 0 ≤ n then (2 * n).toNat else (-2 * n - 1).toNat
def bk (u : Nat) : Int := if u % 2 = 0 then ((u / 2 : Nat) : Int) else -((u / 2 : Nat) : Int) - 1
theorem bk_zz (n : Int) : bk (zz n) = n := by
  unfold bk zz
  split <;> split <;> omega
theorem zz_lt {n : Int} (h1 : -9223372036854775808 ≤ n) (h2 : n < 9223372036854775808) : zz n < 18446744073709551616 := by
  unfold zz; split <;> omega

theorem xor_all (x : Nat) (hx : x < 18446744073709551616) : x ^^^ 18446744073709551615 = 18446744073709551615 - x := by
  have h := BitVec.xor_allOnes (x := BitVec.ofNat 64 x)
  have := congrArg BitVec.toNat h
  rw [BitVec.toNat_xor, BitVec.toNat_not, BitVec.toNat_ofNat, BitVec.toNat_allOnes, Nat.mod_eq_of_lt (by omega)] at this
  exact this

theorem zig (n : Int) (h1 : -9223372036854775808 ≤ n) (h2 : n < 9223372036854775808) :
    Go.bits .xor .u64 (shl .u64 (IntKind.u64.wrap n) (1 : Int)) (IntKind.u64.wrap (shr .i64 n (63 : Int))) = ((zz n : Nat) : Int) := by
  have e1 := shl_nat .u64 (IntKind.u64.wrap n) 1 (by decide)
  have e2 := shr_nat .i64 n 63 (by decide)
  rw [show ((1 : Nat) : Int) = (1 : Int) from rfl] at e1
  rw [show ((63 : Nat) : Int) = (63 : Int) from rfl] at e2
  rw [e1, e2]
  by_cases h : 0 ≤ n
  · rw [show n / 2 ^ 63 = ((0 : Nat) : Int) by omega, wU64_id (x := ((0 : Nat) : Int)) (by decide) (by decide), wU64_id (x := n) h (by omega),
      show n * 2 ^ 1 = (((2 * n).toNat : Nat) : Int) by omega, wU64_id (by omega) (by omega), bits_xor rfl (by simp only [IntKind.bits]; omega) (by decide), Nat.xor_zero]
    unfold zz
    rw [if_pos h]
  · have ew : IntKind.u64.wrap (IntKind.u64.wrap n * 2 ^ 1) = (((2 * n + 18446744073709551616).toNat : Nat) : Int) := by
      rw [wU64, wU64]; omega
    have es : IntKind.u64.wrap (n / 2 ^ 63) = ((18446744073709551615 : Nat) : Int) := by rw [wU64]; omega
    rw [ew, es, bits_xor rfl (by simp only [IntKind.bits]; omega) (by decide), xor_all _ (by omega)]
    unfold zz
    rw [if_neg h]
    omega

theorem bits_xor64 {x y : Nat} (hx : x < 18446744073709551616) (hy : y < 18446744073709551616) : Go.bits .xor .i64 (x : Int) (y : Int) = IntKind.i64.wrap ((x ^^^ y : Nat) : Int) := by
  have e : (BitVec.ofNat 64 x ^^^ BitVec.ofNat 64 y).toNat = x ^^^ y := by
    rw [BitVec.toNat_xor, BitVec.toNat_ofNat, BitVec.toNat_ofNat, Nat.mod_eq_of_lt (by omega), Nat.mod_eq_of_lt (by omega)]
  unfold Go.bits
  simp only [ofInt_nat]
  exact congrArg (fun t : Nat => IntKind.i64.wrap (t : Int)) e
theorem ofInt_neg1 : BitVec.ofInt 64 (-1) = BitVec.ofInt 64 ((18446744073709551615 : Nat) : Int) := by decide +kernel
theorem bits_xor_neg (x : Int) : Go.bits .xor .i64 x (-1) = Go.bits .xor .i64 x ((18446744073709551615 : Nat) : Int) := by
  unfold Go.bits
  exact congrArg (fun t : BitVec 64 => IntKind.i64.wrap (((BitVec.ofInt 64 x ^^^ t).toNat : Nat) : Int)) ofInt_neg1

theorem zag (u : Nat) (hu : u < 18446744073709551616) :
    Go.bits .xor .i64 (IntKind.i64.wrap (shr .u64 (u : Int) (1 : Int))) (IntKind.i64.wrap (0 - (IntKind.i64.wrap (Go.bits .and .u64 (u : Int) (1 : Int))))) = bk u := by
  have e2 := shr_nat .u64 (u : Int) 1 (by decide)
  rw [show ((1 : Nat) : Int) = (1 : Int) from rfl] at e2
  have e3 : Go.bits .and .u64 (u : Int) (1 : Int) = ((u % 2 : Nat) : Int) := by
    rw [show (1 : Int) = ((1 : Nat) : Int) from rfl, bits_and rfl (by simp only [IntKind.bits]; omega) (by decide), Nat.and_one_is_mod]
  rw [e2, e3, show (u : Int) / 2 ^ 1 = ((u / 2 : Nat) : Int) by omega, wI64 (x := ((u / 2 : Nat) : Int)) (by omega) (by omega), wI64 (x := ((u % 2 : Nat) : Int)) (by omega) (by omega), wI64 (by omega) (by omega)]
  unfold bk
  by_cases h : u % 2 = 0
  · rw [if_pos h, h, show (0 : Int) - ((0 : Nat) : Int) = ((0 : Nat) : Int) from rfl, bits_xor64 (by omega) (by omega), Nat.xor_zero, wI64 (by omega) (by omega)]
  · rw [if_neg h, show u % 2 = 1 by omega, show (0 : Int) - ((1 : Nat) : Int) = -1 from rfl, bits_xor_neg, bits_xor64 (by omega) (by omega), xor_all _ (by omega), wI64']
    split <;> omega

theorem uvGo_lt (p : Nat) : ∀ (l : List UInt8) (i n : Nat), i ≤ 9 → n < 128 ^ i → (uvGo p l i n).1 < 18446744073709551616
  | [], _, _, _, _ => by simp [uvGo]
  | c :: t, i, n, hi, hn => by
    rw [uvGo]
    split
    · simp
    split
    · simp
    have hc := c.toNat_lt
    obtain ⟨_, q1, q2⟩ := orStep (x := c.toNat % 128) (X := ((c.toNat % 128 : Nat) : Int)) (Y := ((7 * i : Nat) : Int)) hi hn (Nat.mod_lt _ (by decide)) (fun h => by omega) rfl rfl
    split
    · exact q2
    · refine uvGo_lt p t (i + 1) _ ?_ q1
      rcases Nat.lt_or_ge i 9 with h9 | h9 <;> omega
theorem uvGo_bad (p : Nat) : ∀ (l : List UInt8) (i n : Nat), (uvGo p l i n).2.2 ≠ 0 → (uvGo p l i n).1 = 0 ∧ (uvGo p l i n).2.1 = 0
  | [], _, _, _ => by simp [uvGo]
  | c :: t, i, n, h => by
    rw [uvGo] at h ⊢
    split
    · simp
    split
    · simp
    split
    · rw [if_neg ‹_›, if_neg ‹_›, if_pos ‹_›] at h; exact absurd rfl h
    · rw [if_neg ‹_›, if_neg ‹_›, if_neg ‹_›] at h; exact uvGo_bad p t _ _ h
theorem uv_lt (l : List UInt8) (p : Int) : (uv l p).1 < 18446744073709551616 := by
  unfold uv; split
  · simp
  · exact uvGo_lt _ _ _ _ (by omega) (by decide)
theorem uv_bad {l : List UInt8} {p : Int} (h : (uv l p).2.2 ≠ 0) : (uv l p).1 = 0 ∧ (uv l p).2.1 = 0 := by
  unfold uv at h ⊢; split
  · simp
  · rw [if_neg ‹_›] at h; exact uvGo_bad _ _ _ _ h

theorem putI_ok {w0 : World} {b : Sl} {l : List UInt8} {n : Int} (h1 : -9223372036854775808 ≤ n) (h2 : n < 9223372036854775808) (hb : RdB w0 b l) (hl : l.length ≤ 140737488355300) {K : Sl → World → Prop}
    (hK : ∀ r w', Keep w0 w' → OwnB w' w0.heap.size r (l ++ putU (zz n)) → K r w') : C.vint_PutI b n w0 K := by
  unfold C.vint_PutI
  refine ⟨by decide, by decide, ?_⟩
  rw [zig n h1 h2]
  exact putU_ok (zz_lt h1 h2) hb hl hK
theorem rputI_ok {w0 : World} {b : Sl} {l : List UInt8} {n : Int} (h1 : -9223372036854775808 ≤ n) (h2 : n < 9223372036854775808) (hb : RdB w0 b l) (hl : l.length ≤ 140737488355300) {K : Sl → World → Prop}
    (hK : ∀ r w', Keep w0 w' → OwnB w' w0.heap.size r (l ++ putU (zz n)) → K r w') : C.tocsinref01_PutI b n w0 K := by
  have hz := zz_lt h1 h2
  unfold C.tocsinref01_PutI C.tocsinref01_turn
  have fin := rputU_ok hz hb hl hK
  refine cond_d (fun h => ?_) (fun h => ?_)
  · rw [show IntKind.u64.wrap ((2 : Int) * (IntKind.u64.wrap n)) = ((zz n : Nat) : Int) by unfold zz; rw [if_pos (by omega), wU64, wU64]; omega]
    exact fin
  · rw [wI64 (x := n + 1) (by omega) (by omega), wI64 (by omega) (by omega),
      show IntKind.u64.wrap ((IntKind.u64.wrap ((2 : Int) * (IntKind.u64.wrap (0 - (n + 1))))) + (1 : Int)) = ((zz n : Nat) : Int) by unfold zz; rw [if_neg (by omega), wU64, wU64, wU64]; omega]
    exact fin

theorem i_ok {w : World} {b : Sl} {l : List UInt8} (hb : RdB w b l) (hl : l.length ≤ 140737488355328) (p : Int) {K : Int → Int → Int → World → Prop}
    (hK : K (bk (uv l p).1) ((uv l p).2.1 : Int) ((uv l p).2.2 : Int) w) : C.vint_I b p w K := by
  unfold C.vint_I
  refine u_ok hb hl p ⟨by decide, ?_⟩
  rw [zag _ (uv_lt l p)]
  exact hK
theorem ri_ok {w : World} {b : Sl} {l : List UInt8} (hb : RdB w b l) (hl : l.length ≤ 140737488355328) (p : Int) {K : Int → Int → Int → World → Prop}
    (hK : K (bk (uv l p).1) ((uv l p).2.1 : Int) ((uv l p).2.2 : Int) w) : C.tocsinref01_I b p w K := by
  unfold C.tocsinref01_I
  refine ru_ok hb hl p ?_
  have hlt := uv_lt l p
  refine cond_ne (fun h => ?_) (fun h => ?_)
  · have h' : (uv l p).2.2 ≠ 0 := fun e => h (by rw [e]; rfl)
    obtain ⟨e1, e2⟩ := uv_bad h'
    rw [e1, e2] at hK
    exact hK
  · rw [h] at hK
    unfold C.tocsinref01_back
    refine ⟨by decide, ?_⟩
    generalize (uv l p).1 = u at hK hlt
    rw [show Int.tmod (u : Int) (2 : Int) = ((u % 2 : Nat) : Int) from rfl, show Int.tdiv (u : Int) (2 : Int) = ((u / 2 : Nat) : Int) from rfl]
    unfold bk at hK
    refine cond_eq (fun h2 => ⟨by decide, ?_⟩) (fun h2 => ⟨by decide, ?_⟩)
    · rw [if_pos (by omega)] at hK
      rw [wU64_id (by omega) (by omega), wI64 (by omega) (by omega)]; exact hK
    · rw [if_neg (by omega)] at hK
      rw [wU64_id (by omega) (by omega), wI64 (x := ((u / 2 : Nat) : Int)) (by omega) (by omega), wI64 (x := 0 - ((u / 2 : Nat) : Int)) (by omega) (by omega), wI64 (by omega) (by omega), show (0 : Int) - ((u / 2 : Nat) : Int) - 1 = -((u / 2 : Nat) : Int) - 1 by omega]
      exact hK

theorem numbers_ok {w : World} (ht : Tab w) {b : Sl} {l : List UInt8} {n : Nat} {m p : Int} (hb : RdB w b l) (hl : l.length ≤ 140737488000000) (hn : n < 18446744073709551616)
    (h1 : -9223372036854775808 ≤ m) (h2 : m < 9223372036854775808) {K : Bool → World → Prop} (hK : ∀ w', Keep w w' → K true w') : C.tocsinlaw01_VintNumbers b (n : Int) m p w K := by
  unfold C.tocsinlaw01_VintNumbers
  have z1 := putU_len64 hn
  have z2 := putU_len64 (zz_lt h1 h2)
  refine lent_ok hb hl fun own w1 k1 o1 => ?_
  refine putU_ok hn o1.rd (by omega) fun x w2 k2 ox => ?_
  refine putI_ok h1 h2 (Lent.rd (o1.keep k2)) (by omega) fun y w3 k3 oy => ?_
  have k02 := Keep.trans k1 k2
  have k03 := Keep.trans k02 k3
  refine rputU_ok hn (hb.keep k03) (by omega) fun rx w4 k4 orx => ?_
  refine same_yes (Own.keep (Own.keep ox k3) k4).rd orx.rd (by simp; omega) fun d => ?_
  refine cond_f (by rfl) ?_
  have k4d := Keep.trans k4 (Keep.drewN w4 d)
  refine rputI_ok h1 h2 (hb.keep (Keep.trans k03 k4d)) (by omega) fun ry w5 k5 ory => ?_
  have k35 := Keep.trans k4d k5
  refine same_yes (Own.keep oy k35).rd ory.rd (by simp; omega) fun d2 => ?_
  refine cond_f (by rfl) ?_
  have k36 := Keep.trans k35 (Keep.drewN w5 d2)
  have k06 := Keep.trans k03 k36
  have ox6 := Own.keep (Own.keep ox k3) k36
  have oy6 := Own.keep oy k36
  have ow6 := Lent.keep (o1.keep (Keep.trans k2 k3)) k36
  generalize w5.drewN d2 = w6 at *
  refine spoil_ok ox6 (by have := k1.size; have := k2.size; have := k3.size; have := k36.size; omega) (by simp; omega) fun w7 t7 => ?_
  have oy7 := Own.turn oy6 t7 (Own.ne ox oy (Nat.le_refl _))
  refine spoil_ok oy7 (by have := t7.size; have := k3.size; have := k36.size; omega) (by simp; omega) fun w8 t8 => ?_
  have k08 : Keep w w8 := by
    refine Turn.below (Turn.below k06 t7 (by have := k06.size; omega) fun k hk => ?_) t8 (by have := k06.size; have := t7.size; omega) fun k hk => ?_
    · have := (Own.ge ox hk).1; have := k1.size; omega
    · have := (Own.ge oy hk).1; have := k02.size; omega
  have ow8 : Lent w8 w.heap.size own l := by
    refine Lent.turn (Lent.turn ow6 t7 fun g hg hg' => ?_) t8 fun g hg hg' => ?_
    · have := (Own.ge ox hg).1; have := (Lent.size o1 hg').2; omega
    · have := (Own.ge oy hg).1; have := (Lent.size o1 hg').2; have := k2.size; omega
  have hb8 := hb.keep k08
  refine u_ok ow8.rd (by omega) p ?_
  refine ru_ok hb8 (by omega) p ?_
  refine i_ok ow8.rd (by omega) p ?_
  refine ri_ok hb8 (by omega) p ?_
  refine cond_t (by simp) <| cond_t (by simp) <| cond_t (by simp) <| cond_t (by simp) <| cond_t (by simp) <| cond_t (by simp) ?_
  refine kept_ok ow8 hb8 hl fun d => ?_
  refine cond_t rfl ?_
  have k9 := Keep.trans k08 (Keep.drewN w8 d)
  exact known_ok (ht.keep k9) fun w' k => hK w' (Keep.trans k9 k)
end Go.Proofs.YtpgpdeojggcibaaDoor.Vint
