/- Layer 8: Decode. Own work. -/
import Derived.Test.YtpadehbcjkhegaaDoorChunkU
import Derived.Test.YtpadehbcjkhegaaDoorSeq
namespace Go.Proofs.YtpadehbcjkhegaaDoor.Chunk
open Go Vm Go.RowKit Num Mem Bits Vint
variable {ω ω' : Tg} {w w' w0 : World} {bs : List UInt8}

theorem bits_or64 {x y : Nat} (hx : x < 18446744073709551616) (hy : y < 18446744073709551616) : Go.bits .or .i64 (x : Int) (y : Int) = IntKind.i64.wrap ((x ||| y : Nat) : Int) := by
  have e : (BitVec.ofNat 64 x ||| BitVec.ofNat 64 y).toNat = x ||| y := by
    rw [BitVec.toNat_or, BitVec.toNat_ofNat, BitVec.toNat_ofNat, Nat.mod_eq_of_lt (by omega), Nat.mod_eq_of_lt (by omega)]
  unfold Go.bits
  simp only [ofInt_nat]
  exact congrArg (fun t : Nat => IntKind.i64.wrap (t : Int)) e
theorem head2 {x y : Nat} (hx : x < 256) (hy : y < 256) : Go.bits .or .i64 (shl .i64 (IntKind.i64.wrap (x : Int)) (8 : Int)) (IntKind.i64.wrap (y : Int)) = ((x * 256 + y : Nat) : Int) := by
  have e := shl_nat .i64 (x : Int) 8 (by decide)
  rw [show ((8 : Nat) : Int) = (8 : Int) from rfl, show (x : Int) * 2 ^ 8 = ((x * 256 : Nat) : Int) by omega, wI64 (by omega) (by omega)] at e
  rw [wI64 (x := (x : Int)) (by omega) (by omega), wI64 (x := (y : Int)) (by omega) (by omega), e, bits_or64 (by omega) (by omega)]
  have := Nat.two_pow_add_eq_or_of_lt (b := y) (i := 8) hy x
  rw [show x * 256 = 2 ^ 8 * x by omega, ← this, wI64 (by omega) (by omega)]
theorem enc_bits {l : List Smp} (hl : Valid l) {a b : UInt8} {q : List UInt8} (e : a :: b :: q = enc l) : a.toNat * 256 + b.toNat = l.length ∧ q = pk (run l).1 ∧ ∃ m, rest q 0 = (run l).1 ++ List.replicate m false := by
  unfold enc at e
  simp only [List.cons.injEq] at e
  obtain ⟨rfl, rfl, rfl⟩ := e
  have := hl.len
  obtain ⟨m, hm⟩ := byteBits_pk (run l).1
  refine ⟨?_, rfl, m, hm⟩
  rw [ofNat_val (by omega), ofNat_val (by omega)]; omega
theorem enc_small {l : List Smp} (hl : Valid l) : (enc l).length ≤ 3000 := by
  have := hl.len
  have := run_len hl
  rw [enc_len]; omega

theorem decode_ok (hT : DTab w0) {b : Sl} (hb : RdB w0 b bs) {K : Sl → Int → World → Prop}
    (hE : (∀ l, Valid l → bs ≠ enc l) → ∀ w', Keep w0 w' → K nilS 3 w')
    (hK : ∀ l, Valid l → bs = enc l → ∀ r w', Keep w0 w' → Mem.Own w' w0.heap.size 26 2 r (smps l) → K r 0 w') : C.chunk_Decode b w0 K := by
  have hn := hb.len
  unfold C.chunk_Decode
  refine cond_d (fun h => hE (fun l _ e => ?_) w0 (Keep.refl w0)) (fun h => ?_)
  · have := enc_len l
    rw [← e] at this
    omega
  obtain ⟨x, y, q, rfl⟩ : ∃ x y q, bs = x :: y :: q := by
    rcases bs with _ | ⟨x, _ | ⟨y, q⟩⟩
    · simp at hn; omega
    · simp at hn; omega
    · exact ⟨x, y, q, rfl⟩
  have kd := Keep.drew w0
  have hx := x.toNat_lt
  have hy := y.toNat_lt
  have hlen : (x :: y :: q).length = q.length + 2 := rfl
  refine RdB.ati hb.drew (k := 0) rfl (by omega) ⟨by decide, ?_⟩
  refine RdB.ati hb.drew (k := 1) rfl (by omega) ?_
  refine RdB.slc hb (lo := 2) (hi := q.length + 2) (by omega) (by omega) rfl (by omega) fun r hr => ?_
  have eq : ((x :: y :: q).drop 2).take (q.length + 2 - 2) = q := by simp
  rw [eq] at hr
  have hrn := hr.len
  have e2 : Go.bits .or .i64 (shl .i64 (IntKind.i64.wrap (((x :: y :: q)[0]).toNat : Int)) (8 : Int)) (IntKind.i64.wrap (((x :: y :: q)[1]).toNat : Int)) = ((x.toNat * 256 + y.toNat : Nat) : Int) := head2 hx hy
  rw [e2]
  refine cond_d (fun h1 => hE (fun l hl e => ?_) _ kd) (fun h1 => cond_d (fun h2 => hE (fun l hl e => ?_) _ kd) (fun h2 => ?_))
  · obtain ⟨q1, _⟩ := enc_bits hl e
    have := hl.len
    omega
  · have := enc_small hl
    rw [← e] at this
    omega
  refine newRdr_ok (ω := fun _ => 0) hr.drew (by omega) 2 (by rw [wI64 (by omega) (by omega)]; omega) fun gr ω2 w2 s2 r2 => ?_
  refine new_T (ω := ω2) 1 fun gd ω3 w3 k3 b3 => ?_
  have top3 := ((Top.init w0).stp ((drew_stp _ w0).trans s2)).stp k3
  refine samples_ok (A := 0) (B := 0) (kn := false) (n := x.toNat * 256 + y.toNat) ⟨gr, b3, r2.stp k3⟩ rfl (by omega) fun s lst p' A' B' kn' bad' ω4 w4 o4 hv4 hl4 good s4 r4 => ?_
  have top4 := top3.stp s4
  have isl : ∀ l, Valid l → x :: y :: q = enc l → lst = l ∧ bad' = false := fun l hl e => by
    obtain ⟨q1, _, m, hm⟩ := enc_bits hl e
    exact good l _ hl q1.symm hm
  have fail : (∀ l, Valid l → x :: y :: q = enc l → False) → ∀ w', Keep w0 w' → K nilS 3 w' := fun h => hE fun l hl e => h l hl e
  refine encode_ok (hT.keep top4.k) o4.rd hv4 (by omega) (fun hf w5 k5 => ?_) (fun hf hval a w5 k5 o5 => ?_)
  · have k05 := Keep.trans top4.k k5
    have no := fail (fun l hl e => by
      obtain ⟨u1, _⟩ := isl l hl e
      subst u1
      exact hf (by rw [firstW_zero _ [] 0 hl])) w5 k05
    obtain ⟨gr5, b5, _⟩ := r4.ex
    refine cB_at (b := bad') (Keep.cell k5 (by rw [addr_add, b5.cell]; rfl)) ?_
    exact cond_of (fun _ => no) (fun _ => cond_t (by simp; exact hf) no)
  · have k05 := Keep.trans top4.k k5
    obtain ⟨gr5, b5, _⟩ := r4.ex
    refine cB_at (b := bad') (Keep.cell k5 (by rw [addr_add, b5.cell]; rfl)) ?_
    refine cond_of (fun hbad => fail (fun l hl e => ?_) w5 k05) (fun hbad => cond_f rfl ?_)
    · obtain ⟨_, u2⟩ := isl l hl e
      rw [u2] at hbad; cases hbad
    refine convBS o5.rd (convBS (hb.keep k05) ?_)
    rw [str_toList, str_toList]
    refine cond_of (fun hne => fail (fun l hl e => ?_) w5 k05) (fun heq => ?_)
    · obtain ⟨u1, _⟩ := isl l hl e
      subst u1
      rw [e] at hne
      simp at hne
    · have e : enc lst = x :: y :: q := by simpa using heq
      exact hK lst hval e.symm s w5 k05 ((o4.from top4 (by decide)).keep k5)
end Go.Proofs.YtpadehbcjkhegaaDoor.Chunk
