/- Layer 8: the reference's Encode, Decode, Split and Join; ChunkPieces. Own work. -/
import Derived.Test.YtpadehbcjkhegaaDoorChunkG5
import Derived.Test.YtpadehbcjkhegaaDoorChunkM
namespace Go.Proofs.YtpadehbcjkhegaaDoor.Chunk
open Go Vm Go.RowKit Num Mem Bits Vint Rep
variable {ω ω' : Tg} {w w' w0 : World} {bs : List UInt8}

theorem rencode_ok {s : Sl} {m : List Smp} (hs : Rd w0 s 2 (smps m)) (hm : ∀ x ∈ m, x.2 < 18446744073709551616) (hl : m.length ≤ 9223372036854775807) {K : Sl → Int → Int → World → Prop}
    (hE : (firstW [] m 0).1 ≠ 0 → ∀ w', Keep w0 w' → K nilS (firstW [] m 0).1 ((firstW [] m 0).2 : Int) w')
    (hK : (firstW [] m 0).1 = 0 → Valid m → ∀ r w', Keep w0 w' → OwnB w' w0.heap.size r (enc m) → K r 0 0 w') : C.tocsinref08_Encode s w0 K := by
  have hsn : s.n = m.length := by have := hs.2.1; rw [smps_len] at this; omega
  unfold C.tocsinref08_Encode C.tocsinref08_Encode.S9
  refine C.tocsinref08_Encode.L5_ind fun X hX => ?_
  have key : ∀ (d i : Nat) (w : World), i + d = m.length → firstW (m.take i) (m.drop i) i = firstW [] m 0 → Keep w0 w → Valid (m.take i) → X s s ((s.n : Nat) : Int) (i : Int) w := by
    intro d
    induction d with
    | zero =>
      intro i w hi hf k hv
      refine hX _ _ _ _ _ ?_
      unfold C.tocsinref08_Encode.S7 C.tocsinref08_Encode.S2
      refine cond_d (fun h => by omega) (fun _ => ?_)
      rw [show i = m.length by omega, List.take_length] at hv
      rw [show i = m.length by omega, List.drop_length] at hf
      exact rbytes_ok (hs.keep k) hv fun r w' k' o => hK (by rw [← hf]; rfl) hv r w' (Keep.trans k k') (Mem.Own.mono o k.size)
    | succ d ih =>
      intro i w hi hf k hv
      have him : i < m.length := by omega
      refine hX _ _ _ _ _ ?_
      unfold C.tocsinref08_Encode.S7
      refine cond_d (fun _ => ?_) (fun h => by omega)
      have hx : m[i]? = some m[i] := List.getElem?_eq_getElem him
      refine rdS_at (hs.keep k) (k := i) rfl hx fun a hc0 hc1 => cI_at hc0 <| cF_at hc1 ?_
      refine new_T (ω := fun _ => 0) 7 fun g ω2 w2 k2 b2 => ?_
      refine st_T b2 (by simp) fun ω3 w3 k3 b3 => ?_
      refine st_TA b3 (by simp) fun ω4 w4 k4 b4 => ?_
      have k04 := Keep.trans k ((Top.init w).stp ((k2.non (Mem.One 7)).trans (k3.trans k4))).k
      refine Rd.slc (hs.keep k04) (lo := 0) (hi := i) (by omega) (by omega) rfl rfl fun q hq _ _ => ?_
      rw [take_smps m i (by omega)] at hq
      have kd := Keep.trans k04 (Keep.drew w4)
      refine cI_at (n := m[i].1) (by rw [(b4.stp (drew_stp ω4 w4)).cell]; rfl) ?_
      refine wrong_ok hq.drew hv.len ?_
      have dr : m.drop i = m[i] :: m.drop (i + 1) := List.drop_eq_getElem_cons him
      have tk : m.take (i + 1) = m.take i ++ [m[i]] := by rw [List.take_add_one, hx]; rfl
      rw [dr, firstW] at hf
      refine cond_ne (fun hne => ?_) (fun heq => ?_)
      · rw [if_neg hne] at hf
        have := hE (by rw [← hf]; exact hne) _ kd
        rwa [← hf] at this
      · rw [if_pos heq] at hf
        rw [wI64 (by omega) (by omega), show (i : Int) + 1 = ((i + 1 : Nat) : Int) by omega]
        exact ih (i + 1) _ (by omega) (by rw [tk]; exact hf) kd (by rw [tk]; exact .snoc hv heq (hm _ (List.getElem_mem him)))
  exact key m.length 0 w0 (by omega) rfl (Keep.refl w0) .nil

theorem head2R {x y : Nat} (hx : x < 256) (hy : y < 256) : IntKind.i64.wrap ((IntKind.i64.wrap ((IntKind.i64.wrap (x : Int)) * (256 : Int))) + (IntKind.i64.wrap (y : Int))) = ((x * 256 + y : Nat) : Int) := by
  rw [wI64 (x := (x : Int)) (by omega) (by omega), wI64 (x := (y : Int)) (by omega) (by omega), wI64 (x := (x : Int) * 256) (by omega) (by omega), wI64 (by omega) (by omega)]
  omega

theorem rdecode_ok {b : Sl} (hb : RdB w0 b bs) {K : Sl → Int → World → Prop}
    (hE : (∀ l, Valid l → bs ≠ enc l) → ∀ w', Keep w0 w' → K nilS 3 w')
    (hK : ∀ l, Valid l → bs = enc l → ∀ r w', Keep w0 w' → Mem.Own w' w0.heap.size 26 2 r (smps l) → K r 0 w') : C.tocsinref08_Decode b w0 K := by
  have hn := hb.len
  unfold C.tocsinref08_Decode
  refine cond_d (fun h => hE (fun l _ e => ?_) w0 (Keep.refl w0)) (fun h => cond_d (fun h' => hE (fun l hl e => ?_) w0 (Keep.refl w0)) (fun h' => ?_))
  · have := enc_len l
    rw [← e] at this
    omega
  · have := enc_small hl
    rw [← e] at this
    omega
  obtain ⟨x, y, q, rfl⟩ : ∃ x y q, bs = x :: y :: q := by
    rcases bs with _ | ⟨x, _ | ⟨y, q⟩⟩
    · simp at hn; omega
    · simp at hn; omega
    · exact ⟨x, y, q, rfl⟩
  have kd := Keep.drew w0
  have hx := x.toNat_lt
  have hy := y.toNat_lt
  have hlen : (x :: y :: q).length = q.length + 2 := rfl
  refine RdB.ati hb.drew (k := 0) rfl (by omega) ?_
  refine RdB.ati hb.drew (k := 1) rfl (by omega) ?_
  have e2 : IntKind.i64.wrap ((IntKind.i64.wrap ((IntKind.i64.wrap (((x :: y :: q)[0]).toNat : Int)) * (256 : Int))) + (IntKind.i64.wrap (((x :: y :: q)[1]).toNat : Int))) = ((x.toNat * 256 + y.toNat : Nat) : Int) := head2R hx hy
  rw [e2]
  refine cond_d (fun h1 => hE (fun l hl e => ?_) _ kd) (fun h1 => ?_)
  · obtain ⟨q1, _⟩ := enc_bits hl e
    have := hl.len
    omega
  refine RdB.slc hb (lo := 2) (hi := q.length + 2) (by omega) (by omega) rfl (by omega) fun r hr => ?_
  have eq : ((x :: y :: q).drop 2).take (q.length + 2 - 2) = q := by simp
  rw [eq] at hr
  rw [wI64 (x := ((b.n : Nat) : Int) - 2) (by omega) (by omega), wI64 (by omega) (by omega)]
  refine newStr_ok (w0 := w0) (bs := q) hr (by omega) 3 (by decide) (by omega) (ω0 := fun _ => 0) ⟨kd, fun _ _ => rfl⟩ fun gs ω2 w2 s2 st2 => ?_
  unfold C.tocsinref08_New
  refine new_T (ω := ω2) 2 fun gp ω3 w3 k3 b3 => ?_
  refine new_T (ω := ω3) 1 fun gr ω4 w4 k4 b4 => ?_
  have top2 : Top w0 ω2 w2 := Top.stp (ω := fun _ => 0) (w := w0.drew) ⟨kd, fun _ _ => rfl⟩ s2
  have top4 := (top2.stp k3).stp k4
  have rr : RrS ω4 w4 1 gr gp gs q 0 0 0 0 64 0 false := ⟨b4, b3.stp k4, (st2.non k3).non k4, Nat.zero_le _, by omega⟩
  refine loop_rd rr (n := x.toNat * 256 + y.toNat) (by omega) fun s lst p' T' D' V' A' B' bad' ω5 w5 o5 hv5 hl5 good s5 r5 => ?_
  have top5 := top4.stp s5
  have isl : ∀ l, Valid l → x :: y :: q = enc l → lst = l ∧ bad' = false := fun l hl e => by
    obtain ⟨q1, _, m, hm⟩ := enc_bits hl e
    exact good l _ hl q1.symm hm
  have fail : (∀ l, Valid l → x :: y :: q = enc l → False) → ∀ w', Keep w0 w' → K nilS 3 w' := fun h => hE fun l hl e => h l hl e
  unfold C.tocsinref08_Decode.S2
  refine r5.rdB (cond_of (fun hbad => fail (fun l hl e => ?_) w5 top5.k) (fun hbad => ?_))
  · obtain ⟨_, u2⟩ := isl l hl e
    rw [u2] at hbad; cases hbad
  refine rencode_ok o5.rd hv5 (by omega) (fun hf w6 k6 => ?_) (fun hf hval a w6 k6 o6 => ?_)
  · have k06 := Keep.trans top5.k k6
    refine cond_t (by simp; exact hf) (fail (fun l hl e => ?_) w6 k06)
    obtain ⟨u1, _⟩ := isl l hl e
    subst u1
    exact hf (by rw [firstW_zero _ [] 0 hl])
  · have k06 := Keep.trans top5.k k6
    refine cond_f rfl (convBS o6.rd (convBS (hb.keep k06) ?_))
    rw [str_toList, str_toList]
    refine cond_of (fun hne => fail (fun l hl e => ?_) w6 k06) (fun heq => ?_)
    · obtain ⟨u1, _⟩ := isl l hl e
      subst u1
      rw [e] at hne
      simp at hne
    · have e : enc lst = x :: y :: q := by simpa using heq
      exact hK lst hval e.symm s w6 k06 ((o5.from top5 (by decide)).keep k6)
theorem rdecode_dec {b : Sl} (hb : RdB w0 b bs) {K : Sl → Int → World → Prop}
    (hE : dec bs = none → ∀ w', Keep w0 w' → K nilS 3 w')
    (hK : ∀ l, dec bs = some l → Valid l → ∀ r w', Keep w0 w' → Mem.Own w' w0.heap.size 26 2 r (smps l) → K r 0 w') : C.tocsinref08_Decode b w0 K :=
  rdecode_ok hb (fun h => hE (by
    cases hd : dec bs with
    | none => rfl
    | some l => obtain ⟨h1, h2⟩ := dec_some hd; exact absurd h2 (h l h1))) fun l hl e => hK l (by rw [e]; exact dec_enc hl) hl
end Go.Proofs.YtpadehbcjkhegaaDoor.Chunk
