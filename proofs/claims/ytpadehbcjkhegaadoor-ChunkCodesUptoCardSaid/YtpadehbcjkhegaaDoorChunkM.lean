/- Layer 8: ChunkBack. Own work. -/
import Derived.Test.YtpadehbcjkhegaaDoorChunkJ2
namespace Go.Proofs.YtpadehbcjkhegaaDoor.Chunk
open Go Vm Go.RowKit Num Mem Bits Vint Rep
variable {ω ω' : Tg} {w w' w0 : World} {bs : List UInt8}

theorem back_S2 (hT : DTab w0) (hk : Keep w0 w) {s : Sl} {m : List Smp} (hs : Rd w s 2 (smps m)) (hm : ∀ x ∈ m, x.2 < 18446744073709551616) (hl : m.length ≤ 2000) {K : Bool → World → Prop} (hK : ∀ w', Keep w0 w' → K true w') : C.tocsinlaw08_ChunkBack.S2 K s w := by
  unfold C.tocsinlaw08_ChunkBack.S2
  refine split_ok (hT.keep hk) hs hm hl (fun he w1 k1 => ?_) (fun he hr r ss ω1 w1 top1 o1 => ?_)
  · have k01 := Keep.trans hk k1
    exact cond_t (by simp; exact he) (awake_ok (hT.keep k01) fun w2 k2 => hK w2 (Keep.trans k01 k2))
  · have k01 := Keep.trans hk top1.k
    refine cond_f rfl ?_
    have hj := join_pcs hr ((m.length + 119) / 120) 0 (by omega)
    simp only [Nat.mul_zero, List.take_zero, List.drop_zero] at hj
    refine join_ok (hT.keep k01) o1.rdl (by unfold pcs; rw [List.length_map, List.length_range]; omega) fun q w2 k2 o2 => ?_
    rw [hj] at o2 ⊢
    have k02 := Keep.trans k01 k2
    refine cond_t rfl ?_
    refine same_ok (m := m) (Mem.Own.rd o2) (hs.keep (Keep.trans top1.k k2)) (by omega) (fun _ w3 k3 => ?_) (fun hne => absurd rfl hne)
    have k03 := Keep.trans k02 k3
    exact cond_t rfl (awake_ok (hT.keep k03) fun w4 k4 => hK w4 (Keep.trans k03 k4))

theorem take_smps (m : List Smp) (n : Nat) (h : n ≤ m.length) : ((smps m).drop (0 * 2)).take ((n - 0) * 2) = smps (m.take n) := by
  have e : smps m = smps (m.take n) ++ smps (m.drop n) := by rw [← smps_app, List.take_append_drop]
  have l : (smps (m.take n)).length = n * 2 := by rw [smps_len, List.length_take, Nat.min_eq_left h]
  rw [e, Nat.zero_mul, List.drop_zero, Nat.sub_zero, List.take_append_of_le_length (by omega), List.take_of_length_le (by omega)]
theorem back_S3 (hT : DTab w0) (hk : Keep w0 w) {s : Sl} {m : List Smp} (hs : Rd w s 2 (smps m)) (hm : ∀ x ∈ m, x.2 < 18446744073709551616) {K : Bool → World → Prop} (hK : ∀ w', Keep w0 w' → K true w') : C.tocsinlaw08_ChunkBack.S3 K s w := by
  have hsn : s.n = m.length := by have := hs.2.1; rw [smps_len] at this; omega
  unfold C.tocsinlaw08_ChunkBack.S3
  refine cond_d (fun h => ?_) (fun h => back_S2 hT hk hs hm (by omega) hK)
  refine Rd.slc hs (lo := 0) (hi := 2000) (by omega) (by omega) rfl rfl fun r hr _ _ => ?_
  rw [take_smps m 2000 (by omega)] at hr
  exact back_S2 hT hk hr (fun x hx => hm x (List.mem_of_mem_take hx)) (by rw [List.length_take]; omega) hK

theorem back_S4 (hT : DTab w0) (hk : Keep w0 w) {s b : Sl} {m : List Smp} (hs : Rd w s 2 (smps m)) (hm : ∀ x ∈ m, x.2 < 18446744073709551616) (hb : RdB w b bs) {K : Bool → World → Prop} (hK : ∀ w', Keep w0 w' → K true w') : C.tocsinlaw08_ChunkBack.S4 K s b w := by
  unfold C.tocsinlaw08_ChunkBack.S4
  refine decode_dec (hT.keep hk) hb (fun hd w1 k1 => ?_) (fun l hd hv r w1 k1 o1 => ?_)
  · exact cond_f rfl (back_S3 hT (Keep.trans hk k1) (hs.keep k1) hm hK)
  · obtain ⟨_, rfl⟩ := dec_some hd
    have k01 := Keep.trans hk k1
    refine cond_t rfl ?_
    have hf := firstW_zero l [] 0 hv
    refine encode_ok (hT.keep k01) (Mem.Own.rd o1) (fun x hx => (hv.mem x hx).2.2) (by have := hv.len; omega) (fun h => absurd (by rw [hf]) h) fun _ _ a w2 k2 o2 => ?_
    refine cond_f rfl (convBS o2.rd (convBS (hb.keep (Keep.trans k1 k2)) ?_))
    refine cond_f (by simp) ?_
    exact back_S3 hT (Keep.trans k01 k2) (hs.keep (Keep.trans k1 k2)) hm hK

theorem back_S5 (hT : DTab w0) (hk : Keep w0 w) {s s' b x y : Sl} {l m : List Smp} (hs : Rd w s 2 (smps l)) (hs' : Rd w s' 2 (smps m)) (hll : l.length ≤ 9223372036854775807) (hm : ∀ x ∈ l, x.2 < 18446744073709551616) (hb : RdB w b bs)
    {e f : Int} (he : e = 0 → Valid l ∧ RdB w x (enc l)) (hf : f = 0 → Valid m ∧ RdB w y (enc m)) {K : Bool → World → Prop} (hK : ∀ w', Keep w0 w' → K true w') : C.tocsinlaw08_ChunkBack.S5 K s s' b x e y f w := by
  unfold C.tocsinlaw08_ChunkBack.S5
  have kd := Keep.drew w
  have s4 := fun w1 (k : Keep w w1) => back_S4 hT (Keep.trans hk k) (hs.keep k) hm (hb.keep k) hK
  refine cond_eq (fun h1 => cond_eq (fun h2 => ?_) (fun _ => s4 _ kd)) (fun _ => s4 _ kd)
  obtain ⟨vl, rx⟩ := he h1
  obtain ⟨vm, ry⟩ := hf h2
  refine convBS rx.drew (convBS ry.drew ?_)
  refine same_ok (hs.keep kd) (hs'.keep kd) hll (fun heq w1 k1 => ?_) (fun hne w1 k1 => ?_)
  · have k01 := Keep.trans kd k1
    refine ⟨isS_of (rx.keep k01), isS_of (ry.keep k01), cond_f ?_ (s4 _ k01)⟩
    subst heq
    simp
  · have k01 := Keep.trans kd k1
    refine ⟨isS_of (rx.keep k01), isS_of (ry.keep k01), cond_f ?_ (s4 _ k01)⟩
    rw [str_toList, str_toList]
    have : ¬ enc l = enc m := fun e => hne (enc_free vl vm (x := []) (by rw [List.append_nil]; exact e))
    simp [this]

theorem back_law (hT : DTab w0) {s s' b : Sl} {n n' : Nat} (hs : Cl w0 smpSh s.v n) (hs' : Cl w0 smpSh s'.v n') (hb : RdB w0 b bs) {K : Bool → World → Prop} (hK : ∀ w', Keep w0 w' → K true w') : C.tocsinlaw08_ChunkBack s s' b w0 K := by
  obtain ⟨l, hl, hln, _, hlx, hlm⟩ := smps_of hs
  obtain ⟨m, hm, hmn, _, hmx, hmm⟩ := smps_of hs'
  simp only [maxLen] at hlx hmx
  have fl : ∀ x ∈ l, x.2 < 18446744073709551616 := fun x hx => (hlm x hx).2.2
  have fm : ∀ x ∈ m, x.2 < 18446744073709551616 := fun x hx => (hmm x hx).2.2
  unfold C.tocsinlaw08_ChunkBack
  -- behind both
  have go : ∀ (x y : Sl) (e f a : Int) w1 w2, Keep w0 w1 → Keep w1 w2 → (e = 0 → Valid l ∧ RdB w1 x (enc l)) → (f = 0 → Valid m ∧ RdB w2 y (enc m)) →
      G.cond (e == (0 : Int)) (C.chunk_Decode x w2 fun l66 n67 w68 => G.cond (n67 != (0 : Int)) (K false w68) (C.tocsinref08_Same l66 s w68 fun b69 w70 => G.cond (!b69) (K false w70) (C.tocsinlaw08_ChunkBack.S5 K s s' b x e y f w70))) (C.tocsinlaw08_ChunkBack.S5 K s s' b x e y f w2) := by
    intro x y e f a w1 w2 k1 k2 he hf
    have k02 := Keep.trans k1 k2
    refine cond_eq (fun h1 => ?_) (fun h1 => ?_)
    · obtain ⟨vl, rx⟩ := he h1
      refine decode_dec (hT.keep k02) (rx.keep k2) (fun hd => absurd hd (by rw [dec_enc vl]; simp)) (fun q hd _ r w3 k3 o3 => ?_)
      obtain rfl : l = q := by rw [dec_enc vl] at hd; exact Option.some.inj hd
      have k03 := Keep.trans k02 k3
      refine cond_f rfl ?_
      refine same_ok (Mem.Own.rd o3) (hl.keep k03) (by omega) (fun _ w4 k4 => ?_) (fun hne => absurd rfl hne)
      have k24 := Keep.trans k3 k4
      have k04 := Keep.trans k03 k4
      exact cond_f rfl (back_S5 hT k04 (hl.keep k04) (hm.keep k04) (by omega) fl (hb.keep k04) (fun h => ⟨vl, rx.keep (Keep.trans k2 k24)⟩) (fun h => ⟨(hf h).1, (hf h).2.keep k24⟩) hK)
    · exact back_S5 hT k02 (hl.keep k02) (hm.keep k02) (by omega) fl (hb.keep k02) (fun h => absurd h h1) hf hK
  refine encode_ok hT hl fl (by omega) (fun hf1 w1 k1 => ?_) (fun hf1 v1 x w1 k1 o1 => ?_)
  · refine encode_ok (hT.keep k1) (hm.keep k1) fm (by omega) (fun hf2 w2 k2 => ?_) (fun hf2 v2 y w2 k2 o2 => ?_)
    · exact go _ _ _ _ 0 w1 w2 k1 k2 (fun h => absurd h hf1) (fun h => absurd h hf2)
    · exact go _ _ _ _ 0 w1 w2 k1 k2 (fun h => absurd h hf1) (fun _ => ⟨v2, o2.rd⟩)
  · refine encode_ok (hT.keep k1) (hm.keep k1) fm (by omega) (fun hf2 w2 k2 => ?_) (fun hf2 v2 y w2 k2 o2 => ?_)
    · exact go _ _ _ _ 0 w1 w2 k1 k2 (fun _ => ⟨v1, o1.rd⟩) (fun h => absurd h hf2)
    · exact go _ _ _ _ 0 w1 w2 k1 k2 (fun _ => ⟨v1, o1.rd⟩) (fun _ => ⟨v2, o2.rd⟩)
end Go.Proofs.YtpadehbcjkhegaaDoor.Chunk
