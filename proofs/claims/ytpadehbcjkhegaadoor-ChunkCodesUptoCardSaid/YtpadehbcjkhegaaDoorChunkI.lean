/- Layer 8: ChunkCodes. Own work. -/
import Derived.Test.YtpadehbcjkhegaaDoorChunkH
namespace Go.Proofs.YtpadehbcjkhegaaDoor.Chunk
open Go Vm Go.RowKit Num Mem Bits Vint Rep
variable {ω ω' : Tg} {w w' w0 : World} {bs : List UInt8}

noncomputable def decL (b : List UInt8) : List Smp := (dec b).getD []
noncomputable def decN (b : List UInt8) : Int := if (dec b).isSome then 0 else 3
theorem decL_len (b : List UInt8) : (decL b).length ≤ 120 := by
  unfold decL
  cases hd : dec b with
  | none => exact Nat.zero_le _
  | some l => exact (dec_some hd).1.len
theorem decode_u (hT : DTab w0) {b : Sl} (hb : RdB w0 b bs) {K : Sl → Int → World → Prop} (hK : ∀ r w', Keep w0 w' → Mem.Own w' w0.heap.size 26 2 r (smps (decL bs)) → K r (decN bs) w') : C.chunk_Decode b w0 K :=
  decode_dec hT hb (fun hd w' k => by have := hK nilS w' k (by unfold decL; rw [hd]; exact Mem.Own.nil _ _ _ _); unfold decN at this; rw [hd] at this; exact this)
    fun l hd _ r w' k o => by have := hK r w' k (by unfold decL; rw [hd]; exact o); unfold decN at this; rw [hd] at this; exact this
theorem rdecode_u {b : Sl} (hb : RdB w0 b bs) {K : Sl → Int → World → Prop} (hK : ∀ r w', Keep w0 w' → Mem.Own w' w0.heap.size 26 2 r (smps (decL bs)) → K r (decN bs) w') : C.tocsinref08_Decode b w0 K :=
  rdecode_dec hb (fun hd w' k => by have := hK nilS w' k (by unfold decL; rw [hd]; exact Mem.Own.nil _ _ _ _); unfold decN at this; rw [hd] at this; exact this)
    fun l hd _ r w' k o => by have := hK r w' k (by unfold decL; rw [hd]; exact o); unfold decN at this; rw [hd] at this; exact this
theorem ranged_u (hT : DTab w0) {c : Sl} (hb : RdB w0 c bs) {a b : Int} {K : Sl → Int → World → Prop} (hK : ∀ r w', Keep w0 w' → Mem.Own w' w0.heap.size 26 2 r (smps (wit a b (decL bs))) → K r (decN bs) w') : C.tocsinlaw08_ranged c a b w0 K :=
  ranged_ok hT hb (fun hd w' k => by have := hK nilS w' k (by unfold decL; rw [hd]; exact Mem.Own.nil _ _ _ _); unfold decN at this; rw [hd] at this; exact this)
    fun l hd _ r w' k o => by have := hK r w' k (by unfold decL; rw [hd]; exact o); unfold decN at this; rw [hd] at this; exact this

/-- A slice that ends before one more byte that its memory has. -/
structure Lent (ω : Tg) (w : World) (t : Nat) (c : Sl) (bs : List UInt8) (full : Sl) : Prop where
  own : OBy ω w t full (bs ++ [77])
  eq : c = ⟨full.a, bs.length, full.c⟩
theorem Lent.stp {T : Nat → Bool} {t : Nat} {c full : Sl} (h : Lent ω w t c bs full) (s : Stp T ω ω' w w') (n : T t = false := by rfl) : Lent ω' w' t c bs full := ⟨h.own.stp s n, h.eq⟩
theorem Lent.rd {t : Nat} {c full : Sl} (h : Lent ω w t c bs full) : RdB w c bs := by
  have hr := h.own.rd
  have hn := OBy.len h.own
  rw [List.length_append, List.length_singleton] at hn
  rw [h.eq]
  refine ⟨by have := hr.1; simp only; omega, by simp [vBs], fun hne => ?_⟩
  obtain ⟨g, o, ha, hc⟩ := hr.2.2 (by simp [vBs])
  refine ⟨g, o, ha, fun j v hv => hc j v ?_⟩
  have e : vBs (bs ++ [77]) = vBs bs ++ vBs [77] := by simp [vBs]
  rw [e, List.getElem?_append_left (List.getElem?_eq_some_iff.1 hv).1]
  exact hv
theorem add0 (a : Option Addr) : a.map (fun x => x.add (0 * 1)) = a := by
  cases a with
  | none => rfl
  | some x => simp [Addr.add]
theorem lent_ok {b : Sl} (hb : RdB w b bs) (hl : bs.length ≤ 100000000) {K : Sl → World → Prop} (hK : ∀ c full ω' w', Stp (Mem.One 9) ω ω' w w' → Lent ω' w' 9 c bs full → K c w') : C.tocsinlaw08_lent b w K := by
  unfold C.tocsinlaw08_lent
  have hn := hb.len
  refine app_T tiB (OT.nil ω w 9 _ _) hb (fun v hv => vBs_one v hv) (by simp only [maxLen]; omega) (by simp; omega) fun r ω1 w1 k1 o1 hr => ?_
  rw [List.nil_append] at o1
  have o1' : OBy ω1 w1 9 r bs := o1
  have hrn := OBy.len o1'
  refine push_T tiB o1' (n := 1) rfl (by intro v hv; simp at hv; subst hv; rfl) (by simp only [maxLen]; omega) (by omega) fun q ω2 w2 k2 o2 hq => ?_
  have o2' : OBy ω2 w2 9 q (bs ++ [77]) := by
    rw [OBy, show vBs (bs ++ [77]) = vBs bs ++ vBs [77] by simp [vBs]]; exact o2
  have hqr := o2'.rd.1
  refine ⟨⟨by omega, by omega, by omega⟩, ?_⟩
  have e : (⟨if q.c = (0 : Int).toNat then q.a else q.a.map (·.add ((0 : Int).toNat * 1)), ((b.n : Nat) : Int).toNat - (0 : Int).toNat, q.c - (0 : Int).toNat⟩ : Sl) = ⟨q.a, bs.length, q.c⟩ := by
    have h1 : (if q.c = (0 : Int).toNat then q.a else q.a.map (·.add ((0 : Int).toNat * 1))) = q.a := by
      split
      · rfl
      · exact add0 q.a
    rw [h1]
    simp [hn]
  rw [e]
  exact hK _ q ω2 w2 (k1.trans k2) ⟨o2', rfl⟩
theorem kept_ok {c b full : Sl} (h : Lent ω w 9 c bs full) (hb : RdB w b bs) (hl : bs.length ≤ 100000000) {K : Bool → World → Prop} (hK : K true w) : C.tocsinlaw08_kept c b w K := by
  unfold C.tocsinlaw08_kept
  have hn := hb.len
  have hr := h.own.rd
  have hfn := OBy.len h.own
  rw [List.length_append, List.length_singleton] at hfn
  refine convBS h.rd (convBS hb (cond_t (by simp) ?_))
  rw [wI64 (by omega) (by omega)]
  have hc : c.c = full.c := by rw [h.eq]
  have ha : c.a = full.a := by rw [h.eq]
  have := hr.1
  refine ⟨⟨by omega, by omega, by omega⟩, ?_⟩
  have e : (⟨if c.c = (0 : Int).toNat then c.a else c.a.map (·.add ((0 : Int).toNat * 1)), (((b.n : Nat) : Int) + 1).toNat - (0 : Int).toNat, c.c - (0 : Int).toNat⟩ : Sl) = full := by
    have h1 : (if c.c = (0 : Int).toNat then c.a else c.a.map (·.add ((0 : Int).toNat * 1))) = full.a := by
      split
      · exact ha
      · rw [ha]; exact add0 full.a
    rw [h1]
    have h2 : (((b.n : Nat) : Int) + 1).toNat - (0 : Int).toNat = full.n := by
      have : (0 : Int).toNat = 0 := rfl
      omega
    rw [h2, hc]
    simp
  rw [e]
  refine RdB.ati hr (k := bs.length) (by omega) (by simp) ?_
  have e77 : (bs ++ [77])[bs.length]'(by simp) = (77 : UInt8) := by simp
  rw [e77]
  exact hK

theorem codes_S2 (hT : DTab w0) (hk : Keep w0 w) {from' to : Int} {c again n full : Sl} (hc : Lent ω w 9 c bs full) (ha : Rd w again 2 (smps (decL bs))) (hn : Rd w n 2 (smps (decL bs))) {K : Bool → World → Prop} (hK : ∀ w', Keep w0 w' → K true w') : C.tocsinlaw08_ChunkCodes.S2 K from' to c again n (decN bs) w := by
  unfold C.tocsinlaw08_ChunkCodes.S2
  have hlen := decL_len bs
  refine ranged_u (hT.keep hk) hc.rd fun r w1 k1 o1 => ?_
  refine same_ok (ha.keep k1) (hn.keep k1) (by omega) (fun _ w2 k2 => ?_) (fun hne => absurd rfl hne)
  refine cond_t rfl (cond_t (by simp) ?_)
  have k12 := Keep.trans k1 k2
  refine within_ok (hn.keep k12) (by omega) fun q w3 k3 o3 => ?_
  have hwl := wit_len from' to (decL bs)
  refine same_ok (Mem.Own.rd (Mem.Own.keep o1 (Keep.trans k2 k3))) (Mem.Own.rd o3) (by omega) (fun _ w4 k4 => ?_) (fun hne => absurd rfl hne)
  have k04 := Keep.trans hk (Keep.trans k12 (Keep.trans k3 k4))
  exact cond_t rfl (awake_ok (hT.keep k04) fun w5 k5 => hK w5 (Keep.trans k04 k5))

theorem codes_S9 (hT : DTab w0) (top : Top w0 ω w) {from' to : Int} {c m again n full : Sl} (hc : Lent ω w 9 c bs full) {xs : List Smp} (hxl : xs.length ≤ 1000) (hm : OS ω w 10 m xs) (ha : OS ω w 11 again (decL bs)) (hn : OS ω w 11 n (decL bs)) {K : Bool → World → Prop} (hK : ∀ w', Keep w0 w' → K true w') : C.tocsinlaw08_ChunkCodes.S9 K from' to c m again n (decN bs) w := by
  unfold C.tocsinlaw08_ChunkCodes.S9
  have hmn := OS.len hm
  refine C.tocsinlaw08_ChunkCodes.L5_ind fun X hX => ?_
  have key : ∀ (d i : Nat) (vs : List Value) (ω : Tg) (w : World), i + d = xs.length → Top w0 ω w → Lent ω w 9 c bs full → OT ω w 10 26 2 m vs → OS ω w 11 again (decL bs) → OS ω w 11 n (decL bs) → X from' to c m again n (decN bs) ((m.n : Nat) : Int) (i : Int) w := by
    intro d
    induction d with
    | zero =>
      intro i vs ω w hi top hc hm ha hn
      refine hX _ _ _ _ _ _ _ _ _ _ ?_
      unfold C.tocsinlaw08_ChunkCodes.S7
      exact cond_d (fun h => by omega) (fun _ => codes_S2 hT top.k hc ha.rd hn.rd hK)
    | succ d ih =>
      intro i vs ω w hi top hc hm ha hn
      refine hX _ _ _ _ _ _ _ _ _ _ ?_
      unfold C.tocsinlaw08_ChunkCodes.S7
      refine cond_d (fun _ => ?_) (fun h => by omega)
      refine OT.at_ hm (k := i) rfl (by omega) fun a haa _ _ _ => ?_
      have z : a.add 0 = a := by simp [Addr.add]
      have := OT.st hm (i := i) (j := 0) (by omega) (by decide) (.int .i64 (-1)) haa (K := fun w55 => G.st (a.add 1) (.float .f64 0) w55 fun w56 => X from' to c m again n (decN bs) ((m.n : Nat) : Int) (IntKind.i64.wrap ((i : Int) + 1)) w56) fun ω2 w2 s2 o2 => ?_
      · rwa [z] at this
      · refine OT.st o2 (i := i) (j := 1) (by omega) (by decide) (.float .f64 0) haa fun ω3 w3 s3 o3 => ?_
        rw [wI64 (by omega) (by omega), show (i : Int) + 1 = ((i + 1 : Nat) : Int) by omega]
        have s23 := s2.trans s3
        exact ih (i + 1) _ ω3 w3 (by omega) (top.stp s23) (hc.stp s23) o3 (ha.stp s23) (hn.stp s23)
  exact key xs.length 0 _ ω w (by omega) top hc hm ha hn

theorem codes_law (hT : DTab w0) {s b : Sl} {n : Nat} (hs : Cl w0 smpSh s.v n) (hn : n ≤ 10000000) (hb : RdB w0 b bs) (hbl : bs.length ≤ 10000000) {from' to : Int} {K : Bool → World → Prop} (hK : ∀ w', Keep w0 w' → K true w') : C.tocsinlaw08_ChunkCodes s b from' to w0 K := by
  obtain ⟨m, hm, hmn, hmb, _, hmm⟩ := smps_of hs
  have fm : ∀ x ∈ m, x.2 < 18446744073709551616 := fun x hx => (hmm x hx).2.2
  unfold C.tocsinlaw08_ChunkCodes
  refine app_T tiS (OT.nil (fun _ => 0) w0 6 _ _) hm smps_one (by simp only [maxLen]; omega) (by simp; omega) fun own ω1 w1 k1 o1 ho => ?_
  rw [List.nil_append] at o1
  have o1' : OS ω1 w1 6 own m := o1
  have top1 := (Top.init w0).stp k1
  have hlen := decL_len bs
  -- behind both Encodes
  have go : ∀ (x y : Sl) (xb : List UInt8) (e a : Int) w3, Keep w1 w3 → RdB w3 x xb → RdB w3 y xb →
      G.rdS Tryd.prog (Conv.bytesToString x.v) w3 fun s74 => G.rdS Tryd.prog (Conv.bytesToString y.v) w3 fun s75 => G.cond (!(s74.toList == s75.toList)) (K false w3) (G.cond (e != e) (K false w3) (G.cond (a != a) (K false w3) (C.tocsinref08_Same own s w3 fun b76 w77 => G.cond (!b76) (K false w77) (C.tocsinlaw08_lent b w77 fun l78 w79 => C.chunk_Decode l78 w79 fun l80 n81 w82 => C.chunk_Decode l78 w82 fun l83 n84 w85 => C.tocsinref08_Decode b w85 fun l86 n87 w88 => C.tocsinref08_Same l80 l86 w88 fun b89 w90 => G.cond (!b89) (K false w90) (G.cond (n81 != n87) (K false w90) (C.tocsinlaw08_kept l78 b w90 fun b91 w92 => G.cond (!b91) (K false w92) (C.tocsinlaw08_ChunkCodes.S9 K from' to l78 l80 l83 l86 n87 w92))))))) := by
    intro x y xb e a w3 k3 hx hy
    refine convBS hx (convBS hy (cond_f (by simp) (cond_f (by simp) (cond_f (by simp) ?_))))
    have k03 := Keep.trans top1.k k3
    refine same_ok (o1'.rd.keep k3) (hm.keep k03) (by omega) (fun _ w4 k4 => cond_f rfl ?_) (fun hne => absurd rfl hne)
    have s14 := (Keep.trans k3 k4).stp0 ω1
    have top4 := top1.stp s14
    refine lent_ok (ω := ω1) (hb.keep top4.k) (by omega) fun c full ω5 w5 s5 h5 => ?_
    have top5 := top4.stp s5
    refine decode_u (hT.keep top5.k) h5.rd fun r6 w6 k6 o6 => ?_
    have s6 := k6.stp ω5 10
    have p6 : OS _ w6 10 r6 (decL bs) := Own.tag o6 (Nat.le_refl _) ω5 10
    have h6 := h5.stp s6
    have top6 := top5.stp s6
    refine decode_u (hT.keep top6.k) h6.rd fun r7 w7 k7 o7 => ?_
    generalize ext ω5 w5.heap.size 10 = ω6 at *
    have s7 := k7.stp ω6 11
    have p7 : OS _ w7 11 r7 (decL bs) := Own.tag o7 (Nat.le_refl _) ω6 11
    have h7 := h6.stp s7
    have top7 := top6.stp s7
    have p67 := p6.stp s7
    generalize ext ω6 w6.heap.size 11 = ω7 at *
    refine rdecode_u (hb.keep top7.k) fun r8 w8 k8 o8 => ?_
    have s8 := k8.stp ω7 11
    have p8 : OS _ w8 11 r8 (decL bs) := Own.tag o8 (Nat.le_refl _) ω7 11
    have h8 := h7.stp s8
    have top8 := top7.stp s8
    have p68 := p67.stp s8
    have p78 := p7.stp s8
    generalize ext ω7 w7.heap.size 11 = ω8 at *
    refine same_ok p68.rd p8.rd (by omega) (fun _ w9 k9 => cond_f rfl (cond_f (by simp) ?_)) (fun hne => absurd rfl hne)
    have s9 := k9.stp0 ω8
    have top9 := top8.stp s9
    refine kept_ok (h8.stp s9) (hb.keep top9.k) (by omega) (cond_f rfl ?_)
    exact codes_S9 hT top9 (h8.stp s9) (by omega) (p68.stp s9) (p78.stp s9) (p8.stp s9) hK
  refine encode_ok (hT.keep top1.k) o1'.rd fm (by omega) (fun hf w2 k2 => ?_) (fun hf hv x w2 k2 ox => ?_)
  · refine rencode_ok (hm.keep (Keep.trans top1.k k2)) fm (by omega) (fun hf2 w3 k3 => ?_) (fun hf2 => absurd hf2 hf)
    exact go nilS nilS [] _ _ w3 (Keep.trans k2 k3) (Rd.nil _ _) (Rd.nil _ _)
  · refine rencode_ok (hm.keep (Keep.trans top1.k k2)) fm (by omega) (fun hf2 => absurd hf hf2) (fun hf2 _ y w3 k3 oy => ?_)
    exact go x y (enc m) 0 0 w3 (Keep.trans k2 k3) (ox.rd.keep k3) oy.rd
end Go.Proofs.YtpadehbcjkhegaaDoor.Chunk
