/- Layer 8: samples that came in; ChunkAppends. Own work. -/
import Derived.Test.YtpadehbcjkhegaaDoorChunkR
import Derived.Test.YtpadehbcjkhegaaDoorRep
namespace Go.Proofs.YtpadehbcjkhegaaDoor.Chunk
open Go Vm Go.RowKit Num Mem Bits Vint Rep
variable {ω ω' : Tg} {w w' w0 : World}

abbrev smpSh : Sh := .sl [.int .i64, .fl .f64]
theorem smps_of {s : Sl} {b : Nat} (h : Cl w smpSh s.v b) : ∃ m : List Smp, Rd w s 2 (smps m) ∧ s.n = m.length ∧ s.n < b ∧ s.n ≤ maxLen ∧ ∀ x ∈ m, -9223372036854775808 ≤ x.1 ∧ x.1 ≤ 9223372036854775807 ∧ x.2 < 18446744073709551616 := by
  have hb := h.len
  obtain ⟨f, U, h1, h2, h3, h4, h5, h6, h7⟩ := h.sl_inv
  have get : ∀ i, i < s.n → ∃ x : Smp, U i 0 = .int .i64 x.1 ∧ U i 1 = .float .f64 x.2 ∧ -9223372036854775808 ≤ x.1 ∧ x.1 ≤ 9223372036854775807 ∧ x.2 < 18446744073709551616 := by
    intro i hi
    obtain ⟨n, e0, a1, a2⟩ := (h7 i 0 _ hi rfl).int_inv
    obtain ⟨v, e1, a3⟩ := (h7 i 1 _ hi rfl).fl_inv
    exact ⟨(n, v), e0, e1, by simpa [IntKind.min, IntKind.signed, IntKind.bits] using a1, by simpa [IntKind.max, IntKind.signed, IntKind.bits] using a2, by simpa [Lit.wf] using a3⟩
  obtain ⟨g, hg⟩ : ∃ g : Nat → Smp, ∀ i, i < s.n → U i 0 = .int .i64 (g i).1 ∧ U i 1 = .float .f64 (g i).2 ∧ -9223372036854775808 ≤ (g i).1 ∧ (g i).1 ≤ 9223372036854775807 ∧ (g i).2 < 18446744073709551616 :=
    ⟨fun i => if hi : i < s.n then (get i hi).choose else (0, 0), fun i hi => by simp only [dif_pos hi]; exact (get i hi).choose_spec⟩
  refine ⟨(List.range s.n).map g, ⟨h1, by rw [smps_len]; simp, fun hne => ?_⟩, by simp, hb, by omega, fun x hx => ?_⟩
  · have hn : 0 < s.n := by
      rcases Nat.eq_zero_or_pos s.n with e | e
      · rw [e] at hne; exact absurd rfl hne
      · exact e
    obtain ⟨gb, o, ha, hc⟩ := h6 hn
    refine ⟨gb, o, ha, fun j v hv => ?_⟩
    have hj : j < s.n * 2 := by
      have := (List.getElem?_eq_some_iff.1 hv).1
      rwa [smps_len, List.length_map, List.length_range] at this
    have hi : j / 2 < s.n := by omega
    have hm : ((List.range s.n).map g)[j / 2]? = some (g (j / 2)) := by simp [hi]
    obtain ⟨e0, e1⟩ := smps_at _ _ _ hm
    obtain ⟨u0, u1, _⟩ := hg _ hi
    rcases Nat.mod_two_eq_zero_or_one j with hp | hp
    · rw [show j = j / 2 * 2 + 0 by omega] at hv ⊢
      rw [e0] at hv
      have := hc (j / 2) 0 _ hi rfl
      rw [← Option.some.inj hv, ← u0]; exact this
    · rw [show j = j / 2 * 2 + 1 by omega] at hv ⊢
      rw [e1] at hv
      have := hc (j / 2) 1 _ hi rfl
      rw [← Option.some.inj hv, ← u1]; exact this
  · obtain ⟨i, hi, rfl⟩ := List.mem_map.1 hx
    exact (hg i (List.mem_range.1 hi)).2.2

/-! ## ChunkAppends -/
theorem spoil_ok {ω : Tg} {w : World} {t : Nat} {b : Sl} {l : List UInt8} (h : OBy ω w t b l) (hl : l.length ≤ 1000000) {K : World → Prop} (hK : ∀ ω' w', Stp (Mem.One t) ω ω' w w' → K w') : C.tocsinlaw08_spoil b w K := by
  unfold C.tocsinlaw08_spoil
  have hn := h.len
  refine C.tocsinlaw08_spoil.L3_ind fun X hX => ?_
  have key : ∀ (d i : Nat) (ω1 : Tg) (w1 : World) (l1 : List UInt8), i + d = l.length → l1.length = l.length → Stp (Mem.One t) ω ω1 w w1 → OBy ω1 w1 t b l1 → X b ((b.n : Nat) : Int) (i : Int) w1 := by
    intro d
    induction d with
    | zero =>
      intro i ω1 w1 l1 hi _ s o
      refine hX _ _ _ _ ?_
      unfold C.tocsinlaw08_spoil.S5
      exact cond_d (fun h => by omega) (fun _ => hK ω1 w1 s)
    | succ d ih =>
      intro i ω1 w1 l1 hi hl1 s o
      refine hX _ _ _ _ ?_
      unfold C.tocsinlaw08_spoil.S5
      refine cond_d (fun _ => ?_) (fun h => by omega)
      refine OT.at_ o (k := i) rfl (by omega) fun a ha _ _ _ => ?_
      have := OT.st o (i := i) (j := 0) (by omega) (by decide) (.int .u8 99) ha (K := fun w12 => X b ((b.n : Nat) : Int) (IntKind.i64.wrap ((i : Int) + 1)) w12) fun ω2 w2 s2 o2 => ?_
      · rwa [show a.add 0 = a by simp [Addr.add]] at this
      · rw [wI64 (by omega) (by omega), show (i : Int) + 1 = ((i + 1 : Nat) : Int) by omega]
        refine ih (i + 1) ω2 w2 (l1.set i 99) (by omega) (by rw [List.length_set]; exact hl1) (s.trans s2) ?_
        have e : vBs (l1.set i 99) = (vBs l1).set (i * 1 + 0) (.int .u8 99) := by simp [vBs, List.map_set]; rfl
        rw [OBy, e]; exact o2
  exact key l.length 0 ω w l (by omega) rfl (Stp.refl _ _ _) h
theorem isS_of {w : World} {b : Sl} {l : List UInt8} (h : RdB w b l) : isS Tryd.prog b (str l) w := by
  obtain ⟨s, h1, rfl⟩ := convBS (P := Tryd.prog) h (K := fun s => s = str l) rfl
  exact h1 0

/-- Behind the loop. -/
theorem appends_S2 {w0 : World} (hT : DTab w0) {ω : Tg} {w : World} {gc : Nat} {s : Sl} {th : List Smp} (top : Top w0 ω w) (h : CkT ω w 1 gc th) (o : OS ω w 8 s th) {K : Bool → World → Prop} (hK : ∀ w', Keep w0 w' → K true w') : C.tocsinlaw08_ChunkAppends.S2 K (wp gc) s w := by
  unfold C.tocsinlaw08_ChunkAppends.S2
  have hl := enc_len th
  have hrl := run_len h.ok
  have hle := h.ok.len
  refine bytesC_ok h fun r1 w1 k1 o1 => ?_
  have s1 := k1.stp ω 9
  have o1' := Own.tag o1 (Nat.le_refl _) ω 9
  have top1 := top.stp s1
  have h1 := h.stp s1
  have p1 := o.stp s1
  refine convBS (o1.rd.drew) ?_
  refine rbytes_ok (p1.rd.drew) h.ok fun r2 w2 k2 o2 => ?_
  have k12 := Keep.trans (Keep.drew w1) k2
  have s2 := k12.stp0 (ext ω w.heap.size 9)
  refine ⟨isS_of (o1.rd.keep k12), convBS o2.rd ?_⟩
  refine cond_f (by simp) ?_
  refine spoil_ok (o1'.stp s2) (by omega) fun ω3 w3 s3 => ?_
  have top3 := (top1.stp s2).stp s3
  have h3 := (h1.stp s2).stp s3
  have p3 := (p1.stp s2).stp s3
  have kd := drew_stp ω3 w3
  refine bytesC_ok (h3.stp kd) fun r4 w4 k4 o4 => ?_
  have k34 := Keep.trans kd.keep k4
  refine convBS o4.rd ?_
  refine rbytes_ok (p3.rd.keep k34) h.ok fun r5 w5 k5 o5 => ⟨isS_of (o4.rd.keep k5), convBS o5.rd ?_⟩
  refine cond_t (by simp) ?_
  have k05 := Keep.trans top3.k (Keep.trans k34 k5)
  exact awake_ok (hT.keep k05) fun w6 k6 => hK w6 (Keep.trans k05 k6)

theorem take1 {th : List Smp} (h : 1 ≤ th.length) : ((smps th).drop (0 * 2)).take ((1 - 0) * 2) = smps (th.take 1) := by
  cases th with
  | nil => simp at h
  | cons a r => simp [smps, smpC]
theorem appends_S3 {w0 : World} (hT : DTab w0) {ω : Tg} {w : World} {gc : Nat} {s : Sl} {th : List Smp} (top : Top w0 ω w) (h : CkT ω w 1 gc th) (o : OS ω w 8 s th) {K : Bool → World → Prop} (hK : ∀ w', Keep w0 w' → K true w') : C.tocsinlaw08_ChunkAppends.S3 K (wp gc) s w := by
  unfold C.tocsinlaw08_ChunkAppends.S3
  have hn := o.len
  have kd := drew_stp ω w
  refine cond_d (fun h1 => ?_) (fun _ => appends_S2 hT (top.stp kd) (h.stp kd) (o.stp kd) hK)
  refine Rd.slc o.rd (lo := 0) (hi := 1) (by omega) (by omega) rfl rfl fun q hq hqn _ => ?_
  rw [take1 (by omega)] at hq
  have hd := h.stp kd
  obtain ⟨sl, hr⟩ := hd.r
  refine every_ok hr (n := 1) (by decide) rfl fun r w2 k2 o2 => ?_
  have k12 := Keep.trans kd.keep k2
  refine same_ok (Mem.Own.rd o2) (hq.keep k12) (by rw [List.length_take]; omega) (fun _ w3 k3 => ?_) (fun hne => absurd rfl hne)
  have k13 := (Keep.trans k12 k3).stp0 ω
  exact cond_f rfl (appends_S2 hT (top.stp k13) (h.stp k13) (o.stp k13) hK)

theorem takeL {th : List Smp} (h : 1 ≤ th.length) : ((smps th).drop ((th.length - 1) * 2)).take ((th.length - (th.length - 1)) * 2) = smps [lastS th] := by
  rcases List.eq_nil_or_concat th with rfl | ⟨l, a, rfl⟩
  · simp at h
  · rw [List.concat_eq_append, smps_app, lastS_snoc]
    have e : (smps l).length = ((l ++ [a]).length - 1) * 2 := by rw [smps_len]; simp
    rw [List.drop_append_of_le_length (by omega), ← e, List.drop_length, List.nil_append, List.take_of_length_le]
    rw [smps_len]; simp
theorem appends_S4 {w0 : World} (hT : DTab w0) {ω : Tg} {w : World} {gc : Nat} {s : Sl} {th : List Smp} (top : Top w0 ω w) (h : CkT ω w 1 gc th) (o : OS ω w 8 s th) {K : Bool → World → Prop} (hK : ∀ w', Keep w0 w' → K true w') : C.tocsinlaw08_ChunkAppends.S4 K (wp gc) s w := by
  unfold C.tocsinlaw08_ChunkAppends.S4
  have hn := o.len
  have hle := h.ok.len
  obtain ⟨sl, hr⟩ := h.r
  refine last_ok hr fun w1 k1 => ?_
  have s1 := k1.stp0 ω
  refine new_T (ω := ω) 7 fun g ω2 w2 k2 b2 => ?_
  refine st_T b2 (by simp) fun ω3 w3 k3 b3 => ?_
  refine st_TA b3 (by simp) fun ω4 w4 k4 b4 => ?_
  have s4 : Stp (Mem.One 7) ω ω4 w w4 := (s1.non _).trans ((k2.non _).trans (k3.trans k4))
  have h4 := h.stp s4
  have o4 := o.stp s4
  have top4 := top.stp s4
  obtain ⟨sl4, hr4⟩ := h4.r
  refine lenC_ok hr4 ?_
  rw [hn]
  refine cond_f (by simp) ?_
  refine cond_f (by cases th <;> simp) ?_
  refine every_ok hr4 (n := 1000) (by decide) rfl fun r w5 k5 o5 => ?_
  rw [List.take_of_length_le (by omega)] at o5
  refine same_ok (Mem.Own.rd o5) (o4.rd.keep k5) (by omega) (fun _ w6 k6 => ?_) (fun hne => absurd rfl hne)
  refine cond_f rfl ?_
  have k46 := Keep.trans (Keep.trans k5 k6) (Keep.drew w6)
  have s46 := k46.stp0 ω4
  have h6 := h4.stp s46
  have o6 := o4.stp s46
  have top6 := top4.stp s46
  have b6 := b4.stp s46
  refine cond_of (fun hb => ?_) (fun hb => ?_)
  · have hpos : 0 < th.length := of_decide_eq_true hb
    refine cI_at (n := (lastS th).1) (by rw [b6.cell]; rfl) <| cF_at (b := (lastS th).2) (by rw [addr_add, b6.cell]; rfl) ?_
    refine Rd.slc o6.rd (lo := th.length - 1) (hi := th.length) (by omega) (by omega) (by rw [wI64 (by omega) (by omega)]; omega) rfl fun q hq hqn _ => ?_
    rw [takeL (by omega)] at hq
    refine new_T (ω := ω4) 7 fun g7 ω7 w7 k7 b7 => ?_
    have hone : Rd w7 ⟨some ⟨g7, 0, none⟩, 1, 1⟩ 2 (smps [lastS th]) := by
      have := Rd.blk b7.blk (o := 0) (n := 1) (c := 1) (sz := 2) (by decide) (by simp)
      exact this
    refine same_ok hone (hq.keep k7.keep) (by simp) (fun _ w8 k8 => ?_) (fun hne => absurd rfl hne)
    have s8 := k7.trans (k8.stp0 ω7)
    refine cond_f rfl (cond_f (by rw [hb]; rfl) ?_)
    exact appends_S3 hT (top6.stp s8) (h6.stp s8) (o6.stp s8) hK
  · have he : th = [] := by
      have : ¬ 0 < th.length := of_decide_eq_false hb
      exact List.eq_nil_of_length_eq_zero (by omega)
    subst he
    refine cond_t rfl ?_
    refine cI_at (n := 0) (by rw [b6.cell]; rfl) <| cF_at (b := 0) (by rw [addr_add, b6.cell]; rfl) ?_
    refine cond_f (by decide +kernel) ?_
    exact appends_S3 hT top6 h6 o6 hK

theorem appends_law (hT : DTab w0) {s : Sl} {b : Nat} (hs : Cl w0 smpSh s.v b) {K : Bool → World → Prop} (hK : ∀ w', Keep w0 w' → K true w') : C.tocsinlaw08_ChunkAppends s w0 K := by
  obtain ⟨m, hm, hsn, _, hmax, hmem⟩ := smps_of hs
  unfold C.tocsinlaw08_ChunkAppends
  refine new_ok' (ω := fun _ => 0) 1 fun gc ω1 w1 s1 h1 => cond_f rfl ?_
  have top1 := (Top.init w0).stp s1
  have dt1 := (DT.init hT).stp s1
  unfold C.tocsinlaw08_ChunkAppends.S11
  refine C.tocsinlaw08_ChunkAppends.L7_ind fun X hX => ?_
  have key : ∀ (d i : Nat) (q : Sl) (th : List Smp) (ω : Tg) (w : World), i + d = 301 → Top w0 ω w → DT ω w → CkT ω w 1 gc th → OS ω w 8 q th → X (wp gc) q s ((s.n : Nat) : Int) (i : Int) w := by
    intro d
    induction d with
    | zero =>
      intro i q th ω w hi top dt h o
      refine hX _ _ _ _ _ _ ?_
      unfold C.tocsinlaw08_ChunkAppends.S9
      refine cond_d (fun hlt => ?_) (fun _ => appends_S4 hT top h o hK)
      have hx : m[i]? = some m[i] := List.getElem?_eq_getElem (by omega)
      refine rdS_at (hm.keep top.k) (k := i) rfl hx fun a hc0 hc1 => cI_at hc0 <| cF_at hc1 ?_
      refine new_T (ω := ω) 7 fun g ω2 w2 k2 b2 => ?_
      refine st_T b2 (by simp) fun ω3 w3 k3 b3 => ?_
      refine st_TA b3 (by simp) fun ω4 w4 k4 b4 => ?_
      have s4 := (k2.non (Mem.One 7)).trans (k3.trans k4)
      exact cond_t (decide_eq_true (by omega)) (appends_S4 hT (top.stp s4) (h.stp s4) (o.stp s4) hK)
    | succ d ih =>
      intro i q th ω w hi top dt h o
      refine hX _ _ _ _ _ _ ?_
      unfold C.tocsinlaw08_ChunkAppends.S9
      refine cond_d (fun hlt => ?_) (fun _ => appends_S4 hT top h o hK)
      have him : i < m.length := by omega
      have hx : m[i]? = some m[i] := List.getElem?_eq_getElem him
      refine rdS_at (hm.keep top.k) (k := i) rfl hx fun a hc0 hc1 => cI_at hc0 <| cF_at hc1 ?_
      refine new_T (ω := ω) 7 fun g ω2 w2 k2 b2 => ?_
      refine st_T b2 (by simp) fun ω3 w3 k3 b3 => ?_
      refine st_TA b3 (by simp) fun ω4 w4 k4 b4 => ?_
      have s4 := (k2.non (Mem.One 7)).trans (k3.trans k4)
      have top4 := top.stp s4
      have h4 := h.stp s4
      have o4 := o.stp s4
      have dt4 := dt.stp s4
      refine cond_d (fun _ => appends_S4 hT top4 h4 o4 hK) (fun hge => ?_)
      refine cI_at (n := m[i].1) (by rw [b4.cell]; rfl) ?_
      have hle := h.ok.len
      refine wrong_ok o4.rd hle ?_
      refine cI_at (n := m[i].1) (by rw [b4.cell]; rfl) <| cF_at (b := m[i].2) (by rw [addr_add, b4.cell]; rfl) ?_
      have next : (i : Int) + 1 = ((i + 1 : Nat) : Int) := by omega
      refine append_ok h4 (by decide) dt4 (hmem _ (List.getElem_mem him)).2.2 (fun hw => ?_) (fun hw ω5 w5 s5 h5 => ?_)
      · refine cond_f (by simp) (cond_f (by simp; exact hw) ?_)
        rw [wI64 (by omega) (by omega), next]
        exact ih (i + 1) q th ω4 w4 (by omega) top4 dt4 h4 o4
      · rw [hw]
        refine cond_f (by simp) (cond_t rfl ?_)
        have b5 := b4.stp s5
        refine cI_at (n := m[i].1) (by rw [b5.cell]; rfl) <| cF_at (b := m[i].2) (by rw [addr_add, b5.cell]; rfl) ?_
        have o5 := o4.stp s5
        have hn5 := OS.len o5
        refine push_T tiS o5 (n := 1) rfl (by intro v hv; simp at hv; rcases hv with rfl | rfl <;> rfl) (by simp only [maxLen]; omega) (by omega) fun r ω6 w6 k6 o6 hr => ?_
        rw [wI64 (by omega) (by omega), next]
        refine ih (i + 1) r (th ++ [m[i]]) ω6 w6 (by omega) ((top4.stp s5).stp k6) ((dt4.stp s5).stp k6) (h5.stp k6) ?_
        rw [OS, smps_app]; exact o6
  exact key 301 0 nilS [] ω1 w1 (by decide) top1 dt1 h1 (OT.nil _ _ _ _ _)
end Go.Proofs.YtpadehbcjkhegaaDoor.Chunk
