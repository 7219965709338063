/- Layer 21 (alerts): AlertsPlays. Own work. -/
import Derived.Test.YtfkpehcbijgmnaaGreatDoorAlT
import Derived.Test.YtfkpehcbijgmnaaGreatDoorCa1
import Derived.Test.YtfkpehcbijgmnaaGreatDoorRepR
import Derived.Test.YtfkpehcbijgmnaaGreatDoorUtfWB
namespace Go.Proofs.YtfkpehcbijgmnaaGreatDoor.Al
open Go Vm Go.RowKit Num Mem Utf Lib Lab Rep
variable {ω ω' : Tg} {w w' w0 : World} {t u v gs gr : Nat} {T : Nat → Bool} {ql : QL} {M : List Av} {rs ms now : Int} {m : List Lb} {l s x : Sl}

/-! ## Scripts -/
abbrev Opv := Int × Int × Int × Sl × Int × Int
def opC (o : Opv) : List Value := [.int .i64 o.1, .int .i64 o.2.1, .int .i64 o.2.2.1, o.2.2.2.1.v, .int .i64 o.2.2.2.2.1, .int .i64 o.2.2.2.2.2]
def opsV (l : List Opv) : List Value := l.flatMap opC
theorem rdO_n {s : Sl} {l : List Opv} (h : Rd w s 6 (opsV l)) : s.n = l.length := by have := h.2.1; rw [opsV, Rep.flat_len (enc := opC) (k := 6) (fun _ => rfl)] at this; omega
theorem rdO_at {s : Sl} {l : List Opv} (h : Rd w s 6 (opsV l)) {i : Int} {k : Nat} {o : Opv} (ei : i = (k : Int)) (hx : l[k]? = some o) {K : Addr → Prop}
    (hK : ∀ a : Addr, w.cell? a = some (.int .i64 o.1) → w.cell? (a.add 1) = some (.int .i64 o.2.1) → w.cell? (a.add 2) = some (.int .i64 o.2.2.1) → w.cell? (a.add 3) = some o.2.2.2.1.v → w.cell? (a.add 4) = some (.int .i64 o.2.2.2.2.1) → w.cell? (a.add 5) = some (.int .i64 o.2.2.2.2.2) → K a) : G.ix s.a s.n i 6 K := by
  have hk : k < l.length := (List.getElem?_eq_some_iff.1 hx).1
  have hn := rdO_n h
  subst ei
  have e : ∀ j, j < 6 → (opsV l)[(k : Int).toNat * 6 + j]? = (opC o)[j]? := fun j hj => by
    rw [Int.toNat_natCast, opsV, Rep.flat_at (enc := opC) (k := 6) (fun _ => rfl) l k j hj, hx]; rfl
  refine Rd.ix h (by decide) (by omega) (by omega) fun a hc => hK a ?_ ?_ ?_ ?_ ?_ ?_
  · have := hc 0 (.int .i64 o.1) (by decide) (by rw [e 0 (by decide)]; rfl)
    rwa [show a.add 0 = a by simp [Addr.add]] at this
  · exact hc 1 _ (by decide) (by rw [e 1 (by decide)]; rfl)
  · exact hc 2 _ (by decide) (by rw [e 2 (by decide)]; rfl)
  · exact hc 3 _ (by decide) (by rw [e 3 (by decide)]; rfl)
  · exact hc 4 _ (by decide) (by rw [e 4 (by decide)]; rfl)
  · exact hc 5 _ (by decide) (by rw [e 5 (by decide)]; rfl)
theorem bt_ot {g : Nat} {e : TypeId} {sz : Nat} {xs : List Value} (h : BT ω w t g e xs) (hl : xs.length = sz) : OT ω w t e sz ⟨some ⟨g, 0, none⟩, 1, 1⟩ xs :=
  ⟨Own.mk' (cur := xs) (Nat.zero_le _) h.blk (Nat.le_refl _) (by simp [maxLen]) (by omega) (by rw [Nat.one_mul, List.take_of_length_le (by omega)]), fun k hk => by
    simp only [Sl.v, Value.ownBlock, Option.some.injEq] at hk
    rw [← hk]; exact h.tag⟩
theorem swlen (lim : Int) (M : List Av) : (swM lim M).length ≤ M.length := List.length_filter_le _ _

section
variable {K : Bool → World → Prop} {gO : Nat} {o : Opv}
/-- Both sets. -/
structure Two (w0 : World) (ω : Tg) (w : World) (gs gr : Nat) (rs ms : Int) (M : List Av) : Prop where
  top : Top w0 ω w
  a : AS ω w 10 gs rs ms M
  r : RS ω w 20 gr rs ms M
  wf : WFm M
theorem Two.stp (h : Two w0 ω w gs gr rs ms M) (k : Stp T ω ω' w w') (h0 : T 0 = false) (h1 : Off 10 T) (h2 : Off 20 T) : Two w0 ω' w' gs gr rs ms M := ⟨h.top.stp k h0, h.a.stp k h1, h.r.stp k h2, h.wf⟩
theorem Two.non (h : Two w0 ω w gs gr rs ms M) (k : Stp Non ω ω' w w') : Two w0 ω' w' gs gr rs ms M := h.stp k rfl (off_non 10) (off_non 20)
theorem sp_S14 (htab : UTab w0) (h : Two w0 ω w gs gr rs ms M) (hms : ms ≤ 500) (hrs : 1 ≤ rs ∧ rs ≤ 1099511627776) (bo : BT ω w 34 gO 36 (opC o)) (hm : Rd w0 o.2.2.2.1 2 (labs m)) (hz : ∀ x ∈ m, x.2.size ≤ 140737488355300) (hml : m.length ≤ 2000000) {n : Int} {b : Bool}
    (hK : ∀ M' ω' w', Two w0 ω' w' gs gr rs ms M' → K true w') : C.tocsinlaw21_step.S14 K (some ⟨gs, 0, none⟩) (some ⟨gr, 0, none⟩) (some ⟨gO, 0, none⟩) n b w := by
  unfold C.tocsinlaw21_step.S14
  have hmn := rdL_n hm
  refine ptr_at <| cSl_at (s := o.2.2.2.1) (by rw [addr_add, bo.cell]; rfl) <| cI_at (n := o.2.2.2.2.1) (by rw [addr_add, addr_add, bo.cell]; rfl) <| cI_at (n := o.2.2.2.2.2) (by rw [addr_add, addr_add, bo.cell]; rfl) ?_
  refine new_T (ω := ω) 35 fun g ω1 w1 k1 b1 => st_T b1 (by simp) fun ω2 w2 k2 b2 => st_TA b2 (by simp) fun ω3 w3 k3 b3 => st_TA b3 (by simp) fun ω4 w4 k4 b4 => ?_
  have sp : Stp (Mem.One 35) ω ω4 w w4 := (((k1.non _).trans k2).trans k3).trans k4
  have h4 := h.stp sp rfl ⟨rfl, rfl, rfl⟩ ⟨rfl, rfl, rfl⟩
  have bo4 := bo.stp sp rfl
  refine ptr_at <| cSl_at (s := o.2.2.2.1) (by rw [addr_add, bo4.cell]; rfl) ?_
  -- the labels' copy
  unfold C.tocsinref09_Own
  refine app_T tiL (OT.nil ω4 w4 36 48 2) (hm.keep h4.top.k) labs_one (by simp only [maxLen, nilS]; omega) (by simp only [nilS]; omega) fun r ω5 w5 k5 o5 _ => ?_
  rw [List.nil_append] at o5
  have h5 := h4.stp k5 rfl ⟨rfl, rfl, rfl⟩ ⟨rfl, rfl, rfl⟩
  have bo5 := bo4.stp k5
  refine st_T (b4.stp k5) (by simp) fun ω6 w6 k6 b6 => ?_
  have h6 := h5.stp k6 rfl ⟨rfl, rfl, rfl⟩ ⟨rfl, rfl, rfl⟩
  have bo6 := bo5.stp k6
  have o6 := o5.stp k6
  refine ptr_at <| cI_at (n := o.2.1) (by rw [addr_add, bo6.cell]; rfl) <| cSl_at (s := r) (by rw [b6.cell]; rfl) <| cI_at (n := o.2.2.2.2.1) (by rw [addr_add, b6.cell]; rfl) <| cI_at (n := o.2.2.2.2.2) (by rw [addr_add, b6.cell]; rfl) ?_
  refine put_ok (t := 10) (u := 36) (a := (m, o.2.2.2.2.1, o.2.2.2.2.2)) (ms := ms) (rs := rs) (now := o.2.1) h6.top htab rfl h6.a h6.wf hms hrs o6.rt rfl fun ω7 w7 k7 a7 f7 => ?_
  have top7 := h6.top.stp k7 rfl
  have r7 := h6.r.stp k7 ⟨rfl, rfl, rfl⟩
  have bo7 := bo6.stp k7 rfl
  have b7 := b6.stp k7 rfl
  have o7 := o6.stp k7 rfl
  have f0 := h6.wf
  refine cSl_at (s := r) (by rw [b7.cell]; rfl) <| ptr_at <| cSl_at (s := o.2.2.2.1) (by rw [addr_add, bo7.cell]; rfl) ?_
  refine rsame_ok o7.rd (hm.keep top7.k) (by omega) fun w8 k8 => ?_
  rw [decide_eq_true rfl]
  have s8 := k8.stp0 ω7
  unfold C.tocsinlaw21_step.S12
  refine C.tocsinlaw21_step.L8_ind fun X hX => ?_
  have hrn : r.n = m.length := rdL_n o7.rd
  have key : ∀ (d i : Nat) (xs : List Value) (ω9 : Tg) (w9 : World), i + d = m.length → Top w0 ω9 w9 → AS ω9 w9 10 gs rs ms (putM rs ms o.2.1 (m, o.2.2.2.2.1, o.2.2.2.2.2) M).2 → RS ω9 w9 20 gr rs ms M → BT ω9 w9 34 gO 36 (opC o) → BT ω9 w9 35 g 34 [r.v, .int .i64 o.2.2.2.2.1, .int .i64 o.2.2.2.2.2] → OT ω9 w9 36 48 2 r xs →
      X (some ⟨gr, 0, none⟩) (some ⟨gO, 0, none⟩) (some ⟨g, 0, none⟩) (putM rs ms o.2.1 (m, o.2.2.2.2.1, o.2.2.2.2.2) M).1 true (i : Int) w9 := by
    intro d
    induction d with
    | zero =>
      intro i xs ω9 w9 hi top9 a9 r9 bo9 b9 o9
      refine hX _ _ _ _ _ _ _ ?_
      unfold C.tocsinlaw21_step.S10
      refine ptr_at <| cSl_at (s := r) (by rw [b9.cell]; rfl) <| cond_d (fun hh => by omega) fun _ => ?_
      unfold C.tocsinlaw21_step.S5
      refine cond_t rfl <| ptr_at <| cI_at (n := o.2.1) (by rw [addr_add, bo9.cell]; rfl) <| ptr_at <| cSl_at (s := o.2.2.2.1) (by rw [addr_add, bo9.cell]; rfl) <| cI_at (n := o.2.2.2.2.1) (by rw [addr_add, addr_add, bo9.cell]; rfl) <| cI_at (n := o.2.2.2.2.2) (by rw [addr_add, addr_add, bo9.cell]; rfl) ?_
      refine rput_ok (t := 20) (u := 0) (a := (m, o.2.2.2.2.1, o.2.2.2.2.2)) (ms := ms) (rs := rs) (now := o.2.1) r9 f0 hrs (Top.rt top9 hm) hz rfl fun ω10 w10 k10 r10 => ?_
      rw [show (((putM rs ms o.2.1 (m, o.2.2.2.2.1, o.2.2.2.2.2) M).1 == (putM rs ms o.2.1 (m, o.2.2.2.2.1, o.2.2.2.2.2) M).1) : Bool) = true by simp]
      exact hK _ ω10 w10 ⟨top9.stp k10 rfl, a9.stp k10 ⟨rfl, rfl, rfl⟩, r10, f7⟩
    | succ d ih =>
      intro i xs ω9 w9 hi top9 a9 r9 bo9 b9 o9
      refine hX _ _ _ _ _ _ _ ?_
      unfold C.tocsinlaw21_step.S10
      refine ptr_at <| cSl_at (s := r) (by rw [b9.cell]; rfl) <| cond_d (fun _ => ?_) (fun hh => by omega)
      refine ptr_at <| cSl_at (s := r) (by rw [b9.cell]; rfl) <| o9.at_ (k := i) rfl (by omega) fun p hp _ _ _ => ?_
      refine o9.st (i := i) (j := 1) (by omega) (by decide) _ hp fun ω10 w10 k10 o10 => ?_
      rw [wI64 (by omega) (by omega), show (i : Int) + 1 = ((i + 1 : Nat) : Int) by omega]
      exact ih (i + 1) _ ω10 w10 (by omega) (top9.stp k10 rfl) (a9.stp k10 ⟨rfl, rfl, rfl⟩) (r9.stp k10 ⟨rfl, rfl, rfl⟩) (bo9.stp k10) (b9.stp k10) o10
  exact key m.length 0 (labs m) ω7 w8 (by omega) (top7.stp s8) (a7.stp s8 (off_non 10)) (r7.stp s8 (off_non 20)) (bo7.stp s8) (b7.stp s8) (o7.stp s8)
theorem sp_S2 (h : Two w0 ω w gs gr rs ms M) (bo : BT ω w 34 gO 36 (opC o)) (hK : ∀ M' ω' w', Two w0 ω' w' gs gr rs ms M' → K true w') : C.tocsinlaw21_step.S2 K (some ⟨gs, 0, none⟩) (some ⟨gr, 0, none⟩) (some ⟨gO, 0, none⟩) w := by
  unfold C.tocsinlaw21_step.S2
  refine ptr_at <| cI_at (n := o.2.1) (by rw [addr_add, bo.cell]; rfl) ?_
  refine firing_ASo ω h.a h.wf o.2.1 70 71 fun l1 ql1 ω1 w1 k1 o1 e1 r1 => ?_
  have h1 := h.non k1
  have bo1 := bo.stp k1
  refine ptr_at <| cI_at (n := o.2.1) (by rw [addr_add, bo1.cell]; rfl) ?_
  refine rfiring_ok h1.r h1.wf fun l2 ql2 w2 k2 ra2 e2 => ?_
  have s2 := k2.stp0 ω1
  have o2 := o1.stp s2
  have r2 : ∀ p ∈ ql1, OT ω1 w2 71 48 2 p.2 (labs p.1.1) := fun p hp => (r1 p hp).stp s2
  have hin : ∀ p ∈ ql1, p.1 ∈ M := fun p hp => by
    have : p.1 ∈ M.filter (fires o.2.1) := by rw [← e1]; exact List.mem_map_of_mem hp
    exact (List.mem_filter.1 this).1
  have h16 : ∀ p ∈ ql1, p.1.1.length ≤ 16 := fun p hp => (rt_short (h.wf.ok _ (hin p hp))).1
  have hql : ql1.length ≤ 500 := by
    have a1 := congrArg List.length e1
    have a2 := List.length_filter_le (fires o.2.1) M
    have a3 := h.wf.cnt
    rw [List.length_map] at a1; omega
  refine rsameA_ok ⟨o2.rd, fun p hp => (r2 p hp).rd⟩ ra2 (by rw [e1, e2]) (fun p hp => by have := h16 p hp; omega) (by omega) fun w3 k3 => ?_
  have s3 := k3.stp0 ω1
  have h3 := (h1.non s2).non s3
  refine spoil_ok (u := 70) (v := 71) (ω := ω1) (by decide) (rdA_n o2.rd) (by omega) ⟨avs ql1, o2.stp s3, avs_len ql1, fun j _ hj => ?_⟩ fun ω4 w4 k4 => hK M ω4 w4 (h3.stp k4 rfl ⟨rfl, rfl, rfl⟩ ⟨rfl, rfl, rfl⟩)
  obtain ⟨p, hp⟩ : ∃ p, ql1[j]? = some p := ⟨_, List.getElem?_eq_getElem hj⟩
  have hpm := List.mem_of_getElem? hp
  refine ⟨p.2, by have := (avs_at ql1 j p hp).1; simpa using this, OT.wb ((r2 p hpm).stp s3) ?_⟩
  have := rdL_n (r2 p hpm).rd
  have := h16 p hpm
  omega
theorem sp_S15 (htab : UTab w0) (h : Two w0 ω w gs gr rs ms M) (bo : BT ω w 34 gO 36 (opC o)) (hm : Rd w0 o.2.2.2.1 2 (labs m)) {n : Int} {b : Bool}
    (hK : ∀ M' ω' w', Two w0 ω' w' gs gr rs ms M' → K true w') : C.tocsinlaw21_step.S15 K (some ⟨gs, 0, none⟩) (some ⟨gr, 0, none⟩) (some ⟨gO, 0, none⟩) n b w := by
  unfold C.tocsinlaw21_step.S15
  refine cond_of (fun _ => ?_) (fun _ => cond_of (fun _ => ?_) (fun _ => sp_S2 h bo hK))
  · refine ptr_at <| cI_at (n := o.2.1) (by rw [addr_add, bo.cell]; rfl) <| ptr_at <| cI_at (n := o.2.2.1) (by rw [addr_add, bo.cell]; rfl) ?_
    refine sweep_ok h.a h.wf (fun hb => ?_) (fun c1 c2 c3 c4 ω1 w1 k1 a1 => ?_)
    · refine ptr_at <| cI_at (n := o.2.1) (by rw [addr_add, bo.cell]; rfl) <| ptr_at <| cI_at (n := o.2.2.1) (by rw [addr_add, bo.cell]; rfl) ?_
      exact rsweep_ok h.r h.wf (fun _ => cond_t rfl (hK M ω w h)) (fun c1 c2 c3 c4 => by omega)
    · have bo1 := bo.stp k1 rfl
      refine ptr_at <| cI_at (n := o.2.1) (by rw [addr_add, bo1.cell]; rfl) <| ptr_at <| cI_at (n := o.2.2.1) (by rw [addr_add, bo1.cell]; rfl) ?_
      refine rsweep_ok (h.r.stp k1 ⟨rfl, rfl, rfl⟩) h.wf (fun hb => by omega) (fun _ _ _ _ ω2 w2 k2 r2 => ?_)
      refine cond_t (by simp) ?_
      exact hK _ ω2 w2 ⟨(h.top.stp k1 rfl).stp k2 rfl, a1.stp k2 ⟨rfl, rfl, rfl⟩, r2, h.wf.filter _⟩
  · refine ptr_at <| cSl_at (s := o.2.2.2.1) (by rw [addr_add, bo.cell]; rfl) ?_
    obtain ⟨lr, qr, hr, er⟩ := h.r
    have hln := rdA_n hr.row.rd
    have hqr := lenq h.wf er
    refine get_ok h.a h.wf (htab.keep h.top.k) (hm.keep h.top.k) (fun hn w1 k1 => ?_) (fun av ha r w1 k1 o1 => ?_)
    · refine loc_ok fun g w2 k2 hg b2 => ?_
      have kd := Keep.trans (Keep.trans k1 k2.1) (Keep.drew w2)
      have hr2 := hr.stp (kd.stp0 ω) (off_non 20)
      have bo2 := bo.stp (kd.stp0 ω)
      have b2d : Blk w2.drew g 34 [nilS.v, .int .i64 0, .int .i64 0] := b2.drew
      refine ptr_at <| cSl_at (s := lr) (by rw [addr_add, hr2.hd.cell]; rfl) <| ptr_at <| cSl_at (s := o.2.2.2.1) (by rw [addr_add, bo2.cell]; rfl) ?_
      refine rat_ok hr2.ra er h.wf.up (shortq h.wf er) (by omega) (hm.keep (Keep.trans h.top.k kd)) fun w3 k3 => ?_
      have b3 := b2d.keep k3
      rw [hn]
      refine cond_t rfl <| cond_t rfl <| cSl_at (s := nilS) (by rw [b3.cell]; rfl) <| cond_t rfl <| cI_at (n := 0) (by rw [addr_add, b3.cell]; rfl) <| cond_t rfl <| cI_at (n := 0) (by rw [addr_add, b3.cell]; rfl) ?_
      exact hK M ω w3 (h.non ((Keep.trans kd k3).stp0 ω))
    · have s1 := k1.stp ω 36
      have o36 : OT (ext ω w.heap.size 36) w1 36 48 2 r (labs m) := Own.tag o1 (Nat.le_refl _) ω 36
      have h1 := h.non s1
      have bo1 := bo.stp s1
      have hr1 := hr.stp s1 (off_non 20)
      generalize ext ω w.heap.size 36 = ω1 at *
      refine loc_ok fun g w2 k2 hg b2 => ?_
      have s2 := (k2.1.stp0 ω1).trans (drew_stp ω1 w2)
      have h2 := h1.non s2
      have bo2 := bo1.stp s2
      have hr2 := hr1.stp s2 (off_non 20)
      have o2 := o36.stp s2
      have b2d : Blk w2.drew g 34 [r.v, .int .i64 av.2.1, .int .i64 av.2.2] := b2.drew
      refine ptr_at <| cSl_at (s := lr) (by rw [addr_add, hr2.hd.cell]; rfl) <| ptr_at <| cSl_at (s := o.2.2.2.1) (by rw [addr_add, bo2.cell]; rfl) ?_
      refine rat_ok hr2.ra er h.wf.up (shortq h.wf er) (by omega) (hm.keep h2.top.k) fun w3 k3 => ?_
      rw [ha]
      have kd3 := Keep.trans k3 (Keep.drew w3)
      have s3 := kd3.stp0 ω1
      have h3 := h2.non s3
      have hr3 := hr2.stp s3 (off_non 20)
      have o3 := o2.stp s3
      have b3 := b2d.keep kd3
      have hpos := posM_some h.wf.up ha
      obtain ⟨hav, eav⟩ := (getM_some h.wf.up).1 ha
      obtain ⟨p, hp⟩ : ∃ p, qr[posM M m]? = some p := by
        have := (List.getElem?_eq_some_iff.1 hpos).1
        rw [← er, List.length_map] at this
        exact ⟨_, List.getElem?_eq_getElem (by rw [er] at this; exact this)⟩
      have hpo : p.1 = av := by
        have : M[posM M m]? = some p.1 := by rw [← er, List.getElem?_map]; rw [er, hp]; rfl
        rw [hpos] at this; exact (Option.some.inj this).symm
      have hlt := (List.getElem?_eq_some_iff.1 hp).1
      refine cond_f rfl <| cond_t rfl <| cSl_at (s := r) (by rw [b3.cell]; rfl) <| cI_at (n := av.2.1) (by rw [addr_add, b3.cell]; rfl) <| cI_at (n := av.2.2) (by rw [addr_add, b3.cell]; rfl) ?_
      refine ptr_at <| cSl_at (s := lr) (by rw [addr_add, hr3.hd.cell]; rfl) ?_
      refine Rd.slc hr3.row.rd (lo := posM M m) (hi := posM M m + 1) (by omega) (by omega) rfl (by rw [wI64 (by omega) (by omega)]; omega) fun lq hlq _ _ => ?_
      rw [show posM M m + 1 - posM M m = 1 by omega, avs_mid hp] at hlq
      refine new_T (ω := ω1) 68 fun g4 ω4 w4 k4 b4 => ⟨hr3.hd.sameA k4, ?_⟩
      have h4 := h3.non k4
      have o4 := o3.stp k4
      have b34 := b3.keep k4.keep
      have ra : RA w4 ⟨some ⟨g4, 0, none⟩, 1, 1⟩ [((m, av.2.1, av.2.2), r)] := ⟨(bt_rt b4 rfl).rd, fun q hq => by rw [List.mem_singleton.1 hq]; exact o4.rd⟩
      have rb : RA w4 lq [p] := ⟨hlq.keep k4.keep, fun q hq => by rw [List.mem_singleton.1 hq]; exact (hr3.ra.lab p (List.mem_of_getElem? hp)).keep k4.keep⟩
      have m16 : m.length ≤ 16 := by rw [← eav]; exact (rt_short (h.wf.ok _ hav)).1
      refine rsameA_ok ra rb (by
        show [((m, av.2.1, av.2.2) : Av)] = [p.1]
        rw [hpo, ← eav]) (fun x hx => by rw [List.mem_singleton.1 hx]; show m.length ≤ _; omega) (by simp) fun w5 k5 => ?_
      have s5 := k5.stp0 ω4
      have h5 := h4.non s5
      have o5 := o4.stp s5
      have b5 := b34.keep k5
      refine cSl_at (s := r) (by rw [b5.cell]; rfl) <| cI_at (n := av.2.1) (by rw [addr_add, b5.cell]; rfl) <| cI_at (n := av.2.2) (by rw [addr_add, b5.cell]; rfl) ?_
      refine new_T (ω := ω4) 70 fun g6 ω6 w6 k6 b6 => ?_
      have h6 := h5.non k6
      refine spoil_ok (u := 70) (v := 36) (ω := ω6) (n := 1) (by decide) rfl (by decide) ⟨_, bt_ot b6 rfl, rfl, fun j _ hj => ⟨r, ?_, OT.wb (o5.stp k6) (by have := rdL_n o5.rd; omega)⟩⟩ fun ω7 w7 k7 => hK M ω7 w7 (h6.stp k7 rfl ⟨rfl, rfl, rfl⟩ ⟨rfl, rfl, rfl⟩)
      rw [show j = 0 by omega]; rfl
theorem step_ok (htab : UTab w0) (h : Two w0 ω w gs gr rs ms M) (hms : ms ≤ 500) (hrs : 1 ≤ rs ∧ rs ≤ 1099511627776) (hm : Rd w0 o.2.2.2.1 2 (labs m)) (hz : ∀ x ∈ m, x.2.size ≤ 140737488355300) (hml : m.length ≤ 2000000)
    (hK : ∀ M' ω' w', Two w0 ω' w' gs gr rs ms M' → K true w') : C.tocsinlaw21_step (some ⟨gs, 0, none⟩) (some ⟨gr, 0, none⟩) o.1 o.2.1 o.2.2.1 o.2.2.2.1 o.2.2.2.2.1 o.2.2.2.2.2 w K := by
  unfold C.tocsinlaw21_step
  refine new_T (ω := ω) 34 fun g ω1 w1 k1 b1 => ?_
  have h1 := h.non k1
  have b1' : BT ω1 w1 34 g 36 (opC o) := b1
  unfold C.tocsinlaw21_step.S19 C.tocsinlaw21_step.S17 C.tocsinlaw21_step.D16
  refine ptr_at <| cI_at (n := o.1) (by rw [b1'.cell]; rfl) <| cond_of (fun _ => ?_) (fun _ => ?_)
  · exact sp_S14 htab h1 hms hrs b1' hm hz hml hK
  · exact sp_S15 htab h1 b1' hm hK
end
/-! ## The law -/
theorem plays_S2 {K : Bool → World → Prop} {one : Sl} (htab : UTab w0) (h : Two w0 ω w gs gr rs ms M) {qo : QL} (ho : RA w one qo) (eo : qo.map (·.1) = M.take 1) (hK : ∀ w', Keep w0 w' → K true w') : C.tocsinlaw21_AlertsPlays.S2 K (some ⟨gs, 0, none⟩) one w := by
  unfold C.tocsinlaw21_AlertsPlays.S2
  refine all_AS ω h.a h.wf 1 70 71 fun l ql ω1 w1 k1 o1 e1 r1 => ?_
  rw [if_neg (by decide)] at e1
  have h16 : ∀ p ∈ ql, p.1.1.length ≤ 16 := fun p hp => (rt_short (h.wf.ok _ (List.mem_of_mem_take (by rw [← e1]; exact List.mem_map_of_mem hp)))).1
  have hl : ql.length ≤ 500 := by
    have := congrArg List.length e1
    rw [List.length_map, List.length_take] at this
    have := h.wf.cnt; omega
  refine rsameA_ok ⟨o1.rd, fun p hp => (r1 p hp).rd⟩ (ho.keep k1.keep) (by rw [e1, eo]) (fun p hp => by have := h16 p hp; omega) (by omega) fun w2 k2 => cond_t rfl ?_
  exact known_ok ((h.top.stp k1).stp (k2.stp0 ω1)) htab hK
theorem plays_S3 {K : Bool → World → Prop} (htab : UTab w0) (h : Two w0 ω w gs gr rs ms M) (hK : ∀ w', Keep w0 w' → K true w') : C.tocsinlaw21_AlertsPlays.S3 K (some ⟨gs, 0, none⟩) (some ⟨gr, 0, none⟩) w := by
  unfold C.tocsinlaw21_AlertsPlays.S3
  obtain ⟨lr, qr, hr, er⟩ := h.r
  have hln := rdA_n hr.row.rd
  refine ptr_at <| cSl_at (s := lr) (by rw [addr_add, hr.hd.cell]; rfl) <| cond_d (fun hgt => ?_) (fun hle => ?_)
  · refine Rd.slc hr.row.rd (lo := 0) (hi := 1) (by decide) (by omega) rfl rfl fun lq hlq _ _ => ?_
    rw [Nat.zero_mul, List.drop_zero, show 1 - 0 = 1 from rfl, avs_take] at hlq
    exact plays_S2 htab h ⟨hlq, fun p hp => hr.ra.lab p (List.mem_of_mem_take hp)⟩ (by rw [List.map_take, er]) hK
  · exact plays_S2 htab h hr.ra (by rw [er, List.take_of_length_le (by rw [← er, List.length_map]; omega)]) hK
theorem plays_law (htab : UTab w0) {sc : Sl} {ops : List Opv} (hsc : Rd w0 sc 6 (opsV ops)) (hl : ops.length ≤ 2000000) (ho : ∀ o ∈ ops, ∃ m, Rd w0 o.2.2.2.1 2 (labs m) ∧ m.length ≤ 2000000 ∧ ∀ x ∈ m, x.2.size ≤ 140737488355300) {K : Bool → World → Prop} (hK : ∀ w', Keep w0 w' → K true w') : C.tocsinlaw21_AlertsPlays rs ms sc w0 K := by
  have hsn := rdO_n hsc
  unfold C.tocsinlaw21_AlertsPlays
  by_cases hr : 1 ≤ rs ∧ rs ≤ 1099511627776 ∧ 1 ≤ ms ∧ ms ≤ 500
  case neg => exact new_bad (by omega) (rnew_bad (by omega) (cond_t rfl <| cond_t rfl <| cond_t rfl <| known_ok (Top.init w0) htab hK))
  obtain ⟨r1, r2, r3, r4⟩ := hr
  refine new_ok (fun _ => 0) 10 r1 r2 r3 r4 fun gs ω1 w1 k1 a1 => rnew_ok ω1 20 r1 r2 r3 r4 fun gr ω2 w2 k2 b2 => cond_f rfl <| cond_f rfl ?_
  have t2 : Two w0 ω2 w2 gs gr rs ms [] := ⟨((Top.init w0).stp k1).stp k2, a1.stp k2 (off_non 10), b2, wf_nil⟩
  unfold C.alerts_Set_All
  refine newD fun g w3 k3 _ _ => isNilF_no <| cond_f rfl ?_
  have t3 := t2.non (k3.1.stp0 ω2)
  unfold C.tocsinlaw21_AlertsPlays.S10
  refine C.tocsinlaw21_AlertsPlays.L6_ind fun X hX => ?_
  have key : ∀ (d i : Nat) (M : List Av) (ω : Tg) (w : World), i + d = ops.length → Two w0 ω w gs gr rs ms M → X sc (some ⟨gs, 0, none⟩) (some ⟨gr, 0, none⟩) (i : Int) w := by
    intro d
    induction d with
    | zero =>
      intro i M ω w hi h
      refine hX _ _ _ _ _ ?_
      unfold C.tocsinlaw21_AlertsPlays.S8
      exact cond_d (fun hh => by omega) (fun _ => plays_S3 htab h hK)
    | succ d ih =>
      intro i M ω w hi h
      refine hX _ _ _ _ _ ?_
      unfold C.tocsinlaw21_AlertsPlays.S8
      refine cond_d (fun _ => ?_) (fun hh => by omega)
      obtain ⟨o, hox⟩ : ∃ o, ops[i]? = some o := ⟨_, List.getElem?_eq_getElem (by omega)⟩
      obtain ⟨m, hm, hml, hz⟩ := ho o (List.mem_of_getElem? hox)
      have hd := h.non (drew_stp ω w)
      refine rdO_at (hsc.keep hd.top.k) (k := i) rfl hox fun b c0 c1 c2 c3 c4 c5 => cI_at c0 <| cI_at c1 <| cI_at c2 <| cSl_at c3 <| cI_at c4 <| cI_at c5 ?_
      refine step_ok htab hd r4 ⟨r1, r2⟩ hm hz hml fun M' ω4 w4 h4 => cond_f rfl ?_
      obtain ⟨lr, qr, hr, er⟩ := h4.r
      have hln := rdA_n hr.row.rd
      have hqr : qr.length = M'.length := by rw [← er, List.length_map]
      refine ptr_at <| cSl_at (s := lr) (by rw [addr_add, hr.hd.cell]; rfl) <| len_ok h4.a ⟨hr.hd.sameA (Stp.refl Non ω4 _), cond_f (by simp; omega) ?_⟩
      refine ptr_at <| cSl_at (s := lr) (by rw [addr_add, hr.hd.cell]; rfl) ?_
      refine all_AS ω4 h4.a h4.wf 0 70 71 fun l ql ω5 w5 k5 o5 e5 r5 => ⟨hr.hd.sameA k5, ?_⟩
      rw [if_pos rfl] at e5
      have h5 := h4.non k5
      refine rsameA_ok ⟨o5.rd, fun p hp => (r5 p hp).rd⟩ (hr.ra.keep k5.keep) (by rw [e5, er]) (fun p hp => by have := shortq h4.wf e5 p hp; omega) (by have := lenq h4.wf e5; omega) fun w6 k6 => cond_f rfl ?_
      rw [wI64 (by omega) (by omega), show (i : Int) + 1 = ((i + 1 : Nat) : Int) by omega]
      exact ih (i + 1) M' ω5 w6 (by omega) (h5.non (k6.stp0 ω5))
  exact key ops.length 0 [] ω2 w3 (by omega) t3

theorem labs_of {s : Sl} {b : Nat} (h : Cl w (.sl [.str, .str]) s.v b) : ∃ m : List Lb, Rd w s 2 (labs m) ∧ s.n = m.length ∧ s.n < b ∧ s.n ≤ maxLen ∧ ∀ x ∈ m, x.1.size < b ∧ x.2.size < b :=
  rows_of (α := Lb) (enc := labC) (fun _ => rfl) (by decide) h fun V hV => by
    obtain ⟨s0, e0, h0⟩ := (hV 0 _ rfl).str_inv
    obtain ⟨s1, e1, h1⟩ := (hV 1 _ rfl).str_inv
    refine ⟨(s0, s1), fun j hj => ?_, h0, h1⟩
    match j, hj with
    | 0, _ => rw [e0]; rfl
    | 1, _ => rw [e1]; rfl
theorem ops_of {s : Sl} {b : Nat} (h : Cl w (.sl [.int .i64, .int .i64, .int .i64, .sl [.str, .str], .int .i64, .int .i64]) s.v b) : ∃ l : List Opv, Rd w s 6 (opsV l) ∧ s.n = l.length ∧ s.n < b ∧ s.n ≤ maxLen ∧ ∀ o ∈ l, ∃ m, Rd w o.2.2.2.1 2 (labs m) ∧ m.length < b ∧ ∀ x ∈ m, x.1.size < b ∧ x.2.size < b :=
  haveI : Inhabited Opv := ⟨(0, 0, 0, nilS, 0, 0)⟩
  rows_of (α := Opv) (enc := opC) (fun _ => rfl) (by decide) h fun V hV => by
    obtain ⟨n0, e0, _⟩ := (hV 0 _ rfl).int_inv
    obtain ⟨n1, e1, _⟩ := (hV 1 _ rfl).int_inv
    obtain ⟨n2, e2, _⟩ := (hV 2 _ rfl).int_inv
    obtain ⟨s3, e3⟩ := (hV 3 _ rfl).sl_ex
    obtain ⟨n4, e4, _⟩ := (hV 4 _ rfl).int_inv
    obtain ⟨n5, e5, _⟩ := (hV 5 _ rfl).int_inv
    have h3 := hV 3 _ rfl
    rw [e3] at h3
    obtain ⟨m, r1, q1, q2, _, r2⟩ := labs_of h3
    refine ⟨(n0, n1, n2, s3, n4, n5), fun j hj => ?_, m, r1, by omega, r2⟩
    match j, hj with
    | 0, _ => rw [e0]; rfl
    | 1, _ => rw [e1]; rfl
    | 2, _ => rw [e2]; rfl
    | 3, _ => rw [e3]; rfl
    | 4, _ => rw [e4]; rfl
    | 5, _ => rw [e5]; rfl
theorem plays_in (htab : UTab w0) {sc : Sl} {b : Nat} (hb : b ≤ 1500000) (h : Cl w0 (.sl [.int .i64, .int .i64, .int .i64, .sl [.str, .str], .int .i64, .int .i64]) sc.v b) {K : Bool → World → Prop} (hK : ∀ w', Keep w0 w' → K true w') : C.tocsinlaw21_AlertsPlays rs ms sc w0 K := by
  obtain ⟨l, h1, h2, h5, _, h4⟩ := ops_of h
  exact plays_law htab h1 (by omega) (fun o ho => (h4 o ho).imp fun m hm => ⟨hm.1, by omega, fun x hx => by have := (hm.2.2 x hx).2; omega⟩) hK
end Go.Proofs.YtfkpehcbijgmnaaGreatDoor.Al
