/- Layer 3: the laws' calls of both disks. Own work. -/
import Derived.Test.YtlfpbnfdeanaeaaDkU
import Derived.Test.YtlfpbnfdeanaeaaWords
import Derived.Lib.SlBytesConst
namespace Go.Proofs.Ytlfpbnfdeanaeaa.Dk
open Go Vm Go.RowKit Num Mem Wo
variable {ω ω' : Tg} {w w' w0 : World} {t gd gr : Nat} {T : Nat → Bool} {M : List Fl}

/-- []byte of a text that is written out. -/
theorem litB {n : Nat} {cs : Array Value} {l : List UInt8} (hc : cs.toList = vBs l) (hn : l.length = n) {K : Sl → World → Prop} (hK : ∀ r w', Keep w w' → RdB w' r l → K r w') :
    G.new (.cells cs 5) w fun p w1 => G.runSl C.pr (Go.convert 25 25 (Sl.v (⟨some p, n, n⟩ : Sl))) w1 K := by
  refine ⟨⟨some ⟨w.heap.size, 0, none⟩, n, n⟩, _, Lib.run_convert_bytes_const (P := Try.prog) w 25 5 cs n n (by kernel_rfl) (by kernel_rfl), hK _ _ (Keep.alloc w _) ⟨Nat.le_refl _, by rw [vBs_length, hn]; exact (Nat.mul_one n).symm, fun _ => ⟨_, 0, rfl, fun j v hv => ?_⟩⟩⟩
  rw [Nat.zero_add]
  rw [← hc] at hv
  have hh : (w.alloc (.cells cs 5 (cs.size, cs.size + 1))).heap[w.heap.size]? = some (.cells cs 5 (cs.size, cs.size + 1)) := World.alloc_heap_new _ _
  simp only [World.cell?, hh]
  simpa using hv

def rdM (s : ByteArray) (M : List Fl) : List UInt8 × Int := if namF s = false then ([], 40) else match findM s M with | none => ([], 5) | some f => (f.bytes, 0)
def szM (s : ByteArray) (M : List Fl) : Int × Int × Int := if namF s = false then (0, 0, 40) else match findM s M with | none => (0, 0, 5) | some f => ((f.bytes.length : Int), (f.synced : Int), 0)
theorem read2_ok (h : DK ω w t gd M) (hM : WF M) {s : ByteArray} (hs : s.size ≤ 9223372036854775807) {K : Sl → Int → World → Prop} (hK : ∀ r w', Keep w w' → OwnB w' w.heap.size r (rdM s M).1 → K r (rdM s M).2 w') : C.disk_Disk_Read (some ⟨gd, 0, none⟩) s w K := by
  refine read_ok h hM hs (fun h1 w' k => ?_) (fun h1 h2 w' k => ?_) (fun f h1 h2 r w' k o => ?_)
  · have e : rdM s M = ([], 40) := by unfold rdM; rw [if_pos h1]
    have := hK nilS w' k (by rw [e]; exact OwnB.nil w' _); rwa [e] at this
  · have e : rdM s M = ([], 5) := by unfold rdM; rw [if_neg (by simp [h1]), h2]
    have := hK nilS w' k (by rw [e]; exact OwnB.nil w' _); rwa [e] at this
  · have e : rdM s M = (f.bytes, 0) := by unfold rdM; rw [if_neg (by simp [h1]), h2]
    have := hK r w' k (by rw [e]; exact o); rwa [e] at this
theorem rread2_ok (h : RD ω w t gr M) (hM : WF M) {s : ByteArray} (hs : s.size ≤ 9223372036854775807) {K : Sl → Int → World → Prop} (hK : ∀ r w', Keep w w' → OwnB w' w.heap.size r (rdM s M).1 → K r (rdM s M).2 w') : C.tocsinref03_Disk_Read (some ⟨gr, 0, none⟩) s w K := by
  refine rread_ok h hM hs (fun h1 => ?_) (fun h1 h2 => ?_) (fun f h1 h2 r w' k o => ?_)
  · have e : rdM s M = ([], 40) := by unfold rdM; rw [if_pos h1]
    have := hK nilS w (Keep.refl w) (by rw [e]; exact OwnB.nil w _); rwa [e] at this
  · have e : rdM s M = ([], 5) := by unfold rdM; rw [if_neg (by simp [h1]), h2]
    have := hK nilS w (Keep.refl w) (by rw [e]; exact OwnB.nil w _); rwa [e] at this
  · have e : rdM s M = (f.bytes, 0) := by unfold rdM; rw [if_neg (by simp [h1]), h2]
    have := hK r w' k (by rw [e]; exact o); rwa [e] at this
theorem size2_ok (h : DK ω w t gd M) (hM : WF M) {s : ByteArray} (hs : s.size ≤ 9223372036854775807) {K : Int → Int → Int → World → Prop} (hK : ∀ w', Keep w w' → K (szM s M).1 (szM s M).2.1 (szM s M).2.2 w') : C.disk_Disk_Size (some ⟨gd, 0, none⟩) s w K := by
  unfold szM at hK
  refine size_ok h hM hs (fun h1 w' k => ?_) (fun h1 h2 w' k => ?_) (fun f h1 h2 w' k => ?_)
  · have := hK w' k; rwa [if_pos h1] at this
  · have := hK w' k; rwa [if_neg (by simp [h1]), h2] at this
  · have := hK w' k; rwa [if_neg (by simp [h1]), h2] at this
theorem rsize2_ok (h : RD ω w t gr M) (hM : WF M) {s : ByteArray} (hs : s.size ≤ 9223372036854775807) {K : Int → Int → Int → World → Prop} (hK : ∀ w', Keep w w' → K (szM s M).1 (szM s M).2.1 (szM s M).2.2 w') : C.tocsinref03_Disk_Size (some ⟨gr, 0, none⟩) s w K := by
  unfold szM at hK
  refine rsize_ok h hM hs (fun h1 => ?_) (fun h1 h2 => ?_) (fun f h1 h2 => ?_)
  · have := hK w (Keep.refl w); rwa [if_pos h1] at this
  · have := hK w (Keep.refl w); rwa [if_neg (by simp [h1]), h2] at this
  · have := hK _ (Keep.drew w); rwa [if_neg (by simp [h1]), h2] at this
theorem rdM_len (hM : WF M) (s : ByteArray) : (rdM s M).1.length ≤ 1048576 := by
  unfold rdM
  split
  · simp
  · split
    · simp
    · rename_i f hf; exact hM.len _ (found hf).1

abbrev T14 : Nat → Bool := fun u => DT 1 u || DT 4 u
theorem t14a (k : Stp (DT 1) ω ω' w w') : Stp T14 ω ω' w w' := k.mono fun u hu => by simp only [T14, Bool.or_eq_false_iff] at hu; exact hu.1
theorem t14b (k : Stp (DT 4) ω ω' w w') : Stp T14 ω ω' w w' := k.mono fun u hu => by simp only [T14, Bool.or_eq_false_iff] at hu; exact hu.2
theorem off14 : Off 1 (DT 4) := ⟨rfl, rfl, rfl⟩
theorem off41 : Off 4 (DT 1) := ⟨rfl, rfl, rfl⟩

/-! ## The law's own crash -/
theorem tiK : TI Try.prog 43 72 2 24 := TI.of (z := .agg #[.string ⟨#[]⟩, .int .i64 0]) (by kernel_rfl) (by kernel_rfl) rfl (by decide)
theorem kps_one {l : List Kp} : ∀ v ∈ kps l, v.oneCell' = true := by
  intro v hv
  obtain ⟨p, _, hp⟩ := List.mem_flatMap.1 hv
  simp only [kpC, List.mem_cons, List.not_mem_nil, or_false] at hp
  rcases hp with rfl | rfl <;> rfl
def behind : ByteArray := ⟨#[98, 101, 104, 105, 110, 100]⟩
theorem crashL_ok (h : DK ω w 1 gd M) (hM : WF M) {l : Sl} {ks : List Kp} {u : Nat} (hl : RT ω w u l 2 (kps ks)) (hu : DT 1 u = false) (hkl : ks.length ≤ 10000000) {K : Int → Bool → World → Prop}
    (hK : ∀ ω' w', Stp (DT 1) ω ω' w w' → DK ω' w' 1 gd (crM ks M).2 → WF (crM ks M).2 → K (crM ks M).1 true w') : C.tocsinlaw03_crash (some ⟨gd, 0, none⟩) l w K := by
  have hln := rdK_len hl.rd
  unfold C.tocsinlaw03_crash
  refine app_T tiK (OT.nil (fun _ => 0) w 9 _ 2) hl.rd kps_one (by show nilS.n + _ ≤ _; simp only [nilS, maxLen]; omega) (by show (nilS.n + _) * 24 ≤ _; simp only [nilS]; omega) fun r1 ω1 w1 k1 o1 hr1 => ?_
  have hr1' : r1.n = ks.length := by rw [hr1]; simp [nilS, hln]
  refine push_T tiK o1 (n := 1) rfl (by intro v hv; simp at hv; rcases hv with rfl | rfl <;> rfl) (by rw [hr1']; simp only [maxLen]; omega) (by rw [hr1']; omega) fun r2 ω2 w2 k2 o2 hr2 => ?_
  have t2 := ((Top.init w).stp k1).stp k2
  have e2 : ([] : List Value) ++ kps ks ++ [.string behind, .int .i64 0] = kps (ks ++ [(behind, 0)]) := by unfold kps; rw [List.flatMap_append]; rfl
  have o2' : OT ω2 w2 9 72 2 r2 (kps (ks ++ [(behind, 0)])) := by rw [← e2]; exact o2
  have hrc : r2.n ≤ r2.c := o2'.rd.1
  have st := rtg_stp t2.k ω ω2 (fun _ => 0)
  have oo := Mem.OT.rtg (ω := ω) o2' t2 (fun _ => 0)
  generalize rtg ω ω2 w.heap.size (fun _ => 0) = ωs at *
  refine slc0' (n := ks.length) (by omega) (by omega) ?_
  have op := Wo.OT.pre oo (n := ks.length) (by omega)
  have ep : (kps (ks ++ [(behind, 0)])).take (ks.length * 2) = kps ks := by
    unfold kps; rw [flat_take (enc := kpC) (k := 2) (fun _ => rfl)]; simp
  rw [ep] at op
  refine crash_ok (by decide) (h.stp st (off_non 1)) hM (Mem.OT.rd op) (by omega) fun ω3 w3 k3 d3 hw3 => ?_
  have o3 := oo.stp k3 rfl
  have hl3 := (hl.stp st rfl).stp k3 hu
  have hlast : (ks ++ [(behind, 0)])[ks.length]? = some (behind, 0) := by simp
  refine rdK_at (Mem.OT.rd o3) (k := ks.length) (by rw [hln]) hlast fun a a0 _ => cS_at a0 ?_
  have eb : (behind.toList == (⟨#[98, 101, 104, 105, 110, 100]⟩ : ByteArray).toList) = true := by rw [ba_beq]; exact decide_eq_true rfl
  rw [eb]
  unfold C.tocsinlaw03_crash.S9
  refine C.tocsinlaw03_crash.L5_ind fun X hX => ?_
  have key : ∀ (d i : Nat) (w4 : World), i + d = ks.length → Keep w3 w4 → X l r2 (crM ks M).1 true (i : Int) w4 := by
    intro d
    induction d with
    | zero =>
      intro i w4 hi k
      refine hX _ _ _ _ _ _ ?_
      unfold C.tocsinlaw03_crash.S7 C.tocsinlaw03_crash.S2
      refine cond_d (fun hh => by omega) (fun _ => ?_)
      exact hK ω3 w4 (((st.non _).trans k3).trans ((k.stp0 ω3).non _)) (d3.stp (k.stp0 ω3) (off_non 1)) hw3
    | succ d ih =>
      intro i w4 hi k
      refine hX _ _ _ _ _ _ ?_
      unfold C.tocsinlaw03_crash.S7
      have kd := Keep.trans k (Keep.drew w4)
      obtain ⟨x, hx⟩ : ∃ x, ks[i]? = some x := ⟨_, List.getElem?_eq_getElem (by omega)⟩
      have hx' : (ks ++ [(behind, 0)])[i]? = some x := by rw [List.getElem?_append_left (by omega)]; exact hx
      refine cond_d (fun _ => cond_t rfl ?_) (fun hh => by omega)
      refine rdK_at ((Mem.OT.rd o3).keep kd) (k := i) rfl hx' fun a a0 a1 => cS_at a0 <| cI_at a1 <| rdK_at (hl3.rd.keep kd) (k := i) rfl hx fun b b0 b1 => cS_at b0 <| cI_at b1 ?_
      have e : ((x.1.toList == x.1.toList) && ((x.2 == x.2) && true)) = true := by simp
      rw [e, wI64 (by omega) (by omega), show (i : Int) + 1 = ((i + 1 : Nat) : Int) by omega]
      exact ih (i + 1) _ (by omega) kd
  exact key ks.length 0 w3 (by omega) (Keep.refl w3)

/-- Both disks. -/
structure ST (w0 : World) (ω : Tg) (w : World) (gd gr : Nat) (M : List Fl) : Prop where
  top : Top w0 ω w
  d : DK ω w 1 gd M
  r : RD ω w 4 gr M
  wf : WF M
structure Opn where
  kind : Int
  name : ByteArray
  to : ByteArray
  b : List UInt8
  n : Int
  keeps : List Kp
/-- A call's arguments in memory. -/
structure OpI (w0 : World) (o : Opn) (b k : Sl) : Prop where
  nam : o.name.size ≤ 9223372036854775807
  to : o.to.size ≤ 9223372036854775807
  b : RdB w0 b o.b
  bl : o.b.length ≤ 10000000
  k : Rd w0 k 2 (kps o.keeps)
  kl : o.keeps.length ≤ 10000000
def stepM (o : Opn) (M : List Fl) : List Fl :=
  if o.kind = 0 then (apM o.name o.b M).2 else if o.kind = 1 then (syM o.name M).2 else if o.kind = 2 then (cutM o.name o.n M).2 else if o.kind = 3 then (renM o.name o.to M).2 else if o.kind = 4 then (remM o.name M).2 else if o.kind = 5 then (crM o.keeps M).2 else M
theorem step_ok (h : ST w0 ω w gd gr M) {o : Opn} {b k : Sl} (ho : OpI w0 o b k) {K : Bool → World → Prop} (hK : ∀ ω' w', Stp T14 ω ω' w w' → ST w0 ω' w' gd gr (stepM o M) → K true w') :
    C.tocsinlaw03_step (some ⟨gd, 0, none⟩) (some ⟨gr, 0, none⟩) o.kind o.name o.to b o.n k w K := by
  unfold C.tocsinlaw03_step
  obtain ⟨v, hv, hvf⟩ := fresh ω w.heap.size 100
  refine new_T (ω := ω) v fun g ω1 w1 k1 b1 => ?_
  have h1 : ST w0 ω1 w1 gd gr M := ⟨h.top.stp k1, h.d.stp k1 (off_non 1), h.r.stp k1 (off_non 4), h.wf⟩
  have hv14 : T14 v = false := by simp only [T14]; rw [dt_off (by omega), dt_off (by omega)]; rfl
  have hv1 : DT 1 v = false := dt_off (by omega)
  have hv4 : DT 4 v = false := dt_off (by omega)
  have hvo : Off 1 (Mem.One v) := off_one (by omega)
  have hvo4 : Off 4 (Mem.One v) := off_one (by omega)
  have c0 : ∀ {ω2 w2}, BT ω2 w2 v g 45 [.int .i64 o.kind, .string o.name, .string o.to, b.v, .int .i64 o.n, k.v] → w2.cell? ⟨g, 0, none⟩ = some (.int .i64 o.kind) ∧ w2.cell? (Addr.add ⟨g, 0, none⟩ 1) = some (.string o.name) ∧ w2.cell? (Addr.add ⟨g, 0, none⟩ 2) = some (.string o.to) ∧ w2.cell? (Addr.add ⟨g, 0, none⟩ 3) = some b.v ∧ w2.cell? (Addr.add ⟨g, 0, none⟩ 4) = some (.int .i64 o.n) ∧ w2.cell? (Addr.add ⟨g, 0, none⟩ 5) = some k.v := fun bb =>
    ⟨by rw [bb.cell]; rfl, by rw [addr_add, bb.cell]; rfl, by rw [addr_add, bb.cell]; rfl, by rw [addr_add, bb.cell]; rfl, by rw [addr_add, bb.cell]; rfl, by rw [addr_add, bb.cell]; rfl⟩
  have bb1 : BT ω1 w1 v g 45 [.int .i64 o.kind, .string o.name, .string o.to, b.v, .int .i64 o.n, k.v] := b1
  obtain ⟨e0, e1, e2, e3, e4, e5⟩ := c0 bb1
  have hd := drew_stp ω1 w1
  have hd1 : ST w0 ω1 w1.drew gd gr M := ⟨h1.top.stp hd, h1.d.stp hd (off_non 1), h1.r.stp hd (off_non 4), h1.wf⟩
  have bbd := bb1.stp hd
  have kd := (k1.non T14).trans (hd.non T14)
  refine cI_at e0 <| cond_eq (fun q0 => ?_) (fun q0 => ?_)
  · -- Append
    have em : stepM o M = (apM o.name o.b M).2 := by unfold stepM; rw [if_pos q0]
    rw [em] at hK
    refine cSl_at (s := b) e3 <| lent_ok (ho.b.keep h1.top.k) ho.bl ω1 v fun r ω2 w2 k2 l2 => ?_
    have bb2 := bb1.stp k2
    refine cS_at (c0 bb2).2.1 ?_
    refine append_ok (h1.d.stp k2 (off_non 1)) h.wf ho.nam (Mem.OT.rd l2.ot) ho.bl fun ω3 w3 k3 d3 hw3 => ?_
    have bb3 := bb2.stp k3 hv1
    refine cS_at (c0 bb3).2.1 <| cSl_at (s := b) (c0 bb3).2.2.2.1 ?_
    have t3 := (h1.top.stp k2).stp k3 rfl
    have r3 := (h1.r.stp k2 (off_non 4)).stp k3 off41
    refine rappend_ok r3 h.wf ho.nam (u := 0) (Wo.Top.rt t3 ho.b) rfl ho.bl fun ω4 w4 k4 d4 => ?_
    have bb4 := bb3.stp k4 hv4
    have t4 := t3.stp k4 rfl
    refine cond_t (by simp) <| cSl_at (s := b) (c0 bb4).2.2.2.1 ?_
    have l4 := (l2.stp k3 hv1).stp k4 hv4
    refine kept_ok l4 (ho.b.keep t4.k) ho.bl fun w5 k5 => ?_
    have l5 := l4.stp (k5.stp0 ω4) rfl
    refine spoil_ok l5.ot ho.bl fun ω6 w6 k6 => ?_
    have s4 := ((((k1.non T14).trans (k2.non T14)).trans (t14a k3)).trans (t14b k4)).trans ((k5.stp0 ω4).non T14)
    refine hK ω6 w6 (s4.fresh k6 hvf) ⟨?_, ?_, ?_, hw3⟩
    · exact (t4.stp (k5.stp0 ω4)).stp k6 (beq_no (by omega))
    · exact ((d3.stp k4 off14).stp (k5.stp0 ω4) (off_non 1)).stp k6 hvo
    · exact (d4.stp (k5.stp0 ω4) (off_non 4)).stp k6 hvo4
  refine cond_eq (fun q1 => ?_) (fun q1 => ?_)
  · have em : stepM o M = (syM o.name M).2 := by unfold stepM; rw [if_neg q0, if_pos q1]
    rw [em] at hK
    refine cS_at (c0 bbd).2.1 <| cS_at (c0 bbd).2.1 <| sync_ok hd1.d h.wf ho.nam fun ω3 w3 k3 d3 hw3 => ⟨bbd.sameA k3 hv1, ?_⟩
    refine rsync_ok (hd1.r.stp k3 off41) h.wf ho.nam fun ω4 w4 k4 d4 => ?_
    have := hK ω4 w4 ((kd.trans (t14a k3)).trans (t14b k4)) ⟨(hd1.top.stp k3 rfl).stp k4 rfl, d3.stp k4 off14, d4, hw3⟩
    simpa using this
  refine cond_eq (fun q2 => ?_) (fun q2 => ?_)
  · have em : stepM o M = (cutM o.name o.n M).2 := by unfold stepM; rw [if_neg q0, if_neg q1, if_pos q2]
    rw [em] at hK
    refine cS_at (c0 bbd).2.1 <| cI_at (c0 bbd).2.2.2.2.1 <| cS_at (c0 bbd).2.1 <| cI_at (c0 bbd).2.2.2.2.1 <| cut_ok hd1.d h.wf ho.nam fun ω3 w3 k3 d3 hw3 => ⟨bbd.sameA k3 hv1, bbd.sameA k3 hv1, ?_⟩
    refine rcut_ok (hd1.r.stp k3 off41) h.wf ho.nam fun ω4 w4 k4 d4 => ?_
    have := hK ω4 w4 ((kd.trans (t14a k3)).trans (t14b k4)) ⟨(hd1.top.stp k3 rfl).stp k4 rfl, d3.stp k4 off14, d4, hw3⟩
    simpa using this
  refine cond_eq (fun q3 => ?_) (fun q3 => ?_)
  · have em : stepM o M = (renM o.name o.to M).2 := by unfold stepM; rw [if_neg q0, if_neg q1, if_neg q2, if_pos q3]
    rw [em] at hK
    refine cS_at (c0 bbd).2.1 <| cS_at (c0 bbd).2.2.1 <| cS_at (c0 bbd).2.1 <| cS_at (c0 bbd).2.2.1 <| rename_ok hd1.d h.wf ho.nam ho.to fun ω3 w3 k3 d3 hw3 => ⟨bbd.sameA k3 hv1, bbd.sameA k3 hv1, ?_⟩
    refine rrename_ok (hd1.r.stp k3 off41) h.wf ho.nam ho.to fun ω4 w4 k4 d4 => ?_
    have := hK ω4 w4 ((kd.trans (t14a k3)).trans (t14b k4)) ⟨(hd1.top.stp k3 rfl).stp k4 rfl, d3.stp k4 off14, d4, hw3⟩
    simpa using this
  refine cond_eq (fun q4 => ?_) (fun q4 => ?_)
  · have em : stepM o M = (remM o.name M).2 := by unfold stepM; rw [if_neg q0, if_neg q1, if_neg q2, if_neg q3, if_pos q4]
    rw [em] at hK
    refine cS_at (c0 bbd).2.1 <| cS_at (c0 bbd).2.1 <| remove_ok hd1.d h.wf ho.nam fun ω3 w3 k3 d3 hw3 => ⟨bbd.sameA k3 hv1, ?_⟩
    refine rremove_ok (hd1.r.stp k3 off41) h.wf ho.nam fun ω4 w4 k4 d4 => ?_
    have := hK ω4 w4 ((kd.trans (t14a k3)).trans (t14b k4)) ⟨(hd1.top.stp k3 rfl).stp k4 rfl, d3.stp k4 off14, d4, hw3⟩
    simpa using this
  refine cond_eq (fun q5 => ?_) (fun q5 => ?_)
  · have em : stepM o M = (crM o.keeps M).2 := by unfold stepM; rw [if_neg q0, if_neg q1, if_neg q2, if_neg q3, if_neg q4, if_pos q5]
    rw [em] at hK
    refine cSl_at (s := k) e5 <| crashL_ok h1.d h.wf (Wo.Top.rt h1.top ho.k) rfl ho.kl fun ω3 w3 k3 d3 hw3 => cond_t rfl ?_
    have bb3 := bb1.stp k3 hv1
    have t3 := h1.top.stp k3 rfl
    refine cSl_at (s := k) (c0 bb3).2.2.2.2.2 <| rcrash_ok (h1.r.stp k3 off41) h.wf (u := 0) (Wo.Top.rt t3 ho.k) rfl (by have := ho.kl; omega) fun ω4 w4 k4 d4 => ?_
    have := hK ω4 w4 (((k1.non T14).trans (t14a k3)).trans (t14b k4)) ⟨t3.stp k4 rfl, d3.stp k4 off14, d4, hw3⟩
    simpa using this
  · have em : stepM o M = M := by unfold stepM; rw [if_neg q0, if_neg q1, if_neg q2, if_neg q3, if_neg q4, if_neg q5]
    rw [em] at hK
    refine cS_at e1 <| read2_ok h1.d h.wf ho.nam fun ra w2 k2 o2 => ?_
    have s2 := k2.stp ω1 v
    have oa := Own.tag (w := w1) o2 (Nat.le_refl _) ω1 v
    generalize ext ω1 w1.heap.size v = ω2 at *
    have bb2 := bb1.stp s2
    refine cS_at (c0 bb2).2.1 <| rread2_ok (h1.r.stp s2 (off_non 4)) h.wf ho.nam fun rb w3 k3 o3 => ?_
    have bb3 := bb2.stp (k3.stp0 ω2)
    refine cS_at (c0 bb3).2.1 <| size2_ok ((h1.d.stp s2 (off_non 1)).stp (k3.stp0 ω2) (off_non 1)) h.wf ho.nam fun w4 k4 => ?_
    have bb4 := bb3.stp (k4.stp0 ω2)
    refine cS_at (c0 bb4).2.1 <| rsize2_ok (((h1.r.stp s2 (off_non 4)).stp (k3.stp0 ω2) (off_non 4)).stp (k4.stp0 ω2) (off_non 4)) h.wf ho.nam fun w5 k5 => ?_
    have k35 := Keep.trans k3 (Keep.trans k4 k5)
    have hlen := rdM_len h.wf o.name
    refine same_ok (Rd.keep (Mem.OT.rd oa) k35) (Rd.keep o3.rd (Keep.trans k4 k5)) (by omega) fun w6 k6 => ?_
    rw [decide_eq_true rfl]
    have k36 := Keep.trans k35 k6
    have oa6 := oa.stp (k36.stp0 ω2)
    refine cond_t rfl <| cond_t (by simp) <| cond_t (by simp) <| cond_t (by simp) <| spoil_ok oa6 (by omega) fun ω7 w7 k7 => ?_
    have s6 := ((k1.non T14).trans (s2.non T14)).trans ((k36.stp0 ω2).non T14)
    have := hK ω7 w7 (s6.fresh k7 hvf) ⟨((h1.top.stp s2).stp (k36.stp0 ω2)).stp k7 (beq_no (by omega)), ((h1.d.stp s2 (off_non 1)).stp (k36.stp0 ω2) (off_non 1)).stp k7 hvo, ((h1.r.stp s2 (off_non 4)).stp (k36.stp0 ω2) (off_non 4)).stp k7 hvo4, h.wf⟩
    simpa using this
end Go.Proofs.Ytlfpbnfdeanaeaa.Dk
