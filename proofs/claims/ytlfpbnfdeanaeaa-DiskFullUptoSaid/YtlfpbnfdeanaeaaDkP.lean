/- Layer 3: DiskApart, DiskKeeps. Own work. -/
import Derived.Test.YtlfpbnfdeanaeaaDkN
namespace Go.Proofs.Ytlfpbnfdeanaeaa.Dk
open Go Vm Go.RowKit Num Mem Wo Rep
variable {ω ω' : Tg} {w w' w0 : World} {t gd gr : Nat} {T : Nat → Bool} {M : List Fl}

theorem nam_size {f : Fl} (hM : WF M) (hf : f ∈ M) : f.name.size ≤ 9223372036854775807 := by
  have h := hM.nam f hf
  unfold namF at h
  simp only [Bool.and_eq_true, decide_eq_true_eq] at h
  omega
theorem rdM_in (hM : WF M) {f : Fl} (hf : f ∈ M) : rdM f.name M = (f.bytes, 0) ∧ szM f.name M = ((f.bytes.length : Int), (f.synced : Int), 0) := by
  have h1 := hM.nam f hf
  have h2 : findM f.name M = some f := (findM_some hM.nodup).2 ⟨hf, rfl⟩
  constructor
  · unfold rdM; rw [if_neg (by simp [h1]), h2]
  · unfold szM; rw [if_neg (by simp [h1]), h2]
/-- Another file is left as it was. -/
theorem apart (hM : WF M) {o : Opn} (hk : 0 ≤ o.kind ∧ o.kind ≤ 4) {f : Fl} (hf : f ∈ M) (h1 : f.name ≠ o.name) (h2 : o.kind = 3 → f.name ≠ o.to) : f ∈ stepM o M := by
  have hput : ∀ g : Fl, g.name = o.name → f ∈ putM g M := fun g hg => mem_putM.2 (.inr ⟨hf, by rw [hg]; exact h1⟩)
  have hon : ∀ F : Fl → Int × List Fl, (∀ x, f ∈ (F x).2) → f ∈ (onF o.name M F).2 := fun F hF => by
    unfold onF
    split
    · exact hf
    · split
      · exact hf
      · exact hF _
  unfold stepM
  split
  · unfold apM
    split
    · exact hf
    · split
      · split
        · exact hf
        · split
          · exact hf
          · exact hput _ rfl
      · split
        · exact hf
        · exact hput _ rfl
  · split
    · exact hon _ fun x => hput _ rfl
    · split
      · refine hon _ fun x => ?_
        split
        · exact hf
        · exact hput _ rfl
      · split
        · rename_i q3
          unfold renM
          split
          · exact hf
          · split
            · exact hf
            · split
              · exact hf
              · exact mem_putM.2 (.inr ⟨mem_delM.2 ⟨hf, h1⟩, h2 q3⟩)
        · split
          · exact hon _ fun x => mem_delM.2 ⟨hf, h1⟩
          · split
            · omega
            · exact hf
theorem apart_law {s b k : Sl} {l : List Ops} {o : Opn} (hs : Rd w0 s 6 (ops l)) (hl : l.length ≤ 10000000) (ho : ∀ x ∈ l, OpI w0 x.1 x.2.1 x.2.2) (hoo : OpI w0 o b k) {K : Bool → World → Prop} (hK : ∀ w', Keep w0 w' → K true w') :
    C.tocsinlaw03_DiskApart s o.kind o.name o.to b o.n k w0 K := by
  unfold C.tocsinlaw03_DiskApart
  refine new_T (ω := fun _ => 0) 100 fun g ω1 w1 k1 b1 => ?_
  have t1 := (Top.init w0).stp k1
  have bb1 : BT ω1 w1 100 g 45 [.int .i64 o.kind, .string o.name, .string o.to, b.v, .int .i64 o.n, k.v] := b1
  refine files_ok t1 hs hl ho fun gd gr M ω2 w2 k2 h2 => cond_f rfl ?_
  have bb2 := bb1.stp k2 rfl
  have go : ∀ (kd : Int) (ω3 : Tg) (w3 : World), 0 ≤ kd ∧ kd ≤ 4 → ST w0 ω3 w3 gd gr M → BT ω3 w3 100 g 45 [.int .i64 kd, .string o.name, .string o.to, b.v, .int .i64 o.n, k.v] → C.tocsinlaw03_DiskApart.S11 K (some ⟨g, 0, none⟩) (some ⟨gd, 0, none⟩) (some ⟨gr, 0, none⟩) w3 := by
    intro kd ω3 w3 hkd h3 bb3
    have hcnt := h3.wf.cnt
    unfold C.tocsinlaw03_DiskApart.S11
    refine rcopy_ok 10 h3.r h3.wf fun gw ω4 w4 k4 r4 => ?_
    have h4 := h3.non k4
    have bb4 := bb3.stp k4
    refine ptr_at <| cI_at (n := kd) (by rw [bb4.cell]; rfl) <| cS_at (b := o.name) (by rw [addr_add, bb4.cell]; rfl) <| cS_at (b := o.to) (by rw [addr_add, bb4.cell]; rfl) <| cSl_at (s := b) (by rw [addr_add, bb4.cell]; rfl) <| cI_at (n := o.n) (by rw [addr_add, bb4.cell]; rfl) <| cSl_at (s := k) (by rw [addr_add, bb4.cell]; rfl) ?_
    refine step_ok (o := { o with kind := kd }) h4 ⟨hoo.nam, hoo.to, hoo.b, hoo.bl, hoo.k, hoo.kl⟩ fun ω5 w5 k5 h5 => cond_f rfl ?_
    have r5 := r4.stp k5 off10
    have bb5 := bb4.stp k5 rfl
    obtain ⟨sl, pl, r5, hpl⟩ := r5
    have hpn : pl.length = M.length := by rw [← hpl, List.length_map]
    have hsn := rdF_len r5.row.rd
    unfold C.tocsinlaw03_DiskApart.S9
    refine C.tocsinlaw03_DiskApart.L5_ind fun X hX => ?_
    have key : ∀ (d i : Nat) (w6 : World), i + d = M.length → Keep w5 w6 → X (some ⟨g, 0, none⟩) (some ⟨gd, 0, none⟩) (some ⟨gw, 0, none⟩) (i : Int) w6 := by
      intro d
      induction d with
      | zero =>
        intro i w6 hi k6
        refine hX _ _ _ _ _ ?_
        have r6 := r5.stp (k6.stp0 ω5) (off_non 10)
        unfold C.tocsinlaw03_DiskApart.S7 C.tocsinlaw03_DiskApart.S2
        refine ptr_at <| cSl_at (s := sl) (by rw [r6.hd.cell]; rfl) <| cond_d (fun hh => by omega) (fun _ => ?_)
        exact known_ok (h5.top.stp (k6.stp0 ω5)) hK
      | succ d ih =>
        intro i w6 hi k6
        refine hX _ _ _ _ _ ?_
        have r6 := r5.stp (k6.stp0 ω5) (off_non 10)
        have c6 : w6.cell? ⟨gw, 0, none⟩ = some sl.v := by rw [r6.hd.cell]; rfl
        obtain ⟨q, hx⟩ : ∃ q, pl[i]? = some q := ⟨_, List.getElem?_eq_getElem (by omega)⟩
        have hqM : M[i]? = some q.1 := by rw [← hpl, List.getElem?_map, hx]; rfl
        have hqm := List.mem_of_getElem? hqM
        have hle := h3.wf.len _ hqm
        unfold C.tocsinlaw03_DiskApart.S7
        refine ptr_at <| cSl_at (s := sl) c6 <| cond_d (fun _ => ?_) (fun hh => by omega)
        refine ptr_at <| cSl_at (s := sl) c6 <| rdF_at r6.row.rd (k := i) rfl hx fun a a0 a1 a2 => cS_at a0 <| cSl_at (s := q.2) a1 <| cI_at a2 ?_
        refine new_T (ω := fun _ => 0) 7 fun g2 ω7 w7 k7 b7 => st_T b7 (by simp) fun ω8 w8 k8 b8 => st_TA b8 (by simp) fun ω9 w9 k9 b9 => st_TA b9 (by simp) fun ω10 w10 k10 b10 => ?_
        have k610 := ((((Top.init w6).stp k7).stp k8).stp k9).stp k10
        have k510 := Keep.trans k6 k610.k
        have bb10 := bb5.stp (k510.stp0 ω5)
        have nx : (IntKind.i64.wrap ((i : Int) + 1)) = ((i + 1 : Nat) : Int) := by rw [wI64 (by omega) (by omega)]; omega
        have d0 : w10.cell? ⟨g2, 0, none⟩ = some (.string q.1.name) := by rw [b10.cell]; rfl
        have d1 : w10.cell? (Addr.add ⟨g2, 0, none⟩ 1) = some q.2.v := by rw [addr_add, b10.cell]; rfl
        have d2 : w10.cell? (Addr.add ⟨g2, 0, none⟩ 2) = some (.int .i64 (q.1.synced : Int)) := by rw [addr_add, b10.cell]; rfl
        rw [nx]
        refine cS_at d0 <| ptr_at <| cS_at (b := o.name) (by rw [addr_add, bb10.cell]; rfl) ?_
        rw [ba_beq]
        refine cond_d (fun _ => ih (i + 1) _ (by omega) k510) (fun hn1 => ?_)
        refine ptr_at <| cI_at (n := kd) (by rw [bb10.cell]; rfl) ?_
        have look : (kd = 3 → q.1.name ≠ o.to) → G.cS ⟨g2, 0, none⟩ w10 fun s71 => C.disk_Disk_Read (some ⟨gd, 0, none⟩) s71 w10 fun l72 n73 w74 => G.cS ⟨g2, 0, none⟩ w74 fun s75 => C.disk_Disk_Size (some ⟨gd, 0, none⟩) s75 w74 fun n76 n77 n78 w79 => G.cond (n73 != (0 : Int)) (K false w79) (G.cSl (Addr.add ⟨g2, 0, none⟩ 1) w79 fun l80 => C.tocsinref01_Same l72 l80 w79 fun b81 w82 => G.cond (!b81) (K false w82) (G.cI .i64 (Addr.add ⟨g2, 0, none⟩ 2) w82 fun n83 => G.cond (n77 != n83) (K false w82) (X (some ⟨g, 0, none⟩) (some ⟨gd, 0, none⟩) (some ⟨gw, 0, none⟩) ((i + 1 : Nat) : Int) w82))) := by
          intro h3'
          have hin : q.1 ∈ stepM { o with kind := kd } M := apart h3.wf (o := { o with kind := kd }) hkd hqm hn1 h3'
          obtain ⟨er, es⟩ := rdM_in h5.wf hin
          have hsz := nam_size h5.wf hin
          refine cS_at d0 <| read2_ok (h5.d.stp (k510.stp0 ω5) (off_non 1)) h5.wf hsz fun r w11 k11 o11 => ?_
          rw [er] at o11 ⊢
          have k511 := Keep.trans k510 k11
          refine cS_at (k11.cell d0) <| size2_ok (h5.d.stp (k511.stp0 ω5) (off_non 1)) h5.wf hsz fun w12 k12 => ?_
          rw [es]
          have k1012 := Keep.trans k11 k12
          refine cond_f rfl <| cSl_at (s := q.2) (k1012.cell d1) ?_
          have hqr := (r5.rt q (List.mem_of_getElem? hx)).rd.keep (Keep.trans k510 k1012)
          refine same_ok (rd_own (o11.keep k12)) hqr (show q.1.bytes.length ≤ _ by omega) fun w13 k13 => ?_
          rw [decide_eq_true rfl]
          refine cond_f rfl <| cI_at ((Keep.trans k1012 k13).cell d2) <| cond_f (by simp) ?_
          exact ih (i + 1) w13 (by omega) (Keep.trans k510 (Keep.trans k1012 k13))
        refine cond_eq (fun h3' => ?_) (fun h3' => look fun e => absurd e h3')
        refine cS_at d0 <| ptr_at <| cS_at (b := o.to) (by rw [addr_add, bb10.cell]; rfl) ?_
        rw [ba_beq]
        exact cond_d (fun _ => ih (i + 1) _ (by omega) k510) (fun hn2 => look fun _ => hn2)
    exact key M.length 0 w5 (by omega) (Keep.refl w5)
  refine cI_at (n := o.kind) (by rw [bb2.cell]; rfl) ?_
  have off100 : ∀ {M : List Fl} {ω ω' : Tg} {w w' : World}, ST w0 ω w gd gr M → Stp (Mem.One 100) ω ω' w w' → ST w0 ω' w' gd gr M := fun h k => ⟨h.top.stp k rfl, h.d.stp k ⟨rfl, rfl, rfl⟩, h.r.stp k ⟨rfl, rfl, rfl⟩, h.wf⟩
  refine cond_d (fun hlt => st_T bb2 (by simp) fun ω3 w3 k3 b3 => go 0 ω3 w3 (by decide) (off100 h2 k3) b3) (fun hlt => ?_)
  refine cI_at (n := o.kind) (by rw [bb2.cell]; rfl) ?_
  exact cond_d (fun hgt => st_T bb2 (by simp) fun ω3 w3 k3 b3 => go 0 ω3 w3 (by decide) (off100 h2 k3) b3) (fun hgt => go o.kind ω2 w2 ⟨by omega, by omega⟩ h2 bb2)

/-! ## DiskKeeps -/
theorem crM_names (ks : List Kp) (M : List Fl) : (crM ks M).2.map (·.name) = M.map (·.name) := by
  unfold crM
  split
  · rfl
  · exact crF_names ks M
theorem keeps_law {s p m : Sl} {l : List Ops} {ks ms : List Kp} (hs : Rd w0 s 6 (ops l)) (hl : l.length ≤ 10000000) (ho : ∀ x ∈ l, OpI w0 x.1 x.2.1 x.2.2) (hk : Rd w0 p 2 (kps ks)) (hkl : ks.length ≤ 10000000) (hm : Rd w0 m 2 (kps ms)) (hml : ms.length ≤ 10000000)
    {K : Bool → World → Prop} (hK : ∀ w', Keep w0 w' → K true w') : C.tocsinlaw03_DiskKeeps s p m w0 K := by
  unfold C.tocsinlaw03_DiskKeeps
  refine files_ok (Top.init w0) hs hl ho fun gd gr M ω1 w1 k1 h1 => cond_f rfl ?_
  have hM := h1.wf
  have hcnt := hM.cnt
  refine copy_ok 7 h1.d hM fun gc ω2 w2 k2 c2 => cond_f rfl ?_
  have t2 := h1.top.stp k2
  refine crash_ok (by decide) (h1.d.stp k2 (off_non 1)) hM (hk.keep t2.k) (by omega) fun ω3 w3 k3 d3 hw3 => ?_
  have t3 := t2.stp k3 rfl
  have c3 := c2.stp k3 ⟨rfl, rfl, rfl⟩
  refine list_ok c3 hM fun n1 w4 k4 o4 => ?_
  have s4 := k4.stp ω3 0
  have on0 := Own.tag (w := w3) o4 (Nat.le_refl _) ω3 0
  have t4 := t3.stp s4
  have c4 := c3.stp s4 (off_non 7)
  have d4 := d3.stp s4 (off_non 1)
  generalize ext ω3 w3.heap.size 0 = ω4 at *
  refine list_ok d4 hw3 fun n2 w5 k5 o5 => ?_
  rw [crM_names] at o5
  have on4 := Own.rd (o4.keep k5)
  refine texts_ok (l := M.map (·.name)) (m := M.map (·.name)) (Own.rd o5) on4 (by simp; omega) fun w6 k6 => ?_
  rw [decide_eq_true rfl]
  refine cond_f rfl ?_
  have k36 := Keep.trans k5 k6
  have on : Rd w6 n1 1 (Wo.strs (M.map (·.name))) := on4.keep k6
  have on6 := on0.stp (k36.stp0 ω4)
  have hnn := strs_len on
  rw [List.length_map] at hnn
  have d6 := d4.stp (k36.stp0 ω4) (off_non 1)
  have c6 := c4.stp (k36.stp0 ω4) (off_non 7)
  have t6 := t4.stp (k36.stp0 ω4)
  -- what each file is behind the crash
  have fate : ∀ f ∈ M, ∃ f' ∈ (crM ks M).2, f'.name = f.name ∧ f'.bytes = f.bytes.take f'.bytes.length ∧ f'.bytes.length ≤ f.bytes.length ∧ f.synced ≤ f'.bytes.length ∧ ((crM ks M).1 = 0 → f'.bytes.length = f'.synced) := by
    intro f hf
    have h1 := hM.syn f hf
    unfold crM
    split
    · exact ⟨f, hf, rfl, by rw [List.take_length], Nat.le_refl _, h1, fun e => by cases e⟩
    · have hcn := crN_le f ks h1
      have e : (crF ks f).bytes.length = crN ks f := by show (f.bytes.take (crN ks f)).length = _; rw [List.length_take]; omega
      exact ⟨crF ks f, List.mem_map_of_mem hf, rfl, by rw [e]; rfl, by omega, by rw [e]; unfold crN; omega, fun _ => e⟩
  unfold C.tocsinlaw03_DiskKeeps.S18
  refine C.tocsinlaw03_DiskKeeps.L14_ind fun X hX => ?_
  have key : ∀ (d i : Nat) (w7 : World), i + d = M.length → Keep w6 w7 → X m (some ⟨gd, 0, none⟩) (some ⟨gc, 0, none⟩) (crM ks M).1 n1 (i : Int) w7 := by
    intro d
    induction d with
    | succ d ih =>
      intro i w7 hi k7
      refine hX _ _ _ _ _ _ _ ?_
      unfold C.tocsinlaw03_DiskKeeps.S16
      obtain ⟨f, hf⟩ : ∃ f, M[i]? = some f := ⟨_, List.getElem?_eq_getElem (by omega)⟩
      have hfm := List.mem_of_getElem? hf
      have hnx : (M.map (·.name))[i]? = some f.name := by rw [List.getElem?_map, hf]; rfl
      have hsz := nam_size hM hfm
      have hle := hM.len f hfm
      obtain ⟨er, es⟩ := rdM_in hM hfm
      obtain ⟨f', hfm', en, eb, hbl, hsy, hsyn⟩ := fate f hfm
      obtain ⟨er', es'⟩ := rdM_in hw3 hfm'
      rw [en] at er' es'
      refine cond_d (fun _ => ?_) (fun hh => by omega)
      refine str_at (on.keep k7) hnx fun a a0 => cS_at a0 <| read2_ok (c6.stp (k7.stp0 ω4) (off_non 7)) hM hsz fun r1 w8 k8 o8 => ?_
      rw [er] at o8
      have k68 := Keep.trans k7 k8
      refine str_at (on.keep k68) hnx fun a a0 => cS_at a0 <| size2_ok (c6.stp (k68.stp0 ω4) (off_non 7)) hM hsz fun w9 k9 => ?_
      rw [es]
      have k69 := Keep.trans k68 k9
      refine str_at (on.keep k69) hnx fun a a0 => cS_at a0 <| read2_ok (d6.stp (k69.stp0 ω4) (off_non 1)) hw3 hsz fun r2 w10 k10 o10 => ?_
      rw [er'] at o10 ⊢
      have k610 := Keep.trans k69 k10
      refine str_at (on.keep k610) hnx fun a a0 => cS_at a0 <| size2_ok (d6.stp (k610.stp0 ω4) (off_non 1)) hw3 hsz fun w11 k11 => ?_
      rw [es']
      have ha := rd_own (o8.keep (Keep.trans k9 (Keep.trans k10 k11)))
      have hb := rd_own (o10.keep k11)
      have hal : r1.n = f.bytes.length := ha.len
      have hbl2 : r2.n = f'.bytes.length := hb.len
      refine cond_f rfl <| cond_d (fun hh => by omega) (fun _ => ?_)
      simp only []
      refine cond_d (fun hh => by omega) (fun _ => ?_)
      refine RdB.slc (l := f.bytes) (lo := 0) (hi := r2.n) ha (Nat.zero_le _) (by omega) rfl rfl fun r3 hr3 => ?_
      rw [List.drop_zero, Nat.sub_zero, hbl2, ← eb] at hr3
      refine same_ok (l := f'.bytes) hb hr3 (by omega) fun w12 k12 => ?_
      rw [decide_eq_true rfl]
      have nx : (IntKind.i64.wrap ((i : Int) + 1)) = ((i + 1 : Nat) : Int) := by rw [wI64 (by omega) (by omega)]; omega
      have next := ih (i + 1) w12 (by omega) (Keep.trans k610 (Keep.trans k11 k12))
      rw [nx]
      refine cond_f rfl <| cond_eq (fun e0 => cond_f ?_ next) (fun _ => next)
      have := hsyn e0
      simp; omega
    | zero =>
      intro i w7 hi k7
      refine hX _ _ _ _ _ _ _ ?_
      unfold C.tocsinlaw03_DiskKeeps.S16
      refine cond_d (fun hh => by omega) (fun _ => ?_)
      unfold C.tocsinlaw03_DiskKeeps.S11
      have t7 := t6.stp (k7.stp0 ω4)
      have d7 := d6.stp (k7.stp0 ω4) (off_non 1)
      by_cases hb : badK [] ks = true
      · have e1 : (crM ks M).1 = 1 := by unfold crM; rw [if_pos hb]
        rw [e1]
        exact cond_t rfl <| cond_t rfl <| known_ok t7 hK
      have e1 : crM ks M = (0, M.map (crF ks)) := by unfold crM; rw [if_neg hb]
      rw [e1] at d7 hw3 ⊢
      refine cond_f rfl <| copy_ok 10 d7 hw3 fun ga ω8 w8 k8 a8 => cond_f rfl ?_
      have t8 := t7.stp k8
      have d8 := d7.stp k8 (off_non 1)
      refine crash_ok (by decide) a8 hw3 (hm.keep t8.k) (by omega) fun ω9 w9 k9 a9 hw9 => ?_
      have same : (crM ms (M.map (crF ks))).2 = M.map (crF ks) := by
        unfold crM
        split
        · rfl
        · rw [List.map_map]
          refine List.map_congr_left fun f hf => ?_
          have hcn := crN_le f ks (hM.syn f hf)
          have e : (crF ks f).bytes.length = crN ks f := by show (f.bytes.take (crN ks f)).length = _; rw [List.length_take]; omega
          have e2 : crN ms (crF ks f) = crN ks f := by show crN ks f + min _ ((crF ks f).bytes.length - crN ks f) = crN ks f; rw [e]; simp
          show (⟨(crF ks f).name, (crF ks f).bytes.take (crN ms (crF ks f)), crN ms (crF ks f)⟩ : Fl) = crF ks f
          rw [e2, List.take_of_length_le (by omega)]; rfl
      simp only [same] at a9 hw9
      have t9 := t8.stp k9 rfl
      have d9 := d8.stp k9 ⟨rfl, rfl, rfl⟩
      have on9 := ((on6.stp (k7.stp0 ω4)).stp k8).stp k9 rfl
      have hn9 : n1.n = M.length := hnn
      unfold C.tocsinlaw03_DiskKeeps.S9
      refine C.tocsinlaw03_DiskKeeps.L5_ind fun Y hY => ?_
      have loop : ∀ (d i : Nat) (w10 : World), i + d = M.length → Keep w9 w10 → Y (some ⟨gd, 0, none⟩) n1 (some ⟨ga, 0, none⟩) (i : Int) w10 := by
        intro d
        induction d with
        | zero =>
          intro i w10 hi k10
          refine hY _ _ _ _ _ ?_
          unfold C.tocsinlaw03_DiskKeeps.S7 C.tocsinlaw03_DiskKeeps.S2
          exact cond_d (fun hh => by omega) (fun _ => known_ok (t9.stp (k10.stp0 _)) hK)
        | succ d ih =>
          intro i w10 hi k10
          refine hY _ _ _ _ _ ?_
          unfold C.tocsinlaw03_DiskKeeps.S7
          obtain ⟨f, hf⟩ : ∃ f, M[i]? = some f := ⟨_, List.getElem?_eq_getElem (by omega)⟩
          have hfm := List.mem_of_getElem? hf
          have hnx : (M.map (·.name))[i]? = some f.name := by rw [List.getElem?_map, hf]; rfl
          have hsz := nam_size hM hfm
          have hle := rdM_len hw3 f.name
          have onr : Rd w9 n1 1 (Wo.strs (M.map (·.name))) := Mem.OT.rd on9
          refine cond_d (fun _ => ?_) (fun hh => by omega)
          refine str_at (onr.keep k10) hnx fun a a0 => cS_at a0 <| read2_ok (d9.stp (k10.stp0 _) (off_non 1)) hw3 hsz fun r1 w11 k11 o11 => ?_
          have k911 := Keep.trans k10 k11
          refine str_at (onr.keep k911) hnx fun a a0 => cS_at a0 <| read2_ok (a9.stp (k911.stp0 _) (off_non 10)) hw9 hsz fun r2 w12 k12 o12 => ?_
          refine same_ok (rd_own (o11.keep k12)) (rd_own o12) (by omega) fun w13 k13 => ?_
          rw [decide_eq_true rfl]
          refine cond_f rfl ?_
          rw [wI64 (by omega) (by omega), show (i : Int) + 1 = ((i + 1 : Nat) : Int) by omega]
          exact ih (i + 1) w13 (by omega) (Keep.trans k911 (Keep.trans k12 k13))
      exact loop M.length 0 w9 (by omega) (Keep.refl w9)
  exact key M.length 0 w6 (by omega) (Keep.refl w6)
set_option maxRecDepth 100000 in
theorem open_op {H : Type} {enc : TypeId × Value → H} {spare : Nat → Bool} {held : Bool} {base : Nat} {t : TypeId} {fs : Array Field} {v : Value} {d : DataW H} {p : List MemPlace} (hu : Try.prog.underlying t = some (.struct fs)) (hs : shOf Try.prog 8 t = some opSh) (hval : Value.okWide Try.prog w .any base t v)
    (h : DataW.Trod enc Try.prog w 0 spare held t v d p) : ∃ (o : Opn) (b k : Sl), v = .agg ⟨opC (o, b, k)⟩ ∧ (Rows.uptoBulk d ≤ 1048577 → OpI w o b k) := by
  obtain ⟨cs, rfl, hl, hr⟩ := open_row 8 hu hs hval h
  obtain ⟨v0, e0, c0⟩ := hr 0 _ rfl
  obtain ⟨v1, e1, c1⟩ := hr 1 _ rfl
  obtain ⟨v2, e2, c2⟩ := hr 2 _ rfl
  obtain ⟨v3, e3, c3⟩ := hr 3 _ rfl
  obtain ⟨v4, e4, c4⟩ := hr 4 _ rfl
  obtain ⟨v5, e5, c5⟩ := hr 5 _ rfl
  have ecs : cs = [v0, v1, v2, v3, v4, v5] := by
    clear hr c0 c1 c2 c3 c4 c5 hval h
    match cs, hl with
    | [a, b, c, d, e, f], _ =>
      simp only [List.getElem?_cons_zero, List.getElem?_cons_succ, Option.some.injEq] at e0 e1 e2 e3 e4 e5
      rw [e0, e1, e2, e3, e4, e5]
  subst ecs
  obtain ⟨n0, rfl, _⟩ := c0.int_inv
  obtain ⟨s1, rfl, _⟩ := c1.str_inv
  obtain ⟨s2, rfl, _⟩ := c2.str_inv
  obtain ⟨b3, rfl, c3⟩ := sl_of c3
  obtain ⟨n4, rfl, _⟩ := c4.int_inv
  obtain ⟨k5, rfl, c5⟩ := sl_of c5
  obtain ⟨l3, r3, m3, q3⟩ := bytes_of c3
  obtain ⟨l5, r5, m5, q5⟩ := kps_of c5
  refine ⟨⟨n0, s1, s2, l3, n4, l5⟩, b3, k5, rfl, fun hb => ?_⟩
  obtain ⟨_, ei1, q1⟩ := c1.str_inv
  obtain ⟨_, ei2, q2⟩ := c2.str_inv
  injection ei1 with ei1
  injection ei2 with ei2
  subst ei1 ei2
  exact ⟨show s1.size ≤ _ by omega, show s2.size ≤ _ by omega, r3, show l3.length ≤ _ by omega, r5, show l5.length ≤ _ by omega⟩
end Go.Proofs.Ytlfpbnfdeanaeaa.Dk
