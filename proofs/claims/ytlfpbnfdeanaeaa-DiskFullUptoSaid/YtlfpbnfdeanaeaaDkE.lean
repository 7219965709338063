/- Layer 3: New, List, Copy. Own work. -/
import Derived.Test.YtlfpbnfdeanaeaaDkD
import Derived.Test.YtlfpbnfdeanaeaaSortT
namespace Go.Proofs.Ytlfpbnfdeanaeaa.Dk
open Go Vm Go.RowKit Num Mem
variable {ω ω' : Tg} {w w' w0 : World} {t gd gm : Nat} {T : Nat → Bool} {M : List Fl} {pl : PL}

theorem tiSt : TI Try.prog 39 9 1 16 := TI.of (z := .string ⟨#[]⟩) (by kernel_rfl) (by kernel_rfl) rfl (by decide)
theorem wf_nil : WF [] := ⟨List.Pairwise.nil, by simp, by simp, by simp, by simp⟩
theorem new_ok (t : Nat) {K : Option Addr → World → Prop} (hK : ∀ gd ω' w', Stp Non ω ω' w w' → DK ω' w' t gd [] → K (some ⟨gd, 0, none⟩) w') : C.disk_New w K := by
  unfold C.disk_New
  refine mkV (ω := ω) (t + 1) fun gm ω1 w1 k1 m1 => new_T (ω := ω1) t fun gd ω2 w2 k2 b2 => hK gd ω2 w2 (k1.trans k2) ⟨gm, [], ⟨b2, m1.stp k2 rfl, by simp⟩, by simp⟩
def strs (l : List ByteArray) : List Value := l.map Value.string
theorem strs_enc (l : List ByteArray) : strs l = (l.map fun b => b.data.toList).map encStr := by
  unfold strs
  rw [List.map_map]
  exact List.map_congr_left fun b _ => (Srt.encStr_ba b).symm
theorem up_bytes (h : WF M) : (M.map fun f => f.name.data.toList).Pairwise fun a b => Op.bytesLess a b = true := by
  rw [List.pairwise_map]
  refine h.up.imp fun {a b} h => ?_
  unfold bl at h
  rwa [ByteArray.toList_eq, ByteArray.toList_eq] at h
theorem list_ok (h : DK ω w t gd M) (hM : WF M) {K : Sl → World → Prop} (hK : ∀ r w', Keep w w' → Mem.Own w' w.heap.size 9 1 r (strs (M.map (·.name))) → K r w') : C.disk_Disk_List (some ⟨gd, 0, none⟩) w K := by
  obtain ⟨gm, pl, h, hp⟩ := h
  unfold C.disk_Disk_List C.disk_Disk_List.S9
  have m0 : MV (fun _ => 0) w 0 gm (pl.map encP) := ⟨h.mp.ex, rfl⟩
  refine cond_f rfl <| ptr_at <| ⟨some gm, by rw [h.hd.cell]; rfl, rangeV 2 m0 mapT fun r ω1 w1 k1 i1 => ?_⟩
  refine C.disk_Disk_List.L5_ind fun X hX => ?_
  have key : ∀ (d : Nat) (ns : List ByteArray) (rest : AL) (l : Sl) (ω : Tg) (w2 : World), rest.length = d → OT ω w2 1 9 1 l (strs ns) → IT ω w2 2 r 0 gm (pl.map encP) rest → (ns ++ rest.map (·.1)).Perm ((pl.map encP).map (·.1)) → Top w ω w2 → X l (some ⟨r, 0, none⟩) w2 := by
    intro d
    induction d with
    | zero =>
      intro ns rest l ω w2 hd o i pm t2
      refine hX _ _ _ ?_
      unfold C.disk_Disk_List.S7
      refine nextV i (fun _ => ?_) (fun a x b ω' w' hr => by rw [hr] at hd; simp at hd)
      unfold C.disk_Disk_List.S2 C.slices_Sort_string_string
      have hr : rest = [] := List.eq_nil_of_length_eq_zero hd
      subst hr
      rw [List.map_nil, List.append_nil] at pm
      have pn : ns.Perm (M.map (·.name)) := by
        refine pm.trans ?_
        have := hp.map (·.name)
        rw [List.map_map] at this ⊢
        exact this
      have hlen : l.n = ns.length := by have := o.own.len; simp [strs] at this; omega
      have hcn := pn.length_eq
      rw [List.length_map] at hcn
      have hcnt := hM.cnt
      rw [strs_enc] at o
      refine Srt.sort_T o (by omega) fun ω' w' k' o' => ?_
      have t3 := t2.stp k'
      refine hK l w' t3.k ?_
      have e : (ns.map fun b => b.data.toList).mergeSort Srt.leS = M.map fun f => f.name.data.toList := Srt.sort_up (by have := pn.map fun b : ByteArray => b.data.toList; rwa [List.map_map] at this) (up_bytes hM)
      rw [e] at o'
      have o2 := OT.new o' t3
      rw [List.map_map] at o2
      rw [strs_enc, List.map_map, List.map_map]
      exact o2
    | succ d ih =>
      intro ns rest l ω w2 hd o i pm t2
      refine hX _ _ _ ?_
      unfold C.disk_Disk_List.S7
      refine nextV i (fun hr => by rw [hr] at hd; simp at hd) (fun a x b ω' w' hr k' i' en k v => en _ ⟨x.1, rfl, ?_⟩)
      have o' := o.stp k'
      have hlen : l.n = ns.length := by have := o.own.len; simp [strs] at this; omega
      have hb : ns.length ≤ 256 := by
        have h1 := pm.length_eq
        have h2 := hp.length_eq
        have h3 := hM.cnt
        simp only [List.length_append, List.length_map] at h1 h2
        omega
      refine push_T tiSt o' (n := 1) rfl (by intro v hv; simp at hv; subst hv; rfl) (by rw [hlen]; simp only [maxLen]; omega) (by rw [hlen]; omega) fun q ω3 w3 k3 o3 hq => ?_
      refine ih (ns ++ [x.1]) (a ++ b) q ω3 w3 (by rw [hr] at hd; simp at hd ⊢; omega) ?_ (i'.stp k3 rfl rfl) ?_ ((t2.stp k').stp k3)
      · unfold strs; rw [List.map_append]; exact o3
      · refine List.Perm.trans ?_ pm
        rw [hr]
        simp only [List.map_append, List.map_cons, List.append_assoc, List.singleton_append]
        refine List.Perm.append_left _ ?_
        exact (List.perm_middle (l₁ := a.map (·.1))).symm
  exact key (pl.map encP).length [] (pl.map encP) nilS ω1 w1 rfl (OT.nil ..) i1 (by simp) ((Top.init w).stp k1)

/-! ## Copy -/
/-- New blocks of tags 11 to 13 are of tags u to u + 2. -/
def ren (ωg ω : Tg) (n u : Nat) : Tg := fun k => if k < n then ωg k else if ω k = 11 then u else if ω k = 12 then u + 1 else if ω k = 13 then u + 2 else u
theorem ren_new {ωg ω : Tg} {n u k v : Nat} (h : n ≤ k) (hv : ω k = v) : ren ωg ω n u k = if v = 11 then u else if v = 12 then u + 1 else if v = 13 then u + 2 else u := by unfold ren; rw [if_neg (by omega), hv]
theorem top_ge {v : Nat} (top : Top w ω' w') {k : Nat} (h : ω' k = v) (hv : v ≠ 0) : w.heap.size ≤ k := by
  rcases Nat.lt_or_ge k w.heap.size with hlt | hge
  · rw [top.z k hlt] at h; exact absurd h.symm hv
  · exact hge
theorem RT.ren {s : Sl} {xs : List Value} {u : Nat} (h : RT ω' w' 13 s 1 xs) (top : Top w ω' w') : RT (ren ω ω' w.heap.size u) w' (u + 2) s 1 xs :=
  ⟨h.rd, fun g o ha hne => by rw [ren_new (top_ge top (h.tag g o ha hne) (by decide)) (h.tag g o ha hne)]; rfl⟩
theorem DKa.ren {u : Nat} (h : DKa ω' w' 11 gd gm pl) (top : Top w ω' w') : DKa (ren ω ω' w.heap.size u) w' u gd gm pl :=
  ⟨⟨h.hd.blk, by rw [ren_new (top_ge top h.hd.tag (by decide)) h.hd.tag]; rfl⟩, ⟨h.mp.ex, by rw [ren_new (top_ge top h.mp.tag (by decide)) h.mp.tag]; rfl⟩, fun p hp => RT.ren (h.rt p hp) top⟩
theorem ren_stp {u : Nat} (k : Keep w w') : Stp Non ω (ren ω ω' w.heap.size u) w w' := ⟨k.os, k.tape, k.output, k.size, fun i hi => by unfold ren; rw [if_pos hi], fun i hi _ => k.block i hi⟩
theorem perm_insM {f : Fl} : ∀ {M : List Fl}, (insM f M).Perm (f :: M)
  | [] => List.Perm.refl _
  | y :: r => by
    unfold insM
    split
    · exact (List.Perm.cons y perm_insM).trans (List.Perm.swap f y r)
    · exact List.Perm.refl _
theorem map_split {p : PL} {a b : AL} {x : ByteArray × Value} (h : p.map encP = a ++ x :: b) : ∃ pa q pb, p = pa ++ q :: pb ∧ a = pa.map encP ∧ x = encP q ∧ b = pb.map encP := by
  obtain ⟨pa, pr, h1, h2, h3⟩ := List.map_eq_append_iff.1 h
  cases pr with
  | nil => simp at h3
  | cons q pb =>
    simp only [List.map_cons, List.cons.injEq] at h3
    exact ⟨pa, q, pb, h1, h2.symm, h3.1.symm, h3.2.symm⟩
theorem copy_ok (u : Nat) (h : DK ω w t gd M) (hM : WF M) {K : Option Addr → World → Prop} (hK : ∀ gc ω' w', Stp Non ω ω' w w' → DK ω' w' u gc M → K (some ⟨gc, 0, none⟩) w') : C.disk_Disk_Copy (some ⟨gd, 0, none⟩) w K := by
  obtain ⟨gm, pl, h, hp⟩ := h
  unfold C.disk_Disk_Copy
  refine cond_f rfl <| new_ok (ω := fun _ => 0) 11 fun gc ω1 w1 k1 c1 => ?_
  obtain ⟨gmc, plc, c1, pc1⟩ := c1
  have hpl0 : plc = [] := by simpa using pc1
  subst hpl0
  unfold C.disk_Disk_Copy.S9
  have t1 := (Top.init w).stp k1
  have hk1 := h.stp (k1.keep.stp0 ω) (off_non t)
  have hgm := h.mp.lt
  have m0 : MV ω1 w1 0 gm (pl.map encP) := ⟨hk1.mp.ex, t1.z gm hgm⟩
  refine ptr_at <| ⟨some gm, by rw [hk1.hd.cell]; rfl, rangeV 2 m0 mapT fun r ω2 w2 k2 i2 => ?_⟩
  refine C.disk_Disk_Copy.L5_ind fun X hX => ?_
  have key : ∀ (d : Nat) (pdn prs plc : PL) (Mc : List Fl) (ω' : Tg) (w2 : World), prs.length = d → DKa ω' w2 11 gc gmc plc → (plc.map (·.1)).Perm Mc → WF Mc → (pdn.map (·.1)).Perm Mc → IT ω' w2 2 r 0 gm (pl.map encP) (prs.map encP) → (pdn ++ prs).Perm pl → Top w ω' w2 → X (some ⟨gc, 0, none⟩) (some ⟨r, 0, none⟩) w2 := by
    intro d
    induction d with
    | zero =>
      intro pdn prs plc Mc ω' w2 hd c pc hMc pd i pm t2
      refine hX _ _ _ ?_
      unfold C.disk_Disk_Copy.S7 C.disk_Disk_Copy.S2
      refine nextV i (fun _ => ?_) (fun a x b ω' w' hr => by have := congrArg List.length hr; rw [List.length_map, hd] at this; simp at this)
      have hr : prs = [] := List.eq_nil_of_length_eq_zero hd
      subst hr
      rw [List.append_nil] at pm
      have e : Mc = M := up_ext hMc.up hM.up fun x => by rw [← pd.mem_iff, (pm.map (·.1)).mem_iff, hp.mem_iff]
      subst e
      exact hK gc _ w2 (ren_stp (ω := ω) (ω' := ω') (u := u) t2.k) ⟨gmc, plc, c.ren t2, pc⟩
    | succ d ih =>
      intro pdn prs plc Mc ω' w2 hd c pc hMc pd i pm t2
      refine hX _ _ _ ?_
      unfold C.disk_Disk_Copy.S7
      refine nextV i (fun hr => by have := congrArg List.length hr; rw [List.length_map, hd] at this; simp at this) (fun a x b ω3 w3 hr k3 i3 en k v => en _ ?_)
      obtain ⟨pa, q, pb, e1, rfl, rfl, rfl⟩ := map_split hr
      have t3 := t2.stp k3
      have c3 := c.stp k3 (off_one (by omega))
      have hqm : q ∈ pl := pm.mem_iff.1 (by rw [e1]; simp)
      have hfm := mem_perm hp hqm
      refine ⟨q.1.name, rfl, ag_at rfl ⟨q.2, rfl, (q.1.synced : Int), rfl, ?_⟩⟩
      refine new_T (ω := ω3) 7 fun g ω4 w4 k4 b4 => st_T b4 (by simp) fun ω5 w5 k5 b5 => st_TA b5 (by simp) fun ω6 w6 k6 b6 => ?_
      have c6 := ((c3.stp k4 (off_non 11)).stp k5 (off_one (by omega))).stp k6 (off_one (by omega))
      have i6 := ((i3.stp k4 rfl rfl).stp k5 rfl rfl).stp k6 rfl rfl
      have t6 := ((t3.stp k4).stp k5).stp k6
      have kd := drew_stp ω6 w6
      have td := t6.stp kd
      have cd := c6.stp kd (off_non 11)
      have bd := b6.stp kd
      have hg := h.stp (td.k.stp0 ω) (off_non t)
      have hn : q.2.n = q.1.bytes.length := RdB.len (h.rt q hqm).rd
      have hl := hM.len _ hfm
      refine ptr_at <| ⟨some gmc, by rw [cd.hd.cell]; rfl, cSl_at (s := q.2) (by rw [bd.cell]; rfl) <| cI_at (n := (q.1.synced : Int)) (by rw [addr_add, bd.cell]; rfl) <| cSl_at (s := q.2) (by rw [bd.cell]; rfl) ?_⟩
      refine again_ok (n := q.1.bytes.length) (by rw [hn]) (hg.rt q hqm).rd (Nat.le_refl _) (by omega) fun q2 w7 k7 o7 => ⟨cd.hd.sameT (k7.stp0 ω6), ?_⟩
      rw [List.take_length] at o7
      have hsy := hM.syn _ hfm
      rw [Nat.min_eq_left hsy]
      have s7 := k7.stp ω6 13
      have c7 := cd.stp s7 (off_non 11)
      have rr := Own.rt o7 (Nat.le_refl _) ω6 13
      have i7 := (i6.stp kd rfl rfl).stp s7 rfl rfl
      have hnf : findM q.1.name Mc = none := by
        refine findM_none.2 fun y hy hyn => ?_
        have hym := pd.mem_iff.2 hy
        obtain ⟨z, hz, rfl⟩ := List.mem_map.1 hym
        have hn := h.names
        have hn2 := (pm.map (fun p : Fl × Sl => p.1.name)).nodup_iff.2 hn
        rw [e1] at hn2
        simp only [List.map_append, List.map_cons] at hn2
        have := (List.nodup_append.1 hn2).2.2 z.1.name (List.mem_map_of_mem hz) q.1.name (by simp)
        exact this hyn
      have eput : putM q.1 Mc = insM q.1 Mc := by unfold putM; rw [if_pos hnf]
      have hlen : Mc.length < 256 := by
        have h1 := pd.length_eq
        have h2 := pm.length_eq
        have h3 := hp.length_eq
        have h4 := hM.cnt
        rw [e1] at h2
        simp only [List.length_append, List.length_map, List.length_cons] at h1 h2 h3
        omega
      have hw : WF (putM q.1 Mc) := hMc.put (hM.nam _ hfm) hsy hl fun _ => hlen
      refine updV c7.mp mapT strT fun ω8 w8 k8 m8 => ?_
      obtain ⟨gm', plc', c8, pc8⟩ : DK ω8 w8 11 gc (putM q.1 Mc) := upd_DK (f := q.1) (sl := q2) c7 pc hw k8 m8 rr
      have egm : gm' = gmc := by
        have h1 := c8.hd.blk
        have h2 := (c7.hd.stp k8 (beq_no (by decide))).blk
        have := (h1.uniq h2).1
        simpa using this
      subst egm
      refine ih (pdn ++ [q]) (pa ++ pb) plc' (putM q.1 Mc) ω8 w8 (by rw [e1] at hd; simp at hd ⊢; omega) c8 pc8 hw ?_ ?_ ?_ ((td.stp s7).stp k8)
      · rw [eput, List.map_append]
        refine List.Perm.trans ?_ perm_insM.symm
        exact (List.perm_append_singleton q.1 _).trans (List.Perm.cons _ pd)
      · have := i7.stp k8 rfl rfl
        rwa [← List.map_append] at this
      · refine List.Perm.trans ?_ pm
        rw [e1]
        simp only [List.append_assoc, List.singleton_append]
        exact List.Perm.append_left _ (List.perm_middle (l₁ := pa)).symm
  exact key pl.length [] pl [] [] ω2 w2 rfl (c1.stp k2 (off_non 11)) (by simp) wf_nil (by simp) i2 (by simp) (t1.stp k2)
end Go.Proofs.Ytlfpbnfdeanaeaa.Dk
