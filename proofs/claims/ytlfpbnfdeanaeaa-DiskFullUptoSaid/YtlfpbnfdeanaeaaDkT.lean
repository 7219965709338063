/- Layer 3: the document's disk: List, Copy, Crash. Own work. -/
import Derived.Test.YtlfpbnfdeanaeaaDkS
namespace Go.Proofs.Ytlfpbnfdeanaeaa.Dk
open Go Vm Go.RowKit Num Mem
variable {ω ω' : Tg} {w w' w0 : World} {t gr : Nat} {T : Nat → Bool} {M : List Fl} {pl : PL} {sl : Sl}

/-- append(nil, ..): new memory. -/
theorem appnil_ok {P : Program} {tt ty e : TypeId} {sz bytes : Nat} (ti : TI P tt e sz bytes) {x : Sl} {ys : List Value} (hx : Rd w x sz ys) (h1 : ∀ v ∈ ys, v.oneCell' = true) (hm : x.n ≤ maxLen) (hy : x.n * bytes ≤ 140737488355328)
    {K : Sl → World → Prop} (hK : ∀ r w', Keep w w' → Mem.Own w' w.heap.size e sz r ys → r.n = x.n → K r w') : G.runSl P (Builtin.append_ #[tt, tt] ty #[nilS.v, x.v]) w K :=
  append_own ti (Below.refl w.heap.size w) (Nat.le_refl _) (Own.nil w w.heap.size e sz) hx h1 (by show 0 + x.n ≤ _; omega) (by show (0 + x.n) * _ ≤ _; rw [Nat.zero_add]; exact hy) fun r w' k o hn _ => hK r w' k (by simpa using o) (by rw [hn]; simp [nilS])
theorem rlist_ok (h : RD ω w t gr M) (hM : WF M) {K : Sl → World → Prop} (hK : ∀ r w', Keep w w' → Mem.Own w' w.heap.size 9 1 r (strs (M.map (·.name))) → K r w') : C.tocsinref03_Disk_List (some ⟨gr, 0, none⟩) w K := by
  obtain ⟨sl, pl, h, hpl⟩ := h
  have hcnt := hM.cnt
  have hn := rdF_len h.row.rd
  have hpn : pl.length = M.length := by rw [← hpl, List.length_map]
  unfold C.tocsinref03_Disk_List C.tocsinref03_Disk_List.S9
  refine C.tocsinref03_Disk_List.L5_ind fun X hX => ?_
  have key : ∀ (d i : Nat) (l : Sl) (ω2 : Tg) (w2 : World), i + d = M.length → OT ω2 w2 1 9 1 l (strs ((M.take i).map (·.name))) → Top w ω2 w2 → X (some ⟨gr, 0, none⟩) l (i : Int) w2 := by
    intro d
    induction d with
    | zero =>
      intro i l ω2 w2 hi o t2
      refine hX _ _ _ _ ?_
      unfold C.tocsinref03_Disk_List.S7 C.tocsinref03_Disk_List.S2
      have h2 := h.stp (t2.k.stp0 ω) (off_non t)
      refine ptr_at <| cSl_at (s := sl) (by rw [h2.hd.cell]; rfl) <| cond_d (fun hh => by omega) (fun _ => ?_)
      rw [List.take_of_length_le (by omega)] at o
      exact hK l w2 t2.k (OT.new o t2)
    | succ d ih =>
      intro i l ω2 w2 hi o t2
      refine hX _ _ _ _ ?_
      unfold C.tocsinref03_Disk_List.S7
      have h2 := h.stp (t2.k.stp0 ω) (off_non t)
      have c0 : w2.cell? ⟨gr, 0, none⟩ = some sl.v := by rw [h2.hd.cell]; rfl
      obtain ⟨q, hx⟩ : ∃ q, pl[i]? = some q := ⟨_, List.getElem?_eq_getElem (by omega)⟩
      have hmx : M[i]? = some q.1 := by rw [← hpl, List.getElem?_map, hx]; rfl
      have hlen : l.n = i := by have := o.own.len; simp [strs] at this; omega
      refine ptr_at <| cSl_at (s := sl) c0 <| cond_d (fun _ => ?_) (fun hh => by omega)
      refine ptr_at <| cSl_at (s := sl) c0 <| rdF_at h2.row.rd (k := i) rfl hx fun a a0 _ _ => cS_at a0 ?_
      refine push_T tiSt o (n := 1) rfl (by intro v hv; simp at hv; subst hv; rfl) (by rw [hlen]; simp only [maxLen]; omega) (by rw [hlen]; omega) fun r ω3 w3 k3 o3 _ => ?_
      rw [wI64 (by omega) (by omega), show (i : Int) + 1 = ((i + 1 : Nat) : Int) by omega]
      refine ih (i + 1) r ω3 w3 (by omega) ?_ (t2.stp k3)
      rw [List.take_add_one, hmx]
      unfold strs at o3 ⊢
      simp only [Option.toList_some, List.map_append, List.map_cons, List.map_nil]
      exact o3
  exact key M.length 0 nilS (fun _ => 0) w (by omega) (OT.nil ..) (Top.init w)

theorem rcopy_ok (u : Nat) (h : RD ω w t gr M) (hM : WF M) {K : Option Addr → World → Prop} (hK : ∀ gc ω' w', Stp Non ω ω' w w' → RD ω' w' u gc M → K (some ⟨gc, 0, none⟩) w') : C.tocsinref03_Disk_Copy (some ⟨gr, 0, none⟩) w K := by
  obtain ⟨sl, pl, h, hpl⟩ := h
  have hcnt := hM.cnt
  have hn := rdF_len h.row.rd
  have hpn : pl.length = M.length := by rw [← hpl, List.length_map]
  unfold C.tocsinref03_Disk_Copy
  refine new_T (ω := fun _ => 0) 11 fun gc ω1 w1 k1 b1 => ?_
  unfold C.tocsinref03_Disk_Copy.S9
  refine C.tocsinref03_Disk_Copy.L5_ind fun X hX => ?_
  have key : ∀ (d i : Nat) (slc : Sl) (plc : PL) (ω2 : Tg) (w2 : World), i + d = M.length → RDa ω2 w2 11 gc slc plc → plc.map (·.1) = M.take i → Top w ω2 w2 → X (some ⟨gr, 0, none⟩) (some ⟨gc, 0, none⟩) (i : Int) w2 := by
    intro d
    induction d with
    | zero =>
      intro i slc plc ω2 w2 hi c pc t2
      refine hX _ _ _ _ ?_
      unfold C.tocsinref03_Disk_Copy.S7 C.tocsinref03_Disk_Copy.S2
      have h2 := h.stp (t2.k.stp0 ω) (off_non t)
      refine ptr_at <| cSl_at (s := sl) (by rw [h2.hd.cell]; rfl) <| cond_d (fun hh => by omega) (fun _ => ?_)
      rw [List.take_of_length_le (by omega)] at pc
      let F : Nat → Nat := fun x => if x = 11 then u else if x = 12 then u + 1 else if x = 13 then u + 2 else u
      refine hK gc _ w2 (rtg_stp t2.k ω ω2 F) ⟨slc, plc, ⟨c.hd.rtg t2 F, c.row.rtg t2 F, fun p hp => (c.rt p hp).rtg t2 F⟩, pc⟩
    | succ d ih =>
      intro i slc plc ω2 w2 hi c pc t2
      refine hX _ _ _ _ ?_
      unfold C.tocsinref03_Disk_Copy.S7
      have h2 := h.stp (t2.k.stp0 ω) (off_non t)
      have c0 : ∀ {w'}, Keep w w' → w'.cell? ⟨gr, 0, none⟩ = some sl.v := fun k => k.cell (by rw [h.hd.cell]; rfl)
      obtain ⟨q, hx⟩ : ∃ q, pl[i]? = some q := ⟨_, List.getElem?_eq_getElem (by omega)⟩
      have hmx : M[i]? = some q.1 := by rw [← hpl, List.getElem?_map, hx]; rfl
      have hqm := List.mem_of_getElem? hx
      have hqb := RdB.len (h.rt q hqm).rd
      have hle := hM.len _ (List.mem_of_getElem? hmx)
      have hcl : slc.n = i := by
        have h1 := rdF_len c.row.rd
        have := congrArg List.length pc
        rw [List.length_map, List.length_take] at this
        omega
      refine ptr_at <| cSl_at (s := sl) (c0 t2.k) <| cond_d (fun _ => ?_) (fun hh => by omega)
      refine ptr_at <| cSl_at (s := sl) (c0 t2.k) <| rdF_at h2.row.rd (k := i) rfl hx fun a a0 a1 a2 => cS_at a0 <| cSl_at (s := q.2) a1 <| cI_at a2 ?_
      refine new_T (ω := ω2) 7 fun g ω3 w3 k3 b3 => st_T b3 (by simp) fun ω4 w4 k4 b4 => st_TA b4 (by simp) fun ω5 w5 k5 b5 => st_TA b5 (by simp) fun ω6 w6 k6 b6 => st_TA b6 (by simp) fun ω7 w7 k7 b7 => ?_
      have kd := drew_stp ω7 w7
      have td := (((((t2.stp k3).stp k4).stp k5).stp k6).stp k7).stp kd
      have bd := b7.stp kd
      have cd := (((((c.stp k3 (off_non 11)).stp k4 (off_one (by omega))).stp k5 (off_one (by omega))).stp k6 (off_one (by omega))).stp k7 (off_one (by omega))).stp kd (off_non 11)
      refine cSl_at (s := nilS) (by rw [addr_add, bd.cell]; rfl) <| ptr_at <| cSl_at (s := sl) (c0 td.k) <| rdF_at (h.row.rd.keep td.k) (k := i) rfl hx fun a _ a1 _ => cSl_at (s := q.2) a1 ?_
      refine appnil_ok tiB ((h.rt q hqm).rd.keep td.k) vBs_one (by rw [hqb]; simp only [maxLen]; omega) (by rw [hqb]; omega) fun r8 w8 k8 o8 hr8 => ?_
      have s8 := k8.stp ω7 13
      have o8' := Own.tag (w := w7.drew) o8 (Nat.le_refl _) ω7 13
      generalize ext ω7 w7.drew.heap.size 13 = ω8 at s8 o8'
      refine st_TA (bd.stp s8) (by simp) fun ω9 w9 k9 b9 => ?_
      have kd2 := drew_stp ω9 w9
      have t9 := ((td.stp s8).stp k9).stp kd2
      have b9d := b9.stp kd2
      have c9 := ((cd.stp s8 (off_non 11)).stp k9 (off_one (by omega))).stp kd2 (off_non 11)
      have o9 := (o8'.stp k9).stp kd2
      refine ptr_at <| cSl_at (s := slc) (by rw [c9.hd.cell]; rfl) <| cS_at (b := q.1.name) (by rw [b9d.cell]; rfl) <| cSl_at (s := r8) (by rw [addr_add, b9d.cell]; rfl) <| cI_at (n := (q.1.synced : Int)) (by rw [addr_add, b9d.cell]; rfl) ?_
      refine new_T (ω := ω9) 8 fun g2 ω10 w10 k10 b10 => ⟨c9.hd.sameT k10, ?_⟩
      have c10 := c9.stp k10 (off_non 11)
      have o10 := o9.stp k10
      have hx10 : Rd w10 ⟨some ⟨g2, 0, none⟩, 1, 1⟩ 3 (fcs [(q.1, r8)]) := Rd.blk (o := 0) (n := 1) (c := 1) (sz := 3) b10.blk (Nat.le_refl _) (by simp)
      refine app_T tiF c10.row hx10 fcs_one (by simp only [maxLen]; omega) (by simp only; omega) fun r11 ω11 w11 k11 o11 hr11 => ?_
      have c11 := c10.hd.stp k11
      refine ptr_at <| st_T c11 (by simp) fun ω12 w12 k12 b12 => ?_
      rw [wI64 (by omega) (by omega), show (i : Int) + 1 = ((i + 1 : Nat) : Int) by omega]
      refine ih (i + 1) r11 (plc ++ [(q.1, r8)]) ω12 w12 (by omega) ⟨b12, ?_, fun p hp => ?_⟩ ?_ (((t9.stp k10).stp k11).stp k12)
      · have := o11.stp k12
        unfold fcs at this ⊢
        rw [List.flatMap_append]; exact this
      · rcases List.mem_append.1 hp with hp | hp
        · exact ((c10.rt p hp).stp k11).stp k12
        · rw [List.mem_singleton.1 hp]
          exact (o10.rt.stp k11).stp k12
      · rw [List.map_append, pc, List.take_add_one, hmx]; rfl
  exact key M.length 0 nilS [] ω1 w1 (by omega) ⟨b1, OT.nil .., by simp⟩ (by simp) ((Top.init w).stp k1)
end Go.Proofs.Ytlfpbnfdeanaeaa.Dk
