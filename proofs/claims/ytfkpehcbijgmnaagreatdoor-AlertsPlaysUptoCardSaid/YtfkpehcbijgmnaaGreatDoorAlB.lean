/- Layer 21 (alerts): the alerts in order; All, Firing. Own work. -/
import Derived.Test.YtfkpehcbijgmnaaGreatDoorAlA
import Derived.Test.YtfkpehcbijgmnaaGreatDoorRtg
namespace Go.Proofs.YtfkpehcbijgmnaaGreatDoor.Al
open Go Vm Go.RowKit Num Mem Utf Lib Lab
variable {ω ω' : Tg} {w w' w0 : World} {t gs gm : Nat} {T : Nat → Bool} {pl : QL} {M : List Av}

theorem Top.rt {s : Sl} {sz : Nat} {xs : List Value} (top : Top w0 ω w) (h : Rd w0 s sz xs) : RT ω w 0 s sz xs := by
  refine ⟨h.keep top.k, fun g o ha hne => ?_⟩
  obtain ⟨g', o', ha', hc⟩ := h.2.2 hne
  rw [ha] at ha'
  simp only [Option.some.injEq, Addr.mk.injEq] at ha'
  obtain ⟨rfl, rfl, _⟩ := ha'
  have hpos : 0 < xs.length := List.length_pos_iff.2 hne
  exact top.z _ (cell_lt (hc 0 xs[0] (List.getElem?_eq_getElem hpos)))
abbrev ltA (a b : Av) : Prop := cmpL a.1 b.1 < 0
theorem ltA_irr (a : Av) : ¬ ltA a a := by unfold ltA; rw [cmpL_cmp.self]; decide
theorem perm_up : ∀ {M l : List Av}, l.Perm M → l.Pairwise (fun a b => ¬ ltA b a) → M.Pairwise ltA → l = M
  | [], l, hp, _, _ => hp.eq_nil
  | m :: M, l, hp, h1, h2 => by
    cases l with
    | nil => exact absurd hp.symm.eq_nil (by simp)
    | cons x l =>
      have h1' := List.pairwise_cons.1 h1
      have h2' := List.pairwise_cons.1 h2
      have e : x = m := by
        rcases List.mem_cons.1 (hp.mem_iff.1 (List.mem_cons_self ..)) with e | hx
        · exact e
        · rcases List.mem_cons.1 (hp.mem_iff.2 (List.mem_cons_self ..)) with e | hm
          · exact e.symm
          · exact absurd (h2'.1 x hx) (h1'.1 m hm)
      subst e
      rw [perm_up (List.perm_cons x |>.1 hp) h1'.2 h2'.2]
theorem range_getD (q0 : Av × Sl) (ql : QL) : (List.range ql.length).map (fun i => ql.getD i q0) = ql := by
  apply List.ext_getElem?
  intro i
  simp only [List.getElem?_map, List.getElem?_range']
  by_cases h : i < ql.length
  · rw [List.getElem?_range h, List.getElem?_eq_getElem h]; simp [List.getD_eq_getElem?_getD, h]
  · rw [List.getElem?_eq_none (by simp; omega), List.getElem?_eq_none (by omega)]; rfl
theorem avs_map (q0 : Av × Sl) (ql : QL) (l : List Nat) : l.flatMap (fun i => avC (ql.getD i q0)) = avs (l.map fun i => ql.getD i q0) := by
  unfold avs
  rw [List.flatMap_map]
theorem cmp11_ok {a b : Sl} {x y : List Lb} {n m k l : Int} (ha : Rd w a 2 (labs x)) (hb : Rd w b 2 (labs y)) (hx : x.length ≤ 16) {K : Int → World → Prop} (hK : ∀ w', KD w w' → K (cmpL x y) w') : C.alerts_Set_All_1_1 a n m b k l w K := by
  unfold C.alerts_Set_All_1_1
  refine newD fun g w1 k1 _ b1 => newD fun g2 w2 k2 _ b2 => ?_
  have k12 := k1.trans k2
  have b12 := b1.keep k2.1
  exact cSl_at (s := a) (by rw [b12.cell]; rfl) <| cSl_at (s := b) (by rw [b2.cell]; rfl) <| compare_ok (ha.keep k12.1) (hb.keep k12.1) (by omega) fun w' k' => hK w' (k12.trans k')
theorem sorted_ok {g : Nat} (hbox : w.cell? ⟨g, 0, none⟩ = some (.map (some gm))) (hmp : MV (fun _ => 0) w 0 gm (pl.map encP)) (hl : pl.length ≤ 100000) (hrd : ∀ p ∈ pl, Rd w p.2 2 (labs p.1.1) ∧ p.1.1.length ≤ 16) (hp : (pl.map (·.1)).Perm M) (hM : M.Pairwise ltA) {K : Sl → World → Prop}
    (hK : ∀ r ql w', Keep w w' → ql.map (·.1) = M → (∀ p ∈ ql, p ∈ pl) → Mem.Own w' w.heap.size 34 3 r (avs ql) → K r w') :
    C.slices_SortedFunc_Alert (.func (.func 35) #[] #[.pointer (some ⟨g, 0, none⟩)]) (.func (.func 18) #[] #[]) w K := by
  unfold C.slices_SortedFunc_Alert
  refine collect_ok hbox hmp hl fun r ql w1 k1 pm o1 => ?_
  show Srt.sortF r (.func (.func 18) #[] #[]) w1 fun w6 => K r w6
  have top1 : Top w (ext (fun _ => 0) w.heap.size 2) w1 := (Top.init w).stp (k1.stp _ 2)
  have o2 : OT (ext (fun _ => 0) w.heap.size 2) w1 2 34 3 r (avs ql) := Own.tag o1 (Nat.le_refl _) _ 2
  have hrn := rdA_n o2.rd
  generalize ext (fun _ => 0) w.heap.size 2 = ω1 at *
  have hlen : ql.length ≤ 100000 := by rw [pm.length_eq]; exact hl
  cases hq : ql with
  | nil =>
    subst hq
    have hpl : pl = [] := pm.symm.eq_nil
    subst hpl
    have hM0 : M = [] := hp.symm.eq_nil
    subst hM0
    exact .inl ⟨hrn, hK r [] w1 k1 rfl (by simp) o1⟩
  | cons q0 qr =>
    have hq0 : q0 ∈ ql := by rw [hq]; exact List.mem_cons_self ..
    have hgd : ∀ i, ql.getD i q0 ∈ ql := fun i => by
      rw [List.getD_eq_getElem?_getD]
      cases h : ql[i]? with
      | none => exact hq0
      | some p => exact List.mem_of_getElem? h
    have hrt : ∀ i, RT ω1 w1 0 (ql.getD i q0).2 2 (labs (ql.getD i q0).1.1) ∧ (ql.getD i q0).1.1.length ≤ 16 := fun i => by
      obtain ⟨h1, h2⟩ := hrd _ (pm.mem_iff.1 (hgd i))
      exact ⟨Top.rt top1 h1, h2⟩
    refine Srt.sort_rows (ω := ω1) (t := 2) (e := 34) (enc := fun i => avC (ql.getD i q0)) (fun i => rfl) (fun i v hv => by simp only [avC, List.mem_cons, List.not_mem_nil, or_false] at hv; rcases hv with rfl | rfl | rfl <;> rfl) ?_ (by omega)
      (cf := fun i j => cmpL (ql.getD i q0).1.1 (ql.getD j q0).1.1) (Srt.swo cmpL_cmp fun i => (ql.getD i q0).1.1) (fun _ _ => callFunc_run ⟨_, Tryz.func18, by kernel_rfl, by kernel_rfl⟩) (fun W st x y => ?_) (fun is ω' w' p1 p2 st o' => ?_)
    · rw [hrn, avs_map, range_getD]; exact o2
    · have hx := hrt x
      have hy := hrt y
      generalize ql.getD x q0 = p at *
      generalize ql.getD y q0 = q at *
      refine (C.alerts_Set_All_1_1.clok [.agg (avC p).toArray, .agg (avC q).toArray] (fun v w' => v = .int .i64 (cmpL p.1.1 q.1.1) ∧ KD W w') W ?_).2.mono fun e w' ⟨v, he, hv, hk⟩ => ⟨by rw [he, hv], hk⟩
      unfold avC C.alerts_Set_All_1_1.cl Sl.v
      dsimp only
      exact cmp11_ok (hx.1.stp st).rd (hy.1.stp st).rd hx.2 fun w' k => ⟨rfl, k⟩
    · have top' := top1.stp st
      rw [avs_map] at o'
      have pq : (is.map fun i => ql.getD i q0).Perm ql := by
        have := p1.map fun i => ql.getD i q0
        rw [hrn, range_getD] at this
        exact this
      refine hK r _ w' top'.k (perm_up ((pq.trans pm).map (·.1) |>.trans hp) ?_ hM) (fun p hp => pm.mem_iff.1 (pq.mem_iff.1 hp)) (OT.new o' top')
      rw [List.pairwise_map, List.pairwise_map]
      exact p2

/-! ## Copies -/
theorem cloneL_ok {s : Sl} {m : List Lb} (h : Rd w s 2 (labs m)) (hm : m.length ≤ 16) {K : Sl → World → Prop} (hK : ∀ r w', Keep w w' → Mem.Own w' w.heap.size 48 2 r (labs m) → K r w') : C.slices_Clone_Label_Label s w K := by
  have hn := rdL_n h
  unfold C.slices_Clone_Label_Label
  exact Sm.clone_ok (P := Tryz.prog) tiL h labs_one (by simp only [maxLen]; omega) (by omega) fun r w' k o _ => hK r w' k o
theorem copied_ok {s : Sl} {m : List Lb} {a b : Int} (h : Rd w s 2 (labs m)) (hm : m.length ≤ 16) {K : Sl → Int → Int → World → Prop} (hK : ∀ r w', Keep w w' → Mem.Own w' w.heap.size 48 2 r (labs m) → K r a b w') : C.alerts_copied s a b w K := by
  unfold C.alerts_copied
  refine new_T (ω := fun _ => 0) 7 fun g ω1 w1 k1 b1 => new_T (ω := ω1) 8 fun g2 ω2 w2 k2 b2 => ?_
  have b12 := b1.stp k2
  have top2 := ((Top.init w).stp k1).stp k2
  refine cSl_at (s := s) (by rw [b12.cell]; rfl) <| cloneL_ok (h.keep top2.k) hm fun r w3 k3 o3 => ?_
  have s3 := k3.stp ω2 9
  have o9 := Own.tag o3 (Nat.le_refl _) ω2 9
  generalize ext ω2 w2.heap.size 9 = ω3 at *
  have b13 := b12.stp s3
  have b23 := b2.stp s3
  have top3 := top2.stp s3
  refine st_T b13 (by simp) fun ω4 w4 k4 b4 => cSl_at (s := r) (by rw [b4.cell]; rfl) <| cI_at (n := a) (by rw [addr_add, b4.cell]; rfl) <| cI_at (n := b) (by rw [addr_add, b4.cell]; rfl) ?_
  refine st_T (b23.stp k4) (by simp) fun ω5 w5 k5 b5 => st_TA b5 (by simp) fun ω6 w6 k6 b6 => st_TA b6 (by simp) fun ω7 w7 k7 b7 => ?_
  refine cSl_at (s := r) (by rw [b7.cell]; rfl) <| cI_at (n := a) (by rw [addr_add, b7.cell]; rfl) <| cI_at (n := b) (by rw [addr_add, b7.cell]; rfl) ?_
  have top7 := (((top3.stp k4).stp k5).stp k6).stp k7
  exact hK r w7 top7.k (OT.new ((((o9.stp k4).stp k5).stp k6).stp k7) top7)

/-! ## All -/
/-- What All reads. -/
structure AW (w : World) (gs gm : Nat) (pl : QL) : Prop where
  hd : w.cell? ⟨gs, 2, none⟩ = some (.map (some gm))
  mp : MV (fun _ => 0) w 0 gm (pl.map encP)
  rt : ∀ p ∈ pl, Rd w p.2 2 (labs p.1.1)
theorem AW.keep (h : AW w gs gm pl) (k : Keep w w') : AW w' gs gm pl := ⟨k.cell h.hd, h.mp.stp (k.stp0 _) rfl, fun p hp => (h.rt p hp).keep k⟩
def AQ (M : List Av) (i j : Nat) (a : List Value) (ω : Tg) (w : World) : Prop := j = i + 1 ∧ ∃ p r, M[i]? = some p ∧ a = [encV (p, r)] ∧ OT ω w 71 48 2 r (labs p.1)
theorem all_tells {Fc : Clee} {n g : Nat} {Ct : Nat → Bool} (hp : (pl.map (·.1)).Perm M) (hM : M.Pairwise ltA) (hl : pl.length ≤ 100000) (hs : ∀ p ∈ pl, p.1.1.length ≤ 16) (h70 : Ct 70 = false) (hF : ∀ args K w, C.alerts_Set_All_1.cl args K w → Fc n args K w) :
    TellsG Tryz.prog Fc (.func (.func n) #[] #[.pointer (some ⟨g, 0, none⟩)]) 0 (AQ M) (fun i => i = M.length) (fun _ w => w.cell? ⟨g, 0, none⟩ = some (.pointer (some ⟨gs, 0, none⟩)) ∧ AW w gs gm pl) Non Ct := by
  intro L I Kk Q ω w hC hI hKI hy hK hQ h0
  refine hF _ _ _ ?_
  show C.alerts_Set_All_1 (.func (.yield L) #[] #[]) (some ⟨g, 0, none⟩) w (C.alerts_Set_All_1.Kt fun _ w' => Q w')
  unfold C.alerts_Set_All_1
  obtain ⟨hb, hc⟩ := hC 0 ω w h0
  refine ptr_at (cP_at hb (cond_f rfl (ptr_at (cP_at hb (ptr_at ⟨some gm, by rw [addr_add]; exact hc.hd, ?_⟩)))))
  unfold C.maps_Values_map_string_Alert_string_Alert
  refine newD fun g2 w2 k2 _ b2 => ?_
  have hc2 := hc.keep k2.1
  have hlm : pl.length = M.length := by have := hp.length_eq; simpa using this
  refine sorted_ok (M := M) (by rw [b2.cell]; rfl) hc2.mp hl (fun p hp => ⟨hc2.rt p hp, hs p hp⟩) hp hM fun l ql w3 k3 eq hq o3 => ?_
  have k03 := Keep.trans k2.1 k3
  have s3 := k03.stp ω 70
  have o70 : OT (ext ω w.heap.size 70) w3 70 34 3 l (avs ql) := ⟨Own.mono o3 (Nat.zero_le _), fun k hk => ext_new (Nat.le_trans k2.1.size (Own.geC o3 hk).1)⟩
  have h3 := hI _ _ _ _ _ h0 s3
  generalize ext ω w.heap.size 70 = ω3 at *
  have hln := rdA_n o70.rd
  have hqm : ql.length = M.length := by rw [← eq, List.length_map]
  refine C.alerts_Set_All_1.L3_ind fun X hX => ?_
  have key : ∀ (d i : Nat) (ω : Tg) (w : World), i + d = M.length → I i ω w → OT ω w 70 34 3 l (avs ql) → X (.func (.yield L) #[] #[]) l ((l.n : Nat) : Int) (i : Int) w := by
    intro d
    induction d with
    | zero =>
      intro i ω w hi h o
      refine hX _ _ _ _ _ ?_
      unfold C.alerts_Set_All_1.S5
      exact cond_d (fun h => by omega) (fun _ => hQ ω w (hK i ω w (by omega) h))
    | succ d ih =>
      intro i ω w hi h o
      refine hX _ _ _ _ _ ?_
      unfold C.alerts_Set_All_1.S5
      obtain ⟨p, hpi⟩ : ∃ p, ql[i]? = some p := ⟨_, List.getElem?_eq_getElem (by omega)⟩
      have hpm := List.mem_of_getElem? hpi
      have hMi : M[i]? = some p.1 := by rw [← eq, List.getElem?_map, hpi]; rfl
      refine cond_d (fun _ => ?_) (fun h => by omega)
      refine rdA_at o.rd (k := i) rfl hpi fun a a0 a1 a2 => cSl_at a0 <| cI_at a1 <| cI_at a2 ?_
      refine loc_ok fun g4 w4 k4 hg4 b4 => ?_
      refine cSl_at (s := p.2) (by rw [b4.cell]; rfl) <| cI_at (n := p.1.2.1) (by rw [addr_add, b4.cell]; rfl) <| cI_at (n := p.1.2.2) (by rw [addr_add, b4.cell]; rfl) ?_
      have hc4 := (hC i ω w h).2.keep k4.1
      refine copied_ok (hc4.rt p (hq p hpm)) (hs p (hq p hpm)) fun r w5 k5 o5 => ?_
      have k05 := Keep.trans k4.1 k5
      have s5 := k05.stp ω 71
      have rr : OT (ext ω w.heap.size 71) w5 71 48 2 r (labs p.1.1) := Own.tag o5 k4.1.size ω 71
      have h5 := hI _ _ _ _ _ h s5
      have oo := o.stp s5 rfl
      generalize ext ω w.heap.size 71 = ω5 at *
      refine hy i (i + 1) _ ω5 w5 _ ⟨rfl, p.1, r, hMi, rfl, rr⟩ h5 (fun ω' w' s h' => ?_) (fun ω' w' s h' => ?_)
      · refine isB_at (cond_f rfl ?_)
        rw [wI64 (by omega) (by omega), show (i : Int) + 1 = ((i + 1 : Nat) : Int) by omega]
        exact ih (i + 1) ω' w' (by omega) h' (oo.stp s h70)
      · exact isB_at (cond_t rfl (hQ _ _ h'))
  exact key M.length 0 ω3 w3 (by omega) h3 o70
end Go.Proofs.YtfkpehcbijgmnaaGreatDoor.Al
