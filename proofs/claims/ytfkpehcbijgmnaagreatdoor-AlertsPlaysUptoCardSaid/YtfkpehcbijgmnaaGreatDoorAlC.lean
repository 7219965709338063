/- Layer 21 (alerts): what a loop over All gathers: the law's all, Firing. Own work. -/
import Derived.Test.YtfkpehcbijgmnaaGreatDoorAlB
namespace Go.Proofs.YtfkpehcbijgmnaaGreatDoor.Al
open Go Vm Go.RowKit Num Mem Utf Lib Lab
variable {ω ω' : Tg} {w w' w0 : World} {t gs gm : Nat} {T : Nat → Bool} {pl : QL} {M : List Av}

def fg (u v x : Nat) : Nat := if x = 2 then u else if x = 71 then v else 0
theorem avs_snoc (ql : QL) (p : Av × Sl) : avs (ql ++ [p]) = avs ql ++ [p.2.v, .int .i64 p.1.2.1, .int .i64 p.1.2.2] := by rw [avs_app]; rfl
theorem all_ok (ω : Tg) (h : AW w gs gm pl) (hp : (pl.map (·.1)).Perm M) (hM : M.Pairwise ltA) (hl : pl.length ≤ 100000) (hs : ∀ p ∈ pl, p.1.1.length ≤ 16) (m u v : Nat) {K : Sl → World → Prop}
    (hK : ∀ r ql ω' w', Stp Non ω ω' w w' → OT ω' w' u 34 3 r (avs ql) → ql.map (·.1) = (if m = 0 then M else M.take m) → (∀ p ∈ ql, OT ω' w' v 48 2 p.2 (labs p.1.1)) → K r w') : C.tocsinlaw21_all (some ⟨gs, 0, none⟩) (m : Int) w K := by
  unfold C.tocsinlaw21_all
  refine new_T (ω := fun _ => 0) 1 fun g1 ω1 w1 k1 b1 => new_T (ω := ω1) 4 fun g2 ω2 w2 k2 b2 => ?_
  unfold C.alerts_Set_All
  refine new_T (ω := ω2) 6 fun g3 ω3 w3 k3 b3 => isNilF_no (cond_f rfl ?_)
  unfold C.tocsinlaw21_all.S9 C.tocsinlaw21_all.R5
  have top3 := (((Top.init w).stp k1).stp k2).stp k3
  have hlm : pl.length = M.length := by have := hp.length_eq; simpa using this
  have fin : ∀ {ω' : Tg} {w' : World} {D : Nat} {s : Sl} {ql : QL}, w'.heap[D]? = some (.deferred (some [])) → ω' D = 3 → Top w ω' w' → BT ω' w' 4 g2 38 [Sl.v s] → OT ω' w' 2 34 3 s (avs ql) →
      ql.map (·.1) = (if m = 0 then M else M.take m) → (∀ p ∈ ql, OT ω' w' 71 48 2 p.2 (labs p.1.1)) → C.tocsinlaw21_all.S2 K (some ⟨g2, 0, none⟩) (pushMark undef D) w' := by
    intro ω' w' D s ql hD hDu top x1 o eq hr
    unfold C.tocsinlaw21_all.S2
    have sp := put_stp (ω := ω') (w := w') (o := .deferred none) hDu
    refine ptr_at (cSl_at (s := s) (by rw [x1.cell]; rfl) (marks_at hD ?_))
    have tp := top.stp sp
    exact hK s ql (rtg ω _ w.heap.size (fg u v)) _ (rtg_stp tp.k ω _ (fg u v)) ((o.stp sp).rtg tp (fg u v)) eq fun p hp => ((hr p hp).stp sp).rtg tp (fg u v)
  refine rangeGW_ok (T := Duo 2 4) (u := 3) (J := fun i ω w2 => Top w ω w2 ∧ BT ω w2 1 g1 3 [.int .i64 (m : Int)] ∧ BT ω w2 6 g3 23 [.pointer (some ⟨gs, 0, none⟩)] ∧ (m = 0 ∨ i < m) ∧ ∃ s ql, BT ω w2 4 g2 38 [Sl.v s] ∧ OT ω w2 2 34 3 s (avs ql) ∧ ql.map (·.1) = M.take i ∧ ∀ p ∈ ql, OT ω w2 71 48 2 p.2 (labs p.1.1))
    (E := fun e ω w2 => e = .exit 0 ∧ m ≠ 0 ∧ Top w ω w2 ∧ ∃ s ql, BT ω w2 4 g2 38 [Sl.v s] ∧ OT ω w2 2 34 3 s (avs ql) ∧ ql.map (·.1) = M.take m ∧ ∀ p ∈ ql, OT ω w2 71 48 2 p.2 (labs p.1.1))
    (all_tells (g := g3) (gs := gs) (gm := gm) (pl := pl) (M := M) hp hM hl hs rfl fun _ _ _ h => h) rfl rfl ?_ ?_ ?_ ?_ ?_ ⟨top3, (b1.stp k2).stp k3, b3, by omega, nilS, [], b2.stp k3, OT.nil .., by simp, by simp⟩ ?_ ?_
  · rintro i j a ω ω' w w' ⟨e, p, r, hp, ea, rr⟩ k
    exact ⟨e, p, r, hp, ea, rr.stp k rfl⟩
  · rintro i ω w2 ⟨top, _, x3, _⟩
    exact ⟨by rw [x3.cell]; rfl, h.keep top.k⟩
  · rintro S hS i ω ω' w w' ⟨top, x1, x3, hm, s, ql, x2, o, e, hr⟩ k
    have z : S 0 = false ∧ S 1 = false ∧ S 2 = false ∧ S 4 = false ∧ S 6 = false ∧ S 71 = false := by rcases hS with rfl | rfl <;> exact ⟨rfl, rfl, rfl, rfl, rfl, rfl⟩
    exact ⟨top.stp k z.1, x1.stp k z.2.1, x3.stp k z.2.2.2.2.1, hm, s, ql, x2.stp k z.2.2.2.1, o.stp k z.2.2.1, e, fun p hp => (hr p hp).stp k z.2.2.2.2.2⟩
  · rintro S hS e ω ω' w w' ⟨he, hm, top, s, ql, x2, o, eq, hr⟩ k
    have z : S 0 = false ∧ S 2 = false ∧ S 4 = false ∧ S 71 = false := by rcases hS with rfl | rfl <;> exact ⟨rfl, rfl, rfl, rfl⟩
    exact ⟨he, hm, top.stp k z.1, s, ql, x2.stp k z.2.2.1, o.stp k z.2.1, eq, fun p hp => (hr p hp).stp k z.2.2.2⟩
  · rintro i j args ω w4 bz Rr ⟨rfl, p, r, hMi, rfl, rr⟩ ⟨top, x1, x3, hm, s, ql, x2, o, e, hr⟩ hz
    unfold C.tocsinlaw21_all.B_R5 encV avC Sl.v
    dsimp only
    refine loc_ok (sl := r) (n := p.2.1) (m := p.2.2) fun g5 w5 k5 hg5 b5 => ?_
    have s5 := k5.1.stp ω 5
    refine hz _ (ext ω w4.heap.size 5) w5 s5 fun w6 s6 hR hX => ?_
    have b5t : BT (ext ω w4.heap.size 5) w5 5 g5 34 [r.v, .int .i64 p.2.1, .int .i64 p.2.2] := ⟨b5, ext_new hg5⟩
    generalize ext ω w4.heap.size 5 = ω5 at *
    have b6 := b5t.stp s6
    have x16 := (x1.stp s5).stp s6
    have x26 := (x2.stp s5).stp s6
    have x36 := (x3.stp s5).stp s6
    have o6 := (o.stp s5).stp s6
    have top6 := (top.stp s5).stp s6
    have hr6 : ∀ q ∈ ql, OT ω5 w6 71 48 2 q.2 (labs q.1.1) := fun q hq => ((hr q hq).stp s5).stp s6
    have rr6 := (rr.stp s5).stp s6
    unfold C.tocsinlaw21_all.S7
    have hil := (List.getElem?_eq_some_iff.1 hMi).1
    have hsn := rdA_n o.rd
    have hqn : ql.length = i := by have := congrArg List.length e; simp at this; omega
    refine ptr_at <| cSl_at (s := s) (by rw [x26.cell]; rfl) <| ptr_at <| cSl_at (s := r) (by rw [b6.cell]; rfl) <| cI_at (n := p.2.1) (by rw [addr_add, b6.cell]; rfl) <| cI_at (n := p.2.2) (by rw [addr_add, b6.cell]; rfl) ?_
    refine push_T (n := 1) tiA o6 rfl (by intro v hv; simp at hv; rcases hv with rfl | rfl | rfl <;> rfl) (by simp only [maxLen]; omega) (by omega) fun r7 ω7 w7 k7 o7 hr7 => ?_
    refine ptr_at (st_T (x26.stp k7) (by simp) fun ω8 w8 k8 b8 => ?_)
    have x18 := (x16.stp k7).stp k8
    have top8 := (top6.stp k7).stp k8
    have o8 := o7.stp k8
    have e4 : avs (ql ++ [(p, r)]) = avs ql ++ [r.v, .int .i64 p.2.1, .int .i64 p.2.2] := avs_snoc ql (p, r)
    have e8 : (ql ++ [(p, r)]).map (·.1) = M.take (i + 1) := by rw [List.map_append, e, List.take_add_one, hMi]; rfl
    have hr8 : ∀ q ∈ ql ++ [(p, r)], OT ω8 w8 71 48 2 q.2 (labs q.1.1) := fun q hq => by
      rcases List.mem_append.1 hq with hq | hq
      · exact ((hr6 q hq).stp k7).stp k8
      · rw [List.mem_singleton.1 hq]; exact (rr6.stp k7).stp k8
    refine ptr_at <| cSl_at (s := r7) (by rw [b8.cell]; rfl) <| ptr_at <| cI_at (n := (m : Int)) (by rw [x18.cell]; rfl) ?_
    refine cond_eq (fun hq => ?_) (fun hq => ?_)
    · have em : m = i + 1 := by omega
      exact hX (.exit 0) (.exit 0) ω8 w8 rfl (k7.one.trans k8.two) ⟨rfl, by omega, top8, r7, _, b8, by rw [e4]; exact o8, by rw [em]; exact e8, hr8⟩
    · exact hR ω8 w8 (k7.one.trans k8.two) ⟨top8, x18, (x36.stp k7).stp k8, by omega, r7, _, b8, by rw [e4]; exact o8, e8, hr8⟩
  · rintro ω' w' D hD hDu ⟨i, rfl, top, x1, x3, hm, s, ql, x2, o, e, hr⟩
    refine fin hD hDu top x2 o ?_ hr
    rw [e, List.take_of_length_le (Nat.le_refl _)]
    split
    · rfl
    · rw [List.take_of_length_le (by omega)]
  · rintro e ω' w' D hD hDu ⟨rfl, hm, top, s, ql, x2, o, eq, hr⟩
    show bif Nat.beq 0 0 then C.tocsinlaw21_all.S2 K (some ⟨g2, 0, none⟩) (pushMark undef D) w' else False
    exact bif_t (fin hD hDu top x2 o (by rw [eq, if_neg hm]) hr)

/-! ## Firing -/
def fires (now : Int) (a : Av) : Bool := decide (a.2.1 ≤ now) && decide (now < a.2.2)
theorem firing_ok (ω : Tg) (h : AW w gs gm pl) (hp : (pl.map (·.1)).Perm M) (hM : M.Pairwise ltA) (hl : pl.length ≤ 100000) (hs : ∀ p ∈ pl, p.1.1.length ≤ 16) (now : Int) (u v : Nat) {K : Sl → World → Prop}
    (hK : ∀ r ql ω' w', Stp Non ω ω' w w' → OT ω' w' u 34 3 r (avs ql) → ql.map (·.1) = M.filter (fires now) → (∀ p ∈ ql, OT ω' w' v 48 2 p.2 (labs p.1.1)) → K r w') : C.alerts_Set_Firing (some ⟨gs, 0, none⟩) now w K := by
  unfold C.alerts_Set_Firing
  refine new_T (ω := fun _ => 0) 1 fun g1 ω1 w1 k1 b1 => new_T (ω := ω1) 4 fun g2 ω2 w2 k2 b2 => ?_
  unfold C.alerts_Set_Firing.S9 C.alerts_Set_All
  refine new_T (ω := ω2) 6 fun g3 ω3 w3 k3 b3 => ?_
  unfold C.alerts_Set_Firing.R5
  have top3 := (((Top.init w).stp k1).stp k2).stp k3
  have hlm : pl.length = M.length := by have := hp.length_eq; simpa using this
  refine rangeGW_ok (T := Duo 2 4) (u := 3) (J := fun i ω w2 => Top w ω w2 ∧ BT ω w2 1 g1 2 [.int .i64 now] ∧ BT ω w2 6 g3 23 [.pointer (some ⟨gs, 0, none⟩)] ∧ ∃ s ql, BT ω w2 4 g2 38 [Sl.v s] ∧ OT ω w2 2 34 3 s (avs ql) ∧ ql.map (·.1) = (M.take i).filter (fires now) ∧ ∀ p ∈ ql, OT ω w2 71 48 2 p.2 (labs p.1.1))
    (E := fun e ω w2 => False)
    (all_tells (g := g3) (gs := gs) (gm := gm) (pl := pl) (M := M) hp hM hl hs rfl fun _ _ _ h => h) rfl rfl ?_ ?_ ?_ ?_ ?_ ⟨top3, (b1.stp k2).stp k3, b3, nilS, [], b2.stp k3, OT.nil .., by simp, by simp⟩ ?_ ?_
  · rintro i j a ω ω' w w' ⟨e, p, r, hp, ea, rr⟩ k
    exact ⟨e, p, r, hp, ea, rr.stp k rfl⟩
  · rintro i ω w2 ⟨top, _, x3, _⟩
    exact ⟨by rw [x3.cell]; rfl, h.keep top.k⟩
  · rintro S hS i ω ω' w w' ⟨top, x1, x3, s, ql, x2, o, e, hr⟩ k
    have z : S 0 = false ∧ S 1 = false ∧ S 2 = false ∧ S 4 = false ∧ S 6 = false ∧ S 71 = false := by rcases hS with rfl | rfl <;> exact ⟨rfl, rfl, rfl, rfl, rfl, rfl⟩
    exact ⟨top.stp k z.1, x1.stp k z.2.1, x3.stp k z.2.2.2.2.1, s, ql, x2.stp k z.2.2.2.1, o.stp k z.2.2.1, e, fun p hp => (hr p hp).stp k z.2.2.2.2.2⟩
  · rintro S hS e ω ω' w w' h k
    exact h
  · rintro i j args ω w4 bz Rr ⟨rfl, p, r, hMi, rfl, rr⟩ ⟨top, x1, x3, s, ql, x2, o, e, hr⟩ hz
    unfold C.alerts_Set_Firing.B_R5 encV avC Sl.v
    dsimp only
    refine loc_ok (sl := r) (n := p.2.1) (m := p.2.2) fun g5 w5 k5 hg5 b5 => ?_
    have s5 := k5.1.stp ω 5
    refine hz _ (ext ω w4.heap.size 5) w5 s5 fun w6 s6 hR _ => ?_
    have b5t : BT (ext ω w4.heap.size 5) w5 5 g5 34 [r.v, .int .i64 p.2.1, .int .i64 p.2.2] := ⟨b5, ext_new hg5⟩
    generalize ext ω w4.heap.size 5 = ω5 at *
    have b6 := b5t.stp s6
    have x16 := (x1.stp s5).stp s6
    have x26 := (x2.stp s5).stp s6
    have x36 := (x3.stp s5).stp s6
    have o6 := (o.stp s5).stp s6
    have top6 := (top.stp s5).stp s6
    have hr6 : ∀ q ∈ ql, OT ω5 w6 71 48 2 q.2 (labs q.1.1) := fun q hq => ((hr q hq).stp s5).stp s6
    have rr6 := (rr.stp s5).stp s6
    have ef : (M.take (i + 1)).filter (fires now) = (M.take i).filter (fires now) ++ (if fires now p = true then [p] else []) := by
      rw [List.take_add_one, hMi, List.filter_append]; simp [List.filter_cons]
    have skip : fires now p = false → Rr .normal w6 := fun hf => hR ω5 w6 (Stp.refl _ _ _) ⟨top6, x16, x36, s, ql, x26, o6, by rw [ef, e, hf]; simp, hr6⟩
    unfold C.alerts_Set_Firing.S7
    have hil := (List.getElem?_eq_some_iff.1 hMi).1
    have hsn := rdA_n o.rd
    have hqn : ql.length ≤ i := by
      have h1 := congrArg List.length e
      have h2 := List.length_filter_le (fires now) (M.take i)
      rw [List.length_take] at h2
      rw [List.length_map] at h1; omega
    refine ptr_at <| cI_at (n := p.2.1) (by rw [addr_add, b6.cell]; rfl) <| ptr_at <| cI_at (n := now) (by rw [x16.cell]; rfl) <| cond_d (fun h1 => ?_) (fun h1 => skip (by unfold fires; simp [h1]))
    refine ptr_at <| cI_at (n := now) (by rw [x16.cell]; rfl) <| ptr_at <| cI_at (n := p.2.2) (by rw [addr_add, b6.cell]; rfl) <| cond_d (fun h2 => ?_) (fun h2 => skip (by unfold fires; simp [h2]))
    have hf : fires now p = true := by unfold fires; simp [h1, h2]
    refine ptr_at <| cSl_at (s := s) (by rw [x26.cell]; rfl) <| ptr_at <| cSl_at (s := r) (by rw [b6.cell]; rfl) <| cI_at (n := p.2.1) (by rw [addr_add, b6.cell]; rfl) <| cI_at (n := p.2.2) (by rw [addr_add, b6.cell]; rfl) ?_
    refine push_T (n := 1) tiA o6 rfl (by intro v hv; simp at hv; rcases hv with rfl | rfl | rfl <;> rfl) (by simp only [maxLen]; omega) (by omega) fun r7 ω7 w7 k7 o7 hr7 => ?_
    refine ptr_at (st_T (x26.stp k7) (by simp) fun ω8 w8 k8 b8 => ?_)
    have x18 := (x16.stp k7).stp k8
    have top8 := (top6.stp k7).stp k8
    have o8 := o7.stp k8
    have e4 : avs (ql ++ [(p, r)]) = avs ql ++ [r.v, .int .i64 p.2.1, .int .i64 p.2.2] := avs_snoc ql (p, r)
    have hr8 : ∀ q ∈ ql ++ [(p, r)], OT ω8 w8 71 48 2 q.2 (labs q.1.1) := fun q hq => by
      rcases List.mem_append.1 hq with hq | hq
      · exact ((hr6 q hq).stp k7).stp k8
      · rw [List.mem_singleton.1 hq]; exact (rr6.stp k7).stp k8
    exact hR ω8 w8 (k7.one.trans k8.two) ⟨top8, x18, (x36.stp k7).stp k8, r7, _, b8, by rw [e4]; exact o8, by rw [ef, hf, List.map_append, e]; rfl, hr8⟩
  · rintro ω' w' D hD hDu ⟨i, rfl, top, x1, x3, s, ql, x2, o, e, hr⟩
    show C.alerts_Set_Firing.S2 K (some ⟨g2, 0, none⟩) (pushMark undef D) w'
    unfold C.alerts_Set_Firing.S2
    rw [List.take_of_length_le (Nat.le_refl _)] at e
    have sp := put_stp (ω := ω') (w := w') (o := .deferred none) hDu
    refine ptr_at (cSl_at (s := s) (by rw [x2.cell]; rfl) (marks_at hD ?_))
    have tp := top.stp sp
    exact hK s ql (rtg ω _ w.heap.size (fg u v)) _ (rtg_stp tp.k ω _ (fg u v)) ((o.stp sp).rtg tp (fg u v)) e fun p hp => ((hr p hp).stp sp).rtg tp (fg u v)
  · rintro e ω' w' D _ _ h
    exact h.elim
end Go.Proofs.YtfkpehcbijgmnaaGreatDoor.Al
