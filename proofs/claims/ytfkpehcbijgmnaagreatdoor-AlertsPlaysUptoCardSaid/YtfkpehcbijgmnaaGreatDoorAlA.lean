/- Layer 21 (alerts): the set in memory; its alerts collected and sorted. Own work. -/
import Derived.Test.YtfkpehcbijgmnaaGreatDoorLabK
import Derived.Test.YtfkpehcbijgmnaaGreatDoorSortG
import Derived.Test.YtfkpehcbijgmnaaGreatDoorMapV
import Derived.Test.YtfkpehcbijgmnaaGreatDoorSeqG
namespace Go.Proofs.YtfkpehcbijgmnaaGreatDoor.Al
open Go Vm Go.RowKit Num Mem Utf Lib Lab
variable {ω ω' : Tg} {w w' w0 : World} {t gs gm : Nat} {T : Nat → Bool}

/-- An alert: its labels, its start, its end. -/
abbrev Av := List Lb × Int × Int
abbrev QL := List (Av × Sl)
def avC (p : Av × Sl) : List Value := [p.2.v, .int .i64 p.1.2.1, .int .i64 p.1.2.2]
def encV (p : Av × Sl) : Value := .agg ⟨avC p⟩
def encP (p : Av × Sl) : ByteArray × Value := (Lab.keyOf p.1.1, encV p)
def avs (l : QL) : List Value := l.flatMap avC
theorem avs_app (a b : QL) : avs (a ++ b) = avs a ++ avs b := List.flatMap_append
theorem avs_len (l : QL) : (avs l).length = l.length * 3 := by
  induction l with
  | nil => rfl
  | cons s l ih => simp only [avs, List.flatMap_cons, List.length_append, List.length_cons] at *; simp [avC] at *; omega
theorem avs_one {l : QL} : ∀ v ∈ avs l, v.oneCell' = true := by
  intro v hv
  obtain ⟨s, _, hs⟩ := List.mem_flatMap.1 hv
  simp only [avC, List.mem_cons, List.not_mem_nil, or_false] at hs
  rcases hs with rfl | rfl | rfl <;> rfl
theorem avs_at : ∀ (l : QL) (i : Nat) (p : Av × Sl), l[i]? = some p → (avs l)[i * 3 + 0]? = some p.2.v ∧ (avs l)[i * 3 + 1]? = some (.int .i64 p.1.2.1) ∧ (avs l)[i * 3 + 2]? = some (.int .i64 p.1.2.2)
  | [], i, p, h => by simp at h
  | x :: l, 0, p, h => by
    simp only [List.getElem?_cons_zero, Option.some.injEq] at h
    subst h
    exact ⟨rfl, rfl, rfl⟩
  | x :: l, i + 1, p, h => by
    have ih := avs_at l i p (by simpa using h)
    have e : avs (x :: l) = x.2.v :: .int .i64 x.1.2.1 :: .int .i64 x.1.2.2 :: avs l := rfl
    rw [e, show (i + 1) * 3 + 0 = (i * 3 + 0) + 1 + 1 + 1 by omega, show (i + 1) * 3 + 1 = (i * 3 + 1) + 1 + 1 + 1 by omega, show (i + 1) * 3 + 2 = (i * 3 + 2) + 1 + 1 + 1 by omega]
    simpa using ih
theorem rdA_n {s : Sl} {l : QL} (h : Rd w s 3 (avs l)) : s.n = l.length := by have := h.2.1; rw [avs_len] at this; omega
theorem rdA_at {s : Sl} {l : QL} (h : Rd w s 3 (avs l)) {i : Int} {k : Nat} {p : Av × Sl} (ei : i = (k : Int)) (hx : l[k]? = some p) {K : Addr → Prop}
    (hK : ∀ a : Addr, w.cell? a = some p.2.v → w.cell? (a.add 1) = some (.int .i64 p.1.2.1) → w.cell? (a.add 2) = some (.int .i64 p.1.2.2) → K a) : G.ix s.a s.n i 3 K := by
  have hk : k < l.length := (List.getElem?_eq_some_iff.1 hx).1
  have hn := rdA_n h
  subst ei
  obtain ⟨e0, e1, e2⟩ := avs_at l k p hx
  refine Rd.ix h (by decide) (by omega) (by omega) fun a hc => hK a ?_ ?_ ?_
  · have := hc 0 _ (by decide) (by rw [Int.toNat_natCast]; exact e0)
    rwa [show a.add 0 = a by simp [Addr.add]] at this
  · exact hc 1 _ (by decide) (by rw [Int.toNat_natCast]; exact e1)
  · exact hc 2 _ (by decide) (by rw [Int.toNat_natCast]; exact e2)
theorem tiA : TI Tryz.prog 38 34 3 40 := TI.of (z := .agg #[.slice none 0 0, .int .i64 0, .int .i64 0]) (by kernel_rfl) (by kernel_rfl) rfl (by decide)
theorem mapT : Tryz.prog.underlying 44 = some (.map 9 34) := by kernel_rfl
theorem strT : Tryz.prog.underlying 9 = some .string := by kernel_rfl

/-! ## Small rules -/
theorem OT.new {u sz : Nat} {e : TypeId} {s : Sl} {xs : List Value} (h : OT ω' w' u e sz s xs) (top : Top w ω' w') (hu : u ≠ 0 := by decide) : Mem.Own w' w.heap.size e sz s xs := by
  obtain ⟨hl, ho⟩ := h.own
  refine ⟨hl, ?_⟩
  rcases ho with ho | ⟨g, cap, cur, hv, hg, r⟩
  · exact .inl ho
  · refine .inr ⟨g, cap, cur, hv, ?_, r⟩
    have ht := h.tag g (by rw [hv]; rfl)
    rcases Nat.lt_or_ge g w.heap.size with hlt | hge
    · rw [top.z g hlt] at ht; exact absurd ht.symm hu
    · exact hge
theorem ag_at {cs : Array Value} {n : Nat} {K : Array Value → Prop} (hn : cs.size = n) (hK : K cs) : G.ag (.agg cs) n K := by
  subst hn
  show bif Nat.beq cs.size cs.size then K cs else False
  rw [Nat.beq_refl]; exact hK
theorem map_split {p : QL} {a b : AL} {x : ByteArray × Value} (h : p.map encP = a ++ x :: b) : ∃ pa q pb, p = pa ++ q :: pb ∧ a = pa.map encP ∧ x = encP q ∧ b = pb.map encP := by
  obtain ⟨pa, pr, h1, h2, h3⟩ := List.map_eq_append_iff.1 h
  cases pr with
  | nil => simp at h3
  | cons q pb =>
    simp only [List.map_cons, List.cons.injEq] at h3
    exact ⟨pa, q, pb, h1, h2.symm, h3.1.symm, h3.2.symm⟩
/-- A new alert, written cell by cell. -/
theorem loc_ok {sl : Sl} {n m : Int} {Z : Addr → World → Prop} (hK : ∀ g w', KD w w' → w.heap.size ≤ g → Blk w' g 34 [sl.v, .int .i64 n, .int .i64 m] → Z ⟨g, 0, none⟩ w') :
    G.new (.cells #[nilS.v, (.int .i64 (0 : Int)), (.int .i64 (0 : Int))] 34) w fun p w1 => G.st p sl.v w1 fun w2 => G.st (p.add 1) (.int .i64 n) w2 fun w3 => G.st (p.add 2) (.int .i64 m) w3 fun w4 => Z p w4 :=
  newD fun g w1 k1 hg b1 => stD hg k1 b1 (by simp) fun w2 k2 b2 => stDA hg k2 b2 (by simp) fun w3 k3 b3 => stDA hg k3 b3 (by simp) fun w4 k4 b4 => hK g w4 k4 hg b4

/-! ## The values of a map, in some order -/
abbrev VS := QL × QL
def VQ (i j : VS) (a : List Value) (_ : Tg) (_ : World) : Prop := ∃ q b1 b2, i.2 = b1 ++ q :: b2 ∧ j = (i.1 ++ [q], b1 ++ b2) ∧ a = [encV q]
def VC (g gm : Nat) (pl : QL) (ω : Tg) (w : World) : Prop := w.cell? ⟨g, 0, none⟩ = some (.map (some gm)) ∧ MV ω w 0 gm (pl.map encP)
theorem values_tells {Fc : Clee} {n g : Nat} {pl : QL} {Ct : Nat → Bool} (h0 : Ct 0 = false) (h1 : Ct 40 = false) (hF : ∀ args K w, C.maps_Values_1_map_string_Alert_string_Alert.cl args K w → Fc n args K w) :
    TellsG Tryz.prog Fc (.func (.func n) #[] #[.pointer (some ⟨g, 0, none⟩)]) (([], pl) : VS) VQ (fun i => i.2 = []) (VC g gm pl) (Duo 40 41) Ct := by
  intro L I Kk Q ω w hC hI hKI hy hK hQ h0'
  refine hF _ _ _ ?_
  show C.maps_Values_1_map_string_Alert_string_Alert (.func (.yield L) #[] #[]) (some ⟨g, 0, none⟩) w (C.maps_Values_1_map_string_Alert_string_Alert.Kt fun _ w' => Q w')
  unfold C.maps_Values_1_map_string_Alert_string_Alert
  obtain ⟨hb, hm⟩ := hC _ ω w h0'
  refine ptr_at ⟨some gm, hb, rangeV 40 hm mapT fun r ω1 w1 k1 i1 => ?_⟩
  refine C.maps_Values_1_map_string_Alert_string_Alert.L3_ind fun X hX => ?_
  have key : ∀ (d : Nat) (a b : QL) (ω : Tg) (w : World), b.length = d → I (a, b) ω w → IT ω w 40 r 0 gm (pl.map encP) (b.map encP) → X (.func (.yield L) #[] #[]) (some ⟨r, 0, none⟩) w := by
    intro d
    induction d with
    | zero =>
      intro a b ω w hd hi it
      refine hX _ _ _ ?_
      unfold C.maps_Values_1_map_string_Alert_string_Alert.S5
      have hb : b = [] := List.eq_nil_of_length_eq_zero hd
      subst hb
      exact nextV it (fun _ => hQ ω w (hK _ ω w rfl hi)) (fun a x b ω' w' hr => by simp at hr)
    | succ d ih =>
      intro a b ω w hd hi it
      refine hX _ _ _ ?_
      unfold C.maps_Values_1_map_string_Alert_string_Alert.S5
      refine nextV it (fun hr => by have := congrArg List.length hr; rw [List.length_map, hd] at this; simp at this) (fun ra x rb ω2 w2 hr k2 it2 en k v => en _ ?_)
      obtain ⟨pa, q, pb, e1, rfl, rfl, rfl⟩ := map_split hr
      refine ag_at rfl ⟨q.2, rfl, q.1.2.1, rfl, q.1.2.2, rfl, ?_⟩
      refine loc_ok fun g3 w3 k3 hg3 b3 => ?_
      refine cSl_at (s := q.2) (by rw [b3.cell]; rfl) <| cI_at (n := q.1.2.1) (by rw [addr_add, b3.cell]; rfl) <| cI_at (n := q.1.2.2) (by rw [addr_add, b3.cell]; rfl) ?_
      have s3 := k3.1.stp ω2 41
      have it3 := it2.stp s3 rfl rfl
      have hi2 := hI _ _ _ _ _ hi k2.one
      have hi3 := hI _ _ _ _ _ hi2 (s3.non _)
      generalize ext ω2 w2.heap.size 41 = ω3 at *
      rw [← List.map_append] at it3
      refine hy (a, b) (a ++ [q], pa ++ pb) _ ω3 w3 _ ⟨q, pa, pb, e1, rfl, rfl⟩ hi3 (fun ω' w' s h' => ?_) (fun ω' w' s h' => ?_)
      · refine isB_at (cond_f rfl ?_)
        exact ih _ _ ω' w' (by rw [e1] at hd; simp at hd ⊢; omega) h' (it3.stp s h1 h0)
      · exact isB_at (cond_t rfl (hQ _ _ h'))
  exact key pl.length [] pl ω1 w1 rfl (hI _ _ _ _ _ h0' (k1.non _)) i1

/-! ## Collected, sorted -/
theorem collect_ok {pl : QL} {g : Nat} (hbox : w.cell? ⟨g, 0, none⟩ = some (.map (some gm))) (hmp : MV (fun _ => 0) w 0 gm (pl.map encP)) (hl : pl.length ≤ 100000) {K : Sl → World → Prop}
    (hK : ∀ r ql w', Keep w w' → ql.Perm pl → Mem.Own w' w.heap.size 34 3 r (avs ql) → K r w') : C.slices_Collect_Alert (.func (.func 35) #[] #[.pointer (some ⟨g, 0, none⟩)]) w K := by
  unfold C.slices_Collect_Alert C.slices_AppendSeq_Alert_Alert
  refine new_T (ω := fun _ => 0) 4 fun g2 ω2 w2 k2 b2 => ?_
  unfold C.slices_AppendSeq_Alert_Alert.S9 C.slices_AppendSeq_Alert_Alert.R5
  have top2 := (Top.init w).stp k2
  have hgm := hmp.lt
  refine rangeGW_ok (T := Duo 2 4) (u := 3) (J := fun i ω w2 => Top w ω w2 ∧ (i.1 ++ i.2).Perm pl ∧ ∃ s, BT ω w2 4 g2 38 [Sl.v s] ∧ OT ω w2 2 34 3 s (avs i.1))
    (E := fun e ω w => False) (values_tells (g := g) (gm := gm) (pl := pl) rfl rfl fun _ _ _ h => h) rfl rfl ?_ ?_ ?_ ?_ ?_ ⟨top2, by simp, nilS, b2, OT.nil ..⟩ ?_ ?_
  · rintro i j a ω ω' w w' h k
    exact h
  · rintro i ω w2 ⟨top, _⟩
    obtain ⟨es, clock, hb, hs, he⟩ := hmp.ex
    exact ⟨top.k.cell hbox, ⟨es, clock, top.k.heap hb, hs, he⟩, top.z gm hgm⟩
  · rintro S hS i ω ω' w w' ⟨top, pm, s, x1, x2⟩ k
    have z : S 0 = false ∧ S 2 = false ∧ S 4 = false := by rcases hS with rfl | rfl <;> exact ⟨rfl, rfl, rfl⟩
    exact ⟨top.stp k z.1, pm, s, x1.stp k z.2.2, x2.stp k z.2.1⟩
  · rintro S hS e ω ω' w w' h k
    exact h
  · rintro ⟨a, b⟩ j args ω w4 bz Rr ⟨q, b1, b2, e1, rfl, rfl⟩ ⟨top, pm, s, x1, o⟩ hz
    dsimp only at e1 pm o
    subst e1
    unfold C.slices_AppendSeq_Alert_Alert.B_R5 encV avC Sl.v
    dsimp only
    refine loc_ok (sl := q.2) (n := q.1.2.1) (m := q.1.2.2) fun g5 w5 k5 hg5 b5 => ?_
    have s5 := k5.1.stp ω 5
    refine hz _ (ext ω w4.heap.size 5) w5 s5 fun w6 s6 hR _ => ?_
    have b5t : BT (ext ω w4.heap.size 5) w5 5 g5 34 [q.2.v, .int .i64 q.1.2.1, .int .i64 q.1.2.2] := ⟨b5, ext_new hg5⟩
    generalize ext ω w4.heap.size 5 = ω5 at *
    have b6 := b5t.stp s6
    have x16 := (x1.stp s5).stp s6
    have o6 := (o.stp s5).stp s6
    have top6 := (top.stp s5).stp s6
    unfold C.slices_AppendSeq_Alert_Alert.S7
    have hsn := rdA_n o.rd
    have hlen : a.length + 1 ≤ 100000 := by have := pm.length_eq; simp at this; omega
    refine ptr_at <| cSl_at (s := s) (by rw [x16.cell]; rfl) <| ptr_at <| cSl_at (s := q.2) (by rw [b6.cell]; rfl) <| cI_at (n := q.1.2.1) (by rw [addr_add, b6.cell]; rfl) <| cI_at (n := q.1.2.2) (by rw [addr_add, b6.cell]; rfl) ?_
    refine push_T (n := 1) tiA o6 rfl (by intro v hv; simp at hv; rcases hv with rfl | rfl | rfl <;> rfl) (by simp only [maxLen]; omega) (by omega) fun r7 ω7 w7 k7 o7 _ => ?_
    refine ptr_at (st_T (x16.stp k7) (by simp) fun ω8 w8 k8 b8 => ?_)
    refine hR ω8 w8 (k7.one.trans k8.two) ⟨(top6.stp k7).stp k8, by
      show (a ++ [q] ++ (b1 ++ b2)).Perm pl
      rw [List.append_assoc]
      exact (List.Perm.append_left a (List.perm_middle (l₁ := b1) (l₂ := b2) (a := q)).symm).trans pm, r7, b8, ?_⟩
    have e4 : avs (a ++ [q]) = avs a ++ [q.2.v, .int .i64 q.1.2.1, .int .i64 q.1.2.2] := by rw [avs_app]; rfl
    rw [e4]; exact o7.stp k8
  · rintro ω' w' D hD hDu ⟨⟨a, b⟩, hdn, top, pm, s, x1, o⟩
    dsimp only at hdn pm o
    subst hdn
    show C.slices_AppendSeq_Alert_Alert.S2 _ _ (pushMark undef D) w'
    unfold C.slices_AppendSeq_Alert_Alert.S2
    have sp := put_stp (ω := ω') (w := w') (o := .deferred none) hDu
    refine ptr_at (cSl_at (s := s) (by rw [x1.cell]; rfl) (marks_at hD ?_))
    have tp := top.stp sp
    exact hK s a _ tp.k (by simpa using pm) (OT.new (o.stp sp) tp)
  · rintro e ω' w' D _ _ h
    exact h.elim
end Go.Proofs.YtfkpehcbijgmnaaGreatDoor.Al
