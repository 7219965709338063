/- Layer 21 (alerts): the reference's Sweep, Firing; Spoil. Own work. -/
import Derived.Test.YtfkpehcbijgmnaaGreatDoorAlQ
namespace Go.Proofs.YtfkpehcbijgmnaaGreatDoor.Al
open Go Vm Go.RowKit Num Mem Utf Lib Lab
variable {ω ω' : Tg} {w w' w0 : World} {t u v gr : Nat} {T : Nat → Bool} {ql : QL} {M : List Av} {rs ms now : Int} {m : List Lb} {l s x : Sl}

/-- One more of a row, where a test lets it in. -/
theorem filter_snoc {f : Av × Sl → Bool} {k : Nat} {p : Av × Sl} (h : ql[k]? = some p) : (ql.take (k + 1)).filter f = (ql.take k).filter f ++ (if f p = true then [p] else []) := by
  rw [List.take_add_one, h, List.filter_append]; simp [List.filter_cons]
theorem rsweep_ok (h : RS ω w t gr rs ms M) (hM : WFm M) {now keep : Int} {K : Int → Int → World → Prop}
    (h1 : (now < 0 ∨ 1125899906842624 < now ∨ keep < 0 ∨ 1099511627776 < keep) → K 0 1 w)
    (hK : 0 ≤ now → now ≤ 1125899906842624 → 0 ≤ keep → keep ≤ 1099511627776 → ∀ ω' w', Stp (DT t) ω ω' w w' → RS ω' w' t gr rs ms (swM (now - keep) M) → K ((M.length : Int) - ((swM (now - keep) M).length : Int)) 0 w') : C.tocsinref21_Set_Sweep (some ⟨gr, 0, none⟩) now keep w K := by
  unfold C.tocsinref21_Set_Sweep C.tocsinref21_Time
  refine cond_d (fun a1 => ?_) (fun a1 => cond_t rfl (h1 (.inl (by omega))))
  refine cond_not (fun a2 => h1 (.inr (.inl (by have := of_decide_eq_false a2; omega)))) (fun a2 => ?_)
  have a2 := of_decide_eq_true a2
  refine cond_d (fun a3 => h1 (.inr (.inr (.inl a3)))) fun a3 => cond_d (fun a4 => h1 (.inr (.inr (.inr (by omega))))) fun a4 => ?_
  have hK := hK (by omega) (by omega) (by omega) (by omega)
  obtain ⟨l, ql, h, eq⟩ := h
  have hln := rdA_n h.row.rd
  have hq5 := lenq hM eq
  have elim : IntKind.i64.wrap (now - keep) = now - keep := wI64 (by omega) (by omega)
  unfold C.tocsinref21_Set_Sweep.S9
  refine C.tocsinref21_Set_Sweep.L5_ind fun X hX => ?_
  have cell : ∀ w1, Keep w w1 → w1.cell? (Addr.add ⟨gr, 0, none⟩ 2) = some l.v := fun w1 k => k.cell (by rw [addr_add, h.hd.cell]; rfl)
  have key : ∀ (d i : Nat) (r : Sl) (ω1 : Tg) (w1 : World), i + d = ql.length → Top w ω1 w1 → OT ω1 w1 2 34 3 r (avs ((ql.take i).filter fun p => decide (now - keep < p.1.2.2))) → X (some ⟨gr, 0, none⟩) now keep r (i : Int) w1 := by
    intro d
    induction d with
    | zero =>
      intro i r ω1 w1 hi top o
      refine hX _ _ _ _ _ _ ?_
      unfold C.tocsinref21_Set_Sweep.S7 C.tocsinref21_Set_Sweep.S2
      rw [List.take_of_length_le (by omega)] at o
      refine ptr_at <| cSl_at (cell w1 top.k) <| cond_d (fun hh => by omega) fun _ => ?_
      have hrn := rdA_n o.rd
      have sp := rtg_stp top.k ω ω1 (rg 2 (t + 1) 5 (t + 2))
      have h2 := h.stp sp (off_non t)
      have o2 : RT (rtg ω ω1 w.heap.size (rg 2 (t + 1) 5 (t + 2))) w1 (t + 1) r 3 (avs (ql.filter fun p => decide (now - keep < p.1.2.2))) := (o.rt).rtg top _
      generalize rtg ω ω1 w.heap.size (rg 2 (t + 1) 5 (t + 2)) = ω2 at *
      refine ptr_at <| cSl_at (cell w1 top.k) <| ptr_at <| st_TA h2.hd (by simp) fun ω3 w3 k3 b3 => ?_
      have ef : (ql.filter fun p => decide (now - keep < p.1.2.2)).map (·.1) = swM (now - keep) M := by
        rw [← eq, swM, List.filter_map]; rfl
      have el : r.n = (swM (now - keep) M).length := by rw [hrn, ← ef, List.length_map]
      have eM : l.n = M.length := by rw [hln, ← eq, List.length_map]
      have hle : (swM (now - keep) M).length ≤ M.length := List.length_filter_le _ _
      have hMc := hM.cnt
      have := hK ω3 w3 ((sp.non _).trans (dt_one (.inl rfl) k3)) ⟨r, _, ⟨b3, o2.stp k3 (beq_no (by omega)), fun p hp => (h2.lab p (List.mem_filter.1 hp).1).stp k3 (beq_no (by omega))⟩, ef⟩
      rw [wI64 (by omega) (by omega), el, eM]
      exact this
    | succ d ih =>
      intro i r ω1 w1 hi top o
      refine hX _ _ _ _ _ _ ?_
      unfold C.tocsinref21_Set_Sweep.S7
      obtain ⟨p, hp⟩ : ∃ p, ql[i]? = some p := ⟨_, List.getElem?_eq_getElem (by omega)⟩
      have hr1 := h.row.rd.keep top.k
      have hrn := rdA_n o.rd
      have hfl : ((ql.take i).filter fun p => decide (now - keep < p.1.2.2)).length ≤ i := by
        have := List.length_filter_le (fun p : Av × Sl => decide (now - keep < p.1.2.2)) (ql.take i)
        rw [List.length_take] at this; omega
      have nx : IntKind.i64.wrap ((i : Int) + 1) = ((i + 1 : Nat) : Int) := by rw [wI64 (by omega) (by omega)]; omega
      rw [elim, nx]
      have es := filter_snoc (f := fun p : Av × Sl => decide (now - keep < p.1.2.2)) hp
      refine ptr_at <| cSl_at (cell w1 top.k) <| cond_d (fun _ => ?_) (fun hh => by omega)
      refine ptr_at <| cSl_at (cell w1 top.k) <| rdA_at hr1 (k := i) rfl hp fun a _ _ c2 => cI_at c2 <| cond_d (fun hgt => ?_) (fun hle => ?_)
      · rw [if_pos (decide_eq_true (by omega))] at es
        refine ptr_at <| cSl_at (cell w1 top.k) <| rdA_at hr1 (k := i) rfl hp fun a c0 c1 c2 => cSl_at c0 <| cI_at c1 <| cI_at c2 ?_
        refine push_T (n := 1) tiA o rfl (by intro v hv; simp at hv; rcases hv with rfl | rfl | rfl <;> rfl) (by simp only [maxLen]; omega) (by omega) fun r2 ω2 w2 k2 o2 _ => ?_
        refine ih (i + 1) r2 ω2 w2 (by omega) (top.stp k2) ?_
        rw [es, avs_snoc]; exact o2
      · rw [if_neg (by simp; omega), List.append_nil] at es
        refine ih (i + 1) r ω1 w1 (by omega) top ?_
        rw [es]; exact o
  exact key ql.length 0 nilS (fun _ => 0) w (by omega) (Top.init w) (OT.nil ..)
theorem rfiring_ok (h : RS ω w t gr rs ms M) (hM : WFm M) {now : Int} {K : Sl → World → Prop}
    (hK : ∀ r ql' w', Keep w w' → RA w' r ql' → ql'.map (·.1) = M.filter (fires now) → K r w') : C.tocsinref21_Set_Firing (some ⟨gr, 0, none⟩) now w K := by
  obtain ⟨l, ql, h, eq⟩ := h
  have hln := rdA_n h.row.rd
  have hq5 := lenq hM eq
  unfold C.tocsinref21_Set_Firing C.tocsinref21_Set_Firing.S9
  refine C.tocsinref21_Set_Firing.L5_ind fun X hX => ?_
  have cell : ∀ w1, Keep w w1 → w1.cell? (Addr.add ⟨gr, 0, none⟩ 2) = some l.v := fun w1 k => k.cell (by rw [addr_add, h.hd.cell]; rfl)
  have key : ∀ (d i : Nat) (r : Sl) (ω1 : Tg) (w1 : World), i + d = ql.length → Top w ω1 w1 → OT ω1 w1 2 34 3 r (avs ((ql.take i).filter fun p => fires now p.1)) → X (some ⟨gr, 0, none⟩) now r (i : Int) w1 := by
    intro d
    induction d with
    | zero =>
      intro i r ω1 w1 hi top o
      refine hX _ _ _ _ _ ?_
      unfold C.tocsinref21_Set_Firing.S7 C.tocsinref21_Set_Firing.S2
      rw [List.take_of_length_le (by omega)] at o
      refine ptr_at <| cSl_at (cell w1 top.k) <| cond_d (fun hh => by omega) fun _ => ?_
      have ef : (ql.filter fun p => fires now p.1).map (·.1) = M.filter (fires now) := by
        rw [← eq, List.filter_map]; rfl
      exact hK r _ w1 top.k ⟨o.rd, fun p hp => (h.lab p (List.mem_filter.1 hp).1).rd.keep top.k⟩ ef
    | succ d ih =>
      intro i r ω1 w1 hi top o
      refine hX _ _ _ _ _ ?_
      unfold C.tocsinref21_Set_Firing.S7
      obtain ⟨p, hp⟩ : ∃ p, ql[i]? = some p := ⟨_, List.getElem?_eq_getElem (by omega)⟩
      have hr1 := h.row.rd.keep top.k
      have hrn := rdA_n o.rd
      have hfl : ((ql.take i).filter fun p => fires now p.1).length ≤ i := by
        have := List.length_filter_le (fun p : Av × Sl => fires now p.1) (ql.take i)
        rw [List.length_take] at this; omega
      have nx : IntKind.i64.wrap ((i : Int) + 1) = ((i + 1 : Nat) : Int) := by rw [wI64 (by omega) (by omega)]; omega
      rw [nx]
      have es := filter_snoc (f := fun p : Av × Sl => fires now p.1) hp
      have skip : fires now p.1 = false → X (some ⟨gr, 0, none⟩) now r ((i + 1 : Nat) : Int) w1 := fun hf => by
        rw [if_neg (by rw [hf]; decide), List.append_nil] at es
        exact ih (i + 1) r ω1 w1 (by omega) top (by rw [es]; exact o)
      refine ptr_at <| cSl_at (cell w1 top.k) <| cond_d (fun _ => ?_) (fun hh => by omega)
      refine ptr_at <| cSl_at (cell w1 top.k) <| rdA_at hr1 (k := i) rfl hp fun a _ c1 _ => cI_at c1 <| cond_d (fun h1 => ?_) (fun h1 => skip (by unfold fires; simp [h1]))
      refine ptr_at <| cSl_at (cell w1 top.k) <| rdA_at hr1 (k := i) rfl hp fun a _ _ c2 => cI_at c2 <| cond_d (fun h2 => ?_) (fun h2 => skip (by unfold fires; simp [h2]))
      rw [if_pos (by unfold fires; simp [h1, h2])] at es
      refine ptr_at <| cSl_at (cell w1 top.k) <| rdA_at hr1 (k := i) rfl hp fun a c0 c1 c2 => cSl_at c0 <| cI_at c1 <| cI_at c2 ?_
      refine push_T (n := 1) tiA o rfl (by intro v hv; simp at hv; rcases hv with rfl | rfl | rfl <;> rfl) (by simp only [maxLen]; omega) (by omega) fun r2 ω2 w2 k2 o2 _ => ?_
      refine ih (i + 1) r2 ω2 w2 (by omega) (top.stp k2) ?_
      rw [es, avs_snoc]; exact o2
  exact key ql.length 0 nilS (fun _ => 0) w (by omega) (Top.init w) (OT.nil ..)

/-! ## Spoil -/
/-- Labels that may be written. -/
def WB (ω : Tg) (w : World) (v : Nat) (s : Sl) : Prop := s.n ≤ 16 ∧ (s.n = 0 ∨ ∃ g e cs, s.a = some ⟨g, 0, none⟩ ∧ BT ω w v g e cs ∧ s.n * 2 ≤ cs.length)
theorem WB.stp (h : WB ω w v s) (k : Stp T ω ω' w w') (hT : T v = false) : WB ω' w' v s := ⟨h.1, h.2.imp_right fun ⟨g, e, cs, ha, hb, hl⟩ => ⟨g, e, cs, ha, hb.stp k hT, hl⟩⟩
theorem OT.wb {e : TypeId} {xs : List Value} (h : OT ω w v e 2 s xs) (hs : s.n ≤ 16) : WB ω w v s := by
  refine ⟨hs, ?_⟩
  rcases h.cases with ⟨rfl, _⟩ | ⟨g, cur, ha, hb, hn, hm, hl, ht⟩
  · exact .inl rfl
  · exact .inr ⟨g, e, cur, ha, hb, by rw [hl]; exact Nat.mul_le_mul_right _ hn⟩
theorem st_W {g j : Nat} {e : TypeId} {cs : List Value} {val : Value} (hb : BT ω w v g e cs) (hj : j < cs.length) {K : World → Prop} (hK : ∀ ω' w', Stp (Mem.One v) ω ω' w w' → (∀ s, WB ω w v s → WB ω' w' v s) → K w') : G.st ⟨g, j, none⟩ val w K := by
  refine st_at (by rw [hb.cell, List.getElem?_eq_getElem hj]) (hb.blk.frozen j) (hK (ext ω w.heap.size v) _ (Chg.stp (setCell_chg w g j val) fun k hk => by rw [hk]; exact hb.tag) fun s hs => ⟨hs.1, hs.2.imp_right ?_⟩)
  rintro ⟨g2, e2, cs2, ha, hb2, hl⟩
  by_cases he : g2 = g
  · subst he
    obtain ⟨rfl, rfl⟩ := hb2.blk.uniq hb.blk
    exact ⟨g2, e2, _, ha, ⟨hb2.blk.set j val, by rw [ext_old hb2.blk.lt]; exact hb2.tag⟩, by rw [List.length_set]; exact hl⟩
  · refine ⟨g2, e2, cs2, ha, ⟨?_, by rw [ext_old hb2.blk.lt]; exact hb2.tag⟩, hl⟩
    unfold Blk
    rw [Below.heap_setCell _ _ _ _ he]; exact hb2.blk
theorem wb_st {k : Nat} (h : WB ω w v s) (hk : k < s.n) {val : Value} {K : World → Prop} (hK : ∀ ω' w', Stp (Mem.One v) ω ω' w w' → (∀ s, WB ω w v s → WB ω' w' v s) → K w') : G.ix s.a s.n (k : Int) 2 fun p => G.st (p.add 1) val w K := by
  rcases h.2 with h | ⟨g, e, cs, ha, hb, hl⟩
  · omega
  · rw [ha]
    refine ⟨⟨by omega, by omega⟩, ?_⟩
    rw [Int.toNat_natCast, addr_add]
    show G.st (Addr.add ⟨g, 0 + k * 2, none⟩ 1) val w K
    rw [addr_add]
    exact st_W hb (by omega) hK
def SpI (ω : Tg) (w : World) (u v : Nat) (l : Sl) (n i : Nat) : Prop := ∃ xs, OT ω w u 34 3 l xs ∧ xs.length = n * 3 ∧ ∀ j, i ≤ j → j < n → ∃ s : Sl, xs[j * 3]? = some s.v ∧ WB ω w v s
theorem spoil_ok (huv : u ≠ v) {n : Nat} (hln : l.n = n) (hn : n ≤ 1000) (h : SpI ω w u v l n 0) {K : World → Prop} (hK : ∀ ω' w', Stp (Duo u v) ω ω' w w' → K w') : C.tocsinref21_Spoil l w K := by
  unfold C.tocsinref21_Spoil
  refine C.tocsinref21_Spoil.L3_ind fun X hX => ?_
  have key : ∀ (d i : Nat) (ω1 : Tg) (w1 : World), i + d = n → Stp (Duo u v) ω ω1 w w1 → SpI ω1 w1 u v l n i → X l (i : Int) w1 := by
    intro d
    induction d with
    | zero =>
      intro i ω1 w1 hi sp hs
      refine hX _ _ _ ?_
      unfold C.tocsinref21_Spoil.S19
      exact cond_d (fun hh => by omega) (fun _ => hK ω1 w1 sp)
    | succ d ih =>
      intro i ω1 w1 hi sp hs
      refine hX _ _ _ ?_
      unfold C.tocsinref21_Spoil.S19
      refine cond_d (fun _ => ?_) (fun hh => by omega)
      unfold C.tocsinref21_Spoil.S15
      refine C.tocsinref21_Spoil.L11_ind fun Y hY => ?_
      obtain ⟨xs0, o0, hx0, hw0⟩ := hs
      obtain ⟨s, hs0, hws⟩ := hw0 i (Nat.le_refl _) (by omega)
      have inner : ∀ (d2 k : Nat) (ω2 : Tg) (w2 : World), k + d2 = s.n → Stp (Duo u v) ω ω2 w w2 → OT ω2 w2 u 34 3 l xs0 → (∀ j, i ≤ j → j < n → ∃ s : Sl, xs0[j * 3]? = some s.v ∧ WB ω2 w2 v s) → WB ω2 w2 v s → s.n ≤ 16 → Y l (i : Int) (k : Int) w2 := by
        intro d2
        induction d2 with
        | zero =>
          intro k ω2 w2 hk sp2 o2 hw2 hws2 hb
          refine hY _ _ _ _ ?_
          unfold C.tocsinref21_Spoil.S13
          refine o2.at_ (k := i) rfl (by omega) fun a ha _ _ hc => ?_
          have c0 := hc 0 s.v (by decide) (by simpa using hs0)
          rw [show a.add 0 = a by simp [Addr.add]] at c0
          refine cSl_at c0 <| cond_d (fun hh => by omega) fun _ => ?_
          unfold C.tocsinref21_Spoil.S8
          refine o2.at_ (k := i) rfl (by omega) fun a1 ha1 _ _ _ => ?_
          refine o2.st (i := i) (j := 1) (by omega) (by decide) _ ha1 fun ω3 w3 k3 o3 => ?_
          refine o3.at_ (k := i) rfl (by omega) fun a2 ha2 _ _ _ => ?_
          have e0 : a2 = a2.add 0 := by simp [Addr.add]
          rw [e0]
          refine o3.st (i := i) (j := 0) (by omega) (by decide) _ ha2 fun ω4 w4 k4 o4 => ?_
          unfold C.tocsinref21_Spoil.S5
          rw [wI64 (by omega) (by omega), show (i : Int) + 1 = ((i + 1 : Nat) : Int) by omega]
          have k34 := (k3.trans k4)
          refine ih (i + 1) ω4 w4 (by omega) (sp2.trans k34.one) ⟨_, o4, by simp only [List.length_set]; exact hx0, fun j hj hjn => ?_⟩
          obtain ⟨sj, hsj, hwj⟩ := hw2 j (by omega) hjn
          refine ⟨sj, ?_, hwj.stp k34 (beq_no (Ne.symm huv))⟩
          rw [List.getElem?_set_ne (by omega), List.getElem?_set_ne (by omega)]
          exact hsj
        | succ d2 ih2 =>
          intro k ω2 w2 hk sp2 o2 hw2 hws2 hb
          refine hY _ _ _ _ ?_
          unfold C.tocsinref21_Spoil.S13
          have rd : ∀ {Z : Sl → Prop}, Z s → G.ix l.a l.n (i : Int) 3 fun p => G.cSl p w2 Z := fun {Z} hz => o2.at_ (k := i) rfl (by omega) fun a ha _ _ hc => by
            have c0 := hc 0 s.v (by decide) (by simpa using hs0)
            rw [show a.add 0 = a by simp [Addr.add]] at c0
            exact cSl_at c0 hz
          refine rd <| cond_d (fun _ => ?_) (fun hh => by omega)
          refine rd <| wb_st hws2 (by omega) fun ω3 w3 k3 hall => ?_
          rw [wI64 (by omega) (by omega), show (k : Int) + 1 = ((k + 1 : Nat) : Int) by omega]
          exact ih2 (k + 1) ω3 w3 (by omega) (sp2.trans k3.two) (o2.stp k3 (beq_no huv)) (fun j hj hjn => (hw2 j hj hjn).imp fun sj h => ⟨h.1, hall sj h.2⟩) (hall s hws2) hb
      exact inner s.n 0 ω1 w1 (by omega) sp o0 hw0 hws hws.1
  exact key n 0 ω w (by omega) (Stp.refl _ _ _) h
end Go.Proofs.YtfkpehcbijgmnaaGreatDoor.Al
