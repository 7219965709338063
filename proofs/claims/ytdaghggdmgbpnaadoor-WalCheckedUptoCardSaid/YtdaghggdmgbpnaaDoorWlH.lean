/- Layer 7 (wal): All. Own work. -/
import Derived.Test.YtdaghggdmgbpnaaDoorWlG
import Derived.Test.YtdaghggdmgbpnaaDoorSeqQ
namespace Go.Proofs.YtdaghggdmgbpnaaDoor.Wl
open Go Vm Go.RowKit Num Mem Dk Wo Vint Crc
variable {ω ω' : Tg} {w w' w0 : World} {T : Nat → Bool} {t u v gl gd room at' : Nat} {name : ByteArray} {sl : Sl} {pl : List Pc} {M : List Fl}

/-- A log's records that are only read. -/
structure RW (w : World) (gl : Nat) (sl : Sl) (pl : List Pc) : Prop where
  hd : w.cell? ⟨gl, 4, none⟩ = some sl.v
  row : Rd w sl 1 (hds pl)
  rt : ∀ p ∈ pl, RdB w p.2 p.1
theorem RW.keep (h : RW w gl sl pl) (k : Keep w w') : RW w' gl sl pl := ⟨k.cell h.hd, h.row.keep k, fun p hp => Rd.keep (h.rt p hp) k⟩
theorem LG.rw (h : LG ω w t gl gd name room at' sl pl) : RW w gl sl pl := ⟨by rw [h.hd.cell]; rfl, h.row.rd, fun p hp => (h.rt p hp).rd⟩
def Tld (v : Nat) (pl : List Pc) : Nat → List Value → Tg → World → Prop := fun i a ω w => ∃ p r, pl[i]? = some p ∧ a = [Sl.v r] ∧ RT ω w v r 1 (vBs p.1)
theorem all_tells {Fc : Clee} {n g : Nat} (v : Nat) (hx : ∀ p ∈ pl, p.1.length ≤ 1000000) (hl : pl.length ≤ 2000000000) {Ct : Nat → Bool} (hF : ∀ args K w, C.wal_Log_All_1.cl args K w → Fc n args K w) :
    TellsQ Tryd.prog Fc (.func (.func n) #[] #[.pointer (some ⟨g, 0, none⟩)]) pl.length (Tld v pl) (fun w => w.cell? ⟨g, 0, none⟩ = some (.pointer (some ⟨gl, 0, none⟩)) ∧ RW w gl sl pl) Non Ct := by
  intro L I Kk Q ω w hC hI hKI hy hK hQ h0
  refine hF _ _ _ ?_
  show C.wal_Log_All_1 (.func (.yield L) #[] #[]) (some ⟨g, 0, none⟩) w (C.wal_Log_All_1.Kt fun _ w' => Q w')
  unfold C.wal_Log_All_1
  obtain ⟨hb, hc⟩ := hC 0 ω w h0
  refine ptr_at (cP_at hb (cond_f rfl (ptr_at (cP_at hb (ptr_at (cSl_at (s := sl) (by rw [addr_add]; exact hc.hd) ?_))))))
  have hn : sl.n = pl.length := by have := hc.row.2.1; simp [hds] at this; omega
  refine C.wal_Log_All_1.L3_ind fun X hX => ?_
  have key : ∀ (d i : Nat) (ω : Tg) (w : World), i + d = pl.length → pl.length ≤ 9000000000000000000 → I i ω w → X (.func (.yield L) #[] #[]) sl ((sl.n : Nat) : Int) (i : Int) w := by
    intro d
    induction d with
    | zero =>
      intro i ω w hi _ h
      refine hX _ _ _ _ _ ?_
      unfold C.wal_Log_All_1.S5
      refine cond_d (fun h => by omega) (fun _ => hQ ω w (hK ω w ?_))
      rw [show pl.length = i by omega]; exact h
    | succ d ih =>
      intro i ω w hi hbig h
      refine hX _ _ _ _ _ ?_
      unfold C.wal_Log_All_1.S5
      refine cond_d (fun _ => ?_) (fun h => by omega)
      obtain ⟨p, hp⟩ : ∃ p, pl[i]? = some p := ⟨_, List.getElem?_eq_getElem (by omega)⟩
      have hpm := List.mem_of_getElem? hp
      have hc := (hC i ω w h).2
      refine Rd.ix hc.row (by decide) (by omega) (by omega) fun a hcc => ?_
      have c0 := hcc 0 p.2.v (by decide) (by rw [Int.toNat_natCast, Nat.mul_one, Nat.add_zero, hds, List.getElem?_map, hp]; rfl)
      rw [add_zero'] at c0
      refine cSl_at (s := p.2) c0 <| again_ok (hc.rt p hpm) (by have := hx p hpm; omega) fun r w2 k2 r2 => ?_
      have s2 := k2.stp ω v
      have rr := r2 ω v
      generalize ext ω w.heap.size v = ω2 at *
      refine hy i _ ω2 w2 _ ⟨p, r, hp, rfl, rr⟩ (hI _ _ _ _ _ h s2) (fun ω' w' _ h' => ?_) (fun ω' w' _ h' => ?_)
      · refine isB_at (cond_f rfl ?_)
        rw [wI64 (by omega) (by omega), show (i : Int) + 1 = ((i + 1 : Nat) : Int) by omega]
        exact ih (i + 1) ω' w' (by omega) hbig h'
      · exact isB_at (cond_t rfl (hQ _ _ h'))
  exact key pl.length 0 ω w (by omega) (by omega) h0
theorem all_ok (h : RW w gl sl pl) (hx : ∀ p ∈ pl, p.1.length ≤ 1000000) (hl : pl.length ≤ 2000000000) {K : Sl → World → Prop}
    (hK : ∀ out ps w', Keep w w' → Rd w' out 1 (hds ps) → ps.map (·.1) = pl.map (·.1) → (∀ p ∈ ps, RdB w' p.2 p.1) → K out w') : C.tocsinlaw07_all (some ⟨gl, 0, none⟩) 0 w K := by
  unfold C.tocsinlaw07_all
  refine new_T (ω := fun _ => 0) 1 fun g1 ω1 w1 k1 b1 => new_T (ω := ω1) 4 fun g2 ω2 w2 k2 b2 => ?_
  unfold C.wal_Log_All
  refine new_T (ω := ω2) 1 fun g3 ω3 w3 k3 b3 => isNilF_no (cond_f rfl ?_)
  unfold C.tocsinlaw07_all.S9 C.tocsinlaw07_all.R5
  have top3 := (((Top.init w).stp k1).stp k2).stp k3
  refine rangeQ_ok (T := Duo 2 4) (u := 3) (J := fun i ω w2 => Top w ω w2 ∧ BT ω w2 1 g1 3 [.int .i64 0] ∧ BT ω w2 1 g3 26 [.pointer (some ⟨gl, 0, none⟩)] ∧ ∃ s ps, BT ω w2 4 g2 22 [Sl.v s] ∧ OT ω w2 2 31 1 s (hds ps) ∧ ps.length = i ∧ ps.map (·.1) = (pl.take i).map (·.1) ∧ ∀ p ∈ ps, RT ω w2 5 p.2 1 (vBs p.1))
    (E := fun e ω w => False)
    (all_tells (g := g3) (gl := gl) (sl := sl) (pl := pl) 5 hx hl fun _ _ _ h => h) rfl rfl ?_ ?_ ?_ ?_ ?_ ⟨top3, (b1.stp k2).stp k3, b3, nilS, [], b2.stp k3, OT.nil .., rfl, by simp, by simp⟩ ?_ ?_
  · rintro i a ω ω' w w' ⟨p, r, hp, rfl, rr⟩ k
    exact ⟨p, r, hp, rfl, rr.stp k rfl⟩
  · rintro i ω w ⟨top, _, b, _⟩
    exact ⟨by rw [b.cell]; rfl, h.keep top.k⟩
  · rintro S hS i ω ω' w w' ⟨top, x1, x3, s, ps, x2, o, e1, e2, hr⟩ k
    have z : S 0 = false ∧ S 1 = false ∧ S 2 = false ∧ S 4 = false ∧ S 5 = false := by rcases hS with rfl | rfl <;> exact ⟨rfl, rfl, rfl, rfl, rfl⟩
    exact ⟨top.stp k z.1, x1.stp k z.2.1, x3.stp k z.2.1, s, ps, x2.stp k z.2.2.2.1, o.stp k z.2.2.1, e1, e2, fun p hp => (hr p hp).stp k z.2.2.2.2⟩
  · rintro S hS e ω ω' w w' h k
    exact h
  · rintro i a ω w4 Rr ⟨p, r, hp, rfl, rr⟩ ⟨top, x1, x3, s, ps, x2, o, e1, e2, hr⟩ hR _
    show C.tocsinlaw07_all.S7 Rr _ _ r w4
    unfold C.tocsinlaw07_all.S7
    have hil := (List.getElem?_eq_some_iff.1 hp).1
    have hsn : s.n = ps.length := by have := o.rd.2.1; simp [hds] at this; omega
    refine ptr_at (cSl_at (s := s) (by rw [x2.cell]; rfl) ?_)
    refine push_T tiBB o (n := 1) rfl (by intro v hv; simp at hv; subst hv; rfl) (by simp only [maxLen]; omega) (by omega) fun r5 ω5 w5 k5 o5 hr5 => ?_
    refine ptr_at (st_T (x2.stp k5) (by simp) fun ω6 w6 k6 b6 => ?_)
    have x16 := (x1.stp k5).stp k6
    refine ptr_at (cSl_at (s := r5) (by rw [b6.cell]; rfl) (ptr_at (cI_at (n := 0) (by rw [x16.cell]; rfl) ?_)))
    have s6 : Stp (Duo 2 4) ω ω6 w4 w6 := k5.one.trans k6.two
    refine cond_eq (fun e => by omega) fun _ => hR ω6 w6 s6 ⟨(top.stp k5).stp k6, x16, (x3.stp k5).stp k6, r5, ps ++ [(p.1, r)], b6, ?_, by simp; omega, by rw [List.map_append, e2, List.take_add_one, hp]; simp, fun q hq => ?_⟩
    · have e4 : hds (ps ++ [(p.1, r)]) = hds ps ++ [r.v] := by simp [hds]
      rw [e4]; exact o5.stp k6
    · rcases List.mem_append.1 hq with hq | hq
      · exact ((hr q hq).stp k5).stp k6
      · rw [List.mem_singleton.1 hq]; exact (rr.stp k5).stp k6
  · rintro ω' w' D hD hDu ⟨top, x1, x3, s, ps, x2, o, e1, e2, hr⟩
    show C.tocsinlaw07_all.S2 K _ (pushMark undef D) w'
    unfold C.tocsinlaw07_all.S2
    rw [List.take_length] at e2
    have sp := put_stp (w := w') (o := .deferred none) hDu
    refine ptr_at (cSl_at (s := s) (by rw [x2.cell]; rfl) (marks_at hD ?_))
    exact hK s ps _ ((top.stp sp).k) (o.stp sp).rd e2 fun p hp => ((hr p hp).stp sp).rd
  · rintro e ω' w' D _ _ h
    exact h.elim
end Go.Proofs.YtdaghggdmgbpnaaDoor.Wl
