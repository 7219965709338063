/- Layer 21 (alerts): Put. Own work. -/
import Derived.Test.YtfkpehcbijgmnaaGreatDoorAlD
namespace Go.Proofs.YtfkpehcbijgmnaaGreatDoor.Al
open Go Vm Go.RowKit Num Mem Utf Lib Lab
variable {ω ω' ωb : Tg} {w w' w0 wb : World} {t u gs gm : Nat} {T : Nat → Bool} {pl : QL} {M : List Av} {rs ms now : Int}

def updP (a : Av × Sl) : QL → QL
  | [] => [a]
  | p :: r => if p.1.1 = a.1.1 then a :: r else p :: updP a r
theorem updP_map (a : Av × Sl) : ∀ pl : QL, updA (Lab.keyOf a.1.1) (encV a) (pl.map encP) = (updP a pl).map encP
  | [] => rfl
  | p :: pl => by
    simp only [List.map_cons, encP, updA, updP]
    by_cases e : p.1.1 = a.1.1
    · rw [if_pos e, if_pos (by rw [e])]; rfl
    · rw [if_neg e, if_neg (fun h => e (key_inj h).symm)]
      have ih := updP_map a pl
      simp only [List.map_cons]
      rw [← ih]; rfl
theorem mem_updP {a x : Av × Sl} : ∀ {pl : QL}, (pl.map (·.1.1)).Nodup → (x ∈ updP a pl ↔ x = a ∨ (x ∈ pl ∧ x.1.1 ≠ a.1.1))
  | [], _ => by simp [updP]
  | p :: pl, h => by
    simp only [List.map_cons, List.nodup_cons] at h
    unfold updP
    split
    · rename_i e
      have hr : ∀ x ∈ pl, x.1.1 ≠ a.1.1 := fun x hx q => h.1 (by rw [e, ← q]; exact List.mem_map_of_mem (f := fun p : Av × Sl => p.1.1) hx)
      simp only [List.mem_cons]
      constructor
      · rintro (rfl | hx)
        · exact .inl rfl
        · exact .inr ⟨.inr hx, hr x hx⟩
      · rintro (rfl | ⟨rfl | hx, hn⟩)
        · exact .inl rfl
        · exact absurd e hn
        · exact .inr hx
    · rename_i e
      rw [List.mem_cons, mem_updP h.2]
      simp only [List.mem_cons]
      constructor
      · rintro (rfl | rfl | ⟨hx, hn⟩)
        · exact .inr ⟨.inl rfl, e⟩
        · exact .inl rfl
        · exact .inr ⟨.inr hx, hn⟩
      · rintro (rfl | ⟨rfl | hx, hn⟩)
        · exact .inr (.inl rfl)
        · exact .inl rfl
        · exact .inr (.inr ⟨hx, hn⟩)
theorem nodupM (h : M.Pairwise ltA) : M.Nodup := h.imp fun {a b} h e => by subst e; exact ltA_irr a h
theorem nodupL (h : M.Pairwise ltA) : (M.map (·.1)).Nodup := by
  rw [List.Nodup, List.pairwise_map]
  exact h.imp fun {a b} h => lt_ne h
theorem ASa.names (hp : (pl.map (·.1)).Perm M) (hM : M.Pairwise ltA) : (pl.map (·.1.1)).Nodup := by
  have h := (hp.map (·.1)).nodup_iff.2 (nodupL hM)
  rw [List.map_map] at h; exact h
theorem nodup1 {l : QL} (h : (l.map (·.1.1)).Nodup) : (l.map (·.1)).Nodup := by
  rw [List.Nodup, List.pairwise_map] at h ⊢
  exact h.imp fun h e => h (by rw [e])
theorem upd_AS (h : ASa ω w t gs gm rs ms pl) (hp : (pl.map (·.1)).Perm M) (hM : M.Pairwise ltA) {a : Av} {sl : Sl} (k : Stp (Mem.One (t + 1)) ω ω' w w') (m' : MV ω' w' (t + 1) gm (updA (Lab.keyOf a.1) (encV (a, sl)) (pl.map encP))) (r : RT ω w (t + 2) sl 2 (labs a.1)) :
    AS ω' w' t gs rs ms (insM a M) := by
  have hn := ASa.names hp hM
  rw [updP_map (a, sl)] at m'
  have hn' : ((updP (a, sl) pl).map (·.1.1)).Nodup := by
    have := m'.nodup
    rw [List.map_map] at this
    rw [List.Nodup, List.pairwise_map] at this ⊢
    exact this.imp fun h e => h (by show Lab.keyOf _ = Lab.keyOf _; rw [e])
  refine ⟨gm, updP (a, sl) pl, ⟨h.hd.stp k (beq_no (by omega)), m', fun p hpm => ?_⟩, ?_⟩
  · rcases (mem_updP hn).1 hpm with rfl | ⟨h1, _⟩
    · exact r.stp k (beq_no (by omega))
    · exact (h.rt p h1).stp k (beq_no (by omega))
  · refine (List.perm_ext_iff_of_nodup (nodup1 hn') (nodupM (insM_up hM))).2 fun x => ?_
    rw [mem_insM hM, List.mem_map]
    constructor
    · rintro ⟨p, hpm, rfl⟩
      rcases (mem_updP hn).1 hpm with rfl | ⟨h1, h2⟩
      · exact .inl rfl
      · exact .inr ⟨mem_perm hp h1, h2⟩
    · rintro (rfl | ⟨h1, h2⟩)
      · exact ⟨(x, sl), (mem_updP hn).2 (.inl rfl), rfl⟩
      · obtain ⟨q, hq, rfl⟩ := List.mem_map.1 (hp.mem_iff.2 h1)
        exact ⟨q, (mem_updP hn).2 (.inr ⟨hq, h2⟩), rfl⟩

/-! ## What Put does -/
def badA (now : Int) (a : Av) : Int :=
  if now < 0 ∨ 1125899906842624 < now then 1 else if (rt a.1).1 ≠ 0 ∨ a.1 = [] then 41
  else if a.2.1 < 0 ∨ 1126999418470400 < a.2.1 ∨ a.2.2 < 0 ∨ 1126999418470400 < a.2.2 ∨ (a.2.2 ≠ 0 ∧ a.2.2 < a.2.1) then 1 else 0
def putE (rs now : Int) (a : Av) : Int := if a.2.2 = 0 then now + rs else a.2.2
def putS (now : Int) (a : Av) : Int := if a.2.1 = 0 then now else a.2.1
def putF (ms now : Int) (m : List Lb) (s e : Int) (M : List Av) : Int × List Av :=
  if e < s then (1, M) else match getM M m with
  | none => if ms ≤ (M.length : Int) then (8, M) else (0, insM (m, s, e) M)
  | some o => (0, insM (m, (if now < o.2.2 then (if o.2.1 < s then o.2.1 else s) else s), e) M)
def putM (rs ms now : Int) (a : Av) (M : List Av) : Int × List Av := if badA now a ≠ 0 then (badA now a, M) else putF ms now a.1 (putS now a) (putE rs now a) M

theorem put_S2 {v g : Nat} {s : Sl} {m : List Lb} {st en : Int} (sp : Stp (DT t) ωb ω wb w) (hfr : ∀ i, i < wb.heap.size → ωb i ≠ v) (hvt : t + 2 < v) (h : ASa ω w t gs gm rs ms pl) (hp : (pl.map (·.1)).Perm M) (hM : WFm M)
    (hb : BT ω w v g 34 [s.v, .int .i64 st, .int .i64 en]) (hs : RT ωb wb u s 2 (labs m)) (hu : DT t u = false) (hr : (rt m).1 = 0) (hc : (∃ o, getM M m = some o) ∨ M.length < 500) {K : Int → World → Prop}
    (hK : ∀ ω' w', Stp (DT t) ωb ω' wb w' → AS ω' w' t gs rs ms (insM (m, st, en) M) → WFm (insM (m, st, en) M) → K 0 w') : C.alerts_Set_Put.S2 K (some ⟨gs, 0, none⟩) (some ⟨g, 0, none⟩) (Lab.keyOf m) w := by
  unfold C.alerts_Set_Put.S2
  refine ptr_at <| cSl_at (s := s) (by rw [hb.cell]; rfl) <| cloneL_ok (hs.stp sp hu).rd (rt_short hr).1 fun r w1 k1 o1 => ?_
  have s1 := k1.stp ω (t + 2)
  have rr := Own.rt o1 (Nat.le_refl _) ω (t + 2)
  generalize ext ω w.heap.size (t + 2) = ω1 at *
  have h1 := h.stp s1 (off_non t)
  have sp1 := sp.trans (s1.non _)
  refine ptr_at <| st_T (hb.stp s1) (by simp) fun ω2 w2 k2 b2 => ?_
  have sp2 := Stp.fresh sp1 k2 hfr
  have h2 := h1.stp k2 (off_one (.inr hvt))
  have rr2 := rr.stp k2 (beq_no (by omega))
  have s3 := drew_stp ω2 w2
  have h3 := h2.stp s3 (off_non t)
  have b3 := b2.stp s3
  have rr3 := rr2.stp s3
  refine ptr_at ⟨some gm, by rw [addr_add, h3.hd.cell]; rfl, ?_⟩
  refine ptr_at <| cSl_at (s := r) (by rw [b3.cell]; rfl) <| cI_at (n := st) (by rw [addr_add, b3.cell]; rfl) <| cI_at (n := en) (by rw [addr_add, b3.cell]; rfl) ?_
  refine updV h3.mp mapT strT fun ω4 w4 k4 m4 => ?_
  exact hK ω4 w4 ((sp2.trans (s3.non _)).trans (dt_one (by omega) k4)) (upd_AS (a := (m, st, en)) (sl := r) h3 hp hM.up k4 m4 rr3) (hM.ins (a := (m, st, en)) hr hc)
theorem put_S3 {v g : Nat} {s : Sl} {m : List Lb} {st en : Int} (top : Top w0 ωb wb) (htab : UTab w0) (ht0 : DT t 0 = false) (sp : Stp (DT t) ωb ω wb w) (hfr : ∀ i, i < wb.heap.size → ωb i ≠ v) (hvt : t + 2 < v) (h : ASa ω w t gs gm rs ms pl) (hp : (pl.map (·.1)).Perm M) (hM : WFm M) (hms : ms ≤ 500)
    (hb : BT ω w v g 34 [s.v, .int .i64 st, .int .i64 en]) (hs : RT ωb wb u s 2 (labs m)) (hu : DT t u = false) (hr : (rt m).1 = 0) {K : Int → World → Prop}
    (hK : ∀ ω' w', Stp (DT t) ωb ω' wb w' → AS ω' w' t gs rs ms (putF ms now m st en M).2 → WFm (putF ms now m st en M).2 → K (putF ms now m st en M).1 w') : C.alerts_Set_Put.S3 K (some ⟨gs, 0, none⟩) now (some ⟨g, 0, none⟩) w := by
  unfold C.alerts_Set_Put.S3
  unfold putF at hK
  refine ptr_at <| cI_at (n := en) (by rw [addr_add, hb.cell]; rfl) <| ptr_at <| cI_at (n := st) (by rw [addr_add, hb.cell]; rfl) <| cond_d (fun hlt => ?_) (fun hlt => ?_)
  · rw [if_pos hlt] at hK
    exact hK ω w sp ⟨gm, pl, h, hp⟩ hM
  rw [if_neg hlt] at hK
  refine ptr_at <| cSl_at (s := s) (by rw [hb.cell]; rfl) <| akey_ok (htab.keep (top.stp sp ht0).k) (hs.stp sp hu).rd hr fun w1 k1 => ?_
  have s1 := k1.stp0 ω
  have h1 := h.stp s1 (off_non t)
  have b1 := hb.stp s1
  have sp1 := sp.trans (s1.non _)
  refine ptr_at ⟨some gm, by rw [addr_add, h1.hd.cell]; rfl, ?_⟩
  refine look_ok h1.mp hp hM.up (fun h0 => ?_) (fun p hpm hg => ?_)
  · rw [h0] at hK
    dsimp only at hK
    refine loc_ok fun g2 w2 k2 hg2 _ => ?_
    have s2 := (k2.1.stp0 ω).trans (drew_stp ω w2)
    have h2 := h1.stp s2 (off_non t)
    have b2 := b1.stp s2
    have sp2 := sp1.trans (s2.non _)
    refine cond_t rfl <| ptr_at ⟨some gm, by rw [addr_add, h2.hd.cell]; rfl, ptr_at <| cI_at (n := ms) (by rw [addr_add, h2.hd.cell]; rfl) <| lenV h2.mp (by kernel_rfl) ⟨h2.hd.sameA (Stp.refl Non ω _), ?_⟩⟩
    have hlen : ((pl.map encP).length : Int) = (M.length : Int) := by have := hp.length_eq; rw [List.length_map] at this; rw [List.length_map, this]
    rw [hlen]
    refine cond_d (fun hge => ?_) (fun hge => ?_)
    · rw [if_pos hge] at hK
      exact hK ω _ sp2 ⟨gm, pl, h2, hp⟩ hM
    · rw [if_neg hge] at hK
      exact cond_f rfl (put_S2 sp2 hfr hvt h2 hp hM b2 hs hu hr (.inr (by omega)) hK)
  · rw [hg] at hK
    dsimp only at hK
    refine loc_ok fun g2 w2 k2 hg2 c2 => ?_
    have s2 := (k2.1.stp0 ω).trans (drew_stp ω w2)
    have h2 := h1.stp s2 (off_non t)
    have b2 := b1.stp s2
    have sp2 := sp1.trans (s2.non _)
    have c2' : Blk w2.drew g2 34 [p.2.v, .int .i64 p.1.2.1, .int .i64 p.1.2.2] := c2.drew
    refine cond_f rfl <| cond_t rfl <| cI_at (n := p.1.2.2) (by rw [addr_add, c2'.cell]; rfl) <| cond_d (fun hgt => ?_) (fun hgt => ?_)
    · rw [if_pos (by omega)] at hK
      refine ptr_at <| cI_at (n := st) (by rw [addr_add, b2.cell]; rfl) <| cI_at (n := p.1.2.1) (by rw [addr_add, c2'.cell]; rfl) <| ptr_at <| st_TA b2 (by simp) fun ω3 w3 k3 b3 => ?_
      exact put_S2 (Stp.fresh sp2 k3 hfr) hfr hvt (h2.stp k3 (off_one (.inr hvt))) hp hM b3 hs hu hr (.inl ⟨_, hg⟩) hK
    · rw [if_neg (by omega)] at hK
      exact put_S2 sp2 hfr hvt h2 hp hM b2 hs hu hr (.inl ⟨_, hg⟩) hK
theorem put_ok (top : Top w0 ω w) (htab : UTab w0) (ht0 : DT t 0 = false) (h : AS ω w t gs rs ms M) (hM : WFm M) (hms : ms ≤ 500) (hrs : 1 ≤ rs ∧ rs ≤ 1099511627776) {s : Sl} {a : Av} (hs : RT ω w u s 2 (labs a.1)) (hu : DT t u = false) {K : Int → World → Prop}
    (hK : ∀ ω' w', Stp (DT t) ω ω' w w' → AS ω' w' t gs rs ms (putM rs ms now a M).2 → WFm (putM rs ms now a M).2 → K (putM rs ms now a M).1 w') : C.alerts_Set_Put (some ⟨gs, 0, none⟩) now s a.2.1 a.2.2 w K := by
  obtain ⟨gm, pl, h, hp⟩ := h
  obtain ⟨m, st, en⟩ := a
  dsimp only at hs ⊢
  obtain ⟨v, hvt, hfr⟩ := fresh ω w.heap.size (t + 2)
  unfold C.alerts_Set_Put
  refine new_T (ω := ω) v fun g ω1 w1 k1 b1 => cond_f rfl ?_
  unfold putM at hK
  have out : ∀ (e : Int) ω' w', badA now (m, st, en) = e → e ≠ 0 → Stp Non ω ω' w w' → K e w' := fun e ω' w' he h0 k => by
    rw [he, if_pos h0] at hK
    exact hK ω' w' (k.non _) ⟨gm, pl, h.stp k (off_non t), hp⟩ hM
  unfold badA at out
  dsimp only at out
  unfold C.alerts_time
  have no1 : (now < 0 ∨ 1125899906842624 < now) → K 1 w1 := fun hh => out 1 ω1 w1 (by rw [if_pos hh]) (by decide) k1
  refine cond_d (fun h1 => ?_) (fun h1 => cond_t rfl (no1 (.inl (by omega))))
  refine cond_not (fun h2 => no1 (.inr (by have := of_decide_eq_false h2; omega))) (fun h2 => ?_)
  have h2 := of_decide_eq_true h2
  rw [if_neg (by omega)] at out
  have hs1 := hs.stp k1
  refine cSl_at (s := s) (by rw [b1.cell]; rfl) <| right_ok (htab.keep (top.stp k1).k) hs1.rd fun w2 k2 => ?_
  have s2 := k1.trans (k2.stp0 ω1)
  have b2 := b1.stp (k2.stp0 ω1)
  refine cond_ne (fun hr => out 41 ω1 w2 (by rw [if_pos (.inl hr)]) (by decide) s2) (fun hr => ?_)
  have hn := rdL_n hs.rd
  refine cSl_at (s := s) (by rw [b2.cell]; rfl) <| cond_eq (fun h0 => out 41 ω1 w2 (by rw [if_pos (.inr (List.eq_nil_of_length_eq_zero (by omega)))]) (by decide) s2) (fun h0 => ?_)
  have hm0 : m ≠ [] := by rintro rfl; simp at hn; omega
  rw [if_neg (by simp [hr, hm0])] at out
  have cst : w2.cell? (Addr.add ⟨g, 0, none⟩ 1) = some (.int .i64 st) := by rw [addr_add, b2.cell]; rfl
  have cen : w2.cell? (Addr.add ⟨g, 0, none⟩ 2) = some (.int .i64 en) := by rw [addr_add, b2.cell]; rfl
  have no3 : (st < 0 ∨ 1126999418470400 < st ∨ en < 0 ∨ 1126999418470400 < en ∨ (en ≠ 0 ∧ en < st)) → K 1 w2 := fun hh => out 1 ω1 w2 (by rw [if_pos hh]) (by decide) s2
  refine cI_at cst <| cond_d (fun h3 => no3 (.inl h3)) fun h3 => ?_
  refine cI_at cst <| cond_d (fun h4 => no3 (.inr (.inl h4))) fun h4 => ?_
  refine cI_at cen <| cond_d (fun h5 => no3 (.inr (.inr (.inl h5)))) fun h5 => ?_
  refine cI_at cen <| cond_d (fun h6 => no3 (.inr (.inr (.inr (.inl h6))))) fun h6 => ?_
  have sp := s2.non (DT t)
  have hh := h.stp s2 (off_non t)
  have go : ¬ (en ≠ 0 ∧ en < st) → C.alerts_Set_Put.S5 K (some ⟨gs, 0, none⟩) now (some ⟨g, 0, none⟩) w2 := by
    intro h7
    have eb : badA now (m, st, en) = 0 := by
      unfold badA
      dsimp only
      rw [if_neg (by omega), if_neg (by simp [hr, hm0]), if_neg (by omega)]
    rw [eb, if_neg (by decide)] at hK
    have fin : ∀ (e2 : Int) {ω3 w3}, Stp (DT t) ω ω3 w w3 → ASa ω3 w3 t gs gm rs ms pl → BT ω3 w3 v g 34 [s.v, .int .i64 st, .int .i64 e2] → e2 = putE rs now (m, st, en) → C.alerts_Set_Put.S4 K (some ⟨gs, 0, none⟩) now (some ⟨g, 0, none⟩) w3 := by
      intro e2 ω3 w3 sp3 h3 b3 ee
      unfold C.alerts_Set_Put.S4
      refine ptr_at <| cI_at (n := st) (by rw [addr_add, b3.cell]; rfl) <| cond_eq (fun hz => ?_) (fun hz => ?_)
      · refine ptr_at <| st_TA b3 (by simp) fun ω4 w4 k4 b4 => ?_
        have es : now = putS now (m, st, en) := by unfold putS; rw [if_pos hz]
        refine put_S3 (now := now) (st := now) (en := e2) top htab ht0 (Stp.fresh sp3 k4 hfr) hfr hvt (h3.stp k4 (off_one (.inr hvt))) hp hM hms b4 hs hu hr ?_
        rw [← es, ← ee] at hK; exact hK
      · have es : st = putS now (m, st, en) := by unfold putS; rw [if_neg hz]
        refine put_S3 (now := now) (st := st) (en := e2) top htab ht0 sp3 hfr hvt h3 hp hM hms b3 hs hu hr ?_
        rw [← es, ← ee] at hK; exact hK
    unfold C.alerts_Set_Put.S5
    refine ptr_at <| cI_at cen <| cond_eq (fun hz => ?_) (fun hz => ?_)
    · refine ptr_at <| cI_at (n := rs) (by rw [hh.hd.cell]; rfl) <| ptr_at <| st_TA b2 (by simp) fun ω4 w4 k4 b4 => ?_
      rw [wI64 (by omega) (by omega)] at b4
      exact fin (now + rs) (Stp.fresh sp k4 hfr) (hh.stp k4 (off_one (.inr hvt))) b4 (by unfold putE; rw [if_pos hz])
    · exact fin en sp hh b2 (by unfold putE; rw [if_neg hz])
  refine cI_at cen <| cond_ne (fun h7 => ?_) (fun h7 => go (by omega))
  exact cI_at cen <| cI_at cst <| cond_d (fun h8 => no3 (.inr (.inr (.inr (.inr ⟨h7, h8⟩))))) fun h8 => go (by omega)
end Go.Proofs.YtfkpehcbijgmnaaGreatDoor.Al
