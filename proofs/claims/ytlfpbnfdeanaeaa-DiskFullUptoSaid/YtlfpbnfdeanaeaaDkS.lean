/- Layer 3: the document's disk: Append, Sync, Cut, Rename, Remove, Read, Size. Own work. -/
import Derived.Test.YtlfpbnfdeanaeaaDkR
namespace Go.Proofs.Ytlfpbnfdeanaeaa.Dk
open Go Vm Go.RowKit Num Mem
variable {ω ω' : Tg} {w w' w0 : World} {t gr : Nat} {T : Nat → Bool} {M : List Fl} {pl : PL} {sl : Sl}

theorem set_idx {f : Fl} : ∀ {M : List Fl} {k : Nat}, (M.map (·.name)).Nodup → idx f.name M = some k → setM f M = M.set k f
  | [], k, _, h => by cases h
  | x :: r, k, hn, h => by
    have hn' := List.nodup_cons.1 hn
    unfold idx at h
    split at h
    · rename_i e
      injection h with h; subst h
      unfold setM
      rw [List.map_cons, if_pos e, List.set_cons_zero]
      congr 1
      conv => rhs; rw [← List.map_id r]
      refine List.map_congr_left fun y hy => ?_
      rw [if_neg]; rfl
      intro e2
      exact hn'.1 (by show x.name ∈ _; rw [e, ← e2]; exact List.mem_map_of_mem (f := fun x : Fl => x.name) hy)
    · rename_i e
      obtain ⟨j, hj, rfl⟩ := Option.map_eq_some_iff.1 h
      have ih := set_idx hn'.2 hj
      unfold setM at ih ⊢
      rw [List.map_cons, if_neg e, ih, List.set_cons_succ]
theorem del_idx {s : ByteArray} : ∀ {M : List Fl} {k : Nat}, (M.map (·.name)).Nodup → idx s M = some k → delM s M = M.take k ++ M.drop (k + 1)
  | [], k, _, h => by cases h
  | x :: r, k, hn, h => by
    have hn' := List.nodup_cons.1 hn
    unfold idx at h
    split at h
    · rename_i e
      injection h with h; subst h
      unfold delM
      rw [List.filter_cons, if_neg (by simp [e]), List.filter_eq_self.2]
      · simp
      · intro y hy
        have : y.name ≠ s := fun e2 => hn'.1 (by show x.name ∈ _; rw [e, ← e2]; exact List.mem_map_of_mem (f := fun x : Fl => x.name) hy)
        simp [this]
    · rename_i e
      obtain ⟨j, hj, rfl⟩ := Option.map_eq_some_iff.1 h
      have ih := del_idx hn'.2 hj
      unfold delM at ih ⊢
      rw [List.filter_cons, if_pos (by simp [e]), ih]
      simp
theorem putM_some {f x : Fl} (h : findM f.name M = some x) : putM f M = setM f M := by unfold putM; rw [if_neg (by rw [h]; simp)]
/-- A cell of a file of the row is written. -/
theorem set_ok (h : RDa ω w t gr sl pl) {k j : Nat} {q y : Fl × Sl} (hj : j < 3) {v : Value} (hx : pl[k]? = some q) (e : fC y = (fC q).set j v) (hy : RT ω w (t + 2) y.2 1 (vBs y.1.bytes)) {i : Int} (ei : i = (k : Int)) {K : World → Prop}
    (hK : ∀ ω' w', Stp (Mem.One (t + 1)) ω ω' w w' → RDa ω' w' t gr sl (pl.set k y) → K w') : G.ix sl.a sl.n i 3 fun p => G.st (p.add j) v w K := by
  have hk : k < pl.length := (List.getElem?_eq_some_iff.1 hx).1
  have hn := rdF_len h.row.rd
  refine h.row.at_ ei (by omega) fun a ha _ _ _ => ?_
  refine h.row.st (i := k) (by omega) hj v ha fun ω' w' s o => hK ω' w' s ⟨h.hd.stp s (beq_no (by omega)), ?_, fun p hp => ?_⟩
  · rw [fcs, flat_set fC_len v j hj pl k q y hx e] at o
    exact o
  · rcases List.mem_or_eq_of_mem_set hp with hp | rfl
    · exact (h.rt p hp).stp s (beq_no (by omega))
    · exact hy.stp s (beq_no (by omega))
theorem idxq (hM : pl.map (·.1) = M) {s : ByteArray} {k : Nat} (h : idx s M = some k) : ∃ q, pl[k]? = some q ∧ q ∈ pl ∧ q.1.name = s ∧ findM s M = some q.1 ∧ M[k]? = some q.1 ∧ k < M.length := by
  obtain ⟨f, h1, h2, h3⟩ := idx_some h
  rw [← hM, List.getElem?_map] at h1
  cases hq : pl[k]? with
  | none => rw [hq] at h1; cases h1
  | some q =>
    rw [hq] at h1
    simp only [Option.map_some, Option.some.injEq] at h1
    subst h1
    have hm : M[k]? = some q.1 := by rw [← hM, List.getElem?_map, hq]; rfl
    exact ⟨q, rfl, List.mem_of_getElem? hq, h2, h3, hm, (List.getElem?_eq_some_iff.1 hm).1⟩
theorem rfind_ok (h : RDa ω w t gr sl pl) (hM : pl.map (·.1) = M) (hl : M.length ≤ 1000) {s : ByteArray} (hs : s.size ≤ 9223372036854775807) {K : Int → Int → World → Prop}
    (h40 : namF s = false → K 0 40 w) (h5 : namF s = true → findM s M = none → K 0 5 w) (h0 : ∀ k, namF s = true → idx s M = some k → K (k : Int) 0 w) : C.tocsinref03_Disk_find (some ⟨gr, 0, none⟩) s w K := by
  unfold C.tocsinref03_Disk_find
  refine rname_ok hs <| cond_not (fun hn => h40 hn) (fun hn => at_ok h hM hl ?_)
  unfold idxI
  cases hi : idx s M with
  | none => exact cond_d (fun _ => h5 hn (idx_none hi)) (fun hh => by simp at hh)
  | some k => exact cond_d (fun hh => by simp only at hh; omega) (fun _ => h0 k hn hi)

theorem rappend_S2 (h : RDa ω w t gr sl pl) (hM : pl.map (·.1) = M) (hl : M.length ≤ 1000) (hnd : (M.map (·.name)).Nodup) {s : ByteArray} {b : Sl} {l : List UInt8} (hb : RdB w b l) {k : Nat} {f : Fl} (hi : idx s M = some k) (hf : findM s M = some f) (hle : f.bytes.length + l.length ≤ 20000000)
    {K : Int → World → Prop} (hK : ∀ ω' w', Stp (DT t) ω ω' w w' → RD ω' w' t gr (setM ⟨s, f.bytes ++ l, f.synced⟩ M) → K 0 w') : C.tocsinref03_Disk_Append.S2 K (some ⟨gr, 0, none⟩) b (k : Int) w := by
  obtain ⟨q, hx, hqm, hqn, hqf, hqk, hkl⟩ := idxq hM hi
  rw [hf] at hqf
  obtain rfl := (Option.some.inj hqf).symm
  have hbn := hb.len
  have hqb := (h.rt q hqm).rd
  have hqbn := RdB.len hqb
  have c0 : ∀ {w'}, Keep w w' → w'.cell? ⟨gr, 0, none⟩ = some sl.v := fun k => k.cell (by rw [h.hd.cell]; rfl)
  unfold C.tocsinref03_Disk_Append.S2
  refine ptr_at <| cSl_at (s := sl) (c0 (Keep.refl w)) <| rdF_at h.row.rd (k := k) rfl hx fun a _ a1 _ => cSl_at (s := q.2) a1 ?_
  refine app_T tiB (OT.nil (fun _ => 0) w 9 _ 1) hqb vBs_one (by show nilS.n + _ ≤ _; simp only [nilS, maxLen]; omega) (by show (nilS.n + _) * 1 ≤ _; simp only [nilS]; omega) fun r1 ω1 w1 k1 o1 hr1 => ?_
  have t1 := (Top.init w).stp k1
  have hr1' : r1.n = q.1.bytes.length := by rw [hr1]; simp [nilS, hqbn]
  refine app_T tiB o1 (Rd.keep hb t1.k) vBs_one (by simp only [maxLen]; omega) (by omega) fun r2 ω2 w2 k2 o2 hr2 => ?_
  have t2 := t1.stp k2
  have st := rtg_stp t2.k ω ω2 (fun _ => t + 2)
  have oo := OT.rtg (ω := ω) o2 t2 (fun _ => t + 2)
  have e : vBs (q.1.bytes ++ l) = [] ++ vBs q.1.bytes ++ vBs l := by rw [vBs_append]; rfl
  rw [← e] at oo
  generalize rtg ω ω2 w.heap.size (fun _ => t + 2) = ωg at *
  refine ptr_at <| cSl_at (s := sl) (c0 t2.k) ?_
  refine set_ok (h.stp st (off_non t)) (j := 1) (by decide) hx (y := (⟨s, q.1.bytes ++ l, q.1.synced⟩, r2)) (by rw [← hqn]; rfl) oo.rt rfl fun ω3 w3 k3 h3 => ?_
  refine hK ω3 w3 ((st.non _).trans (dt_one (by omega) (by omega) k3)) ⟨sl, _, h3, ?_⟩
  rw [List.map_set, hM, set_idx hnd hi]
theorem rappend_ok (h : RD ω w t gr M) (hM : WF M) {s : ByteArray} (hs : s.size ≤ 9223372036854775807) {b : Sl} {l : List UInt8} {u : Nat} (hbt : RT ω w u b 1 (vBs l)) (hu : DT t u = false) (hl : l.length ≤ 10000000) {K : Int → World → Prop}
    (hK : ∀ ω' w', Stp (DT t) ω ω' w w' → RD ω' w' t gr (apM s l M).2 → K (apM s l M).1 w') : C.tocsinref03_Disk_Append (some ⟨gr, 0, none⟩) s b w K := by
  obtain ⟨sl, pl, h, hpl⟩ := h
  have hb : RdB w b l := hbt.rd
  have hbn := hb.len
  have hcnt := hM.cnt
  have hn := rdF_len h.row.rd
  have hpn : pl.length = M.length := by rw [← hpl, List.length_map]
  have bad : ∀ (e : Int), apM s l M = (e, M) → K e w := fun e he => by
    have := hK ω w (Stp.refl _ _ _) (by rw [he]; exact ⟨sl, pl, h, hpl⟩)
    rwa [he] at this
  unfold C.tocsinref03_Disk_Append
  refine rname_ok hs <| cond_not (fun h1 => bad 40 (by unfold apM; rw [if_pos h1])) (fun h1 => at_ok h hpl (by omega) ?_)
  unfold idxI C.tocsinref03_Disk_Append.S4 C.tocsinref03_Disk_Append.S3
  have c0 : w.cell? ⟨gr, 0, none⟩ = some sl.v := by rw [h.hd.cell]; rfl
  cases hi : idx s M with
  | none =>
    have hf := idx_none hi
    have e0 : apM s l M = if 256 ≤ M.length then (8, M) else if 1048576 < l.length then (4, M) else (0, putM ⟨s, l, 0⟩ M) := by unfold apM; rw [if_neg (by simp [h1]), hf]
    refine cond_t rfl <| ptr_at <| cSl_at (s := sl) c0 <| cond_d (fun hge => bad 8 (by rw [e0, if_pos (by omega)])) (fun hge => ?_)
    rw [if_neg (by omega)] at e0
    refine cond_f rfl ?_
    rw [show IntKind.i64.wrap ((1048576 : Int) - 0) = 1048576 by rw [wI64 (by omega) (by omega)]; rfl]
    refine cond_d (fun hgt => bad 4 (by rw [e0, if_pos (by omega)])) (fun hgt => ?_)
    rw [if_neg (by omega)] at e0
    rw [e0] at hK
    refine cond_t rfl ?_
    refine put_ok (f := ⟨s, [], 0⟩) (b := nilS) h hpl hM.up (by omega) (RT.nil ..) hf fun ω1 w1 k1' d1 => ?_
    have k1 := dt_one (t := t) (by omega) (by omega) k1'
    have hw : WF (insM ⟨s, [], 0⟩ M) := hM.ins hf h1 (Nat.zero_le _) (Nat.zero_le _) (by omega)
    obtain ⟨sl1, pl1, d1, e1⟩ := d1
    refine at_ok d1 e1 (by rw [len_insM]; omega) ?_
    have hf1 : findM s (insM ⟨s, [], 0⟩ M) = some ⟨s, [], 0⟩ := (findM_some hw.nodup).2 ⟨mem_insM.2 (.inl rfl), rfl⟩
    cases hi1 : idx s (insM ⟨s, [], 0⟩ M) with
    | none => rw [idx_none hi1] at hf1; cases hf1
    | some k1' =>
      unfold idxI
      rw [hi1]
      have hb1 : RdB w1 b l := (hbt.stp k1 hu).rd
      refine rappend_S2 d1 e1 (by rw [len_insM]; omega) hw.nodup hb1 hi1 hf1 (by simp; omega) fun ω2 w2 k2 d2 => hK ω2 w2 (k1.trans k2) ?_
      have em : setM ⟨s, [] ++ l, 0⟩ (insM ⟨s, [], 0⟩ M) = putM ⟨s, l, 0⟩ M := by
        rw [← putM_some (f := ⟨s, [] ++ l, 0⟩) hf1]
        have hw2 : WF (putM ⟨s, l, 0⟩ M) := hM.put h1 (Nat.zero_le _) (show l.length ≤ 1048576 by omega) (fun _ => by omega)
        have hw3 : WF (putM ⟨s, [] ++ l, 0⟩ (insM ⟨s, [], 0⟩ M)) := hw.put h1 (Nat.zero_le _) (show ([] ++ l).length ≤ 1048576 by simp; omega) (fun e => by rw [show (Fl.name ⟨s, [] ++ l, 0⟩) = s from rfl, hf1] at e; cases e)
        refine up_ext hw3.up hw2.up fun x => ?_
        rw [mem_putM, mem_putM, mem_insM]
        simp only [List.nil_append]
        constructor
        · rintro (h | ⟨h | h, hne⟩)
          · exact .inl h
          · subst h; exact absurd rfl hne
          · exact .inr ⟨h, hne⟩
        · rintro (h | ⟨h, hne⟩)
          · exact .inl h
          · exact .inr ⟨.inr h, hne⟩
      rw [em] at d2; exact d2
  | some k =>
    obtain ⟨q, hx, hqm, hqn, hqf, hqk, hkl⟩ := idxq hpl hi
    have e0 : apM s l M = if 1048576 < q.1.bytes.length + l.length then (4, M) else (0, putM ⟨s, q.1.bytes ++ l, q.1.synced⟩ M) := by unfold apM; rw [if_neg (by simp [h1]), hqf]
    have hle := hM.len _ (List.mem_of_getElem? hqk)
    have hqbn := RdB.len (h.rt q hqm).rd
    refine cond_d (fun hh => by simp only at hh; omega) (fun _ => ?_)
    refine cond_d (fun _ => ?_) (fun hh => by simp only at hh; omega)
    refine ptr_at <| cSl_at (s := sl) c0 <| rdF_at h.row.rd (k := k) rfl hx fun a _ a1 _ => cSl_at (s := q.2) a1 ?_
    rw [wI64 (by omega) (by omega)]
    refine cond_d (fun hgt => bad 4 (by rw [e0, if_pos (by omega)])) (fun hgt => ?_)
    rw [if_neg (by omega)] at e0
    rw [e0] at hK
    refine cond_d (fun hh => by simp only at hh; omega) (fun _ => ?_)
    refine rappend_S2 h hpl (by omega) hM.nodup hb hi hqf (by omega) fun ω2 w2 k2 d2 => hK ω2 w2 k2 ?_
    rw [putM_some (f := ⟨s, q.1.bytes ++ l, q.1.synced⟩) hqf]; exact d2

theorem rsync_ok (h : RD ω w t gr M) (hM : WF M) {s : ByteArray} (hs : s.size ≤ 9223372036854775807) {K : Int → World → Prop}
    (hK : ∀ ω' w', Stp (DT t) ω ω' w w' → RD ω' w' t gr (syM s M).2 → K (syM s M).1 w') : C.tocsinref03_Disk_Sync (some ⟨gr, 0, none⟩) s w K := by
  obtain ⟨sl, pl, h, hpl⟩ := h
  have hcnt := hM.cnt
  have bad : ∀ (e : Int), syM s M = (e, M) → K e w := fun e he => by
    have := hK ω w (Stp.refl _ _ _) (by rw [he]; exact ⟨sl, pl, h, hpl⟩)
    rwa [he] at this
  unfold C.tocsinref03_Disk_Sync
  refine rfind_ok h hpl (by omega) hs (fun h1 => cond_f rfl (bad 40 (onF_40 h1))) (fun h1 h2 => cond_f rfl (bad 5 (onF_5 h1 h2))) (fun k h1 hi => cond_t rfl ?_)
  obtain ⟨q, hx, hqm, hqn, hqf, hqk, hkl⟩ := idxq hpl hi
  have e : syM s M = (0, putM ⟨s, q.1.bytes, q.1.bytes.length⟩ M) := onF_0 h1 hqf
  rw [e] at hK
  have hd := h.stp (drew_stp ω w) (off_non t)
  have c0 : w.drew.cell? ⟨gr, 0, none⟩ = some sl.v := by rw [hd.hd.cell]; rfl
  have hqb := RdB.len (h.rt q hqm).rd
  refine ptr_at <| cSl_at (s := sl) c0 <| ptr_at <| cSl_at (s := sl) c0 <| rdF_at hd.row.rd (k := k) rfl hx fun a _ a1 _ => cSl_at (s := q.2) a1 ?_
  refine set_ok hd (j := 2) (by decide) hx (y := (⟨s, q.1.bytes, q.1.bytes.length⟩, q.2)) (by rw [← hqn, hqb]; rfl) (hd.rt q hqm) rfl fun ω3 w3 k3 h3 => hK ω3 w3 ((((drew_stp ω w).non _).trans (dt_one (by omega) (by omega) k3))) ⟨sl, _, h3, ?_⟩
  rw [List.map_set, hpl, putM_some (f := ⟨s, q.1.bytes, q.1.bytes.length⟩) hqf, set_idx hM.nodup hi]
theorem rcut_ok (h : RD ω w t gr M) (hM : WF M) {s : ByteArray} (hs : s.size ≤ 9223372036854775807) {n : Int} {K : Int → World → Prop}
    (hK : ∀ ω' w', Stp (DT t) ω ω' w w' → RD ω' w' t gr (cutM s n M).2 → K (cutM s n M).1 w') : C.tocsinref03_Disk_Cut (some ⟨gr, 0, none⟩) s n w K := by
  obtain ⟨sl, pl, h, hpl⟩ := h
  have hcnt := hM.cnt
  have bad : ∀ (e : Int), cutM s n M = (e, M) → K e w := fun e he => by
    have := hK ω w (Stp.refl _ _ _) (by rw [he]; exact ⟨sl, pl, h, hpl⟩)
    rwa [he] at this
  unfold C.tocsinref03_Disk_Cut
  refine rfind_ok h hpl (by omega) hs (fun h1 => cond_t rfl (bad 40 (onF_40 h1))) (fun h1 h2 => cond_t rfl (bad 5 (onF_5 h1 h2))) (fun k h1 hi => cond_f rfl ?_)
  obtain ⟨q, hx, hqm, hqn, hqf, hqk, hkl⟩ := idxq hpl hi
  have e : cutM s n M = if n < 0 ∨ (q.1.bytes.length : Int) < n then (1, M) else (0, putM ⟨s, q.1.bytes.take n.toNat, min q.1.synced n.toNat⟩ M) := onF_0 h1 hqf
  have hqb := RdB.len (h.rt q hqm).rd
  have hsy := hM.syn _ (List.mem_of_getElem? hqk)
  refine cond_d (fun hlt => bad 1 (by rw [e, if_pos (.inl hlt)])) (fun hlt => ?_)
  have c0 : w.cell? ⟨gr, 0, none⟩ = some sl.v := by rw [h.hd.cell]; rfl
  refine ptr_at <| cSl_at (s := sl) c0 <| rdF_at h.row.rd (k := k) rfl hx fun a _ a1 _ => cSl_at (s := q.2) a1 ?_
  refine cond_d (fun hgt => bad 1 (by rw [e, if_pos (.inr (by omega))])) (fun hgt => ?_)
  rw [if_neg (by omega)] at e
  rw [e] at hK
  have hd := h.stp (drew_stp ω w) (off_non t)
  have c1 : w.drew.cell? ⟨gr, 0, none⟩ = some sl.v := by rw [hd.hd.cell]; rfl
  refine ptr_at <| cSl_at (s := sl) c1 <| ptr_at <| cSl_at (s := sl) c1 <| rdF_at hd.row.rd (k := k) rfl hx fun a _ a1 _ => cSl_at (s := q.2) a1 ?_
  refine RT.pre (hd.rt q hqm) (n := n.toNat) (by omega) (by omega) fun r hr hrn => ?_
  have er : (vBs q.1.bytes).take (n.toNat * 1) = vBs (q.1.bytes.take n.toNat) := by rw [Nat.mul_one, vBs, vBs, List.map_take]
  rw [er] at hr
  refine set_ok hd (j := 1) (by decide) hx (y := (⟨s, q.1.bytes.take n.toNat, q.1.synced⟩, r)) (by rw [← hqn]; rfl) hr rfl fun ω3 w3 k3 h3 => ?_
  have hx3 : (pl.set k (⟨s, q.1.bytes.take n.toNat, q.1.synced⟩, r))[k]? = some (⟨s, q.1.bytes.take n.toNat, q.1.synced⟩, r) := List.getElem?_set_self (List.getElem?_eq_some_iff.1 hx).1
  have s3 := (((drew_stp ω w).non (DT t)).trans (dt_one (t := t) (by omega) (by omega) k3))
  have c3 : w3.cell? ⟨gr, 0, none⟩ = some sl.v := by rw [h3.hd.cell]; rfl
  refine ptr_at <| cSl_at (s := sl) c3 <| rdF_at h3.row.rd (k := k) rfl hx3 fun a _ _ a2 => cI_at a2 ?_
  have fin : ∀ (sy : Nat) (w' : World) (ω' : Tg), sy = min q.1.synced n.toNat → Stp (DT t) ω ω' w w' → RDa ω' w' t gr sl (pl.set k (⟨s, q.1.bytes.take n.toNat, sy⟩, r)) → K 0 w' := fun sy w' ω' es sp d => by
    refine hK ω' w' sp ⟨sl, _, d, ?_⟩
    rw [List.map_set, hpl, putM_some (f := ⟨s, q.1.bytes.take n.toNat, min q.1.synced n.toNat⟩) hqf, set_idx hM.nodup hi, es]
  have hr3 := h3.rt _ (List.mem_of_getElem? hx3)
  refine cond_d (fun hgt2 => ?_) (fun hgt2 => ?_) <;> simp only at hgt2
  · refine ptr_at <| cSl_at (s := sl) c3 ?_
    refine set_ok h3 (j := 2) (by decide) hx3 (y := (⟨s, q.1.bytes.take n.toNat, n.toNat⟩, r)) (by rw [show n = ((n.toNat : Nat) : Int) by omega]; rfl) hr3 rfl fun ω4 w4 k4 h4 => ?_
    rw [List.set_set] at h4
    exact fin n.toNat w4 ω4 (by omega) (s3.trans (dt_one (by omega) (by omega) k4)) h4
  · exact fin q.1.synced w3 ω3 (by omega) s3 h3
theorem rremove_ok (h : RD ω w t gr M) (hM : WF M) {s : ByteArray} (hs : s.size ≤ 9223372036854775807) {K : Int → World → Prop}
    (hK : ∀ ω' w', Stp (DT t) ω ω' w w' → RD ω' w' t gr (remM s M).2 → K (remM s M).1 w') : C.tocsinref03_Disk_Remove (some ⟨gr, 0, none⟩) s w K := by
  obtain ⟨sl, pl, h, hpl⟩ := h
  have hcnt := hM.cnt
  have bad : ∀ (e : Int), remM s M = (e, M) → K e w := fun e he => by
    have := hK ω w (Stp.refl _ _ _) (by rw [he]; exact ⟨sl, pl, h, hpl⟩)
    rwa [he] at this
  unfold C.tocsinref03_Disk_Remove
  refine rfind_ok h hpl (by omega) hs (fun h1 => cond_f rfl (bad 40 (onF_40 h1))) (fun h1 h2 => cond_f rfl (bad 5 (onF_5 h1 h2))) (fun k h1 hi => cond_t rfl ?_)
  obtain ⟨q, hx, hqm, hqn, hqf, hqk, hkl⟩ := idxq hpl hi
  have e : remM s M = (0, delM s M) := onF_0 h1 hqf
  rw [e] at hK
  refine out_ok h hpl (by omega) hqk fun b ω' w' s' d _ => hK ω' w' (dt_one (by omega) (by omega) s') ?_
  rw [del_idx hM.nodup hi]; exact d
theorem rrename_ok (h : RD ω w t gr M) (hM : WF M) {a b : ByteArray} (ha : a.size ≤ 9223372036854775807) (hb : b.size ≤ 9223372036854775807) {K : Int → World → Prop}
    (hK : ∀ ω' w', Stp (DT t) ω ω' w w' → RD ω' w' t gr (renM a b M).2 → K (renM a b M).1 w') : C.tocsinref03_Disk_Rename (some ⟨gr, 0, none⟩) a b w K := by
  obtain ⟨sl, pl, h, hpl⟩ := h
  have hcnt := hM.cnt
  have bad : ∀ (e : Int), renM a b M = (e, M) → K e w := fun e he => by
    have := hK ω w (Stp.refl _ _ _) (by rw [he]; exact ⟨sl, pl, h, hpl⟩)
    rwa [he] at this
  unfold C.tocsinref03_Disk_Rename
  refine rname_ok ha <| cond_not (fun h1 => bad 40 (by unfold renM; rw [if_pos (.inl h1)])) (fun h1 => ?_)
  refine rname_ok hb <| cond_not (fun h2 => bad 40 (by unfold renM; rw [if_pos (.inr h2)])) (fun h2 => ?_)
  unfold renM at bad hK
  rw [if_neg (by simp [h1, h2])] at bad hK
  refine rfind_ok h hpl (by omega) ha (fun h3 => by rw [h1] at h3; cases h3) (fun _ h4 => cond_t rfl (bad 5 (by rw [h4]))) (fun k _ hi => cond_f rfl ?_)
  obtain ⟨q, hx, hqm, hqn, hqf, hqk, hkl⟩ := idxq hpl hi
  rw [hqf] at bad hK
  simp only at bad hK
  rw [ba_beq]
  refine cond_d (fun hab => bad 0 (by rw [if_pos hab])) (fun hab => ?_)
  rw [if_neg hab] at hK
  refine out_ok h hpl (by omega) hqk fun bs ω1 w1 s1' d1 r1 => ?_
  have s1 := dt_one (t := t) (by omega) (by omega) s1'
  rw [← del_idx hM.nodup hi] at d1
  have hwd := hM.del a
  have hdl : (delM a M).length < M.length := by
    unfold delM
    exact List.length_filter_lt_length_iff_exists.2 ⟨q.1, List.mem_of_getElem? hqk, by simp [hqn]⟩
  obtain ⟨v, hv, hvf⟩ := fresh ω1 w1.heap.size (t + 2)
  have hv1 : Mem.One v t = false := beq_no (by omega)
  have hv2 : Mem.One v (t + 1) = false := beq_no (by omega)
  have hv3 : Mem.One v (t + 2) = false := beq_no (by omega)
  have hvo : Off t (Mem.One v) := ⟨hv1, hv2, hv3⟩
  refine new_T (ω := ω1) v fun g ω2 w2 k2 b2 => st_T b2 (by simp) fun ω3 w3 k3 b3 => st_TA b3 (by simp) fun ω4 w4 k4 b4 => st_TA b4 (by simp) fun ω5 w5 k5 b5 => st_T b5 (by simp) fun ω6 w6 k6 b6 => ?_
  have s6 : Stp Non ω1 ω6 w1 w6 := (((k2.fresh k3 hvf).fresh k4 hvf).fresh k5 hvf).fresh k6 hvf
  have d6 := d1.stp s6 (off_non t)
  have r6 := r1.stp s6 rfl
  have hvd : DT t v = false := dt_off (by omega)
  have fin : ∀ (M' : List Fl) (ω' : Tg) (w' : World), WF M' → M'.length < 256 → findM b M' = none → (∀ x, x ∈ insM ⟨b, q.1.bytes, q.1.synced⟩ M' ↔ x ∈ putM ⟨b, q.1.bytes, q.1.synced⟩ (delM a M)) → Stp (DT t) ω1 ω' w1 w' → RD ω' w' t gr M' → RT ω' w' (t + 2) bs 1 (vBs q.1.bytes) → Stp (DT t) ω6 ω' w6 w' →
      G.cS ⟨g, 0, none⟩ w' fun s34 => G.cSl (Addr.add ⟨g, 0, none⟩ 1) w' fun l35 => G.cI .i64 (Addr.add ⟨g, 0, none⟩ 2) w' fun n36 => C.tocsinref03_Disk_put (some ⟨gr, 0, none⟩) s34 l35 n36 w' fun w37 => K (0 : Int) w37 := by
    intro M' ω' w' hW' hl' hn' hmem sd d' r' s'
    have b6' := b6.stp s' hvd
    refine cS_at (b := b) (by rw [b6'.cell]; rfl) <| cSl_at (s := bs) (by rw [addr_add, b6'.cell]; rfl) <| cI_at (n := (q.1.synced : Int)) (by rw [addr_add, b6'.cell]; rfl) ?_
    obtain ⟨sl', pl', d', e'⟩ := d'
    refine put_ok (f := ⟨b, q.1.bytes, q.1.synced⟩) d' e' hW'.up (by omega) r' hn' fun ω7 w7 k7 d7 => hK ω7 w7 ((s1.trans sd).trans (dt_one (by omega) (by omega) k7)) ?_
    have hw1 : WF (insM ⟨b, q.1.bytes, q.1.synced⟩ M') := hW'.ins hn' h2 (show q.1.synced ≤ q.1.bytes.length from hM.syn _ (List.mem_of_getElem? hqk)) (show q.1.bytes.length ≤ 1048576 from hM.len _ (List.mem_of_getElem? hqk)) hl'
    have hw2 : WF (putM ⟨b, q.1.bytes, q.1.synced⟩ (delM a M)) := hwd.put h2 (show q.1.synced ≤ q.1.bytes.length from hM.syn _ (List.mem_of_getElem? hqk)) (show q.1.bytes.length ≤ 1048576 from hM.len _ (List.mem_of_getElem? hqk)) (fun _ => by omega)
    rw [← up_ext hw1.up hw2.up hmem]; exact d7
  obtain ⟨sl6, pl6, d6, e6⟩ := d6
  refine at_ok d6 e6 (by omega) ?_
  unfold idxI
  cases hib : idx b (delM a M) with
  | none =>
    refine cond_d (fun hh => by simp at hh) (fun _ => ?_)
    refine fin (delM a M) ω6 w6 hwd (by omega) (idx_none hib) (fun x => ?_) (s6.non _) ⟨sl6, pl6, d6, e6⟩ r6 (Stp.refl _ _ _)
    unfold putM; rw [if_pos (idx_none hib)]
  | some k2' =>
    obtain ⟨q2, hx2, hqm2, hqn2, hqf2, hqk2, hkl2⟩ := idxq e6 hib
    refine cond_d (fun _ => ?_) (fun hh => by simp at hh)
    refine out_ok d6 e6 (by omega) hqk2 fun bs2 ω7 w7 s7' d7 _ => ?_
    have s7 := dt_one (t := t) (by omega) (by omega) s7'
    rw [← del_idx hwd.nodup hib] at d7
    have hr7 : RT ω7 w7 (t + 2) bs 1 (vBs q.1.bytes) := r6.stp s7' (beq_no (by omega))
    refine fin (delM b (delM a M)) ω7 w7 (hwd.del b) (by have := List.length_filter_le (fun y : Fl => decide (y.name ≠ b)) (delM a M); unfold delM at *; omega) (findM_none.2 fun x hx => (mem_delM.1 hx).2) (fun x => ?_) ((s6.non _).trans s7) d7 hr7 s7
    rw [mem_insM, mem_putM]
    constructor
    · rintro (h | h)
      · exact .inl h
      · exact .inr (mem_delM.1 h)
    · rintro (h | h)
      · exact .inl h
      · exact .inr (mem_delM.2 h)
theorem rread_ok (h : RD ω w t gr M) (hM : WF M) {s : ByteArray} (hs : s.size ≤ 9223372036854775807) {K : Sl → Int → World → Prop}
    (h40 : namF s = false → K nilS 40 w) (h5 : namF s = true → findM s M = none → K nilS 5 w)
    (h0 : ∀ f, namF s = true → findM s M = some f → ∀ r w', Keep w w' → OwnB w' w.heap.size r f.bytes → K r 0 w') : C.tocsinref03_Disk_Read (some ⟨gr, 0, none⟩) s w K := by
  obtain ⟨sl, pl, h, hpl⟩ := h
  have hcnt := hM.cnt
  unfold C.tocsinref03_Disk_Read
  refine rfind_ok h hpl (by omega) hs (fun h1 => cond_t rfl (h40 h1)) (fun h1 h2 => cond_t rfl (h5 h1 h2)) (fun k h1 hi => cond_f rfl ?_)
  obtain ⟨q, hx, hqm, hqn, hqf, hqk, hkl⟩ := idxq hpl hi
  have hqb := RdB.len (h.rt q hqm).rd
  have hle := hM.len _ (List.mem_of_getElem? hqk)
  have c0 : w.cell? ⟨gr, 0, none⟩ = some sl.v := by rw [h.hd.cell]; rfl
  refine ptr_at <| cSl_at (s := sl) c0 <| rdF_at h.row.rd (k := k) rfl hx fun a _ a1 _ => cSl_at (s := q.2) a1 ?_
  refine app_T tiB (OT.nil (fun _ => 0) w 9 _ 1) (h.rt q hqm).rd vBs_one (by show nilS.n + _ ≤ _; simp only [nilS, maxLen]; omega) (by show (nilS.n + _) * 1 ≤ _; simp only [nilS]; omega) fun r1 ω1 w1 k1 o1 hr1 => ?_
  have t1 := (Top.init w).stp k1
  exact h0 q.1 h1 hqf r1 w1 t1.k (OT.new o1 t1)
theorem rsize_ok (h : RD ω w t gr M) (hM : WF M) {s : ByteArray} (hs : s.size ≤ 9223372036854775807) {K : Int → Int → Int → World → Prop}
    (h40 : namF s = false → K 0 0 40 w) (h5 : namF s = true → findM s M = none → K 0 0 5 w)
    (h0 : ∀ f, namF s = true → findM s M = some f → K (f.bytes.length : Int) (f.synced : Int) 0 w.drew) : C.tocsinref03_Disk_Size (some ⟨gr, 0, none⟩) s w K := by
  obtain ⟨sl, pl, h, hpl⟩ := h
  have hcnt := hM.cnt
  unfold C.tocsinref03_Disk_Size
  refine rfind_ok h hpl (by omega) hs (fun h1 => cond_t rfl (h40 h1)) (fun h1 h2 => cond_t rfl (h5 h1 h2)) (fun k h1 hi => cond_f rfl ?_)
  obtain ⟨q, hx, hqm, hqn, hqf, hqk, hkl⟩ := idxq hpl hi
  have hd := h.stp (drew_stp ω w) (off_non t)
  have hqb := RdB.len (h.rt q hqm).rd
  have c0 : w.drew.cell? ⟨gr, 0, none⟩ = some sl.v := by rw [hd.hd.cell]; rfl
  refine ptr_at <| cSl_at (s := sl) c0 <| rdF_at hd.row.rd (k := k) rfl hx fun a _ a1 _ => cSl_at (s := q.2) a1 ?_
  refine ptr_at <| cSl_at (s := sl) c0 <| rdF_at hd.row.rd (k := k) rfl hx fun a _ _ a2 => cI_at a2 ?_
  rw [hqb]
  exact h0 q.1 h1 hqf
end Go.Proofs.Ytlfpbnfdeanaeaa.Dk
