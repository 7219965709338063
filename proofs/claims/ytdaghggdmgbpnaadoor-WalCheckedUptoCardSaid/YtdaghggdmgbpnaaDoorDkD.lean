/- Layer 3: Sync, Cut, Rename, Remove. Own work. -/
import Derived.Test.YtdaghggdmgbpnaaDoorDkC
namespace Go.Proofs.YtdaghggdmgbpnaaDoor.Dk
open Go Vm Go.RowKit Num Mem
variable {ω ω' : Tg} {w w' w0 : World} {t gd gm : Nat} {T : Nat → Bool} {M : List Fl} {pl : PL}

theorem up_ext : ∀ {M M' : List Fl}, M.Pairwise (fun a b => bl a.name b.name) → M'.Pairwise (fun a b => bl a.name b.name) → (∀ x, x ∈ M ↔ x ∈ M') → M = M'
  | [], [], _, _, _ => rfl
  | [], y :: r, _, _, h => by have := (h y).2 (List.mem_cons_self ..); cases this
  | x :: r, [], _, _, h => by have := (h x).1 (List.mem_cons_self ..); cases this
  | x :: r, y :: r', h1, h2, h => by
    have h1' := List.pairwise_cons.1 h1
    have h2' := List.pairwise_cons.1 h2
    have e : x = y := by
      rcases List.mem_cons.1 ((h x).1 (List.mem_cons_self ..)) with e | hx
      · exact e
      · rcases List.mem_cons.1 ((h y).2 (List.mem_cons_self ..)) with e | hy
        · exact e.symm
        · exact absurd (h1'.1 y hy) (bl_asym (h2'.1 x hx))
    subst e
    have ne : ∀ z, bl x.name z.name → z ≠ x := fun z hz e => by subst e; exact bl_ne hz rfl
    rw [up_ext h1'.2 h2'.2 fun z => ⟨fun hz => ?_, fun hz => ?_⟩]
    · rcases List.mem_cons.1 ((h z).1 (List.mem_cons_of_mem _ hz)) with e | hz'
      · exact absurd e (ne z (h1'.1 z hz))
      · exact hz'
    · rcases List.mem_cons.1 ((h z).2 (List.mem_cons_of_mem _ hz)) with e | hz'
      · exact absurd e (ne z (h2'.1 z hz))
      · exact hz'
theorem loc_ok {sl : Sl} {n : Int} {w1 : World} {Z : World → Addr → Prop} (k : Keep w w1) (hz : ∀ w' g, w.heap.size ≤ g → Keep w w' → w'.cell? ⟨g, 0, none⟩ = some sl.v → w'.cell? (Addr.add ⟨g, 0, none⟩ 1) = some (.int .i64 n) → Z w' ⟨g, 0, none⟩) :
    G.new (.cells #[nilS.v, (.int .i64 (0 : Int))] 77) w1 fun p33 w34 => G.st p33 sl.v w34 fun w35 => G.st (p33.add 1) (.int .i64 n) w35 fun w36 => Z w36 p33 := by
  refine new_T (ω := fun _ => 0) 7 fun g ω2 w2 k2 b2 => st_T b2 (by simp) fun ω3 w3 k3 b3 => st_TA b3 (by simp) fun ω4 w4 k4 b4 => ?_
  have hg : w.heap.size ≤ g := by
    rcases Nat.lt_or_ge g w.heap.size with hlt | hge
    · have h1 := ((Top.init w1).stp k2).z g (Nat.lt_of_lt_of_le hlt k.size)
      rw [b2.tag] at h1; cases h1
    · exact hge
  exact hz w4 g hg (Keep.trans k ((((Top.init w1).stp k2).stp k3).stp k4).k) (by rw [b4.cell]; rfl) (by rw [addr_add, b4.cell]; rfl)

def onF (s : ByteArray) (M : List Fl) (f : Fl → Int × List Fl) : Int × List Fl := if namF s = false then (40, M) else match findM s M with | none => (5, M) | some x => f x
def syM (s : ByteArray) (M : List Fl) : Int × List Fl := onF s M fun f => (0, putM ⟨s, f.bytes, f.bytes.length⟩ M)
def cutM (s : ByteArray) (n : Int) (M : List Fl) : Int × List Fl := onF s M fun f => if n < 0 ∨ (f.bytes.length : Int) < n then (1, M) else (0, putM ⟨s, f.bytes.take n.toNat, min f.synced n.toNat⟩ M)
def remM (s : ByteArray) (M : List Fl) : Int × List Fl := onF s M fun _ => (0, delM s M)
def renM (a b : ByteArray) (M : List Fl) : Int × List Fl := if namF a = false ∨ namF b = false then (40, M) else match findM a M with
  | none => (5, M)
  | some f => if a = b then (0, M) else (0, putM ⟨b, f.bytes, f.synced⟩ (delM a M))
theorem onF_40 {s : ByteArray} {f : Fl → Int × List Fl} (h : namF s = false) : onF s M f = (40, M) := by unfold onF; rw [if_pos h]
theorem onF_5 {s : ByteArray} {f : Fl → Int × List Fl} (h : namF s = true) (h2 : findM s M = none) : onF s M f = (5, M) := by unfold onF; rw [if_neg (by simp [h]), h2]
theorem onF_0 {s : ByteArray} {f : Fl → Int × List Fl} {x : Fl} (h : namF s = true) (h2 : findM s M = some x) : onF s M f = f x := by unfold onF; rw [if_neg (by simp [h]), h2]
theorem found {s : ByteArray} {f : Fl} (h : findM s M = some f) : f ∈ M ∧ f.name = s := by
  unfold findM at h
  exact ⟨List.mem_of_find?_eq_some h, by have := List.find?_some h; simpa using this⟩
theorem no_free {s : ByteArray} {f : Fl} (h : findM s M = some f) {n : Nat} : findM s M = none → M.length < n := fun e => by rw [h] at e; cases e

theorem sync_ok (h : DK ω w t gd M) (hM : WF M) {s : ByteArray} (hs : s.size ≤ 9223372036854775807) {K : Int → World → Prop}
    (hK : ∀ ω' w', Stp (DT t) ω ω' w w' → DK ω' w' t gd (syM s M).2 → WF (syM s M).2 → K (syM s M).1 w') : C.disk_Disk_Sync (some ⟨gd, 0, none⟩) s w K := by
  obtain ⟨gm, pl, h, hp⟩ := h
  have bad : ∀ (e : Int), syM s M = (e, M) → ∀ w', Keep w w' → K e w' := fun e he w' k => by
    have := hK ω w' ((k.stp0 ω).non _) (by rw [he]; exact ⟨gm, pl, h.stp (k.stp0 ω) (off_non t), hp⟩) (by rw [he]; exact hM)
    rwa [he] at this
  unfold C.disk_Disk_Sync
  refine find_ok h hp hM hs (fun h1 w1 k1 => loc_ok k1 fun w2 g hg0 k2 c0 c1 => cond_f rfl (bad 40 (onF_40 h1) w2 k2)) (fun h1 h2 w1 k1 => loc_ok k1 fun w2 g hg0 k2 c0 c1 => cond_f rfl (bad 5 (onF_5 h1 h2) w2 k2)) (fun p hpm h1 h2 w1 k1 => loc_ok k1 fun w2 g hg0 k2 c0 c1 => cond_t rfl ?_)
  have kd := Keep.trans k2 (Keep.drew w2)
  have hd := h.stp (kd.stp0 ω) (off_non t)
  refine ptr_at <| ⟨some gm, by rw [hd.hd.cell]; rfl, cSl_at (s := p.2) c0 <| cSl_at (s := p.2) c0 ?_⟩
  have hn : p.2.n = p.1.bytes.length := RdB.len (h.rt p hpm).rd
  have e : syM s M = (0, putM ⟨s, p.1.bytes, p.1.bytes.length⟩ M) := onF_0 h1 h2
  have hw : WF (putM ⟨s, p.1.bytes, p.1.bytes.length⟩ M) := hM.put h1 (Nat.le_refl _) (show p.1.bytes.length ≤ 1048576 from hM.len _ (found h2).1) (no_free h2)
  refine updV hd.mp mapT strT fun ω6 w6 k6 m6 => ?_
  have := hK ω6 w6 (((kd.stp0 ω).non _).trans (dt_one (by omega) (by omega) k6)) (by
    rw [e]
    rw [hn] at m6
    exact upd_DK (f := ⟨s, p.1.bytes, p.1.bytes.length⟩) (sl := p.2) hd hp hw k6 m6 (hd.rt p hpm)) (by rw [e]; exact hw)
  rwa [e] at this
theorem cut_ok (h : DK ω w t gd M) (hM : WF M) {s : ByteArray} (hs : s.size ≤ 9223372036854775807) {n : Int} {K : Int → World → Prop}
    (hK : ∀ ω' w', Stp (DT t) ω ω' w w' → DK ω' w' t gd (cutM s n M).2 → WF (cutM s n M).2 → K (cutM s n M).1 w') : C.disk_Disk_Cut (some ⟨gd, 0, none⟩) s n w K := by
  obtain ⟨gm, pl, h, hp⟩ := h
  have bad : ∀ (e : Int), cutM s n M = (e, M) → ∀ w', Keep w w' → K e w' := fun e he w' k => by
    have := hK ω w' ((k.stp0 ω).non _) (by rw [he]; exact ⟨gm, pl, h.stp (k.stp0 ω) (off_non t), hp⟩) (by rw [he]; exact hM)
    rwa [he] at this
  unfold C.disk_Disk_Cut
  refine find_ok h hp hM hs (fun h1 w1 k1 => loc_ok k1 fun w2 g hg0 k2 c0 c1 => cond_t rfl (bad 40 (onF_40 h1) w2 k2)) (fun h1 h2 w1 k1 => loc_ok k1 fun w2 g hg0 k2 c0 c1 => cond_t rfl (bad 5 (onF_5 h1 h2) w2 k2)) (fun p hpm h1 h2 w1 k1 => loc_ok k1 fun w2 g hg0 k2 c0 c1 => cond_f rfl ?_)
  have hn : p.2.n = p.1.bytes.length := RdB.len (h.rt p hpm).rd
  have hl := hM.len _ (found h2).1
  have e : cutM s n M = if n < 0 ∨ (p.1.bytes.length : Int) < n then (1, M) else (0, putM ⟨s, p.1.bytes.take n.toNat, min p.1.synced n.toNat⟩ M) := onF_0 h1 h2
  refine cond_d (fun hlt => bad 1 (by rw [e, if_pos (.inl hlt)]) w2 k2) (fun hlt => ?_)
  refine cSl_at (s := p.2) c0 ?_
  refine cond_d (fun hgt => bad 1 (by rw [e, if_pos (.inr (by omega))]) w2 k2) (fun hgt => ?_)
  rw [if_neg (by omega)] at e
  have kd := Keep.trans k2 (Keep.drew w2)
  have hd := h.stp (kd.stp0 ω) (off_non t)
  refine ptr_at <| ⟨some gm, by rw [hd.hd.cell]; rfl, cSl_at (s := p.2) c0 <| cI_at (n := (p.1.synced : Int)) c1 ?_⟩
  refine again_ok (n := n.toNat) (l := p.1.bytes) (by omega) (hd.rt p hpm).rd (by omega) (by omega) fun r w3 k3 o3 => ⟨hd.hd.sameT (k3.stp0 ω), ?_⟩
  have k03 := Keep.trans kd k3
  have hg := h.stp (k03.stp ω (t + 2)) (off_non t)
  have rr := Own.rt (w := w) o3 kd.size ω (t + 2)
  have hw : WF (putM ⟨s, p.1.bytes.take n.toNat, min p.1.synced n.toNat⟩ M) := hM.put h1 (by have := hM.syn _ (found h2).1; show min p.1.synced n.toNat ≤ (p.1.bytes.take n.toNat).length; rw [List.length_take]; omega) (by show (p.1.bytes.take n.toNat).length ≤ 1048576; rw [List.length_take]; omega) (no_free h2)
  refine updV hg.mp mapT strT fun ω6 w6 k6 m6 => ?_
  have := hK ω6 w6 (((k03.stp ω (t + 2)).non _).trans (dt_one (by omega) (by omega) k6)) (by
    rw [e]
    exact upd_DK (f := ⟨s, p.1.bytes.take n.toNat, min p.1.synced n.toNat⟩) (sl := r) hg hp hw k6 m6 rr) (by rw [e]; exact hw)
  rwa [e] at this
theorem remove_ok (h : DK ω w t gd M) (hM : WF M) {s : ByteArray} (hs : s.size ≤ 9223372036854775807) {K : Int → World → Prop}
    (hK : ∀ ω' w', Stp (DT t) ω ω' w w' → DK ω' w' t gd (remM s M).2 → WF (remM s M).2 → K (remM s M).1 w') : C.disk_Disk_Remove (some ⟨gd, 0, none⟩) s w K := by
  obtain ⟨gm, pl, h, hp⟩ := h
  have bad : ∀ (e : Int), remM s M = (e, M) → ∀ w', Keep w w' → K e w' := fun e he w' k => by
    have := hK ω w' ((k.stp0 ω).non _) (by rw [he]; exact ⟨gm, pl, h.stp (k.stp0 ω) (off_non t), hp⟩) (by rw [he]; exact hM)
    rwa [he] at this
  unfold C.disk_Disk_Remove
  refine find_ok h hp hM hs (fun h1 w1 k1 => loc_ok k1 fun w2 g hg0 k2 c0 c1 => cond_f rfl (bad 40 (onF_40 h1) w2 k2)) (fun h1 h2 w1 k1 => loc_ok k1 fun w2 g hg0 k2 c0 c1 => cond_f rfl (bad 5 (onF_5 h1 h2) w2 k2)) (fun p hpm h1 h2 w1 k1 => loc_ok k1 fun w2 g hg0 k2 c0 c1 => cond_t rfl ?_)
  have hd := h.stp (k2.stp0 ω) (off_non t)
  have e : remM s M = (0, delM s M) := onF_0 h1 h2
  refine ptr_at <| ⟨some gm, by rw [hd.hd.cell]; rfl, ?_⟩
  refine delV hd.mp mapT strT fun v ω6 w6 k6 m6 => ?_
  obtain ⟨d, q⟩ := del_DK hd hp hM k6 m6
  have := hK ω6 w6 (((k2.stp0 ω).non _).trans (dt_one (by omega) (by omega) k6)) (by rw [e]; exact ⟨gm, _, d, q⟩) (by rw [e]; exact hM.del s)
  rwa [e] at this
theorem rename_ok (h : DK ω w t gd M) (hM : WF M) {a b : ByteArray} (ha : a.size ≤ 9223372036854775807) (hb : b.size ≤ 9223372036854775807) {K : Int → World → Prop}
    (hK : ∀ ω' w', Stp (DT t) ω ω' w w' → DK ω' w' t gd (renM a b M).2 → WF (renM a b M).2 → K (renM a b M).1 w') : C.disk_Disk_Rename (some ⟨gd, 0, none⟩) a b w K := by
  obtain ⟨gm, pl, h, hp⟩ := h
  have bad : ∀ (e : Int), renM a b M = (e, M) → ∀ w', Keep w w' → K e w' := fun e he w' k => by
    have := hK ω w' ((k.stp0 ω).non _) (by rw [he]; exact ⟨gm, pl, h.stp (k.stp0 ω) (off_non t), hp⟩) (by rw [he]; exact hM)
    rwa [he] at this
  unfold C.disk_Disk_Rename
  refine cond_f rfl <| named_ok ha <| cond_not (fun h1 => bad 40 (by unfold renM; rw [if_pos (.inl h1)]) w (Keep.refl w)) (fun h1 => ?_)
  refine named_ok hb <| cond_not (fun h2 => bad 40 (by unfold renM; rw [if_pos (.inr h2)]) w (Keep.refl w)) (fun h2 => ?_)
  unfold renM at bad hK
  rw [if_neg (by simp [h1, h2])] at bad hK
  refine find_ok h hp hM ha (fun h3 w1 k1 => by rw [h1] at h3; cases h3) (fun _ h4 w1 k1 => loc_ok k1 fun w2 g hg0 k2 c0 c1 => cond_t rfl (bad 5 (by rw [h4]) w2 k2)) (fun p hpm _ h4 w1 k1 => loc_ok k1 fun w2 g hg0 k2 c0 c1 => cond_f rfl ?_)
  rw [h4] at hK
  simp only at hK
  have kt := k2.stp ω (t + 2)
  have hd := h.stp kt (off_non t)
  have hgt : ext ω w.heap.size (t + 2) g = t + 2 := ext_new hg0
  generalize ext ω w.heap.size (t + 2) = ω1 at *
  refine ptr_at <| ⟨some gm, by rw [hd.hd.cell]; rfl, ?_⟩
  have f0 := found h4
  have hmem := hM.len _ f0.1
  refine delV hd.mp mapT strT fun v ω6 w6 k6 m6 => ?_
  obtain ⟨d, q⟩ := del_DK hd hp hM k6 m6
  have d' := d.stp (drew_stp ω6 w6) (off_non t)
  have hc : ∀ {j : Nat} {v : Value}, w2.cell? (Addr.add ⟨g, 0, none⟩ j) = some v → w6.drew.cell? (Addr.add ⟨g, 0, none⟩ j) = some v := fun {j v} hx => by
    show w6.cell? _ = some v
    rw [World.cell?_of_block (w := w2) (k6.block _ (cell_lt hx) (by rw [add_block, hgt]; exact beq_no (by omega)))]
    exact hx
  refine ptr_at <| ⟨some gm, by rw [d'.hd.cell]; rfl, cSl_at (s := p.2) (hc (j := 0) c0) <| cI_at (n := (p.1.synced : Int)) (hc c1) ?_⟩
  have rr := ((h.rt p hpm).stp kt).stp k6 (beq_no (by omega))
  have hw : WF (putM ⟨b, p.1.bytes, p.1.synced⟩ (delM a M)) := (hM.del a).put h2 (show p.1.synced ≤ p.1.bytes.length from hM.syn _ f0.1) hmem (fun _ => by
    have hlt : (delM a M).length < M.length := by
      unfold delM
      exact List.length_filter_lt_length_iff_exists.2 ⟨p.1, f0.1, by simp [f0.2]⟩
    have := hM.cnt
    omega)
  refine updV d'.mp mapT strT fun ω7 w7 k7 m7 => ?_
  have u := upd_DK (f := ⟨b, p.1.bytes, p.1.synced⟩) (sl := p.2) d' q hw k7 m7 (rr.stp (drew_stp ω6 w6))
  have s := (((kt.non (DT t)).trans (dt_one (by omega) (by omega) k6)).trans ((drew_stp ω6 w6).non _)).trans (dt_one (by omega) (by omega) k7)
  by_cases e : a = b
  · rw [if_pos e] at hK
    refine hK ω7 w7 s ?_ hM
    have em : putM ⟨b, p.1.bytes, p.1.synced⟩ (delM a M) = M := up_ext hw.up hM.up fun x => by
      rw [mem_putM, mem_delM]
      have ep : (⟨b, p.1.bytes, p.1.synced⟩ : Fl) = p.1 := by rw [← e, ← f0.2]
      rw [ep]
      constructor
      · rintro (rfl | ⟨⟨h, _⟩, _⟩)
        · exact f0.1
        · exact h
      · intro hx
        by_cases en : x.name = p.1.name
        · have := (findM_some hM.nodup).2 ⟨hx, en.trans f0.2⟩
          rw [h4] at this
          exact .inl (Option.some.inj this).symm
        · exact .inr ⟨⟨hx, by rw [← f0.2]; exact en⟩, en⟩
    rw [em] at u; exact u
  · rw [if_neg e] at hK
    exact hK ω7 w7 s u hw
end Go.Proofs.YtdaghggdmgbpnaaDoor.Dk
