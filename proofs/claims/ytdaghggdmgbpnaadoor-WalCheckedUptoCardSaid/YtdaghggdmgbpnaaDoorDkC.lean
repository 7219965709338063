/- Layer 3: a disk in memory: what writes it. Own work. -/
import Derived.Test.YtdaghggdmgbpnaaDoorDkB
namespace Go.Proofs.YtdaghggdmgbpnaaDoor.Dk
open Go Vm Go.RowKit Num Mem
variable {ω ω' : Tg} {w w' w0 : World} {t gd gm : Nat} {T : Nat → Bool} {M : List Fl} {pl : PL}

def putM (f : Fl) (M : List Fl) : List Fl := if findM f.name M = none then insM f M else setM f M
theorem mem_putM {f x : Fl} {M : List Fl} : x ∈ putM f M ↔ x = f ∨ (x ∈ M ∧ x.name ≠ f.name) := by
  unfold putM
  split
  · rename_i h
    rw [mem_insM]
    constructor
    · rintro (h1 | h1)
      · exact .inl h1
      · exact .inr ⟨h1, findM_none.1 h x h1⟩
    · rintro (h1 | ⟨h1, _⟩)
      · exact .inl h1
      · exact .inr h1
  · rename_i h
    refine ⟨mem_setM, ?_⟩
    rintro (rfl | ⟨h1, h2⟩)
    · cases hf : findM x.name M with
      | none => exact absurd hf h
      | some y =>
        unfold findM at hf
        have h1 := List.mem_of_find?_eq_some hf
        have h2 : y.name = x.name := by have := List.find?_some hf; simpa using this
        unfold setM
        exact List.mem_map.2 ⟨y, h1, if_pos h2⟩
    · unfold setM
      exact List.mem_map.2 ⟨x, h1, if_neg h2⟩
theorem WF.put {f : Fl} (h : WF M) (h1 : namF f.name = true) (h2 : f.synced ≤ f.bytes.length) (h3 : f.bytes.length ≤ 1048576) (h4 : findM f.name M = none → M.length < 256) : WF (putM f M) := by
  unfold putM
  split
  · rename_i hn; exact h.ins hn h1 h2 h3 (h4 hn)
  · exact h.set h1 h2 h3
theorem nodup_of_names {l : List Fl} (h : (l.map (·.name)).Nodup) : l.Nodup := (List.pairwise_map.1 h).imp fun h e => h (by rw [e])
def updP (p : Fl × Sl) : PL → PL
  | [] => [p]
  | q :: r => if p.1.name = q.1.name then p :: r else q :: updP p r
def delP (s : ByteArray) : PL → PL
  | [] => []
  | q :: r => if s = q.1.name then r else q :: delP s r
theorem updP_map (p : Fl × Sl) : ∀ pl : PL, updA p.1.name (encV p) (pl.map encP) = (updP p pl).map encP
  | [] => rfl
  | q :: r => by
    simp only [List.map_cons, encP, updA, updP]
    split
    · rfl
    · rw [List.map_cons, ← updP_map p r]; rfl
theorem delP_map (s : ByteArray) : ∀ pl : PL, delA s (pl.map encP) = (delP s pl).map encP
  | [] => rfl
  | q :: r => by
    simp only [List.map_cons, encP, delA, delP]
    split
    · rfl
    · rw [List.map_cons, ← delP_map s r]; rfl
theorem mem_updP {p x : Fl × Sl} : ∀ {pl : PL}, (pl.map fun p => p.1.name).Nodup → (x ∈ updP p pl ↔ x = p ∨ (x ∈ pl ∧ x.1.name ≠ p.1.name))
  | [], _ => by simp [updP]
  | q :: r, h => by
    have h' := List.nodup_cons.1 h
    unfold updP
    split
    · rename_i e
      constructor
      · intro hx
        rcases List.mem_cons.1 hx with rfl | hx
        · exact .inl rfl
        · exact .inr ⟨List.mem_cons_of_mem _ hx, fun e2 => h'.1 (by show q.1.name ∈ _; rw [← e, ← e2]; exact List.mem_map_of_mem (f := fun p : Fl × Sl => p.1.name) hx)⟩
      · rintro (rfl | ⟨hx, hne⟩)
        · exact List.mem_cons_self ..
        · rcases List.mem_cons.1 hx with rfl | hx
          · exact absurd e.symm hne
          · exact List.mem_cons_of_mem _ hx
    · rename_i e
      rw [List.mem_cons, mem_updP h'.2, List.mem_cons]
      constructor
      · rintro (rfl | h1 | ⟨h1, h2⟩)
        · exact .inr ⟨.inl rfl, fun e2 => e e2.symm⟩
        · exact .inl h1
        · exact .inr ⟨.inr h1, h2⟩
      · rintro (h1 | ⟨h1 | h1, h2⟩)
        · exact .inr (.inl h1)
        · exact .inl h1
        · exact .inr (.inr ⟨h1, h2⟩)
theorem mem_delP {s : ByteArray} {x : Fl × Sl} : ∀ {pl : PL}, (pl.map fun p => p.1.name).Nodup → (x ∈ delP s pl ↔ x ∈ pl ∧ x.1.name ≠ s)
  | [], _ => by simp [delP]
  | q :: r, h => by
    have h' := List.nodup_cons.1 h
    unfold delP
    split
    · rename_i e
      constructor
      · intro hx
        exact ⟨List.mem_cons_of_mem _ hx, fun e2 => h'.1 (by show q.1.name ∈ _; rw [← e, ← e2]; exact List.mem_map_of_mem (f := fun p : Fl × Sl => p.1.name) hx)⟩
      · rintro ⟨hx, hne⟩
        rcases List.mem_cons.1 hx with rfl | hx
        · exact absurd e.symm hne
        · exact hx
    · rename_i e
      rw [List.mem_cons, mem_delP h'.2, List.mem_cons]
      constructor
      · rintro (rfl | ⟨h1, h2⟩)
        · exact ⟨.inl rfl, fun e2 => e e2.symm⟩
        · exact ⟨.inr h1, h2⟩
      · rintro ⟨h1 | h1, h2⟩
        · exact .inl h1
        · exact .inr ⟨h1, h2⟩
theorem DKa.names (h : DKa ω w t gd gm pl) : (pl.map fun p => p.1.name).Nodup := by
  have := h.mp.nodup
  rw [List.map_map] at this
  exact this
theorem fl_names (pl : PL) : (pl.map (·.1)).map (·.name) = pl.map fun p => p.1.name := by rw [List.map_map]; rfl

/-- Behind a write of the map. -/
theorem upd_DK (h : DKa ω w t gd gm pl) (hp : (pl.map (·.1)).Perm M) {f : Fl} {sl : Sl} (hM' : WF (putM f M)) (k : Stp (Mem.One (t + 1)) ω ω' w w') (m' : MV ω' w' (t + 1) gm (updA f.name (encV (f, sl)) (pl.map encP)))
    (r : RT ω w (t + 2) sl 1 (vBs f.bytes)) : DK ω' w' t gd (putM f M) := by
  rw [updP_map (f, sl)] at m'
  have hn : ((updP (f, sl) pl).map fun p => p.1.name).Nodup := by have := m'.nodup; rw [List.map_map] at this; exact this
  refine ⟨gm, updP (f, sl) pl, ⟨h.hd.stp k (beq_no (by omega)), m', fun p hpm => ?_⟩, ?_⟩
  · rcases (mem_updP h.names).1 hpm with rfl | ⟨h1, _⟩
    · exact r.stp k (beq_no (by omega))
    · exact (h.rt p h1).stp k (beq_no (by omega))
  · refine (List.perm_ext_iff_of_nodup (nodup_of_names (by rw [fl_names]; exact hn)) (nodup_of_names hM'.nodup)).2 fun x => ?_
    rw [mem_putM, List.mem_map]
    constructor
    · rintro ⟨p, hpm, rfl⟩
      rcases (mem_updP h.names).1 hpm with rfl | ⟨h1, h2⟩
      · exact .inl rfl
      · exact .inr ⟨mem_perm hp h1, h2⟩
    · rintro (rfl | ⟨h1, h2⟩)
      · exact ⟨(x, sl), (mem_updP h.names).2 (.inl rfl), rfl⟩
      · obtain ⟨q, hq, rfl⟩ := List.mem_map.1 (hp.mem_iff.2 h1)
        exact ⟨q, (mem_updP h.names).2 (.inr ⟨hq, h2⟩), rfl⟩
theorem del_DK (h : DKa ω w t gd gm pl) (hp : (pl.map (·.1)).Perm M) (hM : WF M) {s : ByteArray} (k : Stp (Mem.One (t + 1)) ω ω' w w') (m' : MV ω' w' (t + 1) gm (delA s (pl.map encP))) :
    DKa ω' w' t gd gm (delP s pl) ∧ ((delP s pl).map (·.1)).Perm (delM s M) := by
  rw [delP_map] at m'
  have hn : ((delP s pl).map fun p => p.1.name).Nodup := by have := m'.nodup; rw [List.map_map] at this; exact this
  refine ⟨⟨h.hd.stp k (beq_no (by omega)), m', fun p hpm => (h.rt p ((mem_delP h.names).1 hpm).1).stp k (beq_no (by omega))⟩, ?_⟩
  refine (List.perm_ext_iff_of_nodup (nodup_of_names (by rw [fl_names]; exact hn)) (nodup_of_names (hM.del s).nodup)).2 fun x => ?_
  rw [mem_delM, List.mem_map]
  constructor
  · rintro ⟨p, hpm, rfl⟩
    obtain ⟨h1, h2⟩ := (mem_delP h.names).1 hpm
    exact ⟨mem_perm hp h1, h2⟩
  · rintro ⟨h1, h2⟩
    obtain ⟨q, hq, rfl⟩ := List.mem_map.1 (hp.mem_iff.2 h1)
    exact ⟨q, (mem_delP h.names).2 ⟨hq, h2⟩, rfl⟩

abbrev DT (t : Nat) : Nat → Bool := fun u => Nat.ble t u && Nat.ble u (t + 2)
theorem dt_one {u : Nat} (h1 : t ≤ u) (h2 : u ≤ t + 2) (k : Stp (Mem.One u) ω ω' w w') : Stp (DT t) ω ω' w w' := k.mono fun v hv => beq_no fun e => by
  subst e
  simp only [DT, Nat.ble_eq_true_of_le h1, Nat.ble_eq_true_of_le h2] at hv
  cases hv
theorem dt_off {u : Nat} (h : u < t ∨ t + 2 < u) : DT t u = false := by
  cases h1 : Nat.ble t u with
  | false => simp [DT, h1]
  | true =>
    have h1 := Nat.le_of_ble_eq_true h1
    cases h2 : Nat.ble u (t + 2) with
    | false => simp [DT, h2]
    | true => have h2 := Nat.le_of_ble_eq_true h2; omega
theorem mapT : Tryd.prog.underlying 46 = some (.map 9 77) := by kernel_rfl
theorem strT : Tryd.prog.underlying 9 = some .string := by kernel_rfl

/-- What Append answers, and what is there behind it. -/
def apM (s : ByteArray) (l : List UInt8) (M : List Fl) : Int × List Fl :=
  if namF s = false then (40, M) else match findM s M with
  | none => if 256 ≤ M.length then (8, M) else if 1048576 < l.length then (4, M) else (0, putM ⟨s, l, 0⟩ M)
  | some f => if 1048576 < f.bytes.length + l.length then (4, M) else (0, putM ⟨s, f.bytes ++ l, f.synced⟩ M)
theorem append_S2 (h : DKa ω w t gd gm pl) (hp : (pl.map (·.1)).Perm M) {s : ByteArray} {b sl : Sl} {l fb : List UInt8} {sy : Nat} {w1 : World} {p : Addr} (k1 : Keep w w1) (hb : RdB w b l) (hf : RdB w sl fb) (hl : fb.length + l.length ≤ 20000000)
    (p0 : w1.cell? p = some sl.v) (p1 : w1.cell? (p.add 1) = some (.int .i64 (sy : Int))) (hM' : WF (putM ⟨s, fb ++ l, sy⟩ M)) {K : Int → World → Prop} (hK : ∀ ω' w', Stp (DT t) ω ω' w w' → DK ω' w' t gd (putM ⟨s, fb ++ l, sy⟩ M) → K 0 w') :
    C.disk_Disk_Append.S2 K (some ⟨gd, 0, none⟩) s b (some p) w1 := by
  have hbn := hb.len
  have hfn := hf.len
  unfold C.disk_Disk_Append.S2
  refine ptr_at <| cSl_at (s := sl) p0 <| ptr_at <| cSl_at (s := sl) p0 ?_
  refine make_T tiB (ω := fun _ => 0) 9 (n := fb.length) (c := fb.length + l.length) (by rw [hfn]) (by rw [wI64 (by omega) (by omega)]; omega) (by omega) (by simp only [maxLen]; omega) (by omega) fun r ω3 w3 k3 ⟨z, o3⟩ hrn hrc => ?_
  have t3 := (Top.init w1).stp k3
  refine ptr_at <| cSl_at (s := sl) (t3.k.cell p0) ?_
  refine copy_T tiB o3 (Rd.keep hf (Keep.trans k1 t3.k)) vBs_one (by omega) fun ω4 w4 k4 o4 => ?_
  have t4 := (t3.stp k4).stp (drew_stp ω4 w4)
  have k04 := Keep.trans k1 t4.k
  have h4 := h.stp (k04.stp0 ω) (off_non t)
  refine ptr_at <| ⟨some gm, by rw [h4.hd.cell]; rfl, ptr_at <| cI_at (n := (sy : Int)) (t4.k.cell p1) ?_⟩
  refine app_T tiB (o4.stp (drew_stp ω4 w4)) (Rd.keep hb k04) vBs_one (by rw [hrn]; simp only [maxLen]; omega) (by rw [hrn]; omega) fun q ω5 w5 k5 o5 hq => ?_
  have t5 := t4.stp k5
  have k45 : Keep w4.drew w5 ∨ True := .inr trivial
  have k05 := Keep.trans k1 t5.k
  have o := OT.new o5 t5
  have hg4 := h4.hd.blk.lt
  have sm : ∀ {a : Addr} {n : Nat}, a.block < w1.heap.size → sameAt a n w4.drew w5 := fun {a n} ha =>
    same_stp k5 (Nat.lt_of_lt_of_le ha t4.k.size) (by rw [t4.z _ ha]; rfl)
  refine ⟨sm (Nat.lt_of_lt_of_le h.hd.blk.lt k1.size), sm (cell_lt p1), ?_⟩
  have e : vBs (fb ++ l) = (vBs fb).take r.n ++ vBs l := by rw [vBs_append, List.take_of_length_le (by rw [vBs_length]; omega)]
  rw [← e] at o
  have hg := h.stp (k05.stp ω (t + 2)) (off_non t)
  have rr := Own.rt (w := w) o k1.size ω (t + 2)
  refine updV hg.mp mapT strT fun ω6 w6 k6 m6 => hK ω6 w6 (((k05.stp ω (t + 2)).non _).trans (dt_one (by omega) (by omega) k6)) ?_
  exact upd_DK (f := ⟨s, fb ++ l, sy⟩) (sl := q) hg hp hM' k6 m6 rr
theorem append_ok (h : DK ω w t gd M) (hM : WF M) {s : ByteArray} (hs : s.size ≤ 9223372036854775807) {b : Sl} {l : List UInt8} (hb : RdB w b l) (hl : l.length ≤ 10000000) {K : Int → World → Prop}
    (hK : ∀ ω' w', Stp (DT t) ω ω' w w' → DK ω' w' t gd (apM s l M).2 → WF (apM s l M).2 → K (apM s l M).1 w') : C.disk_Disk_Append (some ⟨gd, 0, none⟩) s b w K := by
  obtain ⟨gm, pl, h, hp⟩ := h
  have hbn := hb.len
  have hpl : pl.length = M.length := by have := hp.length_eq; simpa using this
  have bad : ∀ (e : Int), apM s l M = (e, M) → ∀ w', Keep w w' → K e w' := fun e he w' k => by
    have := hK ω w' ((k.stp0 ω).non _) (by rw [he]; exact ⟨gm, pl, h.stp (k.stp0 ω) (off_non t), hp⟩) (by rw [he]; exact hM)
    rwa [he] at this
  unfold C.disk_Disk_Append
  have loc : ∀ (sl : Sl) (n : Int) (w1 : World) (Z : World → Addr → Prop), Keep w w1 → (∀ w' g, Keep w w' → w'.cell? ⟨g, 0, none⟩ = some sl.v → w'.cell? (Addr.add ⟨g, 0, none⟩ 1) = some (.int .i64 n) → Z w' ⟨g, 0, none⟩) →
      G.new (.cells #[nilS.v, (.int .i64 (0 : Int))] 77) w1 fun p33 w34 => G.st p33 sl.v w34 fun w35 => G.st (p33.add 1) (.int .i64 n) w35 fun w36 => Z w36 p33 := by
    intro sl n w1 Z k hz
    refine new_T (ω := fun _ => 0) 7 fun g ω2 w2 k2 b2 => st_T b2 (by simp) fun ω3 w3 k3 b3 => st_TA b3 (by simp) fun ω4 w4 k4 b4 => ?_
    exact hz w4 g (Keep.trans k ((((Top.init w1).stp k2).stp k3).stp k4).k) (by rw [b4.cell]; rfl) (by rw [addr_add, b4.cell]; rfl)
  have fine : ∀ (sl : Sl) (fb : List UInt8) (sy : Nat) (w1 : World) (p : Addr), namF s = true → fb.length ≤ 1048576 → RdB w sl fb → Keep w w1 → w1.cell? p = some sl.v → w1.cell? (p.add 1) = some (.int .i64 (sy : Int)) →
      (1048576 < fb.length + l.length → apM s l M = (4, M)) → (fb.length + l.length ≤ 1048576 → apM s l M = (0, putM ⟨s, fb ++ l, sy⟩ M) ∧ WF (putM ⟨s, fb ++ l, sy⟩ M)) →
      G.cSl p w1 fun l42 => G.cond (decide ((IntKind.i64.wrap (((l42.n : Nat) : Int) + ((b.n : Nat) : Int))) > (1048576 : Int))) (K (4 : Int) w1) (C.disk_Disk_Append.S2 K (some ⟨gd, 0, none⟩) s b (some p) w1) := by
    intro sl fb sy w1 p hn hfl hf k p0 p1 e4 e0
    have hfn := hf.len
    refine cSl_at (s := sl) p0 ?_
    refine cond_d (fun hgt => bad 4 (e4 ?_) w1 k) (fun hgt => ?_)
    · rw [wI64 (by omega) (by omega)] at hgt; omega
    · rw [wI64 (by omega) (by omega)] at hgt
      obtain ⟨e1, hw⟩ := e0 (by omega)
      refine append_S2 h hp k hb hf (by omega) p0 p1 hw fun ω' w' s' d' => ?_
      have := hK ω' w' s' (by rw [e1]; exact d') (by rw [e1]; exact hw)
      rwa [e1] at this
  refine find_ok h hp hM hs (fun h1 w1 k1 => ?_) (fun h1 h2 w1 k1 => ?_) (fun p hpm h1 h2 w1 k1 => ?_)
  · refine loc nilS 0 w1 _ k1 fun w2 g k2 c0 c1 => ?_
    exact cond_f rfl <| cond_t rfl <| cond_t rfl (bad 40 (by unfold apM; rw [if_pos h1]) w2 k2)
  · refine loc nilS 0 w1 _ k1 fun w2 g k2 c0 c1 => ?_
    have h2' := h.stp (k2.stp0 ω) (off_non t)
    refine cond_t rfl <| ptr_at <| ⟨some gm, by rw [h2'.hd.cell]; rfl, lenV h2'.mp (by kernel_rfl) ?_⟩
    have e0 : apM s l M = if 256 ≤ M.length then (8, M) else if 1048576 < l.length then (4, M) else (0, putM ⟨s, l, 0⟩ M) := by unfold apM; rw [if_neg (by simp [h1]), h2]
    rw [List.length_map, hpl]
    refine cond_d (fun hge => bad 8 (by rw [e0, if_pos (by omega)]) w2 k2) (fun hge => ?_)
    rw [if_neg (by omega)] at e0
    refine cond_t rfl <| cond_f rfl ?_
    refine fine nilS [] 0 w2 _ h1 (by simp) (Rd.nil w 1) k2 c0 c1 (fun hgt => by rw [e0, if_pos (by simpa using hgt)]) (fun hle => ?_)
    refine ⟨by rw [e0, if_neg (by simp at hle; omega)]; rfl, hM.put h1 (Nat.zero_le _) (by simpa using hle) fun _ => by omega⟩
  · have hl1 := hM.len p.1 (mem_perm hp hpm)
    refine loc p.2 (p.1.synced : Int) w1 _ k1 fun w2 g k2 c0 c1 => ?_
    have e0 : apM s l M = if 1048576 < p.1.bytes.length + l.length then (4, M) else (0, putM ⟨s, p.1.bytes ++ l, p.1.synced⟩ M) := by unfold apM; rw [if_neg (by simp [h1]), h2]
    refine cond_f rfl <| cond_f rfl ?_
    refine fine p.2 p.1.bytes p.1.synced w2 _ h1 hl1 (h.rt p hpm).rd k2 c0 c1 (fun hgt => by rw [e0, if_pos hgt]) (fun hle => ?_)
    refine ⟨by rw [e0, if_neg (by omega)], hM.put h1 ?_ (by simpa using hle) fun hn => by rw [h2] at hn; cases hn⟩
    have := hM.syn p.1 (mem_perm hp hpm)
    simp only [List.length_append]; omega
end Go.Proofs.YtdaghggdmgbpnaaDoor.Dk
