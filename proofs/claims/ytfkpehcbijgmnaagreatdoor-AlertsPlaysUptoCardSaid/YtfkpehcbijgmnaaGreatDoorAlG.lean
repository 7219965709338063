/- Layer 21 (alerts): Sweep. Own work. -/
import Derived.Test.YtfkpehcbijgmnaaGreatDoorAlE
import Derived.Test.YtfkpehcbijgmnaaGreatDoorSortT
namespace Go.Proofs.YtfkpehcbijgmnaaGreatDoor.Al
open Go Vm Go.RowKit Num Mem Utf Lib Lab
variable {ω ω' ωb : Tg} {w w' w0 wb : World} {t u gs gm : Nat} {T : Nat → Bool} {pl : QL} {M : List Av} {rs ms now : Int}

/-! ## The keys, in order -/
theorem tiSt : TI Tryz.prog 77 9 1 16 := TI.of (z := .string ⟨#[]⟩) (by kernel_rfl) (by kernel_rfl) rfl (by decide)
def strs (l : List ByteArray) : List Value := l.map Value.string
theorem strs_enc (l : List ByteArray) : strs l = (l.map fun b => b.data.toList).map Go.Proofs.encStr := by
  unfold strs
  rw [List.map_map]
  exact List.map_congr_left fun b _ => (Srt.encStr_ba b).symm
def ky (p : Av × Sl) : ByteArray := Lab.keyOf p.1.1
def KQ (i j : VS) (a : List Value) (_ : Tg) (_ : World) : Prop := ∃ q b1 b2, i.2 = b1 ++ q :: b2 ∧ j = (i.1 ++ [q], b1 ++ b2) ∧ a = [.string (ky q)]
theorem keys_tells {Fc : Clee} {n g : Nat} {pl : QL} {Ct : Nat → Bool} (h0 : Ct 0 = false) (h1 : Ct 40 = false) (hF : ∀ args K w, C.maps_Keys_1_map_string_Alert_string_Alert.cl args K w → Fc n args K w) :
    TellsG Tryz.prog Fc (.func (.func n) #[] #[.pointer (some ⟨g, 0, none⟩)]) (([], pl) : VS) KQ (fun i => i.2 = []) (VC g gm pl) (Duo 40 41) Ct := by
  intro L I Kk Q ω w hC hI hKI hy hK hQ h0'
  refine hF _ _ _ ?_
  show C.maps_Keys_1_map_string_Alert_string_Alert (.func (.yield L) #[] #[]) (some ⟨g, 0, none⟩) w (C.maps_Keys_1_map_string_Alert_string_Alert.Kt fun _ w' => Q w')
  unfold C.maps_Keys_1_map_string_Alert_string_Alert
  obtain ⟨hb, hm⟩ := hC _ ω w h0'
  refine ptr_at ⟨some gm, hb, rangeV 40 hm mapT fun r ω1 w1 k1 i1 => ?_⟩
  refine C.maps_Keys_1_map_string_Alert_string_Alert.L3_ind fun X hX => ?_
  have key : ∀ (d : Nat) (a b : QL) (ω : Tg) (w : World), b.length = d → I (a, b) ω w → IT ω w 40 r 0 gm (pl.map encP) (b.map encP) → X (.func (.yield L) #[] #[]) (some ⟨r, 0, none⟩) w := by
    intro d
    induction d with
    | zero =>
      intro a b ω w hd hi it
      refine hX _ _ _ ?_
      unfold C.maps_Keys_1_map_string_Alert_string_Alert.S5
      have hb : b = [] := List.eq_nil_of_length_eq_zero hd
      subst hb
      exact nextV it (fun _ => hQ ω w (hK _ ω w rfl hi)) (fun a x b ω' w' hr => by simp at hr)
    | succ d ih =>
      intro a b ω w hd hi it
      refine hX _ _ _ ?_
      unfold C.maps_Keys_1_map_string_Alert_string_Alert.S5
      refine nextV it (fun hr => by have := congrArg List.length hr; rw [List.length_map, hd] at this; simp at this) (fun ra x rb ω2 w2 hr k2 it2 en k v => en _ ?_)
      obtain ⟨pa, q, pb, e1, rfl, rfl, rfl⟩ := map_split hr
      have hi2 := hI _ _ _ _ _ hi k2.one
      rw [← List.map_append] at it2
      refine ⟨ky q, rfl, ?_⟩
      refine hy (a, b) (a ++ [q], pa ++ pb) _ ω2 w2 _ ⟨q, pa, pb, e1, rfl, rfl⟩ hi2 (fun ω' w' s h' => ?_) (fun ω' w' s h' => ?_)
      · refine isB_at (cond_f rfl ?_)
        exact ih _ _ ω' w' (by rw [e1] at hd; simp at hd ⊢; omega) h' (it2.stp s h1 h0)
      · exact isB_at (cond_t rfl (hQ _ _ h'))
  exact key pl.length [] pl ω1 w1 rfl (hI _ _ _ _ _ h0' (k1.non _)) i1
theorem collectK_ok {g : Nat} (hbox : w.cell? ⟨g, 0, none⟩ = some (.map (some gm))) (hmp : MV (fun _ => 0) w 0 gm (pl.map encP)) (hl : pl.length ≤ 100000) {K : Sl → World → Prop}
    (hK : ∀ r (ql : QL) w', Keep w w' → ql.Perm pl → Mem.Own w' w.heap.size 9 1 r (strs (ql.map ky)) → K r w') : C.slices_Collect_string (.func (.func 75) #[] #[.pointer (some ⟨g, 0, none⟩)]) w K := by
  unfold C.slices_Collect_string C.slices_AppendSeq_string_string
  refine new_T (ω := fun _ => 0) 4 fun g2 ω2 w2 k2 b2 => ?_
  unfold C.slices_AppendSeq_string_string.S9 C.slices_AppendSeq_string_string.R5
  have top2 := (Top.init w).stp k2
  have hgm := hmp.lt
  refine rangeG_ok (T := Duo 2 4) (u := 3) (J := fun i ω w2 => Top w ω w2 ∧ (i.1 ++ i.2).Perm pl ∧ ∃ s, BT ω w2 4 g2 77 [Sl.v s] ∧ OT ω w2 2 9 1 s (strs (i.1.map ky)))
    (E := fun e ω w => False) (keys_tells (g := g) (gm := gm) (pl := pl) rfl rfl fun _ _ _ h => h) rfl rfl ?_ ?_ ?_ ?_ ?_ ⟨top2, by simp, nilS, b2, OT.nil ..⟩ ?_ ?_
  · rintro i j a ω ω' w w' h k
    exact h
  · rintro i ω w2 ⟨top, _⟩
    obtain ⟨es, clock, hb, hs, he⟩ := hmp.ex
    exact ⟨top.k.cell hbox, ⟨es, clock, top.k.heap hb, hs, he⟩, top.z gm hgm⟩
  · rintro S hS i ω ω' w w' ⟨top, pm, s, x1, x2⟩ k
    have z : S 0 = false ∧ S 2 = false ∧ S 4 = false := by rcases hS with rfl | rfl <;> exact ⟨rfl, rfl, rfl⟩
    exact ⟨top.stp k z.1, pm, s, x1.stp k z.2.2, x2.stp k z.2.1⟩
  · rintro S hS e ω ω' w w' h k
    exact h
  · rintro ⟨a, b⟩ j args ω w6 Rr ⟨q, b1, b2, e1, rfl, rfl⟩ ⟨top6, pm, s, x16, o6⟩ hR _
    dsimp only at e1 pm o6
    subst e1
    show C.slices_AppendSeq_string_string.S7 Rr _ _ w6
    unfold C.slices_AppendSeq_string_string.S7
    have hsn : s.n = a.length := by have := o6.own.len; simp [strs] at this; omega
    have hlen : a.length + 1 ≤ 100000 := by have := pm.length_eq; simp at this; omega
    refine ptr_at <| cSl_at (s := s) (by rw [x16.cell]; rfl) ?_
    refine push_T (n := 1) tiSt o6 rfl (by intro v hv; simp at hv; subst hv; rfl) (by simp only [maxLen]; omega) (by omega) fun r7 ω7 w7 k7 o7 _ => ?_
    refine ptr_at (st_T (x16.stp k7) (by simp) fun ω8 w8 k8 b8 => ?_)
    refine hR ω8 w8 (k7.one.trans k8.two) ⟨(top6.stp k7).stp k8, by
      show (a ++ [q] ++ (b1 ++ b2)).Perm pl
      rw [List.append_assoc]
      exact (List.Perm.append_left a (List.perm_middle (l₁ := b1) (l₂ := b2) (a := q)).symm).trans pm, r7, b8, ?_⟩
    have e4 : strs ((a ++ [q]).map ky) = strs (a.map ky) ++ [.string (ky q)] := by simp [strs]
    rw [e4]; exact o7.stp k8
  · rintro ω' w' D hD hDu ⟨⟨a, b⟩, hdn, top, pm, s, x1, o⟩
    dsimp only at hdn pm o
    subst hdn
    show C.slices_AppendSeq_string_string.S2 _ _ (pushMark undef D) w'
    unfold C.slices_AppendSeq_string_string.S2
    have sp := put_stp (ω := ω') (w := w') (o := .deferred none) hDu
    refine ptr_at (cSl_at (s := s) (by rw [x1.cell]; rfl) (marks_at hD ?_))
    have tp := top.stp sp
    exact hK s a _ tp.k (by simpa using pm) (OT.new (o.stp sp) tp)
  · rintro e ω' w' D _ _ h
    exact h.elim
theorem rising_ok (ω : Tg) (v : Nat) (hmp : MV (fun _ => 0) w 0 gm (pl.map encP)) (hl : pl.length ≤ 100000) {K : Sl → World → Prop}
    (hK : ∀ r ks ω' w', Stp Non ω ω' w w' → ks.Perm (pl.map ky) → OT ω' w' v 9 1 r (strs ks) → K r w') : C.alerts_rising_string_Alert (some gm) w K := by
  unfold C.alerts_rising_string_Alert C.maps_Keys_map_string_Alert_string_Alert
  refine newD fun g w1 k1 hg1 b1 => ?_
  unfold C.slices_Sorted_string
  refine collectK_ok (by rw [b1.cell]; rfl) (hmp.stp (k1.1.stp0 _) rfl) hl fun r ql w2 k2 pm o2 => ?_
  have k02 := Keep.trans k1.1 k2
  have o2' := o2.mono k1.1.size
  have top2 : Top w (ext (fun _ => 0) w.heap.size 2) w2 := (Top.init w).stp (k02.stp _ 2)
  have o3 : OT (ext (fun _ => 0) w.heap.size 2) w2 2 9 1 r (strs (ql.map ky)) := Own.tag o2' (Nat.le_refl _) _ 2
  have hrn : r.n = ql.length := by have := o3.own.len; simp [strs] at this; omega
  have hql := pm.length_eq
  show Srt.sortS r w2 _
  rw [strs_enc] at o3
  refine Srt.sort_T o3 (by omega) fun ω' w' k' o' => ?_
  have top3 := top2.stp k'
  have ee : ∀ l : List (List UInt8), l.map Go.Proofs.encStr = strs (l.map fun x => ⟨x.toArray⟩) := fun l => by
    rw [strs_enc, List.map_map, List.map_map]
    exact List.map_congr_left fun x _ => by simp
  rw [ee] at o'
  have pk : ((((ql.map ky).map fun b => b.data.toList).mergeSort Srt.leS).map fun x => (⟨x.toArray⟩ : ByteArray)).Perm (pl.map ky) := by
    refine ((List.mergeSort_perm _ _).map _).trans ?_
    rw [List.map_map]
    have : (ql.map ky).map ((fun x => (⟨x.toArray⟩ : ByteArray)) ∘ fun b : ByteArray => b.data.toList) = ql.map ky := by
      conv => rhs; rw [← List.map_id (ql.map ky)]
      exact List.map_congr_left fun b _ => by simp
    rw [this]
    exact pm.map ky
  refine hK r _ (ext ω w.heap.size v) w' (top3.k.stp ω v) pk ⟨o'.own, fun k hk => ext_new ?_⟩
  have := o'.tag k hk
  rcases Nat.lt_or_ge k w.heap.size with hlt | hge
  · rw [top3.z k hlt] at this; cases this
  · exact hge

/-! ## What Sweep does -/
def delP (m : List Lb) : QL → QL
  | [] => []
  | p :: r => if p.1.1 = m then r else p :: delP m r
theorem delP_map (m : List Lb) : ∀ pl : QL, delA (Lab.keyOf m) (pl.map encP) = (delP m pl).map encP
  | [] => rfl
  | p :: pl => by
    simp only [List.map_cons, encP, delA, delP]
    by_cases e : p.1.1 = m
    · rw [if_pos e, if_pos (by rw [e])]
    · rw [if_neg e, if_neg (fun h => e (key_inj h).symm)]
      have ih := delP_map m pl
      simp only [List.map_cons]
      rw [← ih]; rfl
theorem mem_delP {m : List Lb} {x : Av × Sl} : ∀ {pl : QL}, (pl.map (·.1.1)).Nodup → (x ∈ delP m pl ↔ x ∈ pl ∧ x.1.1 ≠ m)
  | [], _ => by simp [delP]
  | p :: pl, h => by
    simp only [List.map_cons, List.nodup_cons] at h
    unfold delP
    split
    · rename_i e
      have hr : ∀ x ∈ pl, x.1.1 ≠ m := fun x hx q => h.1 (by rw [e, ← q]; exact List.mem_map_of_mem (f := fun p : Av × Sl => p.1.1) hx)
      simp only [List.mem_cons]
      constructor
      · intro hx; exact ⟨.inr hx, hr x hx⟩
      · rintro ⟨rfl | hx, hn⟩
        · exact absurd e hn
        · exact hx
    · rename_i e
      rw [List.mem_cons, mem_delP h.2]
      simp only [List.mem_cons]
      constructor
      · rintro (rfl | ⟨hx, hn⟩)
        · exact ⟨.inl rfl, e⟩
        · exact ⟨.inr hx, hn⟩
      · rintro ⟨rfl | hx, hn⟩
        · exact .inl rfl
        · exact .inr ⟨hx, hn⟩
def delM (m : List Lb) (M : List Av) : List Av := M.filter fun a => decide (a.1 ≠ m)
theorem del_AS (h : ASa ω w t gs gm rs ms pl) (hp : (pl.map (·.1)).Perm M) (hM : M.Pairwise ltA) {m : List Lb} (k : Stp (Mem.One (t + 1)) ω ω' w w') (m' : MV ω' w' (t + 1) gm (delA (Lab.keyOf m) (pl.map encP))) :
    AS ω' w' t gs rs ms (delM m M) := by
  have hn := ASa.names hp hM
  rw [delP_map] at m'
  have hn' : ((delP m pl).map (·.1.1)).Nodup := by
    have := m'.nodup
    rw [List.map_map] at this
    rw [List.Nodup, List.pairwise_map] at this ⊢
    exact this.imp fun h e => h (by show Lab.keyOf _ = Lab.keyOf _; rw [e])
  refine ⟨gm, delP m pl, ⟨h.hd.stp k (beq_no (by omega)), m', fun p hpm => (h.rt p ((mem_delP hn).1 hpm).1).stp k (beq_no (by omega))⟩, ?_⟩
  refine (List.perm_ext_iff_of_nodup (nodup1 hn') (nodupM (hM.filter _))).2 fun x => ?_
  rw [List.mem_filter, List.mem_map]
  constructor
  · rintro ⟨p, hpm, rfl⟩
    obtain ⟨h1, h2⟩ := (mem_delP hn).1 hpm
    exact ⟨mem_perm hp h1, decide_eq_true h2⟩
  · rintro ⟨h1, h2⟩
    obtain ⟨q, hq, rfl⟩ := List.mem_map.1 (hp.mem_iff.2 h1)
    exact ⟨q, (mem_delP hn).2 ⟨hq, of_decide_eq_true h2⟩, rfl⟩
theorem len_del {a : Av} : ∀ {M : List Av}, M.Pairwise ltA → a ∈ M → (delM a.1 M).length + 1 = M.length
  | [], _, h => by cases h
  | b :: r, hp, h => by
    have h' := List.pairwise_cons.1 hp
    unfold delM
    rcases List.mem_cons.1 h with rfl | h
    · rw [List.filter_cons, if_neg (by simp), List.filter_eq_self.2 fun x hx => by simpa using (lt_ne (h'.1 x hx)).symm]
      rfl
    · rw [List.filter_cons, if_pos (by simpa using lt_ne (h'.1 a h))]
      have := len_del h'.2 h
      unfold delM at this
      simp only [List.length_cons]
      omega
theorem WFm.filter (h : WFm M) (f : Av → Bool) : WFm (M.filter f) :=
  ⟨h.up.filter _, fun a ha => h.ok a (List.mem_filter.1 ha).1, Nat.le_trans (List.length_filter_le _ _) h.cnt⟩
def swM (lim : Int) (M : List Av) : List Av := M.filter fun a => decide (lim < a.2.2)
def inK (ks : List ByteArray) (k : ByteArray) : Bool := ks.any fun x => x.data.toList == k.data.toList
theorem inK_iff {ks : List ByteArray} {k : ByteArray} : inK ks k = true ↔ k ∈ ks := by
  unfold inK
  rw [List.any_eq_true]
  constructor
  · rintro ⟨x, hx, e⟩
    have e := Array.toList_inj.1 (eq_of_beq e)
    have : x = k := by cases x; cases k; simp at e; rw [e]
    rw [← this]; exact hx
  · intro h; exact ⟨k, h, by simp⟩
def swept (ks : List ByteArray) (lim : Int) (a : Av) : Bool := !(inK ks (Lab.keyOf a.1) && decide (a.2.2 ≤ lim))
theorem sweep_ok (h : AS ω w t gs rs ms M) (hM : WFm M) {now keep : Int} {K : Int → Int → World → Prop}
    (h1 : (now < 0 ∨ 1125899906842624 < now ∨ keep < 0 ∨ 1099511627776 < keep) → K 0 1 w)
    (hK : 0 ≤ now → now ≤ 1125899906842624 → 0 ≤ keep → keep ≤ 1099511627776 → ∀ ω' w', Stp (DT t) ω ω' w w' → AS ω' w' t gs rs ms (swM (now - keep) M) → K ((M.length : Int) - ((swM (now - keep) M).length : Int)) 0 w') : C.alerts_Set_Sweep (some ⟨gs, 0, none⟩) now keep w K := by
  unfold C.alerts_Set_Sweep C.alerts_time
  refine cond_f rfl ?_
  refine cond_d (fun a1 => ?_) (fun a1 => cond_t rfl (h1 (.inl (by omega))))
  refine cond_not (fun a2 => h1 (.inr (.inl (by have := of_decide_eq_false a2; omega)))) (fun a2 => ?_)
  have a2 := of_decide_eq_true a2
  refine cond_d (fun a3 => h1 (.inr (.inr (.inl a3)))) fun a3 => cond_d (fun a4 => h1 (.inr (.inr (.inr (by omega))))) fun a4 => ?_
  have hK := hK (by omega) (by omega) (by omega) (by omega)
  obtain ⟨gm, pl, h, hp⟩ := h
  unfold C.alerts_Set_Sweep.S9
  refine ptr_at ⟨some gm, by rw [addr_add, h.hd.cell]; rfl, rising_ok ω (t + 3) ⟨h.mp.ex, rfl⟩ (by have := plen hM hp; omega) fun r ks ω1 w1 s1 pk o1 => ?_⟩
  have hh1 := h.stp s1 (off_non t)
  have hks : ks.Nodup := pk.nodup_iff.2 (by
    have := ASa.names hp hM.up
    rw [List.Nodup, List.pairwise_map] at this ⊢
    exact this.imp fun h e => h (key_inj e))
  have hin : ∀ a ∈ M, Lab.keyOf a.1 ∈ ks := fun a ha => by
    obtain ⟨q, hq, rfl⟩ := List.mem_map.1 (hp.mem_iff.2 ha)
    exact pk.mem_iff.2 (List.mem_map_of_mem (f := ky) hq)
  have hof : ∀ k ∈ ks, ∃ a ∈ M, k = Lab.keyOf a.1 := fun k hk => by
    obtain ⟨q, hq, rfl⟩ := List.mem_map.1 (pk.mem_iff.1 hk)
    exact ⟨q.1, mem_perm hp hq, rfl⟩
  have hrn : r.n = ks.length := by have := o1.own.len; simp [strs] at this; omega
  have hkl : ks.length ≤ 500 := by
    have h1 := pk.length_eq
    have h2 := plen hM hp
    rw [List.length_map] at h1; omega
  have hcnt := hM.cnt
  have elim : IntKind.i64.wrap (now - keep) = now - keep := wI64 (by omega) (by omega)
  refine C.alerts_Set_Sweep.L5_ind fun X hX => ?_
  have key : ∀ (d i n : Nat) (ω2 : Tg) (w2 : World), i + d = ks.length → Stp (DT t) ω ω2 w w2 → AS ω2 w2 t gs rs ms (M.filter (swept (ks.take i) (now - keep))) → n + (M.filter (swept (ks.take i) (now - keep))).length = M.length →
      OT ω2 w2 (t + 3) 9 1 r (strs ks) → X (some ⟨gs, 0, none⟩) now keep (n : Int) r ((r.n : Nat) : Int) (i : Int) w2 := by
    intro d
    induction d with
    | zero =>
      intro i n ω2 w2 hi sp a hn o
      refine hX _ _ _ _ _ _ _ _ ?_
      unfold C.alerts_Set_Sweep.S7 C.alerts_Set_Sweep.S2
      rw [List.take_of_length_le (by omega)] at a hn
      have e : M.filter (swept ks (now - keep)) = swM (now - keep) M := by
        unfold swM
        refine List.filter_congr fun b hb => ?_
        unfold swept
        rw [inK_iff.2 (hin b hb), Bool.true_and, ← decide_not]
        simp
      rw [e] at a hn
      have := hK ω2 w2 sp a
      refine cond_d (fun hh => by omega) (fun _ => ?_)
      rw [show (n : Int) = (M.length : Int) - ((swM (now - keep) M).length : Int) by omega]
      exact this
    | succ d ih =>
      intro i n ω2 w2 hi sp a hn o
      refine hX _ _ _ _ _ _ _ _ ?_
      unfold C.alerts_Set_Sweep.S7
      obtain ⟨k, hk⟩ : ∃ k, ks[i]? = some k := ⟨_, List.getElem?_eq_getElem (by omega)⟩
      obtain ⟨b, hbM, rfl⟩ := hof k (List.mem_of_getElem? hk)
      refine cond_d (fun _ => ?_) (fun hh => by omega)
      refine Rd.ix o.rd (by decide) (by omega) (by omega) fun p hp0 => ?_
      have c0 := hp0 0 (.string (Lab.keyOf b.1)) (by decide) (by rw [Int.toNat_natCast, Nat.mul_one, Nat.add_zero, strs, List.getElem?_map, hk]; rfl)
      rw [show p.add 0 = p by simp [Addr.add]] at c0
      obtain ⟨gm2, pl2, h2, hp2⟩ := a
      have hup2 : (M.filter (swept (ks.take i) (now - keep))).Pairwise ltA := hM.up.filter _
      have hni : Lab.keyOf b.1 ∉ ks.take i := fun hm => by
        obtain ⟨j, hj, hjk⟩ := List.mem_iff_getElem.1 hm
        rw [List.length_take] at hj
        rw [List.getElem_take] at hjk
        have hki : ks[i]'(by omega) = Lab.keyOf b.1 := by
          have := hk
          rw [List.getElem?_eq_getElem (by omega)] at this
          exact Option.some.inj this
        have := (List.pairwise_iff_getElem.1 hks) j i (by omega) (by omega) (by omega)
        exact this (hjk.trans hki.symm)
      have hb2 : b ∈ M.filter (swept (ks.take i) (now - keep)) := by
        rw [List.mem_filter]
        refine ⟨hbM, ?_⟩
        unfold swept
        rw [Bool.eq_false_iff.2 fun h => hni (inK_iff.1 h)]; rfl
      have hg : getM (M.filter (swept (ks.take i) (now - keep))) b.1 = some b := (getM_some hup2).2 ⟨hb2, rfl⟩
      obtain ⟨q, hqm, hqb, hget⟩ := get_some hp2 hup2 hg
      refine cS_at c0 <| ptr_at ⟨some gm2, by rw [addr_add, h2.hd.cell]; rfl, ?_⟩
      refine rd1_V (kt := 9) (et := 34) (a := encV q) h2.mp mapT strT Tryz.zeroValue34 (by rw [hget]; rfl) ?_
      refine ag_at rfl ⟨q.2, rfl, q.1.2.1, rfl, q.1.2.2, rfl, ?_⟩
      rw [elim, hqb]
      have nx : IntKind.i64.wrap ((i : Int) + 1) = ((i + 1 : Nat) : Int) := by rw [wI64 (by omega) (by omega)]; omega
      have nn : IntKind.i64.wrap ((n : Int) + 1) = ((n + 1 : Nat) : Int) := by rw [wI64 (by omega) (by omega)]; omega
      rw [nx, nn]
      have etk : ks.take (i + 1) = ks.take i ++ [Lab.keyOf b.1] := by rw [List.take_add_one, hk]; rfl
      have other : ∀ c ∈ M, c.1 ≠ b.1 → swept (ks.take (i + 1)) (now - keep) c = swept (ks.take i) (now - keep) c := fun c _ hne => by
        have e1 : inK (ks.take (i + 1)) (Lab.keyOf c.1) = inK (ks.take i) (Lab.keyOf c.1) := by
          rw [Bool.eq_iff_iff, inK_iff, inK_iff, etk, List.mem_append, List.mem_singleton]
          exact ⟨fun h => h.resolve_right fun e => hne (key_inj e), .inl⟩
        unfold swept
        rw [e1]
      refine cond_d (fun hle => ?_) (fun hgt => ?_)
      · refine ptr_at ⟨some gm2, by rw [addr_add, h2.hd.cell]; rfl, delV h2.mp mapT strT fun v ω3 w3 k3 m3 => ?_⟩
        have ea : delM b.1 (M.filter (swept (ks.take i) (now - keep))) = M.filter (swept (ks.take (i + 1)) (now - keep)) := by
          unfold delM
          rw [List.filter_filter]
          refine List.filter_congr fun c hc => ?_
          by_cases e : c.1 = b.1
          · have := uniq hM.up hc hbM e
            subst this
            have e1 : swept (ks.take (i + 1)) (now - keep) c = false := by
              unfold swept
              rw [inK_iff.2 (by rw [etk]; simp), decide_eq_true hle]; rfl
            rw [e1]; simp
          · rw [other c hc e, decide_eq_true e]; rfl
        have hl := len_del hup2 hb2
        rw [ea] at hl
        refine ih (i + 1) (n + 1) ω3 w3 (by omega) (sp.trans (dt_one (by omega) k3)) ?_ (by omega) (o.stp k3 (beq_no (by omega)))
        have := del_AS h2 hp2 hup2 k3 m3
        rw [ea] at this; exact this
      · have ea : M.filter (swept (ks.take (i + 1)) (now - keep)) = M.filter (swept (ks.take i) (now - keep)) := by
          refine List.filter_congr fun c hc => ?_
          by_cases e : c.1 = b.1
          · have := uniq hM.up hc hbM e
            subst this
            unfold swept
            rw [decide_eq_false hgt, Bool.and_false, Bool.and_false]
          · exact other c hc e
        refine ih (i + 1) n ω2 w2 (by omega) sp ?_ (by rw [ea]; exact hn) o
        rw [ea]; exact ⟨gm2, pl2, h2, hp2⟩
  have e0 : M.filter (swept (ks.take 0) (now - keep)) = M := List.filter_eq_self.2 fun b _ => by simp [swept, inK]
  rw [hrn]
  have := key ks.length 0 0 ω1 w1 (by omega) (s1.non _) (by rw [e0]; exact ⟨gm, pl, hh1, hp⟩) (by rw [e0]; omega) o1
  rw [hrn] at this; exact this
end Go.Proofs.YtfkpehcbijgmnaaGreatDoor.Al
