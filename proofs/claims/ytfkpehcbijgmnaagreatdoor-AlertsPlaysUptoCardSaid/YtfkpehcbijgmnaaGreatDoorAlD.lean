/- Layer 21 (alerts): the set; New, Get, Put, Len. Own work. -/
import Derived.Test.YtfkpehcbijgmnaaGreatDoorAlC
namespace Go.Proofs.YtfkpehcbijgmnaaGreatDoor.Al
open Go Vm Go.RowKit Num Mem Utf Lib Lab
variable {ω ω' : Tg} {w w' w0 : World} {t gs gm : Nat} {T : Nat → Bool} {pl : QL} {M : List Av} {rs ms now : Int}

/-! ## Plain: alerts that rise by their label sets -/
structure WFm (M : List Av) : Prop where
  up : M.Pairwise ltA
  ok : ∀ a ∈ M, (rt a.1).1 = 0
  cnt : M.length ≤ 500
theorem wf_nil : WFm [] := ⟨List.Pairwise.nil, by simp, by simp⟩
def getM (M : List Av) (m : List Lb) : Option Av := M.find? fun a => decide (a.1 = m)
def insM (a : Av) : List Av → List Av
  | [] => [a]
  | b :: r => if b.1 = a.1 then a :: r else if cmpL a.1 b.1 < 0 then a :: b :: r else b :: insM a r
theorem lt_ne {a b : Av} (h : ltA a b) : a.1 ≠ b.1 := fun e => by unfold ltA at h; rw [e, cmpL_cmp.self] at h; omega
theorem uniq (h : M.Pairwise ltA) {a b : Av} (ha : a ∈ M) (hb : b ∈ M) (e : a.1 = b.1) : a = b := by
  induction M with
  | nil => cases ha
  | cons x r ih =>
    have h' := List.pairwise_cons.1 h
    rcases List.mem_cons.1 ha with ea | ha'
    · rcases List.mem_cons.1 hb with eb | hb'
      · rw [ea, eb]
      · exact absurd e (by rw [ea]; exact lt_ne (h'.1 b hb'))
    · rcases List.mem_cons.1 hb with eb | hb'
      · exact absurd e.symm (by rw [eb]; exact lt_ne (h'.1 a ha'))
      · exact ih h'.2 ha' hb'
theorem getM_some (h : M.Pairwise ltA) {m : List Lb} {a : Av} : getM M m = some a ↔ a ∈ M ∧ a.1 = m := by
  unfold getM
  constructor
  · intro e
    exact ⟨List.mem_of_find?_eq_some e, by have := List.find?_some e; simpa using this⟩
  · rintro ⟨h1, rfl⟩
    cases hf : M.find? fun b => decide (b.1 = a.1) with
    | none => exact absurd (List.find?_eq_none.1 hf a h1) (by simp)
    | some b =>
      have e := List.find?_some hf
      rw [uniq h (List.mem_of_find?_eq_some hf) h1 (by simpa using e)]
theorem getM_none {m : List Lb} : getM M m = none ↔ ∀ a ∈ M, a.1 ≠ m := by
  unfold getM
  rw [List.find?_eq_none]; simp
theorem mem_insM {a x : Av} : ∀ {M : List Av}, M.Pairwise ltA → (x ∈ insM a M ↔ x = a ∨ (x ∈ M ∧ x.1 ≠ a.1))
  | [], _ => by simp [insM]
  | b :: r, h => by
    have h' := List.pairwise_cons.1 h
    unfold insM
    split
    · rename_i e
      have hr : ∀ x ∈ r, x.1 ≠ a.1 := fun x hx => by rw [← e]; exact (lt_ne (h'.1 x hx)).symm
      simp only [List.mem_cons]
      constructor
      · rintro (rfl | hx)
        · exact .inl rfl
        · exact .inr ⟨.inr hx, hr x hx⟩
      · rintro (rfl | ⟨rfl | hx, hn⟩)
        · exact .inl rfl
        · exact absurd e hn
        · exact .inr hx
    · rename_i e
      split
      · rename_i hl
        have hr : ∀ x ∈ b :: r, x.1 ≠ a.1 := fun x hx => by
          rcases List.mem_cons.1 hx with rfl | hx
          · exact e
          · exact (lt_ne (cmpL_cmp.trans _ _ _ hl (h'.1 x hx) : ltA a x)).symm
        simp only [List.mem_cons]
        constructor
        · rintro (rfl | rfl | hx)
          · exact .inl rfl
          · exact .inr ⟨.inl rfl, e⟩
          · exact .inr ⟨.inr hx, hr x (List.mem_cons_of_mem _ hx)⟩
        · rintro (rfl | ⟨rfl | hx, hn⟩)
          · exact .inl rfl
          · exact .inr (.inl rfl)
          · exact .inr (.inr hx)
      · rw [List.mem_cons, mem_insM h'.2]
        simp only [List.mem_cons]
        constructor
        · rintro (rfl | rfl | ⟨hx, hn⟩)
          · exact .inr ⟨.inl rfl, e⟩
          · exact .inl rfl
          · exact .inr ⟨.inr hx, hn⟩
        · rintro (rfl | ⟨rfl | hx, hn⟩)
          · exact .inr (.inl rfl)
          · exact .inl rfl
          · exact .inr (.inr ⟨hx, hn⟩)
theorem insM_up {a : Av} : ∀ {M : List Av}, M.Pairwise ltA → (insM a M).Pairwise ltA
  | [], _ => by simp [insM]
  | b :: r, h => by
    have h' := List.pairwise_cons.1 h
    unfold insM
    split
    · rename_i e
      refine List.pairwise_cons.2 ⟨fun x hx => ?_, h'.2⟩
      have := h'.1 x hx
      unfold ltA at this ⊢
      rw [← e]; exact this
    · rename_i e
      split
      · rename_i hl
        refine List.pairwise_cons.2 ⟨fun x hx => ?_, h⟩
        rcases List.mem_cons.1 hx with rfl | hx
        · exact hl
        · exact cmpL_cmp.trans _ _ _ hl (h'.1 x hx)
      · rename_i hl
        refine List.pairwise_cons.2 ⟨fun x hx => ?_, insM_up h'.2⟩
        rcases (mem_insM h'.2).1 hx with rfl | ⟨hx, _⟩
        · have h1 := cmpL_cmp.anti b.1 x.1
          have h2 : cmpL x.1 b.1 ≠ 0 := fun q => e ((cmpL_cmp.eq _ _).1 q).symm
          show cmpL b.1 x.1 < 0
          omega
        · exact h'.1 x hx
theorem insM_len {a : Av} : ∀ {M : List Av}, (insM a M).length ≤ M.length + 1
  | [] => by simp [insM]
  | b :: r => by
    unfold insM
    split
    · simp
    · split
      · simp
      · have := insM_len (a := a) (M := r); simp; omega
theorem insM_old {a o : Av} : ∀ {M : List Av}, M.Pairwise ltA → o ∈ M → o.1 = a.1 → (insM a M).length = M.length
  | [], _, h, _ => by cases h
  | b :: r, hp, h, e => by
    have h' := List.pairwise_cons.1 hp
    unfold insM
    split
    · simp
    · rename_i hne
      have hor : o ∈ r := by
        rcases List.mem_cons.1 h with rfl | h
        · exact absurd e hne
        · exact h
      split
      · rename_i hl
        have := cmpL_cmp.trans _ _ _ hl (h'.1 o hor)
        rw [e, cmpL_cmp.self] at this; omega
      · have := insM_old (a := a) (o := o) h'.2 hor e; simp [this]
theorem WFm.ins (h : WFm M) {a : Av} (ha : (rt a.1).1 = 0) (hc : (∃ o, getM M a.1 = some o) ∨ M.length < 500) : WFm (insM a M) := by
  refine ⟨insM_up h.up, fun x hx => ?_, ?_⟩
  · rcases (mem_insM h.up).1 hx with rfl | ⟨hx, _⟩
    · exact ha
    · exact h.ok x hx
  · rcases hc with ⟨o, ho⟩ | hc
    · obtain ⟨h1, h2⟩ := (getM_some h.up).1 ho
      rw [insM_old h.up h1 h2]; exact h.cnt
    · have := insM_len (a := a) (M := M); omega

/-! ## The set in memory -/
structure ASa (ω : Tg) (w : World) (t gs gm : Nat) (rs ms : Int) (pl : QL) : Prop where
  hd : BT ω w t gs 46 [.int .i64 rs, .int .i64 ms, .map (some gm)]
  mp : MV ω w (t + 1) gm (pl.map encP)
  rt : ∀ p ∈ pl, RT ω w (t + 2) p.2 2 (labs p.1.1)
abbrev AS (ω : Tg) (w : World) (t gs : Nat) (rs ms : Int) (M : List Av) : Prop := ∃ gm pl, ASa ω w t gs gm rs ms pl ∧ (pl.map (·.1)).Perm M
def Off (t : Nat) (T : Nat → Bool) : Prop := T t = false ∧ T (t + 1) = false ∧ T (t + 2) = false
theorem off_non (t : Nat) : Off t Non := ⟨rfl, rfl, rfl⟩
theorem off_one {t u : Nat} (h : u < t ∨ t + 2 < u) : Off t (Mem.One u) := ⟨beq_no (by omega), beq_no (by omega), beq_no (by omega)⟩
abbrev DT (t : Nat) : Nat → Bool := fun u => Nat.beq u t || (Nat.beq u (t + 1) || Nat.beq u (t + 2))
theorem dt_one {u : Nat} (h : u = t ∨ u = t + 1 ∨ u = t + 2) (k : Stp (Mem.One u) ω ω' w w') : Stp (DT t) ω ω' w w' := k.mono fun x hx => by
  simp only [DT, Bool.or_eq_false_iff] at hx
  rcases h with rfl | rfl | rfl
  · exact hx.1
  · exact hx.2.1
  · exact hx.2.2
theorem ASa.stp (h : ASa ω w t gs gm rs ms pl) (k : Stp T ω ω' w w') (hT : Off t T) : ASa ω' w' t gs gm rs ms pl :=
  ⟨h.hd.stp k hT.1, h.mp.stp k hT.2.1, fun p hp => (h.rt p hp).stp k hT.2.2⟩
theorem AS.stp (h : AS ω w t gs rs ms M) (k : Stp T ω ω' w w') (hT : Off t T) : AS ω' w' t gs rs ms M := let ⟨gm, pl, a, b⟩ := h; ⟨gm, pl, a.stp k hT, b⟩
theorem ASa.aw (h : ASa ω w t gs gm rs ms pl) : AW w gs gm pl := ⟨by rw [h.hd.cell]; rfl, ⟨h.mp.ex, rfl⟩, fun p hp => (h.rt p hp).rd⟩
theorem mem_perm (hp : (pl.map (·.1)).Perm M) {p : Av × Sl} (h : p ∈ pl) : p.1 ∈ M := hp.mem_iff.1 (List.mem_map_of_mem h)
theorem short (hM : WFm M) (hp : (pl.map (·.1)).Perm M) : ∀ p ∈ pl, p.1.1.length ≤ 16 := fun p h => (rt_short (hM.ok _ (mem_perm hp h))).1
theorem plen (hM : WFm M) (hp : (pl.map (·.1)).Perm M) : pl.length ≤ 500 := by have := hp.length_eq; rw [List.length_map] at this; rw [this]; exact hM.cnt
theorem getV_enc (m : List Lb) : ∀ pl : QL, getV (Lab.keyOf m) (pl.map encP) = (pl.find? fun p => decide (p.1.1 = m)).map encV
  | [] => rfl
  | p :: pl => by
    simp only [List.map_cons, encP, getV, List.find?_cons]
    by_cases e : p.1.1 = m
    · simp [e]
    · simp only [e, decide_false]
      rw [if_neg (show ¬ Lab.keyOf m = Lab.keyOf p.1.1 from fun h => e (key_inj h.symm))]
      exact getV_enc m pl
theorem get_none (hp : (pl.map (·.1)).Perm M) {m : List Lb} (h : getM M m = none) : getV (Lab.keyOf m) (pl.map encP) = none := by
  rw [getV_enc, List.find?_eq_none.2 fun p hm => by simpa using getM_none.1 h _ (mem_perm hp hm)]; rfl
theorem get_some (hp : (pl.map (·.1)).Perm M) (hM : M.Pairwise ltA) {m : List Lb} {a : Av} (h : getM M m = some a) : ∃ p ∈ pl, p.1 = a ∧ getV (Lab.keyOf m) (pl.map encP) = some (encV p) := by
  obtain ⟨h1, h2⟩ := (getM_some hM).1 h
  obtain ⟨q, hq, rfl⟩ := List.mem_map.1 (hp.mem_iff.2 h1)
  rw [getV_enc]
  cases hf : pl.find? fun p => decide (p.1.1 = m) with
  | none => exact absurd (List.find?_eq_none.1 hf q hq) (by simp [h2])
  | some p =>
    have hpm := List.mem_of_find?_eq_some hf
    have hpn : p.1.1 = m := by have := List.find?_some hf; simpa using this
    exact ⟨p, hpm, uniq hM (mem_perm hp hpm) h1 (hpn.trans h2.symm), rfl⟩

theorem new_ok (ω : Tg) (t : Nat) (h1 : 1 ≤ rs) (h2 : rs ≤ 1099511627776) (h3 : 1 ≤ ms) (h4 : ms ≤ 500) {K : Option Addr → World → Prop} (hK : ∀ gs ω' w', Stp Non ω ω' w w' → AS ω' w' t gs rs ms [] → K (some ⟨gs, 0, none⟩) w') : C.alerts_New rs ms w K := by
  unfold C.alerts_New
  refine cond_d (fun h => by omega) fun _ => cond_d (fun h => by omega) fun _ => cond_d (fun h => by omega) fun _ => cond_d (fun h => by omega) fun _ => ?_
  refine mkV (ω := ω) (t + 1) fun gm ω1 w1 k1 m1 => new_T (ω := ω1) t fun gs ω2 w2 k2 b2 => hK gs ω2 w2 (k1.trans k2) ⟨gm, [], ⟨b2, m1.stp k2 rfl, by simp⟩, by simp⟩
theorem new_bad (h : rs < 1 ∨ 1099511627776 < rs ∨ ms < 1 ∨ 500 < ms) {K : Option Addr → World → Prop} (hK : K none w) : C.alerts_New rs ms w K := by
  unfold C.alerts_New
  exact cond_d (fun h => hK) fun _ => cond_d (fun h => hK) fun _ => cond_d (fun h => hK) fun _ => cond_d (fun h => hK) fun _ => by omega
theorem len_ok (h : AS ω w t gs rs ms M) {K : Int → World → Prop} (hK : K (M.length : Int) w) : C.alerts_Set_Len (some ⟨gs, 0, none⟩) w K := by
  obtain ⟨gm, pl, h, hp⟩ := h
  unfold C.alerts_Set_Len
  refine cond_f rfl <| ptr_at ⟨some gm, by rw [addr_add, h.hd.cell]; rfl, lenV h.mp (by kernel_rfl) ?_⟩
  have := hp.length_eq
  rw [List.length_map] at this
  rw [List.length_map, this]; exact hK
theorem akey_ok {s : Sl} {m : List Lb} (ht : UTab w0) (hs : Rd w0 s 2 (labs m)) (hr : (rt m).1 = 0) {K : ByteArray → World → Prop} (hK : ∀ w', Keep w0 w' → K (Lab.keyOf m) w') : C.alerts_key s w0 K := by
  unfold C.alerts_key
  exact Lab.put_ok ht hs hr fun r w1 k1 o1 => convBS o1.rd (hK w1 k1)

/-! ## Get -/
theorem look_ok {mw : World} {ωm : Tg} (h : MV ωm mw (t + 1) gm (pl.map encP)) (hp : (pl.map (·.1)).Perm M) (hM : M.Pairwise ltA) {m : List Lb} {K : Sl → Int → Int → Bool → Prop}
    (h0 : getM M m = none → K nilS 0 0 false) (h1 : ∀ p ∈ pl, getM M m = some p.1 → K p.2 p.1.2.1 p.1.2.2 true) :
    G.rd2 C.pr (Instr.lookup 44 (.map (some gm)) (.string (Lab.keyOf m)) true) (fun v : Value => v) mw fun v b => G.ag v 3 fun c => G.vSl c[0 + 0]? fun l => G.vI .i64 c[0 + 1]? fun n => G.vI .i64 c[0 + 2]? fun k => K l n k b := by
  have run : ∀ (sl : Sl) (n k : Int) (b : Bool), (getV (Lab.keyOf m) (pl.map encP)).getD (.agg #[.slice none 0 0, .int .i64 0, .int .i64 0]) = .agg #[sl.v, .int .i64 n, .int .i64 k] → (getV (Lab.keyOf m) (pl.map encP)).isSome = b → K sl n k b →
      G.rd2 C.pr (Instr.lookup 44 (.map (some gm)) (.string (Lab.keyOf m)) true) (fun v : Value => v) mw fun v b => G.ag v 3 fun c => G.vSl c[0 + 0]? fun l => G.vI .i64 c[0 + 1]? fun n => G.vI .i64 c[0 + 2]? fun k => K l n k b := by
    intro sl n k b e1 e2 e3
    refine rd2_V (kt := 9) (et := 34) h mapT strT Tryz.zeroValue34 e1 ?_
    rw [e2]
    exact ag_at rfl ⟨sl, rfl, n, rfl, k, rfl, e3⟩
  cases hf : getM M m with
  | none => exact run nilS 0 0 false (by rw [get_none hp hf]; rfl) (by rw [get_none hp hf]; rfl) (h0 hf)
  | some a =>
    obtain ⟨p, hpm, rfl, hg⟩ := get_some hp hM hf
    exact run p.2 p.1.2.1 p.1.2.2 true (by rw [hg]; rfl) (by rw [hg]; rfl) (h1 p hpm hf)
theorem get_ok (h : AS ω w t gs rs ms M) (hM : WFm M) (ht : UTab w) {s : Sl} {m : List Lb} (hs : Rd w s 2 (labs m)) {K : Sl → Int → Int → Bool → World → Prop}
    (hn : getM M m = none → ∀ w', Keep w w' → K nilS 0 0 false w') (hy : ∀ a, getM M m = some a → ∀ r w', Keep w w' → Mem.Own w' w.heap.size 48 2 r (labs m) → K r a.2.1 a.2.2 true w') : C.alerts_Set_Get (some ⟨gs, 0, none⟩) s w K := by
  obtain ⟨gm, pl, h, hp⟩ := h
  unfold C.alerts_Set_Get
  refine new_T (ω := fun _ => 0) 7 fun g ω1 w1 k1 b1 => cond_f rfl ?_
  have t1 := (Top.init w).stp k1
  have out : ∀ {ω2 : Tg} {w2 : World} {u : Nat} {cs : List Value} (_ : cs.length = 3) (_ : BT ω2 w2 7 g 34 cs) (_ : Top w ω2 w2) (sl : Sl) (n k : Int) (b : Bool), (∀ ω' w', Stp (Mem.One 7) ω2 ω' w2 w' → Top w ω' w' → K sl n k b w') →
      G.st ⟨g, 0, none⟩ sl.v w2 fun w13 => G.st (Addr.add ⟨g, 0, none⟩ 1) (.int .i64 n) w13 fun w14 => G.st (Addr.add ⟨g, 0, none⟩ 2) (.int .i64 k) w14 fun w15 => G.cSl ⟨g, 0, none⟩ w15 fun l16 => G.cI .i64 (Addr.add ⟨g, 0, none⟩ 1) w15 fun n17 => G.cI .i64 (Addr.add ⟨g, 0, none⟩ 2) w15 fun n18 => K l16 n17 n18 b w15 := by
    intro ω2 w2 u cs hcs b2 t2 sl n k b hk
    obtain ⟨c0, c1, c2, rfl⟩ : ∃ c0 c1 c2, cs = [c0, c1, c2] := by
      match cs, hcs with
      | [c0, c1, c2], _ => exact ⟨c0, c1, c2, rfl⟩
    refine st_T b2 (by simp) fun ω3 w3 k3 b3 => st_TA b3 (by simp) fun ω4 w4 k4 b4 => st_TA b4 (by simp) fun ω5 w5 k5 b5 => ?_
    exact cSl_at (s := sl) (by rw [b5.cell]; rfl) <| cI_at (n := n) (by rw [addr_add, b5.cell]; rfl) <| cI_at (n := k) (by rw [addr_add, b5.cell]; rfl) (hk ω5 w5 ((k3.trans k4).trans k5) (((t2.stp k3).stp k4).stp k5))
  refine right_ok (ht.keep t1.k) (hs.keep t1.k) fun w2 k2 => ?_
  have b2 := b1.stp (k2.stp0 ω1)
  have t2 := t1.stp (k2.stp0 ω1)
  refine cond_ne (fun hr => ?_) (fun hr => ?_)
  · refine out (u := 0) rfl b2 t2 nilS 0 0 false fun ω' w' _ t' => hn (getM_none.2 fun a ha e => ?_) w' t'.k
    have := hM.ok a ha
    rw [e] at this; exact hr this
  have td := t2.stp (drew_stp ω1 w2)
  have bd := b2.stp (drew_stp ω1 w2)
  have hd := h.stp (td.k.stp0 ω) (off_non t)
  refine ptr_at ⟨some gm, by rw [addr_add, hd.hd.cell]; rfl, ?_⟩
  have tail : ∀ (ω3 : Tg) (w3 : World) (g2 : Nat) (p : Option (Av × Sl)) (_ : ∀ q, p = some q → q ∈ pl ∧ getM M m = some q.1) (_ : p = none → getM M m = none), BT ω3 w3 7 g 34 [nilS.v, .int .i64 0, .int .i64 0] → Top w ω3 w3 →
      w3.cell? ⟨g2, 0, none⟩ = some ((p.map (·.2)).getD nilS).v → w3.cell? ⟨g2, 1, none⟩ = some (.int .i64 ((p.map (·.1.2.1)).getD 0)) → w3.cell? ⟨g2, 2, none⟩ = some (.int .i64 ((p.map (·.1.2.2)).getD 0)) →
      G.cond (!p.isSome) (G.st ⟨g, 0, none⟩ nilS.v w3 fun w43 => G.st (Addr.add ⟨g, 0, none⟩ 1) (.int .i64 (0 : Int)) w43 fun w44 => G.st (Addr.add ⟨g, 0, none⟩ 2) (.int .i64 (0 : Int)) w44 fun w45 => G.cSl ⟨g, 0, none⟩ w45 fun l46 => G.cI .i64 (Addr.add ⟨g, 0, none⟩ 1) w45 fun n47 => G.cI .i64 (Addr.add ⟨g, 0, none⟩ 2) w45 fun n48 => K l46 n47 n48 false w45)
        (G.cSl ⟨g2, 0, none⟩ w3 fun l49 => G.cI .i64 (Addr.add ⟨g2, 0, none⟩ 1) w3 fun n50 => G.cI .i64 (Addr.add ⟨g2, 0, none⟩ 2) w3 fun n51 => C.alerts_copied l49 n50 n51 w3 fun l52 n53 n54 w55 => G.st ⟨g, 0, none⟩ l52.v w55 fun w56 => G.st (Addr.add ⟨g, 0, none⟩ 1) (.int .i64 n53) w56 fun w57 => G.st (Addr.add ⟨g, 0, none⟩ 2) (.int .i64 n54) w57 fun w58 => G.cSl ⟨g, 0, none⟩ w58 fun l59 => G.cI .i64 (Addr.add ⟨g, 0, none⟩ 1) w58 fun n60 => G.cI .i64 (Addr.add ⟨g, 0, none⟩ 2) w58 fun n61 => K l59 n60 n61 true w58) := by
    intro ω3 w3 g2 p hp1 hp2 b3 t3 c0 c1 c2
    cases p with
    | none => exact cond_t rfl (out (u := 0) rfl b3 t3 nilS 0 0 false fun ω' w' _ t' => hn (hp2 rfl) w' t'.k)
    | some q =>
      obtain ⟨hq, hg⟩ := hp1 q rfl
      have em := ((getM_some hM.up).1 hg).2
      refine cond_f rfl <| cSl_at (s := q.2) c0 <| cI_at (n := q.1.2.1) (by rw [addr_add]; exact c1) <| cI_at (n := q.1.2.2) (by rw [addr_add]; exact c2) ?_
      refine copied_ok (m := m) (by rw [← em]; exact (h.rt q hq).rd.keep t3.k) (by rw [← em]; exact short hM hp q hq) fun r w4 k4 o4 => ?_
      have s4 := k4.stp ω3 9
      have o9 := Own.tag o4 (Nat.le_refl _) ω3 9
      have b4 := b3.stp s4
      have t4 := t3.stp s4
      generalize ext ω3 w3.heap.size 9 = ω4 at *
      exact out (u := 0) rfl b4 t4 r q.1.2.1 q.1.2.2 true fun ω' w' k' t' => hy q.1 hg r w' t'.k (OT.new (o9.stp k') t')
  refine ⟨?_, ?_⟩
  · refine akey_ok (ht.keep td.k) (hs.keep td.k) hr fun w3 k3 => ⟨hd.hd.sameA (k3.stp0 ω), ?_, ?_⟩
    · have t3 := td.stp (k3.stp0 ω1)
      have b3 := bd.stp (k3.stp0 ω1)
      refine look_ok (h.stp (t3.k.stp0 ω) (off_non t)).mp hp hM.up (fun h0 => ?_) (fun p hpm h1 => ?_)
      · refine loc_ok fun g2 w4 k4 hg4 b4 => ?_
        exact tail ω1 w4 g2 none (by simp) (fun _ => h0) (b3.stp (k4.1.stp0 ω1)) (t3.stp (k4.1.stp0 ω1)) (by rw [b4.cell]; rfl) (by rw [b4.cell]; rfl) (by rw [b4.cell]; rfl)
      · refine loc_ok fun g2 w4 k4 hg4 b4 => ?_
        exact tail ω1 w4 g2 (some p) (fun q e => by cases e; exact ⟨hpm, h1⟩) (by simp) (b3.stp (k4.1.stp0 ω1)) (t3.stp (k4.1.stp0 ω1)) (by rw [b4.cell]; rfl) (by rw [b4.cell]; rfl) (by rw [b4.cell]; rfl)
    · refine newD fun g2 w4 k4 hg4 b4 => ⟨hd.hd.sameA ((Keep.trans k3 k4.1).stp0 ω), ?_⟩
      have k34 := Keep.trans k3 k4.1
      have t4 := td.stp (k34.stp0 ω1)
      have b4' := bd.stp (k34.stp0 ω1)
      have fill : ∀ (sl : Sl) (n k : Int) {Z : World → Prop}, (∀ w', KD w3 w' → Blk w' g2 34 [sl.v, .int .i64 n, .int .i64 k] → Z w') → G.st ⟨g2, 0, none⟩ sl.v w4 fun w70 => G.st (Addr.add ⟨g2, 0, none⟩ 1) (.int .i64 n) w70 fun w71 => G.st (Addr.add ⟨g2, 0, none⟩ 2) (.int .i64 k) w71 fun w72 => Z w72 := fun sl n k Z hZ =>
        stD hg4 k4 b4 (by simp) fun w5 k5 b5 => stDA hg4 k5 b5 (by simp) fun w6 k6 b6 => stDA hg4 k6 b6 (by simp) fun w7 k7 b7 => hZ w7 k7 b7
      refine look_ok (h.stp (t4.k.stp0 ω) (off_non t)).mp hp hM.up (fun h0 => ?_) (fun p hpm h1 => ?_)
      · refine fill nilS 0 0 fun w7 k7 b7 => ?_
        have k37 := Keep.trans k3 k7.1
        exact tail ω1 w7 g2 none (by simp) (fun _ => h0) (bd.stp (k37.stp0 ω1)) (td.stp (k37.stp0 ω1)) (by rw [b7.cell]; rfl) (by rw [b7.cell]; rfl) (by rw [b7.cell]; rfl)
      · refine fill p.2 p.1.2.1 p.1.2.2 fun w7 k7 b7 => ?_
        have k37 := Keep.trans k3 k7.1
        exact tail ω1 w7 g2 (some p) (fun q e => by cases e; exact ⟨hpm, h1⟩) (by simp) (bd.stp (k37.stp0 ω1)) (td.stp (k37.stp0 ω1)) (by rw [b7.cell]; rfl) (by rw [b7.cell]; rfl) (by rw [b7.cell]; rfl)
  · refine newD fun g2 w3 k3 hg3 b3 => ⟨hd.hd.sameA (k3.1.stp0 ω), ?_⟩
    have t3 := td.stp (k3.1.stp0 ω1)
    refine akey_ok (ht.keep t3.k) (hs.keep t3.k) hr fun w4 k4 => ⟨hd.hd.sameA ((Keep.trans k3.1 k4).stp0 ω), ?_⟩
    have k34 := Keep.trans k3.1 k4
    have t4 := td.stp (k34.stp0 ω1)
    have b4 := b3.keep k4
    have fill : ∀ (sl : Sl) (n k : Int) {Z : World → Prop}, (∀ w', Keep w2.drew w' → Blk w' g2 34 [sl.v, .int .i64 n, .int .i64 k] → Z w') → G.st ⟨g2, 0, none⟩ sl.v w4 fun w70 => G.st (Addr.add ⟨g2, 0, none⟩ 1) (.int .i64 n) w70 fun w71 => G.st (Addr.add ⟨g2, 0, none⟩ 2) (.int .i64 k) w71 fun w72 => Z w72 := fun sl n k Z hZ => by
      have hc : BT (ext (fun _ => 0) w2.drew.heap.size 8) w4 8 g2 34 [nilS.v, .int .i64 0, .int .i64 0] := ⟨b4, ext_new hg3⟩
      have tt := (Top.init w2.drew).stp (k34.stp _ 8)
      refine st_T hc (by simp) fun ω5 w5 k5 b5 => st_TA b5 (by simp) fun ω6 w6 k6 b6 => st_TA b6 (by simp) fun ω7 w7 k7 b7 => hZ w7 (((tt.stp k5).stp k6).stp k7).k b7.blk
    refine look_ok (h.stp (t4.k.stp0 ω) (off_non t)).mp hp hM.up (fun h0 => ?_) (fun p hpm h1 => ?_)
    · refine fill nilS 0 0 fun w7 k7 b7 => ?_
      exact tail ω1 w7 g2 none (by simp) (fun _ => h0) (bd.stp (k7.stp0 ω1)) (td.stp (k7.stp0 ω1)) (by rw [b7.cell]; rfl) (by rw [b7.cell]; rfl) (by rw [b7.cell]; rfl)
    · refine fill p.2 p.1.2.1 p.1.2.2 fun w7 k7 b7 => ?_
      exact tail ω1 w7 g2 (some p) (fun q e => by cases e; exact ⟨hpm, h1⟩) (by simp) (bd.stp (k7.stp0 ω1)) (td.stp (k7.stp0 ω1)) (by rw [b7.cell]; rfl) (by rw [b7.cell]; rfl) (by rw [b7.cell]; rfl)
end Go.Proofs.YtfkpehcbijgmnaaGreatDoor.Al
