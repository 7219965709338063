/- Layer 21 (alerts): the reference's set. Own work. -/
import Derived.Test.YtfkpehcbijgmnaaGreatDoorAlG
import Derived.Test.YtfkpehcbijgmnaaGreatDoorAlR
namespace Go.Proofs.YtfkpehcbijgmnaaGreatDoor.Al
open Go Vm Go.RowKit Num Mem Utf Lib Lab
variable {ω ω' ωb : Tg} {w w' w0 wb : World} {t u v gr : Nat} {T : Nat → Bool} {ql : QL} {M : List Av} {rs ms now : Int} {m : List Lb} {l s x : Sl}

/-! ## Plain: places -/
def posM (M : List Av) (m : List Lb) : Nat := (M.takeWhile fun a => decide (cmpL a.1 m < 0)).length
theorem posM_le : posM M m ≤ M.length := by
  unfold posM
  have := List.takeWhile_prefix (p := fun a : Av => decide (cmpL a.1 m < 0)) (l := M)
  exact this.length_le
theorem posM_lt : ∀ {M : List Av} {i : Nat} {a : Av}, i < posM M m → M[i]? = some a → cmpL a.1 m < 0
  | [], i, a, h, _ => by simp [posM] at h
  | b :: r, i, a, h, e => by
    unfold posM at h
    rw [List.takeWhile_cons] at h
    split at h
    · rename_i hb
      cases i with
      | zero => simp at e; subst e; exact of_decide_eq_true hb
      | succ i => exact posM_lt (M := r) (by unfold posM; simpa using h) (by simpa using e)
    · simp at h
theorem posM_ge : ∀ {M : List Av} {i : Nat} {a : Av}, M.Pairwise ltA → posM M m ≤ i → M[i]? = some a → ¬ cmpL a.1 m < 0
  | [], i, a, _, _, e => by simp at e
  | b :: r, i, a, hM, h, e => by
    have h' := List.pairwise_cons.1 hM
    unfold posM at h
    rw [List.takeWhile_cons] at h
    split at h
    · rename_i hb
      cases i with
      | zero => simp at h
      | succ i => exact posM_ge (M := r) h'.2 (by unfold posM; simpa using h) (by simpa using e)
    · rename_i hb
      have hb : ¬ cmpL b.1 m < 0 := by simpa using hb
      cases i with
      | zero => simp at e; subst e; exact hb
      | succ i =>
        have hm : a ∈ r := List.mem_of_getElem? (by simpa using e)
        exact fun hlt => hb (cmpL_cmp.trans _ _ _ (h'.1 a hm) hlt)
theorem posM_some (hM : M.Pairwise ltA) {o : Av} (h : getM M m = some o) : M[posM M m]? = some o := by
  obtain ⟨h1, h2⟩ := (getM_some hM).1 h
  obtain ⟨j, hj, ej⟩ := List.mem_iff_getElem.1 h1
  have ej' : M[j]? = some o := by rw [List.getElem?_eq_getElem hj, ej]
  have hge : posM M m ≤ j := by
    rcases Nat.lt_or_ge j (posM M m) with hlt | hge
    · have := posM_lt hlt ej'
      rw [h2, cmpL_cmp.self] at this; omega
    · exact hge
  rcases Nat.eq_or_lt_of_le hge with e | hlt
  · rw [e]; exact ej'
  · have hp : posM M m < M.length := by omega
    have a0 := posM_ge (m := m) hM (Nat.le_refl _) (List.getElem?_eq_getElem hp)
    have := (List.pairwise_iff_getElem.1 hM) (posM M m) j hp hj hlt
    rw [ej] at this
    unfold ltA at this
    rw [h2] at this
    exact absurd this a0
theorem posM_at (hM : M.Pairwise ltA) {o : Av} (h : M[posM M m]? = some o) : (getM M m).isSome = decide (o.1 = m) := by
  by_cases e : o.1 = m
  · rw [(getM_some hM).2 ⟨List.mem_of_getElem? h, e⟩, decide_eq_true e]; rfl
  · rw [decide_eq_false e]
    cases hg : getM M m with
    | none => rfl
    | some q =>
      have := posM_some hM hg
      rw [h] at this
      injection this with this
      exact absurd ((getM_some hM).1 hg).2 (by rw [← this]; exact e)
theorem posM_end (hM : M.Pairwise ltA) (h : M.length ≤ posM M m) : getM M m = none := by
  cases hg : getM M m with
  | none => rfl
  | some q =>
    have := posM_some hM hg
    rw [List.getElem?_eq_none h] at this; cases this
theorem insM_split {a : Av} : ∀ {M : List Av}, M.Pairwise ltA → insM a M = M.take (posM M a.1) ++ (a :: M.drop (posM M a.1 + if (getM M a.1).isSome = true then 1 else 0))
  | [], _ => by simp [insM, posM, getM]
  | b :: r, hM => by
    have h' := List.pairwise_cons.1 hM
    by_cases hb : cmpL b.1 a.1 < 0
    · have ep : posM (b :: r) a.1 = posM r a.1 + 1 := by unfold posM; rw [List.takeWhile_cons, if_pos (decide_eq_true hb)]; rfl
      have hne : b.1 ≠ a.1 := fun e => by rw [e, cmpL_cmp.self] at hb; omega
      have eg : getM (b :: r) a.1 = getM r a.1 := by unfold getM; rw [List.find?_cons, decide_eq_false hne]
      have hn : ¬ cmpL a.1 b.1 < 0 := by have := cmpL_cmp.anti b.1 a.1; omega
      unfold insM
      rw [if_neg hne, if_neg hn, ep, eg, insM_split h'.2, List.take_succ_cons, show posM r a.1 + 1 + (if (getM r a.1).isSome = true then 1 else 0) = (posM r a.1 + (if (getM r a.1).isSome = true then 1 else 0)) + 1 by omega, List.drop_succ_cons]
      rfl
    · have ep : posM (b :: r) a.1 = 0 := by unfold posM; rw [List.takeWhile_cons, if_neg (by simpa using hb)]; rfl
      have e0 : (b :: r)[posM (b :: r) a.1]? = some b := by rw [ep]; rfl
      have := posM_at hM e0
      rw [this, ep]
      unfold insM
      by_cases e : b.1 = a.1
      · rw [if_pos e, decide_eq_true e]; rfl
      · rw [if_neg e, decide_eq_false e, if_pos (by
          have h1 := cmpL_cmp.anti b.1 a.1
          have h2 : cmpL b.1 a.1 ≠ 0 := fun q => e ((cmpL_cmp.eq _ _).1 q)
          omega)]; rfl

/-! ## At -/
theorem rat_ok (h : RA w0 l ql) (eq : ql.map (·.1) = M) (hM : M.Pairwise ltA) (hs : ∀ p ∈ ql, p.1.1.length ≤ 16) (hl : ql.length ≤ 1000) (hx : Rd w0 x 2 (labs m)) {K : Int → Bool → World → Prop} (hK : ∀ w', Keep w0 w' → K ((posM M m : Nat) : Int) (getM M m).isSome w') : C.tocsinref21_At l x w0 K := by
  have hln := rdA_n h.row
  have hq : ql.length = M.length := by rw [← eq, List.length_map]
  have at_ : ∀ {i : Nat} {p : Av × Sl}, ql[i]? = some p → M[i]? = some p.1 := fun {i p} hp => by rw [← eq, List.getElem?_map, hp]; rfl
  unfold C.tocsinref21_At
  refine C.tocsinref21_At.L5_ind fun X hX => ?_
  have stop : ∀ w, Keep w0 w → C.tocsinref21_At.S2 K l x ((posM M m : Nat) : Int) w := by
    intro w k
    unfold C.tocsinref21_At.S2
    refine cond_d (fun hlt => ?_) (fun hge => ?_)
    · obtain ⟨p, hp⟩ : ∃ p, ql[posM M m]? = some p := ⟨_, List.getElem?_eq_getElem (by omega)⟩
      have hpm := List.mem_of_getElem? hp
      refine rdA_at (h.row.keep k) (k := posM M m) rfl hp fun a c0 _ _ => cSl_at c0 <| rsame_ok ((h.lab p hpm).keep k) (hx.keep k) (by have := hs p hpm; omega) fun w2 k2 => ?_
      rw [← posM_at hM (at_ hp)]
      exact hK w2 (Keep.trans k k2)
    · have := hK w k
      rw [posM_end hM (by omega)] at this; exact this
  have key : ∀ (d k : Nat) (w : World), k = d → posM M m ≤ k → k ≤ ql.length → Keep w0 w → X l x (k : Int) w := by
    intro d
    induction d with
    | zero =>
      intro k w hk hp hkl kp
      refine hX _ _ _ _ ?_
      unfold C.tocsinref21_At.S7
      refine cond_d (fun hh => by omega) fun _ => ?_
      rw [show (k : Int) = ((posM M m : Nat) : Int) by omega]
      exact stop w kp
    | succ d ih =>
      intro k w hk hp hkl kp
      refine hX _ _ _ _ ?_
      unfold C.tocsinref21_At.S7
      refine cond_d (fun _ => ?_) (fun hh => by omega)
      obtain ⟨p, hpi⟩ : ∃ p, ql[k - 1]? = some p := ⟨_, List.getElem?_eq_getElem (by omega)⟩
      have hpm := List.mem_of_getElem? hpi
      have ek : IntKind.i64.wrap ((k : Int) - 1) = ((k - 1 : Nat) : Int) := by rw [wI64 (by omega) (by omega)]; omega
      rw [ek]
      refine rdA_at (h.row.keep kp) (k := k - 1) rfl hpi fun a c0 _ _ => cSl_at c0 <| rcmp_ok ((h.lab p hpm).keep kp) (hx.keep kp) (by have := hs p hpm; omega) fun w2 k2 => ?_
      refine cond_d (fun hge => ?_) (fun hlt => ?_)
      · refine ih (k - 1) w2 (by omega) ?_ (by omega) (Keep.trans kp k2)
        rcases Nat.lt_or_ge (k - 1) (posM M m) with h1 | h1
        · have := posM_lt h1 (at_ hpi); omega
        · exact h1
      · have : k = posM M m := by
          rcases Nat.lt_or_ge (k - 1) (posM M m) with h1 | h1
          · omega
          · exact absurd (by omega) (posM_ge hM h1 (at_ hpi))
        rw [show (k : Int) = ((posM M m : Nat) : Int) by omega]
        exact stop w2 (Keep.trans kp k2)
  exact (by rw [hln]; exact key ql.length ql.length w0 rfl (by rw [hq]; exact posM_le) (Nat.le_refl _) (Keep.refl w0))

/-! ## Add -/
theorem avs_take (n : Nat) (ql : QL) : (avs ql).take (n * 3) = avs (ql.take n) := by
  have e : ql = ql.take n ++ ql.drop n := (List.take_append_drop n ql).symm
  rcases Nat.lt_or_ge n ql.length with h | h
  · conv => lhs; rw [e, avs_app, List.take_append_of_le_length (by rw [avs_len, List.length_take]; omega), List.take_of_length_le (by rw [avs_len, List.length_take]; omega)]
  · rw [List.take_of_length_le (by rw [avs_len]; omega), List.take_of_length_le h]
theorem avs_drop (n : Nat) (ql : QL) : (avs ql).drop (n * 3) = avs (ql.drop n) := by
  have e : ql = ql.take n ++ ql.drop n := (List.take_append_drop n ql).symm
  rcases Nat.lt_or_ge n ql.length with h | h
  · conv => lhs; rw [e, avs_app, List.drop_append_of_le_length (by rw [avs_len, List.length_take]; omega), List.drop_of_length_le (by rw [avs_len, List.length_take]; omega), List.nil_append]
  · rw [List.drop_of_length_le (by rw [avs_len]; omega), List.drop_of_length_le h]; rfl
def rg (a b : Nat) (c d : Nat) (x : Nat) : Nat := if x = a then b else if x = c then d else 0
theorem own9_ok {s : Sl} {m : List Lb} (h : Rd w s 2 (labs m)) (hm : m.length ≤ 16) {K : Sl → World → Prop} (hK : ∀ r w', Keep w w' → Mem.Own w' w.heap.size 48 2 r (labs m) → K r w') : C.tocsinref09_Own s w K := by
  have hn := rdL_n h
  unfold C.tocsinref09_Own
  refine app_T tiL (OT.nil (fun _ => 0) w 5 48 2) h labs_one (by simp only [maxLen, nilS]; omega) (by simp only [nilS]; omega) fun r ω' w' k o _ => ?_
  have top := (Top.init w).stp k
  rw [List.nil_append] at o
  exact hK r w' top.k (OT.new o top)
theorem add_ok (ω : Tg) (h : RA w l ql) (eq : ql.map (·.1) = M) (hM : M.Pairwise ltA) (hs : ∀ p ∈ ql, p.1.1.length ≤ 16) (hl : ql.length ≤ 1000) (hlab : ∀ p ∈ ql, RT ω w (t + 2) p.2 2 (labs p.1.1)) (hx : Rd w s 2 (labs m)) (hm : m.length ≤ 16) {st en : Int} {K : Sl → World → Prop}
    (hK : ∀ r ql' ω' w', Stp Non ω ω' w w' → RT ω' w' (t + 1) r 3 (avs ql') → (∀ p ∈ ql', RT ω' w' (t + 2) p.2 2 (labs p.1.1)) → ql'.map (·.1) = insM (m, st, en) M → K r w') : C.tocsinref21_Add l s st en w K := by
  have hln := rdA_n h.row
  have hq : ql.length = M.length := by rw [← eq, List.length_map]
  have hpos := posM_le (M := M) (m := m)
  unfold C.tocsinref21_Add
  refine new_T (ω := fun _ => 0) 7 fun g ω1 w1 k1 b1 => ?_
  have top1 := (Top.init w).stp k1
  refine cSl_at (s := s) (by rw [b1.cell]; rfl) <| rat_ok (h.keep top1.k) eq hM hs hl (hx.keep top1.k) fun w2 k2 => ?_
  have top2 := top1.stp (k2.stp0 ω1)
  have b2 := b1.stp (k2.stp0 ω1)
  refine cSl_at (s := s) (by rw [b2.cell]; rfl) <| own9_ok (hx.keep top2.k) hm fun r w3 k3 o3 => ?_
  have s3 := k3.stp ω1 5
  have o5 : OT (ext ω1 w2.heap.size 5) w3 5 48 2 r (labs m) := Own.tag o3 (Nat.le_refl _) ω1 5
  have b3 := b2.stp s3
  have top3 := top2.stp s3
  generalize ext ω1 w2.heap.size 5 = ω3 at *
  refine st_T b3 (by simp) fun ω4 w4 k4 b4 => ?_
  have top4 := top3.stp k4
  have o4 := o5.stp k4
  refine Rd.slc (h.row.keep top4.k) (lo := 0) (hi := posM M m) (Nat.zero_le _) (by omega) rfl rfl fun la hla hna _ => ?_
  rw [Nat.zero_mul, List.drop_zero, Nat.sub_zero, avs_take] at hla
  refine app_T tiA (OT.nil ω4 w4 2 34 3) hla avs_one (by simp only [maxLen, nilS]; omega) (by simp only [nilS]; omega) fun r5 ω5 w5 k5 o5' n5 => ?_
  rw [List.nil_append] at o5'
  have n5 : r5.n = posM M m := by rw [n5, hna]; simp [nilS]
  have b5 := b4.stp k5
  refine cSl_at (s := r) (by rw [b5.cell]; rfl) <| cI_at (n := st) (by rw [addr_add, b5.cell]; rfl) <| cI_at (n := en) (by rw [addr_add, b5.cell]; rfl) ?_
  refine push_T (n := 1) tiA o5' rfl (by intro v hv; simp at hv; rcases hv with rfl | rfl | rfl <;> rfl) (by simp only [maxLen]; omega) (by omega) fun r6 ω6 w6 k6 o6 n6 => ?_
  have top6 := (top4.stp k5).stp k6
  have o46 := (o4.stp k5).stp k6
  have e6 : avs (ql.take (posM M m)) ++ [r.v, .int .i64 st, .int .i64 en] = avs (ql.take (posM M m) ++ [((m, st, en), r)]) := (avs_snoc _ ((m, st, en), r)).symm
  have o6 : OT ω6 w6 2 34 3 r6 (avs (ql.take (posM M m) ++ [((m, st, en), r)])) := by rw [← e6]; exact o6
  have fin : ∀ (i : Nat), i ≤ ql.length → M.take (posM M m) ++ ((m, st, en) :: M.drop i) = insM (m, st, en) M → C.tocsinref21_Add.S2 K l (i : Int) r6 w6 := by
    intro i hi he
    unfold C.tocsinref21_Add.S2
    refine Rd.slc (h.row.keep top6.k) (lo := i) (hi := l.n) (by omega) (Nat.le_refl _) rfl rfl fun lb hlb hnb _ => ?_
    have hlb' : Rd w6 lb 3 (avs (ql.drop i)) := by
      rw [avs_drop, List.take_of_length_le (by rw [avs_len, List.length_drop]; omega)] at hlb
      exact hlb
    refine app_T tiA o6 hlb' avs_one (by simp only [maxLen]; omega) (by omega) fun r7 ω7 w7 k7 o7 _ => ?_
    rw [← avs_app] at o7
    have top7 := top6.stp k7
    have o57 := o46.stp k7
    have sp := rtg_stp top7.k ω ω7 (rg 2 (t + 1) 5 (t + 2))
    refine hK r7 _ (rtg ω ω7 w.heap.size (rg 2 (t + 1) 5 (t + 2))) w7 sp ((o7.rt).rtg top7 _) (fun p hp => ?_) ?_
    · rcases List.mem_append.1 hp with hp | hp
      · rcases List.mem_append.1 hp with hp | hp
        · exact (hlab p (List.mem_of_mem_take hp)).stp sp
        · rw [List.mem_singleton.1 hp]; exact (o57.rt).rtg top7 (rg 2 (t + 1) 5 (t + 2))
      · exact (hlab p (List.mem_of_mem_drop hp)).stp sp
    · rw [List.map_append, List.map_append, List.map_take, List.map_drop, eq, List.append_assoc]; exact he
  have es := insM_split (a := (m, st, en)) hM
  cases hg : (getM M m).isSome with
  | true =>
    rw [show (((m, st, en) : Av)).1 = m from rfl, if_pos hg] at es
    refine cond_t rfl ?_
    rw [wI64 (by omega) (by omega), show ((posM M m : Nat) : Int) + 1 = ((posM M m + 1 : Nat) : Int) by omega]
    obtain ⟨o, ho⟩ := Option.isSome_iff_exists.1 hg
    have := (List.getElem?_eq_some_iff.1 (posM_some hM ho)).1
    exact fin (posM M m + 1) (by omega) es.symm
  | false =>
    rw [show (((m, st, en) : Av)).1 = m from rfl, if_neg (by rw [hg]; decide), Nat.add_zero] at es
    exact cond_f rfl (fin (posM M m) (by omega) es.symm)

/-! ## The set -/
structure RSa (ω : Tg) (w : World) (t gr : Nat) (rs ms : Int) (l : Sl) (ql : QL) : Prop where
  hd : BT ω w t gr 40 [.int .i64 rs, .int .i64 ms, l.v]
  row : RT ω w (t + 1) l 3 (avs ql)
  lab : ∀ p ∈ ql, RT ω w (t + 2) p.2 2 (labs p.1.1)
abbrev RS (ω : Tg) (w : World) (t gr : Nat) (rs ms : Int) (M : List Av) : Prop := ∃ l ql, RSa ω w t gr rs ms l ql ∧ ql.map (·.1) = M
theorem RSa.stp (h : RSa ω w t gr rs ms l ql) (k : Stp T ω ω' w w') (hT : Off t T) : RSa ω' w' t gr rs ms l ql := ⟨h.hd.stp k hT.1, h.row.stp k hT.2.1, fun p hp => (h.lab p hp).stp k hT.2.2⟩
theorem RS.stp (h : RS ω w t gr rs ms M) (k : Stp T ω ω' w w') (hT : Off t T) : RS ω' w' t gr rs ms M := let ⟨l, ql, a, b⟩ := h; ⟨l, ql, a.stp k hT, b⟩
theorem RSa.ra (h : RSa ω w t gr rs ms l ql) : RA w l ql := ⟨h.row.rd, fun p hp => (h.lab p hp).rd⟩
theorem shortq (hM : WFm M) (eq : ql.map (·.1) = M) : ∀ p ∈ ql, p.1.1.length ≤ 16 := fun p hp => (rt_short (hM.ok _ (by rw [← eq]; exact List.mem_map_of_mem hp))).1
theorem lenq (hM : WFm M) (eq : ql.map (·.1) = M) : ql.length ≤ 500 := by have := hM.cnt; rw [← eq, List.length_map] at this; exact this
theorem rnew_ok (ω : Tg) (t : Nat) (h1 : 1 ≤ rs) (h2 : rs ≤ 1099511627776) (h3 : 1 ≤ ms) (h4 : ms ≤ 500) {K : Option Addr → World → Prop} (hK : ∀ gr ω' w', Stp Non ω ω' w w' → RS ω' w' t gr rs ms [] → K (some ⟨gr, 0, none⟩) w') : C.tocsinref21_New rs ms w K := by
  unfold C.tocsinref21_New
  refine cond_d (fun h => by omega) fun _ => cond_d (fun h => by omega) fun _ => cond_d (fun h => by omega) fun _ => cond_d (fun h => by omega) fun _ => ?_
  exact new_T (ω := ω) t fun gr ω2 w2 k2 b2 => hK gr ω2 w2 k2 ⟨nilS, [], ⟨b2, RT.nil .., by simp⟩, rfl⟩
theorem rnew_bad (h : rs < 1 ∨ 1099511627776 < rs ∨ ms < 1 ∨ 500 < ms) {K : Option Addr → World → Prop} (hK : K none w) : C.tocsinref21_New rs ms w K := by
  unfold C.tocsinref21_New
  exact cond_d (fun h => hK) fun _ => cond_d (fun h => hK) fun _ => cond_d (fun h => hK) fun _ => cond_d (fun h => hK) fun _ => by omega

theorem rput_S2 {g : Nat} {st en : Int} (sp : Stp (DT t) ωb ω wb w) (h : RSa ω w t gr rs ms l ql) (eq : ql.map (·.1) = M) (hM : WFm M) (hb : BT ω w v g 34 [s.v, .int .i64 st, .int .i64 en]) (hs : RT ωb wb u s 2 (labs m)) (hu : DT t u = false) (hr : (rt m).1 = 0)
    {K : Int → World → Prop} (hK : ∀ ω' w', Stp (DT t) ωb ω' wb w' → RS ω' w' t gr rs ms (insM (m, st, en) M) → K 0 w') : C.tocsinref21_Set_Put.S2 K (some ⟨gr, 0, none⟩) (some ⟨g, 0, none⟩) w := by
  unfold C.tocsinref21_Set_Put.S2
  have s1 := drew_stp ω w
  have h1 := h.stp s1 (off_non t)
  have b1 := hb.stp s1
  have sp1 := sp.trans (s1.non _)
  refine ptr_at <| cSl_at (s := l) (by rw [addr_add, h1.hd.cell]; rfl) <| ptr_at <| cSl_at (s := s) (by rw [b1.cell]; rfl) <| cI_at (n := st) (by rw [addr_add, b1.cell]; rfl) <| cI_at (n := en) (by rw [addr_add, b1.cell]; rfl) ?_
  refine add_ok (t := t) ω h1.ra eq hM.up (shortq hM eq) (by have := lenq hM eq; omega) h1.lab (hs.stp sp1 hu).rd (rt_short hr).1 fun r ql' ω2 w2 k2 r2 l2 e2 => ?_
  have h2 := h1.stp k2 (off_non t)
  refine ptr_at <| st_TA h2.hd (by simp) fun ω3 w3 k3 b3 => ?_
  exact hK ω3 w3 ((sp1.trans (k2.non _)).trans (dt_one (.inl rfl) k3)) ⟨r, ql', ⟨b3, r2.stp k3 (beq_no (by omega)), fun p hp => (l2 p hp).stp k3 (beq_no (by omega))⟩, e2⟩
theorem rput_S3 {g : Nat} {st en : Int} (sp : Stp (DT t) ωb ω wb w) (hfr : ∀ i, i < wb.heap.size → ωb i ≠ v) (hvt : t + 2 < v) (h : RSa ω w t gr rs ms l ql) (eq : ql.map (·.1) = M) (hM : WFm M) (hb : BT ω w v g 34 [s.v, .int .i64 st, .int .i64 en]) (hs : RT ωb wb u s 2 (labs m)) (hu : DT t u = false) (hr : (rt m).1 = 0)
    {K : Int → World → Prop} (hK : ∀ ω' w', Stp (DT t) ωb ω' wb w' → RS ω' w' t gr rs ms (insM (m, (match getM M m with | none => st | some o => (if now < o.2.2 then (if o.2.1 < st then o.2.1 else st) else st)), en) M) → K 0 w') :
    C.tocsinref21_Set_Put.S3 K (some ⟨gr, 0, none⟩) now (some ⟨g, 0, none⟩) ((posM M m : Nat) : Int) (getM M m).isSome w := by
  unfold C.tocsinref21_Set_Put.S3
  cases hg : getM M m with
  | none =>
    rw [hg] at hK
    exact cond_f rfl (rput_S2 (sp.trans ((drew_stp ω w).non _)) (h.stp (drew_stp ω w) (off_non t)) eq hM (hb.stp (drew_stp ω w)) hs hu hr hK)
  | some o =>
    rw [hg] at hK
    dsimp only at hK
    have s1 := drew_stp ω w
    have h1 := h.stp s1 (off_non t)
    have b1 := hb.stp s1
    have sp1 := sp.trans (s1.non _)
    obtain ⟨p, hp⟩ : ∃ p, ql[posM M m]? = some p := by
      have := posM_some hM.up hg
      rw [← eq, List.getElem?_map] at this
      rw [← eq]
      cases hq : ql[posM (ql.map (·.1)) m]? with
      | none => rw [hq] at this; cases this
      | some p => exact ⟨p, rfl⟩
    have hpo : p.1 = o := by
      have := posM_some hM.up hg
      rw [← eq, List.getElem?_map] at this
      rw [← eq] at hp
      rw [hp] at this
      exact Option.some.inj this
    have cl : w.drew.cell? (Addr.add ⟨gr, 0, none⟩ 2) = some l.v := by rw [addr_add, h1.hd.cell]; rfl
    refine cond_t rfl <| ptr_at <| cSl_at cl <| rdA_at h1.row.rd (k := posM M m) rfl hp fun a _ _ c2 => cI_at c2 ?_
    rw [hpo]
    refine cond_d (fun hgt => ?_) (fun hle => ?_)
    · rw [if_pos (by omega)] at hK
      refine ptr_at <| cSl_at cl <| rdA_at h1.row.rd (k := posM M m) rfl hp fun a _ c1 _ => cI_at c1 <| ptr_at <| cI_at (n := st) (by rw [addr_add, b1.cell]; rfl) ?_
      rw [hpo]
      refine cond_d (fun hlt => ?_) (fun hge => ?_)
      · rw [if_pos hlt] at hK
        refine ptr_at <| cSl_at cl <| rdA_at h1.row.rd (k := posM M m) rfl hp fun a _ c1 _ => cI_at c1 <| ptr_at <| st_TA b1 (by simp) fun ω2 w2 k2 b2 => ?_
        rw [hpo] at b2
        exact rput_S2 (Stp.fresh sp1 k2 hfr) (h1.stp k2 (off_one (.inr hvt))) eq hM b2 hs hu hr hK
      · rw [if_neg hge] at hK
        exact rput_S2 sp1 h1 eq hM b1 hs hu hr hK
    · rw [if_neg (by omega)] at hK
      exact rput_S2 sp1 h1 eq hM b1 hs hu hr hK
theorem rput_S4 {g : Nat} {st en : Int} (sp : Stp (DT t) ωb ω wb w) (hfr : ∀ i, i < wb.heap.size → ωb i ≠ v) (hvt : t + 2 < v) (h : RSa ω w t gr rs ms l ql) (eq : ql.map (·.1) = M) (hM : WFm M) (hb : BT ω w v g 34 [s.v, .int .i64 st, .int .i64 en]) (hs : RT ωb wb u s 2 (labs m)) (hu : DT t u = false) (hr : (rt m).1 = 0)
    {K : Int → World → Prop} (hK : ∀ ω' w', Stp (DT t) ωb ω' wb w' → RS ω' w' t gr rs ms (putF ms now m st en M).2 → K (putF ms now m st en M).1 w') : C.tocsinref21_Set_Put.S4 K (some ⟨gr, 0, none⟩) now (some ⟨g, 0, none⟩) w := by
  unfold C.tocsinref21_Set_Put.S4
  unfold putF at hK
  refine ptr_at <| cI_at (n := en) (by rw [addr_add, hb.cell]; rfl) <| ptr_at <| cI_at (n := st) (by rw [addr_add, hb.cell]; rfl) <| cond_d (fun hlt => ?_) (fun hlt => ?_)
  · rw [if_pos hlt] at hK
    exact hK ω w sp ⟨l, ql, h, eq⟩
  rw [if_neg hlt] at hK
  have s1 := drew_stp ω w
  have h1 := h.stp s1 (off_non t)
  have b1 := hb.stp s1
  have sp1 := sp.trans (s1.non _)
  have hln := rdA_n h.row.rd
  have hq : ql.length = M.length := by rw [← eq, List.length_map]
  refine ptr_at <| cSl_at (s := l) (by rw [addr_add, h1.hd.cell]; rfl) <| ptr_at <| cSl_at (s := s) (by rw [b1.cell]; rfl) ?_
  refine rat_ok h1.ra eq hM.up (shortq hM eq) (by have := lenq hM eq; omega) (hs.stp sp1 hu).rd fun w2 k2 => ?_
  have s2 := k2.stp0 ω
  have h2 := h1.stp s2 (off_non t)
  have b2 := b1.stp s2
  have sp2 := sp1.trans (s2.non _)
  have go : ∀ {ω3 w3}, Stp (DT t) ωb ω3 wb w3 → RSa ω3 w3 t gr rs ms l ql → BT ω3 w3 v g 34 [s.v, .int .i64 st, .int .i64 en] → ((getM M m = none → ¬ ms ≤ (M.length : Int))) → C.tocsinref21_Set_Put.S3 K (some ⟨gr, 0, none⟩) now (some ⟨g, 0, none⟩) ((posM M m : Nat) : Int) (getM M m).isSome w3 := by
    intro ω3 w3 sp3 h3 b3 hne
    refine rput_S3 sp3 hfr hvt h3 eq hM b3 hs hu hr fun ω' w' sp' h' => ?_
    cases hg : getM M m with
    | none =>
      rw [hg] at hK h'
      dsimp only at hK h'
      rw [if_neg (hne hg)] at hK
      exact hK ω' w' sp' h'
    | some o =>
      rw [hg] at hK h'
      exact hK ω' w' sp' h'
  refine cond_of (fun hn => ?_) (fun hn => ?_)
  · have hg : getM M m = none := by
      cases hg : getM M m with
      | none => rfl
      | some o => rw [hg] at hn; cases hn
    have s3 := drew_stp ω w2
    have h3 := h2.stp s3 (off_non t)
    refine ptr_at <| cSl_at (s := l) (by rw [addr_add, h3.hd.cell]; rfl) <| ptr_at <| cI_at (n := ms) (by rw [addr_add, h3.hd.cell]; rfl) <| cond_d (fun hge => ?_) (fun hlt2 => ?_)
    · rw [hg] at hK
      dsimp only at hK
      rw [if_pos (by omega)] at hK
      exact hK ω _ (sp2.trans (s3.non _)) ⟨l, ql, h3, eq⟩
    · exact go (sp2.trans (s3.non _)) h3 (b2.stp s3) (fun _ => by omega)
  · exact go (sp2.trans ((drew_stp ω w2).non _)) (h2.stp (drew_stp ω w2) (off_non t)) (b2.stp (drew_stp ω w2)) (fun hg => by rw [hg] at hn; cases hn)
theorem rput_ok (h : RS ω w t gr rs ms M) (hM : WFm M) (hrs : 1 ≤ rs ∧ rs ≤ 1099511627776) {s : Sl} {a : Av} (hs : RT ω w u s 2 (labs a.1)) (hz : ∀ x ∈ a.1, x.2.size ≤ 140737488355300) (hu : DT t u = false) {K : Int → World → Prop}
    (hK : ∀ ω' w', Stp (DT t) ω ω' w w' → RS ω' w' t gr rs ms (putM rs ms now a M).2 → K (putM rs ms now a M).1 w') : C.tocsinref21_Set_Put (some ⟨gr, 0, none⟩) now s a.2.1 a.2.2 w K := by
  obtain ⟨l, ql, h, eq⟩ := h
  obtain ⟨m, st, en⟩ := a
  dsimp only at hs hz ⊢
  obtain ⟨v, hvt, hfr⟩ := fresh ω w.heap.size (t + 2)
  unfold C.tocsinref21_Set_Put
  refine new_T (ω := ω) v fun g ω1 w1 k1 b1 => ?_
  unfold putM at hK
  have out : ∀ (e : Int) ω' w', badA now (m, st, en) = e → e ≠ 0 → Stp Non ω ω' w w' → K e w' := fun e ω' w' he h0 k => by
    rw [he, if_pos h0] at hK
    exact hK ω' w' (k.non _) ⟨l, ql, h.stp k (off_non t), eq⟩
  unfold badA at out
  dsimp only at out
  unfold C.tocsinref21_Time
  have no1 : (now < 0 ∨ 1125899906842624 < now) → K 1 w1 := fun hh => out 1 ω1 w1 (by rw [if_pos hh]) (by decide) k1
  refine cond_d (fun h1 => ?_) (fun h1 => cond_t rfl (no1 (.inl (by omega))))
  refine cond_not (fun h2 => no1 (.inr (by have := of_decide_eq_false h2; omega))) (fun h2 => ?_)
  have h2 := of_decide_eq_true h2
  rw [if_neg (by omega)] at out
  have hs1 := hs.stp k1
  refine cSl_at (s := s) (by rw [b1.cell]; rfl) <| rright_ok hs1.rd hz fun w2 k2 => ?_
  have s2 := k1.trans (k2.stp0 ω1)
  have b2 := b1.stp (k2.stp0 ω1)
  refine cond_ne (fun hr => out 41 ω1 w2 (by rw [if_pos (.inl hr)]) (by decide) s2) (fun hr => ?_)
  have hn := rdL_n hs.rd
  refine cSl_at (s := s) (by rw [b2.cell]; rfl) <| cond_eq (fun h0 => out 41 ω1 w2 (by rw [if_pos (.inr (List.eq_nil_of_length_eq_zero (by omega)))]) (by decide) s2) (fun h0 => ?_)
  have hm0 : m ≠ [] := by rintro rfl; simp at hn; omega
  rw [if_neg (by simp [hr, hm0])] at out
  have cst : w2.cell? (Addr.add ⟨g, 0, none⟩ 1) = some (.int .i64 st) := by rw [addr_add, b2.cell]; rfl
  have cen : w2.cell? (Addr.add ⟨g, 0, none⟩ 2) = some (.int .i64 en) := by rw [addr_add, b2.cell]; rfl
  have no3 : (st < 0 ∨ 1126999418470400 < st ∨ en < 0 ∨ 1126999418470400 < en ∨ (en ≠ 0 ∧ en < st)) → K 1 w2 := fun hh => out 1 ω1 w2 (by rw [if_pos hh]) (by decide) s2
  refine cI_at cst <| cond_d (fun h3 => no3 (.inl h3)) fun h3 => ?_
  refine cI_at cst <| cond_d (fun h4 => no3 (.inr (.inl h4))) fun h4 => ?_
  refine cI_at cen <| cond_d (fun h5 => no3 (.inr (.inr (.inl h5)))) fun h5 => ?_
  refine cI_at cen <| cond_d (fun h6 => no3 (.inr (.inr (.inr (.inl h6))))) fun h6 => ?_
  have sp := s2.non (DT t)
  have hh := h.stp s2 (off_non t)
  have go : ¬ (en ≠ 0 ∧ en < st) → C.tocsinref21_Set_Put.S6 K (some ⟨gr, 0, none⟩) now (some ⟨g, 0, none⟩) w2 := by
    intro h7
    have eb : badA now (m, st, en) = 0 := by
      unfold badA
      dsimp only
      rw [if_neg (by omega), if_neg (by simp [hr, hm0]), if_neg (by omega)]
    rw [eb, if_neg (by decide)] at hK
    have fin : ∀ (e2 : Int) {ω3 w3}, Stp (DT t) ω ω3 w w3 → RSa ω3 w3 t gr rs ms l ql → BT ω3 w3 v g 34 [s.v, .int .i64 st, .int .i64 e2] → e2 = putE rs now (m, st, en) → C.tocsinref21_Set_Put.S5 K (some ⟨gr, 0, none⟩) now (some ⟨g, 0, none⟩) w3 := by
      intro e2 ω3 w3 sp3 h3 b3 ee
      unfold C.tocsinref21_Set_Put.S5
      refine ptr_at <| cI_at (n := st) (by rw [addr_add, b3.cell]; rfl) <| cond_eq (fun hz => ?_) (fun hz => ?_)
      · refine ptr_at <| st_TA b3 (by simp) fun ω4 w4 k4 b4 => ?_
        have es : now = putS now (m, st, en) := by unfold putS; rw [if_pos hz]
        refine rput_S4 (now := now) (st := now) (en := e2) (Stp.fresh sp3 k4 hfr) hfr hvt (h3.stp k4 (off_one (.inr hvt))) eq hM b4 hs hu hr ?_
        rw [← es, ← ee] at hK; exact hK
      · have es : st = putS now (m, st, en) := by unfold putS; rw [if_neg hz]
        refine rput_S4 (now := now) (st := st) (en := e2) sp3 hfr hvt h3 eq hM b3 hs hu hr ?_
        rw [← es, ← ee] at hK; exact hK
    unfold C.tocsinref21_Set_Put.S6
    refine ptr_at <| cI_at cen <| cond_eq (fun hz => ?_) (fun hz => ?_)
    · refine ptr_at <| cI_at (n := rs) (by rw [hh.hd.cell]; rfl) <| ptr_at <| st_TA b2 (by simp) fun ω4 w4 k4 b4 => ?_
      rw [wI64 (by omega) (by omega)] at b4
      exact fin (now + rs) (Stp.fresh sp k4 hfr) (hh.stp k4 (off_one (.inr hvt))) b4 (by unfold putE; rw [if_pos hz])
    · exact fin en sp hh b2 (by unfold putE; rw [if_neg hz])
  refine cI_at cen <| cond_ne (fun h7 => ?_) (fun h7 => go (by omega))
  exact cI_at cen <| cI_at cst <| cond_d (fun h8 => no3 (.inr (.inr (.inr (.inr ⟨h7, h8⟩))))) fun h8 => go (by omega)
end Go.Proofs.YtfkpehcbijgmnaaGreatDoor.Al
