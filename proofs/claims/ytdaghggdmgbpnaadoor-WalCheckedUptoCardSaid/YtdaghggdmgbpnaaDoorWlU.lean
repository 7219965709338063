/- Layer 7 (wal): WalChecked. Own work. -/
import Derived.Test.YtdaghggdmgbpnaaDoorWlT
import Derived.Test.YtdaghggdmgbpnaaDoorRtg
namespace Go.Proofs.YtdaghggdmgbpnaaDoor.Wl
open Go Vm Go.RowKit Num Mem Dk Wo Vint Crc
variable {ω ω' : Tg} {w w' w0 : World} {T : Nat → Bool} {gl gd room a : Nat} {ws sl : Sl} {wl pl : List Pc} {l0 : List Rec} {ck : List Fl} {segs : List Sgm}

/-! ## All's answer, to be kept -/
def fg (v : Nat) : Nat := if v = 2 then 70 else if v = 5 then 71 else 0
theorem all_tg (ω : Tg) (h : RW w gl sl pl) (hx : ∀ p ∈ pl, p.1.length ≤ 1000000) (hl : pl.length ≤ 2000000000) {K : Sl → World → Prop}
    (hK : ∀ out ps ω' w', Stp Non ω ω' w w' → OT ω' w' 70 31 1 out (hds ps) → ps.map (·.1) = pl.map (·.1) → (∀ p ∈ ps, RT ω' w' 71 p.2 1 (vBs p.1)) → K out w') : C.tocsinlaw07_all (some ⟨gl, 0, none⟩) 0 w K := by
  unfold C.tocsinlaw07_all
  refine new_T (ω := fun _ => 0) 1 fun g1 ω1 w1 k1 b1 => new_T (ω := ω1) 4 fun g2 ω2 w2 k2 b2 => ?_
  unfold C.wal_Log_All
  refine new_T (ω := ω2) 1 fun g3 ω3 w3 k3 b3 => isNilF_no (cond_f rfl ?_)
  unfold C.tocsinlaw07_all.S9 C.tocsinlaw07_all.R5
  have top3 := (((Top.init w).stp k1).stp k2).stp k3
  refine rangeQ_ok (T := Duo 2 4) (u := 3) (J := fun i ω w2 => Top w ω w2 ∧ BT ω w2 1 g1 3 [.int .i64 0] ∧ BT ω w2 1 g3 26 [.pointer (some ⟨gl, 0, none⟩)] ∧ ∃ s ps, BT ω w2 4 g2 22 [Sl.v s] ∧ OT ω w2 2 31 1 s (hds ps) ∧ ps.length = i ∧ ps.map (·.1) = (pl.take i).map (·.1) ∧ ∀ p ∈ ps, RT ω w2 5 p.2 1 (vBs p.1))
    (E := fun e ω w => False)
    (all_tells (g := g3) (gl := gl) (sl := sl) (pl := pl) 5 hx hl fun _ _ _ h => h) rfl rfl ?_ ?_ ?_ ?_ ?_ ⟨top3, (b1.stp k2).stp k3, b3, nilS, [], b2.stp k3, OT.nil .., rfl, by simp, by simp⟩ ?_ ?_
  · rintro i a ω ω' w w' ⟨p, r, hp, rfl, rr⟩ k
    exact ⟨p, r, hp, rfl, rr.stp k rfl⟩
  · rintro i ω w ⟨top, _, b, _⟩
    exact ⟨by rw [b.cell]; rfl, h.keep top.k⟩
  · rintro S hS i ω ω' w w' ⟨top, x1, x3, s, ps, x2, o, e1, e2, hr⟩ k
    have z : S 0 = false ∧ S 1 = false ∧ S 2 = false ∧ S 4 = false ∧ S 5 = false := by rcases hS with rfl | rfl <;> exact ⟨rfl, rfl, rfl, rfl, rfl⟩
    exact ⟨top.stp k z.1, x1.stp k z.2.1, x3.stp k z.2.1, s, ps, x2.stp k z.2.2.2.1, o.stp k z.2.2.1, e1, e2, fun p hp => (hr p hp).stp k z.2.2.2.2⟩
  · rintro S hS e ω ω' w w' h k
    exact h
  · rintro i a ω w4 Rr ⟨p, r, hp, rfl, rr⟩ ⟨top, x1, x3, s, ps, x2, o, e1, e2, hr⟩ hR _
    show C.tocsinlaw07_all.S7 Rr _ _ r w4
    unfold C.tocsinlaw07_all.S7
    have hil := (List.getElem?_eq_some_iff.1 hp).1
    have hsn : s.n = ps.length := by have := o.rd.2.1; simp [hds] at this; omega
    refine ptr_at (cSl_at (s := s) (by rw [x2.cell]; rfl) ?_)
    refine push_T tiBB o (n := 1) rfl (by intro v hv; simp at hv; subst hv; rfl) (by simp only [maxLen]; omega) (by omega) fun r5 ω5 w5 k5 o5 hr5 => ?_
    refine ptr_at (st_T (x2.stp k5) (by simp) fun ω6 w6 k6 b6 => ?_)
    have x16 := (x1.stp k5).stp k6
    refine ptr_at (cSl_at (s := r5) (by rw [b6.cell]; rfl) (ptr_at (cI_at (n := 0) (by rw [x16.cell]; rfl) ?_)))
    have s6 : Stp (Duo 2 4) ω ω6 w4 w6 := k5.one.trans k6.two
    refine cond_eq (fun e => by omega) fun _ => hR ω6 w6 s6 ⟨(top.stp k5).stp k6, x16, (x3.stp k5).stp k6, r5, ps ++ [(p.1, r)], b6, ?_, by simp; omega, by rw [List.map_append, e2, List.take_add_one, hp]; simp, fun q hq => ?_⟩
    · have e4 : hds (ps ++ [(p.1, r)]) = hds ps ++ [r.v] := by simp [hds]
      rw [e4]; exact o5.stp k6
    · rcases List.mem_append.1 hq with hq | hq
      · exact ((hr q hq).stp k5).stp k6
      · rw [List.mem_singleton.1 hq]; exact (rr.stp k5).stp k6
  · rintro ω' w' D hD hDu ⟨top, x1, x3, s, ps, x2, o, e1, e2, hr⟩
    show C.tocsinlaw07_all.S2 K _ (pushMark undef D) w'
    unfold C.tocsinlaw07_all.S2
    rw [List.take_length] at e2
    have sp := put_stp (ω := ω') (w := w') (o := .deferred none) hDu
    refine ptr_at (cSl_at (s := s) (by rw [x2.cell]; rfl) (marks_at hD ?_))
    have tp := top.stp sp
    exact hK s ps _ _ (rtg_stp tp.k ω _ fg) ((o.stp sp).rtg tp fg) e2 fun p hp => ((hr p hp).stp sp).rtg tp fg
  · rintro e ω' w' D _ _ h
    exact h.elim

/-! ## A log, whatever is kept beside it -/
structure ST (w0 : World) (ω : Tg) (w : World) (gl gd room : Nat) (a : Nat) (l0 : List Rec) (ck : List Fl) (segs : List Sgm) (n : Nat) : Prop where
  top : Top w0 ω w
  lg : ∃ sl pl, LG ω w 20 gl gd nmW room (a + (segs.length - 1)) sl pl ∧ pl.map (·.1) = l0 ++ recs segs
  d : DK ω w 1 gd (mkS nmW a segs ++ ck)
  wf : WF (mkS nmW a segs ++ ck)
  good : Good segs
  n1 : segs.length ≤ n
  n2 : (recs segs).length ≤ n
theorem ST.non {n : Nat} (h : ST w0 ω w gl gd room a l0 ck segs n) (k : Stp Non ω ω' w w') : ST w0 ω' w' gl gd room a l0 ck segs n := by
  obtain ⟨sl, pl, g, eg⟩ := h.lg
  exact ⟨h.top.stp k, ⟨sl, pl, g.stp k (off_non 20), eg⟩, h.d.stp k (off_non 1), h.wf, h.good, h.n1, h.n2⟩
theorem ST.one {n : Nat} (h : ST w0 ω w gl gd room a l0 ck segs n) (k : Stp (Mem.One 70) ω ω' w w') : ST w0 ω' w' gl gd room a l0 ck segs n := by
  obtain ⟨sl, pl, g, eg⟩ := h.lg
  exact ⟨h.top.stp k rfl, ⟨sl, pl, g.stp k ⟨rfl, rfl, rfl⟩, eg⟩, h.d.stp k ⟨rfl, rfl, rfl⟩, h.wf, h.good, h.n1, h.n2⟩
theorem ST.le {n m : Nat} (h : ST w0 ω w gl gd room a l0 ck segs n) (hm : n ≤ m) : ST w0 ω w gl gd room a l0 ck segs m :=
  ⟨h.top, h.lg, h.d, h.wf, h.good, Nat.le_trans h.n1 hm, Nat.le_trans h.n2 hm⟩
theorem append_st (htab : Tab w0) (hB : Bas a l0 ck) {n : Nat} (h : ST w0 ω w gl gd room a l0 ck segs n) (hn : n ≤ 150) (hroom : room ≤ 400) {x : Pc} (hx : RdB w0 x.2 x.1) (hxl : x.1.length ≤ 1048577) {K : Int → World → Prop}
    (hbad : ∀ ω' w', Stp (TW 20) ω ω' w w' → ST w0 ω' w' gl gd room a l0 ck segs n → K 4 w')
    (hok : ∀ ω' w' segs', Stp (TW 20) ω ω' w w' → ST w0 ω' w' gl gd room a l0 ck segs' (n + 1) → recs segs' = recs segs ++ [x.1] → K 0 w') : C.wal_Log_Append (some ⟨gl, 0, none⟩) x.2 w K := by
  obtain ⟨sl, pl, g, eg⟩ := h.lg
  have hsl := h.n1
  have hrl := h.n2
  have h0 := hB.n0
  have hpl : pl.length ≤ 80000 := by
    have h1 := congrArg List.length eg
    simp only [List.length_map, List.length_append] at h1
    omega
  have ha := hB.a1
  refine append_ok (t := 20) (v := 0) (r := x.1) (by decide) h.top htab g (by decide) h.d h.wf (by omega) (by omega) (Wo.Top.rt h.top hx) rfl (by omega) (by omega) fun ω4 w4 sl4 pl4 k4 g4 e4 d4 hw4 => ?_
  rcases Nat.lt_or_ge 65536 x.1.length with hbig | hsm
  · have ea : appL nmW room (a + (segs.length - 1)) (mkS nmW a segs ++ ck) x.1 = (4, a + (segs.length - 1), mkS nmW a segs ++ ck) := by unfold appL; rw [if_pos hbig]
    rw [ea] at g4 e4 d4 hw4 ⊢
    exact hbad ω4 w4 k4 ⟨h.top.stp k4 rfl, ⟨sl4, pl4, g4, by rw [e4, eg]; unfold recL; rw [if_neg (by simp)]⟩, d4, hw4, h.good, hsl, hrl⟩
  · obtain ⟨segs', ea, hg', hrec', hlen', _, hsy⟩ := app_mk (room := room) (a := a) (r := x.1) wW hB.beh h.good hsm (by omega) (by have := hB.len; omega) (by omega)
    rw [ea] at g4 e4 d4 hw4 ⊢
    exact hok ω4 w4 segs' k4 ⟨h.top.stp k4 rfl, ⟨sl4, pl4, g4, by rw [e4, eg, hrec']; unfold recL; rw [if_pos rfl, List.append_assoc]⟩, d4, hw4, hg', by omega, by rw [hrec', List.length_append, List.length_singleton]; omega⟩ hrec'
/-- What was handed in, or what All gave. -/
def RX (ω : Tg) (w : World) (p : Pc) : Prop := RT ω w 0 p.2 1 (vBs p.1) ∨ RT ω w 71 p.2 1 (vBs p.1)
theorem RX.stp {p : Pc} (h : RX ω w p) (k : Stp T ω ω' w w') (h0 : T 0 = false) (h1 : T 71 = false) : RX ω' w' p := h.imp (fun r => r.stp k h0) (fun r => r.stp k h1)
theorem RX.rd {p : Pc} (h : RX ω w p) : RdB w p.2 p.1 := h.elim (fun r => r.rd) (fun r => r.rd)

theorem chk_S2 (htab : Tab w0) (hB : Bas a l0 ck) {n : Nat} (h : ST w0 ω w gl gd room a l0 ck segs n) (hn : n ≤ 150) (o : OT ω w 70 31 1 ws (hds wl)) (hr : ∀ p ∈ wl, RX ω w p) (e : wl.map (·.1) = l0 ++ recs segs) (hroom : room = 50)
    {K : Bool → World → Prop} (hK : ∀ w', Keep w0 w' → K true w') : C.tocsinlaw07_WalChecked.S2 K (some ⟨gd, 0, none⟩) (some ⟨gl, 0, none⟩) ws w := by
  obtain ⟨sl, pl, g, eg⟩ := h.lg
  have hwh := Good.whole h.good.each
  have ha := hB.a1
  have hsl := h.n1
  have hrl := h.n2
  have h0 := hB.n0
  have op2 := op_mk (l := segs) (a := a) (l0 := l0) wW hB.beh hwh.1 hB.a0 (by omega)
  rw [hwh.2] at op2
  have hrec : ∀ x ∈ l0 ++ recs segs, x.length ≤ 65536 := fun x hx => by
    rcases List.mem_append.1 hx with hx | hx
    · exact hB.each x hx
    · exact recs_le' h.good x hx
  have len : (l0 ++ recs segs).length ≤ 80000 := by rw [List.length_append]; omega
  unfold C.tocsinlaw07_WalChecked.S2
  rw [show (⟨#[119]⟩ : ByteArray) = nmW from rfl, show (50 : Int) = ((50 : Nat) : Int) from rfl]
  refine open_ok (t := 40) (u := 50) (a0 := a) (l0 := l0) (by decide) (by decide) h.top htab wW (by decide) (by decide) h.d h.wf (hB.ckd segs) fun gl4 sl4 pl4 out4 ps4 ω4 w4 k4 g4 e4 d4 hw4 o4 ep4 hr4 => ?_
  rw [op2] at ep4
  dsimp only at ep4
  have top4 := h.top.stp k4 rfl
  have o34 := o.stp k4 rfl
  have g34 := (g.stp k4 ⟨rfl, rfl, rfl⟩).rw
  have lenOf : ∀ (q : List Pc), q.map (·.1) = l0 ++ recs segs → q.length ≤ 80000 := fun q hq => by have := congrArg List.length hq; simp only [List.length_map] at this; omega
  have eachOf : ∀ (q : List Pc), q.map (·.1) = l0 ++ recs segs → ∀ p ∈ q, p.1.length ≤ 65536 := fun q hq p hp => hrec p.1 (by rw [← hq]; exact List.mem_map_of_mem hp)
  have l4 := lenOf _ ep4
  have lp := lenOf _ eg
  refine cond_t rfl ?_
  refine sameAll_ok o4.rd o34.rd (fun p hp => (hr4 p hp).rd) (fun p hp => ((hr p hp).stp k4 rfl rfl).rd) (by rw [ep4, e]) (by omega) (fun p hp => by have := eachOf _ ep4 p hp; omega) fun w6 k6 => cond_t rfl ?_
  refine all_ok (g34.keep k6) (fun p hp => by have := eachOf _ eg p hp; omega) (by omega) fun out8 ps8 w8 k8 o8 e8 hr8 => ?_
  have k48 := Keep.trans k6 k8
  have l8 := lenOf ps8 (by rw [e8, eg])
  refine sameAll_ok o8 (o34.rd.keep k48) hr8 (fun p hp => Rd.keep ((hr p hp).stp k4 rfl rfl).rd k48) (by rw [e8, eg, e]) (by omega) (fun p hp => by have := eachOf ps8 (by rw [e8, eg]) p hp; omega) fun w9 k9 => cond_t rfl ?_
  exact known_ok (top4.stp ((Keep.trans k48 k9).stp0 ω4)) htab hK
theorem chk_S9 (htab : Tab w0) (hB : Bas a l0 ck) {n : Nat} (h : ST w0 ω w gl gd room a l0 ck segs n) (hn : n ≤ 60) (o : OT ω w 70 31 1 ws (hds wl)) (hr : ∀ p ∈ wl, RX ω w p) (e : wl.map (·.1) = l0 ++ recs segs) (hroom : room = 50) {ms : Sl} {ml : List Pc} (hm : Rd w0 ms 1 (pcs ml)) (hml : ml.length ≤ 1048577) (ho : ∀ x ∈ ml, RdB w0 x.2 x.1 ∧ x.1.length < 1048578)
    {K : Bool → World → Prop} (hK : ∀ w', Keep w0 w' → K true w') : C.tocsinlaw07_WalChecked.S9 K ms (some ⟨gd, 0, none⟩) (some ⟨gl, 0, none⟩) ws w := by
  have hmn := rdP_len hm
  have h0 := hB.n0
  unfold C.tocsinlaw07_WalChecked.S9
  refine C.tocsinlaw07_WalChecked.L5_ind fun X hX => ?_
  have key : ∀ (d i : Nat) (segs : List Sgm) (ws : Sl) (wl : List Pc) (ω3 : Tg) (w3 : World), i + d = ml.length → i ≤ 40 → ST w0 ω3 w3 gl gd room a l0 ck segs (60 + i) → OT ω3 w3 70 31 1 ws (hds wl) → (∀ p ∈ wl, RX ω3 w3 p) → wl.map (·.1) = l0 ++ recs segs → X ms (some ⟨gd, 0, none⟩) (some ⟨gl, 0, none⟩) ws (i : Int) w3 := by
    intro d
    induction d with
    | zero =>
      intro i segs ws wl ω3 w3 hi hi1 h3 o3 hr3 e3
      refine hX _ _ _ _ _ _ ?_
      unfold C.tocsinlaw07_WalChecked.S7
      exact cond_d (fun hh => by omega) (fun _ => chk_S2 htab hB h3 (by omega) o3 hr3 e3 hroom hK)
    | succ d ih =>
      intro i segs ws wl ω3 w3 hi hi1 h3 o3 hr3 e3
      refine hX _ _ _ _ _ _ ?_
      unfold C.tocsinlaw07_WalChecked.S7
      obtain ⟨x, hx⟩ : ∃ x, ml[i]? = some x := ⟨_, List.getElem?_eq_getElem (by omega)⟩
      obtain ⟨hxr, hxl⟩ := ho x (List.mem_of_getElem? hx)
      refine cond_d (fun _ => cond_d (fun hlt => ?_) fun _ => chk_S2 htab hB h3 (by omega) o3 hr3 e3 hroom hK) (fun hh => by omega)
      have nx : IntKind.i64.wrap ((i : Int) + 1) = ((i + 1 : Nat) : Int) := by rw [wI64 (by omega) (by omega)]; omega
      rw [nx]
      have hwn := hds_n o3.rd
      have hr2 := h3.n2
      have hwl : wl.length ≤ 80000 := by have := congrArg List.length e3; simp only [List.length_map, List.length_append] at this; omega
      refine rdP_at (hm.keep h3.top.k) hx fun b b0 => cSl_at (s := x.2) b0 ?_
      refine append_st htab hB h3 (by omega) (by omega) hxr (by omega) (fun ω4 w4 k4 h4 => ?_) fun ω4 w4 segs4 k4 h4 er4 => ?_
      · exact cond_f rfl (ih (i + 1) segs ws wl ω4 w4 (by omega) (by omega) (h4.le (by omega)) (o3.stp k4 rfl) (fun p hp => (hr3 p hp).stp k4 rfl rfl) e3)
      · refine cond_t rfl <| rdP_at (hm.keep h4.top.k) hx fun b b0 => cSl_at (s := x.2) b0 ?_
        refine push_T (n := 1) tiBB (o3.stp k4 rfl) rfl (by intro v hv; simp at hv; subst hv; rfl) (by simp only [maxLen]; omega) (by omega) fun r5 ω5 w5 k5 o5 hr5 => ?_
        refine ih (i + 1) segs4 r5 (wl ++ [x]) ω5 w5 (by omega) (by omega) ((h4.one k5).le (by omega)) ?_ (fun p hp => ?_) (by rw [List.map_append, e3, er4]; simp)
        · have e5 : hds (wl ++ [x]) = hds wl ++ [x.2.v] := by simp [hds]
          rw [e5]; exact o5
        · rcases List.mem_append.1 hp with hp | hp
          · exact ((hr3 p hp).stp k4 rfl rfl).stp k5 rfl rfl
          · rw [List.mem_singleton.1 hp]; exact .inl (Wo.Top.rt (h4.one k5).top hxr)
  exact key ml.length 0 segs ws wl ω w (by omega) (by omega) (h.le (by omega)) o hr e
theorem pcs_hds (l : List Pc) : pcs l = hds l := by
  induction l with
  | nil => rfl
  | cons p l ih => show p.2.v :: pcs l = p.2.v :: hds l; rw [ih]
theorem chk_S11 (htab : Tab w0) {n : Nat} (h : ST w0 ω w gl gd room 1 [] [] segs n) (hn : n ≤ 60) (hroom : room = 50) {qs : Sl} {ql : List Pc} (hq : Rd w0 qs 1 (pcs ql)) (hql : ql.length ≤ 1048577) (hoq : ∀ x ∈ ql, RdB w0 x.2 x.1 ∧ x.1.length < 1048578) {ms : Sl} {ml : List Pc} (hm : Rd w0 ms 1 (pcs ml)) (hml : ml.length ≤ 1048577) (ho : ∀ x ∈ ml, RdB w0 x.2 x.1 ∧ x.1.length < 1048578)
    {K : Bool → World → Prop} (hK : ∀ w', Keep w0 w' → K true w') : C.tocsinlaw07_WalChecked.S11 K qs ms (some ⟨gd, 0, none⟩) (some ⟨gl, 0, none⟩) w := by
  unfold C.tocsinlaw07_WalChecked.S11
  obtain ⟨sl, pl, g, eg⟩ := h.lg
  rw [List.nil_append] at eg
  have hsl := h.n1
  have hrl := h.n2
  have hle := recs_le' h.good
  have lpl : pl.length ≤ 60 := by have := congrArg List.length eg; simp only [List.length_map] at this; omega
  have epl : ∀ p ∈ pl, p.1.length ≤ 65536 := fun p hp => hle p.1 (by rw [← eg]; exact List.mem_map_of_mem hp)
  refine all_tg ω g.rw (fun p hp => by have := epl p hp; omega) (by omega) fun out ps ω1 w1 k1 o1 e1 hr1 => ?_
  have h1 := h.non k1
  obtain ⟨sl1, pl1, g1, eg1⟩ := h1.lg
  rw [List.nil_append] at eg1
  have hqn := rdP_len hq
  rw [pcs_hds] at hq
  have hqt := Wo.Top.rt h1.top hq
  refine ckpt_ok (t := 20) (v := 0) (u := 0) (by decide) h1.top htab g1 (by decide) h1.d h1.wf (by omega) hqt rfl (fun p hp => Wo.Top.rt h1.top (hoq p hp).1) rfl (by omega) (fun p hp => by have := (hoq p hp).2; omega) fun ω2 w2 sl2 pl2 k2 g2 e2 d2 hw2 => ?_
  have top2 := h1.top.stp k2 rfl
  by_cases hP : (∃ r ∈ ql.map (·.1), 65536 < r.length) ∨ 65536 < (ckP (1 + (segs.length - 1) + 1) (ql.map (·.1))).length
  · have em : ckpL nmW (1 + (segs.length - 1)) (mkS nmW 1 segs ++ []) (ql.map (·.1)) = (4, 1 + (segs.length - 1), mkS nmW 1 segs ++ []) := by unfold ckpL; rw [if_pos hP]
    rw [em] at g2 e2 d2 hw2 ⊢
    dsimp only at e2
    rw [if_neg (by simp)] at e2
    have h2 : ST w0 ω2 w2 gl gd room 1 [] [] segs n := ⟨top2, ⟨sl2, pl2, g2, by rw [List.nil_append, e2, eg1]⟩, d2, hw2, h.good, hsl, hrl⟩
    have e20 : pl2.map (·.1) = recs segs := by rw [e2, eg1]
    have lp2 : pl2.length ≤ 60 := by have := congrArg List.length e20; simp only [List.length_map] at this; omega
    refine cond_f rfl <| all_ok g2.rw (fun p hp => by have := hle p.1 (by rw [← e20]; exact List.mem_map_of_mem hp); omega) (by omega) fun out3 ps3 w3 k3 o3 e3 hr3 => ?_
    have lp3 : ps3.length ≤ 60 := by have := congrArg List.length e3; simp only [List.length_map] at this; omega
    have o12 := o1.stp k2 rfl
    refine sameAll_ok o3 (o12.rd.keep k3) hr3 (fun p hp => Rd.keep ((hr1 p hp).stp k2 rfl).rd k3) (by rw [e3, e20, e1, eg]) (by omega) (fun p hp => by have := hle p.1 (by rw [← e20, ← e3]; exact List.mem_map_of_mem hp); omega) fun w4 k4 => cond_f rfl ?_
    have k24 := (Keep.trans k3 k4).stp0 ω2
    exact chk_S9 htab bas_nil (h2.non k24) hn (o12.stp k24) (fun p hp => .inr (((hr1 p hp).stp k2 rfl).stp k24)) (by rw [e1, eg]; rfl) hroom hm hml ho hK
  · have hP1 : ∀ r ∈ ql.map (·.1), r.length ≤ 65536 := fun r hr => by
      rcases Nat.lt_or_ge 65536 r.length with hb | hb
      · exact absurd (.inl ⟨r, hr, hb⟩) hP
      · exact hb
    have hP2 : (ckP (1 + (segs.length - 1) + 1) (ql.map (·.1))).length ≤ 65536 := by
      rcases Nat.lt_or_ge 65536 (ckP (1 + (segs.length - 1) + 1) (ql.map (·.1))).length with hb | hb
      · exact absurd (.inr hb) hP
      · exact hb
    have hlq : (ql.map (·.1)).length ≤ 65536 := by
      have h1 := (ckR_le (rs := ql.map (·.1))).1
      unfold ckP at hP2
      simp only [List.length_append] at hP2
      omega
    have em := ckp_mk (name := nmW) wW (l := segs) (rs := ql.map (·.1)) (by omega) hP2 hP1
    rw [em] at g2 e2 d2 hw2 ⊢
    have hB : Bas (1 + (segs.length - 1) + 1) (ql.map (·.1)) [ckF nmW (1 + (segs.length - 1) + 1) (ql.map (·.1))] := bas_ck (by omega) (by omega) hP2 (by omega) hP1
    have h2 : ST w0 ω2 w2 gl gd room (1 + (segs.length - 1) + 1) (ql.map (·.1)) [ckF nmW (1 + (segs.length - 1) + 1) (ql.map (·.1))] [] n := ⟨top2, ⟨sl2, pl2, g2, by rw [e2, if_pos rfl]; simp [recs]⟩, d2, hw2, Good.nil, by simp, by simp [recs]⟩
    simp only [List.length_map] at hlq
    refine cond_t rfl <| app_T tiBB (OT.nil ω2 w2 70 ..) (hq.keep top2.k) (by intro v hv; obtain ⟨p, _, rfl⟩ := List.mem_map.1 hv; rfl) (by simp only [maxLen, nilS]; omega) (by simp only [nilS]; omega) fun r3 ω3 w3 k3 o3 _ => ?_
    rw [List.nil_append] at o3
    exact chk_S9 htab hB (h2.one k3) hn o3 (fun p hp => .inl (Wo.Top.rt (h2.one k3).top (hoq p hp).1)) (by simp [recs]) hroom hm hml ho hK
theorem checked_law (htab : Tab w0) {s : Sl} {ls : List Pc} (hs : Rd w0 s 1 (pcs ls)) (hl : ls.length ≤ 1048577) (hol : ∀ x ∈ ls, RdB w0 x.2 x.1 ∧ x.1.length < 1048578) {qs : Sl} {ql : List Pc} (hq : Rd w0 qs 1 (pcs ql)) (hql : ql.length ≤ 1048577) (hoq : ∀ x ∈ ql, RdB w0 x.2 x.1 ∧ x.1.length < 1048578) {ms : Sl} {ml : List Pc} (hm : Rd w0 ms 1 (pcs ml)) (hml : ml.length ≤ 1048577) (ho : ∀ x ∈ ml, RdB w0 x.2 x.1 ∧ x.1.length < 1048578)
    {K : Bool → World → Prop} (hK : ∀ w', Keep w0 w' → K true w') : C.tocsinlaw07_WalChecked s qs ms w0 K := by
  have hsn := rdP_len hs
  unfold C.tocsinlaw07_WalChecked
  rw [show (⟨#[119]⟩ : ByteArray) = nmW from rfl, show (50 : Int) = ((50 : Nat) : Int) from rfl]
  generalize hroom : 50 = room
  have hroom := hroom.symm
  refine new_ok (ω := fun _ => 0) 1 fun gd ω1 w1 k1 d1 => ?_
  have top1 := (Top.init w0).stp k1
  have op1 := op_mk (l := []) (a := 1) (l0 := []) wW (Beh.nil nmW) trivial (by decide) (by decide)
  refine open_ok (t := 20) (u := 30) (a0 := 1) (l0 := []) (M := []) (by decide) (by decide) top1 htab wW (by omega) (by omega) d1 wf_nil (no_ck (l := []) (a := 1)) fun gl sl pl out ps ω2 w2 k2 g2 e2 d2 hw2 o2 ep2 _ => ?_
  rw [show opM nmW [] 1 [] = _ from op1] at g2 e2 d2 hw2 ep2
  have top2 := top1.stp k2 rfl
  refine cond_f rfl <| cond_f rfl ?_
  unfold C.tocsinlaw07_WalChecked.S18
  refine C.tocsinlaw07_WalChecked.L14_ind fun X hX => ?_
  have key : ∀ (d i : Nat) (segs : List Sgm) (ω3 : Tg) (w3 : World), i + d = ls.length → i ≤ 40 → ST w0 ω3 w3 gl gd room 1 [] [] segs i → X s qs ms (some ⟨gd, 0, none⟩) (some ⟨gl, 0, none⟩) (i : Int) w3 := by
    intro d
    induction d with
    | zero =>
      intro i segs ω3 w3 hi hi1 h3
      refine hX _ _ _ _ _ _ _ ?_
      unfold C.tocsinlaw07_WalChecked.S16
      exact cond_d (fun hh => by omega) (fun _ => chk_S11 htab h3 (by omega) hroom hq hql hoq hm hml ho hK)
    | succ d ih =>
      intro i segs ω3 w3 hi hi1 h3
      refine hX _ _ _ _ _ _ _ ?_
      unfold C.tocsinlaw07_WalChecked.S16
      obtain ⟨x, hx⟩ : ∃ x, ls[i]? = some x := ⟨_, List.getElem?_eq_getElem (by omega)⟩
      obtain ⟨hxr, hxl⟩ := hol x (List.mem_of_getElem? hx)
      refine cond_d (fun _ => cond_d (fun hlt => ?_) fun _ => chk_S11 htab h3 (by omega) hroom hq hql hoq hm hml ho hK) (fun hh => by omega)
      have nx : IntKind.i64.wrap ((i : Int) + 1) = ((i + 1 : Nat) : Int) := by rw [wI64 (by omega) (by omega)]; omega
      rw [nx]
      refine rdP_at (hs.keep h3.top.k) hx fun b b0 => cSl_at (s := x.2) b0 ?_
      refine append_st htab bas_nil h3 (by omega) (by omega) hxr (by omega) (fun ω4 w4 k4 h4 => ?_) fun ω4 w4 segs4 k4 h4 er4 => ?_
      · exact ih (i + 1) segs ω4 w4 (by omega) (by omega) (h4.le (by omega))
      · exact ih (i + 1) segs4 ω4 w4 (by omega) (by omega) h4
  exact key ls.length 0 [] ω2 w2 (by omega) (by omega) ⟨top2, ⟨sl, pl, g2, e2⟩, d2, hw2, Good.nil, by simp, by simp [recs]⟩
end Go.Proofs.YtdaghggdmgbpnaaDoor.Wl
