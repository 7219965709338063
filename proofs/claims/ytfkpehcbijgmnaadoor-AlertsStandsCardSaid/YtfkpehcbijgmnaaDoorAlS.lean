/- Layer 21 (alerts): AlertsStands. Own work. -/
import Derived.Test.YtfkpehcbijgmnaaDoorAlG
import Derived.Test.YtfkpehcbijgmnaaDoorAlR
import Derived.Test.YtfkpehcbijgmnaaDoorAlX
namespace Go.Proofs.YtfkpehcbijgmnaaDoor.Al
open Go Vm Go.RowKit Num Mem Utf Lib Lab Rep
variable {ω ω' : Tg} {w w' w0 : World} {t u gs gm : Nat} {T : Nat → Bool} {pl : QL} {M : List Av} {rs ms now : Int}

/-! ## Plain -/
theorem put_err {a : Av} (h : (putM rs ms now a M).1 ≠ 0) : (putM rs ms now a M).2 = M := by
  unfold putM at h ⊢
  split
  · rfl
  · rename_i hb
    rw [if_neg hb] at h
    unfold putF at h ⊢
    split
    · rfl
    · rename_i h1
      rw [if_neg h1] at h
      split
      · rename_i hg
        rw [hg] at h
        dsimp only at h
        split
        · rfl
        · rename_i h2
          rw [if_neg h2] at h
          exact absurd rfl h
      · rename_i o hg
        rw [hg] at h
        exact absurd rfl h
theorem put_shape (hM : M.Pairwise ltA) (a : Av) : (putM rs ms now a M).2 = M ∨ ∃ s e, s ≤ e ∧ (putM rs ms now a M).2 = insM (a.1, s, e) M ∧ ((∃ o, getM M a.1 = some o) ∨ (M.length : Int) < ms) := by
  unfold putM
  split
  · exact .inl rfl
  · unfold putF
    split
    · exact .inl rfl
    · rename_i h1
      split
      · split
        · exact .inl rfl
        · exact .inr ⟨_, _, by omega, rfl, .inr (by omega)⟩
      · rename_i o hg
        refine .inr ⟨_, _, ?_, rfl, .inl ⟨o, hg⟩⟩
        split
        · split <;> omega
        · omega
structure Inv (ms : Int) (M : List Av) : Prop where
  len : (M.length : Int) ≤ ms
  ord : ∀ a ∈ M, a.2.1 ≤ a.2.2
theorem put_inv (hM : M.Pairwise ltA) (h : Inv ms M) (a : Av) : Inv ms (putM rs ms now a M).2 := by
  rcases put_shape (rs := rs) (ms := ms) (now := now) hM a with e | ⟨s, e, hse, em, hc⟩
  · rw [e]; exact h
  · rw [em]
    refine ⟨?_, fun x hx => ?_⟩
    · rcases hc with ⟨o, ho⟩ | hc
      · obtain ⟨h1, h2⟩ := (getM_some hM).1 ho
        rw [insM_old (a := (a.1, s, e)) hM h1 h2]; exact h.len
      · have := insM_len (a := (a.1, s, e)) (M := M); omega
    · rcases (mem_insM hM).1 hx with rfl | ⟨hx, _⟩
      · exact hse
      · exact h.ord x hx
theorem put_other (hM : M.Pairwise ltA) {a x : Av} (hx : x ∈ M) (hne : x.1 ≠ a.1) : x ∈ (putM rs ms now a M).2 := by
  rcases put_shape (rs := rs) (ms := ms) (now := now) hM a with e | ⟨s, e, _, em, _⟩
  · rw [e]; exact hx
  · rw [em]; exact (mem_insM hM).2 (.inr ⟨hx, hne⟩)
theorem sw_twice (lim : Int) : swM lim (swM lim M) = swM lim M := by unfold swM; rw [List.filter_filter]; simp
theorem sw_inv {lim : Int} (h : Inv ms M) : Inv ms (swM lim M) := ⟨by have := List.length_filter_le (fun a : Av => decide (lim < a.2.2)) M; have := h.len; unfold swM; omega, fun a ha => h.ord a (List.mem_filter.1 ha).1⟩

/-! ## Scripts -/
abbrev Opv := Int × Int × Int × Sl × Int × Int
def opC (o : Opv) : List Value := [.int .i64 o.1, .int .i64 o.2.1, .int .i64 o.2.2.1, o.2.2.2.1.v, .int .i64 o.2.2.2.2.1, .int .i64 o.2.2.2.2.2]
def opsV (l : List Opv) : List Value := l.flatMap opC
theorem rdO_n {s : Sl} {l : List Opv} (h : Rd w s 6 (opsV l)) : s.n = l.length := by have := h.2.1; rw [opsV, Rep.flat_len (enc := opC) (k := 6) (fun _ => rfl)] at this; omega
theorem rdO_at {s : Sl} {l : List Opv} (h : Rd w s 6 (opsV l)) {i : Int} {k : Nat} {o : Opv} (ei : i = (k : Int)) (hx : l[k]? = some o) {K : Addr → Prop}
    (hK : ∀ a : Addr, w.cell? a = some (.int .i64 o.1) → w.cell? (a.add 1) = some (.int .i64 o.2.1) → w.cell? (a.add 2) = some (.int .i64 o.2.2.1) → w.cell? (a.add 3) = some o.2.2.2.1.v → w.cell? (a.add 4) = some (.int .i64 o.2.2.2.2.1) → w.cell? (a.add 5) = some (.int .i64 o.2.2.2.2.2) → K a) : G.ix s.a s.n i 6 K := by
  have hk : k < l.length := (List.getElem?_eq_some_iff.1 hx).1
  have hn := rdO_n h
  subst ei
  have e : ∀ j, j < 6 → (opsV l)[(k : Int).toNat * 6 + j]? = (opC o)[j]? := fun j hj => by
    rw [Int.toNat_natCast, opsV, Rep.flat_at (enc := opC) (k := 6) (fun _ => rfl) l k j hj, hx]; rfl
  refine Rd.ix h (by decide) (by omega) (by omega) fun a hc => hK a ?_ ?_ ?_ ?_ ?_ ?_
  · have := hc 0 (.int .i64 o.1) (by decide) (by rw [e 0 (by decide)]; rfl)
    rwa [show a.add 0 = a by simp [Addr.add]] at this
  · exact hc 1 _ (by decide) (by rw [e 1 (by decide)]; rfl)
  · exact hc 2 _ (by decide) (by rw [e 2 (by decide)]; rfl)
  · exact hc 3 _ (by decide) (by rw [e 3 (by decide)]; rfl)
  · exact hc 4 _ (by decide) (by rw [e 4 (by decide)]; rfl)
  · exact hc 5 _ (by decide) (by rw [e 5 (by decide)]; rfl)
theorem RA.of {s : Sl} {ql : QL} {u v : Nat} (o : OT ω w u 31 3 s (avs ql)) (h : ∀ p ∈ ql, RT ω w v p.2 2 (labs p.1.1)) : RA w s ql := ⟨o.rd, fun p hp => (h p hp).rd⟩
/-- One found alert beside one of the list. -/
theorem one_same {was : Sl} {ql : QL} {k : Nat} {p : Av × Sl} (h : RA w was ql) (hk : ql[k]? = some p) (hs : p.1.1.length ≤ 16) {r : Sl} (hr : Rd w r 2 (labs p.1.1)) (hl : ql.length ≤ 2000000000) {K : Bool → World → Prop} (hK : ∀ w', Keep w w' → K true w') :
    G.slc was (k : Int) (IntKind.i64.wrap ((k : Int) + 1)) 3 fun l57 => G.new (.cells #[r.v, .int .i64 p.1.2.1, .int .i64 p.1.2.2] 31) w fun p58 w59 => C.tocsinref21_Same (⟨some p58, 1, 1⟩ : Sl) l57 w59 K := by
  have hki := (List.getElem?_eq_some_iff.1 hk).1
  have hn := rdA_n h.row
  refine Rd.slc h.row (lo := k) (hi := k + 1) (by omega) (by omega) rfl (by rw [wI64 (by omega) (by omega)]; omega) fun l hl' _ _ => ?_
  rw [show k + 1 - k = 1 by omega, avs_mid hk] at hl'
  refine new_T (ω := fun _ => 0) 1 fun g ω1 w1 k1 b1 => ?_
  have kk := k1.keep
  have ra : RA w1 ⟨some ⟨g, 0, none⟩, 1, 1⟩ [(p.1, r)] := ⟨(bt_rt b1 rfl).rd, fun q hq => by rw [List.mem_singleton.1 hq]; exact hr.keep kk⟩
  have rb : RA w1 l [p] := ⟨hl'.keep kk, fun q hq => by rw [List.mem_singleton.1 hq]; exact (h.lab p (List.mem_of_getElem? hk)).keep kk⟩
  exact rsameA_ok ra rb rfl (fun x hx => by rw [List.mem_singleton.1 hx]; show p.1.1.length ≤ _; omega) (by simp) fun w' k' => hK w' (Keep.trans kk k')

section
variable {sc was l : Sl} {ops : List Opv} {ql ql2 : QL} {K : Bool → World → Prop} {X : Cur C.tocsinlaw21_AlertsStands.g5} {gO i : Nat} {o : Opv} {m : List Lb}

/-- Behind an accepted or refused Put: the alerts that were. -/
theorem st_S15 {M M' : List Av} (a : AS ω w 10 gs rs ms M') (hM : WFm M') (htab : UTab w) (hw : RA w was ql) (eq : ql.map (·.1) = M) (hq16 : ∀ p ∈ ql, p.1.1.length ≤ 16) (hql : ql.length ≤ 500) (ho : w.cell? ⟨gO, 3, none⟩ = some o.2.2.2.1.v) (hm : Rd w o.2.2.2.1 2 (labs m))
    (hin : ∀ x ∈ M, x.1 ≠ m → x ∈ M') (next : ∀ w', Keep w w' → X ms sc (some ⟨gs, 0, none⟩) (IntKind.i64.wrap ((i : Int) + 1)) w') : C.tocsinlaw21_AlertsStands.S15 K X ms sc (some ⟨gs, 0, none⟩) (i : Int) was (some ⟨gO, 0, none⟩) w := by
  have hwn := rdA_n hw.row
  unfold C.tocsinlaw21_AlertsStands.S15
  refine C.tocsinlaw21_AlertsStands.L11_ind fun Y hY => ?_
  have key : ∀ (d k : Nat) (w2 : World), k + d = ql.length → Keep w w2 → Y ms sc (some ⟨gs, 0, none⟩) (i : Int) was (some ⟨gO, 0, none⟩) (k : Int) w2 := by
    intro d
    induction d with
    | zero =>
      intro k w2 hk kp
      refine hY _ _ _ _ _ _ _ _ ?_
      unfold C.tocsinlaw21_AlertsStands.S13 C.tocsinlaw21_AlertsStands.S7
      exact cond_d (fun hh => by omega) (fun _ => next w2 kp)
    | succ d ih =>
      intro k w2 hk kp
      refine hY _ _ _ _ _ _ _ _ ?_
      unfold C.tocsinlaw21_AlertsStands.S13
      obtain ⟨p, hp⟩ : ∃ p, ql[k]? = some p := ⟨_, List.getElem?_eq_getElem (by omega)⟩
      have hpm := List.mem_of_getElem? hp
      have hxM : p.1 ∈ M := by rw [← eq]; exact List.mem_map_of_mem hpm
      refine cond_d (fun _ => ?_) (fun hh => by omega)
      have hw2 := hw.keep kp
      have nx : IntKind.i64.wrap ((k : Int) + 1) = ((k + 1 : Nat) : Int) := by rw [wI64 (by omega) (by omega)]; omega
      refine rdA_at hw2.row (k := k) rfl hp fun b c0 _ _ => cSl_at c0 ?_
      have tail : ∀ (x : Option Av) (r : Sl) (w3 : World), Keep w2 w3 → (p.1.1 ≠ m → x = some p.1) → (x = some p.1 → Rd w3 r 2 (labs p.1.1)) → ∀ n1 n2 : Int, (x = some p.1 → n1 = p.1.2.1 ∧ n2 = p.1.2.2) →
          G.new (.cells #[nilS.v, (.int .i64 (0 : Int)), (.int .i64 (0 : Int))] 31) w3 fun p43 w44 => G.st p43 r.v w44 fun w45 => G.st (p43.add 1) (.int .i64 n1) w45 fun w46 => G.st (p43.add 2) (.int .i64 n2) w46 fun w47 => G.ix was.a was.n (k : Int) 3 fun p48 => G.cSl p48 w47.drew fun l49 => G.ptr (some ⟨gO, 0, none⟩) fun p50 => G.cSl (p50.add 3) w47.drew fun l51 => C.tocsinref04_Same l49 l51 w47.drew fun b52 w53 => G.cond (!b52) (G.cond (!x.isSome) (K false w53) (G.cSl p43 w53 fun l54 => G.cI .i64 (p43.add 1) w53 fun n55 => G.cI .i64 (p43.add 2) w53 fun n56 => G.slc was (k : Int) (IntKind.i64.wrap ((k : Int) + (1 : Int))) 3 fun l57 => G.new (.cells #[l54.v, (.int .i64 n55), (.int .i64 n56)] 31) w53 fun p58 w59 => C.tocsinref21_Same (⟨some p58, 1, 1⟩ : Sl) l57 w59 fun b60 w61 => G.cond (!b60) (K false w61) (Y ms sc (some ⟨gs, 0, none⟩) (i : Int) was (some ⟨gO, 0, none⟩) (IntKind.i64.wrap ((k : Int) + (1 : Int))) w61))) (Y ms sc (some ⟨gs, 0, none⟩) (i : Int) was (some ⟨gO, 0, none⟩) (IntKind.i64.wrap ((k : Int) + (1 : Int))) w53) := by
        intro x r w3 k3 hx hr n1 n2 hn
        refine loc_ok fun g4 w4 k4 hg4 b4 => ?_
        have k34 := Keep.trans k4.1 (Keep.drew w4)
        have k04 := Keep.trans (Keep.trans kp k3) k34
        have hw4 := hw.keep k04
        refine rdA_at hw4.row (k := k) rfl hp fun b c0 _ _ => cSl_at c0 <| ptr_at <| cSl_at (s := o.2.2.2.1) (by rw [addr_add]; exact k04.cell ho) ?_
        refine rsame_ok (hw4.lab p hpm) (hm.keep k04) (by have := hq16 p hpm; omega) fun w5 k5 => ?_
        have k05 := Keep.trans k04 k5
        have b5 := (b4.drew).keep k5
        refine cond_not (fun hd => ?_) (fun hd => ?_)
        · have hne : p.1.1 ≠ m := of_decide_eq_false hd
          have ex := hx hne
          obtain ⟨rfl, rfl⟩ := hn ex
          have hr' := hr ex
          rw [ex]
          refine cond_f rfl <| cSl_at (s := r) (by rw [b5.cell]; rfl) <| cI_at (n := p.1.2.1) (by rw [addr_add, b5.cell]; rfl) <| cI_at (n := p.1.2.2) (by rw [addr_add, b5.cell]; rfl) ?_
          refine one_same (hw.keep k05) hp (hq16 p hpm) (hr'.keep (Keep.trans k34 k5)) (by omega) fun w6 k6 => cond_f rfl ?_
          rw [nx]
          exact ih (k + 1) w6 (by omega) (Keep.trans k05 k6)
        · rw [nx]
          exact ih (k + 1) w5 (by omega) k05
      refine get_ok (a.stp (kp.stp0 ω) (off_non 10)) hM (htab.keep kp) (hw2.lab p hpm) (fun hn w3 k3 => ?_) (fun av ha r w3 k3 o3 => ?_)
      · refine tail none nilS w3 k3 (fun hne => ?_) (fun h => by cases h) 0 0 (fun h => by cases h)
        have := (getM_some hM.up).2 ⟨hin p.1 hxM hne, rfl⟩
        rw [hn] at this; cases this
      · have h2 := (getM_some hM.up).1 ha
        refine tail (some av) r w3 k3 (fun hne => ?_) (fun e => ?_) av.2.1 av.2.2 (fun e => by cases e; exact ⟨rfl, rfl⟩)
        · have := (getM_some hM.up).2 ⟨hin p.1 hxM hne, rfl⟩
          rw [← this]; exact ha.symm ▸ rfl
        · exact o3.rd
  exact key ql.length 0 w (by omega) (Keep.refl w)
theorem st_S22 {M M' : List Av} (a : AS ω w 10 gs rs ms M') (hM : WFm M') (hI : Inv ms M') (htab : UTab w) (hw : RA w was ql) (eq : ql.map (·.1) = M) (hq16 : ∀ p ∈ ql, p.1.1.length ≤ 16) (hql : ql.length ≤ 500) (hl : RA w l ql2) (eq2 : ql2.map (·.1) = M') (ho : w.cell? ⟨gO, 3, none⟩ = some o.2.2.2.1.v) (hm : Rd w o.2.2.2.1 2 (labs m))
    (hin : ∀ x ∈ M, x.1 ≠ m → x ∈ M') (next : ∀ w', Keep w w' → X ms sc (some ⟨gs, 0, none⟩) (IntKind.i64.wrap ((i : Int) + 1)) w') : C.tocsinlaw21_AlertsStands.S22 K X ms sc (some ⟨gs, 0, none⟩) (i : Int) was (some ⟨gO, 0, none⟩) l w := by
  have hln := rdA_n hl.row
  have hq2 : ql2.length = M'.length := by rw [← eq2, List.length_map]
  have hcnt := hM.cnt
  unfold C.tocsinlaw21_AlertsStands.S22
  refine C.tocsinlaw21_AlertsStands.L18_ind fun Y hY => ?_
  have key : ∀ (d k : Nat) (w2 : World), k + d = ql2.length → Keep w w2 → Y ms sc (some ⟨gs, 0, none⟩) (i : Int) was (some ⟨gO, 0, none⟩) l (k : Int) w2 := by
    intro d
    induction d with
    | zero =>
      intro k w2 hk kp
      refine hY _ _ _ _ _ _ _ _ _ ?_
      unfold C.tocsinlaw21_AlertsStands.S20
      exact cond_d (fun hh => by omega) (fun _ => st_S15 (a.stp (kp.stp0 ω) (off_non 10)) hM (htab.keep kp) (hw.keep kp) eq hq16 hql (kp.cell ho) (hm.keep kp) hin fun w' k' => next w' (Keep.trans kp k'))
    | succ d ih =>
      intro k w2 hk kp
      refine hY _ _ _ _ _ _ _ _ _ ?_
      unfold C.tocsinlaw21_AlertsStands.S20
      obtain ⟨p, hp⟩ : ∃ p, ql2[k]? = some p := ⟨_, List.getElem?_eq_getElem (by omega)⟩
      have hMk : M'[k]? = some p.1 := by rw [← eq2, List.getElem?_map, hp]; rfl
      have kd := Keep.trans kp (Keep.drew w2)
      have hl2 := hl.keep kd
      have nx : IntKind.i64.wrap ((k : Int) + 1) = ((k + 1 : Nat) : Int) := by rw [wI64 (by omega) (by omega)]; omega
      refine cond_d (fun _ => ?_) (fun hh => by omega)
      refine rdA_at hl2.row (k := k) rfl hp fun b _ c1 _ => cI_at c1 <| rdA_at hl2.row (k := k) rfl hp fun b _ _ c2 => cI_at c2 <| cond_d (fun hgt => absurd (hI.ord p.1 (List.mem_of_getElem? hMk)) (by omega)) fun _ => ?_
      refine cond_d (fun hk0 => ?_) (fun _ => by rw [nx]; exact ih (k + 1) _ (by omega) kd)
      obtain ⟨q, hq⟩ : ∃ q, ql2[k - 1]? = some q := ⟨_, List.getElem?_eq_getElem (by omega)⟩
      have hMq : M'[k - 1]? = some q.1 := by rw [← eq2, List.getElem?_map, hq]; rfl
      have hlt : cmpL q.1.1 p.1.1 < 0 := by
        obtain ⟨hk1, ek1⟩ := List.getElem?_eq_some_iff.1 hMk
        obtain ⟨hk2, ek2⟩ := List.getElem?_eq_some_iff.1 hMq
        have := (List.pairwise_iff_getElem.1 hM.up) (k - 1) k hk2 hk1 (by omega)
        rw [ek1, ek2] at this; exact this
      refine rdA_at hl2.row (k := k - 1) (by rw [wI64 (by omega) (by omega)]; omega) hq fun b c0 _ _ => cSl_at c0 <| rdA_at hl2.row (k := k) rfl hp fun b c0 _ _ => cSl_at c0 ?_
      have h16 := (rt_short (hM.ok _ (List.mem_of_getElem? hMq))).1
      refine rcmp_ok (hl2.lab q (List.mem_of_getElem? hq)) (hl2.lab p (List.mem_of_getElem? hp)) (by omega) fun w3 k3 => cond_d (fun hge => by omega) fun _ => ?_
      rw [nx]
      exact ih (k + 1) w3 (by omega) (Keep.trans kd k3)
  exact key ql2.length 0 w (by omega) (Keep.refl w)
theorem st_S24 (top : Top w0 ω w) (htab : UTab w0) (a : AS ω w 10 gs rs ms M) (hM : WFm M) (hI : Inv ms M) (hms : ms ≤ 500) (hrs : 1 ≤ rs ∧ rs ≤ 1099511627776) (ow : OT ω w 30 31 3 was (avs ql)) (rw_ : ∀ p ∈ ql, RT ω w 31 p.2 2 (labs p.1.1)) (eq : ql.map (·.1) = M)
    (bo : BT ω w 34 gO 41 (opC o)) (hm : Rd w0 o.2.2.2.1 2 (labs m)) (next : ∀ M' ω' w', Top w0 ω' w' → AS ω' w' 10 gs rs ms M' → WFm M' → Inv ms M' → X ms sc (some ⟨gs, 0, none⟩) (IntKind.i64.wrap ((i : Int) + 1)) w') :
    C.tocsinlaw21_AlertsStands.S24 K X ms sc (some ⟨gs, 0, none⟩) (i : Int) was (some ⟨gO, 0, none⟩) w := by
  unfold C.tocsinlaw21_AlertsStands.S24
  have hql : ql.length = M.length := by rw [← eq, List.length_map]
  have hcnt := hM.cnt
  have hq16 : ∀ p ∈ ql, p.1.1.length ≤ 16 := fun p hp => (rt_short (hM.ok _ (by rw [← eq]; exact List.mem_map_of_mem hp))).1
  refine ptr_at <| cI_at (n := o.2.1) (by rw [addr_add, bo.cell]; rfl) <| ptr_at <| cSl_at (s := o.2.2.2.1) (by rw [addr_add, bo.cell]; rfl) <| cI_at (n := o.2.2.2.2.1) (by rw [addr_add, addr_add, bo.cell]; rfl) <| cI_at (n := o.2.2.2.2.2) (by rw [addr_add, addr_add, bo.cell]; rfl) ?_
  refine put_ok (t := 10) (u := 0) (a := (m, o.2.2.2.2.1, o.2.2.2.2.2)) (ms := ms) (rs := rs) (now := o.2.1) top htab rfl a hM hms hrs (Top.rt top hm) rfl fun ω3 w3 k3 a3 h3 => ?_
  have I3 := put_inv (rs := rs) (now := o.2.1) hM.up hI (m, o.2.2.2.2.1, o.2.2.2.2.2)
  have hin : ∀ x ∈ M, x.1 ≠ m → x ∈ (putM rs ms o.2.1 (m, o.2.2.2.2.1, o.2.2.2.2.2) M).2 := fun x hx hne => put_other hM.up hx hne
  have her : (putM rs ms o.2.1 (m, o.2.2.2.2.1, o.2.2.2.2.2) M).1 ≠ 0 → (putM rs ms o.2.1 (m, o.2.2.2.2.1, o.2.2.2.2.2) M).2 = M := put_err
  generalize putM rs ms o.2.1 (m, o.2.2.2.2.1, o.2.2.2.2.2) M = R at *
  have top3 := top.stp k3 rfl
  have ow3 := ow.stp k3 rfl
  have rw3 : ∀ p ∈ ql, RT ω3 w3 31 p.2 2 (labs p.1.1) := fun p hp => (rw_ p hp).stp k3 rfl
  have bo3 := bo.stp k3 rfl
  refine all_AS ω3 a3 h3 0 32 33 fun l ql2 ω4 w4 k4 o4 e4 r4 => ?_
  rw [if_pos rfl] at e4
  have top4 := top3.stp k4
  have a4 := a3.stp k4 (off_non 10)
  have hw4 : RA w4 was ql := RA.of (ow3.stp k4) fun p hp => (rw3 p hp).stp k4
  have hl4 : RA w4 l ql2 := RA.of o4 r4
  have bo4 := bo3.stp k4
  have hln := rdA_n hl4.row
  have hq2 : ql2.length = R.2.length := by rw [← e4, List.length_map]
  have tail : ∀ w5, Keep w4 w5 → G.cond (decide (((l.n : Nat) : Int) > ms)) (K false w5) (C.alerts_Set_Len (some ⟨gs, 0, none⟩) w5 fun n127 w128 => G.cond (((l.n : Nat) : Int) != n127) (K false w128) (C.tocsinlaw21_AlertsStands.S22 K X ms sc (some ⟨gs, 0, none⟩) (i : Int) was (some ⟨gO, 0, none⟩) l w128)) := by
    intro w5 k5
    have hlen := I3.len
    refine cond_d (fun hh => by omega) fun _ => len_ok (a4.stp (k5.stp0 ω4) (off_non 10)) <| cond_f (by simp; omega) ?_
    refine st_S22 (a4.stp (k5.stp0 ω4) (off_non 10)) h3 I3 (htab.keep (Keep.trans top4.k k5)) (hw4.keep k5) eq hq16 (by omega) (hl4.keep k5) e4 (k5.cell (by rw [bo4.cell]; rfl)) (hm.keep (Keep.trans top4.k k5)) hin fun w' k' => ?_
    exact next _ ω4 w' (top4.stp ((Keep.trans k5 k').stp0 ω4)) (a4.stp ((Keep.trans k5 k').stp0 ω4) (off_non 10)) h3 I3
  refine cond_ne (fun hne => ?_) (fun _ => tail w4 (Keep.refl w4))
  have em := her hne
  exact rsameA_ok hl4 hw4 (by rw [e4, em, eq]) (fun x hx => by have := (rt_short (h3.ok _ (by rw [← e4]; exact List.mem_map_of_mem hx))).1; omega) (by have := h3.cnt; omega) fun w5 k5 => cond_f rfl (tail w5 k5)
theorem st_S33 {M M' : List Av} {e : Int} (a : AS ω w 10 gs rs ms M') (hM : WFm M') (htab : UTab w) (hw : RA w was ql) (eq : ql.map (·.1) = M) (hql : ql.length ≤ 500) (ho : w.cell? ⟨gO, 1, none⟩ = some (.int .i64 o.2.1))
    (hin : e = 0 → ∀ x ∈ M, o.2.1 < x.2.2 → x ∈ M') (next : ∀ w', Keep w w' → X ms sc (some ⟨gs, 0, none⟩) (IntKind.i64.wrap ((i : Int) + 1)) w') : C.tocsinlaw21_AlertsStands.S33 K X ms sc (some ⟨gs, 0, none⟩) (i : Int) was (some ⟨gO, 0, none⟩) e w := by
  have hwn := rdA_n hw.row
  unfold C.tocsinlaw21_AlertsStands.S33
  refine C.tocsinlaw21_AlertsStands.L29_ind fun Y hY => ?_
  have key : ∀ (d k : Nat) (w2 : World), k + d = ql.length → Keep w w2 → Y ms sc (some ⟨gs, 0, none⟩) (i : Int) was (some ⟨gO, 0, none⟩) e (k : Int) w2 := by
    intro d
    induction d with
    | zero =>
      intro k w2 hk kp
      refine hY _ _ _ _ _ _ _ _ _ ?_
      unfold C.tocsinlaw21_AlertsStands.S31 C.tocsinlaw21_AlertsStands.S26 C.tocsinlaw21_AlertsStands.S7
      exact cond_d (fun hh => by omega) (fun _ => next w2 kp)
    | succ d ih =>
      intro k w2 hk kp
      refine hY _ _ _ _ _ _ _ _ _ ?_
      unfold C.tocsinlaw21_AlertsStands.S31
      obtain ⟨p, hp⟩ : ∃ p, ql[k]? = some p := ⟨_, List.getElem?_eq_getElem (by omega)⟩
      have hpm := List.mem_of_getElem? hp
      have hxM : p.1 ∈ M := by rw [← eq]; exact List.mem_map_of_mem hpm
      refine cond_d (fun _ => ?_) (fun hh => by omega)
      have hw2 := hw.keep kp
      have nx : IntKind.i64.wrap ((k : Int) + 1) = ((k + 1 : Nat) : Int) := by rw [wI64 (by omega) (by omega)]; omega
      rw [nx]
      refine rdA_at hw2.row (k := k) rfl hp fun b c0 _ _ => cSl_at c0 ?_
      have tail : ∀ (f : Bool) (r : Sl) (n1 n2 : Int) (w3 : World), Keep w2 w3 → (e = 0 → o.2.1 < p.1.2.2 → f = true) →
          G.new (.cells #[nilS.v, (.int .i64 (0 : Int)), (.int .i64 (0 : Int))] 31) w3 fun p166 w167 => G.st p166 r.v w167 fun w168 => G.st (p166.add 1) (.int .i64 n1) w168 fun w169 => G.st (p166.add 2) (.int .i64 n2) w169 fun w170 => G.cond (e == (0 : Int)) (G.ix was.a was.n (k : Int) 3 fun p171 => G.cI .i64 (p171.add 1) w170.drew fun n172 => G.ptr (some ⟨gO, 0, none⟩) fun p173 => G.cI .i64 (p173.add 1) w170.drew fun n174 => G.cond (decide (n172 ≤ n174)) (G.ptr (some ⟨gO, 0, none⟩) fun p175 => G.cI .i64 (p175.add 1) w170.drew fun n176 => G.ix was.a was.n (k : Int) 3 fun p177 => G.cI .i64 (p177.add 2) w170.drew fun n178 => G.cond (decide (n176 < n178)) (G.cond (!f) (K false w170.drew) (Y ms sc (some ⟨gs, 0, none⟩) (i : Int) was (some ⟨gO, 0, none⟩) e ((k + 1 : Nat) : Int) w170.drew)) (Y ms sc (some ⟨gs, 0, none⟩) (i : Int) was (some ⟨gO, 0, none⟩) e ((k + 1 : Nat) : Int) w170.drew)) (Y ms sc (some ⟨gs, 0, none⟩) (i : Int) was (some ⟨gO, 0, none⟩) e ((k + 1 : Nat) : Int) w170.drew)) (Y ms sc (some ⟨gs, 0, none⟩) (i : Int) was (some ⟨gO, 0, none⟩) e ((k + 1 : Nat) : Int) w170.drew) := by
        intro f r n1 n2 w3 k3 hf
        refine loc_ok fun g4 w4 k4 hg4 b4 => ?_
        have k04 := Keep.trans (Keep.trans kp k3) (Keep.trans k4.1 (Keep.drew w4))
        have hw4 := hw.keep k04
        have go := ih (k + 1) w4.drew (by omega) k04
        have ho4 : w4.drew.cell? (Addr.add ⟨gO, 0, none⟩ 1) = some (.int .i64 o.2.1) := by rw [addr_add]; exact k04.cell ho
        refine cond_eq (fun he => ?_) (fun _ => go)
        refine rdA_at hw4.row (k := k) rfl hp fun b _ c1 _ => cI_at c1 <| ptr_at <| cI_at ho4 <| cond_d (fun _ => ?_) (fun _ => go)
        refine ptr_at <| cI_at ho4 <| rdA_at hw4.row (k := k) rfl hp fun b _ _ c2 => cI_at c2 <| cond_d (fun hlt => ?_) (fun _ => go)
        rw [hf he hlt]
        exact cond_f rfl go
      refine get_ok (a.stp (kp.stp0 ω) (off_non 10)) hM (htab.keep kp) (hw2.lab p hpm) (fun hn w3 k3 => ?_) (fun av ha r w3 k3 o3 => ?_)
      · refine tail false nilS 0 0 w3 k3 (fun he hlt => ?_)
        have := (getM_some hM.up).2 ⟨hin he p.1 hxM hlt, rfl⟩
        rw [hn] at this; cases this
      · exact tail true r av.2.1 av.2.2 w3 k3 (fun _ _ => rfl)
  exact key ql.length 0 w (by omega) (Keep.refl w)
theorem st_S35 (top : Top w0 ω w) (htab : UTab w0) (a : AS ω w 10 gs rs ms M) (hM : WFm M) (hI : Inv ms M) (ow : OT ω w 30 31 3 was (avs ql)) (rw_ : ∀ p ∈ ql, RT ω w 31 p.2 2 (labs p.1.1)) (eq : ql.map (·.1) = M)
    (bo : BT ω w 34 gO 41 (opC o)) {bb : Bool} (next : ∀ M' ω' w', Top w0 ω' w' → AS ω' w' 10 gs rs ms M' → WFm M' → Inv ms M' → X ms sc (some ⟨gs, 0, none⟩) (IntKind.i64.wrap ((i : Int) + 1)) w') :
    C.tocsinlaw21_AlertsStands.S35 K X ms sc (some ⟨gs, 0, none⟩) (i : Int) was (some ⟨gO, 0, none⟩) bb w := by
  unfold C.tocsinlaw21_AlertsStands.S35
  have hql : ql.length = M.length := by rw [← eq, List.length_map]
  have hcnt := hM.cnt
  have hwn := rdA_n ow.rd
  refine ptr_at <| cI_at (n := o.2.1) (by rw [addr_add, bo.cell]; rfl) <| ptr_at <| cI_at (n := o.2.2.1) (by rw [addr_add, bo.cell]; rfl) ?_
  have rest : ∀ (M3 : List Av) (e : Int) ω3 w3, Stp (DT 10) ω ω3 w w3 → AS ω3 w3 10 gs rs ms M3 → WFm M3 → Inv ms M3 → (e = 0 → ∀ x ∈ M, o.2.1 < x.2.2 → x ∈ M3) → M3.length ≤ M.length →
      (∀ ω4 w4, AS ω4 w4 10 gs rs ms M3 → ∀ Z : Int → Int → World → Prop, (∀ ω5 w5, Stp (DT 10) ω4 ω5 w4 w5 → AS ω5 w5 10 gs rs ms M3 → Z 0 e w5) → C.alerts_Set_Sweep (some ⟨gs, 0, none⟩) o.2.1 o.2.2.1 w4 Z) →
      C.tocsinlaw21_all (some ⟨gs, 0, none⟩) (0 : Int) w3 fun l200 w201 => G.ptr (some ⟨gO, 0, none⟩) fun p202 => G.cI .i64 (p202.add 1) w201 fun n203 => G.ptr (some ⟨gO, 0, none⟩) fun p204 => G.cI .i64 (p204.add 2) w201 fun n205 => C.alerts_Set_Sweep (some ⟨gs, 0, none⟩) n203 n205 w201 fun n206 n207 w208 => G.cond (((M.length : Int) - (M3.length : Int)) != (IntKind.i64.wrap (((was.n : Nat) : Int) - ((l200.n : Nat) : Int)))) (K false w208) (G.cond (n206 != (0 : Int)) (K false w208) (G.cond (e != n207) (K false w208) (C.tocsinlaw21_AlertsStands.S33 K X ms sc (some ⟨gs, 0, none⟩) (i : Int) was (some ⟨gO, 0, none⟩) e w208))) := by
    intro M3 e ω3 w3 k3 a3 h3 I3 hin hlen hsw
    have top3 := top.stp k3 rfl
    have ow3 := ow.stp k3 rfl
    have bo3 := bo.stp k3 rfl
    refine all_AS ω3 a3 h3 0 32 33 fun l ql2 ω4 w4 k4 o4 e4 r4 => ?_
    rw [if_pos rfl] at e4
    have a4 := a3.stp k4 (off_non 10)
    have bo4 := bo3.stp k4
    have hln := rdA_n o4.rd
    have hq2 : ql2.length = M3.length := by rw [← e4, List.length_map]
    refine ptr_at <| cI_at (n := o.2.1) (by rw [addr_add, bo4.cell]; rfl) <| ptr_at <| cI_at (n := o.2.2.1) (by rw [addr_add, bo4.cell]; rfl) ?_
    refine hsw ω4 w4 a4 _ fun ω5 w5 k5 a5 => ?_
    have top5 := (top3.stp k4).stp k5 rfl
    rw [wI64 (by omega) (by omega)]
    refine cond_f (by simp; omega) <| cond_f rfl <| cond_f (by simp) ?_
    have hw5 : RA w5 was ql := RA.of ((ow3.stp k4).stp k5 rfl) fun p hp => (((rw_ p hp).stp k3 rfl).stp k4).stp k5 rfl
    have bo5 := bo4.stp k5 rfl
    refine st_S33 a5 h3 (htab.keep top5.k) hw5 eq (by omega) (by rw [bo5.cell]; rfl) hin fun w' k' => ?_
    exact next _ ω5 w' (top5.stp (k'.stp0 ω5)) (a5.stp (k'.stp0 ω5) (off_non 10)) h3 I3
  refine sweep_ok a hM (fun hb => ?_) (fun b1 b2 b3 b4 ω3 w3 k3 a3 => ?_)
  · have := rest M 1 ω w (Stp.refl _ _ _) a hM hI (fun h => by cases h) (Nat.le_refl _) fun ω4 w4 a4 Z hZ => sweep_ok a4 hM (fun _ => hZ ω4 w4 (Stp.refl _ _ _) a4) (fun b1 b2 b3 b4 => by omega)
    rw [Int.sub_self] at this; exact this
  · have hl := List.length_filter_le (fun a : Av => decide (o.2.1 - o.2.2.1 < a.2.2)) M
    refine rest (swM (o.2.1 - o.2.2.1) M) 0 ω3 w3 k3 a3 (hM.filter _) (sw_inv hI) (fun _ x hx hlt => ?_) hl fun ω4 w4 a4 Z hZ => sweep_ok a4 (hM.filter _) (fun hb => by omega) (fun _ _ _ _ ω5 w5 k5 a5 => ?_)
    · unfold swM; rw [List.mem_filter]; exact ⟨hx, decide_eq_true (by omega)⟩
    · rw [sw_twice] at a5
      have := hZ ω5 w5 k5 a5
      rw [sw_twice, Int.sub_self]; exact this
end
theorem stands_law (htab : UTab w0) {sc : Sl} {ops : List Opv} (hsc : Rd w0 sc 6 (opsV ops)) (hl : ops.length ≤ 9223372036854775807) (ho : ∀ o ∈ ops, ∃ m, Rd w0 o.2.2.2.1 2 (labs m)) {K : Bool → World → Prop} (hK : ∀ w', Keep w0 w' → K true w') : C.tocsinlaw21_AlertsStands rs ms sc w0 K := by
  have hsn := rdO_n hsc
  unfold C.tocsinlaw21_AlertsStands
  by_cases hr : 1 ≤ rs ∧ rs ≤ 1099511627776 ∧ 1 ≤ ms ∧ ms ≤ 500
  case neg => exact new_bad (by omega) (cond_t rfl (known_ok (Top.init w0) htab hK))
  obtain ⟨r1, r2, r3, r4⟩ := hr
  refine new_ok (fun _ => 0) 10 r1 r2 r3 r4 fun gs ω1 w1 k1 a1 => cond_f rfl ?_
  have top1 := (Top.init w0).stp k1
  unfold C.tocsinlaw21_AlertsStands.S45
  refine C.tocsinlaw21_AlertsStands.L5_ind fun X hX => ?_
  have key : ∀ (d i : Nat) (M : List Av) (ω : Tg) (w : World), i + d = ops.length → Top w0 ω w → AS ω w 10 gs rs ms M → WFm M → Inv ms M → X ms sc (some ⟨gs, 0, none⟩) (i : Int) w := by
    intro d
    induction d with
    | zero =>
      intro i M ω w hi top a hM hI
      refine hX _ _ _ _ _ ?_
      unfold C.tocsinlaw21_AlertsStands.S43 C.tocsinlaw21_AlertsStands.S2
      exact cond_d (fun h => by omega) (fun _ => known_ok top htab hK)
    | succ d ih =>
      intro i M ω w hi top a hM hI
      refine hX _ _ _ _ _ ?_
      unfold C.tocsinlaw21_AlertsStands.S43
      refine cond_d (fun _ => ?_) (fun h => by omega)
      unfold C.tocsinlaw21_AlertsStands.S40
      obtain ⟨o, hox⟩ : ∃ o, ops[i]? = some o := ⟨_, List.getElem?_eq_getElem (by omega)⟩
      obtain ⟨m, hm⟩ := ho o (List.mem_of_getElem? hox)
      refine all_AS ω a hM 0 30 31 fun was ql ω2 w2 k2 o2 e2 r2 => ?_
      rw [if_pos rfl] at e2
      have top2 := top.stp k2
      have a2 := a.stp k2 (off_non 10)
      refine rdO_at (hsc.keep top2.k) (k := i) rfl hox fun b c0 c1 c2 c3 c4 c5 => cI_at c0 <| cI_at c1 <| cI_at c2 <| cSl_at c3 <| cI_at c4 <| cI_at c5 ?_
      refine new_T (ω := ω2) 34 fun g ω3 w3 k3 b3 => st_T b3 (by simp) fun ω4 w4 k4 b4 => st_TA b4 (by simp) fun ω5 w5 k5 b5 => st_TA b5 (by simp) fun ω6 w6 k6 b6 => st_TA b6 (by simp) fun ω7 w7 k7 b7 => st_TA b7 (by simp) fun ω8 w8 k8 b8 => st_TA b8 (by simp) fun ω9 w9 k9 b9 => ?_
      have sp : Stp (Mem.One 34) ω2 ω9 w2 w9 := ((((((k3.non _).trans k4).trans k5).trans k6).trans k7).trans k8).trans k9
      have top9 := top2.stp sp rfl
      have a9 := a2.stp sp ⟨rfl, rfl, rfl⟩
      have o9 := o2.stp sp rfl
      have r9 : ∀ p ∈ ql, RT ω9 w9 31 p.2 2 (labs p.1.1) := fun p hp => (r2 p hp).stp sp rfl
      have b9' : BT ω9 w9 34 g 41 (opC o) := b9
      have nx : IntKind.i64.wrap ((i : Int) + 1) = ((i + 1 : Nat) : Int) := by rw [wI64 (by omega) (by omega)]; omega
      have next : ∀ M' ω' w', Top w0 ω' w' → AS ω' w' 10 gs rs ms M' → WFm M' → Inv ms M' → X ms sc (some ⟨gs, 0, none⟩) (IntKind.i64.wrap ((i : Int) + 1)) w' := fun M' ω' w' t' a' h' i' => by
        rw [nx]; exact ih (i + 1) M' ω' w' (by omega) t' a' h' i'
      unfold C.tocsinlaw21_AlertsStands.S38 C.tocsinlaw21_AlertsStands.D37
      refine ptr_at <| cI_at (n := o.1) (by rw [b9'.cell]; rfl) <| cond_of (fun _ => ?_) (fun _ => ?_)
      · exact st_S35 top9 htab a9 hM hI o9 r9 e2 b9' next
      · unfold C.tocsinlaw21_AlertsStands.S36
        exact st_S24 top9 htab a9 hM hI r4 ⟨r1, by assumption⟩ o9 r9 e2 b9' hm next
  exact key ops.length 0 [] ω1 w1 (by omega) top1 a1 wf_nil ⟨by simp; omega, by simp⟩
theorem ops_of {s : Sl} {b : Nat} (h : Cl w (.sl [.int .i64, .int .i64, .int .i64, .sl [.str, .str], .int .i64, .int .i64]) s.v b) : ∃ l : List Opv, Rd w s 6 (opsV l) ∧ s.n = l.length ∧ s.n < b ∧ s.n ≤ maxLen ∧ ∀ o ∈ l, ∃ m, Rd w o.2.2.2.1 2 (labs m) ∧ ∀ x ∈ m, x.1.size < b ∧ x.2.size < b :=
  haveI : Inhabited Opv := ⟨(0, 0, 0, nilS, 0, 0)⟩
  rows_of (α := Opv) (enc := opC) (fun _ => rfl) (by decide) h fun V hV => by
    obtain ⟨n0, e0, _⟩ := (hV 0 _ rfl).int_inv
    obtain ⟨n1, e1, _⟩ := (hV 1 _ rfl).int_inv
    obtain ⟨n2, e2, _⟩ := (hV 2 _ rfl).int_inv
    obtain ⟨s3, e3⟩ := (hV 3 _ rfl).sl_ex
    obtain ⟨n4, e4, _⟩ := (hV 4 _ rfl).int_inv
    obtain ⟨n5, e5, _⟩ := (hV 5 _ rfl).int_inv
    have h3 := hV 3 _ rfl
    rw [e3] at h3
    obtain ⟨m, r1, _, _, _, r2⟩ := labs_of h3
    refine ⟨(n0, n1, n2, s3, n4, n5), fun j hj => ?_, m, r1, r2⟩
    match j, hj with
    | 0, _ => rw [e0]; rfl
    | 1, _ => rw [e1]; rfl
    | 2, _ => rw [e2]; rfl
    | 3, _ => rw [e3]; rfl
    | 4, _ => rw [e4]; rfl
    | 5, _ => rw [e5]; rfl
theorem stands_in (htab : UTab w0) {sc : Sl} {b : Nat} (h : Cl w0 (.sl [.int .i64, .int .i64, .int .i64, .sl [.str, .str], .int .i64, .int .i64]) sc.v b) {K : Bool → World → Prop} (hK : ∀ w', Keep w0 w' → K true w') : C.tocsinlaw21_AlertsStands rs ms sc w0 K := by
  obtain ⟨l, h1, h2, _, h3, h4⟩ := ops_of h
  exact stands_law htab h1 (by have : maxLen ≤ 9223372036854775807 := by simp [maxLen]
                               omega) (fun o ho => (h4 o ho).imp fun m hm => hm.1) hK
end Go.Proofs.YtfkpehcbijgmnaaDoor.Al
