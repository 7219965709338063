/- Layer 9: the law HeadKeeps, about the clean texts. Own work. -/
import Derived.Test.YtkeabflhjjpmmaaDoorHdL
namespace Go.Proofs.YtkeabflhjjpmmaaDoor.Hd
open Go Vm Go.RowKit Num Mem Utf Lib Lab Sm
variable {ω ω' : Tg} {w w' w0 : World} {gh : Nat} {room most rf : Nat} {st : St} {T : Nat → Bool}

abbrev XT := Cur C.tocsinlaw09_HeadKeeps.g14
def pushT (X : XT) (l s o : Sl) (h : Option Addr) (want : Sl) (i : Int) (w : World) : Prop :=
  G.ix s.a s.n i 2 fun p => G.cI .i64 p w.drew fun n => G.cF .f64 (p.add 1) w.drew fun f => G.new (.cells #[(.int .i64 n), (.float .f64 f)] 32) w.drew fun p1 w1 => G.runSl C.pr (Builtin.append_ #[23, 23] 23 #[want.v, (Sl.v (⟨some p1, 1, 1⟩ : Sl))]) w1 fun l2 w2 => X l s o h l2 (IntKind.i64.wrap (i + (1 : Int))) w2
def tailT (X : XT) (l s o : Sl) (h : Option Addr) (want : Sl) (i : Int) (n53 : Int) (w : World) : Prop :=
  G.cond (n53 == (0 : Int)) (G.cond (((want.n : Nat) : Int) == (0 : Int)) (pushT X l s o h want i w)
    (G.ix want.a want.n (IntKind.i64.wrap (((want.n : Nat) : Int) - (1 : Int))) 2 fun p => G.cI .i64 p w.drew fun n75 => G.ix s.a s.n i 2 fun p => G.cI .i64 p w.drew fun n77 => G.cond (n75 != n77) (pushT X l s o h want i w) (X l s o h want (IntKind.i64.wrap (i + (1 : Int))) w.drew)))
    (X l s o h want (IntKind.i64.wrap (i + (1 : Int))) w.drew)

set_option maxRecDepth 100000 in
theorem keeps_ok {l s o : Sl} {ml mo : List Lb} {ss : List Smp} (ht : UTab w0) (hl : Rd w0 l 2 (labs ml)) (hs : Rd w0 s 2 (smps ss)) (ho : Rd w0 o 2 (labs mo)) (hll : ml.length ≤ 9223372036854775807) (hsl : ss.length ≤ 9223372036854775807)
    {K : Bool → World → Prop} (hK : ∀ w', Keep w0 w' → K true w') : C.tocsinlaw09_HeadKeeps l s o w0 K := by
  unfold C.tocsinlaw09_HeadKeeps
  refine new_ok (ω := fun _ => 0) (a := 1000) (b := 100000) (by decide) (by decide) (by decide) (by decide) fun gh ω1 w1 k1 h1 => cond_f rfl ?_
  unfold C.tocsinlaw09_HeadKeeps.S18
  have hsn := rdS_len hs
  refine C.tocsinlaw09_HeadKeeps.L14_ind fun X hX => ?_
  have fin : ∀ (st : St) (rf : Nat) (wn : List Smp) (want : Sl) (ω : Tg) (w : World), Inv st ml wn → HD ω w gh 1000 100000 st rf → OT ω w 4 32 2 want (smps wn) → Top w0 ω w → total st ≤ 1000 →
      C.tocsinlaw09_HeadKeeps.S11 K l (some ⟨gh, 0, none⟩) want w := by
    intro st rf wn want ω w hI hD hW t htot
    have hwn : wn.length ≤ 1000 := by
      have hg := hI.get
      unfold wnt at hg
      split at hg
      · rename_i e; subst e; simp
      · have hr : (rt ml).1 = 0 := by
          by_cases q : (rt ml).1 = 0
          · exact q
          · unfold getS at hg; rw [if_pos q] at hg; cases hg
        rw [getS_eq hr] at hg
        cases hp : pos (keyOf ml) (st.map (·.1)) 0 with
        | none => rw [hp] at hg; cases hg
        | some j =>
          rw [hp] at hg
          simp only [Option.bind_some] at hg
          cases hs : st[j]? with
          | none => rw [hs] at hg; cases hg
          | some e =>
            rw [hs] at hg
            simp at hg
            have := total_ge hs
            rw [hg] at this
            omega
    unfold C.tocsinlaw09_HeadKeeps.S11
    refine get_ok hD (by omega) (ht.keep t.k) (hl.keep t.k) fun r w2 k2 o2 => ?_
    have e : (getS st ml).getD [] = wn := by rw [hI.get]; unfold wnt; split <;> simp_all
    rw [e] at o2
    have hW2 := hW.stp (k2.stp0 ω)
    refine sameS_ok o2.rd hW2.rd (by omega) fun w3 k3 => ?_
    rw [decide_eq_true rfl]
    refine cond_f rfl ?_
    have hwl := rdS_len hW.rd
    refine cond_f ?_ ?_
    · have e2 : (getS st ml).isSome = decide (((want.n : Nat) : Int) > 0) := by
        rw [hI.get, hwl]; unfold wnt
        split
        · rename_i q; subst q; rfl
        · rename_i q
          have := List.length_pos_iff.2 q
          rw [decide_eq_true (by omega)]; rfl
      rw [e2]; simp
    have o3 := o2.keep k3
    have t3 := (t.stp (k2.stp0 ω)).stp (k3.stp0 ω)
    have hrn := rdS_len o3.rd
    unfold C.tocsinlaw09_HeadKeeps.S9
    refine C.tocsinlaw09_HeadKeeps.L5_ind fun Y hY => ?_
    have key : ∀ (d i : Nat) (w' : World), 1 ≤ i → i + d = max 1 wn.length → Keep w3 w' → Y r (i : Int) w' := by
      intro d
      induction d with
      | zero =>
        intro i w' h1 hi k
        refine hY _ _ _ ?_
        unfold C.tocsinlaw09_HeadKeeps.S7 C.tocsinlaw09_HeadKeeps.S2
        refine cond_d (fun h => by omega) (fun _ => ?_)
        exact known_ok (t3.stp (k.stp0 ω)) ht hK
      | succ d ih =>
        intro i w' h1 hi k
        refine hY _ _ _ ?_
        unfold C.tocsinlaw09_HeadKeeps.S7 C.tocsinlaw09_HeadKeeps.S2
        have h1' : wn[i]? = some wn[i] := List.getElem?_eq_getElem (by omega)
        have h0' : wn[i - 1]? = some wn[i - 1] := List.getElem?_eq_getElem (by omega)
        have kd := Keep.trans k (Keep.drew w')
        refine cond_d (fun _ => ?_) (fun h => by omega)
        refine rdS_at (o3.keep kd).rd (k := i) rfl h1' fun p p0 p1 => cI_at p0 <| rdS_at (o3.keep kd).rd (k := i - 1) (by rw [wI64 (by omega) (by omega)]; omega) h0' fun q q0 q1 => cI_at q0 ?_
        refine cond_d (fun h => ?_) (fun h => ?_)
        · have := up_at (i := i - 1) hI.up h0' (by rw [show i - 1 + 1 = i by omega]; exact h1')
          omega
        · rw [wI64 (by omega) (by omega), show (i : Int) + 1 = ((i + 1 : Nat) : Int) by omega]
          exact ih (i + 1) _ (by omega) (by omega) kd
    exact key (max 1 wn.length - 1) 1 w3 (by omega) (by omega) (Keep.refl w3)
  have key : ∀ (d i : Nat) (st : St) (rf : Nat) (wn : List Smp) (want : Sl) (ω : Tg) (w : World), i + d = 500 → Inv st ml wn → HD ω w gh 1000 100000 st rf → OT ω w 4 32 2 want (smps wn) → Top w0 ω w → total st ≤ 2 * i → st.length ≤ 2 * i → rf ≤ 2 * i → wn.length ≤ i →
      X l s o (some ⟨gh, 0, none⟩) want (i : Int) w := by
    intro d
    induction d with
    | zero =>
      intro i st rf wn want ω w hi hI hD hW t h1 h2 h3 h4
      refine hX _ _ _ _ _ _ _ ?_
      unfold C.tocsinlaw09_HeadKeeps.S16
      refine cond_d (fun _ => cond_d (fun h => by omega) fun _ => ?_) (fun _ => ?_)
      · exact fin st rf wn want ω w hI hD hW t (by omega)
      · exact fin st rf wn want ω w hI hD hW t (by omega)
    | succ d ih =>
      intro i st rf wn want ω w hi hI hD hW t htot hstl hrf hwl
      refine hX _ _ _ _ _ _ _ ?_
      unfold C.tocsinlaw09_HeadKeeps.S16
      refine cond_d (fun hin => cond_d (fun _ => ?_) fun h => by omega) (fun _ => fin st rf wn want ω w hI hD hW t (by omega))
      have hx : ss[i]? = some ss[i] := List.getElem?_eq_getElem (by omega)
      generalize ss[i] = x at hx
      -- was
      refine get_ok hD (by omega) (ht.keep t.k) (hl.keep t.k) fun rw1 w2 k2 o2 => ?_
      have s2 := k2.stp ω 5
      have o2' := Own.tag o2 (Nat.le_refl _) ω 5
      have t2 := t.stp s2
      have hD2 : HD (ext ω w.heap.size 5) w2 gh 1000 100000 st rf := let ⟨gm, al, h⟩ := hD; ⟨gm, al, h.stp s2 far_non⟩
      have hW2 := hW.stp s2
      generalize ext ω w.heap.size 5 = ω2 at *
      refine rdS_at (hs.keep t2.k) (k := i) rfl hx fun p p0 p1 => cI_at p0 <| cF_at p1 ?_
      refine append_ok hD2 hI.ne (by omega) (by omega) (by omega) (ht.keep t2.k) (hl.keep t2.k) fun ω3 w3 k3 hD3 => ?_
      have t3 := t2.stp k3
      refine rdS_at (hs.keep t3.k) (k := i) rfl hx fun p p0 p1 => cI_at p0 <| cF_at p1 ?_
      have at1 := app_total (room := 1000) (most := 100000) (st := st) (m := ml) (x := x)
      have rf1 := rfN_le (room := 1000) (most := 100000) (st := st) (m := ml) (x := x) (rf := rf)
      refine append_ok hD3 (app_ne hI.ne) (by omega) (by omega) (by omega) (ht.keep t3.k) (ho.keep t3.k) fun ω4 w4 k4 hD4 => ?_
      have at2 := app_total (room := 1000) (most := 100000) (st := app 1000 100000 st ml x) (m := mo) (x := x)
      have rf2 := rfN_le (room := 1000) (most := 100000) (st := app 1000 100000 st ml x) (m := mo) (x := x) (rf := rfN 1000 100000 st rf ml x)
      have hI' := inv_step (room := 1000) (most := 100000) (mo := mo) (x := x) hI
      have hnew := chk_new (room := 1000) (most := 100000) (x := x) hI
      have t4 := t3.stp k4
      have hW4 := (hW2.stp k3).stp k4
      have o4 := (o2'.stp k3).stp k4
      have b2 : total (app 1000 100000 (app 1000 100000 st ml x) mo x) ≤ 2 * (i + 1) := by omega
      have b3 : (app 1000 100000 (app 1000 100000 st ml x) mo x).length ≤ 2 * (i + 1) := by omega
      have b4 : rfN 1000 100000 (app 1000 100000 st ml x) (rfN 1000 100000 st rf ml x) mo x ≤ 2 * (i + 1) := by omega
      generalize rfN 1000 100000 (app 1000 100000 st ml x) (rfN 1000 100000 st rf ml x) mo x = rf' at *
      generalize app 1000 100000 (app 1000 100000 st ml x) mo x = st' at *
      -- now
      refine get_ok hD4 (by omega) (ht.keep t4.k) (hl.keep t4.k) fun rn w5 k5 o5 => ?_
      have hD5 : HD ω4 w5 gh 1000 100000 st' rf' := let ⟨gm, al, h⟩ := hD4; ⟨gm, al, h.stp (k5.stp0 ω4) far_non⟩
      have t5 := t4.stp (k5.stp0 ω4)
      have hW5 := hW4.stp (k5.stp0 ω4)
      have o45 := o4.stp (k5.stp0 ω4)
      have go : ∀ (n : Int) (w' : World), n = (chk 1000 100000 st ml x).1 → Keep w5 w' → tailT X l s o (some ⟨gh, 0, none⟩) want (i : Int) n w' := by
        intro n w' en k
        have next : ∀ (want' : Sl) (ω'' : Tg) (w'' : World), HD ω'' w'' gh 1000 100000 st' rf' → OT ω'' w'' 4 32 2 want' (smps (wn' 1000 100000 st ml x wn)) → Top w0 ω'' w'' → X l s o (some ⟨gh, 0, none⟩) want' (IntKind.i64.wrap ((i : Int) + 1)) w'' := by
          intro want' ω'' w'' q1 q2 q3
          rw [wI64 (by omega) (by omega), show (i : Int) + 1 = ((i + 1 : Nat) : Int) by omega]
          refine ih (i + 1) st' rf' _ want' ω'' w'' (by omega) hI' q1 q2 q3 b2 b3 b4 ?_
          unfold wn'; split
          · rw [List.length_append]; simp; omega
          · omega
        have kd := Keep.trans k (Keep.drew w')
        have hDd : HD ω4 w'.drew gh 1000 100000 st' rf' := let ⟨gm, al, h⟩ := hD5; ⟨gm, al, h.stp (kd.stp0 ω4) far_non⟩
        have td := t5.stp (kd.stp0 ω4)
        have hWd := hW5.stp (kd.stp0 ω4)
        have stay : chk 1000 100000 st ml x ≠ (0, false) → X l s o (some ⟨gh, 0, none⟩) want (IntKind.i64.wrap ((i : Int) + 1)) w'.drew := fun hc => by
          refine next want ω4 _ hDd ?_ td
          unfold wn'; rw [if_neg hc]; exact hWd
        have push : chk 1000 100000 st ml x = (0, false) → pushT X l s o (some ⟨gh, 0, none⟩) want (i : Int) w' := fun hc => by
          unfold pushT
          refine rdS_at (hs.keep td.k) (k := i) rfl hx fun p p0 p1 => cI_at p0 <| cF_at p1 ?_
          have hwn := rdS_len hWd.rd
          refine push_T tiS hWd (n := 1) rfl (by intro v hv; simp at hv; rcases hv with rfl | rfl <;> rfl) (by simp only [maxLen]; omega) (by omega) fun r ω6 w6 k6 o6 hr => ?_
          obtain ⟨gm, al, hDd⟩ := hDd
          refine next r ω6 w6 ⟨gm, al, hDd.stp k6 (far_one (by decide) (by decide) (by decide))⟩ ?_ (td.stp k6)
          unfold wn'; rw [if_pos hc, smps_app]; exact o6
        unfold tailT
        rw [en]
        refine cond_eq (fun h0 => ?_) (fun h0 => stay (fun q => h0 (by rw [q])))
        obtain ⟨n1, n2⟩ := hnew h0
        have hwn := rdS_len hWd.rd
        refine cond_eq (fun hz => push (n1 (List.eq_nil_of_length_eq_zero (by omega)))) (fun hz => ?_)
        have hwe : wn ≠ [] := by rintro rfl; simp at hwn; omega
        obtain ⟨z, hz1⟩ : ∃ z, wn.getLast? = some z := ⟨_, List.getLast?_eq_some_getLast hwe⟩
        have hz' : wn[wn.length - 1]? = some z := by rw [← hz1, List.getLast?_eq_getElem?]
        refine rdS_at hWd.rd (k := wn.length - 1) (by rw [wI64 (by omega) (by omega)]; omega) hz' fun p p0 p1 => cI_at p0 <| rdS_at (hs.keep td.k) (k := i) rfl hx fun q q0 q1 => cI_at q0 ?_
        exact cond_ne (fun hne => push ((n2 z hz1).2 hne)) (fun heq => stay fun q => (n2 z hz1).1 q heq)
      refine cond_ne (fun hc => ?_) (fun hc => go _ _ rfl (Keep.refl w5))
      refine sameL_ok (hl.keep t5.k) (ho.keep t5.k) hll fun w6 k6 => ?_
      refine cond_not (fun he => ?_) (fun he => go _ _ rfl k6)
      have eg : (getS st ml).getD [] = (getS st' ml).getD [] := by
        rw [hI.get, hI'.get]
        unfold wn'
        rw [if_neg (fun q => hc (by rw [q]))]
      have l5 : ((getS st ml).getD []).length ≤ 9223372036854775807 := by
        have e : (getS st ml).getD [] = wn := by rw [hI.get]; unfold wnt; split <;> simp_all
        rw [e]; omega
      refine sameS_ok (o45.rd.keep k6) (o5.rd.keep k6) l5 fun w7 k7 => ?_
      rw [decide_eq_true eg]
      exact cond_f rfl (go _ _ rfl (Keep.trans k6 k7))
  obtain ⟨gm, al, h1'⟩ := h1
  exact key 500 0 [] 0 [] nilS ω1 w1 (by omega) ⟨by unfold getS; split <;> rfl, trivial, by intro e he; cases he⟩ ⟨gm, al, h1'⟩ (OT.nil ..) ((Top.init w0).stp k1) (by simp [total]) (by simp) (by simp) (by simp)
end Go.Proofs.YtkeabflhjjpmmaaDoor.Hd
