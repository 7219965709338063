/- Layer 21 (alerts): AlertsLasts. Own work. -/
import Derived.Test.YtfkpehcbijgmnaaDoorAlK
namespace Go.Proofs.YtfkpehcbijgmnaaDoor.Al
open Go Vm Go.RowKit Num Mem Utf Lib Lab
variable {ω ω' : Tg} {w w' w0 : World} {t u gs gm : Nat} {T : Nat → Bool} {pl : QL} {M : List Av} {rs ms now : Int} {m : List Lb} {s e s0 e0 : Int}

/-! ## AlertsLasts -/
theorem lasts_S9 (top : Top w0 ω w) (htab : UTab w0) (h2 : 2 ≤ rs) (hb : rs ≤ 1073741824) (hr : (rt m).1 = 0) (hm : m ≠ []) {l st : Sl} (hl : Rd w0 l 2 (labs m)) {ss : List Int} (hst : Rd w0 st 1 (ss.map (Value.int .i64))) (hi64 : ∀ x ∈ ss, -9223372036854775808 ≤ x ∧ x ≤ 9223372036854775807)
    (a0 : AS ω w 10 gs rs 3 []) {K : Bool → World → Prop} (hK : ∀ w', Keep w0 w' → K true w') : C.tocsinlaw21_AlertsLasts.S9 K rs l st (some ⟨gs, 0, none⟩) 1 1 w := by
  have hsn : st.n = ss.length := by have := hst.2.1; simpa using this.symm
  unfold C.tocsinlaw21_AlertsLasts.S9
  refine C.tocsinlaw21_AlertsLasts.L5_ind fun X hX => ?_
  have key : ∀ (d i : Nat) (now e : Int) (M : List Av) (ω : Tg) (w : World), i + d = ss.length → i ≤ 50 → (M = [] ∧ now = 1 ∨ M = [(m, 1, e)] ∧ now < e) → 1 ≤ now → now ≤ 1 + (i : Int) * 1073741824 → Top w0 ω w → AS ω w 10 gs rs 3 M → WFm M → X rs l st (some ⟨gs, 0, none⟩) now 1 (i : Int) w := by
    intro d
    induction d with
    | zero =>
      intro i now e M ω w hi hi5 hM h1 hn top a hw
      refine hX _ _ _ _ _ _ _ _ ?_
      unfold C.tocsinlaw21_AlertsLasts.S7 C.tocsinlaw21_AlertsLasts.S2
      exact cond_d (fun h => by omega) (fun _ => known_ok top htab hK)
    | succ d ih =>
      intro i now e M ω w hi hi5 hM h1 hn top a hw
      refine hX _ _ _ _ _ _ _ _ ?_
      unfold C.tocsinlaw21_AlertsLasts.S7 C.tocsinlaw21_AlertsLasts.S2
      refine cond_d (fun _ => cond_d (fun hlt => ?_) (fun _ => known_ok top htab hK)) (fun h => by omega)
      have hi1 : (i : Int) * 1073741824 ≤ 50 * 1073741824 := by omega
      have rl := Top.rt top hl
      refine put_ok (t := 10) (u := 0) (a := (m, 0, 0)) (ms := 3) (rs := rs) (now := now) top htab rfl a hw (by decide) ⟨by omega, by omega⟩ rl rfl fun ω3 w3 k3 a3 h3 => ?_
      have em : putM rs 3 now (m, 0, 0) M = (0, [(m, 1, now + rs)]) := by
        have es : putS now (m, 0, 0) = now := by unfold putS; rw [if_pos rfl]
        rcases hM with ⟨rfl, rfl⟩ | ⟨rfl, he⟩
        · exact put_first hr hm (by omega) (by omega) (by omega) (by decide)
        · rw [put_again hr hm (by omega) (by omega) (by decide) (by decide) (by rw [es]; omega) he, es]
          have : (if (1 : Int) < now then (1 : Int) else now) = 1 := by split <;> omega
          rw [this]
      rw [em] at a3 h3 ⊢
      have top3 := top.stp k3 rfl
      refine cond_f rfl ?_
      refine get_ok a3 h3 (htab.keep top3.k) (hl.keep top3.k) (fun hn => absurd hn (by simp [getM])) fun av ha r w5 k5 o5 => ?_
      have ea : av = (m, 1, now + rs) := by simpa [getM] using ha.symm
      subst ea
      have top5 := top3.stp (k5.stp0 ω3)
      have a5 := a3.stp (k5.stp0 ω3) (off_non 10)
      refine loc_ok fun g6 w6 k6 hg6 b6 => ?_
      have top6 := top5.stp (k6.1.stp0 ω3)
      have a6 := a5.stp (k6.1.stp0 ω3) (off_non 10)
      have e1 : IntKind.i64.wrap (now + rs) = now + rs := wI64 (by omega) (by omega)
      have e2 : IntKind.i64.wrap (now + rs - 1) = now + rs - 1 := wI64 (by omega) (by omega)
      rw [e1, e2]
      refine cond_f rfl <| cI_at (n := 1) (by rw [addr_add, b6.cell]; rfl) <| cond_f rfl <| cI_at (n := now + rs) (by rw [addr_add, b6.cell]; rfl) <| cond_f (by simp) ?_
      refine firing_AS ω3 a6 h3 now 70 71 fun r7 ql7 ω7 w7 k7 o7 e7 _ => ?_
      have n7 := qn o7 e7
      rw [fires_yes (by omega) (by omega)] at n7
      refine cond_f (by rw [n7]; rfl) ?_
      have a7 := a6.stp k7 (off_non 10)
      refine firing_AS ω7 a7 h3 (now + rs - 1) 70 71 fun r8 ql8 ω8 w8 k8 o8 e8 _ => ?_
      have n8 := qn o8 e8
      rw [fires_yes (by omega) (by omega)] at n8
      refine cond_f (by rw [n8]; rfl) ?_
      have a8 := a7.stp k8 (off_non 10)
      refine firing_AS ω8 a8 h3 (now + rs) 70 71 fun r9 ql9 ω9 w9 k9 o9 e9 _ => ?_
      have n9 := qn o9 e9
      rw [fires_no (by omega)] at n9
      refine cond_f (by rw [n9]; rfl) ?_
      have a9 := a8.stp k9 (off_non 10)
      have top9 := ((top6.stp k7).stp k8).stp k9
      obtain ⟨x, hx⟩ : ∃ x, ss[i]? = some x := ⟨_, List.getElem?_eq_getElem (by omega)⟩
      refine Rd.ix (hst.keep top9.k) (by decide) (by omega) (by omega) fun p hp => ?_
      have c0 := hp 0 (.int .i64 x) (by decide) (by rw [Int.toNat_natCast, Nat.mul_one, Nat.add_zero, List.getElem?_map, hx]; rfl)
      rw [show p.add 0 = p by simp [Addr.add]] at c0
      refine cI_at c0 ⟨by omega, ?_⟩
      have nx : IntKind.i64.wrap ((i : Int) + 1) = ((i + 1 : Nat) : Int) := by rw [wI64 (by omega) (by omega)]; omega
      rw [nx]
      have m1 : Int.tmod x rs < rs := Int.tmod_lt_of_pos x (by omega)
      have m2 : -rs < Int.tmod x rs := by
        have := Int.tmod_lt_of_pos (-x) (b := rs) (by omega)
        rw [Int.neg_tmod] at this; omega
      generalize Int.tmod x rs = y at *
      have nx2 : ((i + 1 : Nat) : Int) * 1073741824 = (i : Int) * 1073741824 + 1073741824 := by omega
      refine cond_d (fun hneg => ?_) (fun hpos => ?_)
      · have e3 : IntKind.i64.wrap (0 - y) = 0 - y := wI64 (by omega) (by omega)
        have e4 : IntKind.i64.wrap (now + (0 - y)) = now + (0 - y) := wI64 (by omega) (by omega)
        rw [e3, e4]
        exact ih (i + 1) _ (now + rs) _ ω9 w9 (by omega) (by omega) (.inr ⟨rfl, by omega⟩) (by omega) (by omega) top9 a9 h3
      · have e4 : IntKind.i64.wrap (now + y) = now + y := wI64 (by omega) (by omega)
        rw [e4]
        exact ih (i + 1) _ (now + rs) _ ω9 w9 (by omega) (by omega) (.inr ⟨rfl, by omega⟩) (by omega) (by omega) top9 a9 h3
  exact key ss.length 0 1 0 [] ω w (by omega) (by omega) (.inl ⟨rfl, rfl⟩) (by decide) (by decide) top a0 wf_nil
theorem lasts_law (htab : UTab w0) {n : Int} {l st : Sl} (hl : Rd w0 l 2 (labs m)) (hz : ∀ x ∈ m, x.2.size ≤ 140737488355300) {ss : List Int} (hst : Rd w0 st 1 (ss.map (Value.int .i64))) (hi64 : ∀ x ∈ ss, -9223372036854775808 ≤ x ∧ x ≤ 9223372036854775807)
    {K : Bool → World → Prop} (hK : ∀ w', Keep w0 w' → K true w') : C.tocsinlaw21_AlertsLasts n l st w0 K := by
  have hln := rdL_n hl
  unfold C.tocsinlaw21_AlertsLasts
  have go : ∀ r : Int, 2 ≤ r → r ≤ 1073741824 → C.tocsinlaw21_AlertsLasts.S11 K r l st w0 := by
    intro r h2 hb
    unfold C.tocsinlaw21_AlertsLasts.S11
    refine new_ok (fun _ => 0) 10 (by omega) (by omega) (by decide) (by decide) fun gs ω1 w1 k1 a1 => ?_
    have top1 := (Top.init w0).stp k1
    refine rright_ok (hl.keep top1.k) hz fun w2 k2 => cond_f rfl ?_
    have top2 := top1.stp (k2.stp0 ω1)
    have a2 := a1.stp (k2.stp0 ω1) (off_non 10)
    have rl := Top.rt top2 hl
    have no : badA 5 (m, 0, 0) = 41 → C.alerts_Set_Put (some ⟨gs, 0, none⟩) 5 l 0 0 w2 fun n73 w74 => G.cond (n73 == (41 : Int)) (C.tocsinlaw21_known w74 fun b75 w76 => K b75 w76) (K false w74) := fun hb => by
      refine put_ok (t := 10) (u := 0) (a := (m, 0, 0)) (ms := 3) (rs := r) (now := 5) top2 htab rfl a2 wf_nil (by decide) ⟨by omega, by omega⟩ rl rfl fun ω3 w3 k3 a3 h3 => ?_
      have em : (putM r 3 5 (m, 0, 0) []).1 = 41 := by unfold putM; rw [hb, if_pos (by decide)]
      rw [em]
      exact cond_t rfl (known_ok (top2.stp k3 rfl) htab hK)
    refine cond_ne (fun hr => no ?_) (fun hr => cond_eq (fun h0 => no ?_) (fun h0 => ?_))
    · unfold badA; rw [if_neg (by decide), if_pos (.inl hr)]
    · unfold badA; rw [if_neg (by decide), if_pos (.inr (List.eq_nil_of_length_eq_zero (show m.length = 0 by omega)))]
    · exact lasts_S9 top2 htab h2 hb hr (by rintro rfl; simp at hln; omega) hl hst hi64 a2 hK
  exact cond_d (fun _ => go 100 (by decide) (by decide)) fun h1 => cond_d (fun _ => go 100 (by decide) (by decide)) fun h2 => go n (by omega) (by omega)
end Go.Proofs.YtfkpehcbijgmnaaDoor.Al
