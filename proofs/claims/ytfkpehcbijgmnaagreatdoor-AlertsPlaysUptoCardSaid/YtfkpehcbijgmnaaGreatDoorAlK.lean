/- Layer 21 (alerts): fixed calls. Own work. -/
import Derived.Test.YtfkpehcbijgmnaaGreatDoorAlE
namespace Go.Proofs.YtfkpehcbijgmnaaGreatDoor.Al
open Go Vm Go.RowKit Num Mem Utf Lib Lab
variable {ω ω' : Tg} {w w' w0 : World} {t u gs gm : Nat} {T : Nat → Bool} {pl : QL} {M : List Av} {rs ms now : Int}

theorem bt_rt {g : Nat} {e : TypeId} {sz : Nat} {xs : List Value} (h : BT ω w t g e xs) (hl : xs.length = sz) : RT ω w t ⟨some ⟨g, 0, none⟩, 1, 1⟩ sz xs :=
  ⟨by
    have := Rd.blk (o := 0) (n := 1) (c := 1) (sz := sz) h.blk (Nat.le_refl _) (by omega)
    rwa [List.drop_zero, Nat.one_mul, List.take_of_length_le (by omega)] at this, fun g' o' ha hne => by
    simp only [Option.some.injEq, Addr.mk.injEq] at ha
    rw [← ha.1]; exact h.tag⟩
theorem all_ASo (ω : Tg) (h : AS ω w t gs rs ms M) (hM : WFm M) (m u v : Nat) {K : Sl → World → Prop}
    (hK : ∀ r ql ω' w', Stp Non ω ω' w w' → OT ω' w' u 34 3 r (avs ql) → ql.map (·.1) = (if m = 0 then M else M.take m) → (∀ p ∈ ql, OT ω' w' v 48 2 p.2 (labs p.1.1)) → K r w') : C.tocsinlaw21_all (some ⟨gs, 0, none⟩) (m : Int) w K := by
  obtain ⟨gm, pl, h, hp⟩ := h
  exact all_ok ω h.aw hp hM.up (by have := plen hM hp; omega) (short hM hp) m u v hK
theorem all_AS (ω : Tg) (h : AS ω w t gs rs ms M) (hM : WFm M) (m u v : Nat) {K : Sl → World → Prop}
    (hK : ∀ r ql ω' w', Stp Non ω ω' w w' → OT ω' w' u 34 3 r (avs ql) → ql.map (·.1) = (if m = 0 then M else M.take m) → (∀ p ∈ ql, RT ω' w' v p.2 2 (labs p.1.1)) → K r w') : C.tocsinlaw21_all (some ⟨gs, 0, none⟩) (m : Int) w K :=
  all_ASo ω h hM m u v fun r ql ω' w' k o e hr => hK r ql ω' w' k o e fun p hp => (hr p hp).rt
theorem firing_ASo (ω : Tg) (h : AS ω w t gs rs ms M) (hM : WFm M) (now : Int) (u v : Nat) {K : Sl → World → Prop}
    (hK : ∀ r ql ω' w', Stp Non ω ω' w w' → OT ω' w' u 34 3 r (avs ql) → ql.map (·.1) = M.filter (fires now) → (∀ p ∈ ql, OT ω' w' v 48 2 p.2 (labs p.1.1)) → K r w') : C.alerts_Set_Firing (some ⟨gs, 0, none⟩) now w K := by
  obtain ⟨gm, pl, h, hp⟩ := h
  exact firing_ok ω h.aw hp hM.up (by have := plen hM hp; omega) (short hM hp) now u v hK
theorem firing_AS (ω : Tg) (h : AS ω w t gs rs ms M) (hM : WFm M) (now : Int) (u v : Nat) {K : Sl → World → Prop}
    (hK : ∀ r ql ω' w', Stp Non ω ω' w w' → OT ω' w' u 34 3 r (avs ql) → ql.map (·.1) = M.filter (fires now) → (∀ p ∈ ql, RT ω' w' v p.2 2 (labs p.1.1)) → K r w') : C.alerts_Set_Firing (some ⟨gs, 0, none⟩) now w K :=
  firing_ASo ω h hM now u v fun r ql ω' w' k o e hr => hK r ql ω' w' k o e fun p hp => (hr p hp).rt

/-! ## One label set alone -/
variable {m : List Lb} {s e s0 e0 : Int}
theorem bad_none (hr : (rt m).1 = 0) (hm : m ≠ []) (h1 : 0 ≤ now) (h2 : now ≤ 1125899906842624) {st : Int} (h3 : 0 ≤ st) (h4 : st ≤ 1126999418470400) : badA now (m, st, 0) = 0 := by
  unfold badA
  dsimp only
  rw [if_neg (by omega), if_neg (by simp [hr, hm]), if_neg (by omega)]
theorem put_first (hr : (rt m).1 = 0) (hm : m ≠ []) (h1 : 0 ≤ now) (h2 : now ≤ 1125899906842624) (hrs : 1 ≤ rs) (hms : 1 ≤ ms) : putM rs ms now (m, 0, 0) [] = (0, [(m, now, now + rs)]) := by
  unfold putM
  rw [if_neg (by rw [bad_none hr hm h1 h2 (by decide) (by decide)]; decide)]
  have e1 : putS now (m, 0, 0) = now := by unfold putS; rw [if_pos rfl]
  have e2 : putE rs now (m, 0, 0) = now + rs := by unfold putE; rw [if_pos rfl]
  rw [e1, e2]
  unfold putF
  rw [if_neg (by omega)]
  show (if ms ≤ 0 then _ else _) = _
  rw [if_neg (by omega)]; rfl
theorem put_again (hr : (rt m).1 = 0) (hm : m ≠ []) (h1 : 0 ≤ now) (h2 : now ≤ 1125899906842624) {st : Int} (h3 : 0 ≤ st) (h4 : st ≤ 1126999418470400) (h5 : putS now (m, st, 0) ≤ now + rs) (h6 : now < e0) :
    putM rs ms now (m, st, 0) [(m, s0, e0)] = (0, [(m, (if s0 < putS now (m, st, 0) then s0 else putS now (m, st, 0)), now + rs)]) := by
  unfold putM
  rw [if_neg (by rw [bad_none hr hm h1 h2 h3 h4]; decide)]
  have e2 : putE rs now (m, st, 0) = now + rs := by unfold putE; rw [if_pos rfl]
  rw [e2]
  unfold putF
  rw [if_neg (by omega)]
  have eg : getM [(m, s0, e0)] m = some (m, s0, e0) := by simp [getM]
  rw [eg]
  dsimp only
  rw [if_pos h6]
  unfold insM
  rw [if_pos rfl]
theorem fires_yes (h1 : s ≤ now) (h2 : now < e) : [((m, s, e) : Av)].filter (fires now) = [(m, s, e)] := by
  rw [List.filter_cons, if_pos (by unfold fires; simp [h1, h2])]; rfl
theorem fires_no (h2 : e ≤ now) : [((m, s, e) : Av)].filter (fires now) = [] := by
  rw [List.filter_cons, if_neg (by unfold fires; simp; intro _; omega)]; rfl
theorem qn {r : Sl} {ql : QL} {L : List Av} (h : OT ω w u 34 3 r (avs ql)) (e : ql.map (·.1) = L) : r.n = L.length := by rw [rdA_n h.rd, ← e, List.length_map]

/-! ## Fixed calls -/
def mA : List Lb := [(⟨#[97]⟩, ⟨#[49]⟩)]
theorem rtA : (rt mA).1 = 0 := by kernel_rfl
theorem known_ok (top : Top w0 ω w) (htab : UTab w0) {K : Bool → World → Prop} (hK : ∀ w', Keep w0 w' → K true w') : C.tocsinlaw21_known w K := by
  unfold C.tocsinlaw21_known
  refine new_ok ω 10 (by decide) (by decide) (by decide) (by decide) fun gs ω1 w1 k1 a1 => ?_
  have top1 := top.stp k1
  refine new_T (ω := ω1) 1 fun g ω2 w2 k2 b2 => cond_f rfl ?_
  have top2 := top1.stp k2
  have r2 : RT ω2 w2 1 ⟨some ⟨g, 0, none⟩, 1, 1⟩ 2 (labs mA) := bt_rt b2 rfl
  refine put_ok (t := 10) (u := 1) (a := (mA, 0, 0)) (ms := 5) (rs := 100) top2 htab rfl (a1.stp k2 (off_non 10)) wf_nil (by decide) (by decide) r2 rfl fun ω3 w3 k3 a3 h3 => ?_
  rw [put_first rtA (by decide) (by decide) (by decide) (by decide) (by decide)] at a3 h3 ⊢
  have top3 := top2.stp k3 rfl
  have r3 := r2.stp k3 rfl
  refine put_ok (t := 10) (u := 1) (a := (mA, 20, 0)) (ms := 5) (rs := 100) top3 htab rfl a3 h3 (by decide) (by decide) r3 rfl fun ω4 w4 k4 a4 h4 => ?_
  rw [put_again rtA (by decide) (by decide) (by decide) (by decide) (by decide) (by decide) (by decide)] at a4 h4 ⊢
  have em : [((mA, (if (10 : Int) < putS 50 (mA, 20, 0) then 10 else putS 50 (mA, 20, 0)), (50 : Int) + 100) : Av)] = [(mA, 10, 150)] := by decide
  rw [show (([((mA, (if (10 : Int) < putS 50 (mA, 20, 0) then 10 else putS 50 (mA, 20, 0)), (50 : Int) + 100) : Av)] : List Av)) = [(mA, 10, 150)] from em] at a4 h4
  have top4 := top3.stp k4 rfl
  have r4 := r3.stp k4 rfl
  refine get_ok a4 h4 (htab.keep top4.k) r4.rd (fun hn => absurd hn (by simp [getM])) fun a ha r w5 k5 o5 => ?_
  have ea : a = (mA, 10, 150) := by simpa [getM] using ha.symm
  subst ea
  have top5 := top4.stp (k5.stp0 ω4)
  have a5 := a4.stp (k5.stp0 ω4) (off_non 10)
  refine loc_ok fun g6 w6 k6 hg6 b6 => ?_
  have top6 := top5.stp (k6.1.stp0 ω4)
  have a6 := a5.stp (k6.1.stp0 ω4) (off_non 10)
  refine cond_t rfl <| cond_t rfl <| cond_t rfl <| cI_at (n := 10) (by rw [addr_add, b6.cell]; rfl) <| cond_t rfl <| cI_at (n := 150) (by rw [addr_add, b6.cell]; rfl) <| cond_t rfl ?_
  refine firing_AS ω4 a6 h4 149 70 71 fun r7 ql7 ω7 w7 k7 o7 e7 _ => ?_
  have n7 := qn o7 e7
  rw [fires_yes (by decide) (by decide)] at n7
  refine cond_t (by rw [n7]; rfl) ?_
  refine firing_AS ω7 (a6.stp k7 (off_non 10)) h4 150 70 71 fun r8 ql8 ω8 w8 k8 o8 e8 _ => ?_
  have n8 := qn o8 e8
  rw [fires_no (by decide)] at n8
  rw [n8]
  exact hK w8 ((top6.stp k7).stp k8).k

end Go.Proofs.YtfkpehcbijgmnaaGreatDoor.Al
