/- Layer 21 (alerts): what came in; AlertsNil. Own work. -/
import Derived.Test.YtfkpehcbijgmnaaDoorAlF
import Derived.Test.YtfkpehcbijgmnaaDoorRepR
import Derived.Test.YtfkpehcbijgmnaaDoorUtfWB
namespace Go.Proofs.YtfkpehcbijgmnaaDoor.Al
open Go Vm Go.RowKit Num Mem Utf Lib Lab Rep
variable {ω ω' : Tg} {w w' w0 : World} {t u gs gm : Nat} {T : Nat → Bool} {M : List Av} {rs ms now : Int}

theorem labs_of {s : Sl} {b : Nat} (h : Cl w (.sl [.str, .str]) s.v b) : ∃ m : List Lb, Rd w s 2 (labs m) ∧ s.n = m.length ∧ s.n < b ∧ s.n ≤ maxLen ∧ ∀ x ∈ m, x.1.size < b ∧ x.2.size < b :=
  rows_of (α := Lb) (enc := labC) (fun _ => rfl) (by decide) h fun V hV => by
    obtain ⟨s0, e0, h0⟩ := (hV 0 _ rfl).str_inv
    obtain ⟨s1, e1, h1⟩ := (hV 1 _ rfl).str_inv
    refine ⟨(s0, s1), fun j hj => ?_, h0, h1⟩
    match j, hj with
    | 0, _ => rw [e0]; rfl
    | 1, _ => rw [e1]; rfl
theorem fm_ints : ∀ m : List Int, m.flatMap (fun x => [Value.int .i64 x]) = m.map (Value.int .i64)
  | [] => rfl
  | a :: m => by rw [List.flatMap_cons, fm_ints m]; rfl
theorem ints_of {s : Sl} {b : Nat} (h : Cl w (.sl [.int .i64]) s.v b) : ∃ m : List Int, Rd w s 1 (m.map (Value.int .i64)) ∧ s.n = m.length ∧ s.n < b ∧ s.n ≤ maxLen ∧ ∀ x ∈ m, -9223372036854775808 ≤ x ∧ x ≤ 9223372036854775807 := by
  have := rows_of (α := Int) (enc := fun x => [Value.int .i64 x]) (Q := fun x => -9223372036854775808 ≤ x ∧ x ≤ 9223372036854775807) (fun _ => rfl) (by decide) h fun V hV => by
    obtain ⟨n, e0, a1, a2⟩ := (hV 0 _ rfl).int_inv
    refine ⟨n, fun j hj => ?_, by simpa [IntKind.min, IntKind.signed, IntKind.bits] using a1, by simpa [IntKind.max, IntKind.signed, IntKind.bits] using a2⟩
    match j, hj with
    | 0, _ => rw [e0]; rfl
  obtain ⟨m, h1, r⟩ := this
  refine ⟨m, ?_, r⟩
  rw [fm_ints] at h1; exact h1
theorem lasts_in (htab : UTab w0) {n : Int} {l st : Sl} {b b' : Nat} (hl : Cl w0 (.sl [.str, .str]) l.v b) (hb : b ≤ 2000000) (hs : Cl w0 (.sl [.int .i64]) st.v b') {K : Bool → World → Prop} (hK : ∀ w', Keep w0 w' → K true w') : C.tocsinlaw21_AlertsLasts n l st w0 K := by
  obtain ⟨m, h1, _, _, _, hz⟩ := labs_of hl
  obtain ⟨ss, h2, _, _, _, hi⟩ := ints_of hs
  exact lasts_law htab h1 (fun x hx => by have := (hz x hx).2; omega) h2 hi hK

/-! ## A set that is not there -/
theorem none_tells {Fc : Clee} {n g : Nat} {Ct : Nat → Bool} (hF : ∀ args K w, C.alerts_Set_All_1.cl args K w → Fc n args K w) :
    TellsG Tryd.prog Fc (.func (.func n) #[] #[.pointer (some ⟨g, 0, none⟩)]) () (fun _ _ _ _ _ => False) (fun _ => True) (fun _ w => w.cell? ⟨g, 0, none⟩ = some (.pointer none)) Non Ct := by
  intro L I Kk Q ω w hC hI hKI hy hK hQ h0
  refine hF _ _ _ ?_
  show C.alerts_Set_All_1 (.func (.yield L) #[] #[]) (some ⟨g, 0, none⟩) w (C.alerts_Set_All_1.Kt fun _ w' => Q w')
  unfold C.alerts_Set_All_1
  exact ptr_at (cP_at (hC () ω w h0) (cond_t rfl (hQ ω w (hK () ω w trivial h0))))
theorem all_nil {m : Int} {K : Sl → World → Prop} (hK : ∀ w', Keep w w' → K nilS w') : C.tocsinlaw21_all none m w K := by
  unfold C.tocsinlaw21_all
  refine new_T (ω := fun _ => 0) 1 fun g1 ω1 w1 k1 b1 => new_T (ω := ω1) 4 fun g2 ω2 w2 k2 b2 => ?_
  unfold C.alerts_Set_All
  refine new_T (ω := ω2) 6 fun g3 ω3 w3 k3 b3 => isNilF_no (cond_f rfl ?_)
  unfold C.tocsinlaw21_all.S9 C.tocsinlaw21_all.R5
  have top3 := (((Top.init w).stp k1).stp k2).stp k3
  refine rangeGW_ok (T := Duo 2 4) (u := 3) (J := fun _ ω w2 => Top w ω w2 ∧ BT ω w2 6 g3 24 [.pointer none] ∧ BT ω w2 4 g2 35 [Sl.v nilS]) (E := fun e ω w => False)
    (none_tells (g := g3) fun _ _ _ h => h) rfl rfl ?_ ?_ ?_ ?_ ?_ ⟨top3, b3, b2.stp k3⟩ ?_ ?_
  · rintro i j a ω ω' w w' h k
    exact h
  · rintro i ω w ⟨_, b, _⟩
    rw [b.cell]; rfl
  · rintro S hS i ω ω' w w' ⟨top, x1, x2⟩ k
    have z : S 0 = false ∧ S 6 = false ∧ S 4 = false := by rcases hS with rfl | rfl <;> exact ⟨rfl, rfl, rfl⟩
    exact ⟨top.stp k z.1, x1.stp k z.2.1, x2.stp k z.2.2⟩
  · rintro S hS e ω ω' w w' h k
    exact h
  · rintro i j a ω w4 bz Rr h
    exact h.elim
  · rintro ω' w' D hD hDu ⟨_, _, top, x1, x2⟩
    show C.tocsinlaw21_all.S2 K _ (pushMark undef D) w'
    unfold C.tocsinlaw21_all.S2
    have sp := put_stp (ω := ω') (w := w') (o := .deferred none) hDu
    exact ptr_at (cSl_at (s := nilS) (by rw [x2.cell]; rfl) (marks_at hD (hK _ ((top.stp sp).k))))
  · rintro e ω' w' D _ _ h
    exact h.elim
theorem firing_nil {n : Int} {K : Sl → World → Prop} (hK : ∀ w', Keep w w' → K nilS w') : C.alerts_Set_Firing none n w K := by
  unfold C.alerts_Set_Firing
  refine new_T (ω := fun _ => 0) 1 fun g1 ω1 w1 k1 b1 => new_T (ω := ω1) 4 fun g2 ω2 w2 k2 b2 => ?_
  unfold C.alerts_Set_Firing.S9 C.alerts_Set_All
  refine new_T (ω := ω2) 6 fun g3 ω3 w3 k3 b3 => ?_
  unfold C.alerts_Set_Firing.R5
  have top3 := (((Top.init w).stp k1).stp k2).stp k3
  refine rangeGW_ok (T := Duo 2 4) (u := 3) (J := fun _ ω w2 => Top w ω w2 ∧ BT ω w2 6 g3 24 [.pointer none] ∧ BT ω w2 4 g2 35 [Sl.v nilS]) (E := fun e ω w => False)
    (none_tells (g := g3) fun _ _ _ h => h) rfl rfl ?_ ?_ ?_ ?_ ?_ ⟨top3, b3, b2.stp k3⟩ ?_ ?_
  · rintro i j a ω ω' w w' h k
    exact h
  · rintro i ω w ⟨_, b, _⟩
    rw [b.cell]; rfl
  · rintro S hS i ω ω' w w' ⟨top, x1, x2⟩ k
    have z : S 0 = false ∧ S 6 = false ∧ S 4 = false := by rcases hS with rfl | rfl <;> exact ⟨rfl, rfl, rfl⟩
    exact ⟨top.stp k z.1, x1.stp k z.2.1, x2.stp k z.2.2⟩
  · rintro S hS e ω ω' w w' h k
    exact h
  · rintro i j a ω w4 bz Rr h
    exact h.elim
  · rintro ω' w' D hD hDu ⟨_, _, top, x1, x2⟩
    show C.alerts_Set_Firing.S2 K _ (pushMark undef D) w'
    unfold C.alerts_Set_Firing.S2
    have sp := put_stp (ω := ω') (w := w') (o := .deferred none) hDu
    exact ptr_at (cSl_at (s := nilS) (by rw [x2.cell]; rfl) (marks_at hD (hK _ ((top.stp sp).k))))
  · rintro e ω' w' D _ _ h
    exact h.elim
theorem nil_law (htab : UTab w0) {n : Int} {l : Sl} {a b : Int} {K : Bool → World → Prop} (hK : ∀ w', Keep w0 w' → K true w') : C.tocsinlaw21_AlertsNil n l a b w0 K := by
  unfold C.tocsinlaw21_AlertsNil
  refine newD fun g w1 k1 hg1 b1 => ?_
  unfold C.alerts_Set_Sweep
  refine cond_t rfl <| cSl_at (s := l) (by rw [b1.cell]; rfl) ?_
  unfold C.alerts_Set_Get
  refine newD fun g2 w2 k2 hg2 b2 => cond_t rfl <| stD hg2 k2 b2 (by simp) fun w3 k3 b3 => stDA hg2 k3 b3 (by simp) fun w4 k4 b4 => stDA hg2 k4 b4 (by simp) fun w5 k5 b5 => ?_
  refine cSl_at (s := nilS) (by rw [b5.cell]; rfl) <| cI_at (n := 0) (by rw [addr_add, b5.cell]; rfl) <| cI_at (n := 0) (by rw [addr_add, b5.cell]; rfl) ?_
  refine loc_ok fun g6 w6 k6 hg6 b6 => ?_
  have k16 := Keep.trans k5.1 k6.1
  have b16 := b1.keep k16
  refine cSl_at (s := l) (by rw [b16.cell]; rfl) <| cI_at (n := a) (by rw [addr_add, b16.cell]; rfl) <| cI_at (n := b) (by rw [addr_add, b16.cell]; rfl) ?_
  unfold C.alerts_Set_Put
  refine newD fun g7 w7 k7 hg7 b7 => cond_t rfl <| cond_t rfl <| cond_t rfl <| cond_t rfl <| cond_t rfl ?_
  have k07 := Keep.trans (Keep.trans k1.1 k16) k7.1
  refine firing_nil fun w8 k8 => cond_t rfl <| all_nil fun w9 k9 => cond_t rfl ?_
  unfold C.alerts_Set_Len
  exact cond_t rfl <| cond_t rfl <| known_ok ((Top.init w0).stp ((Keep.trans k07 (Keep.trans k8 k9)).stp0 _)) htab hK
set_option maxRecDepth 100000 in
theorem open_alert {H : Type} {enc : TypeId × Value → H} {base : Nat} {v : Value} {d : DataW H} {p : List MemPlace} {spare held} (hval : Value.okWide Tryd.prog w .any base 31 v) (h : DataW.Trod enc Tryd.prog w 0 spare held 31 v d p) :
    ∃ (s : Sl) (a b : Int), v = .agg ⟨[s.v, .int .i64 a, .int .i64 b]⟩ ∧ Cl w (.sl [.str, .str]) s.v (Rows.uptoBulk d) := by
  obtain ⟨cs, rfl, hl, hr⟩ := open_row (fs := match Tryd.prog.underlying 31 with | some (.struct fs) => fs | _ => #[]) (shs := [.sl [.str, .str], .int .i64, .int .i64]) 8 (by kernel_rfl) (by kernel_rfl) hval h
  obtain ⟨v0, e0, h0⟩ := hr 0 _ rfl
  obtain ⟨v1, e1, h1⟩ := hr 1 _ rfl
  obtain ⟨v2, e2, h2⟩ := hr 2 _ rfl
  obtain ⟨s, rfl⟩ := h0.sl_ex
  obtain ⟨a, rfl, _⟩ := h1.int_inv
  obtain ⟨b, rfl, _⟩ := h2.int_inv
  refine ⟨s, a, b, ?_, h0⟩
  match cs, hl, e0, e1, e2 with
  | [c0, c1, c2], _, e0, e1, e2 =>
    simp only [List.getElem?_cons_zero, List.getElem?_cons_succ, Option.some.injEq] at e0 e1 e2
    rw [e0, e1, e2]
end Go.Proofs.YtfkpehcbijgmnaaDoor.Al
