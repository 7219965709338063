/- Layer 9: what the law's own functions tell; the law. Own work. -/
import Derived.Test.YtkeabflhjjpmmaaDoorHdP
namespace Go.Proofs.YtkeabflhjjpmmaaDoor.Hd
open Go Vm Go.RowKit Num Mem Utf Lib Lab Sm
variable {ω ω' : Tg} {w w' w0 : World} {gh : Nat} {room most rf : Nat} {st : St} {T : Nat → Bool}

theorem less_self : ∀ l : List UInt8, Op.bytesLess l l = false
  | [] => rfl
  | a :: l => by simp [Op.bytesLess, less_self l]
theorem ba_eq {a b : ByteArray} : (a.toList == b.toList) = decide (a = b) := by
  rw [ByteArray.toList_eq, ByteArray.toList_eq]
  by_cases h : a = b
  · subst h; simp
  · rw [decide_eq_false h]
    rw [beq_eq_false_iff_ne]
    intro e
    refine h ?_
    cases a; cases b
    simpa using e
theorem side_ok {a b : ByteArray} {K : Int → World → Prop} (hK : ∀ n : Int, (n = 0 ↔ a = b) → K n w) : C.tocsinref04_side a b w K := by
  unfold C.tocsinref04_side
  refine cond_of (fun h => hK _ ⟨fun q => by omega, fun e => ?_⟩) (fun h => ?_)
  · subst e; rw [less_self] at h; cases h
  · rw [h, Bool.false_or, ba_eq]
    refine cond_not (fun he => hK _ ⟨fun q => by omega, fun e => ?_⟩) (fun he => hK _ ⟨fun _ => of_decide_eq_true he, fun _ => rfl⟩)
    exact absurd e (of_decide_eq_false he)
theorem cmp_ok {a b : Sl} {x y : List Lb} (ha : Rd w0 a 2 (labs x)) (hb : Rd w0 b 2 (labs y)) (hx : x.length ≤ 9223372036854775807) {K : Int → World → Prop} (hK : ∀ n w', Keep w0 w' → (n = 0 ↔ x = y) → K n w') : C.tocsinref04_Compare a b w0 K := by
  have han := rdL_len ha
  have hbn := rdL_len hb
  unfold C.tocsinref04_Compare C.tocsinref04_Compare.S9
  refine C.tocsinref04_Compare.L5_ind fun X hX => ?_
  have key : ∀ (d i : Nat) (w : World), i + d = x.length → i ≤ y.length → x.take i = y.take i → Keep w0 w → X a b (i : Int) w := by
    intro d
    induction d with
    | zero =>
      intro i w hi hy he k
      refine hX _ _ _ _ ?_
      unfold C.tocsinref04_Compare.S7 C.tocsinref04_Compare.S2
      refine cond_d (fun h => by omega) (fun _ => ?_)
      refine cond_d (fun h => hK _ w k ⟨fun q => by omega, fun e => by rw [e] at han; omega⟩) (fun h => cond_d (fun h2 => by omega) (fun h2 => hK _ w k ⟨fun _ => ?_, fun _ => rfl⟩))
      rw [List.take_of_length_le (by omega), List.take_of_length_le (by omega)] at he
      exact he
    | succ d ih =>
      intro i w hi hy he k
      refine hX _ _ _ _ ?_
      unfold C.tocsinref04_Compare.S7 C.tocsinref04_Compare.S2
      have hxi : x[i]? = some x[i] := List.getElem?_eq_getElem (by omega)
      refine cond_d (fun _ => ?_) (fun h => by omega)
      refine cond_d (fun h => ?_) (fun h => ?_)
      · have hyi : y[i]? = some y[i] := List.getElem?_eq_getElem (by omega)
        have kd := Keep.trans k (Keep.drew w)
        refine rdL_at (ha.keep kd) (k := i) rfl hxi fun p p0 p1 => cS_at p0 <| rdL_at (hb.keep kd) (k := i) rfl hyi fun q q0 q1 => cS_at q0 ?_
        refine side_ok fun n hn => cond_ne (fun h0 => hK n _ kd ⟨fun q => absurd q h0, fun e => ?_⟩) (fun h0 => ?_)
        · refine absurd (hn.2 ?_) h0
          subst e; rfl
        have kd2 := Keep.trans kd (Keep.drew _)
        refine rdL_at (ha.keep kd2) (k := i) rfl hxi fun p p0 p1 => cS_at p1 <| rdL_at (hb.keep kd2) (k := i) rfl hyi fun q q0 q1 => cS_at q1 ?_
        refine side_ok fun n' hn' => cond_ne (fun h0' => hK n' _ kd2 ⟨fun q => absurd q h0', fun e => ?_⟩) (fun h0' => ?_)
        · refine absurd (hn'.2 ?_) h0'
          subst e; rfl
        rw [wI64 (by omega) (by omega), show (i : Int) + 1 = ((i + 1 : Nat) : Int) by omega]
        refine ih (i + 1) _ (by omega) (by omega) ?_ kd2
        rw [List.take_add_one, List.take_add_one, he, hxi, hyi, Prod.ext (hn.1 h0) (hn'.1 h0')]
      · refine cond_d (fun h => by omega) (fun h => cond_d (fun h2 => hK _ w k ⟨fun q => by omega, fun e => by rw [e] at han; omega⟩) (fun h2 => by omega))
  exact key x.length 0 w0 (by omega) (by omega) (by simp) (Keep.refl w0)
theorem sameL_ok {a b : Sl} {x y : List Lb} (ha : Rd w0 a 2 (labs x)) (hb : Rd w0 b 2 (labs y)) (hx : x.length ≤ 9223372036854775807) {K : Bool → World → Prop} (hK : ∀ w', Keep w0 w' → K (decide (x = y)) w') : C.tocsinref04_Same a b w0 K := by
  unfold C.tocsinref04_Same
  refine cmp_ok ha hb hx fun n w' k hn => ?_
  have e : (n == 0) = decide (x = y) := by
    by_cases h : x = y
    · rw [decide_eq_true h, hn.2 h]; rfl
    · rw [decide_eq_false h, beq_eq_false_iff_ne]; exact fun q => h (hn.1 q)
  rw [e]; exact hK w' k
theorem sameS_ok {a b : Sl} {x y : List Smp} (ha : Rd w0 a 2 (smps x)) (hb : Rd w0 b 2 (smps y)) (hx : x.length ≤ 9223372036854775807) {K : Bool → World → Prop} (hK : ∀ w', Keep w0 w' → K (decide (x = y)) w') : C.tocsinref09_SameSamples a b w0 K := by
  have han := rdS_len ha
  have hbn := rdS_len hb
  unfold C.tocsinref09_SameSamples
  refine cond_ne (fun h => ?_) (fun h => ?_)
  · have := hK w0 (Keep.refl w0)
    rwa [decide_eq_false (by rintro rfl; omega)] at this
  unfold C.tocsinref09_SameSamples.S9
  refine C.tocsinref09_SameSamples.L5_ind fun X hX => ?_
  have key : ∀ (d i : Nat) (w : World), i + d = x.length → x.take i = y.take i → Keep w0 w → X a b (i : Int) w := by
    intro d
    induction d with
    | zero =>
      intro i w hi he k
      refine hX _ _ _ _ ?_
      unfold C.tocsinref09_SameSamples.S7 C.tocsinref09_SameSamples.S2
      refine cond_d (fun h => by omega) (fun _ => ?_)
      rw [List.take_of_length_le (by omega), List.take_of_length_le (by omega)] at he
      have := hK w k
      rwa [decide_eq_true he] at this
    | succ d ih =>
      intro i w hi he k
      refine hX _ _ _ _ ?_
      unfold C.tocsinref09_SameSamples.S7
      have hxi : x[i]? = some x[i] := List.getElem?_eq_getElem (by omega)
      have hyi : y[i]? = some y[i] := List.getElem?_eq_getElem (by omega)
      have kd := Keep.trans k (Keep.drew w)
      have no : x[i] ≠ y[i] → ∀ w', Keep w0 w' → K false w' := fun hne w' k' => by
        have := hK w' k'
        rwa [decide_eq_false (by rintro rfl; exact hne rfl)] at this
      refine cond_d (fun _ => ?_) (fun h => by omega)
      refine rdS_at (ha.keep kd) (k := i) rfl hxi fun p p0 p1 => cI_at p0 <| rdS_at (hb.keep kd) (k := i) rfl hyi fun q q0 q1 => cI_at q0 ?_
      refine cond_ne (fun h0 => no (fun e => h0 (by rw [e])) _ kd) (fun h0 => ?_)
      refine rdS_at (ha.keep kd) (k := i) rfl hxi fun p p0 p1 => cF_at p1 <| rdS_at (hb.keep kd) (k := i) rfl hyi fun q q0 q1 => cF_at q1 ?_
      refine show sameAt _ _ _ _ ∧ _ from ⟨same_keep (Keep.refl _) (cell_lt q1), ?_⟩
      unfold C.math_Float64bits
      refine cond_ne (fun h1 => no (fun e => h1 (by rw [e])) _ kd) (fun h1 => ?_)
      rw [wI64 (by omega) (by omega), show (i : Int) + 1 = ((i + 1 : Nat) : Int) by omega]
      refine ih (i + 1) _ (by omega) ?_ kd
      rw [List.take_add_one, List.take_add_one, he, hxi, hyi, Prod.ext h0 (by exact_mod_cast h1)]
  exact key x.length 0 w0 (by omega) (by simp) (Keep.refl w0)

/-- A new head. -/
theorem new_ok {a b : Nat} (ha : 1 ≤ a) (ha' : a ≤ 1000) (hb : 1 ≤ b) (hb' : b ≤ 100000) {K : Option Addr → World → Prop} (hK : ∀ gh ω' w', Stp Non ω ω' w w' → HD ω' w' gh a b [] 0 → K (some ⟨gh, 0, none⟩) w') : C.head_New (a : Int) (b : Int) w K := by
  unfold C.head_New
  refine cond_d (fun h => by omega) fun _ => cond_d (fun h => by omega) fun _ => cond_d (fun h => by omega) fun _ => cond_d (fun h => by omega) fun _ => ?_
  refine mk_T (ω := ω) 2 fun gm ω1 w1 k1 m1 => new_T (ω := ω1) 1 fun gh ω2 w2 k2 b2 => hK gh ω2 w2 (k1.trans k2) ⟨gm, [], b2, m1.stp k2 rfl, rfl, fun i k l hi => by simp at hi⟩

def m0 : List Lb := [(⟨#[97]⟩, ⟨#[49]⟩)]
theorem rt_m0 : rt m0 = (0, 0) := by decide +kernel
theorem known_ok (t : Top w0 ω w) (ht : UTab w0) {K : Bool → World → Prop} (hK : ∀ w', Keep w0 w' → K true w') : C.tocsinlaw09_known w K := by
  unfold C.tocsinlaw09_known
  refine new_ok (ω := ω) (a := 2) (b := 3) (by decide) (by decide) (by decide) (by decide) fun gh ω1 w1 k1 h1 => ?_
  refine new_T (ω := ω1) 7 fun g ω2 w2 k2 b2 => cond_f rfl ?_
  obtain ⟨gm, al, h1⟩ := h1
  have h2 : HD ω2 w2 gh 2 3 [] 0 := ⟨gm, al, h1.stp k2 far_non⟩
  have k12 := k1.trans k2
  have rd2 : Rd w2 ⟨some ⟨g, 0, none⟩, 1, 1⟩ 2 (labs m0) := Rd.blk (o := 0) (n := 1) (c := 1) (sz := 2) b2.blk (Nat.le_refl _) (by simp)
  have hr : (rt m0).1 = 0 := by rw [rt_m0]
  have hm : m0 ≠ [] := by simp [m0]
  have c1 : chk 2 3 [] m0 (5, 4607182418800017408) = (0, false) := by
    have : getS [] m0 = none := getS_none hr rfl
    unfold chk
    rw [if_neg (by simp [hr, hm]), if_neg (by simp), this]; rfl
  refine append_ok (x := (5, 4607182418800017408)) h2 (by intro e he; cases he) (by simp [total]) (by decide) (by simp) (ht.keep (Keep.trans t.k k12.keep)) rd2 fun ω3 w3 k3 h3 => ?_
  have g1 := getS_app_self c1
  rw [getS_none (st := []) hr rfl] at g1
  have e1 : rfN 2 3 [] 0 m0 (5, 4607182418800017408) = 0 := by unfold rfN; rw [c1]; rfl
  rw [e1] at h3
  have t1 := (app_total (room := 2) (most := 3) (st := []) (m := m0) (x := (5, 4607182418800017408)))
  have n1 := (app_ne (room := 2) (most := 3) (m := m0) (x := (5, 4607182418800017408)) (st := []) (by intro e he; cases he))
  have tt : total (app 2 3 [] m0 (5, 4607182418800017408)) = 1 := by unfold app; rw [if_pos c1]; rfl
  rw [c1]
  generalize app 2 3 [] m0 (5, 4607182418800017408) = s1 at *
  have r3 : Rd w3 ⟨some ⟨g, 0, none⟩, 1, 1⟩ 2 (labs m0) := Rd.blk (o := 0) (n := 1) (c := 1) (sz := 2) (b2.stp k3).blk (Nat.le_refl _) (by simp)
  have kk : Top w0 ω3 w3 := (t.stp k12).stp k3
  have cc : ∀ (V : Nat) (T : Int), 0 ≤ T → T < 1125899906842624 → chk 2 3 s1 m0 (T, V) = if T < 5 then (90, false) else if T = 5 then (if V = 4607182418800017408 then (0, true) else (6, false)) else (0, false) := fun V T h0 h1 => by
    unfold chk
    rw [if_neg (by simp [hr, hm]), if_neg (by simp only; omega), g1]
    simp only [Option.getD_none, List.nil_append, List.getLast?_singleton]
    rw [tt]
    rfl
  have c2 := cc 4607182418800017408 4 (by decide) (by decide)
  rw [if_pos (by decide)] at c2
  have c3 := cc 4611686018427387904 5 (by decide) (by decide)
  rw [if_neg (by decide), if_pos rfl, if_neg (by decide)] at c3
  have a2 : app 2 3 s1 m0 (4, 4607182418800017408) = s1 := by unfold app; rw [if_neg (by rw [c2]; simp)]
  have a3 : app 2 3 s1 m0 (5, 4611686018427387904) = s1 := by unfold app; rw [if_neg (by rw [c3]; simp)]
  have f2 : rfN 2 3 s1 0 m0 (4, 4607182418800017408) = 1 := by unfold rfN; rw [c2]; rfl
  have f3 : rfN 2 3 s1 1 m0 (5, 4611686018427387904) = 2 := by unfold rfN; rw [c3]; rfl
  have l1 : s1.length ≤ 1 := by have := t1.2; simpa using this
  refine append_ok (x := (4, 4607182418800017408)) h3 n1 (by rw [tt]; decide) (by decide) (by omega) (ht.keep kk.k) r3 fun ω4 w4 k4 h4 => ?_
  rw [a2, f2] at h4
  rw [c2]
  have r4 : Rd w4 ⟨some ⟨g, 0, none⟩, 1, 1⟩ 2 (labs m0) := Rd.blk (o := 0) (n := 1) (c := 1) (sz := 2) ((b2.stp k3).stp k4).blk (Nat.le_refl _) (by simp)
  have kk4 := kk.stp k4
  refine append_ok (x := (5, 4611686018427387904)) h4 n1 (by rw [tt]; decide) (by decide) (by omega) (ht.keep kk4.k) r4 fun ω5 w5 k5 h5 => ?_
  rw [a3, f3] at h5
  rw [c3]
  have r5 : Rd w5 ⟨some ⟨g, 0, none⟩, 1, 1⟩ 2 (labs m0) := Rd.blk (o := 0) (n := 1) (c := 1) (sz := 2) (((b2.stp k3).stp k4).stp k5).blk (Nat.le_refl _) (by simp)
  have kk5 := kk4.stp k5
  refine get_ok h5 (by rw [tt]; decide) (ht.keep kk5.k) r5 fun r w6 k6 o6 => ?_
  rw [g1] at o6 ⊢
  have hn := rdS_len o6.rd
  obtain ⟨gm5, al5, h5⟩ := h5
  have h6 : HD ω5 w6 gh 2 3 s1 2 := ⟨gm5, al5, h5.stp (k6.stp0 ω5) far_non⟩
  refine cond_t rfl <| cond_t rfl <| cond_t rfl <| cond_t rfl <| cond_t (by rw [hn]; rfl) ?_
  refine samples_ok h6 (cond_t (by rw [tt]; rfl) (refused_ok h6 (hK w6 (Keep.trans kk5.k k6))))
end Go.Proofs.YtkeabflhjjpmmaaDoor.Hd
