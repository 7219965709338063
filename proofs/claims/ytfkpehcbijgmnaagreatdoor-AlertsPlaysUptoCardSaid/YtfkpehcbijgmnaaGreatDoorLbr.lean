/- Layer 4: the reference's test of a label set answers as the program's. Own work. -/
import Derived.Test.YtfkpehcbijgmnaaGreatDoorLbc
import Derived.Test.YtfkpehcbijgmnaaGreatDoorUtfRB
namespace Go.Proofs.YtfkpehcbijgmnaaGreatDoor.Lab
open Go Vm Go.RowKit Num Mem Utf Lib
variable {ω ω' : Tg} {w w' w0 : World}

theorem rletter_ok {c : Nat} {K : Bool → World → Prop} (hK : K (letterB c) w) : C.tocsinref04_letter (c : Int) w K := by
  unfold C.tocsinref04_letter
  have e95 : ∀ b : Bool, letterB c = b → (((c : Int) == (95 : Int)) = (c == 95)) := fun _ _ => by
    cases h : (c == 95) with
    | true => simp at h; subst h; rfl
    | false => simp at h; simp; omega
  have e := e95 _ rfl
  have yes : letterB c = true → K true w := fun h => by rw [h] at hK; exact hK
  have els : (letterB c = (c == 95)) → K ((c : Int) == (95 : Int)) w := fun h => by rw [e, ← h]; exact hK
  refine cond_d (fun h1 => cond_d (fun h2 => yes ?_) (fun h2 => cond_d (fun h3 => cond_d (fun h4 => by omega) (fun h4 => els ?_)) (fun h3 => by omega))) (fun h1 => cond_d (fun h3 => cond_d (fun h4 => yes ?_) (fun h4 => els ?_)) (fun h3 => els ?_))
  all_goals (unfold letterB; simp; try omega)
theorem rdigit_ok {c : Nat} {K : Bool → World → Prop} (hK : K (digitB c) w) : C.tocsinref04_digit (c : Int) w K := by
  unfold C.tocsinref04_digit
  unfold digitB at hK
  refine cond_d (fun h => ?_) (fun h => ?_)
  · have e : decide ((c : Int) ≤ 57) = decide (c ≤ 57) := by simp only [decide_eq_decide]; omega
    rw [e]
    rw [decide_eq_true (by omega : 48 ≤ c)] at hK
    exact hK
  · rw [decide_eq_false (by omega : ¬ 48 ≤ c)] at hK
    exact hK
theorem let_dig {c : Nat} (h : letterB c = true) : digitB c = false := by
  unfold letterB at h
  unfold digitB
  simp at h ⊢
  omega
theorem okB_eq {c : Nat} {a b : Bool} (h1 : letterB c = a) (h2 : digitB c = b) : okB false c = (a || b) := by unfold okB; rw [h1, h2]; simp
theorem rname_ok {s : ByteArray} {K : Bool → World → Prop} (hK : K (namedB (Utf.bytes s) 64 false) w0) : C.tocsinref04_Name s w0 K := by
  have hsz := size_eq s
  have hl : (Utf.bytes s).length = s.size := hsz.symm
  unfold C.tocsinref04_Name
  have no : namedB (Utf.bytes s) 64 false = false → K false w0 := fun h => by rwa [h] at hK
  have etl : s.toList = Utf.bytes s := ByteArray.toList_eq s
  have e0 : (⟨#[]⟩ : ByteArray).toList = [] := by rw [ByteArray.toList_eq]
  rw [etl, e0]
  refine cond_of (fun h => no ?_) (fun h => ?_)
  · have : Utf.bytes s = [] := by simpa using h
    unfold namedB; rw [this]; rfl
  have hne : Utf.bytes s ≠ [] := by intro e; rw [e] at h; simp at h
  have hpos : 0 < s.size := by rw [← hl]; exact List.length_pos_iff.2 hne
  refine cond_d (fun h => no ?_) (fun h => ?_)
  · unfold namedB; rw [decide_eq_false (by omega)]; simp
  have hemp : (Utf.bytes s).isEmpty = false := by cases hb : Utf.bytes s with | nil => exact absurd hb hne | cons _ _ => rfl
  have hle : decide ((Utf.bytes s).length ≤ 64) = true := decide_eq_true (by omega)
  have hn : namedB (Utf.bytes s) 64 false = (!digitB ((Utf.bytes s).getD 0 0).toNat && (Utf.bytes s).all fun c => okB false c.toNat) := by unfold namedB; rw [hemp, hle]; simp
  rw [hn] at hK no
  unfold C.tocsinref04_Name.S9
  refine C.tocsinref04_Name.L5_ind fun X hX => ?_
  have key : ∀ (d i : Nat), i + d = s.size → ((Utf.bytes s).take i).all (fun c => okB false c.toNat) = true → (0 < i → digitB ((Utf.bytes s).getD 0 0).toNat = false) → X s ((s.size : Nat) : Int) (i : Int) w0 := by
    intro d
    induction d with
    | zero =>
      intro i hi ha h0
      refine hX _ _ _ _ ?_
      unfold C.tocsinref04_Name.S7 C.tocsinref04_Name.S2
      refine cond_d (fun h => by omega) (fun _ => ?_)
      rw [List.take_of_length_le (by omega)] at ha
      rw [ha, h0 (by omega)] at hK
      exact hK
    | succ d ih =>
      intro i hi ha h0
      refine hX _ _ _ _ ?_
      unfold C.tocsinref04_Name.S7
      have hil : i < (Utf.bytes s).length := by omega
      have hg : (Utf.bytes s).getD i 0 = (Utf.bytes s)[i] := by rw [List.getD_eq_getElem?_getD, List.getElem?_eq_getElem hil, Option.getD_some]
      refine cond_d (fun _ => ?_) (fun h => by omega)
      have next : okB false (Utf.bytes s)[i].toNat = true → (i = 0 → digitB ((Utf.bytes s).getD 0 0).toNat = false) → X s ((s.size : Nat) : Int) (IntKind.i64.wrap ((i : Int) + 1)) w0 := fun hok hz => by
        rw [wI64 (by omega) (by omega), show (i : Int) + 1 = ((i + 1 : Nat) : Int) by omega]
        refine ih (i + 1) (by omega) ?_ (fun _ => if h : i = 0 then hz h else h0 (by omega))
        rw [List.take_add_one, List.getElem?_eq_getElem hil, List.all_append, ha]
        show (true && (okB false (Utf.bytes s)[i].toNat && true)) = true
        rw [hok]; rfl
      have stop : okB false (Utf.bytes s)[i].toNat = false → K false w0 := fun hok => no (by
        have : (Utf.bytes s).all (fun c => okB false c.toNat) = false := by
          rw [List.all_eq_false]
          exact ⟨(Utf.bytes s)[i], List.getElem_mem hil, by rw [hok]; decide⟩
        rw [this, Bool.and_false])
      refine ixS_at (k := i) rfl (by omega) ?_
      rw [hg]
      refine rletter_ok (cond_of (fun hlt => ?_) (fun hlt => ?_))
      · simp only [Bool.not_eq_true'] at hlt
        refine cond_eq (fun hz => ?_) (fun hz => ?_)
        · have hz : i = 0 := by omega
          subst hz
          by_cases hdg : digitB (Utf.bytes s)[0].toNat = true
          · exact no (by rw [hg, hdg]; rfl)
          · exact stop (by rw [okB_eq hlt (Bool.eq_false_iff.2 hdg)]; rfl)
        · refine ixS_at (k := i) rfl (by omega) ?_
          rw [hg]
          refine rdigit_ok (cond_of (fun hdt => stop ?_) (fun hdt => next ?_ (fun e => by omega)))
          · simp only [Bool.not_eq_true'] at hdt
            rw [okB_eq hlt hdt]; rfl
          · simp only [Bool.not_eq_false'] at hdt
            rw [okB_eq hlt hdt]; rfl
      · have hlt : letterB (Utf.bytes s)[i].toNat = true := by simpa only [Bool.not_eq_false'] using hlt
        exact next (by rw [okB_eq hlt (let_dig hlt)]; rfl) (fun e => by subst e; rw [hg]; exact let_dig hlt)
  exact key s.size 0 (by omega) rfl (fun h => absurd h (Nat.lt_irrefl _))
def oneE (x : Lb) : Int := if namedB (Utf.bytes x.1) 64 false = false then 40 else valE (Utf.bytes x.2)
theorem rone_ok {x : Lb} (hs : x.2.size ≤ 140737488355300) {K : Int → World → Prop} (hK : ∀ w', Keep w0 w' → K (oneE x) w') : C.tocsinref04_one x.1 x.2 w0 K := by
  unfold C.tocsinref04_one
  refine new_T (ω := fun _ => 0) 7 fun g ω1 w1 k1 b1 => ?_
  have hl : (Utf.bytes x.2).length = x.2.size := (size_eq x.2).symm
  have etl : x.2.toList = Utf.bytes x.2 := ByteArray.toList_eq x.2
  have e0 : (⟨#[]⟩ : ByteArray).toList = [] := by rw [ByteArray.toList_eq]
  have key := hK w1 k1.keep
  unfold oneE valE at key
  refine cS_at (b := x.1) (by rw [b1.cell]; rfl) <| rname_ok <| cond_of (fun h => ?_) (fun h => ?_)
  · rw [if_pos (by simpa using h)] at key; exact key
  rw [if_neg (by simpa using h)] at key
  refine cS_at (b := x.2) (by rw [addr_add, b1.cell]; rfl) ?_
  rw [etl, e0]
  refine cond_of (fun h => ?_) (fun h => ?_)
  · rw [if_pos (by simpa using h)] at key; exact key
  rw [if_neg (by intro e; rw [e] at h; simp at h)] at key
  refine cS_at (b := x.2) (by rw [addr_add, b1.cell]; rfl) <| cond_d (fun h => ?_) (fun h => ?_)
  · rw [if_pos (by omega)] at key; exact key
  rw [if_neg (by omega)] at key
  refine cS_at (b := x.2) (by rw [addr_add, b1.cell]; rfl) <| rutf_ok hs <| cond_of (fun h => ?_) (fun h => ?_)
  · rw [if_neg (by simpa using h)] at key; exact key
  · rw [if_pos (by simpa using h)] at key; exact key
theorem back_cb (p x : ByteArray) : (!(Op.bytesLess p.toList x.toList)) = backB (some p) x := by
  show _ = ((Op.bytesLess x.toList p.toList) || (x.toList == p.toList))
  rw [lessB, lessB, eqB]
  have h1 := cB_cmp.vals x p
  have h2 := cB_cmp.anti x p
  rcases h1 with e | e | e <;> rw [e] at h2 ⊢ <;> rw [h2] <;> rfl
theorem rright_ok {s : Sl} {m : List Lb} (hs : Rd w0 s 2 (labs m)) (hz : ∀ x ∈ m, x.2.size ≤ 140737488355300) {K : Int → Int → World → Prop} (hK : ∀ w', Keep w0 w' → K (rt m).1 ((rt m).2 : Int) w') : C.tocsinref04_Right s w0 K := by
  have hsn : s.n = m.length := by have := hs.2.1; rw [labs_len] at this; omega
  unfold C.tocsinref04_Right
  unfold rt at hK
  refine cond_d (fun h => ?_) (fun h => ?_)
  · rw [if_pos (by omega)] at hK; exact hK w0 (Keep.refl w0)
  rw [if_neg (by omega)] at hK
  unfold C.tocsinref04_Right.S9
  refine C.tocsinref04_Right.L5_ind fun X hX => ?_
  have key : ∀ (d i : Nat) (w : World), i + d = m.length → Keep w0 w → rtGo (if i = 0 then none else (m[i - 1]?).map (·.1)) (m.drop i) i = rtGo none m 0 → X s s ((s.n : Nat) : Int) (i : Int) w := by
    intro d
    induction d with
    | zero =>
      intro i w hi k e
      refine hX _ _ _ _ _ ?_
      unfold C.tocsinref04_Right.S7 C.tocsinref04_Right.S2
      refine cond_d (fun h => by omega) (fun _ => ?_)
      rw [List.drop_of_length_le (by omega)] at e
      have := hK w k
      rwa [← e] at this
    | succ d ih =>
      intro i w hi k e
      have him : i < m.length := by omega
      refine hX _ _ _ _ _ ?_
      unfold C.tocsinref04_Right.S7
      refine cond_d (fun _ => ?_) (fun h => by omega)
      have hx : m[i]? = some m[i] := List.getElem?_eq_getElem him
      refine rdL_at (hs.keep k) (k := i) rfl hx fun a hc0 hc1 => cS_at hc0 <| cS_at hc1 ?_
      refine new_T (ω := fun _ => 0) 7 fun g ω2 w2 k2 b2 => ?_
      refine st_T b2 (by simp) fun ω3 w3 k3 b3 => ?_
      refine st_TA b3 (by simp) fun ω4 w4 k4 b4 => ?_
      have k04 := Keep.trans k ((Top.init w).stp ((k2.non (Mem.One 7)).trans (k3.trans k4))).k
      rw [List.drop_eq_getElem_cons him, rtGo] at e
      have out : ∀ (c : Int) w', (c, i) = rtGo none m 0 → Keep w0 w' → K c (i : Int) w' := fun c w' ec kk => by
        have := hK w' kk
        rwa [← ec] at this
      refine cS_at (b := m[i].1) (by rw [b4.cell]; rfl) <| cS_at (b := m[i].2) (by rw [addr_add, b4.cell]; rfl) ?_
      refine rone_ok (hz _ (List.getElem_mem him)) fun w5 k5 => ?_
      have k05 := Keep.trans k04 k5
      have b5 := b4.stp (k5.stp0 ω4)
      unfold oneE
      refine cond_ne (fun hn => ?_) (fun hn => ?_)
      · split at hn
        · rename_i h1
          rw [if_pos h1] at e ⊢; exact out 40 w5 e k05
        · rename_i h1
          rw [if_neg h1] at e ⊢
          rw [if_pos hn] at e; exact out _ w5 e k05
      have h1 : ¬ namedB (Utf.bytes m[i].1) 64 false = false := fun h => by rw [if_pos h] at hn; cases hn
      rw [if_neg h1] at hn e
      rw [if_neg (by simpa using hn)] at e
      have next : backB (if i = 0 then none else (m[i - 1]?).map (·.1)) m[i].1 = false → ∀ w', Keep w0 w' → X s s ((s.n : Nat) : Int) (IntKind.i64.wrap ((i : Int) + 1)) w' := fun hb w' kk => by
        rw [hb, if_neg (by decide)] at e
        rw [wI64 (by omega) (by omega), show (i : Int) + 1 = ((i + 1 : Nat) : Int) by omega]
        refine ih (i + 1) w' (by omega) kk ?_
        rw [if_neg (by omega), Nat.add_sub_cancel, hx]; exact e
      have k06 := Keep.trans k05 (Keep.drew w5)
      refine cond_d (fun hi0 => ?_) (fun hi0 => next ?_ _ k06)
      · have hy : m[i - 1]? = some m[i - 1] := List.getElem?_eq_getElem (by omega)
        refine rdL_at (hs.keep k06) (k := i - 1) (by rw [wI64 (by omega) (by omega)]; omega) hy fun p hp0 _ => cS_at hp0 <| cS_at (b := m[i].1) (by rw [(b5.stp (drew_stp ω4 w5)).cell]; rfl) ?_
        have eb : backB (if i = 0 then none else (m[i - 1]?).map (·.1)) m[i].1 = backB (some m[i - 1].1) m[i].1 := by
          rw [if_neg (by omega), hy]; rfl
        rw [back_cb]
        refine cond_of (fun hb => ?_) (fun hb => next (by rw [eb]; exact hb) _ k06)
        rw [eb, hb, if_pos rfl] at e
        exact out 3 _ e k06
      · rw [if_pos (by omega)]; rfl
  exact key m.length 0 w0 (by omega) (Keep.refl w0) rfl
end Go.Proofs.YtfkpehcbijgmnaaGreatDoor.Lab
