/- Layer 4: names of labels. Own work. -/
import Derived.Test.YtfkpehcbijgmnaaGreatDoorUtfB
import Derived.Test.YtfkpehcbijgmnaaGreatDoorConvB
namespace Go.Proofs.YtfkpehcbijgmnaaGreatDoor.Lab
open Go Vm Num Mem Utf Lib
variable {w w' w0 : World}

def letterB (c : Nat) : Bool := (decide (97 ≤ c) && decide (c ≤ 122)) || (decide (65 ≤ c) && decide (c ≤ 90)) || c == 95
def digitB (c : Nat) : Bool := decide (48 ≤ c) && decide (c ≤ 57)
theorem letter_ok {c : Nat} {K : Bool → World → Prop} (hK : K (letterB c) w) : C.labels_letter (c : Int) w K := by
  unfold C.labels_letter
  have e95 : ∀ b : Bool, letterB c = b → (((c : Int) == (95 : Int)) = (c == 95)) := fun _ _ => by
    cases h : (c == 95) with
    | true => simp at h; subst h; rfl
    | false => simp at h; simp; omega
  have e := e95 _ rfl
  have yes : letterB c = true → K true w := fun h => by rw [h] at hK; exact hK
  have els : (letterB c = (c == 95)) → K ((c : Int) == (95 : Int)) w := fun h => by rw [e, ← h]; exact hK
  refine cond_d (fun h1 => cond_d (fun h2 => yes ?_) (fun h2 => cond_d (fun h3 => cond_d (fun h4 => by omega) (fun h4 => els ?_)) (fun h3 => by omega))) (fun h1 => cond_d (fun h3 => cond_d (fun h4 => yes ?_) (fun h4 => els ?_)) (fun h3 => els ?_))
  all_goals (unfold letterB; simp; try omega)
theorem digit_ok {c : Nat} {K : Bool → World → Prop} (hK : K (digitB c) w) : C.labels_digit (c : Int) w K := by
  unfold C.labels_digit
  unfold digitB at hK
  refine cond_d (fun h => ?_) (fun h => ?_)
  · have e : decide ((c : Int) ≤ 57) = decide (c ≤ 57) := by simp only [decide_eq_decide]; omega
    rw [e]
    rw [decide_eq_true (by omega : 48 ≤ c)] at hK
    exact hK
  · rw [decide_eq_false (by omega : ¬ 48 ≤ c)] at hK
    exact hK
def okB (colon : Bool) (c : Nat) : Bool := letterB c || (digitB c || (colon && c == 58))
def namedB (l : List UInt8) (most : Nat) (colon : Bool) : Bool := !l.isEmpty && (decide (l.length ≤ most) && (!digitB (l.getD 0 0).toNat && l.all fun c => okB colon c.toNat))
theorem named_ok {s : ByteArray} {most : Nat} {m : Int} (hm : m = (most : Int)) (hmm : most ≤ 100000) {colon : Bool} {K : Bool → World → Prop} (hK : ∀ w', Keep w0 w' → K (namedB (Utf.bytes s) most colon) w') : C.labels_named s m colon w0 K := by
  subst hm
  have hsz := size_eq s
  have hl : (Utf.bytes s).length = s.size := hsz.symm
  unfold C.labels_named
  have no : namedB (Utf.bytes s) most colon = false → ∀ w', Keep w0 w' → K false w' := fun h w' k => by have := hK w' k; rwa [h] at this
  have etl : s.toList = Utf.bytes s := ByteArray.toList_eq s
  have e0 : (⟨#[]⟩ : ByteArray).toList = [] := by rw [ByteArray.toList_eq]
  rw [etl, e0]
  refine cond_of (fun h => no ?_ w0 (Keep.refl w0)) (fun h => ?_)
  · have : Utf.bytes s = [] := by simpa using h
    unfold namedB; rw [this]; rfl
  have hne : Utf.bytes s ≠ [] := by intro e; rw [e] at h; simp at h
  have hpos : 0 < s.size := by rw [← hl]; exact List.length_pos_iff.2 hne
  refine cond_d (fun h => no ?_ w0 (Keep.refl w0)) (fun h => ?_)
  · unfold namedB; rw [decide_eq_false (by omega)]; simp
  refine ixS_at (k := 0) rfl hpos (digit_ok ?_)
  have hemp : (Utf.bytes s).isEmpty = false := by cases hb : Utf.bytes s with | nil => exact absurd hb hne | cons _ _ => rfl
  have hle : decide ((Utf.bytes s).length ≤ most) = true := decide_eq_true (by omega)
  refine cond_of (fun h => no ?_ w0 (Keep.refl w0)) (fun hd => ?_)
  · unfold namedB; rw [h]; simp
  have hn : namedB (Utf.bytes s) most colon = (Utf.bytes s).all fun c => okB colon c.toNat := by unfold namedB; rw [hemp, hle, hd]; simp
  rw [hn] at hK no
  unfold C.labels_named.S9
  refine convSB fun r w1 k1 o1 => ?_
  have hr := o1.len
  clear hn hd hle hemp hne etl hsz
  generalize Utf.bytes s = l at *
  refine C.labels_named.L5_ind fun X hX => ?_
  have key : ∀ (d i : Nat), i + d = l.length → (l.take i).all (fun c => okB colon c.toNat) = true → X colon r ((r.n : Nat) : Int) (i : Int) w1 := by
    intro d
    induction d with
    | zero =>
      intro i hi ha
      refine hX _ _ _ _ _ ?_
      unfold C.labels_named.S7 C.labels_named.S2
      refine cond_d (fun h => by omega) (fun _ => ?_)
      rw [List.take_of_length_le (by omega)] at ha
      have := hK w1 k1
      rwa [ha] at this
    | succ d ih =>
      intro i hi ha
      refine hX _ _ _ _ _ ?_
      unfold C.labels_named.S7
      have hil : i < l.length := by omega
      refine cond_d (fun _ => ?_) (fun h => by omega)
      refine RdB.at_ o1 hil ?_
      have next : okB colon l[i].toNat = true → X colon r ((r.n : Nat) : Int) (IntKind.i64.wrap ((i : Int) + 1)) w1 := fun hok => by
        rw [wI64 (by omega) (by omega), show (i : Int) + 1 = ((i + 1 : Nat) : Int) by omega]
        refine ih (i + 1) (by omega) ?_
        rw [List.take_add_one, List.getElem?_eq_getElem hil, List.all_append, ha]
        simp [hok]
      have stop : okB colon l[i].toNat = false → K false w1 := fun hok => no (by
        rw [List.all_eq_false]
        exact ⟨l[i], List.getElem_mem hil, by simp [hok]⟩) w1 k1
      refine letter_ok (cond_of (fun hlt => ?_) (fun hlt => next (by unfold okB; simp at hlt; simp [hlt])))
      refine digit_ok (cond_of (fun hdt => ?_) (fun hdt => next (by unfold okB; simp at hdt; simp [hdt])))
      simp only [Bool.not_eq_true'] at hlt hdt
      refine cond_of (fun hc => ?_) (fun hc => stop (by unfold okB; simp [hlt, hdt, hc]))
      have e58 : ((l[i].toNat : Int) == (58 : Int)) = (l[i].toNat == 58) := by
        cases h : (l[i].toNat == 58) with
        | true => simp at h; simp [h]
        | false => simp at h; simp; omega
      rw [e58]
      refine cond_of (fun h5 => stop (by unfold okB; simp at h5; simp [hlt, hdt, h5])) (fun h5 => next (by unfold okB; simp at h5; simp [hc, h5]))
  exact key l.length 0 (by omega) rfl
end Go.Proofs.YtfkpehcbijgmnaaGreatDoor.Lab
