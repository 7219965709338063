/- Layer 4: a label set's bytes; a head's key. Own work. -/
import Derived.Test.YtfkpehcbijgmnaaGreatDoorLabR
import Derived.Test.YtfkpehcbijgmnaaGreatDoorVintO
namespace Go.Proofs.YtfkpehcbijgmnaaGreatDoor.Lab
open Go Vm Num Mem Utf Lib Vint
variable {ω ω' : Tg} {w w' w0 : World}

theorem putText_ok {b : Sl} {l : List UInt8} {s : ByteArray} (hb : RdB w b l) (hl : l.length + s.size ≤ 140737488000000) {K : Sl → World → Prop}
    (hK : ∀ r w', Keep w w' → OwnB w' w.heap.size r (l ++ (putU s.size ++ Utf.bytes s)) → K r w') : C.vint_PutText b s w K := by
  have hz : (Utf.bytes s).length = s.size := (size_eq s).symm
  have hp := putU_len64 (n := s.size) (by omega)
  unfold C.vint_PutText
  rw [wU64_id (by omega) (by omega)]
  refine putU_ok (by omega) hb (by omega) fun r w1 k1 o1 => ?_
  refine convSB fun t w2 k2 o2 => ?_
  refine joined_ok (Own.keep o1 k2).rd o2 (by simp only [List.length_append]; omega) fun r3 w3 k3 o3 => ?_
  have k12 := Keep.trans k1 k2
  exact hK r3 w3 (Keep.trans k12 k3) (by have := o3.mono k12.size; simpa using this)

theorem szB (s : ByteArray) : s.size = (Utf.bytes s).length := size_eq s
def txt (s : ByteArray) : List UInt8 := putU s.size ++ Utf.bytes s
def labB (x : Lb) : List UInt8 := txt x.1 ++ txt x.2
/-- A label set's bytes. -/
def put (l : List Lb) : List UInt8 := putU l.length ++ l.flatMap labB
theorem named_len {l : List UInt8} {m : Nat} {c : Bool} (h : namedB l m c = true) : l.length ≤ m := by
  unfold namedB at h
  simp only [Bool.and_eq_true, decide_eq_true_eq] at h
  exact h.2.1
theorem valE_len {l : List UInt8} (h : valE l = 0) : l.length ≤ 256 := by
  unfold valE at h
  split at h
  · cases h
  · split at h
    · cases h
    · omega
/-- Labels of a right set are short. -/
theorem rt_short {l : List Lb} (h : (rt l).1 = 0) : l.length ≤ 16 ∧ ∀ x ∈ l, x.1.size ≤ 64 ∧ x.2.size ≤ 256 := by
  unfold rt at h
  split at h
  · exact absurd (show (8 : Int) = 0 from h) (by decide)
  · refine ⟨by omega, ?_⟩
    have key : ∀ (r : List Lb) (p : Option ByteArray) (i : Nat), (rtGo p r i).1 = 0 → ∀ x ∈ r, x.1.size ≤ 64 ∧ x.2.size ≤ 256 := by
      intro r
      induction r with
      | nil => intro p i _ x hx; cases hx
      | cons y r ih =>
        intro p i h x hx
        rw [rtGo] at h
        split at h
        · exact absurd (show (40 : Int) = 0 from h) (by decide)
        · rename_i h1
          split at h
          · rename_i h2; exact absurd h h2
          · rename_i h2
            split at h
            · exact absurd (show (3 : Int) = 0 from h) (by decide)
            · rcases List.mem_cons.1 hx with rfl | hx
              · have a := named_len (by simpa using h1 : namedB (Utf.bytes x.1) 64 false = true)
                have b := valE_len (by simpa using h2)
                have e1 := szB x.1
                have e2 := szB x.2
                exact ⟨by omega, by omega⟩
              · exact ih _ _ h x hx
    exact key l none 0 h
theorem labB_len {x : Lb} (h : x.1.size ≤ 64 ∧ x.2.size ≤ 256) : (labB x).length ≤ 340 := by
  have e1 := szB x.1
  have e2 := szB x.2
  have p1 := putU_len64 (n := x.1.size) (by omega)
  have p2 := putU_len64 (n := x.2.size) (by omega)
  simp only [labB, txt, List.length_append]
  omega
theorem flat_len : ∀ (l : List Lb), (∀ x ∈ l, x.1.size ≤ 64 ∧ x.2.size ≤ 256) → (l.flatMap labB).length ≤ 340 * l.length
  | [], _ => by simp
  | x :: l, h => by
    have a := labB_len (h x (List.mem_cons_self ..))
    have b := flat_len l fun y hy => h y (List.mem_cons_of_mem _ hy)
    simp only [List.flatMap_cons, List.length_append, List.length_cons]
    omega

theorem put_ok {s : Sl} {m : List Lb} (ht : UTab w0) (hs : Rd w0 s 2 (labs m)) (hr : (rt m).1 = 0) {K : Sl → Int → World → Prop} (hK : ∀ r w', Keep w0 w' → OwnB w' w0.heap.size r (put m) → K r 0 w') : C.labels_Put nilS s w0 K := by
  have hsn : s.n = m.length := by have := hs.2.1; rw [labs_len] at this; omega
  obtain ⟨h16, hsh⟩ := rt_short hr
  unfold C.labels_Put C.labels_right
  refine right_ok ht hs fun w1 k1 => ?_
  refine cond_f (by rw [hr]; rfl) ?_
  rw [wU64_id (by omega) (by omega), hsn]
  refine putU_ok (l := []) (by omega) (Rd.nil w1 1) (by decide) fun r w2 k2 o2 => ?_
  unfold C.labels_Put.S9
  have k02 := Keep.trans k1 k2
  have hp := putU_len64 (n := m.length) (by omega)
  refine C.labels_Put.L5_ind fun X hX => ?_
  have key : ∀ (d i : Nat) (q : Sl) (w : World), i + d = m.length → Keep w0 w → OwnB w w0.heap.size q (putU m.length ++ (m.take i).flatMap labB) → X q s ((s.n : Nat) : Int) (i : Int) w := by
    intro d
    induction d with
    | zero =>
      intro i q w hi k o
      refine hX _ _ _ _ _ ?_
      unfold C.labels_Put.S7 C.labels_Put.S2
      rw [List.take_of_length_le (by omega)] at o
      exact cond_d (fun h => by omega) (fun _ => hK q w k o)
    | succ d ih =>
      intro i q w hi k o
      have him : i < m.length := by omega
      refine hX _ _ _ _ _ ?_
      unfold C.labels_Put.S7
      refine cond_d (fun _ => ?_) (fun h => by omega)
      have hx : m[i]? = some m[i] := List.getElem?_eq_getElem him
      refine rdL_at (hs.keep k) (k := i) rfl hx fun a hc0 hc1 => cS_at hc0 <| cS_at hc1 ?_
      refine new_T (ω := fun _ => 0) 7 fun g ω2 w2 k2 b2 => ?_
      refine st_T b2 (by simp) fun ω3 w3 k3 b3 => ?_
      refine st_TA b3 (by simp) fun ω4 w4 k4 b4 => ?_
      have kT := ((Top.init w).stp ((k2.non (Mem.One 7)).trans (k3.trans k4))).k
      have kd := drew_stp ω4 w4
      have bd := b4.stp kd
      have k5 := Keep.trans kT kd.keep
      refine cS_at (b := m[i].1) (by rw [bd.cell]; rfl) <| cS_at (b := m[i].2) (by rw [addr_add, bd.cell]; rfl) ?_
      have hsx := hsh _ (List.getElem_mem him)
      have hfl := flat_len (m.take i) fun y hy => hsh y (List.mem_of_mem_take hy)
      rw [List.length_take, Nat.min_eq_left (by omega)] at hfl
      have e1 := szB m[i].1
      have p1 := putU_len64 (n := m[i].1.size) (by omega)
      refine putText_ok (Own.keep o k5).rd (by rw [List.length_append]; omega) fun r1 w5 k6 o5 => ⟨bd.sameA (k6.stp0 ω4), ?_⟩
      refine putText_ok o5.rd (by simp only [List.length_append]; omega) fun r2 w6 k7 o6 => ?_
      rw [wI64 (by omega) (by omega), show (i : Int) + 1 = ((i + 1 : Nat) : Int) by omega]
      have k57 := Keep.trans k (Keep.trans k5 (Keep.trans k6 k7))
      refine ih (i + 1) r2 w6 (by omega) k57 ?_
      have ef : (m.take (i + 1)).flatMap labB = (m.take i).flatMap labB ++ labB m[i] := by
        rw [List.take_add_one, hx, List.flatMap_append]; simp
      rw [ef]
      have o7 := o6.mono (Keep.trans k (Keep.trans k5 k6)).size
      simpa only [labB, txt, List.append_assoc] using o7
  refine key m.length 0 r w2 (by omega) k02 ?_
  simpa using o2.mono k1.size
end Go.Proofs.YtfkpehcbijgmnaaGreatDoor.Lab
