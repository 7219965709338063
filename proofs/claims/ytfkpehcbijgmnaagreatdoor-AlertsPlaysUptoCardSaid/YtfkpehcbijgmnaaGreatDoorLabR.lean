/- Layer 4: label sets in memory, and what is wrong of one. Own work. -/
import Derived.Test.YtfkpehcbijgmnaaGreatDoorLab
import Derived.Test.YtfkpehcbijgmnaaGreatDoorTag
namespace Go.Proofs.YtfkpehcbijgmnaaGreatDoor.Lab
open Go Vm Num Mem Utf Lib
variable {ω ω' : Tg} {w w' w0 : World}

abbrev Lb := ByteArray × ByteArray
def labC (x : Lb) : List Value := [.string x.1, .string x.2]
def labs (l : List Lb) : List Value := l.flatMap labC
theorem labs_app (a b : List Lb) : labs (a ++ b) = labs a ++ labs b := List.flatMap_append
theorem labs_len (l : List Lb) : (labs l).length = l.length * 2 := by
  induction l with
  | nil => rfl
  | cons s l ih => simp only [labs, List.flatMap_cons, List.length_append, List.length_cons] at *; simp [labC] at *; omega
theorem labs_at : ∀ (l : List Lb) (i : Nat) (s : Lb), l[i]? = some s → (labs l)[i * 2 + 0]? = some (.string s.1) ∧ (labs l)[i * 2 + 1]? = some (.string s.2)
  | [], i, s, h => by simp at h
  | x :: l, 0, s, h => by
    simp only [List.getElem?_cons_zero, Option.some.injEq] at h
    subst h
    exact ⟨rfl, rfl⟩
  | x :: l, i + 1, s, h => by
    have ih := labs_at l i s (by simpa using h)
    have e : labs (x :: l) = .string x.1 :: .string x.2 :: labs l := rfl
    rw [e, show (i + 1) * 2 + 0 = (i * 2 + 0) + 1 + 1 by omega, show (i + 1) * 2 + 1 = (i * 2 + 1) + 1 + 1 by omega]
    simpa using ih
theorem rdL_at {s : Sl} {m : List Lb} (h : Rd w s 2 (labs m)) {i : Int} {k : Nat} {x : Lb} (ei : i = (k : Int)) (hx : m[k]? = some x) {K : Addr → Prop}
    (hK : ∀ a : Addr, w.cell? a = some (.string x.1) → w.cell? (a.add 1) = some (.string x.2) → K a) : G.ix s.a s.n i 2 K := by
  have hk : k < m.length := (List.getElem?_eq_some_iff.1 hx).1
  have hn : s.n = m.length := by have := h.2.1; rw [labs_len] at this; omega
  subst ei
  obtain ⟨e0, e1⟩ := labs_at m k x hx
  refine Rd.ix h (by decide) (by omega) (by omega) fun a hc => hK a ?_ ?_
  · have := hc 0 _ (by decide) (by rw [Int.toNat_natCast]; exact e0)
    rwa [show a.add 0 = a by simp [Addr.add]] at this
  · exact hc 1 _ (by decide) (by rw [Int.toNat_natCast]; exact e1)

def valE (l : List UInt8) : Int := if l = [] then 41 else if l.length > 256 then 4 else if validD l = true then 0 else 12
theorem value_ok {s : ByteArray} (ht : UTab w0) {K : Int → World → Prop} (hK : ∀ w', Keep w0 w' → K (valE (Utf.bytes s)) w') : C.labels_value s w0 K := by
  have hsz := size_eq s
  have hl : (Utf.bytes s).length = s.size := hsz.symm
  have etl : s.toList = Utf.bytes s := ByteArray.toList_eq s
  have e0 : (⟨#[]⟩ : ByteArray).toList = [] := by rw [ByteArray.toList_eq]
  unfold C.labels_value
  unfold valE at hK
  rw [etl, e0]
  refine cond_of (fun h => ?_) (fun h => ?_)
  · rw [if_pos (by simpa using h)] at hK; exact hK w0 (Keep.refl w0)
  rw [if_neg (by intro e; rw [e] at h; simp at h)] at hK
  refine cond_d (fun h => ?_) (fun h => ?_)
  · rw [if_pos (by omega)] at hK; exact hK w0 (Keep.refl w0)
  rw [if_neg (by omega)] at hK
  refine valid_ok ht (by omega) fun w1 k1 => ?_
  refine cond_of (fun h => ?_) (fun h => ?_)
  · rw [if_neg (by simpa using h)] at hK; exact hK w1 k1
  · rw [if_pos (by simpa using h)] at hK; exact hK w1 k1

/-- Not behind the last one's name. -/
def backB (p : Option ByteArray) (x : ByteArray) : Bool := match p with | some q => (Op.bytesLess x.toList q.toList) || (x.toList == q.toList) | none => false
def rtGo : Option ByteArray → List Lb → Nat → Int × Nat
  | _, [], _ => (0, 0)
  | p, x :: r, i => if namedB (Utf.bytes x.1) 64 false = false then (40, i) else if valE (Utf.bytes x.2) ≠ 0 then (valE (Utf.bytes x.2), i) else if backB p x.1 = true then (3, i) else rtGo (some x.1) r (i + 1)
def rt (l : List Lb) : Int × Nat := if l.length > 16 then (8, 0) else rtGo none l 0
theorem right_ok {s : Sl} {m : List Lb} (ht : UTab w0) (hs : Rd w0 s 2 (labs m)) {K : Int → Int → World → Prop} (hK : ∀ w', Keep w0 w' → K (rt m).1 ((rt m).2 : Int) w') : C.labels_Right s w0 K := by
  have hsn : s.n = m.length := by have := hs.2.1; rw [labs_len] at this; omega
  unfold C.labels_Right
  unfold rt at hK
  refine cond_d (fun h => ?_) (fun h => ?_)
  · rw [if_pos (by omega)] at hK; exact hK w0 (Keep.refl w0)
  rw [if_neg (by omega)] at hK
  unfold C.labels_Right.S9
  refine C.labels_Right.L5_ind fun X hX => ?_
  have key : ∀ (d i : Nat) (w : World), i + d = m.length → Keep w0 w → rtGo (if i = 0 then none else (m[i - 1]?).map (·.1)) (m.drop i) i = rtGo none m 0 → X s s ((s.n : Nat) : Int) (i : Int) w := by
    intro d
    induction d with
    | zero =>
      intro i w hi k e
      refine hX _ _ _ _ _ ?_
      unfold C.labels_Right.S7 C.labels_Right.S2
      refine cond_d (fun h => by omega) (fun _ => ?_)
      rw [List.drop_of_length_le (by omega)] at e
      have := hK w k
      rwa [← e] at this
    | succ d ih =>
      intro i w hi k e
      have him : i < m.length := by omega
      refine hX _ _ _ _ _ ?_
      unfold C.labels_Right.S7
      refine cond_d (fun _ => ?_) (fun h => by omega)
      have hx : m[i]? = some m[i] := List.getElem?_eq_getElem him
      refine rdL_at (hs.keep k) (k := i) rfl hx fun a hc0 hc1 => cS_at hc0 <| cS_at hc1 ?_
      refine new_T (ω := fun _ => 0) 7 fun g ω2 w2 k2 b2 => ?_
      refine st_T b2 (by simp) fun ω3 w3 k3 b3 => ?_
      refine st_TA b3 (by simp) fun ω4 w4 k4 b4 => ?_
      have k04 := Keep.trans k ((Top.init w).stp ((k2.non (Mem.One 7)).trans (k3.trans k4))).k
      rw [List.drop_eq_getElem_cons him, rtGo] at e
      have out : ∀ (c : Int) w', (c, i) = rtGo none m 0 → Keep w0 w' → K c (i : Int) w' := fun c w' ec kk => by
        have := hK w' kk
        rwa [← ec] at this
      refine cS_at (b := m[i].1) (by rw [b4.cell]; rfl) ?_
      unfold C.labels_Name
      refine named_ok (most := 64) rfl (by decide) fun w5 k5 => ?_
      have k05 := Keep.trans k04 k5
      have b5 := b4.stp (k5.stp0 ω4)
      refine cond_of (fun hn => ?_) (fun hn => ?_)
      · rw [if_pos (by simpa using hn)] at e; exact out 40 w5 e k05
      rw [if_neg (by simpa using hn)] at e
      refine cS_at (b := m[i].2) (by rw [addr_add, b5.cell]; rfl) ?_
      refine value_ok (ht.keep k05) fun w6 k6 => ?_
      have k06 := Keep.trans k05 k6
      have b6 := b5.stp (k6.stp0 ω4)
      refine cond_ne (fun hv => ?_) (fun hv => ?_)
      · rw [if_pos hv] at e; exact out _ w6 e k06
      rw [if_neg (by simpa using hv)] at e
      have k07 := Keep.trans k06 (Keep.drew w6)
      have next : backB (if i = 0 then none else (m[i - 1]?).map (·.1)) m[i].1 = false → ∀ w', Keep w0 w' → X s s ((s.n : Nat) : Int) (IntKind.i64.wrap ((i : Int) + 1)) w' := fun hb w' kk => by
        rw [hb, if_neg (by decide)] at e
        rw [wI64 (by omega) (by omega), show (i : Int) + 1 = ((i + 1 : Nat) : Int) by omega]
        refine ih (i + 1) w' (by omega) kk ?_
        rw [if_neg (by omega), Nat.add_sub_cancel, hx]; exact e
      refine cond_d (fun hi0 => ?_) (fun hi0 => next ?_ _ k07)
      · have hy : m[i - 1]? = some m[i - 1] := List.getElem?_eq_getElem (by omega)
        refine cS_at (b := m[i].1) (by rw [(b6.stp (drew_stp ω4 w6)).cell]; rfl) ?_
        refine rdL_at (hs.keep k07) (k := i - 1) (by rw [wI64 (by omega) (by omega)]; omega) hy fun p hp0 _ => cS_at hp0 ?_
        have eb : backB (if i = 0 then none else (m[i - 1]?).map (·.1)) m[i].1 = ((Op.bytesLess m[i].1.toList m[i - 1].1.toList) || (m[i].1.toList == m[i - 1].1.toList)) := by
          rw [if_neg (by omega), hy]; rfl
        refine cond_of (fun hb => ?_) (fun hb => next (by rw [eb]; exact hb) _ k07)
        rw [eb, hb, if_pos rfl] at e
        exact out 3 _ e k07
      · rw [if_pos (by omega)]; rfl
  exact key m.length 0 w0 (by omega) (Keep.refl w0) rfl
end Go.Proofs.YtfkpehcbijgmnaaGreatDoor.Lab
