/- Layer 17 (over): the table of functions, and what a teller tells. Own work. -/
import Derived.Test.YtaciaidehamfgaaOvB
import Derived.Test.YtaciaidehamfgaaOvD
namespace Go.Proofs.Ytaciaidehamfgaa.Ov
open Go Vm Go.RowKit Num Mem Fl Sm
variable {ω ω' : Tg} {w w' w0 : World} {T : Nat → Bool} {t u g : Nat}
set_option exponentiation.threshold 3000

/-! ## The table -/
abbrev Row := ByteArray × Int × Nat
abbrev fv (n : Nat) : Value := Value.func (.func n) #[] #[]
def tri (r : Row) : List Value := [.string r.1, .int .i64 r.2.1, fv r.2.2]
def TAB : List Row := [(⟨#[97, 118, 103, 95, 111, 118, 101, 114, 95, 116, 105, 109, 101]⟩, 1, 47), (⟨#[99, 104, 97, 110, 103, 101, 115]⟩, 1, 49), (⟨#[99, 111, 117, 110, 116, 95, 111, 118, 101, 114, 95, 116, 105, 109, 101]⟩, 1, 50),
  (⟨#[100, 101, 108, 116, 97]⟩, 2, 51), (⟨#[105, 100, 101, 108, 116, 97]⟩, 2, 53), (⟨#[105, 110, 99, 114, 101, 97, 115, 101]⟩, 2, 55), (⟨#[105, 114, 97, 116, 101]⟩, 2, 56), (⟨#[108, 97, 115, 116, 95, 111, 118, 101, 114, 95, 116, 105, 109, 101]⟩, 1, 57),
  (⟨#[109, 97, 120, 95, 111, 118, 101, 114, 95, 116, 105, 109, 101]⟩, 1, 58), (⟨#[109, 105, 110, 95, 111, 118, 101, 114, 95, 116, 105, 109, 101]⟩, 1, 61), (⟨#[112, 114, 101, 115, 101, 110, 116, 95, 111, 118, 101, 114, 95, 116, 105, 109, 101]⟩, 1, 63),
  (⟨#[114, 97, 116, 101]⟩, 2, 64), (⟨#[114, 101, 115, 101, 116, 115]⟩, 1, 65), (⟨#[115, 117, 109, 95, 111, 118, 101, 114, 95, 116, 105, 109, 101]⟩, 1, 48)]
theorem tri_at : ∀ (l : List Row) (i : Nat) (r : Row), l[i]? = some r → ∀ j, j < 3 → (l.flatMap tri)[i * 3 + j]? = (tri r)[j]?
  | [], i, r, h => by simp at h
  | x :: l, 0, r, h => fun j hj => by
    simp only [List.getElem?_cons_zero, Option.some.injEq] at h
    subst h
    rw [List.flatMap_cons, Nat.zero_mul, Nat.zero_add, List.getElem?_append_left (by simpa [tri] using hj)]
  | x :: l, i + 1, r, h => fun j hj => by
    have ih := tri_at l i r (by simpa using h) j hj
    rw [List.flatMap_cons, List.getElem?_append_right (by simp [tri]; omega), ← ih]
    congr 1
    simp [tri]; omega
theorem table_ok {K : Sl → World → Prop} (hK : ∀ g ω' w', Stp Non ω ω' w w' → BT ω' w' 1 g 64 (TAB.flatMap tri) → K ⟨some ⟨g, 0, none⟩, 14, 14⟩ w') : C.over_table w K := by
  unfold C.over_table
  exact new_T (ω := ω) 1 fun g ω1 w1 k1 b1 => hK g ω1 w1 k1 b1
theorem table_rd (h : BT ω w 1 g 64 (TAB.flatMap tri)) : Rd w ⟨some ⟨g, 0, none⟩, 14, 14⟩ 3 (TAB.flatMap tri) :=
  Rd.blk (n := 14) (c := 14) (sz := 3) (o := 0) h.blk (Nat.le_refl _) (by decide)
theorem one_at {v : Value} {X : Prop} (h : v.oneCell' = true) (hX : X) : G.one v X := by unfold G.one; rw [h]; exact hX
def rowV (r : Row) : Value := .iface 64 (.agg #[.string r.1, .int .i64 r.2.1, fv r.2.2])
def qtV (q : Nat) : Value := .iface 60 (.agg #[.float .f64 q])
def asked : List UInt8 := (⟨#[113, 117, 97, 110, 116, 105, 108, 101, 95, 111, 118, 101, 114, 95, 116, 105, 109, 101]⟩ : ByteArray).data.toList
def named (name : ByteArray) : Option Row := TAB.find? fun r => r.1.data.toList == name.data.toList
theorem find_ok {name : ByteArray} {q : Nat} {K : Value → World → Prop} (h1 : (name.data.toList == asked) = true → K (qtV q) w) (h2 : (name.data.toList == asked) = false → ∀ ω' w', Top w ω' w' → (∀ r, named name = some r → K (rowV r) w') ∧ (named name = none → K .nilIface w')) :
    C.over_find name q w K := by
  unfold C.over_find
  rw [ByteArray.toList_eq, ByteArray.toList_eq]
  refine cond_of (fun h => h1 h) (fun h => ?_)
  have h2 := h2 h
  unfold C.over_find.S9
  refine table_ok (ω := fun _ => 0) fun g0 ω1 w1 k1 b1 => ?_
  have top1 := (Top.init w).stp k1
  refine C.over_find.L5_ind fun X hX => ?_
  have key : ∀ (d i : Nat) (ω : Tg) (w2 : World), i + d = 14 → Top w ω w2 → BT ω w2 1 g0 64 (TAB.flatMap tri) → named name = (TAB.drop i).find? (fun r => r.1.data.toList == name.data.toList) → X name ⟨some ⟨g0, 0, none⟩, 14, 14⟩ ((14 : Nat) : Int) (i : Int) w2 := by
    intro d
    induction d with
    | zero =>
      intro i ω w2 hi top b e
      refine hX _ _ _ _ _ ?_
      unfold C.over_find.S7 C.over_find.S2
      refine cond_d (fun h => by omega) (fun _ => (h2 ω w2 top).2 ?_)
      rw [e, List.drop_of_length_le (by simp [TAB]; omega)]; rfl
    | succ d ih =>
      intro i ω w2 hi top b e
      refine hX _ _ _ _ _ ?_
      unfold C.over_find.S7
      have hlt : i < TAB.length := by simp [TAB]; omega
      refine cond_d (fun _ => ?_) (fun h => by omega)
      have hat := tri_at TAB i TAB[i] (List.getElem?_eq_getElem hlt)
      rw [List.drop_eq_getElem_cons hlt, List.find?_cons] at e
      generalize TAB[i] = r at *
      refine Rd.ix (table_rd b) (by decide) (by omega) (by omega) fun a hc => ?_
      have c0 := hc 0 (.string r.1) (by decide) (by rw [Int.toNat_natCast, hat 0 (by decide)]; rfl)
      have c1 := hc 1 (.int .i64 r.2.1) (by decide) (by rw [Int.toNat_natCast, hat 1 (by decide)]; rfl)
      have c2 := hc 2 (fv r.2.2) (by decide) (by rw [Int.toNat_natCast, hat 2 (by decide)]; rfl)
      rw [show a.add 0 = a by simp [Addr.add]] at c0
      refine cS_at c0 <| cI_at c1 <| cV_at c2 ?_
      refine new_T (ω := ω) 2 fun g ω3 w3 k3 b3 => ?_
      refine st_T b3 (by simp) fun ω4 w4 k4 b4 => st_TA b4 (by simp) fun ω5 w5 k5 b5 => ?_
      have top5 := ((top.stp k3).stp k4).stp k5
      refine one_at rfl ?_
      refine st_TA b5 (by simp) fun ω6 w6 k6 b6 => ?_
      have top6 := top5.stp k6
      refine cS_at (b := r.1) (by rw [b6.cell]; rfl) ?_
      rw [ByteArray.toList_eq, ByteArray.toList_eq]
      refine cond_of (fun h => ?_) (fun h => ?_)
      · refine cS_at (b := r.1) (by rw [b6.cell]; rfl) <| cI_at (n := r.2.1) (by rw [addr_add, b6.cell]; rfl) <| cV_at (b := fv r.2.2) (by rw [addr_add, b6.cell]; rfl) ?_
        rw [h] at e
        exact (h2 ω6 w6 top6).1 r e
      · rw [h] at e
        rw [wI64 (by omega) (by omega), show (i : Int) + 1 = ((i + 1 : Nat) : Int) by omega]
        exact ih (i + 1) ω6 w6 (by omega) top6 ((((b.stp k3).stp k4).stp k5).stp k6) e
  exact key 14 0 ω1 w1 rfl top1 b1 rfl
end Go.Proofs.Ytaciaidehamfgaa.Ov
