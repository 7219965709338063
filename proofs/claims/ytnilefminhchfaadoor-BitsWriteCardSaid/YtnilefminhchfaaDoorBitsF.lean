/- Layer 2: the forms of whole numbers. Own work. -/
import Derived.Test.YtnilefminhchfaaDoorBitsV
namespace Go.Proofs.YtnilefminhchfaaDoor.Bits
open Go Vm Go.RowKit Num Mem

/-- Widths. -/
def wid (r : Nat) : Nat := [0, 3, 6, 9, 12, 18, 25, 56, 64].getD r 0
def fitsB (n : Int) (k : Nat) : Bool := decide (-(2 ^ (k - 1) - 1) ≤ n) && decide (n ≤ 2 ^ (k - 1))
/-- The first row from r on, d of them looked at. -/
def rowF (n : Int) : Nat → Nat → Nat
  | 0, _ => 8
  | d + 1, r => if fitsB n (wid r) then r else rowF n d (r + 1)
def row (n : Int) : Nat := if n = 0 then 0 else rowF n 7 1
def uN (n : Int) : Nat := (n % 18446744073709551616).toNat
/-- The lowest bits. -/
def lowN (n : Int) (k : Nat) : Nat := if k < 64 then uN n % 2 ^ k else uN n
def form (n : Int) : List Bool := List.replicate (row n) true ++ ((if row n < 8 then [false] else []) ++ low (lowN n (wid (row n))) (wid (row n)))
theorem rowF_le (n : Int) : ∀ d r, r + d ≤ 8 → rowF n d r ≤ 8
  | 0, r, _ => by simp [rowF]
  | d + 1, r, h => by
    rw [rowF]; split
    · omega
    · exact rowF_le n d (r + 1) (by omega)
theorem row_le (n : Int) : row n ≤ 8 := by
  unfold row; split
  · omega
  · exact rowF_le n 7 1 (by omega)
theorem wid_le : ∀ r : Fin 9, wid r.val ≤ 64 := by decide
theorem wid_pos : ∀ r : Fin 9, 0 < r.val → 0 < wid r.val := by decide
theorem uN_lt (n : Int) : uN n < 18446744073709551616 := by unfold uN; omega
theorem lowN_lt (n : Int) (k : Nat) : lowN n k < 18446744073709551616 := by
  have := uN_lt n
  unfold lowN; split
  · exact Nat.lt_of_le_of_lt (Nat.mod_le _ _) this
  · exact this
theorem wrapU (n : Int) : IntKind.u64.wrap n = ((uN n : Nat) : Int) := by rw [wU64]; unfold uN; omega

/-- Two ways to ask whether a number fits. -/
theorem fits_ok {n : Int} {k : Nat} (hk : 0 < k) (hk' : k ≤ 56) {w : World} {K : Bool → World → Prop} (hK : K (fitsB n k) w) : C.bits_fits n (k : Int) w K := by
  unfold C.bits_fits
  have e1 : IntKind.u64.wrap (IntKind.i64.wrap ((k : Int) - (1 : Int))) = ((k - 1 : Nat) : Int) := by
    rw [wI64 (by omega) (by omega), wU64_id (by omega) (by omega)]; omega
  rw [e1]
  have e2 := shl_nat .i64 (1 : Int) (k - 1) (by simp only [IntKind.bits]; omega)
  have hp : 2 ^ (k - 1) ≤ 2 ^ 55 := Nat.pow_le_pow_right (by decide) (by omega)
  have hp0 : 0 < 2 ^ (k - 1) := Nat.pow_pos (by decide)
  have e3 : (1 : Int) * 2 ^ (k - 1) = ((2 ^ (k - 1) : Nat) : Int) := by simp
  rw [e3, wI64 (by omega) (by omega)] at e2
  have e4 : (2 : Int) ^ (k - 1) = ((2 ^ (k - 1) : Nat) : Int) := by simp
  unfold fitsB at hK
  rw [e4] at hK
  rw [e2]
  generalize 2 ^ (k - 1) = q at *
  rw [wI64 (x := (q : Int) - 1) (by omega) (by omega), wI64 (by omega) (by omega)]
  refine ⟨by omega, cond_d (fun h => ⟨by omega, ?_⟩) (fun h => ?_)⟩
  · rw [decide_eq_true (show -((q : Int) - 1) ≤ n by omega), Bool.true_and] at hK; exact hK
  · rw [decide_eq_false (show ¬ -((q : Int) - 1) ≤ n by omega), Bool.false_and] at hK; exact hK

/-- The widths stand in the program's variable. -/
def WTab (w : World) : Prop := ∀ i, i < 7 → w.cell? ⟨0, i, none⟩ = some (.int .i64 ((wid (i + 1) : Nat) : Int))
theorem WTab.keep {w w' : World} (h : WTab w) (k : Keep w w') : WTab w' := fun i hi => k.cell (h i hi)
theorem form_ok {n : Int} {w : World} (ht : WTab w) {K : Int → Int → World → Prop} (hK : K ((row n : Nat) : Int) ((wid (row n) : Nat) : Int) w) : C.bits_form n w K := by
  unfold C.bits_form C.bits_form.S12
  unfold row at hK
  refine cond_eq (fun h => ?_) (fun h => ?_)
  · rw [if_pos h] at hK; exact hK
  rw [if_neg h] at hK
  unfold C.bits_form.S10
  refine cI_at (ht 0 (by decide)) <| cI_at (by rw [addr_add]; exact ht 1 (by decide)) <| cI_at (by rw [addr_add]; exact ht 2 (by decide)) <| cI_at (by rw [addr_add]; exact ht 3 (by decide)) <| cI_at (by rw [addr_add]; exact ht 4 (by decide)) <| cI_at (by rw [addr_add]; exact ht 5 (by decide)) <| cI_at (by rw [addr_add]; exact ht 6 (by decide)) ?_
  refine C.bits_form.L6_ind fun X hX => ?_
  have key : ∀ d i : Nat, d + i = 7 → K ((rowF n d (i + 1) : Nat) : Int) ((wid (rowF n d (i + 1)) : Nat) : Int) w → X n 8 64 ((wid (0 + 1) : Nat) : Int) ((wid (1 + 1) : Nat) : Int) ((wid (2 + 1) : Nat) : Int) ((wid (3 + 1) : Nat) : Int) ((wid (4 + 1) : Nat) : Int) ((wid (5 + 1) : Nat) : Int) ((wid (6 + 1) : Nat) : Int) (i : Int) w := by
    intro d
    induction d with
    | zero =>
      intro i hi hK
      refine hX _ _ _ _ _ _ _ _ _ _ _ _ ?_
      unfold C.bits_form.S8 C.bits_form.S3
      exact cond_d (fun h => by omega) (fun _ => hK)
    | succ d ih =>
      intro i hi hK
      refine hX _ _ _ _ _ _ _ _ _ _ _ _ ?_
      unfold C.bits_form.S8 C.bits_form.S3
      refine cond_d (fun _ => ?_) (fun h => by omega)
      have hw : 0 < wid (i + 1) := wid_pos ⟨i + 1, by omega⟩ (by simp)
      have hw' : wid (i + 1) ≤ 56 := (show ∀ j : Fin 7, wid (j.val + 1) ≤ 56 by decide) ⟨i, by omega⟩
      refine ⟨((wid (i + 1) : Nat) : Int), ⟨by omega, by omega⟩, ?_, ?_⟩
      · have : ∀ j : Fin 7, (#[Value.int .i64 ((wid (0 + 1) : Nat) : Int), .int .i64 ((wid (1 + 1) : Nat) : Int), .int .i64 ((wid (2 + 1) : Nat) : Int), .int .i64 ((wid (3 + 1) : Nat) : Int), .int .i64 ((wid (4 + 1) : Nat) : Int), .int .i64 ((wid (5 + 1) : Nat) : Int), .int .i64 ((wid (6 + 1) : Nat) : Int)] : Array Value)[j.val]? = some (.int .i64 ((wid (j.val + 1) : Nat) : Int)) := by
          intro j
          match j with
          | ⟨0, _⟩ => rfl
          | ⟨1, _⟩ => rfl
          | ⟨2, _⟩ => rfl
          | ⟨3, _⟩ => rfl
          | ⟨4, _⟩ => rfl
          | ⟨5, _⟩ => rfl
          | ⟨6, _⟩ => rfl
        rw [Int.toNat_natCast]
        exact this ⟨i, by omega⟩
      refine fits_ok hw hw' ?_
      rw [rowF] at hK
      rw [wI64 (by omega) (by omega)]
      cases hf : fitsB n (wid (i + 1))
      · refine cond_f rfl ?_
        rw [hf, if_neg (by decide)] at hK
        exact ih (i + 1) (by omega) hK
      · refine cond_t rfl ?_
        rw [hf, if_pos rfl] at hK
        exact hK
  exact key 7 0 rfl hK

theorem ahead_ok {r : Nat} (hr : r ≤ 8) {w : World} {K : Int → World → Prop} (hK : K ((r + (if r < 8 then 1 else 0) : Nat) : Int) w) : C.bits_ahead (r : Int) w K := by
  unfold C.bits_ahead
  refine cond_d (fun h => ?_) (fun h => ?_)
  · rw [if_pos (by omega)] at hK
    rw [wI64 (by omega) (by omega)]
    exact hK
  · rw [if_neg (by omega)] at hK; exact hK
end Go.Proofs.YtnilefminhchfaaDoor.Bits
