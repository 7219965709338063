/- Layer 17 (over): the known answers. Own work. -/
import Derived.Test.YtaciaidehamfgaaOvG
namespace Go.Proofs.Ytaciaidehamfgaa.Ov
open Go Vm Go.RowKit Num Mem Fl Sm
variable {ω ω' : Tg} {w w' w0 : World} {T : Nat → Bool} {t u g : Nat}
set_option exponentiation.threshold 3000

def THREE : List Smp := [(10000, 4607182418800017408), (20000, 4613937818241073152), (30000, 4611686018427387904)]
theorem three_ok {K : Sl → World → Prop} (hK : ∀ s w', Keep w w' → Rd w' s 2 (smps THREE) → K s w') : C.tocsinlaw17_three w K := by
  unfold C.tocsinlaw17_three
  exact new_T (ω := fun _ => 0) 1 fun g ω1 w1 k1 b1 => hK _ w1 k1.keep (Rd.blk (n := 3) (c := 3) (sz := 2) (o := 0) b1.blk (Nat.le_refl _) (by decide))
theorem k_inc : callR ⟨#[105, 110, 99, 114, 101, 97, 115, 101]⟩ THREE 0 40000 0 = (4619567317775286272, true, 0) := by decide +kernel
theorem k_del : callR ⟨#[100, 101, 108, 116, 97]⟩ THREE 0 40000 0 = (4611686018427387904, true, 0) := by decide +kernel
theorem k_mid : qV (nm 4602678819172646912) ([4607182418800017408, 4611686018427387904, 4616189618054758400].map nm) = 4611686018427387904 := by decide +kernel
theorem three64 : ∀ x ∈ THREE, x.2 < 18446744073709551616 := by decide
theorem known_ok {K : Bool → World → Prop} (hK : ∀ w', Keep w w' → K true w') : C.tocsinlaw17_known w K := by
  unfold C.tocsinlaw17_known
  refine three_ok fun s1 w1 k1 r1 => call_ok r1 (by decide) three64 fun w2 k2 => ?_
  rw [k_inc]
  refine three_ok fun s3 w3 k3 r3 => call_ok r3 (by decide) three64 fun w4 k4 => ?_
  rw [k_del]
  have kk := Keep.trans (Keep.trans k1 k2) (Keep.trans k3 k4)
  refine cond_t rfl <| cond_t rfl <| cond_t rfl <| cond_t rfl <| cond_t (by rw [feq_nm]; decide +kernel) <| cond_t (by rw [feq_nm]; decide +kernel) ?_
  refine new_T (ω := fun _ => 0) 1 fun g ω5 w5 k5 b5 => ?_
  have r5 : Rd w5 ⟨some ⟨g, 0, none⟩, 3, 3⟩ 1 (([4607182418800017408, 4611686018427387904, 4616189618054758400] : LF).map fl) := Rd.blk (n := 3) (c := 3) (sz := 1) (o := 0) b5.blk (Nat.le_refl _) (by decide)
  refine quantile_ok r5 (by decide) (by decide) fun w6 k6 => ?_
  rw [k_mid]
  have e : G.feq 4611686018427387904 4611686018427387904 = true := by rw [feq_nm]; decide +kernel
  rw [e]
  exact hK w6 (Keep.trans (Keep.trans kk k5.keep) k6)
theorem bits17_ok {a b : Nat} {K : Bool → World → Prop} (hK : K (decide (a = b)) w) : C.tocsinlaw17_bits a b w K := by
  unfold C.tocsinlaw17_bits
  refine bits_ok (bits_ok ?_)
  have e : ((a : Int) == (b : Int)) = decide (a = b) := by
    by_cases h : a = b
    · subst h; rw [decide_eq_true rfl]; exact beq_self_eq_true _
    · rw [decide_eq_false h]; exact beq_eq_false_iff_ne.2 (by omega)
  rw [e]; exact hK
end Go.Proofs.Ytaciaidehamfgaa.Ov
