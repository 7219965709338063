/- Layer 9: label sets and samples that came in; the laid variables, and a world that has them. Own work. -/
import Derived.Test.YtkeabflhjjpmmaaDoorHdK
import Derived.Test.YtkeabflhjjpmmaaDoorRepR
import Derived.Test.YtkeabflhjjpmmaaDoorUtfWB
namespace Go.Proofs.YtkeabflhjjpmmaaDoor.Hd
open Go Vm Go.RowKit Num Mem Utf Lib Lab Sm Rep
variable {w w0 : World}

theorem labs_of {s : Sl} {b : Nat} (h : Cl w (.sl [.str, .str]) s.v b) : ∃ m : List Lb, Rd w s 2 (labs m) ∧ s.n = m.length ∧ s.n < b ∧ s.n ≤ maxLen ∧ ∀ x ∈ m, x.1.size < b ∧ x.2.size < b :=
  rows_of (α := Lb) (enc := labC) (fun _ => rfl) (by decide) h fun V hV => by
    obtain ⟨s0, e0, h0⟩ := (hV 0 _ rfl).str_inv
    obtain ⟨s1, e1, h1⟩ := (hV 1 _ rfl).str_inv
    refine ⟨(s0, s1), fun j hj => ?_, h0, h1⟩
    match j, hj with
    | 0, _ => rw [e0]; rfl
    | 1, _ => rw [e1]; rfl
theorem smpl_of {s : Sl} {b : Nat} (h : Cl w (.sl [.int .i64, .fl .f64]) s.v b) : ∃ m : List Smp, Rd w s 2 (smps m) ∧ s.n = m.length ∧ s.n < b ∧ s.n ≤ maxLen ∧ ∀ x ∈ m, -9223372036854775808 ≤ x.1 ∧ x.1 ≤ 9223372036854775807 ∧ x.2 < 18446744073709551616 :=
  rows_of (α := Smp) (enc := smpC) (fun _ => rfl) (by decide) h fun V hV => by
    obtain ⟨n, e0, a1, a2⟩ := (hV 0 _ rfl).int_inv
    obtain ⟨v, e1, a3⟩ := (hV 1 _ rfl).fl_inv
    refine ⟨(n, v), fun j hj => ?_, by simpa [IntKind.min, IntKind.signed, IntKind.bits] using a1, by simpa [IntKind.max, IntKind.signed, IntKind.bits] using a2, by simpa [Lit.wf] using a3⟩
    match j, hj with
    | 0, _ => rw [e0]; rfl
    | 1, _ => rw [e1]; rfl
theorem keeps_law (ht : UTab w0) {l s o : Sl} {b b' b'' : Nat} (hl : Cl w0 (.sl [.str, .str]) l.v b) (hs : Cl w0 (.sl [.int .i64, .fl .f64]) s.v b') (ho : Cl w0 (.sl [.str, .str]) o.v b'')
    {K : Bool → World → Prop} (hK : ∀ w', Keep w0 w' → K true w') : C.tocsinlaw09_HeadKeeps l s o w0 K := by
  obtain ⟨ml, h1, e1, _, m1, _⟩ := labs_of hl
  obtain ⟨ss, h2, e2, _, m2, _⟩ := smpl_of hs
  obtain ⟨mo, h3, _⟩ := labs_of ho
  have hm : maxLen ≤ 9223372036854775807 := by simp [maxLen]
  exact keeps_ok ht h1 h2 h3 (by omega) (by omega) hK
end Go.Proofs.YtkeabflhjjpmmaaDoor.Hd
