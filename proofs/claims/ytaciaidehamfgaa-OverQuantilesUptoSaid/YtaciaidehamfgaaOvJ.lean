/- Layer 17 (over): samples and numbers that came in. Own work. -/
import Derived.Test.YtaciaidehamfgaaOvI
import Derived.Test.YtaciaidehamfgaaRepR
namespace Go.Proofs.Ytaciaidehamfgaa.Ov
open Go Vm Go.RowKit Num Mem Sm Rep
variable {w : World}

theorem smpl_of {s : Sl} {b : Nat} (h : Cl w (.sl [.int .i64, .fl .f64]) s.v b) : ∃ m : List Smp, Rd w s 2 (smps m) ∧ s.n = m.length ∧ s.n < b ∧ (∀ x ∈ m, -9223372036854775808 ≤ x.1 ∧ x.1 ≤ 9223372036854775807) ∧ ∀ x ∈ m, x.2 < 18446744073709551616 := by
  obtain ⟨m, h1, h2, h3, h4, h5⟩ := rows_of (α := Smp) (enc := smpC) (Q := fun x => -9223372036854775808 ≤ x.1 ∧ x.1 ≤ 9223372036854775807 ∧ x.2 < 18446744073709551616) (fun _ => rfl) (by decide) h fun V hV => by
    obtain ⟨n, e0, a1, a2⟩ := (hV 0 _ rfl).int_inv
    obtain ⟨v, e1, a3⟩ := (hV 1 _ rfl).fl_inv
    refine ⟨(n, v), fun j hj => ?_, by simpa [IntKind.min, IntKind.signed, IntKind.bits] using a1, by simpa [IntKind.max, IntKind.signed, IntKind.bits] using a2, by simpa [Lit.wf] using a3⟩
    match j, hj with
    | 0, _ => rw [e0]; rfl
    | 1, _ => rw [e1]; rfl
  exact ⟨m, h1, h2, h3, fun x hx => ⟨(h5 x hx).1, (h5 x hx).2.1⟩, fun x hx => (h5 x hx).2.2⟩
theorem flts_of {s : Sl} {b : Nat} (h : Cl w (.sl [.fl .f64]) s.v b) : ∃ l : LF, Rd w s 1 (l.map fl) ∧ s.n = l.length ∧ s.n < b ∧ ∀ x ∈ l, x < 18446744073709551616 := by
  obtain ⟨m, h1, h2, h3, h4, h5⟩ := rows_of (α := Nat) (enc := fun x => [fl x]) (Q := fun x => x < 18446744073709551616) (fun _ => rfl) (by decide) h fun V hV => by
    obtain ⟨v, e1, a3⟩ := (hV 0 _ rfl).fl_inv
    refine ⟨v, fun j hj => ?_, by simpa [Lit.wf] using a3⟩
    match j, hj with
    | 0, _ => rw [e1]; rfl
  refine ⟨m, ?_, h2, h3, h5⟩
  have e : ∀ m : LF, m.flatMap (fun x => [fl x]) = m.map fl := fun m => by
    induction m with
    | nil => rfl
    | cons x m ih => rw [List.flatMap_cons, ih]; rfl
  rw [← e m]; exact h1
end Go.Proofs.Ytaciaidehamfgaa.Ov
