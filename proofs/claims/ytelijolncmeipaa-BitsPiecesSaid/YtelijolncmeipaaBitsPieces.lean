/- BitsPieces: for every input the law returns true, and leaves what it was given as it was: where the package variables that the row lists read as it lists them. Own work. -/
import Derived.Test.YtelijolncmeipaaShut
import Derived.Test.YtelijolncmeipaaBitsP
import Derived.Test.YtelijolncmeipaaPlainW
import Derived.ProofKit
import Derived.ChangeMaps5
namespace Go.Proofs.Ytelijolncmeipaa.BitsPieces
open Go Vm Go.RowKit Num Mem Go.ChangeShapes Go.ChangeAt Shut Bits Plain

theorem contract (H : Type) (enc : TypeId × Value → H) (W : World) (base : Nat) (args : Array Value) (ds gs : List (DataW H)) (before : List MemPlace)
    (hval : ∀ (j : Nat) t v, Try.f3.params[j]? = some t → args[j]? = some v → Value.okWide Try.prog W .any base t v)
    (hW : DataW.Whole enc Try.prog Try.f3.params.toList Rows.bitsPiecesSpec.vars false W args.toList ds gs before) (hL : laidMetH Try.prog Rows.bitsPiecesRow.laid W) :
    Calls Try.prog 3 args W fun e W' => ∃ v, e = .returned v ∧ Rows.bitsPiecesSpec.post enc Try.prog Try.f3 false true false false W args v W' := by
  have hW' := hW
  obtain ⟨p, q, hA0, hV, rfl, hfz, hnd⟩ := hW
  have hA : DataW.TrodAll enc Try.prog W 0 (fun _ => true) true Try.f3.params.toList args.toList ds p := hA0
  rw [Try.params3] at hA hval
  obtain ⟨v0, vs0, d0, ds0, p0, q0, hargs, rfl, rfl, h0, r0⟩ := trodAll_cons hA
  obtain ⟨v1, vs1, d1, ds1, p1, q1, rfl, rfl, rfl, h1, r1⟩ := trodAll_cons r0
  obtain ⟨rfl, rfl, rfl⟩ := trodAll_nil r1
  obtain rfl : args = #[v0, v1] := by cases args; simp_all
  obtain ⟨n0, rfl, rfl, rfl, hw0⟩ := open_int (k := .u64) (by kernel_rfl) (hval 0 _ v0 rfl rfl) h0
  have hx0 : 0 ≤ n0 ∧ n0 ≤ 18446744073709551615 := by simpa [Lit.wf, IntKind.min, IntKind.max, IntKind.signed, IntKind.bits] using hw0
  obtain ⟨n1, rfl, rfl, rfl, hw1⟩ := open_int (k := .i64) (by kernel_rfl) (hval 1 _ v1 rfl rfl) h1
  have hx1 : -9223372036854775808 ≤ n1 ∧ n1 ≤ 9223372036854775807 := by simpa [Lit.wf, IntKind.min, IntKind.max, IntKind.signed, IntKind.bits] using hw1
  have := (C.tocsinlaw02_BitsPieces.clok [.int .u64 n0, .int .i64 n1] (fun v w' => v = .bool true ∧ Keep W w') W (by
    show C.tocsinlaw02_BitsPieces n0 n1 W _
    rw [show n0 = ((n0.toNat : Nat) : Int) by omega]
    exact pieces_law (by omega) fun w' k => ⟨rfl, k⟩)).2
  refine this.mono fun e W' ⟨v, he, hv, hk'⟩ => ⟨v, he, ?_⟩
  subst hv
  exact post_keep laidOut (of_decide_eq_true (by kernel_rfl)) rfl hW' rfl rfl (by kernel_rfl) hk'

noncomputable abbrev wargs : Array Value := #[.int .u64 0, .int .i64 0]
theorem laid_met (os : Os) : laidMetH Try.prog Rows.bitsPiecesRow.laid ((laidWorld os).forCall (fun _ _ => 0) ⟨#[], wargs, []⟩).memory :=
  laidMet_of_run' 8 (by kernel_rfl) (by kernel_rfl)
theorem reads (os : Os) (H : Type) (enc : TypeId × Value → H) : ∃ places, DataW.whole enc Try.prog ((laidWorld os).forCall (fun _ _ => 0) ⟨#[], wargs, []⟩).memory Try.f3.params.toList Rows.bitsPiecesSpec.vars false wargs.toList 8 = some ([.lit (.int .u64 0), .lit (.int .i64 0)], [], places) :=
  ⟨[], by kernel_rfl⟩

set_option maxRecDepth 100000 in
theorem lifted (os : Os) (started : os.Started) (H : Type) (enc : TypeId × Value → H) (F : Stop.Interp) :
    ReturnsInHanded {} Try.checked os 3 .any ((OpenSpec.ofChange Rows.bitsPiecesSpec).preRow enc Try.prog Try.f3 Rows.bitsPiecesRow.domain false Rows.bitsPiecesRow.laid) (((OpenSpec.ofChange Rows.bitsPiecesSpec).at F).post enc Try.prog Try.f3 false true false false) := by
  obtain ⟨places, hx⟩ := reads os H enc
  refine returnsInHanded_of_row (C := Try.checked) (s := (OpenSpec.ofChange Rows.bitsPiecesSpec)) own started (by kernel_rfl) Try.func3
    (witness_row_at (enc := enc) (C := Try.checked) false (laidWorld os) wargs rfl (by kernel_rfl) (by kernel_rfl) (by kernel_rfl)
      (OpenSpec.preRow_of_cond 8 hx (by kernel_rfl) (fun k hk => by cases hk) (by kernel_rfl) (laid_met os))) ?_
  intro W base args ds gs before hval hW _ hk _ hL _ _
  exact contract H enc W base args ds gs before hval hW hL

theorem said : Rows.BitsPiecesSaid :=
  OpenClaim.holds_of_cond 3 Try.f3 rfl rfl rfl rfl rfl rfl rfl ⟨rfl, rfl, rfl, rfl, rfl⟩ rfl rfl rfl rfl rfl (by kernel_rfl) Try.func3 (by kernel_rfl)
    (of_decide_eq_true (by kernel_rfl)) (by unfold Func.isWrapper; first | (rw [if_pos (by decide +kernel)]; kernel_rfl) | (rw [if_neg (by decide +kernel)]; exact ⟨rfl, rfl⟩))
    (fun os started H enc _ F => by rw [OpenClaim.pre_eq_preRow]; exact lifted os started H enc F)

end Go.Proofs.Ytelijolncmeipaa.BitsPieces
