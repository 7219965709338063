/- RulesNames: for every input of bulk at most 1048576 the law returns true, and leaves what it was given as it was: where the package variables that the row lists read as it lists them. Own work. -/
import Derived.Test.YtechilkjfhpkpaaGreatDoorPN4
import Derived.Test.YtechilkjfhpkpaaGreatDoorCards
import Derived.Test.YtechilkjfhpkpaaGreatDoorTie
import Derived.ProofKit
import Derived.ChangeMaps5
namespace Go.Proofs.YtechilkjfhpkpaaGreatDoor.RulesNames
open Go Vm Go.RowKit Num Mem Go.ChangeShapes Go.ChangeAt Shut Utf Ru

set_option maxRecDepth 100000 in
theorem contract (H : Type) (enc : TypeId × Value → H) (W : World) (base : Nat) (args : Array Value) (ds gs : List (DataW H)) (before : List MemPlace)
    (hval : ∀ (j : Nat) t v, Tryz.f8.params[j]? = some t → args[j]? = some v → Value.okWide Tryz.prog W .any base t v)
    (hW : DataW.Whole enc Tryz.prog Tryz.f8.params.toList Rows.rulesNamesSpec.vars false W args.toList ds gs before) (hk : Rows.uptoSmall H (ds ++ gs) = true) (hL : laidMetH Tryz.prog Rows.rulesNamesUptoRow.laid W) :
    Calls Tryz.prog 8 args W fun e W' => ∃ v, e = .returned v ∧ Rows.rulesNamesSpec.post enc Tryz.prog Tryz.f8 false true false false W args v W' := by
  have hW' := hW
  obtain ⟨p, q, hA0, hV, rfl, hfz, hnd⟩ := hW
  have hA : DataW.TrodAll enc Tryz.prog W 0 (fun _ => true) true Tryz.f8.params.toList args.toList ds p := hA0
  rw [Tryz.params8] at hA hval
  obtain ⟨v0, vs0, d0, ds0, p0, q0, hargs, rfl, rfl, h0, r0⟩ := trodAll_cons hA
  obtain ⟨v1, vs1, d1, ds1, p1, q1, rfl, rfl, rfl, h1, r1⟩ := trodAll_cons r0
  obtain ⟨v2, vs2, d2, ds2, p2, q2, rfl, rfl, rfl, h2, r2⟩ := trodAll_cons r1
  obtain ⟨v3, vs3, d3, ds3, p3, q3, rfl, rfl, rfl, h3, r3⟩ := trodAll_cons r2
  obtain ⟨v4, vs4, d4, ds4, p4, q4, rfl, rfl, rfl, h4, r4⟩ := trodAll_cons r3
  obtain ⟨v5, vs5, d5, ds5, p5, q5, rfl, rfl, rfl, h5, r5⟩ := trodAll_cons r4
  obtain ⟨rfl, rfl, rfl⟩ := trodAll_nil r5
  obtain rfl : args = #[v0, v1, v2, v3, v4, v5] := by cases args; simp_all
  have hb := bulk_bound hk
  obtain ⟨ru0, sl0, rfl, rd0, sm0⟩ := open_rule (hval 0 _ v0 rfl rfl) h0
  obtain ⟨s1, rfl, hs1⟩ := Rep.open_sl (e := 99) (es := [.str, .str]) 8 (by kernel_rfl) (by kernel_rfl) (hval 1 _ v1 rfl rfl) h1
  obtain ⟨s2, rfl, hs2⟩ := Rep.open_sl (e := 45) (es := [shL, .fl .f64]) 8 (by kernel_rfl) (by kernel_rfl) (hval 2 _ v2 rfl rfl) h2
  obtain ⟨n3, rfl, rfl, rfl, hw3⟩ := open_int (k := .i64) (by kernel_rfl) (hval 3 _ v3 rfl rfl) h3
  have hx3 : -9223372036854775808 ≤ n3 ∧ n3 ≤ 9223372036854775807 := by simpa [Lit.wf, IntKind.min, IntKind.max, IntKind.signed, IntKind.bits] using hw3
  obtain ⟨n4, rfl, rfl, rfl, hw4⟩ := open_int (k := .i64) (by kernel_rfl) (hval 4 _ v4 rfl rfl) h4
  have hx4 : -9223372036854775808 ≤ n4 ∧ n4 ≤ 9223372036854775807 := by simpa [Lit.wf, IntKind.min, IntKind.max, IntKind.signed, IntKind.bits] using hw4
  obtain ⟨n5, rfl, rfl, rfl, hw5⟩ := open_int (k := .i64) (by kernel_rfl) (hval 5 _ v5 rfl rfl) h5
  have hx5 : -9223372036854775808 ≤ n5 ∧ n5 ≤ 9223372036854775807 := by simpa [Lit.wf, IntKind.min, IntKind.max, IntKind.signed, IntKind.bits] using hw5
  simp only [bulk_app, Rows.uptoBulkAll] at hb
  have := (C.tocsinlaw19_RulesNames.clok [.agg ⟨[.bool ru0.rc, .string ru0.nm, .string ru0.ex, .int .i64 ru0.fo, .int .i64 ru0.ke, sl0.v]⟩, s1.v, s2.v, .int .i64 n3, .int .i64 n4, .int .i64 n5] (fun v w' => v = .bool true ∧ Keep W w') W (by
    show C.tocsinlaw19_RulesNames ru0.rc ru0.nm ru0.ex ru0.fo ru0.ke sl0 s1 s2 n3 n4 n5 W _
    obtain ⟨q1, g1, g2, g3, g4⟩ := labs_of hs1
    obtain ⟨q, hq1, hq2, hq3, hq4⟩ := points_of hs2
    exact names_law (b := Rows.uptoBulk d0 + Rows.uptoBulk d1 + Rows.uptoBulk d2) (laid_tabs hL).1 (laid_tabs hL).2 rd0 (sm0.mono (by omega)) (by omega) g1 (g4.mono (by omega)) hq1 (by omega) (fun p hp => (hq4 p hp).mono (by omega)) fun w' k => ⟨rfl, k⟩)).2
  refine this.mono fun e W' ⟨v, he, hv, hk'⟩ => ⟨v, he, ?_⟩
  subst hv
  exact post_keep laidOut (of_decide_eq_true (by kernel_rfl)) rfl hW' rfl rfl (by kernel_rfl) hk'

noncomputable abbrev wargs : Array Value := #[.agg #[.bool false, .string ⟨#[]⟩, .string ⟨#[]⟩, .int .i64 0, .int .i64 0, .slice none 0 0], .slice none 0 0, .slice none 0 0, .int .i64 0, .int .i64 0, .int .i64 0]
theorem laid_met (os : Os) : laidMetH Tryz.prog Rows.rulesNamesUptoRow.laid ((errWorld os).forCall (fun _ _ => 0) ⟨#[], wargs, []⟩).memory :=
  err_met os wargs
theorem reads (os : Os) (H : Type) (enc : TypeId × Value → H) : ∃ places, DataW.whole enc Tryz.prog ((errWorld os).forCall (fun _ _ => 0) ⟨#[], wargs, []⟩).memory Tryz.f8.params.toList Rows.rulesNamesSpec.vars false wargs.toList 8 = some ([.agg [.lit (.bool false), .lit (.string []), .lit (.string []), .lit (.int .i64 0), .lit (.int .i64 0), .nil], .nil, .nil, .lit (.int .i64 0), .lit (.int .i64 0), .lit (.int .i64 0)], [], places) :=
  ⟨[], by kernel_rfl⟩

set_option maxRecDepth 100000 in
theorem lifted (os : Os) (started : os.Started) (H : Type) (enc : TypeId × Value → H) (F : Stop.Interp) :
    ReturnsInHanded {} Tryz.checked os 8 .any ((Rows.OpenSpec.upto Rows.rulesNamesSpec).preRow enc Tryz.prog Tryz.f8 Rows.rulesNamesUptoRow.domain false Rows.rulesNamesUptoRow.laid) (((Rows.OpenSpec.upto Rows.rulesNamesSpec).at F).post enc Tryz.prog Tryz.f8 false true false false) := by
  obtain ⟨places, hx⟩ := reads os H enc
  refine returnsInHanded_of_row (C := Tryz.checked) (s := (Rows.OpenSpec.upto Rows.rulesNamesSpec)) own started (by kernel_rfl) Tryz.func8
    (witness_row_at (enc := enc) (C := Tryz.checked) false (errWorld os) wargs rfl (by kernel_rfl) (by kernel_rfl) (by kernel_rfl)
      (OpenSpec.preRow_of_cond 8 hx (by kernel_rfl) (fun k hk => by cases hk; kernel_rfl) (by kernel_rfl) (laid_met os))) ?_
  intro W base args ds gs before hval hW _ hk _ hL _ _
  exact contract H enc W base args ds gs before hval hW (hk _ rfl) hL

theorem said : Rows.RulesNamesUptoSaid :=
  OpenClaim.holds_of_cond 8 Tryz.f8 rfl rfl rfl rfl rfl rfl rfl ⟨rfl, rfl, rfl, rfl, rfl⟩ rfl rfl rfl rfl rfl (by kernel_rfl) Tryz.func8 (by kernel_rfl)
    (of_decide_eq_true (by kernel_rfl)) (by unfold Func.isWrapper; first | (rw [if_pos (by decide +kernel)]; kernel_rfl) | (rw [if_neg (by decide +kernel)]; exact ⟨rfl, rfl⟩))
    (fun os started H enc _ F => by rw [OpenClaim.pre_eq_preRow]; exact lifted os started H enc F)

theorem plain (f : FuncId) (fn : Func) (hf : Tryz.pinned.checked.prog.funcNamed "tocsin/tocsinlaw19.RulesNames" = some f) (hfn : Tryz.pinned.checked.prog.funcs[f]? = some fn) :
    true = Tryz.pinned.checked.prog.looks [] ∧ ∀ (j : Nat) t, fn.params[j]? = some t → Tryz.pinned.checked.prog.wantsStandIn t = false := by
  obtain rfl : f = 8 := Option.some.inj ((show Tryz.prog.funcNamed "tocsin/tocsinlaw19.RulesNames" = some 8 by kernel_rfl).symm.trans hf) |>.symm
  obtain rfl : fn = Tryz.f8 := (Option.some.inj (Tryz.func8.symm.trans hfn)).symm
  refine ⟨by kernel_rfl, fun j t ht => ?_⟩
  have all : ∀ t ∈ Tryz.f8.params.toList, Tryz.prog.wantsStandIn t = false := of_decide_eq_true (by kernel_rfl)
  exact all t (Array.mem_toList_iff.2 (Array.mem_of_getElem? ht))

theorem card : Rows.RulesNamesUptoCardSaid :=
  Claim7.holds_tied_plain_at .later [] _ _ _ _ said (fun _ h => by cases h) (by kernel_rfl) (fun _ h => by cases h) rulesNamesUpto_row_tie rfl ⟨rfl, rfl⟩ (by kernel_rfl) rfl plain (by kernel_rfl)
end Go.Proofs.YtechilkjfhpkpaaGreatDoor.RulesNames
