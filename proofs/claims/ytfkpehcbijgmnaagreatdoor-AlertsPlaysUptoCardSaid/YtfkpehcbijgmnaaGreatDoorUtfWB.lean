/- The tables of the decoder, as the rows list them. Own work. -/
import Derived.Test.YtfkpehcbijgmnaaGreatDoorShut
import Derived.Test.YtfkpehcbijgmnaaGreatDoorUtfB
namespace Go.Proofs.YtfkpehcbijgmnaaGreatDoor.Utf
open Go Vm Go.RowKit Num Mem
open Go.Lib (VarReads cells_of_tab firstTab firstT accLo accHi array_elem ints_of_struct Utf8Tabs)

theorem utab_of {w : World} (h3 : VarReads Tryz.prog w "unicode/utf8.first" Go.Lib.firstData) (h4 : VarReads Tryz.prog w "unicode/utf8.acceptRanges" Go.Lib.acceptData) : UTab w := by
  refine ⟨fun c hc => ?_, fun i hi => ?_⟩
  · obtain ⟨g, t, cs, fuel, p, hg, hty, hvar, hd⟩ := h3
    obtain rfl := Option.some.inj ((show Tryz.prog.globalNamed "unicode/utf8.first" = some 1 by kernel_rfl).symm.trans hg)
    obtain rfl := Option.some.inj ((show (Tryz.prog.globals[1]?).map (·.type) = some 111 by kernel_rfl).symm.trans hty)
    have hcs := cells_of_tab (e := 5) (n := 256) (by kernel_rfl) (by kernel_rfl) (by kernel_rfl) (by kernel_rfl) hd
    have := World.var?_cell hg hvar c
    rw [this, ← Array.getElem?_toList, hcs]
    simp [firstTab, hc]
  · obtain ⟨g, t, cs, fuel, p, hg, hty, hvar, hd⟩ := h4
    obtain rfl := Option.some.inj ((show Tryz.prog.globalNamed "unicode/utf8.acceptRanges" = some 2 by kernel_rfl).symm.trans hg)
    obtain rfl := Option.some.inj ((show (Tryz.prog.globals[2]?).map (·.type) = some 114 by kernel_rfl).symm.trans hty)
    obtain ⟨fuel', d, q, hdi, he⟩ := array_elem (n := 16) (e := 113) (by kernel_rfl) hd i hi
    simp only [List.getElem?_map, List.getElem?_range hi, Option.map_some, Option.some.injEq] at hdi
    subst hdi
    have hc2 : Tryz.prog.cellsOf 113 = 2 := by kernel_rfl
    rw [hc2] at he
    obtain ⟨f0, f1, hs, hf0, hf1, ho0, ho1⟩ : ∃ f0 f1 : Field, Tryz.prog.underlying 113 = some (.struct #[f0, f1]) ∧ f0.type = 5 ∧ f1.type = 5 ∧ f0.offset = 0 ∧ f1.offset = 1 :=
      ⟨{ name := "lo", type := 5, offset := 0, embedded := false, tag := "", pkgPath := "unicode/utf8", byteOffset := 0 }, { name := "hi", type := 5, offset := 1, embedded := false, tag := "", pkgPath := "unicode/utf8", byteOffset := 1 }, by kernel_rfl, rfl, rfl, rfl, rfl⟩
    have ht5 : Tryz.prog.underlying 5 = some (.int .u8) := by kernel_rfl
    have hc5 : Tryz.prog.cellsOf 5 = 1 := by kernel_rfl
    have hcs := ints_of_struct (k := .u8) hs (fun j f hj => by
      match j, hj with
      | 0, hj => simp at hj; subst hj; rw [hf0]; exact ⟨ht5, ho0, hc5⟩
      | 1, hj => simp at hj; subst hj; rw [hf1]; exact ⟨ht5, ho1, hc5⟩
      | j + 2, hj => simp at hj) (by rw [hc2]; rfl) he
    have e0 := congrArg (·[0]?) hcs
    have e1 := congrArg (·[1]?) hcs
    simp only [List.getElem?_take, List.getElem?_drop] at e0 e1
    constructor
    · rw [World.var?_cell hg hvar (2 * i), ← Array.getElem?_toList]
      simpa [Nat.mul_comm] using e0
    · rw [World.var?_cell hg hvar (2 * i + 1), ← Array.getElem?_toList]
      simpa [Nat.mul_comm] using e1

theorem first_same : (Rows.laid_unicode_utf8_first : DataW Unit) = Go.Lib.firstData := by kernel_rfl
theorem accept_same : (Rows.laid_unicode_utf8_acceptRanges : DataW Unit) = Go.Lib.acceptData := by kernel_rfl
theorem utab_laid {w : World} {l : List (String × DataW Unit)} (h : laidMet Tryz.prog l w) (h1 : ("unicode/utf8.first", Rows.laid_unicode_utf8_first) ∈ l) (h2 : ("unicode/utf8.acceptRanges", Rows.laid_unicode_utf8_acceptRanges) ∈ l) : UTab w :=
  utab_of (by rw [← first_same]; exact Go.Lib.laidMet.reads h h1) (by rw [← accept_same]; exact Go.Lib.laidMet.reads h h2)
end Go.Proofs.YtfkpehcbijgmnaaGreatDoor.Utf
namespace Go.Proofs.YtfkpehcbijgmnaaGreatDoor.Utf
open Go Vm Go.RowKit Num Mem
theorem own : ownKnob Tryz.prog.godebug = none := by kernel_rfl
theorem utab_laidH {w : World} (h : laidMetH Tryz.prog [("unicode/utf8.acceptRanges", Rows.laid_unicode_utf8_acceptRanges), ("unicode/utf8.first", Rows.laid_unicode_utf8_first)] w) : UTab w :=
  utab_laid (l := [("unicode/utf8.acceptRanges", Rows.laid_unicode_utf8_acceptRanges), ("unicode/utf8.first", Rows.laid_unicode_utf8_first)]) h (.tail _ (.head _)) (.head _)
noncomputable def utfWorld (w : World) : World :=
  { w with heap := (w.heap.modify 1 fun
      | .cells _ t frozen => .cells (Go.Lib.firstTab.map fun z => Value.int .u8 z).toArray t frozen
      | o => o).modify 2 fun
      | .cells _ t frozen => .cells ((List.range 16).flatMap fun i => [Value.int .u8 (Go.Lib.accLo i), Value.int .u8 (Go.Lib.accHi i)]).toArray t frozen
      | o => o }
noncomputable def laidWorld (os : Os) : World := utfWorld (World.holding Tryz.prog os ⟨#[], #[], []⟩)
end Go.Proofs.YtfkpehcbijgmnaaGreatDoor.Utf
