/- Layer 1: three laid variables, and a world that has them. Own work. -/
import Derived.Test.YtpgpdeojggcibaaDoorVintW
import Derived.Test.YtpgpdeojggcibaaDoorUtfW
namespace Go.Proofs.YtpgpdeojggcibaaDoor.Vint
open Go Vm Go.RowKit Num Mem Crc

theorem tab_reads {w : World} (h : Go.Lib.VarReads Tryd.prog w "tocsin/vint.halves" Rows.laid_tocsin_vint_halves) : Tab w := by
  obtain ⟨g, t, cs, fuel, p, hg, hty, hvar, hd⟩ := h
  obtain rfl := Option.some.inj ((show Tryd.prog.globalNamed "tocsin/vint.halves" = some 0 by kernel_rfl).symm.trans hg)
  obtain rfl := Option.some.inj ((show (Tryd.prog.globals[0]?).map (·.type) = some 59 by kernel_rfl).symm.trans hty)
  have hcs := Go.Lib.cells_of_tab (zs := halves) (k := .u32) (e := 23) (n := 16) (by kernel_rfl) (by kernel_rfl) (by kernel_rfl) (by kernel_rfl) hd
  refine tab_of ?_
  unfold Go.Lib.TabIs
  rw [hvar, ← hcs]
theorem tabs_laid {w : World} (h : laidMetH Tryd.prog [("unicode/utf8.acceptRanges", Rows.laid_unicode_utf8_acceptRanges), ("tocsin/vint.halves", Rows.laid_tocsin_vint_halves), ("unicode/utf8.first", Rows.laid_unicode_utf8_first)] w) : Tab w ∧ Utf.UTab w := by
  have h' : laidMet Tryd.prog [("unicode/utf8.acceptRanges", Rows.laid_unicode_utf8_acceptRanges), ("tocsin/vint.halves", Rows.laid_tocsin_vint_halves), ("unicode/utf8.first", Rows.laid_unicode_utf8_first)] w := h
  exact ⟨tab_reads (Go.Lib.laidMet.reads h' (.tail _ (.head _))), Utf.utab_laid h' (.tail _ (.tail _ (.head _))) (.head _)⟩

noncomputable def laidWorld2 (os : Os) : World :=
  { laidWorld os with heap := ((laidWorld os).heap.modify 1 fun
      | .cells _ t frozen => .cells (Go.Lib.firstTab.map fun z => Value.int .u8 z).toArray t frozen
      | o => o).modify 2 fun
      | .cells _ t frozen => .cells ((List.range 16).flatMap fun i => [Value.int .u8 (Go.Lib.accLo i), Value.int .u8 (Go.Lib.accHi i)]).toArray t frozen
      | o => o }
end Go.Proofs.YtpgpdeojggcibaaDoor.Vint
