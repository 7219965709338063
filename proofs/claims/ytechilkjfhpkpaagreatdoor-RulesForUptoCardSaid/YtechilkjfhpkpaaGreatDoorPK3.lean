/- (several texts in one: Cp1, StrB, UtfB, ConvB, Lab, Tag, LabR, Lbc, UtfRB, Lbr, Maps, MapV, RuP, VintO, LabP, Smp, LabK, RowT, SortG, Seq) Own work. -/
import Derived.Lib.ValidAsc
import Derived.Lib.LaidU8
import Derived.Laws.BytesString
import Derived.Lib.ConvBytes
import Derived.Lib.Bytealg
import Derived.WideMake
import Derived.RangeFuncRecord
import Derived.Maps.RangeRun
import Derived.Laws.CopyRow
import Derived.Laws.IdiomCopy
import Derived.Test.YtechilkjfhpkpaaGreatDoorPK2
set_option linter.unusedVariables false
set_option maxRecDepth 100000
namespace Go.Proofs.YtechilkjfhpkpaaGreatDoor
open Go Vm
namespace C
namespace tocsinref04_has
abbrev KT := Bool → World → Prop
def Kt (Kv : VW) : KT := fun b1 w => Kv (.bool b1) w
noncomputable def bd : Code := bdy Tryz.f76
theorem fn : FnOk pr 76 17 Tryz.f76 := ⟨Tryz.func76, by kernel_rfl, Tryz.ntmps76, by kernel_rfl, by kernel_rfl⟩
def F : Clee := ofL []
theorem FOk_ : FOk pr F := FOk_nil
def P1 (Kv : VW) : Post := bodyK false pr 17 Tryz.f76 Kv
@[reducible] def g2 : List SE := []
def S2 (K : KT) (w : World) : Prop :=
  K false w
theorem S2_ok (Kv : VW) : OkT pr false none 17 g2 (S2 (Kt Kv)) (s2 (tl 1 bd)) (P1 Kv) := ok_last mixed FOk_ fun v ρ w => by kernel_rfl
def P3 (Kv : VW) : Post := next (get g2 (S2 (Kt Kv))) (P1 Kv)
def P4 (Kv : VW) : Post := inBlock 0 (P3 Kv)
@[reducible] def g5 : List SE := [.v 1 .str, .v 7 .sl, .v 8 (.int .i64), .v 9 (.int .i64)]
def P6 (Kv : VW) (kc5 : Cur g5) : Post := next (get g5 kc5) (P4 Kv)
def S7 (K : KT) (kc5 : Cur g5) (s_12 : ByteArray) (l13 : Sl) (n14 : Int) (n15 : Int) (w : World) : Prop :=
  G.cond (decide (n15 < n14)) (G.ix l13.a l13.n n15 1 fun p16 => G.cS p16 w fun s17 => G.cond (s17.toList == s_12.toList) (K true w) (kc5 s_12 l13 n14 (IntKind.i64.wrap (n15 + (1 : Int))) w)) (S2 K w)
theorem S7_ok (Kv : VW) (kc5 : Cur g5) : OkT pr false none 17 g5 (S7 (Kt Kv) kc5) (lp (blk (tl 1 (s1 (tl 1 bd))))) (P6 Kv kc5) := ok_last mixed FOk_ fun v ρ w => by kernel_rfl
def L5 (K : KT) : Cur g5 := loopC g5 (S7 K)
theorem L5_ok (Kv : VW) : OkT pr false none 17 g5 (L5 (Kt Kv)) (blk (tl 1 (s1 (tl 1 bd)))) (P4 Kv) := ok_loop (B := S7 (Kt Kv)) (by kernel_rfl) fun kc => S7_ok Kv kc
theorem L5_ind {K : KT} {s_4 : ByteArray} {l5 : Sl} {n6 : Int} {n7 : Int} {w : World} (h : ∀ X : Cur g5, (∀ s_4 l5 n6 n7 w, S7 K X s_4 l5 n6 n7 w → X s_4 l5 n6 n7 w) → X s_4 l5 n6 n7 w) : L5 K s_4 l5 n6 n7 w := fun X hX => h X fun s_4 l5 n6 n7 w hb => hX (s_4, l5, n6, n7, ()) w hb
theorem B8 (Kv : VW) : OkT pr false none 17 g5 (L5 (Kt Kv)) (tl 1 (s1 (tl 1 bd))) (P3 Kv) := ok_block 0 (by kernel_rfl) (L5_ok Kv)
@[reducible] def g9 : List SE := [.v 0 .sl, .v 1 .str]
def S9 (K : KT) (names_18 : Sl) (s_19 : ByteArray) (w : World) : Prop :=
  L5 K s_19 names_18 ((names_18.n : Nat) : Int) (0 : Int) w
theorem S9_ok (Kv : VW) : OkT pr false none 17 g9 (S9 (Kt Kv)) (s1 (tl 1 bd)) (P3 Kv) := ok_group mixed FOk_ 1 (B8 Kv) fun v ρ w => by kernel_rfl
theorem Q10 (Kv : VW) : OkT pr false none 17 g9 (S9 (Kt Kv)) (tl 1 bd) (P1 Kv) := ok_seq (by kernel_rfl) (S2_ok Kv) (S9_ok Kv)
end tocsinref04_has
def tocsinref04_has (names_2 : Sl) (s_3 : ByteArray) (w : World) (K : tocsinref04_has.KT) : Prop :=
  tocsinref04_has.S9 K names_2 s_3 w
def tocsinref04_has.cl : CL := fun args K w => match args with
  | [.slice x0_a x0_n x0_c, .string x1] => C.tocsinref04_has ⟨x0_a, x0_n, x0_c⟩ x1 w (tocsinref04_has.Kt K)
  | _ => False
theorem tocsinref04_has.clok : OkC pr 76 tocsinref04_has.cl := by
  intro args K w h
  unfold tocsinref04_has.cl at h
  split at h
  · exact calls_group false mixed tocsinref04_has.FOk_ tocsinref04_has.fn rfl 1 (tocsinref04_has.Q10 K) (Eq.mp (by kernel_rfl) h)
  · exact h.elim
namespace tocsinref04_Pick
abbrev KT := Sl → World → Prop
def Kt (Kv : VW) : KT := fun l1 w => Kv l1.v w
noncomputable def bd : Code := bdy Tryz.f42
theorem fn : FnOk pr 42 28 Tryz.f42 := ⟨Tryz.func42, by kernel_rfl, Tryz.ntmps42, by kernel_rfl, by kernel_rfl⟩
def F : Clee := ofL [(76, C.tocsinref04_has.cl)]
theorem FOk_ : FOk pr F := FOk_cons C.tocsinref04_has.clok (FOk_nil)
def P1 (Kv : VW) : Post := bodyK false pr 28 Tryz.f42 Kv
@[reducible] def g2 : List SE := [.v 7 .sl]
def S2 (K : KT) (out_5 : Sl) (w : World) : Prop :=
  K out_5 w
theorem S2_ok (Kv : VW) : OkT pr false none 28 g2 (S2 (Kt Kv)) (s2 (tl 2 bd)) (P1 Kv) := ok_last mixed FOk_ fun v ρ w => by kernel_rfl
def P3 (Kv : VW) : Post := next (get g2 (S2 (Kt Kv))) (P1 Kv)
def P4 (Kv : VW) : Post := inBlock 0 (P3 Kv)
@[reducible] def g5 : List SE := [.v 1 .sl, .v 2 .bool, .v 7 .sl, .v 10 .sl, .v 11 (.int .i64), .v 12 (.int .i64)]
def P6 (Kv : VW) (kc5 : Cur g5) : Post := next (get g5 kc5) (P4 Kv)
def S7 (K : KT) (kc5 : Cur g5) (names_18 : Sl) (in_19 : Bool) (out_20 : Sl) (l21 : Sl) (n22 : Int) (n23 : Int) (w : World) : Prop :=
  G.cond (decide (n23 < n22)) (G.ix l21.a l21.n n23 2 fun p24 => G.cS p24 w fun s25 => G.cS (p24.add 1) w fun s26 => G.new (.cells #[(.string (⟨#[]⟩ : ByteArray)), (.string (⟨#[]⟩ : ByteArray))] 99) w fun p27 w28 => G.st p27 (.string s25) w28 fun w29 => G.st (p27.add 1) (.string s26) w29 fun w30 => G.cS p27 w30 fun s31 => C.tocsinref04_has names_18 s31 w30 fun b32 w33 => G.cond (b32 == in_19) (G.cS p27 w33 fun s34 => G.cS (p27.add 1) w33 fun s35 => G.new (.cells #[(.string s34), (.string s35)] 99) w33 fun p36 w37 => G.runSl pr (Builtin.append_ #[22, 22] 22 #[out_20.v, (Sl.v (⟨some p36, 1, 1⟩ : Sl))]) w37 fun l38 w39 => kc5 names_18 in_19 l38 l21 n22 (IntKind.i64.wrap (n23 + (1 : Int))) w39) (kc5 names_18 in_19 out_20 l21 n22 (IntKind.i64.wrap (n23 + (1 : Int))) w33)) (S2 K out_20 w)
theorem S7_ok (Kv : VW) (kc5 : Cur g5) : OkT pr false none 28 g5 (S7 (Kt Kv) kc5) (lp (blk (tl 1 (s1 (tl 2 bd))))) (P6 Kv kc5) := ok_last mixed FOk_ fun v ρ w => by kernel_rfl
def L5 (K : KT) : Cur g5 := loopC g5 (S7 K)
theorem L5_ok (Kv : VW) : OkT pr false none 28 g5 (L5 (Kt Kv)) (blk (tl 1 (s1 (tl 2 bd)))) (P4 Kv) := ok_loop (B := S7 (Kt Kv)) (by kernel_rfl) fun kc => S7_ok Kv kc
theorem L5_ind {K : KT} {names_6 : Sl} {in_7 : Bool} {out_8 : Sl} {l9 : Sl} {n10 : Int} {n11 : Int} {w : World} (h : ∀ X : Cur g5, (∀ names_6 in_7 out_8 l9 n10 n11 w, S7 K X names_6 in_7 out_8 l9 n10 n11 w → X names_6 in_7 out_8 l9 n10 n11 w) → X names_6 in_7 out_8 l9 n10 n11 w) : L5 K names_6 in_7 out_8 l9 n10 n11 w := fun X hX => h X fun names_6 in_7 out_8 l9 n10 n11 w hb => hX (names_6, in_7, out_8, l9, n10, n11, ()) w hb
theorem B8 (Kv : VW) : OkT pr false none 28 g5 (L5 (Kt Kv)) (tl 1 (s1 (tl 2 bd))) (P3 Kv) := ok_block 0 (by kernel_rfl) (L5_ok Kv)
@[reducible] def g9 : List SE := [.v 0 .sl, .v 1 .sl, .v 2 .bool, .v 7 .sl]
def S9 (K : KT) (l_40 : Sl) (names_41 : Sl) (in_42 : Bool) (out_43 : Sl) (w : World) : Prop :=
  L5 K names_41 in_42 out_43 l_40 ((l_40.n : Nat) : Int) (0 : Int) w
theorem S9_ok (Kv : VW) : OkT pr false none 28 g9 (S9 (Kt Kv)) (s1 (tl 2 bd)) (P3 Kv) := ok_group mixed FOk_ 1 (B8 Kv) fun v ρ w => by kernel_rfl
theorem Q10 (Kv : VW) : OkT pr false none 28 g9 (S9 (Kt Kv)) (tl 2 bd) (P1 Kv) := ok_seq (by kernel_rfl) (S2_ok Kv) (S9_ok Kv)
end tocsinref04_Pick
def tocsinref04_Pick (l_2 : Sl) (names_3 : Sl) (in_4 : Bool) (w : World) (K : tocsinref04_Pick.KT) : Prop :=
  tocsinref04_Pick.S9 K l_2 names_3 in_4 nilS w
def tocsinref04_Pick.cl : CL := fun args K w => match args with
  | [.slice x0_a x0_n x0_c, .slice x1_a x1_n x1_c, .bool x2] => C.tocsinref04_Pick ⟨x0_a, x0_n, x0_c⟩ ⟨x1_a, x1_n, x1_c⟩ x2 w (tocsinref04_Pick.Kt K)
  | _ => False
theorem tocsinref04_Pick.clok : OkC pr 42 tocsinref04_Pick.cl := by
  intro args K w h
  unfold tocsinref04_Pick.cl at h
  split at h
  · exact calls_group false mixed tocsinref04_Pick.FOk_ tocsinref04_Pick.fn rfl 2 (tocsinref04_Pick.Q10 K) (Eq.mp (by kernel_rfl) h)
  · exact h.elim
namespace tocsinref04_twice
abbrev KT := Bool → World → Prop
def Kt (Kv : VW) : KT := fun b1 w => Kv (.bool b1) w
noncomputable def bd : Code := bdy Tryz.f105
theorem fn : FnOk pr 105 29 Tryz.f105 := ⟨Tryz.func105, by kernel_rfl, Tryz.ntmps105, by kernel_rfl, by kernel_rfl⟩
def F : Clee := ofL []
theorem FOk_ : FOk pr F := FOk_nil
def P1 (Kv : VW) : Post := bodyK false pr 29 Tryz.f105 Kv
@[reducible] def g2 : List SE := []
def S2 (K : KT) (w : World) : Prop :=
  K false w
theorem S2_ok (Kv : VW) : OkT pr false none 29 g2 (S2 (Kt Kv)) (s2 (tl 1 bd)) (P1 Kv) := ok_last mixed FOk_ fun v ρ w => by kernel_rfl
def P3 (Kv : VW) : Post := next (get g2 (S2 (Kt Kv))) (P1 Kv)
def P4 (Kv : VW) : Post := inBlock 0 (P3 Kv)
@[reducible] def g5 : List SE := [.v 0 .sl, .v 7 .sl, .v 8 (.int .i64), .v 9 (.int .i64)]
def P6 (Kv : VW) (kc5 : Cur g5) : Post := next (get g5 kc5) (P4 Kv)
def S7 (K : KT) (kc5 : Cur g5) (l_7 : Sl) (l8 : Sl) (n9 : Int) (n10 : Int) (w : World) : Prop :=
  kc5 l_7 l8 n9 (IntKind.i64.wrap (n10 + (1 : Int))) w
theorem S7_ok (Kv : VW) (kc5 : Cur g5) : OkT pr false none 29 g5 (S7 (Kt Kv) kc5) (s2 (tl 2 (lp (blk (tl 1 (s1 (tl 1 bd))))))) (P6 Kv kc5) := ok_last mixed FOk_ fun v ρ w => by kernel_rfl
def P8 (Kv : VW) (kc5 : Cur g5) : Post := next (get g5 (S7 (Kt Kv) kc5)) (P6 Kv kc5)
def P9 (Kv : VW) (kc5 : Cur g5) : Post := inBlock 1 (P8 Kv kc5)
def P10 (Kv : VW) (kc5 : Cur g5) : Post := inBlock 2 (P9 Kv kc5)
@[reducible] def g11 : List SE := [.v 0 .sl, .v 4 .ptr, .v 7 .sl, .v 8 (.int .i64), .v 9 (.int .i64), .v 16 .sl, .v 17 (.int .i64), .v 18 (.int .i64)]
def P12 (Kv : VW) (kc5 : Cur g5) (kc11 : Cur g11) : Post := next (get g11 kc11) (P10 Kv kc5)
def S13 (K : KT) (kc5 : Cur g5) (kc11 : Cur g11) (l_27 : Sl) (x_28 : Option Addr) (l29 : Sl) (n30 : Int) (n31 : Int) (l32 : Sl) (n33 : Int) (n34 : Int) (w : World) : Prop :=
  G.cond (decide (n34 < n33)) (G.ix l32.a l32.n n34 2 fun p35 => G.cS p35 w fun s36 => G.cS (p35.add 1) w fun s37 => G.new (.cells #[(.string (⟨#[]⟩ : ByteArray)), (.string (⟨#[]⟩ : ByteArray))] 99) w fun p38 w39 => G.st p38 (.string s36) w39 fun w40 => G.st (p38.add 1) (.string s37) w40 fun w41 => G.ptr x_28 fun p42 => G.cS p42 w41 fun s43 => G.cS p38 w41 fun s44 => G.cond (s43.toList == s44.toList) (K true w41) (kc11 l_27 x_28 l29 n30 n31 l32 n33 (IntKind.i64.wrap (n34 + (1 : Int))) w41)) (S7 K kc5 l_27 l29 n30 n31 w)
theorem S13_ok (Kv : VW) (kc5 : Cur g5) (kc11 : Cur g11) : OkT pr false none 29 g11 (S13 (Kt Kv) kc5 kc11) (lp (blk (tl 2 (blk (s1 (tl 2 (lp (blk (tl 1 (s1 (tl 1 bd))))))))))) (P12 Kv kc5 kc11) := ok_last mixed FOk_ fun v ρ w => by kernel_rfl
def L11 (K : KT) (kc5 : Cur g5) : Cur g11 := loopC g11 (S13 K kc5)
theorem L11_ok (Kv : VW) (kc5 : Cur g5) : OkT pr false none 29 g11 (L11 (Kt Kv) kc5) (blk (tl 2 (blk (s1 (tl 2 (lp (blk (tl 1 (s1 (tl 1 bd)))))))))) (P10 Kv kc5) := ok_loop (B := S13 (Kt Kv) kc5) (by kernel_rfl) fun kc => S13_ok Kv kc5 kc
theorem L11_ind {K : KT} {kc5 : Cur g5} {l_11 : Sl} {x_12 : Option Addr} {l13 : Sl} {n14 : Int} {n15 : Int} {l16 : Sl} {n17 : Int} {n18 : Int} {w : World} (h : ∀ X : Cur g11, (∀ l_11 x_12 l13 n14 n15 l16 n17 n18 w, S13 K kc5 X l_11 x_12 l13 n14 n15 l16 n17 n18 w → X l_11 x_12 l13 n14 n15 l16 n17 n18 w) → X l_11 x_12 l13 n14 n15 l16 n17 n18 w) : L11 K kc5 l_11 x_12 l13 n14 n15 l16 n17 n18 w := fun X hX => h X fun l_11 x_12 l13 n14 n15 l16 n17 n18 w hb => hX (l_11, x_12, l13, n14, n15, l16, n17, n18, ()) w hb
theorem B14 (Kv : VW) (kc5 : Cur g5) : OkT pr false none 29 g11 (L11 (Kt Kv) kc5) (tl 2 (blk (s1 (tl 2 (lp (blk (tl 1 (s1 (tl 1 bd))))))))) (P9 Kv kc5) := ok_block 2 (by kernel_rfl) (L11_ok Kv kc5)
def S15 (K : KT) (kc5 : Cur g5) (l_45 : Sl) (l46 : Sl) (n47 : Int) (n48 : Int) (w : World) : Prop :=
  G.ix l46.a l46.n n48 2 fun p49 => G.cS p49 w fun s50 => G.cS (p49.add 1) w fun s51 => G.new (.cells #[(.string (⟨#[]⟩ : ByteArray)), (.string (⟨#[]⟩ : ByteArray))] 99) w fun p52 w53 => G.st p52 (.string s50) w53 fun w54 => G.st (p52.add 1) (.string s51) w54 fun w55 => G.slc l_45 0 n48 2 fun l56 => L11 K kc5 l_45 (some p52) l46 n47 n48 l56 ((l56.n : Nat) : Int) (0 : Int) w55
theorem S15_ok (Kv : VW) (kc5 : Cur g5) : OkT pr false none 29 g5 (S15 (Kt Kv) kc5) (blk (s1 (tl 2 (lp (blk (tl 1 (s1 (tl 1 bd)))))))) (P9 Kv kc5) := ok_group mixed FOk_ 2 (B14 Kv kc5) fun v ρ w => by kernel_rfl
theorem B16 (Kv : VW) (kc5 : Cur g5) : OkT pr false none 29 g5 (S15 (Kt Kv) kc5) (s1 (tl 2 (lp (blk (tl 1 (s1 (tl 1 bd))))))) (P8 Kv kc5) := ok_block 1 (by kernel_rfl) (S15_ok Kv kc5)
theorem Q17 (Kv : VW) (kc5 : Cur g5) : OkT pr false none 29 g5 (S15 (Kt Kv) kc5) (tl 2 (lp (blk (tl 1 (s1 (tl 1 bd)))))) (P6 Kv kc5) := ok_seq (by kernel_rfl) (S7_ok Kv kc5) (B16 Kv kc5)
def S18 (K : KT) (kc5 : Cur g5) (l_57 : Sl) (l58 : Sl) (n59 : Int) (n60 : Int) (w : World) : Prop :=
  G.cond (decide (n60 < n59)) (S15 K kc5 l_57 l58 n59 n60 w) (S2 K w)
theorem S18_ok (Kv : VW) (kc5 : Cur g5) : OkT pr false none 29 g5 (S18 (Kt Kv) kc5) (lp (blk (tl 1 (s1 (tl 1 bd))))) (P6 Kv kc5) := ok_group mixed FOk_ 2 (Q17 Kv kc5) fun v ρ w => by kernel_rfl
def L5 (K : KT) : Cur g5 := loopC g5 (S18 K)
theorem L5_ok (Kv : VW) : OkT pr false none 29 g5 (L5 (Kt Kv)) (blk (tl 1 (s1 (tl 1 bd)))) (P4 Kv) := ok_loop (B := S18 (Kt Kv)) (by kernel_rfl) fun kc => S18_ok Kv kc
theorem L5_ind {K : KT} {l_3 : Sl} {l4 : Sl} {n5 : Int} {n6 : Int} {w : World} (h : ∀ X : Cur g5, (∀ l_3 l4 n5 n6 w, S18 K X l_3 l4 n5 n6 w → X l_3 l4 n5 n6 w) → X l_3 l4 n5 n6 w) : L5 K l_3 l4 n5 n6 w := fun X hX => h X fun l_3 l4 n5 n6 w hb => hX (l_3, l4, n5, n6, ()) w hb
theorem B19 (Kv : VW) : OkT pr false none 29 g5 (L5 (Kt Kv)) (tl 1 (s1 (tl 1 bd))) (P3 Kv) := ok_block 0 (by kernel_rfl) (L5_ok Kv)
@[reducible] def g20 : List SE := [.v 0 .sl]
def S20 (K : KT) (l_61 : Sl) (w : World) : Prop :=
  L5 K l_61 l_61 ((l_61.n : Nat) : Int) (0 : Int) w
theorem S20_ok (Kv : VW) : OkT pr false none 29 g20 (S20 (Kt Kv)) (s1 (tl 1 bd)) (P3 Kv) := ok_group mixed FOk_ 1 (B19 Kv) fun v ρ w => by kernel_rfl
theorem Q21 (Kv : VW) : OkT pr false none 29 g20 (S20 (Kt Kv)) (tl 1 bd) (P1 Kv) := ok_seq (by kernel_rfl) (S2_ok Kv) (S20_ok Kv)
end tocsinref04_twice
def tocsinref04_twice (l_2 : Sl) (w : World) (K : tocsinref04_twice.KT) : Prop :=
  tocsinref04_twice.S20 K l_2 w
def tocsinref04_twice.cl : CL := fun args K w => match args with
  | [.slice x0_a x0_n x0_c] => C.tocsinref04_twice ⟨x0_a, x0_n, x0_c⟩ w (tocsinref04_twice.Kt K)
  | _ => False
theorem tocsinref04_twice.clok : OkC pr 105 tocsinref04_twice.cl := by
  intro args K w h
  unfold tocsinref04_twice.cl at h
  split at h
  · exact calls_group false mixed tocsinref04_twice.FOk_ tocsinref04_twice.fn rfl 1 (tocsinref04_twice.Q21 K) (Eq.mp (by kernel_rfl) h)
  · exact h.elim
namespace tocsinref04_sorted
abbrev KT := Sl → World → Prop
def Kt (Kv : VW) : KT := fun l1 w => Kv l1.v w
noncomputable def bd : Code := bdy Tryz.f106
theorem fn : FnOk pr 106 48 Tryz.f106 := ⟨Tryz.func106, by kernel_rfl, Tryz.ntmps106, by kernel_rfl, by kernel_rfl⟩
def F : Clee := ofL []
theorem FOk_ : FOk pr F := FOk_nil
def P1 (Kv : VW) : Post := bodyK false pr 48 Tryz.f106 Kv
@[reducible] def g2 : List SE := [.v 3 .sl]
def S2 (K : KT) (out_3 : Sl) (w : World) : Prop :=
  K out_3 w
theorem S2_ok (Kv : VW) : OkT pr false none 48 g2 (S2 (Kt Kv)) (s2 (tl 2 bd)) (P1 Kv) := ok_last mixed FOk_ fun v ρ w => by kernel_rfl
def P3 (Kv : VW) : Post := next (get g2 (S2 (Kt Kv))) (P1 Kv)
def P4 (Kv : VW) : Post := inBlock 0 (P3 Kv)
@[reducible] def g5 : List SE := [.v 3 .sl, .v 7 .sl, .v 8 (.int .i64), .v 9 (.int .i64)]
def P6 (Kv : VW) (kc5 : Cur g5) : Post := next (get g5 kc5) (P4 Kv)
def S7 (K : KT) (kc5 : Cur g5) (out_8 : Sl) (l9 : Sl) (n10 : Int) (n11 : Int) (w : World) : Prop :=
  kc5 out_8 l9 n10 (IntKind.i64.wrap (n11 + (1 : Int))) w
theorem S7_ok (Kv : VW) (kc5 : Cur g5) : OkT pr false none 48 g5 (S7 (Kt Kv) kc5) (s2 (tl 2 (lp (blk (tl 1 (s1 (tl 2 bd))))))) (P6 Kv kc5) := ok_last mixed FOk_ fun v ρ w => by kernel_rfl
def P8 (Kv : VW) (kc5 : Cur g5) : Post := next (get g5 (S7 (Kt Kv) kc5)) (P6 Kv kc5)
def P9 (Kv : VW) (kc5 : Cur g5) : Post := inBlock 1 (P8 Kv kc5)
@[reducible] def g10 : List SE := [.v 3 .sl, .v 5 .ptr, .v 6 (.int .i64), .v 7 .sl, .v 8 (.int .i64), .v 9 (.int .i64)]
def S10 (K : KT) (kc5 : Cur g5) (out_12 : Sl) (x_13 : Option Addr) (k_14 : Int) (l15 : Sl) (n16 : Int) (n17 : Int) (w : World) : Prop :=
  G.ptr x_13 fun p18 => G.cS p18 w fun s19 => G.cS (p18.add 1) w fun s20 => G.ix out_12.a out_12.n k_14 2 fun p21 => G.st p21 (.string s19) w fun w22 => G.st (p21.add 1) (.string s20) w22 fun w23 => S7 K kc5 out_12 l15 n16 n17 w23
theorem S10_ok (Kv : VW) (kc5 : Cur g5) : OkT pr false none 48 g10 (S10 (Kt Kv) kc5) (s2 (tl 3 (blk (s1 (tl 2 (lp (blk (tl 1 (s1 (tl 2 bd)))))))))) (P9 Kv kc5) := ok_last mixed FOk_ fun v ρ w => by kernel_rfl
def P11 (Kv : VW) (kc5 : Cur g5) : Post := next (get g10 (S10 (Kt Kv) kc5)) (P9 Kv kc5)
def P12 (Kv : VW) (kc5 : Cur g5) : Post := inBlock 2 (P11 Kv kc5)
def P14 (Kv : VW) (kc5 : Cur g5) (kc13 : Cur g10) : Post := next (get g10 kc13) (P12 Kv kc5)
def S15 (K : KT) (kc5 : Cur g5) (kc13 : Cur g10) (out_36 : Sl) (x_37 : Option Addr) (k_38 : Int) (l39 : Sl) (n40 : Int) (n41 : Int) (w : World) : Prop :=
  G.cond (decide (k_38 > (0 : Int))) (G.ix out_36.a out_36.n (IntKind.i64.wrap (k_38 - (1 : Int))) 2 fun p42 => G.cS p42 w.drew fun s43 => G.ptr x_37 fun p44 => G.cS p44 w.drew fun s45 => G.cond (!((Op.bytesLess s43.toList s45.toList) || (s43.toList == s45.toList))) (G.ix out_36.a out_36.n (IntKind.i64.wrap (k_38 - (1 : Int))) 2 fun p46 => G.cS p46 w.drew fun s47 => G.cS (p46.add 1) w.drew fun s48 => G.ix out_36.a out_36.n k_38 2 fun p49 => G.st p49 (.string s47) w.drew fun w50 => G.st (p49.add 1) (.string s48) w50 fun w51 => kc13 out_36 x_37 (IntKind.i64.wrap (k_38 - (1 : Int))) l39 n40 n41 w51) (S10 K kc5 out_36 x_37 k_38 l39 n40 n41 w.drew)) (S10 K kc5 out_36 x_37 k_38 l39 n40 n41 w.drew)
theorem S15_ok (Kv : VW) (kc5 : Cur g5) (kc13 : Cur g10) : OkT pr false none 48 g10 (S15 (Kt Kv) kc5 kc13) (lp (blk (s1 (tl 3 (blk (s1 (tl 2 (lp (blk (tl 1 (s1 (tl 2 bd)))))))))))) (P14 Kv kc5 kc13) := ok_last mixed FOk_ fun v ρ w => by kernel_rfl
def L13 (K : KT) (kc5 : Cur g5) : Cur g10 := loopC g10 (S15 K kc5)
theorem L13_ok (Kv : VW) (kc5 : Cur g5) : OkT pr false none 48 g10 (L13 (Kt Kv) kc5) (blk (s1 (tl 3 (blk (s1 (tl 2 (lp (blk (tl 1 (s1 (tl 2 bd))))))))))) (P12 Kv kc5) := ok_loop (B := S15 (Kt Kv) kc5) (by kernel_rfl) fun kc => S15_ok Kv kc5 kc
theorem L13_ind {K : KT} {kc5 : Cur g5} {out_24 : Sl} {x_25 : Option Addr} {k_26 : Int} {l27 : Sl} {n28 : Int} {n29 : Int} {w : World} (h : ∀ X : Cur g10, (∀ out_24 x_25 k_26 l27 n28 n29 w, S15 K kc5 X out_24 x_25 k_26 l27 n28 n29 w → X out_24 x_25 k_26 l27 n28 n29 w) → X out_24 x_25 k_26 l27 n28 n29 w) : L13 K kc5 out_24 x_25 k_26 l27 n28 n29 w := fun X hX => h X fun out_24 x_25 k_26 l27 n28 n29 w hb => hX (out_24, x_25, k_26, l27, n28, n29, ()) w hb
theorem B16 (Kv : VW) (kc5 : Cur g5) : OkT pr false none 48 g10 (L13 (Kt Kv) kc5) (s1 (tl 3 (blk (s1 (tl 2 (lp (blk (tl 1 (s1 (tl 2 bd)))))))))) (P11 Kv kc5) := ok_block 2 (by kernel_rfl) (L13_ok Kv kc5)
theorem Q17 (Kv : VW) (kc5 : Cur g5) : OkT pr false none 48 g10 (L13 (Kt Kv) kc5) (tl 3 (blk (s1 (tl 2 (lp (blk (tl 1 (s1 (tl 2 bd))))))))) (P9 Kv kc5) := ok_seq (by kernel_rfl) (S10_ok Kv kc5) (B16 Kv kc5)
def S18 (K : KT) (kc5 : Cur g5) (out_52 : Sl) (l53 : Sl) (n54 : Int) (n55 : Int) (w : World) : Prop :=
  G.ix l53.a l53.n n55 2 fun p56 => G.cS p56 w fun s57 => G.cS (p56.add 1) w fun s58 => G.new (.cells #[(.string (⟨#[]⟩ : ByteArray)), (.string (⟨#[]⟩ : ByteArray))] 99) w fun p59 w60 => G.st p59 (.string s57) w60 fun w61 => G.st (p59.add 1) (.string s58) w61 fun w62 => G.cS p59 w62 fun s63 => G.cS (p59.add 1) w62 fun s64 => G.new (.cells #[(.string s63), (.string s64)] 99) w62 fun p65 w66 => G.runSl pr (Builtin.append_ #[22, 22] 22 #[out_52.v, (Sl.v (⟨some p65, 1, 1⟩ : Sl))]) w66 fun l67 w68 => L13 K kc5 l67 (some p59) ((out_52.n : Nat) : Int) l53 n54 n55 w68
theorem S18_ok (Kv : VW) (kc5 : Cur g5) : OkT pr false none 48 g5 (S18 (Kt Kv) kc5) (blk (s1 (tl 2 (lp (blk (tl 1 (s1 (tl 2 bd)))))))) (P9 Kv kc5) := ok_group mixed FOk_ 3 (Q17 Kv kc5) fun v ρ w => by kernel_rfl
theorem B19 (Kv : VW) (kc5 : Cur g5) : OkT pr false none 48 g5 (S18 (Kt Kv) kc5) (s1 (tl 2 (lp (blk (tl 1 (s1 (tl 2 bd))))))) (P8 Kv kc5) := ok_block 1 (by kernel_rfl) (S18_ok Kv kc5)
theorem Q20 (Kv : VW) (kc5 : Cur g5) : OkT pr false none 48 g5 (S18 (Kt Kv) kc5) (tl 2 (lp (blk (tl 1 (s1 (tl 2 bd)))))) (P6 Kv kc5) := ok_seq (by kernel_rfl) (S7_ok Kv kc5) (B19 Kv kc5)
def S21 (K : KT) (kc5 : Cur g5) (out_69 : Sl) (l70 : Sl) (n71 : Int) (n72 : Int) (w : World) : Prop :=
  G.cond (decide (n72 < n71)) (S18 K kc5 out_69 l70 n71 n72 w) (S2 K out_69 w)
theorem S21_ok (Kv : VW) (kc5 : Cur g5) : OkT pr false none 48 g5 (S21 (Kt Kv) kc5) (lp (blk (tl 1 (s1 (tl 2 bd))))) (P6 Kv kc5) := ok_group mixed FOk_ 2 (Q20 Kv kc5) fun v ρ w => by kernel_rfl
def L5 (K : KT) : Cur g5 := loopC g5 (S21 K)
theorem L5_ok (Kv : VW) : OkT pr false none 48 g5 (L5 (Kt Kv)) (blk (tl 1 (s1 (tl 2 bd)))) (P4 Kv) := ok_loop (B := S21 (Kt Kv)) (by kernel_rfl) fun kc => S21_ok Kv kc
theorem L5_ind {K : KT} {out_4 : Sl} {l5 : Sl} {n6 : Int} {n7 : Int} {w : World} (h : ∀ X : Cur g5, (∀ out_4 l5 n6 n7 w, S21 K X out_4 l5 n6 n7 w → X out_4 l5 n6 n7 w) → X out_4 l5 n6 n7 w) : L5 K out_4 l5 n6 n7 w := fun X hX => h X fun out_4 l5 n6 n7 w hb => hX (out_4, l5, n6, n7, ()) w hb
theorem B22 (Kv : VW) : OkT pr false none 48 g5 (L5 (Kt Kv)) (tl 1 (s1 (tl 2 bd))) (P3 Kv) := ok_block 0 (by kernel_rfl) (L5_ok Kv)
@[reducible] def g23 : List SE := [.v 0 .sl, .v 3 .sl]
def S23 (K : KT) (l_73 : Sl) (out_74 : Sl) (w : World) : Prop :=
  L5 K out_74 l_73 ((l_73.n : Nat) : Int) (0 : Int) w
theorem S23_ok (Kv : VW) : OkT pr false none 48 g23 (S23 (Kt Kv)) (s1 (tl 2 bd)) (P3 Kv) := ok_group mixed FOk_ 1 (B22 Kv) fun v ρ w => by kernel_rfl
theorem Q24 (Kv : VW) : OkT pr false none 48 g23 (S23 (Kt Kv)) (tl 2 bd) (P1 Kv) := ok_seq (by kernel_rfl) (S2_ok Kv) (S23_ok Kv)
end tocsinref04_sorted
def tocsinref04_sorted (l_2 : Sl) (w : World) (K : tocsinref04_sorted.KT) : Prop :=
  tocsinref04_sorted.S23 K l_2 nilS w
def tocsinref04_sorted.cl : CL := fun args K w => match args with
  | [.slice x0_a x0_n x0_c] => C.tocsinref04_sorted ⟨x0_a, x0_n, x0_c⟩ w (tocsinref04_sorted.Kt K)
  | _ => False
theorem tocsinref04_sorted.clok : OkC pr 106 tocsinref04_sorted.cl := by
  intro args K w h
  unfold tocsinref04_sorted.cl at h
  split at h
  · exact calls_group false mixed tocsinref04_sorted.FOk_ tocsinref04_sorted.fn rfl 2 (tocsinref04_sorted.Q24 K) (Eq.mp (by kernel_rfl) h)
  · exact h.elim
namespace tocsinref04_full
abbrev KT := Sl → World → Prop
def Kt (Kv : VW) : KT := fun l1 w => Kv l1.v w
noncomputable def bd : Code := bdy Tryz.f107
theorem fn : FnOk pr 107 21 Tryz.f107 := ⟨Tryz.func107, by kernel_rfl, Tryz.ntmps107, by kernel_rfl, by kernel_rfl⟩
def F : Clee := ofL []
theorem FOk_ : FOk pr F := FOk_nil
def P1 (Kv : VW) : Post := bodyK false pr 21 Tryz.f107 Kv
@[reducible] def g2 : List SE := [.v 3 .sl]
def S2 (K : KT) (out_3 : Sl) (w : World) : Prop :=
  K out_3 w
theorem S2_ok (Kv : VW) : OkT pr false none 21 g2 (S2 (Kt Kv)) (s2 (tl 2 bd)) (P1 Kv) := ok_last mixed FOk_ fun v ρ w => by kernel_rfl
def P3 (Kv : VW) : Post := next (get g2 (S2 (Kt Kv))) (P1 Kv)
def P4 (Kv : VW) : Post := inBlock 0 (P3 Kv)
@[reducible] def g5 : List SE := [.v 3 .sl, .v 6 .sl, .v 7 (.int .i64), .v 8 (.int .i64)]
def P6 (Kv : VW) (kc5 : Cur g5) : Post := next (get g5 kc5) (P4 Kv)
def S7 (K : KT) (kc5 : Cur g5) (out_12 : Sl) (l13 : Sl) (n14 : Int) (n15 : Int) (w : World) : Prop :=
  G.cond (decide (n15 < n14)) (G.ix l13.a l13.n n15 2 fun p16 => G.cS p16 w fun s17 => G.cS (p16.add 1) w fun s18 => G.new (.cells #[(.string (⟨#[]⟩ : ByteArray)), (.string (⟨#[]⟩ : ByteArray))] 99) w fun p19 w20 => G.st p19 (.string s17) w20 fun w21 => G.st (p19.add 1) (.string s18) w21 fun w22 => G.cS (p19.add 1) w22 fun s23 => G.cond (!(s23.toList == (⟨#[]⟩ : ByteArray).toList)) (G.cS p19 w22 fun s24 => G.cS (p19.add 1) w22 fun s25 => G.new (.cells #[(.string s24), (.string s25)] 99) w22 fun p26 w27 => G.runSl pr (Builtin.append_ #[22, 22] 22 #[out_12.v, (Sl.v (⟨some p26, 1, 1⟩ : Sl))]) w27 fun l28 w29 => kc5 l28 l13 n14 (IntKind.i64.wrap (n15 + (1 : Int))) w29) (kc5 out_12 l13 n14 (IntKind.i64.wrap (n15 + (1 : Int))) w22)) (S2 K out_12 w)
theorem S7_ok (Kv : VW) (kc5 : Cur g5) : OkT pr false none 21 g5 (S7 (Kt Kv) kc5) (lp (blk (tl 1 (s1 (tl 2 bd))))) (P6 Kv kc5) := ok_last mixed FOk_ fun v ρ w => by kernel_rfl
def L5 (K : KT) : Cur g5 := loopC g5 (S7 K)
theorem L5_ok (Kv : VW) : OkT pr false none 21 g5 (L5 (Kt Kv)) (blk (tl 1 (s1 (tl 2 bd)))) (P4 Kv) := ok_loop (B := S7 (Kt Kv)) (by kernel_rfl) fun kc => S7_ok Kv kc
theorem L5_ind {K : KT} {out_4 : Sl} {l5 : Sl} {n6 : Int} {n7 : Int} {w : World} (h : ∀ X : Cur g5, (∀ out_4 l5 n6 n7 w, S7 K X out_4 l5 n6 n7 w → X out_4 l5 n6 n7 w) → X out_4 l5 n6 n7 w) : L5 K out_4 l5 n6 n7 w := fun X hX => h X fun out_4 l5 n6 n7 w hb => hX (out_4, l5, n6, n7, ()) w hb
theorem B8 (Kv : VW) : OkT pr false none 21 g5 (L5 (Kt Kv)) (tl 1 (s1 (tl 2 bd))) (P3 Kv) := ok_block 0 (by kernel_rfl) (L5_ok Kv)
@[reducible] def g9 : List SE := [.v 0 .sl, .v 3 .sl]
def S9 (K : KT) (l_30 : Sl) (out_31 : Sl) (w : World) : Prop :=
  L5 K out_31 l_30 ((l_30.n : Nat) : Int) (0 : Int) w
theorem S9_ok (Kv : VW) : OkT pr false none 21 g9 (S9 (Kt Kv)) (s1 (tl 2 bd)) (P3 Kv) := ok_group mixed FOk_ 1 (B8 Kv) fun v ρ w => by kernel_rfl
theorem Q10 (Kv : VW) : OkT pr false none 21 g9 (S9 (Kt Kv)) (tl 2 bd) (P1 Kv) := ok_seq (by kernel_rfl) (S2_ok Kv) (S9_ok Kv)
end tocsinref04_full
def tocsinref04_full (l_2 : Sl) (w : World) (K : tocsinref04_full.KT) : Prop :=
  tocsinref04_full.S9 K l_2 nilS w
def tocsinref04_full.cl : CL := fun args K w => match args with
  | [.slice x0_a x0_n x0_c] => C.tocsinref04_full ⟨x0_a, x0_n, x0_c⟩ w (tocsinref04_full.Kt K)
  | _ => False
theorem tocsinref04_full.clok : OkC pr 107 tocsinref04_full.cl := by
  intro args K w h
  unfold tocsinref04_full.cl at h
  split at h
  · exact calls_group false mixed tocsinref04_full.FOk_ tocsinref04_full.fn rfl 2 (tocsinref04_full.Q10 K) (Eq.mp (by kernel_rfl) h)
  · exact h.elim
namespace tocsinref04_Make
abbrev KT := Sl → Int → World → Prop
def Kt (Kv : VW) : KT := fun l1 n2 w => Kv (.tuple #[l1.v, (.int .i64 n2)]) w
noncomputable def bd : Code := bdy Tryz.f75
theorem fn : FnOk pr 75 21 Tryz.f75 := ⟨Tryz.func75, by kernel_rfl, Tryz.ntmps75, by kernel_rfl, by kernel_rfl⟩
def F : Clee := ofL [(40, C.tocsinref04_Right.cl), (105, C.tocsinref04_twice.cl), (106, C.tocsinref04_sorted.cl), (107, C.tocsinref04_full.cl)]
theorem FOk_ : FOk pr F := FOk_cons C.tocsinref04_Right.clok (FOk_cons C.tocsinref04_twice.clok (FOk_cons C.tocsinref04_sorted.clok (FOk_cons C.tocsinref04_full.clok (FOk_nil))))
def P1 (Kv : VW) : Post := bodyK false pr 21 Tryz.f75 Kv
end tocsinref04_Make
def tocsinref04_Make (l_3 : Sl) (w : World) (K : tocsinref04_Make.KT) : Prop :=
  C.tocsinref04_twice l_3 w fun b5 w6 => G.cond b5 (K nilS (6 : Int) w6) (C.tocsinref04_full l_3 w6 fun l7 w8 => C.tocsinref04_sorted l7 w8 fun l9 w10 => C.tocsinref04_Right l9 w10 fun n11 n12 w13 => G.cond (n11 != (0 : Int)) (K nilS n11 w13) (K l9 (0 : Int) w13))
def tocsinref04_Make.cl : CL := fun args K w => match args with
  | [.slice x0_a x0_n x0_c] => C.tocsinref04_Make ⟨x0_a, x0_n, x0_c⟩ w (tocsinref04_Make.Kt K)
  | _ => False
theorem tocsinref04_Make.clok : OkC pr 75 tocsinref04_Make.cl := by
  intro args K w h
  unfold tocsinref04_Make.cl at h
  split at h
  · exact calls_last false mixed tocsinref04_Make.FOk_ tocsinref04_Make.fn rfl (Eq.mp (by kernel_rfl) h)
  · exact h.elim
namespace tocsinref19_with
abbrev KT := Sl → Int → World → Prop
def Kt (Kv : VW) : KT := fun l1 n2 w => Kv (.tuple #[l1.v, (.int .i64 n2)]) w
noncomputable def bd : Code := bdy Tryz.f41
theorem fn : FnOk pr 41 49 Tryz.f41 := ⟨Tryz.func41, by kernel_rfl, Tryz.ntmps41, by kernel_rfl, by kernel_rfl⟩
def F : Clee := ofL [(40, C.tocsinref04_Right.cl), (42, C.tocsinref04_Pick.cl), (75, C.tocsinref04_Make.cl)]
theorem FOk_ : FOk pr F := FOk_cons C.tocsinref04_Right.clok (FOk_cons C.tocsinref04_Pick.clok (FOk_cons C.tocsinref04_Make.clok (FOk_nil)))
def P1 (Kv : VW) : Post := bodyK false pr 49 Tryz.f41 Kv
@[reducible] def g2 : List SE := [.v 0 .sl, .v 1 .sl, .v 8 .sl]
def S2 (K : KT) (l_10 : Sl) (more_11 : Sl) (names_12 : Sl) (w : World) : Prop :=
  C.tocsinref04_Pick l_10 names_12 false w fun l13 w14 => G.runSl pr (Builtin.append_ #[22, 22] 22 #[l13.v, more_11.v]) w14 fun l15 w16 => G.cond (decide (((l15.n : Nat) : Int) > (16 : Int))) (K nilS (8 : Int) w16) (C.tocsinref04_Make l15 w16 fun l17 n18 w19 => K l17 (0 : Int) w19)
theorem S2_ok (Kv : VW) : OkT pr false none 49 g2 (S2 (Kt Kv)) (s2 (tl 4 bd)) (P1 Kv) := ok_last mixed FOk_ fun v ρ w => by kernel_rfl
def P3 (Kv : VW) : Post := next (get g2 (S2 (Kt Kv))) (P1 Kv)
def P4 (Kv : VW) : Post := inBlock 0 (P3 Kv)
@[reducible] def g5 : List SE := [.v 0 .sl, .v 1 .sl, .v 8 .sl, .v 9 (.int .i64)]
def P6 (Kv : VW) (kc5 : Cur g5) : Post := next (get g5 kc5) (P4 Kv)
def S7 (K : KT) (kc5 : Cur g5) (l_28 : Sl) (more_29 : Sl) (names_30 : Sl) (i_31 : Int) (w : World) : Prop :=
  G.cond (decide (i_31 < ((more_29.n : Nat) : Int))) (G.ix more_29.a more_29.n i_31 2 fun p32 => G.cS p32 w fun s33 => G.new (.cells #[(.string s33)] 9) w fun p34 w35 => G.runSl pr (Builtin.append_ #[88, 88] 88 #[names_30.v, (Sl.v (⟨some p34, 1, 1⟩ : Sl))]) w35 fun l36 w37 => kc5 l_28 more_29 l36 (IntKind.i64.wrap (i_31 + (1 : Int))) w37) (S2 K l_28 more_29 names_30 w)
theorem S7_ok (Kv : VW) (kc5 : Cur g5) : OkT pr false none 49 g5 (S7 (Kt Kv) kc5) (lp (blk (tl 1 (s1 (tl 4 bd))))) (P6 Kv kc5) := ok_last mixed FOk_ fun v ρ w => by kernel_rfl
def L5 (K : KT) : Cur g5 := loopC g5 (S7 K)
theorem L5_ok (Kv : VW) : OkT pr false none 49 g5 (L5 (Kt Kv)) (blk (tl 1 (s1 (tl 4 bd)))) (P4 Kv) := ok_loop (B := S7 (Kt Kv)) (by kernel_rfl) fun kc => S7_ok Kv kc
theorem L5_ind {K : KT} {l_20 : Sl} {more_21 : Sl} {names_22 : Sl} {i_23 : Int} {w : World} (h : ∀ X : Cur g5, (∀ l_20 more_21 names_22 i_23 w, S7 K X l_20 more_21 names_22 i_23 w → X l_20 more_21 names_22 i_23 w) → X l_20 more_21 names_22 i_23 w) : L5 K l_20 more_21 names_22 i_23 w := fun X hX => h X fun l_20 more_21 names_22 i_23 w hb => hX (l_20, more_21, names_22, i_23, ()) w hb
theorem B8 (Kv : VW) : OkT pr false none 49 g5 (L5 (Kt Kv)) (tl 1 (s1 (tl 4 bd))) (P3 Kv) := ok_block 0 (by kernel_rfl) (L5_ok Kv)
def S9 (K : KT) (l_38 : Sl) (more_39 : Sl) (names_40 : Sl) (w : World) : Prop :=
  L5 K l_38 more_39 names_40 (0 : Int) w
theorem S9_ok (Kv : VW) : OkT pr false none 49 g2 (S9 (Kt Kv)) (s1 (tl 4 bd)) (P3 Kv) := ok_group mixed FOk_ 1 (B8 Kv) fun v ρ w => by kernel_rfl
theorem Q10 (Kv : VW) : OkT pr false none 49 g2 (S9 (Kt Kv)) (tl 4 bd) (P1 Kv) := ok_seq (by kernel_rfl) (S2_ok Kv) (S9_ok Kv)
end tocsinref19_with
def tocsinref19_with (l_3 : Sl) (more_4 : Sl) (w : World) (K : tocsinref19_with.KT) : Prop :=
  C.tocsinref04_Right l_3 w fun n41 n42 w43 => G.cond (n41 != (0 : Int)) (K nilS (41 : Int) w43) (tocsinref19_with.S9 K l_3 more_4 nilS w43)
def tocsinref19_with.cl : CL := fun args K w => match args with
  | [.slice x0_a x0_n x0_c, .slice x1_a x1_n x1_c] => C.tocsinref19_with ⟨x0_a, x0_n, x0_c⟩ ⟨x1_a, x1_n, x1_c⟩ w (tocsinref19_with.Kt K)
  | _ => False
theorem tocsinref19_with.clok : OkC pr 41 tocsinref19_with.cl := by
  intro args K w h
  unfold tocsinref19_with.cl at h
  split at h
  · exact calls_group false mixed tocsinref19_with.FOk_ tocsinref19_with.fn rfl 4 (tocsinref19_with.Q10 K) (Eq.mp (by kernel_rfl) h)
  · exact h.elim
namespace tocsinref09_Own
abbrev KT := Sl → World → Prop
def Kt (Kv : VW) : KT := fun l1 w => Kv l1.v w
noncomputable def bd : Code := bdy Tryz.f19
theorem fn : FnOk pr 19 8 Tryz.f19 := ⟨Tryz.func19, by kernel_rfl, Tryz.ntmps19, by kernel_rfl, by kernel_rfl⟩
def F : Clee := ofL []
theorem FOk_ : FOk pr F := FOk_nil
def P1 (Kv : VW) : Post := bodyK false pr 8 Tryz.f19 Kv
end tocsinref09_Own
def tocsinref09_Own (l_2 : Sl) (w : World) (K : tocsinref09_Own.KT) : Prop :=
  G.runSl pr (Builtin.append_ #[22, 22] 22 #[nilS.v, l_2.v]) w fun l3 w4 => K l3 w4
def tocsinref09_Own.cl : CL := fun args K w => match args with
  | [.slice x0_a x0_n x0_c] => C.tocsinref09_Own ⟨x0_a, x0_n, x0_c⟩ w (tocsinref09_Own.Kt K)
  | _ => False
theorem tocsinref09_Own.clok : OkC pr 19 tocsinref09_Own.cl := by
  intro args K w h
  unfold tocsinref09_Own.cl at h
  split at h
  · exact calls_last false mixed tocsinref09_Own.FOk_ tocsinref09_Own.fn rfl (Eq.mp (by kernel_rfl) h)
  · exact h.elim
namespace tocsinref19_named
abbrev KT := Sl → World → Prop
def Kt (Kv : VW) : KT := fun l1 w => Kv l1.v w
noncomputable def bd : Code := bdy Tryz.f43
theorem fn : FnOk pr 43 17 Tryz.f43 := ⟨Tryz.func43, by kernel_rfl, Tryz.ntmps43, by kernel_rfl, by kernel_rfl⟩
def F : Clee := ofL [(19, C.tocsinref09_Own.cl)]
theorem FOk_ : FOk pr F := FOk_cons C.tocsinref09_Own.clok (FOk_nil)
def P1 (Kv : VW) : Post := bodyK false pr 17 Tryz.f43 Kv
end tocsinref19_named
def tocsinref19_named (r_2 : Bool) (r_3 : ByteArray) (r_4 : ByteArray) (r_5 : Int) (r_6 : Int) (r_7 : Sl) (name_8 : ByteArray) (w : World) (K : tocsinref19_named.KT) : Prop :=
  G.new (.cells #[(.bool r_2), (.string r_3), (.string r_4), (.int .i64 r_5), (.int .i64 r_6), r_7.v] 24) w fun p9 w10 => G.cSl (p9.add 5) w10 fun l11 => C.tocsinref09_Own l11 w10 fun l12 w13 => G.cS (p9.add 1) w13 fun s14 => G.new (.cells #[(.string name_8), (.string s14)] 99) w13 fun p15 w16 => G.runSl pr (Builtin.append_ #[22, 22] 22 #[l12.v, (Sl.v (⟨some p15, 1, 1⟩ : Sl))]) w16 fun l17 w18 => K l17 w18
def tocsinref19_named.cl : CL := fun args K w => match args with
  | [.agg ⟨[.bool x0_0, .string x0_1, .string x0_2, .int .i64 x0_3, .int .i64 x0_4, .slice x0_5_a x0_5_n x0_5_c]⟩, .string x1] => C.tocsinref19_named x0_0 x0_1 x0_2 x0_3 x0_4 ⟨x0_5_a, x0_5_n, x0_5_c⟩ x1 w (tocsinref19_named.Kt K)
  | _ => False
theorem tocsinref19_named.clok : OkC pr 43 tocsinref19_named.cl := by
  intro args K w h
  unfold tocsinref19_named.cl at h
  split at h
  · exact calls_last false mixed tocsinref19_named.FOk_ tocsinref19_named.fn rfl (Eq.mp (by kernel_rfl) h)
  · exact h.elim
namespace tocsinref19_Labels
abbrev KT := Sl → Int → World → Prop
def Kt (Kv : VW) : KT := fun l1 n2 w => Kv (.tuple #[l1.v, (.int .i64 n2)]) w
noncomputable def bd : Code := bdy Tryz.f13
theorem fn : FnOk pr 13 26 Tryz.f13 := ⟨Tryz.func13, by kernel_rfl, Tryz.ntmps13, by kernel_rfl, by kernel_rfl⟩
def F : Clee := ofL [(32, C.tocsinref19_Rule.cl), (40, C.tocsinref04_Right.cl), (41, C.tocsinref19_with.cl), (42, C.tocsinref04_Pick.cl), (43, C.tocsinref19_named.cl)]
theorem FOk_ : FOk pr F := FOk_cons C.tocsinref19_Rule.clok (FOk_cons C.tocsinref04_Right.clok (FOk_cons C.tocsinref19_with.clok (FOk_cons C.tocsinref04_Pick.clok (FOk_cons C.tocsinref19_named.clok (FOk_nil)))))
def P1 (Kv : VW) : Post := bodyK false pr 26 Tryz.f13 Kv
end tocsinref19_Labels
def tocsinref19_Labels (r_3 : Bool) (r_4 : ByteArray) (r_5 : ByteArray) (r_6 : Int) (r_7 : Int) (r_8 : Sl) (l_9 : Sl) (w : World) (K : tocsinref19_Labels.KT) : Prop :=
  G.new (.cells #[(.bool r_3), (.string r_4), (.string r_5), (.int .i64 r_6), (.int .i64 r_7), r_8.v] 24) w fun p24 w25 => G.cB p24 w25 fun b26 => G.cS (p24.add 1) w25 fun s27 => G.cS (p24.add 2) w25 fun s28 => G.cI .i64 (p24.add 3) w25 fun n29 => G.cI .i64 (p24.add 4) w25 fun n30 => G.cSl (p24.add 5) w25 fun l31 => C.tocsinref19_Rule b26 s27 s28 n29 n30 l31 w25 fun n32 w33 => G.cond (n32 != (0 : Int)) (K nilS (201 : Int) w33) (C.tocsinref04_Right l_9 w33 fun n34 n35 w36 => G.cond (n34 != (0 : Int)) (K nilS (41 : Int) w36) (G.cB p24 w36.drew fun b37 => G.cS (p24.add 1) w36.drew fun s38 => G.cS (p24.add 2) w36.drew fun s39 => G.cI .i64 (p24.add 3) w36.drew fun n40 => G.cI .i64 (p24.add 4) w36.drew fun n41 => G.cSl (p24.add 5) w36.drew fun l42 => G.new (.cells #[(.string (⟨#[95, 95, 110, 97, 109, 101, 95, 95]⟩ : ByteArray))] 9) w36.drew fun p43 w44 => sameAt p24 6 w36.drew w44 ∧ (C.tocsinref04_Pick l_9 (⟨some p43, 1, 1⟩ : Sl) false w44 fun l45 w46 => sameAt p24 6 w36.drew w46 ∧ (C.tocsinref19_named b37 s38 s39 n40 n41 l42 (⟨#[97, 108, 101, 114, 116, 110, 97, 109, 101]⟩ : ByteArray) w46 fun l47 w48 => C.tocsinref19_with l45 l47 w48 fun l49 n50 w51 => K l49 n50 w51))))
def tocsinref19_Labels.cl : CL := fun args K w => match args with
  | [.agg ⟨[.bool x0_0, .string x0_1, .string x0_2, .int .i64 x0_3, .int .i64 x0_4, .slice x0_5_a x0_5_n x0_5_c]⟩, .slice x1_a x1_n x1_c] => C.tocsinref19_Labels x0_0 x0_1 x0_2 x0_3 x0_4 ⟨x0_5_a, x0_5_n, x0_5_c⟩ ⟨x1_a, x1_n, x1_c⟩ w (tocsinref19_Labels.Kt K)
  | _ => False
theorem tocsinref19_Labels.clok : OkC pr 13 tocsinref19_Labels.cl := by
  intro args K w h
  unfold tocsinref19_Labels.cl at h
  split at h
  · exact calls_last false mixed tocsinref19_Labels.FOk_ tocsinref19_Labels.fn rfl (Eq.mp (by kernel_rfl) h)
  · exact h.elim
namespace tocsinref04_side
abbrev KT := Int → World → Prop
def Kt (Kv : VW) : KT := fun n1 w => Kv (.int .i64 n1) w
noncomputable def bd : Code := bdy Tryz.f77
theorem fn : FnOk pr 77 11 Tryz.f77 := ⟨Tryz.func77, by kernel_rfl, Tryz.ntmps77, by kernel_rfl, by kernel_rfl⟩
def F : Clee := ofL []
theorem FOk_ : FOk pr F := FOk_nil
def P1 (Kv : VW) : Post := bodyK false pr 11 Tryz.f77 Kv
end tocsinref04_side
def tocsinref04_side (a_2 : ByteArray) (b_3 : ByteArray) (w : World) (K : tocsinref04_side.KT) : Prop :=
  G.cond (Op.bytesLess a_2.toList b_3.toList) (K (-1 : Int) w) (G.cond (!((Op.bytesLess a_2.toList b_3.toList) || (a_2.toList == b_3.toList))) (K (1 : Int) w) (K (0 : Int) w))
def tocsinref04_side.cl : CL := fun args K w => match args with
  | [.string x0, .string x1] => C.tocsinref04_side x0 x1 w (tocsinref04_side.Kt K)
  | _ => False
theorem tocsinref04_side.clok : OkC pr 77 tocsinref04_side.cl := by
  intro args K w h
  unfold tocsinref04_side.cl at h
  split at h
  · exact calls_last false mixed tocsinref04_side.FOk_ tocsinref04_side.fn rfl (Eq.mp (by kernel_rfl) h)
  · exact h.elim
namespace tocsinref04_Compare
abbrev KT := Int → World → Prop
def Kt (Kv : VW) : KT := fun n1 w => Kv (.int .i64 n1) w
noncomputable def bd : Code := bdy Tryz.f44
theorem fn : FnOk pr 44 58 Tryz.f44 := ⟨Tryz.func44, by kernel_rfl, Tryz.ntmps44, by kernel_rfl, by kernel_rfl⟩
def F : Clee := ofL [(77, C.tocsinref04_side.cl)]
theorem FOk_ : FOk pr F := FOk_cons C.tocsinref04_side.clok (FOk_nil)
def P1 (Kv : VW) : Post := bodyK false pr 58 Tryz.f44 Kv
@[reducible] def g2 : List SE := [.v 0 .sl, .v 1 .sl]
def S2 (K : KT) (a_4 : Sl) (b_5 : Sl) (w : World) : Prop :=
  G.cond (decide (((a_4.n : Nat) : Int) < ((b_5.n : Nat) : Int))) (K (-1 : Int) w) (G.cond (decide (((a_4.n : Nat) : Int) > ((b_5.n : Nat) : Int))) (K (1 : Int) w) (K (0 : Int) w))
theorem S2_ok (Kv : VW) : OkT pr false none 58 g2 (S2 (Kt Kv)) (s2 (tl 1 bd)) (P1 Kv) := ok_last mixed FOk_ fun v ρ w => by kernel_rfl
def P3 (Kv : VW) : Post := next (get g2 (S2 (Kt Kv))) (P1 Kv)
def P4 (Kv : VW) : Post := inBlock 0 (P3 Kv)
@[reducible] def g5 : List SE := [.v 0 .sl, .v 1 .sl, .v 5 (.int .i64)]
def P6 (Kv : VW) (kc5 : Cur g5) : Post := next (get g5 kc5) (P4 Kv)
def S7 (K : KT) (kc5 : Cur g5) (a_12 : Sl) (b_13 : Sl) (i_14 : Int) (w : World) : Prop :=
  G.cond (decide (i_14 < ((a_12.n : Nat) : Int))) (G.cond (decide (i_14 < ((b_13.n : Nat) : Int))) (G.ix a_12.a a_12.n i_14 2 fun p15 => G.cS p15 w.drew fun s16 => G.ix b_13.a b_13.n i_14 2 fun p17 => G.cS p17 w.drew fun s18 => C.tocsinref04_side s16 s18 w.drew fun n19 w20 => G.cond (n19 != (0 : Int)) (K n19 w20) (G.ix a_12.a a_12.n i_14 2 fun p21 => G.cS (p21.add 1) w20.drew fun s22 => G.ix b_13.a b_13.n i_14 2 fun p23 => G.cS (p23.add 1) w20.drew fun s24 => C.tocsinref04_side s22 s24 w20.drew fun n25 w26 => G.cond (n25 != (0 : Int)) (K n25 w26) (kc5 a_12 b_13 (IntKind.i64.wrap (i_14 + (1 : Int))) w26))) (S2 K a_12 b_13 w)) (S2 K a_12 b_13 w)
theorem S7_ok (Kv : VW) (kc5 : Cur g5) : OkT pr false none 58 g5 (S7 (Kt Kv) kc5) (lp (blk (tl 1 (s1 (tl 1 bd))))) (P6 Kv kc5) := ok_last mixed FOk_ fun v ρ w => by kernel_rfl
def L5 (K : KT) : Cur g5 := loopC g5 (S7 K)
theorem L5_ok (Kv : VW) : OkT pr false none 58 g5 (L5 (Kt Kv)) (blk (tl 1 (s1 (tl 1 bd)))) (P4 Kv) := ok_loop (B := S7 (Kt Kv)) (by kernel_rfl) fun kc => S7_ok Kv kc
theorem L5_ind {K : KT} {a_6 : Sl} {b_7 : Sl} {i_8 : Int} {w : World} (h : ∀ X : Cur g5, (∀ a_6 b_7 i_8 w, S7 K X a_6 b_7 i_8 w → X a_6 b_7 i_8 w) → X a_6 b_7 i_8 w) : L5 K a_6 b_7 i_8 w := fun X hX => h X fun a_6 b_7 i_8 w hb => hX (a_6, b_7, i_8, ()) w hb
theorem B8 (Kv : VW) : OkT pr false none 58 g5 (L5 (Kt Kv)) (tl 1 (s1 (tl 1 bd))) (P3 Kv) := ok_block 0 (by kernel_rfl) (L5_ok Kv)
def S9 (K : KT) (a_27 : Sl) (b_28 : Sl) (w : World) : Prop :=
  L5 K a_27 b_28 (0 : Int) w
theorem S9_ok (Kv : VW) : OkT pr false none 58 g2 (S9 (Kt Kv)) (s1 (tl 1 bd)) (P3 Kv) := ok_group mixed FOk_ 1 (B8 Kv) fun v ρ w => by kernel_rfl
theorem Q10 (Kv : VW) : OkT pr false none 58 g2 (S9 (Kt Kv)) (tl 1 bd) (P1 Kv) := ok_seq (by kernel_rfl) (S2_ok Kv) (S9_ok Kv)
end tocsinref04_Compare
def tocsinref04_Compare (a_2 : Sl) (b_3 : Sl) (w : World) (K : tocsinref04_Compare.KT) : Prop :=
  tocsinref04_Compare.S9 K a_2 b_3 w
def tocsinref04_Compare.cl : CL := fun args K w => match args with
  | [.slice x0_a x0_n x0_c, .slice x1_a x1_n x1_c] => C.tocsinref04_Compare ⟨x0_a, x0_n, x0_c⟩ ⟨x1_a, x1_n, x1_c⟩ w (tocsinref04_Compare.Kt K)
  | _ => False
theorem tocsinref04_Compare.clok : OkC pr 44 tocsinref04_Compare.cl := by
  intro args K w h
  unfold tocsinref04_Compare.cl at h
  split at h
  · exact calls_group false mixed tocsinref04_Compare.FOk_ tocsinref04_Compare.fn rfl 1 (tocsinref04_Compare.Q10 K) (Eq.mp (by kernel_rfl) h)
  · exact h.elim
namespace tocsinref04_Same
abbrev KT := Bool → World → Prop
def Kt (Kv : VW) : KT := fun b1 w => Kv (.bool b1) w
noncomputable def bd : Code := bdy Tryz.f14
theorem fn : FnOk pr 14 9 Tryz.f14 := ⟨Tryz.func14, by kernel_rfl, Tryz.ntmps14, by kernel_rfl, by kernel_rfl⟩
def F : Clee := ofL [(44, C.tocsinref04_Compare.cl)]
theorem FOk_ : FOk pr F := FOk_cons C.tocsinref04_Compare.clok (FOk_nil)
def P1 (Kv : VW) : Post := bodyK false pr 9 Tryz.f14 Kv
end tocsinref04_Same
def tocsinref04_Same (a_2 : Sl) (b_3 : Sl) (w : World) (K : tocsinref04_Same.KT) : Prop :=
  C.tocsinref04_Compare a_2 b_3 w fun n4 w5 => K (n4 == (0 : Int)) w5
def tocsinref04_Same.cl : CL := fun args K w => match args with
  | [.slice x0_a x0_n x0_c, .slice x1_a x1_n x1_c] => C.tocsinref04_Same ⟨x0_a, x0_n, x0_c⟩ ⟨x1_a, x1_n, x1_c⟩ w (tocsinref04_Same.Kt K)
  | _ => False
theorem tocsinref04_Same.clok : OkC pr 14 tocsinref04_Same.cl := by
  intro args K w h
  unfold tocsinref04_Same.cl at h
  split at h
  · exact calls_last false mixed tocsinref04_Same.FOk_ tocsinref04_Same.fn rfl (Eq.mp (by kernel_rfl) h)
  · exact h.elim
namespace tocsinlaw19_told
abbrev KT := Bool → World → Prop
def Kt (Kv : VW) : KT := fun b1 w => Kv (.bool b1) w
noncomputable def bd : Code := bdy Tryz.f12
theorem fn : FnOk pr 12 33 Tryz.f12 := ⟨Tryz.func12, by kernel_rfl, Tryz.ntmps12, by kernel_rfl, by kernel_rfl⟩
def F : Clee := ofL [(13, C.tocsinref19_Labels.cl), (14, C.tocsinref04_Same.cl)]
theorem FOk_ : FOk pr F := FOk_cons C.tocsinref19_Labels.clok (FOk_cons C.tocsinref04_Same.clok (FOk_nil))
def P1 (Kv : VW) : Post := bodyK false pr 33 Tryz.f12 Kv
@[reducible] def g2 : List SE := []
def S2 (K : KT) (w : World) : Prop :=
  K false w
theorem S2_ok (Kv : VW) : OkT pr false none 33 g2 (S2 (Kt Kv)) (s2 (tl 1 bd)) (P1 Kv) := ok_last mixed FOk_ fun v ρ w => by kernel_rfl
def P3 (Kv : VW) : Post := next (get g2 (S2 (Kt Kv))) (P1 Kv)
def P4 (Kv : VW) : Post := inBlock 0 (P3 Kv)
@[reducible] def g5 : List SE := [.v 1 .sl, .v 2 .sl, .v 3 .ptr, .v 7 (.int .i64)]
def P6 (Kv : VW) (kc5 : Cur g5) : Post := next (get g5 kc5) (P4 Kv)
def S7 (K : KT) (kc5 : Cur g5) (v_18 : Sl) (x_19 : Sl) (r_20 : Option Addr) (i_21 : Int) (w : World) : Prop :=
  G.cond (decide (i_21 < ((v_18.n : Nat) : Int))) (G.ptr r_20 fun p22 => G.cB p22 w.drew fun b23 => G.cS (p22.add 1) w.drew fun s24 => G.cS (p22.add 2) w.drew fun s25 => G.cI .i64 (p22.add 3) w.drew fun n26 => G.cI .i64 (p22.add 4) w.drew fun n27 => G.cSl (p22.add 5) w.drew fun l28 => G.ix v_18.a v_18.n i_21 2 fun p29 => G.cSl p29 w.drew fun l30 => C.tocsinref19_Labels b23 s24 s25 n26 n27 l28 l30 w.drew fun l31 n32 w33 => G.cond (n32 == (0 : Int)) (C.tocsinref04_Same l31 x_19 w33 fun b34 w35 => G.cond b34 (K true w35) (kc5 v_18 x_19 r_20 (IntKind.i64.wrap (i_21 + (1 : Int))) w35)) (kc5 v_18 x_19 r_20 (IntKind.i64.wrap (i_21 + (1 : Int))) w33)) (S2 K w)
theorem S7_ok (Kv : VW) (kc5 : Cur g5) : OkT pr false none 33 g5 (S7 (Kt Kv) kc5) (lp (blk (tl 1 (s1 (tl 1 bd))))) (P6 Kv kc5) := ok_last mixed FOk_ fun v ρ w => by kernel_rfl
def L5 (K : KT) : Cur g5 := loopC g5 (S7 K)
theorem L5_ok (Kv : VW) : OkT pr false none 33 g5 (L5 (Kt Kv)) (blk (tl 1 (s1 (tl 1 bd)))) (P4 Kv) := ok_loop (B := S7 (Kt Kv)) (by kernel_rfl) fun kc => S7_ok Kv kc
theorem L5_ind {K : KT} {v_10 : Sl} {x_11 : Sl} {r_12 : Option Addr} {i_13 : Int} {w : World} (h : ∀ X : Cur g5, (∀ v_10 x_11 r_12 i_13 w, S7 K X v_10 x_11 r_12 i_13 w → X v_10 x_11 r_12 i_13 w) → X v_10 x_11 r_12 i_13 w) : L5 K v_10 x_11 r_12 i_13 w := fun X hX => h X fun v_10 x_11 r_12 i_13 w hb => hX (v_10, x_11, r_12, i_13, ()) w hb
theorem B8 (Kv : VW) : OkT pr false none 33 g5 (L5 (Kt Kv)) (tl 1 (s1 (tl 1 bd))) (P3 Kv) := ok_block 0 (by kernel_rfl) (L5_ok Kv)
@[reducible] def g9 : List SE := [.v 1 .sl, .v 2 .sl, .v 3 .ptr]
def S9 (K : KT) (v_36 : Sl) (x_37 : Sl) (r_38 : Option Addr) (w : World) : Prop :=
  L5 K v_36 x_37 r_38 (0 : Int) w
theorem S9_ok (Kv : VW) : OkT pr false none 33 g9 (S9 (Kt Kv)) (s1 (tl 1 bd)) (P3 Kv) := ok_group mixed FOk_ 1 (B8 Kv) fun v ρ w => by kernel_rfl
theorem Q10 (Kv : VW) : OkT pr false none 33 g9 (S9 (Kt Kv)) (tl 1 bd) (P1 Kv) := ok_seq (by kernel_rfl) (S2_ok Kv) (S9_ok Kv)
end tocsinlaw19_told
def tocsinlaw19_told (r_2 : Bool) (r_3 : ByteArray) (r_4 : ByteArray) (r_5 : Int) (r_6 : Int) (r_7 : Sl) (v_8 : Sl) (x_9 : Sl) (w : World) (K : tocsinlaw19_told.KT) : Prop :=
  G.new (.cells #[(.bool r_2), (.string r_3), (.string r_4), (.int .i64 r_5), (.int .i64 r_6), r_7.v] 24) w fun p39 w40 => tocsinlaw19_told.S9 K v_8 x_9 (some p39) w40
def tocsinlaw19_told.cl : CL := fun args K w => match args with
  | [.agg ⟨[.bool x0_0, .string x0_1, .string x0_2, .int .i64 x0_3, .int .i64 x0_4, .slice x0_5_a x0_5_n x0_5_c]⟩, .slice x1_a x1_n x1_c, .slice x2_a x2_n x2_c] => C.tocsinlaw19_told x0_0 x0_1 x0_2 x0_3 x0_4 ⟨x0_5_a, x0_5_n, x0_5_c⟩ ⟨x1_a, x1_n, x1_c⟩ ⟨x2_a, x2_n, x2_c⟩ w (tocsinlaw19_told.Kt K)
  | _ => False
theorem tocsinlaw19_told.clok : OkC pr 12 tocsinlaw19_told.cl := by
  intro args K w h
  unfold tocsinlaw19_told.cl at h
  split at h
  · exact calls_group false mixed tocsinlaw19_told.FOk_ tocsinlaw19_told.fn rfl 1 (tocsinlaw19_told.Q10 K) (Eq.mp (by kernel_rfl) h)
  · exact h.elim
abbrev math_Float64bits.KT := Int → World → Prop
def math_Float64bits.Kt (Kv : VW) : math_Float64bits.KT := fun r0 w => Kv (.int .u64 r0) w
def math_Float64bits (x0 : Nat) (w : World) (K : math_Float64bits.KT) : Prop := K (x0 : Int) w
def math_Float64bits.cl : CL := fun args K w => match args with
  | [.float .f64 x0] => C.math_Float64bits x0 w (math_Float64bits.Kt K)
  | _ => False
theorem math_Float64bits.clok : OkX pr 45 math_Float64bits.cl := by
  intro args K w h
  unfold math_Float64bits.cl at h
  split at h
  · exact ⟨_, w, by kernel_rfl, h⟩
  · exact h.elim
namespace tocsinref19_Same
abbrev KT := Bool → World → Prop
def Kt (Kv : VW) : KT := fun b1 w => Kv (.bool b1) w
noncomputable def bd : Code := bdy Tryz.f15
theorem fn : FnOk pr 15 70 Tryz.f15 := ⟨Tryz.func15, by kernel_rfl, Tryz.ntmps15, by kernel_rfl, by kernel_rfl⟩
def F : Clee := ofL [(14, C.tocsinref04_Same.cl), (45, C.math_Float64bits.cl)]
theorem FOk_ : FOk pr F := FOk_cons C.tocsinref04_Same.clok (FOk_consX C.math_Float64bits.clok (FOk_nil))
def P1 (Kv : VW) : Post := bodyK false pr 70 Tryz.f15 Kv
@[reducible] def g2 : List SE := []
def S2 (K : KT) (w : World) : Prop :=
  K true w
theorem S2_ok (Kv : VW) : OkT pr false none 70 g2 (S2 (Kt Kv)) (s2 (tl 2 bd)) (P1 Kv) := ok_last mixed FOk_ fun v ρ w => by kernel_rfl
def P3 (Kv : VW) : Post := next (get g2 (S2 (Kt Kv))) (P1 Kv)
def P4 (Kv : VW) : Post := inBlock 0 (P3 Kv)
@[reducible] def g5 : List SE := [.v 0 .sl, .v 1 .sl, .v 5 (.int .i64)]
def P6 (Kv : VW) (kc5 : Cur g5) : Post := next (get g5 kc5) (P4 Kv)
def S7 (K : KT) (kc5 : Cur g5) (a_10 : Sl) (b_11 : Sl) (i_12 : Int) (w : World) : Prop :=
  G.cond (decide (i_12 < ((a_10.n : Nat) : Int))) (G.ix a_10.a a_10.n i_12 6 fun p13 => G.cSl p13 w fun l14 => G.cI .i64 (p13.add 1) w fun n15 => G.cI .i64 (p13.add 2) w fun n16 => G.cI .i64 (p13.add 3) w fun n17 => G.cI .i64 (p13.add 4) w fun n18 => G.cF .f64 (p13.add 5) w fun f19 => G.new (.cells #[nilS.v, (.int .i64 (0 : Int)), (.int .i64 (0 : Int)), (.int .i64 (0 : Int)), (.int .i64 (0 : Int)), (.float .f64 0)] 41) w fun p20 w21 => G.st p20 l14.v w21 fun w22 => G.st (p20.add 1) (.int .i64 n15) w22 fun w23 => G.st (p20.add 2) (.int .i64 n16) w23 fun w24 => G.st (p20.add 3) (.int .i64 n17) w24 fun w25 => G.st (p20.add 4) (.int .i64 n18) w25 fun w26 => G.st (p20.add 5) (.float .f64 f19) w26 fun w27 => G.ix b_11.a b_11.n i_12 6 fun p28 => G.cSl p28 w27 fun l29 => G.cI .i64 (p28.add 1) w27 fun n30 => G.cI .i64 (p28.add 2) w27 fun n31 => G.cI .i64 (p28.add 3) w27 fun n32 => G.cI .i64 (p28.add 4) w27 fun n33 => G.cF .f64 (p28.add 5) w27 fun f34 => G.new (.cells #[nilS.v, (.int .i64 (0 : Int)), (.int .i64 (0 : Int)), (.int .i64 (0 : Int)), (.int .i64 (0 : Int)), (.float .f64 0)] 41) w27 fun p35 w36 => G.st p35 l29.v w36 fun w37 => G.st (p35.add 1) (.int .i64 n30) w37 fun w38 => G.st (p35.add 2) (.int .i64 n31) w38 fun w39 => G.st (p35.add 3) (.int .i64 n32) w39 fun w40 => G.st (p35.add 4) (.int .i64 n33) w40 fun w41 => G.st (p35.add 5) (.float .f64 f34) w41 fun w42 => G.cSl p20 w42.drew fun l43 => G.cSl p35 w42.drew fun l44 => C.tocsinref04_Same l43 l44 w42.drew fun b45 w46 => G.cond (!b45) (K false w46) (G.cI .i64 (p20.add 1) w46 fun n47 => G.cI .i64 (p35.add 1) w46 fun n48 => G.cond (n47 != n48) (K false w46) (G.cI .i64 (p20.add 2) w46 fun n49 => G.cI .i64 (p35.add 2) w46 fun n50 => G.cond (n49 != n50) (K false w46) (G.cI .i64 (p20.add 3) w46 fun n51 => G.cI .i64 (p35.add 3) w46 fun n52 => G.cond (n51 != n52) (K false w46) (G.cI .i64 (p20.add 4) w46 fun n53 => G.cI .i64 (p35.add 4) w46 fun n54 => G.cond (n53 != n54) (K false w46) (G.cF .f64 (p20.add 5) w46 fun f55 => G.cF .f64 (p35.add 5) w46 fun f56 => C.math_Float64bits f55 w46 fun n57 w58 => sameAt (p35.add 5) 1 w46 w58 ∧ (C.math_Float64bits f56 w58 fun n59 w60 => G.cond (n57 != n59) (K false w60) (kc5 a_10 b_11 (IntKind.i64.wrap (i_12 + (1 : Int))) w60)))))))) (S2 K w)
theorem S7_ok (Kv : VW) (kc5 : Cur g5) : OkT pr false none 70 g5 (S7 (Kt Kv) kc5) (lp (blk (tl 1 (s1 (tl 2 bd))))) (P6 Kv kc5) := ok_last mixed FOk_ fun v ρ w => by kernel_rfl
def L5 (K : KT) : Cur g5 := loopC g5 (S7 K)
theorem L5_ok (Kv : VW) : OkT pr false none 70 g5 (L5 (Kt Kv)) (blk (tl 1 (s1 (tl 2 bd)))) (P4 Kv) := ok_loop (B := S7 (Kt Kv)) (by kernel_rfl) fun kc => S7_ok Kv kc
theorem L5_ind {K : KT} {a_4 : Sl} {b_5 : Sl} {i_6 : Int} {w : World} (h : ∀ X : Cur g5, (∀ a_4 b_5 i_6 w, S7 K X a_4 b_5 i_6 w → X a_4 b_5 i_6 w) → X a_4 b_5 i_6 w) : L5 K a_4 b_5 i_6 w := fun X hX => h X fun a_4 b_5 i_6 w hb => hX (a_4, b_5, i_6, ()) w hb
theorem B8 (Kv : VW) : OkT pr false none 70 g5 (L5 (Kt Kv)) (tl 1 (s1 (tl 2 bd))) (P3 Kv) := ok_block 0 (by kernel_rfl) (L5_ok Kv)
@[reducible] def g9 : List SE := [.v 0 .sl, .v 1 .sl]
def S9 (K : KT) (a_61 : Sl) (b_62 : Sl) (w : World) : Prop :=
  L5 K a_61 b_62 (0 : Int) w
theorem S9_ok (Kv : VW) : OkT pr false none 70 g9 (S9 (Kt Kv)) (s1 (tl 2 bd)) (P3 Kv) := ok_group mixed FOk_ 1 (B8 Kv) fun v ρ w => by kernel_rfl
theorem Q10 (Kv : VW) : OkT pr false none 70 g9 (S9 (Kt Kv)) (tl 2 bd) (P1 Kv) := ok_seq (by kernel_rfl) (S2_ok Kv) (S9_ok Kv)
end tocsinref19_Same
def tocsinref19_Same (a_2 : Sl) (b_3 : Sl) (w : World) (K : tocsinref19_Same.KT) : Prop :=
  G.cond (((a_2.n : Nat) : Int) != ((b_3.n : Nat) : Int)) (K false w) (tocsinref19_Same.S9 K a_2 b_3 w)
def tocsinref19_Same.cl : CL := fun args K w => match args with
  | [.slice x0_a x0_n x0_c, .slice x1_a x1_n x1_c] => C.tocsinref19_Same ⟨x0_a, x0_n, x0_c⟩ ⟨x1_a, x1_n, x1_c⟩ w (tocsinref19_Same.Kt K)
  | _ => False
theorem tocsinref19_Same.clok : OkC pr 15 tocsinref19_Same.cl := by
  intro args K w h
  unfold tocsinref19_Same.cl at h
  split at h
  · exact calls_group false mixed tocsinref19_Same.FOk_ tocsinref19_Same.fn rfl 2 (tocsinref19_Same.Q10 K) (Eq.mp (by kernel_rfl) h)
  · exact h.elim
namespace tocsinlaw19_RulesKept
abbrev KT := Bool → World → Prop
def Kt (Kv : VW) : KT := fun b1 w => Kv (.bool b1) w
noncomputable def bd : Code := bdy Tryz.f4
theorem fn : FnOk pr 4 155 Tryz.f4 := ⟨Tryz.func4, by kernel_rfl, Tryz.ntmps4, by kernel_rfl, by kernel_rfl⟩
def F : Clee := ofL [(9, C.rules_New.cl), (10, C.tocsinlaw19_known.cl), (11, C.rules_Keeper_Step.cl), (12, C.tocsinlaw19_told.cl), (14, C.tocsinref04_Same.cl), (15, C.tocsinref19_Same.cl), (16, C.rules_Keeper_Active.cl)]
theorem FOk_ : FOk pr F := FOk_cons C.rules_New.clok (FOk_cons C.tocsinlaw19_known.clok (FOk_cons C.rules_Keeper_Step.clok (FOk_cons C.tocsinlaw19_told.clok (FOk_cons C.tocsinref04_Same.clok (FOk_cons C.tocsinref19_Same.clok (FOk_cons C.rules_Keeper_Active.clok (FOk_nil)))))))
def P1 (Kv : VW) : Post := bodyK false pr 155 Tryz.f4 Kv
@[reducible] def g2 : List SE := []
def S2 (K : KT) (w : World) : Prop :=
  C.tocsinlaw19_known w fun b23 w24 => K b23 w24
theorem S2_ok (Kv : VW) : OkT pr false none 155 g2 (S2 (Kt Kv)) (s2 (tl 5 bd)) (P1 Kv) := ok_last mixed FOk_ fun v ρ w => by kernel_rfl
def P3 (Kv : VW) : Post := next (get g2 (S2 (Kt Kv))) (P1 Kv)
def P4 (Kv : VW) : Post := inBlock 0 (P3 Kv)
@[reducible] def g5 : List SE := [.v 1 .sl, .v 2 .ptr, .v 5 .ptr, .v 7 .sl, .v 8 (.int .i64)]
def P6 (Kv : VW) (kc5 : Cur g5) : Post := next (get g5 kc5) (P4 Kv)
def S7 (K : KT) (kc5 : Cur g5) (script_30 : Sl) (r_31 : Option Addr) (k_32 : Option Addr) (was_33 : Sl) (i_34 : Int) (w : World) : Prop :=
  kc5 script_30 r_31 k_32 was_33 (IntKind.i64.wrap (i_34 + (1 : Int))) w
theorem S7_ok (Kv : VW) (kc5 : Cur g5) : OkT pr false none 155 g5 (S7 (Kt Kv) kc5) (s2 (tl 1 (lp (blk (tl 1 (s1 (tl 5 bd))))))) (P6 Kv kc5) := ok_last mixed FOk_ fun v ρ w => by kernel_rfl
def P8 (Kv : VW) (kc5 : Cur g5) : Post := next (get g5 (S7 (Kt Kv) kc5)) (P6 Kv kc5)
def P9 (Kv : VW) (kc5 : Cur g5) : Post := inBlock 1 (P8 Kv kc5)
@[reducible] def g10 : List SE := [.v 1 .sl, .v 2 .ptr, .v 5 .ptr, .v 8 (.int .i64)]
def S10 (K : KT) (kc5 : Cur g5) (script_35 : Sl) (r_36 : Option Addr) (k_37 : Option Addr) (i_38 : Int) (w : World) : Prop :=
  C.rules_Keeper_Active k_37 w fun l39 w40 => S7 K kc5 script_35 r_36 k_37 l39 i_38 w40
theorem S10_ok (Kv : VW) (kc5 : Cur g5) : OkT pr false none 155 g10 (S10 (Kt Kv) kc5) (s2 (tl 2 (blk (s1 (tl 1 (lp (blk (tl 1 (s1 (tl 5 bd)))))))))) (P9 Kv kc5) := ok_last mixed FOk_ fun v ρ w => by kernel_rfl
def P11 (Kv : VW) (kc5 : Cur g5) : Post := next (get g10 (S10 (Kt Kv) kc5)) (P9 Kv kc5)
def P12 (Kv : VW) (kc5 : Cur g5) : Post := inBlock 2 (P11 Kv kc5)
@[reducible] def g13 : List SE := [.v 1 .sl, .v 2 .ptr, .v 5 .ptr, .v 7 .sl, .v 8 (.int .i64), .v 9 .sl, .v 10 .sl, .v 12 (.int .i64)]
def P14 (Kv : VW) (kc5 : Cur g5) (kc13 : Cur g13) : Post := next (get g13 kc13) (P12 Kv kc5)
def S15 (K : KT) (kc5 : Cur g5) (kc13 : Cur g13) (script_49 : Sl) (r_50 : Option Addr) (k_51 : Option Addr) (was_52 : Sl) (i_53 : Int) (a_54 : Sl) (gone_55 : Sl) (j_56 : Int) (w : World) : Prop :=
  kc13 script_49 r_50 k_51 was_52 i_53 a_54 gone_55 (IntKind.i64.wrap (j_56 + (1 : Int))) w
theorem S15_ok (Kv : VW) (kc5 : Cur g5) (kc13 : Cur g13) : OkT pr false none 155 g13 (S15 (Kt Kv) kc5 kc13) (s2 (tl 1 (lp (blk (tl 1 (s1 (tl 2 (blk (s1 (tl 1 (lp (blk (tl 1 (s1 (tl 5 bd))))))))))))))) (P14 Kv kc5 kc13) := ok_last mixed FOk_ fun v ρ w => by kernel_rfl
def P16 (Kv : VW) (kc5 : Cur g5) (kc13 : Cur g13) : Post := next (get g13 (S15 (Kt Kv) kc5 kc13)) (P14 Kv kc5 kc13)
def P17 (Kv : VW) (kc5 : Cur g5) (kc13 : Cur g13) : Post := inBlock 3 (P16 Kv kc5 kc13)
@[reducible] def g18 : List SE := [.v 1 .sl, .v 2 .ptr, .v 5 .ptr, .v 7 .sl, .v 8 (.int .i64), .v 9 .sl, .v 10 .sl, .v 12 (.int .i64), .v 15 (.int .i64)]
def S18 (K : KT) (kc5 : Cur g5) (kc13 : Cur g13) (script_67 : Sl) (r_68 : Option Addr) (k_69 : Option Addr) (was_70 : Sl) (i_71 : Int) (a_72 : Sl) (gone_73 : Sl) (j_74 : Int) (left_75 : Int) (w : World) : Prop :=
  G.cond (left_75 == (1 : Int)) (G.ptr r_68 fun p76 => G.cB p76 w.drew fun b77 => G.cS (p76.add 1) w.drew fun s78 => G.cS (p76.add 2) w.drew fun s79 => G.cI .i64 (p76.add 3) w.drew fun n80 => G.cI .i64 (p76.add 4) w.drew fun n81 => G.cSl (p76.add 5) w.drew fun l82 => G.ix script_67.a script_67.n i_71 2 fun p83 => G.cSl (p83.add 1) w.drew fun l84 => G.ix was_70.a was_70.n j_74 6 fun p85 => G.cSl p85 w.drew fun l86 => C.tocsinlaw19_told b77 s78 s79 n80 n81 l82 l84 l86 w.drew fun b87 w88 => G.cond b87 (K false w88) (S15 K kc5 kc13 script_67 r_68 k_69 was_70 i_71 a_72 gone_73 j_74 w88)) (S15 K kc5 kc13 script_67 r_68 k_69 was_70 i_71 a_72 gone_73 j_74 w.drew)
theorem S18_ok (Kv : VW) (kc5 : Cur g5) (kc13 : Cur g13) : OkT pr false none 155 g18 (S18 (Kt Kv) kc5 kc13) (tl 1 (s2 (tl 1 (s2 (tl 1 (blk (s1 (tl 1 (lp (blk (tl 1 (s1 (tl 2 (blk (s1 (tl 1 (lp (blk (tl 1 (s1 (tl 5 bd))))))))))))))))))))) (P17 Kv kc5 kc13) := ok_last mixed FOk_ fun v ρ w => by kernel_rfl
@[reducible] def g19 : List SE := [.v 1 .sl, .v 2 .ptr, .v 5 .ptr, .v 7 .sl, .v 8 (.int .i64), .v 9 .sl, .v 10 .sl, .v 12 (.int .i64), .v 13 .bool, .v 15 (.int .i64)]
def S19 (K : KT) (kc5 : Cur g5) (kc13 : Cur g13) (script_89 : Sl) (r_90 : Option Addr) (k_91 : Option Addr) (was_92 : Sl) (i_93 : Int) (a_94 : Sl) (gone_95 : Sl) (j_96 : Int) (here_97 : Bool) (left_98 : Int) (w : World) : Prop :=
  G.ix was_92.a was_92.n j_96 6 fun p99 => G.cI .i64 (p99.add 1) w fun n100 => G.cond (n100 == (2 : Int)) (G.cond (here_97 == (left_98 == (1 : Int))) (K false w) (G.cond (decide (left_98 > (1 : Int))) (K false w) (G.ix was_92.a was_92.n j_96 6 fun p101 => G.cI .i64 (p101.add 1) w fun n102 => G.cond (n102 == (1 : Int)) (G.cond (decide (left_98 > (0 : Int))) (K false w) (S18 K kc5 kc13 script_89 r_90 k_91 was_92 i_93 a_94 gone_95 j_96 left_98 w)) (S18 K kc5 kc13 script_89 r_90 k_91 was_92 i_93 a_94 gone_95 j_96 left_98 w)))) (G.cond (decide (left_98 > (1 : Int))) (K false w) (G.ix was_92.a was_92.n j_96 6 fun p103 => G.cI .i64 (p103.add 1) w fun n104 => G.cond (n104 == (1 : Int)) (G.cond (decide (left_98 > (0 : Int))) (K false w) (S18 K kc5 kc13 script_89 r_90 k_91 was_92 i_93 a_94 gone_95 j_96 left_98 w)) (S18 K kc5 kc13 script_89 r_90 k_91 was_92 i_93 a_94 gone_95 j_96 left_98 w)))
theorem S19_ok (Kv : VW) (kc5 : Cur g5) (kc13 : Cur g13) : OkT pr false none 155 g19 (S19 (Kt Kv) kc5 kc13) (s2 (tl 1 (s2 (tl 1 (blk (s1 (tl 1 (lp (blk (tl 1 (s1 (tl 2 (blk (s1 (tl 1 (lp (blk (tl 1 (s1 (tl 5 bd)))))))))))))))))))) (P17 Kv kc5 kc13) := ok_group mixed FOk_ 1 (S18_ok Kv kc5 kc13) fun v ρ w => by kernel_rfl
def P20 (Kv : VW) (kc5 : Cur g5) (kc13 : Cur g13) : Post := next (get g19 (S19 (Kt Kv) kc5 kc13)) (P17 Kv kc5 kc13)
def P21 (Kv : VW) (kc5 : Cur g5) (kc13 : Cur g13) : Post := inBlock 6 (P20 Kv kc5 kc13)
@[reducible] def g22 : List SE := [.v 1 .sl, .v 2 .ptr, .v 5 .ptr, .v 7 .sl, .v 8 (.int .i64), .v 9 .sl, .v 10 .sl, .v 12 (.int .i64), .v 13 .bool, .v 15 (.int .i64), .v 16 (.int .i64)]
def P23 (Kv : VW) (kc5 : Cur g5) (kc13 : Cur g13) (kc22 : Cur g22) : Post := next (get g22 kc22) (P21 Kv kc5 kc13)
def S24 (K : KT) (kc5 : Cur g5) (kc13 : Cur g13) (kc22 : Cur g22) (script_127 : Sl) (r_128 : Option Addr) (k_129 : Option Addr) (was_130 : Sl) (i_131 : Int) (a_132 : Sl) (gone_133 : Sl) (j_134 : Int) (here_135 : Bool) (left_136 : Int) (n_137 : Int) (w : World) : Prop :=
  G.cond (decide (n_137 < ((gone_133.n : Nat) : Int))) (G.ix gone_133.a gone_133.n n_137 1 fun p138 => G.cSl p138 w.drew fun l139 => G.ix was_130.a was_130.n j_134 6 fun p140 => G.cSl p140 w.drew fun l141 => C.tocsinref04_Same l139 l141 w.drew fun b142 w143 => G.cond b142 (kc22 script_127 r_128 k_129 was_130 i_131 a_132 gone_133 j_134 here_135 (IntKind.i64.wrap (left_136 + (1 : Int))) (IntKind.i64.wrap (n_137 + (1 : Int))) w143) (kc22 script_127 r_128 k_129 was_130 i_131 a_132 gone_133 j_134 here_135 left_136 (IntKind.i64.wrap (n_137 + (1 : Int))) w143)) (S19 K kc5 kc13 script_127 r_128 k_129 was_130 i_131 a_132 gone_133 j_134 here_135 left_136 w)
theorem S24_ok (Kv : VW) (kc5 : Cur g5) (kc13 : Cur g13) (kc22 : Cur g22) : OkT pr false none 155 g22 (S24 (Kt Kv) kc5 kc13 kc22) (lp (blk (tl 1 (s1 (tl 1 (s2 (tl 1 (blk (s1 (tl 1 (lp (blk (tl 1 (s1 (tl 2 (blk (s1 (tl 1 (lp (blk (tl 1 (s1 (tl 5 bd))))))))))))))))))))))) (P23 Kv kc5 kc13 kc22) := ok_last mixed FOk_ fun v ρ w => by kernel_rfl
def L22 (K : KT) (kc5 : Cur g5) (kc13 : Cur g13) : Cur g22 := loopC g22 (S24 K kc5 kc13)
theorem L22_ok (Kv : VW) (kc5 : Cur g5) (kc13 : Cur g13) : OkT pr false none 155 g22 (L22 (Kt Kv) kc5 kc13) (blk (tl 1 (s1 (tl 1 (s2 (tl 1 (blk (s1 (tl 1 (lp (blk (tl 1 (s1 (tl 2 (blk (s1 (tl 1 (lp (blk (tl 1 (s1 (tl 5 bd)))))))))))))))))))))) (P21 Kv kc5 kc13) := ok_loop (B := S24 (Kt Kv) kc5 kc13) (by kernel_rfl) fun kc => S24_ok Kv kc5 kc13 kc
theorem L22_ind {K : KT} {kc5 : Cur g5} {kc13 : Cur g13} {script_105 : Sl} {r_106 : Option Addr} {k_107 : Option Addr} {was_108 : Sl} {i_109 : Int} {a_110 : Sl} {gone_111 : Sl} {j_112 : Int} {here_113 : Bool} {left_114 : Int} {n_115 : Int} {w : World} (h : ∀ X : Cur g22, (∀ script_105 r_106 k_107 was_108 i_109 a_110 gone_111 j_112 here_113 left_114 n_115 w, S24 K kc5 kc13 X script_105 r_106 k_107 was_108 i_109 a_110 gone_111 j_112 here_113 left_114 n_115 w → X script_105 r_106 k_107 was_108 i_109 a_110 gone_111 j_112 here_113 left_114 n_115 w) → X script_105 r_106 k_107 was_108 i_109 a_110 gone_111 j_112 here_113 left_114 n_115 w) : L22 K kc5 kc13 script_105 r_106 k_107 was_108 i_109 a_110 gone_111 j_112 here_113 left_114 n_115 w := fun X hX => h X fun script_105 r_106 k_107 was_108 i_109 a_110 gone_111 j_112 here_113 left_114 n_115 w hb => hX (script_105, r_106, k_107, was_108, i_109, a_110, gone_111, j_112, here_113, left_114, n_115, ()) w hb
theorem B25 (Kv : VW) (kc5 : Cur g5) (kc13 : Cur g13) : OkT pr false none 155 g22 (L22 (Kt Kv) kc5 kc13) (tl 1 (s1 (tl 1 (s2 (tl 1 (blk (s1 (tl 1 (lp (blk (tl 1 (s1 (tl 2 (blk (s1 (tl 1 (lp (blk (tl 1 (s1 (tl 5 bd))))))))))))))))))))) (P20 Kv kc5 kc13) := ok_block 6 (by kernel_rfl) (L22_ok Kv kc5 kc13)
def S26 (K : KT) (kc5 : Cur g5) (kc13 : Cur g13) (script_144 : Sl) (r_145 : Option Addr) (k_146 : Option Addr) (was_147 : Sl) (i_148 : Int) (a_149 : Sl) (gone_150 : Sl) (j_151 : Int) (here_152 : Bool) (left_153 : Int) (w : World) : Prop :=
  L22 K kc5 kc13 script_144 r_145 k_146 was_147 i_148 a_149 gone_150 j_151 here_152 left_153 (0 : Int) w
theorem S26_ok (Kv : VW) (kc5 : Cur g5) (kc13 : Cur g13) : OkT pr false none 155 g19 (S26 (Kt Kv) kc5 kc13) (s1 (tl 1 (s2 (tl 1 (blk (s1 (tl 1 (lp (blk (tl 1 (s1 (tl 2 (blk (s1 (tl 1 (lp (blk (tl 1 (s1 (tl 5 bd)))))))))))))))))))) (P20 Kv kc5 kc13) := ok_group mixed FOk_ 1 (B25 Kv kc5 kc13) fun v ρ w => by kernel_rfl
theorem Q27 (Kv : VW) (kc5 : Cur g5) (kc13 : Cur g13) : OkT pr false none 155 g19 (S26 (Kt Kv) kc5 kc13) (tl 1 (s2 (tl 1 (blk (s1 (tl 1 (lp (blk (tl 1 (s1 (tl 2 (blk (s1 (tl 1 (lp (blk (tl 1 (s1 (tl 5 bd))))))))))))))))))) (P17 Kv kc5 kc13) := ok_seq (by kernel_rfl) (S19_ok Kv kc5 kc13) (S26_ok Kv kc5 kc13)
@[reducible] def g28 : List SE := [.v 1 .sl, .v 2 .ptr, .v 5 .ptr, .v 7 .sl, .v 8 (.int .i64), .v 9 .sl, .v 10 .sl, .v 12 (.int .i64), .v 13 .bool]
def S28 (K : KT) (kc5 : Cur g5) (kc13 : Cur g13) (script_154 : Sl) (r_155 : Option Addr) (k_156 : Option Addr) (was_157 : Sl) (i_158 : Int) (a_159 : Sl) (gone_160 : Sl) (j_161 : Int) (here_162 : Bool) (w : World) : Prop :=
  S26 K kc5 kc13 script_154 r_155 k_156 was_157 i_158 a_159 gone_160 j_161 here_162 (0 : Int) w
theorem S28_ok (Kv : VW) (kc5 : Cur g5) (kc13 : Cur g13) : OkT pr false none 155 g28 (S28 (Kt Kv) kc5 kc13) (s2 (tl 1 (blk (s1 (tl 1 (lp (blk (tl 1 (s1 (tl 2 (blk (s1 (tl 1 (lp (blk (tl 1 (s1 (tl 5 bd)))))))))))))))))) (P17 Kv kc5 kc13) := ok_group mixed FOk_ 1 (Q27 Kv kc5 kc13) fun v ρ w => by kernel_rfl
def P29 (Kv : VW) (kc5 : Cur g5) (kc13 : Cur g13) : Post := next (get g28 (S28 (Kt Kv) kc5 kc13)) (P17 Kv kc5 kc13)
def P30 (Kv : VW) (kc5 : Cur g5) (kc13 : Cur g13) : Post := inBlock 4 (P29 Kv kc5 kc13)
@[reducible] def g31 : List SE := [.v 1 .sl, .v 2 .ptr, .v 5 .ptr, .v 7 .sl, .v 8 (.int .i64), .v 9 .sl, .v 10 .sl, .v 12 (.int .i64), .v 13 .bool, .v 14 (.int .i64)]
def P32 (Kv : VW) (kc5 : Cur g5) (kc13 : Cur g13) (kc31 : Cur g31) : Post := next (get g31 kc31) (P30 Kv kc5 kc13)
def S33 (K : KT) (kc5 : Cur g5) (kc13 : Cur g13) (kc31 : Cur g31) (script_183 : Sl) (r_184 : Option Addr) (k_185 : Option Addr) (was_186 : Sl) (i_187 : Int) (a_188 : Sl) (gone_189 : Sl) (j_190 : Int) (here_191 : Bool) (n_192 : Int) (w : World) : Prop :=
  G.cond (decide (n_192 < ((a_188.n : Nat) : Int))) (G.cond here_191 (kc31 script_183 r_184 k_185 was_186 i_187 a_188 gone_189 j_190 true (IntKind.i64.wrap (n_192 + (1 : Int))) w.drew) (G.ix a_188.a a_188.n n_192 6 fun p193 => G.cSl p193 w.drew fun l194 => G.ix was_186.a was_186.n j_190 6 fun p195 => G.cSl p195 w.drew fun l196 => C.tocsinref04_Same l194 l196 w.drew fun b197 w198 => kc31 script_183 r_184 k_185 was_186 i_187 a_188 gone_189 j_190 b197 (IntKind.i64.wrap (n_192 + (1 : Int))) w198)) (S28 K kc5 kc13 script_183 r_184 k_185 was_186 i_187 a_188 gone_189 j_190 here_191 w)
theorem S33_ok (Kv : VW) (kc5 : Cur g5) (kc13 : Cur g13) (kc31 : Cur g31) : OkT pr false none 155 g31 (S33 (Kt Kv) kc5 kc13 kc31) (lp (blk (tl 1 (s1 (tl 1 (blk (s1 (tl 1 (lp (blk (tl 1 (s1 (tl 2 (blk (s1 (tl 1 (lp (blk (tl 1 (s1 (tl 5 bd))))))))))))))))))))) (P32 Kv kc5 kc13 kc31) := ok_last mixed FOk_ fun v ρ w => by kernel_rfl
def L31 (K : KT) (kc5 : Cur g5) (kc13 : Cur g13) : Cur g31 := loopC g31 (S33 K kc5 kc13)
theorem L31_ok (Kv : VW) (kc5 : Cur g5) (kc13 : Cur g13) : OkT pr false none 155 g31 (L31 (Kt Kv) kc5 kc13) (blk (tl 1 (s1 (tl 1 (blk (s1 (tl 1 (lp (blk (tl 1 (s1 (tl 2 (blk (s1 (tl 1 (lp (blk (tl 1 (s1 (tl 5 bd)))))))))))))))))))) (P30 Kv kc5 kc13) := ok_loop (B := S33 (Kt Kv) kc5 kc13) (by kernel_rfl) fun kc => S33_ok Kv kc5 kc13 kc
theorem L31_ind {K : KT} {kc5 : Cur g5} {kc13 : Cur g13} {script_163 : Sl} {r_164 : Option Addr} {k_165 : Option Addr} {was_166 : Sl} {i_167 : Int} {a_168 : Sl} {gone_169 : Sl} {j_170 : Int} {here_171 : Bool} {n_172 : Int} {w : World} (h : ∀ X : Cur g31, (∀ script_163 r_164 k_165 was_166 i_167 a_168 gone_169 j_170 here_171 n_172 w, S33 K kc5 kc13 X script_163 r_164 k_165 was_166 i_167 a_168 gone_169 j_170 here_171 n_172 w → X script_163 r_164 k_165 was_166 i_167 a_168 gone_169 j_170 here_171 n_172 w) → X script_163 r_164 k_165 was_166 i_167 a_168 gone_169 j_170 here_171 n_172 w) : L31 K kc5 kc13 script_163 r_164 k_165 was_166 i_167 a_168 gone_169 j_170 here_171 n_172 w := fun X hX => h X fun script_163 r_164 k_165 was_166 i_167 a_168 gone_169 j_170 here_171 n_172 w hb => hX (script_163, r_164, k_165, was_166, i_167, a_168, gone_169, j_170, here_171, n_172, ()) w hb
theorem B34 (Kv : VW) (kc5 : Cur g5) (kc13 : Cur g13) : OkT pr false none 155 g31 (L31 (Kt Kv) kc5 kc13) (tl 1 (s1 (tl 1 (blk (s1 (tl 1 (lp (blk (tl 1 (s1 (tl 2 (blk (s1 (tl 1 (lp (blk (tl 1 (s1 (tl 5 bd))))))))))))))))))) (P29 Kv kc5 kc13) := ok_block 4 (by kernel_rfl) (L31_ok Kv kc5 kc13)
def S35 (K : KT) (kc5 : Cur g5) (kc13 : Cur g13) (script_199 : Sl) (r_200 : Option Addr) (k_201 : Option Addr) (was_202 : Sl) (i_203 : Int) (a_204 : Sl) (gone_205 : Sl) (j_206 : Int) (here_207 : Bool) (w : World) : Prop :=
  L31 K kc5 kc13 script_199 r_200 k_201 was_202 i_203 a_204 gone_205 j_206 here_207 (0 : Int) w
theorem S35_ok (Kv : VW) (kc5 : Cur g5) (kc13 : Cur g13) : OkT pr false none 155 g28 (S35 (Kt Kv) kc5 kc13) (s1 (tl 1 (blk (s1 (tl 1 (lp (blk (tl 1 (s1 (tl 2 (blk (s1 (tl 1 (lp (blk (tl 1 (s1 (tl 5 bd)))))))))))))))))) (P29 Kv kc5 kc13) := ok_group mixed FOk_ 1 (B34 Kv kc5 kc13) fun v ρ w => by kernel_rfl
theorem Q36 (Kv : VW) (kc5 : Cur g5) (kc13 : Cur g13) : OkT pr false none 155 g28 (S35 (Kt Kv) kc5 kc13) (tl 1 (blk (s1 (tl 1 (lp (blk (tl 1 (s1 (tl 2 (blk (s1 (tl 1 (lp (blk (tl 1 (s1 (tl 5 bd))))))))))))))))) (P17 Kv kc5 kc13) := ok_seq (by kernel_rfl) (S28_ok Kv kc5 kc13) (S35_ok Kv kc5 kc13)
def S37 (K : KT) (kc5 : Cur g5) (kc13 : Cur g13) (script_208 : Sl) (r_209 : Option Addr) (k_210 : Option Addr) (was_211 : Sl) (i_212 : Int) (a_213 : Sl) (gone_214 : Sl) (j_215 : Int) (w : World) : Prop :=
  S35 K kc5 kc13 script_208 r_209 k_210 was_211 i_212 a_213 gone_214 j_215 false w
theorem S37_ok (Kv : VW) (kc5 : Cur g5) (kc13 : Cur g13) : OkT pr false none 155 g13 (S37 (Kt Kv) kc5 kc13) (blk (s1 (tl 1 (lp (blk (tl 1 (s1 (tl 2 (blk (s1 (tl 1 (lp (blk (tl 1 (s1 (tl 5 bd)))))))))))))))) (P17 Kv kc5 kc13) := ok_group mixed FOk_ 1 (Q36 Kv kc5 kc13) fun v ρ w => by kernel_rfl
theorem B38 (Kv : VW) (kc5 : Cur g5) (kc13 : Cur g13) : OkT pr false none 155 g13 (S37 (Kt Kv) kc5 kc13) (s1 (tl 1 (lp (blk (tl 1 (s1 (tl 2 (blk (s1 (tl 1 (lp (blk (tl 1 (s1 (tl 5 bd))))))))))))))) (P16 Kv kc5 kc13) := ok_block 3 (by kernel_rfl) (S37_ok Kv kc5 kc13)
theorem Q39 (Kv : VW) (kc5 : Cur g5) (kc13 : Cur g13) : OkT pr false none 155 g13 (S37 (Kt Kv) kc5 kc13) (tl 1 (lp (blk (tl 1 (s1 (tl 2 (blk (s1 (tl 1 (lp (blk (tl 1 (s1 (tl 5 bd)))))))))))))) (P14 Kv kc5 kc13) := ok_seq (by kernel_rfl) (S15_ok Kv kc5 kc13) (B38 Kv kc5 kc13)
def S40 (K : KT) (kc5 : Cur g5) (kc13 : Cur g13) (script_216 : Sl) (r_217 : Option Addr) (k_218 : Option Addr) (was_219 : Sl) (i_220 : Int) (a_221 : Sl) (gone_222 : Sl) (j_223 : Int) (w : World) : Prop :=
  G.cond (decide (j_223 < ((was_219.n : Nat) : Int))) (S37 K kc5 kc13 script_216 r_217 k_218 was_219 i_220 a_221 gone_222 j_223 w) (S10 K kc5 script_216 r_217 k_218 i_220 w)
theorem S40_ok (Kv : VW) (kc5 : Cur g5) (kc13 : Cur g13) : OkT pr false none 155 g13 (S40 (Kt Kv) kc5 kc13) (lp (blk (tl 1 (s1 (tl 2 (blk (s1 (tl 1 (lp (blk (tl 1 (s1 (tl 5 bd))))))))))))) (P14 Kv kc5 kc13) := ok_group mixed FOk_ 1 (Q39 Kv kc5 kc13) fun v ρ w => by kernel_rfl
def L13 (K : KT) (kc5 : Cur g5) : Cur g13 := loopC g13 (S40 K kc5)
theorem L13_ok (Kv : VW) (kc5 : Cur g5) : OkT pr false none 155 g13 (L13 (Kt Kv) kc5) (blk (tl 1 (s1 (tl 2 (blk (s1 (tl 1 (lp (blk (tl 1 (s1 (tl 5 bd)))))))))))) (P12 Kv kc5) := ok_loop (B := S40 (Kt Kv) kc5) (by kernel_rfl) fun kc => S40_ok Kv kc5 kc
theorem L13_ind {K : KT} {kc5 : Cur g5} {script_41 : Sl} {r_42 : Option Addr} {k_43 : Option Addr} {was_44 : Sl} {i_45 : Int} {a_46 : Sl} {gone_47 : Sl} {j_48 : Int} {w : World} (h : ∀ X : Cur g13, (∀ script_41 r_42 k_43 was_44 i_45 a_46 gone_47 j_48 w, S40 K kc5 X script_41 r_42 k_43 was_44 i_45 a_46 gone_47 j_48 w → X script_41 r_42 k_43 was_44 i_45 a_46 gone_47 j_48 w) → X script_41 r_42 k_43 was_44 i_45 a_46 gone_47 j_48 w) : L13 K kc5 script_41 r_42 k_43 was_44 i_45 a_46 gone_47 j_48 w := fun X hX => h X fun script_41 r_42 k_43 was_44 i_45 a_46 gone_47 j_48 w hb => hX (script_41, r_42, k_43, was_44, i_45, a_46, gone_47, j_48, ()) w hb
theorem B41 (Kv : VW) (kc5 : Cur g5) : OkT pr false none 155 g13 (L13 (Kt Kv) kc5) (tl 1 (s1 (tl 2 (blk (s1 (tl 1 (lp (blk (tl 1 (s1 (tl 5 bd))))))))))) (P11 Kv kc5) := ok_block 2 (by kernel_rfl) (L13_ok Kv kc5)
@[reducible] def g42 : List SE := [.v 1 .sl, .v 2 .ptr, .v 5 .ptr, .v 7 .sl, .v 8 (.int .i64), .v 9 .sl, .v 10 .sl]
def S42 (K : KT) (kc5 : Cur g5) (script_224 : Sl) (r_225 : Option Addr) (k_226 : Option Addr) (was_227 : Sl) (i_228 : Int) (a_229 : Sl) (gone_230 : Sl) (w : World) : Prop :=
  L13 K kc5 script_224 r_225 k_226 was_227 i_228 a_229 gone_230 (0 : Int) w
theorem S42_ok (Kv : VW) (kc5 : Cur g5) : OkT pr false none 155 g42 (S42 (Kt Kv) kc5) (s1 (tl 2 (blk (s1 (tl 1 (lp (blk (tl 1 (s1 (tl 5 bd)))))))))) (P11 Kv kc5) := ok_group mixed FOk_ 1 (B41 Kv kc5) fun v ρ w => by kernel_rfl
theorem Q43 (Kv : VW) (kc5 : Cur g5) : OkT pr false none 155 g42 (S42 (Kt Kv) kc5) (tl 2 (blk (s1 (tl 1 (lp (blk (tl 1 (s1 (tl 5 bd))))))))) (P9 Kv kc5) := ok_seq (by kernel_rfl) (S10_ok Kv kc5) (S42_ok Kv kc5)
def S44 (K : KT) (kc5 : Cur g5) (script_231 : Sl) (r_232 : Option Addr) (k_233 : Option Addr) (was_234 : Sl) (i_235 : Int) (w : World) : Prop :=
  G.ix script_231.a script_231.n i_235 2 fun p236 => G.cI .i64 p236 w.drew fun n237 => G.ix script_231.a script_231.n i_235 2 fun p238 => G.cSl (p238.add 1) w.drew fun l239 => C.rules_Keeper_Step k_233 n237 l239 w.drew fun l240 l241 n242 w243 => G.cond (n242 != (0 : Int)) (C.rules_Keeper_Active k_233 w243 fun l244 w245 => C.tocsinref19_Same l244 was_234 w245 fun b246 w247 => G.cond (!b246) (K false w247) (S7 K kc5 script_231 r_232 k_233 was_234 i_235 w247)) (S42 K kc5 script_231 r_232 k_233 was_234 i_235 l240 l241 w243)
theorem S44_ok (Kv : VW) (kc5 : Cur g5) : OkT pr false none 155 g5 (S44 (Kt Kv) kc5) (blk (s1 (tl 1 (lp (blk (tl 1 (s1 (tl 5 bd)))))))) (P9 Kv kc5) := ok_group mixed FOk_ 2 (Q43 Kv kc5) fun v ρ w => by kernel_rfl
theorem B45 (Kv : VW) (kc5 : Cur g5) : OkT pr false none 155 g5 (S44 (Kt Kv) kc5) (s1 (tl 1 (lp (blk (tl 1 (s1 (tl 5 bd))))))) (P8 Kv kc5) := ok_block 1 (by kernel_rfl) (S44_ok Kv kc5)
theorem Q46 (Kv : VW) (kc5 : Cur g5) : OkT pr false none 155 g5 (S44 (Kt Kv) kc5) (tl 1 (lp (blk (tl 1 (s1 (tl 5 bd)))))) (P6 Kv kc5) := ok_seq (by kernel_rfl) (S7_ok Kv kc5) (B45 Kv kc5)
def S47 (K : KT) (kc5 : Cur g5) (script_248 : Sl) (r_249 : Option Addr) (k_250 : Option Addr) (was_251 : Sl) (i_252 : Int) (w : World) : Prop :=
  G.cond (decide (i_252 < ((script_248.n : Nat) : Int))) (G.cond (decide (i_252 < (60 : Int))) (S44 K kc5 script_248 r_249 k_250 was_251 i_252 w) (S2 K w)) (S2 K w)
theorem S47_ok (Kv : VW) (kc5 : Cur g5) : OkT pr false none 155 g5 (S47 (Kt Kv) kc5) (lp (blk (tl 1 (s1 (tl 5 bd))))) (P6 Kv kc5) := ok_group mixed FOk_ 1 (Q46 Kv kc5) fun v ρ w => by kernel_rfl
def L5 (K : KT) : Cur g5 := loopC g5 (S47 K)
theorem L5_ok (Kv : VW) : OkT pr false none 155 g5 (L5 (Kt Kv)) (blk (tl 1 (s1 (tl 5 bd)))) (P4 Kv) := ok_loop (B := S47 (Kt Kv)) (by kernel_rfl) fun kc => S47_ok Kv kc
theorem L5_ind {K : KT} {script_25 : Sl} {r_26 : Option Addr} {k_27 : Option Addr} {was_28 : Sl} {i_29 : Int} {w : World} (h : ∀ X : Cur g5, (∀ script_25 r_26 k_27 was_28 i_29 w, S47 K X script_25 r_26 k_27 was_28 i_29 w → X script_25 r_26 k_27 was_28 i_29 w) → X script_25 r_26 k_27 was_28 i_29 w) : L5 K script_25 r_26 k_27 was_28 i_29 w := fun X hX => h X fun script_25 r_26 k_27 was_28 i_29 w hb => hX (script_25, r_26, k_27, was_28, i_29, ()) w hb
theorem B48 (Kv : VW) : OkT pr false none 155 g5 (L5 (Kt Kv)) (tl 1 (s1 (tl 5 bd))) (P3 Kv) := ok_block 0 (by kernel_rfl) (L5_ok Kv)
@[reducible] def g49 : List SE := [.v 1 .sl, .v 2 .ptr, .v 5 .ptr, .v 7 .sl]
def S49 (K : KT) (script_253 : Sl) (r_254 : Option Addr) (k_255 : Option Addr) (was_256 : Sl) (w : World) : Prop :=
  L5 K script_253 r_254 k_255 was_256 (0 : Int) w
theorem S49_ok (Kv : VW) : OkT pr false none 155 g49 (S49 (Kt Kv)) (s1 (tl 5 bd)) (P3 Kv) := ok_group mixed FOk_ 1 (B48 Kv) fun v ρ w => by kernel_rfl
theorem Q50 (Kv : VW) : OkT pr false none 155 g49 (S49 (Kt Kv)) (tl 5 bd) (P1 Kv) := ok_seq (by kernel_rfl) (S2_ok Kv) (S49_ok Kv)
end tocsinlaw19_RulesKept
def tocsinlaw19_RulesKept (r_2 : Bool) (r_3 : ByteArray) (r_4 : ByteArray) (r_5 : Int) (r_6 : Int) (r_7 : Sl) (script_8 : Sl) (w : World) (K : tocsinlaw19_RulesKept.KT) : Prop :=
  G.new (.cells #[(.bool r_2), (.string r_3), (.string r_4), (.int .i64 r_5), (.int .i64 r_6), r_7.v] 24) w fun p257 w258 => G.cB p257 w258 fun b259 => G.cS (p257.add 1) w258 fun s260 => G.cS (p257.add 2) w258 fun s261 => G.cI .i64 (p257.add 3) w258 fun n262 => G.cI .i64 (p257.add 4) w258 fun n263 => G.cSl (p257.add 5) w258 fun l264 => C.rules_New b259 s260 s261 n262 n263 l264 w258 fun p265 n266 w267 => G.cond (n266 != (0 : Int)) (G.cond p265.isNone (C.tocsinlaw19_known w267 fun b268 w269 => K b268 w269) (K false w267)) (G.cond p265.isNone (K false w267) (tocsinlaw19_RulesKept.S49 K script_8 (some p257) p265 nilS w267))
def tocsinlaw19_RulesKept.cl : CL := fun args K w => match args with
  | [.agg ⟨[.bool x0_0, .string x0_1, .string x0_2, .int .i64 x0_3, .int .i64 x0_4, .slice x0_5_a x0_5_n x0_5_c]⟩, .slice x1_a x1_n x1_c] => C.tocsinlaw19_RulesKept x0_0 x0_1 x0_2 x0_3 x0_4 ⟨x0_5_a, x0_5_n, x0_5_c⟩ ⟨x1_a, x1_n, x1_c⟩ w (tocsinlaw19_RulesKept.Kt K)
  | _ => False
theorem tocsinlaw19_RulesKept.clok : OkC pr 4 tocsinlaw19_RulesKept.cl := by
  intro args K w h
  unfold tocsinlaw19_RulesKept.cl at h
  split at h
  · exact calls_group false mixed tocsinlaw19_RulesKept.FOk_ tocsinlaw19_RulesKept.fn rfl 5 (tocsinlaw19_RulesKept.Q50 K) (Eq.mp (by kernel_rfl) h)
  · exact h.elim
namespace tocsinlaw19_RulesFor
abbrev KT := Bool → World → Prop
def Kt (Kv : VW) : KT := fun b1 w => Kv (.bool b1) w
noncomputable def bd : Code := bdy Tryz.f3
theorem fn : FnOk pr 3 193 Tryz.f3 := ⟨Tryz.func3, by kernel_rfl, Tryz.ntmps3, by kernel_rfl, by kernel_rfl⟩
def F : Clee := ofL [(9, C.rules_New.cl), (10, C.tocsinlaw19_known.cl), (11, C.rules_Keeper_Step.cl), (12, C.tocsinlaw19_told.cl), (13, C.tocsinref19_Labels.cl), (14, C.tocsinref04_Same.cl)]
theorem FOk_ : FOk pr F := FOk_cons C.rules_New.clok (FOk_cons C.tocsinlaw19_known.clok (FOk_cons C.rules_Keeper_Step.clok (FOk_cons C.tocsinlaw19_told.clok (FOk_cons C.tocsinref19_Labels.clok (FOk_cons C.tocsinref04_Same.clok (FOk_nil))))))
def P1 (Kv : VW) : Post := bodyK false pr 193 Tryz.f3 Kv
@[reducible] def g2 : List SE := []
def S2 (K : KT) (w : World) : Prop :=
  C.tocsinlaw19_known w fun b23 w24 => K b23 w24
theorem S2_ok (Kv : VW) : OkT pr false none 193 g2 (S2 (Kt Kv)) (s2 (tl 6 bd)) (P1 Kv) := ok_last mixed FOk_ fun v ρ w => by kernel_rfl
def P3 (Kv : VW) : Post := next (get g2 (S2 (Kt Kv))) (P1 Kv)
def P4 (Kv : VW) : Post := inBlock 0 (P3 Kv)
@[reducible] def g5 : List SE := [.v 1 .sl, .v 2 .ptr, .v 5 .ptr, .v 7 .sl, .v 8 (.int .i64)]
def P6 (Kv : VW) (kc5 : Cur g5) : Post := next (get g5 kc5) (P4 Kv)
def S7 (K : KT) (kc5 : Cur g5) (script_30 : Sl) (r_31 : Option Addr) (k_32 : Option Addr) (done_33 : Sl) (i_34 : Int) (w : World) : Prop :=
  kc5 script_30 r_31 k_32 done_33 (IntKind.i64.wrap (i_34 + (1 : Int))) w
theorem S7_ok (Kv : VW) (kc5 : Cur g5) : OkT pr false none 193 g5 (S7 (Kt Kv) kc5) (s2 (tl 1 (lp (blk (tl 1 (s1 (tl 6 bd))))))) (P6 Kv kc5) := ok_last mixed FOk_ fun v ρ w => by kernel_rfl
def P8 (Kv : VW) (kc5 : Cur g5) : Post := next (get g5 (S7 (Kt Kv) kc5)) (P6 Kv kc5)
def P9 (Kv : VW) (kc5 : Cur g5) : Post := inBlock 1 (P8 Kv kc5)
def P10 (Kv : VW) (kc5 : Cur g5) : Post := inBlock 6 (P9 Kv kc5)
@[reducible] def g11 : List SE := [.v 1 .sl, .v 2 .ptr, .v 5 .ptr, .v 7 .sl, .v 8 (.int .i64), .v 9 .sl, .v 16 (.int .i64)]
def P12 (Kv : VW) (kc5 : Cur g5) (kc11 : Cur g11) : Post := next (get g11 kc11) (P10 Kv kc5)
def S13 (K : KT) (kc5 : Cur g5) (kc11 : Cur g11) (script_47 : Sl) (r_48 : Option Addr) (k_49 : Option Addr) (done_50 : Sl) (i_51 : Int) (a_52 : Sl) (j_53 : Int) (w : World) : Prop :=
  kc11 script_47 r_48 k_49 done_50 i_51 a_52 (IntKind.i64.wrap (j_53 + (1 : Int))) w
theorem S13_ok (Kv : VW) (kc5 : Cur g5) (kc11 : Cur g11) : OkT pr false none 193 g11 (S13 (Kt Kv) kc5 kc11) (s2 (tl 1 (lp (blk (tl 1 (s2 (tl 4 (blk (s1 (tl 1 (lp (blk (tl 1 (s1 (tl 6 bd))))))))))))))) (P12 Kv kc5 kc11) := ok_last mixed FOk_ fun v ρ w => by kernel_rfl
def P14 (Kv : VW) (kc5 : Cur g5) (kc11 : Cur g11) : Post := next (get g11 (S13 (Kt Kv) kc5 kc11)) (P12 Kv kc5 kc11)
def P15 (Kv : VW) (kc5 : Cur g5) (kc11 : Cur g11) : Post := inBlock 7 (P14 Kv kc5 kc11)
@[reducible] def g16 : List SE := [.v 1 .sl, .v 2 .ptr, .v 5 .ptr, .v 7 .sl, .v 8 (.int .i64), .v 9 .sl, .v 16 (.int .i64), .v 19 .bool]
def S16 (K : KT) (kc5 : Cur g5) (kc11 : Cur g11) (script_54 : Sl) (r_55 : Option Addr) (k_56 : Option Addr) (done_57 : Sl) (i_58 : Int) (a_59 : Sl) (j_60 : Int) (met_61 : Bool) (w : World) : Prop :=
  G.cond (!met_61) (K false w) (S13 K kc5 kc11 script_54 r_55 k_56 done_57 i_58 a_59 j_60 w)
theorem S16_ok (Kv : VW) (kc5 : Cur g5) (kc11 : Cur g11) : OkT pr false none 193 g16 (S16 (Kt Kv) kc5 kc11) (s2 (tl 2 (blk (s1 (tl 1 (lp (blk (tl 1 (s2 (tl 4 (blk (s1 (tl 1 (lp (blk (tl 1 (s1 (tl 6 bd)))))))))))))))))) (P15 Kv kc5 kc11) := ok_last mixed FOk_ fun v ρ w => by kernel_rfl
def P17 (Kv : VW) (kc5 : Cur g5) (kc11 : Cur g11) : Post := next (get g16 (S16 (Kt Kv) kc5 kc11)) (P15 Kv kc5 kc11)
def P18 (Kv : VW) (kc5 : Cur g5) (kc11 : Cur g11) : Post := inBlock 8 (P17 Kv kc5 kc11)
@[reducible] def g19 : List SE := [.v 1 .sl, .v 2 .ptr, .v 5 .ptr, .v 7 .sl, .v 8 (.int .i64), .v 9 .sl, .v 16 (.int .i64), .v 17 .sl, .v 18 (.int .i64), .v 19 .bool, .v 20 (.int .i64)]
def P20 (Kv : VW) (kc5 : Cur g5) (kc11 : Cur g11) (kc19 : Cur g19) : Post := next (get g19 kc19) (P18 Kv kc5 kc11)
def S21 (K : KT) (kc5 : Cur g5) (kc11 : Cur g11) (kc19 : Cur g19) (script_84 : Sl) (r_85 : Option Addr) (k_86 : Option Addr) (done_87 : Sl) (i_88 : Int) (a_89 : Sl) (j_90 : Int) (l_91 : Sl) (g_92 : Int) (met_93 : Bool) (n_94 : Int) (w : World) : Prop :=
  G.cond (decide (n_94 < ((a_89.n : Nat) : Int))) (G.cond met_93 (kc19 script_84 r_85 k_86 done_87 i_88 a_89 j_90 l_91 g_92 true (IntKind.i64.wrap (n_94 + (1 : Int))) w) (G.cond (g_92 == (0 : Int)) (G.ix a_89.a a_89.n n_94 6 fun p95 => G.cSl p95 w fun l96 => C.tocsinref04_Same l96 l_91 w fun b97 w98 => kc19 script_84 r_85 k_86 done_87 i_88 a_89 j_90 l_91 g_92 b97 (IntKind.i64.wrap (n_94 + (1 : Int))) w98) (kc19 script_84 r_85 k_86 done_87 i_88 a_89 j_90 l_91 g_92 false (IntKind.i64.wrap (n_94 + (1 : Int))) w))) (S16 K kc5 kc11 script_84 r_85 k_86 done_87 i_88 a_89 j_90 met_93 w)
theorem S21_ok (Kv : VW) (kc5 : Cur g5) (kc11 : Cur g11) (kc19 : Cur g19) : OkT pr false none 193 g19 (S21 (Kt Kv) kc5 kc11 kc19) (lp (blk (tl 1 (s1 (tl 2 (blk (s1 (tl 1 (lp (blk (tl 1 (s2 (tl 4 (blk (s1 (tl 1 (lp (blk (tl 1 (s1 (tl 6 bd))))))))))))))))))))) (P20 Kv kc5 kc11 kc19) := ok_last mixed FOk_ fun v ρ w => by kernel_rfl
def L19 (K : KT) (kc5 : Cur g5) (kc11 : Cur g11) : Cur g19 := loopC g19 (S21 K kc5 kc11)
theorem L19_ok (Kv : VW) (kc5 : Cur g5) (kc11 : Cur g11) : OkT pr false none 193 g19 (L19 (Kt Kv) kc5 kc11) (blk (tl 1 (s1 (tl 2 (blk (s1 (tl 1 (lp (blk (tl 1 (s2 (tl 4 (blk (s1 (tl 1 (lp (blk (tl 1 (s1 (tl 6 bd)))))))))))))))))))) (P18 Kv kc5 kc11) := ok_loop (B := S21 (Kt Kv) kc5 kc11) (by kernel_rfl) fun kc => S21_ok Kv kc5 kc11 kc
theorem L19_ind {K : KT} {kc5 : Cur g5} {kc11 : Cur g11} {script_62 : Sl} {r_63 : Option Addr} {k_64 : Option Addr} {done_65 : Sl} {i_66 : Int} {a_67 : Sl} {j_68 : Int} {l_69 : Sl} {g_70 : Int} {met_71 : Bool} {n_72 : Int} {w : World} (h : ∀ X : Cur g19, (∀ script_62 r_63 k_64 done_65 i_66 a_67 j_68 l_69 g_70 met_71 n_72 w, S21 K kc5 kc11 X script_62 r_63 k_64 done_65 i_66 a_67 j_68 l_69 g_70 met_71 n_72 w → X script_62 r_63 k_64 done_65 i_66 a_67 j_68 l_69 g_70 met_71 n_72 w) → X script_62 r_63 k_64 done_65 i_66 a_67 j_68 l_69 g_70 met_71 n_72 w) : L19 K kc5 kc11 script_62 r_63 k_64 done_65 i_66 a_67 j_68 l_69 g_70 met_71 n_72 w := fun X hX => h X fun script_62 r_63 k_64 done_65 i_66 a_67 j_68 l_69 g_70 met_71 n_72 w hb => hX (script_62, r_63, k_64, done_65, i_66, a_67, j_68, l_69, g_70, met_71, n_72, ()) w hb
theorem B22 (Kv : VW) (kc5 : Cur g5) (kc11 : Cur g11) : OkT pr false none 193 g19 (L19 (Kt Kv) kc5 kc11) (tl 1 (s1 (tl 2 (blk (s1 (tl 1 (lp (blk (tl 1 (s2 (tl 4 (blk (s1 (tl 1 (lp (blk (tl 1 (s1 (tl 6 bd))))))))))))))))))) (P17 Kv kc5 kc11) := ok_block 8 (by kernel_rfl) (L19_ok Kv kc5 kc11)
@[reducible] def g23 : List SE := [.v 1 .sl, .v 2 .ptr, .v 5 .ptr, .v 7 .sl, .v 8 (.int .i64), .v 9 .sl, .v 16 (.int .i64), .v 17 .sl, .v 18 (.int .i64), .v 19 .bool]
def S23 (K : KT) (kc5 : Cur g5) (kc11 : Cur g11) (script_99 : Sl) (r_100 : Option Addr) (k_101 : Option Addr) (done_102 : Sl) (i_103 : Int) (a_104 : Sl) (j_105 : Int) (l_106 : Sl) (g_107 : Int) (met_108 : Bool) (w : World) : Prop :=
  L19 K kc5 kc11 script_99 r_100 k_101 done_102 i_103 a_104 j_105 l_106 g_107 met_108 (0 : Int) w
theorem S23_ok (Kv : VW) (kc5 : Cur g5) (kc11 : Cur g11) : OkT pr false none 193 g23 (S23 (Kt Kv) kc5 kc11) (s1 (tl 2 (blk (s1 (tl 1 (lp (blk (tl 1 (s2 (tl 4 (blk (s1 (tl 1 (lp (blk (tl 1 (s1 (tl 6 bd)))))))))))))))))) (P17 Kv kc5 kc11) := ok_group mixed FOk_ 1 (B22 Kv kc5 kc11) fun v ρ w => by kernel_rfl
theorem Q24 (Kv : VW) (kc5 : Cur g5) (kc11 : Cur g11) : OkT pr false none 193 g23 (S23 (Kt Kv) kc5 kc11) (tl 2 (blk (s1 (tl 1 (lp (blk (tl 1 (s2 (tl 4 (blk (s1 (tl 1 (lp (blk (tl 1 (s1 (tl 6 bd))))))))))))))))) (P15 Kv kc5 kc11) := ok_seq (by kernel_rfl) (S16_ok Kv kc5 kc11) (S23_ok Kv kc5 kc11)
def S25 (K : KT) (kc5 : Cur g5) (kc11 : Cur g11) (script_109 : Sl) (r_110 : Option Addr) (k_111 : Option Addr) (done_112 : Sl) (i_113 : Int) (a_114 : Sl) (j_115 : Int) (w : World) : Prop :=
  G.ptr r_110 fun p116 => G.cB p116 w.drew fun b117 => G.cS (p116.add 1) w.drew fun s118 => G.cS (p116.add 2) w.drew fun s119 => G.cI .i64 (p116.add 3) w.drew fun n120 => G.cI .i64 (p116.add 4) w.drew fun n121 => G.cSl (p116.add 5) w.drew fun l122 => G.ix script_109.a script_109.n i_113 2 fun p123 => G.cSl (p123.add 1) w.drew fun l124 => G.ix l124.a l124.n j_115 2 fun p125 => G.cSl p125 w.drew fun l126 => C.tocsinref19_Labels b117 s118 s119 n120 n121 l122 l126 w.drew fun l127 n128 w129 => S23 K kc5 kc11 script_109 r_110 k_111 done_112 i_113 a_114 j_115 l127 n128 false w129
theorem S25_ok (Kv : VW) (kc5 : Cur g5) (kc11 : Cur g11) : OkT pr false none 193 g11 (S25 (Kt Kv) kc5 kc11) (blk (s1 (tl 1 (lp (blk (tl 1 (s2 (tl 4 (blk (s1 (tl 1 (lp (blk (tl 1 (s1 (tl 6 bd)))))))))))))))) (P15 Kv kc5 kc11) := ok_group mixed FOk_ 2 (Q24 Kv kc5 kc11) fun v ρ w => by kernel_rfl
theorem B26 (Kv : VW) (kc5 : Cur g5) (kc11 : Cur g11) : OkT pr false none 193 g11 (S25 (Kt Kv) kc5 kc11) (s1 (tl 1 (lp (blk (tl 1 (s2 (tl 4 (blk (s1 (tl 1 (lp (blk (tl 1 (s1 (tl 6 bd))))))))))))))) (P14 Kv kc5 kc11) := ok_block 7 (by kernel_rfl) (S25_ok Kv kc5 kc11)
theorem Q27 (Kv : VW) (kc5 : Cur g5) (kc11 : Cur g11) : OkT pr false none 193 g11 (S25 (Kt Kv) kc5 kc11) (tl 1 (lp (blk (tl 1 (s2 (tl 4 (blk (s1 (tl 1 (lp (blk (tl 1 (s1 (tl 6 bd)))))))))))))) (P12 Kv kc5 kc11) := ok_seq (by kernel_rfl) (S13_ok Kv kc5 kc11) (B26 Kv kc5 kc11)
def S28 (K : KT) (kc5 : Cur g5) (kc11 : Cur g11) (script_130 : Sl) (r_131 : Option Addr) (k_132 : Option Addr) (done_133 : Sl) (i_134 : Int) (a_135 : Sl) (j_136 : Int) (w : World) : Prop :=
  G.ix script_130.a script_130.n i_134 2 fun p137 => G.cSl (p137.add 1) w fun l138 => G.cond (decide (j_136 < ((l138.n : Nat) : Int))) (S25 K kc5 kc11 script_130 r_131 k_132 done_133 i_134 a_135 j_136 w) (S7 K kc5 script_130 r_131 k_132 done_133 i_134 w)
theorem S28_ok (Kv : VW) (kc5 : Cur g5) (kc11 : Cur g11) : OkT pr false none 193 g11 (S28 (Kt Kv) kc5 kc11) (lp (blk (tl 1 (s2 (tl 4 (blk (s1 (tl 1 (lp (blk (tl 1 (s1 (tl 6 bd))))))))))))) (P12 Kv kc5 kc11) := ok_group mixed FOk_ 1 (Q27 Kv kc5 kc11) fun v ρ w => by kernel_rfl
def L11 (K : KT) (kc5 : Cur g5) : Cur g11 := loopC g11 (S28 K kc5)
theorem L11_ok (Kv : VW) (kc5 : Cur g5) : OkT pr false none 193 g11 (L11 (Kt Kv) kc5) (blk (tl 1 (s2 (tl 4 (blk (s1 (tl 1 (lp (blk (tl 1 (s1 (tl 6 bd)))))))))))) (P10 Kv kc5) := ok_loop (B := S28 (Kt Kv) kc5) (by kernel_rfl) fun kc => S28_ok Kv kc5 kc
theorem L11_ind {K : KT} {kc5 : Cur g5} {script_40 : Sl} {r_41 : Option Addr} {k_42 : Option Addr} {done_43 : Sl} {i_44 : Int} {a_45 : Sl} {j_46 : Int} {w : World} (h : ∀ X : Cur g11, (∀ script_40 r_41 k_42 done_43 i_44 a_45 j_46 w, S28 K kc5 X script_40 r_41 k_42 done_43 i_44 a_45 j_46 w → X script_40 r_41 k_42 done_43 i_44 a_45 j_46 w) → X script_40 r_41 k_42 done_43 i_44 a_45 j_46 w) : L11 K kc5 script_40 r_41 k_42 done_43 i_44 a_45 j_46 w := fun X hX => h X fun script_40 r_41 k_42 done_43 i_44 a_45 j_46 w hb => hX (script_40, r_41, k_42, done_43, i_44, a_45, j_46, ()) w hb
theorem B29 (Kv : VW) (kc5 : Cur g5) : OkT pr false none 193 g11 (L11 (Kt Kv) kc5) (tl 1 (s2 (tl 4 (blk (s1 (tl 1 (lp (blk (tl 1 (s1 (tl 6 bd))))))))))) (P9 Kv kc5) := ok_block 6 (by kernel_rfl) (L11_ok Kv kc5)
@[reducible] def g30 : List SE := [.v 1 .sl, .v 2 .ptr, .v 5 .ptr, .v 7 .sl, .v 8 (.int .i64), .v 9 .sl]
def S30 (K : KT) (kc5 : Cur g5) (script_139 : Sl) (r_140 : Option Addr) (k_141 : Option Addr) (done_142 : Sl) (i_143 : Int) (a_144 : Sl) (w : World) : Prop :=
  L11 K kc5 script_139 r_140 k_141 done_142 i_143 a_144 (0 : Int) w
theorem S30_ok (Kv : VW) (kc5 : Cur g5) : OkT pr false none 193 g30 (S30 (Kt Kv) kc5) (s2 (tl 4 (blk (s1 (tl 1 (lp (blk (tl 1 (s1 (tl 6 bd)))))))))) (P9 Kv kc5) := ok_group mixed FOk_ 1 (B29 Kv kc5) fun v ρ w => by kernel_rfl
def P31 (Kv : VW) (kc5 : Cur g5) : Post := next (get g30 (S30 (Kt Kv) kc5)) (P9 Kv kc5)
def P32 (Kv : VW) (kc5 : Cur g5) : Post := inBlock 2 (P31 Kv kc5)
@[reducible] def g33 : List SE := [.v 1 .sl, .v 2 .ptr, .v 5 .ptr, .v 7 .sl, .v 8 (.int .i64), .v 9 .sl, .v 12 (.int .i64), .v 13 (.int .i64)]
def P34 (Kv : VW) (kc5 : Cur g5) (kc33 : Cur g33) : Post := next (get g33 kc33) (P32 Kv kc5)
def S35 (K : KT) (kc5 : Cur g5) (kc33 : Cur g33) (script_153 : Sl) (r_154 : Option Addr) (k_155 : Option Addr) (done_156 : Sl) (i_157 : Int) (a_158 : Sl) (now_159 : Int) (j_160 : Int) (w : World) : Prop :=
  kc33 script_153 r_154 k_155 done_156 i_157 a_158 now_159 (IntKind.i64.wrap (j_160 + (1 : Int))) w
theorem S35_ok (Kv : VW) (kc5 : Cur g5) (kc33 : Cur g33) : OkT pr false none 193 g33 (S35 (Kt Kv) kc5 kc33) (s2 (tl 1 (lp (blk (tl 1 (s1 (tl 4 (blk (s1 (tl 1 (lp (blk (tl 1 (s1 (tl 6 bd))))))))))))))) (P34 Kv kc5 kc33) := ok_last mixed FOk_ fun v ρ w => by kernel_rfl
def P36 (Kv : VW) (kc5 : Cur g5) (kc33 : Cur g33) : Post := next (get g33 (S35 (Kt Kv) kc5 kc33)) (P34 Kv kc5 kc33)
def P37 (Kv : VW) (kc5 : Cur g5) (kc33 : Cur g33) : Post := inBlock 3 (P36 Kv kc5 kc33)
@[reducible] def g38 : List SE := [.v 1 .sl, .v 2 .ptr, .v 5 .ptr, .v 7 .sl, .v 8 (.int .i64), .v 9 .sl, .v 12 (.int .i64), .v 13 (.int .i64), .v 14 .bool]
def S38 (K : KT) (kc5 : Cur g5) (kc33 : Cur g33) (script_169 : Sl) (r_170 : Option Addr) (k_171 : Option Addr) (done_172 : Sl) (i_173 : Int) (a_174 : Sl) (now_175 : Int) (j_176 : Int) (long_177 : Bool) (w : World) : Prop :=
  G.ix a_174.a a_174.n j_176 6 fun p178 => G.cI .i64 (p178.add 1) w fun n179 => G.cond (!((n179 == (2 : Int)) == long_177)) (K false w) (S35 K kc5 kc33 script_169 r_170 k_171 done_172 i_173 a_174 now_175 j_176 w)
theorem S38_ok (Kv : VW) (kc5 : Cur g5) (kc33 : Cur g33) : OkT pr false none 193 g38 (S38 (Kt Kv) kc5 kc33) (s2 (tl 1 (tl 1 (blk (s1 (tl 1 (lp (blk (tl 1 (s1 (tl 4 (blk (s1 (tl 1 (lp (blk (tl 1 (s1 (tl 6 bd))))))))))))))))))) (P37 Kv kc5 kc33) := ok_last mixed FOk_ fun v ρ w => by kernel_rfl
def P39 (Kv : VW) (kc5 : Cur g5) (kc33 : Cur g33) : Post := next (get g38 (S38 (Kt Kv) kc5 kc33)) (P37 Kv kc5 kc33)
def P40 (Kv : VW) (kc5 : Cur g5) (kc33 : Cur g33) : Post := inBlock 4 (P39 Kv kc5 kc33)
@[reducible] def g41 : List SE := [.v 1 .sl, .v 2 .ptr, .v 5 .ptr, .v 7 .sl, .v 8 (.int .i64), .v 9 .sl, .v 12 (.int .i64), .v 13 (.int .i64), .v 14 .bool, .v 15 (.int .i64)]
def P42 (Kv : VW) (kc5 : Cur g5) (kc33 : Cur g33) (kc41 : Cur g41) : Post := next (get g41 kc41) (P40 Kv kc5 kc33)
def S43 (K : KT) (kc5 : Cur g5) (kc33 : Cur g33) (kc41 : Cur g41) (script_200 : Sl) (r_201 : Option Addr) (k_202 : Option Addr) (done_203 : Sl) (i_204 : Int) (a_205 : Sl) (now_206 : Int) (j_207 : Int) (long_208 : Bool) (n_209 : Int) (w : World) : Prop :=
  G.cond (decide (n_209 ≥ (0 : Int))) (G.ptr r_201 fun p210 => G.cB p210 w.drew fun b211 => G.cS (p210.add 1) w.drew fun s212 => G.cS (p210.add 2) w.drew fun s213 => G.cI .i64 (p210.add 3) w.drew fun n214 => G.cI .i64 (p210.add 4) w.drew fun n215 => G.cSl (p210.add 5) w.drew fun l216 => G.ix done_203.a done_203.n n_209 2 fun p217 => G.cSl (p217.add 1) w.drew fun l218 => G.ix a_205.a a_205.n j_207 6 fun p219 => G.cSl p219 w.drew fun l220 => C.tocsinlaw19_told b211 s212 s213 n214 n215 l216 l218 l220 w.drew fun b221 w222 => G.cond (!b221) (S38 K kc5 kc33 script_200 r_201 k_202 done_203 i_204 a_205 now_206 j_207 long_208 w222) (G.ix done_203.a done_203.n n_209 2 fun p223 => G.cI .i64 p223 w222.drew fun n224 => G.ptr r_201 fun p225 => G.cI .i64 (p225.add 3) w222.drew fun n226 => G.cond (decide ((IntKind.i64.wrap (now_206 - n224)) ≥ n226)) (S38 K kc5 kc33 script_200 r_201 k_202 done_203 i_204 a_205 now_206 j_207 true w222.drew) (kc41 script_200 r_201 k_202 done_203 i_204 a_205 now_206 j_207 long_208 (IntKind.i64.wrap (n_209 - (1 : Int))) w222.drew))) (S38 K kc5 kc33 script_200 r_201 k_202 done_203 i_204 a_205 now_206 j_207 long_208 w)
theorem S43_ok (Kv : VW) (kc5 : Cur g5) (kc33 : Cur g33) (kc41 : Cur g41) : OkT pr false none 193 g41 (S43 (Kt Kv) kc5 kc33 kc41) (lp (blk (tl 1 (s1 (tl 1 (tl 1 (blk (s1 (tl 1 (lp (blk (tl 1 (s1 (tl 4 (blk (s1 (tl 1 (lp (blk (tl 1 (s1 (tl 6 bd)))))))))))))))))))))) (P42 Kv kc5 kc33 kc41) := ok_last mixed FOk_ fun v ρ w => by kernel_rfl
def L41 (K : KT) (kc5 : Cur g5) (kc33 : Cur g33) : Cur g41 := loopC g41 (S43 K kc5 kc33)
theorem L41_ok (Kv : VW) (kc5 : Cur g5) (kc33 : Cur g33) : OkT pr false none 193 g41 (L41 (Kt Kv) kc5 kc33) (blk (tl 1 (s1 (tl 1 (tl 1 (blk (s1 (tl 1 (lp (blk (tl 1 (s1 (tl 4 (blk (s1 (tl 1 (lp (blk (tl 1 (s1 (tl 6 bd))))))))))))))))))))) (P40 Kv kc5 kc33) := ok_loop (B := S43 (Kt Kv) kc5 kc33) (by kernel_rfl) fun kc => S43_ok Kv kc5 kc33 kc
theorem L41_ind {K : KT} {kc5 : Cur g5} {kc33 : Cur g33} {script_180 : Sl} {r_181 : Option Addr} {k_182 : Option Addr} {done_183 : Sl} {i_184 : Int} {a_185 : Sl} {now_186 : Int} {j_187 : Int} {long_188 : Bool} {n_189 : Int} {w : World} (h : ∀ X : Cur g41, (∀ script_180 r_181 k_182 done_183 i_184 a_185 now_186 j_187 long_188 n_189 w, S43 K kc5 kc33 X script_180 r_181 k_182 done_183 i_184 a_185 now_186 j_187 long_188 n_189 w → X script_180 r_181 k_182 done_183 i_184 a_185 now_186 j_187 long_188 n_189 w) → X script_180 r_181 k_182 done_183 i_184 a_185 now_186 j_187 long_188 n_189 w) : L41 K kc5 kc33 script_180 r_181 k_182 done_183 i_184 a_185 now_186 j_187 long_188 n_189 w := fun X hX => h X fun script_180 r_181 k_182 done_183 i_184 a_185 now_186 j_187 long_188 n_189 w hb => hX (script_180, r_181, k_182, done_183, i_184, a_185, now_186, j_187, long_188, n_189, ()) w hb
theorem B44 (Kv : VW) (kc5 : Cur g5) (kc33 : Cur g33) : OkT pr false none 193 g41 (L41 (Kt Kv) kc5 kc33) (tl 1 (s1 (tl 1 (tl 1 (blk (s1 (tl 1 (lp (blk (tl 1 (s1 (tl 4 (blk (s1 (tl 1 (lp (blk (tl 1 (s1 (tl 6 bd)))))))))))))))))))) (P39 Kv kc5 kc33) := ok_block 4 (by kernel_rfl) (L41_ok Kv kc5 kc33)
def S45 (K : KT) (kc5 : Cur g5) (kc33 : Cur g33) (script_227 : Sl) (r_228 : Option Addr) (k_229 : Option Addr) (done_230 : Sl) (i_231 : Int) (a_232 : Sl) (now_233 : Int) (j_234 : Int) (long_235 : Bool) (w : World) : Prop :=
  L41 K kc5 kc33 script_227 r_228 k_229 done_230 i_231 a_232 now_233 j_234 long_235 (IntKind.i64.wrap (((done_230.n : Nat) : Int) - (1 : Int))) w
theorem S45_ok (Kv : VW) (kc5 : Cur g5) (kc33 : Cur g33) : OkT pr false none 193 g38 (S45 (Kt Kv) kc5 kc33) (s1 (tl 1 (tl 1 (blk (s1 (tl 1 (lp (blk (tl 1 (s1 (tl 4 (blk (s1 (tl 1 (lp (blk (tl 1 (s1 (tl 6 bd))))))))))))))))))) (P39 Kv kc5 kc33) := ok_group mixed FOk_ 1 (B44 Kv kc5 kc33) fun v ρ w => by kernel_rfl
theorem Q46 (Kv : VW) (kc5 : Cur g5) (kc33 : Cur g33) : OkT pr false none 193 g38 (S45 (Kt Kv) kc5 kc33) (tl 1 (tl 1 (blk (s1 (tl 1 (lp (blk (tl 1 (s1 (tl 4 (blk (s1 (tl 1 (lp (blk (tl 1 (s1 (tl 6 bd)))))))))))))))))) (P37 Kv kc5 kc33) := ok_seq (by kernel_rfl) (S38_ok Kv kc5 kc33) (S45_ok Kv kc5 kc33)
def S47 (K : KT) (kc5 : Cur g5) (kc33 : Cur g33) (script_236 : Sl) (r_237 : Option Addr) (k_238 : Option Addr) (done_239 : Sl) (i_240 : Int) (a_241 : Sl) (now_242 : Int) (j_243 : Int) (w : World) : Prop :=
  S45 K kc5 kc33 script_236 r_237 k_238 done_239 i_240 a_241 now_242 j_243 false w
theorem S47_ok (Kv : VW) (kc5 : Cur g5) (kc33 : Cur g33) : OkT pr false none 193 g33 (S47 (Kt Kv) kc5 kc33) (tl 1 (blk (s1 (tl 1 (lp (blk (tl 1 (s1 (tl 4 (blk (s1 (tl 1 (lp (blk (tl 1 (s1 (tl 6 bd))))))))))))))))) (P37 Kv kc5 kc33) := ok_group mixed FOk_ 1 (Q46 Kv kc5 kc33) fun v ρ w => by kernel_rfl
def S48 (K : KT) (kc5 : Cur g5) (kc33 : Cur g33) (script_244 : Sl) (r_245 : Option Addr) (k_246 : Option Addr) (done_247 : Sl) (i_248 : Int) (a_249 : Sl) (now_250 : Int) (j_251 : Int) (w : World) : Prop :=
  G.ptr r_245 fun p252 => G.cB p252 w.drew fun b253 => G.cS (p252.add 1) w.drew fun s254 => G.cS (p252.add 2) w.drew fun s255 => G.cI .i64 (p252.add 3) w.drew fun n256 => G.cI .i64 (p252.add 4) w.drew fun n257 => G.cSl (p252.add 5) w.drew fun l258 => G.ix script_244.a script_244.n i_248 2 fun p259 => G.cSl (p259.add 1) w.drew fun l260 => G.ix a_249.a a_249.n j_251 6 fun p261 => G.cSl p261 w.drew fun l262 => C.tocsinlaw19_told b253 s254 s255 n256 n257 l258 l260 l262 w.drew fun b263 w264 => G.cond (!b263) (K false w264) (G.ptr r_245 fun p265 => G.cI .i64 (p265.add 3) w264 fun n266 => G.cond (n266 == (0 : Int)) (G.ix a_249.a a_249.n j_251 6 fun p267 => G.cI .i64 (p267.add 1) w264 fun n268 => G.cond (n268 != (2 : Int)) (K false w264) (S47 K kc5 kc33 script_244 r_245 k_246 done_247 i_248 a_249 now_250 j_251 w264)) (S47 K kc5 kc33 script_244 r_245 k_246 done_247 i_248 a_249 now_250 j_251 w264))
theorem S48_ok (Kv : VW) (kc5 : Cur g5) (kc33 : Cur g33) : OkT pr false none 193 g33 (S48 (Kt Kv) kc5 kc33) (blk (s1 (tl 1 (lp (blk (tl 1 (s1 (tl 4 (blk (s1 (tl 1 (lp (blk (tl 1 (s1 (tl 6 bd)))))))))))))))) (P37 Kv kc5 kc33) := ok_group mixed FOk_ 1 (S47_ok Kv kc5 kc33) fun v ρ w => by kernel_rfl
theorem B49 (Kv : VW) (kc5 : Cur g5) (kc33 : Cur g33) : OkT pr false none 193 g33 (S48 (Kt Kv) kc5 kc33) (s1 (tl 1 (lp (blk (tl 1 (s1 (tl 4 (blk (s1 (tl 1 (lp (blk (tl 1 (s1 (tl 6 bd))))))))))))))) (P36 Kv kc5 kc33) := ok_block 3 (by kernel_rfl) (S48_ok Kv kc5 kc33)
theorem Q50 (Kv : VW) (kc5 : Cur g5) (kc33 : Cur g33) : OkT pr false none 193 g33 (S48 (Kt Kv) kc5 kc33) (tl 1 (lp (blk (tl 1 (s1 (tl 4 (blk (s1 (tl 1 (lp (blk (tl 1 (s1 (tl 6 bd)))))))))))))) (P34 Kv kc5 kc33) := ok_seq (by kernel_rfl) (S35_ok Kv kc5 kc33) (B49 Kv kc5 kc33)
def S51 (K : KT) (kc5 : Cur g5) (kc33 : Cur g33) (script_269 : Sl) (r_270 : Option Addr) (k_271 : Option Addr) (done_272 : Sl) (i_273 : Int) (a_274 : Sl) (now_275 : Int) (j_276 : Int) (w : World) : Prop :=
  G.cond (decide (j_276 < ((a_274.n : Nat) : Int))) (S48 K kc5 kc33 script_269 r_270 k_271 done_272 i_273 a_274 now_275 j_276 w) (S30 K kc5 script_269 r_270 k_271 done_272 i_273 a_274 w)
theorem S51_ok (Kv : VW) (kc5 : Cur g5) (kc33 : Cur g33) : OkT pr false none 193 g33 (S51 (Kt Kv) kc5 kc33) (lp (blk (tl 1 (s1 (tl 4 (blk (s1 (tl 1 (lp (blk (tl 1 (s1 (tl 6 bd))))))))))))) (P34 Kv kc5 kc33) := ok_group mixed FOk_ 1 (Q50 Kv kc5 kc33) fun v ρ w => by kernel_rfl
def L33 (K : KT) (kc5 : Cur g5) : Cur g33 := loopC g33 (S51 K kc5)
theorem L33_ok (Kv : VW) (kc5 : Cur g5) : OkT pr false none 193 g33 (L33 (Kt Kv) kc5) (blk (tl 1 (s1 (tl 4 (blk (s1 (tl 1 (lp (blk (tl 1 (s1 (tl 6 bd)))))))))))) (P32 Kv kc5) := ok_loop (B := S51 (Kt Kv) kc5) (by kernel_rfl) fun kc => S51_ok Kv kc5 kc
theorem L33_ind {K : KT} {kc5 : Cur g5} {script_145 : Sl} {r_146 : Option Addr} {k_147 : Option Addr} {done_148 : Sl} {i_149 : Int} {a_150 : Sl} {now_151 : Int} {j_152 : Int} {w : World} (h : ∀ X : Cur g33, (∀ script_145 r_146 k_147 done_148 i_149 a_150 now_151 j_152 w, S51 K kc5 X script_145 r_146 k_147 done_148 i_149 a_150 now_151 j_152 w → X script_145 r_146 k_147 done_148 i_149 a_150 now_151 j_152 w) → X script_145 r_146 k_147 done_148 i_149 a_150 now_151 j_152 w) : L33 K kc5 script_145 r_146 k_147 done_148 i_149 a_150 now_151 j_152 w := fun X hX => h X fun script_145 r_146 k_147 done_148 i_149 a_150 now_151 j_152 w hb => hX (script_145, r_146, k_147, done_148, i_149, a_150, now_151, j_152, ()) w hb
theorem B52 (Kv : VW) (kc5 : Cur g5) : OkT pr false none 193 g33 (L33 (Kt Kv) kc5) (tl 1 (s1 (tl 4 (blk (s1 (tl 1 (lp (blk (tl 1 (s1 (tl 6 bd))))))))))) (P31 Kv kc5) := ok_block 2 (by kernel_rfl) (L33_ok Kv kc5)
@[reducible] def g53 : List SE := [.v 1 .sl, .v 2 .ptr, .v 5 .ptr, .v 7 .sl, .v 8 (.int .i64), .v 9 .sl, .v 12 (.int .i64)]
def S53 (K : KT) (kc5 : Cur g5) (script_277 : Sl) (r_278 : Option Addr) (k_279 : Option Addr) (done_280 : Sl) (i_281 : Int) (a_282 : Sl) (now_283 : Int) (w : World) : Prop :=
  L33 K kc5 script_277 r_278 k_279 done_280 i_281 a_282 now_283 (0 : Int) w
theorem S53_ok (Kv : VW) (kc5 : Cur g5) : OkT pr false none 193 g53 (S53 (Kt Kv) kc5) (s1 (tl 4 (blk (s1 (tl 1 (lp (blk (tl 1 (s1 (tl 6 bd)))))))))) (P31 Kv kc5) := ok_group mixed FOk_ 1 (B52 Kv kc5) fun v ρ w => by kernel_rfl
theorem Q54 (Kv : VW) (kc5 : Cur g5) : OkT pr false none 193 g53 (S53 (Kt Kv) kc5) (tl 4 (blk (s1 (tl 1 (lp (blk (tl 1 (s1 (tl 6 bd))))))))) (P9 Kv kc5) := ok_seq (by kernel_rfl) (S30_ok Kv kc5) (S53_ok Kv kc5)
def S55 (K : KT) (kc5 : Cur g5) (script_284 : Sl) (r_285 : Option Addr) (k_286 : Option Addr) (done_287 : Sl) (i_288 : Int) (w : World) : Prop :=
  G.ix script_284.a script_284.n i_288 2 fun p289 => G.cI .i64 p289 w.drew fun n290 => G.ix script_284.a script_284.n i_288 2 fun p291 => G.cSl (p291.add 1) w.drew fun l292 => C.rules_Keeper_Step k_286 n290 l292 w.drew fun l293 l294 n295 w296 => G.cond (n295 != (0 : Int)) (S7 K kc5 script_284 r_285 k_286 done_287 i_288 w296) (G.ix script_284.a script_284.n i_288 2 fun p297 => G.cI .i64 p297 w296 fun n298 => G.cSl (p297.add 1) w296 fun l299 => G.new (.cells #[(.int .i64 n298), l299.v] 37) w296 fun p300 w301 => G.runSl pr (Builtin.append_ #[25, 25] 25 #[done_287.v, (Sl.v (⟨some p300, 1, 1⟩ : Sl))]) w301 fun l302 w303 => G.ix script_284.a script_284.n i_288 2 fun p304 => G.cI .i64 p304 w303 fun n305 => S53 K kc5 script_284 r_285 k_286 l302 i_288 l293 n305 w303)
theorem S55_ok (Kv : VW) (kc5 : Cur g5) : OkT pr false none 193 g5 (S55 (Kt Kv) kc5) (blk (s1 (tl 1 (lp (blk (tl 1 (s1 (tl 6 bd)))))))) (P9 Kv kc5) := ok_group mixed FOk_ 4 (Q54 Kv kc5) fun v ρ w => by kernel_rfl
theorem B56 (Kv : VW) (kc5 : Cur g5) : OkT pr false none 193 g5 (S55 (Kt Kv) kc5) (s1 (tl 1 (lp (blk (tl 1 (s1 (tl 6 bd))))))) (P8 Kv kc5) := ok_block 1 (by kernel_rfl) (S55_ok Kv kc5)
theorem Q57 (Kv : VW) (kc5 : Cur g5) : OkT pr false none 193 g5 (S55 (Kt Kv) kc5) (tl 1 (lp (blk (tl 1 (s1 (tl 6 bd)))))) (P6 Kv kc5) := ok_seq (by kernel_rfl) (S7_ok Kv kc5) (B56 Kv kc5)
def S58 (K : KT) (kc5 : Cur g5) (script_306 : Sl) (r_307 : Option Addr) (k_308 : Option Addr) (done_309 : Sl) (i_310 : Int) (w : World) : Prop :=
  G.cond (decide (i_310 < ((script_306.n : Nat) : Int))) (G.cond (decide (i_310 < (60 : Int))) (S55 K kc5 script_306 r_307 k_308 done_309 i_310 w) (S2 K w)) (S2 K w)
theorem S58_ok (Kv : VW) (kc5 : Cur g5) : OkT pr false none 193 g5 (S58 (Kt Kv) kc5) (lp (blk (tl 1 (s1 (tl 6 bd))))) (P6 Kv kc5) := ok_group mixed FOk_ 1 (Q57 Kv kc5) fun v ρ w => by kernel_rfl
def L5 (K : KT) : Cur g5 := loopC g5 (S58 K)
theorem L5_ok (Kv : VW) : OkT pr false none 193 g5 (L5 (Kt Kv)) (blk (tl 1 (s1 (tl 6 bd)))) (P4 Kv) := ok_loop (B := S58 (Kt Kv)) (by kernel_rfl) fun kc => S58_ok Kv kc
theorem L5_ind {K : KT} {script_25 : Sl} {r_26 : Option Addr} {k_27 : Option Addr} {done_28 : Sl} {i_29 : Int} {w : World} (h : ∀ X : Cur g5, (∀ script_25 r_26 k_27 done_28 i_29 w, S58 K X script_25 r_26 k_27 done_28 i_29 w → X script_25 r_26 k_27 done_28 i_29 w) → X script_25 r_26 k_27 done_28 i_29 w) : L5 K script_25 r_26 k_27 done_28 i_29 w := fun X hX => h X fun script_25 r_26 k_27 done_28 i_29 w hb => hX (script_25, r_26, k_27, done_28, i_29, ()) w hb
theorem B59 (Kv : VW) : OkT pr false none 193 g5 (L5 (Kt Kv)) (tl 1 (s1 (tl 6 bd))) (P3 Kv) := ok_block 0 (by kernel_rfl) (L5_ok Kv)
@[reducible] def g60 : List SE := [.v 1 .sl, .v 2 .ptr, .v 5 .ptr, .v 7 .sl]
def S60 (K : KT) (script_311 : Sl) (r_312 : Option Addr) (k_313 : Option Addr) (done_314 : Sl) (w : World) : Prop :=
  L5 K script_311 r_312 k_313 done_314 (0 : Int) w
theorem S60_ok (Kv : VW) : OkT pr false none 193 g60 (S60 (Kt Kv)) (s1 (tl 6 bd)) (P3 Kv) := ok_group mixed FOk_ 1 (B59 Kv) fun v ρ w => by kernel_rfl
theorem Q61 (Kv : VW) : OkT pr false none 193 g60 (S60 (Kt Kv)) (tl 6 bd) (P1 Kv) := ok_seq (by kernel_rfl) (S2_ok Kv) (S60_ok Kv)
end tocsinlaw19_RulesFor
def tocsinlaw19_RulesFor (r_2 : Bool) (r_3 : ByteArray) (r_4 : ByteArray) (r_5 : Int) (r_6 : Int) (r_7 : Sl) (script_8 : Sl) (w : World) (K : tocsinlaw19_RulesFor.KT) : Prop :=
  G.new (.cells #[(.bool r_2), (.string r_3), (.string r_4), (.int .i64 r_5), (.int .i64 r_6), r_7.v] 24) w fun p315 w316 => G.st (p315.add 4) (.int .i64 (0 : Int)) w316 fun w317 => G.cB p315 w317 fun b318 => G.cS (p315.add 1) w317 fun s319 => G.cS (p315.add 2) w317 fun s320 => G.cI .i64 (p315.add 3) w317 fun n321 => G.cI .i64 (p315.add 4) w317 fun n322 => G.cSl (p315.add 5) w317 fun l323 => C.rules_New b318 s319 s320 n321 n322 l323 w317 fun p324 n325 w326 => G.cond (n325 != (0 : Int)) (G.cond p324.isNone (C.tocsinlaw19_known w326 fun b327 w328 => K b327 w328) (K false w326)) (G.cond p324.isNone (K false w326) (tocsinlaw19_RulesFor.S60 K script_8 (some p315) p324 nilS w326))
def tocsinlaw19_RulesFor.cl : CL := fun args K w => match args with
  | [.agg ⟨[.bool x0_0, .string x0_1, .string x0_2, .int .i64 x0_3, .int .i64 x0_4, .slice x0_5_a x0_5_n x0_5_c]⟩, .slice x1_a x1_n x1_c] => C.tocsinlaw19_RulesFor x0_0 x0_1 x0_2 x0_3 x0_4 ⟨x0_5_a, x0_5_n, x0_5_c⟩ ⟨x1_a, x1_n, x1_c⟩ w (tocsinlaw19_RulesFor.Kt K)
  | _ => False
theorem tocsinlaw19_RulesFor.clok : OkC pr 3 tocsinlaw19_RulesFor.cl := by
  intro args K w h
  unfold tocsinlaw19_RulesFor.cl at h
  split at h
  · exact calls_group false mixed tocsinlaw19_RulesFor.FOk_ tocsinlaw19_RulesFor.fn rfl 6 (tocsinlaw19_RulesFor.Q61 K) (Eq.mp (by kernel_rfl) h)
  · exact h.elim
end C
end Go.Proofs.YtechilkjfhpkpaaGreatDoor

namespace Go.Proofs.YtechilkjfhpkpaaGreatDoor.Utf
open Go Vm Go.RowKit Num Mem Lib
set_option maxRecDepth 10000
abbrev bytes (s : ByteArray) : List UInt8 := s.data.toList
theorem ixS_at {s : ByteArray} {i : Int} {k : Nat} (hi : i = (k : Int)) (hk : k < s.size) {K : Int → Prop} (hK : K (((bytes s).getD k 0).toNat : Int)) : G.ixS s i K := by
  subst hi
  refine ⟨(bytes s).getD k 0, by omega, ?_, hK⟩
  rw [Int.toNat_natCast, getElem?_pos s k hk]
  have hk' : k < s.data.toList.length := by rw [← size_eq]; exact hk
  congr 1
  rw [List.getD_eq_getElem?_getD, List.getElem?_eq_getElem hk', Option.getD_some]
  rfl
theorem slcS_at {s : ByteArray} {i : Int} {k : Nat} (hi : i = (k : Int)) (hk : k ≤ s.size) {K : ByteArray → Prop} (hK : K (s.extract k s.size)) : G.slcS s i ((s.size : Nat) : Int) K := by
  subst hi
  exact ⟨⟨by omega, by omega, by omega⟩, by simpa using hK⟩
end Go.Proofs.YtechilkjfhpkpaaGreatDoor.Utf

namespace Go.Proofs.YtechilkjfhpkpaaGreatDoor.Utf
open Go Vm Go.RowKit Num Mem Lib
set_option maxRecDepth 10000
abbrev UTab (w : World) : Prop := Utf8Tabs 2 3 w
theorem UTab.keep {w w' : World} (h : UTab w) (k : Keep w w') : UTab w' := ⟨fun c hc => k.cell (h.1 c hc), fun i hi => ⟨k.cell (h.2 i hi).1, k.cell (h.2 i hi).2⟩⟩
theorem orByte {a k m : Nat} {c : UInt8} (hk : k ≤ 56) (hm : m = 2 ^ k) (ha : a < m) : Go.bits .or .u64 (a : Int) (shl .u64 (IntKind.u64.wrap (c.toNat : Int)) (k : Int)) = ((a + c.toNat * m : Nat) : Int) := by
  have hc := c.toNat_lt
  subst hm
  have hp : 2 ^ k ≤ 2 ^ 56 := Nat.pow_le_pow_right (by decide) hk
  have hx : c.toNat * 2 ^ k ≤ 255 * 2 ^ 56 := Nat.mul_le_mul (by omega) hp
  rw [wU64_id (x := (c.toNat : Int)) (by omega) (by omega), shl_nat .u64 _ k (by simp only [IntKind.bits]; omega), show (c.toNat : Int) * 2 ^ k = ((c.toNat * 2 ^ k : Nat) : Int) by simp, wU64_id (by omega) (by omega),
    bits_or rfl (by simp only [IntKind.bits]; omega) (by simp only [IntKind.bits]; omega), Nat.or_comm, Nat.mul_comm, ← Nat.two_pow_add_eq_or_of_lt ha, Nat.add_comm]
abbrev word (s : ByteArray) : Nat := leNat [s.get! 0, s.get! 1, s.get! 2, s.get! 3, s.get! 4, s.get! 5, s.get! 6, s.get! 7]
theorem word_ok {s : ByteArray} (hs : 8 ≤ s.size) {w : World} {K : Int → World → Prop} (hK : K ((word s : Nat) : Int) w.drew) : C.utf8_word_string s w K := by
  unfold C.utf8_word_string
  have e8 : (8 : Int) = ((8 : Nat) : Int) := rfl
  have e16 : (16 : Int) = ((16 : Nat) : Int) := rfl
  have e24 : (24 : Int) = ((24 : Nat) : Int) := rfl
  have e32 : (32 : Int) = ((32 : Nat) : Int) := rfl
  have e40 : (40 : Int) = ((40 : Nat) : Int) := rfl
  have e48 : (48 : Int) = ((48 : Nat) : Int) := rfl
  have e56 : (56 : Int) = ((56 : Nat) : Int) := rfl
  have h0 := ((bytes s).getD 0 0).toNat_lt
  have h1 := ((bytes s).getD 1 0).toNat_lt
  have h2 := ((bytes s).getD 2 0).toNat_lt
  have h3 := ((bytes s).getD 3 0).toNat_lt
  have h4 := ((bytes s).getD 4 0).toNat_lt
  have h5 := ((bytes s).getD 5 0).toNat_lt
  have h6 := ((bytes s).getD 6 0).toNat_lt
  have h7 := ((bytes s).getD 7 0).toNat_lt
  refine ixS_at (k := 0) rfl (by omega) ?_
  refine ixS_at (k := 1) rfl (by omega) ⟨by decide, ?_⟩
  refine ixS_at (k := 2) rfl (by omega) ⟨by decide, ?_⟩
  refine ixS_at (k := 3) rfl (by omega) ⟨by decide, ?_⟩
  refine ixS_at (k := 4) rfl (by omega) ⟨by decide, ?_⟩
  refine ixS_at (k := 5) rfl (by omega) ⟨by decide, ?_⟩
  refine ixS_at (k := 6) rfl (by omega) ⟨by decide, ?_⟩
  refine ixS_at (k := 7) rfl (by omega) ⟨by decide, ?_⟩
  unfold word at hK
  simp only [← Lib.getD_get!', leNat] at hK
  rw [wU64_id (x := (((bytes s).getD 0 0).toNat : Int)) (by omega) (by omega), e8, orByte (m := 256) (by decide) rfl (by omega), e16, orByte (m := 65536) (by decide) rfl (by omega), e24, orByte (m := 16777216) (by decide) rfl (by omega),
    e32, orByte (m := 4294967296) (by decide) rfl (by omega), e40, orByte (m := 1099511627776) (by decide) rfl (by omega), e48, orByte (m := 281474976710656) (by decide) rfl (by omega), e56, orByte (m := 72057594037927936) (by decide) rfl (by omega)]
  refine Eq.mp (congrArg (fun x : Nat => K (x : Int) w.drew) ?_) hK
  simp only [bytes]
  omega
theorem maskInt {n : Nat} (h : n < 18446744073709551616) : Go.bits .and .u64 (n : Int) (9259542123273814144 : Int) = ((n &&& 9259542123273814144 : Nat) : Int) :=
  bits_and rfl (by simp only [IntKind.bits]; omega) (by decide)
theorem or64 {a b : Nat} (ha : a < 18446744073709551616) (hb : b < 18446744073709551616) : Go.bits .or .u64 (a : Int) (b : Int) = ((a ||| b : Nat) : Int) :=
  bits_or rfl (by simp only [IntKind.bits]; omega) (by simp only [IntKind.bits]; omega)
theorem or64_lt {a b : Nat} (ha : a < 18446744073709551616) (hb : b < 18446744073709551616) : a ||| b < 18446744073709551616 := Nat.or_lt_two_pow (n := 64) ha hb
theorem newPair {w : World} {t : TypeId} {x y a b : Value} (ha : a.oneCell' = true) (hb : b.oneCell' = true) {K : Addr → World → Prop} (hK : ∀ p w', Keep w w' → w'.cell? p = some a → w'.cell? (p.add 1) = some b → K p w') :
    G.new (.cells #[x, y] t) w fun p w1 => G.st p a w1 fun w2 => G.st (p.add 1) b w2 fun w3 => K p w3 := by
  have b1 := Blk.new w t #[x, y]
  have b2 := b1.set 0 a
  have b3 := b2.set 1 b
  have k1 : Keep w (((w.alloc (.cells #[x, y] t)).setCell ⟨w.heap.size, 0, none⟩ a).setCell ⟨w.heap.size, 1, none⟩ b) :=
    ((Keep.alloc w _).setCell (p := ⟨w.heap.size, 0, none⟩) (Nat.le_refl _) a).setCell (p := ⟨w.heap.size, 1, none⟩) (Nat.le_refl _) b
  refine ⟨⟨x, by rw [b1.cell]; rfl⟩, b1.frozen 0, ⟨y, ?_⟩, ?_, ?_⟩
  · rw [addr_add, b2.cell]; rfl
  · rw [addr_add]; exact b2.frozen _
  · rw [addr_add]
    exact hK _ _ k1 (by rw [b3.cell]; rfl) (by rw [addr_add, b3.cell]; rfl)
theorem chk2 {s : ByteArray} {p : Addr} {w : World} {lo hi : Nat} {F N : Prop} (h1 : w.cell? p = some (.int .u8 (lo : Int))) (h2 : w.cell? (p.add 1) = some (.int .u8 (hi : Int))) (hs : 1 < s.size)
    (hF : ((bytes s).getD 1 0).toNat < lo ∨ hi < ((bytes s).getD 1 0).toNat → F) (hN : ¬ (((bytes s).getD 1 0).toNat < lo ∨ hi < ((bytes s).getD 1 0).toNat) → N) :
    G.ixS s (1 : Int) fun n => G.cI .u8 p w fun m => G.cond (decide (n < m)) F (G.cI .u8 (p.add 1) w fun m' => G.ixS s (1 : Int) fun n' => G.cond (decide (m' < n')) F N) := by
  refine ixS_at (k := 1) rfl hs ⟨_, h1, ?_⟩
  refine cond_d (fun h => hF (.inl (by omega))) (fun h => ?_)
  refine ⟨_, h2, ixS_at (k := 1) rfl hs ?_⟩
  exact cond_d (fun h' => hF (.inr (by omega))) (fun h' => hN (by omega))
theorem chkC {s : ByteArray} {i : Int} {k : Nat} {F N : Prop} (hi : i = (k : Int)) (hs : k < s.size) (hF : ((bytes s).getD k 0).toNat < 128 ∨ 191 < ((bytes s).getD k 0).toNat → F)
    (hN : ¬ (((bytes s).getD k 0).toNat < 128 ∨ 191 < ((bytes s).getD k 0).toNat) → N) :
    G.ixS s i fun n => G.cond (decide (n < (128 : Int))) F (G.ixS s i fun n' => G.cond (decide ((191 : Int) < n')) F N) := by
  refine ixS_at hi hs ?_
  refine cond_d (fun h => hF (.inl (by omega))) (fun h => ?_)
  refine ixS_at hi hs ?_
  exact cond_d (fun h' => hF (.inr (by omega))) (fun h' => hN (by omega))
theorem firstT_lt (c : Nat) : firstT c < 256 := by
  rcases firstT_cases c with h | h | h | h | h | h | h | h | h <;> omega
theorem bits7 {f : Nat} (h : f < 256) : IntKind.i64.wrap (Go.bits .and .u8 (f : Int) (7 : Int)) = ((f % 8 : Nat) : Int) := by
  rw [show (7 : Int) = ((7 : Nat) : Int) from rfl, bits_and rfl (by simp only [IntKind.bits]; omega) (by decide), show f &&& 7 = f % 8 from Nat.and_two_pow_sub_one_eq_mod f 3, wI64 (by omega) (by omega)]
theorem shr4 {f : Nat} : shr .u8 (f : Int) (4 : Int) = ((f / 16 : Nat) : Int) := by
  have := shr_nat .u8 (f : Int) 4 (by decide)
  rw [show ((4 : Nat) : Int) = (4 : Int) from rfl] at this
  rw [this]; omega
theorem lead_ok {K : C.utf8_ValidString.KT} {kc : Cur C.utf8_ValidString.g5} {s : ByteArray} {w0 w : World} (ht : UTab w) (h0 : 0 < s.size) (hc : 128 ≤ ((bytes s).getD 0 0).toNat) (k0 : Keep w0 w)
    (hF : validD (bytes s) = false → ∀ w', Keep w0 w' → K false w') (hN : ∀ k w', 0 < k → k ≤ s.size → validD (bytes s) = validD (bytes (s.extract k s.size)) → Keep w0 w' → kc (s.extract k s.size) w') :
    C.utf8_ValidString.S8 K kc s (((bytes s).getD 0 0).toNat : Int) w := by
  have hlen : (bytes s).length = s.size := (size_eq s).symm
  have hv := validD_lead (bytes s) (fun e => by rw [e] at hlen; simp at hlen; omega) hc
  rw [hlen] at hv
  have hc' := ((bytes s).getD 0 0).toNat_lt
  have hf := firstT_lt ((bytes s).getD 0 0).toNat
  have hcell := ht.1 _ (show ((bytes s).getD 0 0).toNat < 256 from hc')
  generalize ((bytes s).getD 0 0).toNat = c at *
  generalize firstT c = f at *
  obtain ⟨a1, a2⟩ := ht.2 (f / 16) (by omega)
  generalize accLo (f / 16) = lo at *
  generalize accHi (f / 16) = hi at *
  have drop : ∀ k, bytes (s.extract k s.size) = (bytes s).drop k := fun k => ext_list s k
  unfold C.utf8_ValidString.S8
  refine ⟨⟨by omega, by omega⟩, (f : Int), ?_, by decide, ?_⟩
  · rw [addr_add]; simpa using hcell
  rw [shr4]
  refine ⟨⟨by omega, by omega⟩, (lo : Int), ?_, (hi : Int), ?_, ?_⟩
  · rw [addr_add, Int.toNat_natCast, Nat.zero_add, Nat.mul_comm]; exact a1
  · rw [addr_add, addr_add, Int.toNat_natCast, Nat.zero_add, Nat.mul_comm]; exact a2
  refine newPair rfl rfl fun p w1 k1 c1 c2 => ?_
  have k2 : Keep w0 w1.drew := Keep.trans (Keep.trans k0 k1) (Keep.drew w1)
  rw [bits7 hf]
  have d1 : w1.drew.cell? p = some (.int .u8 (lo : Int)) := c1
  have d2 : w1.drew.cell? (p.add 1) = some (.int .u8 (hi : Int)) := c2
  refine cond_eq (fun h2 => ?_) (fun h2 => cond_eq (fun h3 => ?_) (fun h3 => cond_eq (fun h4 => ?_) (fun h4 => ?_)))
  · have hm : f % 8 = 2 := by omega
    simp only [hm, checkN, if_true] at hv
    refine cond_d (fun h => ?_) (fun h => ?_)
    · rw [if_pos (by omega)] at hv; exact hF hv _ k2
    refine chk2 d1 d2 (by omega) (fun hb => ?_) (fun hb => ?_)
    · rw [if_pos (by omega)] at hv; exact hF hv _ k2
    rw [if_neg (by omega)] at hv
    exact slcS_at (k := 2) rfl (by omega) (hN 2 _ (by decide) (by omega) (by rw [drop]; exact hv) k2)
  · have hm : f % 8 = 3 := by omega
    simp only [hm, checkN, if_true, show ((3 : Nat) = 2) = False by simp, if_false] at hv
    refine cond_d (fun h => ?_) (fun h => ?_)
    · rw [if_pos (by omega)] at hv; exact hF hv _ k2
    refine chk2 d1 d2 (by omega) (fun hb => ?_) (fun hb => ?_)
    · rw [if_pos (by omega)] at hv; exact hF hv _ k2
    refine chkC (k := 2) rfl (by omega) (fun hb' => ?_) (fun hb' => ?_)
    · rw [if_pos (by omega)] at hv; exact hF hv _ k2
    rw [if_neg (by omega)] at hv
    exact slcS_at (k := 3) rfl (by omega) (hN 3 _ (by decide) (by omega) (by rw [drop]; exact hv) k2)
  · have hm : f % 8 = 4 := by omega
    simp only [hm, checkN, if_true, show ((4 : Nat) = 2) = False by simp, show ((4 : Nat) = 3) = False by simp, if_false] at hv
    refine cond_d (fun h => ?_) (fun h => ?_)
    · rw [if_pos (by omega)] at hv; exact hF hv _ k2
    refine chk2 d1 d2 (by omega) (fun hb => ?_) (fun hb => ?_)
    · rw [if_pos (by omega)] at hv; exact hF hv _ k2
    refine chkC (k := 2) rfl (by omega) (fun hb' => ?_) (fun hb' => ?_)
    · rw [if_pos (by omega)] at hv; exact hF hv _ k2
    refine chkC (k := 3) rfl (by omega) (fun hb'' => ?_) (fun hb'' => ?_)
    · rw [if_pos (by omega)] at hv; exact hF hv _ k2
    rw [if_neg (by omega)] at hv
    exact slcS_at (k := 4) rfl (by omega) (hN 4 _ (by decide) (by omega) (by rw [drop]; exact hv) k2)
  · have h2' : ¬ f % 8 = 2 := by omega
    have h3' : ¬ f % 8 = 3 := by omega
    have h4' : ¬ f % 8 = 4 := by omega
    simp only [checkN, if_neg h2', if_neg h3', if_neg h4'] at hv
    exact hF hv _ (Keep.trans k0 k1)
theorem skip {t : ByteArray} {k : Nat} (h : Asc t k) {b : Bool} (hv : validD (bytes t) = b) : validD (bytes (t.extract k t.size)) = b := by rw [← hv]; exact valid_skip t k h
theorem valid_ok {s : ByteArray} {w0 : World} (ht : UTab w0) (hs : s.size ≤ 140737488355328) {K : Bool → World → Prop} (hK : ∀ w', Keep w0 w' → K (validD (bytes s)) w') : C.utf8_ValidString s w0 K := by
  unfold C.utf8_ValidString
  refine C.utf8_ValidString.L5_ind fun X hX => ?_
  have key : ∀ (N : Nat) (t : ByteArray) (w : World), t.size < N → Keep w0 w → (∀ w', Keep w0 w' → K (validD (bytes t)) w') → X t w := by
    intro N
    induction N with
    | zero => intro t w h; omega
    | succ N ih =>
      intro t w hN k hK
      refine hX _ _ ?_
      unfold C.utf8_ValidString.S32 C.utf8_ValidString.S2
      refine cond_d (fun h0 => ?_) (fun h0 => ?_)
      · have hpos : 0 < t.size := by omega
        unfold C.utf8_ValidString.S30
        refine ixS_at (k := 0) rfl hpos ?_
        unfold C.utf8_ValidString.S28 C.utf8_ValidString.D27
        refine cond_d (fun hc => ?_) (fun hc => ?_)
        · have a1 : Asc t 1 := asc_one t hpos (by rw [← Lib.getD_get!']; exact_mod_cast hc)
          have next : ∀ (u : ByteArray) (w' : World), u.size < t.size → validD (bytes u) = validD (bytes t) → Keep w0 w' → X u w' := fun u w' hu hv k' => ih u w' (by omega) k' (by rw [hv]; exact hK)
          unfold C.utf8_ValidString.S25
          refine slcS_at (k := 1) rfl (by omega) ?_
          have e1 := ext_size t 1
          have v1 := skip a1 rfl
          generalize t.extract 1 t.size = t1 at *
          have out : ∀ w', Keep w0 w' → X t1 w' := fun w' k' => next t1 w' (by omega) v1 k'
          unfold C.utf8_ValidString.S23 C.utf8_ValidString.D22 C.utf8_ValidString.S21 C.utf8_ValidString.S10
          refine cond_d (fun h8 => ?_) (fun _ => cond_f rfl (out w k))
          refine word_ok (by omega) ?_
          have kd : Keep w0 w.drew := Keep.trans k (Keep.drew w)
          rw [maskInt (word_lt t1)]
          refine cond_eq (fun hm => ?_) (fun _ => out _ kd)
          have a8 : Asc t1 8 := (word_asc t1 (by omega)).1 (by exact_mod_cast hm)
          unfold C.utf8_ValidString.S20
          refine slcS_at (k := 8) rfl (by omega) ?_
          have e2 := ext_size t1 8
          have v2 := skip a8 v1
          generalize t1.extract 8 t1.size = t2 at *
          have out2 : ∀ w', Keep w0 w' → X t2 w' := fun w' k' => next t2 w' (by omega) v2 k'
          have kd2 : Keep w0 w.drew.drew := Keep.trans kd (Keep.drew _)
          unfold C.utf8_ValidString.D19 C.utf8_ValidString.S18 C.utf8_ValidString.S10
          refine cond_d (fun h16 => ?_) (fun _ => cond_f rfl (out2 _ kd2))
          refine slcS_at (k := 8) rfl (by omega) ?_
          have e3 := ext_size t2 8
          refine word_ok (by omega) ?_
          refine word_ok (by omega) ?_
          have kd4 : Keep w0 w.drew.drew.drew.drew := Keep.trans (Keep.trans kd2 (Keep.drew _)) (Keep.drew _)
          rw [or64 (word_lt _) (word_lt _), maskInt (or64_lt (word_lt _) (word_lt _))]
          refine cond_eq (fun hm => ?_) (fun _ => out2 _ kd4)
          have hm' : (word t2 ||| word (t2.extract 8 t2.size)) &&& 9259542123273814144 = 0 := by exact_mod_cast hm
          rw [or_mask] at hm'
          have b1 : Asc t2 8 := (word_asc t2 (by omega)).1 hm'.1
          have b2 : Asc (t2.extract 8 t2.size) 8 := (word_asc _ (by omega)).1 hm'.2
          have a16 : Asc t2 16 := asc_add t2 8 8 b1 b2
          unfold C.utf8_ValidString.S17
          refine slcS_at (k := 16) rfl (by omega) ?_
          have e4 := ext_size t2 16
          have v3 := skip a16 v2
          generalize t2.extract 16 t2.size = t3 at *
          refine C.utf8_ValidString.L13_ind fun Y hY => ?_
          have inner : ∀ (M : Nat) (u : ByteArray) (w' : World), u.size < M → u.size < t.size → validD (bytes u) = validD (bytes t) → Keep w0 w' → Y u w' := by
            intro M
            induction M with
            | zero => intro u w' h; omega
            | succ M ihm =>
              intro u w' hM hu hv kk
              refine hY _ _ ?_
              have kk1 : Keep w0 w'.drew := Keep.trans kk (Keep.drew _)
              unfold C.utf8_ValidString.S15 C.utf8_ValidString.S10
              refine cond_d (fun h32 => ?_) (fun _ => next u _ hu hv kk1)
              have f1 := ext_size u 8
              have f2 := ext_size u 16
              have f3 := ext_size u 24
              refine slcS_at (k := 8) rfl (by omega) ?_
              refine slcS_at (k := 16) rfl (by omega) ?_
              refine slcS_at (k := 24) rfl (by omega) ?_
              refine word_ok (by omega) <| word_ok (by omega) <| word_ok (by omega) <| word_ok (by omega) ?_
              have kk5 : Keep w0 w'.drew.drew.drew.drew.drew := Keep.trans (Keep.trans (Keep.trans (Keep.trans kk1 (Keep.drew _)) (Keep.drew _)) (Keep.drew _)) (Keep.drew _)
              rw [or64 (word_lt _) (word_lt _), or64 (word_lt _) (word_lt _), or64 (or64_lt (word_lt _) (word_lt _)) (or64_lt (word_lt _) (word_lt _)), maskInt (or64_lt (or64_lt (word_lt _) (word_lt _)) (or64_lt (word_lt _) (word_lt _)))]
              refine cond_eq (fun hm => ?_) (fun _ => next u _ hu hv kk5)
              have hm' : ((word u ||| word (u.extract 8 u.size)) ||| (word (u.extract 16 u.size) ||| word (u.extract 24 u.size))) &&& 9259542123273814144 = 0 := by exact_mod_cast hm
              rw [or_mask, or_mask, or_mask] at hm'
              have q1 : Asc u 8 := (word_asc u (by omega)).1 hm'.1.1
              have q2 : Asc u 16 := asc_add u 8 8 q1 ((word_asc _ (by omega)).1 hm'.1.2)
              have q3 : Asc u 24 := asc_add u 16 8 q2 ((word_asc _ (by omega)).1 hm'.2.1)
              have q4 : Asc u 32 := asc_add u 24 8 q3 ((word_asc _ (by omega)).1 hm'.2.2)
              refine slcS_at (k := 32) rfl (by omega) ?_
              have f4 := ext_size u 32
              exact ihm _ _ (by omega) (by omega) (skip q4 hv) kk5
          exact inner (t3.size + 1) t3 _ (by omega) (by omega) v3 kd4
        · unfold C.utf8_ValidString.S26
          refine lead_ok (UTab.keep ht k) hpos (by omega) k (fun hv w' k' => by rw [hv] at hK; exact hK w' k') fun n w' h1 h2 hv k' => ?_
          have := ext_size t n
          exact ih _ w' (by omega) k' (by rw [← hv]; exact hK)
      · have hz : bytes t = [] := List.eq_nil_of_length_eq_zero (by rw [← size_eq]; omega)
        rw [hz, validD_nil] at hK
        exact hK w k
  exact key (s.size + 1) s w0 (by omega) (Keep.refl _) hK
end Go.Proofs.YtechilkjfhpkpaaGreatDoor.Utf

namespace Go.Proofs.YtechilkjfhpkpaaGreatDoor.Utf
open Go Vm Go.RowKit Num Mem Lib
theorem convSB {w : World} {s : ByteArray} {K : Sl → World → Prop} (hK : ∀ r w', Keep w w' → RdB w' r (bytes s) → K r w') :
    G.runSl Tryz.prog (Go.convert 9 120 (.string s)) w K := by
  refine ⟨⟨some ⟨w.heap.size, 0, none⟩, s.size, grownCap w s.size 0 5⟩, _, Go.Lib.run_convert_string_bytes (P := Tryz.prog) w 9 120 5 s (u := .string) (by kernel_rfl) (by kernel_rfl) (by kernel_rfl), hK _ _ ?_ ?_⟩
  · refine ⟨?_, ?_, ?_, ?_, fun k hk => bytesWorld_at_old w _ s k hk⟩
    · simp [bytesWorld, World.freeze, World.alloc, World.drew, -World.alloc_eq, -World.drew_eq]
    · simp [bytesWorld, World.freeze, World.alloc, World.drew, -World.alloc_eq, -World.drew_eq]
    · simp [bytesWorld, World.freeze, World.alloc, World.drew, -World.alloc_eq, -World.drew_eq]
    · rw [bytesWorld_size]; omega
  · refine ⟨grownCap_ge w s.size 0 _, by rw [vBs_length, Nat.mul_one, size_eq], fun _ => ⟨_, 0, rfl, fun j v hv => ?_⟩⟩
    rw [Nat.zero_add]
    obtain ⟨hj, he⟩ := List.getElem?_eq_some_iff.1 hv
    rw [vBs_length, ← size_eq] at hj
    rw [bytesWorld_cell w _ s j hj, ← he]
    simp only [vBs, List.getElem_map, vB]
    rw [List.getD_eq_getElem?_getD, List.getElem?_eq_getElem (by rw [← size_eq]; exact hj), Option.getD_some]
theorem fold_push : ∀ (l m : List UInt8), (l.map fun b => (b.toNat : Int)).foldl (fun r n => r.push (UInt8.ofNat n.toNat)) (⟨m.toArray⟩ : ByteArray) = ⟨(m ++ l).toArray⟩
  | [], m => by rw [List.append_nil]; rfl
  | b :: l, m => by
    simp only [List.map_cons, List.foldl_cons]
    have e : (⟨m.toArray⟩ : ByteArray).push (UInt8.ofNat ((b.toNat : Int)).toNat) = ⟨(m ++ [b]).toArray⟩ := by
      simp [ByteArray.push]
    rw [e, fold_push l (m ++ [b])]
    simp
abbrev str (l : List UInt8) : ByteArray := ⟨l.toArray⟩
theorem bytes_str (l : List UInt8) : bytes (str l) = l := by simp [bytes]
theorem convBS {P : Program} {w : World} {b : Sl} {l : List UInt8} (h : RdB w b l) {K : ByteArray → Prop} (hK : K (str l)) : G.rdS P (Conv.bytesToString b.v) w K := by
  refine ⟨_, fun d => ?_, hK⟩
  have hd := Rd.drewN h d
  have hn := RdB.len h
  cases b with
  | mk a n c =>
    simp only at hn
    subst hn
    have go : ∀ x : Addr, (∀ j v, (vBs l)[j]? = some v → (w.drewN d).cell? (x.add j) = some v) → (Conv.bytesToString (.slice (some x) l.length c)).run P (w.drewN d) = .ok (.string (str l)) (w.drewN d) := by
      intro x hx
      have e : vBs l = (l.map fun b => (b.toNat : Int)).map (Value.int .u8) := by
        rw [List.map_map]; rfl
      have hl : (loadCells x l.length).run P (w.drewN d) = .ok ((l.map fun b => (b.toNat : Int)).map (Value.int .u8)).toArray (w.drewN d) := by
        rw [← e]
        have := run_loadCells_list (P := P) (w.drewN d) x (vBs l) hx
        rw [vBs_length] at this
        exact this
      rw [run_bytesToString (w.drewN d) x l.length c _ hl]
      have := fold_push l []
      simp only [List.nil_append] at this
      exact congrArg (fun s => Result.ok (Value.string s) (w.drewN d)) this
    by_cases h0 : vBs l = []
    · have hl0 : l = [] := by cases l with | nil => rfl | cons => simp [vBs] at h0
      subst hl0
      cases a with
      | none => rfl
      | some x => exact go x (by intro j v hv; simp [vBs] at hv)
    · obtain ⟨g, o, ha, hc⟩ := hd.2.2 h0
      simp only at ha
      subst ha
      exact go _ fun j v hv => by rw [addr_add]; exact hc j v hv
end Go.Proofs.YtechilkjfhpkpaaGreatDoor.Utf

namespace Go.Proofs.YtechilkjfhpkpaaGreatDoor.Lab
open Go Vm Num Mem Utf Lib
variable {w w' w0 : World}
def letterB (c : Nat) : Bool := (decide (97 ≤ c) && decide (c ≤ 122)) || (decide (65 ≤ c) && decide (c ≤ 90)) || c == 95
def digitB (c : Nat) : Bool := decide (48 ≤ c) && decide (c ≤ 57)
theorem letter_ok {c : Nat} {K : Bool → World → Prop} (hK : K (letterB c) w) : C.labels_letter (c : Int) w K := by
  unfold C.labels_letter
  have e95 : ∀ b : Bool, letterB c = b → (((c : Int) == (95 : Int)) = (c == 95)) := fun _ _ => by
    cases h : (c == 95) with
    | true => simp at h; subst h; rfl
    | false => simp at h; simp; omega
  have e := e95 _ rfl
  have yes : letterB c = true → K true w := fun h => by rw [h] at hK; exact hK
  have els : (letterB c = (c == 95)) → K ((c : Int) == (95 : Int)) w := fun h => by rw [e, ← h]; exact hK
  refine cond_d (fun h1 => cond_d (fun h2 => yes ?_) (fun h2 => cond_d (fun h3 => cond_d (fun h4 => by omega) (fun h4 => els ?_)) (fun h3 => by omega))) (fun h1 => cond_d (fun h3 => cond_d (fun h4 => yes ?_) (fun h4 => els ?_)) (fun h3 => els ?_))
  all_goals (unfold letterB; simp; try omega)
theorem digit_ok {c : Nat} {K : Bool → World → Prop} (hK : K (digitB c) w) : C.labels_digit (c : Int) w K := by
  unfold C.labels_digit
  unfold digitB at hK
  refine cond_d (fun h => ?_) (fun h => ?_)
  · have e : decide ((c : Int) ≤ 57) = decide (c ≤ 57) := by simp only [decide_eq_decide]; omega
    rw [e]
    rw [decide_eq_true (by omega : 48 ≤ c)] at hK
    exact hK
  · rw [decide_eq_false (by omega : ¬ 48 ≤ c)] at hK
    exact hK
def okB (colon : Bool) (c : Nat) : Bool := letterB c || (digitB c || (colon && c == 58))
def namedB (l : List UInt8) (most : Nat) (colon : Bool) : Bool := !l.isEmpty && (decide (l.length ≤ most) && (!digitB (l.getD 0 0).toNat && l.all fun c => okB colon c.toNat))
theorem named_ok {s : ByteArray} {most : Nat} {m : Int} (hm : m = (most : Int)) (hmm : most ≤ 100000) {colon : Bool} {K : Bool → World → Prop} (hK : ∀ w', Keep w0 w' → K (namedB (Utf.bytes s) most colon) w') : C.labels_named s m colon w0 K := by
  subst hm
  have hsz := size_eq s
  have hl : (Utf.bytes s).length = s.size := hsz.symm
  unfold C.labels_named
  have no : namedB (Utf.bytes s) most colon = false → ∀ w', Keep w0 w' → K false w' := fun h w' k => by have := hK w' k; rwa [h] at this
  have etl : s.toList = Utf.bytes s := ByteArray.toList_eq s
  have e0 : (⟨#[]⟩ : ByteArray).toList = [] := by rw [ByteArray.toList_eq]
  rw [etl, e0]
  refine cond_of (fun h => no ?_ w0 (Keep.refl w0)) (fun h => ?_)
  · have : Utf.bytes s = [] := by simpa using h
    unfold namedB; rw [this]; rfl
  have hne : Utf.bytes s ≠ [] := by intro e; rw [e] at h; simp at h
  have hpos : 0 < s.size := by rw [← hl]; exact List.length_pos_iff.2 hne
  refine cond_d (fun h => no ?_ w0 (Keep.refl w0)) (fun h => ?_)
  · unfold namedB; rw [decide_eq_false (by omega)]; simp
  refine ixS_at (k := 0) rfl hpos (digit_ok ?_)
  have hemp : (Utf.bytes s).isEmpty = false := by cases hb : Utf.bytes s with | nil => exact absurd hb hne | cons _ _ => rfl
  have hle : decide ((Utf.bytes s).length ≤ most) = true := decide_eq_true (by omega)
  refine cond_of (fun h => no ?_ w0 (Keep.refl w0)) (fun hd => ?_)
  · unfold namedB; rw [h]; simp
  have hn : namedB (Utf.bytes s) most colon = (Utf.bytes s).all fun c => okB colon c.toNat := by unfold namedB; rw [hemp, hle, hd]; simp
  rw [hn] at hK no
  unfold C.labels_named.S9
  refine convSB fun r w1 k1 o1 => ?_
  have hr := o1.len
  clear hn hd hle hemp hne etl hsz
  generalize Utf.bytes s = l at *
  refine C.labels_named.L5_ind fun X hX => ?_
  have key : ∀ (d i : Nat), i + d = l.length → (l.take i).all (fun c => okB colon c.toNat) = true → X colon r ((r.n : Nat) : Int) (i : Int) w1 := by
    intro d
    induction d with
    | zero =>
      intro i hi ha
      refine hX _ _ _ _ _ ?_
      unfold C.labels_named.S7 C.labels_named.S2
      refine cond_d (fun h => by omega) (fun _ => ?_)
      rw [List.take_of_length_le (by omega)] at ha
      have := hK w1 k1
      rwa [ha] at this
    | succ d ih =>
      intro i hi ha
      refine hX _ _ _ _ _ ?_
      unfold C.labels_named.S7
      have hil : i < l.length := by omega
      refine cond_d (fun _ => ?_) (fun h => by omega)
      refine RdB.at_ o1 hil ?_
      have next : okB colon l[i].toNat = true → X colon r ((r.n : Nat) : Int) (IntKind.i64.wrap ((i : Int) + 1)) w1 := fun hok => by
        rw [wI64 (by omega) (by omega), show (i : Int) + 1 = ((i + 1 : Nat) : Int) by omega]
        refine ih (i + 1) (by omega) ?_
        rw [List.take_add_one, List.getElem?_eq_getElem hil, List.all_append, ha]
        simp [hok]
      have stop : okB colon l[i].toNat = false → K false w1 := fun hok => no (by
        rw [List.all_eq_false]
        exact ⟨l[i], List.getElem_mem hil, by simp [hok]⟩) w1 k1
      refine letter_ok (cond_of (fun hlt => ?_) (fun hlt => next (by unfold okB; simp at hlt; simp [hlt])))
      refine digit_ok (cond_of (fun hdt => ?_) (fun hdt => next (by unfold okB; simp at hdt; simp [hdt])))
      simp only [Bool.not_eq_true'] at hlt hdt
      refine cond_of (fun hc => ?_) (fun hc => stop (by unfold okB; simp [hlt, hdt, hc]))
      have e58 : ((l[i].toNat : Int) == (58 : Int)) = (l[i].toNat == 58) := by
        cases h : (l[i].toNat == 58) with
        | true => simp at h; simp [h]
        | false => simp at h; simp; omega
      rw [e58]
      refine cond_of (fun h5 => stop (by unfold okB; simp at h5; simp [hlt, hdt, h5])) (fun h5 => next (by unfold okB; simp at h5; simp [hc, h5]))
  exact key l.length 0 (by omega) rfl
end Go.Proofs.YtechilkjfhpkpaaGreatDoor.Lab

namespace Go.Proofs.YtechilkjfhpkpaaGreatDoor.Mem
open Go Vm Go.RowKit Num
abbrev Tg := Nat → Nat
def ext (ω : Tg) (n t : Nat) : Tg := fun k => if k < n then ω k else t
theorem ext_old {ω : Tg} {n t k : Nat} (h : k < n) : ext ω n t k = ω k := if_pos h
theorem ext_new {ω : Tg} {n t k : Nat} (h : n ≤ k) : ext ω n t k = t := if_neg (by omega)
structure Stp (T : Nat → Bool) (ω ω' : Tg) (w w' : World) : Prop where
  os : w'.os = w.os
  tape : w'.tape = w.tape
  output : w'.output = w.output
  size : w.heap.size ≤ w'.heap.size
  same : ∀ k, k < w.heap.size → ω' k = ω k
  block : ∀ k, k < w.heap.size → T (ω k) = false → w'.heap[k]? = w.heap[k]?
abbrev Non : Nat → Bool := fun _ => false
abbrev One (t : Nat) : Nat → Bool := fun u => Nat.beq u t
abbrev Duo (t s : Nat) : Nat → Bool := fun u => Nat.beq u t || Nat.beq u s
theorem beq_no {a b : Nat} (h : a ≠ b) : Nat.beq a b = false := beq_ff h
theorem one_self (t : Nat) : One t t = true := by simp [One]
variable {T T' : Nat → Bool} {ω ω' ω'' : Tg} {w w' w'' w0 : World}
theorem Stp.refl (T : Nat → Bool) (ω : Tg) (w : World) : Stp T ω ω w w := ⟨rfl, rfl, rfl, Nat.le_refl _, fun _ _ => rfl, fun _ _ _ => rfl⟩
theorem Stp.trans (h : Stp T ω ω' w w') (k : Stp T ω' ω'' w' w'') : Stp T ω ω'' w w'' :=
  ⟨k.os.trans h.os, k.tape.trans h.tape, k.output.trans h.output, Nat.le_trans h.size k.size, fun i hi => (k.same i (Nat.lt_of_lt_of_le hi h.size)).trans (h.same i hi), fun i hi hT =>
    (k.block i (Nat.lt_of_lt_of_le hi h.size) (by rw [h.same i hi]; exact hT)).trans (h.block i hi hT)⟩
theorem Stp.mono (h : Stp T ω ω' w w') (hT : ∀ u, T' u = false → T u = false) : Stp T' ω ω' w w' := ⟨h.os, h.tape, h.output, h.size, h.same, fun k hk hn => h.block k hk (hT _ hn)⟩
theorem Stp.non (h : Stp Non ω ω' w w') (T : Nat → Bool) : Stp T ω ω' w w' := h.mono fun _ _ => rfl
theorem Stp.one {t s : Nat} (h : Stp (One t) ω ω' w w') : Stp (Duo t s) ω ω' w w' := h.mono fun u hu => by simp only [Duo, Bool.or_eq_false_iff] at hu; exact hu.1
theorem Stp.two {t s : Nat} (h : Stp (One s) ω ω' w w') : Stp (Duo t s) ω ω' w w' := h.mono fun u hu => by simp only [Duo, Bool.or_eq_false_iff] at hu; exact hu.2
theorem Keep.stp (k : Keep w w') (ω : Tg) (t : Nat) : Stp Non ω (ext ω w.heap.size t) w w' := ⟨k.os, k.tape, k.output, k.size, fun _ hi => ext_old hi, fun i hi _ => k.block i hi⟩
theorem Keep.stp0 (k : Keep w w') (ω : Tg) : Stp Non ω ω w w' := ⟨k.os, k.tape, k.output, k.size, fun _ _ => rfl, fun i hi _ => k.block i hi⟩
theorem Stp.keep (h : Stp Non ω ω' w w') : Keep w w' := ⟨h.os, h.tape, h.output, h.size, fun k hk => h.block k hk rfl⟩
theorem Chg.stp {X : Nat → Prop} {t : Nat} (h : Chg X w w') (hX : ∀ k, X k → ω k = t) : Stp (One t) ω (ext ω w.heap.size t) w w' :=
  ⟨h.os, h.tape, h.output, h.size, fun _ hi => ext_old hi, fun k hk hT => h.block k hk fun hx => by rw [hX k hx, one_self] at hT; cases hT⟩
theorem drew_stp (ω : Tg) (w : World) : Stp Non ω ω w w.drew := (Keep.drew w).stp0 ω
structure Top (w0 : World) (ω : Tg) (w : World) : Prop where
  k : Keep w0 w
  z : ∀ k, k < w0.heap.size → ω k = 0
theorem Top.init (w : World) : Top w (fun _ => 0) w := ⟨Keep.refl w, fun _ _ => rfl⟩
theorem Top.stp (h : Top w0 ω w) (s : Stp T ω ω' w w') (h0 : T 0 = false := by rfl) : Top w0 ω' w' :=
  ⟨Below.trans h.k ⟨s.os, s.tape, s.output, s.size, fun i hi => s.block i (Nat.lt_of_lt_of_le hi h.k.size) (by rw [h.z i hi]; exact h0)⟩, fun i hi => (s.same i (Nat.lt_of_lt_of_le hi h.k.size)).trans (h.z i hi)⟩
structure BT (ω : Tg) (w : World) (t g : Nat) (e : TypeId) (cs : List Value) : Prop where
  blk : Blk w g e cs
  tag : ω g = t
variable {t u g : Nat} {e : TypeId} {cs : List Value}
theorem BT.stp (h : BT ω w t g e cs) (s : Stp T ω ω' w w') (ne : T t = false := by rfl) : BT ω' w' t g e cs :=
  ⟨by unfold Blk; rw [s.block g h.blk.lt (by rw [h.tag]; exact ne)]; exact h.blk, (s.same g h.blk.lt).trans h.tag⟩
theorem BT.cell (h : BT ω w t g e cs) (j : Nat) : w.cell? ⟨g, j, none⟩ = cs[j]? := h.blk.cell j
theorem BT.same (h : BT ω w t g e cs) (s : Stp T ω ω' w w') (ne : T t = false) (j n : Nat) : sameAt ⟨g, j, none⟩ n w w' := by
  have hb : w'.heap[g]? = w.heap[g]? := s.block g h.blk.lt (by rw [h.tag]; exact ne)
  refine ⟨World.cell?_of_block hb, fun i _ => World.cell?_of_block ?_⟩
  rw [add_block]; exact hb
theorem BT.sameT (h : BT ω w t g e cs) (s : Stp T ω ω' w w') {j n : Nat} (ne : T t = false := by rfl) : sameAt ⟨g, j, none⟩ n w w' := h.same s ne j n
theorem BT.sameA (h : BT ω w t g e cs) (s : Stp T ω ω' w w') {i j n : Nat} (ne : T t = false := by rfl) : sameAt (Addr.add ⟨g, i, none⟩ j) n w w' := by rw [addr_add]; exact h.same s ne _ n
theorem new_T (t : Nat) {o : Array Value} {K : Addr → World → Prop} (hK : ∀ g ω' w', Stp Non ω ω' w w' → BT ω' w' t g e o.toList → K ⟨g, 0, none⟩ w') : G.new (.cells o e) w K :=
  hK w.heap.size (ext ω w.heap.size t) _ ((Keep.alloc w _).stp ω t) ⟨Blk.new w e o, ext_new (Nat.le_refl _)⟩
theorem st_T {j : Nat} {v : Value} (h : BT ω w t g e cs) (hj : j < cs.length) {K : World → Prop} (hK : ∀ ω' w', Stp (One t) ω ω' w w' → BT ω' w' t g e (cs.set j v) → K w') : G.st ⟨g, j, none⟩ v w K := by
  refine st_at (by rw [h.cell, List.getElem?_eq_getElem hj]) (h.blk.frozen j) (hK (ext ω w.heap.size t) _ (Chg.stp (setCell_chg w g j v) fun k hk => by rw [hk]; exact h.tag) ⟨h.blk.set j v, ?_⟩)
  rw [ext_old h.blk.lt]; exact h.tag
theorem st_TA {i j : Nat} {v : Value} (h : BT ω w t g e cs) (hj : i + j < cs.length) {K : World → Prop} (hK : ∀ ω' w', Stp (One t) ω ω' w w' → BT ω' w' t g e (cs.set (i + j) v) → K w') : G.st (Addr.add ⟨g, i, none⟩ j) v w K := by
  rw [addr_add]; exact st_T h hj hK
structure OT (ω : Tg) (w : World) (t : Nat) (e : TypeId) (sz : Nat) (s : Sl) (xs : List Value) : Prop where
  own : Own w 0 e sz s xs
  tag : ∀ k, s.v.ownBlock = some k → ω k = t
variable {sz : Nat} {s : Sl} {xs : List Value}
theorem OT.lt (h : OT ω w t e sz s xs) {k : Nat} (hk : s.v.ownBlock = some k) : k < w.heap.size := (Own.geC h.own hk).2
theorem OT.nil (ω : Tg) (w : World) (t : Nat) (e : TypeId) (sz : Nat) : OT ω w t e sz nilS [] := ⟨Own.nil w 0 e sz, fun k hk => by simp [Value.ownBlock] at hk⟩
theorem OT.stp (h : OT ω w t e sz s xs) (k : Stp T ω ω' w w') (ne : T t = false := by rfl) : OT ω' w' t e sz s xs := by
  refine ⟨?_, fun g hg => (k.same g (h.lt hg)).trans (h.tag g hg)⟩
  obtain ⟨hl, ho⟩ := h.own
  refine ⟨hl, ?_⟩
  rcases ho with ho | ⟨g, cap, cur, hv, hg, hh, r⟩
  · exact .inl ho
  · have hb : s.v.ownBlock = some g := by rw [hv]; rfl
    refine .inr ⟨g, cap, cur, hv, hg, ?_, r⟩
    rw [k.block g (h.lt hb) (by rw [h.tag g hb]; exact ne)]; exact hh
theorem Own.tag {B : Nat} (h : Own w' B e sz s xs) (hB : w.heap.size ≤ B) (ω : Tg) (t : Nat) : OT (ext ω w.heap.size t) w' t e sz s xs :=
  ⟨Own.mono h (Nat.zero_le _), fun _ hk => ext_new (Nat.le_trans hB (Own.geC h hk).1)⟩
theorem OT.rd (h : OT ω w t e sz s xs) : Rd w s sz xs := Own.rd h.own
theorem OT.ix (h : OT ω w t e sz s xs) (_ : 0 < sz) {i : Int} (h0 : 0 ≤ i) (h1 : i < s.n) {K : Addr → Prop}
    (hK : ∀ a : Addr, a.block < w.heap.size → ω a.block = t → (∀ j v, j < sz → xs[i.toNat * sz + j]? = some v → w.cell? (a.add j) = some v) → K a) : G.ix s.a s.n i sz K := by
  rcases h.own.cases with ⟨rfl, rfl⟩ | ⟨g, cur, ha, hg, hb, hn, hm, hl, ht⟩
  · simp at h1; omega
  · rw [ha]
    have hbk : s.v.ownBlock = some g := by show (Value.slice s.a s.n s.c).ownBlock = _; rw [ha]; rfl
    refine ⟨⟨h0, h1⟩, hK _ (by rw [add_block]; exact hb.lt) (by rw [add_block]; exact h.tag g hbk) fun j v hj hv => ?_⟩
    rw [addr_add, addr_add, Nat.zero_add, hb.cell]
    rw [← ht, List.getElem?_take] at hv
    split at hv
    · exact hv
    · cases hv
theorem app_T {P : Program} {ty tt : TypeId} {bytes : Nat} (ti : TI P tt e sz bytes) {x : Sl} {ys : List Value} (h : OT ω w t e sz s xs) (hx : Rd w x sz ys) (h1 : ∀ v ∈ ys, v.oneCell' = true) (hm : s.n + x.n ≤ maxLen) (hy : (s.n + x.n) * bytes ≤ 140737488355328)
    {K : Sl → World → Prop} (hK : ∀ r ω' w', Stp (One t) ω ω' w w' → OT ω' w' t e sz r (xs ++ ys) → r.n = s.n + x.n → K r w') : G.runSl P (Builtin.append_ #[tt, tt] ty #[s.v, x.v]) w K :=
  appC ti (Nat.zero_le _) h.own hx h1 hm hy fun r w' c o hn hf => hK r (ext ω w.heap.size t) w' (Chg.stp c h.tag) ⟨o, fun k hk => by
    rcases hf with hf | hf
    · rw [hf] at hk; rw [ext_old (h.lt hk)]; exact h.tag k hk
    · exact ext_new (hf k hk)⟩ hn
theorem push_T {P : Program} {ty tt : TypeId} {bytes n : Nat} (ti : TI P tt e sz bytes) {ds : Array Value} (h : OT ω w t e sz s xs) (hl : ds.size = n * sz) (h1 : ∀ v ∈ ds.toList, v.oneCell' = true) (hm : s.n + n ≤ maxLen) (hy : (s.n + n) * bytes ≤ 140737488355328)
    {K : Sl → World → Prop} (hK : ∀ r ω' w', Stp (One t) ω ω' w w' → OT ω' w' t e sz r (xs ++ ds.toList) → r.n = s.n + n → K r w') :
    G.new (.cells ds e) w fun p w1 => G.runSl P (Builtin.append_ #[tt, tt] ty #[s.v, (⟨some p, n, n⟩ : Sl).v]) w1 K :=
  pushC ti (Nat.zero_le _) h.own hl h1 hm hy fun r w' c o hn hf => hK r (ext ω w.heap.size t) w' (Chg.stp c h.tag) ⟨o, fun k hk => by
    rcases hf with hf | hf
    · rw [hf] at hk; rw [ext_old (h.lt hk)]; exact h.tag k hk
    · exact ext_new (hf k hk)⟩ hn
theorem OT.cases (h : OT ω w t e sz s xs) : (s = nilS ∧ xs = []) ∨ ∃ g cur, s.a = some ⟨g, 0, none⟩ ∧ BT ω w t g e cur ∧ s.n ≤ s.c ∧ s.c ≤ maxLen ∧ cur.length = s.c * sz ∧ cur.take (s.n * sz) = xs := by
  rcases h.own.cases with h' | ⟨g, cur, ha, hg, hb, hn, hm, hl, ht⟩
  · exact .inl h'
  · exact .inr ⟨g, cur, ha, ⟨hb, h.tag g (by show (Value.slice s.a s.n s.c).ownBlock = _; rw [ha]; rfl)⟩, hn, hm, hl, ht⟩
theorem OT.st (h : OT ω w t e sz s xs) {i j : Nat} (hi : i < s.n) (hj : j < sz) (v : Value) {a : Addr} (ha : s.a.map (fun a => a.add (i * sz)) = some a) {K : World → Prop}
    (hK : ∀ ω' w', Stp (One t) ω ω' w w' → OT ω' w' t e sz s (xs.set (i * sz + j) v) → K w') : G.st (a.add j) v w K := by
  rcases h.cases with ⟨rfl, rfl⟩ | ⟨g, cur, ha', hb, hn, hm, hl, ht⟩
  · exact absurd hi (Nat.not_lt_zero _)
  · rw [ha'] at ha
    simp only [Option.map_some, Option.some.injEq] at ha
    subst ha
    have hlt : i * sz + j < cur.length := by
      rw [hl]
      have : (i + 1) * sz ≤ s.c * sz := Nat.mul_le_mul_right _ (by omega)
      rw [Nat.add_mul] at this; omega
    rw [addr_add, Nat.zero_add]
    refine st_TA hb hlt fun ω' w' k b => hK ω' w' k ⟨?_, fun k' hk' => ?_⟩
    · have hs : s = ⟨some ⟨g, 0, none⟩, s.n, s.c⟩ := by rw [← ha']
      rw [hs]
      refine Own.mk' (Nat.zero_le _) b.blk hn hm (by rw [List.length_set]; exact hl) ?_
      rw [← ht, List.take_set]
    · exact (k.same k' (h.lt hk')).trans (h.tag k' hk')
theorem OT.at_ (h : OT ω w t e sz s xs) {i : Int} {k : Nat} (ei : i = k) (hi : k < s.n) {K : Addr → Prop} (hK : ∀ a : Addr, s.a.map (fun a => a.add (k * sz)) = some a → a.block < w.heap.size → ω a.block = t → (∀ j v, j < sz → xs[k * sz + j]? = some v → w.cell? (a.add j) = some v) → K a) : G.ix s.a s.n i sz K := by
  subst ei
  rcases h.cases with ⟨rfl, rfl⟩ | ⟨g, cur, ha, hb, hn, hm, hl, ht⟩
  · exact absurd hi (Nat.not_lt_zero _)
  · rw [ha]
    refine ⟨⟨by omega, by omega⟩, ?_⟩
    rw [Int.toNat_natCast]
    refine hK _ (by rw [ha]; rfl) (by rw [add_block]; exact hb.blk.lt) (by rw [add_block]; exact hb.tag) fun j v hj hv => ?_
    rw [addr_add, addr_add, Nat.zero_add, hb.cell]
    rw [← ht, List.getElem?_take] at hv
    split at hv
    · exact hv
    · cases hv
theorem cB_at {a : Addr} {b : Bool} (h : w.cell? a = some (.bool b)) {K : Bool → Prop} (hK : K b) : G.cB a w K := ⟨b, h, hK⟩
theorem cF_at {k : FloatKind} {a : Addr} {b : Nat} (h : w.cell? a = some (.float k b)) {K : Nat → Prop} (hK : K b) : G.cF k a w K := ⟨b, h, hK⟩
theorem cS_at {a : Addr} {b : ByteArray} (h : w.cell? a = some (.string b)) {K : ByteArray → Prop} (hK : K b) : G.cS a w K := ⟨b, h, hK⟩
theorem cV_at {a : Addr} {b : Value} (h : w.cell? a = some b) {K : Value → Prop} (hK : K b) : G.cV a w K := ⟨b, h, hK⟩
end Go.Proofs.YtechilkjfhpkpaaGreatDoor.Mem

namespace Go.Proofs.YtechilkjfhpkpaaGreatDoor.Lab
open Go Vm Num Mem Utf Lib
variable {ω ω' : Tg} {w w' w0 : World}
abbrev Lb := ByteArray × ByteArray
def labC (x : Lb) : List Value := [.string x.1, .string x.2]
def labs (l : List Lb) : List Value := l.flatMap labC
theorem labs_app (a b : List Lb) : labs (a ++ b) = labs a ++ labs b := List.flatMap_append
theorem labs_len (l : List Lb) : (labs l).length = l.length * 2 := by
  induction l with
  | nil => rfl
  | cons s l ih => simp only [labs, List.flatMap_cons, List.length_append, List.length_cons] at *; simp [labC] at *; omega
theorem labs_at : ∀ (l : List Lb) (i : Nat) (s : Lb), l[i]? = some s → (labs l)[i * 2 + 0]? = some (.string s.1) ∧ (labs l)[i * 2 + 1]? = some (.string s.2)
  | [], i, s, h => by simp at h
  | x :: l, 0, s, h => by
    simp only [List.getElem?_cons_zero, Option.some.injEq] at h
    subst h
    exact ⟨rfl, rfl⟩
  | x :: l, i + 1, s, h => by
    have ih := labs_at l i s (by simpa using h)
    have e : labs (x :: l) = .string x.1 :: .string x.2 :: labs l := rfl
    rw [e, show (i + 1) * 2 + 0 = (i * 2 + 0) + 1 + 1 by omega, show (i + 1) * 2 + 1 = (i * 2 + 1) + 1 + 1 by omega]
    simpa using ih
theorem rdL_at {s : Sl} {m : List Lb} (h : Rd w s 2 (labs m)) {i : Int} {k : Nat} {x : Lb} (ei : i = (k : Int)) (hx : m[k]? = some x) {K : Addr → Prop}
    (hK : ∀ a : Addr, w.cell? a = some (.string x.1) → w.cell? (a.add 1) = some (.string x.2) → K a) : G.ix s.a s.n i 2 K := by
  have hk : k < m.length := (List.getElem?_eq_some_iff.1 hx).1
  have hn : s.n = m.length := by have := h.2.1; rw [labs_len] at this; omega
  subst ei
  obtain ⟨e0, e1⟩ := labs_at m k x hx
  refine Rd.ix h (by decide) (by omega) (by omega) fun a hc => hK a ?_ ?_
  · have := hc 0 _ (by decide) (by rw [Int.toNat_natCast]; exact e0)
    rwa [show a.add 0 = a by simp [Addr.add]] at this
  · exact hc 1 _ (by decide) (by rw [Int.toNat_natCast]; exact e1)
def valE (l : List UInt8) : Int := if l = [] then 41 else if l.length > 256 then 4 else if validD l = true then 0 else 12
theorem value_ok {s : ByteArray} (ht : UTab w0) {K : Int → World → Prop} (hK : ∀ w', Keep w0 w' → K (valE (Utf.bytes s)) w') : C.labels_value s w0 K := by
  have hsz := size_eq s
  have hl : (Utf.bytes s).length = s.size := hsz.symm
  have etl : s.toList = Utf.bytes s := ByteArray.toList_eq s
  have e0 : (⟨#[]⟩ : ByteArray).toList = [] := by rw [ByteArray.toList_eq]
  unfold C.labels_value
  unfold valE at hK
  rw [etl, e0]
  refine cond_of (fun h => ?_) (fun h => ?_)
  · rw [if_pos (by simpa using h)] at hK; exact hK w0 (Keep.refl w0)
  rw [if_neg (by intro e; rw [e] at h; simp at h)] at hK
  refine cond_d (fun h => ?_) (fun h => ?_)
  · rw [if_pos (by omega)] at hK; exact hK w0 (Keep.refl w0)
  rw [if_neg (by omega)] at hK
  refine valid_ok ht (by omega) fun w1 k1 => ?_
  refine cond_of (fun h => ?_) (fun h => ?_)
  · rw [if_neg (by simpa using h)] at hK; exact hK w1 k1
  · rw [if_pos (by simpa using h)] at hK; exact hK w1 k1
def backB (p : Option ByteArray) (x : ByteArray) : Bool := match p with | some q => (Op.bytesLess x.toList q.toList) || (x.toList == q.toList) | none => false
def rtGo : Option ByteArray → List Lb → Nat → Int × Nat
  | _, [], _ => (0, 0)
  | p, x :: r, i => if namedB (Utf.bytes x.1) 64 false = false then (40, i) else if valE (Utf.bytes x.2) ≠ 0 then (valE (Utf.bytes x.2), i) else if backB p x.1 = true then (3, i) else rtGo (some x.1) r (i + 1)
def rt (l : List Lb) : Int × Nat := if l.length > 16 then (8, 0) else rtGo none l 0
theorem right_ok {s : Sl} {m : List Lb} (ht : UTab w0) (hs : Rd w0 s 2 (labs m)) {K : Int → Int → World → Prop} (hK : ∀ w', Keep w0 w' → K (rt m).1 ((rt m).2 : Int) w') : C.labels_Right s w0 K := by
  have hsn : s.n = m.length := by have := hs.2.1; rw [labs_len] at this; omega
  unfold C.labels_Right
  unfold rt at hK
  refine cond_d (fun h => ?_) (fun h => ?_)
  · rw [if_pos (by omega)] at hK; exact hK w0 (Keep.refl w0)
  rw [if_neg (by omega)] at hK
  unfold C.labels_Right.S9
  refine C.labels_Right.L5_ind fun X hX => ?_
  have key : ∀ (d i : Nat) (w : World), i + d = m.length → Keep w0 w → rtGo (if i = 0 then none else (m[i - 1]?).map (·.1)) (m.drop i) i = rtGo none m 0 → X s s ((s.n : Nat) : Int) (i : Int) w := by
    intro d
    induction d with
    | zero =>
      intro i w hi k e
      refine hX _ _ _ _ _ ?_
      unfold C.labels_Right.S7 C.labels_Right.S2
      refine cond_d (fun h => by omega) (fun _ => ?_)
      rw [List.drop_of_length_le (by omega)] at e
      have := hK w k
      rwa [← e] at this
    | succ d ih =>
      intro i w hi k e
      have him : i < m.length := by omega
      refine hX _ _ _ _ _ ?_
      unfold C.labels_Right.S7
      refine cond_d (fun _ => ?_) (fun h => by omega)
      have hx : m[i]? = some m[i] := List.getElem?_eq_getElem him
      refine rdL_at (hs.keep k) (k := i) rfl hx fun a hc0 hc1 => cS_at hc0 <| cS_at hc1 ?_
      refine new_T (ω := fun _ => 0) 7 fun g ω2 w2 k2 b2 => ?_
      refine st_T b2 (by simp) fun ω3 w3 k3 b3 => ?_
      refine st_TA b3 (by simp) fun ω4 w4 k4 b4 => ?_
      have k04 := Keep.trans k ((Top.init w).stp ((k2.non (Mem.One 7)).trans (k3.trans k4))).k
      rw [List.drop_eq_getElem_cons him, rtGo] at e
      have out : ∀ (c : Int) w', (c, i) = rtGo none m 0 → Keep w0 w' → K c (i : Int) w' := fun c w' ec kk => by
        have := hK w' kk
        rwa [← ec] at this
      refine cS_at (b := m[i].1) (by rw [b4.cell]; rfl) ?_
      unfold C.labels_Name
      refine named_ok (most := 64) rfl (by decide) fun w5 k5 => ?_
      have k05 := Keep.trans k04 k5
      have b5 := b4.stp (k5.stp0 ω4)
      refine cond_of (fun hn => ?_) (fun hn => ?_)
      · rw [if_pos (by simpa using hn)] at e; exact out 40 w5 e k05
      rw [if_neg (by simpa using hn)] at e
      refine cS_at (b := m[i].2) (by rw [addr_add, b5.cell]; rfl) ?_
      refine value_ok (ht.keep k05) fun w6 k6 => ?_
      have k06 := Keep.trans k05 k6
      have b6 := b5.stp (k6.stp0 ω4)
      refine cond_ne (fun hv => ?_) (fun hv => ?_)
      · rw [if_pos hv] at e; exact out _ w6 e k06
      rw [if_neg (by simpa using hv)] at e
      have k07 := Keep.trans k06 (Keep.drew w6)
      have next : backB (if i = 0 then none else (m[i - 1]?).map (·.1)) m[i].1 = false → ∀ w', Keep w0 w' → X s s ((s.n : Nat) : Int) (IntKind.i64.wrap ((i : Int) + 1)) w' := fun hb w' kk => by
        rw [hb, if_neg (by decide)] at e
        rw [wI64 (by omega) (by omega), show (i : Int) + 1 = ((i + 1 : Nat) : Int) by omega]
        refine ih (i + 1) w' (by omega) kk ?_
        rw [if_neg (by omega), Nat.add_sub_cancel, hx]; exact e
      refine cond_d (fun hi0 => ?_) (fun hi0 => next ?_ _ k07)
      · have hy : m[i - 1]? = some m[i - 1] := List.getElem?_eq_getElem (by omega)
        refine cS_at (b := m[i].1) (by rw [(b6.stp (drew_stp ω4 w6)).cell]; rfl) ?_
        refine rdL_at (hs.keep k07) (k := i - 1) (by rw [wI64 (by omega) (by omega)]; omega) hy fun p hp0 _ => cS_at hp0 ?_
        have eb : backB (if i = 0 then none else (m[i - 1]?).map (·.1)) m[i].1 = ((Op.bytesLess m[i].1.toList m[i - 1].1.toList) || (m[i].1.toList == m[i - 1].1.toList)) := by
          rw [if_neg (by omega), hy]; rfl
        refine cond_of (fun hb => ?_) (fun hb => next (by rw [eb]; exact hb) _ k07)
        rw [eb, hb, if_pos rfl] at e
        exact out 3 _ e k07
      · rw [if_pos (by omega)]; rfl
  exact key m.length 0 w0 (by omega) (Keep.refl w0) rfl
end Go.Proofs.YtechilkjfhpkpaaGreatDoor.Lab

namespace Go.Proofs.YtechilkjfhpkpaaGreatDoor.Lab
open Go Vm Go.RowKit Num Mem Utf Lib
variable {ω ω' : Tg} {w w' w0 : World}
structure Cmp {α : Type} (c : α → α → Int) : Prop where
  vals : ∀ x y, c x y = -1 ∨ c x y = 0 ∨ c x y = 1
  eq : ∀ x y, c x y = 0 ↔ x = y
  anti : ∀ x y, c y x = - c x y
  trans : ∀ x y z, c x y < 0 → c y z < 0 → c x z < 0
def lexL {α : Type} (c : α → α → Int) : List α → List α → Int
  | [], [] => 0
  | [], _ :: _ => -1
  | _ :: _, [] => 1
  | a :: xs, b :: bs => if c a b ≠ 0 then c a b else lexL c xs bs
def pairC {α β : Type} (c : α → α → Int) (d : β → β → Int) (x y : α × β) : Int := if c x.1 y.1 ≠ 0 then c x.1 y.1 else d x.2 y.2
section
variable {α β : Type} {c : α → α → Int} {d : β → β → Int}
theorem Cmp.self (h : Cmp c) (x : α) : c x x = 0 := (h.eq x x).2 rfl
theorem Cmp.lex (h : Cmp c) : Cmp (lexL c) := by
  refine ⟨?_, ?_, ?_, ?_⟩
  · intro x
    induction x with
    | nil => intro y; cases y <;> simp [lexL]
    | cons a xs ih =>
      intro y
      cases y with
      | nil => simp [lexL]
      | cons b bs =>
        unfold lexL
        split
        · exact h.vals a b
        · exact ih bs
  · intro x
    induction x with
    | nil => intro y; cases y <;> simp [lexL]
    | cons a xs ih =>
      intro y
      cases y with
      | nil => simp [lexL]
      | cons b bs =>
        unfold lexL
        split
        · rename_i h0
          constructor
          · intro e; exact absurd e h0
          · intro e; cases e; exact absurd (h.self a) h0
        · rename_i h0
          have h0 : c a b = 0 := by simpa using h0
          have e := (h.eq a b).1 h0
          subst e
          rw [ih bs]; simp
  · intro x
    induction x with
    | nil => intro y; cases y <;> simp [lexL]
    | cons a xs ih =>
      intro y
      cases y with
      | nil => simp [lexL]
      | cons b bs =>
        unfold lexL
        rw [h.anti a b, ih bs]
        split <;> split <;> omega
  · intro x
    induction x with
    | nil => intro y z h1 h2; cases y with
      | nil => simp [lexL] at h1
      | cons b bs => cases z with
        | nil => simp [lexL] at h2
        | cons d ds => simp [lexL]
    | cons a xs ih => intro y z h1 h2; cases y with
      | nil => simp [lexL] at h1
      | cons b bs => cases z with
        | nil => simp [lexL] at h2
        | cons d ds =>
          unfold lexL at h1 h2 ⊢
          by_cases e1 : c a b = 0
          · have := (h.eq a b).1 e1
            subst this
            rw [if_neg (by simpa using e1)] at h1
            by_cases e2 : c a d = 0
            · rw [if_neg (by simpa using e2)] at h2 ⊢
              exact ih bs ds h1 h2
            · rw [if_pos e2] at h2 ⊢; exact h2
          · rw [if_pos e1] at h1
            by_cases e2 : c b d = 0
            · have := (h.eq b d).1 e2
              subst this
              rw [if_pos e1]; exact h1
            · rw [if_pos e2] at h2
              have := h.trans a b d h1 h2
              rw [if_pos (by omega)]; exact this
theorem Cmp.pair (h : Cmp c) (k : Cmp d) : Cmp (pairC c d) := by
  refine ⟨?_, ?_, ?_, ?_⟩
  · intro x y
    unfold pairC
    split
    · exact h.vals _ _
    · exact k.vals _ _
  · rintro ⟨x1, x2⟩ ⟨y1, y2⟩
    unfold pairC
    dsimp only
    by_cases e1 : c x1 y1 = 0
    · have := (h.eq x1 y1).1 e1
      subst this
      rw [if_neg (by simpa using e1), k.eq]; simp
    · rw [if_pos e1]
      constructor
      · intro e; exact absurd e e1
      · intro e; cases e; exact absurd (h.self x1) e1
  · intro x y
    unfold pairC
    rw [h.anti x.1 y.1, k.anti x.2 y.2]
    split <;> split <;> omega
  · rintro ⟨x1, x2⟩ ⟨y1, y2⟩ ⟨z1, z2⟩ h1 h2
    unfold pairC at h1 h2 ⊢
    dsimp only at h1 h2 ⊢
    by_cases e1 : c x1 y1 = 0
    · have := (h.eq _ _).1 e1
      subst this
      rw [if_neg (by simpa using e1)] at h1
      by_cases e2 : c x1 z1 = 0
      · rw [if_neg (by simpa using e2)] at h2 ⊢
        exact k.trans _ _ _ h1 h2
      · rw [if_pos e2] at h2 ⊢; exact h2
    · rw [if_pos e1] at h1
      by_cases e2 : c y1 z1 = 0
      · have := (h.eq _ _).1 e2
        subst this
        rw [if_pos e1]; exact h1
      · rw [if_pos e2] at h2
        have := h.trans _ _ _ h1 h2
        rw [if_pos (by omega)]; exact this
end
def cU (a b : UInt8) : Int := if a < b then -1 else if b < a then 1 else 0
theorem cU_cmp : Cmp cU := by
  refine ⟨fun x y => ?_, fun x y => ?_, fun x y => ?_, fun x y z h1 h2 => ?_⟩
  · unfold cU; split; · simp
    split <;> simp
  · unfold cU
    simp only [UInt8.lt_iff_toNat_lt, ← UInt8.toNat_inj]
    split
    · simp; omega
    · split
      · simp; omega
      · simp; omega
  · unfold cU
    simp only [UInt8.lt_iff_toNat_lt]
    split <;> split <;> first | omega | (split <;> omega) | rfl
  · unfold cU at *
    simp only [UInt8.lt_iff_toNat_lt] at *
    split at h1
    · split at h2
      · rw [if_pos (by omega)]; omega
      · split at h2 <;> omega
    · split at h1 <;> omega
theorem cb_lex : ∀ a b : List UInt8, compareBytes a b = lexL cU a b
  | [], [] => rfl
  | [], _ :: _ => rfl
  | _ :: _, [] => rfl
  | a :: xs, b :: bs => by
    unfold compareBytes lexL cU
    rw [cb_lex xs bs]
    split
    · rfl
    · split
      · rfl
      · rfl
def cB (a b : ByteArray) : Int := compareBytes a.data.toList b.data.toList
theorem cB_cmp : Cmp cB := by
  have h := cU_cmp.lex
  refine ⟨fun x y => ?_, fun x y => ?_, fun x y => ?_, fun x y z h1 h2 => ?_⟩
  · unfold cB; rw [cb_lex]; exact h.vals _ _
  · unfold cB; rw [cb_lex, h.eq]
    constructor
    · intro e
      have := Array.toList_inj.1 e
      cases x; cases y; simp at this; rw [this]
    · rintro rfl; rfl
  · unfold cB; rw [cb_lex, cb_lex]; exact h.anti _ _
  · unfold cB at *; rw [cb_lex] at *; exact h.trans _ _ _ h1 h2
def cL : Lb → Lb → Int := pairC cB cB
def cmpL : List Lb → List Lb → Int := lexL cL
theorem cL_cmp : Cmp cL := cB_cmp.pair cB_cmp
theorem cmpL_cmp : Cmp cmpL := cL_cmp.lex
theorem less_cb : ∀ a b : List UInt8, Op.bytesLess a b = decide (compareBytes a b = -1)
  | [], [] => by simp [Op.bytesLess, compareBytes]
  | [], _ :: _ => by simp [Op.bytesLess, compareBytes]
  | _ :: _, [] => by simp [Op.bytesLess, compareBytes]
  | a :: xs, b :: bs => by
    unfold Op.bytesLess compareBytes
    rw [less_cb xs bs]
    simp only [UInt8.lt_iff_toNat_lt]
    by_cases h1 : a.toNat < b.toNat
    · simp [h1]
    · by_cases h2 : b.toNat < a.toNat
      · have : ¬ a = b := fun e => by subst e; omega
        simp [h1, h2, this]
      · have : a = b := UInt8.toNat_inj.1 (by omega)
        subst this
        simp
theorem lessB (a b : ByteArray) : Op.bytesLess a.toList b.toList = decide (cB a b = -1) := by
  rw [ByteArray.toList_eq, ByteArray.toList_eq, less_cb]; rfl
theorem eqB (a b : ByteArray) : (a.toList == b.toList) = decide (cB a b = 0) := by
  rw [ByteArray.toList_eq, ByteArray.toList_eq]
  by_cases h : a = b
  · subst h; simp [cB_cmp.self]
  · rw [decide_eq_false (fun e => h ((cB_cmp.eq a b).1 e)), beq_eq_false_iff_ne]
    intro e
    refine h ?_
    cases a; cases b
    simpa using e
def KD (w w' : World) : Prop := Keep w w' ∧ w'.drawn = w.drawn
theorem KD.refl (w : World) : KD w w := ⟨Keep.refl w, rfl⟩
theorem KD.trans {a b c : World} (h : KD a b) (k : KD b c) : KD a c := ⟨Keep.trans h.1 k.1, k.2.trans h.2⟩
theorem newD {e : TypeId} {o : Array Value} {Z : Addr → World → Prop} (hK : ∀ g w', KD w w' → w.heap.size ≤ g → Blk w' g e o.toList → Z ⟨g, 0, none⟩ w') : G.new (.cells o e) w Z :=
  new_at (hK _ _ ⟨Keep.alloc _ _, rfl⟩ (Nat.le_refl _) (Blk.new w e o))
theorem stD {g j : Nat} {e : TypeId} {cs : List Value} {w1 : World} (hg : w.heap.size ≤ g) (k : KD w w1) (hb : Blk w1 g e cs) {v : Value} (hj : j < cs.length) {Z : World → Prop} (hK : ∀ w', KD w w' → Blk w' g e (cs.set j v) → Z w') : G.st ⟨g, j, none⟩ v w1 Z := by
  refine st_at (by rw [hb.cell, List.getElem?_eq_getElem hj]) (hb.frozen j) (hK _ ⟨⟨k.1.os, k.1.tape, k.1.output, ?_, fun i hi => ?_⟩, k.2⟩ (hb.set j v))
  · have := k.1.size; simpa [World.setCell] using this
  · rw [Below.heap_setCell _ _ _ _ (show i ≠ g by omega)]; exact k.1.block i hi
theorem stDA {g i j : Nat} {e : TypeId} {cs : List Value} {w1 : World} (hg : w.heap.size ≤ g) (k : KD w w1) (hb : Blk w1 g e cs) {v : Value} (hj : i + j < cs.length) {Z : World → Prop} (hK : ∀ w', KD w w' → Blk w' g e (cs.set (i + j) v) → Z w') : G.st (Addr.add ⟨g, i, none⟩ j) v w1 Z := by
  rw [addr_add]; exact stD hg k hb hj hK
theorem scmp_ok {a b : ByteArray} {K : Int → World → Prop} (hK : K (cB a b) w) : C.strings_Compare a b w K := hK
theorem cmp1_ok {x y : Lb} {K : Int → World → Prop} (hK : ∀ w', KD w w' → K (cL x y) w') : C.labels_Compare_1 x.1 x.2 y.1 y.2 w K := by
  unfold C.labels_Compare_1
  refine newD fun g w1 k1 _ b1 => newD fun g2 w2 k2 _ b2 => ?_
  have k12 := k1.trans k2
  have b12 := b1.keep k2.1
  refine cS_at (b := x.1) (by rw [b12.cell]; rfl) <| cS_at (b := y.1) (by rw [b2.cell]; rfl) <| scmp_ok ?_
  have := hK w2 k12
  unfold cL pairC at this
  refine cond_ne (fun h => ?_) (fun h => ?_)
  · rw [if_pos h] at this; exact this
  · rw [if_neg (by simpa using h)] at this
    exact cS_at (b := x.2) (by rw [addr_add, b12.cell]; rfl) <| cS_at (b := y.2) (by rw [addr_add, b2.cell]; rfl) <| scmp_ok this
theorem rdL_n {s : Sl} {m : List Lb} (h : Rd w s 2 (labs m)) : s.n = m.length := by have := h.2.1; rw [labs_len] at this; omega
theorem lexL_nil_l {α : Type} {c : α → α → Int} (y : List α) : lexL c [] y = if y.length = 0 then 0 else -1 := by cases y <;> rfl
theorem compare_ok {a b : Sl} {x y : List Lb} (ha : Rd w0 a 2 (labs x)) (hb : Rd w0 b 2 (labs y)) (hx : x.length ≤ 9000000000000000000) {K : Int → World → Prop} (hK : ∀ w', KD w0 w' → K (cmpL x y) w') : C.labels_Compare a b w0 K := by
  have han := rdL_n ha
  have hbn := rdL_n hb
  unfold C.labels_Compare C.slices_CompareFunc_Label_Label_Label_Label C.slices_CompareFunc_Label_Label_Label_Label.S9
  refine C.slices_CompareFunc_Label_Label_Label_Label.L5_ind fun X hX => ?_
  have key : ∀ (d i : Nat) (w : World), i + d = x.length → i ≤ y.length → KD w0 w → (∀ w', KD w0 w' → K (lexL cL (x.drop i) (y.drop i)) w') → X a b (.func (.func 82) #[] #[]) a ((a.n : Nat) : Int) (i : Int) w := by
    intro d
    induction d with
    | zero =>
      intro i w hi hy k hK
      refine hX _ _ _ _ _ _ _ ?_
      unfold C.slices_CompareFunc_Label_Label_Label_Label.S7 C.slices_CompareFunc_Label_Label_Label_Label.S2
      have := hK w k
      rw [List.drop_of_length_le (by omega), lexL_nil_l, List.length_drop] at this
      refine cond_d (fun h => by omega) (fun _ => cond_d (fun h => ?_) (fun h => ?_))
      · rw [if_neg (by omega)] at this; exact this
      · rw [if_pos (by omega)] at this; exact this
    | succ d ih =>
      intro i w hi hy k hK
      refine hX _ _ _ _ _ _ _ ?_
      unfold C.slices_CompareFunc_Label_Label_Label_Label.S7
      have hxi : x[i]? = some x[i] := List.getElem?_eq_getElem (by omega)
      refine cond_d (fun _ => ?_) (fun h => by omega)
      refine rdL_at (ha.keep k.1) (k := i) rfl hxi fun p p0 p1 => cS_at p0 <| cS_at p1 ?_
      refine newD fun g1 w1 k1 hg1 b1 => stD hg1 k1 b1 (by simp) fun w2 k2 b2 => stDA hg1 k2 b2 (by simp) fun w3 k3 b3 => ?_
      refine cond_d (fun h => ?_) (fun h => ?_)
      · have := hK w3 (k.trans k3)
        rw [List.drop_eq_getElem_cons (by omega), List.drop_of_length_le (l := y) (by omega)] at this
        exact this
      have hyi : y[i]? = some y[i] := List.getElem?_eq_getElem (by omega)
      have k03 := k.trans k3
      refine rdL_at (hb.keep k03.1) (k := i) rfl hyi fun q q0 q1 => cS_at q0 <| cS_at q1 ?_
      refine newD fun g4 w4 k4 hg4 b4 => stD hg4 k4 b4 (by simp) fun w5 k5 b5 => stDA hg4 k5 b5 (by simp) fun w6 k6 b6 => ?_
      have b36 := b3.keep k6.1
      have k06 := k03.trans k6
      refine cS_at (b := x[i].1) (by rw [b36.cell]; rfl) <| cS_at (b := x[i].2) (by rw [addr_add, b36.cell]; rfl) <| cS_at (b := y[i].1) (by rw [b6.cell]; rfl) <| cS_at (b := y[i].2) (by rw [addr_add, b6.cell]; rfl) ?_
      show C.labels_Compare_1 x[i].1 x[i].2 y[i].1 y[i].2 w6 _
      refine cmp1_ok fun w7 k7 => ?_
      have k07 := k06.trans k7
      rw [List.drop_eq_getElem_cons (by omega), List.drop_eq_getElem_cons (l := y) (by omega)] at hK
      unfold lexL at hK
      refine show G.cond _ _ _ from cond_ne (fun h => ?_) (fun h => ?_)
      · have := hK w7 k07
        rw [if_pos h] at this; exact this
      · rw [if_neg (by simpa using h)] at hK
        rw [wI64 (by omega) (by omega), show (i : Int) + 1 = ((i + 1 : Nat) : Int) by omega]
        exact ih (i + 1) w7 (by omega) (by omega) k07 hK
  exact key x.length 0 w0 (by omega) (by omega) (KD.refl w0) hK
theorem rside_ok {a b : ByteArray} {K : Int → World → Prop} (hK : K (cB a b) w) : C.tocsinref04_side a b w K := by
  unfold C.tocsinref04_side
  rw [lessB, eqB]
  refine cond_d (fun h => by rw [h] at hK; exact hK) (fun h => ?_)
  rw [decide_eq_false h, Bool.false_or]
  rcases cB_cmp.vals a b with e | e | e
  · exact absurd e h
  · rw [e] at hK ⊢
    exact cond_f rfl hK
  · rw [e] at hK ⊢
    exact cond_t rfl hK
theorem rcmp_ok {a b : Sl} {x y : List Lb} (ha : Rd w0 a 2 (labs x)) (hb : Rd w0 b 2 (labs y)) (hx : x.length ≤ 9000000000000000000) {K : Int → World → Prop} (hK : ∀ w', Keep w0 w' → K (cmpL x y) w') : C.tocsinref04_Compare a b w0 K := by
  have han := rdL_n ha
  have hbn := rdL_n hb
  unfold C.tocsinref04_Compare C.tocsinref04_Compare.S9
  refine C.tocsinref04_Compare.L5_ind fun X hX => ?_
  have key : ∀ (d i : Nat) (w : World), i + d = x.length → i ≤ y.length → Keep w0 w → (∀ w', Keep w0 w' → K (lexL cL (x.drop i) (y.drop i)) w') → X a b (i : Int) w := by
    intro d
    induction d with
    | zero =>
      intro i w hi hy k hK
      refine hX _ _ _ _ ?_
      unfold C.tocsinref04_Compare.S7 C.tocsinref04_Compare.S2
      have := hK w k
      rw [List.drop_of_length_le (by omega), lexL_nil_l, List.length_drop] at this
      refine cond_d (fun h => by omega) (fun _ => cond_d (fun h => ?_) (fun h => cond_d (fun h2 => by omega) fun h2 => ?_))
      · rw [if_neg (by omega)] at this; exact this
      · rw [if_pos (by omega)] at this; exact this
    | succ d ih =>
      intro i w hi hy k hK
      refine hX _ _ _ _ ?_
      unfold C.tocsinref04_Compare.S7 C.tocsinref04_Compare.S2
      have hxi : x[i]? = some x[i] := List.getElem?_eq_getElem (by omega)
      refine cond_d (fun _ => ?_) (fun h => by omega)
      refine cond_d (fun h => ?_) (fun h => ?_)
      · have hyi : y[i]? = some y[i] := List.getElem?_eq_getElem (by omega)
        have kd := Keep.trans k (Keep.drew w)
        rw [List.drop_eq_getElem_cons (by omega), List.drop_eq_getElem_cons (l := y) (by omega)] at hK
        unfold lexL at hK
        have hc : cL x[i] y[i] = if cB x[i].1 y[i].1 ≠ 0 then cB x[i].1 y[i].1 else cB x[i].2 y[i].2 := rfl
        refine rdL_at (ha.keep kd) (k := i) rfl hxi fun p p0 p1 => cS_at p0 <| rdL_at (hb.keep kd) (k := i) rfl hyi fun q q0 q1 => cS_at q0 ?_
        refine rside_ok <| cond_ne (fun h0 => ?_) (fun h0 => ?_)
        · have := hK _ kd
          have hc1 : cL x[i] y[i] = cB x[i].1 y[i].1 := by rw [hc, if_pos h0]
          rw [hc1, if_pos h0] at this; exact this
        have kd2 := Keep.trans kd (Keep.drew _)
        have hc2 : cL x[i] y[i] = cB x[i].2 y[i].2 := by rw [hc, if_neg (by simpa using h0)]
        rw [hc2] at hK
        refine rdL_at (ha.keep kd2) (k := i) rfl hxi fun p p0 p1 => cS_at p1 <| rdL_at (hb.keep kd2) (k := i) rfl hyi fun q q0 q1 => cS_at q1 ?_
        refine rside_ok <| cond_ne (fun h1 => ?_) (fun h1 => ?_)
        · have := hK _ kd2
          rw [if_pos h1] at this; exact this
        rw [if_neg (by simpa using h1)] at hK
        rw [wI64 (by omega) (by omega), show (i : Int) + 1 = ((i + 1 : Nat) : Int) by omega]
        exact ih (i + 1) _ (by omega) (by omega) kd2 hK
      · have := hK w k
        rw [List.drop_eq_getElem_cons (by omega), List.drop_of_length_le (l := y) (by omega)] at this
        exact cond_d (fun h => by omega) (fun h => cond_d (fun h2 => this) (fun h2 => by omega))
  exact key x.length 0 w0 (by omega) (by omega) (Keep.refl w0) hK
theorem rsame_ok {a b : Sl} {x y : List Lb} (ha : Rd w0 a 2 (labs x)) (hb : Rd w0 b 2 (labs y)) (hx : x.length ≤ 9000000000000000000) {K : Bool → World → Prop} (hK : ∀ w', Keep w0 w' → K (decide (x = y)) w') : C.tocsinref04_Same a b w0 K := by
  unfold C.tocsinref04_Same
  refine rcmp_ok ha hb hx fun w' k => ?_
  have e : (cmpL x y == 0) = decide (x = y) := by
    by_cases h : x = y
    · rw [decide_eq_true h, beq_iff_eq]; exact (cmpL_cmp.eq x y).2 h
    · rw [decide_eq_false h, beq_eq_false_iff_ne]; exact fun q => h ((cmpL_cmp.eq x y).1 q)
  rw [e]; exact hK w' k
end Go.Proofs.YtechilkjfhpkpaaGreatDoor.Lab

namespace Go.Proofs.YtechilkjfhpkpaaGreatDoor.Utf
open Go Vm Go.RowKit Num Mem Lib
set_option maxRecDepth 10000
theorem andc {p q : Prop} [Decidable p] [Decidable q] {T E : Prop} (hT : p → q → T) (hE : ¬ (p ∧ q) → E) : G.cond (decide p) (G.cond (decide q) T E) E :=
  cond_d (fun h => cond_d (hT h) (fun h' => hE fun x => h' x.2)) (fun h => hE fun x => h x.1)
theorem and_i64 {x y : Nat} (hx : x < 9223372036854775808) (hy : y < 9223372036854775808) : Go.bits .and .i64 (x : Int) (y : Int) = ((x &&& y : Nat) : Int) := by
  have e : (BitVec.ofNat 64 x &&& BitVec.ofNat 64 y).toNat = x &&& y := by
    rw [BitVec.toNat_and, BitVec.toNat_ofNat, BitVec.toNat_ofNat, Nat.mod_eq_of_lt (by omega), Nat.mod_eq_of_lt (by omega)]
  have hlt : x &&& y < 9223372036854775808 := Nat.and_lt_two_pow (n := 63) x hy
  unfold Go.bits
  simp only [ofInt_nat]
  refine Eq.trans (congrArg (fun t : Nat => IntKind.i64.wrap (t : Int)) e) ?_
  rw [wI64 (by omega) (by omega)]
theorem and63 {b : Nat} (h : b < 256) : IntKind.i64.wrap (Go.bits .and .u8 (b : Int) (63 : Int)) = ((b % 64 : Nat) : Int) := by
  rw [show (63 : Int) = ((63 : Nat) : Int) from rfl, bits_and rfl (by simp only [IntKind.bits]; omega) (by decide), show b &&& 63 = b % 64 from Nat.and_two_pow_sub_one_eq_mod b 6, wI64 (by omega) (by omega)]
theorem top2 : ∀ b : Fin 256, (b.val &&& 192 = 128) = (128 ≤ b.val ∧ b.val ≤ 191) := by decide +kernel
theorem and192 {b : Nat} (h : b < 256) : Go.bits .and .u8 (b : Int) (192 : Int) = ((b &&& 192 : Nat) : Int) :=
  bits_and rfl (by simp only [IntKind.bits]; omega) (by decide)
theorem cls1 : ∀ c : Fin 256, 194 ≤ c.val → c.val < 224 → firstT c.val % 8 = 2 ∧ accLo (firstT c.val / 16) = 128 ∧ accHi (firstT c.val / 16) = 191 := by decide +kernel
theorem cls2 : ∀ c : Fin 256, 224 ≤ c.val → c.val < 240 → firstT c.val % 8 = 3 ∧ (c.val = 224 ∧ accLo (firstT c.val / 16) = 160 ∨ c.val ≠ 224 ∧ accLo (firstT c.val / 16) = 128) ∧ (c.val = 237 ∧ accHi (firstT c.val / 16) = 159 ∨ c.val ≠ 237 ∧ accHi (firstT c.val / 16) = 191) := by decide +kernel
theorem cls3 : ∀ c : Fin 256, 240 ≤ c.val → c.val < 245 → firstT c.val % 8 = 4 ∧ (c.val = 240 ∧ accLo (firstT c.val / 16) = 144 ∨ c.val ≠ 240 ∧ accLo (firstT c.val / 16) = 128) ∧ (c.val = 244 ∧ accHi (firstT c.val / 16) = 143 ∨ c.val ≠ 244 ∧ accHi (firstT c.val / 16) = 191) := by decide +kernel
theorem cls0 : ∀ c : Fin 256, 128 ≤ c.val → (c.val < 194 ∨ 245 ≤ c.val) → firstT c.val % 8 = 1 := by decide +kernel
theorem ck2 (d b1 b2 b3 lo hi : Nat) : checkN d b1 b2 b3 2 lo hi = if d < 2 ∨ b1 < lo ∨ hi < b1 then none else some 2 := rfl
theorem ck3 (d b1 b2 b3 lo hi : Nat) : checkN d b1 b2 b3 3 lo hi = if d < 3 ∨ b1 < lo ∨ hi < b1 ∨ b2 < 128 ∨ 191 < b2 then none else some 3 := rfl
theorem ck4 (d b1 b2 b3 lo hi : Nat) : checkN d b1 b2 b3 4 lo hi = if d < 4 ∨ b1 < lo ∨ hi < b1 ∨ b2 < 128 ∨ 191 < b2 ∨ b3 < 128 ∨ 191 < b3 then none else some 4 := rfl
theorem rutf_ok {s : ByteArray} {w : World} (hs : s.size ≤ 140737488355300) {K : Bool → World → Prop} (hK : K (validD (bytes s)) w) : C.tocsinref01_Utf8 s w K := by
  have hlen : (bytes s).length = s.size := (size_eq s).symm
  unfold C.tocsinref01_Utf8 C.tocsinref01_Utf8.S21
  refine C.tocsinref01_Utf8.L5_ind fun X hX => ?_
  have key : ∀ (d i : Nat), s.size = i + d → K (validD ((bytes s).drop i)) w → X s (i : Int) w := by
    intro d
    induction d using Nat.strongRecOn with
    | _ d ih =>
      intro i hi hK
      refine hX _ _ _ ?_
      unfold C.tocsinref01_Utf8.S19 C.tocsinref01_Utf8.S2
      refine cond_d (fun h0 => ?_) (fun h0 => ?_)
      · have hpos : i < s.size := by omega
        have hg : ∀ j, ((bytes s).drop i).getD j 0 = (bytes s).getD (i + j) 0 := fun j => by simp [List.getD_eq_getElem?_getD, List.getElem?_drop]
        have hdl : ((bytes s).drop i).length = d := by rw [List.length_drop, hlen]; omega
        have hne : (bytes s).drop i ≠ [] := fun e => by rw [e] at hdl; simp at hdl; omega
        unfold C.tocsinref01_Utf8.S17
        refine ixS_at (k := i) rfl hpos ?_
        have hc := ((bytes s).getD i 0).toNat_lt
        have v1 : ((bytes s).getD i 0).toNat < 128 → validD ((bytes s).drop i) = validD ((bytes s).drop (i + 1)) := fun h => by
          rw [List.drop_eq_getElem_cons (by omega), validD_cons _ _ (by
            have : (bytes s).getD i 0 = (bytes s)[i]'(by omega) := by rw [List.getD_eq_getElem?_getD, List.getElem?_eq_getElem (by omega), Option.getD_some]
            rw [← this]; exact h)]
        have v2 := fun h : 128 ≤ ((bytes s).getD i 0).toNat => validD_lead _ hne (by rw [hg, Nat.add_zero]; exact h)
        simp only [hg, hdl, Nat.add_zero] at v2
        have h1 := ((bytes s).getD (i + 1) 0).toNat_lt
        have h2 := ((bytes s).getD (i + 2) 0).toNat_lt
        have h3 := ((bytes s).getD (i + 3) 0).toNat_lt
        rw [wI64 (x := (((bytes s).getD i 0).toNat : Int)) (by omega) (by omega)]
        -- one round of the inner loop
        have round : ∀ (Y : Cur C.tocsinref01_Utf8.g11), (∀ s_10 i_11 n_12 least_13 r_14 k_15 w, C.tocsinref01_Utf8.S13 K X Y s_10 i_11 n_12 least_13 r_14 k_15 w → Y s_10 i_11 n_12 least_13 r_14 k_15 w) →
            ∀ (n k r : Nat) (least : Int), k ≤ n → k ≤ 3 → r < 1000000 → (s.size ≤ i + k ∨ (((bytes s).getD (i + k) 0).toNat < 128 ∨ 191 < ((bytes s).getD (i + k) 0).toNat) → K false w) →
            (¬ (s.size ≤ i + k) → 128 ≤ ((bytes s).getD (i + k) 0).toNat → ((bytes s).getD (i + k) 0).toNat ≤ 191 → Y s (i : Int) (n : Int) least ((r * 64 + ((bytes s).getD (i + k) 0).toNat % 64 : Nat) : Int) ((k + 1 : Nat) : Int) w) →
            Y s (i : Int) (n : Int) least (r : Int) (k : Int) w := by
          intro Y hY n k r least hk hk3 hr hF hN
          refine hY _ _ _ _ _ _ _ ?_
          unfold C.tocsinref01_Utf8.S13
          refine cond_d (fun _ => ?_) (fun h => by omega)
          rw [wI64 (x := (i : Int) + (k : Int)) (by omega) (by omega)]
          refine cond_d (fun h => hF (.inl (by omega))) (fun h => ?_)
          have hb := ((bytes s).getD (i + k) 0).toNat_lt
          refine ixS_at (k := i + k) (by omega) (by omega) ?_
          rw [and192 hb]
          have ht2 := top2 ⟨_, hb⟩
          simp only at ht2
          refine cond_ne (fun h' => ?_) (fun h' => ?_)
          · refine hF (.inr ?_)
            have : ¬ (((bytes s).getD (i + k) 0).toNat &&& 192 = 128) := fun e => h' (by rw [e]; rfl)
            rw [ht2] at this; omega
          · have h'' : ((bytes s).getD (i + k) 0).toNat &&& 192 = 128 := by exact_mod_cast h'
            rw [ht2] at h''
            refine ixS_at (k := i + k) (by omega) (by omega) ?_
            rw [and63 hb, wI64 (x := (r : Int) * 64) (by omega) (by omega), wI64 (by omega) (by omega), wI64 (by omega) (by omega),
              show (r : Int) * 64 + ((((bytes s).getD (i + k) 0).toNat % 64 : Nat) : Int) = ((r * 64 + ((bytes s).getD (i + k) 0).toNat % 64 : Nat) : Int) by omega, show (k : Int) + 1 = ((k + 1 : Nat) : Int) by omega]
            exact hN (by omega) h''.1 h''.2
        have done : ∀ (Y : Cur C.tocsinref01_Utf8.g11), (∀ s_10 i_11 n_12 least_13 r_14 k_15 w, C.tocsinref01_Utf8.S13 K X Y s_10 i_11 n_12 least_13 r_14 k_15 w → Y s_10 i_11 n_12 least_13 r_14 k_15 w) →
            ∀ (n r : Nat) (least : Nat), n ≤ 3 → i + n < s.size → ((r < least ∨ r > 1114111 ∨ (r ≥ 55296 ∧ r < 57344)) → K false w) →
            (¬ (r < least ∨ r > 1114111 ∨ (r ≥ 55296 ∧ r < 57344)) → K (validD ((bytes s).drop (i + (n + 1)))) w) → Y s (i : Int) (n : Int) (least : Int) (r : Int) ((n + 1 : Nat) : Int) w := by
          intro Y hY n r least hn hsz hF hN
          refine hY _ _ _ _ _ _ _ ?_
          unfold C.tocsinref01_Utf8.S13 C.tocsinref01_Utf8.S8
          refine cond_d (fun h => by omega) (fun _ => ?_)
          refine cond_d (fun h => hF (.inl (by omega))) (fun q1 => ?_)
          refine cond_d (fun h => hF (.inr (.inl (by omega)))) (fun q2 => ?_)
          refine andc (fun q3 q4 => hF (.inr (.inr (by omega)))) (fun q3 => ?_)
          rw [wI64 (x := (i : Int) + (n : Int)) (by omega) (by omega), wI64 (by omega) (by omega), show (i : Int) + (n : Int) + 1 = ((i + (n + 1) : Nat) : Int) by omega]
          exact ih (d - (n + 1)) (by omega) (i + (n + 1)) (by omega) (hN (by omega))
        refine cond_d (fun ha => ?_) (fun ha => ?_)
        · rw [wI64 (by omega) (by omega), show (i : Int) + 1 = ((i + 1 : Nat) : Int) by omega]
          refine ih (d - 1) (by omega) (i + 1) (by omega) ?_
          rw [v1 (by omega)] at hK; exact hK
        have hv := v2 (by omega)
        generalize hcc : ((bytes s).getD i 0).toNat = c at *
        clear v1 v2
        refine andc (fun p1 p2 => ?_) (fun p1 => andc (fun p3 p4 => ?_) (fun p3 => andc (fun p5 p6 => ?_) (fun p5 => ?_)))
        · obtain ⟨z1, z2, z3⟩ := cls1 ⟨c, hc⟩ (by simp only; omega) (by simp only; omega)
          simp only at z1 z2 z3
          rw [z1, ck2] at hv
          generalize accLo (firstT c / 16) = lo at *
          generalize accHi (firstT c / 16) = hi' at *
          rw [show Go.bits .and .i64 (c : Int) (31 : Int) = ((c % 32 : Nat) : Int) by rw [show (31 : Int) = ((31 : Nat) : Int) from rfl, and_i64 (by omega) (by omega), show c &&& 31 = c % 32 from Nat.and_two_pow_sub_one_eq_mod c 5]]
          unfold C.tocsinref01_Utf8.S15
          refine C.tocsinref01_Utf8.L11_ind fun Y hY => ?_
          refine round Y hY 1 1 _ _ (by omega) (by omega) (by omega) (fun hF => ?_) (fun q1 q2 q3 => ?_)
          · rw [if_pos (by omega)] at hv
            have hv' : validD ((bytes s).drop i) = false := hv
            rw [hv'] at hK; exact hK
          refine done Y hY 1 _ 128 (by omega) (by omega) (fun hF => ?_) (fun hN => ?_)
          · omega
          rw [if_neg (by omega)] at hv
          have hv' : validD ((bytes s).drop i) = validD (((bytes s).drop i).drop 2) := hv
          rw [hv', List.drop_drop] at hK; exact hK
        · obtain ⟨z1, z2, z3⟩ := cls2 ⟨c, hc⟩ (by simp only; omega) (by simp only; omega)
          simp only at z1 z2 z3
          rw [z1, ck3] at hv
          generalize accLo (firstT c / 16) = lo at *
          generalize accHi (firstT c / 16) = hi' at *
          rw [show Go.bits .and .i64 (c : Int) (15 : Int) = ((c % 16 : Nat) : Int) by rw [show (15 : Int) = ((15 : Nat) : Int) from rfl, and_i64 (by omega) (by omega), show c &&& 15 = c % 16 from Nat.and_two_pow_sub_one_eq_mod c 4]]
          unfold C.tocsinref01_Utf8.S15
          refine C.tocsinref01_Utf8.L11_ind fun Y hY => ?_
          refine round Y hY 2 1 _ _ (by omega) (by omega) (by omega) (fun hF => ?_) (fun q1 q2 q3 => ?_)
          · rw [if_pos (by omega)] at hv
            have hv' : validD ((bytes s).drop i) = false := hv
            rw [hv'] at hK; exact hK
          refine round Y hY 2 2 _ _ (by omega) (by omega) (by omega) (fun hF => ?_) (fun q4 q5 q6 => ?_)
          · rw [if_pos (by omega)] at hv
            have hv' : validD ((bytes s).drop i) = false := hv
            rw [hv'] at hK; exact hK
          refine done Y hY 2 _ 2048 (by omega) (by omega) (fun hF => ?_) (fun hN => ?_)
          · rw [if_pos (by omega)] at hv
            have hv' : validD ((bytes s).drop i) = false := hv
            rw [hv'] at hK; exact hK
          rw [if_neg (by omega)] at hv
          have hv' : validD ((bytes s).drop i) = validD (((bytes s).drop i).drop 3) := hv
          rw [hv', List.drop_drop] at hK; exact hK
        · obtain ⟨z1, z2, z3⟩ := cls3 ⟨c, hc⟩ (by simp only; omega) (by simp only; omega)
          simp only at z1 z2 z3
          rw [z1, ck4] at hv
          generalize accLo (firstT c / 16) = lo at *
          generalize accHi (firstT c / 16) = hi' at *
          rw [show Go.bits .and .i64 (c : Int) (7 : Int) = ((c % 8 : Nat) : Int) by rw [show (7 : Int) = ((7 : Nat) : Int) from rfl, and_i64 (by omega) (by omega), show c &&& 7 = c % 8 from Nat.and_two_pow_sub_one_eq_mod c 3]]
          unfold C.tocsinref01_Utf8.S15
          refine C.tocsinref01_Utf8.L11_ind fun Y hY => ?_
          refine round Y hY 3 1 _ _ (by omega) (by omega) (by omega) (fun hF => ?_) (fun q1 q2 q3 => ?_)
          · rw [if_pos (by omega)] at hv
            have hv' : validD ((bytes s).drop i) = false := hv
            rw [hv'] at hK; exact hK
          refine round Y hY 3 2 _ _ (by omega) (by omega) (by omega) (fun hF => ?_) (fun q4 q5 q6 => ?_)
          · rw [if_pos (by omega)] at hv
            have hv' : validD ((bytes s).drop i) = false := hv
            rw [hv'] at hK; exact hK
          refine round Y hY 3 3 _ _ (by omega) (by omega) (by omega) (fun hF => ?_) (fun q7 q8 q9 => ?_)
          · rw [if_pos (by omega)] at hv
            have hv' : validD ((bytes s).drop i) = false := hv
            rw [hv'] at hK; exact hK
          refine done Y hY 3 _ 65536 (by omega) (by omega) (fun hF => ?_) (fun hN => ?_)
          · rw [if_pos (by omega)] at hv
            have hv' : validD ((bytes s).drop i) = false := hv
            rw [hv'] at hK; exact hK
          rw [if_neg (by omega)] at hv
          have hv' : validD ((bytes s).drop i) = validD (((bytes s).drop i).drop 4) := hv
          rw [hv', List.drop_drop] at hK; exact hK
        · have z := cls0 ⟨c, hc⟩ (by simp only; omega) (by simp only; omega)
          simp only at z
          rw [z] at hv
          have hv' : validD ((bytes s).drop i) = false := hv
          rw [hv'] at hK; exact hK
      · rw [List.drop_of_length_le (by omega), validD_nil] at hK
        exact hK
  exact key s.size 0 (by omega) (by simpa using hK)
end Go.Proofs.YtechilkjfhpkpaaGreatDoor.Utf

namespace Go.Proofs.YtechilkjfhpkpaaGreatDoor.Lab
open Go Vm Go.RowKit Num Mem Utf Lib
variable {ω ω' : Tg} {w w' w0 : World}
theorem rletter_ok {c : Nat} {K : Bool → World → Prop} (hK : K (letterB c) w) : C.tocsinref04_letter (c : Int) w K := by
  unfold C.tocsinref04_letter
  have e95 : ∀ b : Bool, letterB c = b → (((c : Int) == (95 : Int)) = (c == 95)) := fun _ _ => by
    cases h : (c == 95) with
    | true => simp at h; subst h; rfl
    | false => simp at h; simp; omega
  have e := e95 _ rfl
  have yes : letterB c = true → K true w := fun h => by rw [h] at hK; exact hK
  have els : (letterB c = (c == 95)) → K ((c : Int) == (95 : Int)) w := fun h => by rw [e, ← h]; exact hK
  refine cond_d (fun h1 => cond_d (fun h2 => yes ?_) (fun h2 => cond_d (fun h3 => cond_d (fun h4 => by omega) (fun h4 => els ?_)) (fun h3 => by omega))) (fun h1 => cond_d (fun h3 => cond_d (fun h4 => yes ?_) (fun h4 => els ?_)) (fun h3 => els ?_))
  all_goals (unfold letterB; simp; try omega)
theorem rdigit_ok {c : Nat} {K : Bool → World → Prop} (hK : K (digitB c) w) : C.tocsinref04_digit (c : Int) w K := by
  unfold C.tocsinref04_digit
  unfold digitB at hK
  refine cond_d (fun h => ?_) (fun h => ?_)
  · have e : decide ((c : Int) ≤ 57) = decide (c ≤ 57) := by simp only [decide_eq_decide]; omega
    rw [e]
    rw [decide_eq_true (by omega : 48 ≤ c)] at hK
    exact hK
  · rw [decide_eq_false (by omega : ¬ 48 ≤ c)] at hK
    exact hK
theorem let_dig {c : Nat} (h : letterB c = true) : digitB c = false := by
  unfold letterB at h
  unfold digitB
  simp at h ⊢
  omega
theorem okB_eq {c : Nat} {a b : Bool} (h1 : letterB c = a) (h2 : digitB c = b) : okB false c = (a || b) := by unfold okB; rw [h1, h2]; simp
theorem rname_ok {s : ByteArray} {K : Bool → World → Prop} (hK : K (namedB (Utf.bytes s) 64 false) w0) : C.tocsinref04_Name s w0 K := by
  have hsz := size_eq s
  have hl : (Utf.bytes s).length = s.size := hsz.symm
  unfold C.tocsinref04_Name
  have no : namedB (Utf.bytes s) 64 false = false → K false w0 := fun h => by rwa [h] at hK
  have etl : s.toList = Utf.bytes s := ByteArray.toList_eq s
  have e0 : (⟨#[]⟩ : ByteArray).toList = [] := by rw [ByteArray.toList_eq]
  rw [etl, e0]
  refine cond_of (fun h => no ?_) (fun h => ?_)
  · have : Utf.bytes s = [] := by simpa using h
    unfold namedB; rw [this]; rfl
  have hne : Utf.bytes s ≠ [] := by intro e; rw [e] at h; simp at h
  have hpos : 0 < s.size := by rw [← hl]; exact List.length_pos_iff.2 hne
  refine cond_d (fun h => no ?_) (fun h => ?_)
  · unfold namedB; rw [decide_eq_false (by omega)]; simp
  have hemp : (Utf.bytes s).isEmpty = false := by cases hb : Utf.bytes s with | nil => exact absurd hb hne | cons _ _ => rfl
  have hle : decide ((Utf.bytes s).length ≤ 64) = true := decide_eq_true (by omega)
  have hn : namedB (Utf.bytes s) 64 false = (!digitB ((Utf.bytes s).getD 0 0).toNat && (Utf.bytes s).all fun c => okB false c.toNat) := by unfold namedB; rw [hemp, hle]; simp
  rw [hn] at hK no
  unfold C.tocsinref04_Name.S9
  refine C.tocsinref04_Name.L5_ind fun X hX => ?_
  have key : ∀ (d i : Nat), i + d = s.size → ((Utf.bytes s).take i).all (fun c => okB false c.toNat) = true → (0 < i → digitB ((Utf.bytes s).getD 0 0).toNat = false) → X s ((s.size : Nat) : Int) (i : Int) w0 := by
    intro d
    induction d with
    | zero =>
      intro i hi ha h0
      refine hX _ _ _ _ ?_
      unfold C.tocsinref04_Name.S7 C.tocsinref04_Name.S2
      refine cond_d (fun h => by omega) (fun _ => ?_)
      rw [List.take_of_length_le (by omega)] at ha
      rw [ha, h0 (by omega)] at hK
      exact hK
    | succ d ih =>
      intro i hi ha h0
      refine hX _ _ _ _ ?_
      unfold C.tocsinref04_Name.S7
      have hil : i < (Utf.bytes s).length := by omega
      have hg : (Utf.bytes s).getD i 0 = (Utf.bytes s)[i] := by rw [List.getD_eq_getElem?_getD, List.getElem?_eq_getElem hil, Option.getD_some]
      refine cond_d (fun _ => ?_) (fun h => by omega)
      have next : okB false (Utf.bytes s)[i].toNat = true → (i = 0 → digitB ((Utf.bytes s).getD 0 0).toNat = false) → X s ((s.size : Nat) : Int) (IntKind.i64.wrap ((i : Int) + 1)) w0 := fun hok hz => by
        rw [wI64 (by omega) (by omega), show (i : Int) + 1 = ((i + 1 : Nat) : Int) by omega]
        refine ih (i + 1) (by omega) ?_ (fun _ => if h : i = 0 then hz h else h0 (by omega))
        rw [List.take_add_one, List.getElem?_eq_getElem hil, List.all_append, ha]
        show (true && (okB false (Utf.bytes s)[i].toNat && true)) = true
        rw [hok]; rfl
      have stop : okB false (Utf.bytes s)[i].toNat = false → K false w0 := fun hok => no (by
        have : (Utf.bytes s).all (fun c => okB false c.toNat) = false := by
          rw [List.all_eq_false]
          exact ⟨(Utf.bytes s)[i], List.getElem_mem hil, by rw [hok]; decide⟩
        rw [this, Bool.and_false])
      refine ixS_at (k := i) rfl (by omega) ?_
      rw [hg]
      refine rletter_ok (cond_of (fun hlt => ?_) (fun hlt => ?_))
      · simp only [Bool.not_eq_true'] at hlt
        refine cond_eq (fun hz => ?_) (fun hz => ?_)
        · have hz : i = 0 := by omega
          subst hz
          by_cases hdg : digitB (Utf.bytes s)[0].toNat = true
          · exact no (by rw [hg, hdg]; rfl)
          · exact stop (by rw [okB_eq hlt (Bool.eq_false_iff.2 hdg)]; rfl)
        · refine ixS_at (k := i) rfl (by omega) ?_
          rw [hg]
          refine rdigit_ok (cond_of (fun hdt => stop ?_) (fun hdt => next ?_ (fun e => by omega)))
          · simp only [Bool.not_eq_true'] at hdt
            rw [okB_eq hlt hdt]; rfl
          · simp only [Bool.not_eq_false'] at hdt
            rw [okB_eq hlt hdt]; rfl
      · have hlt : letterB (Utf.bytes s)[i].toNat = true := by simpa only [Bool.not_eq_false'] using hlt
        exact next (by rw [okB_eq hlt (let_dig hlt)]; rfl) (fun e => by subst e; rw [hg]; exact let_dig hlt)
  exact key s.size 0 (by omega) rfl (fun h => absurd h (Nat.lt_irrefl _))
def oneE (x : Lb) : Int := if namedB (Utf.bytes x.1) 64 false = false then 40 else valE (Utf.bytes x.2)
theorem rone_ok {x : Lb} (hs : x.2.size ≤ 140737488355300) {K : Int → World → Prop} (hK : ∀ w', Keep w0 w' → K (oneE x) w') : C.tocsinref04_one x.1 x.2 w0 K := by
  unfold C.tocsinref04_one
  refine new_T (ω := fun _ => 0) 7 fun g ω1 w1 k1 b1 => ?_
  have hl : (Utf.bytes x.2).length = x.2.size := (size_eq x.2).symm
  have etl : x.2.toList = Utf.bytes x.2 := ByteArray.toList_eq x.2
  have e0 : (⟨#[]⟩ : ByteArray).toList = [] := by rw [ByteArray.toList_eq]
  have key := hK w1 k1.keep
  unfold oneE valE at key
  refine cS_at (b := x.1) (by rw [b1.cell]; rfl) <| rname_ok <| cond_of (fun h => ?_) (fun h => ?_)
  · rw [if_pos (by simpa using h)] at key; exact key
  rw [if_neg (by simpa using h)] at key
  refine cS_at (b := x.2) (by rw [addr_add, b1.cell]; rfl) ?_
  rw [etl, e0]
  refine cond_of (fun h => ?_) (fun h => ?_)
  · rw [if_pos (by simpa using h)] at key; exact key
  rw [if_neg (by intro e; rw [e] at h; simp at h)] at key
  refine cS_at (b := x.2) (by rw [addr_add, b1.cell]; rfl) <| cond_d (fun h => ?_) (fun h => ?_)
  · rw [if_pos (by omega)] at key; exact key
  rw [if_neg (by omega)] at key
  refine cS_at (b := x.2) (by rw [addr_add, b1.cell]; rfl) <| rutf_ok hs <| cond_of (fun h => ?_) (fun h => ?_)
  · rw [if_neg (by simpa using h)] at key; exact key
  · rw [if_pos (by simpa using h)] at key; exact key
theorem back_cb (p x : ByteArray) : (!(Op.bytesLess p.toList x.toList)) = backB (some p) x := by
  show _ = ((Op.bytesLess x.toList p.toList) || (x.toList == p.toList))
  rw [lessB, lessB, eqB]
  have h1 := cB_cmp.vals x p
  have h2 := cB_cmp.anti x p
  rcases h1 with e | e | e <;> rw [e] at h2 ⊢ <;> rw [h2] <;> rfl
theorem rright_ok {s : Sl} {m : List Lb} (hs : Rd w0 s 2 (labs m)) (hz : ∀ x ∈ m, x.2.size ≤ 140737488355300) {K : Int → Int → World → Prop} (hK : ∀ w', Keep w0 w' → K (rt m).1 ((rt m).2 : Int) w') : C.tocsinref04_Right s w0 K := by
  have hsn : s.n = m.length := by have := hs.2.1; rw [labs_len] at this; omega
  unfold C.tocsinref04_Right
  unfold rt at hK
  refine cond_d (fun h => ?_) (fun h => ?_)
  · rw [if_pos (by omega)] at hK; exact hK w0 (Keep.refl w0)
  rw [if_neg (by omega)] at hK
  unfold C.tocsinref04_Right.S9
  refine C.tocsinref04_Right.L5_ind fun X hX => ?_
  have key : ∀ (d i : Nat) (w : World), i + d = m.length → Keep w0 w → rtGo (if i = 0 then none else (m[i - 1]?).map (·.1)) (m.drop i) i = rtGo none m 0 → X s s ((s.n : Nat) : Int) (i : Int) w := by
    intro d
    induction d with
    | zero =>
      intro i w hi k e
      refine hX _ _ _ _ _ ?_
      unfold C.tocsinref04_Right.S7 C.tocsinref04_Right.S2
      refine cond_d (fun h => by omega) (fun _ => ?_)
      rw [List.drop_of_length_le (by omega)] at e
      have := hK w k
      rwa [← e] at this
    | succ d ih =>
      intro i w hi k e
      have him : i < m.length := by omega
      refine hX _ _ _ _ _ ?_
      unfold C.tocsinref04_Right.S7
      refine cond_d (fun _ => ?_) (fun h => by omega)
      have hx : m[i]? = some m[i] := List.getElem?_eq_getElem him
      refine rdL_at (hs.keep k) (k := i) rfl hx fun a hc0 hc1 => cS_at hc0 <| cS_at hc1 ?_
      refine new_T (ω := fun _ => 0) 7 fun g ω2 w2 k2 b2 => ?_
      refine st_T b2 (by simp) fun ω3 w3 k3 b3 => ?_
      refine st_TA b3 (by simp) fun ω4 w4 k4 b4 => ?_
      have k04 := Keep.trans k ((Top.init w).stp ((k2.non (Mem.One 7)).trans (k3.trans k4))).k
      rw [List.drop_eq_getElem_cons him, rtGo] at e
      have out : ∀ (c : Int) w', (c, i) = rtGo none m 0 → Keep w0 w' → K c (i : Int) w' := fun c w' ec kk => by
        have := hK w' kk
        rwa [← ec] at this
      refine cS_at (b := m[i].1) (by rw [b4.cell]; rfl) <| cS_at (b := m[i].2) (by rw [addr_add, b4.cell]; rfl) ?_
      refine rone_ok (hz _ (List.getElem_mem him)) fun w5 k5 => ?_
      have k05 := Keep.trans k04 k5
      have b5 := b4.stp (k5.stp0 ω4)
      unfold oneE
      refine cond_ne (fun hn => ?_) (fun hn => ?_)
      · split at hn
        · rename_i h1
          rw [if_pos h1] at e ⊢; exact out 40 w5 e k05
        · rename_i h1
          rw [if_neg h1] at e ⊢
          rw [if_pos hn] at e; exact out _ w5 e k05
      have h1 : ¬ namedB (Utf.bytes m[i].1) 64 false = false := fun h => by rw [if_pos h] at hn; cases hn
      rw [if_neg h1] at hn e
      rw [if_neg (by simpa using hn)] at e
      have next : backB (if i = 0 then none else (m[i - 1]?).map (·.1)) m[i].1 = false → ∀ w', Keep w0 w' → X s s ((s.n : Nat) : Int) (IntKind.i64.wrap ((i : Int) + 1)) w' := fun hb w' kk => by
        rw [hb, if_neg (by decide)] at e
        rw [wI64 (by omega) (by omega), show (i : Int) + 1 = ((i + 1 : Nat) : Int) by omega]
        refine ih (i + 1) w' (by omega) kk ?_
        rw [if_neg (by omega), Nat.add_sub_cancel, hx]; exact e
      have k06 := Keep.trans k05 (Keep.drew w5)
      refine cond_d (fun hi0 => ?_) (fun hi0 => next ?_ _ k06)
      · have hy : m[i - 1]? = some m[i - 1] := List.getElem?_eq_getElem (by omega)
        refine rdL_at (hs.keep k06) (k := i - 1) (by rw [wI64 (by omega) (by omega)]; omega) hy fun p hp0 _ => cS_at hp0 <| cS_at (b := m[i].1) (by rw [(b5.stp (drew_stp ω4 w5)).cell]; rfl) ?_
        have eb : backB (if i = 0 then none else (m[i - 1]?).map (·.1)) m[i].1 = backB (some m[i - 1].1) m[i].1 := by
          rw [if_neg (by omega), hy]; rfl
        rw [back_cb]
        refine cond_of (fun hb => ?_) (fun hb => next (by rw [eb]; exact hb) _ k06)
        rw [eb, hb, if_pos rfl] at e
        exact out 3 _ e k06
      · rw [if_pos (by omega)]; rfl
  exact key m.length 0 w0 (by omega) (Keep.refl w0) rfl
end Go.Proofs.YtechilkjfhpkpaaGreatDoor.Lab

namespace Go.Proofs.YtechilkjfhpkpaaGreatDoor.Mem
open Go Vm Go.RowKit Num
theorem put_stp' {ω : Tg} {w : World} {t g : Nat} {o : Obj} (ht : ω g = t) : Stp (One t) ω ω w (w.putObj g o) :=
  ⟨rfl, rfl, rfl, by simp [World.putObj], fun _ _ => rfl, fun k _ hT => World.putObj_heap_other fun e => by subst e; rw [ht, one_self] at hT; cases hT⟩
structure MT (ω : Tg) (w : World) (t g : Nat) (al : List (ByteArray × Value)) : Prop where
  ex : ∃ es clock, w.heap[g]? = some (.map es clock) ∧ es.toList.map (fun e => (e.key, e.val)) = al.map (fun p => (Value.string p.1, p.2))
  tag : ω g = t
variable {ω ω' : Tg} {w w' : World} {t g : Nat} {al : List (ByteArray × Value)} {P : Program}
theorem MT.stp {T : Nat → Bool} (h : MT ω w t g al) (s : Stp T ω ω' w w') (ne : T t = false) : MT ω' w' t g al := by
  obtain ⟨es, clock, hb, he⟩ := h.ex
  exact ⟨⟨es, clock, by rw [s.block g (heap_lt hb) (by rw [h.tag]; exact ne)]; exact hb, he⟩, (s.same g (heap_lt hb)).trans h.tag⟩
end Go.Proofs.YtechilkjfhpkpaaGreatDoor.Mem

namespace Go.Proofs.YtechilkjfhpkpaaGreatDoor.Mem
open Go Vm Go.RowKit Num
abbrev AL := List (ByteArray × Value)
def encE (p : ByteArray × Value) : Value × Value := (.string p.1, p.2)
structure MV (ω : Tg) (w : World) (t g : Nat) (al : AL) : Prop where
  ex : ∃ es clock, w.heap[g]? = some (.map es clock) ∧ MapKept.Stamped es clock ∧ es.toList.map (fun e => (e.key, e.val)) = al.map encE
  tag : ω g = t
def getV (s : ByteArray) : AL → Option Value
  | [] => none
  | (k, v) :: r => if s = k then some v else getV s r
def updA (s : ByteArray) (v : Value) : AL → AL
  | [] => [(s, v)]
  | (k, x) :: r => if s = k then (s, v) :: r else (k, x) :: updA s v r
def delA (s : ByteArray) : AL → AL
  | [] => []
  | (k, x) :: r => if s = k then r else (k, x) :: delA s r
variable {ω ω' : Tg} {w w' : World} {t g : Nat} {al : AL} {P : Program} {T : Nat → Bool}
theorem MV.stp (h : MV ω w t g al) (s : Stp T ω ω' w w') (ne : T t = false) : MV ω' w' t g al := by
  obtain ⟨es, clock, hb, hs, he⟩ := h.ex
  exact ⟨⟨es, clock, by rw [s.block g (heap_lt hb) (by rw [h.tag]; exact ne)]; exact hb, hs, he⟩, (s.same g (heap_lt hb)).trans h.tag⟩
theorem MV.lt (h : MV ω w t g al) : g < w.heap.size := by obtain ⟨es, clock, hb, _⟩ := h.ex; exact heap_lt hb
theorem MV.nodup (h : MV ω w t g al) : (al.map (·.1)).Nodup := by
  obtain ⟨es, clock, hb, hs, he⟩ := h.ex
  have h1 := ((MapKept.stamped_iff es clock).1 hs).2.2
  have h2 : (es.toList.map (·.key)).Nodup := by rw [List.Nodup, List.pairwise_map]; exact h1
  have e3 : es.toList.map (·.key) = (al.map (·.1)).map Value.string := by
    have := congrArg (List.map Prod.fst) he
    rw [List.map_map, List.map_map] at this
    rw [List.map_map]
    exact this
  rw [e3] at h2
  exact (List.pairwise_map.1 h2).imp fun h e => h (by rw [e])
theorem find_al (s : ByteArray) : ∀ (es : List MapEntry) (al : AL) (i : Nat), es.map (fun e => (e.key, e.val)) = al.map encE →
    (getV s al = none ∧ Instr.findNow .string (.string s) es i = some none) ∨
    ∃ j e v, getV s al = some v ∧ Instr.findNow .string (.string s) es i = some (some (i + j, v)) ∧ es[j]? = some e ∧ e.key = .string s ∧ e.val = v ∧ j < al.length ∧
      (∀ x, al.set j (s, x) = updA s x al) ∧ al.eraseIdx j = delA s al
  | [], [], i, _ => .inl ⟨rfl, rfl⟩
  | [], _ :: _, i, h => by simp at h
  | _ :: _, [], i, h => by simp at h
  | e :: es, (k, v) :: al, i, h => by
    simp only [List.map_cons, List.cons.injEq, encE, Prod.mk.injEq] at h
    obtain ⟨⟨h1, h2⟩, h3⟩ := h
    by_cases hs : s = k
    · subst hs
      have hb : (s == s) = true := (MapKept.bytes_beq s s).2 rfl
      refine .inr ⟨0, e, v, by simp [getV], ?_, rfl, h1, h2, by simp, fun x => by simp [updA], by simp [delA]⟩
      unfold Instr.findNow
      rw [h1]
      simp [Instr.sameNow, hb, h2]
    · have hb : (s == k) = false := by
        cases hc : (s == k) with
        | true => exact absurd ((MapKept.bytes_beq s k).1 hc) hs
        | false => rfl
      have fn : ∀ x, Instr.findNow .string (.string s) es (i + 1) = some x → Instr.findNow .string (.string s) (e :: es) i = some x := fun x hx => by
        unfold Instr.findNow
        rw [h1]
        simp [Instr.sameNow, hb, hx]
      rcases find_al s es al (i + 1) (by simpa [encE] using h3) with ⟨g1, g2⟩ | ⟨j, e', v', g1, g2, g3, g4, g5, g6, g7, g8⟩
      · exact .inl ⟨by simp [getV, hs, g1], fn _ g2⟩
      · refine .inr ⟨j + 1, e', v', by simp [getV, hs, g1], ?_, by simpa using g3, g4, g5, by simp; omega, fun x => by simp [updA, hs, g7 x], by simp [delA, hs, g8]⟩
        rw [fn _ g2]; congr 3; omega
theorem chk_key {kt : TypeId} (hk : P.underlying kt = some .string) (s : ByteArray) (w : World) (e : Bool) : (Instr.checkKey e 10000 kt (.string s)).run P w = .ok () w := MapKept.run_checkKey (k := .string s) hk (by simp [MapKept.IsKey]) e 9999
theorem run_look_V {mt kt et : TypeId} (h : MV ω w t g al) (hm : P.underlying mt = some (.map kt et)) (hk : P.underlying kt = some .string) {z : Value} (hz : ∀ w, (zeroValue et).run P w = .ok z w) (s : ByteArray) (ok : Bool) (d : Nat) :
    (Instr.lookup mt (.map (some g)) (.string s) ok).run P (w.drewN d) = .ok (if ok then .tuple #[(getV s al).getD z, .bool (getV s al).isSome] else (getV s al).getD z) (w.drewN d) := by
  obtain ⟨es, clock, hb, hs, he⟩ := h.ex
  have hb' : (w.drewN d).heap[g]? = some (.map es clock) := hb
  have hc := fun e => chk_key (P := P) hk s (w.drewN d) e
  rcases find_al s es.toList al 0 he with ⟨g1, g2⟩ | ⟨j, e', v', g1, g2, _⟩
  · simp [Instr.lookup, run_underlying hm, MapKept.run_getObj_map hb', hc, MapKept.run_findKey hk g2, hz, Result.andThen, g1]
  · simp [Instr.lookup, run_underlying hm, MapKept.run_getObj_map hb', hc, MapKept.run_findKey hk g2, Result.andThen, g1]
theorem rd2_V {α : Type} {f : α → Value} {mt kt et : TypeId} (h : MV ω w t g al) (hm : P.underlying mt = some (.map kt et)) (hk : P.underlying kt = some .string) {z : Value} (hz : ∀ w, (zeroValue et).run P w = .ok z w) {s : ByteArray} {K : α → Bool → Prop} {a : α}
    (e : (getV s al).getD z = f a) (hK : K a (getV s al).isSome) : G.rd2 P (Instr.lookup mt (.map (some g)) (.string s) true) f w K :=
  ⟨a, _, fun d => by rw [run_look_V h hm hk hz s true d, e]; rfl, hK⟩
theorem rd1_V {α : Type} {f : α → Value} {mt kt et : TypeId} (h : MV ω w t g al) (hm : P.underlying mt = some (.map kt et)) (hk : P.underlying kt = some .string) {z : Value} (hz : ∀ w, (zeroValue et).run P w = .ok z w) {s : ByteArray} {K : α → Prop} {a : α}
    (e : (getV s al).getD z = f a) (hK : K a) : G.rd1 P (Instr.lookup mt (.map (some g)) (.string s) false) f w K :=
  ⟨a, fun d => by rw [run_look_V h hm hk hz s false d, e]; rfl, hK⟩
theorem mkV {mt : TypeId} (t : Nat) {K : Option Nat → World → Prop} (hK : ∀ g ω' w', Stp Non ω ω' w w' → MV ω' w' t g [] → K (some g) w') : G.runM P (Instr.makeMap mt none) w K :=
  ⟨some w.heap.size, _, run_makeMap_plain w mt, hK w.heap.size (ext ω w.heap.size t) _ ((Keep.alloc w _).stp ω t) ⟨⟨#[], 0, World.alloc_heap_new w _, MapKept.stamped_empty 0, rfl⟩, ext_new (Nat.le_refl _)⟩⟩
theorem updV {mt kt et : TypeId} (h : MV ω w t g al) (hm : P.underlying mt = some (.map kt et)) (hk : P.underlying kt = some .string) {s : ByteArray} {v : Value} {K : World → Prop}
    (hK : ∀ ω' w', Stp (One t) ω ω' w w' → MV ω' w' t g (updA s v al) → K w') : G.runU P (Instr.mapUpdate mt (.map (some g)) (.string s) v) w K := by
  obtain ⟨es, clock, hb, hs, he⟩ := h.ex
  have hc := fun e => chk_key (P := P) hk s w e
  rcases find_al s es.toList al 0 he with ⟨g1, g2⟩ | ⟨j, e', v', g1, g2, g3, g4, g5, g6, g7, _⟩
  · have app : ∀ al : AL, getV s al = none → updA s v al = al ++ [(s, v)] := by
      intro al
      induction al with
      | nil => intro _; rfl
      | cons p r ih =>
        intro h
        obtain ⟨k, x⟩ := p
        by_cases e : s = k
        · simp [getV, e] at h
        · simp only [getV, if_neg e] at h
          simp [updA, if_neg e, ih h]
    have hne : ∀ al : AL, getV s al = none → ∀ p ∈ al, p.1 ≠ s := by
      intro al
      induction al with
      | nil => intro _ p hp; cases hp
      | cons p r ih =>
        intro h q hq
        obtain ⟨k, x⟩ := p
        by_cases e : s = k
        · simp [getV, e] at h
        · simp only [getV, if_neg e] at h
          rcases List.mem_cons.1 hq with rfl | hq
          · exact fun e' => e e'.symm
          · exact ih h q hq
    refine ⟨w.putObj g (.map (es.push { key := .string s, val := v, born := clock }) (clock + 1)), ?_, hK ω _ (put_stp' h.tag) ⟨⟨_, _, World.putObj_heap_same (heap_lt hb), MapKept.stamped_push hs fun x hx hxe => ?_, ?_⟩, h.tag⟩⟩
    · simp [Instr.mapUpdate, run_underlying hm, MapKept.run_getObj_map hb, hc, MapKept.run_findKey hk g2, MapKept.run_setObj_map _ hb, Result.andThen, World.putObj]
    · have : (x.key, x.val) ∈ es.toList.map (fun e => (e.key, e.val)) := List.mem_map_of_mem hx
      rw [he] at this
      obtain ⟨p, hp, hpe⟩ := List.mem_map.1 this
      simp only [encE, Prod.mk.injEq] at hpe
      rw [hxe] at hpe
      injection hpe.1 with q
      exact hne al g1 p hp q
    · rw [app al g1]; simp [he, encE]
  · have hj : es[j]? = some e' := by simpa using g3
    refine ⟨w.putObj g (.map (es.modify j fun e => { e with key := .string s, val := v }) clock), ?_, hK ω _ (put_stp' h.tag) ⟨⟨_, _, World.putObj_heap_same (heap_lt hb), MapKept.stamped_modify hs _ _ (fun _ _ => rfl) (fun e'' _ he'' => by rw [hj] at he''; cases he''; exact g4.symm), ?_⟩, h.tag⟩⟩
    · simp [Instr.mapUpdate, run_underlying hm, MapKept.run_getObj_map hb, hc, MapKept.run_findKey hk g2, hj, g4, MapKept.run_keyThatStays (d := .string) (k := .string s) (by simp [MapKept.IsKey]), MapKept.run_setObj_map _ hb, Result.andThen, World.putObj]
    · rw [← g7 v, Array.toList_modify, List.map_set, ← he]
      apply List.ext_getElem?
      intro i
      simp only [List.getElem?_map, List.getElem?_modify, List.getElem?_set]
      by_cases e : j = i
      · subst e
        have hlt : j < es.toList.length := (List.getElem?_eq_some_iff.1 g3).1
        have hlt' : j < es.size := by simpa using hlt
        simp [encE, hlt']
      · simp [e]
theorem erase_map {α β : Type} (f : α → β) : ∀ (l : List α) (j : Nat), (l.map f).eraseIdx j = (l.eraseIdx j).map f
  | [], j => by simp
  | a :: l, 0 => by simp
  | a :: l, j + 1 => by simp [erase_map f l j]
theorem delV {mt kt et ty : TypeId} (h : MV ω w t g al) (hm : P.underlying mt = some (.map kt et)) (hk : P.underlying kt = some .string) {s : ByteArray} {K : Value → World → Prop}
    (hK : ∀ v ω' w', Stp (One t) ω ω' w w' → MV ω' w' t g (delA s al) → K v w') : G.run P (Builtin.delete_ #[mt, kt] ty #[.map (some g), .string s]) w K := by
  obtain ⟨es, clock, hb, hs, he⟩ := h.ex
  have hc := fun e => chk_key (P := P) hk s w e
  rcases find_al s es.toList al 0 he with ⟨g1, g2⟩ | ⟨j, e', v', g1, g2, g3, g4, g5, g6, _, g8⟩
  · have dn : ∀ al : AL, getV s al = none → delA s al = al := by
      intro al
      induction al with
      | nil => intro _; rfl
      | cons p r ih =>
        intro h
        obtain ⟨k, x⟩ := p
        by_cases e : s = k
        · simp [getV, e] at h
        · simp only [getV, if_neg e] at h
          simp [delA, if_neg e, ih h]
    refine ⟨.tuple #[], w.putObj g (.map es clock), ?_, hK _ ω _ (put_stp' h.tag) ⟨⟨_, _, World.putObj_heap_same (heap_lt hb), hs, by rw [dn al g1]; exact he⟩, h.tag⟩⟩
    simp [Builtin.delete_, run_underlying hm, MapKept.run_getObj_map hb, hc, MapKept.run_findKey hk g2, MapKept.run_setObj_map _ hb, Result.andThen, World.putObj]
  · have hlt : j < es.size := by have := (List.getElem?_eq_some_iff.1 g3).1; simpa using this
    refine ⟨.tuple #[], w.putObj g (.map (es.eraseIdxIfInBounds j) clock), ?_, hK _ ω _ (put_stp' h.tag) ⟨⟨_, _, World.putObj_heap_same (heap_lt hb), MapKept.stamped_erase hs _, ?_⟩, h.tag⟩⟩
    · simp [Builtin.delete_, run_underlying hm, MapKept.run_getObj_map hb, hc, MapKept.run_findKey hk g2, MapKept.run_setObj_map _ hb, Result.andThen, World.putObj]
    · rw [← g8, ← erase_map, ← he, Array.eraseIdxIfInBounds, dif_pos hlt, Array.toList_eraseIdx, erase_map]
structure IT (ω : Tg) (w : World) (u r t g : Nat) (al rest : AL) : Prop where
  ex : ∃ es clock since seen c0, w.heap[g]? = some (.map es clock) ∧ MapKept.Stamped es clock ∧ es.toList.map (fun e => (e.key, e.val)) = al.map encE ∧
    w.heap[r]? = some (.mapIter (some g) since seen c0) ∧ (∀ x ∈ es.toList, x.born < since) ∧ since ≤ c0 ∧ since ≤ clock ∧ (leftOf es seen).toList.map (fun e => (e.key, e.val)) = rest.map encE
  tg : ω g = t
  tr : ω r = u
variable {u r : Nat} {rest : AL}
theorem IT.map (h : IT ω w u r t g al rest) : MV ω w t g al := by
  obtain ⟨es, clock, since, seen, c0, hb, hs, he, _⟩ := h.ex
  exact ⟨⟨es, clock, hb, hs, he⟩, h.tg⟩
theorem IT.stp (h : IT ω w u r t g al rest) (s : Stp T ω ω' w w') (n1 : T u = false) (n2 : T t = false) : IT ω' w' u r t g al rest := by
  obtain ⟨es, clock, since, seen, c0, hb, hs, he, hr, x⟩ := h.ex
  exact ⟨⟨es, clock, since, seen, c0, by rw [s.block g (heap_lt hb) (by rw [h.tg]; exact n2)]; exact hb, hs, he, by rw [s.block r (heap_lt hr) (by rw [h.tr]; exact n1)]; exact hr, x⟩, (s.same g (heap_lt hb)).trans h.tg, (s.same r (heap_lt hr)).trans h.tr⟩
theorem rangeV {mt kt et : TypeId} (u : Nat) (h : MV ω w t g al) (hm : P.underlying mt = some (.map kt et)) {K : Option Addr → World → Prop}
    (hK : ∀ r ω' w', Stp Non ω ω' w w' → IT ω' w' u r t g al al → K (some ⟨r, 0, none⟩) w') : G.runP P (Instr.range mt (.map (some g))) w K := by
  obtain ⟨es, clock, hb, hs, he⟩ := h.ex
  have hg := heap_lt hb
  refine ⟨some ⟨w.heap.size, 0, none⟩, w.alloc (.mapIter (some g) clock #[] clock), ?_, hK w.heap.size (ext ω w.heap.size u) _ ((Keep.alloc w _).stp ω u) ⟨⟨es, clock, clock, #[], clock, (Keep.alloc w _).heap hb, hs, he, World.alloc_heap_new w _, ((MapKept.stamped_iff es clock).1 hs).1, Nat.le_refl _, Nat.le_refl _, ?_⟩, ?_, ext_new (Nat.le_refl _)⟩⟩
  · simp [Instr.range, run_underlying hm, MapKept.run_getObj_map hb, Result.andThen, newObj, Sem.run]
  · rw [← he]; simp only [leftOf, Array.toList_filter]; rw [List.filter_eq_self.2 (by simp)]
  · rw [ext_old hg]; exact h.tag
theorem setBlock_stp {o : Obj} (hr : ω r = u) : Stp (One u) ω ω w (ChangeMaps.setBlock w r o) :=
  ⟨rfl, rfl, rfl, by simp [ChangeMaps.setBlock], fun _ _ => rfl, fun k hk hT => by
    have hne : r ≠ k := fun e => by subst e; rw [hr, one_self] at hT; cases hT
    simp [ChangeMaps.setBlock, hne]⟩
theorem left_push {es : Array MapEntry} {seen : Array Nat} {e : MapEntry} (hn : (es.toList.map (·.born)).Nodup) (he : e ∈ (leftOf es seen).toList) :
    ∃ a b, (leftOf es seen).toList = a ++ e :: b ∧ (leftOf es (seen.push e.born)).toList = a ++ b := by
  have h1 : (leftOf es (seen.push e.born)).toList = (leftOf es seen).toList.filter fun x => !(x.born == e.born) := by
    simp only [leftOf, Array.toList_filter, List.filter_filter]
    congr 1
    funext x
    simp only [Array.contains_push, Bool.not_or]
    rw [Bool.and_comm]
  have hn' : ((leftOf es seen).toList.map (·.born)).Nodup := by
    have : (leftOf es seen).toList.Sublist es.toList := by simp only [leftOf, Array.toList_filter]; exact List.filter_sublist
    exact (this.map _).nodup hn
  obtain ⟨a, b, hab⟩ := List.append_of_mem he
  refine ⟨a, b, hab, ?_⟩
  rw [h1, hab, List.filter_append, List.filter_cons]
  simp only [beq_self_eq_true, Bool.not_true, Bool.false_eq_true, if_false]
  rw [hab] at hn'
  simp only [List.map_append, List.map_cons] at hn'
  have hd := List.nodup_append.1 hn'
  have fa : ∀ x ∈ a, (!(x.born == e.born)) = true := fun x hx => by
    have := hd.2.2 _ (List.mem_map_of_mem hx) _ (List.mem_cons_self ..)
    simpa using this
  have fb : ∀ x ∈ b, (!(x.born == e.born)) = true := fun x hx => by
    have := (List.nodup_cons.1 hd.2.1).1
    simp only [Bool.not_eq_true', beq_eq_false_iff_ne]
    intro q
    exact this (by rw [← q]; exact List.mem_map_of_mem hx)
  rw [List.filter_eq_self.2 fa, List.filter_eq_self.2 fb]
theorem nextV {ty : TypeId} (h : IT ω w u r t g al rest) {K0 : World → Prop} {K1 : Value → Value → World → Prop} (h0 : rest = [] → K0 w)
    (h1 : ∀ a x b ω' w', rest = a ++ x :: b → Stp (One u) ω ω' w w' → IT ω' w' u r t g al (a ++ b) → (∀ K : Value → Value → Prop, K (.string x.1) x.2 → G.ent P (Instr.entry (.pointer (some ⟨r, 0, none⟩))) w' K) → ∀ k v, K1 k v w') :
    G.nxt P (Instr.next (.pointer (some ⟨r, 0, none⟩)) false ty) w K0 K1 := by
  obtain ⟨es, clock, since, seen, c0, hb, hs, he, hr, hold, hsc, hcl, hl⟩ := h.ex
  have hn := ((MapKept.stamped_iff es clock).1 hs).2.1
  have hne : r ≠ g := fun e => by subst e; rw [hb] at hr; cases hr
  rcases run_next_at (P := P) w ty r g since c0 seen es clock hr hb hold hsc with ⟨hz, hrun⟩ | ⟨e, hem, w1, hw1, hrun⟩
  · refine ⟨w, .inl ⟨hrun, h0 ?_⟩⟩
    have : rest.length = 0 := by have := congrArg List.length hl; simpa [hz] using this.symm
    exact List.eq_nil_of_length_eq_zero this
  · obtain ⟨a, b, hab, hab'⟩ := left_push hn hem
    rw [hab] at hl
    simp only [List.map_append, List.map_cons] at hl
    obtain ⟨ra, rb, hrab, h2, h3⟩ := List.map_eq_append_iff.1 hl.symm
    cases rb with
    | nil => simp at h3
    | cons x rb =>
      simp only [List.map_cons, List.cons.injEq, encE, Prod.mk.injEq] at h3
      have s1 : Stp (One u) ω ω w w1 := by
        rcases hw1 with rfl | rfl
        · exact Stp.refl _ _ _
        · exact (drew_stp ω w).non _
      have hb1 : w1.heap[g]? = some (.map es clock) := by rcases hw1 with rfl | rfl <;> exact hb
      have hr1 : w1.heap[r]? = some (.mapIter (some g) since seen c0) := by rcases hw1 with rfl | rfl <;> exact hr
      have hb2 : (ChangeMaps.setBlock w1 r (.mapIter (some g) since (seen.push e.born) clock)).heap[g]? = some (.map es clock) := by
        simp [ChangeMaps.setBlock, hne, hb1]
      have hr2 : (ChangeMaps.setBlock w1 r (.mapIter (some g) since (seen.push e.born) clock)).heap[r]? = some (.mapIter (some g) since (seen.push e.born) clock) := by
        have := heap_lt hr1
        simp [ChangeMaps.setBlock, this]
      have hes : e ∈ es.toList := by
        have : (leftOf es seen).toList.Sublist es.toList := by simp only [leftOf, Array.toList_filter]; exact List.filter_sublist
        exact this.subset hem
      refine ⟨_, .inr ⟨e.key, e.val, hrun, h1 ra x rb ω _ hrab (s1.trans (setBlock_stp h.tr)) ⟨⟨es, clock, since, seen.push e.born, clock, hb2, hs, he, hr2, hold, hcl, hcl, ?_⟩, h.tg, h.tr⟩ (fun K hK => ⟨_, _, run_entry_at _ r g since seen es clock e hr2 hb2 hes hn, ?_⟩) _ _⟩⟩
      · rw [hab', List.map_append, List.map_append, h2, ← h3.2]
      · have e1 : e.key = .string x.1 := h3.1.1.symm
        have e2 : e.val = x.2 := h3.1.2.symm
        rw [e1, e2]; exact hK
end Go.Proofs.YtechilkjfhpkpaaGreatDoor.Mem

namespace Go.Proofs.YtechilkjfhpkpaaGreatDoor.Ru
open Go Vm Num Mem Utf Lib Lab
abbrev noB : ByteArray := ⟨#[]⟩
abbrev ltN (a b : Lb) : Prop := cB a.1 b.1 < 0
theorem ltN_irr (a : Lb) : ¬ ltN a a := by unfold ltN; rw [cB_cmp.self]; decide
theorem lt_or {a b : ByteArray} (h : a ≠ b) : cB a b < 0 ∨ cB b a < 0 := by
  have h1 := cB_cmp.vals a b
  have h2 := cB_cmp.anti a b
  have h3 : cB a b ≠ 0 := fun e => h ((cB_cmp.eq a b).1 e)
  omega
theorem lt_not {a b : ByteArray} (h : cB a b < 0) : ¬ cB b a < 0 := by have := cB_cmp.anti a b; omega
theorem ltB_ne {a b : ByteArray} (h : cB a b < 0) : a ≠ b := fun e => by rw [e, cB_cmp.self] at h; exact absurd h (by decide)
def insN (x : Lb) : List Lb → List Lb
  | [] => [x]
  | y :: l => if cB x.1 y.1 < 0 then x :: y :: l else y :: insN x l
def srtN (l : List Lb) : List Lb := l.foldl (fun acc x => insN x acc) []
theorem insN_perm (x : Lb) : ∀ l, (insN x l).Perm (x :: l)
  | [] => List.Perm.refl _
  | y :: l => by
    unfold insN
    split
    · exact List.Perm.refl _
    · exact ((insN_perm x l).cons y).trans (List.Perm.swap x y l)
theorem insN_up {x : Lb} : ∀ {l : List Lb}, l.Pairwise ltN → (∀ y ∈ l, y.1 ≠ x.1) → (insN x l).Pairwise ltN
  | [], _, _ => List.pairwise_singleton _ _
  | y :: l, h, hn => by
    have h' := List.pairwise_cons.1 h
    unfold insN
    split
    · rename_i hlt
      refine List.pairwise_cons.2 ⟨fun z hz => ?_, h⟩
      rcases List.mem_cons.1 hz with rfl | hz
      · exact hlt
      · exact cB_cmp.trans _ _ _ hlt (h'.1 z hz)
    · rename_i hge
      refine List.pairwise_cons.2 ⟨fun z hz => ?_, insN_up h'.2 fun z hz => hn z (List.mem_cons_of_mem _ hz)⟩
      rcases List.mem_cons.1 ((insN_perm x l).mem_iff.1 hz) with rfl | hz
      · rcases lt_or (hn y List.mem_cons_self) with h1 | h1
        · exact h1
        · exact absurd h1 hge
      · exact h'.1 z hz
theorem srt_go : ∀ (l acc : List Lb), (l.foldl (fun acc x => insN x acc) acc).Perm (acc ++ l)
  | [], acc => by simp
  | x :: l, acc => by
    refine (srt_go l (insN x acc)).trans ?_
    refine ((insN_perm x acc).append_right l).trans ?_
    exact (List.perm_middle (a := x) (l₁ := acc) (l₂ := l)).symm
theorem srtN_perm (l : List Lb) : (srtN l).Perm l := by have := srt_go l []; rw [List.nil_append] at this; exact this
theorem srtN_up {l : List Lb} (h : (l.map (·.1)).Nodup) : (srtN l).Pairwise ltN := by
  have key : ∀ (l acc : List Lb), acc.Pairwise ltN → ((acc ++ l).map (·.1)).Nodup → (l.foldl (fun acc x => insN x acc) acc).Pairwise ltN := by
    intro l
    induction l with
    | nil => intro acc h _; exact h
    | cons x l ih =>
      intro acc h hn
      have hn' : ((insN x acc ++ l).map (·.1)).Nodup := by
        refine List.Perm.nodup ?_ hn
        refine List.Perm.map _ ?_
        exact (List.perm_middle (a := x) (l₁ := acc) (l₂ := l)).trans ((insN_perm x acc).symm.append_right l)
      refine ih _ (insN_up h fun y hy e => ?_) hn'
      rw [List.map_append, List.nodup_append] at hn
      exact hn.2.2 y.1 (List.mem_map_of_mem hy) x.1 (by simp) e
  exact key l [] List.Pairwise.nil (by simpa using h)
theorem up_eq : ∀ {a b : List Lb}, a.Pairwise ltN → b.Pairwise ltN → (∀ x, x ∈ a ↔ x ∈ b) → a = b
  | [], [], _, _, _ => rfl
  | [], y :: b, _, _, h => by have := (h y).2 List.mem_cons_self; cases this
  | x :: a, [], _, _, h => by have := (h x).1 List.mem_cons_self; cases this
  | x :: a, y :: b, ha, hb, h => by
    have ha' := List.pairwise_cons.1 ha
    have hb' := List.pairwise_cons.1 hb
    have e : x = y := by
      rcases List.mem_cons.1 ((h x).1 List.mem_cons_self) with e | h1
      · exact e
      · rcases List.mem_cons.1 ((h y).2 List.mem_cons_self) with e | h2
        · exact e.symm
        · exact absurd (hb'.1 x h1) (lt_not (ha'.1 y h2))
    subst e
    rw [up_eq ha'.2 hb'.2 fun z => ⟨fun hz => ?_, fun hz => ?_⟩]
    · rcases List.mem_cons.1 ((h z).1 (List.mem_cons_of_mem _ hz)) with e | h1
      · rw [e] at hz; exact absurd (ha'.1 x hz) (ltN_irr x)
      · exact h1
    · rcases List.mem_cons.1 ((h z).2 (List.mem_cons_of_mem _ hz)) with e | h1
      · rw [e] at hz; exact absurd (hb'.1 x hz) (ltN_irr x)
      · exact h1
theorem up_names {l : List Lb} (h : l.Pairwise ltN) : (l.map (·.1)).Nodup := by
  rw [List.Nodup, List.pairwise_map]
  exact h.imp fun h => ltB_ne h
instance decMem (n : ByteArray) (l : List ByteArray) : Decidable (n ∈ l) := decidable_of_iff (l.any (fun y => decide (y = n)) = true) (by simp)
def namesL (l : List Lb) : List ByteArray := l.map (·.1)
def pickN (ns : List ByteArray) (l : List Lb) : List Lb := l.filter fun x => !decide (x.1 ∈ ns)
def fullN (l : List Lb) : List Lb := l.filter fun x => decide (x.2 ≠ noB)
def outL (l more : List Lb) : List Lb := srtN (fullN (pickN (namesL more) l ++ more))
theorem mem_pickN {ns : List ByteArray} {l : List Lb} {x : Lb} : x ∈ pickN ns l ↔ x ∈ l ∧ x.1 ∉ ns := by unfold pickN; rw [List.mem_filter]; simp
theorem mem_fullN {l : List Lb} {x : Lb} : x ∈ fullN l ↔ x ∈ l ∧ x.2 ≠ noB := by unfold fullN; rw [List.mem_filter]; simp
theorem mem_outL {l more : List Lb} {x : Lb} : x ∈ outL l more ↔ x.2 ≠ noB ∧ (x ∈ more ∨ (x ∈ l ∧ x.1 ∉ namesL more)) := by
  unfold outL
  rw [(srtN_perm _).mem_iff, mem_fullN, List.mem_append, mem_pickN]
  constructor
  · rintro ⟨h1 | h1, h2⟩
    · exact ⟨h2, .inr h1⟩
    · exact ⟨h2, .inl h1⟩
  · rintro ⟨h2, h1 | h1⟩
    · exact ⟨.inr h1, h2⟩
    · exact ⟨.inl h1, h2⟩
theorem both_names {l more : List Lb} (hl : (namesL l).Nodup) (hm : (namesL more).Nodup) : (namesL (pickN (namesL more) l ++ more)).Nodup := by
  unfold namesL
  rw [List.map_append, List.nodup_append]
  refine ⟨((List.filter_sublist (l := l) (p := fun x : Lb => !decide (x.1 ∈ namesL more))).map (fun x : Lb => x.1)).nodup hl, hm, fun a ha b hb e => ?_⟩
  obtain ⟨x, hx, rfl⟩ := List.mem_map.1 ha
  exact (mem_pickN.1 hx).2 (by rw [e]; exact hb)
theorem outL_up {l more : List Lb} (hl : (namesL l).Nodup) (hm : (namesL more).Nodup) : (outL l more).Pairwise ltN :=
  srtN_up (((List.filter_sublist (p := fun x : Lb => decide (x.2 ≠ noB))).map (fun x : Lb => x.1)).nodup (both_names hl hm))
theorem outL_eq {l more r : List Lb} (hl : (namesL l).Nodup) (hm : (namesL more).Nodup) (hr : r.Pairwise ltN) (h : ∀ x, x ∈ r ↔ x.2 ≠ noB ∧ (x ∈ more ∨ (x ∈ l ∧ x.1 ∉ namesL more))) : r = outL l more :=
  up_eq hr (outL_up hl hm) fun x => by rw [h, mem_outL]
def encN (x : Lb) : ByteArray × Value := (x.1, .string x.2)
def updN (x : Lb) : List Lb → List Lb
  | [] => [x]
  | y :: l => if x.1 = y.1 then x :: l else y :: updN x l
theorem updN_map (x : Lb) : ∀ l : List Lb, updA x.1 (.string x.2) (l.map encN) = (updN x l).map encN
  | [] => rfl
  | y :: l => by
    rw [List.map_cons]
    show updA x.1 (.string x.2) ((y.1, Value.string y.2) :: l.map encN) = _
    unfold updA updN
    by_cases h : x.1 = y.1
    · rw [if_pos h, if_pos h]; rfl
    · rw [if_neg h, if_neg h, updN_map x l]; rfl
theorem mem_updN {x y : Lb} : ∀ {l : List Lb}, (namesL l).Nodup → (y ∈ updN x l ↔ y = x ∨ (y ∈ l ∧ y.1 ≠ x.1))
  | [], _ => by simp [updN]
  | z :: l, h => by
    have h' := List.nodup_cons.1 h
    unfold updN
    by_cases e : x.1 = z.1
    · rw [if_pos e, List.mem_cons, List.mem_cons]
      constructor
      · rintro (h1 | h1)
        · exact .inl h1
        · refine .inr ⟨.inr h1, fun e' => h'.1 ?_⟩
          rw [show ((fun x : Lb => x.1) z) = y.1 from (e'.trans e).symm]
          exact List.mem_map_of_mem h1
      · rintro (h1 | ⟨h1 | h1, h2⟩)
        · exact .inl h1
        · exact absurd (by rw [h1, e]) h2
        · exact .inr h1
    · rw [if_neg e, List.mem_cons, List.mem_cons, mem_updN h'.2]
      constructor
      · rintro (h1 | h1 | ⟨h1, h2⟩)
        · exact .inr ⟨.inl h1, by rw [h1]; exact fun h => e h.symm⟩
        · exact .inl h1
        · exact .inr ⟨.inr h1, h2⟩
      · rintro (h1 | ⟨h1 | h1, h2⟩)
        · exact .inr (.inl h1)
        · exact .inl h1
        · exact .inr (.inr ⟨h1, h2⟩)
theorem updN_sub {x : Lb} {n : ByteArray} : ∀ {l : List Lb}, n ∈ namesL (updN x l) → n = x.1 ∨ n ∈ namesL l
  | [], h => by simp [updN, namesL] at h; exact .inl h
  | z :: l, h => by
    unfold updN at h
    split at h
    · rcases List.mem_cons.1 h with h | h
      · exact .inl h
      · exact .inr (List.mem_cons_of_mem _ h)
    · rcases List.mem_cons.1 h with h | h
      · exact .inr (by rw [h]; exact List.mem_cons_self)
      · rcases updN_sub h with h | h
        · exact .inl h
        · exact .inr (List.mem_cons_of_mem _ h)
theorem updN_names {x : Lb} : ∀ {l : List Lb}, (namesL l).Nodup → (namesL (updN x l)).Nodup
  | [], _ => by simp [updN, namesL]
  | z :: l, h => by
    have h' := List.nodup_cons.1 h
    unfold updN
    by_cases e : x.1 = z.1
    · rw [if_pos e]
      show (x.1 :: namesL l).Nodup
      rw [e]; exact h
    · rw [if_neg e]
      refine List.nodup_cons.2 ⟨fun hm => ?_, updN_names h'.2⟩
      rcases updN_sub hm with h1 | h1
      · exact e h1.symm
      · exact h'.1 h1
def updAll (b l : List Lb) : List Lb := l.foldl (fun b x => updN x b) b
theorem updAll_names : ∀ (l : List Lb) {b : List Lb}, (namesL b).Nodup → (namesL (updAll b l)).Nodup
  | [], _, h => h
  | x :: l, b, h => updAll_names l (updN_names h)
theorem mem_updAll {y : Lb} : ∀ {l b : List Lb}, (namesL b).Nodup → (namesL l).Nodup → (y ∈ updAll b l ↔ y ∈ l ∨ (y ∈ b ∧ y.1 ∉ namesL l))
  | [], b, _, _ => by simp [updAll, namesL]
  | x :: l, b, hb, hl => by
    have h' := List.nodup_cons.1 hl
    show y ∈ updAll (updN x b) l ↔ _
    rw [mem_updAll (updN_names hb) h'.2, mem_updN hb]
    show _ ↔ y ∈ x :: l ∨ (y ∈ b ∧ y.1 ∉ x.1 :: namesL l)
    rw [List.mem_cons, List.mem_cons, not_or]
    constructor
    · rintro (h1 | ⟨h1 | ⟨h1, h2⟩, h3⟩)
      · exact .inl (.inr h1)
      · exact .inl (.inl h1)
      · exact .inr ⟨h1, h2, h3⟩
    · rintro ((h1 | h1) | ⟨h1, h2, h3⟩)
      · exact .inr ⟨.inl h1, by rw [h1]; exact h'.1⟩
      · exact .inl h1
      · exact .inr ⟨.inr ⟨h1, h2⟩, h3⟩
def atN (b : List Lb) (n : ByteArray) : ByteArray := match b.find? (fun x => decide (x.1 = n)) with | some x => x.2 | none => noB
def listN (b : List Lb) (ks : List ByteArray) : List Lb := ks.filterMap fun n => if atN b n = noB then none else some (n, atN b n)
theorem atN_mem {b : List Lb} (hb : (namesL b).Nodup) {x : Lb} (hx : x ∈ b) : atN b x.1 = x.2 := by
  unfold atN
  cases hf : b.find? (fun y => decide (y.1 = x.1)) with
  | none => have := List.find?_eq_none.1 hf x hx; simp at this
  | some y =>
    have h1 := List.mem_of_find?_eq_some hf
    have h2 : y.1 = x.1 := by have := List.find?_some hf; simpa using this
    have : y = x := by
      clear hf
      induction b with
      | nil => cases hx
      | cons z b ih =>
        have h' := List.nodup_cons.1 hb
        rcases List.mem_cons.1 hx with e | hx' <;> rcases List.mem_cons.1 h1 with e' | h1'
        · rw [e, e']
        · exact absurd (show z.1 ∈ namesL b by rw [← e, ← h2]; exact List.mem_map_of_mem h1') h'.1
        · exact absurd (show z.1 ∈ namesL b by rw [← e', h2]; exact List.mem_map_of_mem hx') h'.1
        · exact ih h'.2 hx' h1'
    rw [this]
theorem getV_atN (b : List Lb) (n : ByteArray) : getV n (b.map encN) = (b.find? (fun x => decide (x.1 = n))).map fun x => Value.string x.2 := by
  induction b with
  | nil => rfl
  | cons y b ih =>
    rw [List.map_cons]
    show getV n ((y.1, Value.string y.2) :: b.map encN) = _
    unfold getV
    rw [List.find?_cons]
    by_cases h : n = y.1
    · rw [if_pos h, decide_eq_true (show y.1 = n from h.symm)]; rfl
    · rw [if_neg h, decide_eq_false (fun e => h e.symm), ih]
theorem listN_out {l more : List Lb} {ks : List ByteArray} (hl : (namesL l).Nodup) (hm : (namesL more).Nodup) (hk : ks.Pairwise fun a b => cB a b < 0) (hp : ∀ n, n ∈ ks ↔ n ∈ namesL (updAll (updAll [] l) more)) : listN (updAll (updAll [] l) more) ks = outL l more := by
  have n0 : (namesL (updAll [] l)).Nodup := updAll_names l (b := []) List.nodup_nil
  have nb := updAll_names more n0
  refine outL_eq hl hm ?_ fun x => ?_
  · unfold listN
    rw [List.pairwise_filterMap]
    refine hk.imp fun {a b} h x hx y hy => ?_
    split at hx
    · cases hx
    · split at hy
      · cases hy
      · injection hx with hx; injection hy with hy
        rw [← hx, ← hy]; exact h
  · have hmem : x ∈ updAll (updAll [] l) more ↔ x ∈ more ∨ (x ∈ l ∧ x.1 ∉ namesL more) := by
      rw [mem_updAll n0 hm, mem_updAll (b := []) List.nodup_nil hl]
      simp
    rw [← hmem]
    unfold listN
    rw [List.mem_filterMap]
    constructor
    · rintro ⟨n, hn, h⟩
      split at h
      · cases h
      · rename_i hne
        injection h with h
        obtain ⟨y, hy, e⟩ := List.mem_map.1 ((hp n).1 hn)
        subst e
        rw [atN_mem nb hy] at h hne
        rw [← h]; exact ⟨hne, hy⟩
    · rintro ⟨h1, h2⟩
      refine ⟨x.1, (hp x.1).2 (List.mem_map_of_mem h2), ?_⟩
      rw [atN_mem nb h2, if_neg h1]
theorem back_lt {q x : ByteArray} : backB (some q) x = false ↔ cB q x < 0 := by
  rw [← back_cb, lessB]
  have h1 := cB_cmp.vals q x
  constructor
  · intro h
    have : cB q x = -1 := by simpa using h
    omega
  · intro h
    rw [decide_eq_true (show cB q x = -1 by omega)]; rfl
def goodL (x : Lb) : Prop := namedB (Utf.bytes x.1) 64 false = true ∧ valE (Utf.bytes x.2) = 0
theorem rtGo_iff : ∀ (r : List Lb) (p : Option ByteArray) (i : Nat), (rtGo p r i).1 = 0 ↔ (∀ x ∈ r, goodL x) ∧ r.Pairwise ltN ∧ (∀ x, r.head? = some x → ∀ q, p = some q → cB q x.1 < 0)
  | [], p, i => by simp [rtGo]
  | y :: r, p, i => by
    have ih := rtGo_iff r (some y.1) (i + 1)
    rw [rtGo]
    by_cases h1 : namedB (Utf.bytes y.1) 64 false = false
    · rw [if_pos h1]
      refine ⟨fun h => absurd (show (40 : Int) = 0 from h) (by decide), fun h => ?_⟩
      have := (h.1 y List.mem_cons_self).1
      rw [h1] at this; cases this
    rw [if_neg h1]
    by_cases h2 : valE (Utf.bytes y.2) ≠ 0
    · rw [if_pos h2]
      exact ⟨fun h => absurd h h2, fun h => absurd (h.1 y List.mem_cons_self).2 h2⟩
    rw [if_neg h2]
    have gy : goodL y := ⟨by simpa using h1, by simpa using h2⟩
    by_cases h3 : backB p y.1 = true
    · rw [if_pos h3]
      refine ⟨fun h => absurd (show (3 : Int) = 0 from h) (by decide), fun h => ?_⟩
      cases p with
      | none => cases h3
      | some q =>
        have := back_lt.2 (h.2.2 y rfl q rfl)
        rw [h3] at this; cases this
    rw [if_neg h3, ih]
    have hp : ∀ q, p = some q → cB q y.1 < 0 := fun q hq => by subst hq; exact back_lt.1 (by simpa using h3)
    constructor
    · rintro ⟨a, b, c⟩
      refine ⟨fun x hx => ?_, List.pairwise_cons.2 ⟨fun x hx => ?_, b⟩, fun x hx q hq => ?_⟩
      · rcases List.mem_cons.1 hx with rfl | hx
        · exact gy
        · exact a x hx
      · cases r with
        | nil => cases hx
        | cons z r =>
          have hz := c z rfl y.1 rfl
          rcases List.mem_cons.1 hx with rfl | hx
          · exact hz
          · exact cB_cmp.trans _ _ _ hz ((List.pairwise_cons.1 b).1 x hx)
      · simp only [List.head?_cons, Option.some.injEq] at hx
        subst hx; exact hp q hq
    · rintro ⟨a, b, c⟩
      have b' := List.pairwise_cons.1 b
      refine ⟨fun x hx => a x (List.mem_cons_of_mem _ hx), b'.2, fun x hx q hq => ?_⟩
      injection hq with hq
      subst hq
      exact b'.1 x (List.mem_of_mem_head? hx)
theorem rt_iff (l : List Lb) : (rt l).1 = 0 ↔ l.length ≤ 16 ∧ (∀ x ∈ l, goodL x) ∧ l.Pairwise ltN := by
  unfold rt
  by_cases h : l.length > 16
  · rw [if_pos h]
    exact ⟨fun h => absurd (show (8 : Int) = 0 from h) (by decide), fun h' => by omega⟩
  · rw [if_neg h, rtGo_iff]
    exact ⟨fun h' => ⟨by omega, h'.1, h'.2.1⟩, fun h' => ⟨h'.2.1, h'.2.2, fun _ _ _ e => by cases e⟩⟩
theorem rt_ns {l : List Lb} (h : (rt l).1 = 0) : (namesL l).Nodup := up_names ((rt_iff l).1 h).2.2
theorem good_ne {x : Lb} (h : goodL x) : x.2 ≠ noB := fun e => by
  have h2 := h.2
  rw [e] at h2
  exact absurd h2 (by decide +kernel)
theorem outL_rt {l more : List Lb} (hl : (rt l).1 = 0) (hm : (namesL more).Nodup) (hg : ∀ x ∈ more, x.2 ≠ noB → goodL x) (h16 : (outL l more).length ≤ 16) : (rt (outL l more)).1 = 0 := by
  refine (rt_iff _).2 ⟨h16, fun x hx => ?_, outL_up (rt_ns hl) hm⟩
  obtain ⟨h1, h2 | h2⟩ := mem_outL.1 hx
  · exact hg x h2 h1
  · exact ((rt_iff l).1 hl).2.1 x h2.1
end Go.Proofs.YtechilkjfhpkpaaGreatDoor.Ru

namespace Go.Proofs.YtechilkjfhpkpaaGreatDoor.Vint
open Go Vm Go.RowKit Num Mem
def putU (n : Nat) : List UInt8 := if n < 128 then [UInt8.ofNat n] else UInt8.ofNat (n % 128 + 128) :: putU (n / 128)
termination_by n
decreasing_by omega
theorem putU_lt {n : Nat} (h : n < 128) : putU n = [UInt8.ofNat n] := by rw [putU, if_pos h]
theorem putU_ge {n : Nat} (h : ¬ n < 128) : putU n = UInt8.ofNat (n % 128 + 128) :: putU (n / 128) := by rw [putU, if_neg h]
theorem putU_len : ∀ (k n : Nat), n < 128 ^ (k + 1) → (putU n).length ≤ k + 1
  | 0, n, h => by rw [putU_lt (by simpa using h)]; simp
  | k + 1, n, h => by
    by_cases hn : n < 128
    · rw [putU_lt hn]; simp
    · rw [putU_ge hn]
      have := putU_len k (n / 128) (Nat.div_lt_of_lt_mul (by rw [Nat.pow_succ] at h; omega))
      simp; omega
theorem p128 : (18446744073709551616 : Nat) ≤ 128 ^ (9 + 1) := by decide +kernel
theorem putU_len64 {n : Nat} (h : n < 18446744073709551616) : (putU n).length ≤ 10 := by
  have h1 := p128
  have := putU_len 9 n (by generalize 128 ^ (9 + 1) = q at *; omega)
  omega
theorem or128 : ∀ m : Fin 256, (m.val ||| 128) = m.val % 128 + 128 := by decide +kernel
theorem elem_or (n : Nat) : Value.int .u8 (Go.bits .or .u8 (IntKind.u8.wrap (n : Int)) (128 : Int)) = vB (UInt8.ofNat (n % 128 + 128)) := by
  have e1 : IntKind.u8.wrap (n : Int) = ((n % 256 : Nat) : Int) := by rw [wU8]; omega
  have e2 : (128 : Int) = ((128 : Nat) : Int) := rfl
  rw [e1, e2, bits_or rfl (by simp [IntKind.bits]; omega) (by simp [IntKind.bits]), ← vB_lit (by omega)]
  have := or128 ⟨n % 256, by omega⟩
  simp only at this
  rw [this]
  congr 1
  omega
theorem elem_low {n : Nat} (h : n < 128) : Value.int .u8 (IntKind.u8.wrap (n : Int)) = vB (UInt8.ofNat n) := by
  rw [wU8_id (by omega) (by omega), vB_lit (by omega)]
theorem joined_ok {w : World} {b c : Sl} {l m : List UInt8} (hb : RdB w b l) (hc : RdB w c m) (hl : l.length + m.length ≤ 140737488355328) {K : Sl → World → Prop}
    (hK : ∀ r w', Keep w w' → OwnB w' w.heap.size r (l ++ m) → K r w') : C.vint_joined b c w K := by
  have h1 := hb.len
  have h2 := hc.len
  unfold C.vint_joined
  refine make0B (c := l.length + m.length) (by rw [wI64 (by omega) (by omega), h1, h2]; rfl) (Keep.refl w) (Nat.le_refl _) hl fun r0 w1 k1 o1 => ?_
  refine appB k1 k1.size o1 (hb.keep k1) (by simp; omega) fun r1 w2 k2 o2 => ?_
  refine appB k2 k2.size o2 (hc.keep k2) (by simp; omega) fun r2 w3 k3 o3 => ?_
  exact hK r2 w3 k3 (by simpa using o3)
theorem putU_ok {w0 : World} {b : Sl} {l : List UInt8} {n : Nat} (hn : n < 18446744073709551616) (hb : RdB w0 b l) (hl : l.length ≤ 140737488355300) {K : Sl → World → Prop}
    (hK : ∀ r w', Keep w0 w' → OwnB w' w0.heap.size r (l ++ putU n) → K r w') : C.vint_PutU b (n : Int) w0 K := by
  unfold C.vint_PutU
  refine C.vint_PutU.L5_ind fun X hX => ?_
  have key : ∀ (n : Nat) (pre : List UInt8) (c : Sl) (w : World), n < 18446744073709551616 → (pre ++ putU n).length ≤ 10 → Keep w0 w → OwnB w w0.heap.size c pre →
      (∀ r w', Keep w0 w' → OwnB w' w0.heap.size r (l ++ (pre ++ putU n)) → K r w') → X b (n : Int) c w := by
    intro n
    induction n using Nat.strongRecOn with
    | _ n ih =>
      intro pre c w hn hlen hk ho hK
      refine hX _ _ _ _ ?_
      unfold C.vint_PutU.S7
      have hpre : pre.length ≤ 10 := by simp at hlen; omega
      refine cond_d (fun h => ?_) (fun h => ?_)
      · have h' : ¬ n < 128 := by omega
        rw [putU_ge h'] at hlen hK
        refine pushB (m := [UInt8.ofNat (n % 128 + 128)]) hk hk.size ho (by rw [elem_or]; rfl) (by rfl) (by omega) fun r w' k1 k2 => ?_
        refine ⟨by decide, ?_⟩
        have e : shr .u64 (n : Int) (7 : Int) = ((n / 128 : Nat) : Int) := by
          have := shr_nat .u64 (n : Int) 7 (by decide)
          rw [show ((7 : Nat) : Int) = (7 : Int) from rfl] at this
          rw [this]; omega
        rw [e]
        refine ih (n / 128) (by omega) _ r w' (by omega) (by simpa using hlen) k1 k2 fun r w' k o => hK r w' k (by simpa using o)
      · have h' : n < 128 := by omega
        rw [putU_lt h'] at hK
        unfold C.vint_PutU.S2
        refine pushB (m := [UInt8.ofNat n]) hk hk.size ho (by rw [elem_low h']; rfl) (by rfl) (by omega) fun r w' k1 k2 => ?_
        refine joined_ok (hb.keep k1) k2.rd (by simp; omega) fun r w2 k3 o3 => ?_
        exact hK r w2 (Keep.trans k1 k3) (o3.mono k1.size)
  exact key n [] nilS w0 hn (by simpa using putU_len64 hn) (Keep.refl _) (OwnB.nil _ _) (by simpa using hK)
end Go.Proofs.YtechilkjfhpkpaaGreatDoor.Vint

namespace Go.Proofs.YtechilkjfhpkpaaGreatDoor.Lab
open Go Vm Num Mem Utf Lib Vint
variable {ω ω' : Tg} {w w' w0 : World}
theorem putText_ok {b : Sl} {l : List UInt8} {s : ByteArray} (hb : RdB w b l) (hl : l.length + s.size ≤ 140737488000000) {K : Sl → World → Prop}
    (hK : ∀ r w', Keep w w' → OwnB w' w.heap.size r (l ++ (putU s.size ++ Utf.bytes s)) → K r w') : C.vint_PutText b s w K := by
  have hz : (Utf.bytes s).length = s.size := (size_eq s).symm
  have hp := putU_len64 (n := s.size) (by omega)
  unfold C.vint_PutText
  rw [wU64_id (by omega) (by omega)]
  refine putU_ok (by omega) hb (by omega) fun r w1 k1 o1 => ?_
  refine convSB fun t w2 k2 o2 => ?_
  refine joined_ok (Own.keep o1 k2).rd o2 (by simp only [List.length_append]; omega) fun r3 w3 k3 o3 => ?_
  have k12 := Keep.trans k1 k2
  exact hK r3 w3 (Keep.trans k12 k3) (by have := o3.mono k12.size; simpa using this)
theorem szB (s : ByteArray) : s.size = (Utf.bytes s).length := size_eq s
def txt (s : ByteArray) : List UInt8 := putU s.size ++ Utf.bytes s
def labB (x : Lb) : List UInt8 := txt x.1 ++ txt x.2
def put (l : List Lb) : List UInt8 := putU l.length ++ l.flatMap labB
theorem named_len {l : List UInt8} {m : Nat} {c : Bool} (h : namedB l m c = true) : l.length ≤ m := by
  unfold namedB at h
  simp only [Bool.and_eq_true, decide_eq_true_eq] at h
  exact h.2.1
theorem valE_len {l : List UInt8} (h : valE l = 0) : l.length ≤ 256 := by
  unfold valE at h
  split at h
  · cases h
  · split at h
    · cases h
    · omega
theorem rt_short {l : List Lb} (h : (rt l).1 = 0) : l.length ≤ 16 ∧ ∀ x ∈ l, x.1.size ≤ 64 ∧ x.2.size ≤ 256 := by
  unfold rt at h
  split at h
  · exact absurd (show (8 : Int) = 0 from h) (by decide)
  · refine ⟨by omega, ?_⟩
    have key : ∀ (r : List Lb) (p : Option ByteArray) (i : Nat), (rtGo p r i).1 = 0 → ∀ x ∈ r, x.1.size ≤ 64 ∧ x.2.size ≤ 256 := by
      intro r
      induction r with
      | nil => intro p i _ x hx; cases hx
      | cons y r ih =>
        intro p i h x hx
        rw [rtGo] at h
        split at h
        · exact absurd (show (40 : Int) = 0 from h) (by decide)
        · rename_i h1
          split at h
          · rename_i h2; exact absurd h h2
          · rename_i h2
            split at h
            · exact absurd (show (3 : Int) = 0 from h) (by decide)
            · rcases List.mem_cons.1 hx with rfl | hx
              · have a := named_len (by simpa using h1 : namedB (Utf.bytes x.1) 64 false = true)
                have b := valE_len (by simpa using h2)
                have e1 := szB x.1
                have e2 := szB x.2
                exact ⟨by omega, by omega⟩
              · exact ih _ _ h x hx
    exact key l none 0 h
theorem labB_len {x : Lb} (h : x.1.size ≤ 64 ∧ x.2.size ≤ 256) : (labB x).length ≤ 340 := by
  have e1 := szB x.1
  have e2 := szB x.2
  have p1 := putU_len64 (n := x.1.size) (by omega)
  have p2 := putU_len64 (n := x.2.size) (by omega)
  simp only [labB, txt, List.length_append]
  omega
theorem flat_len : ∀ (l : List Lb), (∀ x ∈ l, x.1.size ≤ 64 ∧ x.2.size ≤ 256) → (l.flatMap labB).length ≤ 340 * l.length
  | [], _ => by simp
  | x :: l, h => by
    have a := labB_len (h x (List.mem_cons_self ..))
    have b := flat_len l fun y hy => h y (List.mem_cons_of_mem _ hy)
    simp only [List.flatMap_cons, List.length_append, List.length_cons]
    omega
theorem put_ok {s : Sl} {m : List Lb} (ht : UTab w0) (hs : Rd w0 s 2 (labs m)) (hr : (rt m).1 = 0) {K : Sl → Int → World → Prop} (hK : ∀ r w', Keep w0 w' → OwnB w' w0.heap.size r (put m) → K r 0 w') : C.labels_Put nilS s w0 K := by
  have hsn : s.n = m.length := by have := hs.2.1; rw [labs_len] at this; omega
  obtain ⟨h16, hsh⟩ := rt_short hr
  unfold C.labels_Put C.labels_right
  refine right_ok ht hs fun w1 k1 => ?_
  refine cond_f (by rw [hr]; rfl) ?_
  rw [wU64_id (by omega) (by omega), hsn]
  refine putU_ok (l := []) (by omega) (Rd.nil w1 1) (by decide) fun r w2 k2 o2 => ?_
  unfold C.labels_Put.S9
  have k02 := Keep.trans k1 k2
  have hp := putU_len64 (n := m.length) (by omega)
  refine C.labels_Put.L5_ind fun X hX => ?_
  have key : ∀ (d i : Nat) (q : Sl) (w : World), i + d = m.length → Keep w0 w → OwnB w w0.heap.size q (putU m.length ++ (m.take i).flatMap labB) → X q s ((s.n : Nat) : Int) (i : Int) w := by
    intro d
    induction d with
    | zero =>
      intro i q w hi k o
      refine hX _ _ _ _ _ ?_
      unfold C.labels_Put.S7 C.labels_Put.S2
      rw [List.take_of_length_le (by omega)] at o
      exact cond_d (fun h => by omega) (fun _ => hK q w k o)
    | succ d ih =>
      intro i q w hi k o
      have him : i < m.length := by omega
      refine hX _ _ _ _ _ ?_
      unfold C.labels_Put.S7
      refine cond_d (fun _ => ?_) (fun h => by omega)
      have hx : m[i]? = some m[i] := List.getElem?_eq_getElem him
      refine rdL_at (hs.keep k) (k := i) rfl hx fun a hc0 hc1 => cS_at hc0 <| cS_at hc1 ?_
      refine new_T (ω := fun _ => 0) 7 fun g ω2 w2 k2 b2 => ?_
      refine st_T b2 (by simp) fun ω3 w3 k3 b3 => ?_
      refine st_TA b3 (by simp) fun ω4 w4 k4 b4 => ?_
      have kT := ((Top.init w).stp ((k2.non (Mem.One 7)).trans (k3.trans k4))).k
      have kd := drew_stp ω4 w4
      have bd := b4.stp kd
      have k5 := Keep.trans kT kd.keep
      refine cS_at (b := m[i].1) (by rw [bd.cell]; rfl) <| cS_at (b := m[i].2) (by rw [addr_add, bd.cell]; rfl) ?_
      have hsx := hsh _ (List.getElem_mem him)
      have hfl := flat_len (m.take i) fun y hy => hsh y (List.mem_of_mem_take hy)
      rw [List.length_take, Nat.min_eq_left (by omega)] at hfl
      have e1 := szB m[i].1
      have p1 := putU_len64 (n := m[i].1.size) (by omega)
      refine putText_ok (Own.keep o k5).rd (by rw [List.length_append]; omega) fun r1 w5 k6 o5 => ⟨bd.sameA (k6.stp0 ω4), ?_⟩
      refine putText_ok o5.rd (by simp only [List.length_append]; omega) fun r2 w6 k7 o6 => ?_
      rw [wI64 (by omega) (by omega), show (i : Int) + 1 = ((i + 1 : Nat) : Int) by omega]
      have k57 := Keep.trans k (Keep.trans k5 (Keep.trans k6 k7))
      refine ih (i + 1) r2 w6 (by omega) k57 ?_
      have ef : (m.take (i + 1)).flatMap labB = (m.take i).flatMap labB ++ labB m[i] := by
        rw [List.take_add_one, hx, List.flatMap_append]; simp
      rw [ef]
      have o7 := o6.mono (Keep.trans k (Keep.trans k5 k6)).size
      simpa only [labB, txt, List.append_assoc] using o7
  refine key m.length 0 r w2 (by omega) k02 ?_
  simpa using o2.mono k1.size
end Go.Proofs.YtechilkjfhpkpaaGreatDoor.Lab

namespace Go.Proofs.YtechilkjfhpkpaaGreatDoor.Sm
open Go Vm Go.RowKit Num Mem
variable {ω ω' : Tg} {w w' w0 : World}
theorem rd_none {s : Sl} {sz : Nat} {xs : List Value} (h : Rd w s sz xs) (hs : 0 < sz) (hn : s.a.isNone = true) : xs = [] ∧ s.n = 0 := by
  have e : xs = [] := by
    by_cases e : xs = []
    · exact e
    · obtain ⟨g, o, ha, _⟩ := h.2.2 e
      rw [ha] at hn; cases hn
  refine ⟨e, ?_⟩
  have := h.2.1
  rw [e] at this
  rcases Nat.mul_eq_zero.1 this.symm with h | h
  · exact h
  · omega
theorem clone_ok {P : Program} {t e : TypeId} {sz bytes : Nat} (ti : TI P t e sz bytes) {s : Sl} {xs : List Value} (h : Rd w s sz xs) (h1 : ∀ v ∈ xs, v.oneCell' = true) (hm : s.n ≤ maxLen) (hy : s.n * bytes ≤ 140737488355328)
    {K : Sl → World → Prop} (hK : ∀ r w', Keep w w' → Mem.Own w' w.heap.size e sz r xs → r.n = s.n → K r w') :
    G.cond s.a.isNone (K nilS w) (G.new (.cells #[] e) w fun p w4 => G.runSl P (Builtin.append_ #[t, t] t #[(Sl.v (⟨some p, 0, 0⟩ : Sl)), s.v]) w4 fun l w6 => K l w6) := by
  refine cond_of (fun h0 => ?_) (fun h0 => new_at ?_)
  · obtain ⟨rfl, hn⟩ := rd_none h ti.pos h0
    exact hK nilS w (Keep.refl w) (Own.nil w _ _ _) hn.symm
  · have k := Keep.alloc w (.cells #[] e)
    have o : Mem.Own (w.alloc (.cells #[] e)) w.heap.size e sz ⟨some ⟨w.heap.size, 0, none⟩, 0, 0⟩ [] := Own.mk' (Nat.le_refl _) (Blk.new w e #[]) (Nat.le_refl _) (Nat.zero_le _) (by simp) (by simp)
    refine append_own ti k k.size o (h.keep k) h1 (by simpa using hm) (by simpa using hy) fun r w' k' o' hr _ => hK r w' k' (by simpa using o') (by simpa using hr)
end Go.Proofs.YtechilkjfhpkpaaGreatDoor.Sm

namespace Go.Proofs.YtechilkjfhpkpaaGreatDoor.Lab
open Go Vm Go.RowKit Num Mem Utf Lib Vint
variable {ω ω' : Tg} {w w' w0 : World}
theorem tiL : TI Tryz.prog 22 99 2 32 := TI.of (z := .agg #[.string ⟨#[]⟩, .string ⟨#[]⟩]) (by kernel_rfl) (by kernel_rfl) rfl (by decide)
theorem labs_one {l : List Lb} : ∀ v ∈ labs l, v.oneCell' = true := by
  intro v hv
  obtain ⟨s, _, hs⟩ := List.mem_flatMap.1 hv
  simp only [labC, List.mem_cons, List.not_mem_nil, or_false] at hs
  rcases hs with rfl | rfl <;> rfl
def keyOf (m : List Lb) : ByteArray := str (Lab.put m)
theorem u8_inj {a b : Nat} (ha : a < 256) (hb : b < 256) (h : UInt8.ofNat a = UInt8.ofNat b) : a = b := by
  have := congrArg UInt8.toNat h
  rw [UInt8.toNat_ofNat', UInt8.toNat_ofNat', Nat.mod_eq_of_lt ha, Nat.mod_eq_of_lt hb] at this
  exact this
theorem putU_inj : ∀ (f n n' : Nat) (y y' : List UInt8), n < f → putU n ++ y = putU n' ++ y' → n = n' ∧ y = y'
  | 0, n, n', y, y', h, _ => absurd h (Nat.not_lt_zero _)
  | f + 1, n, n', y, y', h, e => by
    by_cases h1 : n < 128 <;> by_cases h2 : n' < 128
    · rw [putU_lt h1, putU_lt h2] at e
      simp only [List.cons_append, List.nil_append, List.cons.injEq] at e
      exact ⟨u8_inj (by omega) (by omega) e.1, e.2⟩
    · rw [putU_lt h1, putU_ge h2] at e
      simp only [List.cons_append, List.nil_append, List.cons.injEq] at e
      have := u8_inj (by omega) (by omega) e.1
      omega
    · rw [putU_ge h1, putU_lt h2] at e
      simp only [List.cons_append, List.nil_append, List.cons.injEq] at e
      have := u8_inj (by omega) (by omega) e.1
      omega
    · rw [putU_ge h1, putU_ge h2] at e
      simp only [List.cons_append, List.cons.injEq] at e
      have e1 := u8_inj (by omega) (by omega) e.1
      obtain ⟨e2, e3⟩ := putU_inj f (n / 128) (n' / 128) y y' (by omega) e.2
      exact ⟨by omega, e3⟩
theorem txt_inj {s s' : ByteArray} {y y' : List UInt8} (h : txt s ++ y = txt s' ++ y') : s = s' ∧ y = y' := by
  unfold txt at h
  rw [List.append_assoc, List.append_assoc] at h
  obtain ⟨h1, h2⟩ := putU_inj _ _ _ _ _ (Nat.lt_succ_self _) h
  obtain ⟨h3, h4⟩ := List.append_inj h2 (by rw [← szB, ← szB, h1])
  refine ⟨?_, h4⟩
  have : s.data = s'.data := Array.toList_inj.1 h3
  cases s; cases s'; simp at this; rw [this]
theorem flat_inj : ∀ {a b : List Lb}, a.length = b.length → a.flatMap labB = b.flatMap labB → a = b
  | [], [], _, _ => rfl
  | [], y :: b, h, _ => by simp at h
  | x :: a, [], h, _ => by simp at h
  | x :: a, y :: b, h, e => by
    simp only [List.flatMap_cons, labB, List.append_assoc] at e
    obtain ⟨e1, e⟩ := txt_inj e
    obtain ⟨e2, e⟩ := txt_inj e
    rw [Prod.ext e1 e2, flat_inj (by simpa using h) e]
theorem put_inj {a b : List Lb} (h : Lab.put a = Lab.put b) : a = b := by
  unfold Lab.put at h
  obtain ⟨h1, h2⟩ := putU_inj _ _ _ _ _ (Nat.lt_succ_self _) h
  exact flat_inj h1 h2
theorem key_inj {a b : List Lb} (h : keyOf a = keyOf b) : a = b := by
  refine put_inj ?_
  have := congrArg Utf.bytes h
  rwa [keyOf, keyOf, bytes_str, bytes_str] at this
end Go.Proofs.YtechilkjfhpkpaaGreatDoor.Lab

namespace Go.Proofs.YtechilkjfhpkpaaGreatDoor.Mem
open Go Vm Go.RowKit Num
variable {ω ω' : Tg} {w w' : World} {t u g : Nat} {T : Nat → Bool} {e : TypeId} {sz : Nat} {s : Sl} {xs : List Value}
structure RT (ω : Tg) (w : World) (t : Nat) (s : Sl) (sz : Nat) (xs : List Value) : Prop where
  rd : Rd w s sz xs
  tag : ∀ g o, s.a = some ⟨g, o, none⟩ → xs ≠ [] → ω g = t
theorem RT.lt (h : RT ω w t s sz xs) {g o : Nat} (ha : s.a = some ⟨g, o, none⟩) (hne : xs ≠ []) : g < w.heap.size := by
  obtain ⟨g', o', ha', hc⟩ := h.rd.2.2 hne
  rw [ha] at ha'
  simp only [Option.some.injEq, Addr.mk.injEq] at ha'
  obtain ⟨rfl, rfl, _⟩ := ha'
  have hpos : 0 < xs.length := List.length_pos_iff.2 hne
  exact cell_lt (hc 0 xs[0] (List.getElem?_eq_getElem hpos))
theorem RT.stp (h : RT ω w t s sz xs) (k : Stp T ω ω' w w') (ne : T t = false := by rfl) : RT ω' w' t s sz xs := by
  refine ⟨⟨h.rd.1, h.rd.2.1, fun hne => ?_⟩, fun g o ha hne => (k.same g (h.lt ha hne)).trans (h.tag g o ha hne)⟩
  obtain ⟨g, o, ha, hc⟩ := h.rd.2.2 hne
  refine ⟨g, o, ha, fun j v hv => ?_⟩
  rw [World.cell?_of_block (w := w) (k.block g (h.lt ha hne) (by rw [h.tag g o ha hne]; exact ne))]
  exact hc j v hv
theorem RT.nil (ω : Tg) (w : World) (t sz : Nat) : RT ω w t nilS sz [] := ⟨Rd.nil w sz, fun _ _ _ h => absurd rfl h⟩
theorem OT.rt (h : OT ω w t e sz s xs) : RT ω w t s sz xs := ⟨h.rd, fun g o ha _ => h.tag g (by show (Value.slice s.a s.n s.c).ownBlock = _; rw [ha]; rfl)⟩
theorem Own.rt {B : Nat} (h : Mem.Own w' B e sz s xs) (hB : w.heap.size ≤ B) (ω : Tg) (t : Nat) : RT (ext ω w.heap.size t) w' t s sz xs := (Own.tag h hB ω t).rt
theorem RT.pre (h : RT ω w t s sz xs) {n : Nat} (hn : n ≤ s.n) {i : Int} (ei : i = (n : Int)) {K : Sl → Prop} (hK : ∀ r : Sl, RT ω w t r sz (xs.take (n * sz)) → r.n = n → K r) : G.slc s 0 i sz K := by
  subst ei
  have h1 := h.rd.1
  refine ⟨⟨by omega, by omega, by omega⟩, hK _ ⟨⟨by simp; omega, ?_, fun hne => ?_⟩, fun g o ha hne => ?_⟩ (by simp)⟩
  · rw [List.length_take, h.rd.2.1]
    simp only [Int.toNat_natCast, Int.toNat_zero, Nat.sub_zero]
    exact Nat.min_eq_left (Nat.mul_le_mul_right _ hn)
  · have hx : xs ≠ [] := by rintro rfl; simp at hne
    obtain ⟨g, o, ha, hc⟩ := h.rd.2.2 hx
    refine ⟨g, o, ?_, fun j v hv => hc j v ?_⟩
    · simp only [Int.toNat_zero, Nat.zero_mul]
      split
      · exact ha
      · rw [ha]; simp [Addr.add]
    · rw [List.getElem?_take] at hv
      split at hv
      · exact hv
      · cases hv
  · have hx : xs ≠ [] := by rintro rfl; simp at hne
    obtain ⟨g', o', ha', hc⟩ := h.rd.2.2 hx
    simp only [Int.toNat_zero, Nat.zero_mul] at ha
    have : s.a = some ⟨g, o, none⟩ := by
      split at ha
      · exact ha
      · rw [ha'] at ha ⊢; simpa [Addr.add] using ha
    exact h.tag g o this hx
end Go.Proofs.YtechilkjfhpkpaaGreatDoor.Mem

namespace Go.Proofs.YtechilkjfhpkpaaGreatDoor.Srt
open Go Vm Go.RowKit Num Mem Go.Sort Go.Proofs Lab
variable {ω ω' : Tg} {w w' : World} {t : Nat} {e : TypeId} {s : Sl}
theorem swo {α β : Type} {c : α → α → Int} (h : Cmp c) (f : β → α) : SWO (ltOf fun i j => c (f i) (f j)) := by
  refine ⟨fun x => ?_, fun x y z h1 h2 => ?_, fun x y z h1 h2 => ?_⟩
  · exact decide_eq_false (show ¬ c (f x) (f x) < 0 by rw [h.self]; decide)
  · unfold ltOf at *
    exact decide_eq_true (h.trans _ _ _ (of_decide_eq_true h1) (of_decide_eq_true h2))
  · unfold ltOf at *
    have h1 : ¬ c (f x) (f y) < 0 := of_decide_eq_false h1
    have h2 : ¬ c (f y) (f z) < 0 := of_decide_eq_false h2
    refine decide_eq_false fun h3 => ?_
    have h3 : c (f x) (f z) < 0 := h3
    have a1 := h.anti (f x) (f y)
    by_cases e : c (f x) (f y) = 0
    · have := (h.eq _ _).1 e
      rw [this] at h3; exact h2 h3
    · exact h2 (h.trans _ (f x) _ (by omega) h3)
theorem kd_grow (k : KD w w') : ∃ q os, w' = grow (w.drewN q) os := by
  refine ⟨0, w'.heap.extract w.heap.size w'.heap.size, ?_⟩
  have hh : w'.heap = w.heap ++ w'.heap.extract w.heap.size w'.heap.size := by
    apply Array.ext_getElem?
    intro i
    rcases Nat.lt_or_ge i w.heap.size with hi | hi
    · rw [k.1.block i hi, Array.getElem?_append_left hi]
    · rw [Array.getElem?_append_right hi]
      simp only [Array.getElem?_extract]
      have hs := k.1.size
      by_cases h : i < w'.heap.size
      · rw [if_pos (by omega)]; congr 1; omega
      · rw [if_neg (by omega), Array.getElem?_eq_none (by omega)]
  obtain ⟨k1, k2⟩ := k
  have e1 := k1.os
  have e2 := k1.tape
  have e3 := k1.output
  cases w; cases w'
  simp only at hh e1 e2 e3 k2
  subst e1 e2 e3 k2
  unfold grow World.drewN
  simp only [World.mk.injEq, and_true, Nat.add_zero]
  exact hh
section
variable {enc : Nat → List Value} {k : Nat}
theorem flatK_list (hk : ∀ i, (enc i).length = k) (h0 : 0 < k) : ∀ (l : List Nat), (flatK enc k l.toArray).toList = l.flatMap enc := by
  intro l
  apply List.ext_getElem?
  intro j
  have hl : ∀ l : List Nat, (l.flatMap enc).length = l.length * k := fun l => by
    induction l with
    | nil => simp
    | cons a l ih => rw [List.flatMap_cons, List.length_append, ih, hk, List.length_cons, Nat.add_mul]; omega
  have at_ : ∀ (l : List Nat) (i j : Nat), j < k → (l.flatMap enc)[i * k + j]? = (l[i]?).bind fun x => (enc x)[j]? := by
    intro l
    induction l with
    | nil => intro i j _; simp
    | cons a l ih =>
      intro i j hj
      rw [List.flatMap_cons]
      cases i with
      | zero => rw [Nat.zero_mul, Nat.zero_add, List.getElem?_append_left (by rw [hk]; exact hj)]; rfl
      | succ i =>
        rw [List.getElem?_append_right (by rw [hk, Nat.add_mul]; omega), hk, show (i + 1) * k + j - k = i * k + j by rw [Nat.add_mul]; omega, ih i j hj]
        simp
  by_cases hj : j < l.length * k
  · have hd : j / k < l.length := Nat.div_lt_of_lt_mul (by rw [Nat.mul_comm]; exact hj)
    have hm := Nat.mod_lt j h0
    have ej : j = j / k * k + j % k := by rw [Nat.mul_comm]; exact (Nat.div_add_mod j k).symm
    rw [Array.getElem?_toList, Array.getElem?_eq_getElem (by simpa using hj), ← getElem!_pos, get_flatK _ _ _ _ (by simpa using hj)]
    conv => rhs; rw [ej]
    rw [at_ l _ _ hm, List.getElem?_eq_getElem hd, Option.bind_some, List.getElem?_eq_getElem (by rw [hk]; exact hm)]
    congr 1
    have e1 : l.toArray[j / k]! = l[j / k] := by rw [getElem!_pos l.toArray (j / k) (by simpa using hd)]; simp
    rw [e1, getElem!_pos (enc l[j / k]) (j % k) (by rw [hk]; exact hm)]
  · rw [List.getElem?_eq_none (by simp; omega), List.getElem?_eq_none (by rw [hl]; omega)]
theorem putRow_chg (F : Array Value) (n g : Nat) (os : Array Obj) : w.grownBy (grow (putRow id (Sort.ahead w n) g 0 F) os) (some g) := by
  refine ⟨rfl, rfl, rfl, by simp, fun k hk hne => ?_⟩
  rw [heap_grow_old _ _ (by simpa using hk)]
  have : g ≠ k := fun e => hne (by rw [e])
  simp [putRow, mapBlock, Sort.ahead, Array.getElem?_modify, this]
theorem putRow_blk {F cur : Array Value} {n g : Nat} {os : Array Obj} {fr : Nat × Nat} (hb : w.heap[g]? = some (.cells cur e fr)) :
    (grow (putRow id (Sort.ahead w n) g 0 F) os).heap[g]? = some (.cells (putCells id 0 F cur) e fr) := by
  have hg : g < w.heap.size := (Array.getElem?_eq_some_iff.1 hb).1
  rw [heap_grow_old _ _ (by simpa using hg)]
  simp [putRow, mapBlock, Sort.ahead, Array.getElem?_modify, hb, onCells]
theorem take_put (cur F : Array Value) (h : F.size ≤ cur.size) : (putCells id 0 F cur).toList.take F.size = F.toList := by
  apply List.ext_getElem?
  intro j
  by_cases hj : j < F.size
  · rw [List.getElem?_take_of_lt hj, Array.getElem?_toList]
    simp [putCells, hj, show j < cur.size by omega]
  · rw [List.getElem?_take_eq_none (by omega), List.getElem?_eq_none (by simp; omega)]
end
theorem holds_blk {g : Nat} {cur : List Value} {F : Array Value} (hb : Blk w g e cur) (ht : cur.take F.size = F.toList) : Holds id w g 0 F := by
  intro j hj
  refine ⟨?_, hb.frozen _⟩
  have h1 : (cur.take F.size)[j]? = F.toList[j]? := by rw [ht]
  rw [List.getElem?_take_of_lt hj] at h1
  rw [hb.cell, Nat.zero_add, h1, Array.getElem?_toList, Array.getElem?_eq_getElem hj, getElem!_pos F j hj]; rfl
theorem sort_rows {k : Nat} (kpos : 0 < k) {enc : Nat → List Value} (h3 : ∀ i, (enc i).length = k) (h1 : ∀ i, ∀ v ∈ enc i, v.oneCell' = true) (h : OT ω w t e k s ((List.range s.n).flatMap enc)) (hn : s.n < 4611686018427387904) {cf : Nat → Nat → Int} (hO : SWO (ltOf cf)) {gf : Nat}
    (eg : ∀ args w, (callFunc gf args).run Tryz.prog w = .ok (.enter gf args) w)
    (hc : ∀ W, Stp (One t) ω (ext ω w.heap.size t) w W → ∀ x y : Nat, Calls Tryz.prog gf #[.agg (enc x).toArray, .agg (enc y).toArray] W fun e w' => e = .returned (.int .i64 (cf x y)) ∧ KD W w')
    {K : World → Prop} (hK : ∀ (is : List Nat) ω' w', is.Perm (List.range s.n) → is.Pairwise (fun a b => ¬ cf b a < 0) → Stp (One t) ω ω' w w' → OT ω' w' t e k s (is.flatMap enc) → K w') : sortF k s (.func (.func gf) #[] #[]) w K := by
  rcases h.cases with ⟨rfl, hx⟩ | ⟨g, cur, ha, hb', hle, hm, hl, ht⟩
  · refine .inl ⟨rfl, hK [] ω w (List.Perm.refl _) List.Pairwise.nil (Stp.refl _ _ _) (OT.nil ..)⟩
  · have hbk : s.v.ownBlock = some g := by show (Value.slice s.a s.n s.c).ownBlock = _; rw [ha]; rfl
    have er : (Array.range s.n) = (List.range s.n).toArray := by simp
    have stp : ∀ (n : Nat) (os : Array Obj) (d : Array Nat), Stp (One t) ω (ext ω w.heap.size t) w (sortWorldK enc k w g 0 n d os) := fun n os d => Chg.stp (grown_chg (putRow_chg _ n g os)) fun k hk => by injection hk with hk; subst hk; exact hb'.tag
    refine .inr ⟨g, 0, enc, cf, gf, #[], ha, rfl, h3, h1, hO, eg, fun m os dk hs x y => ?_, ?_, hb'.blk.lt, hn, fun d' n os hp hs => ?_⟩
    · exact (hc _ (stp m os dk) x y).mono fun e w' ⟨he, k⟩ => ⟨he, kd_grow k⟩
    · unfold HoldsK
      refine holds_blk hb'.blk ?_
      rw [size_flatK, Array.size_range, ht, er, flatK_list h3 kpos]
    · have hsz : d'.size = s.n := by have := hp.1; simpa using this
      have p1 : d'.toList.Perm (List.range s.n) := by
        have := hp.2.2
        have e1 : d'.extract 0 s.n = d' := by rw [← hsz]; exact Array.extract_size
        have e2 : (Array.range s.n).extract 0 s.n = Array.range s.n := by have := Array.extract_size (xs := Array.range s.n); rwa [Array.size_range] at this
        rw [e1, e2] at this
        simpa using this
      have p2 : d'.toList.Pairwise (fun a b => ¬ cf b a < 0) := by
        rw [List.pairwise_iff_getElem]
        intro i j hi hj hij
        have hi' : i < d'.size := by simpa using hi
        have hj' : j < d'.size := by simpa using hj
        have := hs i j (Nat.zero_le _) hij (by omega)
        rw [getElem!_pos d' i hi', getElem!_pos d' j hj'] at this
        unfold ltOf at this
        have := of_decide_eq_false this
        simpa using this
      refine hK d'.toList _ _ p1 p2 (stp n os d') ⟨?_, fun k hk => ?_⟩
      · have hss : s = ⟨some ⟨g, 0, none⟩, s.n, s.c⟩ := by rw [← ha]
        have ef : (flatK enc k d').toList = d'.toList.flatMap enc := by have := flatK_list h3 kpos d'.toList; simpa using this
        have hcs : (flatK enc k d').size ≤ cur.toArray.size := by
          rw [size_flatK, hsz, List.size_toArray, hl]; exact Nat.mul_le_mul_right _ hle
        rw [hss]
        refine Own.mk' (cur := (putCells id 0 (flatK enc k d') cur.toArray).toList) (Nat.zero_le _) ?_ hle hm (by simp [putCells, hl]) ?_
        · unfold Blk
          have := putRow_blk (w := w) (n := n) (os := os) (F := flatK enc k d') hb'.blk
          refine Eq.trans this ?_
          simp
        · have := take_put cur.toArray (flatK enc k d') hcs
          rw [size_flatK, hsz] at this
          rw [this, ef]
      · rw [hbk] at hk
        injection hk with hk
        subst hk
        rw [ext_old hb'.blk.lt]; exact hb'.tag
end Go.Proofs.YtechilkjfhpkpaaGreatDoor.Srt

namespace Go.Proofs.YtechilkjfhpkpaaGreatDoor.Mem
open Go Vm Go.RowKit Num
variable {T : Nat → Bool} {ω ω' : Tg} {w w' w0 : World} {t : Nat}
theorem put_stp {g : Nat} {o : Obj} (ht : ω g = t) : Stp (One t) ω ω w (w.putObj g o) :=
  ⟨rfl, rfl, rfl, by simp [World.putObj], fun _ _ => rfl, fun k _ hT => World.putObj_heap_other fun e => by subst e; rw [ht, one_self] at hT; cases hT⟩
theorem Stp.obj (s : Stp T ω ω' w w') {g : Nat} {o : Obj} (h : w.heap[g]? = some o) (ht : ω g = t) (ne : T t = false) : w'.heap[g]? = some o ∧ ω' g = t :=
  ⟨by rw [s.block g (heap_lt h) (by rw [ht]; exact ne)]; exact h, (s.same g (heap_lt h)).trans ht⟩
theorem isB_at {b : Bool} {K : Bool → Prop} (h : K b) : G.isB (.bool b) K := h
theorem marks_at {D : Nat} {w : World} {K : World → Prop} (h : w.heap[D]? = some (.deferred (some []))) (hK : K (w.putObj D (.deferred none))) : G.marks (pushMark undef D) w K := by
  show G.marks (.agg ⟨[.int .i64 (D : Int)]⟩) w K
  exact ⟨h, hK⟩
theorem OT.from {e : TypeId} {sz : Nat} {s : Sl} {xs : List Value} (h : OT ω w t e sz s xs) (top : Top w0 ω w) (ht : t ≠ 0) : Own w w0.heap.size e sz s xs := by
  obtain ⟨hl, ho⟩ := h.own
  refine ⟨hl, ho.imp_right fun ⟨g, cap, cur, hv, hg, r⟩ => ⟨g, cap, cur, hv, ?_, r⟩⟩
  have := h.tag g (by rw [hv]; rfl)
  rcases Nat.lt_or_ge g w0.heap.size with hlt | hge
  · exact absurd (this.symm.trans (top.z g hlt)) ht
  · exact hge
end Go.Proofs.YtechilkjfhpkpaaGreatDoor.Mem
