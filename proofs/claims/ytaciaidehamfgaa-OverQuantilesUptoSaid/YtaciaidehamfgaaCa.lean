/- Clean texts of Go functions, written by a program of this work (gen.py) off the loaded code, each shown to be what the code does. -/
import Derived.Test.YtaciaidehamfgaaProg
import Derived.Test.YtaciaidehamfgaaVmLift
import Derived.Test.YtaciaidehamfgaaSortF
set_option linter.unusedVariables false
set_option maxRecDepth 100000
namespace Go.Proofs.Ytaciaidehamfgaa
open Go Vm
namespace C
noncomputable abbrev pr : Program := Try.prog
theorem mixed : pr.follows .mixedOrders = true := by kernel_rfl
/-! (tocsin/over.window).sum -/
namespace over_window_sum
abbrev KT := Nat → World → Prop
def Kt (Kv : Value → World → Prop) : KT := fun f1 w => Kv (.float .f64 f1) w
noncomputable def bd : Code := bdy Try.f48
theorem fn : FnOk pr 48 25 Try.f48 := ⟨Try.func48, by kernel_rfl, Try.ntmps48, by kernel_rfl, by kernel_rfl⟩
def F : Clee := ofL []
theorem FOk_ : FOk pr F := FOk_nil
def P1 (Kv : Value → World → Prop) : Post := bodyK false pr 25 Try.f48 Kv
@[reducible] def g2 : List SE := [.v 3 (.fl .f64)]
def S2 (K : KT) (s_5 : Nat) (w : World) : Prop :=
  K s_5 w
theorem S2_ok (Kv : Value → World → Prop) : OkT pr false none 25 g2 (S2 (Kt Kv)) (s2 (tl 2 bd)) (P1 Kv) := ok_last mixed FOk_ fun v ρ w => by kernel_rfl
def P3 (Kv : Value → World → Prop) : Post := next (get g2 (S2 (Kt Kv))) (P1 Kv)
def P4 (Kv : Value → World → Prop) : Post := inBlock 0 (P3 Kv)
@[reducible] def g5 : List SE := [.v 3 (.fl .f64), .v 13 .sl, .v 14 (.int .i64), .v 15 (.int .i64)]
def P6 (Kv : Value → World → Prop) (kc5 : Cur g5) : Post := next (get g5 kc5) (P4 Kv)
def S7 (K : KT) (kc5 : Cur g5) (s_14 : Nat) (l15 : Sl) (n16 : Int) (n17 : Int) (w : World) : Prop :=
  G.cond (decide (n17 < n16)) (G.ix l15.a l15.n n17 2 fun p18 => G.cI .i64 p18 w fun n19 => G.cF .f64 (p18.add 1) w fun f20 => G.new (.cells #[(.int .i64 (0 : Int)), (.float .f64 0)] 33) w fun p21 w22 => G.st p21 (.int .i64 n19) w22 fun w23 => G.st (p21.add 1) (.float .f64 f20) w23 fun w24 => G.cF .f64 (p21.add 1) w24 fun f25 => G.fa .add s_14 f25 w24 fun f26 w27 => kc5 f26 l15 n16 (IntKind.i64.wrap (n17 + (1 : Int))) w27) (S2 K s_14 w)
theorem S7_ok (Kv : Value → World → Prop) (kc5 : Cur g5) : OkT pr false none 25 g5 (S7 (Kt Kv) kc5) (lp (blk (tl 1 (s1 (tl 2 bd))))) (P6 Kv kc5) := ok_last mixed FOk_ fun v ρ w => by kernel_rfl
def L5 (K : KT) : Cur g5 := loopC g5 (S7 K)
theorem L5_ok (Kv : Value → World → Prop) : OkT pr false none 25 g5 (L5 (Kt Kv)) (blk (tl 1 (s1 (tl 2 bd)))) (P4 Kv) := ok_loop (B := S7 (Kt Kv)) (by kernel_rfl) fun kc => S7_ok Kv kc
theorem L5_ind {K : KT} {s_6 : Nat} {l7 : Sl} {n8 : Int} {n9 : Int} {w : World} (h : ∀ X : Cur g5, (∀ s_6 l7 n8 n9 w, S7 K X s_6 l7 n8 n9 w → X s_6 l7 n8 n9 w) → X s_6 l7 n8 n9 w) : L5 K s_6 l7 n8 n9 w := fun X hX => h X fun s_6 l7 n8 n9 w hb => hX (s_6, l7, n8, n9, ()) w hb
theorem B8 (Kv : Value → World → Prop) : OkT pr false none 25 g5 (L5 (Kt Kv)) (tl 1 (s1 (tl 2 bd))) (P3 Kv) := ok_block 0 (by kernel_rfl) (L5_ok Kv)
@[reducible] def g9 : List SE := [.v 1 .ptr, .v 3 (.fl .f64)]
def S9 (K : KT) (w_28 : Option Addr) (s_29 : Nat) (w : World) : Prop :=
  G.ptr w_28 fun p30 => G.cSl p30 w fun l31 => G.slc l31 (1 : Int) ((l31.n : Nat) : Int) 2 fun l32 => L5 K s_29 l32 ((l32.n : Nat) : Int) (0 : Int) w
theorem S9_ok (Kv : Value → World → Prop) : OkT pr false none 25 g9 (S9 (Kt Kv)) (s1 (tl 2 bd)) (P3 Kv) := ok_group mixed FOk_ 1 (B8 Kv) fun v ρ w => by kernel_rfl
theorem Q10 (Kv : Value → World → Prop) : OkT pr false none 25 g9 (S9 (Kt Kv)) (tl 2 bd) (P1 Kv) := ok_seq (by kernel_rfl) (S2_ok Kv) (S9_ok Kv)
end over_window_sum
def over_window_sum (w_2 : Sl) (w_3 : Int) (w_4 : Int) (w : World) (K : over_window_sum.KT) : Prop :=
  G.new (.cells #[w_2.v, (.int .i64 w_3), (.int .i64 w_4)] 52) w fun p33 w34 => G.cSl p33 w34 fun l35 => G.ix l35.a l35.n (0 : Int) 2 fun p36 => G.cF .f64 (p36.add 1) w34 fun f37 => over_window_sum.S9 K (some p33) f37 w34
def over_window_sum.cl : CL := fun args K w => match args with
  | [.agg ⟨[.slice x0_0_a x0_0_n x0_0_c, .int .i64 x0_1, .int .i64 x0_2]⟩] => C.over_window_sum ⟨x0_0_a, x0_0_n, x0_0_c⟩ x0_1 x0_2 w (over_window_sum.Kt K)
  | _ => False
theorem over_window_sum.clok : OkC pr 48 over_window_sum.cl := by
  intro args K w h
  unfold over_window_sum.cl at h
  split at h
  · exact calls_group false mixed over_window_sum.FOk_ over_window_sum.fn rfl 2 (over_window_sum.Q10 K) (Eq.mp (by kernel_rfl) h)
  · exact h.elim

/-! (tocsin/over.window).changes -/
namespace over_window_changes
abbrev KT := Nat → World → Prop
def Kt (Kv : Value → World → Prop) : KT := fun f1 w => Kv (.float .f64 f1) w
noncomputable def bd : Code := bdy Try.f49
theorem fn : FnOk pr 49 44 Try.f49 := ⟨Try.func49, by kernel_rfl, Try.ntmps49, by kernel_rfl, by kernel_rfl⟩
def F : Clee := ofL []
theorem FOk_ : FOk pr F := FOk_nil
def P1 (Kv : Value → World → Prop) : Post := bodyK false pr 44 Try.f49 Kv
@[reducible] def g2 : List SE := [.v 3 (.int .i64)]
def S2 (K : KT) (n_5 : Int) (w : World) : Prop :=
  K (FloatKind.f64.nearest n_5) w
theorem S2_ok (Kv : Value → World → Prop) : OkT pr false none 44 g2 (S2 (Kt Kv)) (s2 (tl 2 bd)) (P1 Kv) := ok_last mixed FOk_ fun v ρ w => by kernel_rfl
def P3 (Kv : Value → World → Prop) : Post := next (get g2 (S2 (Kt Kv))) (P1 Kv)
def P4 (Kv : Value → World → Prop) : Post := inBlock 0 (P3 Kv)
@[reducible] def g5 : List SE := [.v 1 .ptr, .v 3 (.int .i64), .v 9 .sl, .v 10 (.int .i64), .v 11 (.int .i64)]
def P6 (Kv : Value → World → Prop) (kc5 : Cur g5) : Post := next (get g5 kc5) (P4 Kv)
def S7 (K : KT) (kc5 : Cur g5) (w_16 : Option Addr) (n_17 : Int) (l18 : Sl) (n19 : Int) (n20 : Int) (w : World) : Prop :=
  G.cond (decide (n20 < n19)) (G.ix l18.a l18.n n20 2 fun p21 => G.cI .i64 p21 w fun n22 => G.cF .f64 (p21.add 1) w fun f23 => G.new (.cells #[(.int .i64 (0 : Int)), (.float .f64 0)] 33) w fun p24 w25 => G.st p24 (.int .i64 n22) w25 fun w26 => G.st (p24.add 1) (.float .f64 f23) w26 fun w27 => G.ptr w_16 fun p28 => G.cSl p28 w27 fun l29 => G.ix l29.a l29.n n20 2 fun p30 => G.cF .f64 (p30.add 1) w27 fun f31 => G.cF .f64 (p24.add 1) w27 fun f32 => G.cond (G.fne f32 f31) (G.cF .f64 (p24.add 1) w27 fun f33 => G.cF .f64 (p24.add 1) w27 fun f34 => G.cond (G.fne f33 f34) (G.cond (!(G.fne f31 f31)) (kc5 w_16 (IntKind.i64.wrap (n_17 + (1 : Int))) l18 n19 (IntKind.i64.wrap (n20 + (1 : Int))) w27) (kc5 w_16 n_17 l18 n19 (IntKind.i64.wrap (n20 + (1 : Int))) w27)) (kc5 w_16 (IntKind.i64.wrap (n_17 + (1 : Int))) l18 n19 (IntKind.i64.wrap (n20 + (1 : Int))) w27)) (kc5 w_16 n_17 l18 n19 (IntKind.i64.wrap (n20 + (1 : Int))) w27)) (S2 K n_17 w)
theorem S7_ok (Kv : Value → World → Prop) (kc5 : Cur g5) : OkT pr false none 44 g5 (S7 (Kt Kv) kc5) (lp (blk (tl 1 (s1 (tl 2 bd))))) (P6 Kv kc5) := ok_last mixed FOk_ fun v ρ w => by kernel_rfl
def L5 (K : KT) : Cur g5 := loopC g5 (S7 K)
theorem L5_ok (Kv : Value → World → Prop) : OkT pr false none 44 g5 (L5 (Kt Kv)) (blk (tl 1 (s1 (tl 2 bd)))) (P4 Kv) := ok_loop (B := S7 (Kt Kv)) (by kernel_rfl) fun kc => S7_ok Kv kc
theorem L5_ind {K : KT} {w_6 : Option Addr} {n_7 : Int} {l8 : Sl} {n9 : Int} {n10 : Int} {w : World} (h : ∀ X : Cur g5, (∀ w_6 n_7 l8 n9 n10 w, S7 K X w_6 n_7 l8 n9 n10 w → X w_6 n_7 l8 n9 n10 w) → X w_6 n_7 l8 n9 n10 w) : L5 K w_6 n_7 l8 n9 n10 w := fun X hX => h X fun w_6 n_7 l8 n9 n10 w hb => hX (w_6, n_7, l8, n9, n10, ()) w hb
theorem B8 (Kv : Value → World → Prop) : OkT pr false none 44 g5 (L5 (Kt Kv)) (tl 1 (s1 (tl 2 bd))) (P3 Kv) := ok_block 0 (by kernel_rfl) (L5_ok Kv)
@[reducible] def g9 : List SE := [.v 1 .ptr, .v 3 (.int .i64)]
def S9 (K : KT) (w_35 : Option Addr) (n_36 : Int) (w : World) : Prop :=
  G.ptr w_35 fun p37 => G.cSl p37 w fun l38 => G.slc l38 (1 : Int) ((l38.n : Nat) : Int) 2 fun l39 => L5 K w_35 n_36 l39 ((l39.n : Nat) : Int) (0 : Int) w
theorem S9_ok (Kv : Value → World → Prop) : OkT pr false none 44 g9 (S9 (Kt Kv)) (s1 (tl 2 bd)) (P3 Kv) := ok_group mixed FOk_ 1 (B8 Kv) fun v ρ w => by kernel_rfl
theorem Q10 (Kv : Value → World → Prop) : OkT pr false none 44 g9 (S9 (Kt Kv)) (tl 2 bd) (P1 Kv) := ok_seq (by kernel_rfl) (S2_ok Kv) (S9_ok Kv)
end over_window_changes
def over_window_changes (w_2 : Sl) (w_3 : Int) (w_4 : Int) (w : World) (K : over_window_changes.KT) : Prop :=
  G.new (.cells #[w_2.v, (.int .i64 w_3), (.int .i64 w_4)] 52) w fun p40 w41 => over_window_changes.S9 K (some p40) (0 : Int) w41
def over_window_changes.cl : CL := fun args K w => match args with
  | [.agg ⟨[.slice x0_0_a x0_0_n x0_0_c, .int .i64 x0_1, .int .i64 x0_2]⟩] => C.over_window_changes ⟨x0_0_a, x0_0_n, x0_0_c⟩ x0_1 x0_2 w (over_window_changes.Kt K)
  | _ => False
theorem over_window_changes.clok : OkC pr 49 over_window_changes.cl := by
  intro args K w h
  unfold over_window_changes.cl at h
  split at h
  · exact calls_group false mixed over_window_changes.FOk_ over_window_changes.fn rfl 2 (over_window_changes.Q10 K) (Eq.mp (by kernel_rfl) h)
  · exact h.elim

/-! tocsin/over.table$2 -/
namespace over_table_2
abbrev KT := Nat → World → Prop
def Kt (Kv : Value → World → Prop) : KT := fun f1 w => Kv (.float .f64 f1) w
noncomputable def bd : Code := bdy Try.f50
theorem fn : FnOk pr 50 7 Try.f50 := ⟨Try.func50, by kernel_rfl, Try.ntmps50, by kernel_rfl, by kernel_rfl⟩
def F : Clee := ofL []
theorem FOk_ : FOk pr F := FOk_nil
def P1 (Kv : Value → World → Prop) : Post := bodyK false pr 7 Try.f50 Kv
end over_table_2
def over_table_2 (w_2 : Sl) (w_3 : Int) (w_4 : Int) (w : World) (K : over_table_2.KT) : Prop :=
  G.new (.cells #[w_2.v, (.int .i64 w_3), (.int .i64 w_4)] 52) w fun p5 w6 => G.cSl p5 w6 fun l7 => K (FloatKind.f64.nearest ((l7.n : Nat) : Int)) w6
def over_table_2.cl : CL := fun args K w => match args with
  | [.agg ⟨[.slice x0_0_a x0_0_n x0_0_c, .int .i64 x0_1, .int .i64 x0_2]⟩] => C.over_table_2 ⟨x0_0_a, x0_0_n, x0_0_c⟩ x0_1 x0_2 w (over_table_2.Kt K)
  | _ => False
theorem over_table_2.clok : OkC pr 50 over_table_2.cl := by
  intro args K w h
  unfold over_table_2.cl at h
  split at h
  · exact calls_last false mixed over_table_2.FOk_ over_table_2.fn rfl (Eq.mp (by kernel_rfl) h)
  · exact h.elim

/-! tocsin/over.table$7 -/
namespace over_table_7
abbrev KT := Nat → World → Prop
def Kt (Kv : Value → World → Prop) : KT := fun f1 w => Kv (.float .f64 f1) w
noncomputable def bd : Code := bdy Try.f57
theorem fn : FnOk pr 57 12 Try.f57 := ⟨Try.func57, by kernel_rfl, Try.ntmps57, by kernel_rfl, by kernel_rfl⟩
def F : Clee := ofL []
theorem FOk_ : FOk pr F := FOk_nil
def P1 (Kv : Value → World → Prop) : Post := bodyK false pr 12 Try.f57 Kv
end over_table_7
def over_table_7 (w_2 : Sl) (w_3 : Int) (w_4 : Int) (w : World) (K : over_table_7.KT) : Prop :=
  G.new (.cells #[w_2.v, (.int .i64 w_3), (.int .i64 w_4)] 52) w fun p5 w6 => G.cSl p5 w6 fun l7 => G.cSl p5 w6 fun l8 => G.ix l7.a l7.n (IntKind.i64.wrap (((l8.n : Nat) : Int) - (1 : Int))) 2 fun p9 => G.cF .f64 (p9.add 1) w6 fun f10 => K f10 w6
def over_table_7.cl : CL := fun args K w => match args with
  | [.agg ⟨[.slice x0_0_a x0_0_n x0_0_c, .int .i64 x0_1, .int .i64 x0_2]⟩] => C.over_table_7 ⟨x0_0_a, x0_0_n, x0_0_c⟩ x0_1 x0_2 w (over_table_7.Kt K)
  | _ => False
theorem over_table_7.clok : OkC pr 57 over_table_7.cl := by
  intro args K w h
  unfold over_table_7.cl at h
  split at h
  · exact calls_last false mixed over_table_7.FOk_ over_table_7.fn rfl (Eq.mp (by kernel_rfl) h)
  · exact h.elim

/-! tocsin/over.table$8$1 -/
namespace over_table_8_1
abbrev KT := Bool → World → Prop
def Kt (Kv : Value → World → Prop) : KT := fun b1 w => Kv (.bool b1) w
noncomputable def bd : Code := bdy Try.f60
theorem fn : FnOk pr 60 8 Try.f60 := ⟨Try.func60, by kernel_rfl, Try.ntmps60, by kernel_rfl, by kernel_rfl⟩
def F : Clee := ofL []
theorem FOk_ : FOk pr F := FOk_nil
def P1 (Kv : Value → World → Prop) : Post := bodyK false pr 8 Try.f60 Kv
end over_table_8_1
def over_table_8_1 (a_2 : Nat) (b_3 : Nat) (w : World) (K : over_table_8_1.KT) : Prop :=
  K (G.fgt a_2 b_3) w
def over_table_8_1.cl : CL := fun args K w => match args with
  | [.float .f64 x0, .float .f64 x1] => C.over_table_8_1 x0 x1 w (over_table_8_1.Kt K)
  | _ => False
theorem over_table_8_1.clok : OkC pr 60 over_table_8_1.cl := by
  intro args K w h
  unfold over_table_8_1.cl at h
  split at h
  · exact calls_last false mixed over_table_8_1.FOk_ over_table_8_1.fn rfl (Eq.mp (by kernel_rfl) h)
  · exact h.elim

/-! tocsin/over.table$9$1 -/
namespace over_table_9_1
abbrev KT := Bool → World → Prop
def Kt (Kv : Value → World → Prop) : KT := fun b1 w => Kv (.bool b1) w
noncomputable def bd : Code := bdy Try.f62
theorem fn : FnOk pr 62 8 Try.f62 := ⟨Try.func62, by kernel_rfl, Try.ntmps62, by kernel_rfl, by kernel_rfl⟩
def F : Clee := ofL []
theorem FOk_ : FOk pr F := FOk_nil
def P1 (Kv : Value → World → Prop) : Post := bodyK false pr 8 Try.f62 Kv
end over_table_9_1
def over_table_9_1 (a_2 : Nat) (b_3 : Nat) (w : World) (K : over_table_9_1.KT) : Prop :=
  K (G.flt a_2 b_3) w
def over_table_9_1.cl : CL := fun args K w => match args with
  | [.float .f64 x0, .float .f64 x1] => C.over_table_9_1 x0 x1 w (over_table_9_1.Kt K)
  | _ => False
theorem over_table_9_1.clok : OkC pr 62 over_table_9_1.cl := by
  intro args K w h
  unfold over_table_9_1.cl at h
  split at h
  · exact calls_last false mixed over_table_9_1.FOk_ over_table_9_1.fn rfl (Eq.mp (by kernel_rfl) h)
  · exact h.elim

/-! tocsin/over.table$10 -/
namespace over_table_10
abbrev KT := Nat → World → Prop
def Kt (Kv : Value → World → Prop) : KT := fun f1 w => Kv (.float .f64 f1) w
noncomputable def bd : Code := bdy Try.f63
theorem fn : FnOk pr 63 3 Try.f63 := ⟨Try.func63, by kernel_rfl, Try.ntmps63, by kernel_rfl, by kernel_rfl⟩
def F : Clee := ofL []
theorem FOk_ : FOk pr F := FOk_nil
def P1 (Kv : Value → World → Prop) : Post := bodyK false pr 3 Try.f63 Kv
end over_table_10
def over_table_10 (w_2 : Sl) (w_3 : Int) (w_4 : Int) (w : World) (K : over_table_10.KT) : Prop :=
  G.new (.cells #[w_2.v, (.int .i64 w_3), (.int .i64 w_4)] 52) w fun p5 w6 => K 4607182418800017408 w6
def over_table_10.cl : CL := fun args K w => match args with
  | [.agg ⟨[.slice x0_0_a x0_0_n x0_0_c, .int .i64 x0_1, .int .i64 x0_2]⟩] => C.over_table_10 ⟨x0_0_a, x0_0_n, x0_0_c⟩ x0_1 x0_2 w (over_table_10.Kt K)
  | _ => False
theorem over_table_10.clok : OkC pr 63 over_table_10.cl := by
  intro args K w h
  unfold over_table_10.cl at h
  split at h
  · exact calls_last false mixed over_table_10.FOk_ over_table_10.fn rfl (Eq.mp (by kernel_rfl) h)
  · exact h.elim

/-! (tocsin/over.window).resets -/
namespace over_window_resets
abbrev KT := Nat → World → Prop
def Kt (Kv : Value → World → Prop) : KT := fun f1 w => Kv (.float .f64 f1) w
noncomputable def bd : Code := bdy Try.f65
theorem fn : FnOk pr 65 29 Try.f65 := ⟨Try.func65, by kernel_rfl, Try.ntmps65, by kernel_rfl, by kernel_rfl⟩
def F : Clee := ofL []
theorem FOk_ : FOk pr F := FOk_nil
def P1 (Kv : Value → World → Prop) : Post := bodyK false pr 29 Try.f65 Kv
@[reducible] def g2 : List SE := [.v 3 (.int .i64)]
def S2 (K : KT) (n_5 : Int) (w : World) : Prop :=
  K (FloatKind.f64.nearest n_5) w
theorem S2_ok (Kv : Value → World → Prop) : OkT pr false none 29 g2 (S2 (Kt Kv)) (s2 (tl 2 bd)) (P1 Kv) := ok_last mixed FOk_ fun v ρ w => by kernel_rfl
def P3 (Kv : Value → World → Prop) : Post := next (get g2 (S2 (Kt Kv))) (P1 Kv)
def P4 (Kv : Value → World → Prop) : Post := inBlock 0 (P3 Kv)
@[reducible] def g5 : List SE := [.v 1 .ptr, .v 3 (.int .i64), .v 8 .sl, .v 9 (.int .i64), .v 10 (.int .i64)]
def P6 (Kv : Value → World → Prop) (kc5 : Cur g5) : Post := next (get g5 kc5) (P4 Kv)
def S7 (K : KT) (kc5 : Cur g5) (w_16 : Option Addr) (n_17 : Int) (l18 : Sl) (n19 : Int) (n20 : Int) (w : World) : Prop :=
  G.cond (decide (n20 < n19)) (G.ix l18.a l18.n n20 2 fun p21 => G.cI .i64 p21 w fun n22 => G.cF .f64 (p21.add 1) w fun f23 => G.new (.cells #[(.int .i64 (0 : Int)), (.float .f64 0)] 33) w fun p24 w25 => G.st p24 (.int .i64 n22) w25 fun w26 => G.st (p24.add 1) (.float .f64 f23) w26 fun w27 => G.cF .f64 (p24.add 1) w27.drew fun f28 => G.ptr w_16 fun p29 => G.cSl p29 w27.drew fun l30 => G.ix l30.a l30.n n20 2 fun p31 => G.cF .f64 (p31.add 1) w27.drew fun f32 => G.cond (G.flt f28 f32) (kc5 w_16 (IntKind.i64.wrap (n_17 + (1 : Int))) l18 n19 (IntKind.i64.wrap (n20 + (1 : Int))) w27.drew) (kc5 w_16 n_17 l18 n19 (IntKind.i64.wrap (n20 + (1 : Int))) w27.drew)) (S2 K n_17 w)
theorem S7_ok (Kv : Value → World → Prop) (kc5 : Cur g5) : OkT pr false none 29 g5 (S7 (Kt Kv) kc5) (lp (blk (tl 1 (s1 (tl 2 bd))))) (P6 Kv kc5) := ok_last mixed FOk_ fun v ρ w => by kernel_rfl
def L5 (K : KT) : Cur g5 := loopC g5 (S7 K)
theorem L5_ok (Kv : Value → World → Prop) : OkT pr false none 29 g5 (L5 (Kt Kv)) (blk (tl 1 (s1 (tl 2 bd)))) (P4 Kv) := ok_loop (B := S7 (Kt Kv)) (by kernel_rfl) fun kc => S7_ok Kv kc
theorem L5_ind {K : KT} {w_6 : Option Addr} {n_7 : Int} {l8 : Sl} {n9 : Int} {n10 : Int} {w : World} (h : ∀ X : Cur g5, (∀ w_6 n_7 l8 n9 n10 w, S7 K X w_6 n_7 l8 n9 n10 w → X w_6 n_7 l8 n9 n10 w) → X w_6 n_7 l8 n9 n10 w) : L5 K w_6 n_7 l8 n9 n10 w := fun X hX => h X fun w_6 n_7 l8 n9 n10 w hb => hX (w_6, n_7, l8, n9, n10, ()) w hb
theorem B8 (Kv : Value → World → Prop) : OkT pr false none 29 g5 (L5 (Kt Kv)) (tl 1 (s1 (tl 2 bd))) (P3 Kv) := ok_block 0 (by kernel_rfl) (L5_ok Kv)
@[reducible] def g9 : List SE := [.v 1 .ptr, .v 3 (.int .i64)]
def S9 (K : KT) (w_33 : Option Addr) (n_34 : Int) (w : World) : Prop :=
  G.ptr w_33 fun p35 => G.cSl p35 w fun l36 => G.slc l36 (1 : Int) ((l36.n : Nat) : Int) 2 fun l37 => L5 K w_33 n_34 l37 ((l37.n : Nat) : Int) (0 : Int) w
theorem S9_ok (Kv : Value → World → Prop) : OkT pr false none 29 g9 (S9 (Kt Kv)) (s1 (tl 2 bd)) (P3 Kv) := ok_group mixed FOk_ 1 (B8 Kv) fun v ρ w => by kernel_rfl
theorem Q10 (Kv : Value → World → Prop) : OkT pr false none 29 g9 (S9 (Kt Kv)) (tl 2 bd) (P1 Kv) := ok_seq (by kernel_rfl) (S2_ok Kv) (S9_ok Kv)
end over_window_resets
def over_window_resets (w_2 : Sl) (w_3 : Int) (w_4 : Int) (w : World) (K : over_window_resets.KT) : Prop :=
  G.new (.cells #[w_2.v, (.int .i64 w_3), (.int .i64 w_4)] 52) w fun p38 w39 => over_window_resets.S9 K (some p38) (0 : Int) w39
def over_window_resets.cl : CL := fun args K w => match args with
  | [.agg ⟨[.slice x0_0_a x0_0_n x0_0_c, .int .i64 x0_1, .int .i64 x0_2]⟩] => C.over_window_resets ⟨x0_0_a, x0_0_n, x0_0_c⟩ x0_1 x0_2 w (over_window_resets.Kt K)
  | _ => False
theorem over_window_resets.clok : OkC pr 65 over_window_resets.cl := by
  intro args K w h
  unfold over_window_resets.cl at h
  split at h
  · exact calls_group false mixed over_window_resets.FOk_ over_window_resets.fn rfl 2 (over_window_resets.Q10 K) (Eq.mp (by kernel_rfl) h)
  · exact h.elim

/-! tocsin/over.table$1 -/
namespace over_table_1
abbrev KT := Nat → World → Prop
def Kt (Kv : Value → World → Prop) : KT := fun f1 w => Kv (.float .f64 f1) w
noncomputable def bd : Code := bdy Try.f47
theorem fn : FnOk pr 47 10 Try.f47 := ⟨Try.func47, by kernel_rfl, Try.ntmps47, by kernel_rfl, by kernel_rfl⟩
def F : Clee := ofL [(48, C.over_window_sum.cl)]
theorem FOk_ : FOk pr F := FOk_cons C.over_window_sum.clok (FOk_nil)
def P1 (Kv : Value → World → Prop) : Post := bodyK false pr 10 Try.f47 Kv
end over_table_1
def over_table_1 (w_2 : Sl) (w_3 : Int) (w_4 : Int) (w : World) (K : over_table_1.KT) : Prop :=
  G.new (.cells #[w_2.v, (.int .i64 w_3), (.int .i64 w_4)] 52) w fun p5 w6 => G.cSl p5 w6.drew fun l7 => G.cI .i64 (p5.add 1) w6.drew fun n8 => G.cI .i64 (p5.add 2) w6.drew fun n9 => G.cSl p5 w6.drew fun l10 => C.over_window_sum l7 n8 n9 w6.drew fun f11 w12 => sameAt p5 1 w6.drew w12 ∧ (G.fa .quo f11 (FloatKind.f64.nearest ((l10.n : Nat) : Int)) w12 fun f13 w14 => K f13 w14)
def over_table_1.cl : CL := fun args K w => match args with
  | [.agg ⟨[.slice x0_0_a x0_0_n x0_0_c, .int .i64 x0_1, .int .i64 x0_2]⟩] => C.over_table_1 ⟨x0_0_a, x0_0_n, x0_0_c⟩ x0_1 x0_2 w (over_table_1.Kt K)
  | _ => False
theorem over_table_1.clok : OkC pr 47 over_table_1.cl := by
  intro args K w h
  unfold over_table_1.cl at h
  split at h
  · exact calls_last false mixed over_table_1.FOk_ over_table_1.fn rfl (Eq.mp (by kernel_rfl) h)
  · exact h.elim

/-! tocsin/over.seconds -/
namespace over_seconds
abbrev KT := Nat → World → Prop
def Kt (Kv : Value → World → Prop) : KT := fun f1 w => Kv (.float .f64 f1) w
noncomputable def bd : Code := bdy Try.f74
theorem fn : FnOk pr 74 6 Try.f74 := ⟨Try.func74, by kernel_rfl, Try.ntmps74, by kernel_rfl, by kernel_rfl⟩
def F : Clee := ofL []
theorem FOk_ : FOk pr F := FOk_nil
def P1 (Kv : Value → World → Prop) : Post := bodyK false pr 6 Try.f74 Kv
end over_seconds
def over_seconds (ms_2 : Int) (w : World) (K : over_seconds.KT) : Prop :=
  G.fa .quo (FloatKind.f64.nearest ms_2) 4652007308841189376 w fun f3 w4 => K f3 w4
def over_seconds.cl : CL := fun args K w => match args with
  | [.int .i64 x0] => C.over_seconds x0 w (over_seconds.Kt K)
  | _ => False
theorem over_seconds.clok : OkC pr 74 over_seconds.cl := by
  intro args K w h
  unfold over_seconds.cl at h
  split at h
  · exact calls_last false mixed over_seconds.FOk_ over_seconds.fn rfl (Eq.mp (by kernel_rfl) h)
  · exact h.elim

/-! (tocsin/over.window).slope -/
namespace over_window_slope
abbrev KT := Nat → World → Prop
def Kt (Kv : Value → World → Prop) : KT := fun f1 w => Kv (.float .f64 f1) w
noncomputable def bd : Code := bdy Try.f52
theorem fn : FnOk pr 52 150 Try.f52 := ⟨Try.func52, by kernel_rfl, Try.ntmps52, by kernel_rfl, by kernel_rfl⟩
def F : Clee := ofL [(74, C.over_seconds.cl)]
theorem FOk_ : FOk pr F := FOk_cons C.over_seconds.clok (FOk_nil)
def P1 (Kv : Value → World → Prop) : Post := bodyK false pr 150 Try.f52 Kv
@[reducible] def g2 : List SE := [.v 2 .bool, .v 3 .ptr, .v 10 (.fl .f64), .v 14 (.fl .f64), .v 18 (.fl .f64)]
def S2 (K : KT) (rate_30 : Bool) (w_31 : Option Addr) (r_32 : Nat) (long_33 : Nat) (y_34 : Nat) (w : World) : Prop :=
  G.fa .quo y_34 long_33 w fun f35 w36 => G.cond rate_30 (G.ptr w_31 fun p37 => G.cI .i64 (p37.add 2) w36 fun n38 => G.ptr w_31 fun p39 => G.cI .i64 (p39.add 1) w36 fun n40 => C.over_seconds (IntKind.i64.wrap (n38 - n40)) w36 fun f41 w42 => G.fa .quo f35 f41 w42 fun f43 w44 => G.fa .mul r_32 f43 w44 fun f45 w46 => K f45 w46) (G.fa .mul r_32 f35 w36 fun f47 w48 => K f47 w48)
theorem S2_ok (Kv : Value → World → Prop) : OkT pr false none 150 g2 (S2 (Kt Kv)) (tl 1 (tl 2 (tl 4 (s2 (tl 4 bd))))) (P1 Kv) := ok_last mixed FOk_ fun v ρ w => by kernel_rfl
@[reducible] def g3 : List SE := [.v 2 .bool, .v 3 .ptr, .v 10 (.fl .f64), .v 13 (.fl .f64), .v 14 (.fl .f64), .v 15 (.fl .f64), .v 16 (.fl .f64), .v 18 (.fl .f64)]
def S3 (K : KT) (rate_49 : Bool) (w_50 : Option Addr) (r_51 : Nat) (e_52 : Nat) (long_53 : Nat) (a_54 : Nat) (x_55 : Nat) (y_56 : Nat) (w : World) : Prop :=
  G.cond (G.flt e_52 x_55) (G.fa .add y_56 e_52 w fun f57 w58 => S2 K rate_49 w_50 r_51 long_53 f57 w58) (G.fa .quo a_54 4611686018427387904 w fun f59 w60 => G.fa .add y_56 f59 w60 fun f61 w62 => S2 K rate_49 w_50 r_51 long_53 f61 w62)
theorem S3_ok (Kv : Value → World → Prop) : OkT pr false none 150 g3 (S3 (Kt Kv)) (tl 2 (tl 4 (s2 (tl 4 bd)))) (P1 Kv) := ok_group mixed FOk_ 1 (S2_ok Kv) fun v ρ w => by kernel_rfl
@[reducible] def g4 : List SE := [.v 2 .bool, .v 3 .ptr, .v 10 (.fl .f64), .v 12 (.fl .f64), .v 13 (.fl .f64), .v 14 (.fl .f64), .v 15 (.fl .f64), .v 16 (.fl .f64)]
def S4 (K : KT) (rate_63 : Bool) (w_64 : Option Addr) (r_65 : Nat) (s_66 : Nat) (e_67 : Nat) (long_68 : Nat) (a_69 : Nat) (x_70 : Nat) (w : World) : Prop :=
  G.cond (G.flt s_66 x_70) (G.fa .add long_68 s_66 w fun f71 w72 => S3 K rate_63 w_64 r_65 e_67 long_68 a_69 x_70 f71 w72) (G.fa .quo a_69 4611686018427387904 w fun f73 w74 => G.fa .add long_68 f73 w74 fun f75 w76 => S3 K rate_63 w_64 r_65 e_67 long_68 a_69 x_70 f75 w76)
theorem S4_ok (Kv : Value → World → Prop) : OkT pr false none 150 g4 (S4 (Kt Kv)) (tl 4 (s2 (tl 4 bd))) (P1 Kv) := ok_group mixed FOk_ 2 (S3_ok Kv) fun v ρ w => by kernel_rfl
@[reducible] def g5 : List SE := [.v 1 .bool, .v 2 .bool, .v 3 .ptr, .v 7 (.int .i64), .v 8 .ptr, .v 9 .ptr, .v 10 (.fl .f64)]
def S5 (K : KT) (counter_77 : Bool) (rate_78 : Bool) (w_79 : Option Addr) (n_80 : Int) (first_81 : Option Addr) (last_82 : Option Addr) (r_83 : Nat) (w : World) : Prop :=
  G.ptr first_81 fun p84 => G.cI .i64 p84 w.drew fun n85 => G.ptr w_79 fun p86 => G.cI .i64 (p86.add 1) w.drew fun n87 => G.ptr w_79 fun p88 => G.cI .i64 (p88.add 2) w.drew fun n89 => G.ptr last_82 fun p90 => G.cI .i64 p90 w.drew fun n91 => G.ptr last_82 fun p92 => G.cI .i64 p92 w.drew fun n93 => G.ptr first_81 fun p94 => G.cI .i64 p94 w.drew fun n95 => C.over_seconds (IntKind.i64.wrap (n85 - n87)) w.drew fun f96 w97 => sameAt (p88.add 2) 1 w.drew w97 ∧ sameAt p90 1 w.drew w97 ∧ sameAt p92 1 w.drew w97 ∧ sameAt p94 1 w.drew w97 ∧ (C.over_seconds (IntKind.i64.wrap (n89 - n91)) w97 fun f98 w99 => sameAt p92 1 w.drew w99 ∧ sameAt p94 1 w.drew w99 ∧ (C.over_seconds (IntKind.i64.wrap (n93 - n95)) w99 fun f100 w101 => G.fa .quo f100 (FloatKind.f64.nearest (IntKind.i64.wrap (n_80 - (1 : Int)))) w101 fun f102 w103 => G.fa .mul f102 4607632778762754458 w103 fun f104 w105 => G.cond counter_77 (G.cond (G.fgt r_83 0) (G.ptr first_81 fun p106 => G.cF .f64 (p106.add 1) w105 fun f107 => G.cond (G.fge f107 0) (G.ptr first_81 fun p108 => G.cF .f64 (p108.add 1) w105 fun f109 => G.fa .quo f109 r_83 w105 fun f110 w111 => G.fa .mul f100 f110 w111 fun f112 w113 => G.cond (G.flt f112 f96) (S4 K rate_78 w_79 r_83 f112 f98 f100 f102 f104 w113) (S4 K rate_78 w_79 r_83 f96 f98 f100 f102 f104 w113)) (S4 K rate_78 w_79 r_83 f96 f98 f100 f102 f104 w105)) (S4 K rate_78 w_79 r_83 f96 f98 f100 f102 f104 w105)) (S4 K rate_78 w_79 r_83 f96 f98 f100 f102 f104 w105)))
theorem S5_ok (Kv : Value → World → Prop) : OkT pr false none 150 g5 (S5 (Kt Kv)) (s2 (tl 4 bd)) (P1 Kv) := ok_group mixed FOk_ 4 (S4_ok Kv) fun v ρ w => by kernel_rfl
def P6 (Kv : Value → World → Prop) : Post := next (get g5 (S5 (Kt Kv))) (P1 Kv)
def P7 (Kv : Value → World → Prop) : Post := inBlock 0 (P6 Kv)
@[reducible] def g8 : List SE := [.v 1 .bool, .v 2 .bool, .v 3 .ptr, .v 7 (.int .i64), .v 8 .ptr, .v 9 .ptr, .v 10 (.fl .f64), .v 11 (.int .i64)]
def P9 (Kv : Value → World → Prop) (kc8 : Cur g8) : Post := next (get g8 kc8) (P7 Kv)
def S10 (K : KT) (kc8 : Cur g8) (counter_130 : Bool) (rate_131 : Bool) (w_132 : Option Addr) (n_133 : Int) (first_134 : Option Addr) (last_135 : Option Addr) (r_136 : Nat) (i_137 : Int) (w : World) : Prop :=
  G.cond (decide (i_137 < n_133)) (G.cond counter_130 (G.ptr w_132 fun p138 => G.cSl p138 w.drew fun l139 => G.ix l139.a l139.n i_137 2 fun p140 => G.cF .f64 (p140.add 1) w.drew fun f141 => G.ptr w_132 fun p142 => G.cSl p142 w.drew fun l143 => G.ix l143.a l143.n (IntKind.i64.wrap (i_137 - (1 : Int))) 2 fun p144 => G.cF .f64 (p144.add 1) w.drew fun f145 => G.cond (G.flt f141 f145) (G.ptr w_132 fun p146 => G.cSl p146 w.drew fun l147 => G.ix l147.a l147.n (IntKind.i64.wrap (i_137 - (1 : Int))) 2 fun p148 => G.cF .f64 (p148.add 1) w.drew fun f149 => G.fa .add r_136 f149 w.drew fun f150 w151 => kc8 counter_130 rate_131 w_132 n_133 first_134 last_135 f150 (IntKind.i64.wrap (i_137 + (1 : Int))) w151) (kc8 counter_130 rate_131 w_132 n_133 first_134 last_135 r_136 (IntKind.i64.wrap (i_137 + (1 : Int))) w.drew)) (S5 K counter_130 rate_131 w_132 n_133 first_134 last_135 r_136 w)) (S5 K counter_130 rate_131 w_132 n_133 first_134 last_135 r_136 w)
theorem S10_ok (Kv : Value → World → Prop) (kc8 : Cur g8) : OkT pr false none 150 g8 (S10 (Kt Kv) kc8) (lp (blk (tl 1 (s1 (tl 4 bd))))) (P9 Kv kc8) := ok_last mixed FOk_ fun v ρ w => by kernel_rfl
def L8 (K : KT) : Cur g8 := loopC g8 (S10 K)
theorem L8_ok (Kv : Value → World → Prop) : OkT pr false none 150 g8 (L8 (Kt Kv)) (blk (tl 1 (s1 (tl 4 bd)))) (P7 Kv) := ok_loop (B := S10 (Kt Kv)) (by kernel_rfl) fun kc => S10_ok Kv kc
theorem L8_ind {K : KT} {counter_114 : Bool} {rate_115 : Bool} {w_116 : Option Addr} {n_117 : Int} {first_118 : Option Addr} {last_119 : Option Addr} {r_120 : Nat} {i_121 : Int} {w : World} (h : ∀ X : Cur g8, (∀ counter_114 rate_115 w_116 n_117 first_118 last_119 r_120 i_121 w, S10 K X counter_114 rate_115 w_116 n_117 first_118 last_119 r_120 i_121 w → X counter_114 rate_115 w_116 n_117 first_118 last_119 r_120 i_121 w) → X counter_114 rate_115 w_116 n_117 first_118 last_119 r_120 i_121 w) : L8 K counter_114 rate_115 w_116 n_117 first_118 last_119 r_120 i_121 w := fun X hX => h X fun counter_114 rate_115 w_116 n_117 first_118 last_119 r_120 i_121 w hb => hX (counter_114, rate_115, w_116, n_117, first_118, last_119, r_120, i_121, ()) w hb
theorem B11 (Kv : Value → World → Prop) : OkT pr false none 150 g8 (L8 (Kt Kv)) (tl 1 (s1 (tl 4 bd))) (P6 Kv) := ok_block 0 (by kernel_rfl) (L8_ok Kv)
def S12 (K : KT) (counter_152 : Bool) (rate_153 : Bool) (w_154 : Option Addr) (n_155 : Int) (first_156 : Option Addr) (last_157 : Option Addr) (r_158 : Nat) (w : World) : Prop :=
  L8 K counter_152 rate_153 w_154 n_155 first_156 last_157 r_158 (1 : Int) w
theorem S12_ok (Kv : Value → World → Prop) : OkT pr false none 150 g5 (S12 (Kt Kv)) (s1 (tl 4 bd)) (P6 Kv) := ok_group mixed FOk_ 1 (B11 Kv) fun v ρ w => by kernel_rfl
theorem Q13 (Kv : Value → World → Prop) : OkT pr false none 150 g5 (S12 (Kt Kv)) (tl 4 bd) (P1 Kv) := ok_seq (by kernel_rfl) (S5_ok Kv) (S12_ok Kv)
end over_window_slope
def over_window_slope (w_2 : Sl) (w_3 : Int) (w_4 : Int) (counter_5 : Bool) (rate_6 : Bool) (w : World) (K : over_window_slope.KT) : Prop :=
  G.new (.cells #[w_2.v, (.int .i64 w_3), (.int .i64 w_4)] 52) w fun p159 w160 => G.cSl p159 w160 fun l161 => G.cSl p159 w160.drew fun l162 => G.ix l162.a l162.n (0 : Int) 2 fun p163 => G.cI .i64 p163 w160.drew fun n164 => G.cF .f64 (p163.add 1) w160.drew fun f165 => G.cSl p159 w160.drew fun l166 => G.ix l166.a l166.n (IntKind.i64.wrap (((l161.n : Nat) : Int) - (1 : Int))) 2 fun p167 => G.cI .i64 p167 w160.drew fun n168 => G.cF .f64 (p167.add 1) w160.drew fun f169 => (G.new (.cells #[(.int .i64 (0 : Int)), (.float .f64 0)] 33) w160.drew fun p170 w171 => sameAt p159 1 w160.drew w171 ∧ sameAt p163 2 w160.drew w171 ∧ sameAt p159 1 w160.drew w171 ∧ sameAt p167 2 w160.drew w171 ∧ (G.new (.cells #[(.int .i64 (0 : Int)), (.float .f64 0)] 33) w171 fun p172 w173 => sameAt p159 1 w160.drew w173 ∧ sameAt p163 2 w160.drew w173 ∧ sameAt p159 1 w160.drew w173 ∧ sameAt p167 2 w160.drew w173 ∧ (G.st p170 (.int .i64 n164) w173 fun w174 => G.st (p170.add 1) (.float .f64 f165) w174 fun w175 => sameAt p159 1 w160.drew w175 ∧ sameAt p167 2 w160.drew w175 ∧ (G.st p172 (.int .i64 n168) w175 fun w176 => G.st (p172.add 1) (.float .f64 f169) w176 fun w177 => G.cF .f64 (p172.add 1) w177 fun f178 => G.cF .f64 (p170.add 1) w177 fun f179 => G.fa .sub f178 f179 w177 fun f180 w181 => over_window_slope.S12 K counter_5 rate_6 (some p159) ((l161.n : Nat) : Int) (some p170) (some p172) f180 w181)))) ∧ (G.new (.cells #[(.int .i64 (0 : Int)), (.float .f64 0)] 33) w160.drew fun p182 w183 => sameAt p159 1 w160.drew w183 ∧ sameAt p163 2 w160.drew w183 ∧ sameAt p159 1 w160.drew w183 ∧ sameAt p167 2 w160.drew w183 ∧ (G.new (.cells #[(.int .i64 (0 : Int)), (.float .f64 0)] 33) w183 fun p184 w185 => sameAt p159 1 w160.drew w185 ∧ sameAt p163 2 w160.drew w185 ∧ sameAt p159 1 w160.drew w185 ∧ sameAt p167 2 w160.drew w185 ∧ (G.st p184 (.int .i64 n164) w185 fun w186 => G.st (p184.add 1) (.float .f64 f165) w186 fun w187 => sameAt p159 1 w160.drew w187 ∧ sameAt p167 2 w160.drew w187 ∧ (G.st p182 (.int .i64 n168) w187 fun w188 => G.st (p182.add 1) (.float .f64 f169) w188 fun w189 => G.cF .f64 (p182.add 1) w189 fun f190 => G.cF .f64 (p184.add 1) w189 fun f191 => G.fa .sub f190 f191 w189 fun f192 w193 => over_window_slope.S12 K counter_5 rate_6 (some p159) ((l161.n : Nat) : Int) (some p184) (some p182) f192 w193))))
def over_window_slope.cl : CL := fun args K w => match args with
  | [.agg ⟨[.slice x0_0_a x0_0_n x0_0_c, .int .i64 x0_1, .int .i64 x0_2]⟩, .bool x1, .bool x2] => C.over_window_slope ⟨x0_0_a, x0_0_n, x0_0_c⟩ x0_1 x0_2 x1 x2 w (over_window_slope.Kt K)
  | _ => False
theorem over_window_slope.clok : OkC pr 52 over_window_slope.cl := by
  intro args K w h
  unfold over_window_slope.cl at h
  split at h
  · exact calls_group false mixed over_window_slope.FOk_ over_window_slope.fn rfl 4 (over_window_slope.Q13 K) (Eq.mp (by kernel_rfl) h)
  · exact h.elim

/-! tocsin/over.table$3 -/
namespace over_table_3
abbrev KT := Nat → World → Prop
def Kt (Kv : Value → World → Prop) : KT := fun f1 w => Kv (.float .f64 f1) w
noncomputable def bd : Code := bdy Try.f51
theorem fn : FnOk pr 51 5 Try.f51 := ⟨Try.func51, by kernel_rfl, Try.ntmps51, by kernel_rfl, by kernel_rfl⟩
def F : Clee := ofL [(52, C.over_window_slope.cl)]
theorem FOk_ : FOk pr F := FOk_cons C.over_window_slope.clok (FOk_nil)
def P1 (Kv : Value → World → Prop) : Post := bodyK false pr 5 Try.f51 Kv
end over_table_3
def over_table_3 (w_2 : Sl) (w_3 : Int) (w_4 : Int) (w : World) (K : over_table_3.KT) : Prop :=
  G.new (.cells #[w_2.v, (.int .i64 w_3), (.int .i64 w_4)] 52) w fun p5 w6 => G.cSl p5 w6 fun l7 => G.cI .i64 (p5.add 1) w6 fun n8 => G.cI .i64 (p5.add 2) w6 fun n9 => C.over_window_slope l7 n8 n9 false false w6 fun f10 w11 => K f10 w11
def over_table_3.cl : CL := fun args K w => match args with
  | [.agg ⟨[.slice x0_0_a x0_0_n x0_0_c, .int .i64 x0_1, .int .i64 x0_2]⟩] => C.over_table_3 ⟨x0_0_a, x0_0_n, x0_0_c⟩ x0_1 x0_2 w (over_table_3.Kt K)
  | _ => False
theorem over_table_3.clok : OkC pr 51 over_table_3.cl := by
  intro args K w h
  unfold over_table_3.cl at h
  split at h
  · exact calls_last false mixed over_table_3.FOk_ over_table_3.fn rfl (Eq.mp (by kernel_rfl) h)
  · exact h.elim

/-! (tocsin/over.window).last -/
namespace over_window_last
abbrev KT := Nat → World → Prop
def Kt (Kv : Value → World → Prop) : KT := fun f1 w => Kv (.float .f64 f1) w
noncomputable def bd : Code := bdy Try.f54
theorem fn : FnOk pr 54 47 Try.f54 := ⟨Try.func54, by kernel_rfl, Try.ntmps54, by kernel_rfl, by kernel_rfl⟩
def F : Clee := ofL [(74, C.over_seconds.cl)]
theorem FOk_ : FOk pr F := FOk_cons C.over_seconds.clok (FOk_nil)
def P1 (Kv : Value → World → Prop) : Post := bodyK false pr 47 Try.f54 Kv
@[reducible] def g2 : List SE := [.v 6 .ptr, .v 7 .ptr, .v 8 (.fl .f64)]
def S2 (K : KT) (a_13 : Option Addr) (b_14 : Option Addr) (d_15 : Nat) (w : World) : Prop :=
  G.ptr b_14 fun p16 => G.cI .i64 p16 w fun n17 => G.ptr a_13 fun p18 => G.cI .i64 p18 w fun n19 => C.over_seconds (IntKind.i64.wrap (n17 - n19)) w fun f20 w21 => G.fa .quo d_15 f20 w21 fun f22 w23 => K f22 w23
theorem S2_ok (Kv : Value → World → Prop) : OkT pr false none 47 g2 (S2 (Kt Kv)) (tl 1 (tl 5 bd)) (P1 Kv) := ok_last mixed FOk_ fun v ρ w => by kernel_rfl
def S3 (K : KT) (a_24 : Option Addr) (b_25 : Option Addr) (d_26 : Nat) (w : World) : Prop :=
  G.ptr b_25 fun p27 => G.cF .f64 (p27.add 1) w fun f28 => G.ptr a_24 fun p29 => G.cF .f64 (p29.add 1) w fun f30 => G.cond (G.flt f28 f30) (G.ptr b_25 fun p31 => G.cF .f64 (p31.add 1) w fun f32 => S2 K a_24 b_25 f32 w) (S2 K a_24 b_25 d_26 w)
theorem S3_ok (Kv : Value → World → Prop) : OkT pr false none 47 g2 (S3 (Kt Kv)) (tl 5 bd) (P1 Kv) := ok_group mixed FOk_ 1 (S2_ok Kv) fun v ρ w => by kernel_rfl
end over_window_last
def over_window_last (w_2 : Sl) (w_3 : Int) (w_4 : Int) (rate_5 : Bool) (w : World) (K : over_window_last.KT) : Prop :=
  G.new (.cells #[w_2.v, (.int .i64 w_3), (.int .i64 w_4)] 52) w fun p33 w34 => G.cSl p33 w34 fun l35 => G.cSl p33 w34.drew fun l36 => G.ix l36.a l36.n (IntKind.i64.wrap (((l35.n : Nat) : Int) - (2 : Int))) 2 fun p37 => G.cI .i64 p37 w34.drew fun n38 => G.cF .f64 (p37.add 1) w34.drew fun f39 => G.cSl p33 w34.drew fun l40 => G.ix l40.a l40.n (IntKind.i64.wrap (((l35.n : Nat) : Int) - (1 : Int))) 2 fun p41 => G.cI .i64 p41 w34.drew fun n42 => G.cF .f64 (p41.add 1) w34.drew fun f43 => (G.new (.cells #[(.int .i64 (0 : Int)), (.float .f64 0)] 33) w34.drew fun p44 w45 => sameAt p33 1 w34.drew w45 ∧ sameAt p37 2 w34.drew w45 ∧ sameAt p33 1 w34.drew w45 ∧ sameAt p41 2 w34.drew w45 ∧ (G.new (.cells #[(.int .i64 (0 : Int)), (.float .f64 0)] 33) w45 fun p46 w47 => sameAt p33 1 w34.drew w47 ∧ sameAt p37 2 w34.drew w47 ∧ sameAt p33 1 w34.drew w47 ∧ sameAt p41 2 w34.drew w47 ∧ (G.st p44 (.int .i64 n38) w47 fun w48 => G.st (p44.add 1) (.float .f64 f39) w48 fun w49 => sameAt p33 1 w34.drew w49 ∧ sameAt p41 2 w34.drew w49 ∧ (G.st p46 (.int .i64 n42) w49 fun w50 => G.st (p46.add 1) (.float .f64 f43) w50 fun w51 => G.cF .f64 (p46.add 1) w51 fun f52 => G.cF .f64 (p44.add 1) w51 fun f53 => G.fa .sub f52 f53 w51 fun f54 w55 => G.cond (!rate_5) (K f54 w55) (over_window_last.S3 K (some p44) (some p46) f54 w55))))) ∧ (G.new (.cells #[(.int .i64 (0 : Int)), (.float .f64 0)] 33) w34.drew fun p56 w57 => sameAt p33 1 w34.drew w57 ∧ sameAt p37 2 w34.drew w57 ∧ sameAt p33 1 w34.drew w57 ∧ sameAt p41 2 w34.drew w57 ∧ (G.new (.cells #[(.int .i64 (0 : Int)), (.float .f64 0)] 33) w57 fun p58 w59 => sameAt p33 1 w34.drew w59 ∧ sameAt p37 2 w34.drew w59 ∧ sameAt p33 1 w34.drew w59 ∧ sameAt p41 2 w34.drew w59 ∧ (G.st p58 (.int .i64 n38) w59 fun w60 => G.st (p58.add 1) (.float .f64 f39) w60 fun w61 => sameAt p33 1 w34.drew w61 ∧ sameAt p41 2 w34.drew w61 ∧ (G.st p56 (.int .i64 n42) w61 fun w62 => G.st (p56.add 1) (.float .f64 f43) w62 fun w63 => G.cF .f64 (p56.add 1) w63 fun f64 => G.cF .f64 (p58.add 1) w63 fun f65 => G.fa .sub f64 f65 w63 fun f66 w67 => G.cond (!rate_5) (K f66 w67) (over_window_last.S3 K (some p58) (some p56) f66 w67)))))
def over_window_last.cl : CL := fun args K w => match args with
  | [.agg ⟨[.slice x0_0_a x0_0_n x0_0_c, .int .i64 x0_1, .int .i64 x0_2]⟩, .bool x1] => C.over_window_last ⟨x0_0_a, x0_0_n, x0_0_c⟩ x0_1 x0_2 x1 w (over_window_last.Kt K)
  | _ => False
theorem over_window_last.clok : OkC pr 54 over_window_last.cl := by
  intro args K w h
  unfold over_window_last.cl at h
  split at h
  · exact calls_group false mixed over_window_last.FOk_ over_window_last.fn rfl 5 (over_window_last.S3_ok K) (Eq.mp (by kernel_rfl) h)
  · exact h.elim

/-! tocsin/over.table$4 -/
namespace over_table_4
abbrev KT := Nat → World → Prop
def Kt (Kv : Value → World → Prop) : KT := fun f1 w => Kv (.float .f64 f1) w
noncomputable def bd : Code := bdy Try.f53
theorem fn : FnOk pr 53 5 Try.f53 := ⟨Try.func53, by kernel_rfl, Try.ntmps53, by kernel_rfl, by kernel_rfl⟩
def F : Clee := ofL [(54, C.over_window_last.cl)]
theorem FOk_ : FOk pr F := FOk_cons C.over_window_last.clok (FOk_nil)
def P1 (Kv : Value → World → Prop) : Post := bodyK false pr 5 Try.f53 Kv
end over_table_4
def over_table_4 (w_2 : Sl) (w_3 : Int) (w_4 : Int) (w : World) (K : over_table_4.KT) : Prop :=
  G.new (.cells #[w_2.v, (.int .i64 w_3), (.int .i64 w_4)] 52) w fun p5 w6 => G.cSl p5 w6 fun l7 => G.cI .i64 (p5.add 1) w6 fun n8 => G.cI .i64 (p5.add 2) w6 fun n9 => C.over_window_last l7 n8 n9 false w6 fun f10 w11 => K f10 w11
def over_table_4.cl : CL := fun args K w => match args with
  | [.agg ⟨[.slice x0_0_a x0_0_n x0_0_c, .int .i64 x0_1, .int .i64 x0_2]⟩] => C.over_table_4 ⟨x0_0_a, x0_0_n, x0_0_c⟩ x0_1 x0_2 w (over_table_4.Kt K)
  | _ => False
theorem over_table_4.clok : OkC pr 53 over_table_4.cl := by
  intro args K w h
  unfold over_table_4.cl at h
  split at h
  · exact calls_last false mixed over_table_4.FOk_ over_table_4.fn rfl (Eq.mp (by kernel_rfl) h)
  · exact h.elim

/-! tocsin/over.table$5 -/
namespace over_table_5
abbrev KT := Nat → World → Prop
def Kt (Kv : Value → World → Prop) : KT := fun f1 w => Kv (.float .f64 f1) w
noncomputable def bd : Code := bdy Try.f55
theorem fn : FnOk pr 55 5 Try.f55 := ⟨Try.func55, by kernel_rfl, Try.ntmps55, by kernel_rfl, by kernel_rfl⟩
def F : Clee := ofL [(52, C.over_window_slope.cl)]
theorem FOk_ : FOk pr F := FOk_cons C.over_window_slope.clok (FOk_nil)
def P1 (Kv : Value → World → Prop) : Post := bodyK false pr 5 Try.f55 Kv
end over_table_5
def over_table_5 (w_2 : Sl) (w_3 : Int) (w_4 : Int) (w : World) (K : over_table_5.KT) : Prop :=
  G.new (.cells #[w_2.v, (.int .i64 w_3), (.int .i64 w_4)] 52) w fun p5 w6 => G.cSl p5 w6 fun l7 => G.cI .i64 (p5.add 1) w6 fun n8 => G.cI .i64 (p5.add 2) w6 fun n9 => C.over_window_slope l7 n8 n9 true false w6 fun f10 w11 => K f10 w11
def over_table_5.cl : CL := fun args K w => match args with
  | [.agg ⟨[.slice x0_0_a x0_0_n x0_0_c, .int .i64 x0_1, .int .i64 x0_2]⟩] => C.over_table_5 ⟨x0_0_a, x0_0_n, x0_0_c⟩ x0_1 x0_2 w (over_table_5.Kt K)
  | _ => False
theorem over_table_5.clok : OkC pr 55 over_table_5.cl := by
  intro args K w h
  unfold over_table_5.cl at h
  split at h
  · exact calls_last false mixed over_table_5.FOk_ over_table_5.fn rfl (Eq.mp (by kernel_rfl) h)
  · exact h.elim

/-! tocsin/over.table$6 -/
namespace over_table_6
abbrev KT := Nat → World → Prop
def Kt (Kv : Value → World → Prop) : KT := fun f1 w => Kv (.float .f64 f1) w
noncomputable def bd : Code := bdy Try.f56
theorem fn : FnOk pr 56 5 Try.f56 := ⟨Try.func56, by kernel_rfl, Try.ntmps56, by kernel_rfl, by kernel_rfl⟩
def F : Clee := ofL [(54, C.over_window_last.cl)]
theorem FOk_ : FOk pr F := FOk_cons C.over_window_last.clok (FOk_nil)
def P1 (Kv : Value → World → Prop) : Post := bodyK false pr 5 Try.f56 Kv
end over_table_6
def over_table_6 (w_2 : Sl) (w_3 : Int) (w_4 : Int) (w : World) (K : over_table_6.KT) : Prop :=
  G.new (.cells #[w_2.v, (.int .i64 w_3), (.int .i64 w_4)] 52) w fun p5 w6 => G.cSl p5 w6 fun l7 => G.cI .i64 (p5.add 1) w6 fun n8 => G.cI .i64 (p5.add 2) w6 fun n9 => C.over_window_last l7 n8 n9 true w6 fun f10 w11 => K f10 w11
def over_table_6.cl : CL := fun args K w => match args with
  | [.agg ⟨[.slice x0_0_a x0_0_n x0_0_c, .int .i64 x0_1, .int .i64 x0_2]⟩] => C.over_table_6 ⟨x0_0_a, x0_0_n, x0_0_c⟩ x0_1 x0_2 w (over_table_6.Kt K)
  | _ => False
theorem over_table_6.clok : OkC pr 56 over_table_6.cl := by
  intro args K w h
  unfold over_table_6.cl at h
  split at h
  · exact calls_last false mixed over_table_6.FOk_ over_table_6.fn rfl (Eq.mp (by kernel_rfl) h)
  · exact h.elim

/-! tocsin/over.table$11 -/
namespace over_table_11
abbrev KT := Nat → World → Prop
def Kt (Kv : Value → World → Prop) : KT := fun f1 w => Kv (.float .f64 f1) w
noncomputable def bd : Code := bdy Try.f64
theorem fn : FnOk pr 64 5 Try.f64 := ⟨Try.func64, by kernel_rfl, Try.ntmps64, by kernel_rfl, by kernel_rfl⟩
def F : Clee := ofL [(52, C.over_window_slope.cl)]
theorem FOk_ : FOk pr F := FOk_cons C.over_window_slope.clok (FOk_nil)
def P1 (Kv : Value → World → Prop) : Post := bodyK false pr 5 Try.f64 Kv
end over_table_11
def over_table_11 (w_2 : Sl) (w_3 : Int) (w_4 : Int) (w : World) (K : over_table_11.KT) : Prop :=
  G.new (.cells #[w_2.v, (.int .i64 w_3), (.int .i64 w_4)] 52) w fun p5 w6 => G.cSl p5 w6 fun l7 => G.cI .i64 (p5.add 1) w6 fun n8 => G.cI .i64 (p5.add 2) w6 fun n9 => C.over_window_slope l7 n8 n9 true true w6 fun f10 w11 => K f10 w11
def over_table_11.cl : CL := fun args K w => match args with
  | [.agg ⟨[.slice x0_0_a x0_0_n x0_0_c, .int .i64 x0_1, .int .i64 x0_2]⟩] => C.over_table_11 ⟨x0_0_a, x0_0_n, x0_0_c⟩ x0_1 x0_2 w (over_table_11.Kt K)
  | _ => False
theorem over_table_11.clok : OkC pr 64 over_table_11.cl := by
  intro args K w h
  unfold over_table_11.cl at h
  split at h
  · exact calls_last false mixed over_table_11.FOk_ over_table_11.fn rfl (Eq.mp (by kernel_rfl) h)
  · exact h.elim

/-! math.Float64bits: the model's own -/
abbrev math_Float64bits.KT := Int → World → Prop
def math_Float64bits.Kt (Kv : Value → World → Prop) : math_Float64bits.KT := fun r0 w => Kv (.int .u64 r0) w
def math_Float64bits (x0 : Nat) (w : World) (K : math_Float64bits.KT) : Prop := K (x0 : Int) w
def math_Float64bits.cl : CL := fun args K w => match args with
  | [.float .f64 x0] => C.math_Float64bits x0 w (math_Float64bits.Kt K)
  | _ => False
theorem math_Float64bits.clok : OkX pr 22 math_Float64bits.cl := by
  intro args K w h
  unfold math_Float64bits.cl at h
  split at h
  · exact ⟨_, w, by kernel_rfl, h⟩
  · exact h.elim

/-! math.Signbit -/
namespace math_Signbit
abbrev KT := Bool → World → Prop
def Kt (Kv : Value → World → Prop) : KT := fun b1 w => Kv (.bool b1) w
noncomputable def bd : Code := bdy Try.f28
theorem fn : FnOk pr 28 7 Try.f28 := ⟨Try.func28, by kernel_rfl, Try.ntmps28, by kernel_rfl, by kernel_rfl⟩
def F : Clee := ofL [(22, C.math_Float64bits.cl)]
theorem FOk_ : FOk pr F := FOk_consX C.math_Float64bits.clok (FOk_nil)
def P1 (Kv : Value → World → Prop) : Post := bodyK false pr 7 Try.f28 Kv
end math_Signbit
def math_Signbit (x_2 : Nat) (w : World) (K : math_Signbit.KT) : Prop :=
  C.math_Float64bits x_2 w fun n3 w4 => K (decide ((IntKind.i64.wrap n3) < (0 : Int))) w4
def math_Signbit.cl : CL := fun args K w => match args with
  | [.float .f64 x0] => C.math_Signbit x0 w (math_Signbit.Kt K)
  | _ => False
theorem math_Signbit.clok : OkC pr 28 math_Signbit.cl := by
  intro args K w h
  unfold math_Signbit.cl at h
  split at h
  · exact calls_last false mixed math_Signbit.FOk_ math_Signbit.fn rfl (Eq.mp (by kernel_rfl) h)
  · exact h.elim

/-! tocsin/over.ahead -/
namespace over_ahead
abbrev KT := Bool → World → Prop
def Kt (Kv : Value → World → Prop) : KT := fun b1 w => Kv (.bool b1) w
noncomputable def bd : Code := bdy Try.f20
theorem fn : FnOk pr 20 39 Try.f20 := ⟨Try.func20, by kernel_rfl, Try.ntmps20, by kernel_rfl, by kernel_rfl⟩
def F : Clee := ofL [(28, C.math_Signbit.cl)]
theorem FOk_ : FOk pr F := FOk_cons C.math_Signbit.clok (FOk_nil)
def P1 (Kv : Value → World → Prop) : Post := bodyK false pr 39 Try.f20 Kv
end over_ahead
def over_ahead (a_2 : Nat) (b_3 : Nat) (w : World) (K : over_ahead.KT) : Prop :=
  G.cond (G.fne a_2 a_2) (G.cond (G.fne a_2 a_2) (K (G.feq b_3 b_3) w) (K false w)) (G.cond (G.fne b_3 b_3) (G.cond (G.fne a_2 a_2) (K (G.feq b_3 b_3) w) (K false w)) (G.cond (G.feq a_2 0) (G.cond (G.feq b_3 0) (C.math_Signbit a_2 w fun b4 w5 => G.cond b4 (C.math_Signbit b_3 w5 fun b6 w7 => K (!b6) w7) (K false w5)) (K (G.flt a_2 b_3) w)) (K (G.flt a_2 b_3) w)))
def over_ahead.cl : CL := fun args K w => match args with
  | [.float .f64 x0, .float .f64 x1] => C.over_ahead x0 x1 w (over_ahead.Kt K)
  | _ => False
theorem over_ahead.clok : OkC pr 20 over_ahead.cl := by
  intro args K w h
  unfold over_ahead.cl at h
  split at h
  · exact calls_last false mixed over_ahead.FOk_ over_ahead.fn rfl (Eq.mp (by kernel_rfl) h)
  · exact h.elim

/-! tocsin/over.Quantile$1 -/
namespace over_Quantile_1
abbrev KT := Int → World → Prop
def Kt (Kv : Value → World → Prop) : KT := fun n1 w => Kv (.int .i64 n1) w
noncomputable def bd : Code := bdy Try.f19
theorem fn : FnOk pr 19 13 Try.f19 := ⟨Try.func19, by kernel_rfl, Try.ntmps19, by kernel_rfl, by kernel_rfl⟩
def F : Clee := ofL [(20, C.over_ahead.cl)]
theorem FOk_ : FOk pr F := FOk_cons C.over_ahead.clok (FOk_nil)
def P1 (Kv : Value → World → Prop) : Post := bodyK false pr 13 Try.f19 Kv
end over_Quantile_1
def over_Quantile_1 (a_2 : Nat) (b_3 : Nat) (w : World) (K : over_Quantile_1.KT) : Prop :=
  C.over_ahead a_2 b_3 w fun b4 w5 => G.cond b4 (K (-1 : Int) w5) (C.over_ahead b_3 a_2 w5 fun b6 w7 => G.cond b6 (K (1 : Int) w7) (K (0 : Int) w7))
def over_Quantile_1.cl : CL := fun args K w => match args with
  | [.float .f64 x0, .float .f64 x1] => C.over_Quantile_1 x0 x1 w (over_Quantile_1.Kt K)
  | _ => False
theorem over_Quantile_1.clok : OkC pr 19 over_Quantile_1.cl := by
  intro args K w h
  unfold over_Quantile_1.cl at h
  split at h
  · exact calls_last false mixed over_Quantile_1.FOk_ over_Quantile_1.fn rfl (Eq.mp (by kernel_rfl) h)
  · exact h.elim

/-! (tocsin/over.window).best -/
namespace over_window_best
abbrev KT := Nat → World → Prop
def Kt (Kv : Value → World → Prop) : KT := fun f1 w => Kv (.float .f64 f1) w
noncomputable def bd : Code := bdy Try.f59
theorem fn : FnOk pr 59 35 Try.f59 := ⟨Try.func59, by kernel_rfl, Try.ntmps59, by kernel_rfl, by kernel_rfl⟩
def F : Clee := ofL [(19, C.over_Quantile_1.cl), (47, C.over_table_1.cl), (48, C.over_window_sum.cl), (49, C.over_window_changes.cl), (50, C.over_table_2.cl), (51, C.over_table_3.cl), (53, C.over_table_4.cl), (55, C.over_table_5.cl), (56, C.over_table_6.cl), (57, C.over_table_7.cl), (60, C.over_table_8_1.cl), (62, C.over_table_9_1.cl), (63, C.over_table_10.cl), (64, C.over_table_11.cl), (65, C.over_window_resets.cl)]
theorem FOk_ : FOk pr F := FOk_cons C.over_Quantile_1.clok (FOk_cons C.over_table_1.clok (FOk_cons C.over_window_sum.clok (FOk_cons C.over_window_changes.clok (FOk_cons C.over_table_2.clok (FOk_cons C.over_table_3.clok (FOk_cons C.over_table_4.clok (FOk_cons C.over_table_5.clok (FOk_cons C.over_table_6.clok (FOk_cons C.over_table_7.clok (FOk_cons C.over_table_8_1.clok (FOk_cons C.over_table_9_1.clok (FOk_cons C.over_table_10.clok (FOk_cons C.over_table_11.clok (FOk_cons C.over_window_resets.clok (FOk_nil)))))))))))))))
def P1 (Kv : Value → World → Prop) : Post := bodyK false pr 35 Try.f59 Kv
@[reducible] def g2 : List SE := [.v 5 (.fl .f64)]
def S2 (K : KT) (m_6 : Nat) (w : World) : Prop :=
  K m_6 w
theorem S2_ok (Kv : Value → World → Prop) : OkT pr false none 35 g2 (S2 (Kt Kv)) (s2 (tl 2 bd)) (P1 Kv) := ok_last mixed FOk_ fun v ρ w => by kernel_rfl
def P3 (Kv : Value → World → Prop) : Post := next (get g2 (S2 (Kt Kv))) (P1 Kv)
def P4 (Kv : Value → World → Prop) : Post := inBlock 0 (P3 Kv)
@[reducible] def g5 : List SE := [.v 1 (.raw), .v 5 (.fl .f64), .v 15 .sl, .v 16 (.int .i64), .v 17 (.int .i64)]
def P6 (Kv : Value → World → Prop) (kc5 : Cur g5) : Post := next (get g5 kc5) (P4 Kv)
def S7 (K : KT) (kc5 : Cur g5) (above_17 : Value) (m_18 : Nat) (l19 : Sl) (n20 : Int) (n21 : Int) (w : World) : Prop :=
  G.cond (decide (n21 < n20)) (G.ix l19.a l19.n n21 2 fun p22 => G.cI .i64 p22 w fun n23 => G.cF .f64 (p22.add 1) w fun f24 => G.new (.cells #[(.int .i64 (0 : Int)), (.float .f64 0)] 33) w fun p25 w26 => G.st p25 (.int .i64 n23) w26 fun w27 => G.st (p25.add 1) (.float .f64 f24) w27 fun w28 => G.cond (G.fne m_18 m_18) (G.cF .f64 (p25.add 1) w28 fun f29 => kc5 above_17 f29 l19 n20 (IntKind.i64.wrap (n21 + (1 : Int))) w28) (G.cF .f64 (p25.add 1) w28 fun f30 => G.callV pr F above_17 [(.float .f64 f30), (.float .f64 m_18)] w28 fun v31 w32 => G.isB v31 fun b33 => G.cond b33 (G.cF .f64 (p25.add 1) w32 fun f34 => kc5 above_17 f34 l19 n20 (IntKind.i64.wrap (n21 + (1 : Int))) w32) (kc5 above_17 m_18 l19 n20 (IntKind.i64.wrap (n21 + (1 : Int))) w32))) (S2 K m_18 w)
theorem S7_ok (Kv : Value → World → Prop) (kc5 : Cur g5) : OkT pr false none 35 g5 (S7 (Kt Kv) kc5) (lp (blk (tl 1 (s1 (tl 2 bd))))) (P6 Kv kc5) := ok_last mixed FOk_ fun v ρ w => by kernel_rfl
def L5 (K : KT) : Cur g5 := loopC g5 (S7 K)
theorem L5_ok (Kv : Value → World → Prop) : OkT pr false none 35 g5 (L5 (Kt Kv)) (blk (tl 1 (s1 (tl 2 bd)))) (P4 Kv) := ok_loop (B := S7 (Kt Kv)) (by kernel_rfl) fun kc => S7_ok Kv kc
theorem L5_ind {K : KT} {above_7 : Value} {m_8 : Nat} {l9 : Sl} {n10 : Int} {n11 : Int} {w : World} (h : ∀ X : Cur g5, (∀ above_7 m_8 l9 n10 n11 w, S7 K X above_7 m_8 l9 n10 n11 w → X above_7 m_8 l9 n10 n11 w) → X above_7 m_8 l9 n10 n11 w) : L5 K above_7 m_8 l9 n10 n11 w := fun X hX => h X fun above_7 m_8 l9 n10 n11 w hb => hX (above_7, m_8, l9, n10, n11, ()) w hb
theorem B8 (Kv : Value → World → Prop) : OkT pr false none 35 g5 (L5 (Kt Kv)) (tl 1 (s1 (tl 2 bd))) (P3 Kv) := ok_block 0 (by kernel_rfl) (L5_ok Kv)
@[reducible] def g9 : List SE := [.v 1 (.raw), .v 2 .ptr, .v 5 (.fl .f64)]
def S9 (K : KT) (above_35 : Value) (w_36 : Option Addr) (m_37 : Nat) (w : World) : Prop :=
  G.ptr w_36 fun p38 => G.cSl p38 w fun l39 => G.slc l39 (1 : Int) ((l39.n : Nat) : Int) 2 fun l40 => L5 K above_35 m_37 l40 ((l40.n : Nat) : Int) (0 : Int) w
theorem S9_ok (Kv : Value → World → Prop) : OkT pr false none 35 g9 (S9 (Kt Kv)) (s1 (tl 2 bd)) (P3 Kv) := ok_group mixed FOk_ 1 (B8 Kv) fun v ρ w => by kernel_rfl
theorem Q10 (Kv : Value → World → Prop) : OkT pr false none 35 g9 (S9 (Kt Kv)) (tl 2 bd) (P1 Kv) := ok_seq (by kernel_rfl) (S2_ok Kv) (S9_ok Kv)
end over_window_best
def over_window_best (w_2 : Sl) (w_3 : Int) (w_4 : Int) (above_5 : Value) (w : World) (K : over_window_best.KT) : Prop :=
  G.new (.cells #[w_2.v, (.int .i64 w_3), (.int .i64 w_4)] 52) w fun p41 w42 => G.cSl p41 w42 fun l43 => G.ix l43.a l43.n (0 : Int) 2 fun p44 => G.cF .f64 (p44.add 1) w42 fun f45 => over_window_best.S9 K above_5 (some p41) f45 w42
def over_window_best.cl : CL := fun args K w => match args with
  | [.agg ⟨[.slice x0_0_a x0_0_n x0_0_c, .int .i64 x0_1, .int .i64 x0_2]⟩, x1] => C.over_window_best ⟨x0_0_a, x0_0_n, x0_0_c⟩ x0_1 x0_2 x1 w (over_window_best.Kt K)
  | _ => False
theorem over_window_best.clok : OkC pr 59 over_window_best.cl := by
  intro args K w h
  unfold over_window_best.cl at h
  split at h
  · exact calls_group false mixed over_window_best.FOk_ over_window_best.fn rfl 2 (over_window_best.Q10 K) (Eq.mp (by kernel_rfl) h)
  · exact h.elim

/-! tocsin/over.table$8 -/
namespace over_table_8
abbrev KT := Nat → World → Prop
def Kt (Kv : Value → World → Prop) : KT := fun f1 w => Kv (.float .f64 f1) w
noncomputable def bd : Code := bdy Try.f58
theorem fn : FnOk pr 58 5 Try.f58 := ⟨Try.func58, by kernel_rfl, Try.ntmps58, by kernel_rfl, by kernel_rfl⟩
def F : Clee := ofL [(59, C.over_window_best.cl)]
theorem FOk_ : FOk pr F := FOk_cons C.over_window_best.clok (FOk_nil)
def P1 (Kv : Value → World → Prop) : Post := bodyK false pr 5 Try.f58 Kv
end over_table_8
def over_table_8 (w_2 : Sl) (w_3 : Int) (w_4 : Int) (w : World) (K : over_table_8.KT) : Prop :=
  G.new (.cells #[w_2.v, (.int .i64 w_3), (.int .i64 w_4)] 52) w fun p5 w6 => G.cSl p5 w6 fun l7 => G.cI .i64 (p5.add 1) w6 fun n8 => G.cI .i64 (p5.add 2) w6 fun n9 => C.over_window_best l7 n8 n9 (Value.func (.func 60) #[] #[]) w6 fun f10 w11 => K f10 w11
def over_table_8.cl : CL := fun args K w => match args with
  | [.agg ⟨[.slice x0_0_a x0_0_n x0_0_c, .int .i64 x0_1, .int .i64 x0_2]⟩] => C.over_table_8 ⟨x0_0_a, x0_0_n, x0_0_c⟩ x0_1 x0_2 w (over_table_8.Kt K)
  | _ => False
theorem over_table_8.clok : OkC pr 58 over_table_8.cl := by
  intro args K w h
  unfold over_table_8.cl at h
  split at h
  · exact calls_last false mixed over_table_8.FOk_ over_table_8.fn rfl (Eq.mp (by kernel_rfl) h)
  · exact h.elim

/-! tocsin/over.table$9 -/
namespace over_table_9
abbrev KT := Nat → World → Prop
def Kt (Kv : Value → World → Prop) : KT := fun f1 w => Kv (.float .f64 f1) w
noncomputable def bd : Code := bdy Try.f61
theorem fn : FnOk pr 61 5 Try.f61 := ⟨Try.func61, by kernel_rfl, Try.ntmps61, by kernel_rfl, by kernel_rfl⟩
def F : Clee := ofL [(59, C.over_window_best.cl)]
theorem FOk_ : FOk pr F := FOk_cons C.over_window_best.clok (FOk_nil)
def P1 (Kv : Value → World → Prop) : Post := bodyK false pr 5 Try.f61 Kv
end over_table_9
def over_table_9 (w_2 : Sl) (w_3 : Int) (w_4 : Int) (w : World) (K : over_table_9.KT) : Prop :=
  G.new (.cells #[w_2.v, (.int .i64 w_3), (.int .i64 w_4)] 52) w fun p5 w6 => G.cSl p5 w6 fun l7 => G.cI .i64 (p5.add 1) w6 fun n8 => G.cI .i64 (p5.add 2) w6 fun n9 => C.over_window_best l7 n8 n9 (Value.func (.func 62) #[] #[]) w6 fun f10 w11 => K f10 w11
def over_table_9.cl : CL := fun args K w => match args with
  | [.agg ⟨[.slice x0_0_a x0_0_n x0_0_c, .int .i64 x0_1, .int .i64 x0_2]⟩] => C.over_table_9 ⟨x0_0_a, x0_0_n, x0_0_c⟩ x0_1 x0_2 w (over_table_9.Kt K)
  | _ => False
theorem over_table_9.clok : OkC pr 61 over_table_9.cl := by
  intro args K w h
  unfold over_table_9.cl at h
  split at h
  · exact calls_last false mixed over_table_9.FOk_ over_table_9.fn rfl (Eq.mp (by kernel_rfl) h)
  · exact h.elim

/-! (tocsin/over.quantile).least -/
namespace over_quantile_least
abbrev KT := Int → World → Prop
def Kt (Kv : Value → World → Prop) : KT := fun n1 w => Kv (.int .i64 n1) w
noncomputable def bd : Code := bdy Try.f93
theorem fn : FnOk pr 93 3 Try.f93 := ⟨Try.func93, by kernel_rfl, Try.ntmps93, by kernel_rfl, by kernel_rfl⟩
def F : Clee := ofL []
theorem FOk_ : FOk pr F := FOk_nil
def P1 (Kv : Value → World → Prop) : Post := bodyK false pr 3 Try.f93 Kv
end over_quantile_least
def over_quantile_least (p_2 : Nat) (w : World) (K : over_quantile_least.KT) : Prop :=
  G.new (.cells #[(.float .f64 p_2)] 60) w fun p3 w4 => K (1 : Int) w4
def over_quantile_least.cl : CL := fun args K w => match args with
  | [.agg ⟨[.float .f64 x0_0]⟩] => C.over_quantile_least x0_0 w (over_quantile_least.Kt K)
  | _ => False
theorem over_quantile_least.clok : OkC pr 93 over_quantile_least.cl := by
  intro args K w h
  unfold over_quantile_least.cl at h
  split at h
  · exact calls_last false mixed over_quantile_least.FOk_ over_quantile_least.fn rfl (Eq.mp (by kernel_rfl) h)
  · exact h.elim

/-! (tocsin/over.plain).least -/
namespace over_plain_least
abbrev KT := Int → World → Prop
def Kt (Kv : Value → World → Prop) : KT := fun n1 w => Kv (.int .i64 n1) w
noncomputable def bd : Code := bdy Try.f95
theorem fn : FnOk pr 95 5 Try.f95 := ⟨Try.func95, by kernel_rfl, Try.ntmps95, by kernel_rfl, by kernel_rfl⟩
def F : Clee := ofL []
theorem FOk_ : FOk pr F := FOk_nil
def P1 (Kv : Value → World → Prop) : Post := bodyK false pr 5 Try.f95 Kv
end over_plain_least
def over_plain_least (p_2 : ByteArray) (p_3 : Int) (p_4 : Value) (w : World) (K : over_plain_least.KT) : Prop :=
  G.new (.cells #[(.string p_2), (.int .i64 p_3), p_4] 64) w fun p5 w6 => G.cI .i64 (p5.add 1) w6 fun n7 => K n7 w6
def over_plain_least.cl : CL := fun args K w => match args with
  | [.agg ⟨[.string x0_0, .int .i64 x0_1, x0_2]⟩] => C.over_plain_least x0_0 x0_1 x0_2 w (over_plain_least.Kt K)
  | _ => False
theorem over_plain_least.clok : OkC pr 95 over_plain_least.cl := by
  intro args K w h
  unfold over_plain_least.cl at h
  split at h
  · exact calls_last false mixed over_plain_least.FOk_ over_plain_least.fn rfl (Eq.mp (by kernel_rfl) h)
  · exact h.elim

/-! math.Float64frombits: the model's own -/
abbrev math_Float64frombits.KT := Nat → World → Prop
def math_Float64frombits.Kt (Kv : Value → World → Prop) : math_Float64frombits.KT := fun r0 w => Kv (.float .f64 r0) w
def math_Float64frombits (x0 : Int) (w : World) (K : math_Float64frombits.KT) : Prop := K x0.toNat w
def math_Float64frombits.cl : CL := fun args K w => match args with
  | [.int .u64 x0] => C.math_Float64frombits x0 w (math_Float64frombits.Kt K)
  | _ => False
theorem math_Float64frombits.clok : OkX pr 12 math_Float64frombits.cl := by
  intro args K w h
  unfold math_Float64frombits.cl at h
  split at h
  · exact ⟨_, w, by kernel_rfl, h⟩
  · exact h.elim

/-! tocsin/over.told -/
namespace over_told
abbrev KT := Nat → World → Prop
def Kt (Kv : Value → World → Prop) : KT := fun f1 w => Kv (.float .f64 f1) w
noncomputable def bd : Code := bdy Try.f14
theorem fn : FnOk pr 14 8 Try.f14 := ⟨Try.func14, by kernel_rfl, Try.ntmps14, by kernel_rfl, by kernel_rfl⟩
def F : Clee := ofL [(12, C.math_Float64frombits.cl)]
theorem FOk_ : FOk pr F := FOk_consX C.math_Float64frombits.clok (FOk_nil)
def P1 (Kv : Value → World → Prop) : Post := bodyK false pr 8 Try.f14 Kv
end over_told
def over_told (v_2 : Nat) (w : World) (K : over_told.KT) : Prop :=
  G.cond (G.fne v_2 v_2) (C.math_Float64frombits (9221120237041090561 : Int) w fun f3 w4 => K f3 w4) (K v_2 w)
def over_told.cl : CL := fun args K w => match args with
  | [.float .f64 x0] => C.over_told x0 w (over_told.Kt K)
  | _ => False
theorem over_told.clok : OkC pr 14 over_told.cl := by
  intro args K w h
  unfold over_told.cl at h
  split at h
  · exact calls_last false mixed over_told.FOk_ over_told.fn rfl (Eq.mp (by kernel_rfl) h)
  · exact h.elim

/-! math.NaN -/
namespace math_NaN
abbrev KT := Nat → World → Prop
def Kt (Kv : Value → World → Prop) : KT := fun f1 w => Kv (.float .f64 f1) w
noncomputable def bd : Code := bdy Try.f15
theorem fn : FnOk pr 15 2 Try.f15 := ⟨Try.func15, by kernel_rfl, Try.ntmps15, by kernel_rfl, by kernel_rfl⟩
def F : Clee := ofL [(12, C.math_Float64frombits.cl)]
theorem FOk_ : FOk pr F := FOk_consX C.math_Float64frombits.clok (FOk_nil)
def P1 (Kv : Value → World → Prop) : Post := bodyK false pr 2 Try.f15 Kv
end math_NaN
def math_NaN (w : World) (K : math_NaN.KT) : Prop :=
  C.math_Float64frombits (9221120237041090561 : Int) w fun f2 w3 => K f2 w3
def math_NaN.cl : CL := fun args K w => match args with
  | [] => C.math_NaN w (math_NaN.Kt K)
  | _ => False
theorem math_NaN.clok : OkC pr 15 math_NaN.cl := by
  intro args K w h
  unfold math_NaN.cl at h
  split at h
  · exact calls_last false mixed math_NaN.FOk_ math_NaN.fn rfl (Eq.mp (by kernel_rfl) h)
  · exact h.elim

/-! math.Inf -/
namespace math_Inf
abbrev KT := Nat → World → Prop
def Kt (Kv : Value → World → Prop) : KT := fun f1 w => Kv (.float .f64 f1) w
noncomputable def bd : Code := bdy Try.f16
theorem fn : FnOk pr 16 8 Try.f16 := ⟨Try.func16, by kernel_rfl, Try.ntmps16, by kernel_rfl, by kernel_rfl⟩
def F : Clee := ofL [(12, C.math_Float64frombits.cl)]
theorem FOk_ : FOk pr F := FOk_consX C.math_Float64frombits.clok (FOk_nil)
def P1 (Kv : Value → World → Prop) : Post := bodyK false pr 8 Try.f16 Kv
end math_Inf
def math_Inf (sign_2 : Int) (w : World) (K : math_Inf.KT) : Prop :=
  G.cond (decide (sign_2 ≥ (0 : Int))) (C.math_Float64frombits (9218868437227405312 : Int) w fun f3 w4 => K f3 w4) (C.math_Float64frombits (18442240474082181120 : Int) w fun f5 w6 => K f5 w6)
def math_Inf.cl : CL := fun args K w => match args with
  | [.int .i64 x0] => C.math_Inf x0 w (math_Inf.Kt K)
  | _ => False
theorem math_Inf.clok : OkC pr 16 math_Inf.cl := by
  intro args K w h
  unfold math_Inf.cl at h
  split at h
  · exact calls_last false mixed math_Inf.FOk_ math_Inf.fn rfl (Eq.mp (by kernel_rfl) h)
  · exact h.elim

/-! slices.Clone[[]float64,float64] -/
namespace slices_Clone_float64_float64
abbrev KT := Sl → World → Prop
def Kt (Kv : Value → World → Prop) : KT := fun l1 w => Kv l1.v w
noncomputable def bd : Code := bdy Try.f17
theorem fn : FnOk pr 17 8 Try.f17 := ⟨Try.func17, by kernel_rfl, Try.ntmps17, by kernel_rfl, by kernel_rfl⟩
def F : Clee := ofL []
theorem FOk_ : FOk pr F := FOk_nil
def P1 (Kv : Value → World → Prop) : Post := bodyK false pr 8 Try.f17 Kv
end slices_Clone_float64_float64
def slices_Clone_float64_float64 (s_2 : Sl) (w : World) (K : slices_Clone_float64_float64.KT) : Prop :=
  G.cond s_2.a.isNone (K nilS w) (G.new (.cells #[] 22) w fun p3 w4 => G.runSl pr (Builtin.append_ #[23, 23] 23 #[(Sl.v (⟨some p3, 0, 0⟩ : Sl)), s_2.v]) w4 fun l5 w6 => K l5 w6)
def slices_Clone_float64_float64.cl : CL := fun args K w => match args with
  | [.slice x0_a x0_n x0_c] => C.slices_Clone_float64_float64 ⟨x0_a, x0_n, x0_c⟩ w (slices_Clone_float64_float64.Kt K)
  | _ => False
theorem slices_Clone_float64_float64.clok : OkC pr 17 slices_Clone_float64_float64.cl := by
  intro args K w h
  unfold slices_Clone_float64_float64.cl at h
  split at h
  · exact calls_last false mixed slices_Clone_float64_float64.FOk_ slices_Clone_float64_float64.fn rfl (Eq.mp (by kernel_rfl) h)
  · exact h.elim

/-! slices.SortFunc[[]float64,float64]: by the library's contract -/
abbrev slices_SortFunc_float64_float64.KT := World → Prop
def slices_SortFunc_float64_float64.Kt (Kv : Value → World → Prop) : slices_SortFunc_float64_float64.KT := fun w => Kv (.tuple #[]) w
def slices_SortFunc_float64_float64 (x0 : Sl) (x1 : Value) (w : World) (K : slices_SortFunc_float64_float64.KT) : Prop := Srt.sortF x0 x1 w K
def slices_SortFunc_float64_float64.cl : CL := fun args K w => match args with
  | [.slice a n c, fv] => C.slices_SortFunc_float64_float64 ⟨a, n, c⟩ fv w (slices_SortFunc_float64_float64.Kt K)
  | _ => False
theorem slices_SortFunc_float64_float64.clok : OkC pr 18 slices_SortFunc_float64_float64.cl := by
  intro args K w h
  unfold slices_SortFunc_float64_float64.cl at h
  split at h
  · exact Srt.sortF_ok h
  · exact h.elim

/-! math.archFloor: the model's own -/
abbrev math_archFloor.KT := Nat → World → Prop
def math_archFloor.Kt (Kv : Value → World → Prop) : math_archFloor.KT := fun r0 w => Kv (.float .f64 r0) w
def math_archFloor (x0 : Nat) (w : World) (K : math_archFloor.KT) : Prop := G.whole .down x0 fun r => K r w
def math_archFloor.cl : CL := fun args K w => match args with
  | [.float .f64 x0] => C.math_archFloor x0 w (math_archFloor.Kt K)
  | _ => False
theorem math_archFloor.clok : OkX pr 29 math_archFloor.cl := by
  intro args K w h
  unfold math_archFloor.cl at h
  split at h
  · rename_i x0
    obtain ⟨hn, hk⟩ := h
    refine ⟨_, w, ?_, hk⟩
    show (callFunc _ #[.float .f64 x0]).run pr w = _
    rw [run_callFunc_extern Try.func29 (by kernel_rfl) (by kernel_rfl) (by kernel_rfl) (e := Extern.MathFloor.toIntegral "math.archFloor" .down) (by kernel_rfl)]
    rw [whole_run _ _ hn]
    rfl
  · exact h.elim

/-! math.IsNaN -/
namespace math_IsNaN
abbrev KT := Bool → World → Prop
def Kt (Kv : Value → World → Prop) : KT := fun b1 w => Kv (.bool b1) w
noncomputable def bd : Code := bdy Try.f44
theorem fn : FnOk pr 44 6 Try.f44 := ⟨Try.func44, by kernel_rfl, Try.ntmps44, by kernel_rfl, by kernel_rfl⟩
def F : Clee := ofL []
theorem FOk_ : FOk pr F := FOk_nil
def P1 (Kv : Value → World → Prop) : Post := bodyK false pr 6 Try.f44 Kv
end math_IsNaN
def math_IsNaN (f_2 : Nat) (w : World) (K : math_IsNaN.KT) : Prop :=
  K (G.fne f_2 f_2) w
def math_IsNaN.cl : CL := fun args K w => match args with
  | [.float .f64 x0] => C.math_IsNaN x0 w (math_IsNaN.Kt K)
  | _ => False
theorem math_IsNaN.clok : OkC pr 44 math_IsNaN.cl := by
  intro args K w h
  unfold math_IsNaN.cl at h
  split at h
  · exact calls_last false mixed math_IsNaN.FOk_ math_IsNaN.fn rfl (Eq.mp (by kernel_rfl) h)
  · exact h.elim

/-! math.Abs -/
namespace math_Abs
abbrev KT := Nat → World → Prop
def Kt (Kv : Value → World → Prop) : KT := fun f1 w => Kv (.float .f64 f1) w
noncomputable def bd : Code := bdy Try.f71
theorem fn : FnOk pr 71 7 Try.f71 := ⟨Try.func71, by kernel_rfl, Try.ntmps71, by kernel_rfl, by kernel_rfl⟩
def F : Clee := ofL [(12, C.math_Float64frombits.cl), (22, C.math_Float64bits.cl)]
theorem FOk_ : FOk pr F := FOk_consX C.math_Float64frombits.clok (FOk_consX C.math_Float64bits.clok (FOk_nil))
def P1 (Kv : Value → World → Prop) : Post := bodyK false pr 7 Try.f71 Kv
end math_Abs
def math_Abs (x_2 : Nat) (w : World) (K : math_Abs.KT) : Prop :=
  C.math_Float64bits x_2 w fun n3 w4 => C.math_Float64frombits (Go.bits .andNot .u64 n3 (9223372036854775808 : Int)) w4 fun f5 w6 => K f5 w6
def math_Abs.cl : CL := fun args K w => match args with
  | [.float .f64 x0] => C.math_Abs x0 w (math_Abs.Kt K)
  | _ => False
theorem math_Abs.clok : OkC pr 71 math_Abs.cl := by
  intro args K w h
  unfold math_Abs.cl at h
  split at h
  · exact calls_last false mixed math_Abs.FOk_ math_Abs.fn rfl (Eq.mp (by kernel_rfl) h)
  · exact h.elim

/-! math.IsInf -/
namespace math_IsInf
abbrev KT := Bool → World → Prop
def Kt (Kv : Value → World → Prop) : KT := fun b1 w => Kv (.bool b1) w
noncomputable def bd : Code := bdy Try.f45
theorem fn : FnOk pr 45 15 Try.f45 := ⟨Try.func45, by kernel_rfl, Try.ntmps45, by kernel_rfl, by kernel_rfl⟩
def F : Clee := ofL [(71, C.math_Abs.cl)]
theorem FOk_ : FOk pr F := FOk_cons C.math_Abs.clok (FOk_nil)
def P1 (Kv : Value → World → Prop) : Post := bodyK false pr 15 Try.f45 Kv
end math_IsInf
def math_IsInf (f_2 : Nat) (sign_3 : Int) (w : World) (K : math_IsInf.KT) : Prop :=
  G.cond (sign_3 == (0 : Int)) (C.math_Abs f_2 w fun f4 w5 => K (G.fgt f4 9218868437227405311) w5) (G.cond (decide (sign_3 < (0 : Int))) (K (G.fgt (Op.negFloat .f64 f_2) 9218868437227405311) w) (K (G.fgt f_2 9218868437227405311) w))
def math_IsInf.cl : CL := fun args K w => match args with
  | [.float .f64 x0, .int .i64 x1] => C.math_IsInf x0 x1 w (math_IsInf.Kt K)
  | _ => False
theorem math_IsInf.clok : OkC pr 45 math_IsInf.cl := by
  intro args K w h
  unfold math_IsInf.cl at h
  split at h
  · exact calls_last false mixed math_IsInf.FOk_ math_IsInf.fn rfl (Eq.mp (by kernel_rfl) h)
  · exact h.elim

/-! math.archTrunc: the model's own -/
abbrev math_archTrunc.KT := Nat → World → Prop
def math_archTrunc.Kt (Kv : Value → World → Prop) : math_archTrunc.KT := fun r0 w => Kv (.float .f64 r0) w
def math_archTrunc (x0 : Nat) (w : World) (K : math_archTrunc.KT) : Prop := G.whole .zero x0 fun r => K r w
def math_archTrunc.cl : CL := fun args K w => match args with
  | [.float .f64 x0] => C.math_archTrunc x0 w (math_archTrunc.Kt K)
  | _ => False
theorem math_archTrunc.clok : OkX pr 76 math_archTrunc.cl := by
  intro args K w h
  unfold math_archTrunc.cl at h
  split at h
  · rename_i x0
    obtain ⟨hn, hk⟩ := h
    refine ⟨_, w, ?_, hk⟩
    show (callFunc _ #[.float .f64 x0]).run pr w = _
    rw [run_callFunc_extern Try.func76 (by kernel_rfl) (by kernel_rfl) (by kernel_rfl) (e := Extern.MathFloor.toIntegral "math.archTrunc" .zero) (by kernel_rfl)]
    rw [whole_run _ _ hn]
    rfl
  · exact h.elim

/-! math.Copysign -/
namespace math_Copysign
abbrev KT := Nat → World → Prop
def Kt (Kv : Value → World → Prop) : KT := fun f1 w => Kv (.float .f64 f1) w
noncomputable def bd : Code := bdy Try.f73
theorem fn : FnOk pr 73 13 Try.f73 := ⟨Try.func73, by kernel_rfl, Try.ntmps73, by kernel_rfl, by kernel_rfl⟩
def F : Clee := ofL [(12, C.math_Float64frombits.cl), (22, C.math_Float64bits.cl)]
theorem FOk_ : FOk pr F := FOk_consX C.math_Float64frombits.clok (FOk_consX C.math_Float64bits.clok (FOk_nil))
def P1 (Kv : Value → World → Prop) : Post := bodyK false pr 13 Try.f73 Kv
end math_Copysign
def math_Copysign (f_2 : Nat) (sign_3 : Nat) (w : World) (K : math_Copysign.KT) : Prop :=
  C.math_Float64bits f_2 w fun n4 w5 => C.math_Float64bits sign_3 w5 fun n6 w7 => C.math_Float64frombits (Go.bits .or .u64 (Go.bits .andNot .u64 n4 (9223372036854775808 : Int)) (Go.bits .and .u64 n6 (9223372036854775808 : Int))) w7 fun f8 w9 => K f8 w9
def math_Copysign.cl : CL := fun args K w => match args with
  | [.float .f64 x0, .float .f64 x1] => C.math_Copysign x0 x1 w (math_Copysign.Kt K)
  | _ => False
theorem math_Copysign.clok : OkC pr 73 math_Copysign.cl := by
  intro args K w h
  unfold math_Copysign.cl at h
  split at h
  · exact calls_last false mixed math_Copysign.FOk_ math_Copysign.fn rfl (Eq.mp (by kernel_rfl) h)
  · exact h.elim

/-! math.trunc -/
namespace math_trunc
abbrev KT := Nat → World → Prop
def Kt (Kv : Value → World → Prop) : KT := fun f1 w => Kv (.float .f64 f1) w
noncomputable def bd : Code := bdy Try.f77
theorem fn : FnOk pr 77 26 Try.f77 := ⟨Try.func77, by kernel_rfl, Try.ntmps77, by kernel_rfl, by kernel_rfl⟩
def F : Clee := ofL [(12, C.math_Float64frombits.cl), (22, C.math_Float64bits.cl), (71, C.math_Abs.cl), (73, C.math_Copysign.cl)]
theorem FOk_ : FOk pr F := FOk_consX C.math_Float64frombits.clok (FOk_consX C.math_Float64bits.clok (FOk_cons C.math_Abs.clok (FOk_cons C.math_Copysign.clok (FOk_nil))))
def P1 (Kv : Value → World → Prop) : Post := bodyK false pr 26 Try.f77 Kv
end math_trunc
def math_trunc (x_2 : Nat) (w : World) (K : math_trunc.KT) : Prop :=
  C.math_Abs x_2 w fun f4 w5 => G.cond (G.flt f4 4607182418800017408) (C.math_Copysign 0 x_2 w5 fun f6 w7 => K f6 w7) (C.math_Float64bits x_2 w5 fun n8 w9 => G.nn (52 : Int) <| G.cond (decide ((IntKind.u64.wrap ((Go.bits .and .u64 (shr .u64 n8 (52 : Int)) (2047 : Int)) - (1023 : Int))) < (52 : Int))) (G.nn (IntKind.u64.wrap ((52 : Int) - (IntKind.u64.wrap ((Go.bits .and .u64 (shr .u64 n8 (52 : Int)) (2047 : Int)) - (1023 : Int))))) <| C.math_Float64frombits (Go.bits .andNot .u64 n8 (IntKind.u64.wrap ((shl .u64 (1 : Int) (IntKind.u64.wrap ((52 : Int) - (IntKind.u64.wrap ((Go.bits .and .u64 (shr .u64 n8 (52 : Int)) (2047 : Int)) - (1023 : Int)))))) - (1 : Int)))) w9 fun f10 w11 => K f10 w11) (C.math_Float64frombits n8 w9 fun f12 w13 => K f12 w13))
def math_trunc.cl : CL := fun args K w => match args with
  | [.float .f64 x0] => C.math_trunc x0 w (math_trunc.Kt K)
  | _ => False
theorem math_trunc.clok : OkC pr 77 math_trunc.cl := by
  intro args K w h
  unfold math_trunc.cl at h
  split at h
  · exact calls_last false mixed math_trunc.FOk_ math_trunc.fn rfl (Eq.mp (by kernel_rfl) h)
  · exact h.elim

/-! math.Trunc -/
namespace math_Trunc
abbrev KT := Nat → World → Prop
def Kt (Kv : Value → World → Prop) : KT := fun f1 w => Kv (.float .f64 f1) w
noncomputable def bd : Code := bdy Try.f72
theorem fn : FnOk pr 72 7 Try.f72 := ⟨Try.func72, by kernel_rfl, Try.ntmps72, by kernel_rfl, by kernel_rfl⟩
def F : Clee := ofL [(76, C.math_archTrunc.cl)]
theorem FOk_ : FOk pr F := FOk_consX C.math_archTrunc.clok (FOk_nil)
def P1 (Kv : Value → World → Prop) : Post := bodyK false pr 7 Try.f72 Kv
end math_Trunc
def math_Trunc (x_2 : Nat) (w : World) (K : math_Trunc.KT) : Prop :=
  C.math_archTrunc x_2 w fun f3 w4 => K f3 w4
def math_Trunc.cl : CL := fun args K w => match args with
  | [.float .f64 x0] => C.math_Trunc x0 w (math_Trunc.Kt K)
  | _ => False
theorem math_Trunc.clok : OkC pr 72 math_Trunc.cl := by
  intro args K w h
  unfold math_Trunc.cl at h
  split at h
  · exact calls_last false mixed math_Trunc.FOk_ math_Trunc.fn rfl (Eq.mp (by kernel_rfl) h)
  · exact h.elim

/-! math.Modf -/
namespace math_Modf
abbrev KT := Nat → Nat → World → Prop
def Kt (Kv : Value → World → Prop) : KT := fun f1 f2 w => Kv (.tuple #[(.float .f64 f1), (.float .f64 f2)]) w
noncomputable def bd : Code := bdy Try.f46
theorem fn : FnOk pr 46 11 Try.f46 := ⟨Try.func46, by kernel_rfl, Try.ntmps46, by kernel_rfl, by kernel_rfl⟩
def F : Clee := ofL [(72, C.math_Trunc.cl), (73, C.math_Copysign.cl)]
theorem FOk_ : FOk pr F := FOk_cons C.math_Trunc.clok (FOk_cons C.math_Copysign.clok (FOk_nil))
def P1 (Kv : Value → World → Prop) : Post := bodyK false pr 11 Try.f46 Kv
end math_Modf
def math_Modf (f_3 : Nat) (w : World) (K : math_Modf.KT) : Prop :=
  C.math_Trunc f_3 w fun f4 w5 => G.fa .sub f_3 f4 w5 fun f6 w7 => C.math_Copysign f6 f_3 w7 fun f8 w9 => K f4 f8 w9
def math_Modf.cl : CL := fun args K w => match args with
  | [.float .f64 x0] => C.math_Modf x0 w (math_Modf.Kt K)
  | _ => False
theorem math_Modf.clok : OkC pr 46 math_Modf.cl := by
  intro args K w h
  unfold math_Modf.cl at h
  split at h
  · exact calls_last false mixed math_Modf.FOk_ math_Modf.fn rfl (Eq.mp (by kernel_rfl) h)
  · exact h.elim

/-! math.floor -/
namespace math_floor
abbrev KT := Nat → World → Prop
def Kt (Kv : Value → World → Prop) : KT := fun f1 w => Kv (.float .f64 f1) w
noncomputable def bd : Code := bdy Try.f30
theorem fn : FnOk pr 30 38 Try.f30 := ⟨Try.func30, by kernel_rfl, Try.ntmps30, by kernel_rfl, by kernel_rfl⟩
def F : Clee := ofL [(44, C.math_IsNaN.cl), (45, C.math_IsInf.cl), (46, C.math_Modf.cl)]
theorem FOk_ : FOk pr F := FOk_cons C.math_IsNaN.clok (FOk_cons C.math_IsInf.clok (FOk_cons C.math_Modf.clok (FOk_nil)))
def P1 (Kv : Value → World → Prop) : Post := bodyK false pr 38 Try.f30 Kv
end math_floor
def math_floor (x_2 : Nat) (w : World) (K : math_floor.KT) : Prop :=
  G.cond (G.feq x_2 0) (K x_2 w) (C.math_IsNaN x_2 w fun b5 w6 => G.cond b5 (K x_2 w6) (C.math_IsInf x_2 (0 : Int) w6 fun b7 w8 => G.cond b7 (K x_2 w8) (G.cond (G.flt x_2 0) (C.math_Modf (Op.negFloat .f64 x_2) w8 fun f9 f10 w11 => G.cond (G.fne f10 0) (G.fa .add f9 4607182418800017408 w11 fun f12 w13 => K (Op.negFloat .f64 f12) w13) (K (Op.negFloat .f64 f9) w11)) (C.math_Modf x_2 w8 fun f14 f15 w16 => K f14 w16))))
def math_floor.cl : CL := fun args K w => match args with
  | [.float .f64 x0] => C.math_floor x0 w (math_floor.Kt K)
  | _ => False
theorem math_floor.clok : OkC pr 30 math_floor.cl := by
  intro args K w h
  unfold math_floor.cl at h
  split at h
  · exact calls_last false mixed math_floor.FOk_ math_floor.fn rfl (Eq.mp (by kernel_rfl) h)
  · exact h.elim

/-! math.Floor -/
namespace math_Floor
abbrev KT := Nat → World → Prop
def Kt (Kv : Value → World → Prop) : KT := fun f1 w => Kv (.float .f64 f1) w
noncomputable def bd : Code := bdy Try.f21
theorem fn : FnOk pr 21 7 Try.f21 := ⟨Try.func21, by kernel_rfl, Try.ntmps21, by kernel_rfl, by kernel_rfl⟩
def F : Clee := ofL [(29, C.math_archFloor.cl)]
theorem FOk_ : FOk pr F := FOk_consX C.math_archFloor.clok (FOk_nil)
def P1 (Kv : Value → World → Prop) : Post := bodyK false pr 7 Try.f21 Kv
end math_Floor
def math_Floor (x_2 : Nat) (w : World) (K : math_Floor.KT) : Prop :=
  C.math_archFloor x_2 w fun f3 w4 => K f3 w4
def math_Floor.cl : CL := fun args K w => match args with
  | [.float .f64 x0] => C.math_Floor x0 w (math_Floor.Kt K)
  | _ => False
theorem math_Floor.clok : OkC pr 21 math_Floor.cl := by
  intro args K w h
  unfold math_Floor.cl at h
  split at h
  · exact calls_last false mixed math_Floor.FOk_ math_Floor.fn rfl (Eq.mp (by kernel_rfl) h)
  · exact h.elim

/-! tocsin/over.Quantile -/
namespace over_Quantile
abbrev KT := Nat → World → Prop
def Kt (Kv : Value → World → Prop) : KT := fun f1 w => Kv (.float .f64 f1) w
noncomputable def bd : Code := bdy Try.f7
theorem fn : FnOk pr 7 67 Try.f7 := ⟨Try.func7, by kernel_rfl, Try.ntmps7, by kernel_rfl, by kernel_rfl⟩
def F : Clee := ofL [(14, C.over_told.cl), (15, C.math_NaN.cl), (16, C.math_Inf.cl), (17, C.slices_Clone_float64_float64.cl), (18, C.slices_SortFunc_float64_float64.cl), (21, C.math_Floor.cl)]
theorem FOk_ : FOk pr F := FOk_cons C.over_told.clok (FOk_cons C.math_NaN.clok (FOk_cons C.math_Inf.clok (FOk_cons C.slices_Clone_float64_float64.clok (FOk_cons C.slices_SortFunc_float64_float64.clok (FOk_cons C.math_Floor.clok (FOk_nil))))))
def P1 (Kv : Value → World → Prop) : Post := bodyK false pr 67 Try.f7 Kv
end over_Quantile
def over_Quantile (q_2 : Nat) (l_3 : Sl) (w : World) (K : over_Quantile.KT) : Prop :=
  G.cond (((l_3.n : Nat) : Int) == (0 : Int)) (C.math_NaN w fun f6 w7 => C.over_told f6 w7 fun f8 w9 => K f8 w9) (G.cond (G.fne q_2 q_2) (C.math_NaN w fun f10 w11 => C.over_told f10 w11 fun f12 w13 => K f12 w13) (G.cond (G.flt q_2 0) (C.math_Inf (-1 : Int) w fun f14 w15 => K f14 w15) (G.cond (G.fgt q_2 4607182418800017408) (C.math_Inf (1 : Int) w fun f16 w17 => K f16 w17) (C.slices_Clone_float64_float64 l_3 w fun l18 w19 => C.slices_SortFunc_float64_float64 l18 (Value.func (.func 19) #[] #[]) w19 fun w20 => G.fa .mul q_2 (FloatKind.f64.nearest (IntKind.i64.wrap (((l18.n : Nat) : Int) - (1 : Int)))) w20 fun f21 w22 => C.math_Floor f21 w22 fun f23 w24 => G.f2i f23 .i64 fun n25 => G.fa .sub f21 (FloatKind.f64.nearest n25) w24 fun f26 w27 => G.ix l18.a l18.n n25 1 fun p28 => G.cF .f64 p28 w27.drew fun f29 => G.ix l18.a l18.n (if (IntKind.i64.wrap (((l18.n : Nat) : Int) - (1 : Int))) < (IntKind.i64.wrap (n25 + (1 : Int))) then (IntKind.i64.wrap (((l18.n : Nat) : Int) - (1 : Int))) else (IntKind.i64.wrap (n25 + (1 : Int)))) 1 fun p30 => G.cF .f64 p30 w27.drew fun f31 => (G.fa .sub 4607182418800017408 f26 w27.drew fun f32 w33 => sameAt p28 1 w27.drew w33 ∧ sameAt p30 1 w27.drew w33 ∧ ((G.fa .mul f29 f32 w33 fun f34 w35 => sameAt p30 1 w27.drew w35 ∧ (G.fa .mul f31 f26 w35 fun f36 w37 => G.fa .add f34 f36 w37 fun f38 w39 => C.over_told f38 w39 fun f40 w41 => K f40 w41)) ∧ (G.fa .mul f31 f26 w33 fun f42 w43 => sameAt p28 1 w27.drew w43 ∧ (G.fa .mul f29 f32 w43 fun f44 w45 => G.fa .add f44 f42 w45 fun f46 w47 => C.over_told f46 w47 fun f48 w49 => K f48 w49)))) ∧ (G.fa .mul f31 f26 w27.drew fun f50 w51 => sameAt p28 1 w27.drew w51 ∧ (G.fa .sub 4607182418800017408 f26 w51 fun f52 w53 => sameAt p28 1 w27.drew w53 ∧ (G.fa .mul f29 f52 w53 fun f54 w55 => G.fa .add f54 f50 w55 fun f56 w57 => C.over_told f56 w57 fun f58 w59 => K f58 w59)))))))
def over_Quantile.cl : CL := fun args K w => match args with
  | [.float .f64 x0, .slice x1_a x1_n x1_c] => C.over_Quantile x0 ⟨x1_a, x1_n, x1_c⟩ w (over_Quantile.Kt K)
  | _ => False
theorem over_Quantile.clok : OkC pr 7 over_Quantile.cl := by
  intro args K w h
  unfold over_Quantile.cl at h
  split at h
  · exact calls_last false mixed over_Quantile.FOk_ over_Quantile.fn rfl (Eq.mp (by kernel_rfl) h)
  · exact h.elim

/-! (tocsin/over.quantile).value -/
namespace over_quantile_value
abbrev KT := Nat → World → Prop
def Kt (Kv : Value → World → Prop) : KT := fun f1 w => Kv (.float .f64 f1) w
noncomputable def bd : Code := bdy Try.f94
theorem fn : FnOk pr 94 25 Try.f94 := ⟨Try.func94, by kernel_rfl, Try.ntmps94, by kernel_rfl, by kernel_rfl⟩
def F : Clee := ofL [(7, C.over_Quantile.cl)]
theorem FOk_ : FOk pr F := FOk_cons C.over_Quantile.clok (FOk_nil)
def P1 (Kv : Value → World → Prop) : Post := bodyK false pr 25 Try.f94 Kv
@[reducible] def g2 : List SE := [.v 2 .ptr, .v 5 .sl]
def S2 (K : KT) (p_6 : Option Addr) (v_7 : Sl) (w : World) : Prop :=
  G.ptr p_6 fun p8 => G.cF .f64 p8 w fun f9 => C.over_Quantile f9 v_7 w fun f10 w11 => K f10 w11
theorem S2_ok (Kv : Value → World → Prop) : OkT pr false none 25 g2 (S2 (Kt Kv)) (s2 (tl 2 bd)) (P1 Kv) := ok_last mixed FOk_ fun v ρ w => by kernel_rfl
def P3 (Kv : Value → World → Prop) : Post := next (get g2 (S2 (Kt Kv))) (P1 Kv)
def P4 (Kv : Value → World → Prop) : Post := inBlock 0 (P3 Kv)
@[reducible] def g5 : List SE := [.v 2 .ptr, .v 5 .sl, .v 9 .sl, .v 10 (.int .i64), .v 11 (.int .i64)]
def P6 (Kv : Value → World → Prop) (kc5 : Cur g5) : Post := next (get g5 kc5) (P4 Kv)
def S7 (K : KT) (kc5 : Cur g5) (p_22 : Option Addr) (v_23 : Sl) (l24 : Sl) (n25 : Int) (n26 : Int) (w : World) : Prop :=
  G.cond (decide (n26 < n25)) (G.ix l24.a l24.n n26 2 fun p27 => G.cI .i64 p27 w fun n28 => G.cF .f64 (p27.add 1) w fun f29 => G.new (.cells #[(.int .i64 (0 : Int)), (.float .f64 0)] 33) w fun p30 w31 => G.st p30 (.int .i64 n28) w31 fun w32 => G.st (p30.add 1) (.float .f64 f29) w32 fun w33 => G.cF .f64 (p30.add 1) w33 fun f34 => G.new (.cells #[(.float .f64 f34)] 22) w33 fun p35 w36 => G.runSl pr (Builtin.append_ #[23, 23] 23 #[v_23.v, (Sl.v (⟨some p35, 1, 1⟩ : Sl))]) w36 fun l37 w38 => kc5 p_22 l37 l24 n25 (IntKind.i64.wrap (n26 + (1 : Int))) w38) (S2 K p_22 v_23 w)
theorem S7_ok (Kv : Value → World → Prop) (kc5 : Cur g5) : OkT pr false none 25 g5 (S7 (Kt Kv) kc5) (lp (blk (tl 1 (s1 (tl 2 bd))))) (P6 Kv kc5) := ok_last mixed FOk_ fun v ρ w => by kernel_rfl
def L5 (K : KT) : Cur g5 := loopC g5 (S7 K)
theorem L5_ok (Kv : Value → World → Prop) : OkT pr false none 25 g5 (L5 (Kt Kv)) (blk (tl 1 (s1 (tl 2 bd)))) (P4 Kv) := ok_loop (B := S7 (Kt Kv)) (by kernel_rfl) fun kc => S7_ok Kv kc
theorem L5_ind {K : KT} {p_12 : Option Addr} {v_13 : Sl} {l14 : Sl} {n15 : Int} {n16 : Int} {w : World} (h : ∀ X : Cur g5, (∀ p_12 v_13 l14 n15 n16 w, S7 K X p_12 v_13 l14 n15 n16 w → X p_12 v_13 l14 n15 n16 w) → X p_12 v_13 l14 n15 n16 w) : L5 K p_12 v_13 l14 n15 n16 w := fun X hX => h X fun p_12 v_13 l14 n15 n16 w hb => hX (p_12, v_13, l14, n15, n16, ()) w hb
theorem B8 (Kv : Value → World → Prop) : OkT pr false none 25 g5 (L5 (Kt Kv)) (tl 1 (s1 (tl 2 bd))) (P3 Kv) := ok_block 0 (by kernel_rfl) (L5_ok Kv)
@[reducible] def g9 : List SE := [.v 2 .ptr, .v 3 .ptr, .v 5 .sl]
def S9 (K : KT) (p_39 : Option Addr) (w_40 : Option Addr) (v_41 : Sl) (w : World) : Prop :=
  G.ptr w_40 fun p42 => G.cSl p42 w fun l43 => L5 K p_39 v_41 l43 ((l43.n : Nat) : Int) (0 : Int) w
theorem S9_ok (Kv : Value → World → Prop) : OkT pr false none 25 g9 (S9 (Kt Kv)) (s1 (tl 2 bd)) (P3 Kv) := ok_group mixed FOk_ 1 (B8 Kv) fun v ρ w => by kernel_rfl
theorem Q10 (Kv : Value → World → Prop) : OkT pr false none 25 g9 (S9 (Kt Kv)) (tl 2 bd) (P1 Kv) := ok_seq (by kernel_rfl) (S2_ok Kv) (S9_ok Kv)
end over_quantile_value
def over_quantile_value (p_2 : Nat) (w_3 : Sl) (w_4 : Int) (w_5 : Int) (w : World) (K : over_quantile_value.KT) : Prop :=
  G.new (.cells #[(.float .f64 p_2)] 60) w fun p44 w45 => G.new (.cells #[w_3.v, (.int .i64 w_4), (.int .i64 w_5)] 52) w45 fun p46 w47 => over_quantile_value.S9 K (some p44) (some p46) nilS w47
def over_quantile_value.cl : CL := fun args K w => match args with
  | [.agg ⟨[.float .f64 x0_0]⟩, .agg ⟨[.slice x1_0_a x1_0_n x1_0_c, .int .i64 x1_1, .int .i64 x1_2]⟩] => C.over_quantile_value x0_0 ⟨x1_0_a, x1_0_n, x1_0_c⟩ x1_1 x1_2 w (over_quantile_value.Kt K)
  | _ => False
theorem over_quantile_value.clok : OkC pr 94 over_quantile_value.cl := by
  intro args K w h
  unfold over_quantile_value.cl at h
  split at h
  · exact calls_group false mixed over_quantile_value.FOk_ over_quantile_value.fn rfl 2 (over_quantile_value.Q10 K) (Eq.mp (by kernel_rfl) h)
  · exact h.elim

/-! (tocsin/over.plain).value -/
namespace over_plain_value
abbrev KT := Nat → World → Prop
def Kt (Kv : Value → World → Prop) : KT := fun f1 w => Kv (.float .f64 f1) w
noncomputable def bd : Code := bdy Try.f96
theorem fn : FnOk pr 96 9 Try.f96 := ⟨Try.func96, by kernel_rfl, Try.ntmps96, by kernel_rfl, by kernel_rfl⟩
def F : Clee := ofL [(19, C.over_Quantile_1.cl), (47, C.over_table_1.cl), (48, C.over_window_sum.cl), (49, C.over_window_changes.cl), (50, C.over_table_2.cl), (51, C.over_table_3.cl), (53, C.over_table_4.cl), (55, C.over_table_5.cl), (56, C.over_table_6.cl), (57, C.over_table_7.cl), (58, C.over_table_8.cl), (60, C.over_table_8_1.cl), (61, C.over_table_9.cl), (62, C.over_table_9_1.cl), (63, C.over_table_10.cl), (64, C.over_table_11.cl), (65, C.over_window_resets.cl), (93, C.over_quantile_least.cl), (94, C.over_quantile_value.cl), (95, C.over_plain_least.cl)]
theorem FOk_ : FOk pr F := FOk_cons C.over_Quantile_1.clok (FOk_cons C.over_table_1.clok (FOk_cons C.over_window_sum.clok (FOk_cons C.over_window_changes.clok (FOk_cons C.over_table_2.clok (FOk_cons C.over_table_3.clok (FOk_cons C.over_table_4.clok (FOk_cons C.over_table_5.clok (FOk_cons C.over_table_6.clok (FOk_cons C.over_table_7.clok (FOk_cons C.over_table_8.clok (FOk_cons C.over_table_8_1.clok (FOk_cons C.over_table_9.clok (FOk_cons C.over_table_9_1.clok (FOk_cons C.over_table_10.clok (FOk_cons C.over_table_11.clok (FOk_cons C.over_window_resets.clok (FOk_cons C.over_quantile_least.clok (FOk_cons C.over_quantile_value.clok (FOk_cons C.over_plain_least.clok (FOk_nil))))))))))))))))))))
def P1 (Kv : Value → World → Prop) : Post := bodyK false pr 9 Try.f96 Kv
end over_plain_value
def over_plain_value (p_2 : ByteArray) (p_3 : Int) (p_4 : Value) (w_5 : Sl) (w_6 : Int) (w_7 : Int) (w : World) (K : over_plain_value.KT) : Prop :=
  G.new (.cells #[(.string p_2), (.int .i64 p_3), p_4] 64) w fun p8 w9 => G.new (.cells #[w_5.v, (.int .i64 w_6), (.int .i64 w_7)] 52) w9 fun p10 w11 => G.cV (p8.add 2) w11 fun v12 => G.cSl p10 w11 fun l13 => G.cI .i64 (p10.add 1) w11 fun n14 => G.cI .i64 (p10.add 2) w11 fun n15 => G.callV pr over_plain_value.F v12 [(.agg #[l13.v, (.int .i64 n14), (.int .i64 n15)])] w11 fun v16 w17 => G.isF v16 fun f18 => K f18 w17
def over_plain_value.cl : CL := fun args K w => match args with
  | [.agg ⟨[.string x0_0, .int .i64 x0_1, x0_2]⟩, .agg ⟨[.slice x1_0_a x1_0_n x1_0_c, .int .i64 x1_1, .int .i64 x1_2]⟩] => C.over_plain_value x0_0 x0_1 x0_2 ⟨x1_0_a, x1_0_n, x1_0_c⟩ x1_1 x1_2 w (over_plain_value.Kt K)
  | _ => False
theorem over_plain_value.clok : OkC pr 96 over_plain_value.cl := by
  intro args K w h
  unfold over_plain_value.cl at h
  split at h
  · exact calls_last false mixed over_plain_value.FOk_ over_plain_value.fn rfl (Eq.mp (by kernel_rfl) h)
  · exact h.elim

/-! tocsin/tocsinlaw17.bits -/
namespace tocsinlaw17_bits
abbrev KT := Bool → World → Prop
def Kt (Kv : Value → World → Prop) : KT := fun b1 w => Kv (.bool b1) w
noncomputable def bd : Code := bdy Try.f8
theorem fn : FnOk pr 8 10 Try.f8 := ⟨Try.func8, by kernel_rfl, Try.ntmps8, by kernel_rfl, by kernel_rfl⟩
def F : Clee := ofL [(22, C.math_Float64bits.cl)]
theorem FOk_ : FOk pr F := FOk_consX C.math_Float64bits.clok (FOk_nil)
def P1 (Kv : Value → World → Prop) : Post := bodyK false pr 10 Try.f8 Kv
end tocsinlaw17_bits
def tocsinlaw17_bits (a_2 : Nat) (b_3 : Nat) (w : World) (K : tocsinlaw17_bits.KT) : Prop :=
  C.math_Float64bits a_2 w fun n4 w5 => C.math_Float64bits b_3 w5 fun n6 w7 => K (n4 == n6) w7
def tocsinlaw17_bits.cl : CL := fun args K w => match args with
  | [.float .f64 x0, .float .f64 x1] => C.tocsinlaw17_bits x0 x1 w (tocsinlaw17_bits.Kt K)
  | _ => False
theorem tocsinlaw17_bits.clok : OkC pr 8 tocsinlaw17_bits.cl := by
  intro args K w h
  unfold tocsinlaw17_bits.cl at h
  split at h
  · exact calls_last false mixed tocsinlaw17_bits.FOk_ tocsinlaw17_bits.fn rfl (Eq.mp (by kernel_rfl) h)
  · exact h.elim

/-! tocsin/tocsinref15.ahead -/
namespace tocsinref15_ahead
abbrev KT := Bool → World → Prop
def Kt (Kv : Value → World → Prop) : KT := fun b1 w => Kv (.bool b1) w
noncomputable def bd : Code := bdy Try.f31
theorem fn : FnOk pr 31 34 Try.f31 := ⟨Try.func31, by kernel_rfl, Try.ntmps31, by kernel_rfl, by kernel_rfl⟩
def F : Clee := ofL [(28, C.math_Signbit.cl)]
theorem FOk_ : FOk pr F := FOk_cons C.math_Signbit.clok (FOk_nil)
def P1 (Kv : Value → World → Prop) : Post := bodyK false pr 34 Try.f31 Kv
end tocsinref15_ahead
def tocsinref15_ahead (a_2 : Nat) (b_3 : Nat) (w : World) (K : tocsinref15_ahead.KT) : Prop :=
  G.cond (G.fne a_2 a_2) (G.cond (G.fne a_2 a_2) (K (G.feq b_3 b_3) w) (K false w)) (G.cond (G.fne b_3 b_3) (G.cond (G.fne a_2 a_2) (K (G.feq b_3 b_3) w) (K false w)) (G.cond (G.feq a_2 b_3) (C.math_Signbit a_2 w fun b6 w7 => G.cond b6 (C.math_Signbit b_3 w7 fun b8 w9 => K (!b8) w9) (K false w7)) (K (G.flt a_2 b_3) w)))
def tocsinref15_ahead.cl : CL := fun args K w => match args with
  | [.float .f64 x0, .float .f64 x1] => C.tocsinref15_ahead x0 x1 w (tocsinref15_ahead.Kt K)
  | _ => False
theorem tocsinref15_ahead.clok : OkC pr 31 tocsinref15_ahead.cl := by
  intro args K w h
  unfold tocsinref15_ahead.cl at h
  split at h
  · exact calls_last false mixed tocsinref15_ahead.FOk_ tocsinref15_ahead.fn rfl (Eq.mp (by kernel_rfl) h)
  · exact h.elim

/-! tocsin/tocsinref15.Told -/
namespace tocsinref15_Told
abbrev KT := Nat → World → Prop
def Kt (Kv : Value → World → Prop) : KT := fun f1 w => Kv (.float .f64 f1) w
noncomputable def bd : Code := bdy Try.f32
theorem fn : FnOk pr 32 8 Try.f32 := ⟨Try.func32, by kernel_rfl, Try.ntmps32, by kernel_rfl, by kernel_rfl⟩
def F : Clee := ofL [(12, C.math_Float64frombits.cl)]
theorem FOk_ : FOk pr F := FOk_consX C.math_Float64frombits.clok (FOk_nil)
def P1 (Kv : Value → World → Prop) : Post := bodyK false pr 8 Try.f32 Kv
end tocsinref15_Told
def tocsinref15_Told (v_2 : Nat) (w : World) (K : tocsinref15_Told.KT) : Prop :=
  G.cond (G.fne v_2 v_2) (C.math_Float64frombits (9221120237041090561 : Int) w fun f3 w4 => K f3 w4) (K v_2 w)
def tocsinref15_Told.cl : CL := fun args K w => match args with
  | [.float .f64 x0] => C.tocsinref15_Told x0 w (tocsinref15_Told.Kt K)
  | _ => False
theorem tocsinref15_Told.clok : OkC pr 32 tocsinref15_Told.cl := by
  intro args K w h
  unfold tocsinref15_Told.cl at h
  split at h
  · exact calls_last false mixed tocsinref15_Told.FOk_ tocsinref15_Told.fn rfl (Eq.mp (by kernel_rfl) h)
  · exact h.elim

/-! tocsin/tocsinref15.Quantile -/
namespace tocsinref15_Quantile
abbrev KT := Nat → World → Prop
def Kt (Kv : Value → World → Prop) : KT := fun f1 w => Kv (.float .f64 f1) w
noncomputable def bd : Code := bdy Try.f23
theorem fn : FnOk pr 23 107 Try.f23 := ⟨Try.func23, by kernel_rfl, Try.ntmps23, by kernel_rfl, by kernel_rfl⟩
def F : Clee := ofL [(12, C.math_Float64frombits.cl), (16, C.math_Inf.cl), (31, C.tocsinref15_ahead.cl), (32, C.tocsinref15_Told.cl)]
theorem FOk_ : FOk pr F := FOk_consX C.math_Float64frombits.clok (FOk_cons C.math_Inf.clok (FOk_cons C.tocsinref15_ahead.clok (FOk_cons C.tocsinref15_Told.clok (FOk_nil))))
def P1 (Kv : Value → World → Prop) : Post := bodyK false pr 107 Try.f23 Kv
@[reducible] def g2 : List SE := [.v 5 .sl, .v 9 (.fl .f64), .v 10 (.int .i64), .v 11 (.int .i64)]
def S2 (K : KT) (s_12 : Sl) (k_13 : Nat) (i_14 : Int) (j_15 : Int) (w : World) : Prop :=
  G.fa .sub k_13 (FloatKind.f64.nearest i_14) w fun f16 w17 => G.ix s_12.a s_12.n i_14 1 fun p18 => G.cF .f64 p18 w17.drew fun f19 => G.ix s_12.a s_12.n j_15 1 fun p20 => G.cF .f64 p20 w17.drew fun f21 => (G.fa .sub 4607182418800017408 f16 w17.drew fun f22 w23 => sameAt p18 1 w17.drew w23 ∧ sameAt p20 1 w17.drew w23 ∧ ((G.fa .mul f19 f22 w23 fun f24 w25 => sameAt p20 1 w17.drew w25 ∧ (G.fa .mul f21 f16 w25 fun f26 w27 => G.fa .add f24 f26 w27 fun f28 w29 => C.tocsinref15_Told f28 w29 fun f30 w31 => K f30 w31)) ∧ (G.fa .mul f21 f16 w23 fun f32 w33 => sameAt p18 1 w17.drew w33 ∧ (G.fa .mul f19 f22 w33 fun f34 w35 => G.fa .add f34 f32 w35 fun f36 w37 => C.tocsinref15_Told f36 w37 fun f38 w39 => K f38 w39)))) ∧ (G.fa .mul f21 f16 w17.drew fun f40 w41 => sameAt p18 1 w17.drew w41 ∧ (G.fa .sub 4607182418800017408 f16 w41 fun f42 w43 => sameAt p18 1 w17.drew w43 ∧ (G.fa .mul f19 f42 w43 fun f44 w45 => G.fa .add f44 f40 w45 fun f46 w47 => C.tocsinref15_Told f46 w47 fun f48 w49 => K f48 w49)))
theorem S2_ok (Kv : Value → World → Prop) : OkT pr false none 107 g2 (S2 (Kt Kv)) (tl 4 (s2 (tl 5 bd))) (P1 Kv) := ok_last mixed FOk_ fun v ρ w => by kernel_rfl
@[reducible] def g3 : List SE := [.v 0 (.fl .f64), .v 5 .sl]
def S3 (K : KT) (q_50 : Nat) (s_51 : Sl) (w : World) : Prop :=
  G.fa .mul q_50 (FloatKind.f64.nearest (IntKind.i64.wrap (((s_51.n : Nat) : Int) - (1 : Int)))) w fun f52 w53 => G.f2i f52 .i64 fun n54 => G.cond (decide ((IntKind.i64.wrap (n54 + (1 : Int))) > (IntKind.i64.wrap (((s_51.n : Nat) : Int) - (1 : Int))))) (S2 K s_51 f52 n54 (IntKind.i64.wrap (((s_51.n : Nat) : Int) - (1 : Int))) w53) (S2 K s_51 f52 n54 (IntKind.i64.wrap (n54 + (1 : Int))) w53)
theorem S3_ok (Kv : Value → World → Prop) : OkT pr false none 107 g3 (S3 (Kt Kv)) (s2 (tl 5 bd)) (P1 Kv) := ok_group mixed FOk_ 4 (S2_ok Kv) fun v ρ w => by kernel_rfl
def P4 (Kv : Value → World → Prop) : Post := next (get g3 (S3 (Kt Kv))) (P1 Kv)
def P5 (Kv : Value → World → Prop) : Post := inBlock 0 (P4 Kv)
@[reducible] def g6 : List SE := [.v 0 (.fl .f64), .v 1 .sl, .v 5 .sl, .v 6 (.int .i64)]
def P7 (Kv : Value → World → Prop) (kc6 : Cur g6) : Post := next (get g6 kc6) (P5 Kv)
def S8 (K : KT) (kc6 : Cur g6) (q_59 : Nat) (l_60 : Sl) (s_61 : Sl) (i_62 : Int) (w : World) : Prop :=
  kc6 q_59 l_60 s_61 (IntKind.i64.wrap (i_62 + (1 : Int))) w
theorem S8_ok (Kv : Value → World → Prop) (kc6 : Cur g6) : OkT pr false none 107 g6 (S8 (Kt Kv) kc6) (s2 (tl 1 (lp (blk (tl 1 (s1 (tl 5 bd))))))) (P7 Kv kc6) := ok_last mixed FOk_ fun v ρ w => by kernel_rfl
def P9 (Kv : Value → World → Prop) (kc6 : Cur g6) : Post := next (get g6 (S8 (Kt Kv) kc6)) (P7 Kv kc6)
def P10 (Kv : Value → World → Prop) (kc6 : Cur g6) : Post := inBlock 1 (P9 Kv kc6)
@[reducible] def g11 : List SE := [.v 0 (.fl .f64), .v 1 .sl, .v 5 .sl, .v 6 (.int .i64), .v 7 (.int .i64)]
def S11 (K : KT) (kc6 : Cur g6) (q_63 : Nat) (l_64 : Sl) (s_65 : Sl) (i_66 : Int) (k_67 : Int) (w : World) : Prop :=
  G.slc s_65 0 k_67 1 fun l68 => G.runSl pr (Builtin.append_ #[23, 23] 23 #[nilS.v, l68.v]) w fun l69 w70 => G.ix l_64.a l_64.n i_66 1 fun p71 => G.cF .f64 p71 w70 fun f72 => G.new (.cells #[(.float .f64 f72)] 22) w70 fun p73 w74 => G.runSl pr (Builtin.append_ #[23, 23] 23 #[l69.v, (Sl.v (⟨some p73, 1, 1⟩ : Sl))]) w74 fun l75 w76 => G.slc s_65 k_67 ((s_65.n : Nat) : Int) 1 fun l77 => G.runSl pr (Builtin.append_ #[23, 23] 23 #[l75.v, l77.v]) w76 fun l78 w79 => S8 K kc6 q_63 l_64 l78 i_66 w79
theorem S11_ok (Kv : Value → World → Prop) (kc6 : Cur g6) : OkT pr false none 107 g11 (S11 (Kt Kv) kc6) (s2 (tl 1 (blk (s1 (tl 1 (lp (blk (tl 1 (s1 (tl 5 bd)))))))))) (P10 Kv kc6) := ok_last mixed FOk_ fun v ρ w => by kernel_rfl
def P12 (Kv : Value → World → Prop) (kc6 : Cur g6) : Post := next (get g11 (S11 (Kt Kv) kc6)) (P10 Kv kc6)
def P13 (Kv : Value → World → Prop) (kc6 : Cur g6) : Post := inBlock 2 (P12 Kv kc6)
def P15 (Kv : Value → World → Prop) (kc6 : Cur g6) (kc14 : Cur g11) : Post := next (get g11 kc14) (P13 Kv kc6)
def S16 (K : KT) (kc6 : Cur g6) (kc14 : Cur g11) (q_85 : Nat) (l_86 : Sl) (s_87 : Sl) (i_88 : Int) (k_89 : Int) (w : World) : Prop :=
  G.cond (decide (k_89 > (0 : Int))) (G.ix l_86.a l_86.n i_88 1 fun p90 => G.cF .f64 p90 w.drew fun f91 => G.ix s_87.a s_87.n (IntKind.i64.wrap (k_89 - (1 : Int))) 1 fun p92 => G.cF .f64 p92 w.drew fun f93 => C.tocsinref15_ahead f91 f93 w.drew fun b94 w95 => G.cond b94 (kc14 q_85 l_86 s_87 i_88 (IntKind.i64.wrap (k_89 - (1 : Int))) w95) (S11 K kc6 q_85 l_86 s_87 i_88 k_89 w95)) (S11 K kc6 q_85 l_86 s_87 i_88 k_89 w.drew)
theorem S16_ok (Kv : Value → World → Prop) (kc6 : Cur g6) (kc14 : Cur g11) : OkT pr false none 107 g11 (S16 (Kt Kv) kc6 kc14) (lp (blk (s1 (tl 1 (blk (s1 (tl 1 (lp (blk (tl 1 (s1 (tl 5 bd)))))))))))) (P15 Kv kc6 kc14) := ok_last mixed FOk_ fun v ρ w => by kernel_rfl
def L14 (K : KT) (kc6 : Cur g6) : Cur g11 := loopC g11 (S16 K kc6)
theorem L14_ok (Kv : Value → World → Prop) (kc6 : Cur g6) : OkT pr false none 107 g11 (L14 (Kt Kv) kc6) (blk (s1 (tl 1 (blk (s1 (tl 1 (lp (blk (tl 1 (s1 (tl 5 bd))))))))))) (P13 Kv kc6) := ok_loop (B := S16 (Kt Kv) kc6) (by kernel_rfl) fun kc => S16_ok Kv kc6 kc
theorem L14_ind {K : KT} {kc6 : Cur g6} {q_80 : Nat} {l_81 : Sl} {s_82 : Sl} {i_83 : Int} {k_84 : Int} {w : World} (h : ∀ X : Cur g11, (∀ q_80 l_81 s_82 i_83 k_84 w, S16 K kc6 X q_80 l_81 s_82 i_83 k_84 w → X q_80 l_81 s_82 i_83 k_84 w) → X q_80 l_81 s_82 i_83 k_84 w) : L14 K kc6 q_80 l_81 s_82 i_83 k_84 w := fun X hX => h X fun q_80 l_81 s_82 i_83 k_84 w hb => hX (q_80, l_81, s_82, i_83, k_84, ()) w hb
theorem B17 (Kv : Value → World → Prop) (kc6 : Cur g6) : OkT pr false none 107 g11 (L14 (Kt Kv) kc6) (s1 (tl 1 (blk (s1 (tl 1 (lp (blk (tl 1 (s1 (tl 5 bd)))))))))) (P12 Kv kc6) := ok_block 2 (by kernel_rfl) (L14_ok Kv kc6)
theorem Q18 (Kv : Value → World → Prop) (kc6 : Cur g6) : OkT pr false none 107 g11 (L14 (Kt Kv) kc6) (tl 1 (blk (s1 (tl 1 (lp (blk (tl 1 (s1 (tl 5 bd))))))))) (P10 Kv kc6) := ok_seq (by kernel_rfl) (S11_ok Kv kc6) (B17 Kv kc6)
def S19 (K : KT) (kc6 : Cur g6) (q_96 : Nat) (l_97 : Sl) (s_98 : Sl) (i_99 : Int) (w : World) : Prop :=
  L14 K kc6 q_96 l_97 s_98 i_99 ((s_98.n : Nat) : Int) w
theorem S19_ok (Kv : Value → World → Prop) (kc6 : Cur g6) : OkT pr false none 107 g6 (S19 (Kt Kv) kc6) (blk (s1 (tl 1 (lp (blk (tl 1 (s1 (tl 5 bd)))))))) (P10 Kv kc6) := ok_group mixed FOk_ 1 (Q18 Kv kc6) fun v ρ w => by kernel_rfl
theorem B20 (Kv : Value → World → Prop) (kc6 : Cur g6) : OkT pr false none 107 g6 (S19 (Kt Kv) kc6) (s1 (tl 1 (lp (blk (tl 1 (s1 (tl 5 bd))))))) (P9 Kv kc6) := ok_block 1 (by kernel_rfl) (S19_ok Kv kc6)
theorem Q21 (Kv : Value → World → Prop) (kc6 : Cur g6) : OkT pr false none 107 g6 (S19 (Kt Kv) kc6) (tl 1 (lp (blk (tl 1 (s1 (tl 5 bd)))))) (P7 Kv kc6) := ok_seq (by kernel_rfl) (S8_ok Kv kc6) (B20 Kv kc6)
def S22 (K : KT) (kc6 : Cur g6) (q_100 : Nat) (l_101 : Sl) (s_102 : Sl) (i_103 : Int) (w : World) : Prop :=
  G.cond (decide (i_103 < ((l_101.n : Nat) : Int))) (S19 K kc6 q_100 l_101 s_102 i_103 w) (S3 K q_100 s_102 w)
theorem S22_ok (Kv : Value → World → Prop) (kc6 : Cur g6) : OkT pr false none 107 g6 (S22 (Kt Kv) kc6) (lp (blk (tl 1 (s1 (tl 5 bd))))) (P7 Kv kc6) := ok_group mixed FOk_ 1 (Q21 Kv kc6) fun v ρ w => by kernel_rfl
def L6 (K : KT) : Cur g6 := loopC g6 (S22 K)
theorem L6_ok (Kv : Value → World → Prop) : OkT pr false none 107 g6 (L6 (Kt Kv)) (blk (tl 1 (s1 (tl 5 bd)))) (P5 Kv) := ok_loop (B := S22 (Kt Kv)) (by kernel_rfl) fun kc => S22_ok Kv kc
theorem L6_ind {K : KT} {q_55 : Nat} {l_56 : Sl} {s_57 : Sl} {i_58 : Int} {w : World} (h : ∀ X : Cur g6, (∀ q_55 l_56 s_57 i_58 w, S22 K X q_55 l_56 s_57 i_58 w → X q_55 l_56 s_57 i_58 w) → X q_55 l_56 s_57 i_58 w) : L6 K q_55 l_56 s_57 i_58 w := fun X hX => h X fun q_55 l_56 s_57 i_58 w hb => hX (q_55, l_56, s_57, i_58, ()) w hb
theorem B23 (Kv : Value → World → Prop) : OkT pr false none 107 g6 (L6 (Kt Kv)) (tl 1 (s1 (tl 5 bd))) (P4 Kv) := ok_block 0 (by kernel_rfl) (L6_ok Kv)
@[reducible] def g24 : List SE := [.v 0 (.fl .f64), .v 1 .sl, .v 5 .sl]
def S24 (K : KT) (q_104 : Nat) (l_105 : Sl) (s_106 : Sl) (w : World) : Prop :=
  L6 K q_104 l_105 s_106 (0 : Int) w
theorem S24_ok (Kv : Value → World → Prop) : OkT pr false none 107 g24 (S24 (Kt Kv)) (s1 (tl 5 bd)) (P4 Kv) := ok_group mixed FOk_ 1 (B23 Kv) fun v ρ w => by kernel_rfl
theorem Q25 (Kv : Value → World → Prop) : OkT pr false none 107 g24 (S24 (Kt Kv)) (tl 5 bd) (P1 Kv) := ok_seq (by kernel_rfl) (S3_ok Kv) (S24_ok Kv)
end tocsinref15_Quantile
def tocsinref15_Quantile (q_2 : Nat) (l_3 : Sl) (w : World) (K : tocsinref15_Quantile.KT) : Prop :=
  G.cond (((l_3.n : Nat) : Int) == (0 : Int)) (C.math_Float64frombits (9221120237041090561 : Int) w fun f107 w108 => K f107 w108) (G.cond (G.fne q_2 q_2) (C.math_Float64frombits (9221120237041090561 : Int) w fun f109 w110 => K f109 w110) (G.cond (G.flt q_2 0) (C.math_Inf (-1 : Int) w fun f111 w112 => K f111 w112) (G.cond (G.fgt q_2 4607182418800017408) (C.math_Inf (1 : Int) w fun f113 w114 => K f113 w114) (tocsinref15_Quantile.S24 K q_2 l_3 nilS w))))
def tocsinref15_Quantile.cl : CL := fun args K w => match args with
  | [.float .f64 x0, .slice x1_a x1_n x1_c] => C.tocsinref15_Quantile x0 ⟨x1_a, x1_n, x1_c⟩ w (tocsinref15_Quantile.Kt K)
  | _ => False
theorem tocsinref15_Quantile.clok : OkC pr 23 tocsinref15_Quantile.cl := by
  intro args K w h
  unfold tocsinref15_Quantile.cl at h
  split at h
  · exact calls_group false mixed tocsinref15_Quantile.FOk_ tocsinref15_Quantile.fn rfl 5 (tocsinref15_Quantile.Q25 K) (Eq.mp (by kernel_rfl) h)
  · exact h.elim

/-! tocsin/tocsinref17.Quantile -/
namespace tocsinref17_Quantile
abbrev KT := Nat → World → Prop
def Kt (Kv : Value → World → Prop) : KT := fun f1 w => Kv (.float .f64 f1) w
noncomputable def bd : Code := bdy Try.f9
theorem fn : FnOk pr 9 8 Try.f9 := ⟨Try.func9, by kernel_rfl, Try.ntmps9, by kernel_rfl, by kernel_rfl⟩
def F : Clee := ofL [(23, C.tocsinref15_Quantile.cl)]
theorem FOk_ : FOk pr F := FOk_cons C.tocsinref15_Quantile.clok (FOk_nil)
def P1 (Kv : Value → World → Prop) : Post := bodyK false pr 8 Try.f9 Kv
end tocsinref17_Quantile
def tocsinref17_Quantile (q_2 : Nat) (l_3 : Sl) (w : World) (K : tocsinref17_Quantile.KT) : Prop :=
  C.tocsinref15_Quantile q_2 l_3 w fun f4 w5 => K f4 w5
def tocsinref17_Quantile.cl : CL := fun args K w => match args with
  | [.float .f64 x0, .slice x1_a x1_n x1_c] => C.tocsinref17_Quantile x0 ⟨x1_a, x1_n, x1_c⟩ w (tocsinref17_Quantile.Kt K)
  | _ => False
theorem tocsinref17_Quantile.clok : OkC pr 9 tocsinref17_Quantile.cl := by
  intro args K w h
  unfold tocsinref17_Quantile.cl at h
  split at h
  · exact calls_last false mixed tocsinref17_Quantile.FOk_ tocsinref17_Quantile.fn rfl (Eq.mp (by kernel_rfl) h)
  · exact h.elim

/-! tocsin/over.table -/
namespace over_table
abbrev KT := Sl → World → Prop
def Kt (Kv : Value → World → Prop) : KT := fun l1 w => Kv l1.v w
noncomputable def bd : Code := bdy Try.f33
theorem fn : FnOk pr 33 16 Try.f33 := ⟨Try.func33, by kernel_rfl, Try.ntmps33, by kernel_rfl, by kernel_rfl⟩
def F : Clee := ofL []
theorem FOk_ : FOk pr F := FOk_nil
def P1 (Kv : Value → World → Prop) : Post := bodyK false pr 16 Try.f33 Kv
end over_table
def over_table (w : World) (K : over_table.KT) : Prop :=
  G.new (.cells #[(.string (⟨#[97, 118, 103, 95, 111, 118, 101, 114, 95, 116, 105, 109, 101]⟩ : ByteArray)), (.int .i64 (1 : Int)), (Value.func (.func 47) #[] #[]), (.string (⟨#[99, 104, 97, 110, 103, 101, 115]⟩ : ByteArray)), (.int .i64 (1 : Int)), (Value.func (.func 49) #[] #[]), (.string (⟨#[99, 111, 117, 110, 116, 95, 111, 118, 101, 114, 95, 116, 105, 109, 101]⟩ : ByteArray)), (.int .i64 (1 : Int)), (Value.func (.func 50) #[] #[]), (.string (⟨#[100, 101, 108, 116, 97]⟩ : ByteArray)), (.int .i64 (2 : Int)), (Value.func (.func 51) #[] #[]), (.string (⟨#[105, 100, 101, 108, 116, 97]⟩ : ByteArray)), (.int .i64 (2 : Int)), (Value.func (.func 53) #[] #[]), (.string (⟨#[105, 110, 99, 114, 101, 97, 115, 101]⟩ : ByteArray)), (.int .i64 (2 : Int)), (Value.func (.func 55) #[] #[]), (.string (⟨#[105, 114, 97, 116, 101]⟩ : ByteArray)), (.int .i64 (2 : Int)), (Value.func (.func 56) #[] #[]), (.string (⟨#[108, 97, 115, 116, 95, 111, 118, 101, 114, 95, 116, 105, 109, 101]⟩ : ByteArray)), (.int .i64 (1 : Int)), (Value.func (.func 57) #[] #[]), (.string (⟨#[109, 97, 120, 95, 111, 118, 101, 114, 95, 116, 105, 109, 101]⟩ : ByteArray)), (.int .i64 (1 : Int)), (Value.func (.func 58) #[] #[]), (.string (⟨#[109, 105, 110, 95, 111, 118, 101, 114, 95, 116, 105, 109, 101]⟩ : ByteArray)), (.int .i64 (1 : Int)), (Value.func (.func 61) #[] #[]), (.string (⟨#[112, 114, 101, 115, 101, 110, 116, 95, 111, 118, 101, 114, 95, 116, 105, 109, 101]⟩ : ByteArray)), (.int .i64 (1 : Int)), (Value.func (.func 63) #[] #[]), (.string (⟨#[114, 97, 116, 101]⟩ : ByteArray)), (.int .i64 (2 : Int)), (Value.func (.func 64) #[] #[]), (.string (⟨#[114, 101, 115, 101, 116, 115]⟩ : ByteArray)), (.int .i64 (1 : Int)), (Value.func (.func 65) #[] #[]), (.string (⟨#[115, 117, 109, 95, 111, 118, 101, 114, 95, 116, 105, 109, 101]⟩ : ByteArray)), (.int .i64 (1 : Int)), (Value.func (.func 48) #[] #[])] 64) w fun p2 w3 => K (⟨some p2, 14, 14⟩ : Sl) w3
def over_table.cl : CL := fun args K w => match args with
  | [] => C.over_table w (over_table.Kt K)
  | _ => False
theorem over_table.clok : OkC pr 33 over_table.cl := by
  intro args K w h
  unfold over_table.cl at h
  split at h
  · exact calls_last false mixed over_table.FOk_ over_table.fn rfl (Eq.mp (by kernel_rfl) h)
  · exact h.elim

/-! tocsin/over.find -/
namespace over_find
abbrev KT := Value → World → Prop
def Kt (Kv : Value → World → Prop) : KT := fun v1 w => Kv v1 w
noncomputable def bd : Code := bdy Try.f25
theorem fn : FnOk pr 25 25 Try.f25 := ⟨Try.func25, by kernel_rfl, Try.ntmps25, by kernel_rfl, by kernel_rfl⟩
def F : Clee := ofL [(33, C.over_table.cl)]
theorem FOk_ : FOk pr F := FOk_cons C.over_table.clok (FOk_nil)
def P1 (Kv : Value → World → Prop) : Post := bodyK false pr 25 Try.f25 Kv
@[reducible] def g2 : List SE := []
def S2 (K : KT) (w : World) : Prop :=
  K Value.nilIface w
theorem S2_ok (Kv : Value → World → Prop) : OkT pr false none 25 g2 (S2 (Kt Kv)) (s2 (tl 2 bd)) (P1 Kv) := ok_last mixed FOk_ fun v ρ w => by kernel_rfl
def P3 (Kv : Value → World → Prop) : Post := next (get g2 (S2 (Kt Kv))) (P1 Kv)
def P4 (Kv : Value → World → Prop) : Post := inBlock 0 (P3 Kv)
@[reducible] def g5 : List SE := [.v 0 .str, .v 12 .sl, .v 13 (.int .i64), .v 14 (.int .i64)]
def P6 (Kv : Value → World → Prop) (kc5 : Cur g5) : Post := next (get g5 kc5) (P4 Kv)
def S7 (K : KT) (kc5 : Cur g5) (name_12 : ByteArray) (l13 : Sl) (n14 : Int) (n15 : Int) (w : World) : Prop :=
  G.cond (decide (n15 < n14)) (G.ix l13.a l13.n n15 3 fun p16 => G.cS p16 w fun s17 => G.cI .i64 (p16.add 1) w fun n18 => G.cV (p16.add 2) w fun v19 => G.new (.cells #[(.string (⟨#[]⟩ : ByteArray)), (.int .i64 (0 : Int)), Value.nilFunc] 64) w fun p20 w21 => G.st p20 (.string s17) w21 fun w22 => G.st (p20.add 1) (.int .i64 n18) w22 fun w23 => G.one v19 (G.st (p20.add 2) v19 w23 fun w24 => G.cS p20 w24 fun s25 => G.cond (s25.toList == name_12.toList) (G.cS p20 w24 fun s26 => G.cI .i64 (p20.add 1) w24 fun n27 => G.cV (p20.add 2) w24 fun v28 => K (Value.iface 64 (.agg #[(.string s26), (.int .i64 n27), v28])) w24) (kc5 name_12 l13 n14 (IntKind.i64.wrap (n15 + (1 : Int))) w24))) (S2 K w)
theorem S7_ok (Kv : Value → World → Prop) (kc5 : Cur g5) : OkT pr false none 25 g5 (S7 (Kt Kv) kc5) (lp (blk (tl 1 (s1 (tl 2 bd))))) (P6 Kv kc5) := ok_last mixed FOk_ fun v ρ w => by kernel_rfl
def L5 (K : KT) : Cur g5 := loopC g5 (S7 K)
theorem L5_ok (Kv : Value → World → Prop) : OkT pr false none 25 g5 (L5 (Kt Kv)) (blk (tl 1 (s1 (tl 2 bd)))) (P4 Kv) := ok_loop (B := S7 (Kt Kv)) (by kernel_rfl) fun kc => S7_ok Kv kc
theorem L5_ind {K : KT} {name_4 : ByteArray} {l5 : Sl} {n6 : Int} {n7 : Int} {w : World} (h : ∀ X : Cur g5, (∀ name_4 l5 n6 n7 w, S7 K X name_4 l5 n6 n7 w → X name_4 l5 n6 n7 w) → X name_4 l5 n6 n7 w) : L5 K name_4 l5 n6 n7 w := fun X hX => h X fun name_4 l5 n6 n7 w hb => hX (name_4, l5, n6, n7, ()) w hb
theorem B8 (Kv : Value → World → Prop) : OkT pr false none 25 g5 (L5 (Kt Kv)) (tl 1 (s1 (tl 2 bd))) (P3 Kv) := ok_block 0 (by kernel_rfl) (L5_ok Kv)
@[reducible] def g9 : List SE := [.v 0 .str]
def S9 (K : KT) (name_29 : ByteArray) (w : World) : Prop :=
  C.over_table w fun l30 w31 => L5 K name_29 l30 ((l30.n : Nat) : Int) (0 : Int) w31
theorem S9_ok (Kv : Value → World → Prop) : OkT pr false none 25 g9 (S9 (Kt Kv)) (s1 (tl 2 bd)) (P3 Kv) := ok_group mixed FOk_ 1 (B8 Kv) fun v ρ w => by kernel_rfl
theorem Q10 (Kv : Value → World → Prop) : OkT pr false none 25 g9 (S9 (Kt Kv)) (tl 2 bd) (P1 Kv) := ok_seq (by kernel_rfl) (S2_ok Kv) (S9_ok Kv)
end over_find
def over_find (name_2 : ByteArray) (q_3 : Nat) (w : World) (K : over_find.KT) : Prop :=
  G.cond (name_2.toList == (⟨#[113, 117, 97, 110, 116, 105, 108, 101, 95, 111, 118, 101, 114, 95, 116, 105, 109, 101]⟩ : ByteArray).toList) (K (Value.iface 60 (.agg #[(.float .f64 q_3)])) w) (over_find.S9 K name_2 w)
def over_find.cl : CL := fun args K w => match args with
  | [.string x0, .float .f64 x1] => C.over_find x0 x1 w (over_find.Kt K)
  | _ => False
theorem over_find.clok : OkC pr 25 over_find.cl := by
  intro args K w h
  unfold over_find.cl at h
  split at h
  · exact calls_group false mixed over_find.FOk_ over_find.fn rfl 2 (over_find.Q10 K) (Eq.mp (by kernel_rfl) h)
  · exact h.elim

/-! tocsin/over.Call -/
namespace over_Call
abbrev KT := Nat → Bool → Int → World → Prop
def Kt (Kv : Value → World → Prop) : KT := fun f1 b2 n3 w => Kv (.tuple #[(.float .f64 f1), (.bool b2), (.int .i64 n3)]) w
noncomputable def bd : Code := bdy Try.f11
theorem fn : FnOk pr 11 93 Try.f11 := ⟨Try.func11, by kernel_rfl, Try.ntmps11, by kernel_rfl, by kernel_rfl⟩
def F : Clee := ofL [(14, C.over_told.cl), (19, C.over_Quantile_1.cl), (22, C.math_Float64bits.cl), (25, C.over_find.cl), (47, C.over_table_1.cl), (48, C.over_window_sum.cl), (49, C.over_window_changes.cl), (50, C.over_table_2.cl), (51, C.over_table_3.cl), (53, C.over_table_4.cl), (55, C.over_table_5.cl), (56, C.over_table_6.cl), (57, C.over_table_7.cl), (58, C.over_table_8.cl), (60, C.over_table_8_1.cl), (61, C.over_table_9.cl), (62, C.over_table_9_1.cl), (63, C.over_table_10.cl), (64, C.over_table_11.cl), (65, C.over_window_resets.cl), (93, C.over_quantile_least.cl), (94, C.over_quantile_value.cl), (95, C.over_plain_least.cl), (96, C.over_plain_value.cl)]
theorem FOk_ : FOk pr F := FOk_cons C.over_told.clok (FOk_cons C.over_Quantile_1.clok (FOk_consX C.math_Float64bits.clok (FOk_cons C.over_find.clok (FOk_cons C.over_table_1.clok (FOk_cons C.over_window_sum.clok (FOk_cons C.over_window_changes.clok (FOk_cons C.over_table_2.clok (FOk_cons C.over_table_3.clok (FOk_cons C.over_table_4.clok (FOk_cons C.over_table_5.clok (FOk_cons C.over_table_6.clok (FOk_cons C.over_table_7.clok (FOk_cons C.over_table_8.clok (FOk_cons C.over_table_8_1.clok (FOk_cons C.over_table_9.clok (FOk_cons C.over_table_9_1.clok (FOk_cons C.over_table_10.clok (FOk_cons C.over_table_11.clok (FOk_cons C.over_window_resets.clok (FOk_cons C.over_quantile_least.clok (FOk_cons C.over_quantile_value.clok (FOk_cons C.over_plain_least.clok (FOk_cons C.over_plain_value.clok (FOk_nil))))))))))))))))))))))))
def P1 (Kv : Value → World → Prop) : Post := bodyK false pr 93 Try.f11 Kv
@[reducible] def g2 : List SE := [.v 13 (.raw), .v 14 .ptr]
def S2 (K : KT) (f_19 : Value) (w_20 : Option Addr) (w : World) : Prop :=
  G.ptr w_20 fun p21 => G.cSl p21 w.drew fun l22 => G.callI pr F f_19 "tocsin/over.least" [] w.drew fun v23 w24 => G.isI .i64 v23 fun n25 => sameAt p21 1 w.drew w24 ∧ (G.cond (decide (((l22.n : Nat) : Int) < n25)) (K 0 false (0 : Int) w24) (G.ptr w_20 fun p26 => G.cSl p26 w24 fun l27 => G.cI .i64 (p26.add 1) w24 fun n28 => G.cI .i64 (p26.add 2) w24 fun n29 => G.callI pr F f_19 "tocsin/over.value" [(.agg #[l27.v, (.int .i64 n28), (.int .i64 n29)])] w24 fun v30 w31 => G.isF v30 fun f32 => C.over_told f32 w31 fun f33 w34 => K f33 true (0 : Int) w34))
theorem S2_ok (Kv : Value → World → Prop) : OkT pr false none 93 g2 (S2 (Kt Kv)) (s2 (tl 5 bd)) (P1 Kv) := ok_last mixed FOk_ fun v ρ w => by kernel_rfl
def P3 (Kv : Value → World → Prop) : Post := next (get g2 (S2 (Kt Kv))) (P1 Kv)
def P4 (Kv : Value → World → Prop) : Post := inBlock 0 (P3 Kv)
@[reducible] def g5 : List SE := [.v 1 .sl, .v 2 (.int .i64), .v 3 (.int .i64), .v 13 (.raw), .v 14 .ptr, .v 40 .sl, .v 41 (.int .i64), .v 42 (.int .i64)]
def P6 (Kv : Value → World → Prop) (kc5 : Cur g5) : Post := next (get g5 kc5) (P4 Kv)
def S7 (K : KT) (kc5 : Cur g5) (l_51 : Sl) (from_52 : Int) (to_53 : Int) (f_54 : Value) (w_55 : Option Addr) (l56 : Sl) (n57 : Int) (n58 : Int) (w : World) : Prop :=
  G.cond (decide (n58 < n57)) (G.ix l56.a l56.n n58 2 fun p59 => G.cI .i64 p59 w fun n60 => G.cF .f64 (p59.add 1) w fun f61 => G.new (.cells #[(.int .i64 (0 : Int)), (.float .f64 0)] 33) w fun p62 w63 => G.st p62 (.int .i64 n60) w63 fun w64 => G.st (p62.add 1) (.float .f64 f61) w64 fun w65 => G.cI .i64 p62 w65.drew fun n66 => G.cond (decide (n66 ≤ from_52)) (K 0 false (1 : Int) w65.drew) (G.cI .i64 p62 w65.drew fun n67 => G.cond (decide (n67 > to_53)) (K 0 false (1 : Int) w65.drew) (G.cond (decide (n58 > (0 : Int))) (G.cI .i64 p62 w65.drew fun n68 => G.ix l_51.a l_51.n (IntKind.i64.wrap (n58 - (1 : Int))) 2 fun p69 => G.cI .i64 p69 w65.drew fun n70 => G.cond (decide (n68 ≤ n70)) (K 0 false (1 : Int) w65.drew) (G.cF .f64 (p62.add 1) w65.drew fun f71 => C.math_Float64bits f71 w65.drew fun n72 w73 => G.cond (n72 != (9218868437227405314 : Int)) (G.ptr w_55 fun p74 => G.cSl p74 w73 fun l75 => G.cI .i64 p62 w73 fun n76 => G.cF .f64 (p62.add 1) w73 fun f77 => G.new (.cells #[(.int .i64 n76), (.float .f64 f77)] 33) w73 fun p78 w79 => G.runSl pr (Builtin.append_ #[28, 28] 28 #[l75.v, (Sl.v (⟨some p78, 1, 1⟩ : Sl))]) w79 fun l80 w81 => G.ptr w_55 fun p82 => G.st p82 l80.v w81 fun w83 => kc5 l_51 from_52 to_53 f_54 w_55 l56 n57 (IntKind.i64.wrap (n58 + (1 : Int))) w83) (kc5 l_51 from_52 to_53 f_54 w_55 l56 n57 (IntKind.i64.wrap (n58 + (1 : Int))) w73))) (G.cF .f64 (p62.add 1) w65.drew fun f84 => C.math_Float64bits f84 w65.drew fun n85 w86 => G.cond (n85 != (9218868437227405314 : Int)) (G.ptr w_55 fun p87 => G.cSl p87 w86 fun l88 => G.cI .i64 p62 w86 fun n89 => G.cF .f64 (p62.add 1) w86 fun f90 => G.new (.cells #[(.int .i64 n89), (.float .f64 f90)] 33) w86 fun p91 w92 => G.runSl pr (Builtin.append_ #[28, 28] 28 #[l88.v, (Sl.v (⟨some p91, 1, 1⟩ : Sl))]) w92 fun l93 w94 => G.ptr w_55 fun p95 => G.st p95 l93.v w94 fun w96 => kc5 l_51 from_52 to_53 f_54 w_55 l56 n57 (IntKind.i64.wrap (n58 + (1 : Int))) w96) (kc5 l_51 from_52 to_53 f_54 w_55 l56 n57 (IntKind.i64.wrap (n58 + (1 : Int))) w86))))) (S2 K f_54 w_55 w)
theorem S7_ok (Kv : Value → World → Prop) (kc5 : Cur g5) : OkT pr false none 93 g5 (S7 (Kt Kv) kc5) (lp (blk (tl 1 (s1 (tl 5 bd))))) (P6 Kv kc5) := ok_last mixed FOk_ fun v ρ w => by kernel_rfl
def L5 (K : KT) : Cur g5 := loopC g5 (S7 K)
theorem L5_ok (Kv : Value → World → Prop) : OkT pr false none 93 g5 (L5 (Kt Kv)) (blk (tl 1 (s1 (tl 5 bd)))) (P4 Kv) := ok_loop (B := S7 (Kt Kv)) (by kernel_rfl) fun kc => S7_ok Kv kc
theorem L5_ind {K : KT} {l_35 : Sl} {from_36 : Int} {to_37 : Int} {f_38 : Value} {w_39 : Option Addr} {l40 : Sl} {n41 : Int} {n42 : Int} {w : World} (h : ∀ X : Cur g5, (∀ l_35 from_36 to_37 f_38 w_39 l40 n41 n42 w, S7 K X l_35 from_36 to_37 f_38 w_39 l40 n41 n42 w → X l_35 from_36 to_37 f_38 w_39 l40 n41 n42 w) → X l_35 from_36 to_37 f_38 w_39 l40 n41 n42 w) : L5 K l_35 from_36 to_37 f_38 w_39 l40 n41 n42 w := fun X hX => h X fun l_35 from_36 to_37 f_38 w_39 l40 n41 n42 w hb => hX (l_35, from_36, to_37, f_38, w_39, l40, n41, n42, ()) w hb
theorem B8 (Kv : Value → World → Prop) : OkT pr false none 93 g5 (L5 (Kt Kv)) (tl 1 (s1 (tl 5 bd))) (P3 Kv) := ok_block 0 (by kernel_rfl) (L5_ok Kv)
@[reducible] def g9 : List SE := [.v 1 .sl, .v 2 (.int .i64), .v 3 (.int .i64), .v 13 (.raw), .v 14 .ptr]
def S9 (K : KT) (l_97 : Sl) (from_98 : Int) (to_99 : Int) (f_100 : Value) (w_101 : Option Addr) (w : World) : Prop :=
  L5 K l_97 from_98 to_99 f_100 w_101 l_97 ((l_97.n : Nat) : Int) (0 : Int) w
theorem S9_ok (Kv : Value → World → Prop) : OkT pr false none 93 g9 (S9 (Kt Kv)) (s1 (tl 5 bd)) (P3 Kv) := ok_group mixed FOk_ 1 (B8 Kv) fun v ρ w => by kernel_rfl
theorem Q10 (Kv : Value → World → Prop) : OkT pr false none 93 g9 (S9 (Kt Kv)) (tl 5 bd) (P1 Kv) := ok_seq (by kernel_rfl) (S2_ok Kv) (S9_ok Kv)
end over_Call
def over_Call (name_4 : ByteArray) (l_5 : Sl) (from_6 : Int) (to_7 : Int) (q_8 : Nat) (w : World) (K : over_Call.KT) : Prop :=
  C.over_find name_4 q_8 w fun v102 w103 => G.isNilI v102 fun b104 => G.cond b104 (K 0 false (60 : Int) w103) (G.cond (decide (from_6 < (-1099511627776 : Int))) (K 0 false (1 : Int) w103) (G.cond (decide (from_6 ≥ to_7)) (K 0 false (1 : Int) w103) (G.cond (decide (to_7 > (1125899906842624 : Int))) (K 0 false (1 : Int) w103) (G.cond (decide (to_7 < (0 : Int))) (K 0 false (1 : Int) w103) (G.new (.cells #[nilS.v, (.int .i64 (0 : Int)), (.int .i64 (0 : Int))] 52) w103 fun p105 w106 => G.st p105 nilS.v w106 fun w107 => G.st (p105.add 1) (.int .i64 from_6) w107 fun w108 => G.st (p105.add 2) (.int .i64 to_7) w108 fun w109 => over_Call.S9 K l_5 from_6 to_7 v102 (some p105) w109)))))
def over_Call.cl : CL := fun args K w => match args with
  | [.string x0, .slice x1_a x1_n x1_c, .int .i64 x2, .int .i64 x3, .float .f64 x4] => C.over_Call x0 ⟨x1_a, x1_n, x1_c⟩ x2 x3 x4 w (over_Call.Kt K)
  | _ => False
theorem over_Call.clok : OkC pr 11 over_Call.cl := by
  intro args K w h
  unfold over_Call.cl at h
  split at h
  · exact calls_group false mixed over_Call.FOk_ over_Call.fn rfl 5 (over_Call.Q10 K) (Eq.mp (by kernel_rfl) h)
  · exact h.elim

/-! tocsin/tocsinlaw17.three -/
namespace tocsinlaw17_three
abbrev KT := Sl → World → Prop
def Kt (Kv : Value → World → Prop) : KT := fun l1 w => Kv l1.v w
noncomputable def bd : Code := bdy Try.f24
theorem fn : FnOk pr 24 5 Try.f24 := ⟨Try.func24, by kernel_rfl, Try.ntmps24, by kernel_rfl, by kernel_rfl⟩
def F : Clee := ofL []
theorem FOk_ : FOk pr F := FOk_nil
def P1 (Kv : Value → World → Prop) : Post := bodyK false pr 5 Try.f24 Kv
end tocsinlaw17_three
def tocsinlaw17_three (w : World) (K : tocsinlaw17_three.KT) : Prop :=
  G.new (.cells #[(.int .i64 (10000 : Int)), (.float .f64 4607182418800017408), (.int .i64 (20000 : Int)), (.float .f64 4613937818241073152), (.int .i64 (30000 : Int)), (.float .f64 4611686018427387904)] 33) w fun p2 w3 => K (⟨some p2, 3, 3⟩ : Sl) w3
def tocsinlaw17_three.cl : CL := fun args K w => match args with
  | [] => C.tocsinlaw17_three w (tocsinlaw17_three.Kt K)
  | _ => False
theorem tocsinlaw17_three.clok : OkC pr 24 tocsinlaw17_three.cl := by
  intro args K w h
  unfold tocsinlaw17_three.cl at h
  split at h
  · exact calls_last false mixed tocsinlaw17_three.FOk_ tocsinlaw17_three.fn rfl (Eq.mp (by kernel_rfl) h)
  · exact h.elim

/-! tocsin/tocsinlaw17.known -/
namespace tocsinlaw17_known
abbrev KT := Bool → World → Prop
def Kt (Kv : Value → World → Prop) : KT := fun b1 w => Kv (.bool b1) w
noncomputable def bd : Code := bdy Try.f10
theorem fn : FnOk pr 10 44 Try.f10 := ⟨Try.func10, by kernel_rfl, Try.ntmps10, by kernel_rfl, by kernel_rfl⟩
def F : Clee := ofL [(7, C.over_Quantile.cl), (11, C.over_Call.cl), (24, C.tocsinlaw17_three.cl)]
theorem FOk_ : FOk pr F := FOk_cons C.over_Quantile.clok (FOk_cons C.over_Call.clok (FOk_cons C.tocsinlaw17_three.clok (FOk_nil)))
def P1 (Kv : Value → World → Prop) : Post := bodyK false pr 44 Try.f10 Kv
end tocsinlaw17_known
def tocsinlaw17_known (w : World) (K : tocsinlaw17_known.KT) : Prop :=
  C.tocsinlaw17_three w fun l2 w3 => C.over_Call (⟨#[105, 110, 99, 114, 101, 97, 115, 101]⟩ : ByteArray) l2 (0 : Int) (40000 : Int) 0 w3 fun f4 b5 n6 w7 => C.tocsinlaw17_three w7 fun l8 w9 => C.over_Call (⟨#[100, 101, 108, 116, 97]⟩ : ByteArray) l8 (0 : Int) (40000 : Int) 0 w9 fun f10 b11 n12 w13 => G.cond b5 (G.cond b11 (G.cond (n6 == (0 : Int)) (G.cond (n12 == (0 : Int)) (G.cond (G.feq f4 4619567317775286272) (G.cond (G.feq f10 4611686018427387904) (G.new (.cells #[(.float .f64 4607182418800017408), (.float .f64 4611686018427387904), (.float .f64 4616189618054758400)] 22) w13 fun p14 w15 => C.over_Quantile 4602678819172646912 (⟨some p14, 3, 3⟩ : Sl) w15 fun f16 w17 => K (G.feq f16 4611686018427387904) w17) (K false w13)) (K false w13)) (K false w13)) (K false w13)) (K false w13)) (K false w13)
def tocsinlaw17_known.cl : CL := fun args K w => match args with
  | [] => C.tocsinlaw17_known w (tocsinlaw17_known.Kt K)
  | _ => False
theorem tocsinlaw17_known.clok : OkC pr 10 tocsinlaw17_known.cl := by
  intro args K w h
  unfold tocsinlaw17_known.cl at h
  split at h
  · exact calls_last false mixed tocsinlaw17_known.FOk_ tocsinlaw17_known.fn rfl (Eq.mp (by kernel_rfl) h)
  · exact h.elim

/-! tocsin/tocsinlaw17.OverQuantiles -/
namespace tocsinlaw17_OverQuantiles
abbrev KT := Bool → World → Prop
def Kt (Kv : Value → World → Prop) : KT := fun b1 w => Kv (.bool b1) w
noncomputable def bd : Code := bdy Try.f3
theorem fn : FnOk pr 3 114 Try.f3 := ⟨Try.func3, by kernel_rfl, Try.ntmps3, by kernel_rfl, by kernel_rfl⟩
def F : Clee := ofL [(7, C.over_Quantile.cl), (8, C.tocsinlaw17_bits.cl), (9, C.tocsinref17_Quantile.cl), (10, C.tocsinlaw17_known.cl)]
theorem FOk_ : FOk pr F := FOk_cons C.over_Quantile.clok (FOk_cons C.tocsinlaw17_bits.clok (FOk_cons C.tocsinref17_Quantile.clok (FOk_cons C.tocsinlaw17_known.clok (FOk_nil))))
def P1 (Kv : Value → World → Prop) : Post := bodyK false pr 114 Try.f3 Kv
@[reducible] def g2 : List SE := [.v 1 .sl, .v 9 (.fl .f64), .v 10 (.fl .f64)]
def S2 (K : KT) (l_14 : Sl) (least_15 : Nat) (most_16 : Nat) (w : World) : Prop :=
  C.over_Quantile 0 l_14 w fun f17 w18 => G.cond (G.feq f17 least_15) (C.over_Quantile 4607182418800017408 l_14 w18 fun f19 w20 => G.cond (G.feq f19 most_16) (C.tocsinlaw17_known w20 fun b21 w22 => K b21 w22) (K false w20)) (K false w18)
theorem S2_ok (Kv : Value → World → Prop) : OkT pr false none 114 g2 (S2 (Kt Kv)) (s2 (tl 4 (s2 (tl 6 bd)))) (P1 Kv) := ok_last mixed FOk_ fun v ρ w => by kernel_rfl
def P3 (Kv : Value → World → Prop) : Post := next (get g2 (S2 (Kt Kv))) (P1 Kv)
def P4 (Kv : Value → World → Prop) : Post := inBlock 2 (P3 Kv)
@[reducible] def g5 : List SE := [.v 1 .sl, .v 9 (.fl .f64), .v 10 (.fl .f64), .v 11 (.int .i64)]
def P6 (Kv : Value → World → Prop) (kc5 : Cur g5) : Post := next (get g5 kc5) (P4 Kv)
def S7 (K : KT) (kc5 : Cur g5) (l_31 : Sl) (least_32 : Nat) (most_33 : Nat) (i_34 : Int) (w : World) : Prop :=
  G.cond (decide (i_34 < ((l_31.n : Nat) : Int))) (G.ix l_31.a l_31.n i_34 1 fun p35 => G.cF .f64 p35 w.drew fun f36 => G.ix l_31.a l_31.n i_34 1 fun p37 => G.cF .f64 p37 w.drew fun f38 => G.fa .sub f36 f38 w.drew fun f39 w40 => G.cond (G.fne f39 0) (C.tocsinlaw17_known w40 fun b41 w42 => K b41 w42) (G.ix l_31.a l_31.n i_34 1 fun p43 => G.cF .f64 p43 w40 fun f44 => G.cond (G.flt f44 least_32) (G.ix l_31.a l_31.n i_34 1 fun p45 => G.cF .f64 p45 w40 fun f46 => G.ix l_31.a l_31.n i_34 1 fun p47 => G.cF .f64 p47 w40 fun f48 => G.cond (G.fgt f48 most_33) (G.ix l_31.a l_31.n i_34 1 fun p49 => G.cF .f64 p49 w40 fun f50 => kc5 l_31 f46 f50 (IntKind.i64.wrap (i_34 + (1 : Int))) w40) (kc5 l_31 f46 most_33 (IntKind.i64.wrap (i_34 + (1 : Int))) w40)) (G.ix l_31.a l_31.n i_34 1 fun p51 => G.cF .f64 p51 w40 fun f52 => G.cond (G.fgt f52 most_33) (G.ix l_31.a l_31.n i_34 1 fun p53 => G.cF .f64 p53 w40 fun f54 => kc5 l_31 least_32 f54 (IntKind.i64.wrap (i_34 + (1 : Int))) w40) (kc5 l_31 least_32 most_33 (IntKind.i64.wrap (i_34 + (1 : Int))) w40)))) (S2 K l_31 least_32 most_33 w)
theorem S7_ok (Kv : Value → World → Prop) (kc5 : Cur g5) : OkT pr false none 114 g5 (S7 (Kt Kv) kc5) (lp (blk (tl 1 (s1 (tl 4 (s2 (tl 6 bd))))))) (P6 Kv kc5) := ok_last mixed FOk_ fun v ρ w => by kernel_rfl
def L5 (K : KT) : Cur g5 := loopC g5 (S7 K)
theorem L5_ok (Kv : Value → World → Prop) : OkT pr false none 114 g5 (L5 (Kt Kv)) (blk (tl 1 (s1 (tl 4 (s2 (tl 6 bd)))))) (P4 Kv) := ok_loop (B := S7 (Kt Kv)) (by kernel_rfl) fun kc => S7_ok Kv kc
theorem L5_ind {K : KT} {l_23 : Sl} {least_24 : Nat} {most_25 : Nat} {i_26 : Int} {w : World} (h : ∀ X : Cur g5, (∀ l_23 least_24 most_25 i_26 w, S7 K X l_23 least_24 most_25 i_26 w → X l_23 least_24 most_25 i_26 w) → X l_23 least_24 most_25 i_26 w) : L5 K l_23 least_24 most_25 i_26 w := fun X hX => h X fun l_23 least_24 most_25 i_26 w hb => hX (l_23, least_24, most_25, i_26, ()) w hb
theorem B8 (Kv : Value → World → Prop) : OkT pr false none 114 g5 (L5 (Kt Kv)) (tl 1 (s1 (tl 4 (s2 (tl 6 bd))))) (P3 Kv) := ok_block 2 (by kernel_rfl) (L5_ok Kv)
def S9 (K : KT) (l_55 : Sl) (least_56 : Nat) (most_57 : Nat) (w : World) : Prop :=
  L5 K l_55 least_56 most_57 (0 : Int) w
theorem S9_ok (Kv : Value → World → Prop) : OkT pr false none 114 g2 (S9 (Kt Kv)) (s1 (tl 4 (s2 (tl 6 bd)))) (P3 Kv) := ok_group mixed FOk_ 1 (B8 Kv) fun v ρ w => by kernel_rfl
theorem Q10 (Kv : Value → World → Prop) : OkT pr false none 114 g2 (S9 (Kt Kv)) (tl 4 (s2 (tl 6 bd))) (P1 Kv) := ok_seq (by kernel_rfl) (S2_ok Kv) (S9_ok Kv)
@[reducible] def g11 : List SE := [.v 0 (.fl .f64), .v 1 .sl, .v 6 (.fl .f64), .v 7 .sl]
def S11 (K : KT) (q_58 : Nat) (l_59 : Sl) (a_60 : Nat) (back_61 : Sl) (w : World) : Prop :=
  C.over_Quantile q_58 back_61 w fun f62 w63 => C.tocsinlaw17_bits f62 a_60 w63 fun b64 w65 => G.cond (!b64) (K false w65) (G.cond (((l_59.n : Nat) : Int) == (0 : Int)) (C.tocsinlaw17_known w65 fun b66 w67 => K b66 w67) (G.ix l_59.a l_59.n (0 : Int) 1 fun p68 => G.cF .f64 p68 w65 fun f69 => G.ix l_59.a l_59.n (0 : Int) 1 fun p70 => G.cF .f64 p70 w65 fun f71 => S9 K l_59 f69 f71 w65))
theorem S11_ok (Kv : Value → World → Prop) : OkT pr false none 114 g11 (S11 (Kt Kv)) (s2 (tl 6 bd)) (P1 Kv) := ok_group mixed FOk_ 4 (Q10 Kv) fun v ρ w => by kernel_rfl
def P12 (Kv : Value → World → Prop) : Post := next (get g11 (S11 (Kt Kv))) (P1 Kv)
def P13 (Kv : Value → World → Prop) : Post := inBlock 0 (P12 Kv)
@[reducible] def g14 : List SE := [.v 0 (.fl .f64), .v 1 .sl, .v 5 .sl, .v 6 (.fl .f64), .v 7 .sl, .v 8 (.int .i64)]
def P15 (Kv : Value → World → Prop) (kc14 : Cur g14) : Post := next (get g14 kc14) (P13 Kv)
def S16 (K : KT) (kc14 : Cur g14) (q_84 : Nat) (l_85 : Sl) (own_86 : Sl) (a_87 : Nat) (back_88 : Sl) (i_89 : Int) (w : World) : Prop :=
  G.cond (decide (i_89 ≥ (0 : Int))) (G.ix own_86.a own_86.n i_89 1 fun p90 => G.cF .f64 p90 w.drew fun f91 => G.ix l_85.a l_85.n i_89 1 fun p92 => G.cF .f64 p92 w.drew fun f93 => C.tocsinlaw17_bits f91 f93 w.drew fun b94 w95 => G.cond (!b94) (K false w95) (G.ix l_85.a l_85.n i_89 1 fun p96 => G.cF .f64 p96 w95 fun f97 => G.new (.cells #[(.float .f64 f97)] 22) w95 fun p98 w99 => G.runSl pr (Builtin.append_ #[23, 23] 23 #[back_88.v, (Sl.v (⟨some p98, 1, 1⟩ : Sl))]) w99 fun l100 w101 => kc14 q_84 l_85 own_86 a_87 l100 (IntKind.i64.wrap (i_89 - (1 : Int))) w101)) (S11 K q_84 l_85 a_87 back_88 w)
theorem S16_ok (Kv : Value → World → Prop) (kc14 : Cur g14) : OkT pr false none 114 g14 (S16 (Kt Kv) kc14) (lp (blk (tl 1 (s1 (tl 6 bd))))) (P15 Kv kc14) := ok_last mixed FOk_ fun v ρ w => by kernel_rfl
def L14 (K : KT) : Cur g14 := loopC g14 (S16 K)
theorem L14_ok (Kv : Value → World → Prop) : OkT pr false none 114 g14 (L14 (Kt Kv)) (blk (tl 1 (s1 (tl 6 bd)))) (P13 Kv) := ok_loop (B := S16 (Kt Kv)) (by kernel_rfl) fun kc => S16_ok Kv kc
theorem L14_ind {K : KT} {q_72 : Nat} {l_73 : Sl} {own_74 : Sl} {a_75 : Nat} {back_76 : Sl} {i_77 : Int} {w : World} (h : ∀ X : Cur g14, (∀ q_72 l_73 own_74 a_75 back_76 i_77 w, S16 K X q_72 l_73 own_74 a_75 back_76 i_77 w → X q_72 l_73 own_74 a_75 back_76 i_77 w) → X q_72 l_73 own_74 a_75 back_76 i_77 w) : L14 K q_72 l_73 own_74 a_75 back_76 i_77 w := fun X hX => h X fun q_72 l_73 own_74 a_75 back_76 i_77 w hb => hX (q_72, l_73, own_74, a_75, back_76, i_77, ()) w hb
theorem B17 (Kv : Value → World → Prop) : OkT pr false none 114 g14 (L14 (Kt Kv)) (tl 1 (s1 (tl 6 bd))) (P12 Kv) := ok_block 0 (by kernel_rfl) (L14_ok Kv)
@[reducible] def g18 : List SE := [.v 0 (.fl .f64), .v 1 .sl, .v 5 .sl, .v 6 (.fl .f64), .v 7 .sl]
def S18 (K : KT) (q_102 : Nat) (l_103 : Sl) (own_104 : Sl) (a_105 : Nat) (back_106 : Sl) (w : World) : Prop :=
  L14 K q_102 l_103 own_104 a_105 back_106 (IntKind.i64.wrap (((l_103.n : Nat) : Int) - (1 : Int))) w
theorem S18_ok (Kv : Value → World → Prop) : OkT pr false none 114 g18 (S18 (Kt Kv)) (s1 (tl 6 bd)) (P12 Kv) := ok_group mixed FOk_ 1 (B17 Kv) fun v ρ w => by kernel_rfl
theorem Q19 (Kv : Value → World → Prop) : OkT pr false none 114 g18 (S18 (Kt Kv)) (tl 6 bd) (P1 Kv) := ok_seq (by kernel_rfl) (S11_ok Kv) (S18_ok Kv)
end tocsinlaw17_OverQuantiles
def tocsinlaw17_OverQuantiles (q_2 : Nat) (l_3 : Sl) (w : World) (K : tocsinlaw17_OverQuantiles.KT) : Prop :=
  G.runSl pr (Builtin.append_ #[23, 23] 23 #[nilS.v, l_3.v]) w fun l107 w108 => C.over_Quantile q_2 l107 w108 fun f109 w110 => C.tocsinref17_Quantile q_2 l_3 w110 fun f111 w112 => C.tocsinlaw17_bits f109 f111 w112 fun b113 w114 => G.cond (!b113) (K false w114) (tocsinlaw17_OverQuantiles.S18 K q_2 l_3 l107 f109 nilS w114)
def tocsinlaw17_OverQuantiles.cl : CL := fun args K w => match args with
  | [.float .f64 x0, .slice x1_a x1_n x1_c] => C.tocsinlaw17_OverQuantiles x0 ⟨x1_a, x1_n, x1_c⟩ w (tocsinlaw17_OverQuantiles.Kt K)
  | _ => False
theorem tocsinlaw17_OverQuantiles.clok : OkC pr 3 tocsinlaw17_OverQuantiles.cl := by
  intro args K w h
  unfold tocsinlaw17_OverQuantiles.cl at h
  split at h
  · exact calls_group false mixed tocsinlaw17_OverQuantiles.FOk_ tocsinlaw17_OverQuantiles.fn rfl 6 (tocsinlaw17_OverQuantiles.Q19 K) (Eq.mp (by kernel_rfl) h)
  · exact h.elim

/-! tocsin/tocsinlaw17.OverBounds -/
namespace tocsinlaw17_OverBounds
abbrev KT := Bool → World → Prop
def Kt (Kv : Value → World → Prop) : KT := fun b1 w => Kv (.bool b1) w
noncomputable def bd : Code := bdy Try.f4
theorem fn : FnOk pr 4 151 Try.f4 := ⟨Try.func4, by kernel_rfl, Try.ntmps4, by kernel_rfl, by kernel_rfl⟩
def F : Clee := ofL [(10, C.tocsinlaw17_known.cl), (11, C.over_Call.cl)]
theorem FOk_ : FOk pr F := FOk_cons C.tocsinlaw17_known.clok (FOk_cons C.over_Call.clok (FOk_nil))
def P1 (Kv : Value → World → Prop) : Post := bodyK false pr 151 Try.f4 Kv
@[reducible] def g2 : List SE := [.v 0 .sl, .v 7 (.fl .f64), .v 10 (.fl .f64), .v 13 (.fl .f64), .v 16 (.fl .f64)]
def S2 (K : KT) (l_8 : Sl) (n_9 : Nat) (last_10 : Nat) (least_11 : Nat) (most_12 : Nat) (w : World) : Prop :=
  G.cond (G.feq n_9 (FloatKind.f64.nearest ((l_8.n : Nat) : Int))) (G.cond (G.fge last_10 least_11) (G.cond (G.fle last_10 most_12) (C.tocsinlaw17_known w fun b13 w14 => K b13 w14) (K false w)) (K false w)) (K false w)
theorem S2_ok (Kv : Value → World → Prop) : OkT pr false none 151 g2 (S2 (Kt Kv)) (s2 (tl 10 bd)) (P1 Kv) := ok_last mixed FOk_ fun v ρ w => by kernel_rfl
def P3 (Kv : Value → World → Prop) : Post := next (get g2 (S2 (Kt Kv))) (P1 Kv)
def P4 (Kv : Value → World → Prop) : Post := inBlock 0 (P3 Kv)
@[reducible] def g5 : List SE := [.v 0 .sl, .v 7 (.fl .f64), .v 10 (.fl .f64), .v 13 (.fl .f64), .v 16 (.fl .f64), .v 28 (.int .i64)]
def P6 (Kv : Value → World → Prop) (kc5 : Cur g5) : Post := next (get g5 kc5) (P4 Kv)
def S7 (K : KT) (kc5 : Cur g5) (l_27 : Sl) (n_28 : Nat) (last_29 : Nat) (least_30 : Nat) (most_31 : Nat) (i_32 : Int) (w : World) : Prop :=
  G.cond (decide (i_32 < ((l_27.n : Nat) : Int))) (G.ix l_27.a l_27.n i_32 2 fun p33 => G.cF .f64 (p33.add 1) w.drew fun f34 => G.ix l_27.a l_27.n i_32 2 fun p35 => G.cF .f64 (p35.add 1) w.drew fun f36 => G.cond (G.fne f34 f36) (C.tocsinlaw17_known w.drew fun b37 w38 => K b37 w38) (kc5 l_27 n_28 last_29 least_30 most_31 (IntKind.i64.wrap (i_32 + (1 : Int))) w.drew)) (S2 K l_27 n_28 last_29 least_30 most_31 w)
theorem S7_ok (Kv : Value → World → Prop) (kc5 : Cur g5) : OkT pr false none 151 g5 (S7 (Kt Kv) kc5) (lp (blk (tl 1 (s1 (tl 10 bd))))) (P6 Kv kc5) := ok_last mixed FOk_ fun v ρ w => by kernel_rfl
def L5 (K : KT) : Cur g5 := loopC g5 (S7 K)
theorem L5_ok (Kv : Value → World → Prop) : OkT pr false none 151 g5 (L5 (Kt Kv)) (blk (tl 1 (s1 (tl 10 bd)))) (P4 Kv) := ok_loop (B := S7 (Kt Kv)) (by kernel_rfl) fun kc => S7_ok Kv kc
theorem L5_ind {K : KT} {l_15 : Sl} {n_16 : Nat} {last_17 : Nat} {least_18 : Nat} {most_19 : Nat} {i_20 : Int} {w : World} (h : ∀ X : Cur g5, (∀ l_15 n_16 last_17 least_18 most_19 i_20 w, S7 K X l_15 n_16 last_17 least_18 most_19 i_20 w → X l_15 n_16 last_17 least_18 most_19 i_20 w) → X l_15 n_16 last_17 least_18 most_19 i_20 w) : L5 K l_15 n_16 last_17 least_18 most_19 i_20 w := fun X hX => h X fun l_15 n_16 last_17 least_18 most_19 i_20 w hb => hX (l_15, n_16, last_17, least_18, most_19, i_20, ()) w hb
theorem B8 (Kv : Value → World → Prop) : OkT pr false none 151 g5 (L5 (Kt Kv)) (tl 1 (s1 (tl 10 bd))) (P3 Kv) := ok_block 0 (by kernel_rfl) (L5_ok Kv)
def S9 (K : KT) (l_39 : Sl) (n_40 : Nat) (last_41 : Nat) (least_42 : Nat) (most_43 : Nat) (w : World) : Prop :=
  L5 K l_39 n_40 last_41 least_42 most_43 (0 : Int) w
theorem S9_ok (Kv : Value → World → Prop) : OkT pr false none 151 g2 (S9 (Kt Kv)) (s1 (tl 10 bd)) (P3 Kv) := ok_group mixed FOk_ 1 (B8 Kv) fun v ρ w => by kernel_rfl
theorem Q10 (Kv : Value → World → Prop) : OkT pr false none 151 g2 (S9 (Kt Kv)) (tl 10 bd) (P1 Kv) := ok_seq (by kernel_rfl) (S2_ok Kv) (S9_ok Kv)
end tocsinlaw17_OverBounds
def tocsinlaw17_OverBounds (l_2 : Sl) (from_3 : Int) (to_4 : Int) (w : World) (K : tocsinlaw17_OverBounds.KT) : Prop :=
  C.over_Call (⟨#[99, 111, 117, 110, 116, 95, 111, 118, 101, 114, 95, 116, 105, 109, 101]⟩ : ByteArray) l_2 from_3 to_4 0 w fun f44 b45 n46 w47 => C.over_Call (⟨#[108, 97, 115, 116, 95, 111, 118, 101, 114, 95, 116, 105, 109, 101]⟩ : ByteArray) l_2 from_3 to_4 0 w47 fun f48 b49 n50 w51 => C.over_Call (⟨#[109, 105, 110, 95, 111, 118, 101, 114, 95, 116, 105, 109, 101]⟩ : ByteArray) l_2 from_3 to_4 0 w51 fun f52 b53 n54 w55 => C.over_Call (⟨#[109, 97, 120, 95, 111, 118, 101, 114, 95, 116, 105, 109, 101]⟩ : ByteArray) l_2 from_3 to_4 0 w55 fun f56 b57 n58 w59 => C.over_Call (⟨#[112, 114, 101, 115, 101, 110, 116, 95, 111, 118, 101, 114, 95, 116, 105, 109, 101]⟩ : ByteArray) l_2 from_3 to_4 0 w59 fun f60 b61 n62 w63 => C.over_Call (⟨#[99, 104, 97, 110, 103, 101, 115]⟩ : ByteArray) l_2 from_3 to_4 0 w63 fun f64 b65 n66 w67 => C.over_Call (⟨#[114, 101, 115, 101, 116, 115]⟩ : ByteArray) l_2 from_3 to_4 0 w67 fun f68 b69 n70 w71 => G.cond (n46 != (0 : Int)) (C.tocsinlaw17_known w71 fun b72 w73 => K b72 w73) (G.cond (!b45) (C.tocsinlaw17_known w71 fun b74 w75 => K b74 w75) (G.cond (G.fne f60 4607182418800017408) (K false w71) (G.cond (G.flt f44 4607182418800017408) (K false w71) (G.cond (G.fgt f44 (FloatKind.f64.nearest ((l_2.n : Nat) : Int))) (K false w71) (G.cond (G.fgt f68 f64) (K false w71) (G.cond (G.fge f64 f44) (K false w71) (tocsinlaw17_OverBounds.S9 K l_2 f44 f48 f52 f56 w71)))))))
def tocsinlaw17_OverBounds.cl : CL := fun args K w => match args with
  | [.slice x0_a x0_n x0_c, .int .i64 x1, .int .i64 x2] => C.tocsinlaw17_OverBounds ⟨x0_a, x0_n, x0_c⟩ x1 x2 w (tocsinlaw17_OverBounds.Kt K)
  | _ => False
theorem tocsinlaw17_OverBounds.clok : OkC pr 4 tocsinlaw17_OverBounds.cl := by
  intro args K w h
  unfold tocsinlaw17_OverBounds.cl at h
  split at h
  · exact calls_group false mixed tocsinlaw17_OverBounds.FOk_ tocsinlaw17_OverBounds.fn rfl 10 (tocsinlaw17_OverBounds.Q10 K) (Eq.mp (by kernel_rfl) h)
  · exact h.elim

/-! tocsin/tocsinlaw17.OverRises -/
namespace tocsinlaw17_OverRises
abbrev KT := Bool → World → Prop
def Kt (Kv : Value → World → Prop) : KT := fun b1 w => Kv (.bool b1) w
noncomputable def bd : Code := bdy Try.f5
theorem fn : FnOk pr 5 129 Try.f5 := ⟨Try.func5, by kernel_rfl, Try.ntmps5, by kernel_rfl, by kernel_rfl⟩
def F : Clee := ofL [(8, C.tocsinlaw17_bits.cl), (10, C.tocsinlaw17_known.cl), (11, C.over_Call.cl)]
theorem FOk_ : FOk pr F := FOk_cons C.tocsinlaw17_bits.clok (FOk_cons C.tocsinlaw17_known.clok (FOk_cons C.over_Call.clok (FOk_nil)))
def P1 (Kv : Value → World → Prop) : Post := bodyK false pr 129 Try.f5 Kv
@[reducible] def g2 : List SE := [.v 0 .sl, .v 7 (.fl .f64), .v 10 (.fl .f64)]
def S2 (K : KT) (l_8 : Sl) (a_9 : Nat) (b_10 : Nat) (w : World) : Prop :=
  G.ix l_8.a l_8.n (0 : Int) 2 fun p11 => G.cF .f64 (p11.add 1) w.drew fun f12 => G.cond (G.fge f12 0) (G.ix l_8.a l_8.n (0 : Int) 2 fun p13 => G.cF .f64 (p13.add 1) w.drew fun f14 => G.ix l_8.a l_8.n (IntKind.i64.wrap (((l_8.n : Nat) : Int) - (1 : Int))) 2 fun p15 => G.cF .f64 (p15.add 1) w.drew fun f16 => G.cond (G.fne f14 f16) (C.tocsinlaw17_known w.drew fun b17 w18 => K b17 w18) (C.tocsinlaw17_bits a_9 b_10 w.drew fun b19 w20 => G.cond b19 (C.tocsinlaw17_known w20 fun b21 w22 => K b21 w22) (K false w20))) (C.tocsinlaw17_bits a_9 b_10 w.drew fun b23 w24 => G.cond b23 (C.tocsinlaw17_known w24 fun b25 w26 => K b25 w26) (K false w24))
theorem S2_ok (Kv : Value → World → Prop) : OkT pr false none 129 g2 (S2 (Kt Kv)) (s2 (tl 6 bd)) (P1 Kv) := ok_last mixed FOk_ fun v ρ w => by kernel_rfl
def P3 (Kv : Value → World → Prop) : Post := next (get g2 (S2 (Kt Kv))) (P1 Kv)
def P4 (Kv : Value → World → Prop) : Post := inBlock 0 (P3 Kv)
@[reducible] def g5 : List SE := [.v 0 .sl, .v 7 (.fl .f64), .v 10 (.fl .f64), .v 16 (.int .i64)]
def P6 (Kv : Value → World → Prop) (kc5 : Cur g5) : Post := next (get g5 kc5) (P4 Kv)
def S7 (K : KT) (kc5 : Cur g5) (l_35 : Sl) (a_36 : Nat) (b_37 : Nat) (i_38 : Int) (w : World) : Prop :=
  G.cond (decide (i_38 < ((l_35.n : Nat) : Int))) (G.ix l_35.a l_35.n i_38 2 fun p39 => G.cF .f64 (p39.add 1) w.drew fun f40 => G.ix l_35.a l_35.n i_38 2 fun p41 => G.cF .f64 (p41.add 1) w.drew fun f42 => G.cond (G.fne f40 f42) (C.tocsinlaw17_known w.drew fun b43 w44 => K b43 w44) (G.cond (decide (i_38 > (0 : Int))) (G.ix l_35.a l_35.n i_38 2 fun p45 => G.cF .f64 (p45.add 1) w.drew fun f46 => G.ix l_35.a l_35.n (IntKind.i64.wrap (i_38 - (1 : Int))) 2 fun p47 => G.cF .f64 (p47.add 1) w.drew fun f48 => G.cond (G.flt f46 f48) (C.tocsinlaw17_known w.drew fun b49 w50 => K b49 w50) (kc5 l_35 a_36 b_37 (IntKind.i64.wrap (i_38 + (1 : Int))) w.drew)) (kc5 l_35 a_36 b_37 (IntKind.i64.wrap (i_38 + (1 : Int))) w.drew))) (S2 K l_35 a_36 b_37 w)
theorem S7_ok (Kv : Value → World → Prop) (kc5 : Cur g5) : OkT pr false none 129 g5 (S7 (Kt Kv) kc5) (lp (blk (tl 1 (s1 (tl 6 bd))))) (P6 Kv kc5) := ok_last mixed FOk_ fun v ρ w => by kernel_rfl
def L5 (K : KT) : Cur g5 := loopC g5 (S7 K)
theorem L5_ok (Kv : Value → World → Prop) : OkT pr false none 129 g5 (L5 (Kt Kv)) (blk (tl 1 (s1 (tl 6 bd)))) (P4 Kv) := ok_loop (B := S7 (Kt Kv)) (by kernel_rfl) fun kc => S7_ok Kv kc
theorem L5_ind {K : KT} {l_27 : Sl} {a_28 : Nat} {b_29 : Nat} {i_30 : Int} {w : World} (h : ∀ X : Cur g5, (∀ l_27 a_28 b_29 i_30 w, S7 K X l_27 a_28 b_29 i_30 w → X l_27 a_28 b_29 i_30 w) → X l_27 a_28 b_29 i_30 w) : L5 K l_27 a_28 b_29 i_30 w := fun X hX => h X fun l_27 a_28 b_29 i_30 w hb => hX (l_27, a_28, b_29, i_30, ()) w hb
theorem B8 (Kv : Value → World → Prop) : OkT pr false none 129 g5 (L5 (Kt Kv)) (tl 1 (s1 (tl 6 bd))) (P3 Kv) := ok_block 0 (by kernel_rfl) (L5_ok Kv)
def S9 (K : KT) (l_51 : Sl) (a_52 : Nat) (b_53 : Nat) (w : World) : Prop :=
  L5 K l_51 a_52 b_53 (0 : Int) w
theorem S9_ok (Kv : Value → World → Prop) : OkT pr false none 129 g2 (S9 (Kt Kv)) (s1 (tl 6 bd)) (P3 Kv) := ok_group mixed FOk_ 1 (B8 Kv) fun v ρ w => by kernel_rfl
theorem Q10 (Kv : Value → World → Prop) : OkT pr false none 129 g2 (S9 (Kt Kv)) (tl 6 bd) (P1 Kv) := ok_seq (by kernel_rfl) (S2_ok Kv) (S9_ok Kv)
end tocsinlaw17_OverRises
def tocsinlaw17_OverRises (l_2 : Sl) (from_3 : Int) (to_4 : Int) (w : World) (K : tocsinlaw17_OverRises.KT) : Prop :=
  C.over_Call (⟨#[105, 110, 99, 114, 101, 97, 115, 101]⟩ : ByteArray) l_2 from_3 to_4 0 w fun f54 b55 n56 w57 => C.over_Call (⟨#[100, 101, 108, 116, 97]⟩ : ByteArray) l_2 from_3 to_4 0 w57 fun f58 b59 n60 w61 => C.over_Call (⟨#[114, 97, 116, 101]⟩ : ByteArray) l_2 from_3 to_4 0 w61 fun f62 b63 n64 w65 => G.cond (n56 != n60) (K false w65) (G.cond (n56 != n64) (K false w65) (G.cond (!(b55 == b59)) (K false w65) (G.cond (!(b55 == b63)) (K false w65) (G.cond (!b55) (C.tocsinlaw17_known w65 fun b66 w67 => K b66 w67) (G.cond (decide (((l_2.n : Nat) : Int) < (2 : Int))) (C.tocsinlaw17_known w65 fun b68 w69 => K b68 w69) (tocsinlaw17_OverRises.S9 K l_2 f54 f58 w65))))))
def tocsinlaw17_OverRises.cl : CL := fun args K w => match args with
  | [.slice x0_a x0_n x0_c, .int .i64 x1, .int .i64 x2] => C.tocsinlaw17_OverRises ⟨x0_a, x0_n, x0_c⟩ x1 x2 w (tocsinlaw17_OverRises.Kt K)
  | _ => False
theorem tocsinlaw17_OverRises.clok : OkC pr 5 tocsinlaw17_OverRises.cl := by
  intro args K w h
  unfold tocsinlaw17_OverRises.cl at h
  split at h
  · exact calls_group false mixed tocsinlaw17_OverRises.FOk_ tocsinlaw17_OverRises.fn rfl 6 (tocsinlaw17_OverRises.Q10 K) (Eq.mp (by kernel_rfl) h)
  · exact h.elim

/-! tocsin/tocsinref17.Names -/
namespace tocsinref17_Names
abbrev KT := Sl → World → Prop
def Kt (Kv : Value → World → Prop) : KT := fun l1 w => Kv l1.v w
noncomputable def bd : Code := bdy Try.f13
theorem fn : FnOk pr 13 2 Try.f13 := ⟨Try.func13, by kernel_rfl, Try.ntmps13, by kernel_rfl, by kernel_rfl⟩
def F : Clee := ofL []
theorem FOk_ : FOk pr F := FOk_nil
def P1 (Kv : Value → World → Prop) : Post := bodyK false pr 2 Try.f13 Kv
end tocsinref17_Names
def tocsinref17_Names (w : World) (K : tocsinref17_Names.KT) : Prop :=
  G.new (.cells #[(.string (⟨#[97, 118, 103, 95, 111, 118, 101, 114, 95, 116, 105, 109, 101]⟩ : ByteArray)), (.string (⟨#[99, 104, 97, 110, 103, 101, 115]⟩ : ByteArray)), (.string (⟨#[99, 111, 117, 110, 116, 95, 111, 118, 101, 114, 95, 116, 105, 109, 101]⟩ : ByteArray)), (.string (⟨#[100, 101, 108, 116, 97]⟩ : ByteArray)), (.string (⟨#[105, 100, 101, 108, 116, 97]⟩ : ByteArray)), (.string (⟨#[105, 110, 99, 114, 101, 97, 115, 101]⟩ : ByteArray)), (.string (⟨#[105, 114, 97, 116, 101]⟩ : ByteArray)), (.string (⟨#[108, 97, 115, 116, 95, 111, 118, 101, 114, 95, 116, 105, 109, 101]⟩ : ByteArray)), (.string (⟨#[109, 97, 120, 95, 111, 118, 101, 114, 95, 116, 105, 109, 101]⟩ : ByteArray)), (.string (⟨#[109, 105, 110, 95, 111, 118, 101, 114, 95, 116, 105, 109, 101]⟩ : ByteArray)), (.string (⟨#[112, 114, 101, 115, 101, 110, 116, 95, 111, 118, 101, 114, 95, 116, 105, 109, 101]⟩ : ByteArray)), (.string (⟨#[113, 117, 97, 110, 116, 105, 108, 101, 95, 111, 118, 101, 114, 95, 116, 105, 109, 101]⟩ : ByteArray)), (.string (⟨#[114, 97, 116, 101]⟩ : ByteArray)), (.string (⟨#[114, 101, 115, 101, 116, 115]⟩ : ByteArray)), (.string (⟨#[115, 117, 109, 95, 111, 118, 101, 114, 95, 116, 105, 109, 101]⟩ : ByteArray))] 9) w fun p2 w3 => K (⟨some p2, 15, 15⟩ : Sl) w3
def tocsinref17_Names.cl : CL := fun args K w => match args with
  | [] => C.tocsinref17_Names w (tocsinref17_Names.Kt K)
  | _ => False
theorem tocsinref17_Names.clok : OkC pr 13 tocsinref17_Names.cl := by
  intro args K w h
  unfold tocsinref17_Names.cl at h
  split at h
  · exact calls_last false mixed tocsinref17_Names.FOk_ tocsinref17_Names.fn rfl (Eq.mp (by kernel_rfl) h)
  · exact h.elim

/-! tocsin/tocsinlaw17.OverStale -/
namespace tocsinlaw17_OverStale
abbrev KT := Bool → World → Prop
def Kt (Kv : Value → World → Prop) : KT := fun b1 w => Kv (.bool b1) w
noncomputable def bd : Code := bdy Try.f6
theorem fn : FnOk pr 6 111 Try.f6 := ⟨Try.func6, by kernel_rfl, Try.ntmps6, by kernel_rfl, by kernel_rfl⟩
def F : Clee := ofL [(8, C.tocsinlaw17_bits.cl), (10, C.tocsinlaw17_known.cl), (11, C.over_Call.cl), (12, C.math_Float64frombits.cl), (13, C.tocsinref17_Names.cl)]
theorem FOk_ : FOk pr F := FOk_cons C.tocsinlaw17_bits.clok (FOk_cons C.tocsinlaw17_known.clok (FOk_cons C.over_Call.clok (FOk_consX C.math_Float64frombits.clok (FOk_cons C.tocsinref17_Names.clok (FOk_nil)))))
def P1 (Kv : Value → World → Prop) : Post := bodyK false pr 111 Try.f6 Kv
@[reducible] def g2 : List SE := []
def S2 (K : KT) (w : World) : Prop :=
  C.tocsinlaw17_known w fun b6 w7 => K b6 w7
theorem S2_ok (Kv : Value → World → Prop) : OkT pr false none 111 g2 (S2 (Kt Kv)) (s2 (tl 1 (s2 (tl 2 bd)))) (P1 Kv) := ok_last mixed FOk_ fun v ρ w => by kernel_rfl
def P3 (Kv : Value → World → Prop) : Post := next (get g2 (S2 (Kt Kv))) (P1 Kv)
def P4 (Kv : Value → World → Prop) : Post := inBlock 2 (P3 Kv)
@[reducible] def g5 : List SE := [.v 0 .sl, .v 1 (.int .i64), .v 2 (.int .i64), .v 3 (.fl .f64), .v 9 .sl, .v 11 .sl, .v 12 (.int .i64)]
def P6 (Kv : Value → World → Prop) (kc5 : Cur g5) : Post := next (get g5 kc5) (P4 Kv)
def S7 (K : KT) (kc5 : Cur g5) (l_22 : Sl) (from_23 : Int) (to_24 : Int) (q_25 : Nat) (more_26 : Sl) (n_27 : Sl) (i_28 : Int) (w : World) : Prop :=
  G.cond (decide (i_28 < ((n_27.n : Nat) : Int))) (G.ix n_27.a n_27.n i_28 1 fun p29 => G.cS p29 w fun s30 => C.over_Call s30 l_22 from_23 to_24 q_25 w fun f31 b32 n33 w34 => G.ix n_27.a n_27.n i_28 1 fun p35 => G.cS p35 w34 fun s36 => C.over_Call s36 more_26 from_23 to_24 q_25 w34 fun f37 b38 n39 w40 => G.cond (n33 == (0 : Int)) (C.tocsinlaw17_bits f31 f37 w40 fun b41 w42 => G.cond (!b41) (K false w42) (G.cond (!(b32 == b38)) (K false w42) (G.cond (n39 != (0 : Int)) (K false w42) (kc5 l_22 from_23 to_24 q_25 more_26 n_27 (IntKind.i64.wrap (i_28 + (1 : Int))) w42)))) (kc5 l_22 from_23 to_24 q_25 more_26 n_27 (IntKind.i64.wrap (i_28 + (1 : Int))) w40)) (S2 K w)
theorem S7_ok (Kv : Value → World → Prop) (kc5 : Cur g5) : OkT pr false none 111 g5 (S7 (Kt Kv) kc5) (lp (blk (tl 1 (s1 (tl 1 (s2 (tl 2 bd))))))) (P6 Kv kc5) := ok_last mixed FOk_ fun v ρ w => by kernel_rfl
def L5 (K : KT) : Cur g5 := loopC g5 (S7 K)
theorem L5_ok (Kv : Value → World → Prop) : OkT pr false none 111 g5 (L5 (Kt Kv)) (blk (tl 1 (s1 (tl 1 (s2 (tl 2 bd)))))) (P4 Kv) := ok_loop (B := S7 (Kt Kv)) (by kernel_rfl) fun kc => S7_ok Kv kc
theorem L5_ind {K : KT} {l_8 : Sl} {from_9 : Int} {to_10 : Int} {q_11 : Nat} {more_12 : Sl} {n_13 : Sl} {i_14 : Int} {w : World} (h : ∀ X : Cur g5, (∀ l_8 from_9 to_10 q_11 more_12 n_13 i_14 w, S7 K X l_8 from_9 to_10 q_11 more_12 n_13 i_14 w → X l_8 from_9 to_10 q_11 more_12 n_13 i_14 w) → X l_8 from_9 to_10 q_11 more_12 n_13 i_14 w) : L5 K l_8 from_9 to_10 q_11 more_12 n_13 i_14 w := fun X hX => h X fun l_8 from_9 to_10 q_11 more_12 n_13 i_14 w hb => hX (l_8, from_9, to_10, q_11, more_12, n_13, i_14, ()) w hb
theorem B8 (Kv : Value → World → Prop) : OkT pr false none 111 g5 (L5 (Kt Kv)) (tl 1 (s1 (tl 1 (s2 (tl 2 bd))))) (P3 Kv) := ok_block 2 (by kernel_rfl) (L5_ok Kv)
@[reducible] def g9 : List SE := [.v 0 .sl, .v 1 (.int .i64), .v 2 (.int .i64), .v 3 (.fl .f64), .v 9 .sl, .v 11 .sl]
def S9 (K : KT) (l_43 : Sl) (from_44 : Int) (to_45 : Int) (q_46 : Nat) (more_47 : Sl) (n_48 : Sl) (w : World) : Prop :=
  L5 K l_43 from_44 to_45 q_46 more_47 n_48 (0 : Int) w
theorem S9_ok (Kv : Value → World → Prop) : OkT pr false none 111 g9 (S9 (Kt Kv)) (s1 (tl 1 (s2 (tl 2 bd)))) (P3 Kv) := ok_group mixed FOk_ 1 (B8 Kv) fun v ρ w => by kernel_rfl
theorem Q10 (Kv : Value → World → Prop) : OkT pr false none 111 g9 (S9 (Kt Kv)) (tl 1 (s2 (tl 2 bd))) (P1 Kv) := ok_seq (by kernel_rfl) (S2_ok Kv) (S9_ok Kv)
@[reducible] def g11 : List SE := [.v 0 .sl, .v 1 (.int .i64), .v 2 (.int .i64), .v 3 (.fl .f64), .v 9 .sl]
def S11 (K : KT) (l_49 : Sl) (from_50 : Int) (to_51 : Int) (q_52 : Nat) (more_53 : Sl) (w : World) : Prop :=
  C.tocsinref17_Names w fun l54 w55 => S9 K l_49 from_50 to_51 q_52 more_53 l54 w55
theorem S11_ok (Kv : Value → World → Prop) : OkT pr false none 111 g11 (S11 (Kt Kv)) (s2 (tl 2 bd)) (P1 Kv) := ok_group mixed FOk_ 1 (Q10 Kv) fun v ρ w => by kernel_rfl
def P12 (Kv : Value → World → Prop) : Post := next (get g11 (S11 (Kt Kv))) (P1 Kv)
def P13 (Kv : Value → World → Prop) : Post := inBlock 0 (P12 Kv)
@[reducible] def g14 : List SE := [.v 0 .sl, .v 1 (.int .i64), .v 2 (.int .i64), .v 3 (.fl .f64), .v 9 .sl, .v 10 (.int .i64)]
def P15 (Kv : Value → World → Prop) (kc14 : Cur g14) : Post := next (get g14 kc14) (P13 Kv)
def S16 (K : KT) (kc14 : Cur g14) (l_68 : Sl) (from_69 : Int) (to_70 : Int) (q_71 : Nat) (more_72 : Sl) (i_73 : Int) (w : World) : Prop :=
  G.cond (decide (i_73 < ((l_68.n : Nat) : Int))) (G.cond (decide (i_73 > (0 : Int))) (G.ix l_68.a l_68.n i_73 2 fun p74 => G.cI .i64 p74 w.drew fun n75 => G.ix l_68.a l_68.n (IntKind.i64.wrap (i_73 - (1 : Int))) 2 fun p76 => G.cI .i64 p76 w.drew fun n77 => G.cond (decide ((IntKind.i64.wrap (n75 - n77)) > (1 : Int))) (G.ix l_68.a l_68.n i_73 2 fun p78 => G.cI .i64 p78 w.drew.drew fun n79 => C.math_Float64frombits (9218868437227405314 : Int) w.drew.drew fun f80 w81 => sameAt p78 1 w.drew.drew w81 ∧ (G.new (.cells #[(.int .i64 (IntKind.i64.wrap (n79 - (1 : Int)))), (.float .f64 f80)] 33) w81 fun p82 w83 => G.runSl pr (Builtin.append_ #[28, 28] 28 #[more_72.v, (Sl.v (⟨some p82, 1, 1⟩ : Sl))]) w83 fun l84 w85 => G.ix l_68.a l_68.n i_73 2 fun p86 => G.cI .i64 p86 w85 fun n87 => G.cF .f64 (p86.add 1) w85 fun f88 => G.new (.cells #[(.int .i64 n87), (.float .f64 f88)] 33) w85 fun p89 w90 => G.runSl pr (Builtin.append_ #[28, 28] 28 #[l84.v, (Sl.v (⟨some p89, 1, 1⟩ : Sl))]) w90 fun l91 w92 => kc14 l_68 from_69 to_70 q_71 l91 (IntKind.i64.wrap (i_73 + (1 : Int))) w92)) (G.ix l_68.a l_68.n i_73 2 fun p93 => G.cI .i64 p93 w.drew fun n94 => G.cF .f64 (p93.add 1) w.drew fun f95 => G.new (.cells #[(.int .i64 n94), (.float .f64 f95)] 33) w.drew fun p96 w97 => G.runSl pr (Builtin.append_ #[28, 28] 28 #[more_72.v, (Sl.v (⟨some p96, 1, 1⟩ : Sl))]) w97 fun l98 w99 => kc14 l_68 from_69 to_70 q_71 l98 (IntKind.i64.wrap (i_73 + (1 : Int))) w99)) (G.ix l_68.a l_68.n i_73 2 fun p100 => G.cI .i64 p100 w.drew fun n101 => G.cF .f64 (p100.add 1) w.drew fun f102 => G.new (.cells #[(.int .i64 n101), (.float .f64 f102)] 33) w.drew fun p103 w104 => G.runSl pr (Builtin.append_ #[28, 28] 28 #[more_72.v, (Sl.v (⟨some p103, 1, 1⟩ : Sl))]) w104 fun l105 w106 => kc14 l_68 from_69 to_70 q_71 l105 (IntKind.i64.wrap (i_73 + (1 : Int))) w106)) (S11 K l_68 from_69 to_70 q_71 more_72 w)
theorem S16_ok (Kv : Value → World → Prop) (kc14 : Cur g14) : OkT pr false none 111 g14 (S16 (Kt Kv) kc14) (lp (blk (tl 1 (s1 (tl 2 bd))))) (P15 Kv kc14) := ok_last mixed FOk_ fun v ρ w => by kernel_rfl
def L14 (K : KT) : Cur g14 := loopC g14 (S16 K)
theorem L14_ok (Kv : Value → World → Prop) : OkT pr false none 111 g14 (L14 (Kt Kv)) (blk (tl 1 (s1 (tl 2 bd)))) (P13 Kv) := ok_loop (B := S16 (Kt Kv)) (by kernel_rfl) fun kc => S16_ok Kv kc
theorem L14_ind {K : KT} {l_56 : Sl} {from_57 : Int} {to_58 : Int} {q_59 : Nat} {more_60 : Sl} {i_61 : Int} {w : World} (h : ∀ X : Cur g14, (∀ l_56 from_57 to_58 q_59 more_60 i_61 w, S16 K X l_56 from_57 to_58 q_59 more_60 i_61 w → X l_56 from_57 to_58 q_59 more_60 i_61 w) → X l_56 from_57 to_58 q_59 more_60 i_61 w) : L14 K l_56 from_57 to_58 q_59 more_60 i_61 w := fun X hX => h X fun l_56 from_57 to_58 q_59 more_60 i_61 w hb => hX (l_56, from_57, to_58, q_59, more_60, i_61, ()) w hb
theorem B17 (Kv : Value → World → Prop) : OkT pr false none 111 g14 (L14 (Kt Kv)) (tl 1 (s1 (tl 2 bd))) (P12 Kv) := ok_block 0 (by kernel_rfl) (L14_ok Kv)
def S18 (K : KT) (l_107 : Sl) (from_108 : Int) (to_109 : Int) (q_110 : Nat) (more_111 : Sl) (w : World) : Prop :=
  L14 K l_107 from_108 to_109 q_110 more_111 (0 : Int) w
theorem S18_ok (Kv : Value → World → Prop) : OkT pr false none 111 g11 (S18 (Kt Kv)) (s1 (tl 2 bd)) (P12 Kv) := ok_group mixed FOk_ 1 (B17 Kv) fun v ρ w => by kernel_rfl
theorem Q19 (Kv : Value → World → Prop) : OkT pr false none 111 g11 (S18 (Kt Kv)) (tl 2 bd) (P1 Kv) := ok_seq (by kernel_rfl) (S11_ok Kv) (S18_ok Kv)
end tocsinlaw17_OverStale
def tocsinlaw17_OverStale (l_2 : Sl) (from_3 : Int) (to_4 : Int) (q_5 : Nat) (w : World) (K : tocsinlaw17_OverStale.KT) : Prop :=
  tocsinlaw17_OverStale.S18 K l_2 from_3 to_4 q_5 nilS w
def tocsinlaw17_OverStale.cl : CL := fun args K w => match args with
  | [.slice x0_a x0_n x0_c, .int .i64 x1, .int .i64 x2, .float .f64 x3] => C.tocsinlaw17_OverStale ⟨x0_a, x0_n, x0_c⟩ x1 x2 x3 w (tocsinlaw17_OverStale.Kt K)
  | _ => False
theorem tocsinlaw17_OverStale.clok : OkC pr 6 tocsinlaw17_OverStale.cl := by
  intro args K w h
  unfold tocsinlaw17_OverStale.cl at h
  split at h
  · exact calls_group false mixed tocsinlaw17_OverStale.FOk_ tocsinlaw17_OverStale.fn rfl 2 (tocsinlaw17_OverStale.Q19 K) (Eq.mp (by kernel_rfl) h)
  · exact h.elim
end C
end Go.Proofs.Ytaciaidehamfgaa
