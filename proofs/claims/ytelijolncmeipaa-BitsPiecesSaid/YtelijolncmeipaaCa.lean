/- Clean texts of Go functions, written by a program of this work (gen.py) off the loaded code, each shown to be what the code does. -/
import Derived.Test.YtelijolncmeipaaProg
import Derived.Test.YtelijolncmeipaaVmLift
set_option linter.unusedVariables false
set_option maxRecDepth 100000
namespace Go.Proofs.Ytelijolncmeipaa
open Go Vm
namespace C
noncomputable abbrev pr : Program := Try.prog
theorem mixed : pr.follows .mixedOrders = true := by kernel_rfl
/-! tocsin/bits.NewWriter -/
namespace bits_NewWriter
abbrev KT := Option Addr → World → Prop
def Kt (Kv : Value → World → Prop) : KT := fun p1 w => Kv (.pointer p1) w
noncomputable def bd : Code := bdy Try.f4
theorem fn : FnOk pr 4 3 Try.f4 := ⟨Try.func4, by kernel_rfl, Try.ntmps4, by kernel_rfl, by kernel_rfl⟩
def F : Clee := ofL []
theorem FOk_ : FOk pr F := FOk_nil
def P1 (Kv : Value → World → Prop) : Post := bodyK pr 3 Try.f4 Kv
end bits_NewWriter
def bits_NewWriter (w : World) (K : bits_NewWriter.KT) : Prop :=
  G.new (.cells #[nilS.v, (.int .i64 (0 : Int))] 36) w fun p2 w3 => K (some p2) w3
def bits_NewWriter.cl : CL := fun args K w => match args with
  | [] => C.bits_NewWriter w (bits_NewWriter.Kt K)
  | _ => False
theorem bits_NewWriter.clok : OkC pr 4 bits_NewWriter.cl := by
  intro args K w h
  unfold bits_NewWriter.cl at h
  split at h
  · exact calls_last mixed bits_NewWriter.FOk_ bits_NewWriter.fn rfl (Eq.mp (by kernel_rfl) h)
  · exact h.elim

/-! (*tocsin/bits.Writer).put -/
namespace bits_Writer_put
abbrev KT := World → Prop
def Kt (Kv : Value → World → Prop) : KT := fun  w => Kv (.tuple #[]) w
noncomputable def bd : Code := bdy Try.f11
theorem fn : FnOk pr 11 47 Try.f11 := ⟨Try.func11, by kernel_rfl, Try.ntmps11, by kernel_rfl, by kernel_rfl⟩
def F : Clee := ofL []
theorem FOk_ : FOk pr F := FOk_nil
def P1 (Kv : Value → World → Prop) : Post := bodyK pr 47 Try.f11 Kv
end bits_Writer_put
def bits_Writer_put (w_1 : Option Addr) (b_2 : Bool) (w : World) (K : bits_Writer_put.KT) : Prop :=
  G.ptr w_1 fun p3 => G.cI .i64 (p3.add 1) w fun n4 => G.nz (8 : Int) <| G.cond ((Int.tmod n4 (8 : Int)) == (0 : Int)) (G.ptr w_1 fun p5 => G.cSl p5 w fun l6 => G.new (.cells #[(.int .u8 (0 : Int))] 5) w fun p7 w8 => G.runSl pr (Builtin.append_ #[32, 32] 32 #[l6.v, (Sl.v (⟨some p7, 1, 1⟩ : Sl))]) w8 fun l9 w10 => G.ptr w_1 fun p11 => G.st p11 l9.v w10 fun w12 => G.cond b_2 (G.ptr w_1 fun p13 => G.cSl p13 w12 fun l14 => G.ptr w_1 fun p15 => G.cI .i64 (p15.add 1) w12 fun n16 => G.nz (8 : Int) <| G.ix l14.a l14.n (IntKind.i64.wrap (Int.tdiv n16 (8 : Int))) 1 fun p17 => G.cI .u8 p17 w12 fun n18 => G.ptr w_1 fun p19 => G.cI .i64 (p19.add 1) w12 fun n20 => G.nz (8 : Int) <| G.nn (IntKind.u64.wrap (Int.tmod n20 (8 : Int))) <| G.ix l14.a l14.n (IntKind.i64.wrap (Int.tdiv n16 (8 : Int))) 1 fun p21 => G.drawn w12 fun w22 => G.st p21 (.int .u8 (Go.bits .or .u8 n18 (shr .u8 (128 : Int) (IntKind.u64.wrap (Int.tmod n20 (8 : Int)))))) w22 fun w23 => G.ptr w_1 fun p24 => G.cI .i64 (p24.add 1) w23 fun n25 => G.ptr w_1 fun p26 => G.st (p26.add 1) (.int .i64 (IntKind.i64.wrap (n25 + (1 : Int)))) w23 fun w27 => K w27) (G.ptr w_1 fun p28 => G.cI .i64 (p28.add 1) w12 fun n29 => G.ptr w_1 fun p30 => G.st (p30.add 1) (.int .i64 (IntKind.i64.wrap (n29 + (1 : Int)))) w12 fun w31 => K w31)) (G.cond b_2 (G.ptr w_1 fun p32 => G.cSl p32 w fun l33 => G.ptr w_1 fun p34 => G.cI .i64 (p34.add 1) w fun n35 => G.nz (8 : Int) <| G.ix l33.a l33.n (IntKind.i64.wrap (Int.tdiv n35 (8 : Int))) 1 fun p36 => G.cI .u8 p36 w fun n37 => G.ptr w_1 fun p38 => G.cI .i64 (p38.add 1) w fun n39 => G.nz (8 : Int) <| G.nn (IntKind.u64.wrap (Int.tmod n39 (8 : Int))) <| G.ix l33.a l33.n (IntKind.i64.wrap (Int.tdiv n35 (8 : Int))) 1 fun p40 => G.drawn w fun w41 => G.st p40 (.int .u8 (Go.bits .or .u8 n37 (shr .u8 (128 : Int) (IntKind.u64.wrap (Int.tmod n39 (8 : Int)))))) w41 fun w42 => G.ptr w_1 fun p43 => G.cI .i64 (p43.add 1) w42 fun n44 => G.ptr w_1 fun p45 => G.st (p45.add 1) (.int .i64 (IntKind.i64.wrap (n44 + (1 : Int)))) w42 fun w46 => K w46) (G.ptr w_1 fun p47 => G.cI .i64 (p47.add 1) w fun n48 => G.ptr w_1 fun p49 => G.st (p49.add 1) (.int .i64 (IntKind.i64.wrap (n48 + (1 : Int)))) w fun w50 => K w50))
def bits_Writer_put.cl : CL := fun args K w => match args with
  | [.pointer x0, .bool x1] => C.bits_Writer_put x0 x1 w (bits_Writer_put.Kt K)
  | _ => False
theorem bits_Writer_put.clok : OkC pr 11 bits_Writer_put.cl := by
  intro args K w h
  unfold bits_Writer_put.cl at h
  split at h
  · exact calls_last mixed bits_Writer_put.FOk_ bits_Writer_put.fn rfl (Eq.mp (by kernel_rfl) h)
  · exact h.elim

/-! (*tocsin/bits.Writer).Bits -/
namespace bits_Writer_Bits
abbrev KT := Int → World → Prop
def Kt (Kv : Value → World → Prop) : KT := fun n1 w => Kv (.int .i64 n1) w
noncomputable def bd : Code := bdy Try.f5
theorem fn : FnOk pr 5 51 Try.f5 := ⟨Try.func5, by kernel_rfl, Try.ntmps5, by kernel_rfl, by kernel_rfl⟩
def F : Clee := ofL [(11, C.bits_Writer_put.cl)]
theorem FOk_ : FOk pr F := FOk_cons C.bits_Writer_put.clok (FOk_nil)
def P1 (Kv : Value → World → Prop) : Post := bodyK pr 51 Try.f5 Kv
@[reducible] def g2 : List SE := []
def S2 (K : KT) (w : World) : Prop :=
  K (0 : Int) w
theorem S2_ok (Kv : Value → World → Prop) : OkT pr 51 g2 (S2 (Kt Kv)) (s2 (tl 2 bd)) (P1 Kv) := ok_last mixed FOk_ fun v ρ w => by kernel_rfl
def P3 (Kv : Value → World → Prop) : Post := next (get g2 (S2 (Kt Kv))) (P1 Kv)
def P4 (Kv : Value → World → Prop) : Post := inBlock 1 (P3 Kv)
@[reducible] def g5 : List SE := [.v 0 .ptr, .v 1 (.int .u64), .v 7 (.int .i64)]
def P6 (Kv : Value → World → Prop) (kc5 : Cur g5) : Post := next (get g5 kc5) (P4 Kv)
def S7 (K : KT) (kc5 : Cur g5) (w_8 : Option Addr) (v_9 : Int) (i_10 : Int) (w : World) : Prop :=
  G.cond (decide (i_10 ≥ (0 : Int))) (G.nn (IntKind.u64.wrap i_10) <| C.bits_Writer_put w_8 ((Go.bits .and .u64 (shr .u64 v_9 (IntKind.u64.wrap i_10)) (1 : Int)) == (1 : Int)) w fun w11 => kc5 w_8 v_9 (IntKind.i64.wrap (i_10 - (1 : Int))) w11) (S2 K w)
theorem S7_ok (Kv : Value → World → Prop) (kc5 : Cur g5) : OkT pr 51 g5 (S7 (Kt Kv) kc5) (lp (blk (tl 1 (s1 (tl 2 bd))))) (P6 Kv kc5) := ok_last mixed FOk_ fun v ρ w => by kernel_rfl
def L5 (K : KT) : Cur g5 := loopC g5 (S7 K)
theorem L5_ok (Kv : Value → World → Prop) : OkT pr 51 g5 (L5 (Kt Kv)) (blk (tl 1 (s1 (tl 2 bd)))) (P4 Kv) := ok_loop (B := S7 (Kt Kv)) (by kernel_rfl) fun kc => S7_ok Kv kc
theorem L5_ind {K : KT} {w_5 : Option Addr} {v_6 : Int} {i_7 : Int} {w : World} (h : ∀ X : Cur g5, (∀ w_5 v_6 i_7 w, S7 K X w_5 v_6 i_7 w → X w_5 v_6 i_7 w) → X w_5 v_6 i_7 w) : L5 K w_5 v_6 i_7 w := fun X hX => h X fun w_5 v_6 i_7 w hb => hX (w_5, v_6, i_7, ()) w hb
theorem B8 (Kv : Value → World → Prop) : OkT pr 51 g5 (L5 (Kt Kv)) (tl 1 (s1 (tl 2 bd))) (P3 Kv) := ok_block 1 (by kernel_rfl) (L5_ok Kv)
@[reducible] def g9 : List SE := [.v 0 .ptr, .v 1 (.int .u64), .v 2 (.int .i64)]
def S9 (K : KT) (w_12 : Option Addr) (v_13 : Int) (n_14 : Int) (w : World) : Prop :=
  L5 K w_12 v_13 (IntKind.i64.wrap (n_14 - (1 : Int))) w
theorem S9_ok (Kv : Value → World → Prop) : OkT pr 51 g9 (S9 (Kt Kv)) (s1 (tl 2 bd)) (P3 Kv) := ok_group mixed FOk_ 1 (B8 Kv) fun v ρ w => by kernel_rfl
theorem Q10 (Kv : Value → World → Prop) : OkT pr 51 g9 (S9 (Kt Kv)) (tl 2 bd) (P1 Kv) := ok_seq (by kernel_rfl) (S2_ok Kv) (S9_ok Kv)
end bits_Writer_Bits
def bits_Writer_Bits (w_2 : Option Addr) (v_3 : Int) (n_4 : Int) (w : World) (K : bits_Writer_Bits.KT) : Prop :=
  G.cond w_2.isNone (K (2 : Int) w) (G.cond (decide (n_4 < (0 : Int))) (K (1 : Int) w) (G.cond (decide (n_4 > (64 : Int))) (K (1 : Int) w) (G.cond (decide (n_4 < (64 : Int))) (G.nn (IntKind.u64.wrap n_4) <| G.cond ((shr .u64 v_3 (IntKind.u64.wrap n_4)) != (0 : Int)) (K (1 : Int) w) (G.ptr w_2 fun p15 => G.cI .i64 (p15.add 1) w fun n16 => G.cond (decide (n_4 > (IntKind.i64.wrap ((8388608 : Int) - n16)))) (K (8 : Int) w) (bits_Writer_Bits.S9 K w_2 v_3 n_4 w))) (G.ptr w_2 fun p17 => G.cI .i64 (p17.add 1) w fun n18 => G.cond (decide (n_4 > (IntKind.i64.wrap ((8388608 : Int) - n18)))) (K (8 : Int) w) (bits_Writer_Bits.S9 K w_2 v_3 n_4 w)))))
def bits_Writer_Bits.cl : CL := fun args K w => match args with
  | [.pointer x0, .int .u64 x1, .int .i64 x2] => C.bits_Writer_Bits x0 x1 x2 w (bits_Writer_Bits.Kt K)
  | _ => False
theorem bits_Writer_Bits.clok : OkC pr 5 bits_Writer_Bits.cl := by
  intro args K w h
  unfold bits_Writer_Bits.cl at h
  split at h
  · exact calls_group mixed bits_Writer_Bits.FOk_ bits_Writer_Bits.fn rfl 2 (bits_Writer_Bits.Q10 K) (Eq.mp (by kernel_rfl) h)
  · exact h.elim

/-! (*tocsin/bits.Writer).Len -/
namespace bits_Writer_Len
abbrev KT := Int → World → Prop
def Kt (Kv : Value → World → Prop) : KT := fun n1 w => Kv (.int .i64 n1) w
noncomputable def bd : Code := bdy Try.f6
theorem fn : FnOk pr 6 9 Try.f6 := ⟨Try.func6, by kernel_rfl, Try.ntmps6, by kernel_rfl, by kernel_rfl⟩
def F : Clee := ofL []
theorem FOk_ : FOk pr F := FOk_nil
def P1 (Kv : Value → World → Prop) : Post := bodyK pr 9 Try.f6 Kv
end bits_Writer_Len
def bits_Writer_Len (w_2 : Option Addr) (w : World) (K : bits_Writer_Len.KT) : Prop :=
  G.cond w_2.isNone (K (0 : Int) w) (G.ptr w_2 fun p3 => G.cI .i64 (p3.add 1) w fun n4 => K n4 w)
def bits_Writer_Len.cl : CL := fun args K w => match args with
  | [.pointer x0] => C.bits_Writer_Len x0 w (bits_Writer_Len.Kt K)
  | _ => False
theorem bits_Writer_Len.clok : OkC pr 6 bits_Writer_Len.cl := by
  intro args K w h
  unfold bits_Writer_Len.cl at h
  split at h
  · exact calls_last mixed bits_Writer_Len.FOk_ bits_Writer_Len.fn rfl (Eq.mp (by kernel_rfl) h)
  · exact h.elim

/-! (*tocsin/bits.Writer).Bit -/
namespace bits_Writer_Bit
abbrev KT := Int → World → Prop
def Kt (Kv : Value → World → Prop) : KT := fun n1 w => Kv (.int .i64 n1) w
noncomputable def bd : Code := bdy Try.f8
theorem fn : FnOk pr 8 17 Try.f8 := ⟨Try.func8, by kernel_rfl, Try.ntmps8, by kernel_rfl, by kernel_rfl⟩
def F : Clee := ofL [(11, C.bits_Writer_put.cl)]
theorem FOk_ : FOk pr F := FOk_cons C.bits_Writer_put.clok (FOk_nil)
def P1 (Kv : Value → World → Prop) : Post := bodyK pr 17 Try.f8 Kv
end bits_Writer_Bit
def bits_Writer_Bit (w_2 : Option Addr) (b_3 : Bool) (w : World) (K : bits_Writer_Bit.KT) : Prop :=
  G.cond w_2.isNone (K (2 : Int) w) (G.ptr w_2 fun p4 => G.cI .i64 (p4.add 1) w fun n5 => G.cond (decide (n5 ≥ (8388608 : Int))) (K (8 : Int) w) (C.bits_Writer_put w_2 b_3 w fun w6 => K (0 : Int) w6))
def bits_Writer_Bit.cl : CL := fun args K w => match args with
  | [.pointer x0, .bool x1] => C.bits_Writer_Bit x0 x1 w (bits_Writer_Bit.Kt K)
  | _ => False
theorem bits_Writer_Bit.clok : OkC pr 8 bits_Writer_Bit.cl := by
  intro args K w h
  unfold bits_Writer_Bit.cl at h
  split at h
  · exact calls_last mixed bits_Writer_Bit.FOk_ bits_Writer_Bit.fn rfl (Eq.mp (by kernel_rfl) h)
  · exact h.elim

/-! tocsin/tocsinlaw02.same -/
namespace tocsinlaw02_same
abbrev KT := Bool → World → Prop
def Kt (Kv : Value → World → Prop) : KT := fun b1 w => Kv (.bool b1) w
noncomputable def bd : Code := bdy Try.f9
theorem fn : FnOk pr 9 10 Try.f9 := ⟨Try.func9, by kernel_rfl, Try.ntmps9, by kernel_rfl, by kernel_rfl⟩
def F : Clee := ofL []
theorem FOk_ : FOk pr F := FOk_nil
def P1 (Kv : Value → World → Prop) : Post := bodyK pr 10 Try.f9 Kv
end tocsinlaw02_same
def tocsinlaw02_same (a_2 : Sl) (b_3 : Sl) (w : World) (K : tocsinlaw02_same.KT) : Prop :=
  G.rdS pr (Conv.bytesToString a_2.v) w fun s4 => G.rdS pr (Conv.bytesToString b_3.v) w fun s5 => K (s4.toList == s5.toList) w
def tocsinlaw02_same.cl : CL := fun args K w => match args with
  | [.slice x0_a x0_n x0_c, .slice x1_a x1_n x1_c] => C.tocsinlaw02_same ⟨x0_a, x0_n, x0_c⟩ ⟨x1_a, x1_n, x1_c⟩ w (tocsinlaw02_same.Kt K)
  | _ => False
theorem tocsinlaw02_same.clok : OkC pr 9 tocsinlaw02_same.cl := by
  intro args K w h
  unfold tocsinlaw02_same.cl at h
  split at h
  · exact calls_last mixed tocsinlaw02_same.FOk_ tocsinlaw02_same.fn rfl (Eq.mp (by kernel_rfl) h)
  · exact h.elim

/-! (*tocsin/bits.Writer).Bytes -/
namespace bits_Writer_Bytes
abbrev KT := Sl → World → Prop
def Kt (Kv : Value → World → Prop) : KT := fun l1 w => Kv l1.v w
noncomputable def bd : Code := bdy Try.f10
theorem fn : FnOk pr 10 10 Try.f10 := ⟨Try.func10, by kernel_rfl, Try.ntmps10, by kernel_rfl, by kernel_rfl⟩
def F : Clee := ofL []
theorem FOk_ : FOk pr F := FOk_nil
def P1 (Kv : Value → World → Prop) : Post := bodyK pr 10 Try.f10 Kv
end bits_Writer_Bytes
def bits_Writer_Bytes (w_2 : Option Addr) (w : World) (K : bits_Writer_Bytes.KT) : Prop :=
  G.cond w_2.isNone (K nilS w) (G.ptr w_2 fun p3 => G.cSl p3 w fun l4 => G.runSl pr (Builtin.append_ #[32, 32] 32 #[nilS.v, l4.v]) w fun l5 w6 => K l5 w6)
def bits_Writer_Bytes.cl : CL := fun args K w => match args with
  | [.pointer x0] => C.bits_Writer_Bytes x0 w (bits_Writer_Bytes.Kt K)
  | _ => False
theorem bits_Writer_Bytes.clok : OkC pr 10 bits_Writer_Bytes.cl := by
  intro args K w h
  unfold bits_Writer_Bytes.cl at h
  split at h
  · exact calls_last mixed bits_Writer_Bytes.FOk_ bits_Writer_Bytes.fn rfl (Eq.mp (by kernel_rfl) h)
  · exact h.elim

/-! tocsin/bits.NewReader -/
namespace bits_NewReader
abbrev KT := Option Addr → World → Prop
def Kt (Kv : Value → World → Prop) : KT := fun p1 w => Kv (.pointer p1) w
noncomputable def bd : Code := bdy Try.f12
theorem fn : FnOk pr 12 23 Try.f12 := ⟨Try.func12, by kernel_rfl, Try.ntmps12, by kernel_rfl, by kernel_rfl⟩
def F : Clee := ofL []
theorem FOk_ : FOk pr F := FOk_nil
def P1 (Kv : Value → World → Prop) : Post := bodyK pr 23 Try.f12 Kv
end bits_NewReader
def bits_NewReader (b_2 : Sl) (bits_3 : Int) (w : World) (K : bits_NewReader.KT) : Prop :=
  G.cond (decide (bits_3 < (0 : Int))) (K none w) (G.cond (decide (bits_3 > (8388608 : Int))) (K none w) (G.cond (decide (bits_3 > (IntKind.i64.wrap ((8 : Int) * ((b_2.n : Nat) : Int))))) (K none w) (G.runSl pr (Builtin.append_ #[32, 32] 32 #[nilS.v, b_2.v]) w fun l4 w5 => G.new (.cells #[l4.v, (.int .i64 bits_3), (.int .i64 (0 : Int))] 43) w5 fun p6 w7 => K (some p6) w7)))
def bits_NewReader.cl : CL := fun args K w => match args with
  | [.slice x0_a x0_n x0_c, .int .i64 x1] => C.bits_NewReader ⟨x0_a, x0_n, x0_c⟩ x1 w (bits_NewReader.Kt K)
  | _ => False
theorem bits_NewReader.clok : OkC pr 12 bits_NewReader.cl := by
  intro args K w h
  unfold bits_NewReader.cl at h
  split at h
  · exact calls_last mixed bits_NewReader.FOk_ bits_NewReader.fn rfl (Eq.mp (by kernel_rfl) h)
  · exact h.elim

/-! (*tocsin/bits.Reader).at -/
namespace bits_Reader_at
abbrev KT := Int → World → Prop
def Kt (Kv : Value → World → Prop) : KT := fun n1 w => Kv (.int .u64 n1) w
noncomputable def bd : Code := bdy Try.f16
theorem fn : FnOk pr 16 20 Try.f16 := ⟨Try.func16, by kernel_rfl, Try.ntmps16, by kernel_rfl, by kernel_rfl⟩
def F : Clee := ofL []
theorem FOk_ : FOk pr F := FOk_nil
def P1 (Kv : Value → World → Prop) : Post := bodyK pr 20 Try.f16 Kv
end bits_Reader_at
def bits_Reader_at (r_2 : Option Addr) (i_3 : Int) (w : World) (K : bits_Reader_at.KT) : Prop :=
  G.ptr r_2 fun p4 => G.cSl p4 w fun l5 => G.nz (8 : Int) <| G.ix l5.a l5.n (IntKind.i64.wrap (Int.tdiv i_3 (8 : Int))) 1 fun p6 => G.cI .u8 p6 w fun n7 => G.nz (8 : Int) <| G.nn (IntKind.u64.wrap (IntKind.i64.wrap ((7 : Int) - (Int.tmod i_3 (8 : Int))))) <| K (Go.bits .and .u64 (IntKind.u64.wrap (shr .u8 n7 (IntKind.u64.wrap (IntKind.i64.wrap ((7 : Int) - (Int.tmod i_3 (8 : Int))))))) (1 : Int)) w
def bits_Reader_at.cl : CL := fun args K w => match args with
  | [.pointer x0, .int .i64 x1] => C.bits_Reader_at x0 x1 w (bits_Reader_at.Kt K)
  | _ => False
theorem bits_Reader_at.clok : OkC pr 16 bits_Reader_at.cl := by
  intro args K w h
  unfold bits_Reader_at.cl at h
  split at h
  · exact calls_last mixed bits_Reader_at.FOk_ bits_Reader_at.fn rfl (Eq.mp (by kernel_rfl) h)
  · exact h.elim

/-! (*tocsin/bits.Reader).look -/
namespace bits_Reader_look
abbrev KT := Int → World → Prop
def Kt (Kv : Value → World → Prop) : KT := fun n1 w => Kv (.int .u64 n1) w
noncomputable def bd : Code := bdy Try.f15
theorem fn : FnOk pr 15 23 Try.f15 := ⟨Try.func15, by kernel_rfl, Try.ntmps15, by kernel_rfl, by kernel_rfl⟩
def F : Clee := ofL [(16, C.bits_Reader_at.cl)]
theorem FOk_ : FOk pr F := FOk_cons C.bits_Reader_at.clok (FOk_nil)
def P1 (Kv : Value → World → Prop) : Post := bodyK pr 23 Try.f15 Kv
@[reducible] def g2 : List SE := [.v 7 (.int .u64)]
def S2 (K : KT) (v_5 : Int) (w : World) : Prop :=
  K v_5 w
theorem S2_ok (Kv : Value → World → Prop) : OkT pr 23 g2 (S2 (Kt Kv)) (s2 (tl 2 bd)) (P1 Kv) := ok_last mixed FOk_ fun v ρ w => by kernel_rfl
def P3 (Kv : Value → World → Prop) : Post := next (get g2 (S2 (Kt Kv))) (P1 Kv)
def P4 (Kv : Value → World → Prop) : Post := inBlock 0 (P3 Kv)
@[reducible] def g5 : List SE := [.v 0 .ptr, .v 1 (.int .i64), .v 7 (.int .u64), .v 9 (.int .i64), .v 10 (.int .i64)]
def P6 (Kv : Value → World → Prop) (kc5 : Cur g5) : Post := next (get g5 kc5) (P4 Kv)
def S7 (K : KT) (kc5 : Cur g5) (r_16 : Option Addr) (from_17 : Int) (v_18 : Int) (n19 : Int) (n20 : Int) (w : World) : Prop :=
  G.cond (decide (n20 < n19)) (G.nn (1 : Int) <| C.bits_Reader_at r_16 (IntKind.i64.wrap (from_17 + n20)) w fun n21 w22 => kc5 r_16 from_17 (Go.bits .or .u64 (shl .u64 v_18 (1 : Int)) n21) n19 (IntKind.i64.wrap (n20 + (1 : Int))) w22) (S2 K v_18 w)
theorem S7_ok (Kv : Value → World → Prop) (kc5 : Cur g5) : OkT pr 23 g5 (S7 (Kt Kv) kc5) (lp (blk (tl 1 (s1 (tl 2 bd))))) (P6 Kv kc5) := ok_last mixed FOk_ fun v ρ w => by kernel_rfl
def L5 (K : KT) : Cur g5 := loopC g5 (S7 K)
theorem L5_ok (Kv : Value → World → Prop) : OkT pr 23 g5 (L5 (Kt Kv)) (blk (tl 1 (s1 (tl 2 bd)))) (P4 Kv) := ok_loop (B := S7 (Kt Kv)) (by kernel_rfl) fun kc => S7_ok Kv kc
theorem L5_ind {K : KT} {r_6 : Option Addr} {from_7 : Int} {v_8 : Int} {n9 : Int} {n10 : Int} {w : World} (h : ∀ X : Cur g5, (∀ r_6 from_7 v_8 n9 n10 w, S7 K X r_6 from_7 v_8 n9 n10 w → X r_6 from_7 v_8 n9 n10 w) → X r_6 from_7 v_8 n9 n10 w) : L5 K r_6 from_7 v_8 n9 n10 w := fun X hX => h X fun r_6 from_7 v_8 n9 n10 w hb => hX (r_6, from_7, v_8, n9, n10, ()) w hb
theorem B8 (Kv : Value → World → Prop) : OkT pr 23 g5 (L5 (Kt Kv)) (tl 1 (s1 (tl 2 bd))) (P3 Kv) := ok_block 0 (by kernel_rfl) (L5_ok Kv)
@[reducible] def g9 : List SE := [.v 0 .ptr, .v 1 (.int .i64), .v 2 (.int .i64), .v 7 (.int .u64)]
def S9 (K : KT) (r_23 : Option Addr) (from_24 : Int) (n_25 : Int) (v_26 : Int) (w : World) : Prop :=
  L5 K r_23 from_24 v_26 n_25 (0 : Int) w
theorem S9_ok (Kv : Value → World → Prop) : OkT pr 23 g9 (S9 (Kt Kv)) (s1 (tl 2 bd)) (P3 Kv) := ok_group mixed FOk_ 1 (B8 Kv) fun v ρ w => by kernel_rfl
theorem Q10 (Kv : Value → World → Prop) : OkT pr 23 g9 (S9 (Kt Kv)) (tl 2 bd) (P1 Kv) := ok_seq (by kernel_rfl) (S2_ok Kv) (S9_ok Kv)
end bits_Reader_look
def bits_Reader_look (r_2 : Option Addr) (from_3 : Int) (n_4 : Int) (w : World) (K : bits_Reader_look.KT) : Prop :=
  bits_Reader_look.S9 K r_2 from_3 n_4 (0 : Int) w
def bits_Reader_look.cl : CL := fun args K w => match args with
  | [.pointer x0, .int .i64 x1, .int .i64 x2] => C.bits_Reader_look x0 x1 x2 w (bits_Reader_look.Kt K)
  | _ => False
theorem bits_Reader_look.clok : OkC pr 15 bits_Reader_look.cl := by
  intro args K w h
  unfold bits_Reader_look.cl at h
  split at h
  · exact calls_group mixed bits_Reader_look.FOk_ bits_Reader_look.fn rfl 2 (bits_Reader_look.Q10 K) (Eq.mp (by kernel_rfl) h)
  · exact h.elim

/-! (*tocsin/bits.Reader).Bits -/
namespace bits_Reader_Bits
abbrev KT := Int → Int → World → Prop
def Kt (Kv : Value → World → Prop) : KT := fun n1 n2 w => Kv (.tuple #[(.int .u64 n1), (.int .i64 n2)]) w
noncomputable def bd : Code := bdy Try.f13
theorem fn : FnOk pr 13 45 Try.f13 := ⟨Try.func13, by kernel_rfl, Try.ntmps13, by kernel_rfl, by kernel_rfl⟩
def F : Clee := ofL [(15, C.bits_Reader_look.cl)]
theorem FOk_ : FOk pr F := FOk_cons C.bits_Reader_look.clok (FOk_nil)
def P1 (Kv : Value → World → Prop) : Post := bodyK pr 45 Try.f13 Kv
end bits_Reader_Bits
def bits_Reader_Bits (r_3 : Option Addr) (n_4 : Int) (w : World) (K : bits_Reader_Bits.KT) : Prop :=
  G.cond r_3.isNone (K (0 : Int) (2 : Int) w) (G.cond (decide (n_4 < (0 : Int))) (K (0 : Int) (1 : Int) w) (G.cond (decide (n_4 > (64 : Int))) (K (0 : Int) (1 : Int) w) (G.ptr r_3 fun p7 => G.cI .i64 (p7.add 1) w fun n8 => G.ptr r_3 fun p9 => G.cI .i64 (p9.add 2) w fun n10 => G.drawn w fun w11 => G.cond (decide (n_4 > (IntKind.i64.wrap (n8 - n10)))) (K (0 : Int) (9 : Int) w11) (G.ptr r_3 fun p12 => G.cI .i64 (p12.add 2) w11 fun n13 => C.bits_Reader_look r_3 n13 n_4 w11 fun n14 w15 => G.ptr r_3 fun p16 => G.cI .i64 (p16.add 2) w15 fun n17 => G.ptr r_3 fun p18 => G.st (p18.add 2) (.int .i64 (IntKind.i64.wrap (n17 + n_4))) w15 fun w19 => K n14 (0 : Int) w19))))
def bits_Reader_Bits.cl : CL := fun args K w => match args with
  | [.pointer x0, .int .i64 x1] => C.bits_Reader_Bits x0 x1 w (bits_Reader_Bits.Kt K)
  | _ => False
theorem bits_Reader_Bits.clok : OkC pr 13 bits_Reader_Bits.cl := by
  intro args K w h
  unfold bits_Reader_Bits.cl at h
  split at h
  · exact calls_last mixed bits_Reader_Bits.FOk_ bits_Reader_Bits.fn rfl (Eq.mp (by kernel_rfl) h)
  · exact h.elim

/-! (*tocsin/bits.Reader).Left -/
namespace bits_Reader_Left
abbrev KT := Int → World → Prop
def Kt (Kv : Value → World → Prop) : KT := fun n1 w => Kv (.int .i64 n1) w
noncomputable def bd : Code := bdy Try.f14
theorem fn : FnOk pr 14 14 Try.f14 := ⟨Try.func14, by kernel_rfl, Try.ntmps14, by kernel_rfl, by kernel_rfl⟩
def F : Clee := ofL []
theorem FOk_ : FOk pr F := FOk_nil
def P1 (Kv : Value → World → Prop) : Post := bodyK pr 14 Try.f14 Kv
end bits_Reader_Left
def bits_Reader_Left (r_2 : Option Addr) (w : World) (K : bits_Reader_Left.KT) : Prop :=
  G.cond r_2.isNone (K (0 : Int) w) (G.ptr r_2 fun p3 => G.cI .i64 (p3.add 1) w fun n4 => G.ptr r_2 fun p5 => G.cI .i64 (p5.add 2) w fun n6 => G.drawn w fun w7 => K (IntKind.i64.wrap (n4 - n6)) w7)
def bits_Reader_Left.cl : CL := fun args K w => match args with
  | [.pointer x0] => C.bits_Reader_Left x0 w (bits_Reader_Left.Kt K)
  | _ => False
theorem bits_Reader_Left.clok : OkC pr 14 bits_Reader_Left.cl := by
  intro args K w h
  unfold bits_Reader_Left.cl at h
  split at h
  · exact calls_last mixed bits_Reader_Left.FOk_ bits_Reader_Left.fn rfl (Eq.mp (by kernel_rfl) h)
  · exact h.elim

/-! tocsin/tocsinlaw02.awake -/
namespace tocsinlaw02_awake
abbrev KT := Bool → World → Prop
def Kt (Kv : Value → World → Prop) : KT := fun b1 w => Kv (.bool b1) w
noncomputable def bd : Code := bdy Try.f7
theorem fn : FnOk pr 7 50 Try.f7 := ⟨Try.func7, by kernel_rfl, Try.ntmps7, by kernel_rfl, by kernel_rfl⟩
def F : Clee := ofL [(4, C.bits_NewWriter.cl), (5, C.bits_Writer_Bits.cl), (6, C.bits_Writer_Len.cl), (8, C.bits_Writer_Bit.cl), (9, C.tocsinlaw02_same.cl), (10, C.bits_Writer_Bytes.cl), (12, C.bits_NewReader.cl), (13, C.bits_Reader_Bits.cl), (14, C.bits_Reader_Left.cl)]
theorem FOk_ : FOk pr F := FOk_cons C.bits_NewWriter.clok (FOk_cons C.bits_Writer_Bits.clok (FOk_cons C.bits_Writer_Len.clok (FOk_cons C.bits_Writer_Bit.clok (FOk_cons C.tocsinlaw02_same.clok (FOk_cons C.bits_Writer_Bytes.clok (FOk_cons C.bits_NewReader.clok (FOk_cons C.bits_Reader_Bits.clok (FOk_cons C.bits_Reader_Left.clok (FOk_nil)))))))))
def P1 (Kv : Value → World → Prop) : Post := bodyK pr 50 Try.f7 Kv
end tocsinlaw02_awake
def tocsinlaw02_awake (w : World) (K : tocsinlaw02_awake.KT) : Prop :=
  C.bits_NewWriter w fun p2 w3 => G.cond p2.isNone (K false w3) (C.bits_Writer_Bit p2 true w3 fun n4 w5 => G.cond (n4 != (0 : Int)) (K false w5) (C.bits_Writer_Bits p2 (5 : Int) (3 : Int) w5 fun n6 w7 => G.cond (n6 != (0 : Int)) (K false w7) (C.bits_Writer_Bytes p2 w7 fun l8 w9 => C.bits_NewReader l8 (4 : Int) w9 fun p10 w11 => G.cond p10.isNone (K false w11) (C.bits_Reader_Bits p10 (4 : Int) w11 fun n12 n13 w14 => C.bits_Writer_Len p2 w14 fun n15 w16 => G.cond (n15 == (4 : Int)) (C.bits_Writer_Bytes p2 w16 fun l17 w18 => G.new (.cells #[(.int .u8 (208 : Int))] 5) w18 fun p19 w20 => C.tocsinlaw02_same l17 (⟨some p19, 1, 1⟩ : Sl) w20 fun b21 w22 => G.cond b21 (G.cond (n13 == (0 : Int)) (G.cond (n12 == (13 : Int)) (C.bits_Reader_Left p10 w22 fun n23 w24 => K (n23 == (0 : Int)) w24) (K false w22)) (K false w22)) (K false w22)) (K false w16)))))
def tocsinlaw02_awake.cl : CL := fun args K w => match args with
  | [] => C.tocsinlaw02_awake w (tocsinlaw02_awake.Kt K)
  | _ => False
theorem tocsinlaw02_awake.clok : OkC pr 7 tocsinlaw02_awake.cl := by
  intro args K w h
  unfold tocsinlaw02_awake.cl at h
  split at h
  · exact calls_last mixed tocsinlaw02_awake.FOk_ tocsinlaw02_awake.fn rfl (Eq.mp (by kernel_rfl) h)
  · exact h.elim

/-! tocsin/tocsinlaw02.BitsPieces -/
namespace tocsinlaw02_BitsPieces
abbrev KT := Bool → World → Prop
def Kt (Kv : Value → World → Prop) : KT := fun b1 w => Kv (.bool b1) w
noncomputable def bd : Code := bdy Try.f3
theorem fn : FnOk pr 3 76 Try.f3 := ⟨Try.func3, by kernel_rfl, Try.ntmps3, by kernel_rfl, by kernel_rfl⟩
def F : Clee := ofL [(4, C.bits_NewWriter.cl), (5, C.bits_Writer_Bits.cl), (6, C.bits_Writer_Len.cl), (7, C.tocsinlaw02_awake.cl), (8, C.bits_Writer_Bit.cl), (9, C.tocsinlaw02_same.cl), (10, C.bits_Writer_Bytes.cl)]
theorem FOk_ : FOk pr F := FOk_cons C.bits_NewWriter.clok (FOk_cons C.bits_Writer_Bits.clok (FOk_cons C.bits_Writer_Len.clok (FOk_cons C.tocsinlaw02_awake.clok (FOk_cons C.bits_Writer_Bit.clok (FOk_cons C.tocsinlaw02_same.clok (FOk_cons C.bits_Writer_Bytes.clok (FOk_nil)))))))
def P1 (Kv : Value → World → Prop) : Post := bodyK pr 76 Try.f3 Kv
@[reducible] def g2 : List SE := [.v 5 .ptr, .v 6 .ptr]
def S2 (K : KT) (a_4 : Option Addr) (b_5 : Option Addr) (w : World) : Prop :=
  C.bits_Writer_Len a_4 w fun n6 w7 => C.bits_Writer_Len b_5 w7 fun n8 w9 => G.cond (n6 == n8) (C.bits_Writer_Bytes a_4 w9 fun l10 w11 => C.bits_Writer_Bytes b_5 w11 fun l12 w13 => C.tocsinlaw02_same l10 l12 w13 fun b14 w15 => G.cond b14 (C.tocsinlaw02_awake w15 fun b16 w17 => K b16 w17) (K false w15)) (K false w9)
theorem S2_ok (Kv : Value → World → Prop) : OkT pr 76 g2 (S2 (Kt Kv)) (s2 (tl 4 bd)) (P1 Kv) := ok_last mixed FOk_ fun v ρ w => by kernel_rfl
def P3 (Kv : Value → World → Prop) : Post := next (get g2 (S2 (Kt Kv))) (P1 Kv)
def P4 (Kv : Value → World → Prop) : Post := inBlock 0 (P3 Kv)
@[reducible] def g5 : List SE := [.v 0 (.int .u64), .v 5 .ptr, .v 6 .ptr, .v 7 (.int .i64)]
def P6 (Kv : Value → World → Prop) (kc5 : Cur g5) : Post := next (get g5 kc5) (P4 Kv)
def S7 (K : KT) (kc5 : Cur g5) (v_22 : Int) (a_23 : Option Addr) (b_24 : Option Addr) (i_25 : Int) (w : World) : Prop :=
  G.cond (decide (i_25 ≥ (0 : Int))) (G.nn (IntKind.u64.wrap i_25) <| C.bits_Writer_Bit b_24 ((Go.bits .and .u64 (shr .u64 v_22 (IntKind.u64.wrap i_25)) (1 : Int)) == (1 : Int)) w fun n26 w27 => G.cond (n26 != (0 : Int)) (K false w27) (kc5 v_22 a_23 b_24 (IntKind.i64.wrap (i_25 - (1 : Int))) w27)) (S2 K a_23 b_24 w)
theorem S7_ok (Kv : Value → World → Prop) (kc5 : Cur g5) : OkT pr 76 g5 (S7 (Kt Kv) kc5) (lp (blk (tl 1 (s1 (tl 4 bd))))) (P6 Kv kc5) := ok_last mixed FOk_ fun v ρ w => by kernel_rfl
def L5 (K : KT) : Cur g5 := loopC g5 (S7 K)
theorem L5_ok (Kv : Value → World → Prop) : OkT pr 76 g5 (L5 (Kt Kv)) (blk (tl 1 (s1 (tl 4 bd)))) (P4 Kv) := ok_loop (B := S7 (Kt Kv)) (by kernel_rfl) fun kc => S7_ok Kv kc
theorem L5_ind {K : KT} {v_18 : Int} {a_19 : Option Addr} {b_20 : Option Addr} {i_21 : Int} {w : World} (h : ∀ X : Cur g5, (∀ v_18 a_19 b_20 i_21 w, S7 K X v_18 a_19 b_20 i_21 w → X v_18 a_19 b_20 i_21 w) → X v_18 a_19 b_20 i_21 w) : L5 K v_18 a_19 b_20 i_21 w := fun X hX => h X fun v_18 a_19 b_20 i_21 w hb => hX (v_18, a_19, b_20, i_21, ()) w hb
theorem B8 (Kv : Value → World → Prop) : OkT pr 76 g5 (L5 (Kt Kv)) (tl 1 (s1 (tl 4 bd))) (P3 Kv) := ok_block 0 (by kernel_rfl) (L5_ok Kv)
@[reducible] def g9 : List SE := [.v 0 (.int .u64), .v 1 (.int .i64), .v 5 .ptr, .v 6 .ptr]
def S9 (K : KT) (v_28 : Int) (n_29 : Int) (a_30 : Option Addr) (b_31 : Option Addr) (w : World) : Prop :=
  L5 K v_28 a_30 b_31 (IntKind.i64.wrap (n_29 - (1 : Int))) w
theorem S9_ok (Kv : Value → World → Prop) : OkT pr 76 g9 (S9 (Kt Kv)) (s1 (tl 4 bd)) (P3 Kv) := ok_group mixed FOk_ 1 (B8 Kv) fun v ρ w => by kernel_rfl
theorem Q10 (Kv : Value → World → Prop) : OkT pr 76 g9 (S9 (Kt Kv)) (tl 4 bd) (P1 Kv) := ok_seq (by kernel_rfl) (S2_ok Kv) (S9_ok Kv)
end tocsinlaw02_BitsPieces
def tocsinlaw02_BitsPieces (v_2 : Int) (n_3 : Int) (w : World) (K : tocsinlaw02_BitsPieces.KT) : Prop :=
  C.bits_NewWriter w fun p32 w33 => C.bits_NewWriter w33 fun p34 w35 => G.cond p32.isNone (K false w35) (G.cond p34.isNone (K false w35) (C.bits_Writer_Bits p32 v_2 n_3 w35 fun n36 w37 => G.cond (n36 != (0 : Int)) (C.bits_Writer_Len p32 w37 fun n38 w39 => G.cond (n38 == (0 : Int)) (G.cond (decide (n_3 < (0 : Int))) (C.tocsinlaw02_awake w39 fun b40 w41 => K b40 w41) (G.cond (decide (n_3 > (64 : Int))) (C.tocsinlaw02_awake w39 fun b42 w43 => K b42 w43) (G.cond (decide (n_3 < (64 : Int))) (G.nn (IntKind.u64.wrap n_3) <| G.cond ((shr .u64 v_2 (IntKind.u64.wrap n_3)) != (0 : Int)) (C.tocsinlaw02_awake w39 fun b44 w45 => K b44 w45) (K false w39)) (K false w39)))) (K false w39)) (tocsinlaw02_BitsPieces.S9 K v_2 n_3 p32 p34 w37)))
def tocsinlaw02_BitsPieces.cl : CL := fun args K w => match args with
  | [.int .u64 x0, .int .i64 x1] => C.tocsinlaw02_BitsPieces x0 x1 w (tocsinlaw02_BitsPieces.Kt K)
  | _ => False
theorem tocsinlaw02_BitsPieces.clok : OkC pr 3 tocsinlaw02_BitsPieces.cl := by
  intro args K w h
  unfold tocsinlaw02_BitsPieces.cl at h
  split at h
  · exact calls_group mixed tocsinlaw02_BitsPieces.FOk_ tocsinlaw02_BitsPieces.fn rfl 4 (tocsinlaw02_BitsPieces.Q10 K) (Eq.mp (by kernel_rfl) h)
  · exact h.elim
end C
end Go.Proofs.Ytelijolncmeipaa
