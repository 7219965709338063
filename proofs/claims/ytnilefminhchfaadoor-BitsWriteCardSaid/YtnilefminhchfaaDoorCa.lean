/- Clean texts of Go functions, written by a program of this work (gen.py) off the loaded code, each shown to be what the code does. -/
import Derived.Test.YtnilefminhchfaaDoorProg
import Derived.Test.YtnilefminhchfaaDoorVmLift
set_option linter.unusedVariables false
set_option maxRecDepth 100000
namespace Go.Proofs.YtnilefminhchfaaDoor
open Go Vm
namespace C
noncomputable abbrev pr : Program := Tryd.prog
theorem mixed : pr.follows .mixedOrders = true := by kernel_rfl
/-! tocsin/bits.NewWriter -/
namespace bits_NewWriter
abbrev KT := Option Addr → World → Prop
def Kt (Kv : Value → World → Prop) : KT := fun p1 w => Kv (.pointer p1) w
noncomputable def bd : Code := bdy Tryd.f5
theorem fn : FnOk pr 5 3 Tryd.f5 := ⟨Tryd.func5, by kernel_rfl, Tryd.ntmps5, by kernel_rfl, by kernel_rfl⟩
def F : Clee := ofL []
theorem FOk_ : FOk pr F := FOk_nil
def P1 (Kv : Value → World → Prop) : Post := bodyK pr 3 Tryd.f5 Kv
end bits_NewWriter
def bits_NewWriter (w : World) (K : bits_NewWriter.KT) : Prop :=
  G.new (.cells #[nilS.v, (.int .i64 (0 : Int))] 47) w fun p2 w3 => K (some p2) w3
def bits_NewWriter.cl : CL := fun args K w => match args with
  | [] => C.bits_NewWriter w (bits_NewWriter.Kt K)
  | _ => False
theorem bits_NewWriter.clok : OkC pr 5 bits_NewWriter.cl := by
  intro args K w h
  unfold bits_NewWriter.cl at h
  split at h
  · exact calls_last mixed bits_NewWriter.FOk_ bits_NewWriter.fn rfl (Eq.mp (by kernel_rfl) h)
  · exact h.elim

/-! (*tocsin/bits.Writer).put -/
namespace bits_Writer_put
abbrev KT := World → Prop
def Kt (Kv : Value → World → Prop) : KT := fun  w => Kv (.tuple #[]) w
noncomputable def bd : Code := bdy Tryd.f22
theorem fn : FnOk pr 22 47 Tryd.f22 := ⟨Tryd.func22, by kernel_rfl, Tryd.ntmps22, by kernel_rfl, by kernel_rfl⟩
def F : Clee := ofL []
theorem FOk_ : FOk pr F := FOk_nil
def P1 (Kv : Value → World → Prop) : Post := bodyK pr 47 Tryd.f22 Kv
end bits_Writer_put
def bits_Writer_put (w_1 : Option Addr) (b_2 : Bool) (w : World) (K : bits_Writer_put.KT) : Prop :=
  G.ptr w_1 fun p3 => G.cI .i64 (p3.add 1) w fun n4 => G.nz (8 : Int) <| G.cond ((Int.tmod n4 (8 : Int)) == (0 : Int)) (G.ptr w_1 fun p5 => G.cSl p5 w fun l6 => G.new (.cells #[(.int .u8 (0 : Int))] 5) w fun p7 w8 => G.runSl pr (Builtin.append_ #[34, 34] 34 #[l6.v, (Sl.v (⟨some p7, 1, 1⟩ : Sl))]) w8 fun l9 w10 => G.ptr w_1 fun p11 => G.st p11 l9.v w10 fun w12 => G.cond b_2 (G.ptr w_1 fun p13 => G.cSl p13 w12 fun l14 => G.ptr w_1 fun p15 => G.cI .i64 (p15.add 1) w12 fun n16 => G.nz (8 : Int) <| G.ix l14.a l14.n (IntKind.i64.wrap (Int.tdiv n16 (8 : Int))) 1 fun p17 => G.cI .u8 p17 w12 fun n18 => G.ptr w_1 fun p19 => G.cI .i64 (p19.add 1) w12 fun n20 => G.nz (8 : Int) <| G.nn (IntKind.u64.wrap (Int.tmod n20 (8 : Int))) <| G.ix l14.a l14.n (IntKind.i64.wrap (Int.tdiv n16 (8 : Int))) 1 fun p21 => G.drawn w12 fun w22 => G.st p21 (.int .u8 (Go.bits .or .u8 n18 (shr .u8 (128 : Int) (IntKind.u64.wrap (Int.tmod n20 (8 : Int)))))) w22 fun w23 => G.ptr w_1 fun p24 => G.cI .i64 (p24.add 1) w23 fun n25 => G.ptr w_1 fun p26 => G.st (p26.add 1) (.int .i64 (IntKind.i64.wrap (n25 + (1 : Int)))) w23 fun w27 => K w27) (G.ptr w_1 fun p28 => G.cI .i64 (p28.add 1) w12 fun n29 => G.ptr w_1 fun p30 => G.st (p30.add 1) (.int .i64 (IntKind.i64.wrap (n29 + (1 : Int)))) w12 fun w31 => K w31)) (G.cond b_2 (G.ptr w_1 fun p32 => G.cSl p32 w fun l33 => G.ptr w_1 fun p34 => G.cI .i64 (p34.add 1) w fun n35 => G.nz (8 : Int) <| G.ix l33.a l33.n (IntKind.i64.wrap (Int.tdiv n35 (8 : Int))) 1 fun p36 => G.cI .u8 p36 w fun n37 => G.ptr w_1 fun p38 => G.cI .i64 (p38.add 1) w fun n39 => G.nz (8 : Int) <| G.nn (IntKind.u64.wrap (Int.tmod n39 (8 : Int))) <| G.ix l33.a l33.n (IntKind.i64.wrap (Int.tdiv n35 (8 : Int))) 1 fun p40 => G.drawn w fun w41 => G.st p40 (.int .u8 (Go.bits .or .u8 n37 (shr .u8 (128 : Int) (IntKind.u64.wrap (Int.tmod n39 (8 : Int)))))) w41 fun w42 => G.ptr w_1 fun p43 => G.cI .i64 (p43.add 1) w42 fun n44 => G.ptr w_1 fun p45 => G.st (p45.add 1) (.int .i64 (IntKind.i64.wrap (n44 + (1 : Int)))) w42 fun w46 => K w46) (G.ptr w_1 fun p47 => G.cI .i64 (p47.add 1) w fun n48 => G.ptr w_1 fun p49 => G.st (p49.add 1) (.int .i64 (IntKind.i64.wrap (n48 + (1 : Int)))) w fun w50 => K w50))
def bits_Writer_put.cl : CL := fun args K w => match args with
  | [.pointer x0, .bool x1] => C.bits_Writer_put x0 x1 w (bits_Writer_put.Kt K)
  | _ => False
theorem bits_Writer_put.clok : OkC pr 22 bits_Writer_put.cl := by
  intro args K w h
  unfold bits_Writer_put.cl at h
  split at h
  · exact calls_last mixed bits_Writer_put.FOk_ bits_Writer_put.fn rfl (Eq.mp (by kernel_rfl) h)
  · exact h.elim

/-! (*tocsin/bits.Writer).Bits -/
namespace bits_Writer_Bits
abbrev KT := Int → World → Prop
def Kt (Kv : Value → World → Prop) : KT := fun n1 w => Kv (.int .i64 n1) w
noncomputable def bd : Code := bdy Tryd.f12
theorem fn : FnOk pr 12 51 Tryd.f12 := ⟨Tryd.func12, by kernel_rfl, Tryd.ntmps12, by kernel_rfl, by kernel_rfl⟩
def F : Clee := ofL [(22, C.bits_Writer_put.cl)]
theorem FOk_ : FOk pr F := FOk_cons C.bits_Writer_put.clok (FOk_nil)
def P1 (Kv : Value → World → Prop) : Post := bodyK pr 51 Tryd.f12 Kv
@[reducible] def g2 : List SE := []
def S2 (K : KT) (w : World) : Prop :=
  K (0 : Int) w
theorem S2_ok (Kv : Value → World → Prop) : OkT pr 51 g2 (S2 (Kt Kv)) (s2 (tl 2 bd)) (P1 Kv) := ok_last mixed FOk_ fun v ρ w => by kernel_rfl
def P3 (Kv : Value → World → Prop) : Post := next (get g2 (S2 (Kt Kv))) (P1 Kv)
def P4 (Kv : Value → World → Prop) : Post := inBlock 1 (P3 Kv)
@[reducible] def g5 : List SE := [.v 0 .ptr, .v 1 (.int .u64), .v 7 (.int .i64)]
def P6 (Kv : Value → World → Prop) (kc5 : Cur g5) : Post := next (get g5 kc5) (P4 Kv)
def S7 (K : KT) (kc5 : Cur g5) (w_8 : Option Addr) (v_9 : Int) (i_10 : Int) (w : World) : Prop :=
  G.cond (decide (i_10 ≥ (0 : Int))) (G.nn (IntKind.u64.wrap i_10) <| C.bits_Writer_put w_8 ((Go.bits .and .u64 (shr .u64 v_9 (IntKind.u64.wrap i_10)) (1 : Int)) == (1 : Int)) w fun w11 => kc5 w_8 v_9 (IntKind.i64.wrap (i_10 - (1 : Int))) w11) (S2 K w)
theorem S7_ok (Kv : Value → World → Prop) (kc5 : Cur g5) : OkT pr 51 g5 (S7 (Kt Kv) kc5) (lp (blk (tl 1 (s1 (tl 2 bd))))) (P6 Kv kc5) := ok_last mixed FOk_ fun v ρ w => by kernel_rfl
def L5 (K : KT) : Cur g5 := loopC g5 (S7 K)
theorem L5_ok (Kv : Value → World → Prop) : OkT pr 51 g5 (L5 (Kt Kv)) (blk (tl 1 (s1 (tl 2 bd)))) (P4 Kv) := ok_loop (B := S7 (Kt Kv)) (by kernel_rfl) fun kc => S7_ok Kv kc
theorem L5_ind {K : KT} {w_5 : Option Addr} {v_6 : Int} {i_7 : Int} {w : World} (h : ∀ X : Cur g5, (∀ w_5 v_6 i_7 w, S7 K X w_5 v_6 i_7 w → X w_5 v_6 i_7 w) → X w_5 v_6 i_7 w) : L5 K w_5 v_6 i_7 w := fun X hX => h X fun w_5 v_6 i_7 w hb => hX (w_5, v_6, i_7, ()) w hb
theorem B8 (Kv : Value → World → Prop) : OkT pr 51 g5 (L5 (Kt Kv)) (tl 1 (s1 (tl 2 bd))) (P3 Kv) := ok_block 1 (by kernel_rfl) (L5_ok Kv)
@[reducible] def g9 : List SE := [.v 0 .ptr, .v 1 (.int .u64), .v 2 (.int .i64)]
def S9 (K : KT) (w_12 : Option Addr) (v_13 : Int) (n_14 : Int) (w : World) : Prop :=
  L5 K w_12 v_13 (IntKind.i64.wrap (n_14 - (1 : Int))) w
theorem S9_ok (Kv : Value → World → Prop) : OkT pr 51 g9 (S9 (Kt Kv)) (s1 (tl 2 bd)) (P3 Kv) := ok_group mixed FOk_ 1 (B8 Kv) fun v ρ w => by kernel_rfl
theorem Q10 (Kv : Value → World → Prop) : OkT pr 51 g9 (S9 (Kt Kv)) (tl 2 bd) (P1 Kv) := ok_seq (by kernel_rfl) (S2_ok Kv) (S9_ok Kv)
end bits_Writer_Bits
def bits_Writer_Bits (w_2 : Option Addr) (v_3 : Int) (n_4 : Int) (w : World) (K : bits_Writer_Bits.KT) : Prop :=
  G.cond w_2.isNone (K (2 : Int) w) (G.cond (decide (n_4 < (0 : Int))) (K (1 : Int) w) (G.cond (decide (n_4 > (64 : Int))) (K (1 : Int) w) (G.cond (decide (n_4 < (64 : Int))) (G.nn (IntKind.u64.wrap n_4) <| G.cond ((shr .u64 v_3 (IntKind.u64.wrap n_4)) != (0 : Int)) (K (1 : Int) w) (G.ptr w_2 fun p15 => G.cI .i64 (p15.add 1) w fun n16 => G.cond (decide (n_4 > (IntKind.i64.wrap ((8388608 : Int) - n16)))) (K (8 : Int) w) (bits_Writer_Bits.S9 K w_2 v_3 n_4 w))) (G.ptr w_2 fun p17 => G.cI .i64 (p17.add 1) w fun n18 => G.cond (decide (n_4 > (IntKind.i64.wrap ((8388608 : Int) - n18)))) (K (8 : Int) w) (bits_Writer_Bits.S9 K w_2 v_3 n_4 w)))))
def bits_Writer_Bits.cl : CL := fun args K w => match args with
  | [.pointer x0, .int .u64 x1, .int .i64 x2] => C.bits_Writer_Bits x0 x1 x2 w (bits_Writer_Bits.Kt K)
  | _ => False
theorem bits_Writer_Bits.clok : OkC pr 12 bits_Writer_Bits.cl := by
  intro args K w h
  unfold bits_Writer_Bits.cl at h
  split at h
  · exact calls_group mixed bits_Writer_Bits.FOk_ bits_Writer_Bits.fn rfl 2 (bits_Writer_Bits.Q10 K) (Eq.mp (by kernel_rfl) h)
  · exact h.elim

/-! (*tocsin/bits.Writer).Bit -/
namespace bits_Writer_Bit
abbrev KT := Int → World → Prop
def Kt (Kv : Value → World → Prop) : KT := fun n1 w => Kv (.int .i64 n1) w
noncomputable def bd : Code := bdy Tryd.f14
theorem fn : FnOk pr 14 17 Tryd.f14 := ⟨Tryd.func14, by kernel_rfl, Tryd.ntmps14, by kernel_rfl, by kernel_rfl⟩
def F : Clee := ofL [(22, C.bits_Writer_put.cl)]
theorem FOk_ : FOk pr F := FOk_cons C.bits_Writer_put.clok (FOk_nil)
def P1 (Kv : Value → World → Prop) : Post := bodyK pr 17 Tryd.f14 Kv
end bits_Writer_Bit
def bits_Writer_Bit (w_2 : Option Addr) (b_3 : Bool) (w : World) (K : bits_Writer_Bit.KT) : Prop :=
  G.cond w_2.isNone (K (2 : Int) w) (G.ptr w_2 fun p4 => G.cI .i64 (p4.add 1) w fun n5 => G.cond (decide (n5 ≥ (8388608 : Int))) (K (8 : Int) w) (C.bits_Writer_put w_2 b_3 w fun w6 => K (0 : Int) w6))
def bits_Writer_Bit.cl : CL := fun args K w => match args with
  | [.pointer x0, .bool x1] => C.bits_Writer_Bit x0 x1 w (bits_Writer_Bit.Kt K)
  | _ => False
theorem bits_Writer_Bit.clok : OkC pr 14 bits_Writer_Bit.cl := by
  intro args K w h
  unfold bits_Writer_Bit.cl at h
  split at h
  · exact calls_last mixed bits_Writer_Bit.FOk_ bits_Writer_Bit.fn rfl (Eq.mp (by kernel_rfl) h)
  · exact h.elim

/-! tocsin/bits.fits -/
namespace bits_fits
abbrev KT := Bool → World → Prop
def Kt (Kv : Value → World → Prop) : KT := fun b1 w => Kv (.bool b1) w
noncomputable def bd : Code := bdy Tryd.f31
theorem fn : FnOk pr 31 21 Tryd.f31 := ⟨Tryd.func31, by kernel_rfl, Tryd.ntmps31, by kernel_rfl, by kernel_rfl⟩
def F : Clee := ofL []
theorem FOk_ : FOk pr F := FOk_nil
def P1 (Kv : Value → World → Prop) : Post := bodyK pr 21 Tryd.f31 Kv
end bits_fits
def bits_fits (n_2 : Int) (k_3 : Int) (w : World) (K : bits_fits.KT) : Prop :=
  G.nn (IntKind.u64.wrap (IntKind.i64.wrap (k_3 - (1 : Int)))) <| G.cond (decide (n_2 ≥ (IntKind.i64.wrap (0 - (IntKind.i64.wrap ((shl .i64 (1 : Int) (IntKind.u64.wrap (IntKind.i64.wrap (k_3 - (1 : Int))))) - (1 : Int))))))) (G.nn (IntKind.u64.wrap (IntKind.i64.wrap (k_3 - (1 : Int)))) <| K (decide (n_2 ≤ (shl .i64 (1 : Int) (IntKind.u64.wrap (IntKind.i64.wrap (k_3 - (1 : Int))))))) w) (K false w)
def bits_fits.cl : CL := fun args K w => match args with
  | [.int .i64 x0, .int .i64 x1] => C.bits_fits x0 x1 w (bits_fits.Kt K)
  | _ => False
theorem bits_fits.clok : OkC pr 31 bits_fits.cl := by
  intro args K w h
  unfold bits_fits.cl at h
  split at h
  · exact calls_last mixed bits_fits.FOk_ bits_fits.fn rfl (Eq.mp (by kernel_rfl) h)
  · exact h.elim

/-! tocsin/bits.form -/
namespace bits_form
abbrev KT := Int → Int → World → Prop
def Kt (Kv : Value → World → Prop) : KT := fun n1 n2 w => Kv (.tuple #[(.int .i64 n1), (.int .i64 n2)]) w
noncomputable def bd : Code := bdy Tryd.f27
theorem fn : FnOk pr 27 22 Tryd.f27 := ⟨Tryd.func27, by kernel_rfl, Tryd.ntmps27, by kernel_rfl, by kernel_rfl⟩
def F : Clee := ofL [(31, C.bits_fits.cl)]
theorem FOk_ : FOk pr F := FOk_cons C.bits_fits.clok (FOk_nil)
def P1 (Kv : Value → World → Prop) : Post := bodyK pr 22 Tryd.f27 Kv
def P2 (Kv : Value → World → Prop) : Post := noG (P1 Kv)
@[reducible] def g3 : List SE := [.v 2 (.int .i64), .v 3 (.int .i64)]
def S3 (K : KT) (ones_4 : Int) (width_5 : Int) (w : World) : Prop :=
  K ones_4 width_5 w
theorem S3_ok (Kv : Value → World → Prop) : OkT pr 22 g3 (S3 (Kt Kv)) (s2 (tl 3 (scp (tl 1 bd)))) (P2 Kv) := ok_last mixed FOk_ fun v ρ w => by kernel_rfl
def P4 (Kv : Value → World → Prop) : Post := next (get g3 (S3 (Kt Kv))) (P2 Kv)
def P5 (Kv : Value → World → Prop) : Post := inBlock 0 (P4 Kv)
@[reducible] def g6 : List SE := [.v 0 (.int .i64), .v 2 (.int .i64), .v 3 (.int .i64), .agg 8 [.int .i64, .int .i64, .int .i64, .int .i64, .int .i64, .int .i64, .int .i64], .v 9 (.int .i64)]
def P7 (Kv : Value → World → Prop) (kc6 : Cur g6) : Post := next (get g6 kc6) (P5 Kv)
def S8 (K : KT) (kc6 : Cur g6) (n_28 : Int) (ones_29 : Int) (width_30 : Int) (n31 : Int) (n32 : Int) (n33 : Int) (n34 : Int) (n35 : Int) (n36 : Int) (n37 : Int) (n38 : Int) (w : World) : Prop :=
  G.cond (decide (n38 < (7 : Int))) (G.ixV #[(.int .i64 n31), (.int .i64 n32), (.int .i64 n33), (.int .i64 n34), (.int .i64 n35), (.int .i64 n36), (.int .i64 n37)] n38 7 .i64 fun n39 => C.bits_fits n_28 n39 w fun b40 w41 => G.cond b40 (S3 K (IntKind.i64.wrap (n38 + (1 : Int))) n39 w41) (kc6 n_28 ones_29 width_30 n31 n32 n33 n34 n35 n36 n37 (IntKind.i64.wrap (n38 + (1 : Int))) w41)) (S3 K ones_29 width_30 w)
theorem S8_ok (Kv : Value → World → Prop) (kc6 : Cur g6) : OkT pr 22 g6 (S8 (Kt Kv) kc6) (lp (blk (tl 1 (s1 (tl 3 (scp (tl 1 bd))))))) (P7 Kv kc6) := ok_last mixed FOk_ fun v ρ w => by kernel_rfl
def L6 (K : KT) : Cur g6 := loopC g6 (S8 K)
theorem L6_ok (Kv : Value → World → Prop) : OkT pr 22 g6 (L6 (Kt Kv)) (blk (tl 1 (s1 (tl 3 (scp (tl 1 bd)))))) (P5 Kv) := ok_loop (B := S8 (Kt Kv)) (by kernel_rfl) fun kc => S8_ok Kv kc
theorem L6_ind {K : KT} {n_6 : Int} {ones_7 : Int} {width_8 : Int} {n9 : Int} {n10 : Int} {n11 : Int} {n12 : Int} {n13 : Int} {n14 : Int} {n15 : Int} {n16 : Int} {w : World} (h : ∀ X : Cur g6, (∀ n_6 ones_7 width_8 n9 n10 n11 n12 n13 n14 n15 n16 w, S8 K X n_6 ones_7 width_8 n9 n10 n11 n12 n13 n14 n15 n16 w → X n_6 ones_7 width_8 n9 n10 n11 n12 n13 n14 n15 n16 w) → X n_6 ones_7 width_8 n9 n10 n11 n12 n13 n14 n15 n16 w) : L6 K n_6 ones_7 width_8 n9 n10 n11 n12 n13 n14 n15 n16 w := fun X hX => h X fun n_6 ones_7 width_8 n9 n10 n11 n12 n13 n14 n15 n16 w hb => hX (n_6, ones_7, width_8, (n9, n10, n11, n12, n13, n14, n15, ()), n16, ()) w hb
theorem B9 (Kv : Value → World → Prop) : OkT pr 22 g6 (L6 (Kt Kv)) (tl 1 (s1 (tl 3 (scp (tl 1 bd))))) (P4 Kv) := ok_block 0 (by kernel_rfl) (L6_ok Kv)
@[reducible] def g10 : List SE := [.v 0 (.int .i64), .v 2 (.int .i64), .v 3 (.int .i64)]
def S10 (K : KT) (n_42 : Int) (ones_43 : Int) (width_44 : Int) (w : World) : Prop :=
  G.cI .i64 (⟨0, 0, none⟩ : Addr) w fun n45 => G.cI .i64 ((⟨0, 0, none⟩ : Addr).add 1) w fun n46 => G.cI .i64 ((⟨0, 0, none⟩ : Addr).add 2) w fun n47 => G.cI .i64 ((⟨0, 0, none⟩ : Addr).add 3) w fun n48 => G.cI .i64 ((⟨0, 0, none⟩ : Addr).add 4) w fun n49 => G.cI .i64 ((⟨0, 0, none⟩ : Addr).add 5) w fun n50 => G.cI .i64 ((⟨0, 0, none⟩ : Addr).add 6) w fun n51 => L6 K n_42 ones_43 width_44 n45 n46 n47 n48 n49 n50 n51 (0 : Int) w
theorem S10_ok (Kv : Value → World → Prop) : OkT pr 22 g10 (S10 (Kt Kv)) (s1 (tl 3 (scp (tl 1 bd)))) (P4 Kv) := ok_group mixed FOk_ 1 (B9 Kv) fun v ρ w => by kernel_rfl
theorem Q11 (Kv : Value → World → Prop) : OkT pr 22 g10 (S10 (Kt Kv)) (tl 3 (scp (tl 1 bd))) (P2 Kv) := ok_seq (by kernel_rfl) (S3_ok Kv) (S10_ok Kv)
@[reducible] def g12 : List SE := [.v 0 (.int .i64)]
def S12 (K : KT) (n_52 : Int) (w : World) : Prop :=
  G.cond (n_52 == (0 : Int)) (K (0 : Int) (0 : Int) w) (S10 K n_52 (8 : Int) (64 : Int) w)
theorem S12_ok (Kv : Value → World → Prop) : OkT pr 22 g12 (S12 (Kt Kv)) (scp (tl 1 bd)) (P2 Kv) := ok_group mixed FOk_ 3 (Q11 Kv) fun v ρ w => by kernel_rfl
theorem B13 (Kv : Value → World → Prop) : OkT pr 22 g12 (S12 (Kt Kv)) (tl 1 bd) (P1 Kv) := ok_scope (by kernel_rfl) (S12_ok Kv)
end bits_form
def bits_form (n_3 : Int) (w : World) (K : bits_form.KT) : Prop :=
  bits_form.S12 K n_3 w
def bits_form.cl : CL := fun args K w => match args with
  | [.int .i64 x0] => C.bits_form x0 w (bits_form.Kt K)
  | _ => False
theorem bits_form.clok : OkC pr 27 bits_form.cl := by
  intro args K w h
  unfold bits_form.cl at h
  split at h
  · exact calls_group mixed bits_form.FOk_ bits_form.fn rfl 1 (bits_form.B13 K) (Eq.mp (by kernel_rfl) h)
  · exact h.elim

/-! tocsin/bits.ahead -/
namespace bits_ahead
abbrev KT := Int → World → Prop
def Kt (Kv : Value → World → Prop) : KT := fun n1 w => Kv (.int .i64 n1) w
noncomputable def bd : Code := bdy Tryd.f28
theorem fn : FnOk pr 28 8 Tryd.f28 := ⟨Tryd.func28, by kernel_rfl, Tryd.ntmps28, by kernel_rfl, by kernel_rfl⟩
def F : Clee := ofL []
theorem FOk_ : FOk pr F := FOk_nil
def P1 (Kv : Value → World → Prop) : Post := bodyK pr 8 Tryd.f28 Kv
end bits_ahead
def bits_ahead (ones_2 : Int) (w : World) (K : bits_ahead.KT) : Prop :=
  G.cond (decide (ones_2 < (8 : Int))) (K (IntKind.i64.wrap (ones_2 + (1 : Int))) w) (K ones_2 w)
def bits_ahead.cl : CL := fun args K w => match args with
  | [.int .i64 x0] => C.bits_ahead x0 w (bits_ahead.Kt K)
  | _ => False
theorem bits_ahead.clok : OkC pr 28 bits_ahead.cl := by
  intro args K w h
  unfold bits_ahead.cl at h
  split at h
  · exact calls_last mixed bits_ahead.FOk_ bits_ahead.fn rfl (Eq.mp (by kernel_rfl) h)
  · exact h.elim

/-! (*tocsin/bits.Writer).Int -/
namespace bits_Writer_Int
abbrev KT := Int → World → Prop
def Kt (Kv : Value → World → Prop) : KT := fun n1 w => Kv (.int .i64 n1) w
noncomputable def bd : Code := bdy Tryd.f15
theorem fn : FnOk pr 15 49 Tryd.f15 := ⟨Tryd.func15, by kernel_rfl, Tryd.ntmps15, by kernel_rfl, by kernel_rfl⟩
def F : Clee := ofL [(12, C.bits_Writer_Bits.cl), (22, C.bits_Writer_put.cl), (27, C.bits_form.cl), (28, C.bits_ahead.cl)]
theorem FOk_ : FOk pr F := FOk_cons C.bits_Writer_Bits.clok (FOk_cons C.bits_Writer_put.clok (FOk_cons C.bits_form.clok (FOk_cons C.bits_ahead.clok (FOk_nil))))
def P1 (Kv : Value → World → Prop) : Post := bodyK pr 49 Tryd.f15 Kv
@[reducible] def g2 : List SE := [.v 0 .ptr, .v 1 (.int .i64), .v 5 (.int .i64), .v 6 (.int .i64)]
def S2 (K : KT) (w_4 : Option Addr) (n_5 : Int) (ones_6 : Int) (width_7 : Int) (w : World) : Prop :=
  G.cond (decide (ones_6 < (8 : Int))) (C.bits_Writer_put w_4 false w fun w8 => G.cond (decide (width_7 < (64 : Int))) (G.nn (IntKind.u64.wrap width_7) <| C.bits_Writer_Bits w_4 (Go.bits .and .u64 (IntKind.u64.wrap n_5) (IntKind.u64.wrap ((shl .u64 (1 : Int) (IntKind.u64.wrap width_7)) - (1 : Int)))) width_7 w8 fun n9 w10 => K n9 w10) (C.bits_Writer_Bits w_4 (IntKind.u64.wrap n_5) width_7 w8 fun n11 w12 => K n11 w12)) (G.cond (decide (width_7 < (64 : Int))) (G.nn (IntKind.u64.wrap width_7) <| C.bits_Writer_Bits w_4 (Go.bits .and .u64 (IntKind.u64.wrap n_5) (IntKind.u64.wrap ((shl .u64 (1 : Int) (IntKind.u64.wrap width_7)) - (1 : Int)))) width_7 w fun n13 w14 => K n13 w14) (C.bits_Writer_Bits w_4 (IntKind.u64.wrap n_5) width_7 w fun n15 w16 => K n15 w16))
theorem S2_ok (Kv : Value → World → Prop) : OkT pr 49 g2 (S2 (Kt Kv)) (s2 (tl 4 bd)) (P1 Kv) := ok_last mixed FOk_ fun v ρ w => by kernel_rfl
def P3 (Kv : Value → World → Prop) : Post := next (get g2 (S2 (Kt Kv))) (P1 Kv)
def P4 (Kv : Value → World → Prop) : Post := inBlock 0 (P3 Kv)
@[reducible] def g5 : List SE := [.v 0 .ptr, .v 1 (.int .i64), .v 5 (.int .i64), .v 6 (.int .i64), .v 25 (.int .i64), .v 26 (.int .i64)]
def P6 (Kv : Value → World → Prop) (kc5 : Cur g5) : Post := next (get g5 kc5) (P4 Kv)
def S7 (K : KT) (kc5 : Cur g5) (w_23 : Option Addr) (n_24 : Int) (ones_25 : Int) (width_26 : Int) (n27 : Int) (n28 : Int) (w : World) : Prop :=
  G.cond (decide (n28 < n27)) (C.bits_Writer_put w_23 true w fun w29 => kc5 w_23 n_24 ones_25 width_26 n27 (IntKind.i64.wrap (n28 + (1 : Int))) w29) (S2 K w_23 n_24 ones_25 width_26 w)
theorem S7_ok (Kv : Value → World → Prop) (kc5 : Cur g5) : OkT pr 49 g5 (S7 (Kt Kv) kc5) (lp (blk (tl 1 (s1 (tl 4 bd))))) (P6 Kv kc5) := ok_last mixed FOk_ fun v ρ w => by kernel_rfl
def L5 (K : KT) : Cur g5 := loopC g5 (S7 K)
theorem L5_ok (Kv : Value → World → Prop) : OkT pr 49 g5 (L5 (Kt Kv)) (blk (tl 1 (s1 (tl 4 bd)))) (P4 Kv) := ok_loop (B := S7 (Kt Kv)) (by kernel_rfl) fun kc => S7_ok Kv kc
theorem L5_ind {K : KT} {w_17 : Option Addr} {n_18 : Int} {ones_19 : Int} {width_20 : Int} {n21 : Int} {n22 : Int} {w : World} (h : ∀ X : Cur g5, (∀ w_17 n_18 ones_19 width_20 n21 n22 w, S7 K X w_17 n_18 ones_19 width_20 n21 n22 w → X w_17 n_18 ones_19 width_20 n21 n22 w) → X w_17 n_18 ones_19 width_20 n21 n22 w) : L5 K w_17 n_18 ones_19 width_20 n21 n22 w := fun X hX => h X fun w_17 n_18 ones_19 width_20 n21 n22 w hb => hX (w_17, n_18, ones_19, width_20, n21, n22, ()) w hb
theorem B8 (Kv : Value → World → Prop) : OkT pr 49 g5 (L5 (Kt Kv)) (tl 1 (s1 (tl 4 bd))) (P3 Kv) := ok_block 0 (by kernel_rfl) (L5_ok Kv)
def S9 (K : KT) (w_30 : Option Addr) (n_31 : Int) (ones_32 : Int) (width_33 : Int) (w : World) : Prop :=
  L5 K w_30 n_31 ones_32 width_33 ones_32 (0 : Int) w
theorem S9_ok (Kv : Value → World → Prop) : OkT pr 49 g2 (S9 (Kt Kv)) (s1 (tl 4 bd)) (P3 Kv) := ok_group mixed FOk_ 1 (B8 Kv) fun v ρ w => by kernel_rfl
theorem Q10 (Kv : Value → World → Prop) : OkT pr 49 g2 (S9 (Kt Kv)) (tl 4 bd) (P1 Kv) := ok_seq (by kernel_rfl) (S2_ok Kv) (S9_ok Kv)
end bits_Writer_Int
def bits_Writer_Int (w_2 : Option Addr) (n_3 : Int) (w : World) (K : bits_Writer_Int.KT) : Prop :=
  G.cond w_2.isNone (K (2 : Int) w) (C.bits_form n_3 w fun n34 n35 w36 => G.ptr w_2 fun p37 => G.cI .i64 (p37.add 1) w36.drew fun n38 => C.bits_ahead n34 w36.drew fun n39 w40 => (True ∧ sameAt (p37.add 1) 1 w36.drew w40) ∧ (G.cond (decide ((IntKind.i64.wrap (n39 + n35)) > (IntKind.i64.wrap ((8388608 : Int) - n38)))) (K (8 : Int) w40) (bits_Writer_Int.S9 K w_2 n_3 n34 n35 w40)))
def bits_Writer_Int.cl : CL := fun args K w => match args with
  | [.pointer x0, .int .i64 x1] => C.bits_Writer_Int x0 x1 w (bits_Writer_Int.Kt K)
  | _ => False
theorem bits_Writer_Int.clok : OkC pr 15 bits_Writer_Int.cl := by
  intro args K w h
  unfold bits_Writer_Int.cl at h
  split at h
  · exact calls_group mixed bits_Writer_Int.FOk_ bits_Writer_Int.fn rfl 4 (bits_Writer_Int.Q10 K) (Eq.mp (by kernel_rfl) h)
  · exact h.elim

/-! (*tocsin/tocsinref02.Stream).Bit -/
namespace tocsinref02_Stream_Bit
abbrev KT := Int → World → Prop
def Kt (Kv : Value → World → Prop) : KT := fun n1 w => Kv (.int .i64 n1) w
noncomputable def bd : Code := bdy Tryd.f16
theorem fn : FnOk pr 16 21 Tryd.f16 := ⟨Tryd.func16, by kernel_rfl, Tryd.ntmps16, by kernel_rfl, by kernel_rfl⟩
def F : Clee := ofL []
theorem FOk_ : FOk pr F := FOk_nil
def P1 (Kv : Value → World → Prop) : Post := bodyK pr 21 Tryd.f16 Kv
end tocsinref02_Stream_Bit
def tocsinref02_Stream_Bit (s_2 : Option Addr) (b_3 : Bool) (w : World) (K : tocsinref02_Stream_Bit.KT) : Prop :=
  G.ptr s_2 fun p4 => G.cSl p4 w fun l5 => G.cond (decide (((l5.n : Nat) : Int) ≥ (8388608 : Int))) (K (8 : Int) w) (G.ptr s_2 fun p6 => G.cSl p6 w fun l7 => G.new (.cells #[(.bool b_3)] 4) w fun p8 w9 => G.runSl pr (Builtin.append_ #[26, 26] 26 #[l7.v, (Sl.v (⟨some p8, 1, 1⟩ : Sl))]) w9 fun l10 w11 => G.ptr s_2 fun p12 => G.st p12 l10.v w11 fun w13 => K (0 : Int) w13)
def tocsinref02_Stream_Bit.cl : CL := fun args K w => match args with
  | [.pointer x0, .bool x1] => C.tocsinref02_Stream_Bit x0 x1 w (tocsinref02_Stream_Bit.Kt K)
  | _ => False
theorem tocsinref02_Stream_Bit.clok : OkC pr 16 tocsinref02_Stream_Bit.cl := by
  intro args K w h
  unfold tocsinref02_Stream_Bit.cl at h
  split at h
  · exact calls_last mixed tocsinref02_Stream_Bit.FOk_ tocsinref02_Stream_Bit.fn rfl (Eq.mp (by kernel_rfl) h)
  · exact h.elim

/-! (*tocsin/tocsinref02.Stream).Write -/
namespace tocsinref02_Stream_Write
abbrev KT := World → Prop
def Kt (Kv : Value → World → Prop) : KT := fun  w => Kv (.tuple #[]) w
noncomputable def bd : Code := bdy Tryd.f25
theorem fn : FnOk pr 25 28 Tryd.f25 := ⟨Tryd.func25, by kernel_rfl, Tryd.ntmps25, by kernel_rfl, by kernel_rfl⟩
def F : Clee := ofL []
theorem FOk_ : FOk pr F := FOk_nil
def P1 (Kv : Value → World → Prop) : Post := bodyK pr 28 Tryd.f25 Kv
def P2 (Kv : Value → World → Prop) : Post := inBlock 0 (P1 Kv)
@[reducible] def g3 : List SE := [.v 0 .ptr, .v 1 (.int .u64), .v 6 (.int .i64)]
def P4 (Kv : Value → World → Prop) (kc3 : Cur g3) : Post := next (get g3 kc3) (P2 Kv)
def S5 (K : KT) (kc3 : Cur g3) (s_7 : Option Addr) (v_8 : Int) (i_9 : Int) (w : World) : Prop :=
  G.cond (decide (i_9 ≥ (0 : Int))) (G.ptr s_7 fun p10 => G.cSl p10 w fun l11 => G.nn (IntKind.u64.wrap i_9) <| G.new (.cells #[(.bool ((Go.bits .and .u64 (shr .u64 v_8 (IntKind.u64.wrap i_9)) (1 : Int)) == (1 : Int)))] 4) w fun p12 w13 => G.runSl pr (Builtin.append_ #[26, 26] 26 #[l11.v, (Sl.v (⟨some p12, 1, 1⟩ : Sl))]) w13 fun l14 w15 => G.ptr s_7 fun p16 => G.st p16 l14.v w15 fun w17 => kc3 s_7 v_8 (IntKind.i64.wrap (i_9 - (1 : Int))) w17) (K w)
theorem S5_ok (Kv : Value → World → Prop) (kc3 : Cur g3) : OkT pr 28 g3 (S5 (Kt Kv) kc3) (lp (blk (tl 1 bd))) (P4 Kv kc3) := ok_last mixed FOk_ fun v ρ w => by kernel_rfl
def L3 (K : KT) : Cur g3 := loopC g3 (S5 K)
theorem L3_ok (Kv : Value → World → Prop) : OkT pr 28 g3 (L3 (Kt Kv)) (blk (tl 1 bd)) (P2 Kv) := ok_loop (B := S5 (Kt Kv)) (by kernel_rfl) fun kc => S5_ok Kv kc
theorem L3_ind {K : KT} {s_4 : Option Addr} {v_5 : Int} {i_6 : Int} {w : World} (h : ∀ X : Cur g3, (∀ s_4 v_5 i_6 w, S5 K X s_4 v_5 i_6 w → X s_4 v_5 i_6 w) → X s_4 v_5 i_6 w) : L3 K s_4 v_5 i_6 w := fun X hX => h X fun s_4 v_5 i_6 w hb => hX (s_4, v_5, i_6, ()) w hb
theorem B6 (Kv : Value → World → Prop) : OkT pr 28 g3 (L3 (Kt Kv)) (tl 1 bd) (P1 Kv) := ok_block 0 (by kernel_rfl) (L3_ok Kv)
end tocsinref02_Stream_Write
def tocsinref02_Stream_Write (s_1 : Option Addr) (v_2 : Int) (n_3 : Int) (w : World) (K : tocsinref02_Stream_Write.KT) : Prop :=
  tocsinref02_Stream_Write.L3 K s_1 v_2 (IntKind.i64.wrap (n_3 - (1 : Int))) w
def tocsinref02_Stream_Write.cl : CL := fun args K w => match args with
  | [.pointer x0, .int .u64 x1, .int .i64 x2] => C.tocsinref02_Stream_Write x0 x1 x2 w (tocsinref02_Stream_Write.Kt K)
  | _ => False
theorem tocsinref02_Stream_Write.clok : OkC pr 25 tocsinref02_Stream_Write.cl := by
  intro args K w h
  unfold tocsinref02_Stream_Write.cl at h
  split at h
  · exact calls_group mixed tocsinref02_Stream_Write.FOk_ tocsinref02_Stream_Write.fn rfl 1 (tocsinref02_Stream_Write.B6 K) (Eq.mp (by kernel_rfl) h)
  · exact h.elim

/-! (*tocsin/tocsinref02.Stream).Bits -/
namespace tocsinref02_Stream_Bits
abbrev KT := Int → World → Prop
def Kt (Kv : Value → World → Prop) : KT := fun n1 w => Kv (.int .i64 n1) w
noncomputable def bd : Code := bdy Tryd.f17
theorem fn : FnOk pr 17 36 Tryd.f17 := ⟨Tryd.func17, by kernel_rfl, Tryd.ntmps17, by kernel_rfl, by kernel_rfl⟩
def F : Clee := ofL [(25, C.tocsinref02_Stream_Write.cl)]
theorem FOk_ : FOk pr F := FOk_cons C.tocsinref02_Stream_Write.clok (FOk_nil)
def P1 (Kv : Value → World → Prop) : Post := bodyK pr 36 Tryd.f17 Kv
end tocsinref02_Stream_Bits
def tocsinref02_Stream_Bits (s_2 : Option Addr) (v_3 : Int) (n_4 : Int) (w : World) (K : tocsinref02_Stream_Bits.KT) : Prop :=
  G.cond (decide (n_4 < (0 : Int))) (K (1 : Int) w) (G.cond (decide (n_4 > (64 : Int))) (K (1 : Int) w) (G.cond (decide (n_4 < (64 : Int))) (G.nn (IntKind.u64.wrap n_4) <| G.cond ((shr .u64 v_3 (IntKind.u64.wrap n_4)) != (0 : Int)) (K (1 : Int) w) (G.ptr s_2 fun p5 => G.cSl p5 w fun l6 => G.cond (decide ((IntKind.i64.wrap (((l6.n : Nat) : Int) + n_4)) > (8388608 : Int))) (K (8 : Int) w) (C.tocsinref02_Stream_Write s_2 v_3 n_4 w fun w7 => K (0 : Int) w7))) (G.ptr s_2 fun p8 => G.cSl p8 w fun l9 => G.cond (decide ((IntKind.i64.wrap (((l9.n : Nat) : Int) + n_4)) > (8388608 : Int))) (K (8 : Int) w) (C.tocsinref02_Stream_Write s_2 v_3 n_4 w fun w10 => K (0 : Int) w10))))
def tocsinref02_Stream_Bits.cl : CL := fun args K w => match args with
  | [.pointer x0, .int .u64 x1, .int .i64 x2] => C.tocsinref02_Stream_Bits x0 x1 x2 w (tocsinref02_Stream_Bits.Kt K)
  | _ => False
theorem tocsinref02_Stream_Bits.clok : OkC pr 17 tocsinref02_Stream_Bits.cl := by
  intro args K w h
  unfold tocsinref02_Stream_Bits.cl at h
  split at h
  · exact calls_last mixed tocsinref02_Stream_Bits.FOk_ tocsinref02_Stream_Bits.fn rfl (Eq.mp (by kernel_rfl) h)
  · exact h.elim

/-! tocsin/tocsinref02.width -/
namespace tocsinref02_width
abbrev KT := Int → World → Prop
def Kt (Kv : Value → World → Prop) : KT := fun n1 w => Kv (.int .i64 n1) w
noncomputable def bd : Code := bdy Tryd.f24
theorem fn : FnOk pr 24 7 Tryd.f24 := ⟨Tryd.func24, by kernel_rfl, Tryd.ntmps24, by kernel_rfl, by kernel_rfl⟩
def F : Clee := ofL []
theorem FOk_ : FOk pr F := FOk_nil
def P1 (Kv : Value → World → Prop) : Post := bodyK pr 7 Tryd.f24 Kv
end tocsinref02_width
def tocsinref02_width (row_2 : Int) (w : World) (K : tocsinref02_width.KT) : Prop :=
  G.new (.cells #[(.int .i64 (0 : Int)), (.int .i64 (3 : Int)), (.int .i64 (6 : Int)), (.int .i64 (9 : Int)), (.int .i64 (12 : Int)), (.int .i64 (18 : Int)), (.int .i64 (25 : Int)), (.int .i64 (56 : Int)), (.int .i64 (64 : Int))] 3) w fun p3 w4 => G.ix ((⟨some p3, 9, 9⟩ : Sl).a) ((⟨some p3, 9, 9⟩ : Sl).n) row_2 1 fun p5 => G.cI .i64 p5 w4 fun n6 => K n6 w4
def tocsinref02_width.cl : CL := fun args K w => match args with
  | [.int .i64 x0] => C.tocsinref02_width x0 w (tocsinref02_width.Kt K)
  | _ => False
theorem tocsinref02_width.clok : OkC pr 24 tocsinref02_width.cl := by
  intro args K w h
  unfold tocsinref02_width.cl at h
  split at h
  · exact calls_last mixed tocsinref02_width.FOk_ tocsinref02_width.fn rfl (Eq.mp (by kernel_rfl) h)
  · exact h.elim

/-! tocsin/tocsinref02.In -/
namespace tocsinref02_In
abbrev KT := Bool → World → Prop
def Kt (Kv : Value → World → Prop) : KT := fun b1 w => Kv (.bool b1) w
noncomputable def bd : Code := bdy Tryd.f30
theorem fn : FnOk pr 30 20 Tryd.f30 := ⟨Tryd.func30, by kernel_rfl, Tryd.ntmps30, by kernel_rfl, by kernel_rfl⟩
def F : Clee := ofL []
theorem FOk_ : FOk pr F := FOk_nil
def P1 (Kv : Value → World → Prop) : Post := bodyK pr 20 Tryd.f30 Kv
end tocsinref02_In
def tocsinref02_In (n_2 : Int) (k_3 : Int) (w : World) (K : tocsinref02_In.KT) : Prop :=
  G.nn (IntKind.u64.wrap (IntKind.i64.wrap (k_3 - (1 : Int)))) <| G.cond (decide (n_2 ≥ (IntKind.i64.wrap (0 - (IntKind.i64.wrap ((shl .i64 (1 : Int) (IntKind.u64.wrap (IntKind.i64.wrap (k_3 - (1 : Int))))) - (1 : Int))))))) (K (decide (n_2 ≤ (shl .i64 (1 : Int) (IntKind.u64.wrap (IntKind.i64.wrap (k_3 - (1 : Int))))))) w) (K false w)
def tocsinref02_In.cl : CL := fun args K w => match args with
  | [.int .i64 x0, .int .i64 x1] => C.tocsinref02_In x0 x1 w (tocsinref02_In.Kt K)
  | _ => False
theorem tocsinref02_In.clok : OkC pr 30 tocsinref02_In.cl := by
  intro args K w h
  unfold tocsinref02_In.cl at h
  split at h
  · exact calls_last mixed tocsinref02_In.FOk_ tocsinref02_In.fn rfl (Eq.mp (by kernel_rfl) h)
  · exact h.elim

/-! tocsin/tocsinref02.Row -/
namespace tocsinref02_Row
abbrev KT := Int → World → Prop
def Kt (Kv : Value → World → Prop) : KT := fun n1 w => Kv (.int .i64 n1) w
noncomputable def bd : Code := bdy Tryd.f23
theorem fn : FnOk pr 23 15 Tryd.f23 := ⟨Tryd.func23, by kernel_rfl, Tryd.ntmps23, by kernel_rfl, by kernel_rfl⟩
def F : Clee := ofL [(24, C.tocsinref02_width.cl), (30, C.tocsinref02_In.cl)]
theorem FOk_ : FOk pr F := FOk_cons C.tocsinref02_width.clok (FOk_cons C.tocsinref02_In.clok (FOk_nil))
def P1 (Kv : Value → World → Prop) : Post := bodyK pr 15 Tryd.f23 Kv
@[reducible] def g2 : List SE := []
def S2 (K : KT) (w : World) : Prop :=
  K (8 : Int) w
theorem S2_ok (Kv : Value → World → Prop) : OkT pr 15 g2 (S2 (Kt Kv)) (s2 (tl 2 bd)) (P1 Kv) := ok_last mixed FOk_ fun v ρ w => by kernel_rfl
def P3 (Kv : Value → World → Prop) : Post := next (get g2 (S2 (Kt Kv))) (P1 Kv)
def P4 (Kv : Value → World → Prop) : Post := inBlock 0 (P3 Kv)
@[reducible] def g5 : List SE := [.v 0 (.int .i64), .v 3 (.int .i64)]
def P6 (Kv : Value → World → Prop) (kc5 : Cur g5) : Post := next (get g5 kc5) (P4 Kv)
def S7 (K : KT) (kc5 : Cur g5) (n_5 : Int) (r_6 : Int) (w : World) : Prop :=
  G.cond (decide (r_6 < (8 : Int))) (C.tocsinref02_width r_6 w fun n7 w8 => C.tocsinref02_In n_5 n7 w8 fun b9 w10 => G.cond b9 (K r_6 w10) (kc5 n_5 (IntKind.i64.wrap (r_6 + (1 : Int))) w10)) (S2 K w)
theorem S7_ok (Kv : Value → World → Prop) (kc5 : Cur g5) : OkT pr 15 g5 (S7 (Kt Kv) kc5) (lp (blk (tl 1 (s1 (tl 2 bd))))) (P6 Kv kc5) := ok_last mixed FOk_ fun v ρ w => by kernel_rfl
def L5 (K : KT) : Cur g5 := loopC g5 (S7 K)
theorem L5_ok (Kv : Value → World → Prop) : OkT pr 15 g5 (L5 (Kt Kv)) (blk (tl 1 (s1 (tl 2 bd)))) (P4 Kv) := ok_loop (B := S7 (Kt Kv)) (by kernel_rfl) fun kc => S7_ok Kv kc
theorem L5_ind {K : KT} {n_3 : Int} {r_4 : Int} {w : World} (h : ∀ X : Cur g5, (∀ n_3 r_4 w, S7 K X n_3 r_4 w → X n_3 r_4 w) → X n_3 r_4 w) : L5 K n_3 r_4 w := fun X hX => h X fun n_3 r_4 w hb => hX (n_3, r_4, ()) w hb
theorem B8 (Kv : Value → World → Prop) : OkT pr 15 g5 (L5 (Kt Kv)) (tl 1 (s1 (tl 2 bd))) (P3 Kv) := ok_block 0 (by kernel_rfl) (L5_ok Kv)
@[reducible] def g9 : List SE := [.v 0 (.int .i64)]
def S9 (K : KT) (n_11 : Int) (w : World) : Prop :=
  L5 K n_11 (1 : Int) w
theorem S9_ok (Kv : Value → World → Prop) : OkT pr 15 g9 (S9 (Kt Kv)) (s1 (tl 2 bd)) (P3 Kv) := ok_group mixed FOk_ 1 (B8 Kv) fun v ρ w => by kernel_rfl
theorem Q10 (Kv : Value → World → Prop) : OkT pr 15 g9 (S9 (Kt Kv)) (tl 2 bd) (P1 Kv) := ok_seq (by kernel_rfl) (S2_ok Kv) (S9_ok Kv)
end tocsinref02_Row
def tocsinref02_Row (n_2 : Int) (w : World) (K : tocsinref02_Row.KT) : Prop :=
  G.cond (n_2 == (0 : Int)) (K (0 : Int) w) (tocsinref02_Row.S9 K n_2 w)
def tocsinref02_Row.cl : CL := fun args K w => match args with
  | [.int .i64 x0] => C.tocsinref02_Row x0 w (tocsinref02_Row.Kt K)
  | _ => False
theorem tocsinref02_Row.clok : OkC pr 23 tocsinref02_Row.cl := by
  intro args K w h
  unfold tocsinref02_Row.cl at h
  split at h
  · exact calls_group mixed tocsinref02_Row.FOk_ tocsinref02_Row.fn rfl 2 (tocsinref02_Row.Q10 K) (Eq.mp (by kernel_rfl) h)
  · exact h.elim

/-! tocsin/tocsinref02.Low -/
namespace tocsinref02_Low
abbrev KT := Int → World → Prop
def Kt (Kv : Value → World → Prop) : KT := fun n1 w => Kv (.int .u64 n1) w
noncomputable def bd : Code := bdy Tryd.f26
theorem fn : FnOk pr 26 16 Tryd.f26 := ⟨Tryd.func26, by kernel_rfl, Tryd.ntmps26, by kernel_rfl, by kernel_rfl⟩
def F : Clee := ofL []
theorem FOk_ : FOk pr F := FOk_nil
def P1 (Kv : Value → World → Prop) : Post := bodyK pr 16 Tryd.f26 Kv
end tocsinref02_Low
def tocsinref02_Low (n_2 : Int) (k_3 : Int) (w : World) (K : tocsinref02_Low.KT) : Prop :=
  G.cond (decide (k_3 ≥ (64 : Int))) (K (IntKind.u64.wrap n_2) w) (G.nn (IntKind.u64.wrap k_3) <| K (Go.bits .and .u64 (IntKind.u64.wrap n_2) (IntKind.u64.wrap ((shl .u64 (1 : Int) (IntKind.u64.wrap k_3)) - (1 : Int)))) w)
def tocsinref02_Low.cl : CL := fun args K w => match args with
  | [.int .i64 x0, .int .i64 x1] => C.tocsinref02_Low x0 x1 w (tocsinref02_Low.Kt K)
  | _ => False
theorem tocsinref02_Low.clok : OkC pr 26 tocsinref02_Low.cl := by
  intro args K w h
  unfold tocsinref02_Low.cl at h
  split at h
  · exact calls_last mixed tocsinref02_Low.FOk_ tocsinref02_Low.fn rfl (Eq.mp (by kernel_rfl) h)
  · exact h.elim

/-! tocsin/tocsinref02.Form -/
namespace tocsinref02_Form
abbrev KT := Sl → World → Prop
def Kt (Kv : Value → World → Prop) : KT := fun l1 w => Kv l1.v w
noncomputable def bd : Code := bdy Tryd.f13
theorem fn : FnOk pr 13 48 Tryd.f13 := ⟨Tryd.func13, by kernel_rfl, Tryd.ntmps13, by kernel_rfl, by kernel_rfl⟩
def F : Clee := ofL [(23, C.tocsinref02_Row.cl), (24, C.tocsinref02_width.cl), (25, C.tocsinref02_Stream_Write.cl), (26, C.tocsinref02_Low.cl)]
theorem FOk_ : FOk pr F := FOk_cons C.tocsinref02_Row.clok (FOk_cons C.tocsinref02_width.clok (FOk_cons C.tocsinref02_Stream_Write.clok (FOk_cons C.tocsinref02_Low.clok (FOk_nil))))
def P1 (Kv : Value → World → Prop) : Post := bodyK pr 48 Tryd.f13 Kv
@[reducible] def g2 : List SE := [.v 0 (.int .i64), .v 3 .ptr, .v 4 (.int .i64)]
def S2 (K : KT) (n_3 : Int) (s_4 : Option Addr) (r_5 : Int) (w : World) : Prop :=
  G.cond (decide (r_5 < (8 : Int))) (G.ptr s_4 fun p6 => G.cSl p6 w fun l7 => G.new (.cells #[(.bool false)] 4) w fun p8 w9 => G.runSl pr (Builtin.append_ #[26, 26] 26 #[l7.v, (Sl.v (⟨some p8, 1, 1⟩ : Sl))]) w9 fun l10 w11 => G.ptr s_4 fun p12 => G.st p12 l10.v w11 fun w13 => C.tocsinref02_width r_5 w13 fun n14 w15 => C.tocsinref02_Low n_3 n14 w15 fun n16 w17 => C.tocsinref02_Stream_Write s_4 n16 n14 w17 fun w18 => G.ptr s_4 fun p19 => G.cSl p19 w18 fun l20 => K l20 w18) (C.tocsinref02_width r_5 w fun n21 w22 => C.tocsinref02_Low n_3 n21 w22 fun n23 w24 => C.tocsinref02_Stream_Write s_4 n23 n21 w24 fun w25 => G.ptr s_4 fun p26 => G.cSl p26 w25 fun l27 => K l27 w25)
theorem S2_ok (Kv : Value → World → Prop) : OkT pr 48 g2 (S2 (Kt Kv)) (s2 (tl 3 bd)) (P1 Kv) := ok_last mixed FOk_ fun v ρ w => by kernel_rfl
def P3 (Kv : Value → World → Prop) : Post := next (get g2 (S2 (Kt Kv))) (P1 Kv)
def P4 (Kv : Value → World → Prop) : Post := inBlock 0 (P3 Kv)
@[reducible] def g5 : List SE := [.v 0 (.int .i64), .v 3 .ptr, .v 4 (.int .i64), .v 5 (.int .i64)]
def P6 (Kv : Value → World → Prop) (kc5 : Cur g5) : Post := next (get g5 kc5) (P4 Kv)
def S7 (K : KT) (kc5 : Cur g5) (n_32 : Int) (s_33 : Option Addr) (r_34 : Int) (i_35 : Int) (w : World) : Prop :=
  G.cond (decide (i_35 < r_34)) (G.ptr s_33 fun p36 => G.cSl p36 w fun l37 => G.new (.cells #[(.bool true)] 4) w fun p38 w39 => G.runSl pr (Builtin.append_ #[26, 26] 26 #[l37.v, (Sl.v (⟨some p38, 1, 1⟩ : Sl))]) w39 fun l40 w41 => G.ptr s_33 fun p42 => G.st p42 l40.v w41 fun w43 => kc5 n_32 s_33 r_34 (IntKind.i64.wrap (i_35 + (1 : Int))) w43) (S2 K n_32 s_33 r_34 w)
theorem S7_ok (Kv : Value → World → Prop) (kc5 : Cur g5) : OkT pr 48 g5 (S7 (Kt Kv) kc5) (lp (blk (tl 1 (s1 (tl 3 bd))))) (P6 Kv kc5) := ok_last mixed FOk_ fun v ρ w => by kernel_rfl
def L5 (K : KT) : Cur g5 := loopC g5 (S7 K)
theorem L5_ok (Kv : Value → World → Prop) : OkT pr 48 g5 (L5 (Kt Kv)) (blk (tl 1 (s1 (tl 3 bd)))) (P4 Kv) := ok_loop (B := S7 (Kt Kv)) (by kernel_rfl) fun kc => S7_ok Kv kc
theorem L5_ind {K : KT} {n_28 : Int} {s_29 : Option Addr} {r_30 : Int} {i_31 : Int} {w : World} (h : ∀ X : Cur g5, (∀ n_28 s_29 r_30 i_31 w, S7 K X n_28 s_29 r_30 i_31 w → X n_28 s_29 r_30 i_31 w) → X n_28 s_29 r_30 i_31 w) : L5 K n_28 s_29 r_30 i_31 w := fun X hX => h X fun n_28 s_29 r_30 i_31 w hb => hX (n_28, s_29, r_30, i_31, ()) w hb
theorem B8 (Kv : Value → World → Prop) : OkT pr 48 g5 (L5 (Kt Kv)) (tl 1 (s1 (tl 3 bd))) (P3 Kv) := ok_block 0 (by kernel_rfl) (L5_ok Kv)
def S9 (K : KT) (n_44 : Int) (s_45 : Option Addr) (r_46 : Int) (w : World) : Prop :=
  L5 K n_44 s_45 r_46 (0 : Int) w
theorem S9_ok (Kv : Value → World → Prop) : OkT pr 48 g2 (S9 (Kt Kv)) (s1 (tl 3 bd)) (P3 Kv) := ok_group mixed FOk_ 1 (B8 Kv) fun v ρ w => by kernel_rfl
theorem Q10 (Kv : Value → World → Prop) : OkT pr 48 g2 (S9 (Kt Kv)) (tl 3 bd) (P1 Kv) := ok_seq (by kernel_rfl) (S2_ok Kv) (S9_ok Kv)
end tocsinref02_Form
def tocsinref02_Form (n_2 : Int) (w : World) (K : tocsinref02_Form.KT) : Prop :=
  G.new (.cells #[nilS.v, (.int .i64 (0 : Int))] 28) w fun p47 w48 => C.tocsinref02_Row n_2 w48 fun n49 w50 => tocsinref02_Form.S9 K n_2 (some p47) n49 w50
def tocsinref02_Form.cl : CL := fun args K w => match args with
  | [.int .i64 x0] => C.tocsinref02_Form x0 w (tocsinref02_Form.Kt K)
  | _ => False
theorem tocsinref02_Form.clok : OkC pr 13 tocsinref02_Form.cl := by
  intro args K w h
  unfold tocsinref02_Form.cl at h
  split at h
  · exact calls_group mixed tocsinref02_Form.FOk_ tocsinref02_Form.fn rfl 3 (tocsinref02_Form.Q10 K) (Eq.mp (by kernel_rfl) h)
  · exact h.elim

/-! (*tocsin/tocsinref02.Stream).Int -/
namespace tocsinref02_Stream_Int
abbrev KT := Int → World → Prop
def Kt (Kv : Value → World → Prop) : KT := fun n1 w => Kv (.int .i64 n1) w
noncomputable def bd : Code := bdy Tryd.f18
theorem fn : FnOk pr 18 26 Tryd.f18 := ⟨Tryd.func18, by kernel_rfl, Tryd.ntmps18, by kernel_rfl, by kernel_rfl⟩
def F : Clee := ofL [(13, C.tocsinref02_Form.cl)]
theorem FOk_ : FOk pr F := FOk_cons C.tocsinref02_Form.clok (FOk_nil)
def P1 (Kv : Value → World → Prop) : Post := bodyK pr 26 Tryd.f18 Kv
end tocsinref02_Stream_Int
def tocsinref02_Stream_Int (s_2 : Option Addr) (n_3 : Int) (w : World) (K : tocsinref02_Stream_Int.KT) : Prop :=
  C.tocsinref02_Form n_3 w fun l4 w5 => G.ptr s_2 fun p6 => G.cSl p6 w5 fun l7 => G.cond (decide ((IntKind.i64.wrap (((l7.n : Nat) : Int) + ((l4.n : Nat) : Int))) > (8388608 : Int))) (K (8 : Int) w5) (G.ptr s_2 fun p8 => G.cSl p8 w5 fun l9 => G.runSl pr (Builtin.append_ #[26, 26] 26 #[l9.v, l4.v]) w5 fun l10 w11 => G.ptr s_2 fun p12 => G.st p12 l10.v w11 fun w13 => K (0 : Int) w13)
def tocsinref02_Stream_Int.cl : CL := fun args K w => match args with
  | [.pointer x0, .int .i64 x1] => C.tocsinref02_Stream_Int x0 x1 w (tocsinref02_Stream_Int.Kt K)
  | _ => False
theorem tocsinref02_Stream_Int.clok : OkC pr 18 tocsinref02_Stream_Int.cl := by
  intro args K w h
  unfold tocsinref02_Stream_Int.cl at h
  split at h
  · exact calls_last mixed tocsinref02_Stream_Int.FOk_ tocsinref02_Stream_Int.fn rfl (Eq.mp (by kernel_rfl) h)
  · exact h.elim

/-! tocsin/tocsinlaw02.write -/
namespace tocsinlaw02_write
abbrev KT := Bool → World → Prop
def Kt (Kv : Value → World → Prop) : KT := fun b1 w => Kv (.bool b1) w
noncomputable def bd : Code := bdy Tryd.f6
theorem fn : FnOk pr 6 50 Tryd.f6 := ⟨Tryd.func6, by kernel_rfl, Tryd.ntmps6, by kernel_rfl, by kernel_rfl⟩
def F : Clee := ofL [(12, C.bits_Writer_Bits.cl), (14, C.bits_Writer_Bit.cl), (15, C.bits_Writer_Int.cl), (16, C.tocsinref02_Stream_Bit.cl), (17, C.tocsinref02_Stream_Bits.cl), (18, C.tocsinref02_Stream_Int.cl)]
theorem FOk_ : FOk pr F := FOk_cons C.bits_Writer_Bits.clok (FOk_cons C.bits_Writer_Bit.clok (FOk_cons C.bits_Writer_Int.clok (FOk_cons C.tocsinref02_Stream_Bit.clok (FOk_cons C.tocsinref02_Stream_Bits.clok (FOk_cons C.tocsinref02_Stream_Int.clok (FOk_nil))))))
def P1 (Kv : Value → World → Prop) : Post := bodyK pr 50 Tryd.f6 Kv
end tocsinlaw02_write
def tocsinlaw02_write (w_2 : Option Addr) (s_3 : Option Addr) (o_4 : Int) (o_5 : Int) (o_6 : Int) (o_7 : Int) (w : World) (K : tocsinlaw02_write.KT) : Prop :=
  G.new (.cells #[(.int .i64 o_4), (.int .u64 o_5), (.int .i64 o_6), (.int .i64 o_7)] 31) w fun p8 w9 => G.cI .i64 p8 w9 fun n10 => G.cond (n10 == (0 : Int)) (G.cI .i64 (p8.add 2) w9.drew fun n11 => G.nz (2 : Int) <| G.cI .i64 (p8.add 2) w9.drew fun n12 => G.nz (2 : Int) <| C.bits_Writer_Bit w_2 ((Int.tmod n11 (2 : Int)) != (0 : Int)) w9.drew fun n13 w14 => ((True ∧ sameAt (p8.add 2) 1 w9.drew w14) ∧ sameAt (p8.add 2) 1 w9.drew w14) ∧ (C.tocsinref02_Stream_Bit s_3 ((Int.tmod n12 (2 : Int)) != (0 : Int)) w14 fun n15 w16 => ((True ∧ sameAt (p8.add 2) 1 w9.drew w16) ∧ sameAt (p8.add 2) 1 w9.drew w16) ∧ (K (n13 == n15) w16))) (G.cond (n10 == (1 : Int)) (G.cI .u64 (p8.add 1) w9.drew fun n17 => G.cI .i64 (p8.add 2) w9.drew fun n18 => G.cI .u64 (p8.add 1) w9.drew fun n19 => G.cI .i64 (p8.add 2) w9.drew fun n20 => C.bits_Writer_Bits w_2 n17 n18 w9.drew fun n21 w22 => ((((True ∧ sameAt (p8.add 1) 1 w9.drew w22) ∧ sameAt (p8.add 2) 1 w9.drew w22) ∧ sameAt (p8.add 1) 1 w9.drew w22) ∧ sameAt (p8.add 2) 1 w9.drew w22) ∧ (C.tocsinref02_Stream_Bits s_3 n19 n20 w22 fun n23 w24 => ((((True ∧ sameAt (p8.add 1) 1 w9.drew w24) ∧ sameAt (p8.add 2) 1 w9.drew w24) ∧ sameAt (p8.add 1) 1 w9.drew w24) ∧ sameAt (p8.add 2) 1 w9.drew w24) ∧ (K (n21 == n23) w24))) (G.cond (n10 == (2 : Int)) (G.cI .i64 (p8.add 3) w9.drew fun n25 => G.cI .i64 (p8.add 3) w9.drew fun n26 => C.bits_Writer_Int w_2 n25 w9.drew fun n27 w28 => ((True ∧ sameAt (p8.add 3) 1 w9.drew w28) ∧ sameAt (p8.add 3) 1 w9.drew w28) ∧ (C.tocsinref02_Stream_Int s_3 n26 w28 fun n29 w30 => ((True ∧ sameAt (p8.add 3) 1 w9.drew w30) ∧ sameAt (p8.add 3) 1 w9.drew w30) ∧ (K (n27 == n29) w30))) (K true w9)))
def tocsinlaw02_write.cl : CL := fun args K w => match args with
  | [.pointer x0, .pointer x1, .agg ⟨[.int .i64 x2_0, .int .u64 x2_1, .int .i64 x2_2, .int .i64 x2_3]⟩] => C.tocsinlaw02_write x0 x1 x2_0 x2_1 x2_2 x2_3 w (tocsinlaw02_write.Kt K)
  | _ => False
theorem tocsinlaw02_write.clok : OkC pr 6 tocsinlaw02_write.cl := by
  intro args K w h
  unfold tocsinlaw02_write.cl at h
  split at h
  · exact calls_last mixed tocsinlaw02_write.FOk_ tocsinlaw02_write.fn rfl (Eq.mp (by kernel_rfl) h)
  · exact h.elim

/-! (*tocsin/bits.Writer).Len -/
namespace bits_Writer_Len
abbrev KT := Int → World → Prop
def Kt (Kv : Value → World → Prop) : KT := fun n1 w => Kv (.int .i64 n1) w
noncomputable def bd : Code := bdy Tryd.f7
theorem fn : FnOk pr 7 9 Tryd.f7 := ⟨Tryd.func7, by kernel_rfl, Tryd.ntmps7, by kernel_rfl, by kernel_rfl⟩
def F : Clee := ofL []
theorem FOk_ : FOk pr F := FOk_nil
def P1 (Kv : Value → World → Prop) : Post := bodyK pr 9 Tryd.f7 Kv
end bits_Writer_Len
def bits_Writer_Len (w_2 : Option Addr) (w : World) (K : bits_Writer_Len.KT) : Prop :=
  G.cond w_2.isNone (K (0 : Int) w) (G.ptr w_2 fun p3 => G.cI .i64 (p3.add 1) w fun n4 => K n4 w)
def bits_Writer_Len.cl : CL := fun args K w => match args with
  | [.pointer x0] => C.bits_Writer_Len x0 w (bits_Writer_Len.Kt K)
  | _ => False
theorem bits_Writer_Len.clok : OkC pr 7 bits_Writer_Len.cl := by
  intro args K w h
  unfold bits_Writer_Len.cl at h
  split at h
  · exact calls_last mixed bits_Writer_Len.FOk_ bits_Writer_Len.fn rfl (Eq.mp (by kernel_rfl) h)
  · exact h.elim

/-! (*tocsin/bits.Writer).Bytes -/
namespace bits_Writer_Bytes
abbrev KT := Sl → World → Prop
def Kt (Kv : Value → World → Prop) : KT := fun l1 w => Kv l1.v w
noncomputable def bd : Code := bdy Tryd.f8
theorem fn : FnOk pr 8 10 Tryd.f8 := ⟨Tryd.func8, by kernel_rfl, Tryd.ntmps8, by kernel_rfl, by kernel_rfl⟩
def F : Clee := ofL []
theorem FOk_ : FOk pr F := FOk_nil
def P1 (Kv : Value → World → Prop) : Post := bodyK pr 10 Tryd.f8 Kv
end bits_Writer_Bytes
def bits_Writer_Bytes (w_2 : Option Addr) (w : World) (K : bits_Writer_Bytes.KT) : Prop :=
  G.cond w_2.isNone (K nilS w) (G.ptr w_2 fun p3 => G.cSl p3 w fun l4 => G.runSl pr (Builtin.append_ #[34, 34] 34 #[nilS.v, l4.v]) w fun l5 w6 => K l5 w6)
def bits_Writer_Bytes.cl : CL := fun args K w => match args with
  | [.pointer x0] => C.bits_Writer_Bytes x0 w (bits_Writer_Bytes.Kt K)
  | _ => False
theorem bits_Writer_Bytes.clok : OkC pr 8 bits_Writer_Bytes.cl := by
  intro args K w h
  unfold bits_Writer_Bytes.cl at h
  split at h
  · exact calls_last mixed bits_Writer_Bytes.FOk_ bits_Writer_Bytes.fn rfl (Eq.mp (by kernel_rfl) h)
  · exact h.elim

/-! tocsin/tocsinlaw02.same -/
namespace tocsinlaw02_same
abbrev KT := Bool → World → Prop
def Kt (Kv : Value → World → Prop) : KT := fun b1 w => Kv (.bool b1) w
noncomputable def bd : Code := bdy Tryd.f9
theorem fn : FnOk pr 9 10 Tryd.f9 := ⟨Tryd.func9, by kernel_rfl, Tryd.ntmps9, by kernel_rfl, by kernel_rfl⟩
def F : Clee := ofL []
theorem FOk_ : FOk pr F := FOk_nil
def P1 (Kv : Value → World → Prop) : Post := bodyK pr 10 Tryd.f9 Kv
end tocsinlaw02_same
def tocsinlaw02_same (a_2 : Sl) (b_3 : Sl) (w : World) (K : tocsinlaw02_same.KT) : Prop :=
  G.rdS pr (Conv.bytesToString a_2.v) w fun s4 => G.rdS pr (Conv.bytesToString b_3.v) w fun s5 => K (s4.toList == s5.toList) w
def tocsinlaw02_same.cl : CL := fun args K w => match args with
  | [.slice x0_a x0_n x0_c, .slice x1_a x1_n x1_c] => C.tocsinlaw02_same ⟨x0_a, x0_n, x0_c⟩ ⟨x1_a, x1_n, x1_c⟩ w (tocsinlaw02_same.Kt K)
  | _ => False
theorem tocsinlaw02_same.clok : OkC pr 9 tocsinlaw02_same.cl := by
  intro args K w h
  unfold tocsinlaw02_same.cl at h
  split at h
  · exact calls_last mixed tocsinlaw02_same.FOk_ tocsinlaw02_same.fn rfl (Eq.mp (by kernel_rfl) h)
  · exact h.elim

/-! (*tocsin/tocsinref02.Stream).Bytes -/
namespace tocsinref02_Stream_Bytes
abbrev KT := Sl → World → Prop
def Kt (Kv : Value → World → Prop) : KT := fun l1 w => Kv l1.v w
noncomputable def bd : Code := bdy Tryd.f10
theorem fn : FnOk pr 10 41 Tryd.f10 := ⟨Tryd.func10, by kernel_rfl, Tryd.ntmps10, by kernel_rfl, by kernel_rfl⟩
def F : Clee := ofL []
theorem FOk_ : FOk pr F := FOk_nil
def P1 (Kv : Value → World → Prop) : Post := bodyK pr 41 Tryd.f10 Kv
@[reducible] def g2 : List SE := [.v 3 .sl]
def S2 (K : KT) (out_3 : Sl) (w : World) : Prop :=
  K out_3 w
theorem S2_ok (Kv : Value → World → Prop) : OkT pr 41 g2 (S2 (Kt Kv)) (s2 (tl 2 bd)) (P1 Kv) := ok_last mixed FOk_ fun v ρ w => by kernel_rfl
def P3 (Kv : Value → World → Prop) : Post := next (get g2 (S2 (Kt Kv))) (P1 Kv)
def P4 (Kv : Value → World → Prop) : Post := inBlock 0 (P3 Kv)
@[reducible] def g5 : List SE := [.v 3 .sl, .v 17 .sl, .v 18 (.int .i64), .v 19 (.int .i64)]
def P6 (Kv : Value → World → Prop) (kc5 : Cur g5) : Post := next (get g5 kc5) (P4 Kv)
def S7 (K : KT) (kc5 : Cur g5) (out_12 : Sl) (l13 : Sl) (n14 : Int) (n15 : Int) (w : World) : Prop :=
  G.cond (decide (n15 < n14)) (G.ix l13.a l13.n n15 1 fun p16 => G.cB p16 w fun b17 => G.cond b17 (G.nz (8 : Int) <| G.nz (8 : Int) <| G.ix out_12.a out_12.n (IntKind.i64.wrap (Int.tdiv n15 (8 : Int))) 1 fun p18 => G.cI .u8 p18 w fun n19 => G.nz (8 : Int) <| G.nn (IntKind.u64.wrap (Int.tmod n15 (8 : Int))) <| G.ix out_12.a out_12.n (IntKind.i64.wrap (Int.tdiv n15 (8 : Int))) 1 fun p20 => G.st p20 (.int .u8 (Go.bits .or .u8 n19 (shr .u8 (128 : Int) (IntKind.u64.wrap (Int.tmod n15 (8 : Int)))))) w fun w21 => kc5 out_12 l13 n14 (IntKind.i64.wrap (n15 + (1 : Int))) w21) (kc5 out_12 l13 n14 (IntKind.i64.wrap (n15 + (1 : Int))) w)) (S2 K out_12 w)
theorem S7_ok (Kv : Value → World → Prop) (kc5 : Cur g5) : OkT pr 41 g5 (S7 (Kt Kv) kc5) (lp (blk (tl 1 (s1 (tl 2 bd))))) (P6 Kv kc5) := ok_last mixed FOk_ fun v ρ w => by kernel_rfl
def L5 (K : KT) : Cur g5 := loopC g5 (S7 K)
theorem L5_ok (Kv : Value → World → Prop) : OkT pr 41 g5 (L5 (Kt Kv)) (blk (tl 1 (s1 (tl 2 bd)))) (P4 Kv) := ok_loop (B := S7 (Kt Kv)) (by kernel_rfl) fun kc => S7_ok Kv kc
theorem L5_ind {K : KT} {out_4 : Sl} {l5 : Sl} {n6 : Int} {n7 : Int} {w : World} (h : ∀ X : Cur g5, (∀ out_4 l5 n6 n7 w, S7 K X out_4 l5 n6 n7 w → X out_4 l5 n6 n7 w) → X out_4 l5 n6 n7 w) : L5 K out_4 l5 n6 n7 w := fun X hX => h X fun out_4 l5 n6 n7 w hb => hX (out_4, l5, n6, n7, ()) w hb
theorem B8 (Kv : Value → World → Prop) : OkT pr 41 g5 (L5 (Kt Kv)) (tl 1 (s1 (tl 2 bd))) (P3 Kv) := ok_block 0 (by kernel_rfl) (L5_ok Kv)
@[reducible] def g9 : List SE := [.v 0 .ptr, .v 3 .sl]
def S9 (K : KT) (s_22 : Option Addr) (out_23 : Sl) (w : World) : Prop :=
  G.ptr s_22 fun p24 => G.cSl p24 w fun l25 => L5 K out_23 l25 ((l25.n : Nat) : Int) (0 : Int) w
theorem S9_ok (Kv : Value → World → Prop) : OkT pr 41 g9 (S9 (Kt Kv)) (s1 (tl 2 bd)) (P3 Kv) := ok_group mixed FOk_ 1 (B8 Kv) fun v ρ w => by kernel_rfl
theorem Q10 (Kv : Value → World → Prop) : OkT pr 41 g9 (S9 (Kt Kv)) (tl 2 bd) (P1 Kv) := ok_seq (by kernel_rfl) (S2_ok Kv) (S9_ok Kv)
end tocsinref02_Stream_Bytes
def tocsinref02_Stream_Bytes (s_2 : Option Addr) (w : World) (K : tocsinref02_Stream_Bytes.KT) : Prop :=
  G.ptr s_2 fun p26 => G.cSl p26 w fun l27 => G.nz (8 : Int) <| G.runSl pr (Instr.makeSlice 34 (.int .i64 (IntKind.i64.wrap (Int.tdiv (IntKind.i64.wrap (((l27.n : Nat) : Int) + (7 : Int))) (8 : Int)))) (.int .i64 (IntKind.i64.wrap (Int.tdiv (IntKind.i64.wrap (((l27.n : Nat) : Int) + (7 : Int))) (8 : Int))))) w fun l28 w29 => tocsinref02_Stream_Bytes.S9 K s_2 l28 w29
def tocsinref02_Stream_Bytes.cl : CL := fun args K w => match args with
  | [.pointer x0] => C.tocsinref02_Stream_Bytes x0 w (tocsinref02_Stream_Bytes.Kt K)
  | _ => False
theorem tocsinref02_Stream_Bytes.clok : OkC pr 10 tocsinref02_Stream_Bytes.cl := by
  intro args K w h
  unfold tocsinref02_Stream_Bytes.cl at h
  split at h
  · exact calls_group mixed tocsinref02_Stream_Bytes.FOk_ tocsinref02_Stream_Bytes.fn rfl 2 (tocsinref02_Stream_Bytes.Q10 K) (Eq.mp (by kernel_rfl) h)
  · exact h.elim

/-! tocsin/bits.NewReader -/
namespace bits_NewReader
abbrev KT := Option Addr → World → Prop
def Kt (Kv : Value → World → Prop) : KT := fun p1 w => Kv (.pointer p1) w
noncomputable def bd : Code := bdy Tryd.f19
theorem fn : FnOk pr 19 23 Tryd.f19 := ⟨Tryd.func19, by kernel_rfl, Tryd.ntmps19, by kernel_rfl, by kernel_rfl⟩
def F : Clee := ofL []
theorem FOk_ : FOk pr F := FOk_nil
def P1 (Kv : Value → World → Prop) : Post := bodyK pr 23 Tryd.f19 Kv
end bits_NewReader
def bits_NewReader (b_2 : Sl) (bits_3 : Int) (w : World) (K : bits_NewReader.KT) : Prop :=
  G.cond (decide (bits_3 < (0 : Int))) (K none w) (G.cond (decide (bits_3 > (8388608 : Int))) (K none w) (G.cond (decide (bits_3 > (IntKind.i64.wrap ((8 : Int) * ((b_2.n : Nat) : Int))))) (K none w) (G.runSl pr (Builtin.append_ #[34, 34] 34 #[nilS.v, b_2.v]) w fun l4 w5 => G.new (.cells #[l4.v, (.int .i64 bits_3), (.int .i64 (0 : Int))] 60) w5 fun p6 w7 => K (some p6) w7)))
def bits_NewReader.cl : CL := fun args K w => match args with
  | [.slice x0_a x0_n x0_c, .int .i64 x1] => C.bits_NewReader ⟨x0_a, x0_n, x0_c⟩ x1 w (bits_NewReader.Kt K)
  | _ => False
theorem bits_NewReader.clok : OkC pr 19 bits_NewReader.cl := by
  intro args K w h
  unfold bits_NewReader.cl at h
  split at h
  · exact calls_last mixed bits_NewReader.FOk_ bits_NewReader.fn rfl (Eq.mp (by kernel_rfl) h)
  · exact h.elim

/-! (*tocsin/bits.Reader).at -/
namespace bits_Reader_at
abbrev KT := Int → World → Prop
def Kt (Kv : Value → World → Prop) : KT := fun n1 w => Kv (.int .u64 n1) w
noncomputable def bd : Code := bdy Tryd.f32
theorem fn : FnOk pr 32 20 Tryd.f32 := ⟨Tryd.func32, by kernel_rfl, Tryd.ntmps32, by kernel_rfl, by kernel_rfl⟩
def F : Clee := ofL []
theorem FOk_ : FOk pr F := FOk_nil
def P1 (Kv : Value → World → Prop) : Post := bodyK pr 20 Tryd.f32 Kv
end bits_Reader_at
def bits_Reader_at (r_2 : Option Addr) (i_3 : Int) (w : World) (K : bits_Reader_at.KT) : Prop :=
  G.ptr r_2 fun p4 => G.cSl p4 w fun l5 => G.nz (8 : Int) <| G.ix l5.a l5.n (IntKind.i64.wrap (Int.tdiv i_3 (8 : Int))) 1 fun p6 => G.cI .u8 p6 w fun n7 => G.nz (8 : Int) <| G.nn (IntKind.u64.wrap (IntKind.i64.wrap ((7 : Int) - (Int.tmod i_3 (8 : Int))))) <| K (Go.bits .and .u64 (IntKind.u64.wrap (shr .u8 n7 (IntKind.u64.wrap (IntKind.i64.wrap ((7 : Int) - (Int.tmod i_3 (8 : Int))))))) (1 : Int)) w
def bits_Reader_at.cl : CL := fun args K w => match args with
  | [.pointer x0, .int .i64 x1] => C.bits_Reader_at x0 x1 w (bits_Reader_at.Kt K)
  | _ => False
theorem bits_Reader_at.clok : OkC pr 32 bits_Reader_at.cl := by
  intro args K w h
  unfold bits_Reader_at.cl at h
  split at h
  · exact calls_last mixed bits_Reader_at.FOk_ bits_Reader_at.fn rfl (Eq.mp (by kernel_rfl) h)
  · exact h.elim

/-! (*tocsin/bits.Reader).look -/
namespace bits_Reader_look
abbrev KT := Int → World → Prop
def Kt (Kv : Value → World → Prop) : KT := fun n1 w => Kv (.int .u64 n1) w
noncomputable def bd : Code := bdy Tryd.f29
theorem fn : FnOk pr 29 23 Tryd.f29 := ⟨Tryd.func29, by kernel_rfl, Tryd.ntmps29, by kernel_rfl, by kernel_rfl⟩
def F : Clee := ofL [(32, C.bits_Reader_at.cl)]
theorem FOk_ : FOk pr F := FOk_cons C.bits_Reader_at.clok (FOk_nil)
def P1 (Kv : Value → World → Prop) : Post := bodyK pr 23 Tryd.f29 Kv
@[reducible] def g2 : List SE := [.v 7 (.int .u64)]
def S2 (K : KT) (v_5 : Int) (w : World) : Prop :=
  K v_5 w
theorem S2_ok (Kv : Value → World → Prop) : OkT pr 23 g2 (S2 (Kt Kv)) (s2 (tl 2 bd)) (P1 Kv) := ok_last mixed FOk_ fun v ρ w => by kernel_rfl
def P3 (Kv : Value → World → Prop) : Post := next (get g2 (S2 (Kt Kv))) (P1 Kv)
def P4 (Kv : Value → World → Prop) : Post := inBlock 0 (P3 Kv)
@[reducible] def g5 : List SE := [.v 0 .ptr, .v 1 (.int .i64), .v 7 (.int .u64), .v 9 (.int .i64), .v 10 (.int .i64)]
def P6 (Kv : Value → World → Prop) (kc5 : Cur g5) : Post := next (get g5 kc5) (P4 Kv)
def S7 (K : KT) (kc5 : Cur g5) (r_16 : Option Addr) (from_17 : Int) (v_18 : Int) (n19 : Int) (n20 : Int) (w : World) : Prop :=
  G.cond (decide (n20 < n19)) (G.nn (1 : Int) <| C.bits_Reader_at r_16 (IntKind.i64.wrap (from_17 + n20)) w fun n21 w22 => kc5 r_16 from_17 (Go.bits .or .u64 (shl .u64 v_18 (1 : Int)) n21) n19 (IntKind.i64.wrap (n20 + (1 : Int))) w22) (S2 K v_18 w)
theorem S7_ok (Kv : Value → World → Prop) (kc5 : Cur g5) : OkT pr 23 g5 (S7 (Kt Kv) kc5) (lp (blk (tl 1 (s1 (tl 2 bd))))) (P6 Kv kc5) := ok_last mixed FOk_ fun v ρ w => by kernel_rfl
def L5 (K : KT) : Cur g5 := loopC g5 (S7 K)
theorem L5_ok (Kv : Value → World → Prop) : OkT pr 23 g5 (L5 (Kt Kv)) (blk (tl 1 (s1 (tl 2 bd)))) (P4 Kv) := ok_loop (B := S7 (Kt Kv)) (by kernel_rfl) fun kc => S7_ok Kv kc
theorem L5_ind {K : KT} {r_6 : Option Addr} {from_7 : Int} {v_8 : Int} {n9 : Int} {n10 : Int} {w : World} (h : ∀ X : Cur g5, (∀ r_6 from_7 v_8 n9 n10 w, S7 K X r_6 from_7 v_8 n9 n10 w → X r_6 from_7 v_8 n9 n10 w) → X r_6 from_7 v_8 n9 n10 w) : L5 K r_6 from_7 v_8 n9 n10 w := fun X hX => h X fun r_6 from_7 v_8 n9 n10 w hb => hX (r_6, from_7, v_8, n9, n10, ()) w hb
theorem B8 (Kv : Value → World → Prop) : OkT pr 23 g5 (L5 (Kt Kv)) (tl 1 (s1 (tl 2 bd))) (P3 Kv) := ok_block 0 (by kernel_rfl) (L5_ok Kv)
@[reducible] def g9 : List SE := [.v 0 .ptr, .v 1 (.int .i64), .v 2 (.int .i64), .v 7 (.int .u64)]
def S9 (K : KT) (r_23 : Option Addr) (from_24 : Int) (n_25 : Int) (v_26 : Int) (w : World) : Prop :=
  L5 K r_23 from_24 v_26 n_25 (0 : Int) w
theorem S9_ok (Kv : Value → World → Prop) : OkT pr 23 g9 (S9 (Kt Kv)) (s1 (tl 2 bd)) (P3 Kv) := ok_group mixed FOk_ 1 (B8 Kv) fun v ρ w => by kernel_rfl
theorem Q10 (Kv : Value → World → Prop) : OkT pr 23 g9 (S9 (Kt Kv)) (tl 2 bd) (P1 Kv) := ok_seq (by kernel_rfl) (S2_ok Kv) (S9_ok Kv)
end bits_Reader_look
def bits_Reader_look (r_2 : Option Addr) (from_3 : Int) (n_4 : Int) (w : World) (K : bits_Reader_look.KT) : Prop :=
  bits_Reader_look.S9 K r_2 from_3 n_4 (0 : Int) w
def bits_Reader_look.cl : CL := fun args K w => match args with
  | [.pointer x0, .int .i64 x1, .int .i64 x2] => C.bits_Reader_look x0 x1 x2 w (bits_Reader_look.Kt K)
  | _ => False
theorem bits_Reader_look.clok : OkC pr 29 bits_Reader_look.cl := by
  intro args K w h
  unfold bits_Reader_look.cl at h
  split at h
  · exact calls_group mixed bits_Reader_look.FOk_ bits_Reader_look.fn rfl 2 (bits_Reader_look.Q10 K) (Eq.mp (by kernel_rfl) h)
  · exact h.elim

/-! (*tocsin/bits.Reader).Bits -/
namespace bits_Reader_Bits
abbrev KT := Int → Int → World → Prop
def Kt (Kv : Value → World → Prop) : KT := fun n1 n2 w => Kv (.tuple #[(.int .u64 n1), (.int .i64 n2)]) w
noncomputable def bd : Code := bdy Tryd.f20
theorem fn : FnOk pr 20 45 Tryd.f20 := ⟨Tryd.func20, by kernel_rfl, Tryd.ntmps20, by kernel_rfl, by kernel_rfl⟩
def F : Clee := ofL [(29, C.bits_Reader_look.cl)]
theorem FOk_ : FOk pr F := FOk_cons C.bits_Reader_look.clok (FOk_nil)
def P1 (Kv : Value → World → Prop) : Post := bodyK pr 45 Tryd.f20 Kv
end bits_Reader_Bits
def bits_Reader_Bits (r_3 : Option Addr) (n_4 : Int) (w : World) (K : bits_Reader_Bits.KT) : Prop :=
  G.cond r_3.isNone (K (0 : Int) (2 : Int) w) (G.cond (decide (n_4 < (0 : Int))) (K (0 : Int) (1 : Int) w) (G.cond (decide (n_4 > (64 : Int))) (K (0 : Int) (1 : Int) w) (G.ptr r_3 fun p7 => G.cI .i64 (p7.add 1) w fun n8 => G.ptr r_3 fun p9 => G.cI .i64 (p9.add 2) w fun n10 => G.drawn w fun w11 => G.cond (decide (n_4 > (IntKind.i64.wrap (n8 - n10)))) (K (0 : Int) (9 : Int) w11) (G.ptr r_3 fun p12 => G.cI .i64 (p12.add 2) w11 fun n13 => C.bits_Reader_look r_3 n13 n_4 w11 fun n14 w15 => G.ptr r_3 fun p16 => G.cI .i64 (p16.add 2) w15 fun n17 => G.ptr r_3 fun p18 => G.st (p18.add 2) (.int .i64 (IntKind.i64.wrap (n17 + n_4))) w15 fun w19 => K n14 (0 : Int) w19))))
def bits_Reader_Bits.cl : CL := fun args K w => match args with
  | [.pointer x0, .int .i64 x1] => C.bits_Reader_Bits x0 x1 w (bits_Reader_Bits.Kt K)
  | _ => False
theorem bits_Reader_Bits.clok : OkC pr 20 bits_Reader_Bits.cl := by
  intro args K w h
  unfold bits_Reader_Bits.cl at h
  split at h
  · exact calls_last mixed bits_Reader_Bits.FOk_ bits_Reader_Bits.fn rfl (Eq.mp (by kernel_rfl) h)
  · exact h.elim

/-! (*tocsin/bits.Reader).Left -/
namespace bits_Reader_Left
abbrev KT := Int → World → Prop
def Kt (Kv : Value → World → Prop) : KT := fun n1 w => Kv (.int .i64 n1) w
noncomputable def bd : Code := bdy Tryd.f21
theorem fn : FnOk pr 21 14 Tryd.f21 := ⟨Tryd.func21, by kernel_rfl, Tryd.ntmps21, by kernel_rfl, by kernel_rfl⟩
def F : Clee := ofL []
theorem FOk_ : FOk pr F := FOk_nil
def P1 (Kv : Value → World → Prop) : Post := bodyK pr 14 Tryd.f21 Kv
end bits_Reader_Left
def bits_Reader_Left (r_2 : Option Addr) (w : World) (K : bits_Reader_Left.KT) : Prop :=
  G.cond r_2.isNone (K (0 : Int) w) (G.ptr r_2 fun p3 => G.cI .i64 (p3.add 1) w fun n4 => G.ptr r_2 fun p5 => G.cI .i64 (p5.add 2) w fun n6 => G.drawn w fun w7 => K (IntKind.i64.wrap (n4 - n6)) w7)
def bits_Reader_Left.cl : CL := fun args K w => match args with
  | [.pointer x0] => C.bits_Reader_Left x0 w (bits_Reader_Left.Kt K)
  | _ => False
theorem bits_Reader_Left.clok : OkC pr 21 bits_Reader_Left.cl := by
  intro args K w h
  unfold bits_Reader_Left.cl at h
  split at h
  · exact calls_last mixed bits_Reader_Left.FOk_ bits_Reader_Left.fn rfl (Eq.mp (by kernel_rfl) h)
  · exact h.elim

/-! tocsin/tocsinlaw02.awake -/
namespace tocsinlaw02_awake
abbrev KT := Bool → World → Prop
def Kt (Kv : Value → World → Prop) : KT := fun b1 w => Kv (.bool b1) w
noncomputable def bd : Code := bdy Tryd.f11
theorem fn : FnOk pr 11 50 Tryd.f11 := ⟨Tryd.func11, by kernel_rfl, Tryd.ntmps11, by kernel_rfl, by kernel_rfl⟩
def F : Clee := ofL [(5, C.bits_NewWriter.cl), (7, C.bits_Writer_Len.cl), (8, C.bits_Writer_Bytes.cl), (9, C.tocsinlaw02_same.cl), (12, C.bits_Writer_Bits.cl), (14, C.bits_Writer_Bit.cl), (19, C.bits_NewReader.cl), (20, C.bits_Reader_Bits.cl), (21, C.bits_Reader_Left.cl)]
theorem FOk_ : FOk pr F := FOk_cons C.bits_NewWriter.clok (FOk_cons C.bits_Writer_Len.clok (FOk_cons C.bits_Writer_Bytes.clok (FOk_cons C.tocsinlaw02_same.clok (FOk_cons C.bits_Writer_Bits.clok (FOk_cons C.bits_Writer_Bit.clok (FOk_cons C.bits_NewReader.clok (FOk_cons C.bits_Reader_Bits.clok (FOk_cons C.bits_Reader_Left.clok (FOk_nil)))))))))
def P1 (Kv : Value → World → Prop) : Post := bodyK pr 50 Tryd.f11 Kv
end tocsinlaw02_awake
def tocsinlaw02_awake (w : World) (K : tocsinlaw02_awake.KT) : Prop :=
  C.bits_NewWriter w fun p2 w3 => G.cond p2.isNone (K false w3) (C.bits_Writer_Bit p2 true w3 fun n4 w5 => G.cond (n4 != (0 : Int)) (K false w5) (C.bits_Writer_Bits p2 (5 : Int) (3 : Int) w5 fun n6 w7 => G.cond (n6 != (0 : Int)) (K false w7) (C.bits_Writer_Bytes p2 w7 fun l8 w9 => C.bits_NewReader l8 (4 : Int) w9 fun p10 w11 => G.cond p10.isNone (K false w11) (C.bits_Reader_Bits p10 (4 : Int) w11 fun n12 n13 w14 => C.bits_Writer_Len p2 w14 fun n15 w16 => G.cond (n15 == (4 : Int)) (C.bits_Writer_Bytes p2 w16 fun l17 w18 => G.new (.cells #[(.int .u8 (208 : Int))] 5) w18 fun p19 w20 => C.tocsinlaw02_same l17 (⟨some p19, 1, 1⟩ : Sl) w20 fun b21 w22 => G.cond b21 (G.cond (n13 == (0 : Int)) (G.cond (n12 == (13 : Int)) (C.bits_Reader_Left p10 w22 fun n23 w24 => K (n23 == (0 : Int)) w24) (K false w22)) (K false w22)) (K false w22)) (K false w16)))))
def tocsinlaw02_awake.cl : CL := fun args K w => match args with
  | [] => C.tocsinlaw02_awake w (tocsinlaw02_awake.Kt K)
  | _ => False
theorem tocsinlaw02_awake.clok : OkC pr 11 tocsinlaw02_awake.cl := by
  intro args K w h
  unfold tocsinlaw02_awake.cl at h
  split at h
  · exact calls_last mixed tocsinlaw02_awake.FOk_ tocsinlaw02_awake.fn rfl (Eq.mp (by kernel_rfl) h)
  · exact h.elim

/-! tocsin/tocsinlaw02.BitsWrite -/
namespace tocsinlaw02_BitsWrite
abbrev KT := Bool → World → Prop
def Kt (Kv : Value → World → Prop) : KT := fun b1 w => Kv (.bool b1) w
noncomputable def bd : Code := bdy Tryd.f3
theorem fn : FnOk pr 3 63 Tryd.f3 := ⟨Tryd.func3, by kernel_rfl, Tryd.ntmps3, by kernel_rfl, by kernel_rfl⟩
def F : Clee := ofL [(5, C.bits_NewWriter.cl), (6, C.tocsinlaw02_write.cl), (7, C.bits_Writer_Len.cl), (8, C.bits_Writer_Bytes.cl), (9, C.tocsinlaw02_same.cl), (10, C.tocsinref02_Stream_Bytes.cl), (11, C.tocsinlaw02_awake.cl)]
theorem FOk_ : FOk pr F := FOk_cons C.bits_NewWriter.clok (FOk_cons C.tocsinlaw02_write.clok (FOk_cons C.bits_Writer_Len.clok (FOk_cons C.bits_Writer_Bytes.clok (FOk_cons C.tocsinlaw02_same.clok (FOk_cons C.tocsinref02_Stream_Bytes.clok (FOk_cons C.tocsinlaw02_awake.clok (FOk_nil)))))))
def P1 (Kv : Value → World → Prop) : Post := bodyK pr 63 Tryd.f3 Kv
@[reducible] def g2 : List SE := [.v 3 .ptr, .v 4 .ptr]
def S2 (K : KT) (w_3 : Option Addr) (s_4 : Option Addr) (w : World) : Prop :=
  C.bits_Writer_Bytes w_3 w fun l5 w6 => C.tocsinref02_Stream_Bytes s_4 w6 fun l7 w8 => C.tocsinlaw02_same l5 l7 w8 fun b9 w10 => G.cond b9 (C.tocsinlaw02_awake w10 fun b11 w12 => K b11 w12) (K false w10)
theorem S2_ok (Kv : Value → World → Prop) : OkT pr 63 g2 (S2 (Kt Kv)) (s2 (tl 2 (s2 (tl 3 bd)))) (P1 Kv) := ok_last mixed FOk_ fun v ρ w => by kernel_rfl
def P3 (Kv : Value → World → Prop) : Post := next (get g2 (S2 (Kt Kv))) (P1 Kv)
def P4 (Kv : Value → World → Prop) : Post := inBlock 2 (P3 Kv)
@[reducible] def g5 : List SE := [.v 3 .ptr, .v 4 .ptr, .v 7 .sl, .v 47 (.int .i64), .v 48 (.int .i64)]
def P6 (Kv : Value → World → Prop) (kc5 : Cur g5) : Post := next (get g5 kc5) (P4 Kv)
def S7 (K : KT) (kc5 : Cur g5) (w_23 : Option Addr) (s_24 : Option Addr) (b_25 : Sl) (n26 : Int) (n27 : Int) (w : World) : Prop :=
  G.cond (decide (n27 < n26)) (G.ix b_25.a b_25.n n27 1 fun p28 => G.st p28 (.int .u8 (99 : Int)) w fun w29 => kc5 w_23 s_24 b_25 n26 (IntKind.i64.wrap (n27 + (1 : Int))) w29) (S2 K w_23 s_24 w)
theorem S7_ok (Kv : Value → World → Prop) (kc5 : Cur g5) : OkT pr 63 g5 (S7 (Kt Kv) kc5) (lp (blk (tl 1 (s1 (tl 2 (s2 (tl 3 bd))))))) (P6 Kv kc5) := ok_last mixed FOk_ fun v ρ w => by kernel_rfl
def L5 (K : KT) : Cur g5 := loopC g5 (S7 K)
theorem L5_ok (Kv : Value → World → Prop) : OkT pr 63 g5 (L5 (Kt Kv)) (blk (tl 1 (s1 (tl 2 (s2 (tl 3 bd)))))) (P4 Kv) := ok_loop (B := S7 (Kt Kv)) (by kernel_rfl) fun kc => S7_ok Kv kc
theorem L5_ind {K : KT} {w_13 : Option Addr} {s_14 : Option Addr} {b_15 : Sl} {n16 : Int} {n17 : Int} {w : World} (h : ∀ X : Cur g5, (∀ w_13 s_14 b_15 n16 n17 w, S7 K X w_13 s_14 b_15 n16 n17 w → X w_13 s_14 b_15 n16 n17 w) → X w_13 s_14 b_15 n16 n17 w) : L5 K w_13 s_14 b_15 n16 n17 w := fun X hX => h X fun w_13 s_14 b_15 n16 n17 w hb => hX (w_13, s_14, b_15, n16, n17, ()) w hb
theorem B8 (Kv : Value → World → Prop) : OkT pr 63 g5 (L5 (Kt Kv)) (tl 1 (s1 (tl 2 (s2 (tl 3 bd))))) (P3 Kv) := ok_block 2 (by kernel_rfl) (L5_ok Kv)
@[reducible] def g9 : List SE := [.v 3 .ptr, .v 4 .ptr, .v 7 .sl]
def S9 (K : KT) (w_30 : Option Addr) (s_31 : Option Addr) (b_32 : Sl) (w : World) : Prop :=
  L5 K w_30 s_31 b_32 ((b_32.n : Nat) : Int) (0 : Int) w
theorem S9_ok (Kv : Value → World → Prop) : OkT pr 63 g9 (S9 (Kt Kv)) (s1 (tl 2 (s2 (tl 3 bd)))) (P3 Kv) := ok_group mixed FOk_ 1 (B8 Kv) fun v ρ w => by kernel_rfl
theorem Q10 (Kv : Value → World → Prop) : OkT pr 63 g9 (S9 (Kt Kv)) (tl 2 (s2 (tl 3 bd))) (P1 Kv) := ok_seq (by kernel_rfl) (S2_ok Kv) (S9_ok Kv)
def S11 (K : KT) (w_33 : Option Addr) (s_34 : Option Addr) (w : World) : Prop :=
  C.bits_Writer_Bytes w_33 w fun l35 w36 => C.tocsinref02_Stream_Bytes s_34 w36 fun l37 w38 => C.tocsinlaw02_same l35 l37 w38 fun b39 w40 => G.cond (!b39) (K false w40) (S9 K w_33 s_34 l35 w40)
theorem S11_ok (Kv : Value → World → Prop) : OkT pr 63 g2 (S11 (Kt Kv)) (s2 (tl 3 bd)) (P1 Kv) := ok_group mixed FOk_ 2 (Q10 Kv) fun v ρ w => by kernel_rfl
def P12 (Kv : Value → World → Prop) : Post := next (get g2 (S11 (Kt Kv))) (P1 Kv)
def P13 (Kv : Value → World → Prop) : Post := inBlock 0 (P12 Kv)
@[reducible] def g14 : List SE := [.v 3 .ptr, .v 4 .ptr, .v 14 .sl, .v 15 (.int .i64), .v 16 (.int .i64)]
def P15 (Kv : Value → World → Prop) (kc14 : Cur g14) : Post := next (get g14 kc14) (P13 Kv)
def S16 (K : KT) (kc14 : Cur g14) (w_51 : Option Addr) (s_52 : Option Addr) (l53 : Sl) (n54 : Int) (n55 : Int) (w : World) : Prop :=
  G.cond (decide (n55 < n54)) (G.ix l53.a l53.n n55 4 fun p56 => G.cI .i64 p56 w fun n57 => G.cI .u64 (p56.add 1) w fun n58 => G.cI .i64 (p56.add 2) w fun n59 => G.cI .i64 (p56.add 3) w fun n60 => G.new (.cells #[(.int .i64 (0 : Int)), (.int .u64 (0 : Int)), (.int .i64 (0 : Int)), (.int .i64 (0 : Int))] 31) w fun p61 w62 => G.st p61 (.int .i64 n57) w62 fun w63 => G.st (p61.add 1) (.int .u64 n58) w63 fun w64 => G.st (p61.add 2) (.int .i64 n59) w64 fun w65 => G.st (p61.add 3) (.int .i64 n60) w65 fun w66 => G.cond (decide (n55 ≥ (500 : Int))) (S11 K w_51 s_52 w66) (G.cI .i64 p61 w66.drew fun n67 => G.cI .u64 (p61.add 1) w66.drew fun n68 => G.cI .i64 (p61.add 2) w66.drew fun n69 => G.cI .i64 (p61.add 3) w66.drew fun n70 => C.tocsinlaw02_write w_51 s_52 n67 n68 n69 n70 w66.drew fun b71 w72 => (True ∧ sameAt p61 4 w66.drew w72) ∧ (G.cond (!b71) (K false w72) (G.ptr s_52 fun p73 => G.cSl p73 w72 fun l74 => C.bits_Writer_Len w_51 w72 fun n75 w76 => ((True ∧ sameAt p61 4 w66.drew w76) ∧ sameAt p73 1 w72 w76) ∧ (G.cond (n75 != ((l74.n : Nat) : Int)) (K false w76) (kc14 w_51 s_52 l53 n54 (IntKind.i64.wrap (n55 + (1 : Int))) w76)))))) (S11 K w_51 s_52 w)
theorem S16_ok (Kv : Value → World → Prop) (kc14 : Cur g14) : OkT pr 63 g14 (S16 (Kt Kv) kc14) (lp (blk (tl 1 (s1 (tl 3 bd))))) (P15 Kv kc14) := ok_last mixed FOk_ fun v ρ w => by kernel_rfl
def L14 (K : KT) : Cur g14 := loopC g14 (S16 K)
theorem L14_ok (Kv : Value → World → Prop) : OkT pr 63 g14 (L14 (Kt Kv)) (blk (tl 1 (s1 (tl 3 bd)))) (P13 Kv) := ok_loop (B := S16 (Kt Kv)) (by kernel_rfl) fun kc => S16_ok Kv kc
theorem L14_ind {K : KT} {w_41 : Option Addr} {s_42 : Option Addr} {l43 : Sl} {n44 : Int} {n45 : Int} {w : World} (h : ∀ X : Cur g14, (∀ w_41 s_42 l43 n44 n45 w, S16 K X w_41 s_42 l43 n44 n45 w → X w_41 s_42 l43 n44 n45 w) → X w_41 s_42 l43 n44 n45 w) : L14 K w_41 s_42 l43 n44 n45 w := fun X hX => h X fun w_41 s_42 l43 n44 n45 w hb => hX (w_41, s_42, l43, n44, n45, ()) w hb
theorem B17 (Kv : Value → World → Prop) : OkT pr 63 g14 (L14 (Kt Kv)) (tl 1 (s1 (tl 3 bd))) (P12 Kv) := ok_block 0 (by kernel_rfl) (L14_ok Kv)
@[reducible] def g18 : List SE := [.v 0 .sl, .v 3 .ptr, .v 4 .ptr]
def S18 (K : KT) (l_77 : Sl) (w_78 : Option Addr) (s_79 : Option Addr) (w : World) : Prop :=
  L14 K w_78 s_79 l_77 ((l_77.n : Nat) : Int) (0 : Int) w
theorem S18_ok (Kv : Value → World → Prop) : OkT pr 63 g18 (S18 (Kt Kv)) (s1 (tl 3 bd)) (P12 Kv) := ok_group mixed FOk_ 1 (B17 Kv) fun v ρ w => by kernel_rfl
theorem Q19 (Kv : Value → World → Prop) : OkT pr 63 g18 (S18 (Kt Kv)) (tl 3 bd) (P1 Kv) := ok_seq (by kernel_rfl) (S11_ok Kv) (S18_ok Kv)
end tocsinlaw02_BitsWrite
def tocsinlaw02_BitsWrite (l_2 : Sl) (w : World) (K : tocsinlaw02_BitsWrite.KT) : Prop :=
  C.bits_NewWriter w fun p80 w81 => G.new (.cells #[nilS.v, (.int .i64 (0 : Int))] 28) w81 fun p82 w83 => G.cond p80.isNone (K false w83) (tocsinlaw02_BitsWrite.S18 K l_2 p80 (some p82) w83)
def tocsinlaw02_BitsWrite.cl : CL := fun args K w => match args with
  | [.slice x0_a x0_n x0_c] => C.tocsinlaw02_BitsWrite ⟨x0_a, x0_n, x0_c⟩ w (tocsinlaw02_BitsWrite.Kt K)
  | _ => False
theorem tocsinlaw02_BitsWrite.clok : OkC pr 3 tocsinlaw02_BitsWrite.cl := by
  intro args K w h
  unfold tocsinlaw02_BitsWrite.cl at h
  split at h
  · exact calls_group mixed tocsinlaw02_BitsWrite.FOk_ tocsinlaw02_BitsWrite.fn rfl 3 (tocsinlaw02_BitsWrite.Q19 K) (Eq.mp (by kernel_rfl) h)
  · exact h.elim

/-! tocsin/tocsinlaw02.BitsFull -/
namespace tocsinlaw02_BitsFull
abbrev KT := Bool → World → Prop
def Kt (Kv : Value → World → Prop) : KT := fun b1 w => Kv (.bool b1) w
noncomputable def bd : Code := bdy Tryd.f4
theorem fn : FnOk pr 4 106 Tryd.f4 := ⟨Tryd.func4, by kernel_rfl, Tryd.ntmps4, by kernel_rfl, by kernel_rfl⟩
def F : Clee := ofL [(5, C.bits_NewWriter.cl), (7, C.bits_Writer_Len.cl), (11, C.tocsinlaw02_awake.cl), (12, C.bits_Writer_Bits.cl), (13, C.tocsinref02_Form.cl), (14, C.bits_Writer_Bit.cl), (15, C.bits_Writer_Int.cl)]
theorem FOk_ : FOk pr F := FOk_cons C.bits_NewWriter.clok (FOk_cons C.bits_Writer_Len.clok (FOk_cons C.tocsinlaw02_awake.clok (FOk_cons C.bits_Writer_Bits.clok (FOk_cons C.tocsinref02_Form.clok (FOk_cons C.bits_Writer_Bit.clok (FOk_cons C.bits_Writer_Int.clok (FOk_nil)))))))
def P1 (Kv : Value → World → Prop) : Post := bodyK pr 106 Tryd.f4 Kv
@[reducible] def g2 : List SE := [.v 1 (.int .u64), .v 2 (.int .i64), .v 3 (.int .i64), .v 9 .ptr, .v 11 (.int .i64), .v 12 (.int .i64)]
def S2 (K : KT) (v_11 : Int) (n_12 : Int) (i_13 : Int) (w_14 : Option Addr) (there_15 : Int) (e_16 : Int) (w : World) : Prop :=
  C.bits_Writer_Bits w_14 v_11 n_12 w fun n17 w18 => G.cond (n17 != e_16) (K false w18) (C.bits_Writer_Len w_14 w18 fun n19 w20 => G.cond (n19 != there_15) (K false w20) (G.cond (decide (there_15 ≥ (8388608 : Int))) (C.tocsinref02_Form i_13 w20 fun l21 w22 => G.cond (decide ((IntKind.i64.wrap (there_15 + ((l21.n : Nat) : Int))) > (8388608 : Int))) (C.bits_Writer_Bit w_14 true w22 fun n23 w24 => G.cond (n23 == (8 : Int)) (C.bits_Writer_Int w_14 i_13 w24 fun n25 w26 => G.cond (n25 == (8 : Int)) (C.bits_Writer_Len w_14 w26 fun n27 w28 => G.cond (n27 == there_15) (C.tocsinlaw02_awake w28 fun b29 w30 => K b29 w30) (K false w28)) (K false w26)) (K false w24)) (C.tocsinref02_Form i_13 w22 fun l31 w32 => C.bits_Writer_Bit w_14 true w32 fun n33 w34 => G.cond (n33 == (8 : Int)) (C.bits_Writer_Int w_14 i_13 w34 fun n35 w36 => G.cond (n35 == (0 : Int)) (C.bits_Writer_Len w_14 w36 fun n37 w38 => G.cond (n37 == (IntKind.i64.wrap (there_15 + ((l31.n : Nat) : Int)))) (C.tocsinlaw02_awake w38 fun b39 w40 => K b39 w40) (K false w38)) (K false w36)) (K false w34))) (C.tocsinref02_Form i_13 w20 fun l41 w42 => G.cond (decide ((IntKind.i64.wrap ((IntKind.i64.wrap (there_15 + (1 : Int))) + ((l41.n : Nat) : Int))) > (8388608 : Int))) (C.bits_Writer_Bit w_14 true w42 fun n43 w44 => G.cond (n43 == (0 : Int)) (C.bits_Writer_Int w_14 i_13 w44 fun n45 w46 => G.cond (n45 == (8 : Int)) (C.bits_Writer_Len w_14 w46 fun n47 w48 => G.cond (n47 == (IntKind.i64.wrap (there_15 + (1 : Int)))) (C.tocsinlaw02_awake w48 fun b49 w50 => K b49 w50) (K false w48)) (K false w46)) (K false w44)) (C.tocsinref02_Form i_13 w42 fun l51 w52 => C.bits_Writer_Bit w_14 true w52 fun n53 w54 => G.cond (n53 == (0 : Int)) (C.bits_Writer_Int w_14 i_13 w54 fun n55 w56 => G.cond (n55 == (0 : Int)) (C.bits_Writer_Len w_14 w56 fun n57 w58 => G.cond (n57 == (IntKind.i64.wrap ((IntKind.i64.wrap (there_15 + (1 : Int))) + ((l51.n : Nat) : Int)))) (C.tocsinlaw02_awake w58 fun b59 w60 => K b59 w60) (K false w58)) (K false w56)) (K false w54)))))
theorem S2_ok (Kv : Value → World → Prop) : OkT pr 106 g2 (S2 (Kt Kv)) (tl 3 (s2 (tl 5 bd))) (P1 Kv) := ok_last mixed FOk_ fun v ρ w => by kernel_rfl
@[reducible] def g3 : List SE := [.v 0 (.int .i64), .v 1 (.int .u64), .v 2 (.int .i64), .v 3 (.int .i64), .v 9 .ptr]
def S3 (K : KT) (times_61 : Int) (v_62 : Int) (n_63 : Int) (i_64 : Int) (w_65 : Option Addr) (w : World) : Prop :=
  G.cond (decide (n_63 < (0 : Int))) (S2 K v_62 n_63 i_64 w_65 (IntKind.i64.wrap ((64 : Int) * times_61)) (1 : Int) w) (G.cond (decide (n_63 > (64 : Int))) (S2 K v_62 n_63 i_64 w_65 (IntKind.i64.wrap ((64 : Int) * times_61)) (1 : Int) w) (G.cond (decide (n_63 < (64 : Int))) (G.nn (IntKind.u64.wrap n_63) <| G.cond ((shr .u64 v_62 (IntKind.u64.wrap n_63)) != (0 : Int)) (S2 K v_62 n_63 i_64 w_65 (IntKind.i64.wrap ((64 : Int) * times_61)) (1 : Int) w) (G.cond (decide ((IntKind.i64.wrap ((IntKind.i64.wrap ((64 : Int) * times_61)) + n_63)) > (8388608 : Int))) (S2 K v_62 n_63 i_64 w_65 (IntKind.i64.wrap ((64 : Int) * times_61)) (8 : Int) w) (S2 K v_62 n_63 i_64 w_65 (IntKind.i64.wrap ((IntKind.i64.wrap ((64 : Int) * times_61)) + n_63)) (0 : Int) w))) (G.cond (decide ((IntKind.i64.wrap ((IntKind.i64.wrap ((64 : Int) * times_61)) + n_63)) > (8388608 : Int))) (S2 K v_62 n_63 i_64 w_65 (IntKind.i64.wrap ((64 : Int) * times_61)) (8 : Int) w) (S2 K v_62 n_63 i_64 w_65 (IntKind.i64.wrap ((IntKind.i64.wrap ((64 : Int) * times_61)) + n_63)) (0 : Int) w))))
theorem S3_ok (Kv : Value → World → Prop) : OkT pr 106 g3 (S3 (Kt Kv)) (s2 (tl 5 bd)) (P1 Kv) := ok_group mixed FOk_ 3 (S2_ok Kv) fun v ρ w => by kernel_rfl
def P4 (Kv : Value → World → Prop) : Post := next (get g3 (S3 (Kt Kv))) (P1 Kv)
def P5 (Kv : Value → World → Prop) : Post := inBlock 0 (P4 Kv)
@[reducible] def g6 : List SE := [.v 0 (.int .i64), .v 1 (.int .u64), .v 2 (.int .i64), .v 3 (.int .i64), .v 9 .ptr, .v 10 (.int .i64)]
def P7 (Kv : Value → World → Prop) (kc6 : Cur g6) : Post := next (get g6 kc6) (P5 Kv)
def S8 (K : KT) (kc6 : Cur g6) (times_72 : Int) (v_73 : Int) (n_74 : Int) (i_75 : Int) (w_76 : Option Addr) (k_77 : Int) (w : World) : Prop :=
  G.cond (decide (k_77 < times_72)) (C.bits_Writer_Bits w_76 v_73 (64 : Int) w fun n78 w79 => G.cond (n78 != (0 : Int)) (K false w79) (kc6 times_72 v_73 n_74 i_75 w_76 (IntKind.i64.wrap (k_77 + (1 : Int))) w79)) (S3 K times_72 v_73 n_74 i_75 w_76 w)
theorem S8_ok (Kv : Value → World → Prop) (kc6 : Cur g6) : OkT pr 106 g6 (S8 (Kt Kv) kc6) (lp (blk (tl 1 (s1 (tl 5 bd))))) (P7 Kv kc6) := ok_last mixed FOk_ fun v ρ w => by kernel_rfl
def L6 (K : KT) : Cur g6 := loopC g6 (S8 K)
theorem L6_ok (Kv : Value → World → Prop) : OkT pr 106 g6 (L6 (Kt Kv)) (blk (tl 1 (s1 (tl 5 bd)))) (P5 Kv) := ok_loop (B := S8 (Kt Kv)) (by kernel_rfl) fun kc => S8_ok Kv kc
theorem L6_ind {K : KT} {times_66 : Int} {v_67 : Int} {n_68 : Int} {i_69 : Int} {w_70 : Option Addr} {k_71 : Int} {w : World} (h : ∀ X : Cur g6, (∀ times_66 v_67 n_68 i_69 w_70 k_71 w, S8 K X times_66 v_67 n_68 i_69 w_70 k_71 w → X times_66 v_67 n_68 i_69 w_70 k_71 w) → X times_66 v_67 n_68 i_69 w_70 k_71 w) : L6 K times_66 v_67 n_68 i_69 w_70 k_71 w := fun X hX => h X fun times_66 v_67 n_68 i_69 w_70 k_71 w hb => hX (times_66, v_67, n_68, i_69, w_70, k_71, ()) w hb
theorem B9 (Kv : Value → World → Prop) : OkT pr 106 g6 (L6 (Kt Kv)) (tl 1 (s1 (tl 5 bd))) (P4 Kv) := ok_block 0 (by kernel_rfl) (L6_ok Kv)
def S10 (K : KT) (times_80 : Int) (v_81 : Int) (n_82 : Int) (i_83 : Int) (w_84 : Option Addr) (w : World) : Prop :=
  L6 K times_80 v_81 n_82 i_83 w_84 (0 : Int) w
theorem S10_ok (Kv : Value → World → Prop) : OkT pr 106 g3 (S10 (Kt Kv)) (s1 (tl 5 bd)) (P4 Kv) := ok_group mixed FOk_ 1 (B9 Kv) fun v ρ w => by kernel_rfl
theorem Q11 (Kv : Value → World → Prop) : OkT pr 106 g3 (S10 (Kt Kv)) (tl 5 bd) (P1 Kv) := ok_seq (by kernel_rfl) (S3_ok Kv) (S10_ok Kv)
end tocsinlaw02_BitsFull
def tocsinlaw02_BitsFull (times_2 : Int) (v_3 : Int) (n_4 : Int) (i_5 : Int) (w : World) (K : tocsinlaw02_BitsFull.KT) : Prop :=
  C.bits_NewWriter w fun p85 w86 => G.cond p85.isNone (K false w86) (G.cond (decide (times_2 < (0 : Int))) (G.cond (decide ((0 : Int) > (131072 : Int))) (tocsinlaw02_BitsFull.S10 K (131072 : Int) v_3 n_4 i_5 p85 w86) (tocsinlaw02_BitsFull.S10 K (0 : Int) v_3 n_4 i_5 p85 w86)) (G.cond (decide (times_2 > (131072 : Int))) (tocsinlaw02_BitsFull.S10 K (131072 : Int) v_3 n_4 i_5 p85 w86) (tocsinlaw02_BitsFull.S10 K times_2 v_3 n_4 i_5 p85 w86)))
def tocsinlaw02_BitsFull.cl : CL := fun args K w => match args with
  | [.int .i64 x0, .int .u64 x1, .int .i64 x2, .int .i64 x3] => C.tocsinlaw02_BitsFull x0 x1 x2 x3 w (tocsinlaw02_BitsFull.Kt K)
  | _ => False
theorem tocsinlaw02_BitsFull.clok : OkC pr 4 tocsinlaw02_BitsFull.cl := by
  intro args K w h
  unfold tocsinlaw02_BitsFull.cl at h
  split at h
  · exact calls_group mixed tocsinlaw02_BitsFull.FOk_ tocsinlaw02_BitsFull.fn rfl 5 (tocsinlaw02_BitsFull.Q11 K) (Eq.mp (by kernel_rfl) h)
  · exact h.elim
end C
end Go.Proofs.YtnilefminhchfaaDoor
