/- Clean texts of Go functions, written by a program of this work (gen.py) off the loaded code, each shown to be what the code does. -/
import Derived.Test.YtpadehbcjkhegaaDoorProg
import Derived.Test.YtpadehbcjkhegaaDoorVmLift
set_option linter.unusedVariables false
set_option maxRecDepth 100000
namespace Go.Proofs.YtpadehbcjkhegaaDoor
open Go Vm
namespace C
noncomputable abbrev pr : Program := Tryd.prog
theorem mixed : pr.follows .mixedOrders = true := by kernel_rfl
/-! tocsin/bits.NewWriter -/
namespace bits_NewWriter
abbrev KT := Option Addr → World → Prop
def Kt (Kv : Value → World → Prop) : KT := fun p1 w => Kv (.pointer p1) w
noncomputable def bd : Code := bdy Tryd.f33
theorem fn : FnOk pr 33 3 Tryd.f33 := ⟨Tryd.func33, by kernel_rfl, Tryd.ntmps33, by kernel_rfl, by kernel_rfl⟩
def F : Clee := ofL []
theorem FOk_ : FOk pr F := FOk_nil
def P1 (Kv : Value → World → Prop) : Post := bodyK false pr 3 Tryd.f33 Kv
end bits_NewWriter
def bits_NewWriter (w : World) (K : bits_NewWriter.KT) : Prop :=
  G.new (.cells #[nilS.v, (.int .i64 (0 : Int))] 101) w fun p2 w3 => K (some p2) w3
def bits_NewWriter.cl : CL := fun args K w => match args with
  | [] => C.bits_NewWriter w (bits_NewWriter.Kt K)
  | _ => False
theorem bits_NewWriter.clok : OkC pr 33 bits_NewWriter.cl := by
  intro args K w h
  unfold bits_NewWriter.cl at h
  split at h
  · exact calls_last false mixed bits_NewWriter.FOk_ bits_NewWriter.fn rfl (Eq.mp (by kernel_rfl) h)
  · exact h.elim

/-! tocsin/chunk.New -/
namespace chunk_New
abbrev KT := Option Addr → World → Prop
def Kt (Kv : Value → World → Prop) : KT := fun p1 w => Kv (.pointer p1) w
noncomputable def bd : Code := bdy Tryd.f12
theorem fn : FnOk pr 12 4 Tryd.f12 := ⟨Tryd.func12, by kernel_rfl, Tryd.ntmps12, by kernel_rfl, by kernel_rfl⟩
def F : Clee := ofL [(33, C.bits_NewWriter.cl)]
theorem FOk_ : FOk pr F := FOk_cons C.bits_NewWriter.clok (FOk_nil)
def P1 (Kv : Value → World → Prop) : Post := bodyK false pr 4 Tryd.f12 Kv
end chunk_New
def chunk_New (w : World) (K : chunk_New.KT) : Prop :=
  C.bits_NewWriter w fun p2 w3 => G.new (.cells #[nilS.v, (.pointer p2), (.int .i64 (0 : Int)), (.int .i64 (0 : Int)), (.bool false)] 67) w3 fun p4 w5 => K (some p4) w5
def chunk_New.cl : CL := fun args K w => match args with
  | [] => C.chunk_New w (chunk_New.Kt K)
  | _ => False
theorem chunk_New.clok : OkC pr 12 chunk_New.cl := by
  intro args K w h
  unfold chunk_New.cl at h
  split at h
  · exact calls_last false mixed chunk_New.FOk_ chunk_New.fn rfl (Eq.mp (by kernel_rfl) h)
  · exact h.elim

/-! (*tocsin/bits.Writer).put -/
namespace bits_Writer_put
abbrev KT := World → Prop
def Kt (Kv : Value → World → Prop) : KT := fun  w => Kv (.tuple #[]) w
noncomputable def bd : Code := bdy Tryd.f72
theorem fn : FnOk pr 72 47 Tryd.f72 := ⟨Tryd.func72, by kernel_rfl, Tryd.ntmps72, by kernel_rfl, by kernel_rfl⟩
def F : Clee := ofL []
theorem FOk_ : FOk pr F := FOk_nil
def P1 (Kv : Value → World → Prop) : Post := bodyK false pr 47 Tryd.f72 Kv
@[reducible] def g2 : List SE := [.v 0 .ptr]
def S2 (K : KT) (w_7 : Option Addr) (w : World) : Prop :=
  G.ptr w_7 fun p8 => G.cI .i64 (p8.add 1) w fun n9 => G.ptr w_7 fun p10 => G.st (p10.add 1) (.int .i64 (IntKind.i64.wrap (n9 + (1 : Int)))) w fun w11 => K w11
theorem S2_ok (Kv : Value → World → Prop) : OkT pr false none 47 g2 (S2 (Kt Kv)) (tl 1 (tl 1 bd)) (P1 Kv) := ok_last mixed FOk_ fun v ρ w => by kernel_rfl
@[reducible] def g3 : List SE := [.v 0 .ptr, .v 1 .bool]
def S3 (K : KT) (w_12 : Option Addr) (b_13 : Bool) (w : World) : Prop :=
  G.cond b_13 (G.ptr w_12 fun p14 => G.cSl p14 w.drew fun l15 => G.ptr w_12 fun p16 => G.cI .i64 (p16.add 1) w.drew fun n17 => G.nz (8 : Int) <| G.ix l15.a l15.n (IntKind.i64.wrap (Int.tdiv n17 (8 : Int))) 1 fun p18 => G.cI .u8 p18 w.drew fun n19 => G.ptr w_12 fun p20 => G.cI .i64 (p20.add 1) w.drew fun n21 => G.nz (8 : Int) <| G.nn (IntKind.u64.wrap (Int.tmod n21 (8 : Int))) <| G.ix l15.a l15.n (IntKind.i64.wrap (Int.tdiv n17 (8 : Int))) 1 fun p22 => G.st p22 (.int .u8 (Go.bits .or .u8 n19 (shr .u8 (128 : Int) (IntKind.u64.wrap (Int.tmod n21 (8 : Int)))))) w.drew fun w23 => S2 K w_12 w23) (S2 K w_12 w)
theorem S3_ok (Kv : Value → World → Prop) : OkT pr false none 47 g3 (S3 (Kt Kv)) (tl 1 bd) (P1 Kv) := ok_group mixed FOk_ 1 (S2_ok Kv) fun v ρ w => by kernel_rfl
end bits_Writer_put
def bits_Writer_put (w_1 : Option Addr) (b_2 : Bool) (w : World) (K : bits_Writer_put.KT) : Prop :=
  G.ptr w_1 fun p24 => G.cI .i64 (p24.add 1) w fun n25 => G.nz (8 : Int) <| G.cond ((Int.tmod n25 (8 : Int)) == (0 : Int)) (G.ptr w_1 fun p26 => G.cSl p26 w fun l27 => G.new (.cells #[(.int .u8 (0 : Int))] 5) w fun p28 w29 => G.runSl pr (Builtin.append_ #[27, 27] 27 #[l27.v, (Sl.v (⟨some p28, 1, 1⟩ : Sl))]) w29 fun l30 w31 => G.ptr w_1 fun p32 => G.st p32 l30.v w31 fun w33 => bits_Writer_put.S3 K w_1 b_2 w33) (bits_Writer_put.S3 K w_1 b_2 w)
def bits_Writer_put.cl : CL := fun args K w => match args with
  | [.pointer x0, .bool x1] => C.bits_Writer_put x0 x1 w (bits_Writer_put.Kt K)
  | _ => False
theorem bits_Writer_put.clok : OkC pr 72 bits_Writer_put.cl := by
  intro args K w h
  unfold bits_Writer_put.cl at h
  split at h
  · exact calls_group false mixed bits_Writer_put.FOk_ bits_Writer_put.fn rfl 1 (bits_Writer_put.S3_ok K) (Eq.mp (by kernel_rfl) h)
  · exact h.elim

/-! (*tocsin/bits.Writer).Bits -/
namespace bits_Writer_Bits
abbrev KT := Int → World → Prop
def Kt (Kv : Value → World → Prop) : KT := fun n1 w => Kv (.int .i64 n1) w
noncomputable def bd : Code := bdy Tryd.f52
theorem fn : FnOk pr 52 51 Tryd.f52 := ⟨Tryd.func52, by kernel_rfl, Tryd.ntmps52, by kernel_rfl, by kernel_rfl⟩
def F : Clee := ofL [(72, C.bits_Writer_put.cl)]
theorem FOk_ : FOk pr F := FOk_cons C.bits_Writer_put.clok (FOk_nil)
def P1 (Kv : Value → World → Prop) : Post := bodyK false pr 51 Tryd.f52 Kv
@[reducible] def g2 : List SE := []
def S2 (K : KT) (w : World) : Prop :=
  K (0 : Int) w
theorem S2_ok (Kv : Value → World → Prop) : OkT pr false none 51 g2 (S2 (Kt Kv)) (s2 (tl 2 bd)) (P1 Kv) := ok_last mixed FOk_ fun v ρ w => by kernel_rfl
def P3 (Kv : Value → World → Prop) : Post := next (get g2 (S2 (Kt Kv))) (P1 Kv)
def P4 (Kv : Value → World → Prop) : Post := inBlock 1 (P3 Kv)
@[reducible] def g5 : List SE := [.v 0 .ptr, .v 1 (.int .u64), .v 7 (.int .i64)]
def P6 (Kv : Value → World → Prop) (kc5 : Cur g5) : Post := next (get g5 kc5) (P4 Kv)
def S7 (K : KT) (kc5 : Cur g5) (w_11 : Option Addr) (v_12 : Int) (i_13 : Int) (w : World) : Prop :=
  G.cond (decide (i_13 ≥ (0 : Int))) (G.nn (IntKind.u64.wrap i_13) <| C.bits_Writer_put w_11 ((Go.bits .and .u64 (shr .u64 v_12 (IntKind.u64.wrap i_13)) (1 : Int)) == (1 : Int)) w fun w14 => kc5 w_11 v_12 (IntKind.i64.wrap (i_13 - (1 : Int))) w14) (S2 K w)
theorem S7_ok (Kv : Value → World → Prop) (kc5 : Cur g5) : OkT pr false none 51 g5 (S7 (Kt Kv) kc5) (lp (blk (tl 1 (s1 (tl 2 bd))))) (P6 Kv kc5) := ok_last mixed FOk_ fun v ρ w => by kernel_rfl
def L5 (K : KT) : Cur g5 := loopC g5 (S7 K)
theorem L5_ok (Kv : Value → World → Prop) : OkT pr false none 51 g5 (L5 (Kt Kv)) (blk (tl 1 (s1 (tl 2 bd)))) (P4 Kv) := ok_loop (B := S7 (Kt Kv)) (by kernel_rfl) fun kc => S7_ok Kv kc
theorem L5_ind {K : KT} {w_5 : Option Addr} {v_6 : Int} {i_7 : Int} {w : World} (h : ∀ X : Cur g5, (∀ w_5 v_6 i_7 w, S7 K X w_5 v_6 i_7 w → X w_5 v_6 i_7 w) → X w_5 v_6 i_7 w) : L5 K w_5 v_6 i_7 w := fun X hX => h X fun w_5 v_6 i_7 w hb => hX (w_5, v_6, i_7, ()) w hb
theorem B8 (Kv : Value → World → Prop) : OkT pr false none 51 g5 (L5 (Kt Kv)) (tl 1 (s1 (tl 2 bd))) (P3 Kv) := ok_block 1 (by kernel_rfl) (L5_ok Kv)
@[reducible] def g9 : List SE := [.v 0 .ptr, .v 1 (.int .u64), .v 2 (.int .i64)]
def S9 (K : KT) (w_15 : Option Addr) (v_16 : Int) (n_17 : Int) (w : World) : Prop :=
  L5 K w_15 v_16 (IntKind.i64.wrap (n_17 - (1 : Int))) w
theorem S9_ok (Kv : Value → World → Prop) : OkT pr false none 51 g9 (S9 (Kt Kv)) (s1 (tl 2 bd)) (P3 Kv) := ok_group mixed FOk_ 1 (B8 Kv) fun v ρ w => by kernel_rfl
theorem Q10 (Kv : Value → World → Prop) : OkT pr false none 51 g9 (S9 (Kt Kv)) (tl 2 bd) (P1 Kv) := ok_seq (by kernel_rfl) (S2_ok Kv) (S9_ok Kv)
end bits_Writer_Bits
def bits_Writer_Bits (w_2 : Option Addr) (v_3 : Int) (n_4 : Int) (w : World) (K : bits_Writer_Bits.KT) : Prop :=
  G.cond w_2.isNone (K (2 : Int) w) (G.cond (decide (n_4 < (0 : Int))) (K (1 : Int) w) (G.cond (decide (n_4 > (64 : Int))) (K (1 : Int) w) (G.cond (decide (n_4 < (64 : Int))) (G.nn (IntKind.u64.wrap n_4) <| G.cond ((shr .u64 v_3 (IntKind.u64.wrap n_4)) != (0 : Int)) (K (1 : Int) w) (G.ptr w_2 fun p18 => G.cI .i64 (p18.add 1) w fun n19 => G.cond (decide (n_4 > (IntKind.i64.wrap ((8388608 : Int) - n19)))) (K (8 : Int) w) (bits_Writer_Bits.S9 K w_2 v_3 n_4 w))) (G.ptr w_2 fun p20 => G.cI .i64 (p20.add 1) w fun n21 => G.cond (decide (n_4 > (IntKind.i64.wrap ((8388608 : Int) - n21)))) (K (8 : Int) w) (bits_Writer_Bits.S9 K w_2 v_3 n_4 w)))))
def bits_Writer_Bits.cl : CL := fun args K w => match args with
  | [.pointer x0, .int .u64 x1, .int .i64 x2] => C.bits_Writer_Bits x0 x1 x2 w (bits_Writer_Bits.Kt K)
  | _ => False
theorem bits_Writer_Bits.clok : OkC pr 52 bits_Writer_Bits.cl := by
  intro args K w h
  unfold bits_Writer_Bits.cl at h
  split at h
  · exact calls_group false mixed bits_Writer_Bits.FOk_ bits_Writer_Bits.fn rfl 2 (bits_Writer_Bits.Q10 K) (Eq.mp (by kernel_rfl) h)
  · exact h.elim

/-! (*tocsin/chunk.Chunk).bytes -/
namespace chunk_Chunk_bytes
abbrev KT := World → Prop
def Kt (Kv : Value → World → Prop) : KT := fun  w => Kv (.tuple #[]) w
noncomputable def bd : Code := bdy Tryd.f50
theorem fn : FnOk pr 50 20 Tryd.f50 := ⟨Tryd.func50, by kernel_rfl, Tryd.ntmps50, by kernel_rfl, by kernel_rfl⟩
def F : Clee := ofL [(52, C.bits_Writer_Bits.cl)]
theorem FOk_ : FOk pr F := FOk_cons C.bits_Writer_Bits.clok (FOk_nil)
def P1 (Kv : Value → World → Prop) : Post := bodyK false pr 20 Tryd.f50 Kv
def P2 (Kv : Value → World → Prop) : Post := inBlock 0 (P1 Kv)
@[reducible] def g3 : List SE := [.v 0 .ptr, .v 6 .sl, .v 7 (.int .i64), .v 8 (.int .i64)]
def P4 (Kv : Value → World → Prop) (kc3 : Cur g3) : Post := next (get g3 kc3) (P2 Kv)
def S5 (K : KT) (kc3 : Cur g3) (c_11 : Option Addr) (l12 : Sl) (n13 : Int) (n14 : Int) (w : World) : Prop :=
  G.cond (decide (n14 < n13)) (G.ix l12.a l12.n n14 1 fun p15 => G.cI .u8 p15 w fun n16 => G.ptr c_11 fun p17 => G.cP (p17.add 1) w fun p18 => C.bits_Writer_Bits p18 (IntKind.u64.wrap n16) (8 : Int) w fun n19 w20 => kc3 c_11 l12 n13 (IntKind.i64.wrap (n14 + (1 : Int))) w20) (K w)
theorem S5_ok (Kv : Value → World → Prop) (kc3 : Cur g3) : OkT pr false none 20 g3 (S5 (Kt Kv) kc3) (lp (blk (tl 1 bd))) (P4 Kv kc3) := ok_last mixed FOk_ fun v ρ w => by kernel_rfl
def L3 (K : KT) : Cur g3 := loopC g3 (S5 K)
theorem L3_ok (Kv : Value → World → Prop) : OkT pr false none 20 g3 (L3 (Kt Kv)) (blk (tl 1 bd)) (P2 Kv) := ok_loop (B := S5 (Kt Kv)) (by kernel_rfl) fun kc => S5_ok Kv kc
theorem L3_ind {K : KT} {c_3 : Option Addr} {l4 : Sl} {n5 : Int} {n6 : Int} {w : World} (h : ∀ X : Cur g3, (∀ c_3 l4 n5 n6 w, S5 K X c_3 l4 n5 n6 w → X c_3 l4 n5 n6 w) → X c_3 l4 n5 n6 w) : L3 K c_3 l4 n5 n6 w := fun X hX => h X fun c_3 l4 n5 n6 w hb => hX (c_3, l4, n5, n6, ()) w hb
theorem B6 (Kv : Value → World → Prop) : OkT pr false none 20 g3 (L3 (Kt Kv)) (tl 1 bd) (P1 Kv) := ok_block 0 (by kernel_rfl) (L3_ok Kv)
end chunk_Chunk_bytes
def chunk_Chunk_bytes (c_1 : Option Addr) (b_2 : Sl) (w : World) (K : chunk_Chunk_bytes.KT) : Prop :=
  chunk_Chunk_bytes.L3 K c_1 b_2 ((b_2.n : Nat) : Int) (0 : Int) w
def chunk_Chunk_bytes.cl : CL := fun args K w => match args with
  | [.pointer x0, .slice x1_a x1_n x1_c] => C.chunk_Chunk_bytes x0 ⟨x1_a, x1_n, x1_c⟩ w (chunk_Chunk_bytes.Kt K)
  | _ => False
theorem chunk_Chunk_bytes.clok : OkC pr 50 chunk_Chunk_bytes.cl := by
  intro args K w h
  unfold chunk_Chunk_bytes.cl at h
  split at h
  · exact calls_group false mixed chunk_Chunk_bytes.FOk_ chunk_Chunk_bytes.fn rfl 1 (chunk_Chunk_bytes.B6 K) (Eq.mp (by kernel_rfl) h)
  · exact h.elim

/-! tocsin/vint.joined -/
namespace vint_joined
abbrev KT := Sl → World → Prop
def Kt (Kv : Value → World → Prop) : KT := fun l1 w => Kv l1.v w
noncomputable def bd : Code := bdy Tryd.f73
theorem fn : FnOk pr 73 17 Tryd.f73 := ⟨Tryd.func73, by kernel_rfl, Tryd.ntmps73, by kernel_rfl, by kernel_rfl⟩
def F : Clee := ofL []
theorem FOk_ : FOk pr F := FOk_nil
def P1 (Kv : Value → World → Prop) : Post := bodyK false pr 17 Tryd.f73 Kv
end vint_joined
def vint_joined (b_2 : Sl) (c_3 : Sl) (w : World) (K : vint_joined.KT) : Prop :=
  G.runSl pr (Instr.makeSlice 27 (.int .i64 (0 : Int)) (.int .i64 (IntKind.i64.wrap (((b_2.n : Nat) : Int) + ((c_3.n : Nat) : Int))))) w fun l4 w5 => G.runSl pr (Builtin.append_ #[27, 27] 27 #[l4.v, b_2.v]) w5 fun l6 w7 => G.runSl pr (Builtin.append_ #[27, 27] 27 #[l6.v, c_3.v]) w7 fun l8 w9 => K l8 w9
def vint_joined.cl : CL := fun args K w => match args with
  | [.slice x0_a x0_n x0_c, .slice x1_a x1_n x1_c] => C.vint_joined ⟨x0_a, x0_n, x0_c⟩ ⟨x1_a, x1_n, x1_c⟩ w (vint_joined.Kt K)
  | _ => False
theorem vint_joined.clok : OkC pr 73 vint_joined.cl := by
  intro args K w h
  unfold vint_joined.cl at h
  split at h
  · exact calls_last false mixed vint_joined.FOk_ vint_joined.fn rfl (Eq.mp (by kernel_rfl) h)
  · exact h.elim

/-! tocsin/vint.PutU -/
namespace vint_PutU
abbrev KT := Sl → World → Prop
def Kt (Kv : Value → World → Prop) : KT := fun l1 w => Kv l1.v w
noncomputable def bd : Code := bdy Tryd.f54
theorem fn : FnOk pr 54 23 Tryd.f54 := ⟨Tryd.func54, by kernel_rfl, Tryd.ntmps54, by kernel_rfl, by kernel_rfl⟩
def F : Clee := ofL [(73, C.vint_joined.cl)]
theorem FOk_ : FOk pr F := FOk_cons C.vint_joined.clok (FOk_nil)
def P1 (Kv : Value → World → Prop) : Post := bodyK false pr 23 Tryd.f54 Kv
@[reducible] def g2 : List SE := [.v 0 .sl, .v 1 (.int .u64), .v 5 .sl]
def S2 (K : KT) (b_4 : Sl) (n_5 : Int) (c_6 : Sl) (w : World) : Prop :=
  G.new (.cells #[(.int .u8 (IntKind.u8.wrap n_5))] 5) w fun p7 w8 => G.runSl pr (Builtin.append_ #[27, 27] 27 #[c_6.v, (Sl.v (⟨some p7, 1, 1⟩ : Sl))]) w8 fun l9 w10 => C.vint_joined b_4 l9 w10 fun l11 w12 => K l11 w12
theorem S2_ok (Kv : Value → World → Prop) : OkT pr false none 23 g2 (S2 (Kt Kv)) (s2 (tl 2 bd)) (P1 Kv) := ok_last mixed FOk_ fun v ρ w => by kernel_rfl
def P3 (Kv : Value → World → Prop) : Post := next (get g2 (S2 (Kt Kv))) (P1 Kv)
def P4 (Kv : Value → World → Prop) : Post := inBlock 0 (P3 Kv)
def P6 (Kv : Value → World → Prop) (kc5 : Cur g2) : Post := next (get g2 kc5) (P4 Kv)
def S7 (K : KT) (kc5 : Cur g2) (b_19 : Sl) (n_20 : Int) (c_21 : Sl) (w : World) : Prop :=
  G.cond (decide (n_20 ≥ (128 : Int))) (G.new (.cells #[(.int .u8 (Go.bits .or .u8 (IntKind.u8.wrap n_20) (128 : Int)))] 5) w fun p22 w23 => G.runSl pr (Builtin.append_ #[27, 27] 27 #[c_21.v, (Sl.v (⟨some p22, 1, 1⟩ : Sl))]) w23 fun l24 w25 => G.nn (7 : Int) <| kc5 b_19 (shr .u64 n_20 (7 : Int)) l24 w25) (S2 K b_19 n_20 c_21 w)
theorem S7_ok (Kv : Value → World → Prop) (kc5 : Cur g2) : OkT pr false none 23 g2 (S7 (Kt Kv) kc5) (lp (blk (s1 (tl 2 bd)))) (P6 Kv kc5) := ok_last mixed FOk_ fun v ρ w => by kernel_rfl
def L5 (K : KT) : Cur g2 := loopC g2 (S7 K)
theorem L5_ok (Kv : Value → World → Prop) : OkT pr false none 23 g2 (L5 (Kt Kv)) (blk (s1 (tl 2 bd))) (P4 Kv) := ok_loop (B := S7 (Kt Kv)) (by kernel_rfl) fun kc => S7_ok Kv kc
theorem L5_ind {K : KT} {b_13 : Sl} {n_14 : Int} {c_15 : Sl} {w : World} (h : ∀ X : Cur g2, (∀ b_13 n_14 c_15 w, S7 K X b_13 n_14 c_15 w → X b_13 n_14 c_15 w) → X b_13 n_14 c_15 w) : L5 K b_13 n_14 c_15 w := fun X hX => h X fun b_13 n_14 c_15 w hb => hX (b_13, n_14, c_15, ()) w hb
theorem B8 (Kv : Value → World → Prop) : OkT pr false none 23 g2 (L5 (Kt Kv)) (s1 (tl 2 bd)) (P3 Kv) := ok_block 0 (by kernel_rfl) (L5_ok Kv)
theorem Q9 (Kv : Value → World → Prop) : OkT pr false none 23 g2 (L5 (Kt Kv)) (tl 2 bd) (P1 Kv) := ok_seq (by kernel_rfl) (S2_ok Kv) (B8 Kv)
end vint_PutU
def vint_PutU (b_2 : Sl) (n_3 : Int) (w : World) (K : vint_PutU.KT) : Prop :=
  vint_PutU.L5 K b_2 n_3 nilS w
def vint_PutU.cl : CL := fun args K w => match args with
  | [.slice x0_a x0_n x0_c, .int .u64 x1] => C.vint_PutU ⟨x0_a, x0_n, x0_c⟩ x1 w (vint_PutU.Kt K)
  | _ => False
theorem vint_PutU.clok : OkC pr 54 vint_PutU.cl := by
  intro args K w h
  unfold vint_PutU.cl at h
  split at h
  · exact calls_group false mixed vint_PutU.FOk_ vint_PutU.fn rfl 2 (vint_PutU.Q9 K) (Eq.mp (by kernel_rfl) h)
  · exact h.elim

/-! tocsin/vint.PutI -/
namespace vint_PutI
abbrev KT := Sl → World → Prop
def Kt (Kv : Value → World → Prop) : KT := fun l1 w => Kv l1.v w
noncomputable def bd : Code := bdy Tryd.f51
theorem fn : FnOk pr 51 14 Tryd.f51 := ⟨Tryd.func51, by kernel_rfl, Tryd.ntmps51, by kernel_rfl, by kernel_rfl⟩
def F : Clee := ofL [(54, C.vint_PutU.cl)]
theorem FOk_ : FOk pr F := FOk_cons C.vint_PutU.clok (FOk_nil)
def P1 (Kv : Value → World → Prop) : Post := bodyK false pr 14 Tryd.f51 Kv
end vint_PutI
def vint_PutI (b_2 : Sl) (n_3 : Int) (w : World) (K : vint_PutI.KT) : Prop :=
  G.nn (1 : Int) <| G.nn (63 : Int) <| C.vint_PutU b_2 (Go.bits .xor .u64 (shl .u64 (IntKind.u64.wrap n_3) (1 : Int)) (IntKind.u64.wrap (shr .i64 n_3 (63 : Int)))) w fun l4 w5 => K l4 w5
def vint_PutI.cl : CL := fun args K w => match args with
  | [.slice x0_a x0_n x0_c, .int .i64 x1] => C.vint_PutI ⟨x0_a, x0_n, x0_c⟩ x1 w (vint_PutI.Kt K)
  | _ => False
theorem vint_PutI.clok : OkC pr 51 vint_PutI.cl := by
  intro args K w h
  unfold vint_PutI.cl at h
  split at h
  · exact calls_last false mixed vint_PutI.FOk_ vint_PutI.fn rfl (Eq.mp (by kernel_rfl) h)
  · exact h.elim

/-! math.Float64bits: the model's own -/
abbrev math_Float64bits.KT := Int → World → Prop
def math_Float64bits.Kt (Kv : Value → World → Prop) : math_Float64bits.KT := fun r0 w => Kv (.int .u64 r0) w
def math_Float64bits (x0 : Nat) (w : World) (K : math_Float64bits.KT) : Prop := K (x0 : Int) w
def math_Float64bits.cl : CL := fun args K w => match args with
  | [.float .f64 x0] => C.math_Float64bits x0 w (math_Float64bits.Kt K)
  | _ => False
theorem math_Float64bits.clok : OkX pr 53 math_Float64bits.cl := by
  intro args K w h
  unfold math_Float64bits.cl at h
  split at h
  · exact ⟨_, w, by kernel_rfl, h⟩
  · exact h.elim

/-! math/bits.Len64 -/
namespace bits_Len64
abbrev KT := Int → World → Prop
def Kt (Kv : Value → World → Prop) : KT := fun n1 w => Kv (.int .i64 n1) w
noncomputable def bd : Code := bdy Tryd.f85
theorem fn : FnOk pr 85 25 Tryd.f85 := ⟨Tryd.func85, by kernel_rfl, Tryd.ntmps85, by kernel_rfl, by kernel_rfl⟩
def F : Clee := ofL []
theorem FOk_ : FOk pr F := FOk_nil
def P1 (Kv : Value → World → Prop) : Post := bodyK false pr 25 Tryd.f85 Kv
@[reducible] def g2 : List SE := [.v 0 (.int .u64), .v 2 (.int .i64)]
def S2 (K : KT) (x_6 : Int) (n_7 : Int) (w : World) : Prop :=
  G.cond (decide (x_6 ≥ (256 : Int))) (G.nn (8 : Int) <| G.ixS (⟨#[0, 1, 2, 2, 3, 3, 3, 3, 4, 4, 4, 4, 4, 4, 4, 4, 5, 5, 5, 5, 5, 5, 5, 5, 5, 5, 5, 5, 5, 5, 5, 5, 6, 6, 6, 6, 6, 6, 6, 6, 6, 6, 6, 6, 6, 6, 6, 6, 6, 6, 6, 6, 6, 6, 6, 6, 6, 6, 6, 6, 6, 6, 6, 6, 7, 7, 7, 7, 7, 7, 7, 7, 7, 7, 7, 7, 7, 7, 7, 7, 7, 7, 7, 7, 7, 7, 7, 7, 7, 7, 7, 7, 7, 7, 7, 7, 7, 7, 7, 7, 7, 7, 7, 7, 7, 7, 7, 7, 7, 7, 7, 7, 7, 7, 7, 7, 7, 7, 7, 7, 7, 7, 7, 7, 7, 7, 7, 7, 8, 8, 8, 8, 8, 8, 8, 8, 8, 8, 8, 8, 8, 8, 8, 8, 8, 8, 8, 8, 8, 8, 8, 8, 8, 8, 8, 8, 8, 8, 8, 8, 8, 8, 8, 8, 8, 8, 8, 8, 8, 8, 8, 8, 8, 8, 8, 8, 8, 8, 8, 8, 8, 8, 8, 8, 8, 8, 8, 8, 8, 8, 8, 8, 8, 8, 8, 8, 8, 8, 8, 8, 8, 8, 8, 8, 8, 8, 8, 8, 8, 8, 8, 8, 8, 8, 8, 8, 8, 8, 8, 8, 8, 8, 8, 8, 8, 8, 8, 8, 8, 8, 8, 8, 8, 8, 8, 8, 8, 8, 8, 8, 8, 8, 8, 8, 8, 8, 8, 8, 8, 8, 8, 8, 8, 8, 8, 8]⟩ : ByteArray) (IntKind.u8.wrap (shr .u64 x_6 (8 : Int))) fun n8 => K (IntKind.i64.wrap ((IntKind.i64.wrap (n_7 + (8 : Int))) + (IntKind.i64.wrap n8))) w) (G.ixS (⟨#[0, 1, 2, 2, 3, 3, 3, 3, 4, 4, 4, 4, 4, 4, 4, 4, 5, 5, 5, 5, 5, 5, 5, 5, 5, 5, 5, 5, 5, 5, 5, 5, 6, 6, 6, 6, 6, 6, 6, 6, 6, 6, 6, 6, 6, 6, 6, 6, 6, 6, 6, 6, 6, 6, 6, 6, 6, 6, 6, 6, 6, 6, 6, 6, 7, 7, 7, 7, 7, 7, 7, 7, 7, 7, 7, 7, 7, 7, 7, 7, 7, 7, 7, 7, 7, 7, 7, 7, 7, 7, 7, 7, 7, 7, 7, 7, 7, 7, 7, 7, 7, 7, 7, 7, 7, 7, 7, 7, 7, 7, 7, 7, 7, 7, 7, 7, 7, 7, 7, 7, 7, 7, 7, 7, 7, 7, 7, 7, 8, 8, 8, 8, 8, 8, 8, 8, 8, 8, 8, 8, 8, 8, 8, 8, 8, 8, 8, 8, 8, 8, 8, 8, 8, 8, 8, 8, 8, 8, 8, 8, 8, 8, 8, 8, 8, 8, 8, 8, 8, 8, 8, 8, 8, 8, 8, 8, 8, 8, 8, 8, 8, 8, 8, 8, 8, 8, 8, 8, 8, 8, 8, 8, 8, 8, 8, 8, 8, 8, 8, 8, 8, 8, 8, 8, 8, 8, 8, 8, 8, 8, 8, 8, 8, 8, 8, 8, 8, 8, 8, 8, 8, 8, 8, 8, 8, 8, 8, 8, 8, 8, 8, 8, 8, 8, 8, 8, 8, 8, 8, 8, 8, 8, 8, 8, 8, 8, 8, 8, 8, 8, 8, 8, 8, 8, 8, 8]⟩ : ByteArray) (IntKind.u8.wrap x_6) fun n9 => K (IntKind.i64.wrap (n_7 + (IntKind.i64.wrap n9))) w)
theorem S2_ok (Kv : Value → World → Prop) : OkT pr false none 25 g2 (S2 (Kt Kv)) (tl 1 (tl 2 bd)) (P1 Kv) := ok_last mixed FOk_ fun v ρ w => by kernel_rfl
def S3 (K : KT) (x_10 : Int) (n_11 : Int) (w : World) : Prop :=
  G.cond (decide (x_10 ≥ (65536 : Int))) (G.nn (16 : Int) <| S2 K (shr .u64 x_10 (16 : Int)) (IntKind.i64.wrap (n_11 + (16 : Int))) w) (S2 K x_10 n_11 w)
theorem S3_ok (Kv : Value → World → Prop) : OkT pr false none 25 g2 (S3 (Kt Kv)) (tl 2 bd) (P1 Kv) := ok_group mixed FOk_ 1 (S2_ok Kv) fun v ρ w => by kernel_rfl
end bits_Len64
def bits_Len64 (x_2 : Int) (w : World) (K : bits_Len64.KT) : Prop :=
  G.cond (decide (x_2 ≥ (4294967296 : Int))) (G.nn (32 : Int) <| bits_Len64.S3 K (shr .u64 x_2 (32 : Int)) (32 : Int) w) (bits_Len64.S3 K x_2 (0 : Int) w)
def bits_Len64.cl : CL := fun args K w => match args with
  | [.int .u64 x0] => C.bits_Len64 x0 w (bits_Len64.Kt K)
  | _ => False
theorem bits_Len64.clok : OkC pr 85 bits_Len64.cl := by
  intro args K w h
  unfold bits_Len64.cl at h
  split at h
  · exact calls_group false mixed bits_Len64.FOk_ bits_Len64.fn rfl 2 (bits_Len64.S3_ok K) (Eq.mp (by kernel_rfl) h)
  · exact h.elim

/-! math/bits.LeadingZeros64 -/
namespace bits_LeadingZeros64
abbrev KT := Int → World → Prop
def Kt (Kv : Value → World → Prop) : KT := fun n1 w => Kv (.int .i64 n1) w
noncomputable def bd : Code := bdy Tryd.f74
theorem fn : FnOk pr 74 6 Tryd.f74 := ⟨Tryd.func74, by kernel_rfl, Tryd.ntmps74, by kernel_rfl, by kernel_rfl⟩
def F : Clee := ofL [(85, C.bits_Len64.cl)]
theorem FOk_ : FOk pr F := FOk_cons C.bits_Len64.clok (FOk_nil)
def P1 (Kv : Value → World → Prop) : Post := bodyK false pr 6 Tryd.f74 Kv
end bits_LeadingZeros64
def bits_LeadingZeros64 (x_2 : Int) (w : World) (K : bits_LeadingZeros64.KT) : Prop :=
  C.bits_Len64 x_2 w fun n3 w4 => K (IntKind.i64.wrap ((64 : Int) - n3)) w4
def bits_LeadingZeros64.cl : CL := fun args K w => match args with
  | [.int .u64 x0] => C.bits_LeadingZeros64 x0 w (bits_LeadingZeros64.Kt K)
  | _ => False
theorem bits_LeadingZeros64.clok : OkC pr 74 bits_LeadingZeros64.cl := by
  intro args K w h
  unfold bits_LeadingZeros64.cl at h
  split at h
  · exact calls_last false mixed bits_LeadingZeros64.FOk_ bits_LeadingZeros64.fn rfl (Eq.mp (by kernel_rfl) h)
  · exact h.elim

/-! math/bits.TrailingZeros64 -/
namespace bits_TrailingZeros64
abbrev KT := Int → World → Prop
def Kt (Kv : Value → World → Prop) : KT := fun n1 w => Kv (.int .i64 n1) w
noncomputable def bd : Code := bdy Tryd.f75
theorem fn : FnOk pr 75 14 Tryd.f75 := ⟨Tryd.func75, by kernel_rfl, Tryd.ntmps75, by kernel_rfl, by kernel_rfl⟩
def F : Clee := ofL []
theorem FOk_ : FOk pr F := FOk_nil
def P1 (Kv : Value → World → Prop) : Post := bodyK false pr 14 Tryd.f75 Kv
end bits_TrailingZeros64
def bits_TrailingZeros64 (x_2 : Int) (w : World) (K : bits_TrailingZeros64.KT) : Prop :=
  G.cond (x_2 == (0 : Int)) (K (64 : Int) w) (G.nn (58 : Int) <| G.ix (some ⟨1, 0, none⟩) 64 (shr .u64 (IntKind.u64.wrap ((Go.bits .and .u64 x_2 (IntKind.u64.wrap (0 - x_2))) * (285870213051353865 : Int))) (58 : Int)) 1 fun p4 => G.cI .u8 p4 w fun n5 => K (IntKind.i64.wrap n5) w)
def bits_TrailingZeros64.cl : CL := fun args K w => match args with
  | [.int .u64 x0] => C.bits_TrailingZeros64 x0 w (bits_TrailingZeros64.Kt K)
  | _ => False
theorem bits_TrailingZeros64.clok : OkC pr 75 bits_TrailingZeros64.cl := by
  intro args K w h
  unfold bits_TrailingZeros64.cl at h
  split at h
  · exact calls_last false mixed bits_TrailingZeros64.FOk_ bits_TrailingZeros64.fn rfl (Eq.mp (by kernel_rfl) h)
  · exact h.elim

/-! tocsin/chunk.mask -/
namespace chunk_mask
abbrev KT := Int → World → Prop
def Kt (Kv : Value → World → Prop) : KT := fun n1 w => Kv (.int .u64 n1) w
noncomputable def bd : Code := bdy Tryd.f76
theorem fn : FnOk pr 76 9 Tryd.f76 := ⟨Tryd.func76, by kernel_rfl, Tryd.ntmps76, by kernel_rfl, by kernel_rfl⟩
def F : Clee := ofL []
theorem FOk_ : FOk pr F := FOk_nil
def P1 (Kv : Value → World → Prop) : Post := bodyK false pr 9 Tryd.f76 Kv
end chunk_mask
def chunk_mask (n_2 : Int) (w : World) (K : chunk_mask.KT) : Prop :=
  G.cond (decide (n_2 ≥ (64 : Int))) (K (18446744073709551615 : Int) w) (G.nn (IntKind.u64.wrap n_2) <| K (IntKind.u64.wrap ((shl .u64 (1 : Int) (IntKind.u64.wrap n_2)) - (1 : Int))) w)
def chunk_mask.cl : CL := fun args K w => match args with
  | [.int .i64 x0] => C.chunk_mask x0 w (chunk_mask.Kt K)
  | _ => False
theorem chunk_mask.clok : OkC pr 76 chunk_mask.cl := by
  intro args K w h
  unfold chunk_mask.cl at h
  split at h
  · exact calls_last false mixed chunk_mask.FOk_ chunk_mask.fn rfl (Eq.mp (by kernel_rfl) h)
  · exact h.elim

/-! (*tocsin/chunk.Chunk).value -/
namespace chunk_Chunk_value
abbrev KT := World → Prop
def Kt (Kv : Value → World → Prop) : KT := fun  w => Kv (.tuple #[]) w
noncomputable def bd : Code := bdy Tryd.f55
theorem fn : FnOk pr 55 131 Tryd.f55 := ⟨Tryd.func55, by kernel_rfl, Tryd.ntmps55, by kernel_rfl, by kernel_rfl⟩
def F : Clee := ofL [(52, C.bits_Writer_Bits.cl), (74, C.bits_LeadingZeros64.cl), (75, C.bits_TrailingZeros64.cl), (76, C.chunk_mask.cl)]
theorem FOk_ : FOk pr F := FOk_cons C.bits_Writer_Bits.clok (FOk_cons C.bits_LeadingZeros64.clok (FOk_cons C.bits_TrailingZeros64.clok (FOk_cons C.chunk_mask.clok (FOk_nil))))
def P1 (Kv : Value → World → Prop) : Post := bodyK false pr 131 Tryd.f55 Kv
@[reducible] def g2 : List SE := [.v 0 .ptr, .v 1 (.int .u64), .v 4 .ptr]
def S2 (K : KT) (c_7 : Option Addr) (x_8 : Int) (now_9 : Option Addr) (w : World) : Prop :=
  G.ptr now_9 fun p10 => G.cI .i64 p10 w fun n11 => G.ptr now_9 fun p12 => G.cI .i64 (p12.add 1) w fun n13 => G.ptr c_7 fun p14 => G.cP (p14.add 1) w fun p15 => C.bits_Writer_Bits p15 (1 : Int) (1 : Int) w fun n16 w17 => G.ptr c_7 fun p18 => G.cP (p18.add 1) w17.drew fun p19 => G.ptr now_9 fun p20 => G.cI .i64 p20 w17.drew fun n21 => C.bits_Writer_Bits p19 (IntKind.u64.wrap n21) (5 : Int) w17.drew fun n22 w23 => G.ptr c_7 fun p24 => G.cP (p24.add 1) w23 fun p25 => G.nz (64 : Int) <| C.bits_Writer_Bits p25 (IntKind.u64.wrap (Int.tmod (IntKind.i64.wrap ((IntKind.i64.wrap ((64 : Int) - n11)) - n13)) (64 : Int))) (6 : Int) w23 fun n26 w27 => G.ptr c_7 fun p28 => G.cP (p28.add 1) w27.drew fun p29 => G.ptr now_9 fun p30 => G.cI .i64 (p30.add 1) w27.drew fun n31 => G.nn (IntKind.u64.wrap n31) <| C.chunk_mask (IntKind.i64.wrap ((IntKind.i64.wrap ((64 : Int) - n11)) - n13)) w27.drew fun n32 w33 => sameAt (p28.add 1) 1 w27.drew w33 ∧ sameAt (p30.add 1) 1 w27.drew w33 ∧ (C.bits_Writer_Bits p29 (Go.bits .and .u64 (shr .u64 x_8 (IntKind.u64.wrap n31)) n32) (IntKind.i64.wrap ((IntKind.i64.wrap ((64 : Int) - n11)) - n13)) w33 fun n34 w35 => G.ptr now_9 fun p36 => G.cI .i64 p36 w35 fun n37 => G.cI .i64 (p36.add 1) w35 fun n38 => G.ptr c_7 fun p39 => G.st (p39.add 2) (.int .i64 n37) w35 fun w40 => G.st ((p39.add 2).add 1) (.int .i64 n38) w40 fun w41 => G.ptr c_7 fun p42 => G.st (p42.add 4) (.bool true) w41 fun w43 => K w43)
theorem S2_ok (Kv : Value → World → Prop) : OkT pr false none 131 g2 (S2 (Kt Kv)) (tl 4 bd) (P1 Kv) := ok_last mixed FOk_ fun v ρ w => by kernel_rfl
end chunk_Chunk_value
def chunk_Chunk_value (c_1 : Option Addr) (x_2 : Int) (w : World) (K : chunk_Chunk_value.KT) : Prop :=
  G.cond (x_2 == (0 : Int)) (G.ptr c_1 fun p44 => G.cP (p44.add 1) w fun p45 => C.bits_Writer_Bits p45 (0 : Int) (1 : Int) w fun n46 w47 => K w47) (G.ptr c_1 fun p48 => G.cP (p48.add 1) w fun p49 => C.bits_Writer_Bits p49 (1 : Int) (1 : Int) w fun n50 w51 => C.bits_LeadingZeros64 x_2 w51 fun n52 w53 => C.bits_TrailingZeros64 x_2 w53 fun n54 w55 => G.new (.cells #[(.int .i64 (0 : Int)), (.int .i64 (0 : Int))] 65) w55 fun p56 w57 => G.st p56 (.int .i64 (if (31 : Int) < n52 then (31 : Int) else n52)) w57 fun w58 => G.st (p56.add 1) (.int .i64 n54) w58 fun w59 => G.ptr c_1 fun p60 => G.cB (p60.add 4) w59.drew fun b61 => G.cond b61 (G.cI .i64 p56 w59.drew fun n62 => G.ptr c_1 fun p63 => G.cI .i64 (p63.add 2) w59.drew fun n64 => G.cond (decide (n62 ≥ n64)) (G.cI .i64 (p56.add 1) w59.drew fun n65 => G.ptr c_1 fun p66 => G.cI .i64 ((p66.add 2).add 1) w59.drew fun n67 => G.cond (decide (n65 ≥ n67)) (G.ptr c_1 fun p68 => G.cI .i64 (p68.add 2) w59.drew.drew fun n69 => G.ptr c_1 fun p70 => G.cI .i64 ((p70.add 2).add 1) w59.drew.drew fun n71 => G.ptr c_1 fun p72 => G.cP (p72.add 1) w59.drew.drew fun p73 => C.bits_Writer_Bits p73 (0 : Int) (1 : Int) w59.drew.drew fun n74 w75 => G.ptr c_1 fun p76 => G.cP (p76.add 1) w75.drew fun p77 => G.ptr c_1 fun p78 => G.cI .i64 ((p78.add 2).add 1) w75.drew fun n79 => G.nn (IntKind.u64.wrap n79) <| C.chunk_mask (IntKind.i64.wrap ((IntKind.i64.wrap ((64 : Int) - n69)) - n71)) w75.drew fun n80 w81 => sameAt (p76.add 1) 1 w75.drew w81 ∧ sameAt ((p78.add 2).add 1) 1 w75.drew w81 ∧ (C.bits_Writer_Bits p77 (Go.bits .and .u64 (shr .u64 x_2 (IntKind.u64.wrap n79)) n80) (IntKind.i64.wrap ((IntKind.i64.wrap ((64 : Int) - n69)) - n71)) w81 fun n82 w83 => K w83)) (chunk_Chunk_value.S2 K c_1 x_2 (some p56) w59.drew)) (chunk_Chunk_value.S2 K c_1 x_2 (some p56) w59.drew)) (chunk_Chunk_value.S2 K c_1 x_2 (some p56) w59.drew))
def chunk_Chunk_value.cl : CL := fun args K w => match args with
  | [.pointer x0, .int .u64 x1] => C.chunk_Chunk_value x0 x1 w (chunk_Chunk_value.Kt K)
  | _ => False
theorem chunk_Chunk_value.clok : OkC pr 55 chunk_Chunk_value.cl := by
  intro args K w h
  unfold chunk_Chunk_value.cl at h
  split at h
  · exact calls_group false mixed chunk_Chunk_value.FOk_ chunk_Chunk_value.fn rfl 4 (chunk_Chunk_value.S2_ok K) (Eq.mp (by kernel_rfl) h)
  · exact h.elim

/-! (*tocsin/chunk.Chunk).time -/
namespace chunk_Chunk_time
abbrev KT := World → Prop
def Kt (Kv : Value → World → Prop) : KT := fun  w => Kv (.tuple #[]) w
noncomputable def bd : Code := bdy Tryd.f56
theorem fn : FnOk pr 56 79 Tryd.f56 := ⟨Tryd.func56, by kernel_rfl, Tryd.ntmps56, by kernel_rfl, by kernel_rfl⟩
def F : Clee := ofL [(52, C.bits_Writer_Bits.cl)]
theorem FOk_ : FOk pr F := FOk_cons C.bits_Writer_Bits.clok (FOk_nil)
def P1 (Kv : Value → World → Prop) : Post := bodyK false pr 79 Tryd.f56 Kv
def P2 (Kv : Value → World → Prop) : Post := noG (P1 Kv)
def P3 (Kv : Value → World → Prop) : Post := inBlock 0 (P2 Kv)
@[reducible] def g4 : List SE := [.v 0 .ptr, .v 1 (.int .i64), .agg 19 [.int .i64, .int .i64, .int .i64, .int .i64, .int .i64, .int .i64, .int .i64, .int .i64, .int .i64], .v 20 (.int .i64)]
def P5 (Kv : Value → World → Prop) (kc4 : Cur g4) : Post := next (get g4 kc4) (P3 Kv)
def S6 (K : KT) (kc4 : Cur g4) (c_29 : Option Addr) (d_30 : Int) (n31 : Int) (n32 : Int) (n33 : Int) (n34 : Int) (n35 : Int) (n36 : Int) (n37 : Int) (n38 : Int) (n39 : Int) (n40 : Int) (w : World) : Prop :=
  G.cond (decide (n40 < (3 : Int))) (((0 : Int) ≤ n40 ∧ n40 < (3 : Int)) ∧ (G.vI .i64 (#[(.int .i64 n31), (.int .i64 n32), (.int .i64 n33), (.int .i64 n34), (.int .i64 n35), (.int .i64 n36), (.int .i64 n37), (.int .i64 n38), (.int .i64 n39)] : Array Value)[(n40 : Int).toNat * 3 + 0]? fun n41 => G.vI .i64 (#[(.int .i64 n31), (.int .i64 n32), (.int .i64 n33), (.int .i64 n34), (.int .i64 n35), (.int .i64 n36), (.int .i64 n37), (.int .i64 n38), (.int .i64 n39)] : Array Value)[(n40 : Int).toNat * 3 + 1]? fun n42 => G.vI .i64 (#[(.int .i64 n31), (.int .i64 n32), (.int .i64 n33), (.int .i64 n34), (.int .i64 n35), (.int .i64 n36), (.int .i64 n37), (.int .i64 n38), (.int .i64 n39)] : Array Value)[(n40 : Int).toNat * 3 + 2]? fun n43 => G.new (.cells #[(.int .i64 (0 : Int)), (.int .i64 (0 : Int)), (.int .i64 (0 : Int))] 122) w fun p44 w45 => G.st p44 (.int .i64 n41) w45 fun w46 => G.st (p44.add 1) (.int .i64 n42) w46 fun w47 => G.st (p44.add 2) (.int .i64 n43) w47 fun w48 => G.cI .i64 (p44.add 2) w48 fun n49 => G.nn (IntKind.u64.wrap (IntKind.i64.wrap (n49 - (1 : Int)))) <| G.cond (decide (d_30 ≥ (IntKind.i64.wrap (0 - (IntKind.i64.wrap ((shl .i64 (1 : Int) (IntKind.u64.wrap (IntKind.i64.wrap (n49 - (1 : Int))))) - (1 : Int))))))) (G.cond (decide (d_30 ≤ (shl .i64 (1 : Int) (IntKind.u64.wrap (IntKind.i64.wrap (n49 - (1 : Int))))))) (G.ptr c_29 fun p50 => G.cP (p50.add 1) w48.drew fun p51 => G.cI .i64 (p44.add 1) w48.drew fun n52 => G.cI .i64 p44 w48.drew fun n53 => C.bits_Writer_Bits p51 (IntKind.u64.wrap n52) n53 w48.drew fun n54 w55 => G.ptr c_29 fun p56 => G.cP (p56.add 1) w55.drew fun p57 => G.cI .i64 (p44.add 2) w55.drew fun n58 => G.nn (IntKind.u64.wrap n58) <| G.cI .i64 (p44.add 2) w55.drew fun n59 => C.bits_Writer_Bits p57 (Go.bits .and .u64 (IntKind.u64.wrap d_30) (IntKind.u64.wrap ((shl .u64 (1 : Int) (IntKind.u64.wrap n58)) - (1 : Int)))) n59 w55.drew fun n60 w61 => K w61) (G.cI .i64 (p44.add 2) w48 fun n62 => G.cond (n62 == (20 : Int)) (G.ptr c_29 fun p63 => G.cP (p63.add 1) w48 fun p64 => C.bits_Writer_Bits p64 (15 : Int) (4 : Int) w48 fun n65 w66 => G.ptr c_29 fun p67 => G.cP (p67.add 1) w66 fun p68 => C.bits_Writer_Bits p68 (IntKind.u64.wrap d_30) (64 : Int) w66 fun n69 w70 => kc4 c_29 d_30 n31 n32 n33 n34 n35 n36 n37 n38 n39 (IntKind.i64.wrap (n40 + (1 : Int))) w70) (kc4 c_29 d_30 n31 n32 n33 n34 n35 n36 n37 n38 n39 (IntKind.i64.wrap (n40 + (1 : Int))) w48))) (G.cI .i64 (p44.add 2) w48 fun n71 => G.cond (n71 == (20 : Int)) (G.ptr c_29 fun p72 => G.cP (p72.add 1) w48 fun p73 => C.bits_Writer_Bits p73 (15 : Int) (4 : Int) w48 fun n74 w75 => G.ptr c_29 fun p76 => G.cP (p76.add 1) w75 fun p77 => C.bits_Writer_Bits p77 (IntKind.u64.wrap d_30) (64 : Int) w75 fun n78 w79 => kc4 c_29 d_30 n31 n32 n33 n34 n35 n36 n37 n38 n39 (IntKind.i64.wrap (n40 + (1 : Int))) w79) (kc4 c_29 d_30 n31 n32 n33 n34 n35 n36 n37 n38 n39 (IntKind.i64.wrap (n40 + (1 : Int))) w48)))) (K w)
theorem S6_ok (Kv : Value → World → Prop) (kc4 : Cur g4) : OkT pr false none 79 g4 (S6 (Kt Kv) kc4) (lp (blk (tl 4 (scp (tl 0 bd))))) (P5 Kv kc4) := ok_last mixed FOk_ fun v ρ w => by kernel_rfl
def L4 (K : KT) : Cur g4 := loopC g4 (S6 K)
theorem L4_ok (Kv : Value → World → Prop) : OkT pr false none 79 g4 (L4 (Kt Kv)) (blk (tl 4 (scp (tl 0 bd)))) (P3 Kv) := ok_loop (B := S6 (Kt Kv)) (by kernel_rfl) fun kc => S6_ok Kv kc
theorem L4_ind {K : KT} {c_5 : Option Addr} {d_6 : Int} {n7 : Int} {n8 : Int} {n9 : Int} {n10 : Int} {n11 : Int} {n12 : Int} {n13 : Int} {n14 : Int} {n15 : Int} {n16 : Int} {w : World} (h : ∀ X : Cur g4, (∀ c_5 d_6 n7 n8 n9 n10 n11 n12 n13 n14 n15 n16 w, S6 K X c_5 d_6 n7 n8 n9 n10 n11 n12 n13 n14 n15 n16 w → X c_5 d_6 n7 n8 n9 n10 n11 n12 n13 n14 n15 n16 w) → X c_5 d_6 n7 n8 n9 n10 n11 n12 n13 n14 n15 n16 w) : L4 K c_5 d_6 n7 n8 n9 n10 n11 n12 n13 n14 n15 n16 w := fun X hX => h X fun c_5 d_6 n7 n8 n9 n10 n11 n12 n13 n14 n15 n16 w hb => hX (c_5, d_6, (n7, n8, n9, n10, n11, n12, n13, n14, n15, ()), n16, ()) w hb
theorem B7 (Kv : Value → World → Prop) : OkT pr false none 79 g4 (L4 (Kt Kv)) (tl 4 (scp (tl 0 bd))) (P2 Kv) := ok_block 0 (by kernel_rfl) (L4_ok Kv)
@[reducible] def g8 : List SE := [.v 0 .ptr, .v 1 (.int .i64)]
def S8 (K : KT) (c_80 : Option Addr) (d_81 : Int) (w : World) : Prop :=
  G.new (.cells #[(.int .i64 (0 : Int)), (.int .i64 (0 : Int)), (.int .i64 (0 : Int)), (.int .i64 (0 : Int)), (.int .i64 (0 : Int)), (.int .i64 (0 : Int)), (.int .i64 (0 : Int)), (.int .i64 (0 : Int)), (.int .i64 (0 : Int))] 123) w fun p82 w83 => G.st p82 (.int .i64 (2 : Int)) w83 fun w84 => G.st (p82.add 1) (.int .i64 (2 : Int)) w84 fun w85 => G.st (p82.add 2) (.int .i64 (14 : Int)) w85 fun w86 => G.st (p82.add 3) (.int .i64 (3 : Int)) w86 fun w87 => G.st (p82.add 4) (.int .i64 (6 : Int)) w87 fun w88 => G.st (p82.add 5) (.int .i64 (17 : Int)) w88 fun w89 => G.st (p82.add 6) (.int .i64 (4 : Int)) w89 fun w90 => G.st (p82.add 7) (.int .i64 (14 : Int)) w90 fun w91 => G.st (p82.add 8) (.int .i64 (20 : Int)) w91 fun w92 => G.cond (d_81 == (0 : Int)) (G.ptr c_80 fun p93 => G.cP (p93.add 1) w92 fun p94 => C.bits_Writer_Bits p94 (0 : Int) (1 : Int) w92 fun n95 w96 => K w96) (G.cI .i64 p82 w92 fun n97 => G.cI .i64 (p82.add 1) w92 fun n98 => G.cI .i64 (p82.add 2) w92 fun n99 => G.cI .i64 (p82.add 3) w92 fun n100 => G.cI .i64 (p82.add 4) w92 fun n101 => G.cI .i64 (p82.add 5) w92 fun n102 => G.cI .i64 (p82.add 6) w92 fun n103 => G.cI .i64 (p82.add 7) w92 fun n104 => G.cI .i64 (p82.add 8) w92 fun n105 => L4 K c_80 d_81 n97 n98 n99 n100 n101 n102 n103 n104 n105 (0 : Int) w92)
theorem S8_ok (Kv : Value → World → Prop) : OkT pr false none 79 g8 (S8 (Kt Kv)) (scp (tl 0 bd)) (P2 Kv) := ok_group mixed FOk_ 4 (B7 Kv) fun v ρ w => by kernel_rfl
theorem B9 (Kv : Value → World → Prop) : OkT pr false none 79 g8 (S8 (Kt Kv)) (tl 0 bd) (P1 Kv) := ok_scope (by kernel_rfl) (S8_ok Kv)
end chunk_Chunk_time
def chunk_Chunk_time (c_1 : Option Addr) (d_2 : Int) (w : World) (K : chunk_Chunk_time.KT) : Prop :=
  chunk_Chunk_time.S8 K c_1 d_2 w
def chunk_Chunk_time.cl : CL := fun args K w => match args with
  | [.pointer x0, .int .i64 x1] => C.chunk_Chunk_time x0 x1 w (chunk_Chunk_time.Kt K)
  | _ => False
theorem chunk_Chunk_time.clok : OkC pr 56 chunk_Chunk_time.cl := by
  intro args K w h
  unfold chunk_Chunk_time.cl at h
  split at h
  · exact calls_group false mixed chunk_Chunk_time.FOk_ chunk_Chunk_time.fn rfl 0 (chunk_Chunk_time.B9 K) (Eq.mp (by kernel_rfl) h)
  · exact h.elim

/-! (*tocsin/chunk.Chunk).put -/
namespace chunk_Chunk_put
abbrev KT := World → Prop
def Kt (Kv : Value → World → Prop) : KT := fun  w => Kv (.tuple #[]) w
noncomputable def bd : Code := bdy Tryd.f34
theorem fn : FnOk pr 34 104 Tryd.f34 := ⟨Tryd.func34, by kernel_rfl, Tryd.ntmps34, by kernel_rfl, by kernel_rfl⟩
def F : Clee := ofL [(50, C.chunk_Chunk_bytes.cl), (51, C.vint_PutI.cl), (52, C.bits_Writer_Bits.cl), (53, C.math_Float64bits.cl), (54, C.vint_PutU.cl), (55, C.chunk_Chunk_value.cl), (56, C.chunk_Chunk_time.cl)]
theorem FOk_ : FOk pr F := FOk_cons C.chunk_Chunk_bytes.clok (FOk_cons C.vint_PutI.clok (FOk_cons C.bits_Writer_Bits.clok (FOk_consX C.math_Float64bits.clok (FOk_cons C.vint_PutU.clok (FOk_cons C.chunk_Chunk_value.clok (FOk_cons C.chunk_Chunk_time.clok (FOk_nil)))))))
def P1 (Kv : Value → World → Prop) : Post := bodyK false pr 104 Tryd.f34 Kv
@[reducible] def g2 : List SE := [.v 0 .ptr, .v 1 (.int .i64), .v 2 (.fl .f64)]
def S2 (K : KT) (c_7 : Option Addr) (t_8 : Int) (v_9 : Nat) (w : World) : Prop :=
  G.ptr c_7 fun p10 => G.cSl p10 w fun l11 => G.new (.cells #[(.int .i64 t_8), (.float .f64 v_9)] 26) w fun p12 w13 => G.runSl pr (Builtin.append_ #[24, 24] 24 #[l11.v, (Sl.v (⟨some p12, 1, 1⟩ : Sl))]) w13 fun l14 w15 => G.ptr c_7 fun p16 => G.st p16 l14.v w15 fun w17 => K w17
theorem S2_ok (Kv : Value → World → Prop) : OkT pr false none 104 g2 (S2 (Kt Kv)) (tl 2 bd) (P1 Kv) := ok_last mixed FOk_ fun v ρ w => by kernel_rfl
end chunk_Chunk_put
def chunk_Chunk_put (c_1 : Option Addr) (t_2 : Int) (v_3 : Nat) (w : World) (K : chunk_Chunk_put.KT) : Prop :=
  G.ptr c_1 fun p18 => G.cSl p18 w fun l19 => G.cond (((l19.n : Nat) : Int) == (0 : Int)) (C.vint_PutI nilS t_2 w fun l20 w21 => C.chunk_Chunk_bytes c_1 l20 w21 fun w22 => G.ptr c_1 fun p23 => G.cP (p23.add 1) w22.drew fun p24 => C.math_Float64bits v_3 w22.drew fun n25 w26 => sameAt (p23.add 1) 1 w22.drew w26 ∧ (C.bits_Writer_Bits p24 n25 (64 : Int) w26 fun n27 w28 => chunk_Chunk_put.S2 K c_1 t_2 v_3 w28)) (G.cond (((l19.n : Nat) : Int) == (1 : Int)) (G.ptr c_1 fun p29 => G.cSl p29 w fun l30 => G.ix l30.a l30.n (0 : Int) 2 fun p31 => G.cI .i64 p31 w fun n32 => C.vint_PutU nilS (IntKind.u64.wrap (IntKind.i64.wrap (t_2 - n32))) w fun l33 w34 => C.chunk_Chunk_bytes c_1 l33 w34 fun w35 => G.ptr c_1 fun p36 => G.cSl p36 w35.drew fun l37 => G.ix l37.a l37.n (0 : Int) 2 fun p38 => G.cF .f64 (p38.add 1) w35.drew fun f39 => C.math_Float64bits v_3 w35.drew fun n40 w41 => sameAt p36 1 w35.drew w41 ∧ sameAt (p38.add 1) 1 w35.drew w41 ∧ (C.math_Float64bits f39 w41 fun n42 w43 => C.chunk_Chunk_value c_1 (Go.bits .xor .u64 n40 n42) w43 fun w44 => chunk_Chunk_put.S2 K c_1 t_2 v_3 w44)) (G.ptr c_1 fun p45 => G.cSl p45 w.drew fun l46 => G.ix l46.a l46.n (IntKind.i64.wrap (((l19.n : Nat) : Int) - (2 : Int))) 2 fun p47 => G.cI .i64 p47 w.drew fun n48 => G.cF .f64 (p47.add 1) w.drew fun f49 => G.ptr c_1 fun p50 => G.cSl p50 w.drew fun l51 => G.ix l51.a l51.n (IntKind.i64.wrap (((l19.n : Nat) : Int) - (1 : Int))) 2 fun p52 => G.cI .i64 p52 w.drew fun n53 => G.cF .f64 (p52.add 1) w.drew fun f54 => (G.new (.cells #[(.int .i64 (0 : Int)), (.float .f64 0)] 26) w.drew fun p55 w56 => sameAt p45 1 w.drew w56 ∧ sameAt p47 2 w.drew w56 ∧ sameAt p50 1 w.drew w56 ∧ sameAt p52 2 w.drew w56 ∧ (G.new (.cells #[(.int .i64 (0 : Int)), (.float .f64 0)] 26) w56 fun p57 w58 => sameAt p45 1 w.drew w58 ∧ sameAt p47 2 w.drew w58 ∧ sameAt p50 1 w.drew w58 ∧ sameAt p52 2 w.drew w58 ∧ (G.st p55 (.int .i64 n48) w58 fun w59 => G.st (p55.add 1) (.float .f64 f49) w59 fun w60 => sameAt p50 1 w.drew w60 ∧ sameAt p52 2 w.drew w60 ∧ (G.st p57 (.int .i64 n53) w60 fun w61 => G.st (p57.add 1) (.float .f64 f54) w61 fun w62 => G.cI .i64 p57 w62 fun n63 => G.cI .i64 p57 w62 fun n64 => G.cI .i64 p55 w62 fun n65 => C.chunk_Chunk_time c_1 (IntKind.i64.wrap ((IntKind.i64.wrap (t_2 - n63)) - (IntKind.i64.wrap (n64 - n65)))) w62 fun w66 => G.cF .f64 (p57.add 1) w66.drew fun f67 => C.math_Float64bits v_3 w66.drew fun n68 w69 => sameAt (p57.add 1) 1 w66.drew w69 ∧ (C.math_Float64bits f67 w69 fun n70 w71 => C.chunk_Chunk_value c_1 (Go.bits .xor .u64 n68 n70) w71 fun w72 => chunk_Chunk_put.S2 K c_1 t_2 v_3 w72))))) ∧ (G.new (.cells #[(.int .i64 (0 : Int)), (.float .f64 0)] 26) w.drew fun p73 w74 => sameAt p45 1 w.drew w74 ∧ sameAt p47 2 w.drew w74 ∧ sameAt p50 1 w.drew w74 ∧ sameAt p52 2 w.drew w74 ∧ (G.new (.cells #[(.int .i64 (0 : Int)), (.float .f64 0)] 26) w74 fun p75 w76 => sameAt p45 1 w.drew w76 ∧ sameAt p47 2 w.drew w76 ∧ sameAt p50 1 w.drew w76 ∧ sameAt p52 2 w.drew w76 ∧ (G.st p75 (.int .i64 n48) w76 fun w77 => G.st (p75.add 1) (.float .f64 f49) w77 fun w78 => sameAt p50 1 w.drew w78 ∧ sameAt p52 2 w.drew w78 ∧ (G.st p73 (.int .i64 n53) w78 fun w79 => G.st (p73.add 1) (.float .f64 f54) w79 fun w80 => G.cI .i64 p73 w80 fun n81 => G.cI .i64 p73 w80 fun n82 => G.cI .i64 p75 w80 fun n83 => C.chunk_Chunk_time c_1 (IntKind.i64.wrap ((IntKind.i64.wrap (t_2 - n81)) - (IntKind.i64.wrap (n82 - n83)))) w80 fun w84 => G.cF .f64 (p73.add 1) w84.drew fun f85 => C.math_Float64bits v_3 w84.drew fun n86 w87 => sameAt (p73.add 1) 1 w84.drew w87 ∧ (C.math_Float64bits f85 w87 fun n88 w89 => C.chunk_Chunk_value c_1 (Go.bits .xor .u64 n86 n88) w89 fun w90 => chunk_Chunk_put.S2 K c_1 t_2 v_3 w90)))))))
def chunk_Chunk_put.cl : CL := fun args K w => match args with
  | [.pointer x0, .int .i64 x1, .float .f64 x2] => C.chunk_Chunk_put x0 x1 x2 w (chunk_Chunk_put.Kt K)
  | _ => False
theorem chunk_Chunk_put.clok : OkC pr 34 chunk_Chunk_put.cl := by
  intro args K w h
  unfold chunk_Chunk_put.cl at h
  split at h
  · exact calls_group false mixed chunk_Chunk_put.FOk_ chunk_Chunk_put.fn rfl 2 (chunk_Chunk_put.S2_ok K) (Eq.mp (by kernel_rfl) h)
  · exact h.elim

/-! (*tocsin/chunk.Chunk).Append -/
namespace chunk_Chunk_Append
abbrev KT := Int → World → Prop
def Kt (Kv : Value → World → Prop) : KT := fun n1 w => Kv (.int .i64 n1) w
noncomputable def bd : Code := bdy Tryd.f14
theorem fn : FnOk pr 14 46 Tryd.f14 := ⟨Tryd.func14, by kernel_rfl, Tryd.ntmps14, by kernel_rfl, by kernel_rfl⟩
def F : Clee := ofL [(34, C.chunk_Chunk_put.cl)]
theorem FOk_ : FOk pr F := FOk_cons C.chunk_Chunk_put.clok (FOk_nil)
def P1 (Kv : Value → World → Prop) : Post := bodyK false pr 46 Tryd.f14 Kv
end chunk_Chunk_Append
def chunk_Chunk_Append (c_2 : Option Addr) (t_3 : Int) (v_4 : Nat) (w : World) (K : chunk_Chunk_Append.KT) : Prop :=
  G.cond c_2.isNone (K (2 : Int) w) (G.cond (decide (t_3 < (0 : Int))) (K (1 : Int) w) (G.cond (decide (t_3 > (1125899906842624 : Int))) (K (1 : Int) w) (G.ptr c_2 fun p8 => G.cSl p8 w fun l9 => G.cond (decide (((l9.n : Nat) : Int) > (0 : Int))) (G.ptr c_2 fun p10 => G.cSl p10 w fun l11 => G.ix l11.a l11.n (IntKind.i64.wrap (((l9.n : Nat) : Int) - (1 : Int))) 2 fun p12 => G.cI .i64 p12 w fun n13 => G.cond (decide (t_3 ≤ n13)) (K (90 : Int) w) (G.cond (decide (((l9.n : Nat) : Int) ≥ (120 : Int))) (K (8 : Int) w) (C.chunk_Chunk_put c_2 t_3 v_4 w fun w14 => K (0 : Int) w14))) (G.cond (decide (((l9.n : Nat) : Int) ≥ (120 : Int))) (K (8 : Int) w) (C.chunk_Chunk_put c_2 t_3 v_4 w fun w15 => K (0 : Int) w15)))))
def chunk_Chunk_Append.cl : CL := fun args K w => match args with
  | [.pointer x0, .int .i64 x1, .float .f64 x2] => C.chunk_Chunk_Append x0 x1 x2 w (chunk_Chunk_Append.Kt K)
  | _ => False
theorem chunk_Chunk_Append.clok : OkC pr 14 chunk_Chunk_Append.cl := by
  intro args K w h
  unfold chunk_Chunk_Append.cl at h
  split at h
  · exact calls_last false mixed chunk_Chunk_Append.FOk_ chunk_Chunk_Append.fn rfl (Eq.mp (by kernel_rfl) h)
  · exact h.elim

/-! (*tocsin/chunk.Chunk).Len -/
namespace chunk_Chunk_Len
abbrev KT := Int → World → Prop
def Kt (Kv : Value → World → Prop) : KT := fun n1 w => Kv (.int .i64 n1) w
noncomputable def bd : Code := bdy Tryd.f16
theorem fn : FnOk pr 16 10 Tryd.f16 := ⟨Tryd.func16, by kernel_rfl, Tryd.ntmps16, by kernel_rfl, by kernel_rfl⟩
def F : Clee := ofL []
theorem FOk_ : FOk pr F := FOk_nil
def P1 (Kv : Value → World → Prop) : Post := bodyK false pr 10 Tryd.f16 Kv
end chunk_Chunk_Len
def chunk_Chunk_Len (c_2 : Option Addr) (w : World) (K : chunk_Chunk_Len.KT) : Prop :=
  G.cond c_2.isNone (K (0 : Int) w) (G.ptr c_2 fun p3 => G.cSl p3 w fun l4 => K ((l4.n : Nat) : Int) w)
def chunk_Chunk_Len.cl : CL := fun args K w => match args with
  | [.pointer x0] => C.chunk_Chunk_Len x0 w (chunk_Chunk_Len.Kt K)
  | _ => False
theorem chunk_Chunk_Len.clok : OkC pr 16 chunk_Chunk_Len.cl := by
  intro args K w h
  unfold chunk_Chunk_Len.cl at h
  split at h
  · exact calls_last false mixed chunk_Chunk_Len.FOk_ chunk_Chunk_Len.fn rfl (Eq.mp (by kernel_rfl) h)
  · exact h.elim

/-! (*tocsin/bits.Writer).Bytes -/
namespace bits_Writer_Bytes
abbrev KT := Sl → World → Prop
def Kt (Kv : Value → World → Prop) : KT := fun l1 w => Kv l1.v w
noncomputable def bd : Code := bdy Tryd.f37
theorem fn : FnOk pr 37 10 Tryd.f37 := ⟨Tryd.func37, by kernel_rfl, Tryd.ntmps37, by kernel_rfl, by kernel_rfl⟩
def F : Clee := ofL []
theorem FOk_ : FOk pr F := FOk_nil
def P1 (Kv : Value → World → Prop) : Post := bodyK false pr 10 Tryd.f37 Kv
end bits_Writer_Bytes
def bits_Writer_Bytes (w_2 : Option Addr) (w : World) (K : bits_Writer_Bytes.KT) : Prop :=
  G.cond w_2.isNone (K nilS w) (G.ptr w_2 fun p3 => G.cSl p3 w fun l4 => G.runSl pr (Builtin.append_ #[27, 27] 27 #[nilS.v, l4.v]) w fun l5 w6 => K l5 w6)
def bits_Writer_Bytes.cl : CL := fun args K w => match args with
  | [.pointer x0] => C.bits_Writer_Bytes x0 w (bits_Writer_Bytes.Kt K)
  | _ => False
theorem bits_Writer_Bytes.clok : OkC pr 37 bits_Writer_Bytes.cl := by
  intro args K w h
  unfold bits_Writer_Bytes.cl at h
  split at h
  · exact calls_last false mixed bits_Writer_Bytes.FOk_ bits_Writer_Bytes.fn rfl (Eq.mp (by kernel_rfl) h)
  · exact h.elim

/-! (*tocsin/chunk.Chunk).Bytes -/
namespace chunk_Chunk_Bytes
abbrev KT := Sl → World → Prop
def Kt (Kv : Value → World → Prop) : KT := fun l1 w => Kv l1.v w
noncomputable def bd : Code := bdy Tryd.f19
theorem fn : FnOk pr 19 25 Tryd.f19 := ⟨Tryd.func19, by kernel_rfl, Tryd.ntmps19, by kernel_rfl, by kernel_rfl⟩
def F : Clee := ofL [(37, C.bits_Writer_Bytes.cl)]
theorem FOk_ : FOk pr F := FOk_cons C.bits_Writer_Bytes.clok (FOk_nil)
def P1 (Kv : Value → World → Prop) : Post := bodyK false pr 25 Tryd.f19 Kv
end chunk_Chunk_Bytes
def chunk_Chunk_Bytes (c_2 : Option Addr) (w : World) (K : chunk_Chunk_Bytes.KT) : Prop :=
  G.cond c_2.isNone (K nilS w) (G.ptr c_2 fun p4 => G.cSl p4 w.drew fun l5 => G.nn (8 : Int) <| G.ptr c_2 fun p6 => G.cSl p6 w.drew fun l7 => G.ptr c_2 fun p8 => G.cP (p8.add 1) w.drew fun p9 => (G.new (.cells #[(.int .u8 (IntKind.u8.wrap (shr .i64 ((l5.n : Nat) : Int) (8 : Int)))), (.int .u8 (IntKind.u8.wrap ((l7.n : Nat) : Int)))] 5) w.drew fun p10 w11 => sameAt (p8.add 1) 1 w.drew w11 ∧ (C.bits_Writer_Bytes p9 w11 fun l12 w13 => G.runSl pr (Builtin.append_ #[27, 27] 27 #[(Sl.v (⟨some p10, 2, 2⟩ : Sl)), l12.v]) w13 fun l14 w15 => K l14 w15)) ∧ (C.bits_Writer_Bytes p9 w.drew fun l16 w17 => sameAt p4 1 w.drew w17 ∧ sameAt p6 1 w.drew w17 ∧ (G.new (.cells #[(.int .u8 (IntKind.u8.wrap (shr .i64 ((l5.n : Nat) : Int) (8 : Int)))), (.int .u8 (IntKind.u8.wrap ((l7.n : Nat) : Int)))] 5) w17 fun p18 w19 => G.runSl pr (Builtin.append_ #[27, 27] 27 #[(Sl.v (⟨some p18, 2, 2⟩ : Sl)), l16.v]) w19 fun l20 w21 => K l20 w21)))
def chunk_Chunk_Bytes.cl : CL := fun args K w => match args with
  | [.pointer x0] => C.chunk_Chunk_Bytes x0 w (chunk_Chunk_Bytes.Kt K)
  | _ => False
theorem chunk_Chunk_Bytes.clok : OkC pr 19 chunk_Chunk_Bytes.cl := by
  intro args K w h
  unfold chunk_Chunk_Bytes.cl at h
  split at h
  · exact calls_last false mixed chunk_Chunk_Bytes.FOk_ chunk_Chunk_Bytes.fn rfl (Eq.mp (by kernel_rfl) h)
  · exact h.elim

/-! tocsin/tocsinlaw08.awake -/
namespace tocsinlaw08_awake
abbrev KT := Bool → World → Prop
def Kt (Kv : Value → World → Prop) : KT := fun b1 w => Kv (.bool b1) w
noncomputable def bd : Code := bdy Tryd.f10
theorem fn : FnOk pr 10 24 Tryd.f10 := ⟨Tryd.func10, by kernel_rfl, Tryd.ntmps10, by kernel_rfl, by kernel_rfl⟩
def F : Clee := ofL [(12, C.chunk_New.cl), (14, C.chunk_Chunk_Append.cl), (16, C.chunk_Chunk_Len.cl), (19, C.chunk_Chunk_Bytes.cl)]
theorem FOk_ : FOk pr F := FOk_cons C.chunk_New.clok (FOk_cons C.chunk_Chunk_Append.clok (FOk_cons C.chunk_Chunk_Len.clok (FOk_cons C.chunk_Chunk_Bytes.clok (FOk_nil))))
def P1 (Kv : Value → World → Prop) : Post := bodyK false pr 24 Tryd.f10 Kv
end tocsinlaw08_awake
def tocsinlaw08_awake (w : World) (K : tocsinlaw08_awake.KT) : Prop :=
  C.chunk_New w fun p2 w3 => G.cond p2.isNone (K false w3) (C.chunk_Chunk_Append p2 (1000 : Int) 4607182418800017408 w3 fun n4 w5 => G.cond (n4 != (0 : Int)) (K false w5) (C.chunk_Chunk_Append p2 (1000 : Int) 4611686018427387904 w5 fun n6 w7 => G.cond (n6 != (90 : Int)) (K false w7) (C.chunk_Chunk_Bytes p2 w7 fun l8 w9 => G.rdS pr (Conv.bytesToString l8.v) w9 fun s10 => G.cond (s10.toList == (⟨#[0, 1, 208, 15, 63, 240, 0, 0, 0, 0, 0, 0]⟩ : ByteArray).toList) (C.chunk_Chunk_Len p2 w9 fun n11 w12 => K (n11 == (1 : Int)) w12) (K false w9))))
def tocsinlaw08_awake.cl : CL := fun args K w => match args with
  | [] => C.tocsinlaw08_awake w (tocsinlaw08_awake.Kt K)
  | _ => False
theorem tocsinlaw08_awake.clok : OkC pr 10 tocsinlaw08_awake.cl := by
  intro args K w h
  unfold tocsinlaw08_awake.cl at h
  split at h
  · exact calls_last false mixed tocsinlaw08_awake.FOk_ tocsinlaw08_awake.fn rfl (Eq.mp (by kernel_rfl) h)
  · exact h.elim

/-! tocsin/chunk.Encode -/
namespace chunk_Encode
abbrev KT := Sl → Int → Int → World → Prop
def Kt (Kv : Value → World → Prop) : KT := fun l1 n2 n3 w => Kv (.tuple #[l1.v, (.int .i64 n2), (.int .i64 n3)]) w
noncomputable def bd : Code := bdy Tryd.f11
theorem fn : FnOk pr 11 30 Tryd.f11 := ⟨Tryd.func11, by kernel_rfl, Tryd.ntmps11, by kernel_rfl, by kernel_rfl⟩
def F : Clee := ofL [(12, C.chunk_New.cl), (14, C.chunk_Chunk_Append.cl), (19, C.chunk_Chunk_Bytes.cl)]
theorem FOk_ : FOk pr F := FOk_cons C.chunk_New.clok (FOk_cons C.chunk_Chunk_Append.clok (FOk_cons C.chunk_Chunk_Bytes.clok (FOk_nil)))
def P1 (Kv : Value → World → Prop) : Post := bodyK false pr 30 Tryd.f11 Kv
@[reducible] def g2 : List SE := [.v 5 .ptr]
def S2 (K : KT) (c_5 : Option Addr) (w : World) : Prop :=
  C.chunk_Chunk_Bytes c_5 w fun l6 w7 => K l6 (0 : Int) (0 : Int) w7
theorem S2_ok (Kv : Value → World → Prop) : OkT pr false none 30 g2 (S2 (Kt Kv)) (s2 (tl 2 bd)) (P1 Kv) := ok_last mixed FOk_ fun v ρ w => by kernel_rfl
def P3 (Kv : Value → World → Prop) : Post := next (get g2 (S2 (Kt Kv))) (P1 Kv)
def P4 (Kv : Value → World → Prop) : Post := inBlock 0 (P3 Kv)
@[reducible] def g5 : List SE := [.v 5 .ptr, .v 10 .sl, .v 11 (.int .i64), .v 12 (.int .i64)]
def P6 (Kv : Value → World → Prop) (kc5 : Cur g5) : Post := next (get g5 kc5) (P4 Kv)
def S7 (K : KT) (kc5 : Cur g5) (c_16 : Option Addr) (l17 : Sl) (n18 : Int) (n19 : Int) (w : World) : Prop :=
  G.cond (decide (n19 < n18)) (G.ix l17.a l17.n n19 2 fun p20 => G.cI .i64 p20 w fun n21 => G.cF .f64 (p20.add 1) w fun f22 => G.new (.cells #[(.int .i64 (0 : Int)), (.float .f64 0)] 26) w fun p23 w24 => G.st p23 (.int .i64 n21) w24 fun w25 => G.st (p23.add 1) (.float .f64 f22) w25 fun w26 => G.cI .i64 p23 w26 fun n27 => G.cF .f64 (p23.add 1) w26 fun f28 => C.chunk_Chunk_Append c_16 n27 f28 w26 fun n29 w30 => G.cond (n29 != (0 : Int)) (K nilS n29 n19 w30) (kc5 c_16 l17 n18 (IntKind.i64.wrap (n19 + (1 : Int))) w30)) (S2 K c_16 w)
theorem S7_ok (Kv : Value → World → Prop) (kc5 : Cur g5) : OkT pr false none 30 g5 (S7 (Kt Kv) kc5) (lp (blk (tl 1 (s1 (tl 2 bd))))) (P6 Kv kc5) := ok_last mixed FOk_ fun v ρ w => by kernel_rfl
def L5 (K : KT) : Cur g5 := loopC g5 (S7 K)
theorem L5_ok (Kv : Value → World → Prop) : OkT pr false none 30 g5 (L5 (Kt Kv)) (blk (tl 1 (s1 (tl 2 bd)))) (P4 Kv) := ok_loop (B := S7 (Kt Kv)) (by kernel_rfl) fun kc => S7_ok Kv kc
theorem L5_ind {K : KT} {c_8 : Option Addr} {l9 : Sl} {n10 : Int} {n11 : Int} {w : World} (h : ∀ X : Cur g5, (∀ c_8 l9 n10 n11 w, S7 K X c_8 l9 n10 n11 w → X c_8 l9 n10 n11 w) → X c_8 l9 n10 n11 w) : L5 K c_8 l9 n10 n11 w := fun X hX => h X fun c_8 l9 n10 n11 w hb => hX (c_8, l9, n10, n11, ()) w hb
theorem B8 (Kv : Value → World → Prop) : OkT pr false none 30 g5 (L5 (Kt Kv)) (tl 1 (s1 (tl 2 bd))) (P3 Kv) := ok_block 0 (by kernel_rfl) (L5_ok Kv)
@[reducible] def g9 : List SE := [.v 0 .sl, .v 5 .ptr]
def S9 (K : KT) (l_31 : Sl) (c_32 : Option Addr) (w : World) : Prop :=
  L5 K c_32 l_31 ((l_31.n : Nat) : Int) (0 : Int) w
theorem S9_ok (Kv : Value → World → Prop) : OkT pr false none 30 g9 (S9 (Kt Kv)) (s1 (tl 2 bd)) (P3 Kv) := ok_group mixed FOk_ 1 (B8 Kv) fun v ρ w => by kernel_rfl
theorem Q10 (Kv : Value → World → Prop) : OkT pr false none 30 g9 (S9 (Kt Kv)) (tl 2 bd) (P1 Kv) := ok_seq (by kernel_rfl) (S2_ok Kv) (S9_ok Kv)
end chunk_Encode
def chunk_Encode (l_4 : Sl) (w : World) (K : chunk_Encode.KT) : Prop :=
  C.chunk_New w fun p33 w34 => chunk_Encode.S9 K l_4 p33 w34
def chunk_Encode.cl : CL := fun args K w => match args with
  | [.slice x0_a x0_n x0_c] => C.chunk_Encode ⟨x0_a, x0_n, x0_c⟩ w (chunk_Encode.Kt K)
  | _ => False
theorem chunk_Encode.clok : OkC pr 11 chunk_Encode.cl := by
  intro args K w h
  unfold chunk_Encode.cl at h
  split at h
  · exact calls_group false mixed chunk_Encode.FOk_ chunk_Encode.fn rfl 2 (chunk_Encode.Q10 K) (Eq.mp (by kernel_rfl) h)
  · exact h.elim

/-! tocsin/tocsinlaw08.ChunkFew -/
namespace tocsinlaw08_ChunkFew
abbrev KT := Bool → World → Prop
def Kt (Kv : Value → World → Prop) : KT := fun b1 w => Kv (.bool b1) w
noncomputable def bd : Code := bdy Tryd.f3
theorem fn : FnOk pr 3 100 Tryd.f3 := ⟨Tryd.func3, by kernel_rfl, Tryd.ntmps3, by kernel_rfl, by kernel_rfl⟩
def F : Clee := ofL [(10, C.tocsinlaw08_awake.cl), (11, C.chunk_Encode.cl)]
theorem FOk_ : FOk pr F := FOk_cons C.tocsinlaw08_awake.clok (FOk_cons C.chunk_Encode.clok (FOk_nil))
def P1 (Kv : Value → World → Prop) : Post := bodyK false pr 100 Tryd.f3 Kv
@[reducible] def g2 : List SE := [.v 3 (.int .i64), .v 9 .sl]
def S2 (K : KT) (n_10 : Int) (l_11 : Sl) (w : World) : Prop :=
  G.slc l_11 0 (2 : Int) 2 fun l12 => C.chunk_Encode l12 w fun l13 n14 n15 w16 => C.chunk_Encode l_11 w16 fun l17 n18 n19 w20 => G.cond (n14 == (0 : Int)) (G.cond (n18 == (0 : Int)) (G.nz (8 : Int) <| G.cond (decide (((l17.n : Nat) : Int) ≥ (IntKind.i64.wrap ((IntKind.i64.wrap (((l13.n : Nat) : Int) + (IntKind.i64.wrap (Int.tdiv (IntKind.i64.wrap ((2 : Int) * (IntKind.i64.wrap (n_10 - (2 : Int))))) (8 : Int))))) - (1 : Int))))) (G.nz (8 : Int) <| G.cond (decide (((l17.n : Nat) : Int) ≤ (IntKind.i64.wrap (((l13.n : Nat) : Int) + (IntKind.i64.wrap (Int.tdiv (IntKind.i64.wrap ((IntKind.i64.wrap ((2 : Int) * (IntKind.i64.wrap (n_10 - (2 : Int))))) + (7 : Int))) (8 : Int))))))) (C.tocsinlaw08_awake w20 fun b21 w22 => K b21 w22) (K false w20)) (K false w20)) (K false w20)) (K false w20)
theorem S2_ok (Kv : Value → World → Prop) : OkT pr false none 100 g2 (S2 (Kt Kv)) (s2 (tl 4 bd)) (P1 Kv) := ok_last mixed FOk_ fun v ρ w => by kernel_rfl
def P3 (Kv : Value → World → Prop) : Post := next (get g2 (S2 (Kt Kv))) (P1 Kv)
def P4 (Kv : Value → World → Prop) : Post := inBlock 0 (P3 Kv)
@[reducible] def g5 : List SE := [.v 0 (.int .i64), .v 1 (.int .i64), .v 2 (.fl .f64), .v 3 (.int .i64), .v 9 .sl, .v 10 (.int .i64)]
def P6 (Kv : Value → World → Prop) (kc5 : Cur g5) : Post := next (get g5 kc5) (P4 Kv)
def S7 (K : KT) (kc5 : Cur g5) (t_35 : Int) (step_36 : Int) (v_37 : Nat) (n_38 : Int) (l_39 : Sl) (i_40 : Int) (w : World) : Prop :=
  G.cond (decide (i_40 < n_38)) (G.new (.cells #[(.int .i64 (IntKind.i64.wrap (t_35 + (IntKind.i64.wrap (step_36 * i_40))))), (.float .f64 v_37)] 26) w fun p41 w42 => G.runSl pr (Builtin.append_ #[24, 24] 24 #[l_39.v, (Sl.v (⟨some p41, 1, 1⟩ : Sl))]) w42 fun l43 w44 => kc5 t_35 step_36 v_37 n_38 l43 (IntKind.i64.wrap (i_40 + (1 : Int))) w44) (S2 K n_38 l_39 w)
theorem S7_ok (Kv : Value → World → Prop) (kc5 : Cur g5) : OkT pr false none 100 g5 (S7 (Kt Kv) kc5) (lp (blk (tl 1 (s1 (tl 4 bd))))) (P6 Kv kc5) := ok_last mixed FOk_ fun v ρ w => by kernel_rfl
def L5 (K : KT) : Cur g5 := loopC g5 (S7 K)
theorem L5_ok (Kv : Value → World → Prop) : OkT pr false none 100 g5 (L5 (Kt Kv)) (blk (tl 1 (s1 (tl 4 bd)))) (P4 Kv) := ok_loop (B := S7 (Kt Kv)) (by kernel_rfl) fun kc => S7_ok Kv kc
theorem L5_ind {K : KT} {t_23 : Int} {step_24 : Int} {v_25 : Nat} {n_26 : Int} {l_27 : Sl} {i_28 : Int} {w : World} (h : ∀ X : Cur g5, (∀ t_23 step_24 v_25 n_26 l_27 i_28 w, S7 K X t_23 step_24 v_25 n_26 l_27 i_28 w → X t_23 step_24 v_25 n_26 l_27 i_28 w) → X t_23 step_24 v_25 n_26 l_27 i_28 w) : L5 K t_23 step_24 v_25 n_26 l_27 i_28 w := fun X hX => h X fun t_23 step_24 v_25 n_26 l_27 i_28 w hb => hX (t_23, step_24, v_25, n_26, l_27, i_28, ()) w hb
theorem B8 (Kv : Value → World → Prop) : OkT pr false none 100 g5 (L5 (Kt Kv)) (tl 1 (s1 (tl 4 bd))) (P3 Kv) := ok_block 0 (by kernel_rfl) (L5_ok Kv)
@[reducible] def g9 : List SE := [.v 0 (.int .i64), .v 1 (.int .i64), .v 2 (.fl .f64), .v 3 (.int .i64), .v 9 .sl]
def S9 (K : KT) (t_45 : Int) (step_46 : Int) (v_47 : Nat) (n_48 : Int) (l_49 : Sl) (w : World) : Prop :=
  L5 K t_45 step_46 v_47 n_48 l_49 (0 : Int) w
theorem S9_ok (Kv : Value → World → Prop) : OkT pr false none 100 g9 (S9 (Kt Kv)) (s1 (tl 4 bd)) (P3 Kv) := ok_group mixed FOk_ 1 (B8 Kv) fun v ρ w => by kernel_rfl
theorem Q10 (Kv : Value → World → Prop) : OkT pr false none 100 g9 (S9 (Kt Kv)) (tl 4 bd) (P1 Kv) := ok_seq (by kernel_rfl) (S2_ok Kv) (S9_ok Kv)
end tocsinlaw08_ChunkFew
def tocsinlaw08_ChunkFew (t_2 : Int) (step_3 : Int) (v_4 : Nat) (n_5 : Int) (w : World) (K : tocsinlaw08_ChunkFew.KT) : Prop :=
  G.cond (decide (t_2 < (0 : Int))) (C.tocsinlaw08_awake w fun b50 w51 => K b50 w51) (G.cond (decide (step_3 < (1 : Int))) (C.tocsinlaw08_awake w fun b52 w53 => K b52 w53) (G.cond (decide (t_2 > (562949953421312 : Int))) (C.tocsinlaw08_awake w fun b54 w55 => K b54 w55) (G.cond (decide (step_3 > (1073741824 : Int))) (C.tocsinlaw08_awake w fun b56 w57 => K b56 w57) (G.nz (100 : Int) <| G.nz (100 : Int) <| tocsinlaw08_ChunkFew.S9 K t_2 step_3 v_4 (IntKind.i64.wrap ((2 : Int) + (Int.tmod (IntKind.i64.wrap ((Int.tmod n_5 (100 : Int)) + (100 : Int))) (100 : Int)))) nilS w))))
def tocsinlaw08_ChunkFew.cl : CL := fun args K w => match args with
  | [.int .i64 x0, .int .i64 x1, .float .f64 x2, .int .i64 x3] => C.tocsinlaw08_ChunkFew x0 x1 x2 x3 w (tocsinlaw08_ChunkFew.Kt K)
  | _ => False
theorem tocsinlaw08_ChunkFew.clok : OkC pr 3 tocsinlaw08_ChunkFew.cl := by
  intro args K w h
  unfold tocsinlaw08_ChunkFew.cl at h
  split at h
  · exact calls_group false mixed tocsinlaw08_ChunkFew.FOk_ tocsinlaw08_ChunkFew.fn rfl 4 (tocsinlaw08_ChunkFew.Q10 K) (Eq.mp (by kernel_rfl) h)
  · exact h.elim

/-! tocsin/tocsinref08.Wrong -/
namespace tocsinref08_Wrong
abbrev KT := Int → World → Prop
def Kt (Kv : Value → World → Prop) : KT := fun n1 w => Kv (.int .i64 n1) w
noncomputable def bd : Code := bdy Tryd.f13
theorem fn : FnOk pr 13 31 Tryd.f13 := ⟨Tryd.func13, by kernel_rfl, Tryd.ntmps13, by kernel_rfl, by kernel_rfl⟩
def F : Clee := ofL []
theorem FOk_ : FOk pr F := FOk_nil
def P1 (Kv : Value → World → Prop) : Post := bodyK false pr 31 Tryd.f13 Kv
end tocsinref08_Wrong
def tocsinref08_Wrong (l_2 : Sl) (t_3 : Int) (w : World) (K : tocsinref08_Wrong.KT) : Prop :=
  G.cond (decide (t_3 < (0 : Int))) (K (1 : Int) w) (G.cond (decide (t_3 > (1125899906842624 : Int))) (K (1 : Int) w) (G.cond (decide (((l_2.n : Nat) : Int) > (0 : Int))) (G.ix l_2.a l_2.n (IntKind.i64.wrap (((l_2.n : Nat) : Int) - (1 : Int))) 2 fun p4 => G.cI .i64 p4 w fun n5 => G.cond (decide (t_3 ≤ n5)) (K (90 : Int) w) (G.cond (decide (((l_2.n : Nat) : Int) ≥ (120 : Int))) (K (8 : Int) w) (K (0 : Int) w))) (G.cond (decide (((l_2.n : Nat) : Int) ≥ (120 : Int))) (K (8 : Int) w) (K (0 : Int) w))))
def tocsinref08_Wrong.cl : CL := fun args K w => match args with
  | [.slice x0_a x0_n x0_c, .int .i64 x1] => C.tocsinref08_Wrong ⟨x0_a, x0_n, x0_c⟩ x1 w (tocsinref08_Wrong.Kt K)
  | _ => False
theorem tocsinref08_Wrong.clok : OkC pr 13 tocsinref08_Wrong.cl := by
  intro args K w h
  unfold tocsinref08_Wrong.cl at h
  split at h
  · exact calls_last false mixed tocsinref08_Wrong.FOk_ tocsinref08_Wrong.fn rfl (Eq.mp (by kernel_rfl) h)
  · exact h.elim

/-! (*tocsin/chunk.Chunk).Last -/
namespace chunk_Chunk_Last
abbrev KT := Int → Nat → Bool → World → Prop
def Kt (Kv : Value → World → Prop) : KT := fun n1 f2 b3 w => Kv (.tuple #[(.agg #[(.int .i64 n1), (.float .f64 f2)]), (.bool b3)]) w
noncomputable def bd : Code := bdy Tryd.f15
theorem fn : FnOk pr 15 20 Tryd.f15 := ⟨Tryd.func15, by kernel_rfl, Tryd.ntmps15, by kernel_rfl, by kernel_rfl⟩
def F : Clee := ofL [(16, C.chunk_Chunk_Len.cl)]
theorem FOk_ : FOk pr F := FOk_cons C.chunk_Chunk_Len.clok (FOk_nil)
def P1 (Kv : Value → World → Prop) : Post := bodyK false pr 20 Tryd.f15 Kv
end chunk_Chunk_Last
def chunk_Chunk_Last (c_4 : Option Addr) (w : World) (K : chunk_Chunk_Last.KT) : Prop :=
  G.new (.cells #[(.int .i64 (0 : Int)), (.float .f64 0)] 26) w fun p6 w7 => C.chunk_Chunk_Len c_4 w7 fun n8 w9 => G.cond (n8 == (0 : Int)) (G.st p6 (.int .i64 (0 : Int)) w9 fun w10 => G.st (p6.add 1) (.float .f64 0) w10 fun w11 => G.cI .i64 p6 w11 fun n12 => G.cF .f64 (p6.add 1) w11 fun f13 => K n12 f13 false w11) (G.ptr c_4 fun p14 => G.cSl p14 w9.drew fun l15 => G.ptr c_4 fun p16 => G.cSl p16 w9.drew fun l17 => G.ix l15.a l15.n (IntKind.i64.wrap (((l17.n : Nat) : Int) - (1 : Int))) 2 fun p18 => G.cI .i64 p18 w9.drew fun n19 => G.cF .f64 (p18.add 1) w9.drew fun f20 => G.st p6 (.int .i64 n19) w9.drew fun w21 => G.st (p6.add 1) (.float .f64 f20) w21 fun w22 => G.cI .i64 p6 w22 fun n23 => G.cF .f64 (p6.add 1) w22 fun f24 => K n23 f24 true w22)
def chunk_Chunk_Last.cl : CL := fun args K w => match args with
  | [.pointer x0] => C.chunk_Chunk_Last x0 w (chunk_Chunk_Last.Kt K)
  | _ => False
theorem chunk_Chunk_Last.clok : OkC pr 15 chunk_Chunk_Last.cl := by
  intro args K w h
  unfold chunk_Chunk_Last.cl at h
  split at h
  · exact calls_last false mixed chunk_Chunk_Last.FOk_ chunk_Chunk_Last.fn rfl (Eq.mp (by kernel_rfl) h)
  · exact h.elim

/-! tocsin/tocsinref08.Bits -/
namespace tocsinref08_Bits
abbrev KT := Int → World → Prop
def Kt (Kv : Value → World → Prop) : KT := fun n1 w => Kv (.int .u64 n1) w
noncomputable def bd : Code := bdy Tryd.f35
theorem fn : FnOk pr 35 5 Tryd.f35 := ⟨Tryd.func35, by kernel_rfl, Tryd.ntmps35, by kernel_rfl, by kernel_rfl⟩
def F : Clee := ofL [(53, C.math_Float64bits.cl)]
theorem FOk_ : FOk pr F := FOk_consX C.math_Float64bits.clok (FOk_nil)
def P1 (Kv : Value → World → Prop) : Post := bodyK false pr 5 Tryd.f35 Kv
end tocsinref08_Bits
def tocsinref08_Bits (v_2 : Nat) (w : World) (K : tocsinref08_Bits.KT) : Prop :=
  C.math_Float64bits v_2 w fun n3 w4 => K n3 w4
def tocsinref08_Bits.cl : CL := fun args K w => match args with
  | [.float .f64 x0] => C.tocsinref08_Bits x0 w (tocsinref08_Bits.Kt K)
  | _ => False
theorem tocsinref08_Bits.clok : OkC pr 35 tocsinref08_Bits.cl := by
  intro args K w h
  unfold tocsinref08_Bits.cl at h
  split at h
  · exact calls_last false mixed tocsinref08_Bits.FOk_ tocsinref08_Bits.fn rfl (Eq.mp (by kernel_rfl) h)
  · exact h.elim

/-! tocsin/tocsinref08.Same -/
namespace tocsinref08_Same
abbrev KT := Bool → World → Prop
def Kt (Kv : Value → World → Prop) : KT := fun b1 w => Kv (.bool b1) w
noncomputable def bd : Code := bdy Tryd.f17
theorem fn : FnOk pr 17 43 Tryd.f17 := ⟨Tryd.func17, by kernel_rfl, Tryd.ntmps17, by kernel_rfl, by kernel_rfl⟩
def F : Clee := ofL [(35, C.tocsinref08_Bits.cl)]
theorem FOk_ : FOk pr F := FOk_cons C.tocsinref08_Bits.clok (FOk_nil)
def P1 (Kv : Value → World → Prop) : Post := bodyK false pr 43 Tryd.f17 Kv
@[reducible] def g2 : List SE := []
def S2 (K : KT) (w : World) : Prop :=
  K true w
theorem S2_ok (Kv : Value → World → Prop) : OkT pr false none 43 g2 (S2 (Kt Kv)) (s2 (tl 2 bd)) (P1 Kv) := ok_last mixed FOk_ fun v ρ w => by kernel_rfl
def P3 (Kv : Value → World → Prop) : Post := next (get g2 (S2 (Kt Kv))) (P1 Kv)
def P4 (Kv : Value → World → Prop) : Post := inBlock 0 (P3 Kv)
@[reducible] def g5 : List SE := [.v 0 .sl, .v 1 .sl, .v 12 (.int .i64), .v 13 (.int .i64)]
def P6 (Kv : Value → World → Prop) (kc5 : Cur g5) : Post := next (get g5 kc5) (P4 Kv)
def S7 (K : KT) (kc5 : Cur g5) (a_12 : Sl) (b_13 : Sl) (n14 : Int) (n15 : Int) (w : World) : Prop :=
  G.cond (decide (n15 < n14)) (G.ix a_12.a a_12.n n15 2 fun p16 => G.cI .i64 p16 w.drew fun n17 => G.ix b_13.a b_13.n n15 2 fun p18 => G.cI .i64 p18 w.drew fun n19 => G.cond (n17 != n19) (K false w.drew) (G.ix a_12.a a_12.n n15 2 fun p20 => G.cF .f64 (p20.add 1) w.drew fun f21 => G.ix b_13.a b_13.n n15 2 fun p22 => G.cF .f64 (p22.add 1) w.drew fun f23 => C.tocsinref08_Bits f21 w.drew fun n24 w25 => sameAt (p22.add 1) 1 w.drew w25 ∧ (C.tocsinref08_Bits f23 w25 fun n26 w27 => G.cond (n24 != n26) (K false w27) (kc5 a_12 b_13 n14 (IntKind.i64.wrap (n15 + (1 : Int))) w27)))) (S2 K w)
theorem S7_ok (Kv : Value → World → Prop) (kc5 : Cur g5) : OkT pr false none 43 g5 (S7 (Kt Kv) kc5) (lp (blk (tl 1 (s1 (tl 2 bd))))) (P6 Kv kc5) := ok_last mixed FOk_ fun v ρ w => by kernel_rfl
def L5 (K : KT) : Cur g5 := loopC g5 (S7 K)
theorem L5_ok (Kv : Value → World → Prop) : OkT pr false none 43 g5 (L5 (Kt Kv)) (blk (tl 1 (s1 (tl 2 bd)))) (P4 Kv) := ok_loop (B := S7 (Kt Kv)) (by kernel_rfl) fun kc => S7_ok Kv kc
theorem L5_ind {K : KT} {a_4 : Sl} {b_5 : Sl} {n6 : Int} {n7 : Int} {w : World} (h : ∀ X : Cur g5, (∀ a_4 b_5 n6 n7 w, S7 K X a_4 b_5 n6 n7 w → X a_4 b_5 n6 n7 w) → X a_4 b_5 n6 n7 w) : L5 K a_4 b_5 n6 n7 w := fun X hX => h X fun a_4 b_5 n6 n7 w hb => hX (a_4, b_5, n6, n7, ()) w hb
theorem B8 (Kv : Value → World → Prop) : OkT pr false none 43 g5 (L5 (Kt Kv)) (tl 1 (s1 (tl 2 bd))) (P3 Kv) := ok_block 0 (by kernel_rfl) (L5_ok Kv)
@[reducible] def g9 : List SE := [.v 0 .sl, .v 1 .sl]
def S9 (K : KT) (a_28 : Sl) (b_29 : Sl) (w : World) : Prop :=
  L5 K a_28 b_29 ((a_28.n : Nat) : Int) (0 : Int) w
theorem S9_ok (Kv : Value → World → Prop) : OkT pr false none 43 g9 (S9 (Kt Kv)) (s1 (tl 2 bd)) (P3 Kv) := ok_group mixed FOk_ 1 (B8 Kv) fun v ρ w => by kernel_rfl
theorem Q10 (Kv : Value → World → Prop) : OkT pr false none 43 g9 (S9 (Kt Kv)) (tl 2 bd) (P1 Kv) := ok_seq (by kernel_rfl) (S2_ok Kv) (S9_ok Kv)
end tocsinref08_Same
def tocsinref08_Same (a_2 : Sl) (b_3 : Sl) (w : World) (K : tocsinref08_Same.KT) : Prop :=
  G.cond (((a_2.n : Nat) : Int) != ((b_3.n : Nat) : Int)) (K false w) (tocsinref08_Same.S9 K a_2 b_3 w)
def tocsinref08_Same.cl : CL := fun args K w => match args with
  | [.slice x0_a x0_n x0_c, .slice x1_a x1_n x1_c] => C.tocsinref08_Same ⟨x0_a, x0_n, x0_c⟩ ⟨x1_a, x1_n, x1_c⟩ w (tocsinref08_Same.Kt K)
  | _ => False
theorem tocsinref08_Same.clok : OkC pr 17 tocsinref08_Same.cl := by
  intro args K w h
  unfold tocsinref08_Same.cl at h
  split at h
  · exact calls_group false mixed tocsinref08_Same.FOk_ tocsinref08_Same.fn rfl 2 (tocsinref08_Same.Q10 K) (Eq.mp (by kernel_rfl) h)
  · exact h.elim

/-! (*tocsin/chunk.Chunk).All$1 -/
namespace chunk_Chunk_All_1
abbrev KT := World → Prop
def Kt (Kv : Value → World → Prop) : KT := fun  w => Kv (.tuple #[]) w
noncomputable def bd : Code := bdy Tryd.f57
theorem fn : FnOk pr 57 24 Tryd.f57 := ⟨Tryd.func57, by kernel_rfl, Tryd.ntmps57, by kernel_rfl, by kernel_rfl⟩
def F : Clee := ofL []
theorem FOk_ : FOk pr F := FOk_nil
def P1 (Kv : Value → World → Prop) : Post := bodyK false pr 24 Tryd.f57 Kv
def P2 (Kv : Value → World → Prop) : Post := inBlock 0 (P1 Kv)
@[reducible] def g3 : List SE := [.v 0 .raw, .v 10 .sl, .v 11 (.int .i64), .v 12 (.int .i64)]
def P4 (Kv : Value → World → Prop) (kc3 : Cur g3) : Post := next (get g3 kc3) (P2 Kv)
def S5 (K : KT) (kc3 : Cur g3) (yield_13 : Value) (l14 : Sl) (n15 : Int) (n16 : Int) (w : World) : Prop :=
  G.cond (decide (n16 < n15)) (G.ix l14.a l14.n n16 2 fun p17 => G.cI .i64 p17 w fun n18 => G.cF .f64 (p17.add 1) w fun f19 => G.new (.cells #[(.int .i64 (0 : Int)), (.float .f64 0)] 26) w fun p20 w21 => G.st p20 (.int .i64 n18) w21 fun w22 => G.st (p20.add 1) (.float .f64 f19) w22 fun w23 => G.cI .i64 p20 w23 fun n24 => G.cF .f64 (p20.add 1) w23 fun f25 => G.callV pr F yield_13 [(.int .i64 n24), (.float .f64 f25)] w23 fun v26 w27 => G.isB v26 fun b28 => G.cond (!b28) (K w27) (kc3 yield_13 l14 n15 (IntKind.i64.wrap (n16 + (1 : Int))) w27)) (K w)
theorem S5_ok (Kv : Value → World → Prop) (kc3 : Cur g3) : OkT pr false none 24 g3 (S5 (Kt Kv) kc3) (lp (blk (tl 2 bd))) (P4 Kv kc3) := ok_last mixed FOk_ fun v ρ w => by kernel_rfl
def L3 (K : KT) : Cur g3 := loopC g3 (S5 K)
theorem L3_ok (Kv : Value → World → Prop) : OkT pr false none 24 g3 (L3 (Kt Kv)) (blk (tl 2 bd)) (P2 Kv) := ok_loop (B := S5 (Kt Kv)) (by kernel_rfl) fun kc => S5_ok Kv kc
theorem L3_ind {K : KT} {yield_5 : Value} {l6 : Sl} {n7 : Int} {n8 : Int} {w : World} (h : ∀ X : Cur g3, (∀ yield_5 l6 n7 n8 w, S5 K X yield_5 l6 n7 n8 w → X yield_5 l6 n7 n8 w) → X yield_5 l6 n7 n8 w) : L3 K yield_5 l6 n7 n8 w := fun X hX => h X fun yield_5 l6 n7 n8 w hb => hX (yield_5, l6, n7, n8, ()) w hb
theorem B6 (Kv : Value → World → Prop) : OkT pr false none 24 g3 (L3 (Kt Kv)) (tl 2 bd) (P1 Kv) := ok_block 0 (by kernel_rfl) (L3_ok Kv)
end chunk_Chunk_All_1
def chunk_Chunk_All_1 (yield_1 : Value) (p_2 : Option Addr) (w : World) (K : chunk_Chunk_All_1.KT) : Prop :=
  G.ptr p_2 fun p29 => G.cP p29 w fun p30 => G.cond p30.isNone (K w) (G.ptr p_2 fun p31 => G.cP p31 w fun p32 => G.ptr p32 fun p33 => G.cSl p33 w fun l34 => chunk_Chunk_All_1.L3 K yield_1 l34 ((l34.n : Nat) : Int) (0 : Int) w)
def chunk_Chunk_All_1.cl : CL := fun args K w => match args with
  | [x0, .pointer x1] => C.chunk_Chunk_All_1 x0 x1 w (chunk_Chunk_All_1.Kt K)
  | _ => False
theorem chunk_Chunk_All_1.clok : OkC pr 57 chunk_Chunk_All_1.cl := by
  intro args K w h
  unfold chunk_Chunk_All_1.cl at h
  split at h
  · exact calls_group false mixed chunk_Chunk_All_1.FOk_ chunk_Chunk_All_1.fn rfl 2 (chunk_Chunk_All_1.B6 K) (Eq.mp (by kernel_rfl) h)
  · exact h.elim

/-! (*tocsin/chunk.Chunk).All -/
namespace chunk_Chunk_All
abbrev KT := Value → World → Prop
def Kt (Kv : Value → World → Prop) : KT := fun v1 w => Kv v1 w
noncomputable def bd : Code := bdy Tryd.f36
theorem fn : FnOk pr 36 4 Tryd.f36 := ⟨Tryd.func36, by kernel_rfl, Tryd.ntmps36, by kernel_rfl, by kernel_rfl⟩
def F : Clee := ofL []
theorem FOk_ : FOk pr F := FOk_nil
def P1 (Kv : Value → World → Prop) : Post := bodyK false pr 4 Tryd.f36 Kv
end chunk_Chunk_All
def chunk_Chunk_All (c_2 : Option Addr) (w : World) (K : chunk_Chunk_All.KT) : Prop :=
  G.new (.cells #[(.pointer c_2)] 32) w fun p3 w4 => K (Value.func (.func 57) #[] #[(.pointer (some p3))]) w4
def chunk_Chunk_All.cl : CL := fun args K w => match args with
  | [.pointer x0] => C.chunk_Chunk_All x0 w (chunk_Chunk_All.Kt K)
  | _ => False
theorem chunk_Chunk_All.clok : OkC pr 36 chunk_Chunk_All.cl := by
  intro args K w h
  unfold chunk_Chunk_All.cl at h
  split at h
  · exact calls_last false mixed chunk_Chunk_All.FOk_ chunk_Chunk_All.fn rfl (Eq.mp (by kernel_rfl) h)
  · exact h.elim

/-! tocsin/tocsinlaw08.every -/
namespace tocsinlaw08_every
abbrev KT := Sl → World → Prop
def Kt (Kv : Value → World → Prop) : KT := fun l1 w => Kv l1.v w
noncomputable def bd : Code := bdy Tryd.f18
theorem fn : FnOk pr 18 27 Tryd.f18 := ⟨Tryd.func18, by kernel_rfl, Tryd.ntmps18, by kernel_rfl, by kernel_rfl⟩
def F : Clee := ofL [(36, C.chunk_Chunk_All.cl)]
theorem FOk_ : FOk pr F := FOk_cons C.chunk_Chunk_All.clok (FOk_nil)
def Fc : Clee := ofL [(57, C.chunk_Chunk_All_1.cl)]
theorem FcOk : FOkB pr Fc := FOkB_cons C.chunk_Chunk_All_1.clok (FOkB_nil)
def P1 (Kv : Value → World → Prop) : Post := bodyK true pr 27 Tryd.f18 Kv
@[reducible] def g2 : List SE := [.v 5 .ptr, .v 27 .raw]
def S2 (K : KT) (l_4 : Option Addr) (v5 : Value) (w : World) : Prop :=
  G.ptr l_4 fun p6 => G.cSl p6 w fun l7 => G.marks v5 w fun w8 => K l7 w8
theorem S2_ok (Kv : Value → World → Prop) : OkT pr true none 27 g2 (S2 (Kt Kv)) (s2 (tl 4 bd)) (P1 Kv) := ok_last mixed FOk_ fun v ρ w => by kernel_rfl
def P3 (Kv : Value → World → Prop) : Post := next (get g2 (S2 (Kt Kv))) (P1 Kv)
def P4 (Kv : Value → World → Prop) : Post := inBlock 0 (P3 Kv)
@[reducible] def g5 : List SE := [.v 3 .ptr, .v 5 .ptr, .v 13 .raw, .v 27 .raw]
def P6 (Rr : Exit → World → Prop) : Post := RP Rr
@[reducible] def g7 : List SE := [.v 3 .ptr, .v 5 .ptr, .v 7 (.int .i64), .v 8 (.fl .f64)]
def S7 (Rr : Exit → World → Prop) (most_13 : Option Addr) (l_14 : Option Addr) (t_15 : Int) (v_16 : Nat) (w : World) : Prop :=
  G.ptr l_14 fun p17 => G.cSl p17 w fun l18 => G.new (.cells #[(.int .i64 t_15), (.float .f64 v_16)] 26) w fun p19 w20 => G.runSl pr (Builtin.append_ #[24, 24] 24 #[l18.v, (Sl.v (⟨some p19, 1, 1⟩ : Sl))]) w20 fun l21 w22 => G.ptr l_14 fun p23 => G.st p23 l21.v w22 fun w24 => G.ptr l_14 fun p25 => G.cSl p25 w24 fun l26 => G.ptr most_13 fun p27 => G.cI .i64 p27 w24 fun n28 => G.cond (decide (((l26.n : Nat) : Int) ≥ n28)) (Rr (.exit 0) w24) (Rr .normal w24)
theorem S7_ok (Rr : Exit → World → Prop) {ro : Option Nat} : OkT pr false ro 27 g7 (S7 Rr) (rbd (blk (tl 1 (s1 (tl 4 bd))))) (P6 Rr) := ok_last mixed FOk_ fun v ρ w => by kernel_rfl
def B_R5 (most_9 : Option Addr) (l_10 : Option Addr) (v11 : Value) (v12 : Value) (args : List Value) (wb : World) (Rr : Exit → World → Prop) : Prop := match args with
  | [.int .i64 y_29, .float .f64 y_30] => S7 Rr most_9 l_10 y_29 y_30 wb
  | _ => False
def O_R5 (K : KT) (most_9 : Option Addr) (l_10 : Option Addr) (v11 : Value) (v12 : Value) (e : Exit) (D : Nat) (w : World) : Prop := match e with
  | .normal => S2 K l_10 (pushMark v12 D) w
  | .exit i => bif Nat.beq i 0 then (S2 K l_10 (pushMark v12 D) w) else False
  | _ => False
def R5 (K : KT) (most_9 : Option Addr) (l_10 : Option Addr) (v11 : Value) (v12 : Value) (w : World) : Prop :=
  G.rangeF Fc v11 pr (B_R5 most_9 l_10 v11 v12) w (O_R5 K most_9 l_10 v11 v12)
theorem R5_ok (Kv : Value → World → Prop) : OkT pr true none 27 g5 (R5 (Kt Kv)) (blk (tl 1 (s1 (tl 4 bd)))) (P4 Kv) := by
  refine ok_range mixed FOk_ FcOk (s := 13) (ps := #[14, 15]) (Bt := fun v => B_R5 v.1 v.2.1 v.2.2.1 v.2.2.2.1) (kB := fun Rr => S7 Rr) (sgB := g7) (out := fun v => O_R5 (Kt Kv) v.1 v.2.1 v.2.2.1 v.2.2.2.1) (by kernel_rfl) (fun v ρ w => by kernel_rfl) ?_ (fun Rr l => S7_ok Rr) ?_
  · intro v ρ args w wb Rr h
    have h' : B_R5 v.1 v.2.1 v.2.2.1 v.2.2.2.1 args wb Rr := h
    unfold B_R5 at h'
    split at h'
    · exact ⟨rfl, Eq.mp (by kernel_rfl) (And.intro (Eq.refl w) h')⟩
    · exact h'.elim
  · intro v ρ e D w h
    cases e with
    | normal => exact Eq.mp (by kernel_rfl) h
    | exit i =>
      refine (exit_inv h).elim (fun h => ?_) (fun h => ?_)
      · obtain ⟨rfl, h⟩ := h; exact Eq.mp (by kernel_rfl) h
      · exact h.elim
    | _ => exact h.elim
theorem B8 (Kv : Value → World → Prop) : OkT pr true none 27 g5 (R5 (Kt Kv)) (tl 1 (s1 (tl 4 bd))) (P3 Kv) := ok_block 0 (by kernel_rfl) (R5_ok Kv)
@[reducible] def g9 : List SE := [.v 3 .ptr, .v 5 .ptr, .v 6 .raw, .v 27 .raw]
def S9 (K : KT) (most_31 : Option Addr) (l_32 : Option Addr) (seq_33 : Value) (v34 : Value) (w : World) : Prop :=
  R5 K most_31 l_32 seq_33 v34 w
theorem S9_ok (Kv : Value → World → Prop) : OkT pr true none 27 g9 (S9 (Kt Kv)) (s1 (tl 4 bd)) (P3 Kv) := ok_group mixed FOk_ 1 (B8 Kv) fun v ρ w => by kernel_rfl
theorem Q10 (Kv : Value → World → Prop) : OkT pr true none 27 g9 (S9 (Kt Kv)) (tl 4 bd) (P1 Kv) := ok_seq (by kernel_rfl) (S2_ok Kv) (S9_ok Kv)
end tocsinlaw08_every
def tocsinlaw08_every (c_2 : Option Addr) (most_3 : Int) (w : World) (K : tocsinlaw08_every.KT) : Prop :=
  G.new (.cells #[(.int .i64 most_3)] 3) w fun p35 w36 => G.new (.cells #[nilS.v] 24) w36 fun p37 w38 => C.chunk_Chunk_All c_2 w38 fun v39 w40 => G.isNilF v39 fun b41 => G.cond b41 (K nilS w40) (tocsinlaw08_every.S9 K (some p35) (some p37) v39 undef w40)
def tocsinlaw08_every.cl : CL := fun args K w => match args with
  | [.pointer x0, .int .i64 x1] => C.tocsinlaw08_every x0 x1 w (tocsinlaw08_every.Kt K)
  | _ => False
theorem tocsinlaw08_every.clok : OkC pr 18 tocsinlaw08_every.cl := by
  intro args K w h
  unfold tocsinlaw08_every.cl at h
  split at h
  · exact calls_group true mixed tocsinlaw08_every.FOk_ tocsinlaw08_every.fn rfl 4 (tocsinlaw08_every.Q10 K) (Eq.mp (by kernel_rfl) h)
  · exact h.elim

/-! tocsin/tocsinref08.New -/
namespace tocsinref08_New
abbrev KT := Option Addr → World → Prop
def Kt (Kv : Value → World → Prop) : KT := fun p1 w => Kv (.pointer p1) w
noncomputable def bd : Code := bdy Tryd.f38
theorem fn : FnOk pr 38 3 Tryd.f38 := ⟨Tryd.func38, by kernel_rfl, Tryd.ntmps38, by kernel_rfl, by kernel_rfl⟩
def F : Clee := ofL []
theorem FOk_ : FOk pr F := FOk_nil
def P1 (Kv : Value → World → Prop) : Post := bodyK false pr 3 Tryd.f38 Kv
end tocsinref08_New
def tocsinref08_New (w : World) (K : tocsinref08_New.KT) : Prop :=
  G.new (.cells #[(.int .i64 (0 : Int)), (.int .i64 (0 : Int)), (.int .u64 (0 : Int)), (.int .i64 (64 : Int)), (.int .i64 (0 : Int))] 94) w fun p2 w3 => K (some p2) w3
def tocsinref08_New.cl : CL := fun args K w => match args with
  | [] => C.tocsinref08_New w (tocsinref08_New.Kt K)
  | _ => False
theorem tocsinref08_New.clok : OkC pr 38 tocsinref08_New.cl := by
  intro args K w h
  unfold tocsinref08_New.cl at h
  split at h
  · exact calls_last false mixed tocsinref08_New.FOk_ tocsinref08_New.fn rfl (Eq.mp (by kernel_rfl) h)
  · exact h.elim

/-! (*tocsin/tocsinref02.Stream).Write -/
namespace tocsinref02_Stream_Write
abbrev KT := World → Prop
def Kt (Kv : Value → World → Prop) : KT := fun  w => Kv (.tuple #[]) w
noncomputable def bd : Code := bdy Tryd.f60
theorem fn : FnOk pr 60 28 Tryd.f60 := ⟨Tryd.func60, by kernel_rfl, Tryd.ntmps60, by kernel_rfl, by kernel_rfl⟩
def F : Clee := ofL []
theorem FOk_ : FOk pr F := FOk_nil
def P1 (Kv : Value → World → Prop) : Post := bodyK false pr 28 Tryd.f60 Kv
def P2 (Kv : Value → World → Prop) : Post := inBlock 0 (P1 Kv)
@[reducible] def g3 : List SE := [.v 0 .ptr, .v 1 (.int .u64), .v 6 (.int .i64)]
def P4 (Kv : Value → World → Prop) (kc3 : Cur g3) : Post := next (get g3 kc3) (P2 Kv)
def S5 (K : KT) (kc3 : Cur g3) (s_10 : Option Addr) (v_11 : Int) (i_12 : Int) (w : World) : Prop :=
  G.cond (decide (i_12 ≥ (0 : Int))) (G.ptr s_10 fun p13 => G.cSl p13 w fun l14 => G.nn (IntKind.u64.wrap i_12) <| G.new (.cells #[(.bool ((Go.bits .and .u64 (shr .u64 v_11 (IntKind.u64.wrap i_12)) (1 : Int)) == (1 : Int)))] 4) w fun p15 w16 => G.runSl pr (Builtin.append_ #[76, 76] 76 #[l14.v, (Sl.v (⟨some p15, 1, 1⟩ : Sl))]) w16 fun l17 w18 => G.ptr s_10 fun p19 => G.st p19 l17.v w18 fun w20 => kc3 s_10 v_11 (IntKind.i64.wrap (i_12 - (1 : Int))) w20) (K w)
theorem S5_ok (Kv : Value → World → Prop) (kc3 : Cur g3) : OkT pr false none 28 g3 (S5 (Kt Kv) kc3) (lp (blk (tl 1 bd))) (P4 Kv kc3) := ok_last mixed FOk_ fun v ρ w => by kernel_rfl
def L3 (K : KT) : Cur g3 := loopC g3 (S5 K)
theorem L3_ok (Kv : Value → World → Prop) : OkT pr false none 28 g3 (L3 (Kt Kv)) (blk (tl 1 bd)) (P2 Kv) := ok_loop (B := S5 (Kt Kv)) (by kernel_rfl) fun kc => S5_ok Kv kc
theorem L3_ind {K : KT} {s_4 : Option Addr} {v_5 : Int} {i_6 : Int} {w : World} (h : ∀ X : Cur g3, (∀ s_4 v_5 i_6 w, S5 K X s_4 v_5 i_6 w → X s_4 v_5 i_6 w) → X s_4 v_5 i_6 w) : L3 K s_4 v_5 i_6 w := fun X hX => h X fun s_4 v_5 i_6 w hb => hX (s_4, v_5, i_6, ()) w hb
theorem B6 (Kv : Value → World → Prop) : OkT pr false none 28 g3 (L3 (Kt Kv)) (tl 1 bd) (P1 Kv) := ok_block 0 (by kernel_rfl) (L3_ok Kv)
end tocsinref02_Stream_Write
def tocsinref02_Stream_Write (s_1 : Option Addr) (v_2 : Int) (n_3 : Int) (w : World) (K : tocsinref02_Stream_Write.KT) : Prop :=
  tocsinref02_Stream_Write.L3 K s_1 v_2 (IntKind.i64.wrap (n_3 - (1 : Int))) w
def tocsinref02_Stream_Write.cl : CL := fun args K w => match args with
  | [.pointer x0, .int .u64 x1, .int .i64 x2] => C.tocsinref02_Stream_Write x0 x1 x2 w (tocsinref02_Stream_Write.Kt K)
  | _ => False
theorem tocsinref02_Stream_Write.clok : OkC pr 60 tocsinref02_Stream_Write.cl := by
  intro args K w h
  unfold tocsinref02_Stream_Write.cl at h
  split at h
  · exact calls_group false mixed tocsinref02_Stream_Write.FOk_ tocsinref02_Stream_Write.fn rfl 1 (tocsinref02_Stream_Write.B6 K) (Eq.mp (by kernel_rfl) h)
  · exact h.elim

/-! tocsin/tocsinref08.whole -/
namespace tocsinref08_whole
abbrev KT := World → Prop
def Kt (Kv : Value → World → Prop) : KT := fun  w => Kv (.tuple #[]) w
noncomputable def bd : Code := bdy Tryd.f58
theorem fn : FnOk pr 58 17 Tryd.f58 := ⟨Tryd.func58, by kernel_rfl, Tryd.ntmps58, by kernel_rfl, by kernel_rfl⟩
def F : Clee := ofL [(60, C.tocsinref02_Stream_Write.cl)]
theorem FOk_ : FOk pr F := FOk_cons C.tocsinref02_Stream_Write.clok (FOk_nil)
def P1 (Kv : Value → World → Prop) : Post := bodyK false pr 17 Tryd.f58 Kv
def P2 (Kv : Value → World → Prop) : Post := inBlock 0 (P1 Kv)
@[reducible] def g3 : List SE := [.v 0 .ptr, .v 6 .sl, .v 7 (.int .i64), .v 8 (.int .i64)]
def P4 (Kv : Value → World → Prop) (kc3 : Cur g3) : Post := next (get g3 kc3) (P2 Kv)
def S5 (K : KT) (kc3 : Cur g3) (s_11 : Option Addr) (l12 : Sl) (n13 : Int) (n14 : Int) (w : World) : Prop :=
  G.cond (decide (n14 < n13)) (G.ix l12.a l12.n n14 1 fun p15 => G.cI .u8 p15 w fun n16 => C.tocsinref02_Stream_Write s_11 (IntKind.u64.wrap n16) (8 : Int) w fun w17 => kc3 s_11 l12 n13 (IntKind.i64.wrap (n14 + (1 : Int))) w17) (K w)
theorem S5_ok (Kv : Value → World → Prop) (kc3 : Cur g3) : OkT pr false none 17 g3 (S5 (Kt Kv) kc3) (lp (blk (tl 1 bd))) (P4 Kv kc3) := ok_last mixed FOk_ fun v ρ w => by kernel_rfl
def L3 (K : KT) : Cur g3 := loopC g3 (S5 K)
theorem L3_ok (Kv : Value → World → Prop) : OkT pr false none 17 g3 (L3 (Kt Kv)) (blk (tl 1 bd)) (P2 Kv) := ok_loop (B := S5 (Kt Kv)) (by kernel_rfl) fun kc => S5_ok Kv kc
theorem L3_ind {K : KT} {s_3 : Option Addr} {l4 : Sl} {n5 : Int} {n6 : Int} {w : World} (h : ∀ X : Cur g3, (∀ s_3 l4 n5 n6 w, S5 K X s_3 l4 n5 n6 w → X s_3 l4 n5 n6 w) → X s_3 l4 n5 n6 w) : L3 K s_3 l4 n5 n6 w := fun X hX => h X fun s_3 l4 n5 n6 w hb => hX (s_3, l4, n5, n6, ()) w hb
theorem B6 (Kv : Value → World → Prop) : OkT pr false none 17 g3 (L3 (Kt Kv)) (tl 1 bd) (P1 Kv) := ok_block 0 (by kernel_rfl) (L3_ok Kv)
end tocsinref08_whole
def tocsinref08_whole (s_1 : Option Addr) (b_2 : Sl) (w : World) (K : tocsinref08_whole.KT) : Prop :=
  tocsinref08_whole.L3 K s_1 b_2 ((b_2.n : Nat) : Int) (0 : Int) w
def tocsinref08_whole.cl : CL := fun args K w => match args with
  | [.pointer x0, .slice x1_a x1_n x1_c] => C.tocsinref08_whole x0 ⟨x1_a, x1_n, x1_c⟩ w (tocsinref08_whole.Kt K)
  | _ => False
theorem tocsinref08_whole.clok : OkC pr 58 tocsinref08_whole.cl := by
  intro args K w h
  unfold tocsinref08_whole.cl at h
  split at h
  · exact calls_group false mixed tocsinref08_whole.FOk_ tocsinref08_whole.fn rfl 1 (tocsinref08_whole.B6 K) (Eq.mp (by kernel_rfl) h)
  · exact h.elim

/-! tocsin/tocsinref01.joined -/
namespace tocsinref01_joined
abbrev KT := Sl → World → Prop
def Kt (Kv : Value → World → Prop) : KT := fun l1 w => Kv l1.v w
noncomputable def bd : Code := bdy Tryd.f78
theorem fn : FnOk pr 78 13 Tryd.f78 := ⟨Tryd.func78, by kernel_rfl, Tryd.ntmps78, by kernel_rfl, by kernel_rfl⟩
def F : Clee := ofL []
theorem FOk_ : FOk pr F := FOk_nil
def P1 (Kv : Value → World → Prop) : Post := bodyK false pr 13 Tryd.f78 Kv
end tocsinref01_joined
def tocsinref01_joined (b_2 : Sl) (c_3 : Sl) (w : World) (K : tocsinref01_joined.KT) : Prop :=
  G.runSl pr (Builtin.append_ #[27, 27] 27 #[nilS.v, b_2.v]) w fun l4 w5 => G.runSl pr (Builtin.append_ #[27, 27] 27 #[l4.v, c_3.v]) w5 fun l6 w7 => K l6 w7
def tocsinref01_joined.cl : CL := fun args K w => match args with
  | [.slice x0_a x0_n x0_c, .slice x1_a x1_n x1_c] => C.tocsinref01_joined ⟨x0_a, x0_n, x0_c⟩ ⟨x1_a, x1_n, x1_c⟩ w (tocsinref01_joined.Kt K)
  | _ => False
theorem tocsinref01_joined.clok : OkC pr 78 tocsinref01_joined.cl := by
  intro args K w h
  unfold tocsinref01_joined.cl at h
  split at h
  · exact calls_last false mixed tocsinref01_joined.FOk_ tocsinref01_joined.fn rfl (Eq.mp (by kernel_rfl) h)
  · exact h.elim

/-! tocsin/tocsinref01.PutU -/
namespace tocsinref01_PutU
abbrev KT := Sl → World → Prop
def Kt (Kv : Value → World → Prop) : KT := fun l1 w => Kv l1.v w
noncomputable def bd : Code := bdy Tryd.f61
theorem fn : FnOk pr 61 25 Tryd.f61 := ⟨Tryd.func61, by kernel_rfl, Tryd.ntmps61, by kernel_rfl, by kernel_rfl⟩
def F : Clee := ofL [(78, C.tocsinref01_joined.cl)]
theorem FOk_ : FOk pr F := FOk_cons C.tocsinref01_joined.clok (FOk_nil)
def P1 (Kv : Value → World → Prop) : Post := bodyK false pr 25 Tryd.f61 Kv
@[reducible] def g2 : List SE := [.v 0 .sl, .v 1 (.int .u64), .v 5 .sl]
def S2 (K : KT) (b_4 : Sl) (n_5 : Int) (d_6 : Sl) (w : World) : Prop :=
  G.new (.cells #[(.int .u8 (IntKind.u8.wrap n_5))] 5) w fun p7 w8 => G.runSl pr (Builtin.append_ #[27, 27] 27 #[d_6.v, (Sl.v (⟨some p7, 1, 1⟩ : Sl))]) w8 fun l9 w10 => C.tocsinref01_joined b_4 l9 w10 fun l11 w12 => K l11 w12
theorem S2_ok (Kv : Value → World → Prop) : OkT pr false none 25 g2 (S2 (Kt Kv)) (s2 (tl 2 bd)) (P1 Kv) := ok_last mixed FOk_ fun v ρ w => by kernel_rfl
def P3 (Kv : Value → World → Prop) : Post := next (get g2 (S2 (Kt Kv))) (P1 Kv)
def P4 (Kv : Value → World → Prop) : Post := inBlock 0 (P3 Kv)
def P6 (Kv : Value → World → Prop) (kc5 : Cur g2) : Post := next (get g2 kc5) (P4 Kv)
def S7 (K : KT) (kc5 : Cur g2) (b_19 : Sl) (n_20 : Int) (d_21 : Sl) (w : World) : Prop :=
  G.cond (decide (n_20 ≥ (128 : Int))) (G.nz (128 : Int) <| G.new (.cells #[(.int .u8 (IntKind.u8.wrap ((IntKind.u8.wrap (Int.tmod n_20 (128 : Int))) + (128 : Int))))] 5) w fun p22 w23 => G.runSl pr (Builtin.append_ #[27, 27] 27 #[d_21.v, (Sl.v (⟨some p22, 1, 1⟩ : Sl))]) w23 fun l24 w25 => G.nz (128 : Int) <| kc5 b_19 (IntKind.u64.wrap (Int.tdiv n_20 (128 : Int))) l24 w25) (S2 K b_19 n_20 d_21 w)
theorem S7_ok (Kv : Value → World → Prop) (kc5 : Cur g2) : OkT pr false none 25 g2 (S7 (Kt Kv) kc5) (lp (blk (s1 (tl 2 bd)))) (P6 Kv kc5) := ok_last mixed FOk_ fun v ρ w => by kernel_rfl
def L5 (K : KT) : Cur g2 := loopC g2 (S7 K)
theorem L5_ok (Kv : Value → World → Prop) : OkT pr false none 25 g2 (L5 (Kt Kv)) (blk (s1 (tl 2 bd))) (P4 Kv) := ok_loop (B := S7 (Kt Kv)) (by kernel_rfl) fun kc => S7_ok Kv kc
theorem L5_ind {K : KT} {b_13 : Sl} {n_14 : Int} {d_15 : Sl} {w : World} (h : ∀ X : Cur g2, (∀ b_13 n_14 d_15 w, S7 K X b_13 n_14 d_15 w → X b_13 n_14 d_15 w) → X b_13 n_14 d_15 w) : L5 K b_13 n_14 d_15 w := fun X hX => h X fun b_13 n_14 d_15 w hb => hX (b_13, n_14, d_15, ()) w hb
theorem B8 (Kv : Value → World → Prop) : OkT pr false none 25 g2 (L5 (Kt Kv)) (s1 (tl 2 bd)) (P3 Kv) := ok_block 0 (by kernel_rfl) (L5_ok Kv)
theorem Q9 (Kv : Value → World → Prop) : OkT pr false none 25 g2 (L5 (Kt Kv)) (tl 2 bd) (P1 Kv) := ok_seq (by kernel_rfl) (S2_ok Kv) (B8 Kv)
end tocsinref01_PutU
def tocsinref01_PutU (b_2 : Sl) (n_3 : Int) (w : World) (K : tocsinref01_PutU.KT) : Prop :=
  tocsinref01_PutU.L5 K b_2 n_3 nilS w
def tocsinref01_PutU.cl : CL := fun args K w => match args with
  | [.slice x0_a x0_n x0_c, .int .u64 x1] => C.tocsinref01_PutU ⟨x0_a, x0_n, x0_c⟩ x1 w (tocsinref01_PutU.Kt K)
  | _ => False
theorem tocsinref01_PutU.clok : OkC pr 61 tocsinref01_PutU.cl := by
  intro args K w h
  unfold tocsinref01_PutU.cl at h
  split at h
  · exact calls_group false mixed tocsinref01_PutU.FOk_ tocsinref01_PutU.fn rfl 2 (tocsinref01_PutU.Q9 K) (Eq.mp (by kernel_rfl) h)
  · exact h.elim

/-! tocsin/tocsinref01.turn -/
namespace tocsinref01_turn
abbrev KT := Int → World → Prop
def Kt (Kv : Value → World → Prop) : KT := fun n1 w => Kv (.int .u64 n1) w
noncomputable def bd : Code := bdy Tryd.f77
theorem fn : FnOk pr 77 14 Tryd.f77 := ⟨Tryd.func77, by kernel_rfl, Tryd.ntmps77, by kernel_rfl, by kernel_rfl⟩
def F : Clee := ofL []
theorem FOk_ : FOk pr F := FOk_nil
def P1 (Kv : Value → World → Prop) : Post := bodyK false pr 14 Tryd.f77 Kv
end tocsinref01_turn
def tocsinref01_turn (n_2 : Int) (w : World) (K : tocsinref01_turn.KT) : Prop :=
  G.cond (decide (n_2 ≥ (0 : Int))) (K (IntKind.u64.wrap ((2 : Int) * (IntKind.u64.wrap n_2))) w) (K (IntKind.u64.wrap ((IntKind.u64.wrap ((2 : Int) * (IntKind.u64.wrap (IntKind.i64.wrap (0 - (IntKind.i64.wrap (n_2 + (1 : Int)))))))) + (1 : Int))) w)
def tocsinref01_turn.cl : CL := fun args K w => match args with
  | [.int .i64 x0] => C.tocsinref01_turn x0 w (tocsinref01_turn.Kt K)
  | _ => False
theorem tocsinref01_turn.clok : OkC pr 77 tocsinref01_turn.cl := by
  intro args K w h
  unfold tocsinref01_turn.cl at h
  split at h
  · exact calls_last false mixed tocsinref01_turn.FOk_ tocsinref01_turn.fn rfl (Eq.mp (by kernel_rfl) h)
  · exact h.elim

/-! tocsin/tocsinref01.PutI -/
namespace tocsinref01_PutI
abbrev KT := Sl → World → Prop
def Kt (Kv : Value → World → Prop) : KT := fun l1 w => Kv l1.v w
noncomputable def bd : Code := bdy Tryd.f59
theorem fn : FnOk pr 59 9 Tryd.f59 := ⟨Tryd.func59, by kernel_rfl, Tryd.ntmps59, by kernel_rfl, by kernel_rfl⟩
def F : Clee := ofL [(61, C.tocsinref01_PutU.cl), (77, C.tocsinref01_turn.cl)]
theorem FOk_ : FOk pr F := FOk_cons C.tocsinref01_PutU.clok (FOk_cons C.tocsinref01_turn.clok (FOk_nil))
def P1 (Kv : Value → World → Prop) : Post := bodyK false pr 9 Tryd.f59 Kv
end tocsinref01_PutI
def tocsinref01_PutI (b_2 : Sl) (n_3 : Int) (w : World) (K : tocsinref01_PutI.KT) : Prop :=
  C.tocsinref01_turn n_3 w fun n4 w5 => C.tocsinref01_PutU b_2 n4 w5 fun l6 w7 => K l6 w7
def tocsinref01_PutI.cl : CL := fun args K w => match args with
  | [.slice x0_a x0_n x0_c, .int .i64 x1] => C.tocsinref01_PutI ⟨x0_a, x0_n, x0_c⟩ x1 w (tocsinref01_PutI.Kt K)
  | _ => False
theorem tocsinref01_PutI.clok : OkC pr 59 tocsinref01_PutI.cl := by
  intro args K w h
  unfold tocsinref01_PutI.cl at h
  split at h
  · exact calls_last false mixed tocsinref01_PutI.FOk_ tocsinref01_PutI.fn rfl (Eq.mp (by kernel_rfl) h)
  · exact h.elim

/-! tocsin/tocsinref08.lead -/
namespace tocsinref08_lead
abbrev KT := Int → World → Prop
def Kt (Kv : Value → World → Prop) : KT := fun n1 w => Kv (.int .i64 n1) w
noncomputable def bd : Code := bdy Tryd.f79
theorem fn : FnOk pr 79 18 Tryd.f79 := ⟨Tryd.func79, by kernel_rfl, Tryd.ntmps79, by kernel_rfl, by kernel_rfl⟩
def F : Clee := ofL []
theorem FOk_ : FOk pr F := FOk_nil
def P1 (Kv : Value → World → Prop) : Post := bodyK false pr 18 Tryd.f79 Kv
@[reducible] def g2 : List SE := [.v 3 (.int .i64)]
def S2 (K : KT) (n_3 : Int) (w : World) : Prop :=
  K n_3 w
theorem S2_ok (Kv : Value → World → Prop) : OkT pr false none 18 g2 (S2 (Kt Kv)) (s2 (tl 2 bd)) (P1 Kv) := ok_last mixed FOk_ fun v ρ w => by kernel_rfl
def P3 (Kv : Value → World → Prop) : Post := next (get g2 (S2 (Kt Kv))) (P1 Kv)
def P4 (Kv : Value → World → Prop) : Post := inBlock 0 (P3 Kv)
@[reducible] def g5 : List SE := [.v 0 (.int .u64), .v 3 (.int .i64)]
def P6 (Kv : Value → World → Prop) (kc5 : Cur g5) : Post := next (get g5 kc5) (P4 Kv)
def S7 (K : KT) (kc5 : Cur g5) (x_6 : Int) (n_7 : Int) (w : World) : Prop :=
  G.cond (decide (n_7 < (31 : Int))) (G.nn (IntKind.u64.wrap (IntKind.i64.wrap ((63 : Int) - n_7))) <| G.cond ((Go.bits .and .u64 (shr .u64 x_6 (IntKind.u64.wrap (IntKind.i64.wrap ((63 : Int) - n_7)))) (1 : Int)) == (0 : Int)) (kc5 x_6 (IntKind.i64.wrap (n_7 + (1 : Int))) w) (S2 K n_7 w)) (S2 K n_7 w)
theorem S7_ok (Kv : Value → World → Prop) (kc5 : Cur g5) : OkT pr false none 18 g5 (S7 (Kt Kv) kc5) (lp (blk (s1 (tl 2 bd)))) (P6 Kv kc5) := ok_last mixed FOk_ fun v ρ w => by kernel_rfl
def L5 (K : KT) : Cur g5 := loopC g5 (S7 K)
theorem L5_ok (Kv : Value → World → Prop) : OkT pr false none 18 g5 (L5 (Kt Kv)) (blk (s1 (tl 2 bd))) (P4 Kv) := ok_loop (B := S7 (Kt Kv)) (by kernel_rfl) fun kc => S7_ok Kv kc
theorem L5_ind {K : KT} {x_4 : Int} {n_5 : Int} {w : World} (h : ∀ X : Cur g5, (∀ x_4 n_5 w, S7 K X x_4 n_5 w → X x_4 n_5 w) → X x_4 n_5 w) : L5 K x_4 n_5 w := fun X hX => h X fun x_4 n_5 w hb => hX (x_4, n_5, ()) w hb
theorem B8 (Kv : Value → World → Prop) : OkT pr false none 18 g5 (L5 (Kt Kv)) (s1 (tl 2 bd)) (P3 Kv) := ok_block 0 (by kernel_rfl) (L5_ok Kv)
theorem Q9 (Kv : Value → World → Prop) : OkT pr false none 18 g5 (L5 (Kt Kv)) (tl 2 bd) (P1 Kv) := ok_seq (by kernel_rfl) (S2_ok Kv) (B8 Kv)
end tocsinref08_lead
def tocsinref08_lead (x_2 : Int) (w : World) (K : tocsinref08_lead.KT) : Prop :=
  tocsinref08_lead.L5 K x_2 (0 : Int) w
def tocsinref08_lead.cl : CL := fun args K w => match args with
  | [.int .u64 x0] => C.tocsinref08_lead x0 w (tocsinref08_lead.Kt K)
  | _ => False
theorem tocsinref08_lead.clok : OkC pr 79 tocsinref08_lead.cl := by
  intro args K w h
  unfold tocsinref08_lead.cl at h
  split at h
  · exact calls_group false mixed tocsinref08_lead.FOk_ tocsinref08_lead.fn rfl 2 (tocsinref08_lead.Q9 K) (Eq.mp (by kernel_rfl) h)
  · exact h.elim

/-! tocsin/tocsinref08.trail -/
namespace tocsinref08_trail
abbrev KT := Int → World → Prop
def Kt (Kv : Value → World → Prop) : KT := fun n1 w => Kv (.int .i64 n1) w
noncomputable def bd : Code := bdy Tryd.f80
theorem fn : FnOk pr 80 13 Tryd.f80 := ⟨Tryd.func80, by kernel_rfl, Tryd.ntmps80, by kernel_rfl, by kernel_rfl⟩
def F : Clee := ofL []
theorem FOk_ : FOk pr F := FOk_nil
def P1 (Kv : Value → World → Prop) : Post := bodyK false pr 13 Tryd.f80 Kv
@[reducible] def g2 : List SE := [.v 3 (.int .i64)]
def S2 (K : KT) (n_3 : Int) (w : World) : Prop :=
  K n_3 w
theorem S2_ok (Kv : Value → World → Prop) : OkT pr false none 13 g2 (S2 (Kt Kv)) (s2 (tl 2 bd)) (P1 Kv) := ok_last mixed FOk_ fun v ρ w => by kernel_rfl
def P3 (Kv : Value → World → Prop) : Post := next (get g2 (S2 (Kt Kv))) (P1 Kv)
def P4 (Kv : Value → World → Prop) : Post := inBlock 0 (P3 Kv)
@[reducible] def g5 : List SE := [.v 0 (.int .u64), .v 3 (.int .i64)]
def P6 (Kv : Value → World → Prop) (kc5 : Cur g5) : Post := next (get g5 kc5) (P4 Kv)
def S7 (K : KT) (kc5 : Cur g5) (x_6 : Int) (n_7 : Int) (w : World) : Prop :=
  G.nn (IntKind.u64.wrap n_7) <| G.cond ((Go.bits .and .u64 (shr .u64 x_6 (IntKind.u64.wrap n_7)) (1 : Int)) == (0 : Int)) (kc5 x_6 (IntKind.i64.wrap (n_7 + (1 : Int))) w) (S2 K n_7 w)
theorem S7_ok (Kv : Value → World → Prop) (kc5 : Cur g5) : OkT pr false none 13 g5 (S7 (Kt Kv) kc5) (lp (blk (s1 (tl 2 bd)))) (P6 Kv kc5) := ok_last mixed FOk_ fun v ρ w => by kernel_rfl
def L5 (K : KT) : Cur g5 := loopC g5 (S7 K)
theorem L5_ok (Kv : Value → World → Prop) : OkT pr false none 13 g5 (L5 (Kt Kv)) (blk (s1 (tl 2 bd))) (P4 Kv) := ok_loop (B := S7 (Kt Kv)) (by kernel_rfl) fun kc => S7_ok Kv kc
theorem L5_ind {K : KT} {x_4 : Int} {n_5 : Int} {w : World} (h : ∀ X : Cur g5, (∀ x_4 n_5 w, S7 K X x_4 n_5 w → X x_4 n_5 w) → X x_4 n_5 w) : L5 K x_4 n_5 w := fun X hX => h X fun x_4 n_5 w hb => hX (x_4, n_5, ()) w hb
theorem B8 (Kv : Value → World → Prop) : OkT pr false none 13 g5 (L5 (Kt Kv)) (s1 (tl 2 bd)) (P3 Kv) := ok_block 0 (by kernel_rfl) (L5_ok Kv)
theorem Q9 (Kv : Value → World → Prop) : OkT pr false none 13 g5 (L5 (Kt Kv)) (tl 2 bd) (P1 Kv) := ok_seq (by kernel_rfl) (S2_ok Kv) (B8 Kv)
end tocsinref08_trail
def tocsinref08_trail (x_2 : Int) (w : World) (K : tocsinref08_trail.KT) : Prop :=
  tocsinref08_trail.L5 K x_2 (0 : Int) w
def tocsinref08_trail.cl : CL := fun args K w => match args with
  | [.int .u64 x0] => C.tocsinref08_trail x0 w (tocsinref08_trail.Kt K)
  | _ => False
theorem tocsinref08_trail.clok : OkC pr 80 tocsinref08_trail.cl := by
  intro args K w h
  unfold tocsinref08_trail.cl at h
  split at h
  · exact calls_group false mixed tocsinref08_trail.FOk_ tocsinref08_trail.fn rfl 2 (tocsinref08_trail.Q9 K) (Eq.mp (by kernel_rfl) h)
  · exact h.elim

/-! tocsin/tocsinref02.Low -/
namespace tocsinref02_Low
abbrev KT := Int → World → Prop
def Kt (Kv : Value → World → Prop) : KT := fun n1 w => Kv (.int .u64 n1) w
noncomputable def bd : Code := bdy Tryd.f81
theorem fn : FnOk pr 81 16 Tryd.f81 := ⟨Tryd.func81, by kernel_rfl, Tryd.ntmps81, by kernel_rfl, by kernel_rfl⟩
def F : Clee := ofL []
theorem FOk_ : FOk pr F := FOk_nil
def P1 (Kv : Value → World → Prop) : Post := bodyK false pr 16 Tryd.f81 Kv
end tocsinref02_Low
def tocsinref02_Low (n_2 : Int) (k_3 : Int) (w : World) (K : tocsinref02_Low.KT) : Prop :=
  G.cond (decide (k_3 ≥ (64 : Int))) (K (IntKind.u64.wrap n_2) w) (G.nn (IntKind.u64.wrap k_3) <| K (Go.bits .and .u64 (IntKind.u64.wrap n_2) (IntKind.u64.wrap ((shl .u64 (1 : Int) (IntKind.u64.wrap k_3)) - (1 : Int)))) w)
def tocsinref02_Low.cl : CL := fun args K w => match args with
  | [.int .i64 x0, .int .i64 x1] => C.tocsinref02_Low x0 x1 w (tocsinref02_Low.Kt K)
  | _ => False
theorem tocsinref02_Low.clok : OkC pr 81 tocsinref02_Low.cl := by
  intro args K w h
  unfold tocsinref02_Low.cl at h
  split at h
  · exact calls_last false mixed tocsinref02_Low.FOk_ tocsinref02_Low.fn rfl (Eq.mp (by kernel_rfl) h)
  · exact h.elim

/-! (*tocsin/tocsinref08.State).value -/
namespace tocsinref08_State_value
abbrev KT := World → Prop
def Kt (Kv : Value → World → Prop) : KT := fun  w => Kv (.tuple #[]) w
noncomputable def bd : Code := bdy Tryd.f62
theorem fn : FnOk pr 62 107 Tryd.f62 := ⟨Tryd.func62, by kernel_rfl, Tryd.ntmps62, by kernel_rfl, by kernel_rfl⟩
def F : Clee := ofL [(60, C.tocsinref02_Stream_Write.cl), (79, C.tocsinref08_lead.cl), (80, C.tocsinref08_trail.cl), (81, C.tocsinref02_Low.cl)]
theorem FOk_ : FOk pr F := FOk_cons C.tocsinref02_Stream_Write.clok (FOk_cons C.tocsinref08_lead.clok (FOk_cons C.tocsinref08_trail.clok (FOk_cons C.tocsinref02_Low.clok (FOk_nil))))
def P1 (Kv : Value → World → Prop) : Post := bodyK false pr 107 Tryd.f62 Kv
@[reducible] def g2 : List SE := [.v 0 .ptr, .v 1 .ptr, .v 6 (.int .u64), .v 7 (.int .i64), .v 8 (.int .i64)]
def S2 (K : KT) (p_10 : Option Addr) (s_11 : Option Addr) (x_12 : Int) (l_13 : Int) (t_14 : Int) (w : World) : Prop :=
  C.tocsinref02_Stream_Write s_11 (1 : Int) (1 : Int) w fun w15 => C.tocsinref02_Stream_Write s_11 (IntKind.u64.wrap l_13) (5 : Int) w15 fun w16 => G.nz (64 : Int) <| C.tocsinref02_Stream_Write s_11 (IntKind.u64.wrap (Int.tmod (IntKind.i64.wrap ((IntKind.i64.wrap ((64 : Int) - l_13)) - t_14)) (64 : Int))) (6 : Int) w16 fun w17 => G.nn (IntKind.u64.wrap t_14) <| C.tocsinref02_Stream_Write s_11 (shr .u64 x_12 (IntKind.u64.wrap t_14)) (IntKind.i64.wrap ((IntKind.i64.wrap ((64 : Int) - l_13)) - t_14)) w17 fun w18 => G.ptr p_10 fun p19 => G.st (p19.add 3) (.int .i64 l_13) w18 fun w20 => G.ptr p_10 fun p21 => G.st (p21.add 4) (.int .i64 t_14) w20 fun w22 => K w22
theorem S2_ok (Kv : Value → World → Prop) : OkT pr false none 107 g2 (S2 (Kt Kv)) (tl 6 bd) (P1 Kv) := ok_last mixed FOk_ fun v ρ w => by kernel_rfl
end tocsinref08_State_value
def tocsinref08_State_value (p_1 : Option Addr) (s_2 : Option Addr) (v_3 : Int) (w : World) (K : tocsinref08_State_value.KT) : Prop :=
  G.ptr p_1 fun p23 => G.cI .u64 (p23.add 2) w fun n24 => G.ptr p_1 fun p25 => G.st (p25.add 2) (.int .u64 v_3) w fun w26 => G.cond ((Go.bits .xor .u64 v_3 n24) == (0 : Int)) (C.tocsinref02_Stream_Write s_2 (0 : Int) (1 : Int) w26 fun w27 => K w27) (C.tocsinref02_Stream_Write s_2 (1 : Int) (1 : Int) w26 fun w28 => C.tocsinref08_lead (Go.bits .xor .u64 v_3 n24) w28 fun n29 w30 => C.tocsinref08_trail (Go.bits .xor .u64 v_3 n24) w30 fun n31 w32 => G.ptr p_1 fun p33 => G.cI .i64 (p33.add 3) w32 fun n34 => G.cond (decide (n34 < (64 : Int))) (G.ptr p_1 fun p35 => G.cI .i64 (p35.add 3) w32 fun n36 => G.cond (decide (n29 ≥ n36)) (G.ptr p_1 fun p37 => G.cI .i64 (p37.add 4) w32 fun n38 => G.cond (decide (n31 ≥ n38)) (G.ptr p_1 fun p39 => G.cI .i64 (p39.add 3) w32.drew fun n40 => G.ptr p_1 fun p41 => G.cI .i64 (p41.add 4) w32.drew fun n42 => C.tocsinref02_Stream_Write s_2 (0 : Int) (1 : Int) w32.drew fun w43 => G.ptr p_1 fun p44 => G.cI .i64 (p44.add 4) w43 fun n45 => G.nn (IntKind.u64.wrap n45) <| C.tocsinref02_Low (IntKind.i64.wrap (shr .u64 (Go.bits .xor .u64 v_3 n24) (IntKind.u64.wrap n45))) (IntKind.i64.wrap ((IntKind.i64.wrap ((64 : Int) - n40)) - n42)) w43 fun n46 w47 => C.tocsinref02_Stream_Write s_2 n46 (IntKind.i64.wrap ((IntKind.i64.wrap ((64 : Int) - n40)) - n42)) w47 fun w48 => K w48) (tocsinref08_State_value.S2 K p_1 s_2 (Go.bits .xor .u64 v_3 n24) n29 n31 w32)) (tocsinref08_State_value.S2 K p_1 s_2 (Go.bits .xor .u64 v_3 n24) n29 n31 w32)) (tocsinref08_State_value.S2 K p_1 s_2 (Go.bits .xor .u64 v_3 n24) n29 n31 w32))
def tocsinref08_State_value.cl : CL := fun args K w => match args with
  | [.pointer x0, .pointer x1, .int .u64 x2] => C.tocsinref08_State_value x0 x1 x2 w (tocsinref08_State_value.Kt K)
  | _ => False
theorem tocsinref08_State_value.clok : OkC pr 62 tocsinref08_State_value.cl := by
  intro args K w h
  unfold tocsinref08_State_value.cl at h
  split at h
  · exact calls_group false mixed tocsinref08_State_value.FOk_ tocsinref08_State_value.fn rfl 6 (tocsinref08_State_value.S2_ok K) (Eq.mp (by kernel_rfl) h)
  · exact h.elim

/-! tocsin/tocsinref02.In -/
namespace tocsinref02_In
abbrev KT := Bool → World → Prop
def Kt (Kv : Value → World → Prop) : KT := fun b1 w => Kv (.bool b1) w
noncomputable def bd : Code := bdy Tryd.f82
theorem fn : FnOk pr 82 20 Tryd.f82 := ⟨Tryd.func82, by kernel_rfl, Tryd.ntmps82, by kernel_rfl, by kernel_rfl⟩
def F : Clee := ofL []
theorem FOk_ : FOk pr F := FOk_nil
def P1 (Kv : Value → World → Prop) : Post := bodyK false pr 20 Tryd.f82 Kv
end tocsinref02_In
def tocsinref02_In (n_2 : Int) (k_3 : Int) (w : World) (K : tocsinref02_In.KT) : Prop :=
  G.nn (IntKind.u64.wrap (IntKind.i64.wrap (k_3 - (1 : Int)))) <| G.cond (decide (n_2 ≥ (IntKind.i64.wrap (0 - (IntKind.i64.wrap ((shl .i64 (1 : Int) (IntKind.u64.wrap (IntKind.i64.wrap (k_3 - (1 : Int))))) - (1 : Int))))))) (K (decide (n_2 ≤ (shl .i64 (1 : Int) (IntKind.u64.wrap (IntKind.i64.wrap (k_3 - (1 : Int))))))) w) (K false w)
def tocsinref02_In.cl : CL := fun args K w => match args with
  | [.int .i64 x0, .int .i64 x1] => C.tocsinref02_In x0 x1 w (tocsinref02_In.Kt K)
  | _ => False
theorem tocsinref02_In.clok : OkC pr 82 tocsinref02_In.cl := by
  intro args K w h
  unfold tocsinref02_In.cl at h
  split at h
  · exact calls_last false mixed tocsinref02_In.FOk_ tocsinref02_In.fn rfl (Eq.mp (by kernel_rfl) h)
  · exact h.elim

/-! tocsin/tocsinref08.time -/
namespace tocsinref08_time
abbrev KT := World → Prop
def Kt (Kv : Value → World → Prop) : KT := fun  w => Kv (.tuple #[]) w
noncomputable def bd : Code := bdy Tryd.f63
theorem fn : FnOk pr 63 42 Tryd.f63 := ⟨Tryd.func63, by kernel_rfl, Tryd.ntmps63, by kernel_rfl, by kernel_rfl⟩
def F : Clee := ofL [(60, C.tocsinref02_Stream_Write.cl), (81, C.tocsinref02_Low.cl), (82, C.tocsinref02_In.cl)]
theorem FOk_ : FOk pr F := FOk_cons C.tocsinref02_Stream_Write.clok (FOk_cons C.tocsinref02_Low.clok (FOk_cons C.tocsinref02_In.clok (FOk_nil)))
def P1 (Kv : Value → World → Prop) : Post := bodyK false pr 42 Tryd.f63 Kv
end tocsinref08_time
def tocsinref08_time (s_1 : Option Addr) (d_2 : Int) (w : World) (K : tocsinref08_time.KT) : Prop :=
  G.cond (d_2 == (0 : Int)) (C.tocsinref02_Stream_Write s_1 (0 : Int) (1 : Int) w fun w3 => K w3) (C.tocsinref02_In d_2 (14 : Int) w fun b4 w5 => G.cond b4 (C.tocsinref02_Stream_Write s_1 (2 : Int) (2 : Int) w5 fun w6 => C.tocsinref02_Low d_2 (14 : Int) w6 fun n7 w8 => C.tocsinref02_Stream_Write s_1 n7 (14 : Int) w8 fun w9 => K w9) (C.tocsinref02_In d_2 (17 : Int) w5 fun b10 w11 => G.cond b10 (C.tocsinref02_Stream_Write s_1 (6 : Int) (3 : Int) w11 fun w12 => C.tocsinref02_Low d_2 (17 : Int) w12 fun n13 w14 => C.tocsinref02_Stream_Write s_1 n13 (17 : Int) w14 fun w15 => K w15) (C.tocsinref02_In d_2 (20 : Int) w11 fun b16 w17 => G.cond b16 (C.tocsinref02_Stream_Write s_1 (14 : Int) (4 : Int) w17 fun w18 => C.tocsinref02_Low d_2 (20 : Int) w18 fun n19 w20 => C.tocsinref02_Stream_Write s_1 n19 (20 : Int) w20 fun w21 => K w21) (C.tocsinref02_Stream_Write s_1 (15 : Int) (4 : Int) w17 fun w22 => C.tocsinref02_Stream_Write s_1 (IntKind.u64.wrap d_2) (64 : Int) w22 fun w23 => K w23))))
def tocsinref08_time.cl : CL := fun args K w => match args with
  | [.pointer x0, .int .i64 x1] => C.tocsinref08_time x0 x1 w (tocsinref08_time.Kt K)
  | _ => False
theorem tocsinref08_time.clok : OkC pr 63 tocsinref08_time.cl := by
  intro args K w h
  unfold tocsinref08_time.cl at h
  split at h
  · exact calls_last false mixed tocsinref08_time.FOk_ tocsinref08_time.fn rfl (Eq.mp (by kernel_rfl) h)
  · exact h.elim

/-! (*tocsin/tocsinref08.State).Put -/
namespace tocsinref08_State_Put
abbrev KT := World → Prop
def Kt (Kv : Value → World → Prop) : KT := fun  w => Kv (.tuple #[]) w
noncomputable def bd : Code := bdy Tryd.f39
theorem fn : FnOk pr 39 80 Tryd.f39 := ⟨Tryd.func39, by kernel_rfl, Tryd.ntmps39, by kernel_rfl, by kernel_rfl⟩
def F : Clee := ofL [(35, C.tocsinref08_Bits.cl), (58, C.tocsinref08_whole.cl), (59, C.tocsinref01_PutI.cl), (60, C.tocsinref02_Stream_Write.cl), (61, C.tocsinref01_PutU.cl), (62, C.tocsinref08_State_value.cl), (63, C.tocsinref08_time.cl)]
theorem FOk_ : FOk pr F := FOk_cons C.tocsinref08_Bits.clok (FOk_cons C.tocsinref08_whole.clok (FOk_cons C.tocsinref01_PutI.clok (FOk_cons C.tocsinref02_Stream_Write.clok (FOk_cons C.tocsinref01_PutU.clok (FOk_cons C.tocsinref08_State_value.clok (FOk_cons C.tocsinref08_time.clok (FOk_nil)))))))
def P1 (Kv : Value → World → Prop) : Post := bodyK false pr 80 Tryd.f39 Kv
end tocsinref08_State_Put
def tocsinref08_State_Put (p_1 : Option Addr) (s_2 : Option Addr) (n_3 : Int) (x_4 : Int) (x_5 : Nat) (w : World) (K : tocsinref08_State_Put.KT) : Prop :=
  G.new (.cells #[(.int .i64 x_4), (.float .f64 x_5)] 26) w fun p6 w7 => G.cF .f64 (p6.add 1) w7 fun f8 => C.tocsinref08_Bits f8 w7 fun n9 w10 => G.cond (n_3 == (0 : Int)) (G.cI .i64 p6 w10 fun n11 => C.tocsinref01_PutI nilS n11 w10 fun l12 w13 => C.tocsinref08_whole s_2 l12 w13 fun w14 => C.tocsinref02_Stream_Write s_2 n9 (64 : Int) w14 fun w15 => G.ptr p_1 fun p16 => G.st (p16.add 2) (.int .u64 n9) w15 fun w17 => G.cI .i64 p6 w17 fun n18 => G.ptr p_1 fun p19 => G.st p19 (.int .i64 n18) w17 fun w20 => K w20) (G.cond (n_3 == (1 : Int)) (G.cI .i64 p6 w10.drew fun n21 => G.ptr p_1 fun p22 => G.cI .i64 p22 w10.drew fun n23 => G.ptr p_1 fun p24 => G.st (p24.add 1) (.int .i64 (IntKind.i64.wrap (n21 - n23))) w10.drew fun w25 => G.ptr p_1 fun p26 => G.cI .i64 (p26.add 1) w25 fun n27 => C.tocsinref01_PutU nilS (IntKind.u64.wrap n27) w25 fun l28 w29 => C.tocsinref08_whole s_2 l28 w29 fun w30 => C.tocsinref08_State_value p_1 s_2 n9 w30 fun w31 => G.cI .i64 p6 w31 fun n32 => G.ptr p_1 fun p33 => G.st p33 (.int .i64 n32) w31 fun w34 => K w34) (G.cI .i64 p6 w10.drew fun n35 => G.ptr p_1 fun p36 => G.cI .i64 p36 w10.drew fun n37 => G.ptr p_1 fun p38 => G.cI .i64 (p38.add 1) w10.drew fun n39 => C.tocsinref08_time s_2 (IntKind.i64.wrap ((IntKind.i64.wrap (n35 - n37)) - n39)) w10.drew fun w40 => G.ptr p_1 fun p41 => G.st (p41.add 1) (.int .i64 (IntKind.i64.wrap (n35 - n37))) w40 fun w42 => C.tocsinref08_State_value p_1 s_2 n9 w42 fun w43 => G.cI .i64 p6 w43 fun n44 => G.ptr p_1 fun p45 => G.st p45 (.int .i64 n44) w43 fun w46 => K w46))
def tocsinref08_State_Put.cl : CL := fun args K w => match args with
  | [.pointer x0, .pointer x1, .int .i64 x2, .agg ⟨[.int .i64 x3_0, .float .f64 x3_1]⟩] => C.tocsinref08_State_Put x0 x1 x2 x3_0 x3_1 w (tocsinref08_State_Put.Kt K)
  | _ => False
theorem tocsinref08_State_Put.clok : OkC pr 39 tocsinref08_State_Put.cl := by
  intro args K w h
  unfold tocsinref08_State_Put.cl at h
  split at h
  · exact calls_last false mixed tocsinref08_State_Put.FOk_ tocsinref08_State_Put.fn rfl (Eq.mp (by kernel_rfl) h)
  · exact h.elim

/-! (*tocsin/tocsinref02.Stream).Bytes -/
namespace tocsinref02_Stream_Bytes
abbrev KT := Sl → World → Prop
def Kt (Kv : Value → World → Prop) : KT := fun l1 w => Kv l1.v w
noncomputable def bd : Code := bdy Tryd.f40
theorem fn : FnOk pr 40 41 Tryd.f40 := ⟨Tryd.func40, by kernel_rfl, Tryd.ntmps40, by kernel_rfl, by kernel_rfl⟩
def F : Clee := ofL []
theorem FOk_ : FOk pr F := FOk_nil
def P1 (Kv : Value → World → Prop) : Post := bodyK false pr 41 Tryd.f40 Kv
@[reducible] def g2 : List SE := [.v 3 .sl]
def S2 (K : KT) (out_3 : Sl) (w : World) : Prop :=
  K out_3 w
theorem S2_ok (Kv : Value → World → Prop) : OkT pr false none 41 g2 (S2 (Kt Kv)) (s2 (tl 2 bd)) (P1 Kv) := ok_last mixed FOk_ fun v ρ w => by kernel_rfl
def P3 (Kv : Value → World → Prop) : Post := next (get g2 (S2 (Kt Kv))) (P1 Kv)
def P4 (Kv : Value → World → Prop) : Post := inBlock 0 (P3 Kv)
@[reducible] def g5 : List SE := [.v 3 .sl, .v 17 .sl, .v 18 (.int .i64), .v 19 (.int .i64)]
def P6 (Kv : Value → World → Prop) (kc5 : Cur g5) : Post := next (get g5 kc5) (P4 Kv)
def S7 (K : KT) (kc5 : Cur g5) (out_12 : Sl) (l13 : Sl) (n14 : Int) (n15 : Int) (w : World) : Prop :=
  G.cond (decide (n15 < n14)) (G.ix l13.a l13.n n15 1 fun p16 => G.cB p16 w fun b17 => G.cond b17 (G.nz (8 : Int) <| G.nz (8 : Int) <| G.ix out_12.a out_12.n (IntKind.i64.wrap (Int.tdiv n15 (8 : Int))) 1 fun p18 => G.cI .u8 p18 w fun n19 => G.nz (8 : Int) <| G.nn (IntKind.u64.wrap (Int.tmod n15 (8 : Int))) <| G.ix out_12.a out_12.n (IntKind.i64.wrap (Int.tdiv n15 (8 : Int))) 1 fun p20 => G.st p20 (.int .u8 (Go.bits .or .u8 n19 (shr .u8 (128 : Int) (IntKind.u64.wrap (Int.tmod n15 (8 : Int)))))) w fun w21 => kc5 out_12 l13 n14 (IntKind.i64.wrap (n15 + (1 : Int))) w21) (kc5 out_12 l13 n14 (IntKind.i64.wrap (n15 + (1 : Int))) w)) (S2 K out_12 w)
theorem S7_ok (Kv : Value → World → Prop) (kc5 : Cur g5) : OkT pr false none 41 g5 (S7 (Kt Kv) kc5) (lp (blk (tl 1 (s1 (tl 2 bd))))) (P6 Kv kc5) := ok_last mixed FOk_ fun v ρ w => by kernel_rfl
def L5 (K : KT) : Cur g5 := loopC g5 (S7 K)
theorem L5_ok (Kv : Value → World → Prop) : OkT pr false none 41 g5 (L5 (Kt Kv)) (blk (tl 1 (s1 (tl 2 bd)))) (P4 Kv) := ok_loop (B := S7 (Kt Kv)) (by kernel_rfl) fun kc => S7_ok Kv kc
theorem L5_ind {K : KT} {out_4 : Sl} {l5 : Sl} {n6 : Int} {n7 : Int} {w : World} (h : ∀ X : Cur g5, (∀ out_4 l5 n6 n7 w, S7 K X out_4 l5 n6 n7 w → X out_4 l5 n6 n7 w) → X out_4 l5 n6 n7 w) : L5 K out_4 l5 n6 n7 w := fun X hX => h X fun out_4 l5 n6 n7 w hb => hX (out_4, l5, n6, n7, ()) w hb
theorem B8 (Kv : Value → World → Prop) : OkT pr false none 41 g5 (L5 (Kt Kv)) (tl 1 (s1 (tl 2 bd))) (P3 Kv) := ok_block 0 (by kernel_rfl) (L5_ok Kv)
@[reducible] def g9 : List SE := [.v 0 .ptr, .v 3 .sl]
def S9 (K : KT) (s_22 : Option Addr) (out_23 : Sl) (w : World) : Prop :=
  G.ptr s_22 fun p24 => G.cSl p24 w fun l25 => L5 K out_23 l25 ((l25.n : Nat) : Int) (0 : Int) w
theorem S9_ok (Kv : Value → World → Prop) : OkT pr false none 41 g9 (S9 (Kt Kv)) (s1 (tl 2 bd)) (P3 Kv) := ok_group mixed FOk_ 1 (B8 Kv) fun v ρ w => by kernel_rfl
theorem Q10 (Kv : Value → World → Prop) : OkT pr false none 41 g9 (S9 (Kt Kv)) (tl 2 bd) (P1 Kv) := ok_seq (by kernel_rfl) (S2_ok Kv) (S9_ok Kv)
end tocsinref02_Stream_Bytes
def tocsinref02_Stream_Bytes (s_2 : Option Addr) (w : World) (K : tocsinref02_Stream_Bytes.KT) : Prop :=
  G.ptr s_2 fun p26 => G.cSl p26 w fun l27 => G.nz (8 : Int) <| G.runSl pr (Instr.makeSlice 27 (.int .i64 (IntKind.i64.wrap (Int.tdiv (IntKind.i64.wrap (((l27.n : Nat) : Int) + (7 : Int))) (8 : Int)))) (.int .i64 (IntKind.i64.wrap (Int.tdiv (IntKind.i64.wrap (((l27.n : Nat) : Int) + (7 : Int))) (8 : Int))))) w fun l28 w29 => tocsinref02_Stream_Bytes.S9 K s_2 l28 w29
def tocsinref02_Stream_Bytes.cl : CL := fun args K w => match args with
  | [.pointer x0] => C.tocsinref02_Stream_Bytes x0 w (tocsinref02_Stream_Bytes.Kt K)
  | _ => False
theorem tocsinref02_Stream_Bytes.clok : OkC pr 40 tocsinref02_Stream_Bytes.cl := by
  intro args K w h
  unfold tocsinref02_Stream_Bytes.cl at h
  split at h
  · exact calls_group false mixed tocsinref02_Stream_Bytes.FOk_ tocsinref02_Stream_Bytes.fn rfl 2 (tocsinref02_Stream_Bytes.Q10 K) (Eq.mp (by kernel_rfl) h)
  · exact h.elim

/-! tocsin/tocsinref08.Bytes -/
namespace tocsinref08_Bytes
abbrev KT := Sl → World → Prop
def Kt (Kv : Value → World → Prop) : KT := fun l1 w => Kv l1.v w
noncomputable def bd : Code := bdy Tryd.f20
theorem fn : FnOk pr 20 37 Tryd.f20 := ⟨Tryd.func20, by kernel_rfl, Tryd.ntmps20, by kernel_rfl, by kernel_rfl⟩
def F : Clee := ofL [(38, C.tocsinref08_New.cl), (39, C.tocsinref08_State_Put.cl), (40, C.tocsinref02_Stream_Bytes.cl)]
theorem FOk_ : FOk pr F := FOk_cons C.tocsinref08_New.clok (FOk_cons C.tocsinref08_State_Put.clok (FOk_cons C.tocsinref02_Stream_Bytes.clok (FOk_nil)))
def P1 (Kv : Value → World → Prop) : Post := bodyK false pr 37 Tryd.f20 Kv
@[reducible] def g2 : List SE := [.v 0 .sl, .v 3 .ptr]
def S2 (K : KT) (l_3 : Sl) (s_4 : Option Addr) (w : World) : Prop :=
  G.nn (8 : Int) <| G.new (.cells #[(.int .u8 (IntKind.u8.wrap (shr .i64 ((l_3.n : Nat) : Int) (8 : Int)))), (.int .u8 (IntKind.u8.wrap ((l_3.n : Nat) : Int)))] 5) w fun p5 w6 => C.tocsinref02_Stream_Bytes s_4 w6 fun l7 w8 => G.runSl pr (Builtin.append_ #[27, 27] 27 #[(Sl.v (⟨some p5, 2, 2⟩ : Sl)), l7.v]) w8 fun l9 w10 => K l9 w10
theorem S2_ok (Kv : Value → World → Prop) : OkT pr false none 37 g2 (S2 (Kt Kv)) (s2 (tl 2 bd)) (P1 Kv) := ok_last mixed FOk_ fun v ρ w => by kernel_rfl
def P3 (Kv : Value → World → Prop) : Post := next (get g2 (S2 (Kt Kv))) (P1 Kv)
def P4 (Kv : Value → World → Prop) : Post := inBlock 0 (P3 Kv)
@[reducible] def g5 : List SE := [.v 0 .sl, .v 3 .ptr, .v 4 .ptr, .v 11 .sl, .v 12 (.int .i64), .v 13 (.int .i64)]
def P6 (Kv : Value → World → Prop) (kc5 : Cur g5) : Post := next (get g5 kc5) (P4 Kv)
def S7 (K : KT) (kc5 : Cur g5) (l_23 : Sl) (s_24 : Option Addr) (p_25 : Option Addr) (l26 : Sl) (n27 : Int) (n28 : Int) (w : World) : Prop :=
  G.cond (decide (n28 < n27)) (G.ix l26.a l26.n n28 2 fun p29 => G.cI .i64 p29 w fun n30 => G.cF .f64 (p29.add 1) w fun f31 => G.new (.cells #[(.int .i64 (0 : Int)), (.float .f64 0)] 26) w fun p32 w33 => G.st p32 (.int .i64 n30) w33 fun w34 => G.st (p32.add 1) (.float .f64 f31) w34 fun w35 => G.cI .i64 p32 w35 fun n36 => G.cF .f64 (p32.add 1) w35 fun f37 => C.tocsinref08_State_Put p_25 s_24 n28 n36 f37 w35 fun w38 => kc5 l_23 s_24 p_25 l26 n27 (IntKind.i64.wrap (n28 + (1 : Int))) w38) (S2 K l_23 s_24 w)
theorem S7_ok (Kv : Value → World → Prop) (kc5 : Cur g5) : OkT pr false none 37 g5 (S7 (Kt Kv) kc5) (lp (blk (tl 1 (s1 (tl 2 bd))))) (P6 Kv kc5) := ok_last mixed FOk_ fun v ρ w => by kernel_rfl
def L5 (K : KT) : Cur g5 := loopC g5 (S7 K)
theorem L5_ok (Kv : Value → World → Prop) : OkT pr false none 37 g5 (L5 (Kt Kv)) (blk (tl 1 (s1 (tl 2 bd)))) (P4 Kv) := ok_loop (B := S7 (Kt Kv)) (by kernel_rfl) fun kc => S7_ok Kv kc
theorem L5_ind {K : KT} {l_11 : Sl} {s_12 : Option Addr} {p_13 : Option Addr} {l14 : Sl} {n15 : Int} {n16 : Int} {w : World} (h : ∀ X : Cur g5, (∀ l_11 s_12 p_13 l14 n15 n16 w, S7 K X l_11 s_12 p_13 l14 n15 n16 w → X l_11 s_12 p_13 l14 n15 n16 w) → X l_11 s_12 p_13 l14 n15 n16 w) : L5 K l_11 s_12 p_13 l14 n15 n16 w := fun X hX => h X fun l_11 s_12 p_13 l14 n15 n16 w hb => hX (l_11, s_12, p_13, l14, n15, n16, ()) w hb
theorem B8 (Kv : Value → World → Prop) : OkT pr false none 37 g5 (L5 (Kt Kv)) (tl 1 (s1 (tl 2 bd))) (P3 Kv) := ok_block 0 (by kernel_rfl) (L5_ok Kv)
@[reducible] def g9 : List SE := [.v 0 .sl, .v 3 .ptr, .v 4 .ptr]
def S9 (K : KT) (l_39 : Sl) (s_40 : Option Addr) (p_41 : Option Addr) (w : World) : Prop :=
  L5 K l_39 s_40 p_41 l_39 ((l_39.n : Nat) : Int) (0 : Int) w
theorem S9_ok (Kv : Value → World → Prop) : OkT pr false none 37 g9 (S9 (Kt Kv)) (s1 (tl 2 bd)) (P3 Kv) := ok_group mixed FOk_ 1 (B8 Kv) fun v ρ w => by kernel_rfl
theorem Q10 (Kv : Value → World → Prop) : OkT pr false none 37 g9 (S9 (Kt Kv)) (tl 2 bd) (P1 Kv) := ok_seq (by kernel_rfl) (S2_ok Kv) (S9_ok Kv)
end tocsinref08_Bytes
def tocsinref08_Bytes (l_2 : Sl) (w : World) (K : tocsinref08_Bytes.KT) : Prop :=
  G.new (.cells #[nilS.v, (.int .i64 (0 : Int))] 78) w fun p42 w43 => C.tocsinref08_New w43 fun p44 w45 => tocsinref08_Bytes.S9 K l_2 (some p42) p44 w45
def tocsinref08_Bytes.cl : CL := fun args K w => match args with
  | [.slice x0_a x0_n x0_c] => C.tocsinref08_Bytes ⟨x0_a, x0_n, x0_c⟩ w (tocsinref08_Bytes.Kt K)
  | _ => False
theorem tocsinref08_Bytes.clok : OkC pr 20 tocsinref08_Bytes.cl := by
  intro args K w h
  unfold tocsinref08_Bytes.cl at h
  split at h
  · exact calls_group false mixed tocsinref08_Bytes.FOk_ tocsinref08_Bytes.fn rfl 2 (tocsinref08_Bytes.Q10 K) (Eq.mp (by kernel_rfl) h)
  · exact h.elim

/-! tocsin/tocsinlaw08.spoil -/
namespace tocsinlaw08_spoil
abbrev KT := World → Prop
def Kt (Kv : Value → World → Prop) : KT := fun  w => Kv (.tuple #[]) w
noncomputable def bd : Code := bdy Tryd.f21
theorem fn : FnOk pr 21 12 Tryd.f21 := ⟨Tryd.func21, by kernel_rfl, Tryd.ntmps21, by kernel_rfl, by kernel_rfl⟩
def F : Clee := ofL []
theorem FOk_ : FOk pr F := FOk_nil
def P1 (Kv : Value → World → Prop) : Post := bodyK false pr 12 Tryd.f21 Kv
def P2 (Kv : Value → World → Prop) : Post := inBlock 0 (P1 Kv)
@[reducible] def g3 : List SE := [.v 0 .sl, .v 4 (.int .i64), .v 5 (.int .i64)]
def P4 (Kv : Value → World → Prop) (kc3 : Cur g3) : Post := next (get g3 kc3) (P2 Kv)
def S5 (K : KT) (kc3 : Cur g3) (b_8 : Sl) (n9 : Int) (n10 : Int) (w : World) : Prop :=
  G.cond (decide (n10 < n9)) (G.ix b_8.a b_8.n n10 1 fun p11 => G.st p11 (.int .u8 (99 : Int)) w fun w12 => kc3 b_8 n9 (IntKind.i64.wrap (n10 + (1 : Int))) w12) (K w)
theorem S5_ok (Kv : Value → World → Prop) (kc3 : Cur g3) : OkT pr false none 12 g3 (S5 (Kt Kv) kc3) (lp (blk (tl 1 bd))) (P4 Kv kc3) := ok_last mixed FOk_ fun v ρ w => by kernel_rfl
def L3 (K : KT) : Cur g3 := loopC g3 (S5 K)
theorem L3_ok (Kv : Value → World → Prop) : OkT pr false none 12 g3 (L3 (Kt Kv)) (blk (tl 1 bd)) (P2 Kv) := ok_loop (B := S5 (Kt Kv)) (by kernel_rfl) fun kc => S5_ok Kv kc
theorem L3_ind {K : KT} {b_2 : Sl} {n3 : Int} {n4 : Int} {w : World} (h : ∀ X : Cur g3, (∀ b_2 n3 n4 w, S5 K X b_2 n3 n4 w → X b_2 n3 n4 w) → X b_2 n3 n4 w) : L3 K b_2 n3 n4 w := fun X hX => h X fun b_2 n3 n4 w hb => hX (b_2, n3, n4, ()) w hb
theorem B6 (Kv : Value → World → Prop) : OkT pr false none 12 g3 (L3 (Kt Kv)) (tl 1 bd) (P1 Kv) := ok_block 0 (by kernel_rfl) (L3_ok Kv)
end tocsinlaw08_spoil
def tocsinlaw08_spoil (b_1 : Sl) (w : World) (K : tocsinlaw08_spoil.KT) : Prop :=
  tocsinlaw08_spoil.L3 K b_1 ((b_1.n : Nat) : Int) (0 : Int) w
def tocsinlaw08_spoil.cl : CL := fun args K w => match args with
  | [.slice x0_a x0_n x0_c] => C.tocsinlaw08_spoil ⟨x0_a, x0_n, x0_c⟩ w (tocsinlaw08_spoil.Kt K)
  | _ => False
theorem tocsinlaw08_spoil.clok : OkC pr 21 tocsinlaw08_spoil.cl := by
  intro args K w h
  unfold tocsinlaw08_spoil.cl at h
  split at h
  · exact calls_group false mixed tocsinlaw08_spoil.FOk_ tocsinlaw08_spoil.fn rfl 1 (tocsinlaw08_spoil.B6 K) (Eq.mp (by kernel_rfl) h)
  · exact h.elim

/-! tocsin/tocsinlaw08.ChunkAppends -/
namespace tocsinlaw08_ChunkAppends
abbrev KT := Bool → World → Prop
def Kt (Kv : Value → World → Prop) : KT := fun b1 w => Kv (.bool b1) w
noncomputable def bd : Code := bdy Tryd.f4
theorem fn : FnOk pr 4 118 Tryd.f4 := ⟨Tryd.func4, by kernel_rfl, Tryd.ntmps4, by kernel_rfl, by kernel_rfl⟩
def F : Clee := ofL [(10, C.tocsinlaw08_awake.cl), (12, C.chunk_New.cl), (13, C.tocsinref08_Wrong.cl), (14, C.chunk_Chunk_Append.cl), (15, C.chunk_Chunk_Last.cl), (16, C.chunk_Chunk_Len.cl), (17, C.tocsinref08_Same.cl), (18, C.tocsinlaw08_every.cl), (19, C.chunk_Chunk_Bytes.cl), (20, C.tocsinref08_Bytes.cl), (21, C.tocsinlaw08_spoil.cl)]
theorem FOk_ : FOk pr F := FOk_cons C.tocsinlaw08_awake.clok (FOk_cons C.chunk_New.clok (FOk_cons C.tocsinref08_Wrong.clok (FOk_cons C.chunk_Chunk_Append.clok (FOk_cons C.chunk_Chunk_Last.clok (FOk_cons C.chunk_Chunk_Len.clok (FOk_cons C.tocsinref08_Same.clok (FOk_cons C.tocsinlaw08_every.clok (FOk_cons C.chunk_Chunk_Bytes.clok (FOk_cons C.tocsinref08_Bytes.clok (FOk_cons C.tocsinlaw08_spoil.clok (FOk_nil)))))))))))
def P1 (Kv : Value → World → Prop) : Post := bodyK false pr 118 Tryd.f4 Kv
@[reducible] def g2 : List SE := [.v 3 .ptr, .v 4 .sl]
def S2 (K : KT) (c_12 : Option Addr) (there_13 : Sl) (w : World) : Prop :=
  C.chunk_Chunk_Bytes c_12 w fun l14 w15 => G.rdS pr (Conv.bytesToString l14.v) w15.drew fun s16 => C.tocsinref08_Bytes there_13 w15.drew fun l17 w18 => isS pr l14 s16 w18 ∧ (G.rdS pr (Conv.bytesToString l17.v) w18 fun s19 => G.cond (!(s16.toList == s19.toList)) (K false w18) (C.tocsinlaw08_spoil l14 w18 fun w20 => C.chunk_Chunk_Bytes c_12 w20.drew fun l21 w22 => G.rdS pr (Conv.bytesToString l21.v) w22 fun s23 => C.tocsinref08_Bytes there_13 w22 fun l24 w25 => isS pr l21 s23 w25 ∧ (G.rdS pr (Conv.bytesToString l24.v) w25 fun s26 => G.cond (s23.toList == s26.toList) (C.tocsinlaw08_awake w25 fun b27 w28 => K b27 w28) (K false w25))))
theorem S2_ok (Kv : Value → World → Prop) : OkT pr false none 118 g2 (S2 (Kt Kv)) (tl 1 (tl 3 (s2 (tl 4 bd)))) (P1 Kv) := ok_last mixed FOk_ fun v ρ w => by kernel_rfl
def S3 (K : KT) (c_29 : Option Addr) (there_30 : Sl) (w : World) : Prop :=
  G.cond (decide (((there_30.n : Nat) : Int) > (1 : Int))) (G.slc there_30 0 (1 : Int) 2 fun l31 => C.tocsinlaw08_every c_29 (1 : Int) w.drew fun l32 w33 => C.tocsinref08_Same l32 l31 w33 fun b34 w35 => G.cond (!b34) (K false w35) (S2 K c_29 there_30 w35)) (S2 K c_29 there_30 w.drew)
theorem S3_ok (Kv : Value → World → Prop) : OkT pr false none 118 g2 (S3 (Kt Kv)) (tl 3 (s2 (tl 4 bd))) (P1 Kv) := ok_group mixed FOk_ 1 (S2_ok Kv) fun v ρ w => by kernel_rfl
def S4 (K : KT) (c_36 : Option Addr) (there_37 : Sl) (w : World) : Prop :=
  C.chunk_Chunk_Last c_36 w fun n38 f39 b40 w41 => G.new (.cells #[(.int .i64 (0 : Int)), (.float .f64 0)] 26) w41 fun p42 w43 => G.st p42 (.int .i64 n38) w43 fun w44 => G.st (p42.add 1) (.float .f64 f39) w44 fun w45 => C.chunk_Chunk_Len c_36 w45 fun n46 w47 => G.cond (n46 != ((there_37.n : Nat) : Int)) (K false w47) (G.cond (!(b40 == (decide (((there_37.n : Nat) : Int) > (0 : Int))))) (K false w47) (C.tocsinlaw08_every c_36 (1000 : Int) w47 fun l48 w49 => C.tocsinref08_Same l48 there_37 w49 fun b50 w51 => G.cond (!b50) (K false w51) (G.cond b40 (G.cI .i64 p42 w51.drew fun n52 => G.cF .f64 (p42.add 1) w51.drew fun f53 => G.slc there_37 (IntKind.i64.wrap (((there_37.n : Nat) : Int) - (1 : Int))) ((there_37.n : Nat) : Int) 2 fun l54 => G.new (.cells #[(.int .i64 n52), (.float .f64 f53)] 26) w51.drew fun p55 w56 => C.tocsinref08_Same (⟨some p55, 1, 1⟩ : Sl) l54 w56 fun b57 w58 => G.cond (!b57) (K false w58) (G.cond (!b40) (G.cI .i64 p42 w58 fun n59 => G.cF .f64 (p42.add 1) w58 fun f60 => G.cond (!((n59 == (0 : Int)) && ((Op.floatEq .f64 f60 0) && true))) (K false w58) (S3 K c_36 there_37 w58)) (S3 K c_36 there_37 w58))) (G.cond (!b40) (G.cI .i64 p42 w51.drew fun n61 => G.cF .f64 (p42.add 1) w51.drew fun f62 => G.cond (!((n61 == (0 : Int)) && ((Op.floatEq .f64 f62 0) && true))) (K false w51.drew) (S3 K c_36 there_37 w51.drew)) (S3 K c_36 there_37 w51.drew)))))
theorem S4_ok (Kv : Value → World → Prop) : OkT pr false none 118 g2 (S4 (Kt Kv)) (s2 (tl 4 bd)) (P1 Kv) := ok_group mixed FOk_ 3 (S3_ok Kv) fun v ρ w => by kernel_rfl
def P5 (Kv : Value → World → Prop) : Post := next (get g2 (S4 (Kt Kv))) (P1 Kv)
def P6 (Kv : Value → World → Prop) : Post := inBlock 0 (P5 Kv)
@[reducible] def g7 : List SE := [.v 3 .ptr, .v 4 .sl, .v 14 .sl, .v 15 (.int .i64), .v 16 (.int .i64)]
def P8 (Kv : Value → World → Prop) (kc7 : Cur g7) : Post := next (get g7 kc7) (P6 Kv)
def S9 (K : KT) (kc7 : Cur g7) (c_73 : Option Addr) (there_74 : Sl) (l75 : Sl) (n76 : Int) (n77 : Int) (w : World) : Prop :=
  G.cond (decide (n77 < n76)) (G.ix l75.a l75.n n77 2 fun p78 => G.cI .i64 p78 w fun n79 => G.cF .f64 (p78.add 1) w fun f80 => G.new (.cells #[(.int .i64 (0 : Int)), (.float .f64 0)] 26) w fun p81 w82 => G.st p81 (.int .i64 n79) w82 fun w83 => G.st (p81.add 1) (.float .f64 f80) w83 fun w84 => G.cond (decide (n77 ≥ (300 : Int))) (S4 K c_73 there_74 w84) (G.cI .i64 p81 w84 fun n85 => C.tocsinref08_Wrong there_74 n85 w84 fun n86 w87 => G.cI .i64 p81 w87 fun n88 => G.cF .f64 (p81.add 1) w87 fun f89 => C.chunk_Chunk_Append c_73 n88 f89 w87 fun n90 w91 => G.cond (n90 != n86) (K false w91) (G.cond (n86 == (0 : Int)) (G.cI .i64 p81 w91 fun n92 => G.cF .f64 (p81.add 1) w91 fun f93 => G.new (.cells #[(.int .i64 n92), (.float .f64 f93)] 26) w91 fun p94 w95 => G.runSl pr (Builtin.append_ #[24, 24] 24 #[there_74.v, (Sl.v (⟨some p94, 1, 1⟩ : Sl))]) w95 fun l96 w97 => kc7 c_73 l96 l75 n76 (IntKind.i64.wrap (n77 + (1 : Int))) w97) (kc7 c_73 there_74 l75 n76 (IntKind.i64.wrap (n77 + (1 : Int))) w91)))) (S4 K c_73 there_74 w)
theorem S9_ok (Kv : Value → World → Prop) (kc7 : Cur g7) : OkT pr false none 118 g7 (S9 (Kt Kv) kc7) (lp (blk (tl 1 (s1 (tl 4 bd))))) (P8 Kv kc7) := ok_last mixed FOk_ fun v ρ w => by kernel_rfl
def L7 (K : KT) : Cur g7 := loopC g7 (S9 K)
theorem L7_ok (Kv : Value → World → Prop) : OkT pr false none 118 g7 (L7 (Kt Kv)) (blk (tl 1 (s1 (tl 4 bd)))) (P6 Kv) := ok_loop (B := S9 (Kt Kv)) (by kernel_rfl) fun kc => S9_ok Kv kc
theorem L7_ind {K : KT} {c_63 : Option Addr} {there_64 : Sl} {l65 : Sl} {n66 : Int} {n67 : Int} {w : World} (h : ∀ X : Cur g7, (∀ c_63 there_64 l65 n66 n67 w, S9 K X c_63 there_64 l65 n66 n67 w → X c_63 there_64 l65 n66 n67 w) → X c_63 there_64 l65 n66 n67 w) : L7 K c_63 there_64 l65 n66 n67 w := fun X hX => h X fun c_63 there_64 l65 n66 n67 w hb => hX (c_63, there_64, l65, n66, n67, ()) w hb
theorem B10 (Kv : Value → World → Prop) : OkT pr false none 118 g7 (L7 (Kt Kv)) (tl 1 (s1 (tl 4 bd))) (P5 Kv) := ok_block 0 (by kernel_rfl) (L7_ok Kv)
@[reducible] def g11 : List SE := [.v 0 .sl, .v 3 .ptr, .v 4 .sl]
def S11 (K : KT) (l_98 : Sl) (c_99 : Option Addr) (there_100 : Sl) (w : World) : Prop :=
  L7 K c_99 there_100 l_98 ((l_98.n : Nat) : Int) (0 : Int) w
theorem S11_ok (Kv : Value → World → Prop) : OkT pr false none 118 g11 (S11 (Kt Kv)) (s1 (tl 4 bd)) (P5 Kv) := ok_group mixed FOk_ 1 (B10 Kv) fun v ρ w => by kernel_rfl
theorem Q12 (Kv : Value → World → Prop) : OkT pr false none 118 g11 (S11 (Kt Kv)) (tl 4 bd) (P1 Kv) := ok_seq (by kernel_rfl) (S4_ok Kv) (S11_ok Kv)
end tocsinlaw08_ChunkAppends
def tocsinlaw08_ChunkAppends (l_2 : Sl) (w : World) (K : tocsinlaw08_ChunkAppends.KT) : Prop :=
  C.chunk_New w fun p101 w102 => G.cond p101.isNone (K false w102) (tocsinlaw08_ChunkAppends.S11 K l_2 p101 nilS w102)
def tocsinlaw08_ChunkAppends.cl : CL := fun args K w => match args with
  | [.slice x0_a x0_n x0_c] => C.tocsinlaw08_ChunkAppends ⟨x0_a, x0_n, x0_c⟩ w (tocsinlaw08_ChunkAppends.Kt K)
  | _ => False
theorem tocsinlaw08_ChunkAppends.clok : OkC pr 4 tocsinlaw08_ChunkAppends.cl := by
  intro args K w h
  unfold tocsinlaw08_ChunkAppends.cl at h
  split at h
  · exact calls_group false mixed tocsinlaw08_ChunkAppends.FOk_ tocsinlaw08_ChunkAppends.fn rfl 4 (tocsinlaw08_ChunkAppends.Q12 K) (Eq.mp (by kernel_rfl) h)
  · exact h.elim

/-! tocsin/tocsinlaw08.ChunkNil -/
namespace tocsinlaw08_ChunkNil
abbrev KT := Bool → World → Prop
def Kt (Kv : Value → World → Prop) : KT := fun b1 w => Kv (.bool b1) w
noncomputable def bd : Code := bdy Tryd.f5
theorem fn : FnOk pr 5 47 Tryd.f5 := ⟨Tryd.func5, by kernel_rfl, Tryd.ntmps5, by kernel_rfl, by kernel_rfl⟩
def F : Clee := ofL [(10, C.tocsinlaw08_awake.cl), (14, C.chunk_Chunk_Append.cl), (15, C.chunk_Chunk_Last.cl), (16, C.chunk_Chunk_Len.cl), (18, C.tocsinlaw08_every.cl), (19, C.chunk_Chunk_Bytes.cl)]
theorem FOk_ : FOk pr F := FOk_cons C.tocsinlaw08_awake.clok (FOk_cons C.chunk_Chunk_Append.clok (FOk_cons C.chunk_Chunk_Last.clok (FOk_cons C.chunk_Chunk_Len.clok (FOk_cons C.tocsinlaw08_every.clok (FOk_cons C.chunk_Chunk_Bytes.clok (FOk_nil))))))
def P1 (Kv : Value → World → Prop) : Post := bodyK false pr 47 Tryd.f5 Kv
end tocsinlaw08_ChunkNil
def tocsinlaw08_ChunkNil (t_2 : Int) (v_3 : Nat) (w : World) (K : tocsinlaw08_ChunkNil.KT) : Prop :=
  C.chunk_Chunk_Last none w fun n4 f5 b6 w7 => G.new (.cells #[(.int .i64 (0 : Int)), (.float .f64 0)] 26) w7 fun p8 w9 => G.st p8 (.int .i64 n4) w9 fun w10 => G.st (p8.add 1) (.float .f64 f5) w10 fun w11 => C.chunk_Chunk_Append none t_2 v_3 w11 fun n12 w13 => G.cond (n12 == (2 : Int)) (C.chunk_Chunk_Len none w13 fun n14 w15 => G.cond (n14 == (0 : Int)) (G.cond (!b6) (G.cI .i64 p8 w15 fun n16 => G.cF .f64 (p8.add 1) w15 fun f17 => G.cond ((n16 == (0 : Int)) && ((Op.floatEq .f64 f17 0) && true)) (C.chunk_Chunk_Bytes none w15 fun l18 w19 => G.cond (((l18.n : Nat) : Int) == (0 : Int)) (C.tocsinlaw08_every none (1 : Int) w19 fun l20 w21 => G.cond (((l20.n : Nat) : Int) == (0 : Int)) (C.tocsinlaw08_awake w21 fun b22 w23 => K b22 w23) (K false w21)) (K false w19)) (K false w15)) (K false w15)) (K false w15)) (K false w13)
def tocsinlaw08_ChunkNil.cl : CL := fun args K w => match args with
  | [.int .i64 x0, .float .f64 x1] => C.tocsinlaw08_ChunkNil x0 x1 w (tocsinlaw08_ChunkNil.Kt K)
  | _ => False
theorem tocsinlaw08_ChunkNil.clok : OkC pr 5 tocsinlaw08_ChunkNil.cl := by
  intro args K w h
  unfold tocsinlaw08_ChunkNil.cl at h
  split at h
  · exact calls_last false mixed tocsinlaw08_ChunkNil.FOk_ tocsinlaw08_ChunkNil.fn rfl (Eq.mp (by kernel_rfl) h)
  · exact h.elim

/-! tocsin/bits.NewReader -/
namespace bits_NewReader
abbrev KT := Option Addr → World → Prop
def Kt (Kv : Value → World → Prop) : KT := fun p1 w => Kv (.pointer p1) w
noncomputable def bd : Code := bdy Tryd.f41
theorem fn : FnOk pr 41 23 Tryd.f41 := ⟨Tryd.func41, by kernel_rfl, Tryd.ntmps41, by kernel_rfl, by kernel_rfl⟩
def F : Clee := ofL []
theorem FOk_ : FOk pr F := FOk_nil
def P1 (Kv : Value → World → Prop) : Post := bodyK false pr 23 Tryd.f41 Kv
end bits_NewReader
def bits_NewReader (b_2 : Sl) (bits_3 : Int) (w : World) (K : bits_NewReader.KT) : Prop :=
  G.cond (decide (bits_3 < (0 : Int))) (K none w) (G.cond (decide (bits_3 > (8388608 : Int))) (K none w) (G.cond (decide (bits_3 > (IntKind.i64.wrap ((8 : Int) * ((b_2.n : Nat) : Int))))) (K none w) (G.runSl pr (Builtin.append_ #[27, 27] 27 #[nilS.v, b_2.v]) w fun l4 w5 => G.new (.cells #[l4.v, (.int .i64 bits_3), (.int .i64 (0 : Int))] 112) w5 fun p6 w7 => K (some p6) w7)))
def bits_NewReader.cl : CL := fun args K w => match args with
  | [.slice x0_a x0_n x0_c, .int .i64 x1] => C.bits_NewReader ⟨x0_a, x0_n, x0_c⟩ x1 w (bits_NewReader.Kt K)
  | _ => False
theorem bits_NewReader.clok : OkC pr 41 bits_NewReader.cl := by
  intro args K w h
  unfold bits_NewReader.cl at h
  split at h
  · exact calls_last false mixed bits_NewReader.FOk_ bits_NewReader.fn rfl (Eq.mp (by kernel_rfl) h)
  · exact h.elim

/-! math.Float64frombits: the model's own -/
abbrev math_Float64frombits.KT := Nat → World → Prop
def math_Float64frombits.Kt (Kv : Value → World → Prop) : math_Float64frombits.KT := fun r0 w => Kv (.float .f64 r0) w
def math_Float64frombits (x0 : Int) (w : World) (K : math_Float64frombits.KT) : Prop := K x0.toNat w
def math_Float64frombits.cl : CL := fun args K w => match args with
  | [.int .u64 x0] => C.math_Float64frombits x0 w (math_Float64frombits.Kt K)
  | _ => False
theorem math_Float64frombits.clok : OkX pr 48 math_Float64frombits.cl := by
  intro args K w h
  unfold math_Float64frombits.cl at h
  split at h
  · exact ⟨_, w, by kernel_rfl, h⟩
  · exact h.elim

/-! (*tocsin/bits.Reader).at -/
namespace bits_Reader_at
abbrev KT := Int → World → Prop
def Kt (Kv : Value → World → Prop) : KT := fun n1 w => Kv (.int .u64 n1) w
noncomputable def bd : Code := bdy Tryd.f87
theorem fn : FnOk pr 87 20 Tryd.f87 := ⟨Tryd.func87, by kernel_rfl, Tryd.ntmps87, by kernel_rfl, by kernel_rfl⟩
def F : Clee := ofL []
theorem FOk_ : FOk pr F := FOk_nil
def P1 (Kv : Value → World → Prop) : Post := bodyK false pr 20 Tryd.f87 Kv
end bits_Reader_at
def bits_Reader_at (r_2 : Option Addr) (i_3 : Int) (w : World) (K : bits_Reader_at.KT) : Prop :=
  G.ptr r_2 fun p4 => G.cSl p4 w fun l5 => G.nz (8 : Int) <| G.ix l5.a l5.n (IntKind.i64.wrap (Int.tdiv i_3 (8 : Int))) 1 fun p6 => G.cI .u8 p6 w fun n7 => G.nz (8 : Int) <| G.nn (IntKind.u64.wrap (IntKind.i64.wrap ((7 : Int) - (Int.tmod i_3 (8 : Int))))) <| K (Go.bits .and .u64 (IntKind.u64.wrap (shr .u8 n7 (IntKind.u64.wrap (IntKind.i64.wrap ((7 : Int) - (Int.tmod i_3 (8 : Int))))))) (1 : Int)) w
def bits_Reader_at.cl : CL := fun args K w => match args with
  | [.pointer x0, .int .i64 x1] => C.bits_Reader_at x0 x1 w (bits_Reader_at.Kt K)
  | _ => False
theorem bits_Reader_at.clok : OkC pr 87 bits_Reader_at.cl := by
  intro args K w h
  unfold bits_Reader_at.cl at h
  split at h
  · exact calls_last false mixed bits_Reader_at.FOk_ bits_Reader_at.fn rfl (Eq.mp (by kernel_rfl) h)
  · exact h.elim

/-! (*tocsin/bits.Reader).look -/
namespace bits_Reader_look
abbrev KT := Int → World → Prop
def Kt (Kv : Value → World → Prop) : KT := fun n1 w => Kv (.int .u64 n1) w
noncomputable def bd : Code := bdy Tryd.f86
theorem fn : FnOk pr 86 23 Tryd.f86 := ⟨Tryd.func86, by kernel_rfl, Tryd.ntmps86, by kernel_rfl, by kernel_rfl⟩
def F : Clee := ofL [(87, C.bits_Reader_at.cl)]
theorem FOk_ : FOk pr F := FOk_cons C.bits_Reader_at.clok (FOk_nil)
def P1 (Kv : Value → World → Prop) : Post := bodyK false pr 23 Tryd.f86 Kv
@[reducible] def g2 : List SE := [.v 7 (.int .u64)]
def S2 (K : KT) (v_5 : Int) (w : World) : Prop :=
  K v_5 w
theorem S2_ok (Kv : Value → World → Prop) : OkT pr false none 23 g2 (S2 (Kt Kv)) (s2 (tl 2 bd)) (P1 Kv) := ok_last mixed FOk_ fun v ρ w => by kernel_rfl
def P3 (Kv : Value → World → Prop) : Post := next (get g2 (S2 (Kt Kv))) (P1 Kv)
def P4 (Kv : Value → World → Prop) : Post := inBlock 0 (P3 Kv)
@[reducible] def g5 : List SE := [.v 0 .ptr, .v 1 (.int .i64), .v 7 (.int .u64), .v 9 (.int .i64), .v 10 (.int .i64)]
def P6 (Kv : Value → World → Prop) (kc5 : Cur g5) : Post := next (get g5 kc5) (P4 Kv)
def S7 (K : KT) (kc5 : Cur g5) (r_16 : Option Addr) (from_17 : Int) (v_18 : Int) (n19 : Int) (n20 : Int) (w : World) : Prop :=
  G.cond (decide (n20 < n19)) (G.nn (1 : Int) <| C.bits_Reader_at r_16 (IntKind.i64.wrap (from_17 + n20)) w fun n21 w22 => kc5 r_16 from_17 (Go.bits .or .u64 (shl .u64 v_18 (1 : Int)) n21) n19 (IntKind.i64.wrap (n20 + (1 : Int))) w22) (S2 K v_18 w)
theorem S7_ok (Kv : Value → World → Prop) (kc5 : Cur g5) : OkT pr false none 23 g5 (S7 (Kt Kv) kc5) (lp (blk (tl 1 (s1 (tl 2 bd))))) (P6 Kv kc5) := ok_last mixed FOk_ fun v ρ w => by kernel_rfl
def L5 (K : KT) : Cur g5 := loopC g5 (S7 K)
theorem L5_ok (Kv : Value → World → Prop) : OkT pr false none 23 g5 (L5 (Kt Kv)) (blk (tl 1 (s1 (tl 2 bd)))) (P4 Kv) := ok_loop (B := S7 (Kt Kv)) (by kernel_rfl) fun kc => S7_ok Kv kc
theorem L5_ind {K : KT} {r_6 : Option Addr} {from_7 : Int} {v_8 : Int} {n9 : Int} {n10 : Int} {w : World} (h : ∀ X : Cur g5, (∀ r_6 from_7 v_8 n9 n10 w, S7 K X r_6 from_7 v_8 n9 n10 w → X r_6 from_7 v_8 n9 n10 w) → X r_6 from_7 v_8 n9 n10 w) : L5 K r_6 from_7 v_8 n9 n10 w := fun X hX => h X fun r_6 from_7 v_8 n9 n10 w hb => hX (r_6, from_7, v_8, n9, n10, ()) w hb
theorem B8 (Kv : Value → World → Prop) : OkT pr false none 23 g5 (L5 (Kt Kv)) (tl 1 (s1 (tl 2 bd))) (P3 Kv) := ok_block 0 (by kernel_rfl) (L5_ok Kv)
@[reducible] def g9 : List SE := [.v 0 .ptr, .v 1 (.int .i64), .v 2 (.int .i64), .v 7 (.int .u64)]
def S9 (K : KT) (r_23 : Option Addr) (from_24 : Int) (n_25 : Int) (v_26 : Int) (w : World) : Prop :=
  L5 K r_23 from_24 v_26 n_25 (0 : Int) w
theorem S9_ok (Kv : Value → World → Prop) : OkT pr false none 23 g9 (S9 (Kt Kv)) (s1 (tl 2 bd)) (P3 Kv) := ok_group mixed FOk_ 1 (B8 Kv) fun v ρ w => by kernel_rfl
theorem Q10 (Kv : Value → World → Prop) : OkT pr false none 23 g9 (S9 (Kt Kv)) (tl 2 bd) (P1 Kv) := ok_seq (by kernel_rfl) (S2_ok Kv) (S9_ok Kv)
end bits_Reader_look
def bits_Reader_look (r_2 : Option Addr) (from_3 : Int) (n_4 : Int) (w : World) (K : bits_Reader_look.KT) : Prop :=
  bits_Reader_look.S9 K r_2 from_3 n_4 (0 : Int) w
def bits_Reader_look.cl : CL := fun args K w => match args with
  | [.pointer x0, .int .i64 x1, .int .i64 x2] => C.bits_Reader_look x0 x1 x2 w (bits_Reader_look.Kt K)
  | _ => False
theorem bits_Reader_look.clok : OkC pr 86 bits_Reader_look.cl := by
  intro args K w h
  unfold bits_Reader_look.cl at h
  split at h
  · exact calls_group false mixed bits_Reader_look.FOk_ bits_Reader_look.fn rfl 2 (bits_Reader_look.Q10 K) (Eq.mp (by kernel_rfl) h)
  · exact h.elim

/-! (*tocsin/bits.Reader).Bits -/
namespace bits_Reader_Bits
abbrev KT := Int → Int → World → Prop
def Kt (Kv : Value → World → Prop) : KT := fun n1 n2 w => Kv (.tuple #[(.int .u64 n1), (.int .i64 n2)]) w
noncomputable def bd : Code := bdy Tryd.f83
theorem fn : FnOk pr 83 45 Tryd.f83 := ⟨Tryd.func83, by kernel_rfl, Tryd.ntmps83, by kernel_rfl, by kernel_rfl⟩
def F : Clee := ofL [(86, C.bits_Reader_look.cl)]
theorem FOk_ : FOk pr F := FOk_cons C.bits_Reader_look.clok (FOk_nil)
def P1 (Kv : Value → World → Prop) : Post := bodyK false pr 45 Tryd.f83 Kv
end bits_Reader_Bits
def bits_Reader_Bits (r_3 : Option Addr) (n_4 : Int) (w : World) (K : bits_Reader_Bits.KT) : Prop :=
  G.cond r_3.isNone (K (0 : Int) (2 : Int) w) (G.cond (decide (n_4 < (0 : Int))) (K (0 : Int) (1 : Int) w) (G.cond (decide (n_4 > (64 : Int))) (K (0 : Int) (1 : Int) w) (G.ptr r_3 fun p7 => G.cI .i64 (p7.add 1) w.drew fun n8 => G.ptr r_3 fun p9 => G.cI .i64 (p9.add 2) w.drew fun n10 => G.cond (decide (n_4 > (IntKind.i64.wrap (n8 - n10)))) (K (0 : Int) (9 : Int) w.drew) (G.ptr r_3 fun p11 => G.cI .i64 (p11.add 2) w.drew fun n12 => C.bits_Reader_look r_3 n12 n_4 w.drew fun n13 w14 => G.ptr r_3 fun p15 => G.cI .i64 (p15.add 2) w14 fun n16 => G.ptr r_3 fun p17 => G.st (p17.add 2) (.int .i64 (IntKind.i64.wrap (n16 + n_4))) w14 fun w18 => K n13 (0 : Int) w18))))
def bits_Reader_Bits.cl : CL := fun args K w => match args with
  | [.pointer x0, .int .i64 x1] => C.bits_Reader_Bits x0 x1 w (bits_Reader_Bits.Kt K)
  | _ => False
theorem bits_Reader_Bits.clok : OkC pr 83 bits_Reader_Bits.cl := by
  intro args K w h
  unfold bits_Reader_Bits.cl at h
  split at h
  · exact calls_last false mixed bits_Reader_Bits.FOk_ bits_Reader_Bits.fn rfl (Eq.mp (by kernel_rfl) h)
  · exact h.elim

/-! (*tocsin/chunk.reader).bits -/
namespace chunk_reader_bits
abbrev KT := Int → World → Prop
def Kt (Kv : Value → World → Prop) : KT := fun n1 w => Kv (.int .u64 n1) w
noncomputable def bd : Code := bdy Tryd.f65
theorem fn : FnOk pr 65 28 Tryd.f65 := ⟨Tryd.func65, by kernel_rfl, Tryd.ntmps65, by kernel_rfl, by kernel_rfl⟩
def F : Clee := ofL [(83, C.bits_Reader_Bits.cl)]
theorem FOk_ : FOk pr F := FOk_cons C.bits_Reader_Bits.clok (FOk_nil)
def P1 (Kv : Value → World → Prop) : Post := bodyK false pr 28 Tryd.f65 Kv
end chunk_reader_bits
def chunk_reader_bits (d_2 : Option Addr) (n_3 : Int) (w : World) (K : chunk_reader_bits.KT) : Prop :=
  G.ptr d_2 fun p4 => G.cP p4 w fun p5 => C.bits_Reader_Bits p5 n_3 w fun n6 n7 w8 => G.ptr d_2 fun p9 => G.cB (p9.add 4) w8 fun b10 => G.cond b10 (G.ptr d_2 fun p11 => G.st (p11.add 4) (.bool true) w8 fun w12 => K n6 w12) (G.ptr d_2 fun p13 => G.st (p13.add 4) (.bool (n7 != (0 : Int))) w8 fun w14 => K n6 w14)
def chunk_reader_bits.cl : CL := fun args K w => match args with
  | [.pointer x0, .int .i64 x1] => C.chunk_reader_bits x0 x1 w (chunk_reader_bits.Kt K)
  | _ => False
theorem chunk_reader_bits.clok : OkC pr 65 chunk_reader_bits.cl := by
  intro args K w h
  unfold chunk_reader_bits.cl at h
  split at h
  · exact calls_last false mixed chunk_reader_bits.FOk_ chunk_reader_bits.fn rfl (Eq.mp (by kernel_rfl) h)
  · exact h.elim

/-! (*tocsin/chunk.reader).uvarint -/
namespace chunk_reader_uvarint
abbrev KT := Int → World → Prop
def Kt (Kv : Value → World → Prop) : KT := fun n1 w => Kv (.int .u64 n1) w
noncomputable def bd : Code := bdy Tryd.f64
theorem fn : FnOk pr 64 23 Tryd.f64 := ⟨Tryd.func64, by kernel_rfl, Tryd.ntmps64, by kernel_rfl, by kernel_rfl⟩
def F : Clee := ofL [(65, C.chunk_reader_bits.cl)]
theorem FOk_ : FOk pr F := FOk_cons C.chunk_reader_bits.clok (FOk_nil)
def P1 (Kv : Value → World → Prop) : Post := bodyK false pr 23 Tryd.f64 Kv
@[reducible] def g2 : List SE := [.v 3 (.int .u64)]
def S2 (K : KT) (v_3 : Int) (w : World) : Prop :=
  K v_3 w
theorem S2_ok (Kv : Value → World → Prop) : OkT pr false none 23 g2 (S2 (Kt Kv)) (s2 (tl 2 bd)) (P1 Kv) := ok_last mixed FOk_ fun v ρ w => by kernel_rfl
def P3 (Kv : Value → World → Prop) : Post := next (get g2 (S2 (Kt Kv))) (P1 Kv)
def P4 (Kv : Value → World → Prop) : Post := inBlock 0 (P3 Kv)
@[reducible] def g5 : List SE := [.v 0 .ptr, .v 3 (.int .u64), .v 6 (.int .i64)]
def P6 (Kv : Value → World → Prop) (kc5 : Cur g5) : Post := next (get g5 kc5) (P4 Kv)
def S7 (K : KT) (kc5 : Cur g5) (d_10 : Option Addr) (v_11 : Int) (n12 : Int) (w : World) : Prop :=
  G.cond (decide (n12 < (10 : Int))) (C.chunk_reader_bits d_10 (8 : Int) w fun n13 w14 => G.nn (IntKind.u64.wrap (IntKind.i64.wrap ((7 : Int) * n12))) <| G.cond (decide (n13 < (128 : Int))) (S2 K (Go.bits .or .u64 v_11 (shl .u64 (Go.bits .and .u64 n13 (127 : Int)) (IntKind.u64.wrap (IntKind.i64.wrap ((7 : Int) * n12))))) w14) (kc5 d_10 (Go.bits .or .u64 v_11 (shl .u64 (Go.bits .and .u64 n13 (127 : Int)) (IntKind.u64.wrap (IntKind.i64.wrap ((7 : Int) * n12))))) (IntKind.i64.wrap (n12 + (1 : Int))) w14)) (S2 K v_11 w)
theorem S7_ok (Kv : Value → World → Prop) (kc5 : Cur g5) : OkT pr false none 23 g5 (S7 (Kt Kv) kc5) (lp (blk (tl 1 (s1 (tl 2 bd))))) (P6 Kv kc5) := ok_last mixed FOk_ fun v ρ w => by kernel_rfl
def L5 (K : KT) : Cur g5 := loopC g5 (S7 K)
theorem L5_ok (Kv : Value → World → Prop) : OkT pr false none 23 g5 (L5 (Kt Kv)) (blk (tl 1 (s1 (tl 2 bd)))) (P4 Kv) := ok_loop (B := S7 (Kt Kv)) (by kernel_rfl) fun kc => S7_ok Kv kc
theorem L5_ind {K : KT} {d_4 : Option Addr} {v_5 : Int} {n6 : Int} {w : World} (h : ∀ X : Cur g5, (∀ d_4 v_5 n6 w, S7 K X d_4 v_5 n6 w → X d_4 v_5 n6 w) → X d_4 v_5 n6 w) : L5 K d_4 v_5 n6 w := fun X hX => h X fun d_4 v_5 n6 w hb => hX (d_4, v_5, n6, ()) w hb
theorem B8 (Kv : Value → World → Prop) : OkT pr false none 23 g5 (L5 (Kt Kv)) (tl 1 (s1 (tl 2 bd))) (P3 Kv) := ok_block 0 (by kernel_rfl) (L5_ok Kv)
@[reducible] def g9 : List SE := [.v 0 .ptr, .v 3 (.int .u64)]
def S9 (K : KT) (d_15 : Option Addr) (v_16 : Int) (w : World) : Prop :=
  L5 K d_15 v_16 (0 : Int) w
theorem S9_ok (Kv : Value → World → Prop) : OkT pr false none 23 g9 (S9 (Kt Kv)) (s1 (tl 2 bd)) (P3 Kv) := ok_group mixed FOk_ 1 (B8 Kv) fun v ρ w => by kernel_rfl
theorem Q10 (Kv : Value → World → Prop) : OkT pr false none 23 g9 (S9 (Kt Kv)) (tl 2 bd) (P1 Kv) := ok_seq (by kernel_rfl) (S2_ok Kv) (S9_ok Kv)
end chunk_reader_uvarint
def chunk_reader_uvarint (d_2 : Option Addr) (w : World) (K : chunk_reader_uvarint.KT) : Prop :=
  chunk_reader_uvarint.S9 K d_2 (0 : Int) w
def chunk_reader_uvarint.cl : CL := fun args K w => match args with
  | [.pointer x0] => C.chunk_reader_uvarint x0 w (chunk_reader_uvarint.Kt K)
  | _ => False
theorem chunk_reader_uvarint.clok : OkC pr 64 chunk_reader_uvarint.cl := by
  intro args K w h
  unfold chunk_reader_uvarint.cl at h
  split at h
  · exact calls_group false mixed chunk_reader_uvarint.FOk_ chunk_reader_uvarint.fn rfl 2 (chunk_reader_uvarint.Q10 K) (Eq.mp (by kernel_rfl) h)
  · exact h.elim

/-! (*tocsin/chunk.reader).value -/
namespace chunk_reader_value
abbrev KT := Int → World → Prop
def Kt (Kv : Value → World → Prop) : KT := fun n1 w => Kv (.int .u64 n1) w
noncomputable def bd : Code := bdy Tryd.f66
theorem fn : FnOk pr 66 68 Tryd.f66 := ⟨Tryd.func66, by kernel_rfl, Tryd.ntmps66, by kernel_rfl, by kernel_rfl⟩
def F : Clee := ofL [(65, C.chunk_reader_bits.cl)]
theorem FOk_ : FOk pr F := FOk_cons C.chunk_reader_bits.clok (FOk_nil)
def P1 (Kv : Value → World → Prop) : Post := bodyK false pr 68 Tryd.f66 Kv
@[reducible] def g2 : List SE := [.v 0 .ptr]
def S2 (K : KT) (d_6 : Option Addr) (w : World) : Prop :=
  G.ptr d_6 fun p7 => G.cB (p7.add 3) w fun b8 => G.cond (!b8) (G.ptr d_6 fun p9 => G.st (p9.add 4) (.bool true) w fun w10 => K (0 : Int) w10) (G.ptr d_6 fun p11 => G.cI .i64 ((p11.add 1).add 1) w fun n12 => G.cond (decide (n12 < (0 : Int))) (G.ptr d_6 fun p13 => G.st (p13.add 4) (.bool true) w fun w14 => K (0 : Int) w14) (G.ptr d_6 fun p15 => G.cI .i64 (p15.add 1) w.drew fun n16 => G.ptr d_6 fun p17 => G.cI .i64 ((p17.add 1).add 1) w.drew fun n18 => G.ptr d_6 fun p19 => G.cI .i64 ((p19.add 1).add 1) w.drew fun n20 => C.chunk_reader_bits d_6 (IntKind.i64.wrap ((IntKind.i64.wrap ((64 : Int) - n16)) - n18)) w.drew fun n21 w22 => sameAt ((p19.add 1).add 1) 1 w.drew w22 ∧ (G.nn (IntKind.u64.wrap n20) <| K (shl .u64 n21 (IntKind.u64.wrap n20)) w22)))
theorem S2_ok (Kv : Value → World → Prop) : OkT pr false none 68 g2 (S2 (Kt Kv)) (tl 3 bd) (P1 Kv) := ok_last mixed FOk_ fun v ρ w => by kernel_rfl
end chunk_reader_value
def chunk_reader_value (d_2 : Option Addr) (w : World) (K : chunk_reader_value.KT) : Prop :=
  C.chunk_reader_bits d_2 (1 : Int) w fun n23 w24 => G.cond (n23 == (0 : Int)) (K (0 : Int) w24) (C.chunk_reader_bits d_2 (1 : Int) w24 fun n25 w26 => G.cond (n25 == (1 : Int)) (C.chunk_reader_bits d_2 (5 : Int) w26 fun n27 w28 => C.chunk_reader_bits d_2 (6 : Int) w28 fun n29 w30 => G.cond ((IntKind.i64.wrap n29) == (0 : Int)) (G.ptr d_2 fun p31 => G.st (p31.add 1) (.int .i64 (IntKind.i64.wrap n27)) w30 fun w32 => G.st ((p31.add 1).add 1) (.int .i64 (IntKind.i64.wrap ((IntKind.i64.wrap ((64 : Int) - (IntKind.i64.wrap n27))) - (64 : Int)))) w32 fun w33 => G.ptr d_2 fun p34 => G.st (p34.add 3) (.bool true) w33 fun w35 => chunk_reader_value.S2 K d_2 w35) (G.ptr d_2 fun p36 => G.st (p36.add 1) (.int .i64 (IntKind.i64.wrap n27)) w30 fun w37 => G.st ((p36.add 1).add 1) (.int .i64 (IntKind.i64.wrap ((IntKind.i64.wrap ((64 : Int) - (IntKind.i64.wrap n27))) - (IntKind.i64.wrap n29)))) w37 fun w38 => G.ptr d_2 fun p39 => G.st (p39.add 3) (.bool true) w38 fun w40 => chunk_reader_value.S2 K d_2 w40)) (chunk_reader_value.S2 K d_2 w26))
def chunk_reader_value.cl : CL := fun args K w => match args with
  | [.pointer x0] => C.chunk_reader_value x0 w (chunk_reader_value.Kt K)
  | _ => False
theorem chunk_reader_value.clok : OkC pr 66 chunk_reader_value.cl := by
  intro args K w h
  unfold chunk_reader_value.cl at h
  split at h
  · exact calls_group false mixed chunk_reader_value.FOk_ chunk_reader_value.fn rfl 3 (chunk_reader_value.S2_ok K) (Eq.mp (by kernel_rfl) h)
  · exact h.elim

/-! (*tocsin/chunk.reader).time -/
namespace chunk_reader_time
abbrev KT := Int → World → Prop
def Kt (Kv : Value → World → Prop) : KT := fun n1 w => Kv (.int .i64 n1) w
noncomputable def bd : Code := bdy Tryd.f67
theorem fn : FnOk pr 67 46 Tryd.f67 := ⟨Tryd.func67, by kernel_rfl, Tryd.ntmps67, by kernel_rfl, by kernel_rfl⟩
def F : Clee := ofL [(65, C.chunk_reader_bits.cl)]
theorem FOk_ : FOk pr F := FOk_cons C.chunk_reader_bits.clok (FOk_nil)
def P1 (Kv : Value → World → Prop) : Post := bodyK false pr 46 Tryd.f67 Kv
@[reducible] def g2 : List SE := [.v 0 .ptr, .v 4 (.int .i64)]
def S2 (K : KT) (d_5 : Option Addr) (width_6 : Int) (w : World) : Prop :=
  C.chunk_reader_bits d_5 width_6 w fun n7 w8 => G.nn (IntKind.u64.wrap (IntKind.i64.wrap (width_6 - (1 : Int)))) <| G.cond (decide (n7 > (shl .u64 (1 : Int) (IntKind.u64.wrap (IntKind.i64.wrap (width_6 - (1 : Int))))))) (G.nn (IntKind.u64.wrap width_6) <| K (IntKind.i64.wrap ((IntKind.i64.wrap n7) - (shl .i64 (1 : Int) (IntKind.u64.wrap width_6)))) w8) (K (IntKind.i64.wrap n7) w8)
theorem S2_ok (Kv : Value → World → Prop) : OkT pr false none 46 g2 (S2 (Kt Kv)) (tl 2 (s2 (tl 2 bd))) (P1 Kv) := ok_last mixed FOk_ fun v ρ w => by kernel_rfl
@[reducible] def g3 : List SE := [.v 0 .ptr, .v 3 (.int .i64)]
def S3 (K : KT) (d_9 : Option Addr) (ones_10 : Int) (w : World) : Prop :=
  G.cond (ones_10 == (0 : Int)) (K (0 : Int) w) (G.cond (ones_10 == (1 : Int)) (S2 K d_9 (14 : Int) w) (G.cond (ones_10 == (2 : Int)) (S2 K d_9 (17 : Int) w) (G.cond (ones_10 == (3 : Int)) (S2 K d_9 (20 : Int) w) (G.cond (ones_10 == (4 : Int)) (C.chunk_reader_bits d_9 (64 : Int) w fun n11 w12 => K (IntKind.i64.wrap n11) w12) (S2 K d_9 (0 : Int) w)))))
theorem S3_ok (Kv : Value → World → Prop) : OkT pr false none 46 g3 (S3 (Kt Kv)) (s2 (tl 2 bd)) (P1 Kv) := ok_group mixed FOk_ 2 (S2_ok Kv) fun v ρ w => by kernel_rfl
def P4 (Kv : Value → World → Prop) : Post := next (get g3 (S3 (Kt Kv))) (P1 Kv)
def P5 (Kv : Value → World → Prop) : Post := inBlock 0 (P4 Kv)
def P7 (Kv : Value → World → Prop) (kc6 : Cur g3) : Post := next (get g3 kc6) (P5 Kv)
def S8 (K : KT) (kc6 : Cur g3) (d_15 : Option Addr) (ones_16 : Int) (w : World) : Prop :=
  G.cond (decide (ones_16 < (4 : Int))) (C.chunk_reader_bits d_15 (1 : Int) w fun n17 w18 => G.cond (n17 == (1 : Int)) (kc6 d_15 (IntKind.i64.wrap (ones_16 + (1 : Int))) w18) (S3 K d_15 ones_16 w18)) (S3 K d_15 ones_16 w)
theorem S8_ok (Kv : Value → World → Prop) (kc6 : Cur g3) : OkT pr false none 46 g3 (S8 (Kt Kv) kc6) (lp (blk (s1 (tl 2 bd)))) (P7 Kv kc6) := ok_last mixed FOk_ fun v ρ w => by kernel_rfl
def L6 (K : KT) : Cur g3 := loopC g3 (S8 K)
theorem L6_ok (Kv : Value → World → Prop) : OkT pr false none 46 g3 (L6 (Kt Kv)) (blk (s1 (tl 2 bd))) (P5 Kv) := ok_loop (B := S8 (Kt Kv)) (by kernel_rfl) fun kc => S8_ok Kv kc
theorem L6_ind {K : KT} {d_13 : Option Addr} {ones_14 : Int} {w : World} (h : ∀ X : Cur g3, (∀ d_13 ones_14 w, S8 K X d_13 ones_14 w → X d_13 ones_14 w) → X d_13 ones_14 w) : L6 K d_13 ones_14 w := fun X hX => h X fun d_13 ones_14 w hb => hX (d_13, ones_14, ()) w hb
theorem B9 (Kv : Value → World → Prop) : OkT pr false none 46 g3 (L6 (Kt Kv)) (s1 (tl 2 bd)) (P4 Kv) := ok_block 0 (by kernel_rfl) (L6_ok Kv)
theorem Q10 (Kv : Value → World → Prop) : OkT pr false none 46 g3 (L6 (Kt Kv)) (tl 2 bd) (P1 Kv) := ok_seq (by kernel_rfl) (S3_ok Kv) (B9 Kv)
end chunk_reader_time
def chunk_reader_time (d_2 : Option Addr) (w : World) (K : chunk_reader_time.KT) : Prop :=
  chunk_reader_time.L6 K d_2 (0 : Int) w
def chunk_reader_time.cl : CL := fun args K w => match args with
  | [.pointer x0] => C.chunk_reader_time x0 w (chunk_reader_time.Kt K)
  | _ => False
theorem chunk_reader_time.clok : OkC pr 67 chunk_reader_time.cl := by
  intro args K w h
  unfold chunk_reader_time.cl at h
  split at h
  · exact calls_group false mixed chunk_reader_time.FOk_ chunk_reader_time.fn rfl 2 (chunk_reader_time.Q10 K) (Eq.mp (by kernel_rfl) h)
  · exact h.elim

/-! (*tocsin/chunk.reader).samples -/
namespace chunk_reader_samples
abbrev KT := Sl → World → Prop
def Kt (Kv : Value → World → Prop) : KT := fun l1 w => Kv l1.v w
noncomputable def bd : Code := bdy Tryd.f42
theorem fn : FnOk pr 42 97 Tryd.f42 := ⟨Tryd.func42, by kernel_rfl, Tryd.ntmps42, by kernel_rfl, by kernel_rfl⟩
def F : Clee := ofL [(48, C.math_Float64frombits.cl), (53, C.math_Float64bits.cl), (64, C.chunk_reader_uvarint.cl), (65, C.chunk_reader_bits.cl), (66, C.chunk_reader_value.cl), (67, C.chunk_reader_time.cl)]
theorem FOk_ : FOk pr F := FOk_consX C.math_Float64frombits.clok (FOk_consX C.math_Float64bits.clok (FOk_cons C.chunk_reader_uvarint.clok (FOk_cons C.chunk_reader_bits.clok (FOk_cons C.chunk_reader_value.clok (FOk_cons C.chunk_reader_time.clok (FOk_nil))))))
def P1 (Kv : Value → World → Prop) : Post := bodyK false pr 97 Tryd.f42 Kv
@[reducible] def g2 : List SE := [.v 5 .sl]
def S2 (K : KT) (l_4 : Sl) (w : World) : Prop :=
  K l_4 w
theorem S2_ok (Kv : Value → World → Prop) : OkT pr false none 97 g2 (S2 (Kt Kv)) (s2 (tl 2 bd)) (P1 Kv) := ok_last mixed FOk_ fun v ρ w => by kernel_rfl
def P3 (Kv : Value → World → Prop) : Post := next (get g2 (S2 (Kt Kv))) (P1 Kv)
def P4 (Kv : Value → World → Prop) : Post := inBlock 0 (P3 Kv)
@[reducible] def g5 : List SE := [.v 0 .ptr, .v 1 (.int .i64), .v 5 .sl, .v 6 (.int .i64)]
def P6 (Kv : Value → World → Prop) (kc5 : Cur g5) : Post := next (get g5 kc5) (P4 Kv)
def S7 (K : KT) (kc5 : Cur g5) (d_13 : Option Addr) (n_14 : Int) (l_15 : Sl) (i_16 : Int) (w : World) : Prop :=
  G.cond (decide (i_16 < n_14)) (G.ptr d_13 fun p17 => G.cB (p17.add 4) w fun b18 => G.cond (!b18) (G.new (.cells #[(.int .i64 (0 : Int)), (.float .f64 0)] 26) w fun p19 w20 => G.cond (i_16 == (0 : Int)) (C.chunk_reader_uvarint d_13 w20 fun n21 w22 => G.nn (1 : Int) <| G.st p19 (.int .i64 (Go.bits .xor .i64 (IntKind.i64.wrap (shr .u64 n21 (1 : Int))) (IntKind.i64.wrap (0 - (IntKind.i64.wrap (Go.bits .and .u64 n21 (1 : Int))))))) w22 fun w23 => C.chunk_reader_bits d_13 (64 : Int) w23 fun n24 w25 => C.math_Float64frombits n24 w25 fun f26 w27 => G.st (p19.add 1) (.float .f64 f26) w27 fun w28 => G.cI .i64 p19 w28 fun n29 => G.cF .f64 (p19.add 1) w28 fun f30 => G.new (.cells #[(.int .i64 n29), (.float .f64 f30)] 26) w28 fun p31 w32 => G.runSl pr (Builtin.append_ #[24, 24] 24 #[l_15.v, (Sl.v (⟨some p31, 1, 1⟩ : Sl))]) w32 fun l33 w34 => kc5 d_13 n_14 l33 (IntKind.i64.wrap (i_16 + (1 : Int))) w34) (G.cond (i_16 == (1 : Int)) (G.ix l_15.a l_15.n (0 : Int) 2 fun p35 => G.cI .i64 p35 w20.drew fun n36 => C.chunk_reader_uvarint d_13 w20.drew fun n37 w38 => sameAt p35 1 w20.drew w38 ∧ (G.st p19 (.int .i64 (IntKind.i64.wrap (n36 + (IntKind.i64.wrap n37)))) w38 fun w39 => G.ix l_15.a l_15.n (0 : Int) 2 fun p40 => G.cF .f64 (p40.add 1) w39 fun f41 => C.math_Float64bits f41 w39 fun n42 w43 => C.chunk_reader_value d_13 w43 fun n44 w45 => C.math_Float64frombits (Go.bits .xor .u64 n42 n44) w45 fun f46 w47 => G.st (p19.add 1) (.float .f64 f46) w47 fun w48 => G.cI .i64 p19 w48 fun n49 => G.cF .f64 (p19.add 1) w48 fun f50 => G.new (.cells #[(.int .i64 n49), (.float .f64 f50)] 26) w48 fun p51 w52 => G.runSl pr (Builtin.append_ #[24, 24] 24 #[l_15.v, (Sl.v (⟨some p51, 1, 1⟩ : Sl))]) w52 fun l53 w54 => kc5 d_13 n_14 l53 (IntKind.i64.wrap (i_16 + (1 : Int))) w54)) (G.ix l_15.a l_15.n (IntKind.i64.wrap (i_16 - (2 : Int))) 2 fun p55 => G.cI .i64 p55 w20.drew fun n56 => G.cF .f64 (p55.add 1) w20.drew fun f57 => G.ix l_15.a l_15.n (IntKind.i64.wrap (i_16 - (1 : Int))) 2 fun p58 => G.cI .i64 p58 w20.drew fun n59 => G.cF .f64 (p58.add 1) w20.drew fun f60 => (G.new (.cells #[(.int .i64 (0 : Int)), (.float .f64 0)] 26) w20.drew fun p61 w62 => sameAt p55 2 w20.drew w62 ∧ sameAt p58 2 w20.drew w62 ∧ (G.new (.cells #[(.int .i64 (0 : Int)), (.float .f64 0)] 26) w62 fun p63 w64 => sameAt p55 2 w20.drew w64 ∧ sameAt p58 2 w20.drew w64 ∧ (G.st p61 (.int .i64 n56) w64 fun w65 => G.st (p61.add 1) (.float .f64 f57) w65 fun w66 => sameAt p58 2 w20.drew w66 ∧ (G.st p63 (.int .i64 n59) w66 fun w67 => G.st (p63.add 1) (.float .f64 f60) w67 fun w68 => G.cI .i64 p63 w68.drew fun n69 => G.cI .i64 p63 w68.drew fun n70 => G.cI .i64 p61 w68.drew fun n71 => C.chunk_reader_time d_13 w68.drew fun n72 w73 => sameAt p63 1 w68.drew w73 ∧ sameAt p63 1 w68.drew w73 ∧ sameAt p61 1 w68.drew w73 ∧ (G.st p19 (.int .i64 (IntKind.i64.wrap ((IntKind.i64.wrap (n69 + (IntKind.i64.wrap (n70 - n71)))) + n72))) w73 fun w74 => G.cF .f64 (p63.add 1) w74 fun f75 => C.math_Float64bits f75 w74 fun n76 w77 => C.chunk_reader_value d_13 w77 fun n78 w79 => C.math_Float64frombits (Go.bits .xor .u64 n76 n78) w79 fun f80 w81 => G.st (p19.add 1) (.float .f64 f80) w81 fun w82 => G.cI .i64 p19 w82 fun n83 => G.cF .f64 (p19.add 1) w82 fun f84 => G.new (.cells #[(.int .i64 n83), (.float .f64 f84)] 26) w82 fun p85 w86 => G.runSl pr (Builtin.append_ #[24, 24] 24 #[l_15.v, (Sl.v (⟨some p85, 1, 1⟩ : Sl))]) w86 fun l87 w88 => kc5 d_13 n_14 l87 (IntKind.i64.wrap (i_16 + (1 : Int))) w88))))) ∧ (G.new (.cells #[(.int .i64 (0 : Int)), (.float .f64 0)] 26) w20.drew fun p89 w90 => sameAt p55 2 w20.drew w90 ∧ sameAt p58 2 w20.drew w90 ∧ (G.new (.cells #[(.int .i64 (0 : Int)), (.float .f64 0)] 26) w90 fun p91 w92 => sameAt p55 2 w20.drew w92 ∧ sameAt p58 2 w20.drew w92 ∧ (G.st p91 (.int .i64 n56) w92 fun w93 => G.st (p91.add 1) (.float .f64 f57) w93 fun w94 => sameAt p58 2 w20.drew w94 ∧ (G.st p89 (.int .i64 n59) w94 fun w95 => G.st (p89.add 1) (.float .f64 f60) w95 fun w96 => G.cI .i64 p89 w96.drew fun n97 => G.cI .i64 p89 w96.drew fun n98 => G.cI .i64 p91 w96.drew fun n99 => C.chunk_reader_time d_13 w96.drew fun n100 w101 => sameAt p89 1 w96.drew w101 ∧ sameAt p89 1 w96.drew w101 ∧ sameAt p91 1 w96.drew w101 ∧ (G.st p19 (.int .i64 (IntKind.i64.wrap ((IntKind.i64.wrap (n97 + (IntKind.i64.wrap (n98 - n99)))) + n100))) w101 fun w102 => G.cF .f64 (p89.add 1) w102 fun f103 => C.math_Float64bits f103 w102 fun n104 w105 => C.chunk_reader_value d_13 w105 fun n106 w107 => C.math_Float64frombits (Go.bits .xor .u64 n104 n106) w107 fun f108 w109 => G.st (p19.add 1) (.float .f64 f108) w109 fun w110 => G.cI .i64 p19 w110 fun n111 => G.cF .f64 (p19.add 1) w110 fun f112 => G.new (.cells #[(.int .i64 n111), (.float .f64 f112)] 26) w110 fun p113 w114 => G.runSl pr (Builtin.append_ #[24, 24] 24 #[l_15.v, (Sl.v (⟨some p113, 1, 1⟩ : Sl))]) w114 fun l115 w116 => kc5 d_13 n_14 l115 (IntKind.i64.wrap (i_16 + (1 : Int))) w116)))))))) (S2 K l_15 w)) (S2 K l_15 w)
theorem S7_ok (Kv : Value → World → Prop) (kc5 : Cur g5) : OkT pr false none 97 g5 (S7 (Kt Kv) kc5) (lp (blk (tl 1 (s1 (tl 2 bd))))) (P6 Kv kc5) := ok_last mixed FOk_ fun v ρ w => by kernel_rfl
def L5 (K : KT) : Cur g5 := loopC g5 (S7 K)
theorem L5_ok (Kv : Value → World → Prop) : OkT pr false none 97 g5 (L5 (Kt Kv)) (blk (tl 1 (s1 (tl 2 bd)))) (P4 Kv) := ok_loop (B := S7 (Kt Kv)) (by kernel_rfl) fun kc => S7_ok Kv kc
theorem L5_ind {K : KT} {d_5 : Option Addr} {n_6 : Int} {l_7 : Sl} {i_8 : Int} {w : World} (h : ∀ X : Cur g5, (∀ d_5 n_6 l_7 i_8 w, S7 K X d_5 n_6 l_7 i_8 w → X d_5 n_6 l_7 i_8 w) → X d_5 n_6 l_7 i_8 w) : L5 K d_5 n_6 l_7 i_8 w := fun X hX => h X fun d_5 n_6 l_7 i_8 w hb => hX (d_5, n_6, l_7, i_8, ()) w hb
theorem B8 (Kv : Value → World → Prop) : OkT pr false none 97 g5 (L5 (Kt Kv)) (tl 1 (s1 (tl 2 bd))) (P3 Kv) := ok_block 0 (by kernel_rfl) (L5_ok Kv)
@[reducible] def g9 : List SE := [.v 0 .ptr, .v 1 (.int .i64), .v 5 .sl]
def S9 (K : KT) (d_117 : Option Addr) (n_118 : Int) (l_119 : Sl) (w : World) : Prop :=
  L5 K d_117 n_118 l_119 (0 : Int) w
theorem S9_ok (Kv : Value → World → Prop) : OkT pr false none 97 g9 (S9 (Kt Kv)) (s1 (tl 2 bd)) (P3 Kv) := ok_group mixed FOk_ 1 (B8 Kv) fun v ρ w => by kernel_rfl
theorem Q10 (Kv : Value → World → Prop) : OkT pr false none 97 g9 (S9 (Kt Kv)) (tl 2 bd) (P1 Kv) := ok_seq (by kernel_rfl) (S2_ok Kv) (S9_ok Kv)
end chunk_reader_samples
def chunk_reader_samples (d_2 : Option Addr) (n_3 : Int) (w : World) (K : chunk_reader_samples.KT) : Prop :=
  chunk_reader_samples.S9 K d_2 n_3 nilS w
def chunk_reader_samples.cl : CL := fun args K w => match args with
  | [.pointer x0, .int .i64 x1] => C.chunk_reader_samples x0 x1 w (chunk_reader_samples.Kt K)
  | _ => False
theorem chunk_reader_samples.clok : OkC pr 42 chunk_reader_samples.cl := by
  intro args K w h
  unfold chunk_reader_samples.cl at h
  split at h
  · exact calls_group false mixed chunk_reader_samples.FOk_ chunk_reader_samples.fn rfl 2 (chunk_reader_samples.Q10 K) (Eq.mp (by kernel_rfl) h)
  · exact h.elim

/-! tocsin/chunk.Decode -/
namespace chunk_Decode
abbrev KT := Sl → Int → World → Prop
def Kt (Kv : Value → World → Prop) : KT := fun l1 n2 w => Kv (.tuple #[l1.v, (.int .i64 n2)]) w
noncomputable def bd : Code := bdy Tryd.f22
theorem fn : FnOk pr 22 65 Tryd.f22 := ⟨Tryd.func22, by kernel_rfl, Tryd.ntmps22, by kernel_rfl, by kernel_rfl⟩
def F : Clee := ofL [(11, C.chunk_Encode.cl), (41, C.bits_NewReader.cl), (42, C.chunk_reader_samples.cl)]
theorem FOk_ : FOk pr F := FOk_cons C.chunk_Encode.clok (FOk_cons C.bits_NewReader.clok (FOk_cons C.chunk_reader_samples.clok (FOk_nil)))
def P1 (Kv : Value → World → Prop) : Post := bodyK false pr 65 Tryd.f22 Kv
end chunk_Decode
def chunk_Decode (b_3 : Sl) (w : World) (K : chunk_Decode.KT) : Prop :=
  G.cond (decide (((b_3.n : Nat) : Int) < (2 : Int))) (K nilS (3 : Int) w) (G.ix b_3.a b_3.n (0 : Int) 1 fun p6 => G.cI .u8 p6 w.drew fun n7 => G.nn (8 : Int) <| G.ix b_3.a b_3.n (1 : Int) 1 fun p8 => G.cI .u8 p8 w.drew fun n9 => G.slc b_3 (2 : Int) ((b_3.n : Nat) : Int) 1 fun l10 => G.cond (decide ((Go.bits .or .i64 (shl .i64 (IntKind.i64.wrap n7) (8 : Int)) (IntKind.i64.wrap n9)) > (120 : Int))) (K nilS (3 : Int) w.drew) (G.cond (decide (((l10.n : Nat) : Int) > (1048576 : Int))) (K nilS (3 : Int) w.drew) (C.bits_NewReader l10 (IntKind.i64.wrap ((8 : Int) * ((l10.n : Nat) : Int))) w.drew fun p11 w12 => G.new (.cells #[(.pointer p11), (.int .i64 (0 : Int)), (.int .i64 (0 : Int)), (.bool false), (.bool false)] 86) w12 fun p13 w14 => C.chunk_reader_samples (some p13) (Go.bits .or .i64 (shl .i64 (IntKind.i64.wrap n7) (8 : Int)) (IntKind.i64.wrap n9)) w14 fun l15 w16 => C.chunk_Encode l15 w16 fun l17 n18 n19 w20 => G.cB (p13.add 4) w20 fun b21 => G.cond b21 (K nilS (3 : Int) w20) (G.cond (n18 != (0 : Int)) (K nilS (3 : Int) w20) (G.rdS pr (Conv.bytesToString l17.v) w20 fun s22 => G.rdS pr (Conv.bytesToString b_3.v) w20 fun s23 => G.cond (!(s22.toList == s23.toList)) (K nilS (3 : Int) w20) (K l15 (0 : Int) w20))))))
def chunk_Decode.cl : CL := fun args K w => match args with
  | [.slice x0_a x0_n x0_c] => C.chunk_Decode ⟨x0_a, x0_n, x0_c⟩ w (chunk_Decode.Kt K)
  | _ => False
theorem chunk_Decode.clok : OkC pr 22 chunk_Decode.cl := by
  intro args K w h
  unfold chunk_Decode.cl at h
  split at h
  · exact calls_last false mixed chunk_Decode.FOk_ chunk_Decode.fn rfl (Eq.mp (by kernel_rfl) h)
  · exact h.elim

/-! tocsin/tocsinlaw08.ChunkCut -/
namespace tocsinlaw08_ChunkCut
abbrev KT := Bool → World → Prop
def Kt (Kv : Value → World → Prop) : KT := fun b1 w => Kv (.bool b1) w
noncomputable def bd : Code := bdy Tryd.f6
theorem fn : FnOk pr 6 75 Tryd.f6 := ⟨Tryd.func6, by kernel_rfl, Tryd.ntmps6, by kernel_rfl, by kernel_rfl⟩
def F : Clee := ofL [(10, C.tocsinlaw08_awake.cl), (11, C.chunk_Encode.cl), (22, C.chunk_Decode.cl)]
theorem FOk_ : FOk pr F := FOk_cons C.tocsinlaw08_awake.clok (FOk_cons C.chunk_Encode.clok (FOk_cons C.chunk_Decode.clok (FOk_nil)))
def P1 (Kv : Value → World → Prop) : Post := bodyK false pr 75 Tryd.f6 Kv
@[reducible] def g2 : List SE := [.v 2 (.int .u8), .v 7 .sl]
def S2 (K : KT) (more_17 : Int) (b_18 : Sl) (w : World) : Prop :=
  G.runSl pr (Builtin.append_ #[27, 27] 27 #[nilS.v, b_18.v]) w fun l19 w20 => G.new (.cells #[(.int .u8 more_17)] 5) w20 fun p21 w22 => G.runSl pr (Builtin.append_ #[27, 27] 27 #[l19.v, (Sl.v (⟨some p21, 1, 1⟩ : Sl))]) w22 fun l23 w24 => C.chunk_Decode l23 w24 fun l25 n26 w27 => G.cond (n26 == (3 : Int)) (G.cond (((l25.n : Nat) : Int) == (0 : Int)) (C.tocsinlaw08_awake w27 fun b28 w29 => K b28 w29) (K false w27)) (K false w27)
theorem S2_ok (Kv : Value → World → Prop) : OkT pr false none 75 g2 (S2 (Kt Kv)) (tl 1 (tl 6 bd)) (P1 Kv) := ok_last mixed FOk_ fun v ρ w => by kernel_rfl
@[reducible] def g3 : List SE := [.v 1 (.int .i64), .v 2 (.int .u8), .v 7 .sl]
def S3 (K : KT) (cut_30 : Int) (more_31 : Int) (b_32 : Sl) (w : World) : Prop :=
  G.cond (decide (cut_30 < ((b_32.n : Nat) : Int))) (G.slc b_32 0 cut_30 1 fun l33 => C.chunk_Decode l33 w fun l34 n35 w36 => G.cond (n35 != (3 : Int)) (K false w36) (G.cond (decide (((l34.n : Nat) : Int) > (0 : Int))) (K false w36) (S2 K more_31 b_32 w36))) (S2 K more_31 b_32 w)
theorem S3_ok (Kv : Value → World → Prop) : OkT pr false none 75 g3 (S3 (Kt Kv)) (tl 6 bd) (P1 Kv) := ok_group mixed FOk_ 1 (S2_ok Kv) fun v ρ w => by kernel_rfl
end tocsinlaw08_ChunkCut
def tocsinlaw08_ChunkCut (l_2 : Sl) (cut_3 : Int) (more_4 : Int) (w : World) (K : tocsinlaw08_ChunkCut.KT) : Prop :=
  C.chunk_Encode l_2 w fun l37 n38 n39 w40 => G.cond (n38 != (0 : Int)) (C.tocsinlaw08_awake w40 fun b41 w42 => K b41 w42) (G.cond (((l37.n : Nat) : Int) == (0 : Int)) (K false w40) (G.nz ((l37.n : Nat) : Int) <| G.cond (decide ((Int.tmod cut_3 ((l37.n : Nat) : Int)) < (0 : Int))) (tocsinlaw08_ChunkCut.S3 K (IntKind.i64.wrap (0 - (Int.tmod cut_3 ((l37.n : Nat) : Int)))) more_4 l37 w40) (tocsinlaw08_ChunkCut.S3 K (Int.tmod cut_3 ((l37.n : Nat) : Int)) more_4 l37 w40)))
def tocsinlaw08_ChunkCut.cl : CL := fun args K w => match args with
  | [.slice x0_a x0_n x0_c, .int .i64 x1, .int .u8 x2] => C.tocsinlaw08_ChunkCut ⟨x0_a, x0_n, x0_c⟩ x1 x2 w (tocsinlaw08_ChunkCut.Kt K)
  | _ => False
theorem tocsinlaw08_ChunkCut.clok : OkC pr 6 tocsinlaw08_ChunkCut.cl := by
  intro args K w h
  unfold tocsinlaw08_ChunkCut.cl at h
  split at h
  · exact calls_group false mixed tocsinlaw08_ChunkCut.FOk_ tocsinlaw08_ChunkCut.fn rfl 6 (tocsinlaw08_ChunkCut.S3_ok K) (Eq.mp (by kernel_rfl) h)
  · exact h.elim

/-! tocsin/tocsinref08.Encode -/
namespace tocsinref08_Encode
abbrev KT := Sl → Int → Int → World → Prop
def Kt (Kv : Value → World → Prop) : KT := fun l1 n2 n3 w => Kv (.tuple #[l1.v, (.int .i64 n2), (.int .i64 n3)]) w
noncomputable def bd : Code := bdy Tryd.f23
theorem fn : FnOk pr 23 28 Tryd.f23 := ⟨Tryd.func23, by kernel_rfl, Tryd.ntmps23, by kernel_rfl, by kernel_rfl⟩
def F : Clee := ofL [(13, C.tocsinref08_Wrong.cl), (20, C.tocsinref08_Bytes.cl)]
theorem FOk_ : FOk pr F := FOk_cons C.tocsinref08_Wrong.clok (FOk_cons C.tocsinref08_Bytes.clok (FOk_nil))
def P1 (Kv : Value → World → Prop) : Post := bodyK false pr 28 Tryd.f23 Kv
@[reducible] def g2 : List SE := [.v 0 .sl]
def S2 (K : KT) (l_5 : Sl) (w : World) : Prop :=
  C.tocsinref08_Bytes l_5 w fun l6 w7 => K l6 (0 : Int) (0 : Int) w7
theorem S2_ok (Kv : Value → World → Prop) : OkT pr false none 28 g2 (S2 (Kt Kv)) (s2 (tl 1 bd)) (P1 Kv) := ok_last mixed FOk_ fun v ρ w => by kernel_rfl
def P3 (Kv : Value → World → Prop) : Post := next (get g2 (S2 (Kt Kv))) (P1 Kv)
def P4 (Kv : Value → World → Prop) : Post := inBlock 0 (P3 Kv)
@[reducible] def g5 : List SE := [.v 0 .sl, .v 8 .sl, .v 9 (.int .i64), .v 10 (.int .i64)]
def P6 (Kv : Value → World → Prop) (kc5 : Cur g5) : Post := next (get g5 kc5) (P4 Kv)
def S7 (K : KT) (kc5 : Cur g5) (l_16 : Sl) (l17 : Sl) (n18 : Int) (n19 : Int) (w : World) : Prop :=
  G.cond (decide (n19 < n18)) (G.ix l17.a l17.n n19 2 fun p20 => G.cI .i64 p20 w fun n21 => G.cF .f64 (p20.add 1) w fun f22 => G.new (.cells #[(.int .i64 (0 : Int)), (.float .f64 0)] 26) w fun p23 w24 => G.st p23 (.int .i64 n21) w24 fun w25 => G.st (p23.add 1) (.float .f64 f22) w25 fun w26 => G.slc l_16 0 n19 2 fun l27 => G.cI .i64 p23 w26.drew fun n28 => C.tocsinref08_Wrong l27 n28 w26.drew fun n29 w30 => G.cond (n29 != (0 : Int)) (K nilS n29 n19 w30) (kc5 l_16 l17 n18 (IntKind.i64.wrap (n19 + (1 : Int))) w30)) (S2 K l_16 w)
theorem S7_ok (Kv : Value → World → Prop) (kc5 : Cur g5) : OkT pr false none 28 g5 (S7 (Kt Kv) kc5) (lp (blk (tl 1 (s1 (tl 1 bd))))) (P6 Kv kc5) := ok_last mixed FOk_ fun v ρ w => by kernel_rfl
def L5 (K : KT) : Cur g5 := loopC g5 (S7 K)
theorem L5_ok (Kv : Value → World → Prop) : OkT pr false none 28 g5 (L5 (Kt Kv)) (blk (tl 1 (s1 (tl 1 bd)))) (P4 Kv) := ok_loop (B := S7 (Kt Kv)) (by kernel_rfl) fun kc => S7_ok Kv kc
theorem L5_ind {K : KT} {l_8 : Sl} {l9 : Sl} {n10 : Int} {n11 : Int} {w : World} (h : ∀ X : Cur g5, (∀ l_8 l9 n10 n11 w, S7 K X l_8 l9 n10 n11 w → X l_8 l9 n10 n11 w) → X l_8 l9 n10 n11 w) : L5 K l_8 l9 n10 n11 w := fun X hX => h X fun l_8 l9 n10 n11 w hb => hX (l_8, l9, n10, n11, ()) w hb
theorem B8 (Kv : Value → World → Prop) : OkT pr false none 28 g5 (L5 (Kt Kv)) (tl 1 (s1 (tl 1 bd))) (P3 Kv) := ok_block 0 (by kernel_rfl) (L5_ok Kv)
def S9 (K : KT) (l_31 : Sl) (w : World) : Prop :=
  L5 K l_31 l_31 ((l_31.n : Nat) : Int) (0 : Int) w
theorem S9_ok (Kv : Value → World → Prop) : OkT pr false none 28 g2 (S9 (Kt Kv)) (s1 (tl 1 bd)) (P3 Kv) := ok_group mixed FOk_ 1 (B8 Kv) fun v ρ w => by kernel_rfl
theorem Q10 (Kv : Value → World → Prop) : OkT pr false none 28 g2 (S9 (Kt Kv)) (tl 1 bd) (P1 Kv) := ok_seq (by kernel_rfl) (S2_ok Kv) (S9_ok Kv)
end tocsinref08_Encode
def tocsinref08_Encode (l_4 : Sl) (w : World) (K : tocsinref08_Encode.KT) : Prop :=
  tocsinref08_Encode.S9 K l_4 w
def tocsinref08_Encode.cl : CL := fun args K w => match args with
  | [.slice x0_a x0_n x0_c] => C.tocsinref08_Encode ⟨x0_a, x0_n, x0_c⟩ w (tocsinref08_Encode.Kt K)
  | _ => False
theorem tocsinref08_Encode.clok : OkC pr 23 tocsinref08_Encode.cl := by
  intro args K w h
  unfold tocsinref08_Encode.cl at h
  split at h
  · exact calls_group false mixed tocsinref08_Encode.FOk_ tocsinref08_Encode.fn rfl 1 (tocsinref08_Encode.Q10 K) (Eq.mp (by kernel_rfl) h)
  · exact h.elim

/-! tocsin/tocsinlaw08.lent -/
namespace tocsinlaw08_lent
abbrev KT := Sl → World → Prop
def Kt (Kv : Value → World → Prop) : KT := fun l1 w => Kv l1.v w
noncomputable def bd : Code := bdy Tryd.f24
theorem fn : FnOk pr 24 14 Tryd.f24 := ⟨Tryd.func24, by kernel_rfl, Tryd.ntmps24, by kernel_rfl, by kernel_rfl⟩
def F : Clee := ofL []
theorem FOk_ : FOk pr F := FOk_nil
def P1 (Kv : Value → World → Prop) : Post := bodyK false pr 14 Tryd.f24 Kv
end tocsinlaw08_lent
def tocsinlaw08_lent (b_2 : Sl) (w : World) (K : tocsinlaw08_lent.KT) : Prop :=
  G.runSl pr (Builtin.append_ #[27, 27] 27 #[nilS.v, b_2.v]) w fun l3 w4 => G.new (.cells #[(.int .u8 (77 : Int))] 5) w4 fun p5 w6 => G.runSl pr (Builtin.append_ #[27, 27] 27 #[l3.v, (Sl.v (⟨some p5, 1, 1⟩ : Sl))]) w6 fun l7 w8 => G.slc l7 0 ((b_2.n : Nat) : Int) 1 fun l9 => K l9 w8
def tocsinlaw08_lent.cl : CL := fun args K w => match args with
  | [.slice x0_a x0_n x0_c] => C.tocsinlaw08_lent ⟨x0_a, x0_n, x0_c⟩ w (tocsinlaw08_lent.Kt K)
  | _ => False
theorem tocsinlaw08_lent.clok : OkC pr 24 tocsinlaw08_lent.cl := by
  intro args K w h
  unfold tocsinlaw08_lent.cl at h
  split at h
  · exact calls_last false mixed tocsinlaw08_lent.FOk_ tocsinlaw08_lent.fn rfl (Eq.mp (by kernel_rfl) h)
  · exact h.elim

/-! tocsin/tocsinref02.New -/
namespace tocsinref02_New
abbrev KT := Option Addr → World → Prop
def Kt (Kv : Value → World → Prop) : KT := fun p1 w => Kv (.pointer p1) w
noncomputable def bd : Code := bdy Tryd.f43
theorem fn : FnOk pr 43 49 Tryd.f43 := ⟨Tryd.func43, by kernel_rfl, Tryd.ntmps43, by kernel_rfl, by kernel_rfl⟩
def F : Clee := ofL []
theorem FOk_ : FOk pr F := FOk_nil
def P1 (Kv : Value → World → Prop) : Post := bodyK false pr 49 Tryd.f43 Kv
@[reducible] def g2 : List SE := [.v 5 .ptr]
def S2 (K : KT) (s_6 : Option Addr) (w : World) : Prop :=
  K s_6 w
theorem S2_ok (Kv : Value → World → Prop) : OkT pr false none 49 g2 (S2 (Kt Kv)) (s2 (tl 3 bd)) (P1 Kv) := ok_last mixed FOk_ fun v ρ w => by kernel_rfl
def P3 (Kv : Value → World → Prop) : Post := next (get g2 (S2 (Kt Kv))) (P1 Kv)
def P4 (Kv : Value → World → Prop) : Post := inBlock 0 (P3 Kv)
@[reducible] def g5 : List SE := [.v 0 .sl, .v 1 (.int .i64), .v 5 .ptr, .v 6 (.int .i64)]
def P6 (Kv : Value → World → Prop) (kc5 : Cur g5) : Post := next (get g5 kc5) (P4 Kv)
def S7 (K : KT) (kc5 : Cur g5) (b_15 : Sl) (bits_16 : Int) (s_17 : Option Addr) (i_18 : Int) (w : World) : Prop :=
  G.cond (decide (i_18 < bits_16)) (G.ptr s_17 fun p19 => G.cSl p19 w.drew fun l20 => G.nz (8 : Int) <| G.ix b_15.a b_15.n (IntKind.i64.wrap (Int.tdiv i_18 (8 : Int))) 1 fun p21 => G.cI .u8 p21 w.drew fun n22 => G.nz (8 : Int) <| G.nn (IntKind.u64.wrap (IntKind.i64.wrap ((7 : Int) - (Int.tmod i_18 (8 : Int))))) <| G.new (.cells #[(.bool ((Go.bits .and .u8 (shr .u8 n22 (IntKind.u64.wrap (IntKind.i64.wrap ((7 : Int) - (Int.tmod i_18 (8 : Int)))))) (1 : Int)) == (1 : Int)))] 4) w.drew fun p23 w24 => sameAt p19 1 w.drew w24 ∧ (G.runSl pr (Builtin.append_ #[76, 76] 76 #[l20.v, (Sl.v (⟨some p23, 1, 1⟩ : Sl))]) w24 fun l25 w26 => G.ptr s_17 fun p27 => G.st p27 l25.v w26 fun w28 => kc5 b_15 bits_16 s_17 (IntKind.i64.wrap (i_18 + (1 : Int))) w28)) (S2 K s_17 w)
theorem S7_ok (Kv : Value → World → Prop) (kc5 : Cur g5) : OkT pr false none 49 g5 (S7 (Kt Kv) kc5) (lp (blk (tl 1 (s1 (tl 3 bd))))) (P6 Kv kc5) := ok_last mixed FOk_ fun v ρ w => by kernel_rfl
def L5 (K : KT) : Cur g5 := loopC g5 (S7 K)
theorem L5_ok (Kv : Value → World → Prop) : OkT pr false none 49 g5 (L5 (Kt Kv)) (blk (tl 1 (s1 (tl 3 bd)))) (P4 Kv) := ok_loop (B := S7 (Kt Kv)) (by kernel_rfl) fun kc => S7_ok Kv kc
theorem L5_ind {K : KT} {b_7 : Sl} {bits_8 : Int} {s_9 : Option Addr} {i_10 : Int} {w : World} (h : ∀ X : Cur g5, (∀ b_7 bits_8 s_9 i_10 w, S7 K X b_7 bits_8 s_9 i_10 w → X b_7 bits_8 s_9 i_10 w) → X b_7 bits_8 s_9 i_10 w) : L5 K b_7 bits_8 s_9 i_10 w := fun X hX => h X fun b_7 bits_8 s_9 i_10 w hb => hX (b_7, bits_8, s_9, i_10, ()) w hb
theorem B8 (Kv : Value → World → Prop) : OkT pr false none 49 g5 (L5 (Kt Kv)) (tl 1 (s1 (tl 3 bd))) (P3 Kv) := ok_block 0 (by kernel_rfl) (L5_ok Kv)
@[reducible] def g9 : List SE := [.v 0 .sl, .v 1 (.int .i64), .v 5 .ptr]
def S9 (K : KT) (b_29 : Sl) (bits_30 : Int) (s_31 : Option Addr) (w : World) : Prop :=
  L5 K b_29 bits_30 s_31 (0 : Int) w
theorem S9_ok (Kv : Value → World → Prop) : OkT pr false none 49 g9 (S9 (Kt Kv)) (s1 (tl 3 bd)) (P3 Kv) := ok_group mixed FOk_ 1 (B8 Kv) fun v ρ w => by kernel_rfl
theorem Q10 (Kv : Value → World → Prop) : OkT pr false none 49 g9 (S9 (Kt Kv)) (tl 3 bd) (P1 Kv) := ok_seq (by kernel_rfl) (S2_ok Kv) (S9_ok Kv)
end tocsinref02_New
def tocsinref02_New (b_2 : Sl) (bits_3 : Int) (w : World) (K : tocsinref02_New.KT) : Prop :=
  G.cond (decide (bits_3 < (0 : Int))) (K none w) (G.cond (decide (bits_3 > (8388608 : Int))) (K none w) (G.cond (decide (bits_3 > (IntKind.i64.wrap ((8 : Int) * ((b_2.n : Nat) : Int))))) (K none w) (G.new (.cells #[nilS.v, (.int .i64 (0 : Int))] 78) w fun p32 w33 => tocsinref02_New.S9 K b_2 bits_3 (some p32) w33)))
def tocsinref02_New.cl : CL := fun args K w => match args with
  | [.slice x0_a x0_n x0_c, .int .i64 x1] => C.tocsinref02_New ⟨x0_a, x0_n, x0_c⟩ x1 w (tocsinref02_New.Kt K)
  | _ => False
theorem tocsinref02_New.clok : OkC pr 43 tocsinref02_New.cl := by
  intro args K w h
  unfold tocsinref02_New.cl at h
  split at h
  · exact calls_group false mixed tocsinref02_New.FOk_ tocsinref02_New.fn rfl 3 (tocsinref02_New.Q10 K) (Eq.mp (by kernel_rfl) h)
  · exact h.elim

/-! (*tocsin/tocsinref02.Stream).Left -/
namespace tocsinref02_Stream_Left
abbrev KT := Int → World → Prop
def Kt (Kv : Value → World → Prop) : KT := fun n1 w => Kv (.int .i64 n1) w
noncomputable def bd : Code := bdy Tryd.f84
theorem fn : FnOk pr 84 13 Tryd.f84 := ⟨Tryd.func84, by kernel_rfl, Tryd.ntmps84, by kernel_rfl, by kernel_rfl⟩
def F : Clee := ofL []
theorem FOk_ : FOk pr F := FOk_nil
def P1 (Kv : Value → World → Prop) : Post := bodyK false pr 13 Tryd.f84 Kv
end tocsinref02_Stream_Left
def tocsinref02_Stream_Left (s_2 : Option Addr) (w : World) (K : tocsinref02_Stream_Left.KT) : Prop :=
  G.ptr s_2 fun p3 => G.cSl p3 w.drew fun l4 => G.ptr s_2 fun p5 => G.cI .i64 (p5.add 1) w.drew fun n6 => K (IntKind.i64.wrap (((l4.n : Nat) : Int) - n6)) w.drew
def tocsinref02_Stream_Left.cl : CL := fun args K w => match args with
  | [.pointer x0] => C.tocsinref02_Stream_Left x0 w (tocsinref02_Stream_Left.Kt K)
  | _ => False
theorem tocsinref02_Stream_Left.clok : OkC pr 84 tocsinref02_Stream_Left.cl := by
  intro args K w h
  unfold tocsinref02_Stream_Left.cl at h
  split at h
  · exact calls_last false mixed tocsinref02_Stream_Left.FOk_ tocsinref02_Stream_Left.fn rfl (Eq.mp (by kernel_rfl) h)
  · exact h.elim

/-! (*tocsin/tocsinref02.Stream).ReadBits -/
namespace tocsinref02_Stream_ReadBits
abbrev KT := Int → Int → World → Prop
def Kt (Kv : Value → World → Prop) : KT := fun n1 n2 w => Kv (.tuple #[(.int .u64 n1), (.int .i64 n2)]) w
noncomputable def bd : Code := bdy Tryd.f69
theorem fn : FnOk pr 69 49 Tryd.f69 := ⟨Tryd.func69, by kernel_rfl, Tryd.ntmps69, by kernel_rfl, by kernel_rfl⟩
def F : Clee := ofL [(84, C.tocsinref02_Stream_Left.cl)]
theorem FOk_ : FOk pr F := FOk_cons C.tocsinref02_Stream_Left.clok (FOk_nil)
def P1 (Kv : Value → World → Prop) : Post := bodyK false pr 49 Tryd.f69 Kv
@[reducible] def g2 : List SE := [.v 0 .ptr, .v 1 (.int .i64), .v 6 (.int .u64)]
def S2 (K : KT) (s_9 : Option Addr) (n_10 : Int) (v_11 : Int) (w : World) : Prop :=
  G.ptr s_9 fun p12 => G.cI .i64 (p12.add 1) w fun n13 => G.ptr s_9 fun p14 => G.st (p14.add 1) (.int .i64 (IntKind.i64.wrap (n13 + n_10))) w fun w15 => K v_11 (0 : Int) w15
theorem S2_ok (Kv : Value → World → Prop) : OkT pr false none 49 g2 (S2 (Kt Kv)) (s2 (tl 4 bd)) (P1 Kv) := ok_last mixed FOk_ fun v ρ w => by kernel_rfl
def P3 (Kv : Value → World → Prop) : Post := next (get g2 (S2 (Kt Kv))) (P1 Kv)
def P4 (Kv : Value → World → Prop) : Post := inBlock 0 (P3 Kv)
@[reducible] def g5 : List SE := [.v 0 .ptr, .v 1 (.int .i64), .v 6 (.int .u64), .v 7 (.int .i64)]
def P6 (Kv : Value → World → Prop) (kc5 : Cur g5) : Post := next (get g5 kc5) (P4 Kv)
def S7 (K : KT) (kc5 : Cur g5) (s_24 : Option Addr) (n_25 : Int) (v_26 : Int) (i_27 : Int) (w : World) : Prop :=
  G.cond (decide (i_27 < n_25)) (G.nn (1 : Int) <| G.ptr s_24 fun p28 => G.cSl p28 w.drew fun l29 => G.ptr s_24 fun p30 => G.cI .i64 (p30.add 1) w.drew fun n31 => G.ix l29.a l29.n (IntKind.i64.wrap (n31 + i_27)) 1 fun p32 => G.cB p32 w.drew fun b33 => G.cond b33 (kc5 s_24 n_25 (IntKind.u64.wrap ((shl .u64 v_26 (1 : Int)) + (1 : Int))) (IntKind.i64.wrap (i_27 + (1 : Int))) w.drew) (kc5 s_24 n_25 (shl .u64 v_26 (1 : Int)) (IntKind.i64.wrap (i_27 + (1 : Int))) w.drew)) (S2 K s_24 n_25 v_26 w)
theorem S7_ok (Kv : Value → World → Prop) (kc5 : Cur g5) : OkT pr false none 49 g5 (S7 (Kt Kv) kc5) (lp (blk (tl 1 (s1 (tl 4 bd))))) (P6 Kv kc5) := ok_last mixed FOk_ fun v ρ w => by kernel_rfl
def L5 (K : KT) : Cur g5 := loopC g5 (S7 K)
theorem L5_ok (Kv : Value → World → Prop) : OkT pr false none 49 g5 (L5 (Kt Kv)) (blk (tl 1 (s1 (tl 4 bd)))) (P4 Kv) := ok_loop (B := S7 (Kt Kv)) (by kernel_rfl) fun kc => S7_ok Kv kc
theorem L5_ind {K : KT} {s_16 : Option Addr} {n_17 : Int} {v_18 : Int} {i_19 : Int} {w : World} (h : ∀ X : Cur g5, (∀ s_16 n_17 v_18 i_19 w, S7 K X s_16 n_17 v_18 i_19 w → X s_16 n_17 v_18 i_19 w) → X s_16 n_17 v_18 i_19 w) : L5 K s_16 n_17 v_18 i_19 w := fun X hX => h X fun s_16 n_17 v_18 i_19 w hb => hX (s_16, n_17, v_18, i_19, ()) w hb
theorem B8 (Kv : Value → World → Prop) : OkT pr false none 49 g5 (L5 (Kt Kv)) (tl 1 (s1 (tl 4 bd))) (P3 Kv) := ok_block 0 (by kernel_rfl) (L5_ok Kv)
def S9 (K : KT) (s_34 : Option Addr) (n_35 : Int) (v_36 : Int) (w : World) : Prop :=
  L5 K s_34 n_35 v_36 (0 : Int) w
theorem S9_ok (Kv : Value → World → Prop) : OkT pr false none 49 g2 (S9 (Kt Kv)) (s1 (tl 4 bd)) (P3 Kv) := ok_group mixed FOk_ 1 (B8 Kv) fun v ρ w => by kernel_rfl
theorem Q10 (Kv : Value → World → Prop) : OkT pr false none 49 g2 (S9 (Kt Kv)) (tl 4 bd) (P1 Kv) := ok_seq (by kernel_rfl) (S2_ok Kv) (S9_ok Kv)
end tocsinref02_Stream_ReadBits
def tocsinref02_Stream_ReadBits (s_3 : Option Addr) (n_4 : Int) (w : World) (K : tocsinref02_Stream_ReadBits.KT) : Prop :=
  G.cond (decide (n_4 < (0 : Int))) (K (0 : Int) (1 : Int) w) (G.cond (decide (n_4 > (64 : Int))) (K (0 : Int) (1 : Int) w) (C.tocsinref02_Stream_Left s_3 w fun n37 w38 => G.cond (decide (n37 < n_4)) (K (0 : Int) (9 : Int) w38) (tocsinref02_Stream_ReadBits.S9 K s_3 n_4 (0 : Int) w38)))
def tocsinref02_Stream_ReadBits.cl : CL := fun args K w => match args with
  | [.pointer x0, .int .i64 x1] => C.tocsinref02_Stream_ReadBits x0 x1 w (tocsinref02_Stream_ReadBits.Kt K)
  | _ => False
theorem tocsinref02_Stream_ReadBits.clok : OkC pr 69 tocsinref02_Stream_ReadBits.cl := by
  intro args K w h
  unfold tocsinref02_Stream_ReadBits.cl at h
  split at h
  · exact calls_group false mixed tocsinref02_Stream_ReadBits.FOk_ tocsinref02_Stream_ReadBits.fn rfl 4 (tocsinref02_Stream_ReadBits.Q10 K) (Eq.mp (by kernel_rfl) h)
  · exact h.elim

/-! (*tocsin/tocsinref08.Reader).bits -/
namespace tocsinref08_Reader_bits
abbrev KT := Int → World → Prop
def Kt (Kv : Value → World → Prop) : KT := fun n1 w => Kv (.int .u64 n1) w
noncomputable def bd : Code := bdy Tryd.f45
theorem fn : FnOk pr 45 28 Tryd.f45 := ⟨Tryd.func45, by kernel_rfl, Tryd.ntmps45, by kernel_rfl, by kernel_rfl⟩
def F : Clee := ofL [(69, C.tocsinref02_Stream_ReadBits.cl)]
theorem FOk_ : FOk pr F := FOk_cons C.tocsinref02_Stream_ReadBits.clok (FOk_nil)
def P1 (Kv : Value → World → Prop) : Post := bodyK false pr 28 Tryd.f45 Kv
end tocsinref08_Reader_bits
def tocsinref08_Reader_bits (r_2 : Option Addr) (n_3 : Int) (w : World) (K : tocsinref08_Reader_bits.KT) : Prop :=
  G.ptr r_2 fun p4 => G.cP p4 w fun p5 => C.tocsinref02_Stream_ReadBits p5 n_3 w fun n6 n7 w8 => G.ptr r_2 fun p9 => G.cB (p9.add 2) w8 fun b10 => G.cond b10 (G.ptr r_2 fun p11 => G.st (p11.add 2) (.bool true) w8 fun w12 => K n6 w12) (G.ptr r_2 fun p13 => G.st (p13.add 2) (.bool (n7 != (0 : Int))) w8 fun w14 => K n6 w14)
def tocsinref08_Reader_bits.cl : CL := fun args K w => match args with
  | [.pointer x0, .int .i64 x1] => C.tocsinref08_Reader_bits x0 x1 w (tocsinref08_Reader_bits.Kt K)
  | _ => False
theorem tocsinref08_Reader_bits.clok : OkC pr 45 tocsinref08_Reader_bits.cl := by
  intro args K w h
  unfold tocsinref08_Reader_bits.cl at h
  split at h
  · exact calls_last false mixed tocsinref08_Reader_bits.FOk_ tocsinref08_Reader_bits.fn rfl (Eq.mp (by kernel_rfl) h)
  · exact h.elim

/-! tocsin/tocsinref01.U -/
namespace tocsinref01_U
abbrev KT := Int → Int → Int → World → Prop
def Kt (Kv : Value → World → Prop) : KT := fun n1 n2 n3 w => Kv (.tuple #[(.int .u64 n1), (.int .i64 n2), (.int .i64 n3)]) w
noncomputable def bd : Code := bdy Tryd.f68
theorem fn : FnOk pr 68 62 Tryd.f68 := ⟨Tryd.func68, by kernel_rfl, Tryd.ntmps68, by kernel_rfl, by kernel_rfl⟩
def F : Clee := ofL []
theorem FOk_ : FOk pr F := FOk_nil
def P1 (Kv : Value → World → Prop) : Post := bodyK false pr 62 Tryd.f68 Kv
@[reducible] def g2 : List SE := []
def S2 (K : KT) (w : World) : Prop :=
  K (0 : Int) (0 : Int) (7 : Int) w
theorem S2_ok (Kv : Value → World → Prop) : OkT pr false none 62 g2 (S2 (Kt Kv)) (s2 (tl 3 bd)) (P1 Kv) := ok_last mixed FOk_ fun v ρ w => by kernel_rfl
def P3 (Kv : Value → World → Prop) : Post := next (get g2 (S2 (Kt Kv))) (P1 Kv)
def P4 (Kv : Value → World → Prop) : Post := inBlock 0 (P3 Kv)
@[reducible] def g5 : List SE := [.v 0 .sl, .v 1 (.int .i64), .v 7 (.int .u64), .v 8 (.int .i64)]
def P6 (Kv : Value → World → Prop) (kc5 : Cur g5) : Post := next (get g5 kc5) (P4 Kv)
def S7 (K : KT) (kc5 : Cur g5) (b_16 : Sl) (at_17 : Int) (n_18 : Int) (i_19 : Int) (w : World) : Prop :=
  G.cond (decide (i_19 < (10 : Int))) (G.cond (decide (i_19 ≥ (IntKind.i64.wrap (((b_16.n : Nat) : Int) - at_17)))) (K (0 : Int) (0 : Int) (9 : Int) w) (G.ix b_16.a b_16.n (IntKind.i64.wrap (at_17 + i_19)) 1 fun p20 => G.cI .u8 p20 w fun n21 => G.cond (i_19 == (9 : Int)) (G.cond (decide (n21 > (1 : Int))) (K (0 : Int) (0 : Int) (7 : Int) w) (G.nz (128 : Int) <| G.nn (IntKind.u64.wrap (IntKind.i64.wrap ((7 : Int) * i_19))) <| G.cond (decide (n21 < (128 : Int))) (G.cond (n21 == (0 : Int)) (G.cond (decide (i_19 > (0 : Int))) (K (0 : Int) (0 : Int) (3 : Int) w) (K (Go.bits .or .u64 n_18 (shl .u64 (IntKind.u64.wrap (Int.tmod n21 (128 : Int))) (IntKind.u64.wrap (IntKind.i64.wrap ((7 : Int) * i_19))))) (IntKind.i64.wrap ((IntKind.i64.wrap (at_17 + i_19)) + (1 : Int))) (0 : Int) w)) (K (Go.bits .or .u64 n_18 (shl .u64 (IntKind.u64.wrap (Int.tmod n21 (128 : Int))) (IntKind.u64.wrap (IntKind.i64.wrap ((7 : Int) * i_19))))) (IntKind.i64.wrap ((IntKind.i64.wrap (at_17 + i_19)) + (1 : Int))) (0 : Int) w)) (kc5 b_16 at_17 (Go.bits .or .u64 n_18 (shl .u64 (IntKind.u64.wrap (Int.tmod n21 (128 : Int))) (IntKind.u64.wrap (IntKind.i64.wrap ((7 : Int) * i_19))))) (IntKind.i64.wrap (i_19 + (1 : Int))) w))) (G.nz (128 : Int) <| G.nn (IntKind.u64.wrap (IntKind.i64.wrap ((7 : Int) * i_19))) <| G.cond (decide (n21 < (128 : Int))) (G.cond (n21 == (0 : Int)) (G.cond (decide (i_19 > (0 : Int))) (K (0 : Int) (0 : Int) (3 : Int) w) (K (Go.bits .or .u64 n_18 (shl .u64 (IntKind.u64.wrap (Int.tmod n21 (128 : Int))) (IntKind.u64.wrap (IntKind.i64.wrap ((7 : Int) * i_19))))) (IntKind.i64.wrap ((IntKind.i64.wrap (at_17 + i_19)) + (1 : Int))) (0 : Int) w)) (K (Go.bits .or .u64 n_18 (shl .u64 (IntKind.u64.wrap (Int.tmod n21 (128 : Int))) (IntKind.u64.wrap (IntKind.i64.wrap ((7 : Int) * i_19))))) (IntKind.i64.wrap ((IntKind.i64.wrap (at_17 + i_19)) + (1 : Int))) (0 : Int) w)) (kc5 b_16 at_17 (Go.bits .or .u64 n_18 (shl .u64 (IntKind.u64.wrap (Int.tmod n21 (128 : Int))) (IntKind.u64.wrap (IntKind.i64.wrap ((7 : Int) * i_19))))) (IntKind.i64.wrap (i_19 + (1 : Int))) w)))) (S2 K w)
theorem S7_ok (Kv : Value → World → Prop) (kc5 : Cur g5) : OkT pr false none 62 g5 (S7 (Kt Kv) kc5) (lp (blk (tl 1 (s1 (tl 3 bd))))) (P6 Kv kc5) := ok_last mixed FOk_ fun v ρ w => by kernel_rfl
def L5 (K : KT) : Cur g5 := loopC g5 (S7 K)
theorem L5_ok (Kv : Value → World → Prop) : OkT pr false none 62 g5 (L5 (Kt Kv)) (blk (tl 1 (s1 (tl 3 bd)))) (P4 Kv) := ok_loop (B := S7 (Kt Kv)) (by kernel_rfl) fun kc => S7_ok Kv kc
theorem L5_ind {K : KT} {b_8 : Sl} {at_9 : Int} {n_10 : Int} {i_11 : Int} {w : World} (h : ∀ X : Cur g5, (∀ b_8 at_9 n_10 i_11 w, S7 K X b_8 at_9 n_10 i_11 w → X b_8 at_9 n_10 i_11 w) → X b_8 at_9 n_10 i_11 w) : L5 K b_8 at_9 n_10 i_11 w := fun X hX => h X fun b_8 at_9 n_10 i_11 w hb => hX (b_8, at_9, n_10, i_11, ()) w hb
theorem B8 (Kv : Value → World → Prop) : OkT pr false none 62 g5 (L5 (Kt Kv)) (tl 1 (s1 (tl 3 bd))) (P3 Kv) := ok_block 0 (by kernel_rfl) (L5_ok Kv)
@[reducible] def g9 : List SE := [.v 0 .sl, .v 1 (.int .i64), .v 7 (.int .u64)]
def S9 (K : KT) (b_22 : Sl) (at_23 : Int) (n_24 : Int) (w : World) : Prop :=
  L5 K b_22 at_23 n_24 (0 : Int) w
theorem S9_ok (Kv : Value → World → Prop) : OkT pr false none 62 g9 (S9 (Kt Kv)) (s1 (tl 3 bd)) (P3 Kv) := ok_group mixed FOk_ 1 (B8 Kv) fun v ρ w => by kernel_rfl
theorem Q10 (Kv : Value → World → Prop) : OkT pr false none 62 g9 (S9 (Kt Kv)) (tl 3 bd) (P1 Kv) := ok_seq (by kernel_rfl) (S2_ok Kv) (S9_ok Kv)
end tocsinref01_U
def tocsinref01_U (b_4 : Sl) (at_5 : Int) (w : World) (K : tocsinref01_U.KT) : Prop :=
  G.cond (decide (at_5 < (0 : Int))) (K (0 : Int) (0 : Int) (1 : Int) w) (G.cond (decide (at_5 > ((b_4.n : Nat) : Int))) (K (0 : Int) (0 : Int) (1 : Int) w) (tocsinref01_U.S9 K b_4 at_5 (0 : Int) w))
def tocsinref01_U.cl : CL := fun args K w => match args with
  | [.slice x0_a x0_n x0_c, .int .i64 x1] => C.tocsinref01_U ⟨x0_a, x0_n, x0_c⟩ x1 w (tocsinref01_U.Kt K)
  | _ => False
theorem tocsinref01_U.clok : OkC pr 68 tocsinref01_U.cl := by
  intro args K w h
  unfold tocsinref01_U.cl at h
  split at h
  · exact calls_group false mixed tocsinref01_U.FOk_ tocsinref01_U.fn rfl 3 (tocsinref01_U.Q10 K) (Eq.mp (by kernel_rfl) h)
  · exact h.elim

/-! (*tocsin/tocsinref08.Reader).number -/
namespace tocsinref08_Reader_number
abbrev KT := Int → World → Prop
def Kt (Kv : Value → World → Prop) : KT := fun n1 w => Kv (.int .u64 n1) w
noncomputable def bd : Code := bdy Tryd.f44
theorem fn : FnOk pr 44 48 Tryd.f44 := ⟨Tryd.func44, by kernel_rfl, Tryd.ntmps44, by kernel_rfl, by kernel_rfl⟩
def F : Clee := ofL [(45, C.tocsinref08_Reader_bits.cl), (68, C.tocsinref01_U.cl)]
theorem FOk_ : FOk pr F := FOk_cons C.tocsinref08_Reader_bits.clok (FOk_cons C.tocsinref01_U.clok (FOk_nil))
def P1 (Kv : Value → World → Prop) : Post := bodyK false pr 48 Tryd.f44 Kv
@[reducible] def g2 : List SE := [.v 0 .ptr, .v 3 .sl]
def S2 (K : KT) (r_3 : Option Addr) (b_4 : Sl) (w : World) : Prop :=
  C.tocsinref01_U b_4 (0 : Int) w fun n5 n6 n7 w8 => G.ptr r_3 fun p9 => G.cB (p9.add 2) w8 fun b10 => G.cond b10 (G.ptr r_3 fun p11 => G.st (p11.add 2) (.bool true) w8 fun w12 => K n5 w12) (G.ptr r_3 fun p13 => G.st (p13.add 2) (.bool (n7 != (0 : Int))) w8 fun w14 => K n5 w14)
theorem S2_ok (Kv : Value → World → Prop) : OkT pr false none 48 g2 (S2 (Kt Kv)) (s2 (tl 2 bd)) (P1 Kv) := ok_last mixed FOk_ fun v ρ w => by kernel_rfl
def P3 (Kv : Value → World → Prop) : Post := next (get g2 (S2 (Kt Kv))) (P1 Kv)
def P4 (Kv : Value → World → Prop) : Post := inBlock 0 (P3 Kv)
@[reducible] def g5 : List SE := [.v 0 .ptr, .v 3 .sl, .v 4 (.int .i64)]
def P6 (Kv : Value → World → Prop) (kc5 : Cur g5) : Post := next (get g5 kc5) (P4 Kv)
def S7 (K : KT) (kc5 : Cur g5) (r_21 : Option Addr) (b_22 : Sl) (i_23 : Int) (w : World) : Prop :=
  G.cond (decide (i_23 < (11 : Int))) (G.ptr r_21 fun p24 => G.cB (p24.add 2) w fun b25 => G.cond (!b25) (C.tocsinref08_Reader_bits r_21 (8 : Int) w fun n26 w27 => G.new (.cells #[(.int .u8 (IntKind.u8.wrap n26))] 5) w27 fun p28 w29 => G.runSl pr (Builtin.append_ #[27, 27] 27 #[b_22.v, (Sl.v (⟨some p28, 1, 1⟩ : Sl))]) w29 fun l30 w31 => G.ix l30.a l30.n i_23 1 fun p32 => G.cI .u8 p32 w31 fun n33 => G.cond (decide (n33 < (128 : Int))) (S2 K r_21 l30 w31) (kc5 r_21 l30 (IntKind.i64.wrap (i_23 + (1 : Int))) w31)) (S2 K r_21 b_22 w)) (S2 K r_21 b_22 w)
theorem S7_ok (Kv : Value → World → Prop) (kc5 : Cur g5) : OkT pr false none 48 g5 (S7 (Kt Kv) kc5) (lp (blk (tl 1 (s1 (tl 2 bd))))) (P6 Kv kc5) := ok_last mixed FOk_ fun v ρ w => by kernel_rfl
def L5 (K : KT) : Cur g5 := loopC g5 (S7 K)
theorem L5_ok (Kv : Value → World → Prop) : OkT pr false none 48 g5 (L5 (Kt Kv)) (blk (tl 1 (s1 (tl 2 bd)))) (P4 Kv) := ok_loop (B := S7 (Kt Kv)) (by kernel_rfl) fun kc => S7_ok Kv kc
theorem L5_ind {K : KT} {r_15 : Option Addr} {b_16 : Sl} {i_17 : Int} {w : World} (h : ∀ X : Cur g5, (∀ r_15 b_16 i_17 w, S7 K X r_15 b_16 i_17 w → X r_15 b_16 i_17 w) → X r_15 b_16 i_17 w) : L5 K r_15 b_16 i_17 w := fun X hX => h X fun r_15 b_16 i_17 w hb => hX (r_15, b_16, i_17, ()) w hb
theorem B8 (Kv : Value → World → Prop) : OkT pr false none 48 g5 (L5 (Kt Kv)) (tl 1 (s1 (tl 2 bd))) (P3 Kv) := ok_block 0 (by kernel_rfl) (L5_ok Kv)
def S9 (K : KT) (r_34 : Option Addr) (b_35 : Sl) (w : World) : Prop :=
  L5 K r_34 b_35 (0 : Int) w
theorem S9_ok (Kv : Value → World → Prop) : OkT pr false none 48 g2 (S9 (Kt Kv)) (s1 (tl 2 bd)) (P3 Kv) := ok_group mixed FOk_ 1 (B8 Kv) fun v ρ w => by kernel_rfl
theorem Q10 (Kv : Value → World → Prop) : OkT pr false none 48 g2 (S9 (Kt Kv)) (tl 2 bd) (P1 Kv) := ok_seq (by kernel_rfl) (S2_ok Kv) (S9_ok Kv)
end tocsinref08_Reader_number
def tocsinref08_Reader_number (r_2 : Option Addr) (w : World) (K : tocsinref08_Reader_number.KT) : Prop :=
  tocsinref08_Reader_number.S9 K r_2 nilS w
def tocsinref08_Reader_number.cl : CL := fun args K w => match args with
  | [.pointer x0] => C.tocsinref08_Reader_number x0 w (tocsinref08_Reader_number.Kt K)
  | _ => False
theorem tocsinref08_Reader_number.clok : OkC pr 44 tocsinref08_Reader_number.cl := by
  intro args K w h
  unfold tocsinref08_Reader_number.cl at h
  split at h
  · exact calls_group false mixed tocsinref08_Reader_number.FOk_ tocsinref08_Reader_number.fn rfl 2 (tocsinref08_Reader_number.Q10 K) (Eq.mp (by kernel_rfl) h)
  · exact h.elim

/-! (*tocsin/tocsinref08.Reader).value -/
namespace tocsinref08_Reader_value
abbrev KT := Int → World → Prop
def Kt (Kv : Value → World → Prop) : KT := fun n1 w => Kv (.int .u64 n1) w
noncomputable def bd : Code := bdy Tryd.f46
theorem fn : FnOk pr 46 103 Tryd.f46 := ⟨Tryd.func46, by kernel_rfl, Tryd.ntmps46, by kernel_rfl, by kernel_rfl⟩
def F : Clee := ofL [(45, C.tocsinref08_Reader_bits.cl)]
theorem FOk_ : FOk pr F := FOk_cons C.tocsinref08_Reader_bits.clok (FOk_nil)
def P1 (Kv : Value → World → Prop) : Post := bodyK false pr 103 Tryd.f46 Kv
@[reducible] def g2 : List SE := [.v 0 .ptr]
def S2 (K : KT) (r_6 : Option Addr) (w : World) : Prop :=
  G.ptr r_6 fun p7 => G.cP (p7.add 1) w fun p8 => G.ptr p8 fun p9 => G.cI .i64 (p9.add 3) w fun n10 => G.cond (decide (n10 ≥ (64 : Int))) (G.ptr r_6 fun p11 => G.st (p11.add 2) (.bool true) w fun w12 => K (0 : Int) w12) (G.ptr r_6 fun p13 => G.cP (p13.add 1) w fun p14 => G.ptr p14 fun p15 => G.cI .i64 (p15.add 4) w fun n16 => G.cond (decide (n16 < (0 : Int))) (G.ptr r_6 fun p17 => G.st (p17.add 2) (.bool true) w fun w18 => K (0 : Int) w18) (G.ptr r_6 fun p19 => G.cP (p19.add 1) w.drew fun p20 => G.ptr p20 fun p21 => G.cI .u64 (p21.add 2) w.drew fun n22 => G.ptr r_6 fun p23 => G.cP (p23.add 1) w.drew fun p24 => G.ptr p24 fun p25 => G.cI .i64 (p25.add 3) w.drew fun n26 => G.ptr r_6 fun p27 => G.cP (p27.add 1) w.drew fun p28 => G.ptr p28 fun p29 => G.cI .i64 (p29.add 4) w.drew fun n30 => G.ptr r_6 fun p31 => G.cP (p31.add 1) w.drew fun p32 => G.ptr p32 fun p33 => G.cI .i64 (p33.add 4) w.drew fun n34 => C.tocsinref08_Reader_bits r_6 (IntKind.i64.wrap ((IntKind.i64.wrap ((64 : Int) - n26)) - n30)) w.drew fun n35 w36 => sameAt (p19.add 1) 1 w.drew w36 ∧ sameAt (p21.add 2) 1 w.drew w36 ∧ sameAt (p31.add 1) 1 w.drew w36 ∧ sameAt (p33.add 4) 1 w.drew w36 ∧ (G.nn (IntKind.u64.wrap n34) <| K (Go.bits .xor .u64 n22 (shl .u64 n35 (IntKind.u64.wrap n34))) w36)))
theorem S2_ok (Kv : Value → World → Prop) : OkT pr false none 103 g2 (S2 (Kt Kv)) (tl 3 bd) (P1 Kv) := ok_last mixed FOk_ fun v ρ w => by kernel_rfl
end tocsinref08_Reader_value
def tocsinref08_Reader_value (r_2 : Option Addr) (w : World) (K : tocsinref08_Reader_value.KT) : Prop :=
  C.tocsinref08_Reader_bits r_2 (1 : Int) w fun n37 w38 => G.cond (n37 == (0 : Int)) (G.ptr r_2 fun p39 => G.cP (p39.add 1) w38 fun p40 => G.ptr p40 fun p41 => G.cI .u64 (p41.add 2) w38 fun n42 => K n42 w38) (C.tocsinref08_Reader_bits r_2 (1 : Int) w38 fun n43 w44 => G.cond (n43 == (1 : Int)) (G.ptr r_2 fun p45 => G.cP (p45.add 1) w44.drew fun p46 => C.tocsinref08_Reader_bits r_2 (5 : Int) w44.drew fun n47 w48 => sameAt (p45.add 1) 1 w44.drew w48 ∧ (G.ptr p46 fun p49 => G.st (p49.add 3) (.int .i64 (IntKind.i64.wrap n47)) w48 fun w50 => C.tocsinref08_Reader_bits r_2 (6 : Int) w50 fun n51 w52 => G.cond ((IntKind.i64.wrap n51) == (0 : Int)) (G.ptr r_2 fun p53 => G.cP (p53.add 1) w52.drew fun p54 => G.ptr r_2 fun p55 => G.cP (p55.add 1) w52.drew fun p56 => G.ptr p56 fun p57 => G.cI .i64 (p57.add 3) w52.drew fun n58 => G.ptr p54 fun p59 => G.st (p59.add 4) (.int .i64 (IntKind.i64.wrap ((IntKind.i64.wrap ((64 : Int) - n58)) - (64 : Int)))) w52.drew fun w60 => tocsinref08_Reader_value.S2 K r_2 w60) (G.ptr r_2 fun p61 => G.cP (p61.add 1) w52.drew fun p62 => G.ptr r_2 fun p63 => G.cP (p63.add 1) w52.drew fun p64 => G.ptr p64 fun p65 => G.cI .i64 (p65.add 3) w52.drew fun n66 => G.ptr p62 fun p67 => G.st (p67.add 4) (.int .i64 (IntKind.i64.wrap ((IntKind.i64.wrap ((64 : Int) - n66)) - (IntKind.i64.wrap n51)))) w52.drew fun w68 => tocsinref08_Reader_value.S2 K r_2 w68))) (tocsinref08_Reader_value.S2 K r_2 w44))
def tocsinref08_Reader_value.cl : CL := fun args K w => match args with
  | [.pointer x0] => C.tocsinref08_Reader_value x0 w (tocsinref08_Reader_value.Kt K)
  | _ => False
theorem tocsinref08_Reader_value.clok : OkC pr 46 tocsinref08_Reader_value.cl := by
  intro args K w h
  unfold tocsinref08_Reader_value.cl at h
  split at h
  · exact calls_group false mixed tocsinref08_Reader_value.FOk_ tocsinref08_Reader_value.fn rfl 3 (tocsinref08_Reader_value.S2_ok K) (Eq.mp (by kernel_rfl) h)
  · exact h.elim

/-! tocsin/tocsinref02.Says -/
namespace tocsinref02_Says
abbrev KT := Int → World → Prop
def Kt (Kv : Value → World → Prop) : KT := fun n1 w => Kv (.int .i64 n1) w
noncomputable def bd : Code := bdy Tryd.f70
theorem fn : FnOk pr 70 23 Tryd.f70 := ⟨Tryd.func70, by kernel_rfl, Tryd.ntmps70, by kernel_rfl, by kernel_rfl⟩
def F : Clee := ofL []
theorem FOk_ : FOk pr F := FOk_nil
def P1 (Kv : Value → World → Prop) : Post := bodyK false pr 23 Tryd.f70 Kv
end tocsinref02_Says
def tocsinref02_Says (v_2 : Int) (k_3 : Int) (w : World) (K : tocsinref02_Says.KT) : Prop :=
  G.cond (decide (k_3 ≥ (64 : Int))) (K (IntKind.i64.wrap v_2) w) (G.nn (IntKind.u64.wrap (IntKind.i64.wrap (k_3 - (1 : Int)))) <| G.cond (decide (v_2 ≤ (shl .u64 (1 : Int) (IntKind.u64.wrap (IntKind.i64.wrap (k_3 - (1 : Int))))))) (K (IntKind.i64.wrap v_2) w) (G.nn (IntKind.u64.wrap k_3) <| K (IntKind.i64.wrap ((IntKind.i64.wrap v_2) - (shl .i64 (1 : Int) (IntKind.u64.wrap k_3)))) w))
def tocsinref02_Says.cl : CL := fun args K w => match args with
  | [.int .u64 x0, .int .i64 x1] => C.tocsinref02_Says x0 x1 w (tocsinref02_Says.Kt K)
  | _ => False
theorem tocsinref02_Says.clok : OkC pr 70 tocsinref02_Says.cl := by
  intro args K w h
  unfold tocsinref02_Says.cl at h
  split at h
  · exact calls_last false mixed tocsinref02_Says.FOk_ tocsinref02_Says.fn rfl (Eq.mp (by kernel_rfl) h)
  · exact h.elim
end C
end Go.Proofs.YtpadehbcjkhegaaDoor
