/- Clean texts of Go functions, written by a program of this work (gen.py) off the loaded code, each shown to be what the code does. -/
import Derived.Test.YtpgpdeojggcibaaDoorProg
import Derived.Test.YtpgpdeojggcibaaDoorVmLift
set_option linter.unusedVariables false
set_option maxRecDepth 100000
namespace Go.Proofs.YtpgpdeojggcibaaDoor
open Go Vm
namespace C
noncomputable abbrev pr : Program := Tryd.prog
theorem mixed : pr.follows .mixedOrders = true := by kernel_rfl
/-! tocsin/vint.On -/
namespace vint_On
abbrev KT := Int → World → Prop
def Kt (Kv : Value → World → Prop) : KT := fun n1 w => Kv (.int .u32 n1) w
noncomputable def bd : Code := bdy Tryd.f11
theorem fn : FnOk pr 11 37 Tryd.f11 := ⟨Tryd.func11, by kernel_rfl, Tryd.ntmps11, by kernel_rfl, by kernel_rfl⟩
def F : Clee := ofL []
theorem FOk_ : FOk pr F := FOk_nil
def P1 (Kv : Value → World → Prop) : Post := bodyK pr 37 Tryd.f11 Kv
@[reducible] def g2 : List SE := [.v 5 (.int .u32)]
def S2 (K : KT) (r_4 : Int) (w : World) : Prop :=
  K (Go.bits .xor .u32 (notK .u32) r_4) w
theorem S2_ok (Kv : Value → World → Prop) : OkT pr 37 g2 (S2 (Kt Kv)) (s2 (tl 2 bd)) (P1 Kv) := ok_last mixed FOk_ fun v ρ w => by kernel_rfl
def P3 (Kv : Value → World → Prop) : Post := next (get g2 (S2 (Kt Kv))) (P1 Kv)
def P4 (Kv : Value → World → Prop) : Post := inBlock 0 (P3 Kv)
@[reducible] def g5 : List SE := [.v 5 (.int .u32), .v 10 .sl, .v 11 (.int .i64), .v 12 (.int .i64)]
def P6 (Kv : Value → World → Prop) (kc5 : Cur g5) : Post := next (get g5 kc5) (P4 Kv)
def S7 (K : KT) (kc5 : Cur g5) (r_13 : Int) (l14 : Sl) (n15 : Int) (n16 : Int) (w : World) : Prop :=
  G.cond (decide (n16 < n15)) (G.ix l14.a l14.n n16 1 fun p17 => G.cI .u8 p17 w fun n18 => G.nn (4 : Int) <| G.ix (some ⟨0, 0, none⟩) 16 (Go.bits .and .u32 (Go.bits .xor .u32 r_13 (IntKind.u32.wrap n18)) (15 : Int)) 1 fun p19 => G.cI .u32 p19 w fun n20 => G.nn (4 : Int) <| G.ix (some ⟨0, 0, none⟩) 16 (Go.bits .and .u32 (Go.bits .xor .u32 (shr .u32 (Go.bits .xor .u32 r_13 (IntKind.u32.wrap n18)) (4 : Int)) n20) (15 : Int)) 1 fun p21 => G.cI .u32 p21 w fun n22 => kc5 (Go.bits .xor .u32 (shr .u32 (Go.bits .xor .u32 (shr .u32 (Go.bits .xor .u32 r_13 (IntKind.u32.wrap n18)) (4 : Int)) n20) (4 : Int)) n22) l14 n15 (IntKind.i64.wrap (n16 + (1 : Int))) w) (S2 K r_13 w)
theorem S7_ok (Kv : Value → World → Prop) (kc5 : Cur g5) : OkT pr 37 g5 (S7 (Kt Kv) kc5) (lp (blk (tl 1 (s1 (tl 2 bd))))) (P6 Kv kc5) := ok_last mixed FOk_ fun v ρ w => by kernel_rfl
def L5 (K : KT) : Cur g5 := loopC g5 (S7 K)
theorem L5_ok (Kv : Value → World → Prop) : OkT pr 37 g5 (L5 (Kt Kv)) (blk (tl 1 (s1 (tl 2 bd)))) (P4 Kv) := ok_loop (B := S7 (Kt Kv)) (by kernel_rfl) fun kc => S7_ok Kv kc
theorem L5_ind {K : KT} {r_5 : Int} {l6 : Sl} {n7 : Int} {n8 : Int} {w : World} (h : ∀ X : Cur g5, (∀ r_5 l6 n7 n8 w, S7 K X r_5 l6 n7 n8 w → X r_5 l6 n7 n8 w) → X r_5 l6 n7 n8 w) : L5 K r_5 l6 n7 n8 w := fun X hX => h X fun r_5 l6 n7 n8 w hb => hX (r_5, l6, n7, n8, ()) w hb
theorem B8 (Kv : Value → World → Prop) : OkT pr 37 g5 (L5 (Kt Kv)) (tl 1 (s1 (tl 2 bd))) (P3 Kv) := ok_block 0 (by kernel_rfl) (L5_ok Kv)
@[reducible] def g9 : List SE := [.v 1 .sl, .v 5 (.int .u32)]
def S9 (K : KT) (b_23 : Sl) (r_24 : Int) (w : World) : Prop :=
  L5 K r_24 b_23 ((b_23.n : Nat) : Int) (0 : Int) w
theorem S9_ok (Kv : Value → World → Prop) : OkT pr 37 g9 (S9 (Kt Kv)) (s1 (tl 2 bd)) (P3 Kv) := ok_group mixed FOk_ 1 (B8 Kv) fun v ρ w => by kernel_rfl
theorem Q10 (Kv : Value → World → Prop) : OkT pr 37 g9 (S9 (Kt Kv)) (tl 2 bd) (P1 Kv) := ok_seq (by kernel_rfl) (S2_ok Kv) (S9_ok Kv)
end vint_On
def vint_On (sum_2 : Int) (b_3 : Sl) (w : World) (K : vint_On.KT) : Prop :=
  vint_On.S9 K b_3 (Go.bits .xor .u32 (notK .u32) sum_2) w
def vint_On.cl : CL := fun args K w => match args with
  | [.int .u32 x0, .slice x1_a x1_n x1_c] => C.vint_On x0 ⟨x1_a, x1_n, x1_c⟩ w (vint_On.Kt K)
  | _ => False
theorem vint_On.clok : OkC pr 11 vint_On.cl := by
  intro args K w h
  unfold vint_On.cl at h
  split at h
  · exact calls_group mixed vint_On.FOk_ vint_On.fn rfl 2 (vint_On.Q10 K) (Eq.mp (by kernel_rfl) h)
  · exact h.elim

/-! tocsin/vint.Sum -/
namespace vint_Sum
abbrev KT := Int → World → Prop
def Kt (Kv : Value → World → Prop) : KT := fun n1 w => Kv (.int .u32 n1) w
noncomputable def bd : Code := bdy Tryd.f9
theorem fn : FnOk pr 9 5 Tryd.f9 := ⟨Tryd.func9, by kernel_rfl, Tryd.ntmps9, by kernel_rfl, by kernel_rfl⟩
def F : Clee := ofL [(11, C.vint_On.cl)]
theorem FOk_ : FOk pr F := FOk_cons C.vint_On.clok (FOk_nil)
def P1 (Kv : Value → World → Prop) : Post := bodyK pr 5 Tryd.f9 Kv
end vint_Sum
def vint_Sum (b_2 : Sl) (w : World) (K : vint_Sum.KT) : Prop :=
  C.vint_On (0 : Int) b_2 w fun n3 w4 => K n3 w4
def vint_Sum.cl : CL := fun args K w => match args with
  | [.slice x0_a x0_n x0_c] => C.vint_Sum ⟨x0_a, x0_n, x0_c⟩ w (vint_Sum.Kt K)
  | _ => False
theorem vint_Sum.clok : OkC pr 9 vint_Sum.cl := by
  intro args K w h
  unfold vint_Sum.cl at h
  split at h
  · exact calls_last mixed vint_Sum.FOk_ vint_Sum.fn rfl (Eq.mp (by kernel_rfl) h)
  · exact h.elim

/-! tocsin/tocsinref01.On -/
namespace tocsinref01_On
abbrev KT := Int → World → Prop
def Kt (Kv : Value → World → Prop) : KT := fun n1 w => Kv (.int .u32 n1) w
noncomputable def bd : Code := bdy Tryd.f12
theorem fn : FnOk pr 12 37 Tryd.f12 := ⟨Tryd.func12, by kernel_rfl, Tryd.ntmps12, by kernel_rfl, by kernel_rfl⟩
def F : Clee := ofL []
theorem FOk_ : FOk pr F := FOk_nil
def P1 (Kv : Value → World → Prop) : Post := bodyK pr 37 Tryd.f12 Kv
@[reducible] def g2 : List SE := [.v 5 (.int .u32)]
def S2 (K : KT) (r_4 : Int) (w : World) : Prop :=
  K (Go.bits .xor .u32 (notK .u32) r_4) w
theorem S2_ok (Kv : Value → World → Prop) : OkT pr 37 g2 (S2 (Kt Kv)) (s2 (tl 2 bd)) (P1 Kv) := ok_last mixed FOk_ fun v ρ w => by kernel_rfl
def P3 (Kv : Value → World → Prop) : Post := next (get g2 (S2 (Kt Kv))) (P1 Kv)
def P4 (Kv : Value → World → Prop) : Post := inBlock 0 (P3 Kv)
@[reducible] def g5 : List SE := [.v 1 .sl, .v 5 (.int .u32), .v 6 (.int .i64)]
def P6 (Kv : Value → World → Prop) (kc5 : Cur g5) : Post := next (get g5 kc5) (P4 Kv)
def S7 (K : KT) (kc5 : Cur g5) (b_8 : Sl) (r_9 : Int) (i_10 : Int) (w : World) : Prop :=
  kc5 b_8 r_9 (IntKind.i64.wrap (i_10 + (1 : Int))) w
theorem S7_ok (Kv : Value → World → Prop) (kc5 : Cur g5) : OkT pr 37 g5 (S7 (Kt Kv) kc5) (s2 (tl 1 (lp (blk (tl 1 (s1 (tl 2 bd))))))) (P6 Kv kc5) := ok_last mixed FOk_ fun v ρ w => by kernel_rfl
def P8 (Kv : Value → World → Prop) (kc5 : Cur g5) : Post := next (get g5 (S7 (Kt Kv) kc5)) (P6 Kv kc5)
def P9 (Kv : Value → World → Prop) (kc5 : Cur g5) : Post := inBlock 1 (P8 Kv kc5)
def P10 (Kv : Value → World → Prop) (kc5 : Cur g5) : Post := inBlock 2 (P9 Kv kc5)
@[reducible] def g11 : List SE := [.v 1 .sl, .v 5 (.int .u32), .v 6 (.int .i64), .v 7 (.int .i64)]
def P12 (Kv : Value → World → Prop) (kc5 : Cur g5) (kc11 : Cur g11) : Post := next (get g11 kc11) (P10 Kv kc5)
def S13 (K : KT) (kc5 : Cur g5) (kc11 : Cur g11) (b_15 : Sl) (r_16 : Int) (i_17 : Int) (k_18 : Int) (w : World) : Prop :=
  G.cond (decide (k_18 < (8 : Int))) (G.cond ((Go.bits .and .u32 r_16 (1 : Int)) == (1 : Int)) (G.nn (1 : Int) <| kc11 b_15 (Go.bits .xor .u32 (shr .u32 r_16 (1 : Int)) (2197175160 : Int)) i_17 (IntKind.i64.wrap (k_18 + (1 : Int))) w) (G.nn (1 : Int) <| kc11 b_15 (shr .u32 r_16 (1 : Int)) i_17 (IntKind.i64.wrap (k_18 + (1 : Int))) w)) (S7 K kc5 b_15 r_16 i_17 w)
theorem S13_ok (Kv : Value → World → Prop) (kc5 : Cur g5) (kc11 : Cur g11) : OkT pr 37 g11 (S13 (Kt Kv) kc5 kc11) (lp (blk (tl 2 (blk (s1 (tl 1 (lp (blk (tl 1 (s1 (tl 2 bd))))))))))) (P12 Kv kc5 kc11) := ok_last mixed FOk_ fun v ρ w => by kernel_rfl
def L11 (K : KT) (kc5 : Cur g5) : Cur g11 := loopC g11 (S13 K kc5)
theorem L11_ok (Kv : Value → World → Prop) (kc5 : Cur g5) : OkT pr 37 g11 (L11 (Kt Kv) kc5) (blk (tl 2 (blk (s1 (tl 1 (lp (blk (tl 1 (s1 (tl 2 bd)))))))))) (P10 Kv kc5) := ok_loop (B := S13 (Kt Kv) kc5) (by kernel_rfl) fun kc => S13_ok Kv kc5 kc
theorem L11_ind {K : KT} {kc5 : Cur g5} {b_11 : Sl} {r_12 : Int} {i_13 : Int} {k_14 : Int} {w : World} (h : ∀ X : Cur g11, (∀ b_11 r_12 i_13 k_14 w, S13 K kc5 X b_11 r_12 i_13 k_14 w → X b_11 r_12 i_13 k_14 w) → X b_11 r_12 i_13 k_14 w) : L11 K kc5 b_11 r_12 i_13 k_14 w := fun X hX => h X fun b_11 r_12 i_13 k_14 w hb => hX (b_11, r_12, i_13, k_14, ()) w hb
theorem B14 (Kv : Value → World → Prop) (kc5 : Cur g5) : OkT pr 37 g11 (L11 (Kt Kv) kc5) (tl 2 (blk (s1 (tl 1 (lp (blk (tl 1 (s1 (tl 2 bd))))))))) (P9 Kv kc5) := ok_block 2 (by kernel_rfl) (L11_ok Kv kc5)
def S15 (K : KT) (kc5 : Cur g5) (b_19 : Sl) (r_20 : Int) (i_21 : Int) (w : World) : Prop :=
  G.ix b_19.a b_19.n i_21 1 fun p22 => G.cI .u8 p22 w fun n23 => L11 K kc5 b_19 (Go.bits .xor .u32 r_20 (IntKind.u32.wrap n23)) i_21 (0 : Int) w
theorem S15_ok (Kv : Value → World → Prop) (kc5 : Cur g5) : OkT pr 37 g5 (S15 (Kt Kv) kc5) (blk (s1 (tl 1 (lp (blk (tl 1 (s1 (tl 2 bd)))))))) (P9 Kv kc5) := ok_group mixed FOk_ 2 (B14 Kv kc5) fun v ρ w => by kernel_rfl
theorem B16 (Kv : Value → World → Prop) (kc5 : Cur g5) : OkT pr 37 g5 (S15 (Kt Kv) kc5) (s1 (tl 1 (lp (blk (tl 1 (s1 (tl 2 bd))))))) (P8 Kv kc5) := ok_block 1 (by kernel_rfl) (S15_ok Kv kc5)
theorem Q17 (Kv : Value → World → Prop) (kc5 : Cur g5) : OkT pr 37 g5 (S15 (Kt Kv) kc5) (tl 1 (lp (blk (tl 1 (s1 (tl 2 bd)))))) (P6 Kv kc5) := ok_seq (by kernel_rfl) (S7_ok Kv kc5) (B16 Kv kc5)
def S18 (K : KT) (kc5 : Cur g5) (b_24 : Sl) (r_25 : Int) (i_26 : Int) (w : World) : Prop :=
  G.cond (decide (i_26 < ((b_24.n : Nat) : Int))) (S15 K kc5 b_24 r_25 i_26 w) (S2 K r_25 w)
theorem S18_ok (Kv : Value → World → Prop) (kc5 : Cur g5) : OkT pr 37 g5 (S18 (Kt Kv) kc5) (lp (blk (tl 1 (s1 (tl 2 bd))))) (P6 Kv kc5) := ok_group mixed FOk_ 1 (Q17 Kv kc5) fun v ρ w => by kernel_rfl
def L5 (K : KT) : Cur g5 := loopC g5 (S18 K)
theorem L5_ok (Kv : Value → World → Prop) : OkT pr 37 g5 (L5 (Kt Kv)) (blk (tl 1 (s1 (tl 2 bd)))) (P4 Kv) := ok_loop (B := S18 (Kt Kv)) (by kernel_rfl) fun kc => S18_ok Kv kc
theorem L5_ind {K : KT} {b_5 : Sl} {r_6 : Int} {i_7 : Int} {w : World} (h : ∀ X : Cur g5, (∀ b_5 r_6 i_7 w, S18 K X b_5 r_6 i_7 w → X b_5 r_6 i_7 w) → X b_5 r_6 i_7 w) : L5 K b_5 r_6 i_7 w := fun X hX => h X fun b_5 r_6 i_7 w hb => hX (b_5, r_6, i_7, ()) w hb
theorem B19 (Kv : Value → World → Prop) : OkT pr 37 g5 (L5 (Kt Kv)) (tl 1 (s1 (tl 2 bd))) (P3 Kv) := ok_block 0 (by kernel_rfl) (L5_ok Kv)
@[reducible] def g20 : List SE := [.v 1 .sl, .v 5 (.int .u32)]
def S20 (K : KT) (b_27 : Sl) (r_28 : Int) (w : World) : Prop :=
  L5 K b_27 r_28 (0 : Int) w
theorem S20_ok (Kv : Value → World → Prop) : OkT pr 37 g20 (S20 (Kt Kv)) (s1 (tl 2 bd)) (P3 Kv) := ok_group mixed FOk_ 1 (B19 Kv) fun v ρ w => by kernel_rfl
theorem Q21 (Kv : Value → World → Prop) : OkT pr 37 g20 (S20 (Kt Kv)) (tl 2 bd) (P1 Kv) := ok_seq (by kernel_rfl) (S2_ok Kv) (S20_ok Kv)
end tocsinref01_On
def tocsinref01_On (sum_2 : Int) (b_3 : Sl) (w : World) (K : tocsinref01_On.KT) : Prop :=
  tocsinref01_On.S20 K b_3 (Go.bits .xor .u32 (notK .u32) sum_2) w
def tocsinref01_On.cl : CL := fun args K w => match args with
  | [.int .u32 x0, .slice x1_a x1_n x1_c] => C.tocsinref01_On x0 ⟨x1_a, x1_n, x1_c⟩ w (tocsinref01_On.Kt K)
  | _ => False
theorem tocsinref01_On.clok : OkC pr 12 tocsinref01_On.cl := by
  intro args K w h
  unfold tocsinref01_On.cl at h
  split at h
  · exact calls_group mixed tocsinref01_On.FOk_ tocsinref01_On.fn rfl 2 (tocsinref01_On.Q21 K) (Eq.mp (by kernel_rfl) h)
  · exact h.elim

/-! tocsin/tocsinref01.Sum -/
namespace tocsinref01_Sum
abbrev KT := Int → World → Prop
def Kt (Kv : Value → World → Prop) : KT := fun n1 w => Kv (.int .u32 n1) w
noncomputable def bd : Code := bdy Tryd.f10
theorem fn : FnOk pr 10 5 Tryd.f10 := ⟨Tryd.func10, by kernel_rfl, Tryd.ntmps10, by kernel_rfl, by kernel_rfl⟩
def F : Clee := ofL [(12, C.tocsinref01_On.cl)]
theorem FOk_ : FOk pr F := FOk_cons C.tocsinref01_On.clok (FOk_nil)
def P1 (Kv : Value → World → Prop) : Post := bodyK pr 5 Tryd.f10 Kv
end tocsinref01_Sum
def tocsinref01_Sum (b_2 : Sl) (w : World) (K : tocsinref01_Sum.KT) : Prop :=
  C.tocsinref01_On (0 : Int) b_2 w fun n3 w4 => K n3 w4
def tocsinref01_Sum.cl : CL := fun args K w => match args with
  | [.slice x0_a x0_n x0_c] => C.tocsinref01_Sum ⟨x0_a, x0_n, x0_c⟩ w (tocsinref01_Sum.Kt K)
  | _ => False
theorem tocsinref01_Sum.clok : OkC pr 10 tocsinref01_Sum.cl := by
  intro args K w h
  unfold tocsinref01_Sum.cl at h
  split at h
  · exact calls_last mixed tocsinref01_Sum.FOk_ tocsinref01_Sum.fn rfl (Eq.mp (by kernel_rfl) h)
  · exact h.elim

/-! tocsin/vint.joined -/
namespace vint_joined
abbrev KT := Sl → World → Prop
def Kt (Kv : Value → World → Prop) : KT := fun l1 w => Kv l1.v w
noncomputable def bd : Code := bdy Tryd.f39
theorem fn : FnOk pr 39 17 Tryd.f39 := ⟨Tryd.func39, by kernel_rfl, Tryd.ntmps39, by kernel_rfl, by kernel_rfl⟩
def F : Clee := ofL []
theorem FOk_ : FOk pr F := FOk_nil
def P1 (Kv : Value → World → Prop) : Post := bodyK pr 17 Tryd.f39 Kv
end vint_joined
def vint_joined (b_2 : Sl) (c_3 : Sl) (w : World) (K : vint_joined.KT) : Prop :=
  G.runSl pr (Instr.makeSlice 22 (.int .i64 (0 : Int)) (.int .i64 (IntKind.i64.wrap (((b_2.n : Nat) : Int) + ((c_3.n : Nat) : Int))))) w fun l4 w5 => G.runSl pr (Builtin.append_ #[22, 22] 22 #[l4.v, b_2.v]) w5 fun l6 w7 => G.runSl pr (Builtin.append_ #[22, 22] 22 #[l6.v, c_3.v]) w7 fun l8 w9 => K l8 w9
def vint_joined.cl : CL := fun args K w => match args with
  | [.slice x0_a x0_n x0_c, .slice x1_a x1_n x1_c] => C.vint_joined ⟨x0_a, x0_n, x0_c⟩ ⟨x1_a, x1_n, x1_c⟩ w (vint_joined.Kt K)
  | _ => False
theorem vint_joined.clok : OkC pr 39 vint_joined.cl := by
  intro args K w h
  unfold vint_joined.cl at h
  split at h
  · exact calls_last mixed vint_joined.FOk_ vint_joined.fn rfl (Eq.mp (by kernel_rfl) h)
  · exact h.elim

/-! tocsin/vint.PutU -/
namespace vint_PutU
abbrev KT := Sl → World → Prop
def Kt (Kv : Value → World → Prop) : KT := fun l1 w => Kv l1.v w
noncomputable def bd : Code := bdy Tryd.f15
theorem fn : FnOk pr 15 23 Tryd.f15 := ⟨Tryd.func15, by kernel_rfl, Tryd.ntmps15, by kernel_rfl, by kernel_rfl⟩
def F : Clee := ofL [(39, C.vint_joined.cl)]
theorem FOk_ : FOk pr F := FOk_cons C.vint_joined.clok (FOk_nil)
def P1 (Kv : Value → World → Prop) : Post := bodyK pr 23 Tryd.f15 Kv
@[reducible] def g2 : List SE := [.v 0 .sl, .v 1 (.int .u64), .v 5 .sl]
def S2 (K : KT) (b_4 : Sl) (n_5 : Int) (c_6 : Sl) (w : World) : Prop :=
  G.new (.cells #[(.int .u8 (IntKind.u8.wrap n_5))] 5) w fun p7 w8 => G.runSl pr (Builtin.append_ #[22, 22] 22 #[c_6.v, (Sl.v (⟨some p7, 1, 1⟩ : Sl))]) w8 fun l9 w10 => C.vint_joined b_4 l9 w10 fun l11 w12 => K l11 w12
theorem S2_ok (Kv : Value → World → Prop) : OkT pr 23 g2 (S2 (Kt Kv)) (s2 (tl 2 bd)) (P1 Kv) := ok_last mixed FOk_ fun v ρ w => by kernel_rfl
def P3 (Kv : Value → World → Prop) : Post := next (get g2 (S2 (Kt Kv))) (P1 Kv)
def P4 (Kv : Value → World → Prop) : Post := inBlock 0 (P3 Kv)
def P6 (Kv : Value → World → Prop) (kc5 : Cur g2) : Post := next (get g2 kc5) (P4 Kv)
def S7 (K : KT) (kc5 : Cur g2) (b_16 : Sl) (n_17 : Int) (c_18 : Sl) (w : World) : Prop :=
  G.cond (decide (n_17 ≥ (128 : Int))) (G.new (.cells #[(.int .u8 (Go.bits .or .u8 (IntKind.u8.wrap n_17) (128 : Int)))] 5) w fun p19 w20 => G.runSl pr (Builtin.append_ #[22, 22] 22 #[c_18.v, (Sl.v (⟨some p19, 1, 1⟩ : Sl))]) w20 fun l21 w22 => G.nn (7 : Int) <| kc5 b_16 (shr .u64 n_17 (7 : Int)) l21 w22) (S2 K b_16 n_17 c_18 w)
theorem S7_ok (Kv : Value → World → Prop) (kc5 : Cur g2) : OkT pr 23 g2 (S7 (Kt Kv) kc5) (lp (blk (s1 (tl 2 bd)))) (P6 Kv kc5) := ok_last mixed FOk_ fun v ρ w => by kernel_rfl
def L5 (K : KT) : Cur g2 := loopC g2 (S7 K)
theorem L5_ok (Kv : Value → World → Prop) : OkT pr 23 g2 (L5 (Kt Kv)) (blk (s1 (tl 2 bd))) (P4 Kv) := ok_loop (B := S7 (Kt Kv)) (by kernel_rfl) fun kc => S7_ok Kv kc
theorem L5_ind {K : KT} {b_13 : Sl} {n_14 : Int} {c_15 : Sl} {w : World} (h : ∀ X : Cur g2, (∀ b_13 n_14 c_15 w, S7 K X b_13 n_14 c_15 w → X b_13 n_14 c_15 w) → X b_13 n_14 c_15 w) : L5 K b_13 n_14 c_15 w := fun X hX => h X fun b_13 n_14 c_15 w hb => hX (b_13, n_14, c_15, ()) w hb
theorem B8 (Kv : Value → World → Prop) : OkT pr 23 g2 (L5 (Kt Kv)) (s1 (tl 2 bd)) (P3 Kv) := ok_block 0 (by kernel_rfl) (L5_ok Kv)
theorem Q9 (Kv : Value → World → Prop) : OkT pr 23 g2 (L5 (Kt Kv)) (tl 2 bd) (P1 Kv) := ok_seq (by kernel_rfl) (S2_ok Kv) (B8 Kv)
end vint_PutU
def vint_PutU (b_2 : Sl) (n_3 : Int) (w : World) (K : vint_PutU.KT) : Prop :=
  vint_PutU.L5 K b_2 n_3 nilS w
def vint_PutU.cl : CL := fun args K w => match args with
  | [.slice x0_a x0_n x0_c, .int .u64 x1] => C.vint_PutU ⟨x0_a, x0_n, x0_c⟩ x1 w (vint_PutU.Kt K)
  | _ => False
theorem vint_PutU.clok : OkC pr 15 vint_PutU.cl := by
  intro args K w h
  unfold vint_PutU.cl at h
  split at h
  · exact calls_group mixed vint_PutU.FOk_ vint_PutU.fn rfl 2 (vint_PutU.Q9 K) (Eq.mp (by kernel_rfl) h)
  · exact h.elim

/-! tocsin/tocsinref01.Same -/
namespace tocsinref01_Same
abbrev KT := Bool → World → Prop
def Kt (Kv : Value → World → Prop) : KT := fun b1 w => Kv (.bool b1) w
noncomputable def bd : Code := bdy Tryd.f17
theorem fn : FnOk pr 17 26 Tryd.f17 := ⟨Tryd.func17, by kernel_rfl, Tryd.ntmps17, by kernel_rfl, by kernel_rfl⟩
def F : Clee := ofL []
theorem FOk_ : FOk pr F := FOk_nil
def P1 (Kv : Value → World → Prop) : Post := bodyK pr 26 Tryd.f17 Kv
@[reducible] def g2 : List SE := []
def S2 (K : KT) (w : World) : Prop :=
  K true w
theorem S2_ok (Kv : Value → World → Prop) : OkT pr 26 g2 (S2 (Kt Kv)) (s2 (tl 2 bd)) (P1 Kv) := ok_last mixed FOk_ fun v ρ w => by kernel_rfl
def P3 (Kv : Value → World → Prop) : Post := next (get g2 (S2 (Kt Kv))) (P1 Kv)
def P4 (Kv : Value → World → Prop) : Post := inBlock 0 (P3 Kv)
@[reducible] def g5 : List SE := [.v 0 .sl, .v 1 .sl, .v 5 (.int .i64)]
def P6 (Kv : Value → World → Prop) (kc5 : Cur g5) : Post := next (get g5 kc5) (P4 Kv)
def S7 (K : KT) (kc5 : Cur g5) (a_7 : Sl) (b_8 : Sl) (i_9 : Int) (w : World) : Prop :=
  G.cond (decide (i_9 < ((a_7.n : Nat) : Int))) (G.ix a_7.a a_7.n i_9 1 fun p10 => G.cI .u8 p10 w fun n11 => G.ix b_8.a b_8.n i_9 1 fun p12 => G.cI .u8 p12 w fun n13 => G.drawn w fun w14 => G.cond (n11 != n13) (K false w14) (kc5 a_7 b_8 (IntKind.i64.wrap (i_9 + (1 : Int))) w14)) (S2 K w)
theorem S7_ok (Kv : Value → World → Prop) (kc5 : Cur g5) : OkT pr 26 g5 (S7 (Kt Kv) kc5) (lp (blk (tl 1 (s1 (tl 2 bd))))) (P6 Kv kc5) := ok_last mixed FOk_ fun v ρ w => by kernel_rfl
def L5 (K : KT) : Cur g5 := loopC g5 (S7 K)
theorem L5_ok (Kv : Value → World → Prop) : OkT pr 26 g5 (L5 (Kt Kv)) (blk (tl 1 (s1 (tl 2 bd)))) (P4 Kv) := ok_loop (B := S7 (Kt Kv)) (by kernel_rfl) fun kc => S7_ok Kv kc
theorem L5_ind {K : KT} {a_4 : Sl} {b_5 : Sl} {i_6 : Int} {w : World} (h : ∀ X : Cur g5, (∀ a_4 b_5 i_6 w, S7 K X a_4 b_5 i_6 w → X a_4 b_5 i_6 w) → X a_4 b_5 i_6 w) : L5 K a_4 b_5 i_6 w := fun X hX => h X fun a_4 b_5 i_6 w hb => hX (a_4, b_5, i_6, ()) w hb
theorem B8 (Kv : Value → World → Prop) : OkT pr 26 g5 (L5 (Kt Kv)) (tl 1 (s1 (tl 2 bd))) (P3 Kv) := ok_block 0 (by kernel_rfl) (L5_ok Kv)
@[reducible] def g9 : List SE := [.v 0 .sl, .v 1 .sl]
def S9 (K : KT) (a_15 : Sl) (b_16 : Sl) (w : World) : Prop :=
  L5 K a_15 b_16 (0 : Int) w
theorem S9_ok (Kv : Value → World → Prop) : OkT pr 26 g9 (S9 (Kt Kv)) (s1 (tl 2 bd)) (P3 Kv) := ok_group mixed FOk_ 1 (B8 Kv) fun v ρ w => by kernel_rfl
theorem Q10 (Kv : Value → World → Prop) : OkT pr 26 g9 (S9 (Kt Kv)) (tl 2 bd) (P1 Kv) := ok_seq (by kernel_rfl) (S2_ok Kv) (S9_ok Kv)
end tocsinref01_Same
def tocsinref01_Same (a_2 : Sl) (b_3 : Sl) (w : World) (K : tocsinref01_Same.KT) : Prop :=
  G.cond (((a_2.n : Nat) : Int) != ((b_3.n : Nat) : Int)) (K false w) (tocsinref01_Same.S9 K a_2 b_3 w)
def tocsinref01_Same.cl : CL := fun args K w => match args with
  | [.slice x0_a x0_n x0_c, .slice x1_a x1_n x1_c] => C.tocsinref01_Same ⟨x0_a, x0_n, x0_c⟩ ⟨x1_a, x1_n, x1_c⟩ w (tocsinref01_Same.Kt K)
  | _ => False
theorem tocsinref01_Same.clok : OkC pr 17 tocsinref01_Same.cl := by
  intro args K w h
  unfold tocsinref01_Same.cl at h
  split at h
  · exact calls_group mixed tocsinref01_Same.FOk_ tocsinref01_Same.fn rfl 2 (tocsinref01_Same.Q10 K) (Eq.mp (by kernel_rfl) h)
  · exact h.elim

/-! tocsin/vint.U -/
namespace vint_U
abbrev KT := Int → Int → Int → World → Prop
def Kt (Kv : Value → World → Prop) : KT := fun n1 n2 n3 w => Kv (.tuple #[(.int .u64 n1), (.int .i64 n2), (.int .i64 n3)]) w
noncomputable def bd : Code := bdy Tryd.f21
theorem fn : FnOk pr 21 65 Tryd.f21 := ⟨Tryd.func21, by kernel_rfl, Tryd.ntmps21, by kernel_rfl, by kernel_rfl⟩
def F : Clee := ofL []
theorem FOk_ : FOk pr F := FOk_nil
def P1 (Kv : Value → World → Prop) : Post := bodyK pr 65 Tryd.f21 Kv
def P2 (Kv : Value → World → Prop) : Post := inBlock 0 (P1 Kv)
@[reducible] def g3 : List SE := [.v 0 .sl, .v 1 (.int .i64), .v 7 (.int .u64), .v 8 (.int .i64)]
def P4 (Kv : Value → World → Prop) (kc3 : Cur g3) : Post := next (get g3 kc3) (P2 Kv)
def S5 (K : KT) (kc3 : Cur g3) (b_10 : Sl) (at_11 : Int) (n_12 : Int) (i_13 : Int) (w : World) : Prop :=
  G.cond (decide ((IntKind.i64.wrap (at_11 + i_13)) ≥ ((b_10.n : Nat) : Int))) (K (0 : Int) (0 : Int) (9 : Int) w) (G.ix b_10.a b_10.n (IntKind.i64.wrap (at_11 + i_13)) 1 fun p14 => G.cI .u8 p14 w fun n15 => G.cond (i_13 == (9 : Int)) (G.cond (decide (n15 > (1 : Int))) (K (0 : Int) (0 : Int) (7 : Int) w) (G.cond (decide (n15 < (128 : Int))) (G.cond (n15 == (0 : Int)) (G.cond (decide (i_13 > (0 : Int))) (K (0 : Int) (0 : Int) (3 : Int) w) (G.nn (IntKind.i64.wrap ((7 : Int) * i_13)) <| G.cond (decide (n15 < (128 : Int))) (K (Go.bits .or .u64 n_12 (shl .u64 (IntKind.u64.wrap (Go.bits .and .u8 n15 (127 : Int))) (IntKind.i64.wrap ((7 : Int) * i_13)))) (IntKind.i64.wrap ((IntKind.i64.wrap (at_11 + i_13)) + (1 : Int))) (0 : Int) w) (kc3 b_10 at_11 (Go.bits .or .u64 n_12 (shl .u64 (IntKind.u64.wrap (Go.bits .and .u8 n15 (127 : Int))) (IntKind.i64.wrap ((7 : Int) * i_13)))) (IntKind.i64.wrap (i_13 + (1 : Int))) w))) (G.nn (IntKind.i64.wrap ((7 : Int) * i_13)) <| G.cond (decide (n15 < (128 : Int))) (K (Go.bits .or .u64 n_12 (shl .u64 (IntKind.u64.wrap (Go.bits .and .u8 n15 (127 : Int))) (IntKind.i64.wrap ((7 : Int) * i_13)))) (IntKind.i64.wrap ((IntKind.i64.wrap (at_11 + i_13)) + (1 : Int))) (0 : Int) w) (kc3 b_10 at_11 (Go.bits .or .u64 n_12 (shl .u64 (IntKind.u64.wrap (Go.bits .and .u8 n15 (127 : Int))) (IntKind.i64.wrap ((7 : Int) * i_13)))) (IntKind.i64.wrap (i_13 + (1 : Int))) w))) (G.nn (IntKind.i64.wrap ((7 : Int) * i_13)) <| G.cond (decide (n15 < (128 : Int))) (K (Go.bits .or .u64 n_12 (shl .u64 (IntKind.u64.wrap (Go.bits .and .u8 n15 (127 : Int))) (IntKind.i64.wrap ((7 : Int) * i_13)))) (IntKind.i64.wrap ((IntKind.i64.wrap (at_11 + i_13)) + (1 : Int))) (0 : Int) w) (kc3 b_10 at_11 (Go.bits .or .u64 n_12 (shl .u64 (IntKind.u64.wrap (Go.bits .and .u8 n15 (127 : Int))) (IntKind.i64.wrap ((7 : Int) * i_13)))) (IntKind.i64.wrap (i_13 + (1 : Int))) w)))) (G.cond (decide (n15 < (128 : Int))) (G.cond (n15 == (0 : Int)) (G.cond (decide (i_13 > (0 : Int))) (K (0 : Int) (0 : Int) (3 : Int) w) (G.nn (IntKind.i64.wrap ((7 : Int) * i_13)) <| G.cond (decide (n15 < (128 : Int))) (K (Go.bits .or .u64 n_12 (shl .u64 (IntKind.u64.wrap (Go.bits .and .u8 n15 (127 : Int))) (IntKind.i64.wrap ((7 : Int) * i_13)))) (IntKind.i64.wrap ((IntKind.i64.wrap (at_11 + i_13)) + (1 : Int))) (0 : Int) w) (kc3 b_10 at_11 (Go.bits .or .u64 n_12 (shl .u64 (IntKind.u64.wrap (Go.bits .and .u8 n15 (127 : Int))) (IntKind.i64.wrap ((7 : Int) * i_13)))) (IntKind.i64.wrap (i_13 + (1 : Int))) w))) (G.nn (IntKind.i64.wrap ((7 : Int) * i_13)) <| G.cond (decide (n15 < (128 : Int))) (K (Go.bits .or .u64 n_12 (shl .u64 (IntKind.u64.wrap (Go.bits .and .u8 n15 (127 : Int))) (IntKind.i64.wrap ((7 : Int) * i_13)))) (IntKind.i64.wrap ((IntKind.i64.wrap (at_11 + i_13)) + (1 : Int))) (0 : Int) w) (kc3 b_10 at_11 (Go.bits .or .u64 n_12 (shl .u64 (IntKind.u64.wrap (Go.bits .and .u8 n15 (127 : Int))) (IntKind.i64.wrap ((7 : Int) * i_13)))) (IntKind.i64.wrap (i_13 + (1 : Int))) w))) (G.nn (IntKind.i64.wrap ((7 : Int) * i_13)) <| G.cond (decide (n15 < (128 : Int))) (K (Go.bits .or .u64 n_12 (shl .u64 (IntKind.u64.wrap (Go.bits .and .u8 n15 (127 : Int))) (IntKind.i64.wrap ((7 : Int) * i_13)))) (IntKind.i64.wrap ((IntKind.i64.wrap (at_11 + i_13)) + (1 : Int))) (0 : Int) w) (kc3 b_10 at_11 (Go.bits .or .u64 n_12 (shl .u64 (IntKind.u64.wrap (Go.bits .and .u8 n15 (127 : Int))) (IntKind.i64.wrap ((7 : Int) * i_13)))) (IntKind.i64.wrap (i_13 + (1 : Int))) w))))
theorem S5_ok (Kv : Value → World → Prop) (kc3 : Cur g3) : OkT pr 65 g3 (S5 (Kt Kv) kc3) (lp (blk (tl 4 bd))) (P4 Kv kc3) := ok_last mixed FOk_ fun v ρ w => by kernel_rfl
def L3 (K : KT) : Cur g3 := loopC g3 (S5 K)
theorem L3_ok (Kv : Value → World → Prop) : OkT pr 65 g3 (L3 (Kt Kv)) (blk (tl 4 bd)) (P2 Kv) := ok_loop (B := S5 (Kt Kv)) (by kernel_rfl) fun kc => S5_ok Kv kc
theorem L3_ind {K : KT} {b_6 : Sl} {at_7 : Int} {n_8 : Int} {i_9 : Int} {w : World} (h : ∀ X : Cur g3, (∀ b_6 at_7 n_8 i_9 w, S5 K X b_6 at_7 n_8 i_9 w → X b_6 at_7 n_8 i_9 w) → X b_6 at_7 n_8 i_9 w) : L3 K b_6 at_7 n_8 i_9 w := fun X hX => h X fun b_6 at_7 n_8 i_9 w hb => hX (b_6, at_7, n_8, i_9, ()) w hb
theorem B6 (Kv : Value → World → Prop) : OkT pr 65 g3 (L3 (Kt Kv)) (tl 4 bd) (P1 Kv) := ok_block 0 (by kernel_rfl) (L3_ok Kv)
end vint_U
def vint_U (b_4 : Sl) (at_5 : Int) (w : World) (K : vint_U.KT) : Prop :=
  G.cond (decide (at_5 < (0 : Int))) (K (0 : Int) (0 : Int) (1 : Int) w) (G.cond (decide (at_5 > ((b_4.n : Nat) : Int))) (K (0 : Int) (0 : Int) (1 : Int) w) (vint_U.L3 K b_4 at_5 (0 : Int) (0 : Int) w))
def vint_U.cl : CL := fun args K w => match args with
  | [.slice x0_a x0_n x0_c, .int .i64 x1] => C.vint_U ⟨x0_a, x0_n, x0_c⟩ x1 w (vint_U.Kt K)
  | _ => False
theorem vint_U.clok : OkC pr 21 vint_U.cl := by
  intro args K w h
  unfold vint_U.cl at h
  split at h
  · exact calls_group mixed vint_U.FOk_ vint_U.fn rfl 4 (vint_U.B6 K) (Eq.mp (by kernel_rfl) h)
  · exact h.elim

/-! tocsin/vint.PutFrame -/
namespace vint_PutFrame
abbrev KT := Sl → Int → World → Prop
def Kt (Kv : Value → World → Prop) : KT := fun l1 n2 w => Kv (.tuple #[l1.v, (.int .i64 n2)]) w
noncomputable def bd : Code := bdy Tryd.f26
theorem fn : FnOk pr 26 34 Tryd.f26 := ⟨Tryd.func26, by kernel_rfl, Tryd.ntmps26, by kernel_rfl, by kernel_rfl⟩
def F : Clee := ofL [(9, C.vint_Sum.cl), (15, C.vint_PutU.cl)]
theorem FOk_ : FOk pr F := FOk_cons C.vint_Sum.clok (FOk_cons C.vint_PutU.clok (FOk_nil))
def P1 (Kv : Value → World → Prop) : Post := bodyK pr 34 Tryd.f26 Kv
end vint_PutFrame
def vint_PutFrame (b_3 : Sl) (p_4 : Sl) (w : World) (K : vint_PutFrame.KT) : Prop :=
  G.cond (decide (((p_4.n : Nat) : Int) > (65536 : Int))) (K nilS (4 : Int) w) (C.vint_Sum p_4 w fun n5 w6 => C.vint_PutU b_3 (IntKind.u64.wrap ((p_4.n : Nat) : Int)) w6 fun l7 w8 => G.nn (8 : Int) <| G.nn (16 : Int) <| G.nn (24 : Int) <| G.new (.cells #[(.int .u8 (IntKind.u8.wrap n5)), (.int .u8 (IntKind.u8.wrap (shr .u32 n5 (8 : Int)))), (.int .u8 (IntKind.u8.wrap (shr .u32 n5 (16 : Int)))), (.int .u8 (IntKind.u8.wrap (shr .u32 n5 (24 : Int))))] 5) w8 fun p9 w10 => G.runSl pr (Builtin.append_ #[22, 22] 22 #[l7.v, (Sl.v (⟨some p9, 4, 4⟩ : Sl))]) w10 fun l11 w12 => G.runSl pr (Builtin.append_ #[22, 22] 22 #[l11.v, p_4.v]) w12 fun l13 w14 => K l13 (0 : Int) w14)
def vint_PutFrame.cl : CL := fun args K w => match args with
  | [.slice x0_a x0_n x0_c, .slice x1_a x1_n x1_c] => C.vint_PutFrame ⟨x0_a, x0_n, x0_c⟩ ⟨x1_a, x1_n, x1_c⟩ w (vint_PutFrame.Kt K)
  | _ => False
theorem vint_PutFrame.clok : OkC pr 26 vint_PutFrame.cl := by
  intro args K w h
  unfold vint_PutFrame.cl at h
  split at h
  · exact calls_last mixed vint_PutFrame.FOk_ vint_PutFrame.fn rfl (Eq.mp (by kernel_rfl) h)
  · exact h.elim

/-! tocsin/tocsinlaw01.known -/
namespace tocsinlaw01_known
abbrev KT := Bool → World → Prop
def Kt (Kv : Value → World → Prop) : KT := fun b1 w => Kv (.bool b1) w
noncomputable def bd : Code := bdy Tryd.f13
theorem fn : FnOk pr 13 62 Tryd.f13 := ⟨Tryd.func13, by kernel_rfl, Tryd.ntmps13, by kernel_rfl, by kernel_rfl⟩
def F : Clee := ofL [(9, C.vint_Sum.cl), (15, C.vint_PutU.cl), (17, C.tocsinref01_Same.cl), (21, C.vint_U.cl), (26, C.vint_PutFrame.cl)]
theorem FOk_ : FOk pr F := FOk_cons C.vint_Sum.clok (FOk_cons C.vint_PutU.clok (FOk_cons C.tocsinref01_Same.clok (FOk_cons C.vint_U.clok (FOk_cons C.vint_PutFrame.clok (FOk_nil)))))
def P1 (Kv : Value → World → Prop) : Post := bodyK pr 62 Tryd.f13 Kv
end tocsinlaw01_known
def tocsinlaw01_known (w : World) (K : tocsinlaw01_known.KT) : Prop :=
  C.vint_PutU nilS (300 : Int) w fun l2 w3 => C.vint_U l2 (0 : Int) w3 fun n4 n5 n6 w7 => G.new (.cells #[(.int .u8 (97 : Int))] 5) w7 fun p8 w9 => G.runSl pr (Go.convert 22 22 (Sl.v (⟨some p8, 1, 1⟩ : Sl))) w9 fun l10 w11 => C.vint_PutFrame nilS l10 w11 fun l12 n13 w14 => G.cond (((l2.n : Nat) : Int) == (2 : Int)) (G.ix l2.a l2.n (0 : Int) 1 fun p15 => G.cI .u8 p15 w14 fun n16 => G.cond (n16 == (172 : Int)) (G.ix l2.a l2.n (1 : Int) 1 fun p17 => G.cI .u8 p17 w14 fun n18 => G.cond (n18 == (2 : Int)) (G.cond (n4 == (300 : Int)) (G.cond (n5 == (2 : Int)) (G.cond (n6 == (0 : Int)) (G.cond (n13 == (0 : Int)) (G.new (.cells #[(.int .u8 (1 : Int)), (.int .u8 (48 : Int)), (.int .u8 (67 : Int)), (.int .u8 (208 : Int)), (.int .u8 (193 : Int)), (.int .u8 (97 : Int))] 5) w14 fun p19 w20 => C.tocsinref01_Same l12 (⟨some p19, 6, 6⟩ : Sl) w20 fun b21 w22 => G.cond b21 (G.new (.cells #[(.int .u8 (49 : Int)), (.int .u8 (50 : Int)), (.int .u8 (51 : Int)), (.int .u8 (52 : Int)), (.int .u8 (53 : Int)), (.int .u8 (54 : Int)), (.int .u8 (55 : Int)), (.int .u8 (56 : Int)), (.int .u8 (57 : Int))] 5) w22 fun p23 w24 => G.runSl pr (Go.convert 22 22 (Sl.v (⟨some p23, 9, 9⟩ : Sl))) w24 fun l25 w26 => C.vint_Sum l25 w26 fun n27 w28 => K (n27 == (3808858755 : Int)) w28) (K false w22)) (K false w14)) (K false w14)) (K false w14)) (K false w14)) (K false w14)) (K false w14)) (K false w14)
def tocsinlaw01_known.cl : CL := fun args K w => match args with
  | [] => C.tocsinlaw01_known w (tocsinlaw01_known.Kt K)
  | _ => False
theorem tocsinlaw01_known.clok : OkC pr 13 tocsinlaw01_known.cl := by
  intro args K w h
  unfold tocsinlaw01_known.cl at h
  split at h
  · exact calls_last mixed tocsinlaw01_known.FOk_ tocsinlaw01_known.fn rfl (Eq.mp (by kernel_rfl) h)
  · exact h.elim

/-! tocsin/tocsinlaw01.VintSums -/
namespace tocsinlaw01_VintSums
abbrev KT := Bool → World → Prop
def Kt (Kv : Value → World → Prop) : KT := fun b1 w => Kv (.bool b1) w
noncomputable def bd : Code := bdy Tryd.f3
theorem fn : FnOk pr 3 40 Tryd.f3 := ⟨Tryd.func3, by kernel_rfl, Tryd.ntmps3, by kernel_rfl, by kernel_rfl⟩
def F : Clee := ofL [(9, C.vint_Sum.cl), (10, C.tocsinref01_Sum.cl), (11, C.vint_On.cl), (12, C.tocsinref01_On.cl), (13, C.tocsinlaw01_known.cl)]
theorem FOk_ : FOk pr F := FOk_cons C.vint_Sum.clok (FOk_cons C.tocsinref01_Sum.clok (FOk_cons C.vint_On.clok (FOk_cons C.tocsinref01_On.clok (FOk_cons C.tocsinlaw01_known.clok (FOk_nil)))))
def P1 (Kv : Value → World → Prop) : Post := bodyK pr 40 Tryd.f3 Kv
end tocsinlaw01_VintSums
def tocsinlaw01_VintSums (a_2 : Sl) (b_3 : Sl) (sum_4 : Int) (w : World) (K : tocsinlaw01_VintSums.KT) : Prop :=
  G.runSl pr (Builtin.append_ #[22, 22] 22 #[nilS.v, a_2.v]) w fun l5 w6 => G.runSl pr (Builtin.append_ #[22, 22] 22 #[l5.v, b_3.v]) w6 fun l7 w8 => C.vint_Sum a_2 w8 fun n9 w10 => C.tocsinref01_Sum a_2 w10 fun n11 w12 => G.cond (n9 == n11) (C.vint_On sum_4 b_3 w12 fun n13 w14 => C.tocsinref01_On sum_4 b_3 w14 fun n15 w16 => G.cond (n13 == n15) (C.vint_Sum a_2 w16 fun n17 w18 => C.vint_On n17 b_3 w18 fun n19 w20 => C.vint_Sum l7 w20 fun n21 w22 => G.cond (n19 == n21) (C.tocsinlaw01_known w22 fun b23 w24 => K b23 w24) (K false w22)) (K false w16)) (K false w12)
def tocsinlaw01_VintSums.cl : CL := fun args K w => match args with
  | [.slice x0_a x0_n x0_c, .slice x1_a x1_n x1_c, .int .u32 x2] => C.tocsinlaw01_VintSums ⟨x0_a, x0_n, x0_c⟩ ⟨x1_a, x1_n, x1_c⟩ x2 w (tocsinlaw01_VintSums.Kt K)
  | _ => False
theorem tocsinlaw01_VintSums.clok : OkC pr 3 tocsinlaw01_VintSums.cl := by
  intro args K w h
  unfold tocsinlaw01_VintSums.cl at h
  split at h
  · exact calls_last mixed tocsinlaw01_VintSums.FOk_ tocsinlaw01_VintSums.fn rfl (Eq.mp (by kernel_rfl) h)
  · exact h.elim

/-! tocsin/tocsinref01.Lent -/
namespace tocsinref01_Lent
abbrev KT := Sl → World → Prop
def Kt (Kv : Value → World → Prop) : KT := fun l1 w => Kv l1.v w
noncomputable def bd : Code := bdy Tryd.f14
theorem fn : FnOk pr 14 14 Tryd.f14 := ⟨Tryd.func14, by kernel_rfl, Tryd.ntmps14, by kernel_rfl, by kernel_rfl⟩
def F : Clee := ofL []
theorem FOk_ : FOk pr F := FOk_nil
def P1 (Kv : Value → World → Prop) : Post := bodyK pr 14 Tryd.f14 Kv
end tocsinref01_Lent
def tocsinref01_Lent (b_2 : Sl) (w : World) (K : tocsinref01_Lent.KT) : Prop :=
  G.runSl pr (Builtin.append_ #[22, 22] 22 #[nilS.v, b_2.v]) w fun l3 w4 => G.new (.cells #[(.int .u8 (77 : Int))] 5) w4 fun p5 w6 => G.runSl pr (Builtin.append_ #[22, 22] 22 #[l3.v, (Sl.v (⟨some p5, 1, 1⟩ : Sl))]) w6 fun l7 w8 => G.slc l7 0 ((b_2.n : Nat) : Int) 1 fun l9 => K l9 w8
def tocsinref01_Lent.cl : CL := fun args K w => match args with
  | [.slice x0_a x0_n x0_c] => C.tocsinref01_Lent ⟨x0_a, x0_n, x0_c⟩ w (tocsinref01_Lent.Kt K)
  | _ => False
theorem tocsinref01_Lent.clok : OkC pr 14 tocsinref01_Lent.cl := by
  intro args K w h
  unfold tocsinref01_Lent.cl at h
  split at h
  · exact calls_last mixed tocsinref01_Lent.FOk_ tocsinref01_Lent.fn rfl (Eq.mp (by kernel_rfl) h)
  · exact h.elim

/-! tocsin/vint.PutI -/
namespace vint_PutI
abbrev KT := Sl → World → Prop
def Kt (Kv : Value → World → Prop) : KT := fun l1 w => Kv l1.v w
noncomputable def bd : Code := bdy Tryd.f16
theorem fn : FnOk pr 16 14 Tryd.f16 := ⟨Tryd.func16, by kernel_rfl, Tryd.ntmps16, by kernel_rfl, by kernel_rfl⟩
def F : Clee := ofL [(15, C.vint_PutU.cl)]
theorem FOk_ : FOk pr F := FOk_cons C.vint_PutU.clok (FOk_nil)
def P1 (Kv : Value → World → Prop) : Post := bodyK pr 14 Tryd.f16 Kv
end vint_PutI
def vint_PutI (b_2 : Sl) (n_3 : Int) (w : World) (K : vint_PutI.KT) : Prop :=
  G.nn (1 : Int) <| G.nn (63 : Int) <| C.vint_PutU b_2 (Go.bits .xor .u64 (shl .u64 (IntKind.u64.wrap n_3) (1 : Int)) (IntKind.u64.wrap (shr .i64 n_3 (63 : Int)))) w fun l4 w5 => K l4 w5
def vint_PutI.cl : CL := fun args K w => match args with
  | [.slice x0_a x0_n x0_c, .int .i64 x1] => C.vint_PutI ⟨x0_a, x0_n, x0_c⟩ x1 w (vint_PutI.Kt K)
  | _ => False
theorem vint_PutI.clok : OkC pr 16 vint_PutI.cl := by
  intro args K w h
  unfold vint_PutI.cl at h
  split at h
  · exact calls_last mixed vint_PutI.FOk_ vint_PutI.fn rfl (Eq.mp (by kernel_rfl) h)
  · exact h.elim

/-! tocsin/tocsinref01.joined -/
namespace tocsinref01_joined
abbrev KT := Sl → World → Prop
def Kt (Kv : Value → World → Prop) : KT := fun l1 w => Kv l1.v w
noncomputable def bd : Code := bdy Tryd.f40
theorem fn : FnOk pr 40 13 Tryd.f40 := ⟨Tryd.func40, by kernel_rfl, Tryd.ntmps40, by kernel_rfl, by kernel_rfl⟩
def F : Clee := ofL []
theorem FOk_ : FOk pr F := FOk_nil
def P1 (Kv : Value → World → Prop) : Post := bodyK pr 13 Tryd.f40 Kv
end tocsinref01_joined
def tocsinref01_joined (b_2 : Sl) (c_3 : Sl) (w : World) (K : tocsinref01_joined.KT) : Prop :=
  G.runSl pr (Builtin.append_ #[22, 22] 22 #[nilS.v, b_2.v]) w fun l4 w5 => G.runSl pr (Builtin.append_ #[22, 22] 22 #[l4.v, c_3.v]) w5 fun l6 w7 => K l6 w7
def tocsinref01_joined.cl : CL := fun args K w => match args with
  | [.slice x0_a x0_n x0_c, .slice x1_a x1_n x1_c] => C.tocsinref01_joined ⟨x0_a, x0_n, x0_c⟩ ⟨x1_a, x1_n, x1_c⟩ w (tocsinref01_joined.Kt K)
  | _ => False
theorem tocsinref01_joined.clok : OkC pr 40 tocsinref01_joined.cl := by
  intro args K w h
  unfold tocsinref01_joined.cl at h
  split at h
  · exact calls_last mixed tocsinref01_joined.FOk_ tocsinref01_joined.fn rfl (Eq.mp (by kernel_rfl) h)
  · exact h.elim

/-! tocsin/tocsinref01.PutU -/
namespace tocsinref01_PutU
abbrev KT := Sl → World → Prop
def Kt (Kv : Value → World → Prop) : KT := fun l1 w => Kv l1.v w
noncomputable def bd : Code := bdy Tryd.f18
theorem fn : FnOk pr 18 25 Tryd.f18 := ⟨Tryd.func18, by kernel_rfl, Tryd.ntmps18, by kernel_rfl, by kernel_rfl⟩
def F : Clee := ofL [(40, C.tocsinref01_joined.cl)]
theorem FOk_ : FOk pr F := FOk_cons C.tocsinref01_joined.clok (FOk_nil)
def P1 (Kv : Value → World → Prop) : Post := bodyK pr 25 Tryd.f18 Kv
@[reducible] def g2 : List SE := [.v 0 .sl, .v 1 (.int .u64), .v 5 .sl]
def S2 (K : KT) (b_4 : Sl) (n_5 : Int) (d_6 : Sl) (w : World) : Prop :=
  G.new (.cells #[(.int .u8 (IntKind.u8.wrap n_5))] 5) w fun p7 w8 => G.runSl pr (Builtin.append_ #[22, 22] 22 #[d_6.v, (Sl.v (⟨some p7, 1, 1⟩ : Sl))]) w8 fun l9 w10 => C.tocsinref01_joined b_4 l9 w10 fun l11 w12 => K l11 w12
theorem S2_ok (Kv : Value → World → Prop) : OkT pr 25 g2 (S2 (Kt Kv)) (s2 (tl 2 bd)) (P1 Kv) := ok_last mixed FOk_ fun v ρ w => by kernel_rfl
def P3 (Kv : Value → World → Prop) : Post := next (get g2 (S2 (Kt Kv))) (P1 Kv)
def P4 (Kv : Value → World → Prop) : Post := inBlock 0 (P3 Kv)
def P6 (Kv : Value → World → Prop) (kc5 : Cur g2) : Post := next (get g2 kc5) (P4 Kv)
def S7 (K : KT) (kc5 : Cur g2) (b_16 : Sl) (n_17 : Int) (d_18 : Sl) (w : World) : Prop :=
  G.cond (decide (n_17 ≥ (128 : Int))) (G.nz (128 : Int) <| G.new (.cells #[(.int .u8 (IntKind.u8.wrap ((IntKind.u8.wrap (Int.tmod n_17 (128 : Int))) + (128 : Int))))] 5) w fun p19 w20 => G.runSl pr (Builtin.append_ #[22, 22] 22 #[d_18.v, (Sl.v (⟨some p19, 1, 1⟩ : Sl))]) w20 fun l21 w22 => G.nz (128 : Int) <| kc5 b_16 (IntKind.u64.wrap (Int.tdiv n_17 (128 : Int))) l21 w22) (S2 K b_16 n_17 d_18 w)
theorem S7_ok (Kv : Value → World → Prop) (kc5 : Cur g2) : OkT pr 25 g2 (S7 (Kt Kv) kc5) (lp (blk (s1 (tl 2 bd)))) (P6 Kv kc5) := ok_last mixed FOk_ fun v ρ w => by kernel_rfl
def L5 (K : KT) : Cur g2 := loopC g2 (S7 K)
theorem L5_ok (Kv : Value → World → Prop) : OkT pr 25 g2 (L5 (Kt Kv)) (blk (s1 (tl 2 bd))) (P4 Kv) := ok_loop (B := S7 (Kt Kv)) (by kernel_rfl) fun kc => S7_ok Kv kc
theorem L5_ind {K : KT} {b_13 : Sl} {n_14 : Int} {d_15 : Sl} {w : World} (h : ∀ X : Cur g2, (∀ b_13 n_14 d_15 w, S7 K X b_13 n_14 d_15 w → X b_13 n_14 d_15 w) → X b_13 n_14 d_15 w) : L5 K b_13 n_14 d_15 w := fun X hX => h X fun b_13 n_14 d_15 w hb => hX (b_13, n_14, d_15, ()) w hb
theorem B8 (Kv : Value → World → Prop) : OkT pr 25 g2 (L5 (Kt Kv)) (s1 (tl 2 bd)) (P3 Kv) := ok_block 0 (by kernel_rfl) (L5_ok Kv)
theorem Q9 (Kv : Value → World → Prop) : OkT pr 25 g2 (L5 (Kt Kv)) (tl 2 bd) (P1 Kv) := ok_seq (by kernel_rfl) (S2_ok Kv) (B8 Kv)
end tocsinref01_PutU
def tocsinref01_PutU (b_2 : Sl) (n_3 : Int) (w : World) (K : tocsinref01_PutU.KT) : Prop :=
  tocsinref01_PutU.L5 K b_2 n_3 nilS w
def tocsinref01_PutU.cl : CL := fun args K w => match args with
  | [.slice x0_a x0_n x0_c, .int .u64 x1] => C.tocsinref01_PutU ⟨x0_a, x0_n, x0_c⟩ x1 w (tocsinref01_PutU.Kt K)
  | _ => False
theorem tocsinref01_PutU.clok : OkC pr 18 tocsinref01_PutU.cl := by
  intro args K w h
  unfold tocsinref01_PutU.cl at h
  split at h
  · exact calls_group mixed tocsinref01_PutU.FOk_ tocsinref01_PutU.fn rfl 2 (tocsinref01_PutU.Q9 K) (Eq.mp (by kernel_rfl) h)
  · exact h.elim

/-! tocsin/tocsinref01.turn -/
namespace tocsinref01_turn
abbrev KT := Int → World → Prop
def Kt (Kv : Value → World → Prop) : KT := fun n1 w => Kv (.int .u64 n1) w
noncomputable def bd : Code := bdy Tryd.f41
theorem fn : FnOk pr 41 14 Tryd.f41 := ⟨Tryd.func41, by kernel_rfl, Tryd.ntmps41, by kernel_rfl, by kernel_rfl⟩
def F : Clee := ofL []
theorem FOk_ : FOk pr F := FOk_nil
def P1 (Kv : Value → World → Prop) : Post := bodyK pr 14 Tryd.f41 Kv
end tocsinref01_turn
def tocsinref01_turn (n_2 : Int) (w : World) (K : tocsinref01_turn.KT) : Prop :=
  G.cond (decide (n_2 ≥ (0 : Int))) (K (IntKind.u64.wrap ((2 : Int) * (IntKind.u64.wrap n_2))) w) (K (IntKind.u64.wrap ((IntKind.u64.wrap ((2 : Int) * (IntKind.u64.wrap (IntKind.i64.wrap (0 - (IntKind.i64.wrap (n_2 + (1 : Int)))))))) + (1 : Int))) w)
def tocsinref01_turn.cl : CL := fun args K w => match args with
  | [.int .i64 x0] => C.tocsinref01_turn x0 w (tocsinref01_turn.Kt K)
  | _ => False
theorem tocsinref01_turn.clok : OkC pr 41 tocsinref01_turn.cl := by
  intro args K w h
  unfold tocsinref01_turn.cl at h
  split at h
  · exact calls_last mixed tocsinref01_turn.FOk_ tocsinref01_turn.fn rfl (Eq.mp (by kernel_rfl) h)
  · exact h.elim

/-! tocsin/tocsinref01.PutI -/
namespace tocsinref01_PutI
abbrev KT := Sl → World → Prop
def Kt (Kv : Value → World → Prop) : KT := fun l1 w => Kv l1.v w
noncomputable def bd : Code := bdy Tryd.f19
theorem fn : FnOk pr 19 9 Tryd.f19 := ⟨Tryd.func19, by kernel_rfl, Tryd.ntmps19, by kernel_rfl, by kernel_rfl⟩
def F : Clee := ofL [(18, C.tocsinref01_PutU.cl), (41, C.tocsinref01_turn.cl)]
theorem FOk_ : FOk pr F := FOk_cons C.tocsinref01_PutU.clok (FOk_cons C.tocsinref01_turn.clok (FOk_nil))
def P1 (Kv : Value → World → Prop) : Post := bodyK pr 9 Tryd.f19 Kv
end tocsinref01_PutI
def tocsinref01_PutI (b_2 : Sl) (n_3 : Int) (w : World) (K : tocsinref01_PutI.KT) : Prop :=
  C.tocsinref01_turn n_3 w fun n4 w5 => C.tocsinref01_PutU b_2 n4 w5 fun l6 w7 => K l6 w7
def tocsinref01_PutI.cl : CL := fun args K w => match args with
  | [.slice x0_a x0_n x0_c, .int .i64 x1] => C.tocsinref01_PutI ⟨x0_a, x0_n, x0_c⟩ x1 w (tocsinref01_PutI.Kt K)
  | _ => False
theorem tocsinref01_PutI.clok : OkC pr 19 tocsinref01_PutI.cl := by
  intro args K w h
  unfold tocsinref01_PutI.cl at h
  split at h
  · exact calls_last mixed tocsinref01_PutI.FOk_ tocsinref01_PutI.fn rfl (Eq.mp (by kernel_rfl) h)
  · exact h.elim

/-! tocsin/tocsinref01.Spoil -/
namespace tocsinref01_Spoil
abbrev KT := World → Prop
def Kt (Kv : Value → World → Prop) : KT := fun  w => Kv (.tuple #[]) w
noncomputable def bd : Code := bdy Tryd.f20
theorem fn : FnOk pr 20 25 Tryd.f20 := ⟨Tryd.func20, by kernel_rfl, Tryd.ntmps20, by kernel_rfl, by kernel_rfl⟩
def F : Clee := ofL []
theorem FOk_ : FOk pr F := FOk_nil
def P1 (Kv : Value → World → Prop) : Post := bodyK pr 25 Tryd.f20 Kv
@[reducible] def g2 : List SE := [.v 0 .sl]
def S2 (K : KT) (b_2 : Sl) (w : World) : Prop :=
  G.new (.cells #[(.int .u8 (99 : Int))] 5) w fun p3 w4 => G.runSl pr (Builtin.append_ #[22, 22] 22 #[b_2.v, (Sl.v (⟨some p3, 1, 1⟩ : Sl))]) w4 fun l5 w6 => G.ix l5.a l5.n (IntKind.i64.wrap (((l5.n : Nat) : Int) - (1 : Int))) 1 fun p7 => G.st p7 (.int .u8 (98 : Int)) w6 fun w8 => K w8
theorem S2_ok (Kv : Value → World → Prop) : OkT pr 25 g2 (S2 (Kt Kv)) (s2 (tl 0 bd)) (P1 Kv) := ok_last mixed FOk_ fun v ρ w => by kernel_rfl
def P3 (Kv : Value → World → Prop) : Post := next (get g2 (S2 (Kt Kv))) (P1 Kv)
def P4 (Kv : Value → World → Prop) : Post := inBlock 0 (P3 Kv)
@[reducible] def g5 : List SE := [.v 0 .sl, .v 2 (.int .i64)]
def P6 (Kv : Value → World → Prop) (kc5 : Cur g5) : Post := next (get g5 kc5) (P4 Kv)
def S7 (K : KT) (kc5 : Cur g5) (b_11 : Sl) (i_12 : Int) (w : World) : Prop :=
  G.cond (decide (i_12 < ((b_11.n : Nat) : Int))) (G.ix b_11.a b_11.n i_12 1 fun p13 => G.cI .u8 p13 w fun n14 => G.ix b_11.a b_11.n i_12 1 fun p15 => G.st p15 (.int .u8 (Go.bits .xor .u8 n14 (90 : Int))) w fun w16 => kc5 b_11 (IntKind.i64.wrap (i_12 + (1 : Int))) w16) (S2 K b_11 w)
theorem S7_ok (Kv : Value → World → Prop) (kc5 : Cur g5) : OkT pr 25 g5 (S7 (Kt Kv) kc5) (lp (blk (tl 1 (s1 (tl 0 bd))))) (P6 Kv kc5) := ok_last mixed FOk_ fun v ρ w => by kernel_rfl
def L5 (K : KT) : Cur g5 := loopC g5 (S7 K)
theorem L5_ok (Kv : Value → World → Prop) : OkT pr 25 g5 (L5 (Kt Kv)) (blk (tl 1 (s1 (tl 0 bd)))) (P4 Kv) := ok_loop (B := S7 (Kt Kv)) (by kernel_rfl) fun kc => S7_ok Kv kc
theorem L5_ind {K : KT} {b_9 : Sl} {i_10 : Int} {w : World} (h : ∀ X : Cur g5, (∀ b_9 i_10 w, S7 K X b_9 i_10 w → X b_9 i_10 w) → X b_9 i_10 w) : L5 K b_9 i_10 w := fun X hX => h X fun b_9 i_10 w hb => hX (b_9, i_10, ()) w hb
theorem B8 (Kv : Value → World → Prop) : OkT pr 25 g5 (L5 (Kt Kv)) (tl 1 (s1 (tl 0 bd))) (P3 Kv) := ok_block 0 (by kernel_rfl) (L5_ok Kv)
def S9 (K : KT) (b_17 : Sl) (w : World) : Prop :=
  L5 K b_17 (0 : Int) w
theorem S9_ok (Kv : Value → World → Prop) : OkT pr 25 g2 (S9 (Kt Kv)) (s1 (tl 0 bd)) (P3 Kv) := ok_group mixed FOk_ 1 (B8 Kv) fun v ρ w => by kernel_rfl
theorem Q10 (Kv : Value → World → Prop) : OkT pr 25 g2 (S9 (Kt Kv)) (tl 0 bd) (P1 Kv) := ok_seq (by kernel_rfl) (S2_ok Kv) (S9_ok Kv)
end tocsinref01_Spoil
def tocsinref01_Spoil (b_1 : Sl) (w : World) (K : tocsinref01_Spoil.KT) : Prop :=
  tocsinref01_Spoil.S9 K b_1 w
def tocsinref01_Spoil.cl : CL := fun args K w => match args with
  | [.slice x0_a x0_n x0_c] => C.tocsinref01_Spoil ⟨x0_a, x0_n, x0_c⟩ w (tocsinref01_Spoil.Kt K)
  | _ => False
theorem tocsinref01_Spoil.clok : OkC pr 20 tocsinref01_Spoil.cl := by
  intro args K w h
  unfold tocsinref01_Spoil.cl at h
  split at h
  · exact calls_group mixed tocsinref01_Spoil.FOk_ tocsinref01_Spoil.fn rfl 0 (tocsinref01_Spoil.Q10 K) (Eq.mp (by kernel_rfl) h)
  · exact h.elim

/-! tocsin/tocsinref01.U -/
namespace tocsinref01_U
abbrev KT := Int → Int → Int → World → Prop
def Kt (Kv : Value → World → Prop) : KT := fun n1 n2 n3 w => Kv (.tuple #[(.int .u64 n1), (.int .i64 n2), (.int .i64 n3)]) w
noncomputable def bd : Code := bdy Tryd.f22
theorem fn : FnOk pr 22 62 Tryd.f22 := ⟨Tryd.func22, by kernel_rfl, Tryd.ntmps22, by kernel_rfl, by kernel_rfl⟩
def F : Clee := ofL []
theorem FOk_ : FOk pr F := FOk_nil
def P1 (Kv : Value → World → Prop) : Post := bodyK pr 62 Tryd.f22 Kv
@[reducible] def g2 : List SE := []
def S2 (K : KT) (w : World) : Prop :=
  K (0 : Int) (0 : Int) (7 : Int) w
theorem S2_ok (Kv : Value → World → Prop) : OkT pr 62 g2 (S2 (Kt Kv)) (s2 (tl 3 bd)) (P1 Kv) := ok_last mixed FOk_ fun v ρ w => by kernel_rfl
def P3 (Kv : Value → World → Prop) : Post := next (get g2 (S2 (Kt Kv))) (P1 Kv)
def P4 (Kv : Value → World → Prop) : Post := inBlock 0 (P3 Kv)
@[reducible] def g5 : List SE := [.v 0 .sl, .v 1 (.int .i64), .v 7 (.int .u64), .v 8 (.int .i64)]
def P6 (Kv : Value → World → Prop) (kc5 : Cur g5) : Post := next (get g5 kc5) (P4 Kv)
def S7 (K : KT) (kc5 : Cur g5) (b_10 : Sl) (at_11 : Int) (n_12 : Int) (i_13 : Int) (w : World) : Prop :=
  G.cond (decide (i_13 < (10 : Int))) (G.cond (decide (i_13 ≥ (IntKind.i64.wrap (((b_10.n : Nat) : Int) - at_11)))) (K (0 : Int) (0 : Int) (9 : Int) w) (G.ix b_10.a b_10.n (IntKind.i64.wrap (at_11 + i_13)) 1 fun p14 => G.cI .u8 p14 w fun n15 => G.cond (i_13 == (9 : Int)) (G.cond (decide (n15 > (1 : Int))) (K (0 : Int) (0 : Int) (7 : Int) w) (G.nz (128 : Int) <| G.nn (IntKind.u64.wrap (IntKind.i64.wrap ((7 : Int) * i_13))) <| G.cond (decide (n15 < (128 : Int))) (G.cond (n15 == (0 : Int)) (G.cond (decide (i_13 > (0 : Int))) (K (0 : Int) (0 : Int) (3 : Int) w) (K (Go.bits .or .u64 n_12 (shl .u64 (IntKind.u64.wrap (Int.tmod n15 (128 : Int))) (IntKind.u64.wrap (IntKind.i64.wrap ((7 : Int) * i_13))))) (IntKind.i64.wrap ((IntKind.i64.wrap (at_11 + i_13)) + (1 : Int))) (0 : Int) w)) (K (Go.bits .or .u64 n_12 (shl .u64 (IntKind.u64.wrap (Int.tmod n15 (128 : Int))) (IntKind.u64.wrap (IntKind.i64.wrap ((7 : Int) * i_13))))) (IntKind.i64.wrap ((IntKind.i64.wrap (at_11 + i_13)) + (1 : Int))) (0 : Int) w)) (kc5 b_10 at_11 (Go.bits .or .u64 n_12 (shl .u64 (IntKind.u64.wrap (Int.tmod n15 (128 : Int))) (IntKind.u64.wrap (IntKind.i64.wrap ((7 : Int) * i_13))))) (IntKind.i64.wrap (i_13 + (1 : Int))) w))) (G.nz (128 : Int) <| G.nn (IntKind.u64.wrap (IntKind.i64.wrap ((7 : Int) * i_13))) <| G.cond (decide (n15 < (128 : Int))) (G.cond (n15 == (0 : Int)) (G.cond (decide (i_13 > (0 : Int))) (K (0 : Int) (0 : Int) (3 : Int) w) (K (Go.bits .or .u64 n_12 (shl .u64 (IntKind.u64.wrap (Int.tmod n15 (128 : Int))) (IntKind.u64.wrap (IntKind.i64.wrap ((7 : Int) * i_13))))) (IntKind.i64.wrap ((IntKind.i64.wrap (at_11 + i_13)) + (1 : Int))) (0 : Int) w)) (K (Go.bits .or .u64 n_12 (shl .u64 (IntKind.u64.wrap (Int.tmod n15 (128 : Int))) (IntKind.u64.wrap (IntKind.i64.wrap ((7 : Int) * i_13))))) (IntKind.i64.wrap ((IntKind.i64.wrap (at_11 + i_13)) + (1 : Int))) (0 : Int) w)) (kc5 b_10 at_11 (Go.bits .or .u64 n_12 (shl .u64 (IntKind.u64.wrap (Int.tmod n15 (128 : Int))) (IntKind.u64.wrap (IntKind.i64.wrap ((7 : Int) * i_13))))) (IntKind.i64.wrap (i_13 + (1 : Int))) w)))) (S2 K w)
theorem S7_ok (Kv : Value → World → Prop) (kc5 : Cur g5) : OkT pr 62 g5 (S7 (Kt Kv) kc5) (lp (blk (tl 1 (s1 (tl 3 bd))))) (P6 Kv kc5) := ok_last mixed FOk_ fun v ρ w => by kernel_rfl
def L5 (K : KT) : Cur g5 := loopC g5 (S7 K)
theorem L5_ok (Kv : Value → World → Prop) : OkT pr 62 g5 (L5 (Kt Kv)) (blk (tl 1 (s1 (tl 3 bd)))) (P4 Kv) := ok_loop (B := S7 (Kt Kv)) (by kernel_rfl) fun kc => S7_ok Kv kc
theorem L5_ind {K : KT} {b_6 : Sl} {at_7 : Int} {n_8 : Int} {i_9 : Int} {w : World} (h : ∀ X : Cur g5, (∀ b_6 at_7 n_8 i_9 w, S7 K X b_6 at_7 n_8 i_9 w → X b_6 at_7 n_8 i_9 w) → X b_6 at_7 n_8 i_9 w) : L5 K b_6 at_7 n_8 i_9 w := fun X hX => h X fun b_6 at_7 n_8 i_9 w hb => hX (b_6, at_7, n_8, i_9, ()) w hb
theorem B8 (Kv : Value → World → Prop) : OkT pr 62 g5 (L5 (Kt Kv)) (tl 1 (s1 (tl 3 bd))) (P3 Kv) := ok_block 0 (by kernel_rfl) (L5_ok Kv)
@[reducible] def g9 : List SE := [.v 0 .sl, .v 1 (.int .i64), .v 7 (.int .u64)]
def S9 (K : KT) (b_16 : Sl) (at_17 : Int) (n_18 : Int) (w : World) : Prop :=
  L5 K b_16 at_17 n_18 (0 : Int) w
theorem S9_ok (Kv : Value → World → Prop) : OkT pr 62 g9 (S9 (Kt Kv)) (s1 (tl 3 bd)) (P3 Kv) := ok_group mixed FOk_ 1 (B8 Kv) fun v ρ w => by kernel_rfl
theorem Q10 (Kv : Value → World → Prop) : OkT pr 62 g9 (S9 (Kt Kv)) (tl 3 bd) (P1 Kv) := ok_seq (by kernel_rfl) (S2_ok Kv) (S9_ok Kv)
end tocsinref01_U
def tocsinref01_U (b_4 : Sl) (at_5 : Int) (w : World) (K : tocsinref01_U.KT) : Prop :=
  G.cond (decide (at_5 < (0 : Int))) (K (0 : Int) (0 : Int) (1 : Int) w) (G.cond (decide (at_5 > ((b_4.n : Nat) : Int))) (K (0 : Int) (0 : Int) (1 : Int) w) (tocsinref01_U.S9 K b_4 at_5 (0 : Int) w))
def tocsinref01_U.cl : CL := fun args K w => match args with
  | [.slice x0_a x0_n x0_c, .int .i64 x1] => C.tocsinref01_U ⟨x0_a, x0_n, x0_c⟩ x1 w (tocsinref01_U.Kt K)
  | _ => False
theorem tocsinref01_U.clok : OkC pr 22 tocsinref01_U.cl := by
  intro args K w h
  unfold tocsinref01_U.cl at h
  split at h
  · exact calls_group mixed tocsinref01_U.FOk_ tocsinref01_U.fn rfl 3 (tocsinref01_U.Q10 K) (Eq.mp (by kernel_rfl) h)
  · exact h.elim

/-! tocsin/vint.I -/
namespace vint_I
abbrev KT := Int → Int → Int → World → Prop
def Kt (Kv : Value → World → Prop) : KT := fun n1 n2 n3 w => Kv (.tuple #[(.int .i64 n1), (.int .i64 n2), (.int .i64 n3)]) w
noncomputable def bd : Code := bdy Tryd.f23
theorem fn : FnOk pr 23 27 Tryd.f23 := ⟨Tryd.func23, by kernel_rfl, Tryd.ntmps23, by kernel_rfl, by kernel_rfl⟩
def F : Clee := ofL [(21, C.vint_U.cl)]
theorem FOk_ : FOk pr F := FOk_cons C.vint_U.clok (FOk_nil)
def P1 (Kv : Value → World → Prop) : Post := bodyK pr 27 Tryd.f23 Kv
end vint_I
def vint_I (b_4 : Sl) (at_5 : Int) (w : World) (K : vint_I.KT) : Prop :=
  C.vint_U b_4 at_5 w fun n6 n7 n8 w9 => G.nn (1 : Int) <| K (Go.bits .xor .i64 (IntKind.i64.wrap (shr .u64 n6 (1 : Int))) (IntKind.i64.wrap (0 - (IntKind.i64.wrap (Go.bits .and .u64 n6 (1 : Int)))))) n7 n8 w9
def vint_I.cl : CL := fun args K w => match args with
  | [.slice x0_a x0_n x0_c, .int .i64 x1] => C.vint_I ⟨x0_a, x0_n, x0_c⟩ x1 w (vint_I.Kt K)
  | _ => False
theorem vint_I.clok : OkC pr 23 vint_I.cl := by
  intro args K w h
  unfold vint_I.cl at h
  split at h
  · exact calls_last mixed vint_I.FOk_ vint_I.fn rfl (Eq.mp (by kernel_rfl) h)
  · exact h.elim

/-! tocsin/tocsinref01.back -/
namespace tocsinref01_back
abbrev KT := Int → World → Prop
def Kt (Kv : Value → World → Prop) : KT := fun n1 w => Kv (.int .i64 n1) w
noncomputable def bd : Code := bdy Tryd.f42
theorem fn : FnOk pr 42 14 Tryd.f42 := ⟨Tryd.func42, by kernel_rfl, Tryd.ntmps42, by kernel_rfl, by kernel_rfl⟩
def F : Clee := ofL []
theorem FOk_ : FOk pr F := FOk_nil
def P1 (Kv : Value → World → Prop) : Post := bodyK pr 14 Tryd.f42 Kv
end tocsinref01_back
def tocsinref01_back (u_2 : Int) (w : World) (K : tocsinref01_back.KT) : Prop :=
  G.nz (2 : Int) <| G.cond ((Int.tmod u_2 (2 : Int)) == (0 : Int)) (G.nz (2 : Int) <| K (IntKind.i64.wrap (IntKind.u64.wrap (Int.tdiv u_2 (2 : Int)))) w) (G.nz (2 : Int) <| K (IntKind.i64.wrap ((IntKind.i64.wrap (0 - (IntKind.i64.wrap (IntKind.u64.wrap (Int.tdiv u_2 (2 : Int)))))) - (1 : Int))) w)
def tocsinref01_back.cl : CL := fun args K w => match args with
  | [.int .u64 x0] => C.tocsinref01_back x0 w (tocsinref01_back.Kt K)
  | _ => False
theorem tocsinref01_back.clok : OkC pr 42 tocsinref01_back.cl := by
  intro args K w h
  unfold tocsinref01_back.cl at h
  split at h
  · exact calls_last mixed tocsinref01_back.FOk_ tocsinref01_back.fn rfl (Eq.mp (by kernel_rfl) h)
  · exact h.elim

/-! tocsin/tocsinref01.I -/
namespace tocsinref01_I
abbrev KT := Int → Int → Int → World → Prop
def Kt (Kv : Value → World → Prop) : KT := fun n1 n2 n3 w => Kv (.tuple #[(.int .i64 n1), (.int .i64 n2), (.int .i64 n3)]) w
noncomputable def bd : Code := bdy Tryd.f24
theorem fn : FnOk pr 24 23 Tryd.f24 := ⟨Tryd.func24, by kernel_rfl, Tryd.ntmps24, by kernel_rfl, by kernel_rfl⟩
def F : Clee := ofL [(22, C.tocsinref01_U.cl), (42, C.tocsinref01_back.cl)]
theorem FOk_ : FOk pr F := FOk_cons C.tocsinref01_U.clok (FOk_cons C.tocsinref01_back.clok (FOk_nil))
def P1 (Kv : Value → World → Prop) : Post := bodyK pr 23 Tryd.f24 Kv
end tocsinref01_I
def tocsinref01_I (b_4 : Sl) (at_5 : Int) (w : World) (K : tocsinref01_I.KT) : Prop :=
  C.tocsinref01_U b_4 at_5 w fun n6 n7 n8 w9 => G.cond (n8 != (0 : Int)) (K (0 : Int) (0 : Int) n8 w9) (C.tocsinref01_back n6 w9 fun n10 w11 => K n10 n7 (0 : Int) w11)
def tocsinref01_I.cl : CL := fun args K w => match args with
  | [.slice x0_a x0_n x0_c, .int .i64 x1] => C.tocsinref01_I ⟨x0_a, x0_n, x0_c⟩ x1 w (tocsinref01_I.Kt K)
  | _ => False
theorem tocsinref01_I.clok : OkC pr 24 tocsinref01_I.cl := by
  intro args K w h
  unfold tocsinref01_I.cl at h
  split at h
  · exact calls_last mixed tocsinref01_I.FOk_ tocsinref01_I.fn rfl (Eq.mp (by kernel_rfl) h)
  · exact h.elim

/-! tocsin/tocsinref01.Kept -/
namespace tocsinref01_Kept
abbrev KT := Bool → World → Prop
def Kt (Kv : Value → World → Prop) : KT := fun b1 w => Kv (.bool b1) w
noncomputable def bd : Code := bdy Tryd.f25
theorem fn : FnOk pr 25 20 Tryd.f25 := ⟨Tryd.func25, by kernel_rfl, Tryd.ntmps25, by kernel_rfl, by kernel_rfl⟩
def F : Clee := ofL [(17, C.tocsinref01_Same.cl)]
theorem FOk_ : FOk pr F := FOk_cons C.tocsinref01_Same.clok (FOk_nil)
def P1 (Kv : Value → World → Prop) : Post := bodyK pr 20 Tryd.f25 Kv
end tocsinref01_Kept
def tocsinref01_Kept (c_2 : Sl) (b_3 : Sl) (w : World) (K : tocsinref01_Kept.KT) : Prop :=
  C.tocsinref01_Same c_2 b_3 w fun b4 w5 => G.cond b4 (G.slc c_2 0 (IntKind.i64.wrap (((b_3.n : Nat) : Int) + (1 : Int))) 1 fun l6 => G.ix l6.a l6.n ((b_3.n : Nat) : Int) 1 fun p7 => G.cI .u8 p7 w5 fun n8 => K (n8 == (77 : Int)) w5) (K false w5)
def tocsinref01_Kept.cl : CL := fun args K w => match args with
  | [.slice x0_a x0_n x0_c, .slice x1_a x1_n x1_c] => C.tocsinref01_Kept ⟨x0_a, x0_n, x0_c⟩ ⟨x1_a, x1_n, x1_c⟩ w (tocsinref01_Kept.Kt K)
  | _ => False
theorem tocsinref01_Kept.clok : OkC pr 25 tocsinref01_Kept.cl := by
  intro args K w h
  unfold tocsinref01_Kept.cl at h
  split at h
  · exact calls_last mixed tocsinref01_Kept.FOk_ tocsinref01_Kept.fn rfl (Eq.mp (by kernel_rfl) h)
  · exact h.elim

/-! tocsin/tocsinlaw01.VintNumbers -/
namespace tocsinlaw01_VintNumbers
abbrev KT := Bool → World → Prop
def Kt (Kv : Value → World → Prop) : KT := fun b1 w => Kv (.bool b1) w
noncomputable def bd : Code := bdy Tryd.f4
theorem fn : FnOk pr 4 114 Tryd.f4 := ⟨Tryd.func4, by kernel_rfl, Tryd.ntmps4, by kernel_rfl, by kernel_rfl⟩
def F : Clee := ofL [(13, C.tocsinlaw01_known.cl), (14, C.tocsinref01_Lent.cl), (15, C.vint_PutU.cl), (16, C.vint_PutI.cl), (17, C.tocsinref01_Same.cl), (18, C.tocsinref01_PutU.cl), (19, C.tocsinref01_PutI.cl), (20, C.tocsinref01_Spoil.cl), (21, C.vint_U.cl), (22, C.tocsinref01_U.cl), (23, C.vint_I.cl), (24, C.tocsinref01_I.cl), (25, C.tocsinref01_Kept.cl)]
theorem FOk_ : FOk pr F := FOk_cons C.tocsinlaw01_known.clok (FOk_cons C.tocsinref01_Lent.clok (FOk_cons C.vint_PutU.clok (FOk_cons C.vint_PutI.clok (FOk_cons C.tocsinref01_Same.clok (FOk_cons C.tocsinref01_PutU.clok (FOk_cons C.tocsinref01_PutI.clok (FOk_cons C.tocsinref01_Spoil.clok (FOk_cons C.vint_U.clok (FOk_cons C.tocsinref01_U.clok (FOk_cons C.vint_I.clok (FOk_cons C.tocsinref01_I.clok (FOk_cons C.tocsinref01_Kept.clok (FOk_nil)))))))))))))
def P1 (Kv : Value → World → Prop) : Post := bodyK pr 114 Tryd.f4 Kv
end tocsinlaw01_VintNumbers
def tocsinlaw01_VintNumbers (b_2 : Sl) (n_3 : Int) (m_4 : Int) (at_5 : Int) (w : World) (K : tocsinlaw01_VintNumbers.KT) : Prop :=
  C.tocsinref01_Lent b_2 w fun l6 w7 => C.vint_PutU l6 n_3 w7 fun l8 w9 => C.vint_PutI l6 m_4 w9 fun l10 w11 => C.tocsinref01_PutU b_2 n_3 w11 fun l12 w13 => C.tocsinref01_Same l8 l12 w13 fun b14 w15 => G.cond (!b14) (K false w15) (C.tocsinref01_PutI b_2 m_4 w15 fun l16 w17 => C.tocsinref01_Same l10 l16 w17 fun b18 w19 => G.cond (!b18) (K false w19) (C.tocsinref01_Spoil l8 w19 fun w20 => C.tocsinref01_Spoil l10 w20 fun w21 => C.vint_U l6 at_5 w21 fun n22 n23 n24 w25 => C.tocsinref01_U b_2 at_5 w25 fun n26 n27 n28 w29 => C.vint_I l6 at_5 w29 fun n30 n31 n32 w33 => C.tocsinref01_I b_2 at_5 w33 fun n34 n35 n36 w37 => G.cond (n22 == n26) (G.cond (n23 == n27) (G.cond (n24 == n28) (G.cond (n30 == n34) (G.cond (n31 == n35) (G.cond (n32 == n36) (C.tocsinref01_Kept l6 b_2 w37 fun b38 w39 => G.cond b38 (C.tocsinlaw01_known w39 fun b40 w41 => K b40 w41) (K false w39)) (K false w37)) (K false w37)) (K false w37)) (K false w37)) (K false w37)) (K false w37)))
def tocsinlaw01_VintNumbers.cl : CL := fun args K w => match args with
  | [.slice x0_a x0_n x0_c, .int .u64 x1, .int .i64 x2, .int .i64 x3] => C.tocsinlaw01_VintNumbers ⟨x0_a, x0_n, x0_c⟩ x1 x2 x3 w (tocsinlaw01_VintNumbers.Kt K)
  | _ => False
theorem tocsinlaw01_VintNumbers.clok : OkC pr 4 tocsinlaw01_VintNumbers.cl := by
  intro args K w h
  unfold tocsinlaw01_VintNumbers.cl at h
  split at h
  · exact calls_last mixed tocsinlaw01_VintNumbers.FOk_ tocsinlaw01_VintNumbers.fn rfl (Eq.mp (by kernel_rfl) h)
  · exact h.elim

/-! tocsin/tocsinref01.PutFrame -/
namespace tocsinref01_PutFrame
abbrev KT := Sl → Int → World → Prop
def Kt (Kv : Value → World → Prop) : KT := fun l1 n2 w => Kv (.tuple #[l1.v, (.int .i64 n2)]) w
noncomputable def bd : Code := bdy Tryd.f27
theorem fn : FnOk pr 27 35 Tryd.f27 := ⟨Tryd.func27, by kernel_rfl, Tryd.ntmps27, by kernel_rfl, by kernel_rfl⟩
def F : Clee := ofL [(10, C.tocsinref01_Sum.cl), (18, C.tocsinref01_PutU.cl), (40, C.tocsinref01_joined.cl)]
theorem FOk_ : FOk pr F := FOk_cons C.tocsinref01_Sum.clok (FOk_cons C.tocsinref01_PutU.clok (FOk_cons C.tocsinref01_joined.clok (FOk_nil)))
def P1 (Kv : Value → World → Prop) : Post := bodyK pr 35 Tryd.f27 Kv
end tocsinref01_PutFrame
def tocsinref01_PutFrame (b_3 : Sl) (p_4 : Sl) (w : World) (K : tocsinref01_PutFrame.KT) : Prop :=
  G.cond (decide (((p_4.n : Nat) : Int) > (65536 : Int))) (K nilS (4 : Int) w) (C.tocsinref01_Sum p_4 w fun n5 w6 => C.tocsinref01_PutU b_3 (IntKind.u64.wrap ((p_4.n : Nat) : Int)) w6 fun l7 w8 => G.nn (8 : Int) <| G.nn (16 : Int) <| G.nn (24 : Int) <| G.new (.cells #[(.int .u8 (IntKind.u8.wrap n5)), (.int .u8 (IntKind.u8.wrap (shr .u32 n5 (8 : Int)))), (.int .u8 (IntKind.u8.wrap (shr .u32 n5 (16 : Int)))), (.int .u8 (IntKind.u8.wrap (shr .u32 n5 (24 : Int))))] 5) w8 fun p9 w10 => G.runSl pr (Builtin.append_ #[22, 22] 22 #[l7.v, (Sl.v (⟨some p9, 4, 4⟩ : Sl))]) w10 fun l11 w12 => C.tocsinref01_joined l11 p_4 w12 fun l13 w14 => K l13 (0 : Int) w14)
def tocsinref01_PutFrame.cl : CL := fun args K w => match args with
  | [.slice x0_a x0_n x0_c, .slice x1_a x1_n x1_c] => C.tocsinref01_PutFrame ⟨x0_a, x0_n, x0_c⟩ ⟨x1_a, x1_n, x1_c⟩ w (tocsinref01_PutFrame.Kt K)
  | _ => False
theorem tocsinref01_PutFrame.clok : OkC pr 27 tocsinref01_PutFrame.cl := by
  intro args K w h
  unfold tocsinref01_PutFrame.cl at h
  split at h
  · exact calls_last mixed tocsinref01_PutFrame.FOk_ tocsinref01_PutFrame.fn rfl (Eq.mp (by kernel_rfl) h)
  · exact h.elim

/-! tocsin/vint.Frame -/
namespace vint_Frame
abbrev KT := Sl → Int → Int → World → Prop
def Kt (Kv : Value → World → Prop) : KT := fun l1 n2 n3 w => Kv (.tuple #[l1.v, (.int .i64 n2), (.int .i64 n3)]) w
noncomputable def bd : Code := bdy Tryd.f28
theorem fn : FnOk pr 28 91 Tryd.f28 := ⟨Tryd.func28, by kernel_rfl, Tryd.ntmps28, by kernel_rfl, by kernel_rfl⟩
def F : Clee := ofL [(9, C.vint_Sum.cl), (21, C.vint_U.cl), (39, C.vint_joined.cl)]
theorem FOk_ : FOk pr F := FOk_cons C.vint_Sum.clok (FOk_cons C.vint_U.clok (FOk_cons C.vint_joined.clok (FOk_nil)))
def P1 (Kv : Value → World → Prop) : Post := bodyK pr 91 Tryd.f28 Kv
end vint_Frame
def vint_Frame (b_4 : Sl) (at_5 : Int) (w : World) (K : vint_Frame.KT) : Prop :=
  C.vint_U b_4 at_5 w fun n8 n9 n10 w11 => G.cond (n10 != (0 : Int)) (K nilS (0 : Int) n10 w11) (G.cond (decide (n8 > (65536 : Int))) (K nilS (0 : Int) (4 : Int) w11) (G.cond (decide ((IntKind.i64.wrap (((b_4.n : Nat) : Int) - n9)) < (IntKind.i64.wrap ((4 : Int) + (IntKind.i64.wrap n8))))) (K nilS (0 : Int) (9 : Int) w11) (G.ix b_4.a b_4.n (IntKind.i64.wrap (n9 + (3 : Int))) 1 fun p12 => G.cI .u8 p12 w11 fun n13 => G.nn (24 : Int) <| G.ix b_4.a b_4.n n9 1 fun p14 => G.cI .u8 p14 w11 fun n15 => G.ix b_4.a b_4.n (IntKind.i64.wrap (n9 + (1 : Int))) 1 fun p16 => G.cI .u8 p16 w11 fun n17 => G.nn (8 : Int) <| G.ix b_4.a b_4.n (IntKind.i64.wrap (n9 + (2 : Int))) 1 fun p18 => G.cI .u8 p18 w11 fun n19 => G.nn (16 : Int) <| G.drawn w11 fun w20 => G.slc b_4 (IntKind.i64.wrap (n9 + (4 : Int))) (IntKind.i64.wrap ((IntKind.i64.wrap (n9 + (4 : Int))) + (IntKind.i64.wrap n8))) 1 fun l21 => C.vint_joined nilS l21 w20 fun l22 w23 => C.vint_Sum l22 w23 fun n24 w25 => G.cond (n24 != (Go.bits .or .u32 (Go.bits .or .u32 (0 : Int) (shl .u32 (IntKind.u32.wrap n13) (24 : Int))) (Go.bits .or .u32 (Go.bits .or .u32 (IntKind.u32.wrap n15) (shl .u32 (IntKind.u32.wrap n17) (8 : Int))) (shl .u32 (IntKind.u32.wrap n19) (16 : Int))))) (K nilS (0 : Int) (11 : Int) w25) (K l22 (IntKind.i64.wrap ((IntKind.i64.wrap (n9 + (4 : Int))) + (IntKind.i64.wrap n8))) (0 : Int) w25))))
def vint_Frame.cl : CL := fun args K w => match args with
  | [.slice x0_a x0_n x0_c, .int .i64 x1] => C.vint_Frame ⟨x0_a, x0_n, x0_c⟩ x1 w (vint_Frame.Kt K)
  | _ => False
theorem vint_Frame.clok : OkC pr 28 vint_Frame.cl := by
  intro args K w h
  unfold vint_Frame.cl at h
  split at h
  · exact calls_last mixed vint_Frame.FOk_ vint_Frame.fn rfl (Eq.mp (by kernel_rfl) h)
  · exact h.elim

/-! tocsin/tocsinref01.Frame -/
namespace tocsinref01_Frame
abbrev KT := Sl → Int → Int → World → Prop
def Kt (Kv : Value → World → Prop) : KT := fun l1 n2 n3 w => Kv (.tuple #[l1.v, (.int .i64 n2), (.int .i64 n3)]) w
noncomputable def bd : Code := bdy Tryd.f29
theorem fn : FnOk pr 29 81 Tryd.f29 := ⟨Tryd.func29, by kernel_rfl, Tryd.ntmps29, by kernel_rfl, by kernel_rfl⟩
def F : Clee := ofL [(10, C.tocsinref01_Sum.cl), (22, C.tocsinref01_U.cl), (40, C.tocsinref01_joined.cl)]
theorem FOk_ : FOk pr F := FOk_cons C.tocsinref01_Sum.clok (FOk_cons C.tocsinref01_U.clok (FOk_cons C.tocsinref01_joined.clok (FOk_nil)))
def P1 (Kv : Value → World → Prop) : Post := bodyK pr 81 Tryd.f29 Kv
end tocsinref01_Frame
def tocsinref01_Frame (b_4 : Sl) (at_5 : Int) (w : World) (K : tocsinref01_Frame.KT) : Prop :=
  C.tocsinref01_U b_4 at_5 w fun n6 n7 n8 w9 => G.cond (n8 != (0 : Int)) (K nilS (0 : Int) n8 w9) (G.cond (decide (n6 > (65536 : Int))) (K nilS (0 : Int) (4 : Int) w9) (G.cond (decide ((IntKind.u64.wrap (n6 + (4 : Int))) > (IntKind.u64.wrap (IntKind.i64.wrap (((b_4.n : Nat) : Int) - n7))))) (K nilS (0 : Int) (9 : Int) w9) (G.ix b_4.a b_4.n n7 1 fun p10 => G.cI .u8 p10 w9 fun n11 => G.ix b_4.a b_4.n (IntKind.i64.wrap (n7 + (1 : Int))) 1 fun p12 => G.cI .u8 p12 w9 fun n13 => G.nn (8 : Int) <| G.ix b_4.a b_4.n (IntKind.i64.wrap (n7 + (2 : Int))) 1 fun p14 => G.cI .u8 p14 w9 fun n15 => G.nn (16 : Int) <| G.ix b_4.a b_4.n (IntKind.i64.wrap (n7 + (3 : Int))) 1 fun p16 => G.cI .u8 p16 w9 fun n17 => G.nn (24 : Int) <| G.drawn w9 fun w18 => G.slc b_4 (IntKind.i64.wrap (n7 + (4 : Int))) (IntKind.i64.wrap ((IntKind.i64.wrap (n7 + (4 : Int))) + (IntKind.i64.wrap n6))) 1 fun l19 => C.tocsinref01_joined nilS l19 w18 fun l20 w21 => C.tocsinref01_Sum l20 w21 fun n22 w23 => G.cond (n22 != (Go.bits .or .u32 (Go.bits .or .u32 (Go.bits .or .u32 (IntKind.u32.wrap n11) (shl .u32 (IntKind.u32.wrap n13) (8 : Int))) (shl .u32 (IntKind.u32.wrap n15) (16 : Int))) (shl .u32 (IntKind.u32.wrap n17) (24 : Int)))) (K nilS (0 : Int) (11 : Int) w23) (K l20 (IntKind.i64.wrap ((IntKind.i64.wrap (n7 + (4 : Int))) + (IntKind.i64.wrap n6))) (0 : Int) w23))))
def tocsinref01_Frame.cl : CL := fun args K w => match args with
  | [.slice x0_a x0_n x0_c, .int .i64 x1] => C.tocsinref01_Frame ⟨x0_a, x0_n, x0_c⟩ x1 w (tocsinref01_Frame.Kt K)
  | _ => False
theorem tocsinref01_Frame.clok : OkC pr 29 tocsinref01_Frame.cl := by
  intro args K w h
  unfold tocsinref01_Frame.cl at h
  split at h
  · exact calls_last mixed tocsinref01_Frame.FOk_ tocsinref01_Frame.fn rfl (Eq.mp (by kernel_rfl) h)
  · exact h.elim

/-! tocsin/vint.Frames -/
namespace vint_Frames
abbrev KT := Sl → Int → Int → World → Prop
def Kt (Kv : Value → World → Prop) : KT := fun l1 n2 n3 w => Kv (.tuple #[l1.v, (.int .i64 n2), (.int .i64 n3)]) w
noncomputable def bd : Code := bdy Tryd.f30
theorem fn : FnOk pr 30 33 Tryd.f30 := ⟨Tryd.func30, by kernel_rfl, Tryd.ntmps30, by kernel_rfl, by kernel_rfl⟩
def F : Clee := ofL [(28, C.vint_Frame.cl)]
theorem FOk_ : FOk pr F := FOk_cons C.vint_Frame.clok (FOk_nil)
def P1 (Kv : Value → World → Prop) : Post := bodyK pr 33 Tryd.f30 Kv
def P2 (Kv : Value → World → Prop) : Post := noG (P1 Kv)
@[reducible] def g3 : List SE := [.v 5 .sl, .v 6 (.int .i64), .v 7 (.int .i64)]
def S3 (K : KT) (l_5 : Sl) (at_6 : Int) (e_7 : Int) (w : World) : Prop :=
  K l_5 at_6 e_7 w
theorem S3_ok (Kv : Value → World → Prop) : OkT pr 33 g3 (S3 (Kt Kv)) (s2 (tl 3 (scp (tl 1 bd)))) (P2 Kv) := ok_last mixed FOk_ fun v ρ w => by kernel_rfl
def P4 (Kv : Value → World → Prop) : Post := next (get g3 (S3 (Kt Kv))) (P2 Kv)
def P5 (Kv : Value → World → Prop) : Post := inBlock 0 (P4 Kv)
@[reducible] def g6 : List SE := [.v 0 .sl, .v 5 .sl, .v 6 (.int .i64), .v 7 (.int .i64)]
def P7 (Kv : Value → World → Prop) (kc6 : Cur g6) : Post := next (get g6 kc6) (P5 Kv)
def S8 (K : KT) (kc6 : Cur g6) (b_12 : Sl) (l_13 : Sl) (at_14 : Int) (e_15 : Int) (w : World) : Prop :=
  G.cond (decide (at_14 < ((b_12.n : Nat) : Int))) (C.vint_Frame b_12 at_14 w fun l16 n17 n18 w19 => G.cond (n18 != (0 : Int)) (S3 K l_13 at_14 n18 w19) (G.new (.cells #[l16.v] 22) w19 fun p20 w21 => G.runSl pr (Builtin.append_ #[44, 44] 44 #[l_13.v, (Sl.v (⟨some p20, 1, 1⟩ : Sl))]) w21 fun l22 w23 => kc6 b_12 l22 n17 e_15 w23)) (S3 K l_13 at_14 e_15 w)
theorem S8_ok (Kv : Value → World → Prop) (kc6 : Cur g6) : OkT pr 33 g6 (S8 (Kt Kv) kc6) (lp (blk (s1 (tl 3 (scp (tl 1 bd)))))) (P7 Kv kc6) := ok_last mixed FOk_ fun v ρ w => by kernel_rfl
def L6 (K : KT) : Cur g6 := loopC g6 (S8 K)
theorem L6_ok (Kv : Value → World → Prop) : OkT pr 33 g6 (L6 (Kt Kv)) (blk (s1 (tl 3 (scp (tl 1 bd))))) (P5 Kv) := ok_loop (B := S8 (Kt Kv)) (by kernel_rfl) fun kc => S8_ok Kv kc
theorem L6_ind {K : KT} {b_8 : Sl} {l_9 : Sl} {at_10 : Int} {e_11 : Int} {w : World} (h : ∀ X : Cur g6, (∀ b_8 l_9 at_10 e_11 w, S8 K X b_8 l_9 at_10 e_11 w → X b_8 l_9 at_10 e_11 w) → X b_8 l_9 at_10 e_11 w) : L6 K b_8 l_9 at_10 e_11 w := fun X hX => h X fun b_8 l_9 at_10 e_11 w hb => hX (b_8, l_9, at_10, e_11, ()) w hb
theorem B9 (Kv : Value → World → Prop) : OkT pr 33 g6 (L6 (Kt Kv)) (s1 (tl 3 (scp (tl 1 bd)))) (P4 Kv) := ok_block 0 (by kernel_rfl) (L6_ok Kv)
theorem Q10 (Kv : Value → World → Prop) : OkT pr 33 g6 (L6 (Kt Kv)) (tl 3 (scp (tl 1 bd))) (P2 Kv) := ok_seq (by kernel_rfl) (S3_ok Kv) (B9 Kv)
@[reducible] def g11 : List SE := [.v 0 .sl]
def S11 (K : KT) (b_24 : Sl) (w : World) : Prop :=
  L6 K b_24 nilS (0 : Int) (0 : Int) w
theorem S11_ok (Kv : Value → World → Prop) : OkT pr 33 g11 (S11 (Kt Kv)) (scp (tl 1 bd)) (P2 Kv) := ok_group mixed FOk_ 3 (Q10 Kv) fun v ρ w => by kernel_rfl
theorem B12 (Kv : Value → World → Prop) : OkT pr 33 g11 (S11 (Kt Kv)) (tl 1 bd) (P1 Kv) := ok_scope (by kernel_rfl) (S11_ok Kv)
end vint_Frames
def vint_Frames (b_4 : Sl) (w : World) (K : vint_Frames.KT) : Prop :=
  vint_Frames.S11 K b_4 w
def vint_Frames.cl : CL := fun args K w => match args with
  | [.slice x0_a x0_n x0_c] => C.vint_Frames ⟨x0_a, x0_n, x0_c⟩ w (vint_Frames.Kt K)
  | _ => False
theorem vint_Frames.clok : OkC pr 30 vint_Frames.cl := by
  intro args K w h
  unfold vint_Frames.cl at h
  split at h
  · exact calls_group mixed vint_Frames.FOk_ vint_Frames.fn rfl 1 (vint_Frames.B12 K) (Eq.mp (by kernel_rfl) h)
  · exact h.elim

/-! tocsin/tocsinref01.Frames -/
namespace tocsinref01_Frames
abbrev KT := Sl → Int → Int → World → Prop
def Kt (Kv : Value → World → Prop) : KT := fun l1 n2 n3 w => Kv (.tuple #[l1.v, (.int .i64 n2), (.int .i64 n3)]) w
noncomputable def bd : Code := bdy Tryd.f31
theorem fn : FnOk pr 31 33 Tryd.f31 := ⟨Tryd.func31, by kernel_rfl, Tryd.ntmps31, by kernel_rfl, by kernel_rfl⟩
def F : Clee := ofL [(29, C.tocsinref01_Frame.cl)]
theorem FOk_ : FOk pr F := FOk_cons C.tocsinref01_Frame.clok (FOk_nil)
def P1 (Kv : Value → World → Prop) : Post := bodyK pr 33 Tryd.f31 Kv
@[reducible] def g2 : List SE := [.v 5 .sl, .v 6 (.int .i64)]
def S2 (K : KT) (l_5 : Sl) (at_6 : Int) (w : World) : Prop :=
  K l_5 at_6 (0 : Int) w
theorem S2_ok (Kv : Value → World → Prop) : OkT pr 33 g2 (S2 (Kt Kv)) (s2 (tl 3 bd)) (P1 Kv) := ok_last mixed FOk_ fun v ρ w => by kernel_rfl
def P3 (Kv : Value → World → Prop) : Post := next (get g2 (S2 (Kt Kv))) (P1 Kv)
def P4 (Kv : Value → World → Prop) : Post := inBlock 0 (P3 Kv)
@[reducible] def g5 : List SE := [.v 0 .sl, .v 5 .sl, .v 6 (.int .i64)]
def P6 (Kv : Value → World → Prop) (kc5 : Cur g5) : Post := next (get g5 kc5) (P4 Kv)
def S7 (K : KT) (kc5 : Cur g5) (b_10 : Sl) (l_11 : Sl) (at_12 : Int) (w : World) : Prop :=
  G.cond (decide (at_12 < ((b_10.n : Nat) : Int))) (C.tocsinref01_Frame b_10 at_12 w fun l13 n14 n15 w16 => G.cond (n15 != (0 : Int)) (K l_11 at_12 n15 w16) (G.new (.cells #[l13.v] 22) w16 fun p17 w18 => G.runSl pr (Builtin.append_ #[44, 44] 44 #[l_11.v, (Sl.v (⟨some p17, 1, 1⟩ : Sl))]) w18 fun l19 w20 => kc5 b_10 l19 n14 w20)) (S2 K l_11 at_12 w)
theorem S7_ok (Kv : Value → World → Prop) (kc5 : Cur g5) : OkT pr 33 g5 (S7 (Kt Kv) kc5) (lp (blk (s1 (tl 3 bd)))) (P6 Kv kc5) := ok_last mixed FOk_ fun v ρ w => by kernel_rfl
def L5 (K : KT) : Cur g5 := loopC g5 (S7 K)
theorem L5_ok (Kv : Value → World → Prop) : OkT pr 33 g5 (L5 (Kt Kv)) (blk (s1 (tl 3 bd))) (P4 Kv) := ok_loop (B := S7 (Kt Kv)) (by kernel_rfl) fun kc => S7_ok Kv kc
theorem L5_ind {K : KT} {b_7 : Sl} {l_8 : Sl} {at_9 : Int} {w : World} (h : ∀ X : Cur g5, (∀ b_7 l_8 at_9 w, S7 K X b_7 l_8 at_9 w → X b_7 l_8 at_9 w) → X b_7 l_8 at_9 w) : L5 K b_7 l_8 at_9 w := fun X hX => h X fun b_7 l_8 at_9 w hb => hX (b_7, l_8, at_9, ()) w hb
theorem B8 (Kv : Value → World → Prop) : OkT pr 33 g5 (L5 (Kt Kv)) (s1 (tl 3 bd)) (P3 Kv) := ok_block 0 (by kernel_rfl) (L5_ok Kv)
theorem Q9 (Kv : Value → World → Prop) : OkT pr 33 g5 (L5 (Kt Kv)) (tl 3 bd) (P1 Kv) := ok_seq (by kernel_rfl) (S2_ok Kv) (B8 Kv)
end tocsinref01_Frames
def tocsinref01_Frames (b_4 : Sl) (w : World) (K : tocsinref01_Frames.KT) : Prop :=
  tocsinref01_Frames.L5 K b_4 nilS (0 : Int) w
def tocsinref01_Frames.cl : CL := fun args K w => match args with
  | [.slice x0_a x0_n x0_c] => C.tocsinref01_Frames ⟨x0_a, x0_n, x0_c⟩ w (tocsinref01_Frames.Kt K)
  | _ => False
theorem tocsinref01_Frames.clok : OkC pr 31 tocsinref01_Frames.cl := by
  intro args K w h
  unfold tocsinref01_Frames.cl at h
  split at h
  · exact calls_group mixed tocsinref01_Frames.FOk_ tocsinref01_Frames.fn rfl 3 (tocsinref01_Frames.Q9 K) (Eq.mp (by kernel_rfl) h)
  · exact h.elim

/-! tocsin/tocsinref01.SameAll -/
namespace tocsinref01_SameAll
abbrev KT := Bool → World → Prop
def Kt (Kv : Value → World → Prop) : KT := fun b1 w => Kv (.bool b1) w
noncomputable def bd : Code := bdy Tryd.f32
theorem fn : FnOk pr 32 27 Tryd.f32 := ⟨Tryd.func32, by kernel_rfl, Tryd.ntmps32, by kernel_rfl, by kernel_rfl⟩
def F : Clee := ofL [(17, C.tocsinref01_Same.cl)]
theorem FOk_ : FOk pr F := FOk_cons C.tocsinref01_Same.clok (FOk_nil)
def P1 (Kv : Value → World → Prop) : Post := bodyK pr 27 Tryd.f32 Kv
@[reducible] def g2 : List SE := []
def S2 (K : KT) (w : World) : Prop :=
  K true w
theorem S2_ok (Kv : Value → World → Prop) : OkT pr 27 g2 (S2 (Kt Kv)) (s2 (tl 2 bd)) (P1 Kv) := ok_last mixed FOk_ fun v ρ w => by kernel_rfl
def P3 (Kv : Value → World → Prop) : Post := next (get g2 (S2 (Kt Kv))) (P1 Kv)
def P4 (Kv : Value → World → Prop) : Post := inBlock 0 (P3 Kv)
@[reducible] def g5 : List SE := [.v 0 .sl, .v 1 .sl, .v 5 (.int .i64)]
def P6 (Kv : Value → World → Prop) (kc5 : Cur g5) : Post := next (get g5 kc5) (P4 Kv)
def S7 (K : KT) (kc5 : Cur g5) (a_7 : Sl) (b_8 : Sl) (i_9 : Int) (w : World) : Prop :=
  G.cond (decide (i_9 < ((a_7.n : Nat) : Int))) (G.ix a_7.a a_7.n i_9 1 fun p10 => G.cSl p10 w fun l11 => G.ix b_8.a b_8.n i_9 1 fun p12 => G.cSl p12 w fun l13 => ∃ b14 : Bool, G.still w (fun K15 w16 => C.tocsinref01_Same l11 l13 w16 fun b17 w16' => K15 (.bool b17) w16') (.bool b14) ∧ (G.drawn w fun w18 => G.cond (!b14) (K false w18) (kc5 a_7 b_8 (IntKind.i64.wrap (i_9 + (1 : Int))) w18))) (S2 K w)
theorem S7_ok (Kv : Value → World → Prop) (kc5 : Cur g5) : OkT pr 27 g5 (S7 (Kt Kv) kc5) (lp (blk (tl 1 (s1 (tl 2 bd))))) (P6 Kv kc5) := ok_last mixed FOk_ fun v ρ w => by kernel_rfl
def L5 (K : KT) : Cur g5 := loopC g5 (S7 K)
theorem L5_ok (Kv : Value → World → Prop) : OkT pr 27 g5 (L5 (Kt Kv)) (blk (tl 1 (s1 (tl 2 bd)))) (P4 Kv) := ok_loop (B := S7 (Kt Kv)) (by kernel_rfl) fun kc => S7_ok Kv kc
theorem L5_ind {K : KT} {a_4 : Sl} {b_5 : Sl} {i_6 : Int} {w : World} (h : ∀ X : Cur g5, (∀ a_4 b_5 i_6 w, S7 K X a_4 b_5 i_6 w → X a_4 b_5 i_6 w) → X a_4 b_5 i_6 w) : L5 K a_4 b_5 i_6 w := fun X hX => h X fun a_4 b_5 i_6 w hb => hX (a_4, b_5, i_6, ()) w hb
theorem B8 (Kv : Value → World → Prop) : OkT pr 27 g5 (L5 (Kt Kv)) (tl 1 (s1 (tl 2 bd))) (P3 Kv) := ok_block 0 (by kernel_rfl) (L5_ok Kv)
@[reducible] def g9 : List SE := [.v 0 .sl, .v 1 .sl]
def S9 (K : KT) (a_19 : Sl) (b_20 : Sl) (w : World) : Prop :=
  L5 K a_19 b_20 (0 : Int) w
theorem S9_ok (Kv : Value → World → Prop) : OkT pr 27 g9 (S9 (Kt Kv)) (s1 (tl 2 bd)) (P3 Kv) := ok_group mixed FOk_ 1 (B8 Kv) fun v ρ w => by kernel_rfl
theorem Q10 (Kv : Value → World → Prop) : OkT pr 27 g9 (S9 (Kt Kv)) (tl 2 bd) (P1 Kv) := ok_seq (by kernel_rfl) (S2_ok Kv) (S9_ok Kv)
end tocsinref01_SameAll
def tocsinref01_SameAll (a_2 : Sl) (b_3 : Sl) (w : World) (K : tocsinref01_SameAll.KT) : Prop :=
  G.cond (((a_2.n : Nat) : Int) != ((b_3.n : Nat) : Int)) (K false w) (tocsinref01_SameAll.S9 K a_2 b_3 w)
def tocsinref01_SameAll.cl : CL := fun args K w => match args with
  | [.slice x0_a x0_n x0_c, .slice x1_a x1_n x1_c] => C.tocsinref01_SameAll ⟨x0_a, x0_n, x0_c⟩ ⟨x1_a, x1_n, x1_c⟩ w (tocsinref01_SameAll.Kt K)
  | _ => False
theorem tocsinref01_SameAll.clok : OkC pr 32 tocsinref01_SameAll.cl := by
  intro args K w h
  unfold tocsinref01_SameAll.cl at h
  split at h
  · exact calls_group mixed tocsinref01_SameAll.FOk_ tocsinref01_SameAll.fn rfl 2 (tocsinref01_SameAll.Q10 K) (Eq.mp (by kernel_rfl) h)
  · exact h.elim

/-! tocsin/tocsinlaw01.VintFrames -/
namespace tocsinlaw01_VintFrames
abbrev KT := Bool → World → Prop
def Kt (Kv : Value → World → Prop) : KT := fun b1 w => Kv (.bool b1) w
noncomputable def bd : Code := bdy Tryd.f5
theorem fn : FnOk pr 5 132 Tryd.f5 := ⟨Tryd.func5, by kernel_rfl, Tryd.ntmps5, by kernel_rfl, by kernel_rfl⟩
def F : Clee := ofL [(13, C.tocsinlaw01_known.cl), (14, C.tocsinref01_Lent.cl), (17, C.tocsinref01_Same.cl), (20, C.tocsinref01_Spoil.cl), (25, C.tocsinref01_Kept.cl), (26, C.vint_PutFrame.cl), (27, C.tocsinref01_PutFrame.cl), (28, C.vint_Frame.cl), (29, C.tocsinref01_Frame.cl), (30, C.vint_Frames.cl), (31, C.tocsinref01_Frames.cl), (32, C.tocsinref01_SameAll.cl)]
theorem FOk_ : FOk pr F := FOk_cons C.tocsinlaw01_known.clok (FOk_cons C.tocsinref01_Lent.clok (FOk_cons C.tocsinref01_Same.clok (FOk_cons C.tocsinref01_Spoil.clok (FOk_cons C.tocsinref01_Kept.clok (FOk_cons C.vint_PutFrame.clok (FOk_cons C.tocsinref01_PutFrame.clok (FOk_cons C.vint_Frame.clok (FOk_cons C.tocsinref01_Frame.clok (FOk_cons C.vint_Frames.clok (FOk_cons C.tocsinref01_Frames.clok (FOk_cons C.tocsinref01_SameAll.clok (FOk_nil))))))))))))
def P1 (Kv : Value → World → Prop) : Post := bodyK pr 132 Tryd.f5 Kv
@[reducible] def g2 : List SE := [.v 0 .sl, .v 7 .sl]
def S2 (K : KT) (b_5 : Sl) (own_6 : Sl) (w : World) : Prop :=
  C.tocsinref01_Kept own_6 b_5 w fun b7 w8 => G.cond b7 (C.tocsinlaw01_known w8 fun b9 w10 => K b9 w10) (K false w8)
theorem S2_ok (Kv : Value → World → Prop) : OkT pr 132 g2 (S2 (Kt Kv)) (s2 (tl 14 bd)) (P1 Kv) := ok_last mixed FOk_ fun v ρ w => by kernel_rfl
def P3 (Kv : Value → World → Prop) : Post := next (get g2 (S2 (Kt Kv))) (P1 Kv)
def P4 (Kv : Value → World → Prop) : Post := inBlock 0 (P3 Kv)
@[reducible] def g5 : List SE := [.v 0 .sl, .v 7 .sl, .v 19 .sl, .v 25 (.int .i64)]
def P6 (Kv : Value → World → Prop) (kc5 : Cur g5) : Post := next (get g5 kc5) (P4 Kv)
def S7 (K : KT) (kc5 : Cur g5) (b_15 : Sl) (own_16 : Sl) (i_17 : Sl) (z_18 : Int) (w : World) : Prop :=
  G.cond (decide (z_18 < ((i_17.n : Nat) : Int))) (G.ix i_17.a i_17.n z_18 1 fun p19 => G.cSl p19 w fun l20 => C.tocsinref01_Spoil l20 w fun w21 => kc5 b_15 own_16 i_17 (IntKind.i64.wrap (z_18 + (1 : Int))) w21) (S2 K b_15 own_16 w)
theorem S7_ok (Kv : Value → World → Prop) (kc5 : Cur g5) : OkT pr 132 g5 (S7 (Kt Kv) kc5) (lp (blk (tl 1 (s1 (tl 14 bd))))) (P6 Kv kc5) := ok_last mixed FOk_ fun v ρ w => by kernel_rfl
def L5 (K : KT) : Cur g5 := loopC g5 (S7 K)
theorem L5_ok (Kv : Value → World → Prop) : OkT pr 132 g5 (L5 (Kt Kv)) (blk (tl 1 (s1 (tl 14 bd)))) (P4 Kv) := ok_loop (B := S7 (Kt Kv)) (by kernel_rfl) fun kc => S7_ok Kv kc
theorem L5_ind {K : KT} {b_11 : Sl} {own_12 : Sl} {i_13 : Sl} {z_14 : Int} {w : World} (h : ∀ X : Cur g5, (∀ b_11 own_12 i_13 z_14 w, S7 K X b_11 own_12 i_13 z_14 w → X b_11 own_12 i_13 z_14 w) → X b_11 own_12 i_13 z_14 w) : L5 K b_11 own_12 i_13 z_14 w := fun X hX => h X fun b_11 own_12 i_13 z_14 w hb => hX (b_11, own_12, i_13, z_14, ()) w hb
theorem B8 (Kv : Value → World → Prop) : OkT pr 132 g5 (L5 (Kt Kv)) (tl 1 (s1 (tl 14 bd))) (P3 Kv) := ok_block 0 (by kernel_rfl) (L5_ok Kv)
@[reducible] def g9 : List SE := [.v 0 .sl, .v 7 .sl, .v 19 .sl]
def S9 (K : KT) (b_22 : Sl) (own_23 : Sl) (i_24 : Sl) (w : World) : Prop :=
  L5 K b_22 own_23 i_24 (0 : Int) w
theorem S9_ok (Kv : Value → World → Prop) : OkT pr 132 g9 (S9 (Kt Kv)) (s1 (tl 14 bd)) (P3 Kv) := ok_group mixed FOk_ 1 (B8 Kv) fun v ρ w => by kernel_rfl
theorem Q10 (Kv : Value → World → Prop) : OkT pr 132 g9 (S9 (Kt Kv)) (tl 14 bd) (P1 Kv) := ok_seq (by kernel_rfl) (S2_ok Kv) (S9_ok Kv)
end tocsinlaw01_VintFrames
def tocsinlaw01_VintFrames (b_2 : Sl) (p_3 : Sl) (at_4 : Int) (w : World) (K : tocsinlaw01_VintFrames.KT) : Prop :=
  C.tocsinref01_Lent b_2 w fun l25 w26 => C.tocsinref01_Lent p_3 w26 fun l27 w28 => C.vint_PutFrame l25 l27 w28 fun l29 n30 w31 => C.tocsinref01_PutFrame b_2 p_3 w31 fun l32 n33 w34 => C.tocsinref01_Same l29 l32 w34 fun b35 w36 => G.cond (!b35) (K false w36) (G.cond (n30 != n33) (K false w36) (C.tocsinref01_Kept l27 p_3 w36 fun b37 w38 => G.cond (!b37) (K false w38) (C.tocsinref01_Spoil l29 w38 fun w39 => C.vint_Frame l25 at_4 w39 fun l40 n41 n42 w43 => C.tocsinref01_Frame b_2 at_4 w43 fun l44 n45 n46 w47 => C.tocsinref01_Same l40 l44 w47 fun b48 w49 => G.cond (!b48) (K false w49) (G.cond (n41 != n45) (K false w49) (G.cond (n42 != n46) (K false w49) (C.tocsinref01_Spoil l40 w49 fun w50 => C.vint_Frames l25 w50 fun l51 n52 n53 w54 => C.tocsinref01_Frames b_2 w54 fun l55 n56 n57 w58 => C.tocsinref01_SameAll l51 l55 w58 fun b59 w60 => G.cond (!b59) (K false w60) (G.cond (n52 != n56) (K false w60) (G.cond (n53 != n57) (K false w60) (tocsinlaw01_VintFrames.S9 K b_2 l25 l51 w60)))))))))
def tocsinlaw01_VintFrames.cl : CL := fun args K w => match args with
  | [.slice x0_a x0_n x0_c, .slice x1_a x1_n x1_c, .int .i64 x2] => C.tocsinlaw01_VintFrames ⟨x0_a, x0_n, x0_c⟩ ⟨x1_a, x1_n, x1_c⟩ x2 w (tocsinlaw01_VintFrames.Kt K)
  | _ => False
theorem tocsinlaw01_VintFrames.clok : OkC pr 5 tocsinlaw01_VintFrames.cl := by
  intro args K w h
  unfold tocsinlaw01_VintFrames.cl at h
  split at h
  · exact calls_group mixed tocsinlaw01_VintFrames.FOk_ tocsinlaw01_VintFrames.fn rfl 14 (tocsinlaw01_VintFrames.Q10 K) (Eq.mp (by kernel_rfl) h)
  · exact h.elim

/-! tocsin/tocsinref01.Count -/
namespace tocsinref01_Count
abbrev KT := Int → World → Prop
def Kt (Kv : Value → World → Prop) : KT := fun n1 w => Kv (.int .i64 n1) w
noncomputable def bd : Code := bdy Tryd.f33
theorem fn : FnOk pr 33 14 Tryd.f33 := ⟨Tryd.func33, by kernel_rfl, Tryd.ntmps33, by kernel_rfl, by kernel_rfl⟩
def F : Clee := ofL []
theorem FOk_ : FOk pr F := FOk_nil
def P1 (Kv : Value → World → Prop) : Post := bodyK pr 14 Tryd.f33 Kv
end tocsinref01_Count
def tocsinref01_Count (n_2 : Int) (most_3 : Int) (w : World) (K : tocsinref01_Count.KT) : Prop :=
  G.nz most_3 <| G.cond (decide ((Int.tmod n_2 most_3) < (0 : Int))) (K (IntKind.i64.wrap ((Int.tmod n_2 most_3) + most_3)) w) (K (Int.tmod n_2 most_3) w)
def tocsinref01_Count.cl : CL := fun args K w => match args with
  | [.int .i64 x0, .int .i64 x1] => C.tocsinref01_Count x0 x1 w (tocsinref01_Count.Kt K)
  | _ => False
theorem tocsinref01_Count.clok : OkC pr 33 tocsinref01_Count.cl := by
  intro args K w h
  unfold tocsinref01_Count.cl at h
  split at h
  · exact calls_last mixed tocsinref01_Count.FOk_ tocsinref01_Count.fn rfl (Eq.mp (by kernel_rfl) h)
  · exact h.elim

/-! tocsin/tocsinlaw01.VintTorn -/
namespace tocsinlaw01_VintTorn
abbrev KT := Bool → World → Prop
def Kt (Kv : Value → World → Prop) : KT := fun b1 w => Kv (.bool b1) w
noncomputable def bd : Code := bdy Tryd.f6
theorem fn : FnOk pr 6 174 Tryd.f6 := ⟨Tryd.func6, by kernel_rfl, Tryd.ntmps6, by kernel_rfl, by kernel_rfl⟩
def F : Clee := ofL [(13, C.tocsinlaw01_known.cl), (17, C.tocsinref01_Same.cl), (26, C.vint_PutFrame.cl), (30, C.vint_Frames.cl), (33, C.tocsinref01_Count.cl)]
theorem FOk_ : FOk pr F := FOk_cons C.tocsinlaw01_known.clok (FOk_cons C.tocsinref01_Same.clok (FOk_cons C.vint_PutFrame.clok (FOk_cons C.vint_Frames.clok (FOk_cons C.tocsinref01_Count.clok (FOk_nil)))))
def P1 (Kv : Value → World → Prop) : Post := bodyK pr 174 Tryd.f6 Kv
@[reducible] def g2 : List SE := [.v 0 .sl, .v 2 (.int .i64), .v 7 .sl, .v 8 .sl]
def S2 (K : KT) (l_5 : Sl) (bit_6 : Int) (b_7 : Sl) (ends_8 : Sl) (w : World) : Prop :=
  G.cond (((ends_8.n : Nat) : Int) == (0 : Int)) (C.tocsinlaw01_known w fun b9 w10 => K b9 w10) (G.ix l_5.a l_5.n (0 : Int) 1 fun p11 => G.cSl p11 w fun l12 => G.cond (((l12.n : Nat) : Int) == (0 : Int)) (C.tocsinlaw01_known w fun b13 w14 => K b13 w14) (G.ix l_5.a l_5.n (0 : Int) 1 fun p15 => G.cSl p15 w fun l16 => C.tocsinref01_Count bit_6 (IntKind.i64.wrap ((8 : Int) * ((l16.n : Nat) : Int))) w fun n17 w18 => G.runSl pr (Builtin.append_ #[22, 22] 22 #[nilS.v, b_7.v]) w18 fun l19 w20 => G.ix ends_8.a ends_8.n (0 : Int) 1 fun p21 => G.cI .i64 p21 w20 fun n22 => G.ix l_5.a l_5.n (0 : Int) 1 fun p23 => G.cSl p23 w20 fun l24 => G.nz (8 : Int) <| G.drawn w20 fun w25 => G.ix l19.a l19.n (IntKind.i64.wrap ((IntKind.i64.wrap (n22 - ((l24.n : Nat) : Int))) + (IntKind.i64.wrap (Int.tdiv n17 (8 : Int))))) 1 fun p26 => G.cI .u8 p26 w25 fun n27 => G.nz (8 : Int) <| G.nn (IntKind.u64.wrap (Int.tmod n17 (8 : Int))) <| G.ix l19.a l19.n (IntKind.i64.wrap ((IntKind.i64.wrap (n22 - ((l24.n : Nat) : Int))) + (IntKind.i64.wrap (Int.tdiv n17 (8 : Int))))) 1 fun p28 => G.st p28 (.int .u8 (Go.bits .xor .u8 n27 (shl .u8 (1 : Int) (IntKind.u64.wrap (Int.tmod n17 (8 : Int)))))) w25 fun w29 => C.vint_Frames l19 w29 fun l30 n31 n32 w33 => G.cond (((l30.n : Nat) : Int) == (0 : Int)) (G.cond (n31 == (0 : Int)) (G.cond (n32 == (11 : Int)) (C.tocsinlaw01_known w33 fun b34 w35 => K b34 w35) (K false w33)) (K false w33)) (K false w33)))
theorem S2_ok (Kv : Value → World → Prop) : OkT pr 174 g2 (S2 (Kt Kv)) (s2 (tl 2 (s2 (tl 2 (s2 (tl 3 bd)))))) (P1 Kv) := ok_last mixed FOk_ fun v ρ w => by kernel_rfl
def P3 (Kv : Value → World → Prop) : Post := next (get g2 (S2 (Kt Kv))) (P1 Kv)
def P4 (Kv : Value → World → Prop) : Post := inBlock 4 (P3 Kv)
@[reducible] def g5 : List SE := [.v 0 .sl, .v 2 (.int .i64), .v 7 .sl, .v 8 .sl, .v 13 (.int .i64), .v 14 .sl, .v 17 (.int .i64)]
def P6 (Kv : Value → World → Prop) (kc5 : Cur g5) : Post := next (get g5 kc5) (P4 Kv)
def S7 (K : KT) (kc5 : Cur g5) (l_43 : Sl) (bit_44 : Int) (b_45 : Sl) (ends_46 : Sl) (whole_47 : Int) (m_48 : Sl) (i_49 : Int) (w : World) : Prop :=
  G.cond (decide (i_49 < whole_47)) (G.ix m_48.a m_48.n i_49 1 fun p50 => G.cSl p50 w fun l51 => G.ix l_43.a l_43.n i_49 1 fun p52 => G.cSl p52 w fun l53 => ∃ b54 : Bool, G.still w (fun K55 w56 => C.tocsinref01_Same l51 l53 w56 fun b57 w56' => K55 (.bool b57) w56') (.bool b54) ∧ (G.drawn w fun w58 => G.cond (!b54) (K false w58) (kc5 l_43 bit_44 b_45 ends_46 whole_47 m_48 (IntKind.i64.wrap (i_49 + (1 : Int))) w58))) (S2 K l_43 bit_44 b_45 ends_46 w)
theorem S7_ok (Kv : Value → World → Prop) (kc5 : Cur g5) : OkT pr 174 g5 (S7 (Kt Kv) kc5) (lp (blk (tl 1 (s1 (tl 2 (s2 (tl 2 (s2 (tl 3 bd))))))))) (P6 Kv kc5) := ok_last mixed FOk_ fun v ρ w => by kernel_rfl
def L5 (K : KT) : Cur g5 := loopC g5 (S7 K)
theorem L5_ok (Kv : Value → World → Prop) : OkT pr 174 g5 (L5 (Kt Kv)) (blk (tl 1 (s1 (tl 2 (s2 (tl 2 (s2 (tl 3 bd)))))))) (P4 Kv) := ok_loop (B := S7 (Kt Kv)) (by kernel_rfl) fun kc => S7_ok Kv kc
theorem L5_ind {K : KT} {l_36 : Sl} {bit_37 : Int} {b_38 : Sl} {ends_39 : Sl} {whole_40 : Int} {m_41 : Sl} {i_42 : Int} {w : World} (h : ∀ X : Cur g5, (∀ l_36 bit_37 b_38 ends_39 whole_40 m_41 i_42 w, S7 K X l_36 bit_37 b_38 ends_39 whole_40 m_41 i_42 w → X l_36 bit_37 b_38 ends_39 whole_40 m_41 i_42 w) → X l_36 bit_37 b_38 ends_39 whole_40 m_41 i_42 w) : L5 K l_36 bit_37 b_38 ends_39 whole_40 m_41 i_42 w := fun X hX => h X fun l_36 bit_37 b_38 ends_39 whole_40 m_41 i_42 w hb => hX (l_36, bit_37, b_38, ends_39, whole_40, m_41, i_42, ()) w hb
theorem B8 (Kv : Value → World → Prop) : OkT pr 174 g5 (L5 (Kt Kv)) (tl 1 (s1 (tl 2 (s2 (tl 2 (s2 (tl 3 bd))))))) (P3 Kv) := ok_block 4 (by kernel_rfl) (L5_ok Kv)
@[reducible] def g9 : List SE := [.v 0 .sl, .v 2 (.int .i64), .v 7 .sl, .v 8 .sl, .v 13 (.int .i64), .v 14 .sl]
def S9 (K : KT) (l_59 : Sl) (bit_60 : Int) (b_61 : Sl) (ends_62 : Sl) (whole_63 : Int) (m_64 : Sl) (w : World) : Prop :=
  L5 K l_59 bit_60 b_61 ends_62 whole_63 m_64 (0 : Int) w
theorem S9_ok (Kv : Value → World → Prop) : OkT pr 174 g9 (S9 (Kt Kv)) (s1 (tl 2 (s2 (tl 2 (s2 (tl 3 bd)))))) (P3 Kv) := ok_group mixed FOk_ 1 (B8 Kv) fun v ρ w => by kernel_rfl
theorem Q10 (Kv : Value → World → Prop) : OkT pr 174 g9 (S9 (Kt Kv)) (tl 2 (s2 (tl 2 (s2 (tl 3 bd))))) (P1 Kv) := ok_seq (by kernel_rfl) (S2_ok Kv) (S9_ok Kv)
@[reducible] def g11 : List SE := [.v 0 .sl, .v 2 (.int .i64), .v 7 .sl, .v 8 .sl, .v 12 (.int .i64), .v 13 (.int .i64)]
def S11 (K : KT) (l_65 : Sl) (bit_66 : Int) (b_67 : Sl) (ends_68 : Sl) (n_69 : Int) (whole_70 : Int) (w : World) : Prop :=
  G.slc b_67 0 n_69 1 fun l71 => C.vint_Frames l71 w fun l72 n73 n74 w75 => G.cond (((l72.n : Nat) : Int) != whole_70) (K false w75) (G.cond (!((n74 == (0 : Int)) == (n73 == n_69))) (K false w75) (S9 K l_65 bit_66 b_67 ends_68 whole_70 l72 w75))
theorem S11_ok (Kv : Value → World → Prop) : OkT pr 174 g11 (S11 (Kt Kv)) (s2 (tl 2 (s2 (tl 3 bd)))) (P1 Kv) := ok_group mixed FOk_ 2 (Q10 Kv) fun v ρ w => by kernel_rfl
def P12 (Kv : Value → World → Prop) : Post := next (get g11 (S11 (Kt Kv))) (P1 Kv)
def P13 (Kv : Value → World → Prop) : Post := inBlock 2 (P12 Kv)
def P15 (Kv : Value → World → Prop) (kc14 : Cur g11) : Post := next (get g11 kc14) (P13 Kv)
def S16 (K : KT) (kc14 : Cur g11) (l_82 : Sl) (bit_83 : Int) (b_84 : Sl) (ends_85 : Sl) (n_86 : Int) (whole_87 : Int) (w : World) : Prop :=
  G.cond (decide (whole_87 < ((ends_85.n : Nat) : Int))) (G.ix ends_85.a ends_85.n whole_87 1 fun p88 => G.cI .i64 p88 w fun n89 => G.cond (decide (n89 ≤ n_86)) (kc14 l_82 bit_83 b_84 ends_85 n_86 (IntKind.i64.wrap (whole_87 + (1 : Int))) w) (S11 K l_82 bit_83 b_84 ends_85 n_86 whole_87 w)) (S11 K l_82 bit_83 b_84 ends_85 n_86 whole_87 w)
theorem S16_ok (Kv : Value → World → Prop) (kc14 : Cur g11) : OkT pr 174 g11 (S16 (Kt Kv) kc14) (lp (blk (s1 (tl 2 (s2 (tl 3 bd)))))) (P15 Kv kc14) := ok_last mixed FOk_ fun v ρ w => by kernel_rfl
def L14 (K : KT) : Cur g11 := loopC g11 (S16 K)
theorem L14_ok (Kv : Value → World → Prop) : OkT pr 174 g11 (L14 (Kt Kv)) (blk (s1 (tl 2 (s2 (tl 3 bd))))) (P13 Kv) := ok_loop (B := S16 (Kt Kv)) (by kernel_rfl) fun kc => S16_ok Kv kc
theorem L14_ind {K : KT} {l_76 : Sl} {bit_77 : Int} {b_78 : Sl} {ends_79 : Sl} {n_80 : Int} {whole_81 : Int} {w : World} (h : ∀ X : Cur g11, (∀ l_76 bit_77 b_78 ends_79 n_80 whole_81 w, S16 K X l_76 bit_77 b_78 ends_79 n_80 whole_81 w → X l_76 bit_77 b_78 ends_79 n_80 whole_81 w) → X l_76 bit_77 b_78 ends_79 n_80 whole_81 w) : L14 K l_76 bit_77 b_78 ends_79 n_80 whole_81 w := fun X hX => h X fun l_76 bit_77 b_78 ends_79 n_80 whole_81 w hb => hX (l_76, bit_77, b_78, ends_79, n_80, whole_81, ()) w hb
theorem B17 (Kv : Value → World → Prop) : OkT pr 174 g11 (L14 (Kt Kv)) (s1 (tl 2 (s2 (tl 3 bd)))) (P12 Kv) := ok_block 2 (by kernel_rfl) (L14_ok Kv)
theorem Q18 (Kv : Value → World → Prop) : OkT pr 174 g11 (L14 (Kt Kv)) (tl 2 (s2 (tl 3 bd))) (P1 Kv) := ok_seq (by kernel_rfl) (S11_ok Kv) (B17 Kv)
@[reducible] def g19 : List SE := [.v 0 .sl, .v 1 (.int .i64), .v 2 (.int .i64), .v 7 .sl, .v 8 .sl]
def S19 (K : KT) (l_90 : Sl) (cut_91 : Int) (bit_92 : Int) (b_93 : Sl) (ends_94 : Sl) (w : World) : Prop :=
  C.tocsinref01_Count cut_91 (IntKind.i64.wrap (((b_93.n : Nat) : Int) + (1 : Int))) w fun n95 w96 => L14 K l_90 bit_92 b_93 ends_94 n95 (0 : Int) w96
theorem S19_ok (Kv : Value → World → Prop) : OkT pr 174 g19 (S19 (Kt Kv)) (s2 (tl 3 bd)) (P1 Kv) := ok_group mixed FOk_ 2 (Q18 Kv) fun v ρ w => by kernel_rfl
def P20 (Kv : Value → World → Prop) : Post := next (get g19 (S19 (Kt Kv))) (P1 Kv)
def P21 (Kv : Value → World → Prop) : Post := inBlock 0 (P20 Kv)
@[reducible] def g22 : List SE := [.v 0 .sl, .v 1 (.int .i64), .v 2 (.int .i64), .v 7 .sl, .v 8 .sl, .v 9 (.int .i64)]
def P23 (Kv : Value → World → Prop) (kc22 : Cur g22) : Post := next (get g22 kc22) (P21 Kv)
def S24 (K : KT) (kc22 : Cur g22) (l_103 : Sl) (cut_104 : Int) (bit_105 : Int) (b_106 : Sl) (ends_107 : Sl) (i_108 : Int) (w : World) : Prop :=
  G.cond (decide (i_108 < ((l_103.n : Nat) : Int))) (G.cond (decide (i_108 < (20 : Int))) (G.ix l_103.a l_103.n i_108 1 fun p109 => G.cSl p109 w fun l110 => C.vint_PutFrame b_106 l110 w fun l111 n112 w113 => G.cond (n112 != (0 : Int)) (G.ix l_103.a l_103.n i_108 1 fun p114 => G.cSl p114 w113 fun l115 => G.cond (decide (((l115.n : Nat) : Int) > (65536 : Int))) (C.tocsinlaw01_known w113 fun b116 w117 => K b116 w117) (K false w113)) (G.new (.cells #[(.int .i64 ((l111.n : Nat) : Int))] 3) w113 fun p118 w119 => G.runSl pr (Builtin.append_ #[49, 49] 49 #[ends_107.v, (Sl.v (⟨some p118, 1, 1⟩ : Sl))]) w119 fun l120 w121 => kc22 l_103 cut_104 bit_105 l111 l120 (IntKind.i64.wrap (i_108 + (1 : Int))) w121)) (S19 K l_103 cut_104 bit_105 b_106 ends_107 w)) (S19 K l_103 cut_104 bit_105 b_106 ends_107 w)
theorem S24_ok (Kv : Value → World → Prop) (kc22 : Cur g22) : OkT pr 174 g22 (S24 (Kt Kv) kc22) (lp (blk (tl 1 (s1 (tl 3 bd))))) (P23 Kv kc22) := ok_last mixed FOk_ fun v ρ w => by kernel_rfl
def L22 (K : KT) : Cur g22 := loopC g22 (S24 K)
theorem L22_ok (Kv : Value → World → Prop) : OkT pr 174 g22 (L22 (Kt Kv)) (blk (tl 1 (s1 (tl 3 bd)))) (P21 Kv) := ok_loop (B := S24 (Kt Kv)) (by kernel_rfl) fun kc => S24_ok Kv kc
theorem L22_ind {K : KT} {l_97 : Sl} {cut_98 : Int} {bit_99 : Int} {b_100 : Sl} {ends_101 : Sl} {i_102 : Int} {w : World} (h : ∀ X : Cur g22, (∀ l_97 cut_98 bit_99 b_100 ends_101 i_102 w, S24 K X l_97 cut_98 bit_99 b_100 ends_101 i_102 w → X l_97 cut_98 bit_99 b_100 ends_101 i_102 w) → X l_97 cut_98 bit_99 b_100 ends_101 i_102 w) : L22 K l_97 cut_98 bit_99 b_100 ends_101 i_102 w := fun X hX => h X fun l_97 cut_98 bit_99 b_100 ends_101 i_102 w hb => hX (l_97, cut_98, bit_99, b_100, ends_101, i_102, ()) w hb
theorem B25 (Kv : Value → World → Prop) : OkT pr 174 g22 (L22 (Kt Kv)) (tl 1 (s1 (tl 3 bd))) (P20 Kv) := ok_block 0 (by kernel_rfl) (L22_ok Kv)
def S26 (K : KT) (l_122 : Sl) (cut_123 : Int) (bit_124 : Int) (b_125 : Sl) (ends_126 : Sl) (w : World) : Prop :=
  L22 K l_122 cut_123 bit_124 b_125 ends_126 (0 : Int) w
theorem S26_ok (Kv : Value → World → Prop) : OkT pr 174 g19 (S26 (Kt Kv)) (s1 (tl 3 bd)) (P20 Kv) := ok_group mixed FOk_ 1 (B25 Kv) fun v ρ w => by kernel_rfl
theorem Q27 (Kv : Value → World → Prop) : OkT pr 174 g19 (S26 (Kt Kv)) (tl 3 bd) (P1 Kv) := ok_seq (by kernel_rfl) (S19_ok Kv) (S26_ok Kv)
end tocsinlaw01_VintTorn
def tocsinlaw01_VintTorn (l_2 : Sl) (cut_3 : Int) (bit_4 : Int) (w : World) (K : tocsinlaw01_VintTorn.KT) : Prop :=
  tocsinlaw01_VintTorn.S26 K l_2 cut_3 bit_4 nilS nilS w
def tocsinlaw01_VintTorn.cl : CL := fun args K w => match args with
  | [.slice x0_a x0_n x0_c, .int .i64 x1, .int .i64 x2] => C.tocsinlaw01_VintTorn ⟨x0_a, x0_n, x0_c⟩ x1 x2 w (tocsinlaw01_VintTorn.Kt K)
  | _ => False
theorem tocsinlaw01_VintTorn.clok : OkC pr 6 tocsinlaw01_VintTorn.cl := by
  intro args K w h
  unfold tocsinlaw01_VintTorn.cl at h
  split at h
  · exact calls_group mixed tocsinlaw01_VintTorn.FOk_ tocsinlaw01_VintTorn.fn rfl 3 (tocsinlaw01_VintTorn.Q27 K) (Eq.mp (by kernel_rfl) h)
  · exact h.elim

/-! tocsin/vint.PutText -/
namespace vint_PutText
abbrev KT := Sl → World → Prop
def Kt (Kv : Value → World → Prop) : KT := fun l1 w => Kv l1.v w
noncomputable def bd : Code := bdy Tryd.f34
theorem fn : FnOk pr 34 13 Tryd.f34 := ⟨Tryd.func34, by kernel_rfl, Tryd.ntmps34, by kernel_rfl, by kernel_rfl⟩
def F : Clee := ofL [(15, C.vint_PutU.cl), (39, C.vint_joined.cl)]
theorem FOk_ : FOk pr F := FOk_cons C.vint_PutU.clok (FOk_cons C.vint_joined.clok (FOk_nil))
def P1 (Kv : Value → World → Prop) : Post := bodyK pr 13 Tryd.f34 Kv
end vint_PutText
def vint_PutText (b_2 : Sl) (s_3 : ByteArray) (w : World) (K : vint_PutText.KT) : Prop :=
  C.vint_PutU b_2 (IntKind.u64.wrap ((s_3.size : Nat) : Int)) w fun l4 w5 => G.runSl pr (Go.convert 9 22 (.string s_3)) w5 fun l6 w7 => C.vint_joined l4 l6 w7 fun l8 w9 => K l8 w9
def vint_PutText.cl : CL := fun args K w => match args with
  | [.slice x0_a x0_n x0_c, .string x1] => C.vint_PutText ⟨x0_a, x0_n, x0_c⟩ x1 w (vint_PutText.Kt K)
  | _ => False
theorem vint_PutText.clok : OkC pr 34 vint_PutText.cl := by
  intro args K w h
  unfold vint_PutText.cl at h
  split at h
  · exact calls_last mixed vint_PutText.FOk_ vint_PutText.fn rfl (Eq.mp (by kernel_rfl) h)
  · exact h.elim

/-! tocsin/tocsinref01.PutText -/
namespace tocsinref01_PutText
abbrev KT := Sl → World → Prop
def Kt (Kv : Value → World → Prop) : KT := fun l1 w => Kv l1.v w
noncomputable def bd : Code := bdy Tryd.f35
theorem fn : FnOk pr 35 13 Tryd.f35 := ⟨Tryd.func35, by kernel_rfl, Tryd.ntmps35, by kernel_rfl, by kernel_rfl⟩
def F : Clee := ofL [(18, C.tocsinref01_PutU.cl), (40, C.tocsinref01_joined.cl)]
theorem FOk_ : FOk pr F := FOk_cons C.tocsinref01_PutU.clok (FOk_cons C.tocsinref01_joined.clok (FOk_nil))
def P1 (Kv : Value → World → Prop) : Post := bodyK pr 13 Tryd.f35 Kv
end tocsinref01_PutText
def tocsinref01_PutText (b_2 : Sl) (s_3 : ByteArray) (w : World) (K : tocsinref01_PutText.KT) : Prop :=
  C.tocsinref01_PutU b_2 (IntKind.u64.wrap ((s_3.size : Nat) : Int)) w fun l4 w5 => G.runSl pr (Go.convert 9 22 (.string s_3)) w5 fun l6 w7 => C.tocsinref01_joined l4 l6 w7 fun l8 w9 => K l8 w9
def tocsinref01_PutText.cl : CL := fun args K w => match args with
  | [.slice x0_a x0_n x0_c, .string x1] => C.tocsinref01_PutText ⟨x0_a, x0_n, x0_c⟩ x1 w (tocsinref01_PutText.Kt K)
  | _ => False
theorem tocsinref01_PutText.clok : OkC pr 35 tocsinref01_PutText.cl := by
  intro args K w h
  unfold tocsinref01_PutText.cl at h
  split at h
  · exact calls_last mixed tocsinref01_PutText.FOk_ tocsinref01_PutText.fn rfl (Eq.mp (by kernel_rfl) h)
  · exact h.elim

/-! unicode/utf8.word[string] -/
namespace utf8_word_string
abbrev KT := Int → World → Prop
def Kt (Kv : Value → World → Prop) : KT := fun n1 w => Kv (.int .u64 n1) w
noncomputable def bd : Code := bdy Tryd.f44
theorem fn : FnOk pr 44 59 Tryd.f44 := ⟨Tryd.func44, by kernel_rfl, Tryd.ntmps44, by kernel_rfl, by kernel_rfl⟩
def F : Clee := ofL []
theorem FOk_ : FOk pr F := FOk_nil
def P1 (Kv : Value → World → Prop) : Post := bodyK pr 59 Tryd.f44 Kv
end utf8_word_string
def utf8_word_string (s_2 : ByteArray) (w : World) (K : utf8_word_string.KT) : Prop :=
  G.ixS s_2 (0 : Int) fun n4 => G.ixS s_2 (1 : Int) fun n5 => G.nn (8 : Int) <| G.ixS s_2 (2 : Int) fun n6 => G.nn (16 : Int) <| G.ixS s_2 (3 : Int) fun n7 => G.nn (24 : Int) <| G.ixS s_2 (4 : Int) fun n8 => G.nn (32 : Int) <| G.ixS s_2 (5 : Int) fun n9 => G.nn (40 : Int) <| G.ixS s_2 (6 : Int) fun n10 => G.nn (48 : Int) <| G.ixS s_2 (7 : Int) fun n11 => G.nn (56 : Int) <| K (Go.bits .or .u64 (Go.bits .or .u64 (Go.bits .or .u64 (Go.bits .or .u64 (Go.bits .or .u64 (Go.bits .or .u64 (Go.bits .or .u64 (IntKind.u64.wrap n4) (shl .u64 (IntKind.u64.wrap n5) (8 : Int))) (shl .u64 (IntKind.u64.wrap n6) (16 : Int))) (shl .u64 (IntKind.u64.wrap n7) (24 : Int))) (shl .u64 (IntKind.u64.wrap n8) (32 : Int))) (shl .u64 (IntKind.u64.wrap n9) (40 : Int))) (shl .u64 (IntKind.u64.wrap n10) (48 : Int))) (shl .u64 (IntKind.u64.wrap n11) (56 : Int))) w.drew
def utf8_word_string.cl : CL := fun args K w => match args with
  | [.string x0] => C.utf8_word_string x0 w (utf8_word_string.Kt K)
  | _ => False
theorem utf8_word_string.clok : OkC pr 44 utf8_word_string.cl := by
  intro args K w h
  unfold utf8_word_string.cl at h
  split at h
  · exact calls_last mixed utf8_word_string.FOk_ utf8_word_string.fn rfl (Eq.mp (by kernel_rfl) h)
  · exact h.elim

/-! unicode/utf8.ValidString -/
namespace utf8_ValidString
abbrev KT := Bool → World → Prop
def Kt (Kv : Value → World → Prop) : KT := fun b1 w => Kv (.bool b1) w
noncomputable def bd : Code := bdy Tryd.f43
theorem fn : FnOk pr 43 169 Tryd.f43 := ⟨Tryd.func43, by kernel_rfl, Tryd.ntmps43, by kernel_rfl, by kernel_rfl⟩
def F : Clee := ofL [(44, C.utf8_word_string.cl)]
theorem FOk_ : FOk pr F := FOk_cons C.utf8_word_string.clok (FOk_nil)
def P1 (Kv : Value → World → Prop) : Post := bodyK pr 169 Tryd.f43 Kv
@[reducible] def g2 : List SE := []
def S2 (K : KT) (w : World) : Prop :=
  K true w
theorem S2_ok (Kv : Value → World → Prop) : OkT pr 169 g2 (S2 (Kt Kv)) (s2 (tl 1 bd)) (P1 Kv) := ok_last mixed FOk_ fun v ρ w => by kernel_rfl
def P3 (Kv : Value → World → Prop) : Post := next (get g2 (S2 (Kt Kv))) (P1 Kv)
def P4 (Kv : Value → World → Prop) : Post := inBlock 0 (P3 Kv)
@[reducible] def g5 : List SE := [.v 0 .str]
def P6 (Kv : Value → World → Prop) (kc5 : Cur g5) : Post := next (get g5 kc5) (P4 Kv)
def P7 (Kv : Value → World → Prop) (kc5 : Cur g5) : Post := inBlock 1 (P6 Kv kc5)
@[reducible] def g8 : List SE := [.v 0 .str, .v 3 (.int .u8)]
def S8 (K : KT) (kc5 : Cur g5) (s_4 : ByteArray) (s0_5 : Int) (w : World) : Prop :=
  G.ix (some ⟨1, 0, none⟩) 256 s0_5 1 fun p6 => G.cI .u8 p6 w fun n7 => G.nn (4 : Int) <| G.ix (some ⟨2, 0, none⟩) 16 (shr .u8 n7 (4 : Int)) 2 fun p8 => G.cI .u8 p8 w fun n9 => G.cI .u8 (p8.add 1) w fun n10 => G.new (.cells #[(.int .u8 (0 : Int)), (.int .u8 (0 : Int))] 66) w fun p11 w12 => G.st p11 (.int .u8 n9) w12 fun w13 => G.st (p11.add 1) (.int .u8 n10) w13 fun w14 => G.cond ((IntKind.i64.wrap (Go.bits .and .u8 n7 (7 : Int))) == (2 : Int)) (G.cond (decide (((s_4.size : Nat) : Int) < (2 : Int))) (K false w14.drew) (G.ixS s_4 (1 : Int) fun n15 => G.cI .u8 p11 w14.drew fun n16 => G.cond (decide (n15 < n16)) (K false w14.drew) (G.ixS s_4 (1 : Int) fun n17 => G.cI .u8 (p11.add 1) w14.drew fun n18 => G.cond (decide (n18 < n17)) (K false w14.drew) (G.slcS s_4 (2 : Int) ((s_4.size : Nat) : Int) fun s19 => kc5 s19 w14.drew)))) (G.cond ((IntKind.i64.wrap (Go.bits .and .u8 n7 (7 : Int))) == (3 : Int)) (G.cond (decide (((s_4.size : Nat) : Int) < (3 : Int))) (K false w14.drew) (G.ixS s_4 (1 : Int) fun n20 => G.cI .u8 p11 w14.drew fun n21 => G.cond (decide (n20 < n21)) (K false w14.drew) (G.ixS s_4 (1 : Int) fun n22 => G.cI .u8 (p11.add 1) w14.drew fun n23 => G.cond (decide (n23 < n22)) (K false w14.drew) (G.ixS s_4 (2 : Int) fun n24 => G.cond (decide (n24 < (128 : Int))) (K false w14.drew) (G.ixS s_4 (2 : Int) fun n25 => G.cond (decide ((191 : Int) < n25)) (K false w14.drew) (G.slcS s_4 (3 : Int) ((s_4.size : Nat) : Int) fun s26 => kc5 s26 w14.drew)))))) (G.cond ((IntKind.i64.wrap (Go.bits .and .u8 n7 (7 : Int))) == (4 : Int)) (G.cond (decide (((s_4.size : Nat) : Int) < (4 : Int))) (K false w14.drew) (G.ixS s_4 (1 : Int) fun n27 => G.cI .u8 p11 w14.drew fun n28 => G.cond (decide (n27 < n28)) (K false w14.drew) (G.ixS s_4 (1 : Int) fun n29 => G.cI .u8 (p11.add 1) w14.drew fun n30 => G.cond (decide (n30 < n29)) (K false w14.drew) (G.ixS s_4 (2 : Int) fun n31 => G.cond (decide (n31 < (128 : Int))) (K false w14.drew) (G.ixS s_4 (2 : Int) fun n32 => G.cond (decide ((191 : Int) < n32)) (K false w14.drew) (G.ixS s_4 (3 : Int) fun n33 => G.cond (decide (n33 < (128 : Int))) (K false w14.drew) (G.ixS s_4 (3 : Int) fun n34 => G.cond (decide ((191 : Int) < n34)) (K false w14.drew) (G.slcS s_4 (4 : Int) ((s_4.size : Nat) : Int) fun s35 => kc5 s35 w14.drew)))))))) (K false w14)))
theorem S8_ok (Kv : Value → World → Prop) (kc5 : Cur g5) : OkT pr 169 g8 (S8 (Kt Kv) kc5) (s2 (tl 1 (blk (tl 1 (lp (blk (s1 (tl 1 bd)))))))) (P7 Kv kc5) := ok_last mixed FOk_ fun v ρ w => by kernel_rfl
def P9 (Kv : Value → World → Prop) (kc5 : Cur g5) : Post := next (get g8 (S8 (Kt Kv) kc5)) (P7 Kv kc5)
def S10 (K : KT) (kc5 : Cur g5) (s_36 : ByteArray) (w : World) : Prop :=
  kc5 s_36 w
theorem S10_ok (Kv : Value → World → Prop) (kc5 : Cur g5) : OkT pr 169 g5 (S10 (Kt Kv) kc5) (s2 (tl 1 (c1 (tl 1 (s1 (tl 1 (blk (tl 1 (lp (blk (s1 (tl 1 bd)))))))))))) (P9 Kv kc5) := ok_last mixed FOk_ fun v ρ w => by kernel_rfl
def P11 (Kv : Value → World → Prop) (kc5 : Cur g5) : Post := next (get g5 (S10 (Kt Kv) kc5)) (P9 Kv kc5)
def P12 (Kv : Value → World → Prop) (kc5 : Cur g5) : Post := inBlock 2 (P11 Kv kc5)
def P14 (Kv : Value → World → Prop) (kc5 : Cur g5) (kc13 : Cur g5) : Post := next (get g5 kc13) (P12 Kv kc5)
def S15 (K : KT) (kc5 : Cur g5) (kc13 : Cur g5) (s_38 : ByteArray) (w : World) : Prop :=
  G.cond (decide (((s_38.size : Nat) : Int) > (32 : Int))) (G.slcS s_38 (8 : Int) ((s_38.size : Nat) : Int) fun s39 => G.slcS s_38 (16 : Int) ((s_38.size : Nat) : Int) fun s40 => G.slcS s_38 (24 : Int) ((s_38.size : Nat) : Int) fun s41 => C.utf8_word_string s_38 w.drew fun n42 w43 => C.utf8_word_string s39 w43 fun n44 w45 => C.utf8_word_string s40 w45 fun n46 w47 => C.utf8_word_string s41 w47 fun n48 w49 => G.cond ((Go.bits .and .u64 (Go.bits .or .u64 (Go.bits .or .u64 n42 n44) (Go.bits .or .u64 n46 n48)) (9259542123273814144 : Int)) == (0 : Int)) (G.slcS s_38 (32 : Int) ((s_38.size : Nat) : Int) fun s50 => kc13 s50 w49) (S10 K kc5 s_38 w49)) (S10 K kc5 s_38 w.drew)
theorem S15_ok (Kv : Value → World → Prop) (kc5 : Cur g5) (kc13 : Cur g5) : OkT pr 169 g5 (S15 (Kt Kv) kc5 kc13) (lp (blk (tl 1 (c1 (tl 2 (c1 (tl 1 (s1 (tl 1 (c1 (tl 1 (s1 (tl 1 (blk (tl 1 (lp (blk (s1 (tl 1 bd))))))))))))))))))) (P14 Kv kc5 kc13) := ok_last mixed FOk_ fun v ρ w => by kernel_rfl
def L13 (K : KT) (kc5 : Cur g5) : Cur g5 := loopC g5 (S15 K kc5)
theorem L13_ok (Kv : Value → World → Prop) (kc5 : Cur g5) : OkT pr 169 g5 (L13 (Kt Kv) kc5) (blk (tl 1 (c1 (tl 2 (c1 (tl 1 (s1 (tl 1 (c1 (tl 1 (s1 (tl 1 (blk (tl 1 (lp (blk (s1 (tl 1 bd)))))))))))))))))) (P12 Kv kc5) := ok_loop (B := S15 (Kt Kv) kc5) (by kernel_rfl) fun kc => S15_ok Kv kc5 kc
theorem L13_ind {K : KT} {kc5 : Cur g5} {s_37 : ByteArray} {w : World} (h : ∀ X : Cur g5, (∀ s_37 w, S15 K kc5 X s_37 w → X s_37 w) → X s_37 w) : L13 K kc5 s_37 w := fun X hX => h X fun s_37 w hb => hX (s_37, ()) w hb
theorem B16 (Kv : Value → World → Prop) (kc5 : Cur g5) : OkT pr 169 g5 (L13 (Kt Kv) kc5) (tl 1 (c1 (tl 2 (c1 (tl 1 (s1 (tl 1 (c1 (tl 1 (s1 (tl 1 (blk (tl 1 (lp (blk (s1 (tl 1 bd))))))))))))))))) (P11 Kv kc5) := ok_block 2 (by kernel_rfl) (L13_ok Kv kc5)
@[reducible] def g17 : List SE := [.v 0 .str, .v 39 .bool]
def S17 (K : KT) (kc5 : Cur g5) (s_51 : ByteArray) (b52 : Bool) (w : World) : Prop :=
  G.slcS s_51 (16 : Int) ((s_51.size : Nat) : Int) fun s53 => L13 K kc5 s53 w
theorem S17_ok (Kv : Value → World → Prop) (kc5 : Cur g5) : OkT pr 169 g17 (S17 (Kt Kv) kc5) (c1 (tl 2 (c1 (tl 1 (s1 (tl 1 (c1 (tl 1 (s1 (tl 1 (blk (tl 1 (lp (blk (s1 (tl 1 bd)))))))))))))))) (P11 Kv kc5) := ok_group mixed FOk_ 1 (B16 Kv kc5) fun v ρ w => by kernel_rfl
def S18 (K : KT) (kc5 : Cur g5) (s_54 : ByteArray) (b55 : Bool) (w : World) : Prop :=
  S10 K kc5 s_54 w
theorem S18_ok (Kv : Value → World → Prop) (kc5 : Cur g5) : OkT pr 169 g17 (S18 (Kt Kv) kc5) (c2 (tl 2 (c1 (tl 1 (s1 (tl 1 (c1 (tl 1 (s1 (tl 1 (blk (tl 1 (lp (blk (s1 (tl 1 bd)))))))))))))))) (P11 Kv kc5) := ok_last mixed FOk_ fun v ρ w => by kernel_rfl
def D19 (K : KT) (kc5 : Cur g5) (s_56 : ByteArray) (b57 : Bool) (w : World) : Prop :=
  G.cond b57 (S17 K kc5 s_56 b57 w) (S18 K kc5 s_56 b57 w)
theorem D19_ok (Kv : Value → World → Prop) (kc5 : Cur g5) : OkT pr 169 g17 (D19 (Kt Kv) kc5) (tl 2 (c1 (tl 1 (s1 (tl 1 (c1 (tl 1 (s1 (tl 1 (blk (tl 1 (lp (blk (s1 (tl 1 bd))))))))))))))) (P11 Kv kc5) :=
  ok_cond 39 (fun v => v.2.1) (by kernel_rfl) (fun v ρ => by kernel_rfl) (fun v w => by kernel_rfl) (S17_ok Kv kc5) (S18_ok Kv kc5)
@[reducible] def g20 : List SE := [.v 0 .str, .v 24 .bool]
def S20 (K : KT) (kc5 : Cur g5) (s_58 : ByteArray) (b59 : Bool) (w : World) : Prop :=
  G.slcS s_58 (8 : Int) ((s_58.size : Nat) : Int) fun s60 => G.cond (decide (((s60.size : Nat) : Int) > (16 : Int))) (G.slcS s60 (8 : Int) ((s60.size : Nat) : Int) fun s61 => C.utf8_word_string s60 w.drew fun n62 w63 => C.utf8_word_string s61 w63 fun n64 w65 => D19 K kc5 s60 ((Go.bits .and .u64 (Go.bits .or .u64 n62 n64) (9259542123273814144 : Int)) == (0 : Int)) w65) (D19 K kc5 s60 false w.drew)
theorem S20_ok (Kv : Value → World → Prop) (kc5 : Cur g5) : OkT pr 169 g20 (S20 (Kt Kv) kc5) (c1 (tl 1 (s1 (tl 1 (c1 (tl 1 (s1 (tl 1 (blk (tl 1 (lp (blk (s1 (tl 1 bd)))))))))))))) (P11 Kv kc5) := ok_group mixed FOk_ 2 (D19_ok Kv kc5) fun v ρ w => by kernel_rfl
def S21 (K : KT) (kc5 : Cur g5) (s_66 : ByteArray) (b67 : Bool) (w : World) : Prop :=
  S10 K kc5 s_66 w
theorem S21_ok (Kv : Value → World → Prop) (kc5 : Cur g5) : OkT pr 169 g20 (S21 (Kt Kv) kc5) (c2 (tl 1 (s1 (tl 1 (c1 (tl 1 (s1 (tl 1 (blk (tl 1 (lp (blk (s1 (tl 1 bd)))))))))))))) (P11 Kv kc5) := ok_last mixed FOk_ fun v ρ w => by kernel_rfl
def D22 (K : KT) (kc5 : Cur g5) (s_68 : ByteArray) (b69 : Bool) (w : World) : Prop :=
  G.cond b69 (S20 K kc5 s_68 b69 w) (S21 K kc5 s_68 b69 w)
theorem D22_ok (Kv : Value → World → Prop) (kc5 : Cur g5) : OkT pr 169 g20 (D22 (Kt Kv) kc5) (tl 1 (s1 (tl 1 (c1 (tl 1 (s1 (tl 1 (blk (tl 1 (lp (blk (s1 (tl 1 bd))))))))))))) (P11 Kv kc5) :=
  ok_cond 24 (fun v => v.2.1) (by kernel_rfl) (fun v ρ => by kernel_rfl) (fun v w => by kernel_rfl) (S20_ok Kv kc5) (S21_ok Kv kc5)
def S23 (K : KT) (kc5 : Cur g5) (s_70 : ByteArray) (w : World) : Prop :=
  G.cond (decide (((s_70.size : Nat) : Int) > (8 : Int))) (C.utf8_word_string s_70 w fun n71 w72 => D22 K kc5 s_70 ((Go.bits .and .u64 n71 (9259542123273814144 : Int)) == (0 : Int)) w72) (D22 K kc5 s_70 false w)
theorem S23_ok (Kv : Value → World → Prop) (kc5 : Cur g5) : OkT pr 169 g5 (S23 (Kt Kv) kc5) (s1 (tl 1 (c1 (tl 1 (s1 (tl 1 (blk (tl 1 (lp (blk (s1 (tl 1 bd)))))))))))) (P11 Kv kc5) := ok_group mixed FOk_ 1 (D22_ok Kv kc5) fun v ρ w => by kernel_rfl
theorem Q24 (Kv : Value → World → Prop) (kc5 : Cur g5) : OkT pr 169 g5 (S23 (Kt Kv) kc5) (tl 1 (c1 (tl 1 (s1 (tl 1 (blk (tl 1 (lp (blk (s1 (tl 1 bd))))))))))) (P9 Kv kc5) := ok_seq (by kernel_rfl) (S10_ok Kv kc5) (S23_ok Kv kc5)
@[reducible] def g25 : List SE := [.v 0 .str, .v 3 (.int .u8), .v 13 .bool]
def S25 (K : KT) (kc5 : Cur g5) (s_73 : ByteArray) (s0_74 : Int) (b75 : Bool) (w : World) : Prop :=
  G.slcS s_73 (1 : Int) ((s_73.size : Nat) : Int) fun s76 => S23 K kc5 s76 w
theorem S25_ok (Kv : Value → World → Prop) (kc5 : Cur g5) : OkT pr 169 g25 (S25 (Kt Kv) kc5) (c1 (tl 1 (s1 (tl 1 (blk (tl 1 (lp (blk (s1 (tl 1 bd)))))))))) (P9 Kv kc5) := ok_group mixed FOk_ 1 (Q24 Kv kc5) fun v ρ w => by kernel_rfl
def S26 (K : KT) (kc5 : Cur g5) (s_77 : ByteArray) (s0_78 : Int) (b79 : Bool) (w : World) : Prop :=
  S8 K kc5 s_77 s0_78 w
theorem S26_ok (Kv : Value → World → Prop) (kc5 : Cur g5) : OkT pr 169 g25 (S26 (Kt Kv) kc5) (c2 (tl 1 (s1 (tl 1 (blk (tl 1 (lp (blk (s1 (tl 1 bd)))))))))) (P9 Kv kc5) := ok_last mixed FOk_ fun v ρ w => by kernel_rfl
def D27 (K : KT) (kc5 : Cur g5) (s_80 : ByteArray) (s0_81 : Int) (b82 : Bool) (w : World) : Prop :=
  G.cond b82 (S25 K kc5 s_80 s0_81 b82 w) (S26 K kc5 s_80 s0_81 b82 w)
theorem D27_ok (Kv : Value → World → Prop) (kc5 : Cur g5) : OkT pr 169 g25 (D27 (Kt Kv) kc5) (tl 1 (s1 (tl 1 (blk (tl 1 (lp (blk (s1 (tl 1 bd))))))))) (P9 Kv kc5) :=
  ok_cond 13 (fun v => v.2.2.1) (by kernel_rfl) (fun v ρ => by kernel_rfl) (fun v w => by kernel_rfl) (S25_ok Kv kc5) (S26_ok Kv kc5)
def S28 (K : KT) (kc5 : Cur g5) (s_83 : ByteArray) (s0_84 : Int) (w : World) : Prop :=
  D27 K kc5 s_83 s0_84 (decide (s0_84 < (128 : Int))) w
theorem S28_ok (Kv : Value → World → Prop) (kc5 : Cur g5) : OkT pr 169 g8 (S28 (Kt Kv) kc5) (s1 (tl 1 (blk (tl 1 (lp (blk (s1 (tl 1 bd)))))))) (P9 Kv kc5) := ok_group mixed FOk_ 1 (D27_ok Kv kc5) fun v ρ w => by kernel_rfl
theorem Q29 (Kv : Value → World → Prop) (kc5 : Cur g5) : OkT pr 169 g8 (S28 (Kt Kv) kc5) (tl 1 (blk (tl 1 (lp (blk (s1 (tl 1 bd))))))) (P7 Kv kc5) := ok_seq (by kernel_rfl) (S8_ok Kv kc5) (S28_ok Kv kc5)
def S30 (K : KT) (kc5 : Cur g5) (s_85 : ByteArray) (w : World) : Prop :=
  G.ixS s_85 (0 : Int) fun n86 => S28 K kc5 s_85 n86 w
theorem S30_ok (Kv : Value → World → Prop) (kc5 : Cur g5) : OkT pr 169 g5 (S30 (Kt Kv) kc5) (blk (tl 1 (lp (blk (s1 (tl 1 bd)))))) (P7 Kv kc5) := ok_group mixed FOk_ 1 (Q29 Kv kc5) fun v ρ w => by kernel_rfl
theorem B31 (Kv : Value → World → Prop) (kc5 : Cur g5) : OkT pr 169 g5 (S30 (Kt Kv) kc5) (tl 1 (lp (blk (s1 (tl 1 bd))))) (P6 Kv kc5) := ok_block 1 (by kernel_rfl) (S30_ok Kv kc5)
def S32 (K : KT) (kc5 : Cur g5) (s_87 : ByteArray) (w : World) : Prop :=
  G.cond (decide (((s_87.size : Nat) : Int) > (0 : Int))) (S30 K kc5 s_87 w) (S2 K w)
theorem S32_ok (Kv : Value → World → Prop) (kc5 : Cur g5) : OkT pr 169 g5 (S32 (Kt Kv) kc5) (lp (blk (s1 (tl 1 bd)))) (P6 Kv kc5) := ok_group mixed FOk_ 1 (B31 Kv kc5) fun v ρ w => by kernel_rfl
def L5 (K : KT) : Cur g5 := loopC g5 (S32 K)
theorem L5_ok (Kv : Value → World → Prop) : OkT pr 169 g5 (L5 (Kt Kv)) (blk (s1 (tl 1 bd))) (P4 Kv) := ok_loop (B := S32 (Kt Kv)) (by kernel_rfl) fun kc => S32_ok Kv kc
theorem L5_ind {K : KT} {s_3 : ByteArray} {w : World} (h : ∀ X : Cur g5, (∀ s_3 w, S32 K X s_3 w → X s_3 w) → X s_3 w) : L5 K s_3 w := fun X hX => h X fun s_3 w hb => hX (s_3, ()) w hb
theorem B33 (Kv : Value → World → Prop) : OkT pr 169 g5 (L5 (Kt Kv)) (s1 (tl 1 bd)) (P3 Kv) := ok_block 0 (by kernel_rfl) (L5_ok Kv)
theorem Q34 (Kv : Value → World → Prop) : OkT pr 169 g5 (L5 (Kt Kv)) (tl 1 bd) (P1 Kv) := ok_seq (by kernel_rfl) (S2_ok Kv) (B33 Kv)
end utf8_ValidString
def utf8_ValidString (s_2 : ByteArray) (w : World) (K : utf8_ValidString.KT) : Prop :=
  utf8_ValidString.L5 K s_2 w
def utf8_ValidString.cl : CL := fun args K w => match args with
  | [.string x0] => C.utf8_ValidString x0 w (utf8_ValidString.Kt K)
  | _ => False
theorem utf8_ValidString.clok : OkC pr 43 utf8_ValidString.cl := by
  intro args K w h
  unfold utf8_ValidString.cl at h
  split at h
  · exact calls_group mixed utf8_ValidString.FOk_ utf8_ValidString.fn rfl 1 (utf8_ValidString.Q34 K) (Eq.mp (by kernel_rfl) h)
  · exact h.elim

/-! tocsin/vint.Text -/
namespace vint_Text
abbrev KT := ByteArray → Int → Int → World → Prop
def Kt (Kv : Value → World → Prop) : KT := fun s1 n2 n3 w => Kv (.tuple #[(.string s1), (.int .i64 n2), (.int .i64 n3)]) w
noncomputable def bd : Code := bdy Tryd.f36
theorem fn : FnOk pr 36 65 Tryd.f36 := ⟨Tryd.func36, by kernel_rfl, Tryd.ntmps36, by kernel_rfl, by kernel_rfl⟩
def F : Clee := ofL [(21, C.vint_U.cl), (43, C.utf8_ValidString.cl)]
theorem FOk_ : FOk pr F := FOk_cons C.vint_U.clok (FOk_cons C.utf8_ValidString.clok (FOk_nil))
def P1 (Kv : Value → World → Prop) : Post := bodyK pr 65 Tryd.f36 Kv
end vint_Text
def vint_Text (b_4 : Sl) (at_5 : Int) (most_6 : Int) (w : World) (K : vint_Text.KT) : Prop :=
  G.cond (decide (at_5 < (0 : Int))) (K (⟨#[]⟩ : ByteArray) (0 : Int) (1 : Int) w) (G.cond (decide (at_5 > ((b_4.n : Nat) : Int))) (K (⟨#[]⟩ : ByteArray) (0 : Int) (1 : Int) w) (G.cond (decide (most_6 < (0 : Int))) (K (⟨#[]⟩ : ByteArray) (0 : Int) (1 : Int) w) (C.vint_U b_4 at_5 w fun n10 n11 n12 w13 => G.cond (n12 != (0 : Int)) (K (⟨#[]⟩ : ByteArray) (0 : Int) n12 w13) (G.cond (decide (n10 > (IntKind.u64.wrap most_6))) (K (⟨#[]⟩ : ByteArray) (0 : Int) (4 : Int) w13) (G.cond (decide (n10 > (IntKind.u64.wrap (IntKind.i64.wrap (((b_4.n : Nat) : Int) - n11))))) (K (⟨#[]⟩ : ByteArray) (0 : Int) (9 : Int) w13) (G.slc b_4 n11 (IntKind.i64.wrap (n11 + (IntKind.i64.wrap n10))) 1 fun l14 => G.rdS pr (Conv.bytesToString l14.v) w13 fun s15 => C.utf8_ValidString s15 w13 fun b16 w17 => G.cond (!b16) (K (⟨#[]⟩ : ByteArray) (0 : Int) (12 : Int) w17) (K s15 (IntKind.i64.wrap (n11 + (IntKind.i64.wrap n10))) (0 : Int) w17)))))))
def vint_Text.cl : CL := fun args K w => match args with
  | [.slice x0_a x0_n x0_c, .int .i64 x1, .int .i64 x2] => C.vint_Text ⟨x0_a, x0_n, x0_c⟩ x1 x2 w (vint_Text.Kt K)
  | _ => False
theorem vint_Text.clok : OkC pr 36 vint_Text.cl := by
  intro args K w h
  unfold vint_Text.cl at h
  split at h
  · exact calls_last mixed vint_Text.FOk_ vint_Text.fn rfl (Eq.mp (by kernel_rfl) h)
  · exact h.elim

/-! tocsin/tocsinref01.Utf8 -/
namespace tocsinref01_Utf8
abbrev KT := Bool → World → Prop
def Kt (Kv : Value → World → Prop) : KT := fun b1 w => Kv (.bool b1) w
noncomputable def bd : Code := bdy Tryd.f38
theorem fn : FnOk pr 38 98 Tryd.f38 := ⟨Tryd.func38, by kernel_rfl, Tryd.ntmps38, by kernel_rfl, by kernel_rfl⟩
def F : Clee := ofL []
theorem FOk_ : FOk pr F := FOk_nil
def P1 (Kv : Value → World → Prop) : Post := bodyK pr 98 Tryd.f38 Kv
@[reducible] def g2 : List SE := []
def S2 (K : KT) (w : World) : Prop :=
  K true w
theorem S2_ok (Kv : Value → World → Prop) : OkT pr 98 g2 (S2 (Kt Kv)) (s2 (tl 1 bd)) (P1 Kv) := ok_last mixed FOk_ fun v ρ w => by kernel_rfl
def P3 (Kv : Value → World → Prop) : Post := next (get g2 (S2 (Kt Kv))) (P1 Kv)
def P4 (Kv : Value → World → Prop) : Post := inBlock 0 (P3 Kv)
@[reducible] def g5 : List SE := [.v 0 .str, .v 3 (.int .i64)]
def P6 (Kv : Value → World → Prop) (kc5 : Cur g5) : Post := next (get g5 kc5) (P4 Kv)
def P7 (Kv : Value → World → Prop) (kc5 : Cur g5) : Post := inBlock 1 (P6 Kv kc5)
@[reducible] def g8 : List SE := [.v 0 .str, .v 3 (.int .i64), .v 5 (.int .i64), .v 6 (.int .i64), .v 7 (.int .i64)]
def S8 (K : KT) (kc5 : Cur g5) (s_5 : ByteArray) (i_6 : Int) (n_7 : Int) (least_8 : Int) (r_9 : Int) (w : World) : Prop :=
  G.cond (decide (r_9 < least_8)) (K false w) (G.cond (decide (r_9 > (1114111 : Int))) (K false w) (G.cond (decide (r_9 ≥ (55296 : Int))) (G.cond (decide (r_9 < (57344 : Int))) (K false w) (kc5 s_5 (IntKind.i64.wrap ((IntKind.i64.wrap (i_6 + n_7)) + (1 : Int))) w)) (kc5 s_5 (IntKind.i64.wrap ((IntKind.i64.wrap (i_6 + n_7)) + (1 : Int))) w)))
theorem S8_ok (Kv : Value → World → Prop) (kc5 : Cur g5) : OkT pr 98 g8 (S8 (Kt Kv) kc5) (s2 (tl 5 (blk (tl 1 (lp (blk (tl 1 (s1 (tl 1 bd))))))))) (P7 Kv kc5) := ok_last mixed FOk_ fun v ρ w => by kernel_rfl
def P9 (Kv : Value → World → Prop) (kc5 : Cur g5) : Post := next (get g8 (S8 (Kt Kv) kc5)) (P7 Kv kc5)
def P10 (Kv : Value → World → Prop) (kc5 : Cur g5) : Post := inBlock 3 (P9 Kv kc5)
@[reducible] def g11 : List SE := [.v 0 .str, .v 3 (.int .i64), .v 5 (.int .i64), .v 6 (.int .i64), .v 7 (.int .i64), .v 8 (.int .i64)]
def P12 (Kv : Value → World → Prop) (kc5 : Cur g5) (kc11 : Cur g11) : Post := next (get g11 kc11) (P10 Kv kc5)
def S13 (K : KT) (kc5 : Cur g5) (kc11 : Cur g11) (s_16 : ByteArray) (i_17 : Int) (n_18 : Int) (least_19 : Int) (r_20 : Int) (k_21 : Int) (w : World) : Prop :=
  G.cond (decide (k_21 ≤ n_18)) (G.cond (decide ((IntKind.i64.wrap (i_17 + k_21)) ≥ ((s_16.size : Nat) : Int))) (K false w) (G.ixS s_16 (IntKind.i64.wrap (i_17 + k_21)) fun n22 => G.cond ((Go.bits .and .u8 n22 (192 : Int)) != (128 : Int)) (K false w) (G.ixS s_16 (IntKind.i64.wrap (i_17 + k_21)) fun n23 => kc11 s_16 i_17 n_18 least_19 (IntKind.i64.wrap ((IntKind.i64.wrap (r_20 * (64 : Int))) + (IntKind.i64.wrap (Go.bits .and .u8 n23 (63 : Int))))) (IntKind.i64.wrap (k_21 + (1 : Int))) w))) (S8 K kc5 s_16 i_17 n_18 least_19 r_20 w)
theorem S13_ok (Kv : Value → World → Prop) (kc5 : Cur g5) (kc11 : Cur g11) : OkT pr 98 g11 (S13 (Kt Kv) kc5 kc11) (lp (blk (tl 1 (s1 (tl 5 (blk (tl 1 (lp (blk (tl 1 (s1 (tl 1 bd)))))))))))) (P12 Kv kc5 kc11) := ok_last mixed FOk_ fun v ρ w => by kernel_rfl
def L11 (K : KT) (kc5 : Cur g5) : Cur g11 := loopC g11 (S13 K kc5)
theorem L11_ok (Kv : Value → World → Prop) (kc5 : Cur g5) : OkT pr 98 g11 (L11 (Kt Kv) kc5) (blk (tl 1 (s1 (tl 5 (blk (tl 1 (lp (blk (tl 1 (s1 (tl 1 bd))))))))))) (P10 Kv kc5) := ok_loop (B := S13 (Kt Kv) kc5) (by kernel_rfl) fun kc => S13_ok Kv kc5 kc
theorem L11_ind {K : KT} {kc5 : Cur g5} {s_10 : ByteArray} {i_11 : Int} {n_12 : Int} {least_13 : Int} {r_14 : Int} {k_15 : Int} {w : World} (h : ∀ X : Cur g11, (∀ s_10 i_11 n_12 least_13 r_14 k_15 w, S13 K kc5 X s_10 i_11 n_12 least_13 r_14 k_15 w → X s_10 i_11 n_12 least_13 r_14 k_15 w) → X s_10 i_11 n_12 least_13 r_14 k_15 w) : L11 K kc5 s_10 i_11 n_12 least_13 r_14 k_15 w := fun X hX => h X fun s_10 i_11 n_12 least_13 r_14 k_15 w hb => hX (s_10, i_11, n_12, least_13, r_14, k_15, ()) w hb
theorem B14 (Kv : Value → World → Prop) (kc5 : Cur g5) : OkT pr 98 g11 (L11 (Kt Kv) kc5) (tl 1 (s1 (tl 5 (blk (tl 1 (lp (blk (tl 1 (s1 (tl 1 bd)))))))))) (P9 Kv kc5) := ok_block 3 (by kernel_rfl) (L11_ok Kv kc5)
def S15 (K : KT) (kc5 : Cur g5) (s_24 : ByteArray) (i_25 : Int) (n_26 : Int) (least_27 : Int) (r_28 : Int) (w : World) : Prop :=
  L11 K kc5 s_24 i_25 n_26 least_27 r_28 (1 : Int) w
theorem S15_ok (Kv : Value → World → Prop) (kc5 : Cur g5) : OkT pr 98 g8 (S15 (Kt Kv) kc5) (s1 (tl 5 (blk (tl 1 (lp (blk (tl 1 (s1 (tl 1 bd))))))))) (P9 Kv kc5) := ok_group mixed FOk_ 1 (B14 Kv kc5) fun v ρ w => by kernel_rfl
theorem Q16 (Kv : Value → World → Prop) (kc5 : Cur g5) : OkT pr 98 g8 (S15 (Kt Kv) kc5) (tl 5 (blk (tl 1 (lp (blk (tl 1 (s1 (tl 1 bd)))))))) (P7 Kv kc5) := ok_seq (by kernel_rfl) (S8_ok Kv kc5) (S15_ok Kv kc5)
def S17 (K : KT) (kc5 : Cur g5) (s_29 : ByteArray) (i_30 : Int) (w : World) : Prop :=
  G.ixS s_29 i_30 fun n31 => G.cond (decide ((IntKind.i64.wrap n31) < (128 : Int))) (kc5 s_29 (IntKind.i64.wrap (i_30 + (1 : Int))) w) (G.cond (decide ((IntKind.i64.wrap n31) ≥ (194 : Int))) (G.cond (decide ((IntKind.i64.wrap n31) < (224 : Int))) (S15 K kc5 s_29 i_30 (1 : Int) (128 : Int) (Go.bits .and .i64 (IntKind.i64.wrap n31) (31 : Int)) w) (G.cond (decide ((IntKind.i64.wrap n31) ≥ (224 : Int))) (G.cond (decide ((IntKind.i64.wrap n31) < (240 : Int))) (S15 K kc5 s_29 i_30 (2 : Int) (2048 : Int) (Go.bits .and .i64 (IntKind.i64.wrap n31) (15 : Int)) w) (G.cond (decide ((IntKind.i64.wrap n31) ≥ (240 : Int))) (G.cond (decide ((IntKind.i64.wrap n31) < (245 : Int))) (S15 K kc5 s_29 i_30 (3 : Int) (65536 : Int) (Go.bits .and .i64 (IntKind.i64.wrap n31) (7 : Int)) w) (K false w)) (K false w))) (G.cond (decide ((IntKind.i64.wrap n31) ≥ (240 : Int))) (G.cond (decide ((IntKind.i64.wrap n31) < (245 : Int))) (S15 K kc5 s_29 i_30 (3 : Int) (65536 : Int) (Go.bits .and .i64 (IntKind.i64.wrap n31) (7 : Int)) w) (K false w)) (K false w)))) (G.cond (decide ((IntKind.i64.wrap n31) ≥ (224 : Int))) (G.cond (decide ((IntKind.i64.wrap n31) < (240 : Int))) (S15 K kc5 s_29 i_30 (2 : Int) (2048 : Int) (Go.bits .and .i64 (IntKind.i64.wrap n31) (15 : Int)) w) (G.cond (decide ((IntKind.i64.wrap n31) ≥ (240 : Int))) (G.cond (decide ((IntKind.i64.wrap n31) < (245 : Int))) (S15 K kc5 s_29 i_30 (3 : Int) (65536 : Int) (Go.bits .and .i64 (IntKind.i64.wrap n31) (7 : Int)) w) (K false w)) (K false w))) (G.cond (decide ((IntKind.i64.wrap n31) ≥ (240 : Int))) (G.cond (decide ((IntKind.i64.wrap n31) < (245 : Int))) (S15 K kc5 s_29 i_30 (3 : Int) (65536 : Int) (Go.bits .and .i64 (IntKind.i64.wrap n31) (7 : Int)) w) (K false w)) (K false w))))
theorem S17_ok (Kv : Value → World → Prop) (kc5 : Cur g5) : OkT pr 98 g5 (S17 (Kt Kv) kc5) (blk (tl 1 (lp (blk (tl 1 (s1 (tl 1 bd))))))) (P7 Kv kc5) := ok_group mixed FOk_ 5 (Q16 Kv kc5) fun v ρ w => by kernel_rfl
theorem B18 (Kv : Value → World → Prop) (kc5 : Cur g5) : OkT pr 98 g5 (S17 (Kt Kv) kc5) (tl 1 (lp (blk (tl 1 (s1 (tl 1 bd)))))) (P6 Kv kc5) := ok_block 1 (by kernel_rfl) (S17_ok Kv kc5)
def S19 (K : KT) (kc5 : Cur g5) (s_32 : ByteArray) (i_33 : Int) (w : World) : Prop :=
  G.cond (decide (i_33 < ((s_32.size : Nat) : Int))) (S17 K kc5 s_32 i_33 w) (S2 K w)
theorem S19_ok (Kv : Value → World → Prop) (kc5 : Cur g5) : OkT pr 98 g5 (S19 (Kt Kv) kc5) (lp (blk (tl 1 (s1 (tl 1 bd))))) (P6 Kv kc5) := ok_group mixed FOk_ 1 (B18 Kv kc5) fun v ρ w => by kernel_rfl
def L5 (K : KT) : Cur g5 := loopC g5 (S19 K)
theorem L5_ok (Kv : Value → World → Prop) : OkT pr 98 g5 (L5 (Kt Kv)) (blk (tl 1 (s1 (tl 1 bd)))) (P4 Kv) := ok_loop (B := S19 (Kt Kv)) (by kernel_rfl) fun kc => S19_ok Kv kc
theorem L5_ind {K : KT} {s_3 : ByteArray} {i_4 : Int} {w : World} (h : ∀ X : Cur g5, (∀ s_3 i_4 w, S19 K X s_3 i_4 w → X s_3 i_4 w) → X s_3 i_4 w) : L5 K s_3 i_4 w := fun X hX => h X fun s_3 i_4 w hb => hX (s_3, i_4, ()) w hb
theorem B20 (Kv : Value → World → Prop) : OkT pr 98 g5 (L5 (Kt Kv)) (tl 1 (s1 (tl 1 bd))) (P3 Kv) := ok_block 0 (by kernel_rfl) (L5_ok Kv)
@[reducible] def g21 : List SE := [.v 0 .str]
def S21 (K : KT) (s_34 : ByteArray) (w : World) : Prop :=
  L5 K s_34 (0 : Int) w
theorem S21_ok (Kv : Value → World → Prop) : OkT pr 98 g21 (S21 (Kt Kv)) (s1 (tl 1 bd)) (P3 Kv) := ok_group mixed FOk_ 1 (B20 Kv) fun v ρ w => by kernel_rfl
theorem Q22 (Kv : Value → World → Prop) : OkT pr 98 g21 (S21 (Kt Kv)) (tl 1 bd) (P1 Kv) := ok_seq (by kernel_rfl) (S2_ok Kv) (S21_ok Kv)
end tocsinref01_Utf8
def tocsinref01_Utf8 (s_2 : ByteArray) (w : World) (K : tocsinref01_Utf8.KT) : Prop :=
  tocsinref01_Utf8.S21 K s_2 w
def tocsinref01_Utf8.cl : CL := fun args K w => match args with
  | [.string x0] => C.tocsinref01_Utf8 x0 w (tocsinref01_Utf8.Kt K)
  | _ => False
theorem tocsinref01_Utf8.clok : OkC pr 38 tocsinref01_Utf8.cl := by
  intro args K w h
  unfold tocsinref01_Utf8.cl at h
  split at h
  · exact calls_group mixed tocsinref01_Utf8.FOk_ tocsinref01_Utf8.fn rfl 1 (tocsinref01_Utf8.Q22 K) (Eq.mp (by kernel_rfl) h)
  · exact h.elim

/-! tocsin/tocsinref01.Text -/
namespace tocsinref01_Text
abbrev KT := ByteArray → Int → Int → World → Prop
def Kt (Kv : Value → World → Prop) : KT := fun s1 n2 n3 w => Kv (.tuple #[(.string s1), (.int .i64 n2), (.int .i64 n3)]) w
noncomputable def bd : Code := bdy Tryd.f37
theorem fn : FnOk pr 37 62 Tryd.f37 := ⟨Tryd.func37, by kernel_rfl, Tryd.ntmps37, by kernel_rfl, by kernel_rfl⟩
def F : Clee := ofL [(22, C.tocsinref01_U.cl), (38, C.tocsinref01_Utf8.cl)]
theorem FOk_ : FOk pr F := FOk_cons C.tocsinref01_U.clok (FOk_cons C.tocsinref01_Utf8.clok (FOk_nil))
def P1 (Kv : Value → World → Prop) : Post := bodyK pr 62 Tryd.f37 Kv
end tocsinref01_Text
def tocsinref01_Text (b_4 : Sl) (at_5 : Int) (most_6 : Int) (w : World) (K : tocsinref01_Text.KT) : Prop :=
  G.cond (decide (at_5 < (0 : Int))) (K (⟨#[]⟩ : ByteArray) (0 : Int) (1 : Int) w) (G.cond (decide (at_5 > ((b_4.n : Nat) : Int))) (K (⟨#[]⟩ : ByteArray) (0 : Int) (1 : Int) w) (G.cond (decide (most_6 < (0 : Int))) (K (⟨#[]⟩ : ByteArray) (0 : Int) (1 : Int) w) (C.tocsinref01_U b_4 at_5 w fun n7 n8 n9 w10 => G.cond (n9 != (0 : Int)) (K (⟨#[]⟩ : ByteArray) (0 : Int) n9 w10) (G.cond (decide (n7 > (IntKind.u64.wrap most_6))) (K (⟨#[]⟩ : ByteArray) (0 : Int) (4 : Int) w10) (G.cond (decide (n7 > (IntKind.u64.wrap (IntKind.i64.wrap (((b_4.n : Nat) : Int) - n8))))) (K (⟨#[]⟩ : ByteArray) (0 : Int) (9 : Int) w10) (G.slc b_4 n8 (IntKind.i64.wrap (n8 + (IntKind.i64.wrap n7))) 1 fun l11 => G.rdS pr (Conv.bytesToString l11.v) w10 fun s12 => C.tocsinref01_Utf8 s12 w10 fun b13 w14 => G.cond (!b13) (K (⟨#[]⟩ : ByteArray) (0 : Int) (12 : Int) w14) (K s12 (IntKind.i64.wrap (n8 + (IntKind.i64.wrap n7))) (0 : Int) w14)))))))
def tocsinref01_Text.cl : CL := fun args K w => match args with
  | [.slice x0_a x0_n x0_c, .int .i64 x1, .int .i64 x2] => C.tocsinref01_Text ⟨x0_a, x0_n, x0_c⟩ x1 x2 w (tocsinref01_Text.Kt K)
  | _ => False
theorem tocsinref01_Text.clok : OkC pr 37 tocsinref01_Text.cl := by
  intro args K w h
  unfold tocsinref01_Text.cl at h
  split at h
  · exact calls_last mixed tocsinref01_Text.FOk_ tocsinref01_Text.fn rfl (Eq.mp (by kernel_rfl) h)
  · exact h.elim

/-! tocsin/tocsinlaw01.VintTexts -/
namespace tocsinlaw01_VintTexts
abbrev KT := Bool → World → Prop
def Kt (Kv : Value → World → Prop) : KT := fun b1 w => Kv (.bool b1) w
noncomputable def bd : Code := bdy Tryd.f7
theorem fn : FnOk pr 7 67 Tryd.f7 := ⟨Tryd.func7, by kernel_rfl, Tryd.ntmps7, by kernel_rfl, by kernel_rfl⟩
def F : Clee := ofL [(13, C.tocsinlaw01_known.cl), (14, C.tocsinref01_Lent.cl), (17, C.tocsinref01_Same.cl), (20, C.tocsinref01_Spoil.cl), (25, C.tocsinref01_Kept.cl), (34, C.vint_PutText.cl), (35, C.tocsinref01_PutText.cl), (36, C.vint_Text.cl), (37, C.tocsinref01_Text.cl)]
theorem FOk_ : FOk pr F := FOk_cons C.tocsinlaw01_known.clok (FOk_cons C.tocsinref01_Lent.clok (FOk_cons C.tocsinref01_Same.clok (FOk_cons C.tocsinref01_Spoil.clok (FOk_cons C.tocsinref01_Kept.clok (FOk_cons C.vint_PutText.clok (FOk_cons C.tocsinref01_PutText.clok (FOk_cons C.vint_Text.clok (FOk_cons C.tocsinref01_Text.clok (FOk_nil)))))))))
def P1 (Kv : Value → World → Prop) : Post := bodyK pr 67 Tryd.f7 Kv
end tocsinlaw01_VintTexts
def tocsinlaw01_VintTexts (b_2 : Sl) (s_3 : ByteArray) (at_4 : Int) (most_5 : Int) (w : World) (K : tocsinlaw01_VintTexts.KT) : Prop :=
  C.tocsinref01_Lent b_2 w fun l6 w7 => C.vint_PutText l6 s_3 w7 fun l8 w9 => C.tocsinref01_PutText b_2 s_3 w9 fun l10 w11 => C.tocsinref01_Same l8 l10 w11 fun b12 w13 => G.cond (!b12) (K false w13) (C.tocsinref01_Spoil l8 w13 fun w14 => C.vint_Text l6 at_4 most_5 w14 fun s15 n16 n17 w18 => C.tocsinref01_Text b_2 at_4 most_5 w18 fun s19 n20 n21 w22 => G.cond (s15.toList == s19.toList) (G.cond (n16 == n20) (G.cond (n17 == n21) (C.tocsinref01_Kept l6 b_2 w22 fun b23 w24 => G.cond b23 (C.tocsinlaw01_known w24 fun b25 w26 => K b25 w26) (K false w24)) (K false w22)) (K false w22)) (K false w22))
def tocsinlaw01_VintTexts.cl : CL := fun args K w => match args with
  | [.slice x0_a x0_n x0_c, .string x1, .int .i64 x2, .int .i64 x3] => C.tocsinlaw01_VintTexts ⟨x0_a, x0_n, x0_c⟩ x1 x2 x3 w (tocsinlaw01_VintTexts.Kt K)
  | _ => False
theorem tocsinlaw01_VintTexts.clok : OkC pr 7 tocsinlaw01_VintTexts.cl := by
  intro args K w h
  unfold tocsinlaw01_VintTexts.cl at h
  split at h
  · exact calls_last mixed tocsinlaw01_VintTexts.FOk_ tocsinlaw01_VintTexts.fn rfl (Eq.mp (by kernel_rfl) h)
  · exact h.elim

/-! tocsin/tocsinlaw01.VintBack -/
namespace tocsinlaw01_VintBack
abbrev KT := Bool → World → Prop
def Kt (Kv : Value → World → Prop) : KT := fun b1 w => Kv (.bool b1) w
noncomputable def bd : Code := bdy Tryd.f8
theorem fn : FnOk pr 8 170 Tryd.f8 := ⟨Tryd.func8, by kernel_rfl, Tryd.ntmps8, by kernel_rfl, by kernel_rfl⟩
def F : Clee := ofL [(13, C.tocsinlaw01_known.cl), (15, C.vint_PutU.cl), (16, C.vint_PutI.cl), (17, C.tocsinref01_Same.cl), (21, C.vint_U.cl), (23, C.vint_I.cl), (26, C.vint_PutFrame.cl), (28, C.vint_Frame.cl), (34, C.vint_PutText.cl), (36, C.vint_Text.cl), (38, C.tocsinref01_Utf8.cl)]
theorem FOk_ : FOk pr F := FOk_cons C.tocsinlaw01_known.clok (FOk_cons C.vint_PutU.clok (FOk_cons C.vint_PutI.clok (FOk_cons C.tocsinref01_Same.clok (FOk_cons C.vint_U.clok (FOk_cons C.vint_I.clok (FOk_cons C.vint_PutFrame.clok (FOk_cons C.vint_Frame.clok (FOk_cons C.vint_PutText.clok (FOk_cons C.vint_Text.clok (FOk_cons C.tocsinref01_Utf8.clok (FOk_nil)))))))))))
def P1 (Kv : Value → World → Prop) : Post := bodyK pr 170 Tryd.f8 Kv
end tocsinlaw01_VintBack
def tocsinlaw01_VintBack (b_2 : Sl) (n_3 : Int) (m_4 : Int) (p_5 : Sl) (at_6 : Int) (w : World) (K : tocsinlaw01_VintBack.KT) : Prop :=
  C.vint_PutU b_2 n_3 w fun l7 w8 => C.vint_U l7 ((b_2.n : Nat) : Int) w8 fun n9 n10 n11 w12 => C.vint_PutI b_2 m_4 w12 fun l13 w14 => C.vint_I l13 ((b_2.n : Nat) : Int) w14 fun n15 n16 n17 w18 => G.cond (n9 != n_3) (K false w18) (G.cond (n10 != ((l7.n : Nat) : Int)) (K false w18) (G.cond (n11 != (0 : Int)) (K false w18) (G.cond (n15 != m_4) (K false w18) (G.cond (n16 != ((l13.n : Nat) : Int)) (K false w18) (G.cond (n17 != (0 : Int)) (K false w18) (C.vint_PutFrame b_2 p_5 w18 fun l19 n20 w21 => G.cond (n20 == (0 : Int)) (C.vint_Frame l19 ((b_2.n : Nat) : Int) w21 fun l22 n23 n24 w25 => G.cond (n24 != (0 : Int)) (K false w25) (G.cond (n23 != ((l19.n : Nat) : Int)) (K false w25) (C.tocsinref01_Same l22 p_5 w25 fun b26 w27 => G.cond (!b26) (K false w27) (G.rdS pr (Conv.bytesToString p_5.v) w27 fun s28 => C.vint_PutText b_2 s28 w27 fun l29 w30 => C.vint_Text l29 ((b_2.n : Nat) : Int) ((s28.size : Nat) : Int) w30 fun s31 n32 n33 w34 => C.tocsinref01_Utf8 s28 w34 fun b35 w36 => G.cond (!(b35 == (n33 == (0 : Int)))) (K false w36) (G.cond (n33 == (0 : Int)) (G.cond (!(s31.toList == s28.toList)) (K false w36) (G.cond (decide (n32 ≤ ((b_2.n : Nat) : Int))) (K false w36) (C.vint_U b_2 at_6 w36 fun n37 n38 n39 w40 => G.cond (n39 == (0 : Int)) (G.cond (decide (n38 ≤ at_6)) (K false w40.drew) (G.cond (decide (n38 > ((b_2.n : Nat) : Int))) (K false w40.drew) (G.slc b_2 at_6 n38 1 fun l41 => C.vint_PutU nilS n37 w40.drew fun l42 w43 => C.tocsinref01_Same l42 l41 w43 fun b44 w45 => G.cond (!b44) (K false w45) (C.tocsinlaw01_known w45 fun b46 w47 => K b46 w47)))) (C.tocsinlaw01_known w40 fun b48 w49 => K b48 w49)))) (C.vint_U b_2 at_6 w36 fun n50 n51 n52 w53 => G.cond (n52 == (0 : Int)) (G.cond (decide (n51 ≤ at_6)) (K false w53.drew) (G.cond (decide (n51 > ((b_2.n : Nat) : Int))) (K false w53.drew) (G.slc b_2 at_6 n51 1 fun l54 => C.vint_PutU nilS n50 w53.drew fun l55 w56 => C.tocsinref01_Same l55 l54 w56 fun b57 w58 => G.cond (!b57) (K false w58) (C.tocsinlaw01_known w58 fun b59 w60 => K b59 w60)))) (C.tocsinlaw01_known w53 fun b61 w62 => K b61 w62))))))) (G.rdS pr (Conv.bytesToString p_5.v) w21 fun s63 => C.vint_PutText b_2 s63 w21 fun l64 w65 => C.vint_Text l64 ((b_2.n : Nat) : Int) ((s63.size : Nat) : Int) w65 fun s66 n67 n68 w69 => C.tocsinref01_Utf8 s63 w69 fun b70 w71 => G.cond (!(b70 == (n68 == (0 : Int)))) (K false w71) (G.cond (n68 == (0 : Int)) (G.cond (!(s66.toList == s63.toList)) (K false w71) (G.cond (decide (n67 ≤ ((b_2.n : Nat) : Int))) (K false w71) (C.vint_U b_2 at_6 w71 fun n72 n73 n74 w75 => G.cond (n74 == (0 : Int)) (G.cond (decide (n73 ≤ at_6)) (K false w75.drew) (G.cond (decide (n73 > ((b_2.n : Nat) : Int))) (K false w75.drew) (G.slc b_2 at_6 n73 1 fun l76 => C.vint_PutU nilS n72 w75.drew fun l77 w78 => C.tocsinref01_Same l77 l76 w78 fun b79 w80 => G.cond (!b79) (K false w80) (C.tocsinlaw01_known w80 fun b81 w82 => K b81 w82)))) (C.tocsinlaw01_known w75 fun b83 w84 => K b83 w84)))) (C.vint_U b_2 at_6 w71 fun n85 n86 n87 w88 => G.cond (n87 == (0 : Int)) (G.cond (decide (n86 ≤ at_6)) (K false w88.drew) (G.cond (decide (n86 > ((b_2.n : Nat) : Int))) (K false w88.drew) (G.slc b_2 at_6 n86 1 fun l89 => C.vint_PutU nilS n85 w88.drew fun l90 w91 => C.tocsinref01_Same l90 l89 w91 fun b92 w93 => G.cond (!b92) (K false w93) (C.tocsinlaw01_known w93 fun b94 w95 => K b94 w95)))) (C.tocsinlaw01_known w88 fun b96 w97 => K b96 w97))))))))))
def tocsinlaw01_VintBack.cl : CL := fun args K w => match args with
  | [.slice x0_a x0_n x0_c, .int .u64 x1, .int .i64 x2, .slice x3_a x3_n x3_c, .int .i64 x4] => C.tocsinlaw01_VintBack ⟨x0_a, x0_n, x0_c⟩ x1 x2 ⟨x3_a, x3_n, x3_c⟩ x4 w (tocsinlaw01_VintBack.Kt K)
  | _ => False
theorem tocsinlaw01_VintBack.clok : OkC pr 8 tocsinlaw01_VintBack.cl := by
  intro args K w h
  unfold tocsinlaw01_VintBack.cl at h
  split at h
  · exact calls_last mixed tocsinlaw01_VintBack.FOk_ tocsinlaw01_VintBack.fn rfl (Eq.mp (by kernel_rfl) h)
  · exact h.elim
end C
end Go.Proofs.YtpgpdeojggcibaaDoor
