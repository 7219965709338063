/- Clean texts of Go functions, written by a program of this work (gen.py) off the loaded code, each shown to be what the code does. -/
import Derived.Test.YtkeabflhjjpmmaaDoorProg
import Derived.Test.YtkeabflhjjpmmaaDoorVmLift
import Derived.Laws.LoneSync
set_option linter.unusedVariables false
set_option maxRecDepth 100000
namespace Go.Proofs.YtkeabflhjjpmmaaDoor
open Go Vm
namespace C
noncomputable abbrev pr : Program := Tryd.prog
theorem mixed : pr.follows .mixedOrders = true := by kernel_rfl
/-! tocsin/head.New -/
namespace head_New
abbrev KT := Option Addr → World → Prop
def Kt (Kv : Value → World → Prop) : KT := fun p1 w => Kv (.pointer p1) w
noncomputable def bd : Code := bdy Tryd.f4
theorem fn : FnOk pr 4 24 Tryd.f4 := ⟨Tryd.func4, by kernel_rfl, Tryd.ntmps4, by kernel_rfl, by kernel_rfl⟩
def F : Clee := ofL []
theorem FOk_ : FOk pr F := FOk_nil
def P1 (Kv : Value → World → Prop) : Post := bodyK false pr 24 Tryd.f4 Kv
end head_New
def head_New (series_2 : Int) (samples_3 : Int) (w : World) (K : head_New.KT) : Prop :=
  G.cond (decide (series_2 < (1 : Int))) (K none w) (G.cond (decide (series_2 > (1000 : Int))) (K none w) (G.cond (decide (samples_3 < (1 : Int))) (K none w) (G.cond (decide (samples_3 > (100000 : Int))) (K none w) (G.runM pr (Instr.makeMap 37 none) w fun m4 w5 => G.new (.cells #[(.int .i64 series_2), (.int .i64 samples_3), (.map m4), (.int .i64 (0 : Int)), (.int .i64 (0 : Int)), (.int .i64 (0 : Int))] 44) w5 fun p6 w7 => K (some p6) w7))))
def head_New.cl : CL := fun args K w => match args with
  | [.int .i64 x0, .int .i64 x1] => C.head_New x0 x1 w (head_New.Kt K)
  | _ => False
theorem head_New.clok : OkC pr 4 head_New.cl := by
  intro args K w h
  unfold head_New.cl at h
  split at h
  · exact calls_last false mixed head_New.FOk_ head_New.fn rfl (Eq.mp (by kernel_rfl) h)
  · exact h.elim

/-! tocsin/labels.digit -/
namespace labels_digit
abbrev KT := Bool → World → Prop
def Kt (Kv : Value → World → Prop) : KT := fun b1 w => Kv (.bool b1) w
noncomputable def bd : Code := bdy Tryd.f32
theorem fn : FnOk pr 32 9 Tryd.f32 := ⟨Tryd.func32, by kernel_rfl, Tryd.ntmps32, by kernel_rfl, by kernel_rfl⟩
def F : Clee := ofL []
theorem FOk_ : FOk pr F := FOk_nil
def P1 (Kv : Value → World → Prop) : Post := bodyK false pr 9 Tryd.f32 Kv
end labels_digit
def labels_digit (c_2 : Int) (w : World) (K : labels_digit.KT) : Prop :=
  G.cond (decide (c_2 ≥ (48 : Int))) (K (decide (c_2 ≤ (57 : Int))) w) (K false w)
def labels_digit.cl : CL := fun args K w => match args with
  | [.int .u8 x0] => C.labels_digit x0 w (labels_digit.Kt K)
  | _ => False
theorem labels_digit.clok : OkC pr 32 labels_digit.cl := by
  intro args K w h
  unfold labels_digit.cl at h
  split at h
  · exact calls_last false mixed labels_digit.FOk_ labels_digit.fn rfl (Eq.mp (by kernel_rfl) h)
  · exact h.elim

/-! tocsin/labels.letter -/
namespace labels_letter
abbrev KT := Bool → World → Prop
def Kt (Kv : Value → World → Prop) : KT := fun b1 w => Kv (.bool b1) w
noncomputable def bd : Code := bdy Tryd.f33
theorem fn : FnOk pr 33 21 Tryd.f33 := ⟨Tryd.func33, by kernel_rfl, Tryd.ntmps33, by kernel_rfl, by kernel_rfl⟩
def F : Clee := ofL []
theorem FOk_ : FOk pr F := FOk_nil
def P1 (Kv : Value → World → Prop) : Post := bodyK false pr 21 Tryd.f33 Kv
end labels_letter
def labels_letter (c_2 : Int) (w : World) (K : labels_letter.KT) : Prop :=
  G.cond (decide (c_2 ≥ (97 : Int))) (G.cond (decide (c_2 ≤ (122 : Int))) (K true w) (G.cond (decide (c_2 ≥ (65 : Int))) (G.cond (decide (c_2 ≤ (90 : Int))) (K true w) (K (c_2 == (95 : Int)) w)) (K (c_2 == (95 : Int)) w))) (G.cond (decide (c_2 ≥ (65 : Int))) (G.cond (decide (c_2 ≤ (90 : Int))) (K true w) (K (c_2 == (95 : Int)) w)) (K (c_2 == (95 : Int)) w))
def labels_letter.cl : CL := fun args K w => match args with
  | [.int .u8 x0] => C.labels_letter x0 w (labels_letter.Kt K)
  | _ => False
theorem labels_letter.clok : OkC pr 33 labels_letter.cl := by
  intro args K w h
  unfold labels_letter.cl at h
  split at h
  · exact calls_last false mixed labels_letter.FOk_ labels_letter.fn rfl (Eq.mp (by kernel_rfl) h)
  · exact h.elim

/-! tocsin/labels.named -/
namespace labels_named
abbrev KT := Bool → World → Prop
def Kt (Kv : Value → World → Prop) : KT := fun b1 w => Kv (.bool b1) w
noncomputable def bd : Code := bdy Tryd.f26
theorem fn : FnOk pr 26 46 Tryd.f26 := ⟨Tryd.func26, by kernel_rfl, Tryd.ntmps26, by kernel_rfl, by kernel_rfl⟩
def F : Clee := ofL [(32, C.labels_digit.cl), (33, C.labels_letter.cl)]
theorem FOk_ : FOk pr F := FOk_cons C.labels_digit.clok (FOk_cons C.labels_letter.clok (FOk_nil))
def P1 (Kv : Value → World → Prop) : Post := bodyK false pr 46 Tryd.f26 Kv
@[reducible] def g2 : List SE := []
def S2 (K : KT) (w : World) : Prop :=
  K true w
theorem S2_ok (Kv : Value → World → Prop) : OkT pr false none 46 g2 (S2 (Kt Kv)) (s2 (tl 2 bd)) (P1 Kv) := ok_last mixed FOk_ fun v ρ w => by kernel_rfl
def P3 (Kv : Value → World → Prop) : Post := next (get g2 (S2 (Kt Kv))) (P1 Kv)
def P4 (Kv : Value → World → Prop) : Post := inBlock 0 (P3 Kv)
@[reducible] def g5 : List SE := [.v 2 .bool, .v 23 .sl, .v 24 (.int .i64), .v 25 (.int .i64)]
def P6 (Kv : Value → World → Prop) (kc5 : Cur g5) : Post := next (get g5 kc5) (P4 Kv)
def S7 (K : KT) (kc5 : Cur g5) (colon_13 : Bool) (l14 : Sl) (n15 : Int) (n16 : Int) (w : World) : Prop :=
  G.cond (decide (n16 < n15)) (G.ix l14.a l14.n n16 1 fun p17 => G.cI .u8 p17 w fun n18 => C.labels_letter n18 w fun b19 w20 => G.cond (!b19) (C.labels_digit n18 w20 fun b21 w22 => G.cond (!b21) (G.cond colon_13 (G.cond (!(n18 == (58 : Int))) (K false w22) (kc5 colon_13 l14 n15 (IntKind.i64.wrap (n16 + (1 : Int))) w22)) (K false w22)) (kc5 colon_13 l14 n15 (IntKind.i64.wrap (n16 + (1 : Int))) w22)) (kc5 colon_13 l14 n15 (IntKind.i64.wrap (n16 + (1 : Int))) w20)) (S2 K w)
theorem S7_ok (Kv : Value → World → Prop) (kc5 : Cur g5) : OkT pr false none 46 g5 (S7 (Kt Kv) kc5) (lp (blk (tl 1 (s1 (tl 2 bd))))) (P6 Kv kc5) := ok_last mixed FOk_ fun v ρ w => by kernel_rfl
def L5 (K : KT) : Cur g5 := loopC g5 (S7 K)
theorem L5_ok (Kv : Value → World → Prop) : OkT pr false none 46 g5 (L5 (Kt Kv)) (blk (tl 1 (s1 (tl 2 bd)))) (P4 Kv) := ok_loop (B := S7 (Kt Kv)) (by kernel_rfl) fun kc => S7_ok Kv kc
theorem L5_ind {K : KT} {colon_5 : Bool} {l6 : Sl} {n7 : Int} {n8 : Int} {w : World} (h : ∀ X : Cur g5, (∀ colon_5 l6 n7 n8 w, S7 K X colon_5 l6 n7 n8 w → X colon_5 l6 n7 n8 w) → X colon_5 l6 n7 n8 w) : L5 K colon_5 l6 n7 n8 w := fun X hX => h X fun colon_5 l6 n7 n8 w hb => hX (colon_5, l6, n7, n8, ()) w hb
theorem B8 (Kv : Value → World → Prop) : OkT pr false none 46 g5 (L5 (Kt Kv)) (tl 1 (s1 (tl 2 bd))) (P3 Kv) := ok_block 0 (by kernel_rfl) (L5_ok Kv)
@[reducible] def g9 : List SE := [.v 0 .str, .v 2 .bool]
def S9 (K : KT) (s_23 : ByteArray) (colon_24 : Bool) (w : World) : Prop :=
  G.runSl pr (Go.convert 9 66 (.string s_23)) w fun l25 w26 => L5 K colon_24 l25 ((l25.n : Nat) : Int) (0 : Int) w26
theorem S9_ok (Kv : Value → World → Prop) : OkT pr false none 46 g9 (S9 (Kt Kv)) (s1 (tl 2 bd)) (P3 Kv) := ok_group mixed FOk_ 1 (B8 Kv) fun v ρ w => by kernel_rfl
theorem Q10 (Kv : Value → World → Prop) : OkT pr false none 46 g9 (S9 (Kt Kv)) (tl 2 bd) (P1 Kv) := ok_seq (by kernel_rfl) (S2_ok Kv) (S9_ok Kv)
end labels_named
def labels_named (s_2 : ByteArray) (most_3 : Int) (colon_4 : Bool) (w : World) (K : labels_named.KT) : Prop :=
  G.cond (s_2.toList == (⟨#[]⟩ : ByteArray).toList) (K false w) (G.cond (decide (((s_2.size : Nat) : Int) > most_3)) (K false w) (G.ixS s_2 (0 : Int) fun n27 => C.labels_digit n27 w fun b28 w29 => G.cond b28 (K false w29) (labels_named.S9 K s_2 colon_4 w29)))
def labels_named.cl : CL := fun args K w => match args with
  | [.string x0, .int .i64 x1, .bool x2] => C.labels_named x0 x1 x2 w (labels_named.Kt K)
  | _ => False
theorem labels_named.clok : OkC pr 26 labels_named.cl := by
  intro args K w h
  unfold labels_named.cl at h
  split at h
  · exact calls_group false mixed labels_named.FOk_ labels_named.fn rfl 2 (labels_named.Q10 K) (Eq.mp (by kernel_rfl) h)
  · exact h.elim

/-! tocsin/labels.Name -/
namespace labels_Name
abbrev KT := Bool → World → Prop
def Kt (Kv : Value → World → Prop) : KT := fun b1 w => Kv (.bool b1) w
noncomputable def bd : Code := bdy Tryd.f20
theorem fn : FnOk pr 20 5 Tryd.f20 := ⟨Tryd.func20, by kernel_rfl, Tryd.ntmps20, by kernel_rfl, by kernel_rfl⟩
def F : Clee := ofL [(26, C.labels_named.cl)]
theorem FOk_ : FOk pr F := FOk_cons C.labels_named.clok (FOk_nil)
def P1 (Kv : Value → World → Prop) : Post := bodyK false pr 5 Tryd.f20 Kv
end labels_Name
def labels_Name (s_2 : ByteArray) (w : World) (K : labels_Name.KT) : Prop :=
  C.labels_named s_2 (64 : Int) false w fun b3 w4 => K b3 w4
def labels_Name.cl : CL := fun args K w => match args with
  | [.string x0] => C.labels_Name x0 w (labels_Name.Kt K)
  | _ => False
theorem labels_Name.clok : OkC pr 20 labels_Name.cl := by
  intro args K w h
  unfold labels_Name.cl at h
  split at h
  · exact calls_last false mixed labels_Name.FOk_ labels_Name.fn rfl (Eq.mp (by kernel_rfl) h)
  · exact h.elim

/-! unicode/utf8.word[string] -/
namespace utf8_word_string
abbrev KT := Int → World → Prop
def Kt (Kv : Value → World → Prop) : KT := fun n1 w => Kv (.int .u64 n1) w
noncomputable def bd : Code := bdy Tryd.f34
theorem fn : FnOk pr 34 59 Tryd.f34 := ⟨Tryd.func34, by kernel_rfl, Tryd.ntmps34, by kernel_rfl, by kernel_rfl⟩
def F : Clee := ofL []
theorem FOk_ : FOk pr F := FOk_nil
def P1 (Kv : Value → World → Prop) : Post := bodyK false pr 59 Tryd.f34 Kv
end utf8_word_string
def utf8_word_string (s_2 : ByteArray) (w : World) (K : utf8_word_string.KT) : Prop :=
  G.ixS s_2 (0 : Int) fun n4 => G.ixS s_2 (1 : Int) fun n5 => G.nn (8 : Int) <| G.ixS s_2 (2 : Int) fun n6 => G.nn (16 : Int) <| G.ixS s_2 (3 : Int) fun n7 => G.nn (24 : Int) <| G.ixS s_2 (4 : Int) fun n8 => G.nn (32 : Int) <| G.ixS s_2 (5 : Int) fun n9 => G.nn (40 : Int) <| G.ixS s_2 (6 : Int) fun n10 => G.nn (48 : Int) <| G.ixS s_2 (7 : Int) fun n11 => G.nn (56 : Int) <| K (Go.bits .or .u64 (Go.bits .or .u64 (Go.bits .or .u64 (Go.bits .or .u64 (Go.bits .or .u64 (Go.bits .or .u64 (Go.bits .or .u64 (IntKind.u64.wrap n4) (shl .u64 (IntKind.u64.wrap n5) (8 : Int))) (shl .u64 (IntKind.u64.wrap n6) (16 : Int))) (shl .u64 (IntKind.u64.wrap n7) (24 : Int))) (shl .u64 (IntKind.u64.wrap n8) (32 : Int))) (shl .u64 (IntKind.u64.wrap n9) (40 : Int))) (shl .u64 (IntKind.u64.wrap n10) (48 : Int))) (shl .u64 (IntKind.u64.wrap n11) (56 : Int))) w.drew
def utf8_word_string.cl : CL := fun args K w => match args with
  | [.string x0] => C.utf8_word_string x0 w (utf8_word_string.Kt K)
  | _ => False
theorem utf8_word_string.clok : OkC pr 34 utf8_word_string.cl := by
  intro args K w h
  unfold utf8_word_string.cl at h
  split at h
  · exact calls_last false mixed utf8_word_string.FOk_ utf8_word_string.fn rfl (Eq.mp (by kernel_rfl) h)
  · exact h.elim

/-! unicode/utf8.ValidString -/
namespace utf8_ValidString
abbrev KT := Bool → World → Prop
def Kt (Kv : Value → World → Prop) : KT := fun b1 w => Kv (.bool b1) w
noncomputable def bd : Code := bdy Tryd.f27
theorem fn : FnOk pr 27 169 Tryd.f27 := ⟨Tryd.func27, by kernel_rfl, Tryd.ntmps27, by kernel_rfl, by kernel_rfl⟩
def F : Clee := ofL [(34, C.utf8_word_string.cl)]
theorem FOk_ : FOk pr F := FOk_cons C.utf8_word_string.clok (FOk_nil)
def P1 (Kv : Value → World → Prop) : Post := bodyK false pr 169 Tryd.f27 Kv
@[reducible] def g2 : List SE := []
def S2 (K : KT) (w : World) : Prop :=
  K true w
theorem S2_ok (Kv : Value → World → Prop) : OkT pr false none 169 g2 (S2 (Kt Kv)) (s2 (tl 1 bd)) (P1 Kv) := ok_last mixed FOk_ fun v ρ w => by kernel_rfl
def P3 (Kv : Value → World → Prop) : Post := next (get g2 (S2 (Kt Kv))) (P1 Kv)
def P4 (Kv : Value → World → Prop) : Post := inBlock 0 (P3 Kv)
@[reducible] def g5 : List SE := [.v 0 .str]
def P6 (Kv : Value → World → Prop) (kc5 : Cur g5) : Post := next (get g5 kc5) (P4 Kv)
def P7 (Kv : Value → World → Prop) (kc5 : Cur g5) : Post := inBlock 1 (P6 Kv kc5)
@[reducible] def g8 : List SE := [.v 0 .str, .v 3 (.int .u8)]
def S8 (K : KT) (kc5 : Cur g5) (s_4 : ByteArray) (s0_5 : Int) (w : World) : Prop :=
  G.ix (some ⟨1, 0, none⟩) 256 s0_5 1 fun p6 => G.cI .u8 p6 w fun n7 => G.nn (4 : Int) <| G.ix (some ⟨2, 0, none⟩) 16 (shr .u8 n7 (4 : Int)) 2 fun p8 => G.cI .u8 p8 w fun n9 => G.cI .u8 (p8.add 1) w fun n10 => G.new (.cells #[(.int .u8 (0 : Int)), (.int .u8 (0 : Int))] 82) w fun p11 w12 => G.st p11 (.int .u8 n9) w12 fun w13 => G.st (p11.add 1) (.int .u8 n10) w13 fun w14 => G.cond ((IntKind.i64.wrap (Go.bits .and .u8 n7 (7 : Int))) == (2 : Int)) (G.cond (decide (((s_4.size : Nat) : Int) < (2 : Int))) (K false w14.drew) (G.ixS s_4 (1 : Int) fun n15 => G.cI .u8 p11 w14.drew fun n16 => G.cond (decide (n15 < n16)) (K false w14.drew) (G.cI .u8 (p11.add 1) w14.drew fun n17 => G.ixS s_4 (1 : Int) fun n18 => G.cond (decide (n17 < n18)) (K false w14.drew) (G.slcS s_4 (2 : Int) ((s_4.size : Nat) : Int) fun s19 => kc5 s19 w14.drew)))) (G.cond ((IntKind.i64.wrap (Go.bits .and .u8 n7 (7 : Int))) == (3 : Int)) (G.cond (decide (((s_4.size : Nat) : Int) < (3 : Int))) (K false w14.drew) (G.ixS s_4 (1 : Int) fun n20 => G.cI .u8 p11 w14.drew fun n21 => G.cond (decide (n20 < n21)) (K false w14.drew) (G.cI .u8 (p11.add 1) w14.drew fun n22 => G.ixS s_4 (1 : Int) fun n23 => G.cond (decide (n22 < n23)) (K false w14.drew) (G.ixS s_4 (2 : Int) fun n24 => G.cond (decide (n24 < (128 : Int))) (K false w14.drew) (G.ixS s_4 (2 : Int) fun n25 => G.cond (decide ((191 : Int) < n25)) (K false w14.drew) (G.slcS s_4 (3 : Int) ((s_4.size : Nat) : Int) fun s26 => kc5 s26 w14.drew)))))) (G.cond ((IntKind.i64.wrap (Go.bits .and .u8 n7 (7 : Int))) == (4 : Int)) (G.cond (decide (((s_4.size : Nat) : Int) < (4 : Int))) (K false w14.drew) (G.ixS s_4 (1 : Int) fun n27 => G.cI .u8 p11 w14.drew fun n28 => G.cond (decide (n27 < n28)) (K false w14.drew) (G.cI .u8 (p11.add 1) w14.drew fun n29 => G.ixS s_4 (1 : Int) fun n30 => G.cond (decide (n29 < n30)) (K false w14.drew) (G.ixS s_4 (2 : Int) fun n31 => G.cond (decide (n31 < (128 : Int))) (K false w14.drew) (G.ixS s_4 (2 : Int) fun n32 => G.cond (decide ((191 : Int) < n32)) (K false w14.drew) (G.ixS s_4 (3 : Int) fun n33 => G.cond (decide (n33 < (128 : Int))) (K false w14.drew) (G.ixS s_4 (3 : Int) fun n34 => G.cond (decide ((191 : Int) < n34)) (K false w14.drew) (G.slcS s_4 (4 : Int) ((s_4.size : Nat) : Int) fun s35 => kc5 s35 w14.drew)))))))) (K false w14)))
theorem S8_ok (Kv : Value → World → Prop) (kc5 : Cur g5) : OkT pr false none 169 g8 (S8 (Kt Kv) kc5) (s2 (tl 1 (blk (tl 1 (lp (blk (s1 (tl 1 bd)))))))) (P7 Kv kc5) := ok_last mixed FOk_ fun v ρ w => by kernel_rfl
def P9 (Kv : Value → World → Prop) (kc5 : Cur g5) : Post := next (get g8 (S8 (Kt Kv) kc5)) (P7 Kv kc5)
def S10 (K : KT) (kc5 : Cur g5) (s_36 : ByteArray) (w : World) : Prop :=
  kc5 s_36 w
theorem S10_ok (Kv : Value → World → Prop) (kc5 : Cur g5) : OkT pr false none 169 g5 (S10 (Kt Kv) kc5) (s2 (tl 1 (c1 (tl 1 (s1 (tl 1 (blk (tl 1 (lp (blk (s1 (tl 1 bd)))))))))))) (P9 Kv kc5) := ok_last mixed FOk_ fun v ρ w => by kernel_rfl
def P11 (Kv : Value → World → Prop) (kc5 : Cur g5) : Post := next (get g5 (S10 (Kt Kv) kc5)) (P9 Kv kc5)
def P12 (Kv : Value → World → Prop) (kc5 : Cur g5) : Post := inBlock 2 (P11 Kv kc5)
def P14 (Kv : Value → World → Prop) (kc5 : Cur g5) (kc13 : Cur g5) : Post := next (get g5 kc13) (P12 Kv kc5)
def S15 (K : KT) (kc5 : Cur g5) (kc13 : Cur g5) (s_38 : ByteArray) (w : World) : Prop :=
  G.cond (decide (((s_38.size : Nat) : Int) > (32 : Int))) (G.slcS s_38 (8 : Int) ((s_38.size : Nat) : Int) fun s39 => G.slcS s_38 (16 : Int) ((s_38.size : Nat) : Int) fun s40 => G.slcS s_38 (24 : Int) ((s_38.size : Nat) : Int) fun s41 => C.utf8_word_string s_38 w.drew fun n42 w43 => C.utf8_word_string s39 w43 fun n44 w45 => C.utf8_word_string s40 w45 fun n46 w47 => C.utf8_word_string s41 w47 fun n48 w49 => G.cond ((Go.bits .and .u64 (Go.bits .or .u64 (Go.bits .or .u64 n42 n44) (Go.bits .or .u64 n46 n48)) (9259542123273814144 : Int)) == (0 : Int)) (G.slcS s_38 (32 : Int) ((s_38.size : Nat) : Int) fun s50 => kc13 s50 w49) (S10 K kc5 s_38 w49)) (S10 K kc5 s_38 w.drew)
theorem S15_ok (Kv : Value → World → Prop) (kc5 : Cur g5) (kc13 : Cur g5) : OkT pr false none 169 g5 (S15 (Kt Kv) kc5 kc13) (lp (blk (tl 1 (c1 (tl 2 (c1 (tl 1 (s1 (tl 1 (c1 (tl 1 (s1 (tl 1 (blk (tl 1 (lp (blk (s1 (tl 1 bd))))))))))))))))))) (P14 Kv kc5 kc13) := ok_last mixed FOk_ fun v ρ w => by kernel_rfl
def L13 (K : KT) (kc5 : Cur g5) : Cur g5 := loopC g5 (S15 K kc5)
theorem L13_ok (Kv : Value → World → Prop) (kc5 : Cur g5) : OkT pr false none 169 g5 (L13 (Kt Kv) kc5) (blk (tl 1 (c1 (tl 2 (c1 (tl 1 (s1 (tl 1 (c1 (tl 1 (s1 (tl 1 (blk (tl 1 (lp (blk (s1 (tl 1 bd)))))))))))))))))) (P12 Kv kc5) := ok_loop (B := S15 (Kt Kv) kc5) (by kernel_rfl) fun kc => S15_ok Kv kc5 kc
theorem L13_ind {K : KT} {kc5 : Cur g5} {s_37 : ByteArray} {w : World} (h : ∀ X : Cur g5, (∀ s_37 w, S15 K kc5 X s_37 w → X s_37 w) → X s_37 w) : L13 K kc5 s_37 w := fun X hX => h X fun s_37 w hb => hX (s_37, ()) w hb
theorem B16 (Kv : Value → World → Prop) (kc5 : Cur g5) : OkT pr false none 169 g5 (L13 (Kt Kv) kc5) (tl 1 (c1 (tl 2 (c1 (tl 1 (s1 (tl 1 (c1 (tl 1 (s1 (tl 1 (blk (tl 1 (lp (blk (s1 (tl 1 bd))))))))))))))))) (P11 Kv kc5) := ok_block 2 (by kernel_rfl) (L13_ok Kv kc5)
@[reducible] def g17 : List SE := [.v 0 .str, .v 39 .bool]
def S17 (K : KT) (kc5 : Cur g5) (s_51 : ByteArray) (b52 : Bool) (w : World) : Prop :=
  G.slcS s_51 (16 : Int) ((s_51.size : Nat) : Int) fun s53 => L13 K kc5 s53 w
theorem S17_ok (Kv : Value → World → Prop) (kc5 : Cur g5) : OkT pr false none 169 g17 (S17 (Kt Kv) kc5) (c1 (tl 2 (c1 (tl 1 (s1 (tl 1 (c1 (tl 1 (s1 (tl 1 (blk (tl 1 (lp (blk (s1 (tl 1 bd)))))))))))))))) (P11 Kv kc5) := ok_group mixed FOk_ 1 (B16 Kv kc5) fun v ρ w => by kernel_rfl
def S18 (K : KT) (kc5 : Cur g5) (s_54 : ByteArray) (b55 : Bool) (w : World) : Prop :=
  S10 K kc5 s_54 w
theorem S18_ok (Kv : Value → World → Prop) (kc5 : Cur g5) : OkT pr false none 169 g17 (S18 (Kt Kv) kc5) (c2 (tl 2 (c1 (tl 1 (s1 (tl 1 (c1 (tl 1 (s1 (tl 1 (blk (tl 1 (lp (blk (s1 (tl 1 bd)))))))))))))))) (P11 Kv kc5) := ok_last mixed FOk_ fun v ρ w => by kernel_rfl
def D19 (K : KT) (kc5 : Cur g5) (s_56 : ByteArray) (b57 : Bool) (w : World) : Prop :=
  G.cond b57 (S17 K kc5 s_56 b57 w) (S18 K kc5 s_56 b57 w)
theorem D19_ok (Kv : Value → World → Prop) (kc5 : Cur g5) : OkT pr false none 169 g17 (D19 (Kt Kv) kc5) (tl 2 (c1 (tl 1 (s1 (tl 1 (c1 (tl 1 (s1 (tl 1 (blk (tl 1 (lp (blk (s1 (tl 1 bd))))))))))))))) (P11 Kv kc5) :=
  ok_cond 39 (fun v => v.2.1) (by kernel_rfl) (fun v ρ => by kernel_rfl) (fun v w => by kernel_rfl) (S17_ok Kv kc5) (S18_ok Kv kc5)
@[reducible] def g20 : List SE := [.v 0 .str, .v 24 .bool]
def S20 (K : KT) (kc5 : Cur g5) (s_58 : ByteArray) (b59 : Bool) (w : World) : Prop :=
  G.slcS s_58 (8 : Int) ((s_58.size : Nat) : Int) fun s60 => G.cond (decide (((s60.size : Nat) : Int) > (16 : Int))) (G.slcS s60 (8 : Int) ((s60.size : Nat) : Int) fun s61 => C.utf8_word_string s60 w.drew fun n62 w63 => C.utf8_word_string s61 w63 fun n64 w65 => D19 K kc5 s60 ((Go.bits .and .u64 (Go.bits .or .u64 n62 n64) (9259542123273814144 : Int)) == (0 : Int)) w65) (D19 K kc5 s60 false w.drew)
theorem S20_ok (Kv : Value → World → Prop) (kc5 : Cur g5) : OkT pr false none 169 g20 (S20 (Kt Kv) kc5) (c1 (tl 1 (s1 (tl 1 (c1 (tl 1 (s1 (tl 1 (blk (tl 1 (lp (blk (s1 (tl 1 bd)))))))))))))) (P11 Kv kc5) := ok_group mixed FOk_ 2 (D19_ok Kv kc5) fun v ρ w => by kernel_rfl
def S21 (K : KT) (kc5 : Cur g5) (s_66 : ByteArray) (b67 : Bool) (w : World) : Prop :=
  S10 K kc5 s_66 w
theorem S21_ok (Kv : Value → World → Prop) (kc5 : Cur g5) : OkT pr false none 169 g20 (S21 (Kt Kv) kc5) (c2 (tl 1 (s1 (tl 1 (c1 (tl 1 (s1 (tl 1 (blk (tl 1 (lp (blk (s1 (tl 1 bd)))))))))))))) (P11 Kv kc5) := ok_last mixed FOk_ fun v ρ w => by kernel_rfl
def D22 (K : KT) (kc5 : Cur g5) (s_68 : ByteArray) (b69 : Bool) (w : World) : Prop :=
  G.cond b69 (S20 K kc5 s_68 b69 w) (S21 K kc5 s_68 b69 w)
theorem D22_ok (Kv : Value → World → Prop) (kc5 : Cur g5) : OkT pr false none 169 g20 (D22 (Kt Kv) kc5) (tl 1 (s1 (tl 1 (c1 (tl 1 (s1 (tl 1 (blk (tl 1 (lp (blk (s1 (tl 1 bd))))))))))))) (P11 Kv kc5) :=
  ok_cond 24 (fun v => v.2.1) (by kernel_rfl) (fun v ρ => by kernel_rfl) (fun v w => by kernel_rfl) (S20_ok Kv kc5) (S21_ok Kv kc5)
def S23 (K : KT) (kc5 : Cur g5) (s_70 : ByteArray) (w : World) : Prop :=
  G.cond (decide (((s_70.size : Nat) : Int) > (8 : Int))) (C.utf8_word_string s_70 w fun n71 w72 => D22 K kc5 s_70 ((Go.bits .and .u64 n71 (9259542123273814144 : Int)) == (0 : Int)) w72) (D22 K kc5 s_70 false w)
theorem S23_ok (Kv : Value → World → Prop) (kc5 : Cur g5) : OkT pr false none 169 g5 (S23 (Kt Kv) kc5) (s1 (tl 1 (c1 (tl 1 (s1 (tl 1 (blk (tl 1 (lp (blk (s1 (tl 1 bd)))))))))))) (P11 Kv kc5) := ok_group mixed FOk_ 1 (D22_ok Kv kc5) fun v ρ w => by kernel_rfl
theorem Q24 (Kv : Value → World → Prop) (kc5 : Cur g5) : OkT pr false none 169 g5 (S23 (Kt Kv) kc5) (tl 1 (c1 (tl 1 (s1 (tl 1 (blk (tl 1 (lp (blk (s1 (tl 1 bd))))))))))) (P9 Kv kc5) := ok_seq (by kernel_rfl) (S10_ok Kv kc5) (S23_ok Kv kc5)
@[reducible] def g25 : List SE := [.v 0 .str, .v 3 (.int .u8), .v 13 .bool]
def S25 (K : KT) (kc5 : Cur g5) (s_73 : ByteArray) (s0_74 : Int) (b75 : Bool) (w : World) : Prop :=
  G.slcS s_73 (1 : Int) ((s_73.size : Nat) : Int) fun s76 => S23 K kc5 s76 w
theorem S25_ok (Kv : Value → World → Prop) (kc5 : Cur g5) : OkT pr false none 169 g25 (S25 (Kt Kv) kc5) (c1 (tl 1 (s1 (tl 1 (blk (tl 1 (lp (blk (s1 (tl 1 bd)))))))))) (P9 Kv kc5) := ok_group mixed FOk_ 1 (Q24 Kv kc5) fun v ρ w => by kernel_rfl
def S26 (K : KT) (kc5 : Cur g5) (s_77 : ByteArray) (s0_78 : Int) (b79 : Bool) (w : World) : Prop :=
  S8 K kc5 s_77 s0_78 w
theorem S26_ok (Kv : Value → World → Prop) (kc5 : Cur g5) : OkT pr false none 169 g25 (S26 (Kt Kv) kc5) (c2 (tl 1 (s1 (tl 1 (blk (tl 1 (lp (blk (s1 (tl 1 bd)))))))))) (P9 Kv kc5) := ok_last mixed FOk_ fun v ρ w => by kernel_rfl
def D27 (K : KT) (kc5 : Cur g5) (s_80 : ByteArray) (s0_81 : Int) (b82 : Bool) (w : World) : Prop :=
  G.cond b82 (S25 K kc5 s_80 s0_81 b82 w) (S26 K kc5 s_80 s0_81 b82 w)
theorem D27_ok (Kv : Value → World → Prop) (kc5 : Cur g5) : OkT pr false none 169 g25 (D27 (Kt Kv) kc5) (tl 1 (s1 (tl 1 (blk (tl 1 (lp (blk (s1 (tl 1 bd))))))))) (P9 Kv kc5) :=
  ok_cond 13 (fun v => v.2.2.1) (by kernel_rfl) (fun v ρ => by kernel_rfl) (fun v w => by kernel_rfl) (S25_ok Kv kc5) (S26_ok Kv kc5)
def S28 (K : KT) (kc5 : Cur g5) (s_83 : ByteArray) (s0_84 : Int) (w : World) : Prop :=
  D27 K kc5 s_83 s0_84 (decide (s0_84 < (128 : Int))) w
theorem S28_ok (Kv : Value → World → Prop) (kc5 : Cur g5) : OkT pr false none 169 g8 (S28 (Kt Kv) kc5) (s1 (tl 1 (blk (tl 1 (lp (blk (s1 (tl 1 bd)))))))) (P9 Kv kc5) := ok_group mixed FOk_ 1 (D27_ok Kv kc5) fun v ρ w => by kernel_rfl
theorem Q29 (Kv : Value → World → Prop) (kc5 : Cur g5) : OkT pr false none 169 g8 (S28 (Kt Kv) kc5) (tl 1 (blk (tl 1 (lp (blk (s1 (tl 1 bd))))))) (P7 Kv kc5) := ok_seq (by kernel_rfl) (S8_ok Kv kc5) (S28_ok Kv kc5)
def S30 (K : KT) (kc5 : Cur g5) (s_85 : ByteArray) (w : World) : Prop :=
  G.ixS s_85 (0 : Int) fun n86 => S28 K kc5 s_85 n86 w
theorem S30_ok (Kv : Value → World → Prop) (kc5 : Cur g5) : OkT pr false none 169 g5 (S30 (Kt Kv) kc5) (blk (tl 1 (lp (blk (s1 (tl 1 bd)))))) (P7 Kv kc5) := ok_group mixed FOk_ 1 (Q29 Kv kc5) fun v ρ w => by kernel_rfl
theorem B31 (Kv : Value → World → Prop) (kc5 : Cur g5) : OkT pr false none 169 g5 (S30 (Kt Kv) kc5) (tl 1 (lp (blk (s1 (tl 1 bd))))) (P6 Kv kc5) := ok_block 1 (by kernel_rfl) (S30_ok Kv kc5)
def S32 (K : KT) (kc5 : Cur g5) (s_87 : ByteArray) (w : World) : Prop :=
  G.cond (decide (((s_87.size : Nat) : Int) > (0 : Int))) (S30 K kc5 s_87 w) (S2 K w)
theorem S32_ok (Kv : Value → World → Prop) (kc5 : Cur g5) : OkT pr false none 169 g5 (S32 (Kt Kv) kc5) (lp (blk (s1 (tl 1 bd)))) (P6 Kv kc5) := ok_group mixed FOk_ 1 (B31 Kv kc5) fun v ρ w => by kernel_rfl
def L5 (K : KT) : Cur g5 := loopC g5 (S32 K)
theorem L5_ok (Kv : Value → World → Prop) : OkT pr false none 169 g5 (L5 (Kt Kv)) (blk (s1 (tl 1 bd))) (P4 Kv) := ok_loop (B := S32 (Kt Kv)) (by kernel_rfl) fun kc => S32_ok Kv kc
theorem L5_ind {K : KT} {s_3 : ByteArray} {w : World} (h : ∀ X : Cur g5, (∀ s_3 w, S32 K X s_3 w → X s_3 w) → X s_3 w) : L5 K s_3 w := fun X hX => h X fun s_3 w hb => hX (s_3, ()) w hb
theorem B33 (Kv : Value → World → Prop) : OkT pr false none 169 g5 (L5 (Kt Kv)) (s1 (tl 1 bd)) (P3 Kv) := ok_block 0 (by kernel_rfl) (L5_ok Kv)
theorem Q34 (Kv : Value → World → Prop) : OkT pr false none 169 g5 (L5 (Kt Kv)) (tl 1 bd) (P1 Kv) := ok_seq (by kernel_rfl) (S2_ok Kv) (B33 Kv)
end utf8_ValidString
def utf8_ValidString (s_2 : ByteArray) (w : World) (K : utf8_ValidString.KT) : Prop :=
  utf8_ValidString.L5 K s_2 w
def utf8_ValidString.cl : CL := fun args K w => match args with
  | [.string x0] => C.utf8_ValidString x0 w (utf8_ValidString.Kt K)
  | _ => False
theorem utf8_ValidString.clok : OkC pr 27 utf8_ValidString.cl := by
  intro args K w h
  unfold utf8_ValidString.cl at h
  split at h
  · exact calls_group false mixed utf8_ValidString.FOk_ utf8_ValidString.fn rfl 1 (utf8_ValidString.Q34 K) (Eq.mp (by kernel_rfl) h)
  · exact h.elim

/-! tocsin/labels.value -/
namespace labels_value
abbrev KT := Int → World → Prop
def Kt (Kv : Value → World → Prop) : KT := fun n1 w => Kv (.int .i64 n1) w
noncomputable def bd : Code := bdy Tryd.f21
theorem fn : FnOk pr 21 14 Tryd.f21 := ⟨Tryd.func21, by kernel_rfl, Tryd.ntmps21, by kernel_rfl, by kernel_rfl⟩
def F : Clee := ofL [(27, C.utf8_ValidString.cl)]
theorem FOk_ : FOk pr F := FOk_cons C.utf8_ValidString.clok (FOk_nil)
def P1 (Kv : Value → World → Prop) : Post := bodyK false pr 14 Tryd.f21 Kv
end labels_value
def labels_value (s_2 : ByteArray) (w : World) (K : labels_value.KT) : Prop :=
  G.cond (s_2.toList == (⟨#[]⟩ : ByteArray).toList) (K (41 : Int) w) (G.cond (decide (((s_2.size : Nat) : Int) > (256 : Int))) (K (4 : Int) w) (C.utf8_ValidString s_2 w fun b3 w4 => G.cond (!b3) (K (12 : Int) w4) (K (0 : Int) w4)))
def labels_value.cl : CL := fun args K w => match args with
  | [.string x0] => C.labels_value x0 w (labels_value.Kt K)
  | _ => False
theorem labels_value.clok : OkC pr 21 labels_value.cl := by
  intro args K w h
  unfold labels_value.cl at h
  split at h
  · exact calls_last false mixed labels_value.FOk_ labels_value.fn rfl (Eq.mp (by kernel_rfl) h)
  · exact h.elim

/-! tocsin/labels.Right -/
namespace labels_Right
abbrev KT := Int → Int → World → Prop
def Kt (Kv : Value → World → Prop) : KT := fun n1 n2 w => Kv (.tuple #[(.int .i64 n1), (.int .i64 n2)]) w
noncomputable def bd : Code := bdy Tryd.f10
theorem fn : FnOk pr 10 44 Tryd.f10 := ⟨Tryd.func10, by kernel_rfl, Tryd.ntmps10, by kernel_rfl, by kernel_rfl⟩
def F : Clee := ofL [(20, C.labels_Name.cl), (21, C.labels_value.cl)]
theorem FOk_ : FOk pr F := FOk_cons C.labels_Name.clok (FOk_cons C.labels_value.clok (FOk_nil))
def P1 (Kv : Value → World → Prop) : Post := bodyK false pr 44 Tryd.f10 Kv
@[reducible] def g2 : List SE := []
def S2 (K : KT) (w : World) : Prop :=
  K (0 : Int) (0 : Int) w
theorem S2_ok (Kv : Value → World → Prop) : OkT pr false none 44 g2 (S2 (Kt Kv)) (s2 (tl 2 bd)) (P1 Kv) := ok_last mixed FOk_ fun v ρ w => by kernel_rfl
def P3 (Kv : Value → World → Prop) : Post := next (get g2 (S2 (Kt Kv))) (P1 Kv)
def P4 (Kv : Value → World → Prop) : Post := inBlock 0 (P3 Kv)
@[reducible] def g5 : List SE := [.v 0 .sl, .v 10 .sl, .v 11 (.int .i64), .v 12 (.int .i64)]
def P6 (Kv : Value → World → Prop) (kc5 : Cur g5) : Post := next (get g5 kc5) (P4 Kv)
def S7 (K : KT) (kc5 : Cur g5) (l_12 : Sl) (l13 : Sl) (n14 : Int) (n15 : Int) (w : World) : Prop :=
  G.cond (decide (n15 < n14)) (G.ix l13.a l13.n n15 2 fun p16 => G.cS p16 w fun s17 => G.cS (p16.add 1) w fun s18 => G.new (.cells #[(.string (⟨#[]⟩ : ByteArray)), (.string (⟨#[]⟩ : ByteArray))] 58) w fun p19 w20 => G.st p19 (.string s17) w20 fun w21 => G.st (p19.add 1) (.string s18) w21 fun w22 => G.cS p19 w22 fun s23 => C.labels_Name s23 w22 fun b24 w25 => G.cond (!b24) (K (40 : Int) n15 w25) (G.cS (p19.add 1) w25 fun s26 => C.labels_value s26 w25 fun n27 w28 => G.cond (n27 != (0 : Int)) (K n27 n15 w28) (G.cond (decide (n15 > (0 : Int))) (G.cS p19 w28.drew fun s29 => G.ix l_12.a l_12.n (IntKind.i64.wrap (n15 - (1 : Int))) 2 fun p30 => G.cS p30 w28.drew fun s31 => G.cond ((Op.bytesLess s29.toList s31.toList) || (s29.toList == s31.toList)) (K (3 : Int) n15 w28.drew) (kc5 l_12 l13 n14 (IntKind.i64.wrap (n15 + (1 : Int))) w28.drew)) (kc5 l_12 l13 n14 (IntKind.i64.wrap (n15 + (1 : Int))) w28.drew)))) (S2 K w)
theorem S7_ok (Kv : Value → World → Prop) (kc5 : Cur g5) : OkT pr false none 44 g5 (S7 (Kt Kv) kc5) (lp (blk (tl 1 (s1 (tl 2 bd))))) (P6 Kv kc5) := ok_last mixed FOk_ fun v ρ w => by kernel_rfl
def L5 (K : KT) : Cur g5 := loopC g5 (S7 K)
theorem L5_ok (Kv : Value → World → Prop) : OkT pr false none 44 g5 (L5 (Kt Kv)) (blk (tl 1 (s1 (tl 2 bd)))) (P4 Kv) := ok_loop (B := S7 (Kt Kv)) (by kernel_rfl) fun kc => S7_ok Kv kc
theorem L5_ind {K : KT} {l_4 : Sl} {l5 : Sl} {n6 : Int} {n7 : Int} {w : World} (h : ∀ X : Cur g5, (∀ l_4 l5 n6 n7 w, S7 K X l_4 l5 n6 n7 w → X l_4 l5 n6 n7 w) → X l_4 l5 n6 n7 w) : L5 K l_4 l5 n6 n7 w := fun X hX => h X fun l_4 l5 n6 n7 w hb => hX (l_4, l5, n6, n7, ()) w hb
theorem B8 (Kv : Value → World → Prop) : OkT pr false none 44 g5 (L5 (Kt Kv)) (tl 1 (s1 (tl 2 bd))) (P3 Kv) := ok_block 0 (by kernel_rfl) (L5_ok Kv)
@[reducible] def g9 : List SE := [.v 0 .sl]
def S9 (K : KT) (l_32 : Sl) (w : World) : Prop :=
  L5 K l_32 l_32 ((l_32.n : Nat) : Int) (0 : Int) w
theorem S9_ok (Kv : Value → World → Prop) : OkT pr false none 44 g9 (S9 (Kt Kv)) (s1 (tl 2 bd)) (P3 Kv) := ok_group mixed FOk_ 1 (B8 Kv) fun v ρ w => by kernel_rfl
theorem Q10 (Kv : Value → World → Prop) : OkT pr false none 44 g9 (S9 (Kt Kv)) (tl 2 bd) (P1 Kv) := ok_seq (by kernel_rfl) (S2_ok Kv) (S9_ok Kv)
end labels_Right
def labels_Right (l_3 : Sl) (w : World) (K : labels_Right.KT) : Prop :=
  G.cond (decide (((l_3.n : Nat) : Int) > (16 : Int))) (K (8 : Int) (0 : Int) w) (labels_Right.S9 K l_3 w)
def labels_Right.cl : CL := fun args K w => match args with
  | [.slice x0_a x0_n x0_c] => C.labels_Right ⟨x0_a, x0_n, x0_c⟩ w (labels_Right.Kt K)
  | _ => False
theorem labels_Right.clok : OkC pr 10 labels_Right.cl := by
  intro args K w h
  unfold labels_Right.cl at h
  split at h
  · exact calls_group false mixed labels_Right.FOk_ labels_Right.fn rfl 2 (labels_Right.Q10 K) (Eq.mp (by kernel_rfl) h)
  · exact h.elim

/-! tocsin/labels.right -/
namespace labels_right
abbrev KT := Int → World → Prop
def Kt (Kv : Value → World → Prop) : KT := fun n1 w => Kv (.int .i64 n1) w
noncomputable def bd : Code := bdy Tryd.f28
theorem fn : FnOk pr 28 11 Tryd.f28 := ⟨Tryd.func28, by kernel_rfl, Tryd.ntmps28, by kernel_rfl, by kernel_rfl⟩
def F : Clee := ofL [(10, C.labels_Right.cl)]
theorem FOk_ : FOk pr F := FOk_cons C.labels_Right.clok (FOk_nil)
def P1 (Kv : Value → World → Prop) : Post := bodyK false pr 11 Tryd.f28 Kv
end labels_right
def labels_right (l_2 : Sl) (w : World) (K : labels_right.KT) : Prop :=
  C.labels_Right l_2 w fun n3 n4 w5 => K n3 w5
def labels_right.cl : CL := fun args K w => match args with
  | [.slice x0_a x0_n x0_c] => C.labels_right ⟨x0_a, x0_n, x0_c⟩ w (labels_right.Kt K)
  | _ => False
theorem labels_right.clok : OkC pr 28 labels_right.cl := by
  intro args K w h
  unfold labels_right.cl at h
  split at h
  · exact calls_last false mixed labels_right.FOk_ labels_right.fn rfl (Eq.mp (by kernel_rfl) h)
  · exact h.elim

/-! tocsin/vint.joined -/
namespace vint_joined
abbrev KT := Sl → World → Prop
def Kt (Kv : Value → World → Prop) : KT := fun l1 w => Kv l1.v w
noncomputable def bd : Code := bdy Tryd.f35
theorem fn : FnOk pr 35 17 Tryd.f35 := ⟨Tryd.func35, by kernel_rfl, Tryd.ntmps35, by kernel_rfl, by kernel_rfl⟩
def F : Clee := ofL []
theorem FOk_ : FOk pr F := FOk_nil
def P1 (Kv : Value → World → Prop) : Post := bodyK false pr 17 Tryd.f35 Kv
end vint_joined
def vint_joined (b_2 : Sl) (c_3 : Sl) (w : World) (K : vint_joined.KT) : Prop :=
  G.runSl pr (Instr.makeSlice 66 (.int .i64 (0 : Int)) (.int .i64 (IntKind.i64.wrap (((b_2.n : Nat) : Int) + ((c_3.n : Nat) : Int))))) w fun l4 w5 => G.runSl pr (Builtin.append_ #[66, 66] 66 #[l4.v, b_2.v]) w5 fun l6 w7 => G.runSl pr (Builtin.append_ #[66, 66] 66 #[l6.v, c_3.v]) w7 fun l8 w9 => K l8 w9
def vint_joined.cl : CL := fun args K w => match args with
  | [.slice x0_a x0_n x0_c, .slice x1_a x1_n x1_c] => C.vint_joined ⟨x0_a, x0_n, x0_c⟩ ⟨x1_a, x1_n, x1_c⟩ w (vint_joined.Kt K)
  | _ => False
theorem vint_joined.clok : OkC pr 35 vint_joined.cl := by
  intro args K w h
  unfold vint_joined.cl at h
  split at h
  · exact calls_last false mixed vint_joined.FOk_ vint_joined.fn rfl (Eq.mp (by kernel_rfl) h)
  · exact h.elim

/-! tocsin/vint.PutU -/
namespace vint_PutU
abbrev KT := Sl → World → Prop
def Kt (Kv : Value → World → Prop) : KT := fun l1 w => Kv l1.v w
noncomputable def bd : Code := bdy Tryd.f29
theorem fn : FnOk pr 29 23 Tryd.f29 := ⟨Tryd.func29, by kernel_rfl, Tryd.ntmps29, by kernel_rfl, by kernel_rfl⟩
def F : Clee := ofL [(35, C.vint_joined.cl)]
theorem FOk_ : FOk pr F := FOk_cons C.vint_joined.clok (FOk_nil)
def P1 (Kv : Value → World → Prop) : Post := bodyK false pr 23 Tryd.f29 Kv
@[reducible] def g2 : List SE := [.v 0 .sl, .v 1 (.int .u64), .v 5 .sl]
def S2 (K : KT) (b_4 : Sl) (n_5 : Int) (c_6 : Sl) (w : World) : Prop :=
  G.new (.cells #[(.int .u8 (IntKind.u8.wrap n_5))] 5) w fun p7 w8 => G.runSl pr (Builtin.append_ #[66, 66] 66 #[c_6.v, (Sl.v (⟨some p7, 1, 1⟩ : Sl))]) w8 fun l9 w10 => C.vint_joined b_4 l9 w10 fun l11 w12 => K l11 w12
theorem S2_ok (Kv : Value → World → Prop) : OkT pr false none 23 g2 (S2 (Kt Kv)) (s2 (tl 2 bd)) (P1 Kv) := ok_last mixed FOk_ fun v ρ w => by kernel_rfl
def P3 (Kv : Value → World → Prop) : Post := next (get g2 (S2 (Kt Kv))) (P1 Kv)
def P4 (Kv : Value → World → Prop) : Post := inBlock 0 (P3 Kv)
def P6 (Kv : Value → World → Prop) (kc5 : Cur g2) : Post := next (get g2 kc5) (P4 Kv)
def S7 (K : KT) (kc5 : Cur g2) (b_19 : Sl) (n_20 : Int) (c_21 : Sl) (w : World) : Prop :=
  G.cond (decide (n_20 ≥ (128 : Int))) (G.new (.cells #[(.int .u8 (Go.bits .or .u8 (IntKind.u8.wrap n_20) (128 : Int)))] 5) w fun p22 w23 => G.runSl pr (Builtin.append_ #[66, 66] 66 #[c_21.v, (Sl.v (⟨some p22, 1, 1⟩ : Sl))]) w23 fun l24 w25 => G.nn (7 : Int) <| kc5 b_19 (shr .u64 n_20 (7 : Int)) l24 w25) (S2 K b_19 n_20 c_21 w)
theorem S7_ok (Kv : Value → World → Prop) (kc5 : Cur g2) : OkT pr false none 23 g2 (S7 (Kt Kv) kc5) (lp (blk (s1 (tl 2 bd)))) (P6 Kv kc5) := ok_last mixed FOk_ fun v ρ w => by kernel_rfl
def L5 (K : KT) : Cur g2 := loopC g2 (S7 K)
theorem L5_ok (Kv : Value → World → Prop) : OkT pr false none 23 g2 (L5 (Kt Kv)) (blk (s1 (tl 2 bd))) (P4 Kv) := ok_loop (B := S7 (Kt Kv)) (by kernel_rfl) fun kc => S7_ok Kv kc
theorem L5_ind {K : KT} {b_13 : Sl} {n_14 : Int} {c_15 : Sl} {w : World} (h : ∀ X : Cur g2, (∀ b_13 n_14 c_15 w, S7 K X b_13 n_14 c_15 w → X b_13 n_14 c_15 w) → X b_13 n_14 c_15 w) : L5 K b_13 n_14 c_15 w := fun X hX => h X fun b_13 n_14 c_15 w hb => hX (b_13, n_14, c_15, ()) w hb
theorem B8 (Kv : Value → World → Prop) : OkT pr false none 23 g2 (L5 (Kt Kv)) (s1 (tl 2 bd)) (P3 Kv) := ok_block 0 (by kernel_rfl) (L5_ok Kv)
theorem Q9 (Kv : Value → World → Prop) : OkT pr false none 23 g2 (L5 (Kt Kv)) (tl 2 bd) (P1 Kv) := ok_seq (by kernel_rfl) (S2_ok Kv) (B8 Kv)
end vint_PutU
def vint_PutU (b_2 : Sl) (n_3 : Int) (w : World) (K : vint_PutU.KT) : Prop :=
  vint_PutU.L5 K b_2 n_3 nilS w
def vint_PutU.cl : CL := fun args K w => match args with
  | [.slice x0_a x0_n x0_c, .int .u64 x1] => C.vint_PutU ⟨x0_a, x0_n, x0_c⟩ x1 w (vint_PutU.Kt K)
  | _ => False
theorem vint_PutU.clok : OkC pr 29 vint_PutU.cl := by
  intro args K w h
  unfold vint_PutU.cl at h
  split at h
  · exact calls_group false mixed vint_PutU.FOk_ vint_PutU.fn rfl 2 (vint_PutU.Q9 K) (Eq.mp (by kernel_rfl) h)
  · exact h.elim

/-! tocsin/vint.PutText -/
namespace vint_PutText
abbrev KT := Sl → World → Prop
def Kt (Kv : Value → World → Prop) : KT := fun l1 w => Kv l1.v w
noncomputable def bd : Code := bdy Tryd.f30
theorem fn : FnOk pr 30 13 Tryd.f30 := ⟨Tryd.func30, by kernel_rfl, Tryd.ntmps30, by kernel_rfl, by kernel_rfl⟩
def F : Clee := ofL [(29, C.vint_PutU.cl), (35, C.vint_joined.cl)]
theorem FOk_ : FOk pr F := FOk_cons C.vint_PutU.clok (FOk_cons C.vint_joined.clok (FOk_nil))
def P1 (Kv : Value → World → Prop) : Post := bodyK false pr 13 Tryd.f30 Kv
end vint_PutText
def vint_PutText (b_2 : Sl) (s_3 : ByteArray) (w : World) (K : vint_PutText.KT) : Prop :=
  C.vint_PutU b_2 (IntKind.u64.wrap ((s_3.size : Nat) : Int)) w fun l4 w5 => G.runSl pr (Go.convert 9 66 (.string s_3)) w5 fun l6 w7 => C.vint_joined l4 l6 w7 fun l8 w9 => K l8 w9
def vint_PutText.cl : CL := fun args K w => match args with
  | [.slice x0_a x0_n x0_c, .string x1] => C.vint_PutText ⟨x0_a, x0_n, x0_c⟩ x1 w (vint_PutText.Kt K)
  | _ => False
theorem vint_PutText.clok : OkC pr 30 vint_PutText.cl := by
  intro args K w h
  unfold vint_PutText.cl at h
  split at h
  · exact calls_last false mixed vint_PutText.FOk_ vint_PutText.fn rfl (Eq.mp (by kernel_rfl) h)
  · exact h.elim

/-! tocsin/labels.Put -/
namespace labels_Put
abbrev KT := Sl → Int → World → Prop
def Kt (Kv : Value → World → Prop) : KT := fun l1 n2 w => Kv (.tuple #[l1.v, (.int .i64 n2)]) w
noncomputable def bd : Code := bdy Tryd.f22
theorem fn : FnOk pr 22 35 Tryd.f22 := ⟨Tryd.func22, by kernel_rfl, Tryd.ntmps22, by kernel_rfl, by kernel_rfl⟩
def F : Clee := ofL [(28, C.labels_right.cl), (29, C.vint_PutU.cl), (30, C.vint_PutText.cl)]
theorem FOk_ : FOk pr F := FOk_cons C.labels_right.clok (FOk_cons C.vint_PutU.clok (FOk_cons C.vint_PutText.clok (FOk_nil)))
def P1 (Kv : Value → World → Prop) : Post := bodyK false pr 35 Tryd.f22 Kv
@[reducible] def g2 : List SE := [.v 7 .sl]
def S2 (K : KT) (out_7 : Sl) (w : World) : Prop :=
  K out_7 (0 : Int) w
theorem S2_ok (Kv : Value → World → Prop) : OkT pr false none 35 g2 (S2 (Kt Kv)) (s2 (tl 3 bd)) (P1 Kv) := ok_last mixed FOk_ fun v ρ w => by kernel_rfl
def P3 (Kv : Value → World → Prop) : Post := next (get g2 (S2 (Kt Kv))) (P1 Kv)
def P4 (Kv : Value → World → Prop) : Post := inBlock 0 (P3 Kv)
@[reducible] def g5 : List SE := [.v 7 .sl, .v 20 .sl, .v 21 (.int .i64), .v 22 (.int .i64)]
def P6 (Kv : Value → World → Prop) (kc5 : Cur g5) : Post := next (get g5 kc5) (P4 Kv)
def S7 (K : KT) (kc5 : Cur g5) (out_16 : Sl) (l17 : Sl) (n18 : Int) (n19 : Int) (w : World) : Prop :=
  G.cond (decide (n19 < n18)) (G.ix l17.a l17.n n19 2 fun p20 => G.cS p20 w fun s21 => G.cS (p20.add 1) w fun s22 => G.new (.cells #[(.string (⟨#[]⟩ : ByteArray)), (.string (⟨#[]⟩ : ByteArray))] 58) w fun p23 w24 => G.st p23 (.string s21) w24 fun w25 => G.st (p23.add 1) (.string s22) w25 fun w26 => G.cS p23 w26.drew fun s27 => G.cS (p23.add 1) w26.drew fun s28 => C.vint_PutText out_16 s27 w26.drew fun l29 w30 => sameAt (p23.add 1) 1 w26.drew w30 ∧ (C.vint_PutText l29 s28 w30 fun l31 w32 => kc5 l31 l17 n18 (IntKind.i64.wrap (n19 + (1 : Int))) w32)) (S2 K out_16 w)
theorem S7_ok (Kv : Value → World → Prop) (kc5 : Cur g5) : OkT pr false none 35 g5 (S7 (Kt Kv) kc5) (lp (blk (tl 1 (s1 (tl 3 bd))))) (P6 Kv kc5) := ok_last mixed FOk_ fun v ρ w => by kernel_rfl
def L5 (K : KT) : Cur g5 := loopC g5 (S7 K)
theorem L5_ok (Kv : Value → World → Prop) : OkT pr false none 35 g5 (L5 (Kt Kv)) (blk (tl 1 (s1 (tl 3 bd)))) (P4 Kv) := ok_loop (B := S7 (Kt Kv)) (by kernel_rfl) fun kc => S7_ok Kv kc
theorem L5_ind {K : KT} {out_8 : Sl} {l9 : Sl} {n10 : Int} {n11 : Int} {w : World} (h : ∀ X : Cur g5, (∀ out_8 l9 n10 n11 w, S7 K X out_8 l9 n10 n11 w → X out_8 l9 n10 n11 w) → X out_8 l9 n10 n11 w) : L5 K out_8 l9 n10 n11 w := fun X hX => h X fun out_8 l9 n10 n11 w hb => hX (out_8, l9, n10, n11, ()) w hb
theorem B8 (Kv : Value → World → Prop) : OkT pr false none 35 g5 (L5 (Kt Kv)) (tl 1 (s1 (tl 3 bd))) (P3 Kv) := ok_block 0 (by kernel_rfl) (L5_ok Kv)
@[reducible] def g9 : List SE := [.v 1 .sl, .v 7 .sl]
def S9 (K : KT) (l_33 : Sl) (out_34 : Sl) (w : World) : Prop :=
  L5 K out_34 l_33 ((l_33.n : Nat) : Int) (0 : Int) w
theorem S9_ok (Kv : Value → World → Prop) : OkT pr false none 35 g9 (S9 (Kt Kv)) (s1 (tl 3 bd)) (P3 Kv) := ok_group mixed FOk_ 1 (B8 Kv) fun v ρ w => by kernel_rfl
theorem Q10 (Kv : Value → World → Prop) : OkT pr false none 35 g9 (S9 (Kt Kv)) (tl 3 bd) (P1 Kv) := ok_seq (by kernel_rfl) (S2_ok Kv) (S9_ok Kv)
end labels_Put
def labels_Put (b_3 : Sl) (l_4 : Sl) (w : World) (K : labels_Put.KT) : Prop :=
  C.labels_right l_4 w fun n35 w36 => G.cond (n35 != (0 : Int)) (K nilS n35 w36) (C.vint_PutU b_3 (IntKind.u64.wrap ((l_4.n : Nat) : Int)) w36 fun l37 w38 => labels_Put.S9 K l_4 l37 w38)
def labels_Put.cl : CL := fun args K w => match args with
  | [.slice x0_a x0_n x0_c, .slice x1_a x1_n x1_c] => C.labels_Put ⟨x0_a, x0_n, x0_c⟩ ⟨x1_a, x1_n, x1_c⟩ w (labels_Put.Kt K)
  | _ => False
theorem labels_Put.clok : OkC pr 22 labels_Put.cl := by
  intro args K w h
  unfold labels_Put.cl at h
  split at h
  · exact calls_group false mixed labels_Put.FOk_ labels_Put.fn rfl 3 (labels_Put.Q10 K) (Eq.mp (by kernel_rfl) h)
  · exact h.elim

/-! tocsin/head.key -/
namespace head_key
abbrev KT := ByteArray → World → Prop
def Kt (Kv : Value → World → Prop) : KT := fun s1 w => Kv (.string s1) w
noncomputable def bd : Code := bdy Tryd.f11
theorem fn : FnOk pr 11 12 Tryd.f11 := ⟨Tryd.func11, by kernel_rfl, Tryd.ntmps11, by kernel_rfl, by kernel_rfl⟩
def F : Clee := ofL [(22, C.labels_Put.cl)]
theorem FOk_ : FOk pr F := FOk_cons C.labels_Put.clok (FOk_nil)
def P1 (Kv : Value → World → Prop) : Post := bodyK false pr 12 Tryd.f11 Kv
end head_key
def head_key (l_2 : Sl) (w : World) (K : head_key.KT) : Prop :=
  C.labels_Put nilS l_2 w fun l3 n4 w5 => G.rdS pr (Conv.bytesToString l3.v) w5 fun s6 => K s6 w5
def head_key.cl : CL := fun args K w => match args with
  | [.slice x0_a x0_n x0_c] => C.head_key ⟨x0_a, x0_n, x0_c⟩ w (head_key.Kt K)
  | _ => False
theorem head_key.clok : OkC pr 11 head_key.cl := by
  intro args K w h
  unfold head_key.cl at h
  split at h
  · exact calls_last false mixed head_key.FOk_ head_key.fn rfl (Eq.mp (by kernel_rfl) h)
  · exact h.elim

/-! slices.Clone[[]tocsin/api.Sample,tocsin/api.Sample] -/
namespace api_Sample
abbrev KT := Sl → World → Prop
def Kt (Kv : Value → World → Prop) : KT := fun l1 w => Kv l1.v w
noncomputable def bd : Code := bdy Tryd.f12
theorem fn : FnOk pr 12 8 Tryd.f12 := ⟨Tryd.func12, by kernel_rfl, Tryd.ntmps12, by kernel_rfl, by kernel_rfl⟩
def F : Clee := ofL []
theorem FOk_ : FOk pr F := FOk_nil
def P1 (Kv : Value → World → Prop) : Post := bodyK false pr 8 Tryd.f12 Kv
end api_Sample
def api_Sample (s_2 : Sl) (w : World) (K : api_Sample.KT) : Prop :=
  G.cond s_2.a.isNone (K nilS w) (G.new (.cells #[] 32) w fun p3 w4 => G.runSl pr (Builtin.append_ #[23, 23] 23 #[(Sl.v (⟨some p3, 0, 0⟩ : Sl)), s_2.v]) w4 fun l5 w6 => K l5 w6)
def api_Sample.cl : CL := fun args K w => match args with
  | [.slice x0_a x0_n x0_c] => C.api_Sample ⟨x0_a, x0_n, x0_c⟩ w (api_Sample.Kt K)
  | _ => False
theorem api_Sample.clok : OkC pr 12 api_Sample.cl := by
  intro args K w h
  unfold api_Sample.cl at h
  split at h
  · exact calls_last false mixed api_Sample.FOk_ api_Sample.fn rfl (Eq.mp (by kernel_rfl) h)
  · exact h.elim

/-! (*tocsin/head.Head).Get -/
namespace head_Head_Get
abbrev KT := Sl → Bool → World → Prop
def Kt (Kv : Value → World → Prop) : KT := fun l1 b2 w => Kv (.tuple #[l1.v, (.bool b2)]) w
noncomputable def bd : Code := bdy Tryd.f5
theorem fn : FnOk pr 5 36 Tryd.f5 := ⟨Tryd.func5, by kernel_rfl, Tryd.ntmps5, by kernel_rfl, by kernel_rfl⟩
def F : Clee := ofL [(10, C.labels_Right.cl), (11, C.head_key.cl), (12, C.api_Sample.cl)]
theorem FOk_ : FOk pr F := FOk_cons C.labels_Right.clok (FOk_cons C.head_key.clok (FOk_cons C.api_Sample.clok (FOk_nil)))
def P1 (Kv : Value → World → Prop) : Post := bodyK false pr 36 Tryd.f5 Kv
end head_Head_Get
def head_Head_Get (h_3 : Option Addr) (l_4 : Sl) (w : World) (K : head_Head_Get.KT) : Prop :=
  G.cond h_3.isNone (K nilS false w) (C.labels_Right l_4 w fun n9 n10 w11 => G.cond (n9 != (0 : Int)) (K nilS false w11) (G.ptr h_3 fun p12 => G.cM (p12.add 2) w11.drew fun m13 => C.head_key l_4 w11.drew fun s14 w15 => sameAt (p12.add 2) 1 w11.drew w15 ∧ (G.rd2 pr (Instr.lookup 37 (.map m13) (.string s14) true) (fun a : Option Addr => Value.pointer a) w15 fun p16 b17 => G.cond (!b17) (K nilS false w15) (G.ptr p16 fun p18 => G.cSl (p18.add 1) w15 fun l19 => C.api_Sample l19 w15 fun l20 w21 => K l20 true w21))))
def head_Head_Get.cl : CL := fun args K w => match args with
  | [.pointer x0, .slice x1_a x1_n x1_c] => C.head_Head_Get x0 ⟨x1_a, x1_n, x1_c⟩ w (head_Head_Get.Kt K)
  | _ => False
theorem head_Head_Get.clok : OkC pr 5 head_Head_Get.cl := by
  intro args K w h
  unfold head_Head_Get.cl at h
  split at h
  · exact calls_last false mixed head_Head_Get.FOk_ head_Head_Get.fn rfl (Eq.mp (by kernel_rfl) h)
  · exact h.elim

/-! math.Float64bits: the model's own -/
abbrev math_Float64bits.KT := Int → World → Prop
def math_Float64bits.Kt (Kv : Value → World → Prop) : math_Float64bits.KT := fun r0 w => Kv (.int .u64 r0) w
def math_Float64bits (x0 : Nat) (w : World) (K : math_Float64bits.KT) : Prop := K (x0 : Int) w
def math_Float64bits.cl : CL := fun args K w => match args with
  | [.float .f64 x0] => C.math_Float64bits x0 w (math_Float64bits.Kt K)
  | _ => False
theorem math_Float64bits.clok : OkX pr 17 math_Float64bits.cl := by
  intro args K w h
  unfold math_Float64bits.cl at h
  split at h
  · exact ⟨_, w, by kernel_rfl, h⟩
  · exact h.elim

/-! sync/atomic.LoadInt64: the model's own -/
abbrev atomic_LoadInt64.KT := Int → World → Prop
def atomic_LoadInt64.Kt (Kv : Value → World → Prop) : atomic_LoadInt64.KT := fun r0 w => Kv (.int .i64 r0) w
def atomic_LoadInt64 (x0 : Option Addr) (w : World) (K : atomic_LoadInt64.KT) : Prop := G.ptr x0 fun p => G.cI .i64 p w fun n => K n w
def atomic_LoadInt64.cl : CL := fun args K w => match args with
  | [.pointer x0] => C.atomic_LoadInt64 x0 w (atomic_LoadInt64.Kt K)
  | _ => False
theorem atomic_LoadInt64.clok : OkX pr 31 atomic_LoadInt64.cl := by
  intro args K w h
  unfold atomic_LoadInt64.cl at h
  split at h
  · rename_i x0
    cases x0 with
    | none => exact h.elim
    | some a =>
      obtain ⟨n, hc, hk⟩ := h
      exact ⟨_, w, run_call_load Tryd.func31 (by kernel_rfl) (by kernel_rfl) (by kernel_rfl) .i64 (by kernel_rfl) hc, hk⟩
  · exact h.elim

/-! (*sync/atomic.Int64).Load -/
namespace atomic_Int64_Load
abbrev KT := Int → World → Prop
def Kt (Kv : Value → World → Prop) : KT := fun n1 w => Kv (.int .i64 n1) w
noncomputable def bd : Code := bdy Tryd.f25
theorem fn : FnOk pr 25 7 Tryd.f25 := ⟨Tryd.func25, by kernel_rfl, Tryd.ntmps25, by kernel_rfl, by kernel_rfl⟩
def F : Clee := ofL [(31, C.atomic_LoadInt64.cl)]
theorem FOk_ : FOk pr F := FOk_consX C.atomic_LoadInt64.clok (FOk_nil)
def P1 (Kv : Value → World → Prop) : Post := bodyK false pr 7 Tryd.f25 Kv
end atomic_Int64_Load
def atomic_Int64_Load (x_2 : Option Addr) (w : World) (K : atomic_Int64_Load.KT) : Prop :=
  G.ptr x_2 fun p3 => C.atomic_LoadInt64 (some p3) w fun n4 w5 => K n4 w5
def atomic_Int64_Load.cl : CL := fun args K w => match args with
  | [.pointer x0] => C.atomic_Int64_Load x0 w (atomic_Int64_Load.Kt K)
  | _ => False
theorem atomic_Int64_Load.clok : OkC pr 25 atomic_Int64_Load.cl := by
  intro args K w h
  unfold atomic_Int64_Load.cl at h
  split at h
  · exact calls_last false mixed atomic_Int64_Load.FOk_ atomic_Int64_Load.fn rfl (Eq.mp (by kernel_rfl) h)
  · exact h.elim

/-! (*tocsin/head.Head).Samples -/
namespace head_Head_Samples
abbrev KT := Int → World → Prop
def Kt (Kv : Value → World → Prop) : KT := fun n1 w => Kv (.int .i64 n1) w
noncomputable def bd : Code := bdy Tryd.f18
theorem fn : FnOk pr 18 9 Tryd.f18 := ⟨Tryd.func18, by kernel_rfl, Tryd.ntmps18, by kernel_rfl, by kernel_rfl⟩
def F : Clee := ofL [(25, C.atomic_Int64_Load.cl)]
theorem FOk_ : FOk pr F := FOk_cons C.atomic_Int64_Load.clok (FOk_nil)
def P1 (Kv : Value → World → Prop) : Post := bodyK false pr 9 Tryd.f18 Kv
end head_Head_Samples
def head_Head_Samples (h_2 : Option Addr) (w : World) (K : head_Head_Samples.KT) : Prop :=
  G.cond h_2.isNone (K (0 : Int) w) (G.ptr h_2 fun p3 => C.atomic_Int64_Load (some (p3.add 4)) w fun n4 w5 => K n4 w5)
def head_Head_Samples.cl : CL := fun args K w => match args with
  | [.pointer x0] => C.head_Head_Samples x0 w (head_Head_Samples.Kt K)
  | _ => False
theorem head_Head_Samples.clok : OkC pr 18 head_Head_Samples.cl := by
  intro args K w h
  unfold head_Head_Samples.cl at h
  split at h
  · exact calls_last false mixed head_Head_Samples.FOk_ head_Head_Samples.fn rfl (Eq.mp (by kernel_rfl) h)
  · exact h.elim

/-! (*tocsin/head.Head).check -/
namespace head_Head_check
abbrev KT := Int → Bool → World → Prop
def Kt (Kv : Value → World → Prop) : KT := fun n1 b2 w => Kv (.tuple #[(.int .i64 n1), (.bool b2)]) w
noncomputable def bd : Code := bdy Tryd.f13
theorem fn : FnOk pr 13 106 Tryd.f13 := ⟨Tryd.func13, by kernel_rfl, Tryd.ntmps13, by kernel_rfl, by kernel_rfl⟩
def F : Clee := ofL [(10, C.labels_Right.cl), (11, C.head_key.cl), (17, C.math_Float64bits.cl), (18, C.head_Head_Samples.cl)]
theorem FOk_ : FOk pr F := FOk_cons C.labels_Right.clok (FOk_cons C.head_key.clok (FOk_consX C.math_Float64bits.clok (FOk_cons C.head_Head_Samples.clok (FOk_nil))))
def P1 (Kv : Value → World → Prop) : Post := bodyK false pr 106 Tryd.f13 Kv
@[reducible] def g2 : List SE := [.v 0 .ptr, .v 11 .bool]
def S2 (K : KT) (h_19 : Option Addr) (ok_20 : Bool) (w : World) : Prop :=
  G.cond (!ok_20) (G.ptr h_19 fun p21 => G.cM (p21.add 2) w.drew fun m22 => G.ptr h_19 fun p23 => G.cI .i64 p23 w.drew fun n24 => G.rdI pr (Builtin.len_ #[37] 3 #[(.map m22)]) .i64 w.drew fun n25 => sameAt p23 1 w.drew w.drew ∧ (G.cond (decide (n25 ≥ n24)) (K (8 : Int) false w.drew) (G.ptr h_19 fun p26 => G.cI .i64 (p26.add 1) w.drew fun n27 => C.head_Head_Samples h_19 w.drew fun n28 w29 => sameAt (p26.add 1) 1 w.drew w29 ∧ (G.cond (decide (n28 ≥ n27)) (K (8 : Int) false w29) (K (0 : Int) false w29))))) (G.ptr h_19 fun p30 => G.cI .i64 (p30.add 1) w.drew fun n31 => C.head_Head_Samples h_19 w.drew fun n32 w33 => sameAt (p30.add 1) 1 w.drew w33 ∧ (G.cond (decide (n32 ≥ n31)) (K (8 : Int) false w33) (K (0 : Int) false w33)))
theorem S2_ok (Kv : Value → World → Prop) : OkT pr false none 106 g2 (S2 (Kt Kv)) (tl 5 bd) (P1 Kv) := ok_last mixed FOk_ fun v ρ w => by kernel_rfl
end head_Head_check
def head_Head_check (h_3 : Option Addr) (l_4 : Sl) (s_5 : Int) (s_6 : Nat) (w : World) (K : head_Head_check.KT) : Prop :=
  G.new (.cells #[(.int .i64 s_5), (.float .f64 s_6)] 32) w fun p34 w35 => C.labels_Right l_4 w35 fun n36 n37 w38 => G.cond (n36 != (0 : Int)) (K (41 : Int) false w38) (G.cond (((l_4.n : Nat) : Int) == (0 : Int)) (K (41 : Int) false w38) (G.cI .i64 p34 w38 fun n39 => G.cond (decide (n39 < (0 : Int))) (K (1 : Int) false w38) (G.cI .i64 p34 w38 fun n40 => G.cond (decide (n40 > (1125899906842624 : Int))) (K (1 : Int) false w38) (G.ptr h_3 fun p41 => G.cM (p41.add 2) w38.drew fun m42 => C.head_key l_4 w38.drew fun s43 w44 => sameAt (p41.add 2) 1 w38.drew w44 ∧ (G.rd2 pr (Instr.lookup 37 (.map m42) (.string s43) true) (fun a : Option Addr => Value.pointer a) w44 fun p45 b46 => G.cond b46 (G.ptr p45 fun p47 => G.cSl (p47.add 1) w44.drew fun l48 => G.ptr p45 fun p49 => G.cSl (p49.add 1) w44.drew fun l50 => G.ix l48.a l48.n (IntKind.i64.wrap (((l50.n : Nat) : Int) - (1 : Int))) 2 fun p51 => G.cI .i64 p51 w44.drew fun n52 => G.cF .f64 (p51.add 1) w44.drew fun f53 => G.new (.cells #[(.int .i64 (0 : Int)), (.float .f64 0)] 32) w44.drew fun p54 w55 => sameAt (p47.add 1) 1 w44.drew w55 ∧ sameAt (p49.add 1) 1 w44.drew w55 ∧ sameAt p51 2 w44.drew w55 ∧ (G.st p54 (.int .i64 n52) w55 fun w56 => G.st (p54.add 1) (.float .f64 f53) w56 fun w57 => G.cI .i64 p34 w57 fun n58 => G.cI .i64 p54 w57 fun n59 => G.cond (decide (n58 < n59)) (K (90 : Int) false w57) (G.cI .i64 p34 w57.drew fun n60 => G.cI .i64 p54 w57.drew fun n61 => G.cond (n60 == n61) (G.cF .f64 (p34.add 1) w57.drew fun f62 => G.cF .f64 (p54.add 1) w57.drew fun f63 => C.math_Float64bits f62 w57.drew fun n64 w65 => sameAt (p54.add 1) 1 w57.drew w65 ∧ (C.math_Float64bits f63 w65 fun n66 w67 => G.cond (n64 != n66) (K (6 : Int) false w67) (G.cI .i64 p34 w67 fun n68 => G.cI .i64 p54 w67 fun n69 => G.cond (n68 == n69) (K (0 : Int) true w67) (head_Head_check.S2 K h_3 b46 w67)))) (G.cI .i64 p34 w57.drew fun n70 => G.cI .i64 p54 w57.drew fun n71 => G.cond (n70 == n71) (K (0 : Int) true w57.drew) (head_Head_check.S2 K h_3 b46 w57.drew))))) (head_Head_check.S2 K h_3 b46 w44))))))
def head_Head_check.cl : CL := fun args K w => match args with
  | [.pointer x0, .slice x1_a x1_n x1_c, .agg ⟨[.int .i64 x2_0, .float .f64 x2_1]⟩] => C.head_Head_check x0 ⟨x1_a, x1_n, x1_c⟩ x2_0 x2_1 w (head_Head_check.Kt K)
  | _ => False
theorem head_Head_check.clok : OkC pr 13 head_Head_check.cl := by
  intro args K w h
  unfold head_Head_check.cl at h
  split at h
  · exact calls_group false mixed head_Head_check.FOk_ head_Head_check.fn rfl 5 (head_Head_check.S2_ok K) (Eq.mp (by kernel_rfl) h)
  · exact h.elim

/-! sync/atomic.AddInt64: the model's own -/
abbrev atomic_AddInt64.KT := Int → World → Prop
def atomic_AddInt64.Kt (Kv : Value → World → Prop) : atomic_AddInt64.KT := fun r0 w => Kv (.int .i64 r0) w
def atomic_AddInt64 (x0 : Option Addr) (x1 : Int) (w : World) (K : atomic_AddInt64.KT) : Prop := G.ptr x0 fun p => G.cI .i64 p w fun n => G.st p (.int .i64 (IntKind.i64.wrap (n + x1))) w fun w1 => K (IntKind.i64.wrap (n + x1)) w1
def atomic_AddInt64.cl : CL := fun args K w => match args with
  | [.pointer x0, .int .i64 x1] => C.atomic_AddInt64 x0 x1 w (atomic_AddInt64.Kt K)
  | _ => False
theorem atomic_AddInt64.clok : OkX pr 23 atomic_AddInt64.cl := by
  intro args K w h
  unfold atomic_AddInt64.cl at h
  split at h
  · rename_i x0 x1
    cases x0 with
    | none => exact h.elim
    | some a =>
      obtain ⟨n, hc, ⟨u, hu⟩, hf, hk⟩ := h
      exact ⟨_, _, run_call_add Tryd.func23 (by kernel_rfl) (by kernel_rfl) (by kernel_rfl) .i64 (by kernel_rfl) hc hf rfl, hk⟩
  · exact h.elim

/-! (*sync/atomic.Int64).Add -/
namespace atomic_Int64_Add
abbrev KT := Int → World → Prop
def Kt (Kv : Value → World → Prop) : KT := fun n1 w => Kv (.int .i64 n1) w
noncomputable def bd : Code := bdy Tryd.f14
theorem fn : FnOk pr 14 10 Tryd.f14 := ⟨Tryd.func14, by kernel_rfl, Tryd.ntmps14, by kernel_rfl, by kernel_rfl⟩
def F : Clee := ofL [(23, C.atomic_AddInt64.cl)]
theorem FOk_ : FOk pr F := FOk_consX C.atomic_AddInt64.clok (FOk_nil)
def P1 (Kv : Value → World → Prop) : Post := bodyK false pr 10 Tryd.f14 Kv
end atomic_Int64_Add
def atomic_Int64_Add (x_2 : Option Addr) (delta_3 : Int) (w : World) (K : atomic_Int64_Add.KT) : Prop :=
  G.ptr x_2 fun p4 => C.atomic_AddInt64 (some p4) delta_3 w fun n5 w6 => K n5 w6
def atomic_Int64_Add.cl : CL := fun args K w => match args with
  | [.pointer x0, .int .i64 x1] => C.atomic_Int64_Add x0 x1 w (atomic_Int64_Add.Kt K)
  | _ => False
theorem atomic_Int64_Add.clok : OkC pr 14 atomic_Int64_Add.cl := by
  intro args K w h
  unfold atomic_Int64_Add.cl at h
  split at h
  · exact calls_last false mixed atomic_Int64_Add.FOk_ atomic_Int64_Add.fn rfl (Eq.mp (by kernel_rfl) h)
  · exact h.elim

/-! slices.Clone[[]tocsin/api.Label,tocsin/api.Label] -/
namespace api_Label
abbrev KT := Sl → World → Prop
def Kt (Kv : Value → World → Prop) : KT := fun l1 w => Kv l1.v w
noncomputable def bd : Code := bdy Tryd.f15
theorem fn : FnOk pr 15 8 Tryd.f15 := ⟨Tryd.func15, by kernel_rfl, Tryd.ntmps15, by kernel_rfl, by kernel_rfl⟩
def F : Clee := ofL []
theorem FOk_ : FOk pr F := FOk_nil
def P1 (Kv : Value → World → Prop) : Post := bodyK false pr 8 Tryd.f15 Kv
end api_Label
def api_Label (s_2 : Sl) (w : World) (K : api_Label.KT) : Prop :=
  G.cond s_2.a.isNone (K nilS w) (G.new (.cells #[] 58) w fun p3 w4 => G.runSl pr (Builtin.append_ #[22, 22] 22 #[(Sl.v (⟨some p3, 0, 0⟩ : Sl)), s_2.v]) w4 fun l5 w6 => K l5 w6)
def api_Label.cl : CL := fun args K w => match args with
  | [.slice x0_a x0_n x0_c] => C.api_Label ⟨x0_a, x0_n, x0_c⟩ w (api_Label.Kt K)
  | _ => False
theorem api_Label.clok : OkC pr 15 api_Label.cl := by
  intro args K w h
  unfold api_Label.cl at h
  split at h
  · exact calls_last false mixed api_Label.FOk_ api_Label.fn rfl (Eq.mp (by kernel_rfl) h)
  · exact h.elim

/-! (*tocsin/head.Head).Append -/
namespace head_Head_Append
abbrev KT := Int → World → Prop
def Kt (Kv : Value → World → Prop) : KT := fun n1 w => Kv (.int .i64 n1) w
noncomputable def bd : Code := bdy Tryd.f6
theorem fn : FnOk pr 6 72 Tryd.f6 := ⟨Tryd.func6, by kernel_rfl, Tryd.ntmps6, by kernel_rfl, by kernel_rfl⟩
def F : Clee := ofL [(11, C.head_key.cl), (13, C.head_Head_check.cl), (14, C.atomic_Int64_Add.cl), (15, C.api_Label.cl)]
theorem FOk_ : FOk pr F := FOk_cons C.head_key.clok (FOk_cons C.head_Head_check.clok (FOk_cons C.atomic_Int64_Add.clok (FOk_cons C.api_Label.clok (FOk_nil))))
def P1 (Kv : Value → World → Prop) : Post := bodyK false pr 72 Tryd.f6 Kv
@[reducible] def g2 : List SE := [.v 0 .ptr, .v 5 .ptr, .v 10 .ptr]
def S2 (K : KT) (h_18 : Option Addr) (s_19 : Option Addr) (x_20 : Option Addr) (w : World) : Prop :=
  G.ptr x_20 fun p21 => G.cSl (p21.add 1) w.drew fun l22 => G.ptr s_19 fun p23 => G.cI .i64 p23 w.drew fun n24 => G.cF .f64 (p23.add 1) w.drew fun f25 => G.new (.cells #[(.int .i64 n24), (.float .f64 f25)] 32) w.drew fun p26 w27 => sameAt (p21.add 1) 1 w.drew w27 ∧ (G.runSl pr (Builtin.append_ #[23, 23] 23 #[l22.v, (Sl.v (⟨some p26, 1, 1⟩ : Sl))]) w27 fun l28 w29 => G.ptr x_20 fun p30 => G.st (p30.add 1) l28.v w29 fun w31 => G.ptr h_18 fun p32 => C.atomic_Int64_Add (some (p32.add 4)) (1 : Int) w31 fun n33 w34 => K (0 : Int) w34)
theorem S2_ok (Kv : Value → World → Prop) : OkT pr false none 72 g2 (S2 (Kt Kv)) (tl 7 bd) (P1 Kv) := ok_last mixed FOk_ fun v ρ w => by kernel_rfl
end head_Head_Append
def head_Head_Append (h_2 : Option Addr) (l_3 : Sl) (s_4 : Int) (s_5 : Nat) (w : World) (K : head_Head_Append.KT) : Prop :=
  G.new (.cells #[(.int .i64 s_4), (.float .f64 s_5)] 32) w fun p35 w36 => G.cond h_2.isNone (K (2 : Int) w36) (G.cI .i64 p35 w36 fun n37 => G.cF .f64 (p35.add 1) w36 fun f38 => C.head_Head_check h_2 l_3 n37 f38 w36 fun n39 b40 w41 => G.cond (n39 != (0 : Int)) (G.ptr h_2 fun p42 => C.atomic_Int64_Add (some (p42.add 5)) (1 : Int) w41 fun n43 w44 => K n39 w44) (G.cond b40 (K (0 : Int) w41) (C.head_key l_3 w41 fun s45 w46 => G.ptr h_2 fun p47 => G.cM (p47.add 2) w46 fun m48 => G.rd2 pr (Instr.lookup 37 (.map m48) (.string s45) true) (fun a : Option Addr => Value.pointer a) w46 fun p49 b50 => G.cond (!b50) (C.api_Label l_3 w46 fun l51 w52 => G.new (.cells #[l51.v, nilS.v] 52) w52 fun p53 w54 => G.ptr h_2 fun p55 => G.cM (p55.add 2) w54 fun m56 => G.runU pr (Instr.mapUpdate 37 (.map m56) (.string s45) (.pointer (some p53))) w54 fun w57 => G.ptr h_2 fun p58 => C.atomic_Int64_Add (some (p58.add 3)) (1 : Int) w57 fun n59 w60 => head_Head_Append.S2 K h_2 (some p35) (some p53) w60) (head_Head_Append.S2 K h_2 (some p35) p49 w46))))
def head_Head_Append.cl : CL := fun args K w => match args with
  | [.pointer x0, .slice x1_a x1_n x1_c, .agg ⟨[.int .i64 x2_0, .float .f64 x2_1]⟩] => C.head_Head_Append x0 ⟨x1_a, x1_n, x1_c⟩ x2_0 x2_1 w (head_Head_Append.Kt K)
  | _ => False
theorem head_Head_Append.clok : OkC pr 6 head_Head_Append.cl := by
  intro args K w h
  unfold head_Head_Append.cl at h
  split at h
  · exact calls_group false mixed head_Head_Append.FOk_ head_Head_Append.fn rfl 7 (head_Head_Append.S2_ok K) (Eq.mp (by kernel_rfl) h)
  · exact h.elim

/-! tocsin/tocsinref04.side -/
namespace tocsinref04_side
abbrev KT := Int → World → Prop
def Kt (Kv : Value → World → Prop) : KT := fun n1 w => Kv (.int .i64 n1) w
noncomputable def bd : Code := bdy Tryd.f24
theorem fn : FnOk pr 24 11 Tryd.f24 := ⟨Tryd.func24, by kernel_rfl, Tryd.ntmps24, by kernel_rfl, by kernel_rfl⟩
def F : Clee := ofL []
theorem FOk_ : FOk pr F := FOk_nil
def P1 (Kv : Value → World → Prop) : Post := bodyK false pr 11 Tryd.f24 Kv
end tocsinref04_side
def tocsinref04_side (a_2 : ByteArray) (b_3 : ByteArray) (w : World) (K : tocsinref04_side.KT) : Prop :=
  G.cond (Op.bytesLess a_2.toList b_3.toList) (K (-1 : Int) w) (G.cond (!((Op.bytesLess a_2.toList b_3.toList) || (a_2.toList == b_3.toList))) (K (1 : Int) w) (K (0 : Int) w))
def tocsinref04_side.cl : CL := fun args K w => match args with
  | [.string x0, .string x1] => C.tocsinref04_side x0 x1 w (tocsinref04_side.Kt K)
  | _ => False
theorem tocsinref04_side.clok : OkC pr 24 tocsinref04_side.cl := by
  intro args K w h
  unfold tocsinref04_side.cl at h
  split at h
  · exact calls_last false mixed tocsinref04_side.FOk_ tocsinref04_side.fn rfl (Eq.mp (by kernel_rfl) h)
  · exact h.elim

/-! tocsin/tocsinref04.Compare -/
namespace tocsinref04_Compare
abbrev KT := Int → World → Prop
def Kt (Kv : Value → World → Prop) : KT := fun n1 w => Kv (.int .i64 n1) w
noncomputable def bd : Code := bdy Tryd.f16
theorem fn : FnOk pr 16 58 Tryd.f16 := ⟨Tryd.func16, by kernel_rfl, Tryd.ntmps16, by kernel_rfl, by kernel_rfl⟩
def F : Clee := ofL [(24, C.tocsinref04_side.cl)]
theorem FOk_ : FOk pr F := FOk_cons C.tocsinref04_side.clok (FOk_nil)
def P1 (Kv : Value → World → Prop) : Post := bodyK false pr 58 Tryd.f16 Kv
@[reducible] def g2 : List SE := [.v 0 .sl, .v 1 .sl]
def S2 (K : KT) (a_4 : Sl) (b_5 : Sl) (w : World) : Prop :=
  G.cond (decide (((a_4.n : Nat) : Int) < ((b_5.n : Nat) : Int))) (K (-1 : Int) w) (G.cond (decide (((a_4.n : Nat) : Int) > ((b_5.n : Nat) : Int))) (K (1 : Int) w) (K (0 : Int) w))
theorem S2_ok (Kv : Value → World → Prop) : OkT pr false none 58 g2 (S2 (Kt Kv)) (s2 (tl 1 bd)) (P1 Kv) := ok_last mixed FOk_ fun v ρ w => by kernel_rfl
def P3 (Kv : Value → World → Prop) : Post := next (get g2 (S2 (Kt Kv))) (P1 Kv)
def P4 (Kv : Value → World → Prop) : Post := inBlock 0 (P3 Kv)
@[reducible] def g5 : List SE := [.v 0 .sl, .v 1 .sl, .v 5 (.int .i64)]
def P6 (Kv : Value → World → Prop) (kc5 : Cur g5) : Post := next (get g5 kc5) (P4 Kv)
def S7 (K : KT) (kc5 : Cur g5) (a_12 : Sl) (b_13 : Sl) (i_14 : Int) (w : World) : Prop :=
  G.cond (decide (i_14 < ((a_12.n : Nat) : Int))) (G.cond (decide (i_14 < ((b_13.n : Nat) : Int))) (G.ix a_12.a a_12.n i_14 2 fun p15 => G.cS p15 w.drew fun s16 => G.ix b_13.a b_13.n i_14 2 fun p17 => G.cS p17 w.drew fun s18 => C.tocsinref04_side s16 s18 w.drew fun n19 w20 => G.cond (n19 != (0 : Int)) (K n19 w20) (G.ix a_12.a a_12.n i_14 2 fun p21 => G.cS (p21.add 1) w20.drew fun s22 => G.ix b_13.a b_13.n i_14 2 fun p23 => G.cS (p23.add 1) w20.drew fun s24 => C.tocsinref04_side s22 s24 w20.drew fun n25 w26 => G.cond (n25 != (0 : Int)) (K n25 w26) (kc5 a_12 b_13 (IntKind.i64.wrap (i_14 + (1 : Int))) w26))) (S2 K a_12 b_13 w)) (S2 K a_12 b_13 w)
theorem S7_ok (Kv : Value → World → Prop) (kc5 : Cur g5) : OkT pr false none 58 g5 (S7 (Kt Kv) kc5) (lp (blk (tl 1 (s1 (tl 1 bd))))) (P6 Kv kc5) := ok_last mixed FOk_ fun v ρ w => by kernel_rfl
def L5 (K : KT) : Cur g5 := loopC g5 (S7 K)
theorem L5_ok (Kv : Value → World → Prop) : OkT pr false none 58 g5 (L5 (Kt Kv)) (blk (tl 1 (s1 (tl 1 bd)))) (P4 Kv) := ok_loop (B := S7 (Kt Kv)) (by kernel_rfl) fun kc => S7_ok Kv kc
theorem L5_ind {K : KT} {a_6 : Sl} {b_7 : Sl} {i_8 : Int} {w : World} (h : ∀ X : Cur g5, (∀ a_6 b_7 i_8 w, S7 K X a_6 b_7 i_8 w → X a_6 b_7 i_8 w) → X a_6 b_7 i_8 w) : L5 K a_6 b_7 i_8 w := fun X hX => h X fun a_6 b_7 i_8 w hb => hX (a_6, b_7, i_8, ()) w hb
theorem B8 (Kv : Value → World → Prop) : OkT pr false none 58 g5 (L5 (Kt Kv)) (tl 1 (s1 (tl 1 bd))) (P3 Kv) := ok_block 0 (by kernel_rfl) (L5_ok Kv)
def S9 (K : KT) (a_27 : Sl) (b_28 : Sl) (w : World) : Prop :=
  L5 K a_27 b_28 (0 : Int) w
theorem S9_ok (Kv : Value → World → Prop) : OkT pr false none 58 g2 (S9 (Kt Kv)) (s1 (tl 1 bd)) (P3 Kv) := ok_group mixed FOk_ 1 (B8 Kv) fun v ρ w => by kernel_rfl
theorem Q10 (Kv : Value → World → Prop) : OkT pr false none 58 g2 (S9 (Kt Kv)) (tl 1 bd) (P1 Kv) := ok_seq (by kernel_rfl) (S2_ok Kv) (S9_ok Kv)
end tocsinref04_Compare
def tocsinref04_Compare (a_2 : Sl) (b_3 : Sl) (w : World) (K : tocsinref04_Compare.KT) : Prop :=
  tocsinref04_Compare.S9 K a_2 b_3 w
def tocsinref04_Compare.cl : CL := fun args K w => match args with
  | [.slice x0_a x0_n x0_c, .slice x1_a x1_n x1_c] => C.tocsinref04_Compare ⟨x0_a, x0_n, x0_c⟩ ⟨x1_a, x1_n, x1_c⟩ w (tocsinref04_Compare.Kt K)
  | _ => False
theorem tocsinref04_Compare.clok : OkC pr 16 tocsinref04_Compare.cl := by
  intro args K w h
  unfold tocsinref04_Compare.cl at h
  split at h
  · exact calls_group false mixed tocsinref04_Compare.FOk_ tocsinref04_Compare.fn rfl 1 (tocsinref04_Compare.Q10 K) (Eq.mp (by kernel_rfl) h)
  · exact h.elim

/-! tocsin/tocsinref04.Same -/
namespace tocsinref04_Same
abbrev KT := Bool → World → Prop
def Kt (Kv : Value → World → Prop) : KT := fun b1 w => Kv (.bool b1) w
noncomputable def bd : Code := bdy Tryd.f7
theorem fn : FnOk pr 7 9 Tryd.f7 := ⟨Tryd.func7, by kernel_rfl, Tryd.ntmps7, by kernel_rfl, by kernel_rfl⟩
def F : Clee := ofL [(16, C.tocsinref04_Compare.cl)]
theorem FOk_ : FOk pr F := FOk_cons C.tocsinref04_Compare.clok (FOk_nil)
def P1 (Kv : Value → World → Prop) : Post := bodyK false pr 9 Tryd.f7 Kv
end tocsinref04_Same
def tocsinref04_Same (a_2 : Sl) (b_3 : Sl) (w : World) (K : tocsinref04_Same.KT) : Prop :=
  C.tocsinref04_Compare a_2 b_3 w fun n4 w5 => K (n4 == (0 : Int)) w5
def tocsinref04_Same.cl : CL := fun args K w => match args with
  | [.slice x0_a x0_n x0_c, .slice x1_a x1_n x1_c] => C.tocsinref04_Same ⟨x0_a, x0_n, x0_c⟩ ⟨x1_a, x1_n, x1_c⟩ w (tocsinref04_Same.Kt K)
  | _ => False
theorem tocsinref04_Same.clok : OkC pr 7 tocsinref04_Same.cl := by
  intro args K w h
  unfold tocsinref04_Same.cl at h
  split at h
  · exact calls_last false mixed tocsinref04_Same.FOk_ tocsinref04_Same.fn rfl (Eq.mp (by kernel_rfl) h)
  · exact h.elim

/-! tocsin/tocsinref09.SameSamples -/
namespace tocsinref09_SameSamples
abbrev KT := Bool → World → Prop
def Kt (Kv : Value → World → Prop) : KT := fun b1 w => Kv (.bool b1) w
noncomputable def bd : Code := bdy Tryd.f8
theorem fn : FnOk pr 8 43 Tryd.f8 := ⟨Tryd.func8, by kernel_rfl, Tryd.ntmps8, by kernel_rfl, by kernel_rfl⟩
def F : Clee := ofL [(17, C.math_Float64bits.cl)]
theorem FOk_ : FOk pr F := FOk_consX C.math_Float64bits.clok (FOk_nil)
def P1 (Kv : Value → World → Prop) : Post := bodyK false pr 43 Tryd.f8 Kv
@[reducible] def g2 : List SE := []
def S2 (K : KT) (w : World) : Prop :=
  K true w
theorem S2_ok (Kv : Value → World → Prop) : OkT pr false none 43 g2 (S2 (Kt Kv)) (s2 (tl 2 bd)) (P1 Kv) := ok_last mixed FOk_ fun v ρ w => by kernel_rfl
def P3 (Kv : Value → World → Prop) : Post := next (get g2 (S2 (Kt Kv))) (P1 Kv)
def P4 (Kv : Value → World → Prop) : Post := inBlock 0 (P3 Kv)
@[reducible] def g5 : List SE := [.v 0 .sl, .v 1 .sl, .v 5 (.int .i64)]
def P6 (Kv : Value → World → Prop) (kc5 : Cur g5) : Post := next (get g5 kc5) (P4 Kv)
def S7 (K : KT) (kc5 : Cur g5) (a_10 : Sl) (b_11 : Sl) (i_12 : Int) (w : World) : Prop :=
  G.cond (decide (i_12 < ((a_10.n : Nat) : Int))) (G.ix a_10.a a_10.n i_12 2 fun p13 => G.cI .i64 p13 w.drew fun n14 => G.ix b_11.a b_11.n i_12 2 fun p15 => G.cI .i64 p15 w.drew fun n16 => G.cond (n14 != n16) (K false w.drew) (G.ix a_10.a a_10.n i_12 2 fun p17 => G.cF .f64 (p17.add 1) w.drew fun f18 => G.ix b_11.a b_11.n i_12 2 fun p19 => G.cF .f64 (p19.add 1) w.drew fun f20 => C.math_Float64bits f18 w.drew fun n21 w22 => sameAt (p19.add 1) 1 w.drew w22 ∧ (C.math_Float64bits f20 w22 fun n23 w24 => G.cond (n21 != n23) (K false w24) (kc5 a_10 b_11 (IntKind.i64.wrap (i_12 + (1 : Int))) w24)))) (S2 K w)
theorem S7_ok (Kv : Value → World → Prop) (kc5 : Cur g5) : OkT pr false none 43 g5 (S7 (Kt Kv) kc5) (lp (blk (tl 1 (s1 (tl 2 bd))))) (P6 Kv kc5) := ok_last mixed FOk_ fun v ρ w => by kernel_rfl
def L5 (K : KT) : Cur g5 := loopC g5 (S7 K)
theorem L5_ok (Kv : Value → World → Prop) : OkT pr false none 43 g5 (L5 (Kt Kv)) (blk (tl 1 (s1 (tl 2 bd)))) (P4 Kv) := ok_loop (B := S7 (Kt Kv)) (by kernel_rfl) fun kc => S7_ok Kv kc
theorem L5_ind {K : KT} {a_4 : Sl} {b_5 : Sl} {i_6 : Int} {w : World} (h : ∀ X : Cur g5, (∀ a_4 b_5 i_6 w, S7 K X a_4 b_5 i_6 w → X a_4 b_5 i_6 w) → X a_4 b_5 i_6 w) : L5 K a_4 b_5 i_6 w := fun X hX => h X fun a_4 b_5 i_6 w hb => hX (a_4, b_5, i_6, ()) w hb
theorem B8 (Kv : Value → World → Prop) : OkT pr false none 43 g5 (L5 (Kt Kv)) (tl 1 (s1 (tl 2 bd))) (P3 Kv) := ok_block 0 (by kernel_rfl) (L5_ok Kv)
@[reducible] def g9 : List SE := [.v 0 .sl, .v 1 .sl]
def S9 (K : KT) (a_25 : Sl) (b_26 : Sl) (w : World) : Prop :=
  L5 K a_25 b_26 (0 : Int) w
theorem S9_ok (Kv : Value → World → Prop) : OkT pr false none 43 g9 (S9 (Kt Kv)) (s1 (tl 2 bd)) (P3 Kv) := ok_group mixed FOk_ 1 (B8 Kv) fun v ρ w => by kernel_rfl
theorem Q10 (Kv : Value → World → Prop) : OkT pr false none 43 g9 (S9 (Kt Kv)) (tl 2 bd) (P1 Kv) := ok_seq (by kernel_rfl) (S2_ok Kv) (S9_ok Kv)
end tocsinref09_SameSamples
def tocsinref09_SameSamples (a_2 : Sl) (b_3 : Sl) (w : World) (K : tocsinref09_SameSamples.KT) : Prop :=
  G.cond (((a_2.n : Nat) : Int) != ((b_3.n : Nat) : Int)) (K false w) (tocsinref09_SameSamples.S9 K a_2 b_3 w)
def tocsinref09_SameSamples.cl : CL := fun args K w => match args with
  | [.slice x0_a x0_n x0_c, .slice x1_a x1_n x1_c] => C.tocsinref09_SameSamples ⟨x0_a, x0_n, x0_c⟩ ⟨x1_a, x1_n, x1_c⟩ w (tocsinref09_SameSamples.Kt K)
  | _ => False
theorem tocsinref09_SameSamples.clok : OkC pr 8 tocsinref09_SameSamples.cl := by
  intro args K w h
  unfold tocsinref09_SameSamples.cl at h
  split at h
  · exact calls_group false mixed tocsinref09_SameSamples.FOk_ tocsinref09_SameSamples.fn rfl 2 (tocsinref09_SameSamples.Q10 K) (Eq.mp (by kernel_rfl) h)
  · exact h.elim

/-! (*tocsin/head.Head).Refused -/
namespace head_Head_Refused
abbrev KT := Int → World → Prop
def Kt (Kv : Value → World → Prop) : KT := fun n1 w => Kv (.int .i64 n1) w
noncomputable def bd : Code := bdy Tryd.f19
theorem fn : FnOk pr 19 9 Tryd.f19 := ⟨Tryd.func19, by kernel_rfl, Tryd.ntmps19, by kernel_rfl, by kernel_rfl⟩
def F : Clee := ofL [(25, C.atomic_Int64_Load.cl)]
theorem FOk_ : FOk pr F := FOk_cons C.atomic_Int64_Load.clok (FOk_nil)
def P1 (Kv : Value → World → Prop) : Post := bodyK false pr 9 Tryd.f19 Kv
end head_Head_Refused
def head_Head_Refused (h_2 : Option Addr) (w : World) (K : head_Head_Refused.KT) : Prop :=
  G.cond h_2.isNone (K (0 : Int) w) (G.ptr h_2 fun p3 => C.atomic_Int64_Load (some (p3.add 5)) w fun n4 w5 => K n4 w5)
def head_Head_Refused.cl : CL := fun args K w => match args with
  | [.pointer x0] => C.head_Head_Refused x0 w (head_Head_Refused.Kt K)
  | _ => False
theorem head_Head_Refused.clok : OkC pr 19 head_Head_Refused.cl := by
  intro args K w h
  unfold head_Head_Refused.cl at h
  split at h
  · exact calls_last false mixed head_Head_Refused.FOk_ head_Head_Refused.fn rfl (Eq.mp (by kernel_rfl) h)
  · exact h.elim

/-! tocsin/tocsinlaw09.known -/
namespace tocsinlaw09_known
abbrev KT := Bool → World → Prop
def Kt (Kv : Value → World → Prop) : KT := fun b1 w => Kv (.bool b1) w
noncomputable def bd : Code := bdy Tryd.f9
theorem fn : FnOk pr 9 59 Tryd.f9 := ⟨Tryd.func9, by kernel_rfl, Tryd.ntmps9, by kernel_rfl, by kernel_rfl⟩
def F : Clee := ofL [(4, C.head_New.cl), (5, C.head_Head_Get.cl), (6, C.head_Head_Append.cl), (18, C.head_Head_Samples.cl), (19, C.head_Head_Refused.cl)]
theorem FOk_ : FOk pr F := FOk_cons C.head_New.clok (FOk_cons C.head_Head_Get.clok (FOk_cons C.head_Head_Append.clok (FOk_cons C.head_Head_Samples.clok (FOk_cons C.head_Head_Refused.clok (FOk_nil)))))
def P1 (Kv : Value → World → Prop) : Post := bodyK false pr 59 Tryd.f9 Kv
end tocsinlaw09_known
def tocsinlaw09_known (w : World) (K : tocsinlaw09_known.KT) : Prop :=
  C.head_New (2 : Int) (3 : Int) w fun p2 w3 => G.new (.cells #[(.string (⟨#[97]⟩ : ByteArray)), (.string (⟨#[49]⟩ : ByteArray))] 58) w3 fun p4 w5 => G.cond p2.isNone (K false w5) (C.head_Head_Append p2 (⟨some p4, 1, 1⟩ : Sl) (5 : Int) 4607182418800017408 w5 fun n6 w7 => C.head_Head_Append p2 (⟨some p4, 1, 1⟩ : Sl) (4 : Int) 4607182418800017408 w7 fun n8 w9 => C.head_Head_Append p2 (⟨some p4, 1, 1⟩ : Sl) (5 : Int) 4611686018427387904 w9 fun n10 w11 => C.head_Head_Get p2 (⟨some p4, 1, 1⟩ : Sl) w11 fun l12 b13 w14 => G.cond (n6 == (0 : Int)) (G.cond (n8 == (90 : Int)) (G.cond (n10 == (6 : Int)) (G.cond b13 (G.cond (((l12.n : Nat) : Int) == (1 : Int)) (C.head_Head_Samples p2 w14 fun n15 w16 => G.cond (n15 == (1 : Int)) (C.head_Head_Refused p2 w16 fun n17 w18 => K (n17 == (2 : Int)) w18) (K false w16)) (K false w14)) (K false w14)) (K false w14)) (K false w14)) (K false w14))
def tocsinlaw09_known.cl : CL := fun args K w => match args with
  | [] => C.tocsinlaw09_known w (tocsinlaw09_known.Kt K)
  | _ => False
theorem tocsinlaw09_known.clok : OkC pr 9 tocsinlaw09_known.cl := by
  intro args K w h
  unfold tocsinlaw09_known.cl at h
  split at h
  · exact calls_last false mixed tocsinlaw09_known.FOk_ tocsinlaw09_known.fn rfl (Eq.mp (by kernel_rfl) h)
  · exact h.elim

/-! tocsin/tocsinlaw09.HeadKeeps -/
namespace tocsinlaw09_HeadKeeps
abbrev KT := Bool → World → Prop
def Kt (Kv : Value → World → Prop) : KT := fun b1 w => Kv (.bool b1) w
noncomputable def bd : Code := bdy Tryd.f3
theorem fn : FnOk pr 3 136 Tryd.f3 := ⟨Tryd.func3, by kernel_rfl, Tryd.ntmps3, by kernel_rfl, by kernel_rfl⟩
def F : Clee := ofL [(4, C.head_New.cl), (5, C.head_Head_Get.cl), (6, C.head_Head_Append.cl), (7, C.tocsinref04_Same.cl), (8, C.tocsinref09_SameSamples.cl), (9, C.tocsinlaw09_known.cl)]
theorem FOk_ : FOk pr F := FOk_cons C.head_New.clok (FOk_cons C.head_Head_Get.clok (FOk_cons C.head_Head_Append.clok (FOk_cons C.tocsinref04_Same.clok (FOk_cons C.tocsinref09_SameSamples.clok (FOk_cons C.tocsinlaw09_known.clok (FOk_nil))))))
def P1 (Kv : Value → World → Prop) : Post := bodyK false pr 136 Tryd.f3 Kv
@[reducible] def g2 : List SE := []
def S2 (K : KT) (w : World) : Prop :=
  C.tocsinlaw09_known w fun b8 w9 => K b8 w9
theorem S2_ok (Kv : Value → World → Prop) : OkT pr false none 136 g2 (S2 (Kt Kv)) (s2 (tl 2 (s2 (tl 4 bd)))) (P1 Kv) := ok_last mixed FOk_ fun v ρ w => by kernel_rfl
def P3 (Kv : Value → World → Prop) : Post := next (get g2 (S2 (Kt Kv))) (P1 Kv)
def P4 (Kv : Value → World → Prop) : Post := inBlock 2 (P3 Kv)
@[reducible] def g5 : List SE := [.v 15 .sl, .v 17 (.int .i64)]
def P6 (Kv : Value → World → Prop) (kc5 : Cur g5) : Post := next (get g5 kc5) (P4 Kv)
def S7 (K : KT) (kc5 : Cur g5) (now_14 : Sl) (i_15 : Int) (w : World) : Prop :=
  G.cond (decide (i_15 < ((now_14.n : Nat) : Int))) (G.ix now_14.a now_14.n i_15 2 fun p16 => G.cI .i64 p16 w.drew fun n17 => G.ix now_14.a now_14.n (IntKind.i64.wrap (i_15 - (1 : Int))) 2 fun p18 => G.cI .i64 p18 w.drew fun n19 => G.cond (decide (n17 ≤ n19)) (K false w.drew) (kc5 now_14 (IntKind.i64.wrap (i_15 + (1 : Int))) w.drew)) (S2 K w)
theorem S7_ok (Kv : Value → World → Prop) (kc5 : Cur g5) : OkT pr false none 136 g5 (S7 (Kt Kv) kc5) (lp (blk (tl 1 (s1 (tl 2 (s2 (tl 4 bd))))))) (P6 Kv kc5) := ok_last mixed FOk_ fun v ρ w => by kernel_rfl
def L5 (K : KT) : Cur g5 := loopC g5 (S7 K)
theorem L5_ok (Kv : Value → World → Prop) : OkT pr false none 136 g5 (L5 (Kt Kv)) (blk (tl 1 (s1 (tl 2 (s2 (tl 4 bd)))))) (P4 Kv) := ok_loop (B := S7 (Kt Kv)) (by kernel_rfl) fun kc => S7_ok Kv kc
theorem L5_ind {K : KT} {now_10 : Sl} {i_11 : Int} {w : World} (h : ∀ X : Cur g5, (∀ now_10 i_11 w, S7 K X now_10 i_11 w → X now_10 i_11 w) → X now_10 i_11 w) : L5 K now_10 i_11 w := fun X hX => h X fun now_10 i_11 w hb => hX (now_10, i_11, ()) w hb
theorem B8 (Kv : Value → World → Prop) : OkT pr false none 136 g5 (L5 (Kt Kv)) (tl 1 (s1 (tl 2 (s2 (tl 4 bd))))) (P3 Kv) := ok_block 2 (by kernel_rfl) (L5_ok Kv)
@[reducible] def g9 : List SE := [.v 15 .sl]
def S9 (K : KT) (now_20 : Sl) (w : World) : Prop :=
  L5 K now_20 (1 : Int) w
theorem S9_ok (Kv : Value → World → Prop) : OkT pr false none 136 g9 (S9 (Kt Kv)) (s1 (tl 2 (s2 (tl 4 bd)))) (P3 Kv) := ok_group mixed FOk_ 1 (B8 Kv) fun v ρ w => by kernel_rfl
theorem Q10 (Kv : Value → World → Prop) : OkT pr false none 136 g9 (S9 (Kt Kv)) (tl 2 (s2 (tl 4 bd))) (P1 Kv) := ok_seq (by kernel_rfl) (S2_ok Kv) (S9_ok Kv)
@[reducible] def g11 : List SE := [.v 0 .sl, .v 7 .ptr, .v 8 .sl]
def S11 (K : KT) (l_21 : Sl) (h_22 : Option Addr) (want_23 : Sl) (w : World) : Prop :=
  C.head_Head_Get h_22 l_21 w fun l24 b25 w26 => C.tocsinref09_SameSamples l24 want_23 w26 fun b27 w28 => G.cond (!b27) (K false w28) (G.cond (!(b25 == (decide (((want_23.n : Nat) : Int) > (0 : Int))))) (K false w28) (S9 K l24 w28))
theorem S11_ok (Kv : Value → World → Prop) : OkT pr false none 136 g11 (S11 (Kt Kv)) (s2 (tl 4 bd)) (P1 Kv) := ok_group mixed FOk_ 2 (Q10 Kv) fun v ρ w => by kernel_rfl
def P12 (Kv : Value → World → Prop) : Post := next (get g11 (S11 (Kt Kv))) (P1 Kv)
def P13 (Kv : Value → World → Prop) : Post := inBlock 0 (P12 Kv)
@[reducible] def g14 : List SE := [.v 0 .sl, .v 1 .sl, .v 2 .sl, .v 7 .ptr, .v 8 .sl, .v 9 (.int .i64)]
def P15 (Kv : Value → World → Prop) (kc14 : Cur g14) : Post := next (get g14 kc14) (P13 Kv)
def S16 (K : KT) (kc14 : Cur g14) (l_41 : Sl) (s_42 : Sl) (other_43 : Sl) (h_44 : Option Addr) (want_45 : Sl) (i_46 : Int) (w : World) : Prop :=
  G.cond (decide (i_46 < ((s_42.n : Nat) : Int))) (G.cond (decide (i_46 < (500 : Int))) (C.head_Head_Get h_44 l_41 w fun l47 b48 w49 => G.ix s_42.a s_42.n i_46 2 fun p50 => G.cI .i64 p50 w49 fun n51 => G.cF .f64 (p50.add 1) w49 fun f52 => C.head_Head_Append h_44 l_41 n51 f52 w49 fun n53 w54 => G.ix s_42.a s_42.n i_46 2 fun p55 => G.cI .i64 p55 w54 fun n56 => G.cF .f64 (p55.add 1) w54 fun f57 => C.head_Head_Append h_44 other_43 n56 f57 w54 fun n58 w59 => C.head_Head_Get h_44 l_41 w59 fun l60 b61 w62 => G.cond (n53 != (0 : Int)) (C.tocsinref04_Same l_41 other_43 w62 fun b63 w64 => G.cond (!b63) (C.tocsinref09_SameSamples l47 l60 w64 fun b65 w66 => G.cond (!b65) (K false w66) (G.cond (n53 == (0 : Int)) (G.cond (((want_45.n : Nat) : Int) == (0 : Int)) (G.ix s_42.a s_42.n i_46 2 fun p67 => G.cI .i64 p67 w66.drew fun n68 => G.cF .f64 (p67.add 1) w66.drew fun f69 => G.new (.cells #[(.int .i64 n68), (.float .f64 f69)] 32) w66.drew fun p70 w71 => G.runSl pr (Builtin.append_ #[23, 23] 23 #[want_45.v, (Sl.v (⟨some p70, 1, 1⟩ : Sl))]) w71 fun l72 w73 => kc14 l_41 s_42 other_43 h_44 l72 (IntKind.i64.wrap (i_46 + (1 : Int))) w73) (G.ix want_45.a want_45.n (IntKind.i64.wrap (((want_45.n : Nat) : Int) - (1 : Int))) 2 fun p74 => G.cI .i64 p74 w66.drew fun n75 => G.ix s_42.a s_42.n i_46 2 fun p76 => G.cI .i64 p76 w66.drew fun n77 => G.cond (n75 != n77) (G.ix s_42.a s_42.n i_46 2 fun p78 => G.cI .i64 p78 w66.drew fun n79 => G.cF .f64 (p78.add 1) w66.drew fun f80 => G.new (.cells #[(.int .i64 n79), (.float .f64 f80)] 32) w66.drew fun p81 w82 => G.runSl pr (Builtin.append_ #[23, 23] 23 #[want_45.v, (Sl.v (⟨some p81, 1, 1⟩ : Sl))]) w82 fun l83 w84 => kc14 l_41 s_42 other_43 h_44 l83 (IntKind.i64.wrap (i_46 + (1 : Int))) w84) (kc14 l_41 s_42 other_43 h_44 want_45 (IntKind.i64.wrap (i_46 + (1 : Int))) w66.drew))) (kc14 l_41 s_42 other_43 h_44 want_45 (IntKind.i64.wrap (i_46 + (1 : Int))) w66.drew))) (G.cond (n53 == (0 : Int)) (G.cond (((want_45.n : Nat) : Int) == (0 : Int)) (G.ix s_42.a s_42.n i_46 2 fun p85 => G.cI .i64 p85 w64.drew fun n86 => G.cF .f64 (p85.add 1) w64.drew fun f87 => G.new (.cells #[(.int .i64 n86), (.float .f64 f87)] 32) w64.drew fun p88 w89 => G.runSl pr (Builtin.append_ #[23, 23] 23 #[want_45.v, (Sl.v (⟨some p88, 1, 1⟩ : Sl))]) w89 fun l90 w91 => kc14 l_41 s_42 other_43 h_44 l90 (IntKind.i64.wrap (i_46 + (1 : Int))) w91) (G.ix want_45.a want_45.n (IntKind.i64.wrap (((want_45.n : Nat) : Int) - (1 : Int))) 2 fun p92 => G.cI .i64 p92 w64.drew fun n93 => G.ix s_42.a s_42.n i_46 2 fun p94 => G.cI .i64 p94 w64.drew fun n95 => G.cond (n93 != n95) (G.ix s_42.a s_42.n i_46 2 fun p96 => G.cI .i64 p96 w64.drew fun n97 => G.cF .f64 (p96.add 1) w64.drew fun f98 => G.new (.cells #[(.int .i64 n97), (.float .f64 f98)] 32) w64.drew fun p99 w100 => G.runSl pr (Builtin.append_ #[23, 23] 23 #[want_45.v, (Sl.v (⟨some p99, 1, 1⟩ : Sl))]) w100 fun l101 w102 => kc14 l_41 s_42 other_43 h_44 l101 (IntKind.i64.wrap (i_46 + (1 : Int))) w102) (kc14 l_41 s_42 other_43 h_44 want_45 (IntKind.i64.wrap (i_46 + (1 : Int))) w64.drew))) (kc14 l_41 s_42 other_43 h_44 want_45 (IntKind.i64.wrap (i_46 + (1 : Int))) w64.drew))) (G.cond (n53 == (0 : Int)) (G.cond (((want_45.n : Nat) : Int) == (0 : Int)) (G.ix s_42.a s_42.n i_46 2 fun p103 => G.cI .i64 p103 w62.drew fun n104 => G.cF .f64 (p103.add 1) w62.drew fun f105 => G.new (.cells #[(.int .i64 n104), (.float .f64 f105)] 32) w62.drew fun p106 w107 => G.runSl pr (Builtin.append_ #[23, 23] 23 #[want_45.v, (Sl.v (⟨some p106, 1, 1⟩ : Sl))]) w107 fun l108 w109 => kc14 l_41 s_42 other_43 h_44 l108 (IntKind.i64.wrap (i_46 + (1 : Int))) w109) (G.ix want_45.a want_45.n (IntKind.i64.wrap (((want_45.n : Nat) : Int) - (1 : Int))) 2 fun p110 => G.cI .i64 p110 w62.drew fun n111 => G.ix s_42.a s_42.n i_46 2 fun p112 => G.cI .i64 p112 w62.drew fun n113 => G.cond (n111 != n113) (G.ix s_42.a s_42.n i_46 2 fun p114 => G.cI .i64 p114 w62.drew fun n115 => G.cF .f64 (p114.add 1) w62.drew fun f116 => G.new (.cells #[(.int .i64 n115), (.float .f64 f116)] 32) w62.drew fun p117 w118 => G.runSl pr (Builtin.append_ #[23, 23] 23 #[want_45.v, (Sl.v (⟨some p117, 1, 1⟩ : Sl))]) w118 fun l119 w120 => kc14 l_41 s_42 other_43 h_44 l119 (IntKind.i64.wrap (i_46 + (1 : Int))) w120) (kc14 l_41 s_42 other_43 h_44 want_45 (IntKind.i64.wrap (i_46 + (1 : Int))) w62.drew))) (kc14 l_41 s_42 other_43 h_44 want_45 (IntKind.i64.wrap (i_46 + (1 : Int))) w62.drew))) (S11 K l_41 h_44 want_45 w)) (S11 K l_41 h_44 want_45 w)
theorem S16_ok (Kv : Value → World → Prop) (kc14 : Cur g14) : OkT pr false none 136 g14 (S16 (Kt Kv) kc14) (lp (blk (tl 1 (s1 (tl 4 bd))))) (P15 Kv kc14) := ok_last mixed FOk_ fun v ρ w => by kernel_rfl
def L14 (K : KT) : Cur g14 := loopC g14 (S16 K)
theorem L14_ok (Kv : Value → World → Prop) : OkT pr false none 136 g14 (L14 (Kt Kv)) (blk (tl 1 (s1 (tl 4 bd)))) (P13 Kv) := ok_loop (B := S16 (Kt Kv)) (by kernel_rfl) fun kc => S16_ok Kv kc
theorem L14_ind {K : KT} {l_29 : Sl} {s_30 : Sl} {other_31 : Sl} {h_32 : Option Addr} {want_33 : Sl} {i_34 : Int} {w : World} (h : ∀ X : Cur g14, (∀ l_29 s_30 other_31 h_32 want_33 i_34 w, S16 K X l_29 s_30 other_31 h_32 want_33 i_34 w → X l_29 s_30 other_31 h_32 want_33 i_34 w) → X l_29 s_30 other_31 h_32 want_33 i_34 w) : L14 K l_29 s_30 other_31 h_32 want_33 i_34 w := fun X hX => h X fun l_29 s_30 other_31 h_32 want_33 i_34 w hb => hX (l_29, s_30, other_31, h_32, want_33, i_34, ()) w hb
theorem B17 (Kv : Value → World → Prop) : OkT pr false none 136 g14 (L14 (Kt Kv)) (tl 1 (s1 (tl 4 bd))) (P12 Kv) := ok_block 0 (by kernel_rfl) (L14_ok Kv)
@[reducible] def g18 : List SE := [.v 0 .sl, .v 1 .sl, .v 2 .sl, .v 7 .ptr, .v 8 .sl]
def S18 (K : KT) (l_121 : Sl) (s_122 : Sl) (other_123 : Sl) (h_124 : Option Addr) (want_125 : Sl) (w : World) : Prop :=
  L14 K l_121 s_122 other_123 h_124 want_125 (0 : Int) w
theorem S18_ok (Kv : Value → World → Prop) : OkT pr false none 136 g18 (S18 (Kt Kv)) (s1 (tl 4 bd)) (P12 Kv) := ok_group mixed FOk_ 1 (B17 Kv) fun v ρ w => by kernel_rfl
theorem Q19 (Kv : Value → World → Prop) : OkT pr false none 136 g18 (S18 (Kt Kv)) (tl 4 bd) (P1 Kv) := ok_seq (by kernel_rfl) (S11_ok Kv) (S18_ok Kv)
end tocsinlaw09_HeadKeeps
def tocsinlaw09_HeadKeeps (l_2 : Sl) (s_3 : Sl) (other_4 : Sl) (w : World) (K : tocsinlaw09_HeadKeeps.KT) : Prop :=
  C.head_New (1000 : Int) (100000 : Int) w fun p126 w127 => G.cond p126.isNone (K false w127) (tocsinlaw09_HeadKeeps.S18 K l_2 s_3 other_4 p126 nilS w127)
def tocsinlaw09_HeadKeeps.cl : CL := fun args K w => match args with
  | [.slice x0_a x0_n x0_c, .slice x1_a x1_n x1_c, .slice x2_a x2_n x2_c] => C.tocsinlaw09_HeadKeeps ⟨x0_a, x0_n, x0_c⟩ ⟨x1_a, x1_n, x1_c⟩ ⟨x2_a, x2_n, x2_c⟩ w (tocsinlaw09_HeadKeeps.Kt K)
  | _ => False
theorem tocsinlaw09_HeadKeeps.clok : OkC pr 3 tocsinlaw09_HeadKeeps.cl := by
  intro args K w h
  unfold tocsinlaw09_HeadKeeps.cl at h
  split at h
  · exact calls_group false mixed tocsinlaw09_HeadKeeps.FOk_ tocsinlaw09_HeadKeeps.fn rfl 4 (tocsinlaw09_HeadKeeps.Q19 K) (Eq.mp (by kernel_rfl) h)
  · exact h.elim
end C
end Go.Proofs.YtkeabflhjjpmmaaDoor
