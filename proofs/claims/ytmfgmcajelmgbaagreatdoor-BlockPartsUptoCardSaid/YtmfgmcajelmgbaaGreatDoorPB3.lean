/- (several texts in one: Cv1, Cv2, StrB, UtfB, ConvB, Lab) Own work. -/
import Derived.Lib.ValidAsc
import Derived.Lib.LaidU8
import Derived.Laws.BytesString
import Derived.Lib.ConvBytes
import Derived.Test.YtmfgmcajelmgbaaGreatDoorPB2
set_option linter.unusedVariables false
set_option maxRecDepth 100000
namespace Go.Proofs.YtmfgmcajelmgbaaGreatDoor
open Go Vm
namespace C
namespace chunk_Join
abbrev KT := Sl → Int → Int → World → Prop
def Kt (Kv : VW) : KT := fun l1 n2 n3 w => Kv (.tuple #[l1.v, (.int .i64 n2), (.int .i64 n3)]) w
noncomputable def bd : Code := bdy Tryz.f85
theorem fn : FnOk pr 85 54 Tryz.f85 := ⟨Tryz.func85, by kernel_rfl, Tryz.ntmps85, by kernel_rfl, by kernel_rfl⟩
def F : Clee := ofL [(114, C.chunk_Decode.cl)]
theorem FOk_ : FOk pr F := FOk_cons C.chunk_Decode.clok (FOk_nil)
def P1 (Kv : VW) : Post := bodyK false pr 54 Tryz.f85 Kv
@[reducible] def g2 : List SE := [.v 5 .sl]
def S2 (K : KT) (out_5 : Sl) (w : World) : Prop :=
  K out_5 (0 : Int) (0 : Int) w
theorem S2_ok (Kv : VW) : OkT pr false none 54 g2 (S2 (Kt Kv)) (s2 (tl 2 bd)) (P1 Kv) := ok_last mixed FOk_ fun v ρ w => by kernel_rfl
def P3 (Kv : VW) : Post := next (get g2 (S2 (Kt Kv))) (P1 Kv)
def P4 (Kv : VW) : Post := inBlock 0 (P3 Kv)
@[reducible] def g5 : List SE := [.v 5 .sl, .v 10 .sl, .v 11 (.int .i64), .v 12 (.int .i64)]
def P6 (Kv : VW) (kc5 : Cur g5) : Post := next (get g5 kc5) (P4 Kv)
def S7 (K : KT) (kc5 : Cur g5) (out_14 : Sl) (l15 : Sl) (n16 : Int) (n17 : Int) (w : World) : Prop :=
  G.cond (decide (n17 < n16)) (G.ix l15.a l15.n n17 1 fun p18 => G.cSl p18 w fun l19 => C.chunk_Decode l19 w fun l20 n21 w22 => G.cond (n21 != (0 : Int)) (K nilS n21 n17 w22) (G.cond (decide (((l20.n : Nat) : Int) > (0 : Int))) (G.cond (decide (((out_14.n : Nat) : Int) > (0 : Int))) (G.ix l20.a l20.n (0 : Int) 2 fun p23 => G.cI .i64 p23 w22.drew fun n24 => G.ix out_14.a out_14.n (IntKind.i64.wrap (((out_14.n : Nat) : Int) - (1 : Int))) 2 fun p25 => G.cI .i64 p25 w22.drew fun n26 => G.cond (decide (n24 ≤ n26)) (K nilS (90 : Int) n17 w22.drew) (G.runSl pr (Builtin.append_ #[52, 52] 52 #[out_14.v, l20.v]) w22.drew fun l27 w28 => kc5 l27 l15 n16 (IntKind.i64.wrap (n17 + (1 : Int))) w28)) (G.runSl pr (Builtin.append_ #[52, 52] 52 #[out_14.v, l20.v]) w22.drew fun l29 w30 => kc5 l29 l15 n16 (IntKind.i64.wrap (n17 + (1 : Int))) w30)) (G.runSl pr (Builtin.append_ #[52, 52] 52 #[out_14.v, l20.v]) w22.drew fun l31 w32 => kc5 l31 l15 n16 (IntKind.i64.wrap (n17 + (1 : Int))) w32))) (S2 K out_14 w)
theorem S7_ok (Kv : VW) (kc5 : Cur g5) : OkT pr false none 54 g5 (S7 (Kt Kv) kc5) (lp (blk (tl 1 (s1 (tl 2 bd))))) (P6 Kv kc5) := ok_last mixed FOk_ fun v ρ w => by kernel_rfl
def L5 (K : KT) : Cur g5 := loopC g5 (S7 K)
theorem L5_ok (Kv : VW) : OkT pr false none 54 g5 (L5 (Kt Kv)) (blk (tl 1 (s1 (tl 2 bd)))) (P4 Kv) := ok_loop (B := S7 (Kt Kv)) (by kernel_rfl) fun kc => S7_ok Kv kc
theorem L5_ind {K : KT} {out_6 : Sl} {l7 : Sl} {n8 : Int} {n9 : Int} {w : World} (h : ∀ X : Cur g5, (∀ out_6 l7 n8 n9 w, S7 K X out_6 l7 n8 n9 w → X out_6 l7 n8 n9 w) → X out_6 l7 n8 n9 w) : L5 K out_6 l7 n8 n9 w := fun X hX => h X fun out_6 l7 n8 n9 w hb => hX (out_6, l7, n8, n9, ()) w hb
theorem B8 (Kv : VW) : OkT pr false none 54 g5 (L5 (Kt Kv)) (tl 1 (s1 (tl 2 bd))) (P3 Kv) := ok_block 0 (by kernel_rfl) (L5_ok Kv)
@[reducible] def g9 : List SE := [.v 0 .sl, .v 5 .sl]
def S9 (K : KT) (l_33 : Sl) (out_34 : Sl) (w : World) : Prop :=
  L5 K out_34 l_33 ((l_33.n : Nat) : Int) (0 : Int) w
theorem S9_ok (Kv : VW) : OkT pr false none 54 g9 (S9 (Kt Kv)) (s1 (tl 2 bd)) (P3 Kv) := ok_group mixed FOk_ 1 (B8 Kv) fun v ρ w => by kernel_rfl
theorem Q10 (Kv : VW) : OkT pr false none 54 g9 (S9 (Kt Kv)) (tl 2 bd) (P1 Kv) := ok_seq (by kernel_rfl) (S2_ok Kv) (S9_ok Kv)
end chunk_Join
def chunk_Join (l_4 : Sl) (w : World) (K : chunk_Join.KT) : Prop :=
  chunk_Join.S9 K l_4 nilS w
def chunk_Join.cl : CL := fun args K w => match args with
  | [.slice x0_a x0_n x0_c] => C.chunk_Join ⟨x0_a, x0_n, x0_c⟩ w (chunk_Join.Kt K)
  | _ => False
theorem chunk_Join.clok : OkC pr 85 chunk_Join.cl := by
  intro args K w h
  unfold chunk_Join.cl at h
  split at h
  · exact calls_group false mixed chunk_Join.FOk_ chunk_Join.fn rfl 2 (chunk_Join.Q10 K) (Eq.mp (by kernel_rfl) h)
  · exact h.elim
namespace block_series
abbrev KT := Sl → Sl → Bool → World → Prop
def Kt (Kv : VW) : KT := fun l1 l2 b3 w => Kv (.tuple #[(.agg #[l1.v, l2.v]), (.bool b3)]) w
noncomputable def bd : Code := bdy Tryz.f44
theorem fn : FnOk pr 44 85 Tryz.f44 := ⟨Tryz.func44, by kernel_rfl, Tryz.ntmps44, by kernel_rfl, by kernel_rfl⟩
def F : Clee := ofL [(83, C.labels_Read.cl), (84, C.vint_U.cl), (85, C.chunk_Join.cl)]
theorem FOk_ : FOk pr F := FOk_cons C.labels_Read.clok (FOk_cons C.vint_U.clok (FOk_cons C.chunk_Join.clok (FOk_nil)))
def P1 (Kv : VW) : Post := bodyK false pr 85 Tryz.f44 Kv
@[reducible] def g2 : List SE := [.v 2 .ptr, .v 4 .sl, .v 8 .sl]
def S2 (K : KT) (p7 : Option Addr) (l_8 : Sl) (chunks_9 : Sl) (w : World) : Prop :=
  C.chunk_Join chunks_9 w fun l10 n11 n12 w13 => G.ptr p7 fun p14 => G.st p14 l_8.v w13 fun w15 => G.st (p14.add 1) l10.v w15 fun w16 => G.ptr p7 fun p17 => G.cSl p17 w16 fun l18 => G.cSl (p17.add 1) w16 fun l19 => K l18 l19 (n11 == (0 : Int)) w16
theorem S2_ok (Kv : VW) : OkT pr false none 85 g2 (S2 (Kt Kv)) (s2 (tl 6 bd)) (P1 Kv) := ok_last mixed FOk_ fun v ρ w => by kernel_rfl
def P3 (Kv : VW) : Post := next (get g2 (S2 (Kt Kv))) (P1 Kv)
def P4 (Kv : VW) : Post := inBlock 0 (P3 Kv)
@[reducible] def g5 : List SE := [.v 0 .sl, .v 2 .ptr, .v 4 .sl, .v 5 (.int .i64), .v 8 .sl, .v 40 (.int .u64), .v 41 (.int .u64)]
def P6 (Kv : VW) (kc5 : Cur g5) : Post := next (get g5 kc5) (P4 Kv)
def S7 (K : KT) (kc5 : Cur g5) (p_34 : Sl) (p35 : Option Addr) (l_36 : Sl) (at_37 : Int) (chunks_38 : Sl) (n39 : Int) (n40 : Int) (w : World) : Prop :=
  G.cond (decide (n40 < n39)) (C.vint_U p_34 at_37 w fun n41 n42 n43 w44 => G.cond (n43 != (0 : Int)) (G.ptr p35 fun p45 => G.st p45 nilS.v w44 fun w46 => G.st (p45.add 1) nilS.v w46 fun w47 => G.ptr p35 fun p48 => G.cSl p48 w47 fun l49 => G.cSl (p48.add 1) w47 fun l50 => K l49 l50 false w47) (G.cond (decide (n41 > (IntKind.u64.wrap (IntKind.i64.wrap (((p_34.n : Nat) : Int) - n42))))) (G.ptr p35 fun p51 => G.st p51 nilS.v w44 fun w52 => G.st (p51.add 1) nilS.v w52 fun w53 => G.ptr p35 fun p54 => G.cSl p54 w53 fun l55 => G.cSl (p54.add 1) w53 fun l56 => K l55 l56 false w53) (G.slc p_34 n42 (IntKind.i64.wrap (n42 + (IntKind.i64.wrap n41))) 1 fun l57 => G.new (.cells #[l57.v] 22) w44 fun p58 w59 => G.runSl pr (Builtin.append_ #[78, 78] 78 #[chunks_38.v, (Sl.v (⟨some p58, 1, 1⟩ : Sl))]) w59 fun l60 w61 => kc5 p_34 p35 l_36 (IntKind.i64.wrap (n42 + (IntKind.i64.wrap n41))) l60 n39 (IntKind.u64.wrap (n40 + (1 : Int))) w61))) (S2 K p35 l_36 chunks_38 w)
theorem S7_ok (Kv : VW) (kc5 : Cur g5) : OkT pr false none 85 g5 (S7 (Kt Kv) kc5) (lp (blk (tl 1 (s1 (tl 6 bd))))) (P6 Kv kc5) := ok_last mixed FOk_ fun v ρ w => by kernel_rfl
def L5 (K : KT) : Cur g5 := loopC g5 (S7 K)
theorem L5_ok (Kv : VW) : OkT pr false none 85 g5 (L5 (Kt Kv)) (blk (tl 1 (s1 (tl 6 bd)))) (P4 Kv) := ok_loop (B := S7 (Kt Kv)) (by kernel_rfl) fun kc => S7_ok Kv kc
theorem L5_ind {K : KT} {p_20 : Sl} {p21 : Option Addr} {l_22 : Sl} {at_23 : Int} {chunks_24 : Sl} {n25 : Int} {n26 : Int} {w : World} (h : ∀ X : Cur g5, (∀ p_20 p21 l_22 at_23 chunks_24 n25 n26 w, S7 K X p_20 p21 l_22 at_23 chunks_24 n25 n26 w → X p_20 p21 l_22 at_23 chunks_24 n25 n26 w) → X p_20 p21 l_22 at_23 chunks_24 n25 n26 w) : L5 K p_20 p21 l_22 at_23 chunks_24 n25 n26 w := fun X hX => h X fun p_20 p21 l_22 at_23 chunks_24 n25 n26 w hb => hX (p_20, p21, l_22, at_23, chunks_24, n25, n26, ()) w hb
theorem B8 (Kv : VW) : OkT pr false none 85 g5 (L5 (Kt Kv)) (tl 1 (s1 (tl 6 bd))) (P3 Kv) := ok_block 0 (by kernel_rfl) (L5_ok Kv)
@[reducible] def g9 : List SE := [.v 0 .sl, .v 2 .ptr, .v 4 .sl, .v 5 (.int .i64), .v 7 (.int .u64), .v 8 .sl]
def S9 (K : KT) (p_62 : Sl) (p63 : Option Addr) (l_64 : Sl) (at_65 : Int) (n_66 : Int) (chunks_67 : Sl) (w : World) : Prop :=
  L5 K p_62 p63 l_64 at_65 chunks_67 n_66 (0 : Int) w
theorem S9_ok (Kv : VW) : OkT pr false none 85 g9 (S9 (Kt Kv)) (s1 (tl 6 bd)) (P3 Kv) := ok_group mixed FOk_ 1 (B8 Kv) fun v ρ w => by kernel_rfl
theorem Q10 (Kv : VW) : OkT pr false none 85 g9 (S9 (Kt Kv)) (tl 6 bd) (P1 Kv) := ok_seq (by kernel_rfl) (S2_ok Kv) (S9_ok Kv)
end block_series
def block_series (p_4 : Sl) (w : World) (K : block_series.KT) : Prop :=
  G.new (.cells #[nilS.v, nilS.v] 57) w fun p68 w69 => C.labels_Read p_4 (0 : Int) w69 fun l70 n71 n72 w73 => G.cond (n72 != (0 : Int)) (G.st p68 nilS.v w73 fun w74 => G.st (p68.add 1) nilS.v w74 fun w75 => G.cSl p68 w75 fun l76 => G.cSl (p68.add 1) w75 fun l77 => K l76 l77 false w75) (C.vint_U p_4 n71 w73 fun n78 n79 n80 w81 => G.cond (n80 != (0 : Int)) (G.st p68 nilS.v w81 fun w82 => G.st (p68.add 1) nilS.v w82 fun w83 => G.cSl p68 w83 fun l84 => G.cSl (p68.add 1) w83 fun l85 => K l84 l85 false w83) (G.cond (decide (n78 > (IntKind.u64.wrap ((p_4.n : Nat) : Int)))) (G.st p68 nilS.v w81 fun w86 => G.st (p68.add 1) nilS.v w86 fun w87 => G.cSl p68 w87 fun l88 => G.cSl (p68.add 1) w87 fun l89 => K l88 l89 false w87) (block_series.S9 K p_4 (some p68) l70 n79 n78 nilS w81)))
def block_series.cl : CL := fun args K w => match args with
  | [.slice x0_a x0_n x0_c] => C.block_series ⟨x0_a, x0_n, x0_c⟩ w (block_series.Kt K)
  | _ => False
theorem block_series.clok : OkC pr 44 block_series.cl := by
  intro args K w h
  unfold block_series.cl at h
  split at h
  · exact calls_group false mixed block_series.FOk_ block_series.fn rfl 6 (block_series.Q10 K) (Eq.mp (by kernel_rfl) h)
  · exact h.elim
namespace block_Open
abbrev KT := Option Addr → Int → World → Prop
def Kt (Kv : VW) : KT := fun p1 n2 w => Kv (.tuple #[(.pointer p1), (.int .i64 n2)]) w
noncomputable def bd : Code := bdy Tryz.f11
theorem fn : FnOk pr 11 108 Tryz.f11 := ⟨Tryz.func11, by kernel_rfl, Tryz.ntmps11, by kernel_rfl, by kernel_rfl⟩
def F : Clee := ofL [(33, C.block_Build.cl), (41, C.strings_HasPrefix.cl), (42, C.vint_Frames.cl), (43, C.slices_Clone_byte_byte.cl), (44, C.block_series.cl)]
theorem FOk_ : FOk pr F := FOk_cons C.block_Build.clok (FOk_cons C.strings_HasPrefix.clok (FOk_cons C.vint_Frames.clok (FOk_cons C.slices_Clone_byte_byte.clok (FOk_cons C.block_series.clok (FOk_nil)))))
def P1 (Kv : VW) : Post := bodyK false pr 108 Tryz.f11 Kv
@[reducible] def g2 : List SE := [.v 0 .sl, .v 7 .ptr]
def S2 (K : KT) (b_6 : Sl) (x_7 : Option Addr) (w : World) : Prop :=
  G.ptr x_7 fun p8 => G.cSl (p8.add 1) w fun l9 => C.block_Build l9 w fun l10 n11 n12 w13 => G.cond (n11 != (0 : Int)) (K none (3 : Int) w13) (G.rdS pr (Conv.bytesToString l10.v) w13 fun s14 => G.rdS pr (Conv.bytesToString b_6.v) w13 fun s15 => G.cond (!(s14.toList == s15.toList)) (K none (3 : Int) w13) (K x_7 (0 : Int) w13))
theorem S2_ok (Kv : VW) : OkT pr false none 108 g2 (S2 (Kt Kv)) (s2 (tl 5 bd)) (P1 Kv) := ok_last mixed FOk_ fun v ρ w => by kernel_rfl
def P3 (Kv : VW) : Post := next (get g2 (S2 (Kt Kv))) (P1 Kv)
def P4 (Kv : VW) : Post := inBlock 0 (P3 Kv)
@[reducible] def g5 : List SE := [.v 0 .sl, .v 7 .ptr, .v 45 .sl, .v 46 (.int .i64), .v 47 (.int .i64)]
def P6 (Kv : VW) (kc5 : Cur g5) : Post := next (get g5 kc5) (P4 Kv)
def S7 (K : KT) (kc5 : Cur g5) (b_21 : Sl) (x_22 : Option Addr) (l23 : Sl) (n24 : Int) (n25 : Int) (w : World) : Prop :=
  kc5 b_21 x_22 l23 n24 (IntKind.i64.wrap (n25 + (1 : Int))) w
theorem S7_ok (Kv : VW) (kc5 : Cur g5) : OkT pr false none 108 g5 (S7 (Kt Kv) kc5) (s2 (tl 2 (lp (blk (tl 1 (s1 (tl 5 bd))))))) (P6 Kv kc5) := ok_last mixed FOk_ fun v ρ w => by kernel_rfl
def P8 (Kv : VW) (kc5 : Cur g5) : Post := next (get g5 (S7 (Kt Kv) kc5)) (P6 Kv kc5)
def P9 (Kv : VW) (kc5 : Cur g5) : Post := inBlock 1 (P8 Kv kc5)
def P10 (Kv : VW) (kc5 : Cur g5) : Post := inBlock 2 (P9 Kv kc5)
@[reducible] def g11 : List SE := [.v 0 .sl, .v 7 .ptr, .v 8 (.int .i64), .v 45 .sl, .v 46 (.int .i64), .v 47 (.int .i64), .v 70 .sl, .v 71 (.int .i64), .v 72 (.int .i64)]
def P12 (Kv : VW) (kc5 : Cur g5) (kc11 : Cur g11) : Post := next (get g11 kc11) (P10 Kv kc5)
def S13 (K : KT) (kc5 : Cur g5) (kc11 : Cur g11) (b_49 : Sl) (x_50 : Option Addr) (i_51 : Int) (l52 : Sl) (n53 : Int) (n54 : Int) (l55 : Sl) (n56 : Int) (n57 : Int) (w : World) : Prop :=
  G.cond (decide (n57 < n56)) (G.ix l55.a l55.n n57 2 fun p58 => G.cS p58 w fun s59 => G.cS (p58.add 1) w fun s60 => G.new (.cells #[(.string (⟨#[]⟩ : ByteArray)), (.string (⟨#[]⟩ : ByteArray))] 93) w fun p61 w62 => G.st p61 (.string s59) w62 fun w63 => G.st (p61.add 1) (.string s60) w63 fun w64 => G.ptr x_50 fun p65 => G.cM (p65.add 2) w64.drew fun m66 => G.cS p61 w64.drew fun s67 => G.cS (p61.add 1) w64.drew fun s68 => G.new (.cells #[(.int .i64 i_51)] 3) w64.drew fun p69 w70 => sameAt (p65.add 2) 1 w64.drew w70 ∧ sameAt p61 2 w64.drew w70 ∧ (G.runE pr (Instr.mapEntry 82 (.map m66) (.agg #[(.string s67), (.string s68)])) w70 fun l71 n72 w73 => G.runSl pr (Builtin.append_ #[46, 46] 46 #[l71.v, (Sl.v (⟨some p69, 1, 1⟩ : Sl))]) w73 fun l74 w75 => G.runU pr (Instr.entryStore 82 (.map m66) (.int .i64 n72) l74.v) w75 fun w76 => kc11 b_49 x_50 i_51 l52 n53 n54 l55 n56 (IntKind.i64.wrap (n57 + (1 : Int))) w76)) (S7 K kc5 b_49 x_50 l52 n53 n54 w)
theorem S13_ok (Kv : VW) (kc5 : Cur g5) (kc11 : Cur g11) : OkT pr false none 108 g11 (S13 (Kt Kv) kc5 kc11) (lp (blk (tl 5 (blk (s1 (tl 2 (lp (blk (tl 1 (s1 (tl 5 bd))))))))))) (P12 Kv kc5 kc11) := ok_last mixed FOk_ fun v ρ w => by kernel_rfl
def L11 (K : KT) (kc5 : Cur g5) : Cur g11 := loopC g11 (S13 K kc5)
theorem L11_ok (Kv : VW) (kc5 : Cur g5) : OkT pr false none 108 g11 (L11 (Kt Kv) kc5) (blk (tl 5 (blk (s1 (tl 2 (lp (blk (tl 1 (s1 (tl 5 bd)))))))))) (P10 Kv kc5) := ok_loop (B := S13 (Kt Kv) kc5) (by kernel_rfl) fun kc => S13_ok Kv kc5 kc
theorem L11_ind {K : KT} {kc5 : Cur g5} {b_31 : Sl} {x_32 : Option Addr} {i_33 : Int} {l34 : Sl} {n35 : Int} {n36 : Int} {l37 : Sl} {n38 : Int} {n39 : Int} {w : World} (h : ∀ X : Cur g11, (∀ b_31 x_32 i_33 l34 n35 n36 l37 n38 n39 w, S13 K kc5 X b_31 x_32 i_33 l34 n35 n36 l37 n38 n39 w → X b_31 x_32 i_33 l34 n35 n36 l37 n38 n39 w) → X b_31 x_32 i_33 l34 n35 n36 l37 n38 n39 w) : L11 K kc5 b_31 x_32 i_33 l34 n35 n36 l37 n38 n39 w := fun X hX => h X fun b_31 x_32 i_33 l34 n35 n36 l37 n38 n39 w hb => hX (b_31, x_32, i_33, l34, n35, n36, l37, n38, n39, ()) w hb
theorem B14 (Kv : VW) (kc5 : Cur g5) : OkT pr false none 108 g11 (L11 (Kt Kv) kc5) (tl 5 (blk (s1 (tl 2 (lp (blk (tl 1 (s1 (tl 5 bd))))))))) (P9 Kv kc5) := ok_block 2 (by kernel_rfl) (L11_ok Kv kc5)
def S15 (K : KT) (kc5 : Cur g5) (b_77 : Sl) (x_78 : Option Addr) (l79 : Sl) (n80 : Int) (n81 : Int) (w : World) : Prop :=
  G.ix l79.a l79.n n81 1 fun p82 => G.cSl p82 w fun l83 => C.block_series l83 w fun l84 l85 b86 w87 => G.new (.cells #[nilS.v, nilS.v] 57) w87 fun p88 w89 => G.st p88 l84.v w89 fun w90 => G.st (p88.add 1) l85.v w90 fun w91 => G.cond (!b86) (K none (3 : Int) w91) (G.ptr x_78 fun p92 => G.cSl (p92.add 1) w91.drew fun l93 => G.cSl p88 w91.drew fun l94 => G.cSl (p88.add 1) w91.drew fun l95 => G.new (.cells #[l94.v, l95.v] 57) w91.drew fun p96 w97 => sameAt (p92.add 1) 1 w91.drew w97 ∧ (G.runSl pr (Builtin.append_ #[27, 27] 27 #[l93.v, (Sl.v (⟨some p96, 1, 1⟩ : Sl))]) w97 fun l98 w99 => G.ptr x_78 fun p100 => G.st (p100.add 1) l98.v w99 fun w101 => G.cSl p88 w101 fun l102 => L11 K kc5 b_77 x_78 n81 l79 n80 n81 l102 ((l102.n : Nat) : Int) (0 : Int) w101))
theorem S15_ok (Kv : VW) (kc5 : Cur g5) : OkT pr false none 108 g5 (S15 (Kt Kv) kc5) (blk (s1 (tl 2 (lp (blk (tl 1 (s1 (tl 5 bd)))))))) (P9 Kv kc5) := ok_group mixed FOk_ 5 (B14 Kv kc5) fun v ρ w => by kernel_rfl
theorem B16 (Kv : VW) (kc5 : Cur g5) : OkT pr false none 108 g5 (S15 (Kt Kv) kc5) (s1 (tl 2 (lp (blk (tl 1 (s1 (tl 5 bd))))))) (P8 Kv kc5) := ok_block 1 (by kernel_rfl) (S15_ok Kv kc5)
theorem Q17 (Kv : VW) (kc5 : Cur g5) : OkT pr false none 108 g5 (S15 (Kt Kv) kc5) (tl 2 (lp (blk (tl 1 (s1 (tl 5 bd)))))) (P6 Kv kc5) := ok_seq (by kernel_rfl) (S7_ok Kv kc5) (B16 Kv kc5)
def S18 (K : KT) (kc5 : Cur g5) (b_103 : Sl) (x_104 : Option Addr) (l105 : Sl) (n106 : Int) (n107 : Int) (w : World) : Prop :=
  G.cond (decide (n107 < n106)) (S15 K kc5 b_103 x_104 l105 n106 n107 w) (S2 K b_103 x_104 w)
theorem S18_ok (Kv : VW) (kc5 : Cur g5) : OkT pr false none 108 g5 (S18 (Kt Kv) kc5) (lp (blk (tl 1 (s1 (tl 5 bd))))) (P6 Kv kc5) := ok_group mixed FOk_ 2 (Q17 Kv kc5) fun v ρ w => by kernel_rfl
def L5 (K : KT) : Cur g5 := loopC g5 (S18 K)
theorem L5_ok (Kv : VW) : OkT pr false none 108 g5 (L5 (Kt Kv)) (blk (tl 1 (s1 (tl 5 bd)))) (P4 Kv) := ok_loop (B := S18 (Kt Kv)) (by kernel_rfl) fun kc => S18_ok Kv kc
theorem L5_ind {K : KT} {b_16 : Sl} {x_17 : Option Addr} {l18 : Sl} {n19 : Int} {n20 : Int} {w : World} (h : ∀ X : Cur g5, (∀ b_16 x_17 l18 n19 n20 w, S18 K X b_16 x_17 l18 n19 n20 w → X b_16 x_17 l18 n19 n20 w) → X b_16 x_17 l18 n19 n20 w) : L5 K b_16 x_17 l18 n19 n20 w := fun X hX => h X fun b_16 x_17 l18 n19 n20 w hb => hX (b_16, x_17, l18, n19, n20, ()) w hb
theorem B19 (Kv : VW) : OkT pr false none 108 g5 (L5 (Kt Kv)) (tl 1 (s1 (tl 5 bd))) (P3 Kv) := ok_block 0 (by kernel_rfl) (L5_ok Kv)
@[reducible] def g20 : List SE := [.v 0 .sl, .v 4 .sl, .v 7 .ptr]
def S20 (K : KT) (b_108 : Sl) (frames_109 : Sl) (x_110 : Option Addr) (w : World) : Prop :=
  G.slc frames_109 (1 : Int) ((frames_109.n : Nat) : Int) 1 fun l111 => L5 K b_108 x_110 l111 ((l111.n : Nat) : Int) (0 : Int) w
theorem S20_ok (Kv : VW) : OkT pr false none 108 g20 (S20 (Kt Kv)) (s1 (tl 5 bd)) (P3 Kv) := ok_group mixed FOk_ 1 (B19 Kv) fun v ρ w => by kernel_rfl
theorem Q21 (Kv : VW) : OkT pr false none 108 g20 (S20 (Kt Kv)) (tl 5 bd) (P1 Kv) := ok_seq (by kernel_rfl) (S2_ok Kv) (S20_ok Kv)
end block_Open
def block_Open (b_3 : Sl) (w : World) (K : block_Open.KT) : Prop :=
  G.cond (decide (((b_3.n : Nat) : Int) > (1048576 : Int))) (K none (3 : Int) w) (G.rdS pr (Conv.bytesToString b_3.v) w fun s112 => C.strings_HasPrefix s112 (⟨#[84, 79, 67, 66, 76, 75, 48, 49]⟩ : ByteArray) w fun b113 w114 => G.cond (!b113) (K none (3 : Int) w114) (G.slc b_3 (8 : Int) ((b_3.n : Nat) : Int) 1 fun l115 => C.vint_Frames l115 w114 fun l116 n117 n118 w119 => G.cond (n118 != (0 : Int)) (K none (3 : Int) w119) (G.cond (((l116.n : Nat) : Int) == (0 : Int)) (K none (3 : Int) w119) (C.slices_Clone_byte_byte b_3 w119 fun l120 w121 => G.runM pr (Instr.makeMap 82 none) w121 fun m122 w123 => G.new (.cells #[l120.v, nilS.v, (.map m122), (.int .i64 (0 : Int))] 89) w123 fun p124 w125 => block_Open.S20 K b_3 l116 (some p124) w125))))
def block_Open.cl : CL := fun args K w => match args with
  | [.slice x0_a x0_n x0_c] => C.block_Open ⟨x0_a, x0_n, x0_c⟩ w (block_Open.Kt K)
  | _ => False
theorem block_Open.clok : OkC pr 11 block_Open.cl := by
  intro args K w h
  unfold block_Open.cl at h
  split at h
  · exact calls_group false mixed block_Open.FOk_ block_Open.fn rfl 5 (block_Open.Q21 K) (Eq.mp (by kernel_rfl) h)
  · exact h.elim
abbrev atomic_AddInt64.KT := Int → World → Prop
def atomic_AddInt64.Kt (Kv : VW) : atomic_AddInt64.KT := fun r0 w => Kv (.int .i64 r0) w
def atomic_AddInt64 (x0 : Option Addr) (x1 : Int) (w : World) (K : atomic_AddInt64.KT) : Prop := G.ptr x0 fun p => G.cI .i64 p w fun n => G.st p (.int .i64 (IntKind.i64.wrap (n + x1))) w fun w1 => K (IntKind.i64.wrap (n + x1)) w1
def atomic_AddInt64.cl : CL := fun args K w => match args with
  | [.pointer x0, .int .i64 x1] => C.atomic_AddInt64 x0 x1 w (atomic_AddInt64.Kt K)
  | _ => False
theorem atomic_AddInt64.clok : OkX pr 99 atomic_AddInt64.cl := by
  intro args K w h
  unfold atomic_AddInt64.cl at h
  split at h
  · rename_i x0 x1
    cases x0 with
    | none => exact h.elim
    | some a =>
      obtain ⟨n, hc, ⟨u, hu⟩, hf, hk⟩ := h
      exact ⟨_, _, run_call_add Tryz.func99 (by kernel_rfl) (by kernel_rfl) (by kernel_rfl) .i64 (by kernel_rfl) hc hf rfl, hk⟩
  · exact h.elim
namespace atomic_Int64_Add
abbrev KT := Int → World → Prop
def Kt (Kv : VW) : KT := fun n1 w => Kv (.int .i64 n1) w
noncomputable def bd : Code := bdy Tryz.f62
theorem fn : FnOk pr 62 10 Tryz.f62 := ⟨Tryz.func62, by kernel_rfl, Tryz.ntmps62, by kernel_rfl, by kernel_rfl⟩
def F : Clee := ofL [(99, C.atomic_AddInt64.cl)]
theorem FOk_ : FOk pr F := FOk_consX C.atomic_AddInt64.clok (FOk_nil)
def P1 (Kv : VW) : Post := bodyK false pr 10 Tryz.f62 Kv
end atomic_Int64_Add
def atomic_Int64_Add (x_2 : Option Addr) (delta_3 : Int) (w : World) (K : atomic_Int64_Add.KT) : Prop :=
  G.ptr x_2 fun p4 => C.atomic_AddInt64 (some p4) delta_3 w fun n5 w6 => K n5 w6
def atomic_Int64_Add.cl : CL := fun args K w => match args with
  | [.pointer x0, .int .i64 x1] => C.atomic_Int64_Add x0 x1 w (atomic_Int64_Add.Kt K)
  | _ => False
theorem atomic_Int64_Add.clok : OkC pr 62 atomic_Int64_Add.cl := by
  intro args K w h
  unfold atomic_Int64_Add.cl at h
  split at h
  · exact calls_last false mixed atomic_Int64_Add.FOk_ atomic_Int64_Add.fn rfl (Eq.mp (by kernel_rfl) h)
  · exact h.elim
namespace slices_Clone_int_int
abbrev KT := Sl → World → Prop
def Kt (Kv : VW) : KT := fun l1 w => Kv l1.v w
noncomputable def bd : Code := bdy Tryz.f63
theorem fn : FnOk pr 63 8 Tryz.f63 := ⟨Tryz.func63, by kernel_rfl, Tryz.ntmps63, by kernel_rfl, by kernel_rfl⟩
def F : Clee := ofL []
theorem FOk_ : FOk pr F := FOk_nil
def P1 (Kv : VW) : Post := bodyK false pr 8 Tryz.f63 Kv
end slices_Clone_int_int
def slices_Clone_int_int (s_2 : Sl) (w : World) (K : slices_Clone_int_int.KT) : Prop :=
  G.cond s_2.a.isNone (K nilS w) (G.new (.cells #[] 3) w fun p3 w4 => G.runSl pr (Builtin.append_ #[46, 46] 46 #[(Sl.v (⟨some p3, 0, 0⟩ : Sl)), s_2.v]) w4 fun l5 w6 => K l5 w6)
def slices_Clone_int_int.cl : CL := fun args K w => match args with
  | [.slice x0_a x0_n x0_c] => C.slices_Clone_int_int ⟨x0_a, x0_n, x0_c⟩ w (slices_Clone_int_int.Kt K)
  | _ => False
theorem slices_Clone_int_int.clok : OkC pr 63 slices_Clone_int_int.cl := by
  intro args K w h
  unfold slices_Clone_int_int.cl at h
  split at h
  · exact calls_last false mixed slices_Clone_int_int.FOk_ slices_Clone_int_int.fn rfl (Eq.mp (by kernel_rfl) h)
  · exact h.elim
namespace labels_Get
abbrev KT := ByteArray → World → Prop
def Kt (Kv : VW) : KT := fun s1 w => Kv (.string s1) w
noncomputable def bd : Code := bdy Tryz.f64
theorem fn : FnOk pr 64 20 Tryz.f64 := ⟨Tryz.func64, by kernel_rfl, Tryz.ntmps64, by kernel_rfl, by kernel_rfl⟩
def F : Clee := ofL []
theorem FOk_ : FOk pr F := FOk_nil
def P1 (Kv : VW) : Post := bodyK false pr 20 Tryz.f64 Kv
@[reducible] def g2 : List SE := []
def S2 (K : KT) (w : World) : Prop :=
  K (⟨#[]⟩ : ByteArray) w
theorem S2_ok (Kv : VW) : OkT pr false none 20 g2 (S2 (Kt Kv)) (s2 (tl 1 bd)) (P1 Kv) := ok_last mixed FOk_ fun v ρ w => by kernel_rfl
def P3 (Kv : VW) : Post := next (get g2 (S2 (Kt Kv))) (P1 Kv)
def P4 (Kv : VW) : Post := inBlock 0 (P3 Kv)
@[reducible] def g5 : List SE := [.v 1 .str, .v 7 .sl, .v 8 (.int .i64), .v 9 (.int .i64)]
def P6 (Kv : VW) (kc5 : Cur g5) : Post := next (get g5 kc5) (P4 Kv)
def S7 (K : KT) (kc5 : Cur g5) (name_12 : ByteArray) (l13 : Sl) (n14 : Int) (n15 : Int) (w : World) : Prop :=
  G.cond (decide (n15 < n14)) (G.ix l13.a l13.n n15 2 fun p16 => G.cS p16 w fun s17 => G.cS (p16.add 1) w fun s18 => G.new (.cells #[(.string (⟨#[]⟩ : ByteArray)), (.string (⟨#[]⟩ : ByteArray))] 93) w fun p19 w20 => G.st p19 (.string s17) w20 fun w21 => G.st (p19.add 1) (.string s18) w21 fun w22 => G.cS p19 w22 fun s23 => G.cond (s23.toList == name_12.toList) (G.cS (p19.add 1) w22 fun s24 => K s24 w22) (kc5 name_12 l13 n14 (IntKind.i64.wrap (n15 + (1 : Int))) w22)) (S2 K w)
theorem S7_ok (Kv : VW) (kc5 : Cur g5) : OkT pr false none 20 g5 (S7 (Kt Kv) kc5) (lp (blk (tl 1 (s1 (tl 1 bd))))) (P6 Kv kc5) := ok_last mixed FOk_ fun v ρ w => by kernel_rfl
def L5 (K : KT) : Cur g5 := loopC g5 (S7 K)
theorem L5_ok (Kv : VW) : OkT pr false none 20 g5 (L5 (Kt Kv)) (blk (tl 1 (s1 (tl 1 bd)))) (P4 Kv) := ok_loop (B := S7 (Kt Kv)) (by kernel_rfl) fun kc => S7_ok Kv kc
theorem L5_ind {K : KT} {name_4 : ByteArray} {l5 : Sl} {n6 : Int} {n7 : Int} {w : World} (h : ∀ X : Cur g5, (∀ name_4 l5 n6 n7 w, S7 K X name_4 l5 n6 n7 w → X name_4 l5 n6 n7 w) → X name_4 l5 n6 n7 w) : L5 K name_4 l5 n6 n7 w := fun X hX => h X fun name_4 l5 n6 n7 w hb => hX (name_4, l5, n6, n7, ()) w hb
theorem B8 (Kv : VW) : OkT pr false none 20 g5 (L5 (Kt Kv)) (tl 1 (s1 (tl 1 bd))) (P3 Kv) := ok_block 0 (by kernel_rfl) (L5_ok Kv)
@[reducible] def g9 : List SE := [.v 0 .sl, .v 1 .str]
def S9 (K : KT) (l_25 : Sl) (name_26 : ByteArray) (w : World) : Prop :=
  L5 K name_26 l_25 ((l_25.n : Nat) : Int) (0 : Int) w
theorem S9_ok (Kv : VW) : OkT pr false none 20 g9 (S9 (Kt Kv)) (s1 (tl 1 bd)) (P3 Kv) := ok_group mixed FOk_ 1 (B8 Kv) fun v ρ w => by kernel_rfl
theorem Q10 (Kv : VW) : OkT pr false none 20 g9 (S9 (Kt Kv)) (tl 1 bd) (P1 Kv) := ok_seq (by kernel_rfl) (S2_ok Kv) (S9_ok Kv)
end labels_Get
def labels_Get (l_2 : Sl) (name_3 : ByteArray) (w : World) (K : labels_Get.KT) : Prop :=
  labels_Get.S9 K l_2 name_3 w
def labels_Get.cl : CL := fun args K w => match args with
  | [.slice x0_a x0_n x0_c, .string x1] => C.labels_Get ⟨x0_a, x0_n, x0_c⟩ x1 w (labels_Get.Kt K)
  | _ => False
theorem labels_Get.clok : OkC pr 64 labels_Get.cl := by
  intro args K w h
  unfold labels_Get.cl at h
  split at h
  · exact calls_group false mixed labels_Get.FOk_ labels_Get.fn rfl 1 (labels_Get.Q10 K) (Eq.mp (by kernel_rfl) h)
  · exact h.elim
namespace block_Block_Postings
abbrev KT := Sl → World → Prop
def Kt (Kv : VW) : KT := fun l1 w => Kv l1.v w
noncomputable def bd : Code := bdy Tryz.f24
theorem fn : FnOk pr 24 48 Tryz.f24 := ⟨Tryz.func24, by kernel_rfl, Tryz.ntmps24, by kernel_rfl, by kernel_rfl⟩
def F : Clee := ofL [(62, C.atomic_Int64_Add.cl), (63, C.slices_Clone_int_int.cl), (64, C.labels_Get.cl)]
theorem FOk_ : FOk pr F := FOk_cons C.atomic_Int64_Add.clok (FOk_cons C.slices_Clone_int_int.clok (FOk_cons C.labels_Get.clok (FOk_nil)))
def P1 (Kv : VW) : Post := bodyK false pr 48 Tryz.f24 Kv
@[reducible] def g2 : List SE := [.v 7 .sl]
def S2 (K : KT) (l_11 : Sl) (w : World) : Prop :=
  K l_11 w
theorem S2_ok (Kv : VW) : OkT pr false none 48 g2 (S2 (Kt Kv)) (s2 (tl 5 bd)) (P1 Kv) := ok_last mixed FOk_ fun v ρ w => by kernel_rfl
def P3 (Kv : VW) : Post := next (get g2 (S2 (Kt Kv))) (P1 Kv)
def P4 (Kv : VW) : Post := inBlock 0 (P3 Kv)
@[reducible] def g5 : List SE := [.v 1 .str, .v 7 .sl, .v 30 .sl, .v 31 (.int .i64), .v 32 (.int .i64)]
def P6 (Kv : VW) (kc5 : Cur g5) : Post := next (get g5 kc5) (P4 Kv)
def S7 (K : KT) (kc5 : Cur g5) (name_22 : ByteArray) (l_23 : Sl) (l24 : Sl) (n25 : Int) (n26 : Int) (w : World) : Prop :=
  G.cond (decide (n26 < n25)) (G.ix l24.a l24.n n26 2 fun p27 => G.cSl p27 w fun l28 => G.cSl (p27.add 1) w fun l29 => G.new (.cells #[nilS.v, nilS.v] 57) w fun p30 w31 => G.st p30 l28.v w31 fun w32 => G.st (p30.add 1) l29.v w32 fun w33 => G.cSl p30 w33 fun l34 => C.labels_Get l34 name_22 w33 fun s35 w36 => G.cond (s35.toList == (⟨#[]⟩ : ByteArray).toList) (G.new (.cells #[(.int .i64 n26)] 3) w36 fun p37 w38 => G.runSl pr (Builtin.append_ #[46, 46] 46 #[l_23.v, (Sl.v (⟨some p37, 1, 1⟩ : Sl))]) w38 fun l39 w40 => kc5 name_22 l39 l24 n25 (IntKind.i64.wrap (n26 + (1 : Int))) w40) (kc5 name_22 l_23 l24 n25 (IntKind.i64.wrap (n26 + (1 : Int))) w36)) (S2 K l_23 w)
theorem S7_ok (Kv : VW) (kc5 : Cur g5) : OkT pr false none 48 g5 (S7 (Kt Kv) kc5) (lp (blk (tl 1 (s1 (tl 5 bd))))) (P6 Kv kc5) := ok_last mixed FOk_ fun v ρ w => by kernel_rfl
def L5 (K : KT) : Cur g5 := loopC g5 (S7 K)
theorem L5_ok (Kv : VW) : OkT pr false none 48 g5 (L5 (Kt Kv)) (blk (tl 1 (s1 (tl 5 bd)))) (P4 Kv) := ok_loop (B := S7 (Kt Kv)) (by kernel_rfl) fun kc => S7_ok Kv kc
theorem L5_ind {K : KT} {name_12 : ByteArray} {l_13 : Sl} {l14 : Sl} {n15 : Int} {n16 : Int} {w : World} (h : ∀ X : Cur g5, (∀ name_12 l_13 l14 n15 n16 w, S7 K X name_12 l_13 l14 n15 n16 w → X name_12 l_13 l14 n15 n16 w) → X name_12 l_13 l14 n15 n16 w) : L5 K name_12 l_13 l14 n15 n16 w := fun X hX => h X fun name_12 l_13 l14 n15 n16 w hb => hX (name_12, l_13, l14, n15, n16, ()) w hb
theorem B8 (Kv : VW) : OkT pr false none 48 g5 (L5 (Kt Kv)) (tl 1 (s1 (tl 5 bd))) (P3 Kv) := ok_block 0 (by kernel_rfl) (L5_ok Kv)
@[reducible] def g9 : List SE := [.v 0 .ptr, .v 1 .str, .v 7 .sl]
def S9 (K : KT) (b_41 : Option Addr) (name_42 : ByteArray) (l_43 : Sl) (w : World) : Prop :=
  G.ptr b_41 fun p44 => G.cSl (p44.add 1) w fun l45 => L5 K name_42 l_43 l45 ((l45.n : Nat) : Int) (0 : Int) w
theorem S9_ok (Kv : VW) : OkT pr false none 48 g9 (S9 (Kt Kv)) (s1 (tl 5 bd)) (P3 Kv) := ok_group mixed FOk_ 1 (B8 Kv) fun v ρ w => by kernel_rfl
theorem Q10 (Kv : VW) : OkT pr false none 48 g9 (S9 (Kt Kv)) (tl 5 bd) (P1 Kv) := ok_seq (by kernel_rfl) (S2_ok Kv) (S9_ok Kv)
end block_Block_Postings
def block_Block_Postings (b_2 : Option Addr) (name_3 : ByteArray) (value_4 : ByteArray) (w : World) (K : block_Block_Postings.KT) : Prop :=
  G.cond b_2.isNone (K nilS w) (G.ptr b_2 fun p46 => C.atomic_Int64_Add (some (p46.add 3)) (1 : Int) w fun n47 w48 => G.cond (!(value_4.toList == (⟨#[]⟩ : ByteArray).toList)) (G.ptr b_2 fun p49 => G.cM (p49.add 2) w48 fun m50 => G.rd1 pr (Instr.lookup 82 (.map m50) (.agg #[(.string name_3), (.string value_4)]) false) Sl.v w48 fun l51 => C.slices_Clone_int_int l51 w48 fun l52 w53 => K l52 w53) (block_Block_Postings.S9 K b_2 name_3 nilS w48))
def block_Block_Postings.cl : CL := fun args K w => match args with
  | [.pointer x0, .string x1, .string x2] => C.block_Block_Postings x0 x1 x2 w (block_Block_Postings.Kt K)
  | _ => False
theorem block_Block_Postings.clok : OkC pr 24 block_Block_Postings.cl := by
  intro args K w h
  unfold block_Block_Postings.cl at h
  split at h
  · exact calls_group false mixed block_Block_Postings.FOk_ block_Block_Postings.fn rfl 5 (block_Block_Postings.Q10 K) (Eq.mp (by kernel_rfl) h)
  · exact h.elim
namespace block_Block_Len
abbrev KT := Int → World → Prop
def Kt (Kv : VW) : KT := fun n1 w => Kv (.int .i64 n1) w
noncomputable def bd : Code := bdy Tryz.f40
theorem fn : FnOk pr 40 10 Tryz.f40 := ⟨Tryz.func40, by kernel_rfl, Tryz.ntmps40, by kernel_rfl, by kernel_rfl⟩
def F : Clee := ofL []
theorem FOk_ : FOk pr F := FOk_nil
def P1 (Kv : VW) : Post := bodyK false pr 10 Tryz.f40 Kv
end block_Block_Len
def block_Block_Len (b_2 : Option Addr) (w : World) (K : block_Block_Len.KT) : Prop :=
  G.cond b_2.isNone (K (0 : Int) w) (G.ptr b_2 fun p3 => G.cSl (p3.add 1) w fun l4 => K ((l4.n : Nat) : Int) w)
def block_Block_Len.cl : CL := fun args K w => match args with
  | [.pointer x0] => C.block_Block_Len x0 w (block_Block_Len.Kt K)
  | _ => False
theorem block_Block_Len.clok : OkC pr 40 block_Block_Len.cl := by
  intro args K w h
  unfold block_Block_Len.cl at h
  split at h
  · exact calls_last false mixed block_Block_Len.FOk_ block_Block_Len.fn rfl (Eq.mp (by kernel_rfl) h)
  · exact h.elim
namespace block_Block_All
abbrev KT := Value → World → Prop
def Kt (Kv : VW) : KT := fun v1 w => Kv v1 w
noncomputable def bd : Code := bdy Tryz.f14
theorem fn : FnOk pr 14 4 Tryz.f14 := ⟨Tryz.func14, by kernel_rfl, Tryz.ntmps14, by kernel_rfl, by kernel_rfl⟩
def F : Clee := ofL []
theorem FOk_ : FOk pr F := FOk_nil
def P1 (Kv : VW) : Post := bodyK false pr 4 Tryz.f14 Kv
end block_Block_All
def block_Block_All (b_2 : Option Addr) (w : World) (K : block_Block_All.KT) : Prop :=
  G.new (.cells #[(.pointer b_2)] 23) w fun p3 w4 => K (Value.func (.func 48) #[] #[(.pointer (some p3))]) w4
def block_Block_All.cl : CL := fun args K w => match args with
  | [.pointer x0] => C.block_Block_All x0 w (block_Block_All.Kt K)
  | _ => False
theorem block_Block_All.clok : OkC pr 14 block_Block_All.cl := by
  intro args K w h
  unfold block_Block_All.cl at h
  split at h
  · exact calls_last false mixed block_Block_All.FOk_ block_Block_All.fn rfl (Eq.mp (by kernel_rfl) h)
  · exact h.elim
namespace block_Block_Samples
abbrev KT := Int → World → Prop
def Kt (Kv : VW) : KT := fun n1 w => Kv (.int .i64 n1) w
noncomputable def bd : Code := bdy Tryz.f47
theorem fn : FnOk pr 47 14 Tryz.f47 := ⟨Tryz.func47, by kernel_rfl, Tryz.ntmps47, by kernel_rfl, by kernel_rfl⟩
def F : Clee := ofL [(14, C.block_Block_All.cl)]
theorem FOk_ : FOk pr F := FOk_cons C.block_Block_All.clok (FOk_nil)
def Fc : Clee := ofL [(48, C.block_Block_All_1.cl), (71, C.block_compare.cl), (135, C.labels_Compare_1.cl)]
theorem FcOk : FOkB pr Fc := FOkB_cons C.block_Block_All_1.clok (FOkB_cons C.block_compare.clok (FOkB_cons C.labels_Compare_1.clok (FOkB_nil)))
def P1 (Kv : VW) : Post := bodyK true pr 14 Tryz.f47 Kv
@[reducible] def g2 : List SE := [.v 3 .ptr, .v 14 .raw]
def S2 (K : KT) (n_3 : Option Addr) (v4 : Value) (w : World) : Prop :=
  G.ptr n_3 fun p5 => G.cI .i64 p5 w fun n6 => G.marks v4 w fun w7 => K n6 w7
theorem S2_ok (Kv : VW) : OkT pr true none 14 g2 (S2 (Kt Kv)) (s2 (tl 2 bd)) (P1 Kv) := ok_last mixed FOk_ fun v ρ w => by kernel_rfl
def P3 (Kv : VW) : Post := next (get g2 (S2 (Kt Kv))) (P1 Kv)
def P4 (Kv : VW) : Post := inBlock 0 (P3 Kv)
@[reducible] def g5 : List SE := [.v 3 .ptr, .v 6 .raw, .v 14 .raw]
def P6 (Rr : Exit → World → Prop) : Post := RP Rr
@[reducible] def g7 : List SE := [.v 3 .ptr, .v 4 .ptr]
def S7 (Rr : Exit → World → Prop) (n_11 : Option Addr) (s_12 : Option Addr) (w : World) : Prop :=
  G.ptr n_11 fun p13 => G.cI .i64 p13 w fun n14 => G.ptr s_12 fun p15 => G.cSl (p15.add 1) w fun l16 => G.ptr n_11 fun p17 => G.st p17 (.int .i64 (IntKind.i64.wrap (n14 + ((l16.n : Nat) : Int)))) w fun w18 => Rr .normal w18
theorem S7_ok (Rr : Exit → World → Prop) {ro : Option Nat} : OkT pr false ro 14 g7 (S7 Rr) (rbd (blk (tl 1 (s1 (tl 2 bd))))) (P6 Rr) := ok_last mixed FOk_ fun v ρ w => by kernel_rfl
def B_R5 (n_8 : Option Addr) (v9 : Value) (v10 : Value) (args : List Value) (wb : World) (bz : (World → Prop) → World → Prop) (Rr : Exit → World → Prop) : Prop := match args with
  | [.agg ⟨[.slice y_19_a y_19_n y_19_c, .slice y_20_a y_20_n y_20_c]⟩] => G.new (.cells #[nilS.v, nilS.v] 57) wb fun p21 w22 => G.st p21 (⟨y_19_a, y_19_n, y_19_c⟩ : Sl).v w22 fun w23 => G.st (p21.add 1) (⟨y_20_a, y_20_n, y_20_c⟩ : Sl).v w23 fun w24 => bz (S7 Rr n_8 (some p21)) w24
  | _ => False
def O_R5 (K : KT) (n_8 : Option Addr) (v9 : Value) (v10 : Value) (e : Exit) (D : Nat) (w : World) : Prop := match e with
  | .normal => S2 K n_8 (pushMark v10 D) w
  | _ => False
def R5 (K : KT) (n_8 : Option Addr) (v9 : Value) (v10 : Value) (w : World) : Prop :=
  G.rangeW Fc v9 pr (B_R5 n_8 v9 v10) w (O_R5 K n_8 v9 v10)
theorem R5_ok (Kv : VW) : OkT pr true none 14 g5 (R5 (Kt Kv)) (blk (tl 1 (s1 (tl 2 bd)))) (P4 Kv) := by
  refine ok_rangeW mixed FOk_ FcOk (s := 6) (ps := #[7]) (Bt := fun v => B_R5 v.1 v.2.1 v.2.2.1) (kB := fun Rr => S7 Rr) (sgB := g7) (out := fun v => O_R5 (Kt Kv) v.1 v.2.1 v.2.2.1) (by kernel_rfl) (fun v ρ w => by kernel_rfl) ?_ (fun Rr l => S7_ok Rr) ?_
  · intro v ρ args w bz Rr h
    have h' : B_R5 v.1 v.2.1 v.2.2.1 args w bz Rr := h
    unfold B_R5 at h'
    split at h'
    · exact ⟨rfl, Eq.mp (by kernel_rfl) h'⟩
    · exact h'.elim
  · intro v ρ e D w h
    cases e with
    | normal => exact Eq.mp (by kernel_rfl) h
    | _ => exact h.elim
theorem B8 (Kv : VW) : OkT pr true none 14 g5 (R5 (Kt Kv)) (tl 1 (s1 (tl 2 bd))) (P3 Kv) := ok_block 0 (by kernel_rfl) (R5_ok Kv)
@[reducible] def g9 : List SE := [.v 0 .ptr, .v 3 .ptr, .v 14 .raw]
def S9 (K : KT) (b_25 : Option Addr) (n_26 : Option Addr) (v27 : Value) (w : World) : Prop :=
  C.block_Block_All b_25 w fun v28 w29 => R5 K n_26 v28 v27 w29
theorem S9_ok (Kv : VW) : OkT pr true none 14 g9 (S9 (Kt Kv)) (s1 (tl 2 bd)) (P3 Kv) := ok_group mixed FOk_ 1 (B8 Kv) fun v ρ w => by kernel_rfl
theorem Q10 (Kv : VW) : OkT pr true none 14 g9 (S9 (Kt Kv)) (tl 2 bd) (P1 Kv) := ok_seq (by kernel_rfl) (S2_ok Kv) (S9_ok Kv)
end block_Block_Samples
def block_Block_Samples (b_2 : Option Addr) (w : World) (K : block_Block_Samples.KT) : Prop :=
  G.new (.cells #[(.int .i64 (0 : Int))] 3) w fun p30 w31 => G.st p30 (.int .i64 (0 : Int)) w31 fun w32 => block_Block_Samples.S9 K b_2 (some p30) undef w32
def block_Block_Samples.cl : CL := fun args K w => match args with
  | [.pointer x0] => C.block_Block_Samples x0 w (block_Block_Samples.Kt K)
  | _ => False
theorem block_Block_Samples.clok : OkC pr 47 block_Block_Samples.cl := by
  intro args K w h
  unfold block_Block_Samples.cl at h
  split at h
  · exact calls_group true mixed block_Block_Samples.FOk_ block_Block_Samples.fn rfl 2 (block_Block_Samples.Q10 K) (Eq.mp (by kernel_rfl) h)
  · exact h.elim
namespace tocsinlaw10_awake
abbrev KT := Bool → World → Prop
def Kt (Kv : VW) : KT := fun b1 w => Kv (.bool b1) w
noncomputable def bd : Code := bdy Tryz.f13
theorem fn : FnOk pr 13 60 Tryz.f13 := ⟨Tryz.func13, by kernel_rfl, Tryz.ntmps13, by kernel_rfl, by kernel_rfl⟩
def F : Clee := ofL [(11, C.block_Open.cl), (24, C.block_Block_Postings.cl), (33, C.block_Build.cl), (40, C.block_Block_Len.cl), (47, C.block_Block_Samples.cl)]
theorem FOk_ : FOk pr F := FOk_cons C.block_Open.clok (FOk_cons C.block_Block_Postings.clok (FOk_cons C.block_Build.clok (FOk_cons C.block_Block_Len.clok (FOk_cons C.block_Block_Samples.clok (FOk_nil)))))
def P1 (Kv : VW) : Post := bodyK false pr 60 Tryz.f13 Kv
end tocsinlaw10_awake
def tocsinlaw10_awake (w : World) (K : tocsinlaw10_awake.KT) : Prop :=
  G.new (.cells #[(.int .i64 (5 : Int)), (.float .f64 4607182418800017408)] 96) w fun p2 w3 => G.new (.cells #[(.string (⟨#[97]⟩ : ByteArray)), (.string (⟨#[50]⟩ : ByteArray))] 93) w3 fun p4 w5 => G.new (.cells #[(.string (⟨#[97]⟩ : ByteArray)), (.string (⟨#[49]⟩ : ByteArray))] 93) w5 fun p6 w7 => G.new (.cells #[(Sl.v (⟨some p4, 1, 1⟩ : Sl)), (Sl.v (⟨some p2, 1, 1⟩ : Sl)), (Sl.v (⟨some p6, 1, 1⟩ : Sl)), (Sl.v (⟨some p2, 1, 1⟩ : Sl))] 57) w7 fun p8 w9 => C.block_Build (⟨some p8, 2, 2⟩ : Sl) w9 fun l10 n11 n12 w13 => C.block_Open l10 w13 fun p14 n15 w16 => G.cond (n11 != (0 : Int)) (K false w16) (G.cond (n15 != (0 : Int)) (K false w16) (G.cond p14.isNone (K false w16) (C.block_Block_Postings p14 (⟨#[97]⟩ : ByteArray) (⟨#[50]⟩ : ByteArray) w16 fun l17 w18 => G.cond (((l17.n : Nat) : Int) == (1 : Int)) (G.ix l17.a l17.n (0 : Int) 1 fun p19 => G.cI .i64 p19 w18 fun n20 => G.cond (n20 == (1 : Int)) (C.block_Block_Len p14 w18 fun n21 w22 => G.cond (n21 == (2 : Int)) (C.block_Block_Samples p14 w22 fun n23 w24 => K (n23 == (2 : Int)) w24) (K false w22)) (K false w18)) (K false w18))))
def tocsinlaw10_awake.cl : CL := fun args K w => match args with
  | [] => C.tocsinlaw10_awake w (tocsinlaw10_awake.Kt K)
  | _ => False
theorem tocsinlaw10_awake.clok : OkC pr 13 tocsinlaw10_awake.cl := by
  intro args K w h
  unfold tocsinlaw10_awake.cl at h
  split at h
  · exact calls_last false mixed tocsinlaw10_awake.FOk_ tocsinlaw10_awake.fn rfl (Eq.mp (by kernel_rfl) h)
  · exact h.elim
namespace tocsinlaw10_built
abbrev KT := Option Addr → World → Prop
def Kt (Kv : VW) : KT := fun p1 w => Kv (.pointer p1) w
noncomputable def bd : Code := bdy Tryz.f17
theorem fn : FnOk pr 17 24 Tryz.f17 := ⟨Tryz.func17, by kernel_rfl, Tryz.ntmps17, by kernel_rfl, by kernel_rfl⟩
def F : Clee := ofL [(11, C.block_Open.cl), (33, C.block_Build.cl)]
theorem FOk_ : FOk pr F := FOk_cons C.block_Open.clok (FOk_cons C.block_Build.clok (FOk_nil))
def P1 (Kv : VW) : Post := bodyK false pr 24 Tryz.f17 Kv
end tocsinlaw10_built
def tocsinlaw10_built (l_2 : Sl) (w : World) (K : tocsinlaw10_built.KT) : Prop :=
  C.block_Build l_2 w fun l4 n5 n6 w7 => G.cond (n5 != (0 : Int)) (K none w7) (C.block_Open l4 w7 fun p8 n9 w10 => G.cond (n9 != (0 : Int)) (K none w10) (K p8 w10))
def tocsinlaw10_built.cl : CL := fun args K w => match args with
  | [.slice x0_a x0_n x0_c] => C.tocsinlaw10_built ⟨x0_a, x0_n, x0_c⟩ w (tocsinlaw10_built.Kt K)
  | _ => False
theorem tocsinlaw10_built.clok : OkC pr 17 tocsinlaw10_built.cl := by
  intro args K w h
  unfold tocsinlaw10_built.cl at h
  split at h
  · exact calls_last false mixed tocsinlaw10_built.FOk_ tocsinlaw10_built.fn rfl (Eq.mp (by kernel_rfl) h)
  · exact h.elim
namespace tocsinref04_side
abbrev KT := Int → World → Prop
def Kt (Kv : VW) : KT := fun n1 w => Kv (.int .i64 n1) w
noncomputable def bd : Code := bdy Tryz.f96
theorem fn : FnOk pr 96 11 Tryz.f96 := ⟨Tryz.func96, by kernel_rfl, Tryz.ntmps96, by kernel_rfl, by kernel_rfl⟩
def F : Clee := ofL []
theorem FOk_ : FOk pr F := FOk_nil
def P1 (Kv : VW) : Post := bodyK false pr 11 Tryz.f96 Kv
end tocsinref04_side
def tocsinref04_side (a_2 : ByteArray) (b_3 : ByteArray) (w : World) (K : tocsinref04_side.KT) : Prop :=
  G.cond (Op.bytesLess a_2.toList b_3.toList) (K (-1 : Int) w) (G.cond (!((Op.bytesLess a_2.toList b_3.toList) || (a_2.toList == b_3.toList))) (K (1 : Int) w) (K (0 : Int) w))
def tocsinref04_side.cl : CL := fun args K w => match args with
  | [.string x0, .string x1] => C.tocsinref04_side x0 x1 w (tocsinref04_side.Kt K)
  | _ => False
theorem tocsinref04_side.clok : OkC pr 96 tocsinref04_side.cl := by
  intro args K w h
  unfold tocsinref04_side.cl at h
  split at h
  · exact calls_last false mixed tocsinref04_side.FOk_ tocsinref04_side.fn rfl (Eq.mp (by kernel_rfl) h)
  · exact h.elim
namespace tocsinref04_Compare
abbrev KT := Int → World → Prop
def Kt (Kv : VW) : KT := fun n1 w => Kv (.int .i64 n1) w
noncomputable def bd : Code := bdy Tryz.f58
theorem fn : FnOk pr 58 58 Tryz.f58 := ⟨Tryz.func58, by kernel_rfl, Tryz.ntmps58, by kernel_rfl, by kernel_rfl⟩
def F : Clee := ofL [(96, C.tocsinref04_side.cl)]
theorem FOk_ : FOk pr F := FOk_cons C.tocsinref04_side.clok (FOk_nil)
def P1 (Kv : VW) : Post := bodyK false pr 58 Tryz.f58 Kv
@[reducible] def g2 : List SE := [.v 0 .sl, .v 1 .sl]
def S2 (K : KT) (a_4 : Sl) (b_5 : Sl) (w : World) : Prop :=
  G.cond (decide (((a_4.n : Nat) : Int) < ((b_5.n : Nat) : Int))) (K (-1 : Int) w) (G.cond (decide (((a_4.n : Nat) : Int) > ((b_5.n : Nat) : Int))) (K (1 : Int) w) (K (0 : Int) w))
theorem S2_ok (Kv : VW) : OkT pr false none 58 g2 (S2 (Kt Kv)) (s2 (tl 1 bd)) (P1 Kv) := ok_last mixed FOk_ fun v ρ w => by kernel_rfl
def P3 (Kv : VW) : Post := next (get g2 (S2 (Kt Kv))) (P1 Kv)
def P4 (Kv : VW) : Post := inBlock 0 (P3 Kv)
@[reducible] def g5 : List SE := [.v 0 .sl, .v 1 .sl, .v 5 (.int .i64)]
def P6 (Kv : VW) (kc5 : Cur g5) : Post := next (get g5 kc5) (P4 Kv)
def S7 (K : KT) (kc5 : Cur g5) (a_12 : Sl) (b_13 : Sl) (i_14 : Int) (w : World) : Prop :=
  G.cond (decide (i_14 < ((a_12.n : Nat) : Int))) (G.cond (decide (i_14 < ((b_13.n : Nat) : Int))) (G.ix a_12.a a_12.n i_14 2 fun p15 => G.cS p15 w.drew fun s16 => G.ix b_13.a b_13.n i_14 2 fun p17 => G.cS p17 w.drew fun s18 => C.tocsinref04_side s16 s18 w.drew fun n19 w20 => G.cond (n19 != (0 : Int)) (K n19 w20) (G.ix a_12.a a_12.n i_14 2 fun p21 => G.cS (p21.add 1) w20.drew fun s22 => G.ix b_13.a b_13.n i_14 2 fun p23 => G.cS (p23.add 1) w20.drew fun s24 => C.tocsinref04_side s22 s24 w20.drew fun n25 w26 => G.cond (n25 != (0 : Int)) (K n25 w26) (kc5 a_12 b_13 (IntKind.i64.wrap (i_14 + (1 : Int))) w26))) (S2 K a_12 b_13 w)) (S2 K a_12 b_13 w)
theorem S7_ok (Kv : VW) (kc5 : Cur g5) : OkT pr false none 58 g5 (S7 (Kt Kv) kc5) (lp (blk (tl 1 (s1 (tl 1 bd))))) (P6 Kv kc5) := ok_last mixed FOk_ fun v ρ w => by kernel_rfl
def L5 (K : KT) : Cur g5 := loopC g5 (S7 K)
theorem L5_ok (Kv : VW) : OkT pr false none 58 g5 (L5 (Kt Kv)) (blk (tl 1 (s1 (tl 1 bd)))) (P4 Kv) := ok_loop (B := S7 (Kt Kv)) (by kernel_rfl) fun kc => S7_ok Kv kc
theorem L5_ind {K : KT} {a_6 : Sl} {b_7 : Sl} {i_8 : Int} {w : World} (h : ∀ X : Cur g5, (∀ a_6 b_7 i_8 w, S7 K X a_6 b_7 i_8 w → X a_6 b_7 i_8 w) → X a_6 b_7 i_8 w) : L5 K a_6 b_7 i_8 w := fun X hX => h X fun a_6 b_7 i_8 w hb => hX (a_6, b_7, i_8, ()) w hb
theorem B8 (Kv : VW) : OkT pr false none 58 g5 (L5 (Kt Kv)) (tl 1 (s1 (tl 1 bd))) (P3 Kv) := ok_block 0 (by kernel_rfl) (L5_ok Kv)
def S9 (K : KT) (a_27 : Sl) (b_28 : Sl) (w : World) : Prop :=
  L5 K a_27 b_28 (0 : Int) w
theorem S9_ok (Kv : VW) : OkT pr false none 58 g2 (S9 (Kt Kv)) (s1 (tl 1 bd)) (P3 Kv) := ok_group mixed FOk_ 1 (B8 Kv) fun v ρ w => by kernel_rfl
theorem Q10 (Kv : VW) : OkT pr false none 58 g2 (S9 (Kt Kv)) (tl 1 bd) (P1 Kv) := ok_seq (by kernel_rfl) (S2_ok Kv) (S9_ok Kv)
end tocsinref04_Compare
def tocsinref04_Compare (a_2 : Sl) (b_3 : Sl) (w : World) (K : tocsinref04_Compare.KT) : Prop :=
  tocsinref04_Compare.S9 K a_2 b_3 w
def tocsinref04_Compare.cl : CL := fun args K w => match args with
  | [.slice x0_a x0_n x0_c, .slice x1_a x1_n x1_c] => C.tocsinref04_Compare ⟨x0_a, x0_n, x0_c⟩ ⟨x1_a, x1_n, x1_c⟩ w (tocsinref04_Compare.Kt K)
  | _ => False
theorem tocsinref04_Compare.clok : OkC pr 58 tocsinref04_Compare.cl := by
  intro args K w h
  unfold tocsinref04_Compare.cl at h
  split at h
  · exact calls_group false mixed tocsinref04_Compare.FOk_ tocsinref04_Compare.fn rfl 1 (tocsinref04_Compare.Q10 K) (Eq.mp (by kernel_rfl) h)
  · exact h.elim
namespace tocsinref10_Sorted
abbrev KT := Sl → World → Prop
def Kt (Kv : VW) : KT := fun l1 w => Kv l1.v w
noncomputable def bd : Code := bdy Tryz.f19
theorem fn : FnOk pr 19 49 Tryz.f19 := ⟨Tryz.func19, by kernel_rfl, Tryz.ntmps19, by kernel_rfl, by kernel_rfl⟩
def F : Clee := ofL [(58, C.tocsinref04_Compare.cl)]
theorem FOk_ : FOk pr F := FOk_cons C.tocsinref04_Compare.clok (FOk_nil)
def P1 (Kv : VW) : Post := bodyK false pr 49 Tryz.f19 Kv
@[reducible] def g2 : List SE := [.v 3 .sl]
def S2 (K : KT) (out_3 : Sl) (w : World) : Prop :=
  K out_3 w
theorem S2_ok (Kv : VW) : OkT pr false none 49 g2 (S2 (Kt Kv)) (s2 (tl 2 bd)) (P1 Kv) := ok_last mixed FOk_ fun v ρ w => by kernel_rfl
def P3 (Kv : VW) : Post := next (get g2 (S2 (Kt Kv))) (P1 Kv)
def P4 (Kv : VW) : Post := inBlock 0 (P3 Kv)
@[reducible] def g5 : List SE := [.v 3 .sl, .v 7 .sl, .v 8 (.int .i64), .v 9 (.int .i64)]
def P6 (Kv : VW) (kc5 : Cur g5) : Post := next (get g5 kc5) (P4 Kv)
def S7 (K : KT) (kc5 : Cur g5) (out_8 : Sl) (l9 : Sl) (n10 : Int) (n11 : Int) (w : World) : Prop :=
  kc5 out_8 l9 n10 (IntKind.i64.wrap (n11 + (1 : Int))) w
theorem S7_ok (Kv : VW) (kc5 : Cur g5) : OkT pr false none 49 g5 (S7 (Kt Kv) kc5) (s2 (tl 2 (lp (blk (tl 1 (s1 (tl 2 bd))))))) (P6 Kv kc5) := ok_last mixed FOk_ fun v ρ w => by kernel_rfl
def P8 (Kv : VW) (kc5 : Cur g5) : Post := next (get g5 (S7 (Kt Kv) kc5)) (P6 Kv kc5)
def P9 (Kv : VW) (kc5 : Cur g5) : Post := inBlock 1 (P8 Kv kc5)
@[reducible] def g10 : List SE := [.v 3 .sl, .v 5 .ptr, .v 6 (.int .i64), .v 7 .sl, .v 8 (.int .i64), .v 9 (.int .i64)]
def S10 (K : KT) (kc5 : Cur g5) (out_12 : Sl) (x_13 : Option Addr) (k_14 : Int) (l15 : Sl) (n16 : Int) (n17 : Int) (w : World) : Prop :=
  G.ptr x_13 fun p18 => G.cSl p18 w fun l19 => G.cSl (p18.add 1) w fun l20 => G.ix out_12.a out_12.n k_14 2 fun p21 => G.st p21 l19.v w fun w22 => G.st (p21.add 1) l20.v w22 fun w23 => S7 K kc5 out_12 l15 n16 n17 w23
theorem S10_ok (Kv : VW) (kc5 : Cur g5) : OkT pr false none 49 g10 (S10 (Kt Kv) kc5) (s2 (tl 3 (blk (s1 (tl 2 (lp (blk (tl 1 (s1 (tl 2 bd)))))))))) (P9 Kv kc5) := ok_last mixed FOk_ fun v ρ w => by kernel_rfl
def P11 (Kv : VW) (kc5 : Cur g5) : Post := next (get g10 (S10 (Kt Kv) kc5)) (P9 Kv kc5)
def P12 (Kv : VW) (kc5 : Cur g5) : Post := inBlock 2 (P11 Kv kc5)
def P14 (Kv : VW) (kc5 : Cur g5) (kc13 : Cur g10) : Post := next (get g10 kc13) (P12 Kv kc5)
def S15 (K : KT) (kc5 : Cur g5) (kc13 : Cur g10) (out_36 : Sl) (x_37 : Option Addr) (k_38 : Int) (l39 : Sl) (n40 : Int) (n41 : Int) (w : World) : Prop :=
  G.cond (decide (k_38 > (0 : Int))) (G.ix out_36.a out_36.n (IntKind.i64.wrap (k_38 - (1 : Int))) 2 fun p42 => G.cSl p42 w.drew fun l43 => G.ptr x_37 fun p44 => G.cSl p44 w.drew fun l45 => C.tocsinref04_Compare l43 l45 w.drew fun n46 w47 => G.cond (decide (n46 > (0 : Int))) (G.ix out_36.a out_36.n (IntKind.i64.wrap (k_38 - (1 : Int))) 2 fun p48 => G.cSl p48 w47 fun l49 => G.cSl (p48.add 1) w47 fun l50 => G.ix out_36.a out_36.n k_38 2 fun p51 => G.st p51 l49.v w47 fun w52 => G.st (p51.add 1) l50.v w52 fun w53 => kc13 out_36 x_37 (IntKind.i64.wrap (k_38 - (1 : Int))) l39 n40 n41 w53) (S10 K kc5 out_36 x_37 k_38 l39 n40 n41 w47)) (S10 K kc5 out_36 x_37 k_38 l39 n40 n41 w.drew)
theorem S15_ok (Kv : VW) (kc5 : Cur g5) (kc13 : Cur g10) : OkT pr false none 49 g10 (S15 (Kt Kv) kc5 kc13) (lp (blk (s1 (tl 3 (blk (s1 (tl 2 (lp (blk (tl 1 (s1 (tl 2 bd)))))))))))) (P14 Kv kc5 kc13) := ok_last mixed FOk_ fun v ρ w => by kernel_rfl
def L13 (K : KT) (kc5 : Cur g5) : Cur g10 := loopC g10 (S15 K kc5)
theorem L13_ok (Kv : VW) (kc5 : Cur g5) : OkT pr false none 49 g10 (L13 (Kt Kv) kc5) (blk (s1 (tl 3 (blk (s1 (tl 2 (lp (blk (tl 1 (s1 (tl 2 bd))))))))))) (P12 Kv kc5) := ok_loop (B := S15 (Kt Kv) kc5) (by kernel_rfl) fun kc => S15_ok Kv kc5 kc
theorem L13_ind {K : KT} {kc5 : Cur g5} {out_24 : Sl} {x_25 : Option Addr} {k_26 : Int} {l27 : Sl} {n28 : Int} {n29 : Int} {w : World} (h : ∀ X : Cur g10, (∀ out_24 x_25 k_26 l27 n28 n29 w, S15 K kc5 X out_24 x_25 k_26 l27 n28 n29 w → X out_24 x_25 k_26 l27 n28 n29 w) → X out_24 x_25 k_26 l27 n28 n29 w) : L13 K kc5 out_24 x_25 k_26 l27 n28 n29 w := fun X hX => h X fun out_24 x_25 k_26 l27 n28 n29 w hb => hX (out_24, x_25, k_26, l27, n28, n29, ()) w hb
theorem B16 (Kv : VW) (kc5 : Cur g5) : OkT pr false none 49 g10 (L13 (Kt Kv) kc5) (s1 (tl 3 (blk (s1 (tl 2 (lp (blk (tl 1 (s1 (tl 2 bd)))))))))) (P11 Kv kc5) := ok_block 2 (by kernel_rfl) (L13_ok Kv kc5)
theorem Q17 (Kv : VW) (kc5 : Cur g5) : OkT pr false none 49 g10 (L13 (Kt Kv) kc5) (tl 3 (blk (s1 (tl 2 (lp (blk (tl 1 (s1 (tl 2 bd))))))))) (P9 Kv kc5) := ok_seq (by kernel_rfl) (S10_ok Kv kc5) (B16 Kv kc5)
def S18 (K : KT) (kc5 : Cur g5) (out_54 : Sl) (l55 : Sl) (n56 : Int) (n57 : Int) (w : World) : Prop :=
  G.ix l55.a l55.n n57 2 fun p58 => G.cSl p58 w fun l59 => G.cSl (p58.add 1) w fun l60 => G.new (.cells #[nilS.v, nilS.v] 57) w fun p61 w62 => G.st p61 l59.v w62 fun w63 => G.st (p61.add 1) l60.v w63 fun w64 => G.cSl p61 w64 fun l65 => G.cSl (p61.add 1) w64 fun l66 => G.new (.cells #[l65.v, l66.v] 57) w64 fun p67 w68 => G.runSl pr (Builtin.append_ #[27, 27] 27 #[out_54.v, (Sl.v (⟨some p67, 1, 1⟩ : Sl))]) w68 fun l69 w70 => L13 K kc5 l69 (some p61) ((out_54.n : Nat) : Int) l55 n56 n57 w70
theorem S18_ok (Kv : VW) (kc5 : Cur g5) : OkT pr false none 49 g5 (S18 (Kt Kv) kc5) (blk (s1 (tl 2 (lp (blk (tl 1 (s1 (tl 2 bd)))))))) (P9 Kv kc5) := ok_group mixed FOk_ 3 (Q17 Kv kc5) fun v ρ w => by kernel_rfl
theorem B19 (Kv : VW) (kc5 : Cur g5) : OkT pr false none 49 g5 (S18 (Kt Kv) kc5) (s1 (tl 2 (lp (blk (tl 1 (s1 (tl 2 bd))))))) (P8 Kv kc5) := ok_block 1 (by kernel_rfl) (S18_ok Kv kc5)
theorem Q20 (Kv : VW) (kc5 : Cur g5) : OkT pr false none 49 g5 (S18 (Kt Kv) kc5) (tl 2 (lp (blk (tl 1 (s1 (tl 2 bd)))))) (P6 Kv kc5) := ok_seq (by kernel_rfl) (S7_ok Kv kc5) (B19 Kv kc5)
def S21 (K : KT) (kc5 : Cur g5) (out_71 : Sl) (l72 : Sl) (n73 : Int) (n74 : Int) (w : World) : Prop :=
  G.cond (decide (n74 < n73)) (S18 K kc5 out_71 l72 n73 n74 w) (S2 K out_71 w)
theorem S21_ok (Kv : VW) (kc5 : Cur g5) : OkT pr false none 49 g5 (S21 (Kt Kv) kc5) (lp (blk (tl 1 (s1 (tl 2 bd))))) (P6 Kv kc5) := ok_group mixed FOk_ 2 (Q20 Kv kc5) fun v ρ w => by kernel_rfl
def L5 (K : KT) : Cur g5 := loopC g5 (S21 K)
theorem L5_ok (Kv : VW) : OkT pr false none 49 g5 (L5 (Kt Kv)) (blk (tl 1 (s1 (tl 2 bd)))) (P4 Kv) := ok_loop (B := S21 (Kt Kv)) (by kernel_rfl) fun kc => S21_ok Kv kc
theorem L5_ind {K : KT} {out_4 : Sl} {l5 : Sl} {n6 : Int} {n7 : Int} {w : World} (h : ∀ X : Cur g5, (∀ out_4 l5 n6 n7 w, S21 K X out_4 l5 n6 n7 w → X out_4 l5 n6 n7 w) → X out_4 l5 n6 n7 w) : L5 K out_4 l5 n6 n7 w := fun X hX => h X fun out_4 l5 n6 n7 w hb => hX (out_4, l5, n6, n7, ()) w hb
theorem B22 (Kv : VW) : OkT pr false none 49 g5 (L5 (Kt Kv)) (tl 1 (s1 (tl 2 bd))) (P3 Kv) := ok_block 0 (by kernel_rfl) (L5_ok Kv)
@[reducible] def g23 : List SE := [.v 0 .sl, .v 3 .sl]
def S23 (K : KT) (l_75 : Sl) (out_76 : Sl) (w : World) : Prop :=
  L5 K out_76 l_75 ((l_75.n : Nat) : Int) (0 : Int) w
theorem S23_ok (Kv : VW) : OkT pr false none 49 g23 (S23 (Kt Kv)) (s1 (tl 2 bd)) (P3 Kv) := ok_group mixed FOk_ 1 (B22 Kv) fun v ρ w => by kernel_rfl
theorem Q24 (Kv : VW) : OkT pr false none 49 g23 (S23 (Kt Kv)) (tl 2 bd) (P1 Kv) := ok_seq (by kernel_rfl) (S2_ok Kv) (S23_ok Kv)
end tocsinref10_Sorted
def tocsinref10_Sorted (l_2 : Sl) (w : World) (K : tocsinref10_Sorted.KT) : Prop :=
  tocsinref10_Sorted.S23 K l_2 nilS w
def tocsinref10_Sorted.cl : CL := fun args K w => match args with
  | [.slice x0_a x0_n x0_c] => C.tocsinref10_Sorted ⟨x0_a, x0_n, x0_c⟩ w (tocsinref10_Sorted.Kt K)
  | _ => False
theorem tocsinref10_Sorted.clok : OkC pr 19 tocsinref10_Sorted.cl := by
  intro args K w h
  unfold tocsinref10_Sorted.cl at h
  split at h
  · exact calls_group false mixed tocsinref10_Sorted.FOk_ tocsinref10_Sorted.fn rfl 2 (tocsinref10_Sorted.Q24 K) (Eq.mp (by kernel_rfl) h)
  · exact h.elim
namespace tocsinref04_Same
abbrev KT := Bool → World → Prop
def Kt (Kv : VW) : KT := fun b1 w => Kv (.bool b1) w
noncomputable def bd : Code := bdy Tryz.f28
theorem fn : FnOk pr 28 9 Tryz.f28 := ⟨Tryz.func28, by kernel_rfl, Tryz.ntmps28, by kernel_rfl, by kernel_rfl⟩
def F : Clee := ofL [(58, C.tocsinref04_Compare.cl)]
theorem FOk_ : FOk pr F := FOk_cons C.tocsinref04_Compare.clok (FOk_nil)
def P1 (Kv : VW) : Post := bodyK false pr 9 Tryz.f28 Kv
end tocsinref04_Same
def tocsinref04_Same (a_2 : Sl) (b_3 : Sl) (w : World) (K : tocsinref04_Same.KT) : Prop :=
  C.tocsinref04_Compare a_2 b_3 w fun n4 w5 => K (n4 == (0 : Int)) w5
def tocsinref04_Same.cl : CL := fun args K w => match args with
  | [.slice x0_a x0_n x0_c, .slice x1_a x1_n x1_c] => C.tocsinref04_Same ⟨x0_a, x0_n, x0_c⟩ ⟨x1_a, x1_n, x1_c⟩ w (tocsinref04_Same.Kt K)
  | _ => False
theorem tocsinref04_Same.clok : OkC pr 28 tocsinref04_Same.cl := by
  intro args K w h
  unfold tocsinref04_Same.cl at h
  split at h
  · exact calls_last false mixed tocsinref04_Same.FOk_ tocsinref04_Same.fn rfl (Eq.mp (by kernel_rfl) h)
  · exact h.elim
namespace tocsinref01_joined
abbrev KT := Sl → World → Prop
def Kt (Kv : VW) : KT := fun l1 w => Kv l1.v w
noncomputable def bd : Code := bdy Tryz.f92
theorem fn : FnOk pr 92 13 Tryz.f92 := ⟨Tryz.func92, by kernel_rfl, Tryz.ntmps92, by kernel_rfl, by kernel_rfl⟩
def F : Clee := ofL []
theorem FOk_ : FOk pr F := FOk_nil
def P1 (Kv : VW) : Post := bodyK false pr 13 Tryz.f92 Kv
end tocsinref01_joined
def tocsinref01_joined (b_2 : Sl) (c_3 : Sl) (w : World) (K : tocsinref01_joined.KT) : Prop :=
  G.runSl pr (Builtin.append_ #[22, 22] 22 #[nilS.v, b_2.v]) w fun l4 w5 => G.runSl pr (Builtin.append_ #[22, 22] 22 #[l4.v, c_3.v]) w5 fun l6 w7 => K l6 w7
def tocsinref01_joined.cl : CL := fun args K w => match args with
  | [.slice x0_a x0_n x0_c, .slice x1_a x1_n x1_c] => C.tocsinref01_joined ⟨x0_a, x0_n, x0_c⟩ ⟨x1_a, x1_n, x1_c⟩ w (tocsinref01_joined.Kt K)
  | _ => False
theorem tocsinref01_joined.clok : OkC pr 92 tocsinref01_joined.cl := by
  intro args K w h
  unfold tocsinref01_joined.cl at h
  split at h
  · exact calls_last false mixed tocsinref01_joined.FOk_ tocsinref01_joined.fn rfl (Eq.mp (by kernel_rfl) h)
  · exact h.elim
namespace tocsinref01_PutU
abbrev KT := Sl → World → Prop
def Kt (Kv : VW) : KT := fun l1 w => Kv l1.v w
noncomputable def bd : Code := bdy Tryz.f55
theorem fn : FnOk pr 55 25 Tryz.f55 := ⟨Tryz.func55, by kernel_rfl, Tryz.ntmps55, by kernel_rfl, by kernel_rfl⟩
def F : Clee := ofL [(92, C.tocsinref01_joined.cl)]
theorem FOk_ : FOk pr F := FOk_cons C.tocsinref01_joined.clok (FOk_nil)
def P1 (Kv : VW) : Post := bodyK false pr 25 Tryz.f55 Kv
@[reducible] def g2 : List SE := [.v 0 .sl, .v 1 (.int .u64), .v 5 .sl]
def S2 (K : KT) (b_4 : Sl) (n_5 : Int) (d_6 : Sl) (w : World) : Prop :=
  G.new (.cells #[(.int .u8 (IntKind.u8.wrap n_5))] 5) w fun p7 w8 => G.runSl pr (Builtin.append_ #[22, 22] 22 #[d_6.v, (Sl.v (⟨some p7, 1, 1⟩ : Sl))]) w8 fun l9 w10 => C.tocsinref01_joined b_4 l9 w10 fun l11 w12 => K l11 w12
theorem S2_ok (Kv : VW) : OkT pr false none 25 g2 (S2 (Kt Kv)) (s2 (tl 2 bd)) (P1 Kv) := ok_last mixed FOk_ fun v ρ w => by kernel_rfl
def P3 (Kv : VW) : Post := next (get g2 (S2 (Kt Kv))) (P1 Kv)
def P4 (Kv : VW) : Post := inBlock 0 (P3 Kv)
def P6 (Kv : VW) (kc5 : Cur g2) : Post := next (get g2 kc5) (P4 Kv)
def S7 (K : KT) (kc5 : Cur g2) (b_19 : Sl) (n_20 : Int) (d_21 : Sl) (w : World) : Prop :=
  G.cond (decide (n_20 ≥ (128 : Int))) (G.nz (128 : Int) <| G.new (.cells #[(.int .u8 (IntKind.u8.wrap ((IntKind.u8.wrap (Int.tmod n_20 (128 : Int))) + (128 : Int))))] 5) w fun p22 w23 => G.runSl pr (Builtin.append_ #[22, 22] 22 #[d_21.v, (Sl.v (⟨some p22, 1, 1⟩ : Sl))]) w23 fun l24 w25 => G.nz (128 : Int) <| kc5 b_19 (IntKind.u64.wrap (Int.tdiv n_20 (128 : Int))) l24 w25) (S2 K b_19 n_20 d_21 w)
theorem S7_ok (Kv : VW) (kc5 : Cur g2) : OkT pr false none 25 g2 (S7 (Kt Kv) kc5) (lp (blk (s1 (tl 2 bd)))) (P6 Kv kc5) := ok_last mixed FOk_ fun v ρ w => by kernel_rfl
def L5 (K : KT) : Cur g2 := loopC g2 (S7 K)
theorem L5_ok (Kv : VW) : OkT pr false none 25 g2 (L5 (Kt Kv)) (blk (s1 (tl 2 bd))) (P4 Kv) := ok_loop (B := S7 (Kt Kv)) (by kernel_rfl) fun kc => S7_ok Kv kc
theorem L5_ind {K : KT} {b_13 : Sl} {n_14 : Int} {d_15 : Sl} {w : World} (h : ∀ X : Cur g2, (∀ b_13 n_14 d_15 w, S7 K X b_13 n_14 d_15 w → X b_13 n_14 d_15 w) → X b_13 n_14 d_15 w) : L5 K b_13 n_14 d_15 w := fun X hX => h X fun b_13 n_14 d_15 w hb => hX (b_13, n_14, d_15, ()) w hb
theorem B8 (Kv : VW) : OkT pr false none 25 g2 (L5 (Kt Kv)) (s1 (tl 2 bd)) (P3 Kv) := ok_block 0 (by kernel_rfl) (L5_ok Kv)
theorem Q9 (Kv : VW) : OkT pr false none 25 g2 (L5 (Kt Kv)) (tl 2 bd) (P1 Kv) := ok_seq (by kernel_rfl) (S2_ok Kv) (B8 Kv)
end tocsinref01_PutU
def tocsinref01_PutU (b_2 : Sl) (n_3 : Int) (w : World) (K : tocsinref01_PutU.KT) : Prop :=
  tocsinref01_PutU.L5 K b_2 n_3 nilS w
def tocsinref01_PutU.cl : CL := fun args K w => match args with
  | [.slice x0_a x0_n x0_c, .int .u64 x1] => C.tocsinref01_PutU ⟨x0_a, x0_n, x0_c⟩ x1 w (tocsinref01_PutU.Kt K)
  | _ => False
theorem tocsinref01_PutU.clok : OkC pr 55 tocsinref01_PutU.cl := by
  intro args K w h
  unfold tocsinref01_PutU.cl at h
  split at h
  · exact calls_group false mixed tocsinref01_PutU.FOk_ tocsinref01_PutU.fn rfl 2 (tocsinref01_PutU.Q9 K) (Eq.mp (by kernel_rfl) h)
  · exact h.elim
namespace tocsinref08_New
abbrev KT := Option Addr → World → Prop
def Kt (Kv : VW) : KT := fun p1 w => Kv (.pointer p1) w
noncomputable def bd : Code := bdy Tryz.f144
theorem fn : FnOk pr 144 3 Tryz.f144 := ⟨Tryz.func144, by kernel_rfl, Tryz.ntmps144, by kernel_rfl, by kernel_rfl⟩
def F : Clee := ofL []
theorem FOk_ : FOk pr F := FOk_nil
def P1 (Kv : VW) : Post := bodyK false pr 3 Tryz.f144 Kv
end tocsinref08_New
def tocsinref08_New (w : World) (K : tocsinref08_New.KT) : Prop :=
  G.new (.cells #[(.int .i64 (0 : Int)), (.int .i64 (0 : Int)), (.int .u64 (0 : Int)), (.int .i64 (64 : Int)), (.int .i64 (0 : Int))] 196) w fun p2 w3 => K (some p2) w3
def tocsinref08_New.cl : CL := fun args K w => match args with
  | [] => C.tocsinref08_New w (tocsinref08_New.Kt K)
  | _ => False
theorem tocsinref08_New.clok : OkC pr 144 tocsinref08_New.cl := by
  intro args K w h
  unfold tocsinref08_New.cl at h
  split at h
  · exact calls_last false mixed tocsinref08_New.FOk_ tocsinref08_New.fn rfl (Eq.mp (by kernel_rfl) h)
  · exact h.elim
namespace tocsinref08_Bits
abbrev KT := Int → World → Prop
def Kt (Kv : VW) : KT := fun n1 w => Kv (.int .u64 n1) w
noncomputable def bd : Code := bdy Tryz.f66
theorem fn : FnOk pr 66 5 Tryz.f66 := ⟨Tryz.func66, by kernel_rfl, Tryz.ntmps66, by kernel_rfl, by kernel_rfl⟩
def F : Clee := ofL [(100, C.math_Float64bits.cl)]
theorem FOk_ : FOk pr F := FOk_consX C.math_Float64bits.clok (FOk_nil)
def P1 (Kv : VW) : Post := bodyK false pr 5 Tryz.f66 Kv
end tocsinref08_Bits
def tocsinref08_Bits (v_2 : Nat) (w : World) (K : tocsinref08_Bits.KT) : Prop :=
  C.math_Float64bits v_2 w fun n3 w4 => K n3 w4
def tocsinref08_Bits.cl : CL := fun args K w => match args with
  | [.float .f64 x0] => C.tocsinref08_Bits x0 w (tocsinref08_Bits.Kt K)
  | _ => False
theorem tocsinref08_Bits.clok : OkC pr 66 tocsinref08_Bits.cl := by
  intro args K w h
  unfold tocsinref08_Bits.cl at h
  split at h
  · exact calls_last false mixed tocsinref08_Bits.FOk_ tocsinref08_Bits.fn rfl (Eq.mp (by kernel_rfl) h)
  · exact h.elim
namespace tocsinref02_Stream_Write
abbrev KT := World → Prop
def Kt (Kv : VW) : KT := fun  w => Kv (.tuple #[]) w
noncomputable def bd : Code := bdy Tryz.f185
theorem fn : FnOk pr 185 28 Tryz.f185 := ⟨Tryz.func185, by kernel_rfl, Tryz.ntmps185, by kernel_rfl, by kernel_rfl⟩
def F : Clee := ofL []
theorem FOk_ : FOk pr F := FOk_nil
def P1 (Kv : VW) : Post := bodyK false pr 28 Tryz.f185 Kv
def P2 (Kv : VW) : Post := inBlock 0 (P1 Kv)
@[reducible] def g3 : List SE := [.v 0 .ptr, .v 1 (.int .u64), .v 6 (.int .i64)]
def P4 (Kv : VW) (kc3 : Cur g3) : Post := next (get g3 kc3) (P2 Kv)
def S5 (K : KT) (kc3 : Cur g3) (s_10 : Option Addr) (v_11 : Int) (i_12 : Int) (w : World) : Prop :=
  G.cond (decide (i_12 ≥ (0 : Int))) (G.ptr s_10 fun p13 => G.cSl p13 w fun l14 => G.nn (IntKind.u64.wrap i_12) <| G.new (.cells #[(.bool ((Go.bits .and .u64 (shr .u64 v_11 (IntKind.u64.wrap i_12)) (1 : Int)) == (1 : Int)))] 4) w fun p15 w16 => G.runSl pr (Builtin.append_ #[199, 199] 199 #[l14.v, (Sl.v (⟨some p15, 1, 1⟩ : Sl))]) w16 fun l17 w18 => G.ptr s_10 fun p19 => G.st p19 l17.v w18 fun w20 => kc3 s_10 v_11 (IntKind.i64.wrap (i_12 - (1 : Int))) w20) (K w)
theorem S5_ok (Kv : VW) (kc3 : Cur g3) : OkT pr false none 28 g3 (S5 (Kt Kv) kc3) (lp (blk (tl 1 bd))) (P4 Kv kc3) := ok_last mixed FOk_ fun v ρ w => by kernel_rfl
def L3 (K : KT) : Cur g3 := loopC g3 (S5 K)
theorem L3_ok (Kv : VW) : OkT pr false none 28 g3 (L3 (Kt Kv)) (blk (tl 1 bd)) (P2 Kv) := ok_loop (B := S5 (Kt Kv)) (by kernel_rfl) fun kc => S5_ok Kv kc
theorem L3_ind {K : KT} {s_4 : Option Addr} {v_5 : Int} {i_6 : Int} {w : World} (h : ∀ X : Cur g3, (∀ s_4 v_5 i_6 w, S5 K X s_4 v_5 i_6 w → X s_4 v_5 i_6 w) → X s_4 v_5 i_6 w) : L3 K s_4 v_5 i_6 w := fun X hX => h X fun s_4 v_5 i_6 w hb => hX (s_4, v_5, i_6, ()) w hb
theorem B6 (Kv : VW) : OkT pr false none 28 g3 (L3 (Kt Kv)) (tl 1 bd) (P1 Kv) := ok_block 0 (by kernel_rfl) (L3_ok Kv)
end tocsinref02_Stream_Write
def tocsinref02_Stream_Write (s_1 : Option Addr) (v_2 : Int) (n_3 : Int) (w : World) (K : tocsinref02_Stream_Write.KT) : Prop :=
  tocsinref02_Stream_Write.L3 K s_1 v_2 (IntKind.i64.wrap (n_3 - (1 : Int))) w
def tocsinref02_Stream_Write.cl : CL := fun args K w => match args with
  | [.pointer x0, .int .u64 x1, .int .i64 x2] => C.tocsinref02_Stream_Write x0 x1 x2 w (tocsinref02_Stream_Write.Kt K)
  | _ => False
theorem tocsinref02_Stream_Write.clok : OkC pr 185 tocsinref02_Stream_Write.cl := by
  intro args K w h
  unfold tocsinref02_Stream_Write.cl at h
  split at h
  · exact calls_group false mixed tocsinref02_Stream_Write.FOk_ tocsinref02_Stream_Write.fn rfl 1 (tocsinref02_Stream_Write.B6 K) (Eq.mp (by kernel_rfl) h)
  · exact h.elim
namespace tocsinref08_whole
abbrev KT := World → Prop
def Kt (Kv : VW) : KT := fun  w => Kv (.tuple #[]) w
noncomputable def bd : Code := bdy Tryz.f183
theorem fn : FnOk pr 183 17 Tryz.f183 := ⟨Tryz.func183, by kernel_rfl, Tryz.ntmps183, by kernel_rfl, by kernel_rfl⟩
def F : Clee := ofL [(185, C.tocsinref02_Stream_Write.cl)]
theorem FOk_ : FOk pr F := FOk_cons C.tocsinref02_Stream_Write.clok (FOk_nil)
def P1 (Kv : VW) : Post := bodyK false pr 17 Tryz.f183 Kv
def P2 (Kv : VW) : Post := inBlock 0 (P1 Kv)
@[reducible] def g3 : List SE := [.v 0 .ptr, .v 6 .sl, .v 7 (.int .i64), .v 8 (.int .i64)]
def P4 (Kv : VW) (kc3 : Cur g3) : Post := next (get g3 kc3) (P2 Kv)
def S5 (K : KT) (kc3 : Cur g3) (s_11 : Option Addr) (l12 : Sl) (n13 : Int) (n14 : Int) (w : World) : Prop :=
  G.cond (decide (n14 < n13)) (G.ix l12.a l12.n n14 1 fun p15 => G.cI .u8 p15 w fun n16 => C.tocsinref02_Stream_Write s_11 (IntKind.u64.wrap n16) (8 : Int) w fun w17 => kc3 s_11 l12 n13 (IntKind.i64.wrap (n14 + (1 : Int))) w17) (K w)
theorem S5_ok (Kv : VW) (kc3 : Cur g3) : OkT pr false none 17 g3 (S5 (Kt Kv) kc3) (lp (blk (tl 1 bd))) (P4 Kv kc3) := ok_last mixed FOk_ fun v ρ w => by kernel_rfl
def L3 (K : KT) : Cur g3 := loopC g3 (S5 K)
theorem L3_ok (Kv : VW) : OkT pr false none 17 g3 (L3 (Kt Kv)) (blk (tl 1 bd)) (P2 Kv) := ok_loop (B := S5 (Kt Kv)) (by kernel_rfl) fun kc => S5_ok Kv kc
theorem L3_ind {K : KT} {s_3 : Option Addr} {l4 : Sl} {n5 : Int} {n6 : Int} {w : World} (h : ∀ X : Cur g3, (∀ s_3 l4 n5 n6 w, S5 K X s_3 l4 n5 n6 w → X s_3 l4 n5 n6 w) → X s_3 l4 n5 n6 w) : L3 K s_3 l4 n5 n6 w := fun X hX => h X fun s_3 l4 n5 n6 w hb => hX (s_3, l4, n5, n6, ()) w hb
theorem B6 (Kv : VW) : OkT pr false none 17 g3 (L3 (Kt Kv)) (tl 1 bd) (P1 Kv) := ok_block 0 (by kernel_rfl) (L3_ok Kv)
end tocsinref08_whole
def tocsinref08_whole (s_1 : Option Addr) (b_2 : Sl) (w : World) (K : tocsinref08_whole.KT) : Prop :=
  tocsinref08_whole.L3 K s_1 b_2 ((b_2.n : Nat) : Int) (0 : Int) w
def tocsinref08_whole.cl : CL := fun args K w => match args with
  | [.pointer x0, .slice x1_a x1_n x1_c] => C.tocsinref08_whole x0 ⟨x1_a, x1_n, x1_c⟩ w (tocsinref08_whole.Kt K)
  | _ => False
theorem tocsinref08_whole.clok : OkC pr 183 tocsinref08_whole.cl := by
  intro args K w h
  unfold tocsinref08_whole.cl at h
  split at h
  · exact calls_group false mixed tocsinref08_whole.FOk_ tocsinref08_whole.fn rfl 1 (tocsinref08_whole.B6 K) (Eq.mp (by kernel_rfl) h)
  · exact h.elim
namespace tocsinref01_turn
abbrev KT := Int → World → Prop
def Kt (Kv : VW) : KT := fun n1 w => Kv (.int .u64 n1) w
noncomputable def bd : Code := bdy Tryz.f201
theorem fn : FnOk pr 201 14 Tryz.f201 := ⟨Tryz.func201, by kernel_rfl, Tryz.ntmps201, by kernel_rfl, by kernel_rfl⟩
def F : Clee := ofL []
theorem FOk_ : FOk pr F := FOk_nil
def P1 (Kv : VW) : Post := bodyK false pr 14 Tryz.f201 Kv
end tocsinref01_turn
def tocsinref01_turn (n_2 : Int) (w : World) (K : tocsinref01_turn.KT) : Prop :=
  G.cond (decide (n_2 ≥ (0 : Int))) (K (IntKind.u64.wrap ((2 : Int) * (IntKind.u64.wrap n_2))) w) (K (IntKind.u64.wrap ((IntKind.u64.wrap ((2 : Int) * (IntKind.u64.wrap (IntKind.i64.wrap (0 - (IntKind.i64.wrap (n_2 + (1 : Int)))))))) + (1 : Int))) w)
def tocsinref01_turn.cl : CL := fun args K w => match args with
  | [.int .i64 x0] => C.tocsinref01_turn x0 w (tocsinref01_turn.Kt K)
  | _ => False
theorem tocsinref01_turn.clok : OkC pr 201 tocsinref01_turn.cl := by
  intro args K w h
  unfold tocsinref01_turn.cl at h
  split at h
  · exact calls_last false mixed tocsinref01_turn.FOk_ tocsinref01_turn.fn rfl (Eq.mp (by kernel_rfl) h)
  · exact h.elim
namespace tocsinref01_PutI
abbrev KT := Sl → World → Prop
def Kt (Kv : VW) : KT := fun l1 w => Kv l1.v w
noncomputable def bd : Code := bdy Tryz.f184
theorem fn : FnOk pr 184 9 Tryz.f184 := ⟨Tryz.func184, by kernel_rfl, Tryz.ntmps184, by kernel_rfl, by kernel_rfl⟩
def F : Clee := ofL [(55, C.tocsinref01_PutU.cl), (201, C.tocsinref01_turn.cl)]
theorem FOk_ : FOk pr F := FOk_cons C.tocsinref01_PutU.clok (FOk_cons C.tocsinref01_turn.clok (FOk_nil))
def P1 (Kv : VW) : Post := bodyK false pr 9 Tryz.f184 Kv
end tocsinref01_PutI
def tocsinref01_PutI (b_2 : Sl) (n_3 : Int) (w : World) (K : tocsinref01_PutI.KT) : Prop :=
  C.tocsinref01_turn n_3 w fun n4 w5 => C.tocsinref01_PutU b_2 n4 w5 fun l6 w7 => K l6 w7
def tocsinref01_PutI.cl : CL := fun args K w => match args with
  | [.slice x0_a x0_n x0_c, .int .i64 x1] => C.tocsinref01_PutI ⟨x0_a, x0_n, x0_c⟩ x1 w (tocsinref01_PutI.Kt K)
  | _ => False
theorem tocsinref01_PutI.clok : OkC pr 184 tocsinref01_PutI.cl := by
  intro args K w h
  unfold tocsinref01_PutI.cl at h
  split at h
  · exact calls_last false mixed tocsinref01_PutI.FOk_ tocsinref01_PutI.fn rfl (Eq.mp (by kernel_rfl) h)
  · exact h.elim
namespace tocsinref08_lead
abbrev KT := Int → World → Prop
def Kt (Kv : VW) : KT := fun n1 w => Kv (.int .i64 n1) w
noncomputable def bd : Code := bdy Tryz.f202
theorem fn : FnOk pr 202 18 Tryz.f202 := ⟨Tryz.func202, by kernel_rfl, Tryz.ntmps202, by kernel_rfl, by kernel_rfl⟩
def F : Clee := ofL []
theorem FOk_ : FOk pr F := FOk_nil
def P1 (Kv : VW) : Post := bodyK false pr 18 Tryz.f202 Kv
@[reducible] def g2 : List SE := [.v 3 (.int .i64)]
def S2 (K : KT) (n_3 : Int) (w : World) : Prop :=
  K n_3 w
theorem S2_ok (Kv : VW) : OkT pr false none 18 g2 (S2 (Kt Kv)) (s2 (tl 2 bd)) (P1 Kv) := ok_last mixed FOk_ fun v ρ w => by kernel_rfl
def P3 (Kv : VW) : Post := next (get g2 (S2 (Kt Kv))) (P1 Kv)
def P4 (Kv : VW) : Post := inBlock 0 (P3 Kv)
@[reducible] def g5 : List SE := [.v 0 (.int .u64), .v 3 (.int .i64)]
def P6 (Kv : VW) (kc5 : Cur g5) : Post := next (get g5 kc5) (P4 Kv)
def S7 (K : KT) (kc5 : Cur g5) (x_6 : Int) (n_7 : Int) (w : World) : Prop :=
  G.cond (decide (n_7 < (31 : Int))) (G.nn (IntKind.u64.wrap (IntKind.i64.wrap ((63 : Int) - n_7))) <| G.cond ((Go.bits .and .u64 (shr .u64 x_6 (IntKind.u64.wrap (IntKind.i64.wrap ((63 : Int) - n_7)))) (1 : Int)) == (0 : Int)) (kc5 x_6 (IntKind.i64.wrap (n_7 + (1 : Int))) w) (S2 K n_7 w)) (S2 K n_7 w)
theorem S7_ok (Kv : VW) (kc5 : Cur g5) : OkT pr false none 18 g5 (S7 (Kt Kv) kc5) (lp (blk (s1 (tl 2 bd)))) (P6 Kv kc5) := ok_last mixed FOk_ fun v ρ w => by kernel_rfl
def L5 (K : KT) : Cur g5 := loopC g5 (S7 K)
theorem L5_ok (Kv : VW) : OkT pr false none 18 g5 (L5 (Kt Kv)) (blk (s1 (tl 2 bd))) (P4 Kv) := ok_loop (B := S7 (Kt Kv)) (by kernel_rfl) fun kc => S7_ok Kv kc
theorem L5_ind {K : KT} {x_4 : Int} {n_5 : Int} {w : World} (h : ∀ X : Cur g5, (∀ x_4 n_5 w, S7 K X x_4 n_5 w → X x_4 n_5 w) → X x_4 n_5 w) : L5 K x_4 n_5 w := fun X hX => h X fun x_4 n_5 w hb => hX (x_4, n_5, ()) w hb
theorem B8 (Kv : VW) : OkT pr false none 18 g5 (L5 (Kt Kv)) (s1 (tl 2 bd)) (P3 Kv) := ok_block 0 (by kernel_rfl) (L5_ok Kv)
theorem Q9 (Kv : VW) : OkT pr false none 18 g5 (L5 (Kt Kv)) (tl 2 bd) (P1 Kv) := ok_seq (by kernel_rfl) (S2_ok Kv) (B8 Kv)
end tocsinref08_lead
def tocsinref08_lead (x_2 : Int) (w : World) (K : tocsinref08_lead.KT) : Prop :=
  tocsinref08_lead.L5 K x_2 (0 : Int) w
def tocsinref08_lead.cl : CL := fun args K w => match args with
  | [.int .u64 x0] => C.tocsinref08_lead x0 w (tocsinref08_lead.Kt K)
  | _ => False
theorem tocsinref08_lead.clok : OkC pr 202 tocsinref08_lead.cl := by
  intro args K w h
  unfold tocsinref08_lead.cl at h
  split at h
  · exact calls_group false mixed tocsinref08_lead.FOk_ tocsinref08_lead.fn rfl 2 (tocsinref08_lead.Q9 K) (Eq.mp (by kernel_rfl) h)
  · exact h.elim
namespace tocsinref08_trail
abbrev KT := Int → World → Prop
def Kt (Kv : VW) : KT := fun n1 w => Kv (.int .i64 n1) w
noncomputable def bd : Code := bdy Tryz.f203
theorem fn : FnOk pr 203 13 Tryz.f203 := ⟨Tryz.func203, by kernel_rfl, Tryz.ntmps203, by kernel_rfl, by kernel_rfl⟩
def F : Clee := ofL []
theorem FOk_ : FOk pr F := FOk_nil
def P1 (Kv : VW) : Post := bodyK false pr 13 Tryz.f203 Kv
@[reducible] def g2 : List SE := [.v 3 (.int .i64)]
def S2 (K : KT) (n_3 : Int) (w : World) : Prop :=
  K n_3 w
theorem S2_ok (Kv : VW) : OkT pr false none 13 g2 (S2 (Kt Kv)) (s2 (tl 2 bd)) (P1 Kv) := ok_last mixed FOk_ fun v ρ w => by kernel_rfl
def P3 (Kv : VW) : Post := next (get g2 (S2 (Kt Kv))) (P1 Kv)
def P4 (Kv : VW) : Post := inBlock 0 (P3 Kv)
@[reducible] def g5 : List SE := [.v 0 (.int .u64), .v 3 (.int .i64)]
def P6 (Kv : VW) (kc5 : Cur g5) : Post := next (get g5 kc5) (P4 Kv)
def S7 (K : KT) (kc5 : Cur g5) (x_6 : Int) (n_7 : Int) (w : World) : Prop :=
  G.nn (IntKind.u64.wrap n_7) <| G.cond ((Go.bits .and .u64 (shr .u64 x_6 (IntKind.u64.wrap n_7)) (1 : Int)) == (0 : Int)) (kc5 x_6 (IntKind.i64.wrap (n_7 + (1 : Int))) w) (S2 K n_7 w)
theorem S7_ok (Kv : VW) (kc5 : Cur g5) : OkT pr false none 13 g5 (S7 (Kt Kv) kc5) (lp (blk (s1 (tl 2 bd)))) (P6 Kv kc5) := ok_last mixed FOk_ fun v ρ w => by kernel_rfl
def L5 (K : KT) : Cur g5 := loopC g5 (S7 K)
theorem L5_ok (Kv : VW) : OkT pr false none 13 g5 (L5 (Kt Kv)) (blk (s1 (tl 2 bd))) (P4 Kv) := ok_loop (B := S7 (Kt Kv)) (by kernel_rfl) fun kc => S7_ok Kv kc
theorem L5_ind {K : KT} {x_4 : Int} {n_5 : Int} {w : World} (h : ∀ X : Cur g5, (∀ x_4 n_5 w, S7 K X x_4 n_5 w → X x_4 n_5 w) → X x_4 n_5 w) : L5 K x_4 n_5 w := fun X hX => h X fun x_4 n_5 w hb => hX (x_4, n_5, ()) w hb
theorem B8 (Kv : VW) : OkT pr false none 13 g5 (L5 (Kt Kv)) (s1 (tl 2 bd)) (P3 Kv) := ok_block 0 (by kernel_rfl) (L5_ok Kv)
theorem Q9 (Kv : VW) : OkT pr false none 13 g5 (L5 (Kt Kv)) (tl 2 bd) (P1 Kv) := ok_seq (by kernel_rfl) (S2_ok Kv) (B8 Kv)
end tocsinref08_trail
def tocsinref08_trail (x_2 : Int) (w : World) (K : tocsinref08_trail.KT) : Prop :=
  tocsinref08_trail.L5 K x_2 (0 : Int) w
def tocsinref08_trail.cl : CL := fun args K w => match args with
  | [.int .u64 x0] => C.tocsinref08_trail x0 w (tocsinref08_trail.Kt K)
  | _ => False
theorem tocsinref08_trail.clok : OkC pr 203 tocsinref08_trail.cl := by
  intro args K w h
  unfold tocsinref08_trail.cl at h
  split at h
  · exact calls_group false mixed tocsinref08_trail.FOk_ tocsinref08_trail.fn rfl 2 (tocsinref08_trail.Q9 K) (Eq.mp (by kernel_rfl) h)
  · exact h.elim
namespace tocsinref02_Low
abbrev KT := Int → World → Prop
def Kt (Kv : VW) : KT := fun n1 w => Kv (.int .u64 n1) w
noncomputable def bd : Code := bdy Tryz.f204
theorem fn : FnOk pr 204 16 Tryz.f204 := ⟨Tryz.func204, by kernel_rfl, Tryz.ntmps204, by kernel_rfl, by kernel_rfl⟩
def F : Clee := ofL []
theorem FOk_ : FOk pr F := FOk_nil
def P1 (Kv : VW) : Post := bodyK false pr 16 Tryz.f204 Kv
end tocsinref02_Low
def tocsinref02_Low (n_2 : Int) (k_3 : Int) (w : World) (K : tocsinref02_Low.KT) : Prop :=
  G.cond (decide (k_3 ≥ (64 : Int))) (K (IntKind.u64.wrap n_2) w) (G.nn (IntKind.u64.wrap k_3) <| K (Go.bits .and .u64 (IntKind.u64.wrap n_2) (IntKind.u64.wrap ((shl .u64 (1 : Int) (IntKind.u64.wrap k_3)) - (1 : Int)))) w)
def tocsinref02_Low.cl : CL := fun args K w => match args with
  | [.int .i64 x0, .int .i64 x1] => C.tocsinref02_Low x0 x1 w (tocsinref02_Low.Kt K)
  | _ => False
theorem tocsinref02_Low.clok : OkC pr 204 tocsinref02_Low.cl := by
  intro args K w h
  unfold tocsinref02_Low.cl at h
  split at h
  · exact calls_last false mixed tocsinref02_Low.FOk_ tocsinref02_Low.fn rfl (Eq.mp (by kernel_rfl) h)
  · exact h.elim
namespace tocsinref08_State_value
abbrev KT := World → Prop
def Kt (Kv : VW) : KT := fun  w => Kv (.tuple #[]) w
noncomputable def bd : Code := bdy Tryz.f186
theorem fn : FnOk pr 186 107 Tryz.f186 := ⟨Tryz.func186, by kernel_rfl, Tryz.ntmps186, by kernel_rfl, by kernel_rfl⟩
def F : Clee := ofL [(185, C.tocsinref02_Stream_Write.cl), (202, C.tocsinref08_lead.cl), (203, C.tocsinref08_trail.cl), (204, C.tocsinref02_Low.cl)]
theorem FOk_ : FOk pr F := FOk_cons C.tocsinref02_Stream_Write.clok (FOk_cons C.tocsinref08_lead.clok (FOk_cons C.tocsinref08_trail.clok (FOk_cons C.tocsinref02_Low.clok (FOk_nil))))
def P1 (Kv : VW) : Post := bodyK false pr 107 Tryz.f186 Kv
@[reducible] def g2 : List SE := [.v 0 .ptr, .v 1 .ptr, .v 6 (.int .u64), .v 7 (.int .i64), .v 8 (.int .i64)]
def S2 (K : KT) (p_10 : Option Addr) (s_11 : Option Addr) (x_12 : Int) (l_13 : Int) (t_14 : Int) (w : World) : Prop :=
  C.tocsinref02_Stream_Write s_11 (1 : Int) (1 : Int) w fun w15 => C.tocsinref02_Stream_Write s_11 (IntKind.u64.wrap l_13) (5 : Int) w15 fun w16 => G.nz (64 : Int) <| C.tocsinref02_Stream_Write s_11 (IntKind.u64.wrap (Int.tmod (IntKind.i64.wrap ((IntKind.i64.wrap ((64 : Int) - l_13)) - t_14)) (64 : Int))) (6 : Int) w16 fun w17 => G.nn (IntKind.u64.wrap t_14) <| C.tocsinref02_Stream_Write s_11 (shr .u64 x_12 (IntKind.u64.wrap t_14)) (IntKind.i64.wrap ((IntKind.i64.wrap ((64 : Int) - l_13)) - t_14)) w17 fun w18 => G.ptr p_10 fun p19 => G.st (p19.add 3) (.int .i64 l_13) w18 fun w20 => G.ptr p_10 fun p21 => G.st (p21.add 4) (.int .i64 t_14) w20 fun w22 => K w22
theorem S2_ok (Kv : VW) : OkT pr false none 107 g2 (S2 (Kt Kv)) (tl 6 bd) (P1 Kv) := ok_last mixed FOk_ fun v ρ w => by kernel_rfl
end tocsinref08_State_value
def tocsinref08_State_value (p_1 : Option Addr) (s_2 : Option Addr) (v_3 : Int) (w : World) (K : tocsinref08_State_value.KT) : Prop :=
  G.ptr p_1 fun p23 => G.cI .u64 (p23.add 2) w fun n24 => G.ptr p_1 fun p25 => G.st (p25.add 2) (.int .u64 v_3) w fun w26 => G.cond ((Go.bits .xor .u64 v_3 n24) == (0 : Int)) (C.tocsinref02_Stream_Write s_2 (0 : Int) (1 : Int) w26 fun w27 => K w27) (C.tocsinref02_Stream_Write s_2 (1 : Int) (1 : Int) w26 fun w28 => C.tocsinref08_lead (Go.bits .xor .u64 v_3 n24) w28 fun n29 w30 => C.tocsinref08_trail (Go.bits .xor .u64 v_3 n24) w30 fun n31 w32 => G.ptr p_1 fun p33 => G.cI .i64 (p33.add 3) w32 fun n34 => G.cond (decide (n34 < (64 : Int))) (G.ptr p_1 fun p35 => G.cI .i64 (p35.add 3) w32 fun n36 => G.cond (decide (n29 ≥ n36)) (G.ptr p_1 fun p37 => G.cI .i64 (p37.add 4) w32 fun n38 => G.cond (decide (n31 ≥ n38)) (G.ptr p_1 fun p39 => G.cI .i64 (p39.add 3) w32.drew fun n40 => G.ptr p_1 fun p41 => G.cI .i64 (p41.add 4) w32.drew fun n42 => C.tocsinref02_Stream_Write s_2 (0 : Int) (1 : Int) w32.drew fun w43 => G.ptr p_1 fun p44 => G.cI .i64 (p44.add 4) w43 fun n45 => G.nn (IntKind.u64.wrap n45) <| C.tocsinref02_Low (IntKind.i64.wrap (shr .u64 (Go.bits .xor .u64 v_3 n24) (IntKind.u64.wrap n45))) (IntKind.i64.wrap ((IntKind.i64.wrap ((64 : Int) - n40)) - n42)) w43 fun n46 w47 => C.tocsinref02_Stream_Write s_2 n46 (IntKind.i64.wrap ((IntKind.i64.wrap ((64 : Int) - n40)) - n42)) w47 fun w48 => K w48) (tocsinref08_State_value.S2 K p_1 s_2 (Go.bits .xor .u64 v_3 n24) n29 n31 w32)) (tocsinref08_State_value.S2 K p_1 s_2 (Go.bits .xor .u64 v_3 n24) n29 n31 w32)) (tocsinref08_State_value.S2 K p_1 s_2 (Go.bits .xor .u64 v_3 n24) n29 n31 w32))
def tocsinref08_State_value.cl : CL := fun args K w => match args with
  | [.pointer x0, .pointer x1, .int .u64 x2] => C.tocsinref08_State_value x0 x1 x2 w (tocsinref08_State_value.Kt K)
  | _ => False
theorem tocsinref08_State_value.clok : OkC pr 186 tocsinref08_State_value.cl := by
  intro args K w h
  unfold tocsinref08_State_value.cl at h
  split at h
  · exact calls_group false mixed tocsinref08_State_value.FOk_ tocsinref08_State_value.fn rfl 6 (tocsinref08_State_value.S2_ok K) (Eq.mp (by kernel_rfl) h)
  · exact h.elim
namespace tocsinref02_In
abbrev KT := Bool → World → Prop
def Kt (Kv : VW) : KT := fun b1 w => Kv (.bool b1) w
noncomputable def bd : Code := bdy Tryz.f205
theorem fn : FnOk pr 205 20 Tryz.f205 := ⟨Tryz.func205, by kernel_rfl, Tryz.ntmps205, by kernel_rfl, by kernel_rfl⟩
def F : Clee := ofL []
theorem FOk_ : FOk pr F := FOk_nil
def P1 (Kv : VW) : Post := bodyK false pr 20 Tryz.f205 Kv
end tocsinref02_In
def tocsinref02_In (n_2 : Int) (k_3 : Int) (w : World) (K : tocsinref02_In.KT) : Prop :=
  G.nn (IntKind.u64.wrap (IntKind.i64.wrap (k_3 - (1 : Int)))) <| G.cond (decide (n_2 ≥ (IntKind.i64.wrap (0 - (IntKind.i64.wrap ((shl .i64 (1 : Int) (IntKind.u64.wrap (IntKind.i64.wrap (k_3 - (1 : Int))))) - (1 : Int))))))) (K (decide (n_2 ≤ (shl .i64 (1 : Int) (IntKind.u64.wrap (IntKind.i64.wrap (k_3 - (1 : Int))))))) w) (K false w)
def tocsinref02_In.cl : CL := fun args K w => match args with
  | [.int .i64 x0, .int .i64 x1] => C.tocsinref02_In x0 x1 w (tocsinref02_In.Kt K)
  | _ => False
theorem tocsinref02_In.clok : OkC pr 205 tocsinref02_In.cl := by
  intro args K w h
  unfold tocsinref02_In.cl at h
  split at h
  · exact calls_last false mixed tocsinref02_In.FOk_ tocsinref02_In.fn rfl (Eq.mp (by kernel_rfl) h)
  · exact h.elim
namespace tocsinref08_time
abbrev KT := World → Prop
def Kt (Kv : VW) : KT := fun  w => Kv (.tuple #[]) w
noncomputable def bd : Code := bdy Tryz.f187
theorem fn : FnOk pr 187 42 Tryz.f187 := ⟨Tryz.func187, by kernel_rfl, Tryz.ntmps187, by kernel_rfl, by kernel_rfl⟩
def F : Clee := ofL [(185, C.tocsinref02_Stream_Write.cl), (204, C.tocsinref02_Low.cl), (205, C.tocsinref02_In.cl)]
theorem FOk_ : FOk pr F := FOk_cons C.tocsinref02_Stream_Write.clok (FOk_cons C.tocsinref02_Low.clok (FOk_cons C.tocsinref02_In.clok (FOk_nil)))
def P1 (Kv : VW) : Post := bodyK false pr 42 Tryz.f187 Kv
end tocsinref08_time
def tocsinref08_time (s_1 : Option Addr) (d_2 : Int) (w : World) (K : tocsinref08_time.KT) : Prop :=
  G.cond (d_2 == (0 : Int)) (C.tocsinref02_Stream_Write s_1 (0 : Int) (1 : Int) w fun w3 => K w3) (C.tocsinref02_In d_2 (14 : Int) w fun b4 w5 => G.cond b4 (C.tocsinref02_Stream_Write s_1 (2 : Int) (2 : Int) w5 fun w6 => C.tocsinref02_Low d_2 (14 : Int) w6 fun n7 w8 => C.tocsinref02_Stream_Write s_1 n7 (14 : Int) w8 fun w9 => K w9) (C.tocsinref02_In d_2 (17 : Int) w5 fun b10 w11 => G.cond b10 (C.tocsinref02_Stream_Write s_1 (6 : Int) (3 : Int) w11 fun w12 => C.tocsinref02_Low d_2 (17 : Int) w12 fun n13 w14 => C.tocsinref02_Stream_Write s_1 n13 (17 : Int) w14 fun w15 => K w15) (C.tocsinref02_In d_2 (20 : Int) w11 fun b16 w17 => G.cond b16 (C.tocsinref02_Stream_Write s_1 (14 : Int) (4 : Int) w17 fun w18 => C.tocsinref02_Low d_2 (20 : Int) w18 fun n19 w20 => C.tocsinref02_Stream_Write s_1 n19 (20 : Int) w20 fun w21 => K w21) (C.tocsinref02_Stream_Write s_1 (15 : Int) (4 : Int) w17 fun w22 => C.tocsinref02_Stream_Write s_1 (IntKind.u64.wrap d_2) (64 : Int) w22 fun w23 => K w23))))
def tocsinref08_time.cl : CL := fun args K w => match args with
  | [.pointer x0, .int .i64 x1] => C.tocsinref08_time x0 x1 w (tocsinref08_time.Kt K)
  | _ => False
theorem tocsinref08_time.clok : OkC pr 187 tocsinref08_time.cl := by
  intro args K w h
  unfold tocsinref08_time.cl at h
  split at h
  · exact calls_last false mixed tocsinref08_time.FOk_ tocsinref08_time.fn rfl (Eq.mp (by kernel_rfl) h)
  · exact h.elim
namespace tocsinref08_State_Put
abbrev KT := World → Prop
def Kt (Kv : VW) : KT := fun  w => Kv (.tuple #[]) w
noncomputable def bd : Code := bdy Tryz.f152
theorem fn : FnOk pr 152 80 Tryz.f152 := ⟨Tryz.func152, by kernel_rfl, Tryz.ntmps152, by kernel_rfl, by kernel_rfl⟩
def F : Clee := ofL [(55, C.tocsinref01_PutU.cl), (66, C.tocsinref08_Bits.cl), (183, C.tocsinref08_whole.cl), (184, C.tocsinref01_PutI.cl), (185, C.tocsinref02_Stream_Write.cl), (186, C.tocsinref08_State_value.cl), (187, C.tocsinref08_time.cl)]
theorem FOk_ : FOk pr F := FOk_cons C.tocsinref01_PutU.clok (FOk_cons C.tocsinref08_Bits.clok (FOk_cons C.tocsinref08_whole.clok (FOk_cons C.tocsinref01_PutI.clok (FOk_cons C.tocsinref02_Stream_Write.clok (FOk_cons C.tocsinref08_State_value.clok (FOk_cons C.tocsinref08_time.clok (FOk_nil)))))))
def P1 (Kv : VW) : Post := bodyK false pr 80 Tryz.f152 Kv
end tocsinref08_State_Put
def tocsinref08_State_Put (p_1 : Option Addr) (s_2 : Option Addr) (n_3 : Int) (x_4 : Int) (x_5 : Nat) (w : World) (K : tocsinref08_State_Put.KT) : Prop :=
  G.new (.cells #[(.int .i64 x_4), (.float .f64 x_5)] 96) w fun p6 w7 => G.cF .f64 (p6.add 1) w7 fun f8 => C.tocsinref08_Bits f8 w7 fun n9 w10 => G.cond (n_3 == (0 : Int)) (G.cI .i64 p6 w10 fun n11 => C.tocsinref01_PutI nilS n11 w10 fun l12 w13 => C.tocsinref08_whole s_2 l12 w13 fun w14 => C.tocsinref02_Stream_Write s_2 n9 (64 : Int) w14 fun w15 => G.ptr p_1 fun p16 => G.st (p16.add 2) (.int .u64 n9) w15 fun w17 => G.cI .i64 p6 w17 fun n18 => G.ptr p_1 fun p19 => G.st p19 (.int .i64 n18) w17 fun w20 => K w20) (G.cond (n_3 == (1 : Int)) (G.cI .i64 p6 w10.drew fun n21 => G.ptr p_1 fun p22 => G.cI .i64 p22 w10.drew fun n23 => G.ptr p_1 fun p24 => G.st (p24.add 1) (.int .i64 (IntKind.i64.wrap (n21 - n23))) w10.drew fun w25 => G.ptr p_1 fun p26 => G.cI .i64 (p26.add 1) w25 fun n27 => C.tocsinref01_PutU nilS (IntKind.u64.wrap n27) w25 fun l28 w29 => C.tocsinref08_whole s_2 l28 w29 fun w30 => C.tocsinref08_State_value p_1 s_2 n9 w30 fun w31 => G.cI .i64 p6 w31 fun n32 => G.ptr p_1 fun p33 => G.st p33 (.int .i64 n32) w31 fun w34 => K w34) (G.cI .i64 p6 w10.drew fun n35 => G.ptr p_1 fun p36 => G.cI .i64 p36 w10.drew fun n37 => G.ptr p_1 fun p38 => G.cI .i64 (p38.add 1) w10.drew fun n39 => C.tocsinref08_time s_2 (IntKind.i64.wrap ((IntKind.i64.wrap (n35 - n37)) - n39)) w10.drew fun w40 => G.ptr p_1 fun p41 => G.st (p41.add 1) (.int .i64 (IntKind.i64.wrap (n35 - n37))) w40 fun w42 => C.tocsinref08_State_value p_1 s_2 n9 w42 fun w43 => G.cI .i64 p6 w43 fun n44 => G.ptr p_1 fun p45 => G.st p45 (.int .i64 n44) w43 fun w46 => K w46))
def tocsinref08_State_Put.cl : CL := fun args K w => match args with
  | [.pointer x0, .pointer x1, .int .i64 x2, .agg ⟨[.int .i64 x3_0, .float .f64 x3_1]⟩] => C.tocsinref08_State_Put x0 x1 x2 x3_0 x3_1 w (tocsinref08_State_Put.Kt K)
  | _ => False
theorem tocsinref08_State_Put.clok : OkC pr 152 tocsinref08_State_Put.cl := by
  intro args K w h
  unfold tocsinref08_State_Put.cl at h
  split at h
  · exact calls_last false mixed tocsinref08_State_Put.FOk_ tocsinref08_State_Put.fn rfl (Eq.mp (by kernel_rfl) h)
  · exact h.elim
namespace tocsinref02_Stream_Bytes
abbrev KT := Sl → World → Prop
def Kt (Kv : VW) : KT := fun l1 w => Kv l1.v w
noncomputable def bd : Code := bdy Tryz.f153
theorem fn : FnOk pr 153 41 Tryz.f153 := ⟨Tryz.func153, by kernel_rfl, Tryz.ntmps153, by kernel_rfl, by kernel_rfl⟩
def F : Clee := ofL []
theorem FOk_ : FOk pr F := FOk_nil
def P1 (Kv : VW) : Post := bodyK false pr 41 Tryz.f153 Kv
@[reducible] def g2 : List SE := [.v 3 .sl]
def S2 (K : KT) (out_3 : Sl) (w : World) : Prop :=
  K out_3 w
theorem S2_ok (Kv : VW) : OkT pr false none 41 g2 (S2 (Kt Kv)) (s2 (tl 2 bd)) (P1 Kv) := ok_last mixed FOk_ fun v ρ w => by kernel_rfl
def P3 (Kv : VW) : Post := next (get g2 (S2 (Kt Kv))) (P1 Kv)
def P4 (Kv : VW) : Post := inBlock 0 (P3 Kv)
@[reducible] def g5 : List SE := [.v 3 .sl, .v 17 .sl, .v 18 (.int .i64), .v 19 (.int .i64)]
def P6 (Kv : VW) (kc5 : Cur g5) : Post := next (get g5 kc5) (P4 Kv)
def S7 (K : KT) (kc5 : Cur g5) (out_12 : Sl) (l13 : Sl) (n14 : Int) (n15 : Int) (w : World) : Prop :=
  G.cond (decide (n15 < n14)) (G.ix l13.a l13.n n15 1 fun p16 => G.cB p16 w fun b17 => G.cond b17 (G.nz (8 : Int) <| G.nz (8 : Int) <| G.ix out_12.a out_12.n (IntKind.i64.wrap (Int.tdiv n15 (8 : Int))) 1 fun p18 => G.cI .u8 p18 w fun n19 => G.nz (8 : Int) <| G.nn (IntKind.u64.wrap (Int.tmod n15 (8 : Int))) <| G.ix out_12.a out_12.n (IntKind.i64.wrap (Int.tdiv n15 (8 : Int))) 1 fun p20 => G.st p20 (.int .u8 (Go.bits .or .u8 n19 (shr .u8 (128 : Int) (IntKind.u64.wrap (Int.tmod n15 (8 : Int)))))) w fun w21 => kc5 out_12 l13 n14 (IntKind.i64.wrap (n15 + (1 : Int))) w21) (kc5 out_12 l13 n14 (IntKind.i64.wrap (n15 + (1 : Int))) w)) (S2 K out_12 w)
theorem S7_ok (Kv : VW) (kc5 : Cur g5) : OkT pr false none 41 g5 (S7 (Kt Kv) kc5) (lp (blk (tl 1 (s1 (tl 2 bd))))) (P6 Kv kc5) := ok_last mixed FOk_ fun v ρ w => by kernel_rfl
def L5 (K : KT) : Cur g5 := loopC g5 (S7 K)
theorem L5_ok (Kv : VW) : OkT pr false none 41 g5 (L5 (Kt Kv)) (blk (tl 1 (s1 (tl 2 bd)))) (P4 Kv) := ok_loop (B := S7 (Kt Kv)) (by kernel_rfl) fun kc => S7_ok Kv kc
theorem L5_ind {K : KT} {out_4 : Sl} {l5 : Sl} {n6 : Int} {n7 : Int} {w : World} (h : ∀ X : Cur g5, (∀ out_4 l5 n6 n7 w, S7 K X out_4 l5 n6 n7 w → X out_4 l5 n6 n7 w) → X out_4 l5 n6 n7 w) : L5 K out_4 l5 n6 n7 w := fun X hX => h X fun out_4 l5 n6 n7 w hb => hX (out_4, l5, n6, n7, ()) w hb
theorem B8 (Kv : VW) : OkT pr false none 41 g5 (L5 (Kt Kv)) (tl 1 (s1 (tl 2 bd))) (P3 Kv) := ok_block 0 (by kernel_rfl) (L5_ok Kv)
@[reducible] def g9 : List SE := [.v 0 .ptr, .v 3 .sl]
def S9 (K : KT) (s_22 : Option Addr) (out_23 : Sl) (w : World) : Prop :=
  G.ptr s_22 fun p24 => G.cSl p24 w fun l25 => L5 K out_23 l25 ((l25.n : Nat) : Int) (0 : Int) w
theorem S9_ok (Kv : VW) : OkT pr false none 41 g9 (S9 (Kt Kv)) (s1 (tl 2 bd)) (P3 Kv) := ok_group mixed FOk_ 1 (B8 Kv) fun v ρ w => by kernel_rfl
theorem Q10 (Kv : VW) : OkT pr false none 41 g9 (S9 (Kt Kv)) (tl 2 bd) (P1 Kv) := ok_seq (by kernel_rfl) (S2_ok Kv) (S9_ok Kv)
end tocsinref02_Stream_Bytes
def tocsinref02_Stream_Bytes (s_2 : Option Addr) (w : World) (K : tocsinref02_Stream_Bytes.KT) : Prop :=
  G.ptr s_2 fun p26 => G.cSl p26 w fun l27 => G.nz (8 : Int) <| G.runSl pr (Instr.makeSlice 22 (.int .i64 (IntKind.i64.wrap (Int.tdiv (IntKind.i64.wrap (((l27.n : Nat) : Int) + (7 : Int))) (8 : Int)))) (.int .i64 (IntKind.i64.wrap (Int.tdiv (IntKind.i64.wrap (((l27.n : Nat) : Int) + (7 : Int))) (8 : Int))))) w fun l28 w29 => tocsinref02_Stream_Bytes.S9 K s_2 l28 w29
def tocsinref02_Stream_Bytes.cl : CL := fun args K w => match args with
  | [.pointer x0] => C.tocsinref02_Stream_Bytes x0 w (tocsinref02_Stream_Bytes.Kt K)
  | _ => False
theorem tocsinref02_Stream_Bytes.clok : OkC pr 153 tocsinref02_Stream_Bytes.cl := by
  intro args K w h
  unfold tocsinref02_Stream_Bytes.cl at h
  split at h
  · exact calls_group false mixed tocsinref02_Stream_Bytes.FOk_ tocsinref02_Stream_Bytes.fn rfl 2 (tocsinref02_Stream_Bytes.Q10 K) (Eq.mp (by kernel_rfl) h)
  · exact h.elim
namespace tocsinref08_Bytes
abbrev KT := Sl → World → Prop
def Kt (Kv : VW) : KT := fun l1 w => Kv l1.v w
noncomputable def bd : Code := bdy Tryz.f119
theorem fn : FnOk pr 119 37 Tryz.f119 := ⟨Tryz.func119, by kernel_rfl, Tryz.ntmps119, by kernel_rfl, by kernel_rfl⟩
def F : Clee := ofL [(144, C.tocsinref08_New.cl), (152, C.tocsinref08_State_Put.cl), (153, C.tocsinref02_Stream_Bytes.cl)]
theorem FOk_ : FOk pr F := FOk_cons C.tocsinref08_New.clok (FOk_cons C.tocsinref08_State_Put.clok (FOk_cons C.tocsinref02_Stream_Bytes.clok (FOk_nil)))
def P1 (Kv : VW) : Post := bodyK false pr 37 Tryz.f119 Kv
@[reducible] def g2 : List SE := [.v 0 .sl, .v 3 .ptr]
def S2 (K : KT) (l_3 : Sl) (s_4 : Option Addr) (w : World) : Prop :=
  G.nn (8 : Int) <| G.new (.cells #[(.int .u8 (IntKind.u8.wrap (shr .i64 ((l_3.n : Nat) : Int) (8 : Int)))), (.int .u8 (IntKind.u8.wrap ((l_3.n : Nat) : Int)))] 5) w fun p5 w6 => C.tocsinref02_Stream_Bytes s_4 w6 fun l7 w8 => G.runSl pr (Builtin.append_ #[22, 22] 22 #[(Sl.v (⟨some p5, 2, 2⟩ : Sl)), l7.v]) w8 fun l9 w10 => K l9 w10
theorem S2_ok (Kv : VW) : OkT pr false none 37 g2 (S2 (Kt Kv)) (s2 (tl 2 bd)) (P1 Kv) := ok_last mixed FOk_ fun v ρ w => by kernel_rfl
def P3 (Kv : VW) : Post := next (get g2 (S2 (Kt Kv))) (P1 Kv)
def P4 (Kv : VW) : Post := inBlock 0 (P3 Kv)
@[reducible] def g5 : List SE := [.v 0 .sl, .v 3 .ptr, .v 4 .ptr, .v 11 .sl, .v 12 (.int .i64), .v 13 (.int .i64)]
def P6 (Kv : VW) (kc5 : Cur g5) : Post := next (get g5 kc5) (P4 Kv)
def S7 (K : KT) (kc5 : Cur g5) (l_23 : Sl) (s_24 : Option Addr) (p_25 : Option Addr) (l26 : Sl) (n27 : Int) (n28 : Int) (w : World) : Prop :=
  G.cond (decide (n28 < n27)) (G.ix l26.a l26.n n28 2 fun p29 => G.cI .i64 p29 w fun n30 => G.cF .f64 (p29.add 1) w fun f31 => G.new (.cells #[(.int .i64 (0 : Int)), (.float .f64 0)] 96) w fun p32 w33 => G.st p32 (.int .i64 n30) w33 fun w34 => G.st (p32.add 1) (.float .f64 f31) w34 fun w35 => G.cI .i64 p32 w35 fun n36 => G.cF .f64 (p32.add 1) w35 fun f37 => C.tocsinref08_State_Put p_25 s_24 n28 n36 f37 w35 fun w38 => kc5 l_23 s_24 p_25 l26 n27 (IntKind.i64.wrap (n28 + (1 : Int))) w38) (S2 K l_23 s_24 w)
theorem S7_ok (Kv : VW) (kc5 : Cur g5) : OkT pr false none 37 g5 (S7 (Kt Kv) kc5) (lp (blk (tl 1 (s1 (tl 2 bd))))) (P6 Kv kc5) := ok_last mixed FOk_ fun v ρ w => by kernel_rfl
def L5 (K : KT) : Cur g5 := loopC g5 (S7 K)
theorem L5_ok (Kv : VW) : OkT pr false none 37 g5 (L5 (Kt Kv)) (blk (tl 1 (s1 (tl 2 bd)))) (P4 Kv) := ok_loop (B := S7 (Kt Kv)) (by kernel_rfl) fun kc => S7_ok Kv kc
theorem L5_ind {K : KT} {l_11 : Sl} {s_12 : Option Addr} {p_13 : Option Addr} {l14 : Sl} {n15 : Int} {n16 : Int} {w : World} (h : ∀ X : Cur g5, (∀ l_11 s_12 p_13 l14 n15 n16 w, S7 K X l_11 s_12 p_13 l14 n15 n16 w → X l_11 s_12 p_13 l14 n15 n16 w) → X l_11 s_12 p_13 l14 n15 n16 w) : L5 K l_11 s_12 p_13 l14 n15 n16 w := fun X hX => h X fun l_11 s_12 p_13 l14 n15 n16 w hb => hX (l_11, s_12, p_13, l14, n15, n16, ()) w hb
theorem B8 (Kv : VW) : OkT pr false none 37 g5 (L5 (Kt Kv)) (tl 1 (s1 (tl 2 bd))) (P3 Kv) := ok_block 0 (by kernel_rfl) (L5_ok Kv)
@[reducible] def g9 : List SE := [.v 0 .sl, .v 3 .ptr, .v 4 .ptr]
def S9 (K : KT) (l_39 : Sl) (s_40 : Option Addr) (p_41 : Option Addr) (w : World) : Prop :=
  L5 K l_39 s_40 p_41 l_39 ((l_39.n : Nat) : Int) (0 : Int) w
theorem S9_ok (Kv : VW) : OkT pr false none 37 g9 (S9 (Kt Kv)) (s1 (tl 2 bd)) (P3 Kv) := ok_group mixed FOk_ 1 (B8 Kv) fun v ρ w => by kernel_rfl
theorem Q10 (Kv : VW) : OkT pr false none 37 g9 (S9 (Kt Kv)) (tl 2 bd) (P1 Kv) := ok_seq (by kernel_rfl) (S2_ok Kv) (S9_ok Kv)
end tocsinref08_Bytes
def tocsinref08_Bytes (l_2 : Sl) (w : World) (K : tocsinref08_Bytes.KT) : Prop :=
  G.new (.cells #[nilS.v, (.int .i64 (0 : Int))] 201) w fun p42 w43 => C.tocsinref08_New w43 fun p44 w45 => tocsinref08_Bytes.S9 K l_2 (some p42) p44 w45
def tocsinref08_Bytes.cl : CL := fun args K w => match args with
  | [.slice x0_a x0_n x0_c] => C.tocsinref08_Bytes ⟨x0_a, x0_n, x0_c⟩ w (tocsinref08_Bytes.Kt K)
  | _ => False
theorem tocsinref08_Bytes.clok : OkC pr 119 tocsinref08_Bytes.cl := by
  intro args K w h
  unfold tocsinref08_Bytes.cl at h
  split at h
  · exact calls_group false mixed tocsinref08_Bytes.FOk_ tocsinref08_Bytes.fn rfl 2 (tocsinref08_Bytes.Q10 K) (Eq.mp (by kernel_rfl) h)
  · exact h.elim
namespace tocsinref08_Split
abbrev KT := Sl → Int → Int → World → Prop
def Kt (Kv : VW) : KT := fun l1 n2 n3 w => Kv (.tuple #[l1.v, (.int .i64 n2), (.int .i64 n3)]) w
noncomputable def bd : Code := bdy Tryz.f94
theorem fn : FnOk pr 94 64 Tryz.f94 := ⟨Tryz.func94, by kernel_rfl, Tryz.ntmps94, by kernel_rfl, by kernel_rfl⟩
def F : Clee := ofL [(119, C.tocsinref08_Bytes.cl)]
theorem FOk_ : FOk pr F := FOk_cons C.tocsinref08_Bytes.clok (FOk_nil)
def P1 (Kv : VW) : Post := bodyK false pr 64 Tryz.f94 Kv
@[reducible] def g2 : List SE := [.v 7 .sl]
def S2 (K : KT) (out_5 : Sl) (w : World) : Prop :=
  K out_5 (0 : Int) (0 : Int) w
theorem S2_ok (Kv : VW) : OkT pr false none 64 g2 (S2 (Kt Kv)) (s2 (tl 1 (s2 (tl 1 bd)))) (P1 Kv) := ok_last mixed FOk_ fun v ρ w => by kernel_rfl
def P3 (Kv : VW) : Post := next (get g2 (S2 (Kt Kv))) (P1 Kv)
def P4 (Kv : VW) : Post := inBlock 2 (P3 Kv)
@[reducible] def g5 : List SE := [.v 0 .sl, .v 7 .sl, .v 8 (.int .i64)]
def P6 (Kv : VW) (kc5 : Cur g5) : Post := next (get g5 kc5) (P4 Kv)
def S7 (K : KT) (kc5 : Cur g5) (l_12 : Sl) (out_13 : Sl) (from_14 : Int) (w : World) : Prop :=
  G.cond (decide (from_14 < ((l_12.n : Nat) : Int))) (G.cond (decide ((IntKind.i64.wrap (from_14 + (120 : Int))) > ((l_12.n : Nat) : Int))) (G.slc l_12 from_14 ((l_12.n : Nat) : Int) 2 fun l15 => C.tocsinref08_Bytes l15 w fun l16 w17 => G.new (.cells #[l16.v] 22) w17 fun p18 w19 => G.runSl pr (Builtin.append_ #[78, 78] 78 #[out_13.v, (Sl.v (⟨some p18, 1, 1⟩ : Sl))]) w19 fun l20 w21 => kc5 l_12 l20 (IntKind.i64.wrap (from_14 + (120 : Int))) w21) (G.slc l_12 from_14 (IntKind.i64.wrap (from_14 + (120 : Int))) 2 fun l22 => C.tocsinref08_Bytes l22 w fun l23 w24 => G.new (.cells #[l23.v] 22) w24 fun p25 w26 => G.runSl pr (Builtin.append_ #[78, 78] 78 #[out_13.v, (Sl.v (⟨some p25, 1, 1⟩ : Sl))]) w26 fun l27 w28 => kc5 l_12 l27 (IntKind.i64.wrap (from_14 + (120 : Int))) w28)) (S2 K out_13 w)
theorem S7_ok (Kv : VW) (kc5 : Cur g5) : OkT pr false none 64 g5 (S7 (Kt Kv) kc5) (lp (blk (tl 1 (s1 (tl 1 (s2 (tl 1 bd))))))) (P6 Kv kc5) := ok_last mixed FOk_ fun v ρ w => by kernel_rfl
def L5 (K : KT) : Cur g5 := loopC g5 (S7 K)
theorem L5_ok (Kv : VW) : OkT pr false none 64 g5 (L5 (Kt Kv)) (blk (tl 1 (s1 (tl 1 (s2 (tl 1 bd)))))) (P4 Kv) := ok_loop (B := S7 (Kt Kv)) (by kernel_rfl) fun kc => S7_ok Kv kc
theorem L5_ind {K : KT} {l_6 : Sl} {out_7 : Sl} {from_8 : Int} {w : World} (h : ∀ X : Cur g5, (∀ l_6 out_7 from_8 w, S7 K X l_6 out_7 from_8 w → X l_6 out_7 from_8 w) → X l_6 out_7 from_8 w) : L5 K l_6 out_7 from_8 w := fun X hX => h X fun l_6 out_7 from_8 w hb => hX (l_6, out_7, from_8, ()) w hb
theorem B8 (Kv : VW) : OkT pr false none 64 g5 (L5 (Kt Kv)) (tl 1 (s1 (tl 1 (s2 (tl 1 bd))))) (P3 Kv) := ok_block 2 (by kernel_rfl) (L5_ok Kv)
@[reducible] def g9 : List SE := [.v 0 .sl, .v 7 .sl]
def S9 (K : KT) (l_29 : Sl) (out_30 : Sl) (w : World) : Prop :=
  L5 K l_29 out_30 (0 : Int) w
theorem S9_ok (Kv : VW) : OkT pr false none 64 g9 (S9 (Kt Kv)) (s1 (tl 1 (s2 (tl 1 bd)))) (P3 Kv) := ok_group mixed FOk_ 1 (B8 Kv) fun v ρ w => by kernel_rfl
theorem Q10 (Kv : VW) : OkT pr false none 64 g9 (S9 (Kt Kv)) (tl 1 (s2 (tl 1 bd))) (P1 Kv) := ok_seq (by kernel_rfl) (S2_ok Kv) (S9_ok Kv)
@[reducible] def g11 : List SE := [.v 0 .sl]
def S11 (K : KT) (l_31 : Sl) (w : World) : Prop :=
  S9 K l_31 nilS w
theorem S11_ok (Kv : VW) : OkT pr false none 64 g11 (S11 (Kt Kv)) (s2 (tl 1 bd)) (P1 Kv) := ok_group mixed FOk_ 1 (Q10 Kv) fun v ρ w => by kernel_rfl
def P12 (Kv : VW) : Post := next (get g11 (S11 (Kt Kv))) (P1 Kv)
def P13 (Kv : VW) : Post := inBlock 0 (P12 Kv)
@[reducible] def g14 : List SE := [.v 0 .sl, .v 10 .sl, .v 11 (.int .i64), .v 12 (.int .i64)]
def P15 (Kv : VW) (kc14 : Cur g14) : Post := next (get g14 kc14) (P13 Kv)
def S16 (K : KT) (kc14 : Cur g14) (l_40 : Sl) (l41 : Sl) (n42 : Int) (n43 : Int) (w : World) : Prop :=
  G.cond (decide (n43 < n42)) (G.ix l41.a l41.n n43 2 fun p44 => G.cI .i64 p44 w fun n45 => G.cF .f64 (p44.add 1) w fun f46 => G.new (.cells #[(.int .i64 (0 : Int)), (.float .f64 0)] 96) w fun p47 w48 => G.st p47 (.int .i64 n45) w48 fun w49 => G.st (p47.add 1) (.float .f64 f46) w49 fun w50 => G.cI .i64 p47 w50 fun n51 => G.cond (decide (n51 < (0 : Int))) (K nilS (1 : Int) n43 w50) (G.cI .i64 p47 w50 fun n52 => G.cond (decide (n52 > (1125899906842624 : Int))) (K nilS (1 : Int) n43 w50) (G.cond (decide (n43 > (0 : Int))) (G.cI .i64 p47 w50.drew fun n53 => G.ix l_40.a l_40.n (IntKind.i64.wrap (n43 - (1 : Int))) 2 fun p54 => G.cI .i64 p54 w50.drew fun n55 => G.cond (decide (n53 ≤ n55)) (K nilS (90 : Int) n43 w50.drew) (kc14 l_40 l41 n42 (IntKind.i64.wrap (n43 + (1 : Int))) w50.drew)) (kc14 l_40 l41 n42 (IntKind.i64.wrap (n43 + (1 : Int))) w50.drew)))) (S11 K l_40 w)
theorem S16_ok (Kv : VW) (kc14 : Cur g14) : OkT pr false none 64 g14 (S16 (Kt Kv) kc14) (lp (blk (tl 1 (s1 (tl 1 bd))))) (P15 Kv kc14) := ok_last mixed FOk_ fun v ρ w => by kernel_rfl
def L14 (K : KT) : Cur g14 := loopC g14 (S16 K)
theorem L14_ok (Kv : VW) : OkT pr false none 64 g14 (L14 (Kt Kv)) (blk (tl 1 (s1 (tl 1 bd)))) (P13 Kv) := ok_loop (B := S16 (Kt Kv)) (by kernel_rfl) fun kc => S16_ok Kv kc
theorem L14_ind {K : KT} {l_32 : Sl} {l33 : Sl} {n34 : Int} {n35 : Int} {w : World} (h : ∀ X : Cur g14, (∀ l_32 l33 n34 n35 w, S16 K X l_32 l33 n34 n35 w → X l_32 l33 n34 n35 w) → X l_32 l33 n34 n35 w) : L14 K l_32 l33 n34 n35 w := fun X hX => h X fun l_32 l33 n34 n35 w hb => hX (l_32, l33, n34, n35, ()) w hb
theorem B17 (Kv : VW) : OkT pr false none 64 g14 (L14 (Kt Kv)) (tl 1 (s1 (tl 1 bd))) (P12 Kv) := ok_block 0 (by kernel_rfl) (L14_ok Kv)
def S18 (K : KT) (l_56 : Sl) (w : World) : Prop :=
  L14 K l_56 l_56 ((l_56.n : Nat) : Int) (0 : Int) w
theorem S18_ok (Kv : VW) : OkT pr false none 64 g11 (S18 (Kt Kv)) (s1 (tl 1 bd)) (P12 Kv) := ok_group mixed FOk_ 1 (B17 Kv) fun v ρ w => by kernel_rfl
theorem Q19 (Kv : VW) : OkT pr false none 64 g11 (S18 (Kt Kv)) (tl 1 bd) (P1 Kv) := ok_seq (by kernel_rfl) (S11_ok Kv) (S18_ok Kv)
end tocsinref08_Split
def tocsinref08_Split (l_4 : Sl) (w : World) (K : tocsinref08_Split.KT) : Prop :=
  tocsinref08_Split.S18 K l_4 w
def tocsinref08_Split.cl : CL := fun args K w => match args with
  | [.slice x0_a x0_n x0_c] => C.tocsinref08_Split ⟨x0_a, x0_n, x0_c⟩ w (tocsinref08_Split.Kt K)
  | _ => False
theorem tocsinref08_Split.clok : OkC pr 94 tocsinref08_Split.cl := by
  intro args K w h
  unfold tocsinref08_Split.cl at h
  split at h
  · exact calls_group false mixed tocsinref08_Split.FOk_ tocsinref08_Split.fn rfl 1 (tocsinref08_Split.Q19 K) (Eq.mp (by kernel_rfl) h)
  · exact h.elim
namespace tocsinref01_Utf8
abbrev KT := Bool → World → Prop
def Kt (Kv : VW) : KT := fun b1 w => Kv (.bool b1) w
noncomputable def bd : Code := bdy Tryz.f142
theorem fn : FnOk pr 142 98 Tryz.f142 := ⟨Tryz.func142, by kernel_rfl, Tryz.ntmps142, by kernel_rfl, by kernel_rfl⟩
def F : Clee := ofL []
theorem FOk_ : FOk pr F := FOk_nil
def P1 (Kv : VW) : Post := bodyK false pr 98 Tryz.f142 Kv
@[reducible] def g2 : List SE := []
def S2 (K : KT) (w : World) : Prop :=
  K true w
theorem S2_ok (Kv : VW) : OkT pr false none 98 g2 (S2 (Kt Kv)) (s2 (tl 1 bd)) (P1 Kv) := ok_last mixed FOk_ fun v ρ w => by kernel_rfl
def P3 (Kv : VW) : Post := next (get g2 (S2 (Kt Kv))) (P1 Kv)
def P4 (Kv : VW) : Post := inBlock 0 (P3 Kv)
@[reducible] def g5 : List SE := [.v 0 .str, .v 3 (.int .i64)]
def P6 (Kv : VW) (kc5 : Cur g5) : Post := next (get g5 kc5) (P4 Kv)
def P7 (Kv : VW) (kc5 : Cur g5) : Post := inBlock 1 (P6 Kv kc5)
@[reducible] def g8 : List SE := [.v 0 .str, .v 3 (.int .i64), .v 5 (.int .i64), .v 6 (.int .i64), .v 7 (.int .i64)]
def S8 (K : KT) (kc5 : Cur g5) (s_5 : ByteArray) (i_6 : Int) (n_7 : Int) (least_8 : Int) (r_9 : Int) (w : World) : Prop :=
  G.cond (decide (r_9 < least_8)) (K false w) (G.cond (decide (r_9 > (1114111 : Int))) (K false w) (G.cond (decide (r_9 ≥ (55296 : Int))) (G.cond (decide (r_9 < (57344 : Int))) (K false w) (kc5 s_5 (IntKind.i64.wrap ((IntKind.i64.wrap (i_6 + n_7)) + (1 : Int))) w)) (kc5 s_5 (IntKind.i64.wrap ((IntKind.i64.wrap (i_6 + n_7)) + (1 : Int))) w)))
theorem S8_ok (Kv : VW) (kc5 : Cur g5) : OkT pr false none 98 g8 (S8 (Kt Kv) kc5) (s2 (tl 5 (blk (tl 1 (lp (blk (tl 1 (s1 (tl 1 bd))))))))) (P7 Kv kc5) := ok_last mixed FOk_ fun v ρ w => by kernel_rfl
def P9 (Kv : VW) (kc5 : Cur g5) : Post := next (get g8 (S8 (Kt Kv) kc5)) (P7 Kv kc5)
def P10 (Kv : VW) (kc5 : Cur g5) : Post := inBlock 3 (P9 Kv kc5)
@[reducible] def g11 : List SE := [.v 0 .str, .v 3 (.int .i64), .v 5 (.int .i64), .v 6 (.int .i64), .v 7 (.int .i64), .v 8 (.int .i64)]
def P12 (Kv : VW) (kc5 : Cur g5) (kc11 : Cur g11) : Post := next (get g11 kc11) (P10 Kv kc5)
def S13 (K : KT) (kc5 : Cur g5) (kc11 : Cur g11) (s_22 : ByteArray) (i_23 : Int) (n_24 : Int) (least_25 : Int) (r_26 : Int) (k_27 : Int) (w : World) : Prop :=
  G.cond (decide (k_27 ≤ n_24)) (G.cond (decide ((IntKind.i64.wrap (i_23 + k_27)) ≥ ((s_22.size : Nat) : Int))) (K false w) (G.ixS s_22 (IntKind.i64.wrap (i_23 + k_27)) fun n28 => G.cond ((Go.bits .and .u8 n28 (192 : Int)) != (128 : Int)) (K false w) (G.ixS s_22 (IntKind.i64.wrap (i_23 + k_27)) fun n29 => kc11 s_22 i_23 n_24 least_25 (IntKind.i64.wrap ((IntKind.i64.wrap (r_26 * (64 : Int))) + (IntKind.i64.wrap (Go.bits .and .u8 n29 (63 : Int))))) (IntKind.i64.wrap (k_27 + (1 : Int))) w))) (S8 K kc5 s_22 i_23 n_24 least_25 r_26 w)
theorem S13_ok (Kv : VW) (kc5 : Cur g5) (kc11 : Cur g11) : OkT pr false none 98 g11 (S13 (Kt Kv) kc5 kc11) (lp (blk (tl 1 (s1 (tl 5 (blk (tl 1 (lp (blk (tl 1 (s1 (tl 1 bd)))))))))))) (P12 Kv kc5 kc11) := ok_last mixed FOk_ fun v ρ w => by kernel_rfl
def L11 (K : KT) (kc5 : Cur g5) : Cur g11 := loopC g11 (S13 K kc5)
theorem L11_ok (Kv : VW) (kc5 : Cur g5) : OkT pr false none 98 g11 (L11 (Kt Kv) kc5) (blk (tl 1 (s1 (tl 5 (blk (tl 1 (lp (blk (tl 1 (s1 (tl 1 bd))))))))))) (P10 Kv kc5) := ok_loop (B := S13 (Kt Kv) kc5) (by kernel_rfl) fun kc => S13_ok Kv kc5 kc
theorem L11_ind {K : KT} {kc5 : Cur g5} {s_10 : ByteArray} {i_11 : Int} {n_12 : Int} {least_13 : Int} {r_14 : Int} {k_15 : Int} {w : World} (h : ∀ X : Cur g11, (∀ s_10 i_11 n_12 least_13 r_14 k_15 w, S13 K kc5 X s_10 i_11 n_12 least_13 r_14 k_15 w → X s_10 i_11 n_12 least_13 r_14 k_15 w) → X s_10 i_11 n_12 least_13 r_14 k_15 w) : L11 K kc5 s_10 i_11 n_12 least_13 r_14 k_15 w := fun X hX => h X fun s_10 i_11 n_12 least_13 r_14 k_15 w hb => hX (s_10, i_11, n_12, least_13, r_14, k_15, ()) w hb
theorem B14 (Kv : VW) (kc5 : Cur g5) : OkT pr false none 98 g11 (L11 (Kt Kv) kc5) (tl 1 (s1 (tl 5 (blk (tl 1 (lp (blk (tl 1 (s1 (tl 1 bd)))))))))) (P9 Kv kc5) := ok_block 3 (by kernel_rfl) (L11_ok Kv kc5)
def S15 (K : KT) (kc5 : Cur g5) (s_30 : ByteArray) (i_31 : Int) (n_32 : Int) (least_33 : Int) (r_34 : Int) (w : World) : Prop :=
  L11 K kc5 s_30 i_31 n_32 least_33 r_34 (1 : Int) w
theorem S15_ok (Kv : VW) (kc5 : Cur g5) : OkT pr false none 98 g8 (S15 (Kt Kv) kc5) (s1 (tl 5 (blk (tl 1 (lp (blk (tl 1 (s1 (tl 1 bd))))))))) (P9 Kv kc5) := ok_group mixed FOk_ 1 (B14 Kv kc5) fun v ρ w => by kernel_rfl
theorem Q16 (Kv : VW) (kc5 : Cur g5) : OkT pr false none 98 g8 (S15 (Kt Kv) kc5) (tl 5 (blk (tl 1 (lp (blk (tl 1 (s1 (tl 1 bd)))))))) (P7 Kv kc5) := ok_seq (by kernel_rfl) (S8_ok Kv kc5) (S15_ok Kv kc5)
def S17 (K : KT) (kc5 : Cur g5) (s_35 : ByteArray) (i_36 : Int) (w : World) : Prop :=
  G.ixS s_35 i_36 fun n37 => G.cond (decide ((IntKind.i64.wrap n37) < (128 : Int))) (kc5 s_35 (IntKind.i64.wrap (i_36 + (1 : Int))) w) (G.cond (decide ((IntKind.i64.wrap n37) ≥ (194 : Int))) (G.cond (decide ((IntKind.i64.wrap n37) < (224 : Int))) (S15 K kc5 s_35 i_36 (1 : Int) (128 : Int) (Go.bits .and .i64 (IntKind.i64.wrap n37) (31 : Int)) w) (G.cond (decide ((IntKind.i64.wrap n37) ≥ (224 : Int))) (G.cond (decide ((IntKind.i64.wrap n37) < (240 : Int))) (S15 K kc5 s_35 i_36 (2 : Int) (2048 : Int) (Go.bits .and .i64 (IntKind.i64.wrap n37) (15 : Int)) w) (G.cond (decide ((IntKind.i64.wrap n37) ≥ (240 : Int))) (G.cond (decide ((IntKind.i64.wrap n37) < (245 : Int))) (S15 K kc5 s_35 i_36 (3 : Int) (65536 : Int) (Go.bits .and .i64 (IntKind.i64.wrap n37) (7 : Int)) w) (K false w)) (K false w))) (G.cond (decide ((IntKind.i64.wrap n37) ≥ (240 : Int))) (G.cond (decide ((IntKind.i64.wrap n37) < (245 : Int))) (S15 K kc5 s_35 i_36 (3 : Int) (65536 : Int) (Go.bits .and .i64 (IntKind.i64.wrap n37) (7 : Int)) w) (K false w)) (K false w)))) (G.cond (decide ((IntKind.i64.wrap n37) ≥ (224 : Int))) (G.cond (decide ((IntKind.i64.wrap n37) < (240 : Int))) (S15 K kc5 s_35 i_36 (2 : Int) (2048 : Int) (Go.bits .and .i64 (IntKind.i64.wrap n37) (15 : Int)) w) (G.cond (decide ((IntKind.i64.wrap n37) ≥ (240 : Int))) (G.cond (decide ((IntKind.i64.wrap n37) < (245 : Int))) (S15 K kc5 s_35 i_36 (3 : Int) (65536 : Int) (Go.bits .and .i64 (IntKind.i64.wrap n37) (7 : Int)) w) (K false w)) (K false w))) (G.cond (decide ((IntKind.i64.wrap n37) ≥ (240 : Int))) (G.cond (decide ((IntKind.i64.wrap n37) < (245 : Int))) (S15 K kc5 s_35 i_36 (3 : Int) (65536 : Int) (Go.bits .and .i64 (IntKind.i64.wrap n37) (7 : Int)) w) (K false w)) (K false w))))
theorem S17_ok (Kv : VW) (kc5 : Cur g5) : OkT pr false none 98 g5 (S17 (Kt Kv) kc5) (blk (tl 1 (lp (blk (tl 1 (s1 (tl 1 bd))))))) (P7 Kv kc5) := ok_group mixed FOk_ 5 (Q16 Kv kc5) fun v ρ w => by kernel_rfl
theorem B18 (Kv : VW) (kc5 : Cur g5) : OkT pr false none 98 g5 (S17 (Kt Kv) kc5) (tl 1 (lp (blk (tl 1 (s1 (tl 1 bd)))))) (P6 Kv kc5) := ok_block 1 (by kernel_rfl) (S17_ok Kv kc5)
def S19 (K : KT) (kc5 : Cur g5) (s_38 : ByteArray) (i_39 : Int) (w : World) : Prop :=
  G.cond (decide (i_39 < ((s_38.size : Nat) : Int))) (S17 K kc5 s_38 i_39 w) (S2 K w)
theorem S19_ok (Kv : VW) (kc5 : Cur g5) : OkT pr false none 98 g5 (S19 (Kt Kv) kc5) (lp (blk (tl 1 (s1 (tl 1 bd))))) (P6 Kv kc5) := ok_group mixed FOk_ 1 (B18 Kv kc5) fun v ρ w => by kernel_rfl
def L5 (K : KT) : Cur g5 := loopC g5 (S19 K)
theorem L5_ok (Kv : VW) : OkT pr false none 98 g5 (L5 (Kt Kv)) (blk (tl 1 (s1 (tl 1 bd)))) (P4 Kv) := ok_loop (B := S19 (Kt Kv)) (by kernel_rfl) fun kc => S19_ok Kv kc
theorem L5_ind {K : KT} {s_3 : ByteArray} {i_4 : Int} {w : World} (h : ∀ X : Cur g5, (∀ s_3 i_4 w, S19 K X s_3 i_4 w → X s_3 i_4 w) → X s_3 i_4 w) : L5 K s_3 i_4 w := fun X hX => h X fun s_3 i_4 w hb => hX (s_3, i_4, ()) w hb
theorem B20 (Kv : VW) : OkT pr false none 98 g5 (L5 (Kt Kv)) (tl 1 (s1 (tl 1 bd))) (P3 Kv) := ok_block 0 (by kernel_rfl) (L5_ok Kv)
@[reducible] def g21 : List SE := [.v 0 .str]
def S21 (K : KT) (s_40 : ByteArray) (w : World) : Prop :=
  L5 K s_40 (0 : Int) w
theorem S21_ok (Kv : VW) : OkT pr false none 98 g21 (S21 (Kt Kv)) (s1 (tl 1 bd)) (P3 Kv) := ok_group mixed FOk_ 1 (B20 Kv) fun v ρ w => by kernel_rfl
theorem Q22 (Kv : VW) : OkT pr false none 98 g21 (S21 (Kt Kv)) (tl 1 bd) (P1 Kv) := ok_seq (by kernel_rfl) (S2_ok Kv) (S21_ok Kv)
end tocsinref01_Utf8
def tocsinref01_Utf8 (s_2 : ByteArray) (w : World) (K : tocsinref01_Utf8.KT) : Prop :=
  tocsinref01_Utf8.S21 K s_2 w
def tocsinref01_Utf8.cl : CL := fun args K w => match args with
  | [.string x0] => C.tocsinref01_Utf8 x0 w (tocsinref01_Utf8.Kt K)
  | _ => False
theorem tocsinref01_Utf8.clok : OkC pr 142 tocsinref01_Utf8.cl := by
  intro args K w h
  unfold tocsinref01_Utf8.cl at h
  split at h
  · exact calls_group false mixed tocsinref01_Utf8.FOk_ tocsinref01_Utf8.fn rfl 1 (tocsinref01_Utf8.Q22 K) (Eq.mp (by kernel_rfl) h)
  · exact h.elim
namespace tocsinref04_letter
abbrev KT := Bool → World → Prop
def Kt (Kv : VW) : KT := fun b1 w => Kv (.bool b1) w
noncomputable def bd : Code := bdy Tryz.f181
theorem fn : FnOk pr 181 21 Tryz.f181 := ⟨Tryz.func181, by kernel_rfl, Tryz.ntmps181, by kernel_rfl, by kernel_rfl⟩
def F : Clee := ofL []
theorem FOk_ : FOk pr F := FOk_nil
def P1 (Kv : VW) : Post := bodyK false pr 21 Tryz.f181 Kv
end tocsinref04_letter
def tocsinref04_letter (c_2 : Int) (w : World) (K : tocsinref04_letter.KT) : Prop :=
  G.cond (decide (c_2 ≥ (97 : Int))) (G.cond (decide (c_2 ≤ (122 : Int))) (K true w) (G.cond (decide (c_2 ≥ (65 : Int))) (G.cond (decide (c_2 ≤ (90 : Int))) (K true w) (K (c_2 == (95 : Int)) w)) (K (c_2 == (95 : Int)) w))) (G.cond (decide (c_2 ≥ (65 : Int))) (G.cond (decide (c_2 ≤ (90 : Int))) (K true w) (K (c_2 == (95 : Int)) w)) (K (c_2 == (95 : Int)) w))
def tocsinref04_letter.cl : CL := fun args K w => match args with
  | [.int .u8 x0] => C.tocsinref04_letter x0 w (tocsinref04_letter.Kt K)
  | _ => False
theorem tocsinref04_letter.clok : OkC pr 181 tocsinref04_letter.cl := by
  intro args K w h
  unfold tocsinref04_letter.cl at h
  split at h
  · exact calls_last false mixed tocsinref04_letter.FOk_ tocsinref04_letter.fn rfl (Eq.mp (by kernel_rfl) h)
  · exact h.elim
namespace tocsinref04_digit
abbrev KT := Bool → World → Prop
def Kt (Kv : VW) : KT := fun b1 w => Kv (.bool b1) w
noncomputable def bd : Code := bdy Tryz.f182
theorem fn : FnOk pr 182 9 Tryz.f182 := ⟨Tryz.func182, by kernel_rfl, Tryz.ntmps182, by kernel_rfl, by kernel_rfl⟩
def F : Clee := ofL []
theorem FOk_ : FOk pr F := FOk_nil
def P1 (Kv : VW) : Post := bodyK false pr 9 Tryz.f182 Kv
end tocsinref04_digit
def tocsinref04_digit (c_2 : Int) (w : World) (K : tocsinref04_digit.KT) : Prop :=
  G.cond (decide (c_2 ≥ (48 : Int))) (K (decide (c_2 ≤ (57 : Int))) w) (K false w)
def tocsinref04_digit.cl : CL := fun args K w => match args with
  | [.int .u8 x0] => C.tocsinref04_digit x0 w (tocsinref04_digit.Kt K)
  | _ => False
theorem tocsinref04_digit.clok : OkC pr 182 tocsinref04_digit.cl := by
  intro args K w h
  unfold tocsinref04_digit.cl at h
  split at h
  · exact calls_last false mixed tocsinref04_digit.FOk_ tocsinref04_digit.fn rfl (Eq.mp (by kernel_rfl) h)
  · exact h.elim
namespace tocsinref04_Name
abbrev KT := Bool → World → Prop
def Kt (Kv : VW) : KT := fun b1 w => Kv (.bool b1) w
noncomputable def bd : Code := bdy Tryz.f151
theorem fn : FnOk pr 151 33 Tryz.f151 := ⟨Tryz.func151, by kernel_rfl, Tryz.ntmps151, by kernel_rfl, by kernel_rfl⟩
def F : Clee := ofL [(181, C.tocsinref04_letter.cl), (182, C.tocsinref04_digit.cl)]
theorem FOk_ : FOk pr F := FOk_cons C.tocsinref04_letter.clok (FOk_cons C.tocsinref04_digit.clok (FOk_nil))
def P1 (Kv : VW) : Post := bodyK false pr 33 Tryz.f151 Kv
@[reducible] def g2 : List SE := []
def S2 (K : KT) (w : World) : Prop :=
  K true w
theorem S2_ok (Kv : VW) : OkT pr false none 33 g2 (S2 (Kt Kv)) (s2 (tl 2 bd)) (P1 Kv) := ok_last mixed FOk_ fun v ρ w => by kernel_rfl
def P3 (Kv : VW) : Post := next (get g2 (S2 (Kt Kv))) (P1 Kv)
def P4 (Kv : VW) : Post := inBlock 0 (P3 Kv)
@[reducible] def g5 : List SE := [.v 0 .str, .v 12 (.int .i64), .v 13 (.int .i64)]
def P6 (Kv : VW) (kc5 : Cur g5) : Post := next (get g5 kc5) (P4 Kv)
def S7 (K : KT) (kc5 : Cur g5) (s_9 : ByteArray) (n10 : Int) (n11 : Int) (w : World) : Prop :=
  G.cond (decide (n11 < n10)) (G.ixS s_9 n11 fun n12 => C.tocsinref04_letter n12 w fun b13 w14 => G.cond (!b13) (G.cond (n11 == (0 : Int)) (K false w14) (G.ixS s_9 n11 fun n15 => C.tocsinref04_digit n15 w14 fun b16 w17 => G.cond (!b16) (K false w17) (kc5 s_9 n10 (IntKind.i64.wrap (n11 + (1 : Int))) w17))) (kc5 s_9 n10 (IntKind.i64.wrap (n11 + (1 : Int))) w14)) (S2 K w)
theorem S7_ok (Kv : VW) (kc5 : Cur g5) : OkT pr false none 33 g5 (S7 (Kt Kv) kc5) (lp (blk (tl 1 (s1 (tl 2 bd))))) (P6 Kv kc5) := ok_last mixed FOk_ fun v ρ w => by kernel_rfl
def L5 (K : KT) : Cur g5 := loopC g5 (S7 K)
theorem L5_ok (Kv : VW) : OkT pr false none 33 g5 (L5 (Kt Kv)) (blk (tl 1 (s1 (tl 2 bd)))) (P4 Kv) := ok_loop (B := S7 (Kt Kv)) (by kernel_rfl) fun kc => S7_ok Kv kc
theorem L5_ind {K : KT} {s_3 : ByteArray} {n4 : Int} {n5 : Int} {w : World} (h : ∀ X : Cur g5, (∀ s_3 n4 n5 w, S7 K X s_3 n4 n5 w → X s_3 n4 n5 w) → X s_3 n4 n5 w) : L5 K s_3 n4 n5 w := fun X hX => h X fun s_3 n4 n5 w hb => hX (s_3, n4, n5, ()) w hb
theorem B8 (Kv : VW) : OkT pr false none 33 g5 (L5 (Kt Kv)) (tl 1 (s1 (tl 2 bd))) (P3 Kv) := ok_block 0 (by kernel_rfl) (L5_ok Kv)
@[reducible] def g9 : List SE := [.v 0 .str]
def S9 (K : KT) (s_18 : ByteArray) (w : World) : Prop :=
  L5 K s_18 ((s_18.size : Nat) : Int) (0 : Int) w
theorem S9_ok (Kv : VW) : OkT pr false none 33 g9 (S9 (Kt Kv)) (s1 (tl 2 bd)) (P3 Kv) := ok_group mixed FOk_ 1 (B8 Kv) fun v ρ w => by kernel_rfl
theorem Q10 (Kv : VW) : OkT pr false none 33 g9 (S9 (Kt Kv)) (tl 2 bd) (P1 Kv) := ok_seq (by kernel_rfl) (S2_ok Kv) (S9_ok Kv)
end tocsinref04_Name
def tocsinref04_Name (s_2 : ByteArray) (w : World) (K : tocsinref04_Name.KT) : Prop :=
  G.cond (s_2.toList == (⟨#[]⟩ : ByteArray).toList) (K false w) (G.cond (decide (((s_2.size : Nat) : Int) > (64 : Int))) (K false w) (tocsinref04_Name.S9 K s_2 w))
def tocsinref04_Name.cl : CL := fun args K w => match args with
  | [.string x0] => C.tocsinref04_Name x0 w (tocsinref04_Name.Kt K)
  | _ => False
theorem tocsinref04_Name.clok : OkC pr 151 tocsinref04_Name.cl := by
  intro args K w h
  unfold tocsinref04_Name.cl at h
  split at h
  · exact calls_group false mixed tocsinref04_Name.FOk_ tocsinref04_Name.fn rfl 2 (tocsinref04_Name.Q10 K) (Eq.mp (by kernel_rfl) h)
  · exact h.elim
namespace tocsinref04_one
abbrev KT := Int → World → Prop
def Kt (Kv : VW) : KT := fun n1 w => Kv (.int .i64 n1) w
noncomputable def bd : Code := bdy Tryz.f117
theorem fn : FnOk pr 117 22 Tryz.f117 := ⟨Tryz.func117, by kernel_rfl, Tryz.ntmps117, by kernel_rfl, by kernel_rfl⟩
def F : Clee := ofL [(142, C.tocsinref01_Utf8.cl), (151, C.tocsinref04_Name.cl)]
theorem FOk_ : FOk pr F := FOk_cons C.tocsinref01_Utf8.clok (FOk_cons C.tocsinref04_Name.clok (FOk_nil))
def P1 (Kv : VW) : Post := bodyK false pr 22 Tryz.f117 Kv
end tocsinref04_one
def tocsinref04_one (x_2 : ByteArray) (x_3 : ByteArray) (w : World) (K : tocsinref04_one.KT) : Prop :=
  G.new (.cells #[(.string x_2), (.string x_3)] 93) w fun p4 w5 => G.cS p4 w5 fun s6 => C.tocsinref04_Name s6 w5 fun b7 w8 => G.cond (!b7) (K (40 : Int) w8) (G.cS (p4.add 1) w8 fun s9 => G.cond (s9.toList == (⟨#[]⟩ : ByteArray).toList) (K (41 : Int) w8) (G.cS (p4.add 1) w8 fun s10 => G.cond (decide (((s10.size : Nat) : Int) > (256 : Int))) (K (4 : Int) w8) (G.cS (p4.add 1) w8 fun s11 => C.tocsinref01_Utf8 s11 w8 fun b12 w13 => G.cond (!b12) (K (12 : Int) w13) (K (0 : Int) w13))))
def tocsinref04_one.cl : CL := fun args K w => match args with
  | [.agg ⟨[.string x0_0, .string x0_1]⟩] => C.tocsinref04_one x0_0 x0_1 w (tocsinref04_one.Kt K)
  | _ => False
theorem tocsinref04_one.clok : OkC pr 117 tocsinref04_one.cl := by
  intro args K w h
  unfold tocsinref04_one.cl at h
  split at h
  · exact calls_last false mixed tocsinref04_one.FOk_ tocsinref04_one.fn rfl (Eq.mp (by kernel_rfl) h)
  · exact h.elim
namespace tocsinref04_Right
abbrev KT := Int → Int → World → Prop
def Kt (Kv : VW) : KT := fun n1 n2 w => Kv (.tuple #[(.int .i64 n1), (.int .i64 n2)]) w
noncomputable def bd : Code := bdy Tryz.f91
theorem fn : FnOk pr 91 38 Tryz.f91 := ⟨Tryz.func91, by kernel_rfl, Tryz.ntmps91, by kernel_rfl, by kernel_rfl⟩
def F : Clee := ofL [(117, C.tocsinref04_one.cl)]
theorem FOk_ : FOk pr F := FOk_cons C.tocsinref04_one.clok (FOk_nil)
def P1 (Kv : VW) : Post := bodyK false pr 38 Tryz.f91 Kv
@[reducible] def g2 : List SE := []
def S2 (K : KT) (w : World) : Prop :=
  K (0 : Int) (0 : Int) w
theorem S2_ok (Kv : VW) : OkT pr false none 38 g2 (S2 (Kt Kv)) (s2 (tl 2 bd)) (P1 Kv) := ok_last mixed FOk_ fun v ρ w => by kernel_rfl
def P3 (Kv : VW) : Post := next (get g2 (S2 (Kt Kv))) (P1 Kv)
def P4 (Kv : VW) : Post := inBlock 0 (P3 Kv)
@[reducible] def g5 : List SE := [.v 0 .sl, .v 10 .sl, .v 11 (.int .i64), .v 12 (.int .i64)]
def P6 (Kv : VW) (kc5 : Cur g5) : Post := next (get g5 kc5) (P4 Kv)
def S7 (K : KT) (kc5 : Cur g5) (l_12 : Sl) (l13 : Sl) (n14 : Int) (n15 : Int) (w : World) : Prop :=
  G.cond (decide (n15 < n14)) (G.ix l13.a l13.n n15 2 fun p16 => G.cS p16 w fun s17 => G.cS (p16.add 1) w fun s18 => G.new (.cells #[(.string (⟨#[]⟩ : ByteArray)), (.string (⟨#[]⟩ : ByteArray))] 93) w fun p19 w20 => G.st p19 (.string s17) w20 fun w21 => G.st (p19.add 1) (.string s18) w21 fun w22 => G.cS p19 w22 fun s23 => G.cS (p19.add 1) w22 fun s24 => C.tocsinref04_one s23 s24 w22 fun n25 w26 => G.cond (n25 != (0 : Int)) (K n25 n15 w26) (G.cond (decide (n15 > (0 : Int))) (G.ix l_12.a l_12.n (IntKind.i64.wrap (n15 - (1 : Int))) 2 fun p27 => G.cS p27 w26.drew fun s28 => G.cS p19 w26.drew fun s29 => G.cond (!(Op.bytesLess s28.toList s29.toList)) (K (3 : Int) n15 w26.drew) (kc5 l_12 l13 n14 (IntKind.i64.wrap (n15 + (1 : Int))) w26.drew)) (kc5 l_12 l13 n14 (IntKind.i64.wrap (n15 + (1 : Int))) w26.drew))) (S2 K w)
theorem S7_ok (Kv : VW) (kc5 : Cur g5) : OkT pr false none 38 g5 (S7 (Kt Kv) kc5) (lp (blk (tl 1 (s1 (tl 2 bd))))) (P6 Kv kc5) := ok_last mixed FOk_ fun v ρ w => by kernel_rfl
def L5 (K : KT) : Cur g5 := loopC g5 (S7 K)
theorem L5_ok (Kv : VW) : OkT pr false none 38 g5 (L5 (Kt Kv)) (blk (tl 1 (s1 (tl 2 bd)))) (P4 Kv) := ok_loop (B := S7 (Kt Kv)) (by kernel_rfl) fun kc => S7_ok Kv kc
theorem L5_ind {K : KT} {l_4 : Sl} {l5 : Sl} {n6 : Int} {n7 : Int} {w : World} (h : ∀ X : Cur g5, (∀ l_4 l5 n6 n7 w, S7 K X l_4 l5 n6 n7 w → X l_4 l5 n6 n7 w) → X l_4 l5 n6 n7 w) : L5 K l_4 l5 n6 n7 w := fun X hX => h X fun l_4 l5 n6 n7 w hb => hX (l_4, l5, n6, n7, ()) w hb
theorem B8 (Kv : VW) : OkT pr false none 38 g5 (L5 (Kt Kv)) (tl 1 (s1 (tl 2 bd))) (P3 Kv) := ok_block 0 (by kernel_rfl) (L5_ok Kv)
@[reducible] def g9 : List SE := [.v 0 .sl]
def S9 (K : KT) (l_30 : Sl) (w : World) : Prop :=
  L5 K l_30 l_30 ((l_30.n : Nat) : Int) (0 : Int) w
theorem S9_ok (Kv : VW) : OkT pr false none 38 g9 (S9 (Kt Kv)) (s1 (tl 2 bd)) (P3 Kv) := ok_group mixed FOk_ 1 (B8 Kv) fun v ρ w => by kernel_rfl
theorem Q10 (Kv : VW) : OkT pr false none 38 g9 (S9 (Kt Kv)) (tl 2 bd) (P1 Kv) := ok_seq (by kernel_rfl) (S2_ok Kv) (S9_ok Kv)
end tocsinref04_Right
def tocsinref04_Right (l_3 : Sl) (w : World) (K : tocsinref04_Right.KT) : Prop :=
  G.cond (decide (((l_3.n : Nat) : Int) > (16 : Int))) (K (8 : Int) (0 : Int) w) (tocsinref04_Right.S9 K l_3 w)
def tocsinref04_Right.cl : CL := fun args K w => match args with
  | [.slice x0_a x0_n x0_c] => C.tocsinref04_Right ⟨x0_a, x0_n, x0_c⟩ w (tocsinref04_Right.Kt K)
  | _ => False
theorem tocsinref04_Right.clok : OkC pr 91 tocsinref04_Right.cl := by
  intro args K w h
  unfold tocsinref04_Right.cl at h
  split at h
  · exact calls_group false mixed tocsinref04_Right.FOk_ tocsinref04_Right.fn rfl 2 (tocsinref04_Right.Q10 K) (Eq.mp (by kernel_rfl) h)
  · exact h.elim
namespace tocsinref01_PutText
abbrev KT := Sl → World → Prop
def Kt (Kv : VW) : KT := fun l1 w => Kv l1.v w
noncomputable def bd : Code := bdy Tryz.f120
theorem fn : FnOk pr 120 13 Tryz.f120 := ⟨Tryz.func120, by kernel_rfl, Tryz.ntmps120, by kernel_rfl, by kernel_rfl⟩
def F : Clee := ofL [(55, C.tocsinref01_PutU.cl), (92, C.tocsinref01_joined.cl)]
theorem FOk_ : FOk pr F := FOk_cons C.tocsinref01_PutU.clok (FOk_cons C.tocsinref01_joined.clok (FOk_nil))
def P1 (Kv : VW) : Post := bodyK false pr 13 Tryz.f120 Kv
end tocsinref01_PutText
def tocsinref01_PutText (b_2 : Sl) (s_3 : ByteArray) (w : World) (K : tocsinref01_PutText.KT) : Prop :=
  C.tocsinref01_PutU b_2 (IntKind.u64.wrap ((s_3.size : Nat) : Int)) w fun l4 w5 => G.runSl pr (Go.convert 9 22 (.string s_3)) w5 fun l6 w7 => C.tocsinref01_joined l4 l6 w7 fun l8 w9 => K l8 w9
def tocsinref01_PutText.cl : CL := fun args K w => match args with
  | [.slice x0_a x0_n x0_c, .string x1] => C.tocsinref01_PutText ⟨x0_a, x0_n, x0_c⟩ x1 w (tocsinref01_PutText.Kt K)
  | _ => False
theorem tocsinref01_PutText.clok : OkC pr 120 tocsinref01_PutText.cl := by
  intro args K w h
  unfold tocsinref01_PutText.cl at h
  split at h
  · exact calls_last false mixed tocsinref01_PutText.FOk_ tocsinref01_PutText.fn rfl (Eq.mp (by kernel_rfl) h)
  · exact h.elim
namespace tocsinref04_Put
abbrev KT := Sl → Int → World → Prop
def Kt (Kv : VW) : KT := fun l1 n2 w => Kv (.tuple #[l1.v, (.int .i64 n2)]) w
noncomputable def bd : Code := bdy Tryz.f95
theorem fn : FnOk pr 95 39 Tryz.f95 := ⟨Tryz.func95, by kernel_rfl, Tryz.ntmps95, by kernel_rfl, by kernel_rfl⟩
def F : Clee := ofL [(55, C.tocsinref01_PutU.cl), (91, C.tocsinref04_Right.cl), (120, C.tocsinref01_PutText.cl)]
theorem FOk_ : FOk pr F := FOk_cons C.tocsinref01_PutU.clok (FOk_cons C.tocsinref04_Right.clok (FOk_cons C.tocsinref01_PutText.clok (FOk_nil)))
def P1 (Kv : VW) : Post := bodyK false pr 39 Tryz.f95 Kv
@[reducible] def g2 : List SE := [.v 8 .sl]
def S2 (K : KT) (out_7 : Sl) (w : World) : Prop :=
  K out_7 (0 : Int) w
theorem S2_ok (Kv : VW) : OkT pr false none 39 g2 (S2 (Kt Kv)) (s2 (tl 3 bd)) (P1 Kv) := ok_last mixed FOk_ fun v ρ w => by kernel_rfl
def P3 (Kv : VW) : Post := next (get g2 (S2 (Kt Kv))) (P1 Kv)
def P4 (Kv : VW) : Post := inBlock 0 (P3 Kv)
@[reducible] def g5 : List SE := [.v 8 .sl, .v 24 .sl, .v 25 (.int .i64), .v 26 (.int .i64)]
def P6 (Kv : VW) (kc5 : Cur g5) : Post := next (get g5 kc5) (P4 Kv)
def S7 (K : KT) (kc5 : Cur g5) (out_16 : Sl) (l17 : Sl) (n18 : Int) (n19 : Int) (w : World) : Prop :=
  G.cond (decide (n19 < n18)) (G.ix l17.a l17.n n19 2 fun p20 => G.cS p20 w fun s21 => G.cS (p20.add 1) w fun s22 => G.new (.cells #[(.string (⟨#[]⟩ : ByteArray)), (.string (⟨#[]⟩ : ByteArray))] 93) w fun p23 w24 => G.st p23 (.string s21) w24 fun w25 => G.st (p23.add 1) (.string s22) w25 fun w26 => G.cS p23 w26.drew fun s27 => G.cS (p23.add 1) w26.drew fun s28 => C.tocsinref01_PutText out_16 s27 w26.drew fun l29 w30 => sameAt (p23.add 1) 1 w26.drew w30 ∧ (C.tocsinref01_PutText l29 s28 w30 fun l31 w32 => kc5 l31 l17 n18 (IntKind.i64.wrap (n19 + (1 : Int))) w32)) (S2 K out_16 w)
theorem S7_ok (Kv : VW) (kc5 : Cur g5) : OkT pr false none 39 g5 (S7 (Kt Kv) kc5) (lp (blk (tl 1 (s1 (tl 3 bd))))) (P6 Kv kc5) := ok_last mixed FOk_ fun v ρ w => by kernel_rfl
def L5 (K : KT) : Cur g5 := loopC g5 (S7 K)
theorem L5_ok (Kv : VW) : OkT pr false none 39 g5 (L5 (Kt Kv)) (blk (tl 1 (s1 (tl 3 bd)))) (P4 Kv) := ok_loop (B := S7 (Kt Kv)) (by kernel_rfl) fun kc => S7_ok Kv kc
theorem L5_ind {K : KT} {out_8 : Sl} {l9 : Sl} {n10 : Int} {n11 : Int} {w : World} (h : ∀ X : Cur g5, (∀ out_8 l9 n10 n11 w, S7 K X out_8 l9 n10 n11 w → X out_8 l9 n10 n11 w) → X out_8 l9 n10 n11 w) : L5 K out_8 l9 n10 n11 w := fun X hX => h X fun out_8 l9 n10 n11 w hb => hX (out_8, l9, n10, n11, ()) w hb
theorem B8 (Kv : VW) : OkT pr false none 39 g5 (L5 (Kt Kv)) (tl 1 (s1 (tl 3 bd))) (P3 Kv) := ok_block 0 (by kernel_rfl) (L5_ok Kv)
@[reducible] def g9 : List SE := [.v 1 .sl, .v 8 .sl]
def S9 (K : KT) (l_33 : Sl) (out_34 : Sl) (w : World) : Prop :=
  L5 K out_34 l_33 ((l_33.n : Nat) : Int) (0 : Int) w
theorem S9_ok (Kv : VW) : OkT pr false none 39 g9 (S9 (Kt Kv)) (s1 (tl 3 bd)) (P3 Kv) := ok_group mixed FOk_ 1 (B8 Kv) fun v ρ w => by kernel_rfl
theorem Q10 (Kv : VW) : OkT pr false none 39 g9 (S9 (Kt Kv)) (tl 3 bd) (P1 Kv) := ok_seq (by kernel_rfl) (S2_ok Kv) (S9_ok Kv)
end tocsinref04_Put
def tocsinref04_Put (b_3 : Sl) (l_4 : Sl) (w : World) (K : tocsinref04_Put.KT) : Prop :=
  C.tocsinref04_Right l_4 w fun n35 n36 w37 => G.cond (n35 != (0 : Int)) (K nilS n35 w37) (C.tocsinref01_PutU b_3 (IntKind.u64.wrap ((l_4.n : Nat) : Int)) w37 fun l38 w39 => tocsinref04_Put.S9 K l_4 l38 w39)
def tocsinref04_Put.cl : CL := fun args K w => match args with
  | [.slice x0_a x0_n x0_c, .slice x1_a x1_n x1_c] => C.tocsinref04_Put ⟨x0_a, x0_n, x0_c⟩ ⟨x1_a, x1_n, x1_c⟩ w (tocsinref04_Put.Kt K)
  | _ => False
theorem tocsinref04_Put.clok : OkC pr 95 tocsinref04_Put.cl := by
  intro args K w h
  unfold tocsinref04_Put.cl at h
  split at h
  · exact calls_group false mixed tocsinref04_Put.FOk_ tocsinref04_Put.fn rfl 3 (tocsinref04_Put.Q10 K) (Eq.mp (by kernel_rfl) h)
  · exact h.elim
namespace tocsinref10_frame
abbrev KT := Sl → Int → World → Prop
def Kt (Kv : VW) : KT := fun l1 n2 w => Kv (.tuple #[l1.v, (.int .i64 n2)]) w
noncomputable def bd : Code := bdy Tryz.f57
theorem fn : FnOk pr 57 54 Tryz.f57 := ⟨Tryz.func57, by kernel_rfl, Tryz.ntmps57, by kernel_rfl, by kernel_rfl⟩
def F : Clee := ofL [(55, C.tocsinref01_PutU.cl), (94, C.tocsinref08_Split.cl), (95, C.tocsinref04_Put.cl)]
theorem FOk_ : FOk pr F := FOk_cons C.tocsinref01_PutU.clok (FOk_cons C.tocsinref08_Split.clok (FOk_cons C.tocsinref04_Put.clok (FOk_nil)))
def P1 (Kv : VW) : Post := bodyK false pr 54 Tryz.f57 Kv
@[reducible] def g2 : List SE := [.v 7 .sl]
def S2 (K : KT) (b_9 : Sl) (w : World) : Prop :=
  G.cond (decide (((b_9.n : Nat) : Int) > (65536 : Int))) (K nilS (4 : Int) w) (K b_9 (0 : Int) w)
theorem S2_ok (Kv : VW) : OkT pr false none 54 g2 (S2 (Kt Kv)) (s2 (tl 6 bd)) (P1 Kv) := ok_last mixed FOk_ fun v ρ w => by kernel_rfl
def P3 (Kv : VW) : Post := next (get g2 (S2 (Kt Kv))) (P1 Kv)
def P4 (Kv : VW) : Post := inBlock 0 (P3 Kv)
@[reducible] def g5 : List SE := [.v 7 .sl, .v 35 .sl, .v 36 (.int .i64), .v 37 (.int .i64)]
def P6 (Kv : VW) (kc5 : Cur g5) : Post := next (get g5 kc5) (P4 Kv)
def S7 (K : KT) (kc5 : Cur g5) (b_18 : Sl) (l19 : Sl) (n20 : Int) (n21 : Int) (w : World) : Prop :=
  G.cond (decide (n21 < n20)) (G.ix l19.a l19.n n21 1 fun p22 => G.cSl p22 w fun l23 => C.tocsinref01_PutU b_18 (IntKind.u64.wrap ((l23.n : Nat) : Int)) w fun l24 w25 => G.runSl pr (Builtin.append_ #[22, 22] 22 #[l24.v, l23.v]) w25 fun l26 w27 => kc5 l26 l19 n20 (IntKind.i64.wrap (n21 + (1 : Int))) w27) (S2 K b_18 w)
theorem S7_ok (Kv : VW) (kc5 : Cur g5) : OkT pr false none 54 g5 (S7 (Kt Kv) kc5) (lp (blk (tl 1 (s1 (tl 6 bd))))) (P6 Kv kc5) := ok_last mixed FOk_ fun v ρ w => by kernel_rfl
def L5 (K : KT) : Cur g5 := loopC g5 (S7 K)
theorem L5_ok (Kv : VW) : OkT pr false none 54 g5 (L5 (Kt Kv)) (blk (tl 1 (s1 (tl 6 bd)))) (P4 Kv) := ok_loop (B := S7 (Kt Kv)) (by kernel_rfl) fun kc => S7_ok Kv kc
theorem L5_ind {K : KT} {b_10 : Sl} {l11 : Sl} {n12 : Int} {n13 : Int} {w : World} (h : ∀ X : Cur g5, (∀ b_10 l11 n12 n13 w, S7 K X b_10 l11 n12 n13 w → X b_10 l11 n12 n13 w) → X b_10 l11 n12 n13 w) : L5 K b_10 l11 n12 n13 w := fun X hX => h X fun b_10 l11 n12 n13 w hb => hX (b_10, l11, n12, n13, ()) w hb
theorem B8 (Kv : VW) : OkT pr false none 54 g5 (L5 (Kt Kv)) (tl 1 (s1 (tl 6 bd))) (P3 Kv) := ok_block 0 (by kernel_rfl) (L5_ok Kv)
@[reducible] def g9 : List SE := [.v 4 .sl, .v 7 .sl]
def S9 (K : KT) (chunks_28 : Sl) (b_29 : Sl) (w : World) : Prop :=
  L5 K b_29 chunks_28 ((chunks_28.n : Nat) : Int) (0 : Int) w
theorem S9_ok (Kv : VW) : OkT pr false none 54 g9 (S9 (Kt Kv)) (s1 (tl 6 bd)) (P3 Kv) := ok_group mixed FOk_ 1 (B8 Kv) fun v ρ w => by kernel_rfl
theorem Q10 (Kv : VW) : OkT pr false none 54 g9 (S9 (Kt Kv)) (tl 6 bd) (P1 Kv) := ok_seq (by kernel_rfl) (S2_ok Kv) (S9_ok Kv)
end tocsinref10_frame
def tocsinref10_frame (s_3 : Sl) (s_4 : Sl) (w : World) (K : tocsinref10_frame.KT) : Prop :=
  G.new (.cells #[s_3.v, s_4.v] 57) w fun p30 w31 => G.cSl (p30.add 1) w31 fun l32 => C.tocsinref08_Split l32 w31 fun l33 n34 n35 w36 => G.cond (n34 != (0 : Int)) (K nilS n34 w36) (G.cSl p30 w36 fun l37 => C.tocsinref04_Put nilS l37 w36 fun l38 n39 w40 => G.cond (n39 != (0 : Int)) (K nilS n39 w40) (C.tocsinref01_PutU l38 (IntKind.u64.wrap ((l33.n : Nat) : Int)) w40 fun l41 w42 => tocsinref10_frame.S9 K l33 l41 w42))
def tocsinref10_frame.cl : CL := fun args K w => match args with
  | [.agg ⟨[.slice x0_0_a x0_0_n x0_0_c, .slice x0_1_a x0_1_n x0_1_c]⟩] => C.tocsinref10_frame ⟨x0_0_a, x0_0_n, x0_0_c⟩ ⟨x0_1_a, x0_1_n, x0_1_c⟩ w (tocsinref10_frame.Kt K)
  | _ => False
theorem tocsinref10_frame.clok : OkC pr 57 tocsinref10_frame.cl := by
  intro args K w h
  unfold tocsinref10_frame.cl at h
  split at h
  · exact calls_group false mixed tocsinref10_frame.FOk_ tocsinref10_frame.fn rfl 6 (tocsinref10_frame.Q10 K) (Eq.mp (by kernel_rfl) h)
  · exact h.elim
namespace tocsinref10_wrong
abbrev KT := Int → World → Prop
def Kt (Kv : VW) : KT := fun n1 w => Kv (.int .i64 n1) w
noncomputable def bd : Code := bdy Tryz.f54
theorem fn : FnOk pr 54 42 Tryz.f54 := ⟨Tryz.func54, by kernel_rfl, Tryz.ntmps54, by kernel_rfl, by kernel_rfl⟩
def F : Clee := ofL [(28, C.tocsinref04_Same.cl), (57, C.tocsinref10_frame.cl), (91, C.tocsinref04_Right.cl)]
theorem FOk_ : FOk pr F := FOk_cons C.tocsinref04_Same.clok (FOk_cons C.tocsinref10_frame.clok (FOk_cons C.tocsinref04_Right.clok (FOk_nil)))
def P1 (Kv : VW) : Post := bodyK false pr 42 Tryz.f54 Kv
@[reducible] def g2 : List SE := [.v 3 .ptr]
def S2 (K : KT) (s_6 : Option Addr) (w : World) : Prop :=
  G.ptr s_6 fun p7 => G.cSl (p7.add 1) w fun l8 => G.cond (((l8.n : Nat) : Int) == (0 : Int)) (K (5 : Int) w) (G.ptr s_6 fun p9 => G.cSl p9 w fun l10 => G.cSl (p9.add 1) w fun l11 => C.tocsinref10_frame l10 l11 w fun l12 n13 w14 => K n13 w14)
theorem S2_ok (Kv : VW) : OkT pr false none 42 g2 (S2 (Kt Kv)) (s2 (tl 2 bd)) (P1 Kv) := ok_last mixed FOk_ fun v ρ w => by kernel_rfl
def P3 (Kv : VW) : Post := next (get g2 (S2 (Kt Kv))) (P1 Kv)
def P4 (Kv : VW) : Post := inBlock 0 (P3 Kv)
@[reducible] def g5 : List SE := [.v 3 .ptr, .v 20 .sl, .v 21 (.int .i64), .v 22 (.int .i64)]
def P6 (Kv : VW) (kc5 : Cur g5) : Post := next (get g5 kc5) (P4 Kv)
def S7 (K : KT) (kc5 : Cur g5) (s_23 : Option Addr) (l24 : Sl) (n25 : Int) (n26 : Int) (w : World) : Prop :=
  G.cond (decide (n26 < n25)) (G.ix l24.a l24.n n26 2 fun p27 => G.cSl p27 w fun l28 => G.cSl (p27.add 1) w fun l29 => G.new (.cells #[nilS.v, nilS.v] 57) w fun p30 w31 => G.st p30 l28.v w31 fun w32 => G.st (p30.add 1) l29.v w32 fun w33 => G.cSl p30 w33 fun l34 => G.ptr s_23 fun p35 => G.cSl p35 w33 fun l36 => C.tocsinref04_Same l34 l36 w33 fun b37 w38 => G.cond b37 (K (6 : Int) w38) (kc5 s_23 l24 n25 (IntKind.i64.wrap (n26 + (1 : Int))) w38)) (S2 K s_23 w)
theorem S7_ok (Kv : VW) (kc5 : Cur g5) : OkT pr false none 42 g5 (S7 (Kt Kv) kc5) (lp (blk (tl 1 (s1 (tl 2 bd))))) (P6 Kv kc5) := ok_last mixed FOk_ fun v ρ w => by kernel_rfl
def L5 (K : KT) : Cur g5 := loopC g5 (S7 K)
theorem L5_ok (Kv : VW) : OkT pr false none 42 g5 (L5 (Kt Kv)) (blk (tl 1 (s1 (tl 2 bd)))) (P4 Kv) := ok_loop (B := S7 (Kt Kv)) (by kernel_rfl) fun kc => S7_ok Kv kc
theorem L5_ind {K : KT} {s_15 : Option Addr} {l16 : Sl} {n17 : Int} {n18 : Int} {w : World} (h : ∀ X : Cur g5, (∀ s_15 l16 n17 n18 w, S7 K X s_15 l16 n17 n18 w → X s_15 l16 n17 n18 w) → X s_15 l16 n17 n18 w) : L5 K s_15 l16 n17 n18 w := fun X hX => h X fun s_15 l16 n17 n18 w hb => hX (s_15, l16, n17, n18, ()) w hb
theorem B8 (Kv : VW) : OkT pr false none 42 g5 (L5 (Kt Kv)) (tl 1 (s1 (tl 2 bd))) (P3 Kv) := ok_block 0 (by kernel_rfl) (L5_ok Kv)
@[reducible] def g9 : List SE := [.v 0 .sl, .v 3 .ptr]
def S9 (K : KT) (l_39 : Sl) (s_40 : Option Addr) (w : World) : Prop :=
  L5 K s_40 l_39 ((l_39.n : Nat) : Int) (0 : Int) w
theorem S9_ok (Kv : VW) : OkT pr false none 42 g9 (S9 (Kt Kv)) (s1 (tl 2 bd)) (P3 Kv) := ok_group mixed FOk_ 1 (B8 Kv) fun v ρ w => by kernel_rfl
theorem Q10 (Kv : VW) : OkT pr false none 42 g9 (S9 (Kt Kv)) (tl 2 bd) (P1 Kv) := ok_seq (by kernel_rfl) (S2_ok Kv) (S9_ok Kv)
end tocsinref10_wrong
def tocsinref10_wrong (l_2 : Sl) (s_3 : Sl) (s_4 : Sl) (w : World) (K : tocsinref10_wrong.KT) : Prop :=
  G.new (.cells #[s_3.v, s_4.v] 57) w fun p41 w42 => G.cSl p41 w42 fun l43 => C.tocsinref04_Right l43 w42 fun n44 n45 w46 => G.cond (n44 != (0 : Int)) (K n44 w46) (tocsinref10_wrong.S9 K l_2 (some p41) w46)
def tocsinref10_wrong.cl : CL := fun args K w => match args with
  | [.slice x0_a x0_n x0_c, .agg ⟨[.slice x1_0_a x1_0_n x1_0_c, .slice x1_1_a x1_1_n x1_1_c]⟩] => C.tocsinref10_wrong ⟨x0_a, x0_n, x0_c⟩ ⟨x1_0_a, x1_0_n, x1_0_c⟩ ⟨x1_1_a, x1_1_n, x1_1_c⟩ w (tocsinref10_wrong.Kt K)
  | _ => False
theorem tocsinref10_wrong.clok : OkC pr 54 tocsinref10_wrong.cl := by
  intro args K w h
  unfold tocsinref10_wrong.cl at h
  split at h
  · exact calls_group false mixed tocsinref10_wrong.FOk_ tocsinref10_wrong.fn rfl 2 (tocsinref10_wrong.Q10 K) (Eq.mp (by kernel_rfl) h)
  · exact h.elim
namespace tocsinref01_On
abbrev KT := Int → World → Prop
def Kt (Kv : VW) : KT := fun n1 w => Kv (.int .u32 n1) w
noncomputable def bd : Code := bdy Tryz.f118
theorem fn : FnOk pr 118 37 Tryz.f118 := ⟨Tryz.func118, by kernel_rfl, Tryz.ntmps118, by kernel_rfl, by kernel_rfl⟩
def F : Clee := ofL []
theorem FOk_ : FOk pr F := FOk_nil
def P1 (Kv : VW) : Post := bodyK false pr 37 Tryz.f118 Kv
@[reducible] def g2 : List SE := [.v 5 (.int .u32)]
def S2 (K : KT) (r_4 : Int) (w : World) : Prop :=
  K (Go.bits .xor .u32 (notK .u32) r_4) w
theorem S2_ok (Kv : VW) : OkT pr false none 37 g2 (S2 (Kt Kv)) (s2 (tl 2 bd)) (P1 Kv) := ok_last mixed FOk_ fun v ρ w => by kernel_rfl
def P3 (Kv : VW) : Post := next (get g2 (S2 (Kt Kv))) (P1 Kv)
def P4 (Kv : VW) : Post := inBlock 0 (P3 Kv)
@[reducible] def g5 : List SE := [.v 1 .sl, .v 5 (.int .u32), .v 6 (.int .i64)]
def P6 (Kv : VW) (kc5 : Cur g5) : Post := next (get g5 kc5) (P4 Kv)
def S7 (K : KT) (kc5 : Cur g5) (b_8 : Sl) (r_9 : Int) (i_10 : Int) (w : World) : Prop :=
  kc5 b_8 r_9 (IntKind.i64.wrap (i_10 + (1 : Int))) w
theorem S7_ok (Kv : VW) (kc5 : Cur g5) : OkT pr false none 37 g5 (S7 (Kt Kv) kc5) (s2 (tl 1 (lp (blk (tl 1 (s1 (tl 2 bd))))))) (P6 Kv kc5) := ok_last mixed FOk_ fun v ρ w => by kernel_rfl
def P8 (Kv : VW) (kc5 : Cur g5) : Post := next (get g5 (S7 (Kt Kv) kc5)) (P6 Kv kc5)
def P9 (Kv : VW) (kc5 : Cur g5) : Post := inBlock 1 (P8 Kv kc5)
def P10 (Kv : VW) (kc5 : Cur g5) : Post := inBlock 2 (P9 Kv kc5)
@[reducible] def g11 : List SE := [.v 1 .sl, .v 5 (.int .u32), .v 6 (.int .i64), .v 7 (.int .i64)]
def P12 (Kv : VW) (kc5 : Cur g5) (kc11 : Cur g11) : Post := next (get g11 kc11) (P10 Kv kc5)
def S13 (K : KT) (kc5 : Cur g5) (kc11 : Cur g11) (b_19 : Sl) (r_20 : Int) (i_21 : Int) (k_22 : Int) (w : World) : Prop :=
  G.cond (decide (k_22 < (8 : Int))) (G.cond ((Go.bits .and .u32 r_20 (1 : Int)) == (1 : Int)) (G.nn (1 : Int) <| kc11 b_19 (Go.bits .xor .u32 (shr .u32 r_20 (1 : Int)) (2197175160 : Int)) i_21 (IntKind.i64.wrap (k_22 + (1 : Int))) w) (G.nn (1 : Int) <| kc11 b_19 (shr .u32 r_20 (1 : Int)) i_21 (IntKind.i64.wrap (k_22 + (1 : Int))) w)) (S7 K kc5 b_19 r_20 i_21 w)
theorem S13_ok (Kv : VW) (kc5 : Cur g5) (kc11 : Cur g11) : OkT pr false none 37 g11 (S13 (Kt Kv) kc5 kc11) (lp (blk (tl 2 (blk (s1 (tl 1 (lp (blk (tl 1 (s1 (tl 2 bd))))))))))) (P12 Kv kc5 kc11) := ok_last mixed FOk_ fun v ρ w => by kernel_rfl
def L11 (K : KT) (kc5 : Cur g5) : Cur g11 := loopC g11 (S13 K kc5)
theorem L11_ok (Kv : VW) (kc5 : Cur g5) : OkT pr false none 37 g11 (L11 (Kt Kv) kc5) (blk (tl 2 (blk (s1 (tl 1 (lp (blk (tl 1 (s1 (tl 2 bd)))))))))) (P10 Kv kc5) := ok_loop (B := S13 (Kt Kv) kc5) (by kernel_rfl) fun kc => S13_ok Kv kc5 kc
theorem L11_ind {K : KT} {kc5 : Cur g5} {b_11 : Sl} {r_12 : Int} {i_13 : Int} {k_14 : Int} {w : World} (h : ∀ X : Cur g11, (∀ b_11 r_12 i_13 k_14 w, S13 K kc5 X b_11 r_12 i_13 k_14 w → X b_11 r_12 i_13 k_14 w) → X b_11 r_12 i_13 k_14 w) : L11 K kc5 b_11 r_12 i_13 k_14 w := fun X hX => h X fun b_11 r_12 i_13 k_14 w hb => hX (b_11, r_12, i_13, k_14, ()) w hb
theorem B14 (Kv : VW) (kc5 : Cur g5) : OkT pr false none 37 g11 (L11 (Kt Kv) kc5) (tl 2 (blk (s1 (tl 1 (lp (blk (tl 1 (s1 (tl 2 bd))))))))) (P9 Kv kc5) := ok_block 2 (by kernel_rfl) (L11_ok Kv kc5)
def S15 (K : KT) (kc5 : Cur g5) (b_23 : Sl) (r_24 : Int) (i_25 : Int) (w : World) : Prop :=
  G.ix b_23.a b_23.n i_25 1 fun p26 => G.cI .u8 p26 w fun n27 => L11 K kc5 b_23 (Go.bits .xor .u32 r_24 (IntKind.u32.wrap n27)) i_25 (0 : Int) w
theorem S15_ok (Kv : VW) (kc5 : Cur g5) : OkT pr false none 37 g5 (S15 (Kt Kv) kc5) (blk (s1 (tl 1 (lp (blk (tl 1 (s1 (tl 2 bd)))))))) (P9 Kv kc5) := ok_group mixed FOk_ 2 (B14 Kv kc5) fun v ρ w => by kernel_rfl
theorem B16 (Kv : VW) (kc5 : Cur g5) : OkT pr false none 37 g5 (S15 (Kt Kv) kc5) (s1 (tl 1 (lp (blk (tl 1 (s1 (tl 2 bd))))))) (P8 Kv kc5) := ok_block 1 (by kernel_rfl) (S15_ok Kv kc5)
theorem Q17 (Kv : VW) (kc5 : Cur g5) : OkT pr false none 37 g5 (S15 (Kt Kv) kc5) (tl 1 (lp (blk (tl 1 (s1 (tl 2 bd)))))) (P6 Kv kc5) := ok_seq (by kernel_rfl) (S7_ok Kv kc5) (B16 Kv kc5)
def S18 (K : KT) (kc5 : Cur g5) (b_28 : Sl) (r_29 : Int) (i_30 : Int) (w : World) : Prop :=
  G.cond (decide (i_30 < ((b_28.n : Nat) : Int))) (S15 K kc5 b_28 r_29 i_30 w) (S2 K r_29 w)
theorem S18_ok (Kv : VW) (kc5 : Cur g5) : OkT pr false none 37 g5 (S18 (Kt Kv) kc5) (lp (blk (tl 1 (s1 (tl 2 bd))))) (P6 Kv kc5) := ok_group mixed FOk_ 1 (Q17 Kv kc5) fun v ρ w => by kernel_rfl
def L5 (K : KT) : Cur g5 := loopC g5 (S18 K)
theorem L5_ok (Kv : VW) : OkT pr false none 37 g5 (L5 (Kt Kv)) (blk (tl 1 (s1 (tl 2 bd)))) (P4 Kv) := ok_loop (B := S18 (Kt Kv)) (by kernel_rfl) fun kc => S18_ok Kv kc
theorem L5_ind {K : KT} {b_5 : Sl} {r_6 : Int} {i_7 : Int} {w : World} (h : ∀ X : Cur g5, (∀ b_5 r_6 i_7 w, S18 K X b_5 r_6 i_7 w → X b_5 r_6 i_7 w) → X b_5 r_6 i_7 w) : L5 K b_5 r_6 i_7 w := fun X hX => h X fun b_5 r_6 i_7 w hb => hX (b_5, r_6, i_7, ()) w hb
theorem B19 (Kv : VW) : OkT pr false none 37 g5 (L5 (Kt Kv)) (tl 1 (s1 (tl 2 bd))) (P3 Kv) := ok_block 0 (by kernel_rfl) (L5_ok Kv)
@[reducible] def g20 : List SE := [.v 1 .sl, .v 5 (.int .u32)]
def S20 (K : KT) (b_31 : Sl) (r_32 : Int) (w : World) : Prop :=
  L5 K b_31 r_32 (0 : Int) w
theorem S20_ok (Kv : VW) : OkT pr false none 37 g20 (S20 (Kt Kv)) (s1 (tl 2 bd)) (P3 Kv) := ok_group mixed FOk_ 1 (B19 Kv) fun v ρ w => by kernel_rfl
theorem Q21 (Kv : VW) : OkT pr false none 37 g20 (S20 (Kt Kv)) (tl 2 bd) (P1 Kv) := ok_seq (by kernel_rfl) (S2_ok Kv) (S20_ok Kv)
end tocsinref01_On
def tocsinref01_On (sum_2 : Int) (b_3 : Sl) (w : World) (K : tocsinref01_On.KT) : Prop :=
  tocsinref01_On.S20 K b_3 (Go.bits .xor .u32 (notK .u32) sum_2) w
def tocsinref01_On.cl : CL := fun args K w => match args with
  | [.int .u32 x0, .slice x1_a x1_n x1_c] => C.tocsinref01_On x0 ⟨x1_a, x1_n, x1_c⟩ w (tocsinref01_On.Kt K)
  | _ => False
theorem tocsinref01_On.clok : OkC pr 118 tocsinref01_On.cl := by
  intro args K w h
  unfold tocsinref01_On.cl at h
  split at h
  · exact calls_group false mixed tocsinref01_On.FOk_ tocsinref01_On.fn rfl 2 (tocsinref01_On.Q21 K) (Eq.mp (by kernel_rfl) h)
  · exact h.elim
namespace tocsinref01_Sum
abbrev KT := Int → World → Prop
def Kt (Kv : VW) : KT := fun n1 w => Kv (.int .u32 n1) w
noncomputable def bd : Code := bdy Tryz.f93
theorem fn : FnOk pr 93 5 Tryz.f93 := ⟨Tryz.func93, by kernel_rfl, Tryz.ntmps93, by kernel_rfl, by kernel_rfl⟩
def F : Clee := ofL [(118, C.tocsinref01_On.cl)]
theorem FOk_ : FOk pr F := FOk_cons C.tocsinref01_On.clok (FOk_nil)
def P1 (Kv : VW) : Post := bodyK false pr 5 Tryz.f93 Kv
end tocsinref01_Sum
def tocsinref01_Sum (b_2 : Sl) (w : World) (K : tocsinref01_Sum.KT) : Prop :=
  C.tocsinref01_On (0 : Int) b_2 w fun n3 w4 => K n3 w4
def tocsinref01_Sum.cl : CL := fun args K w => match args with
  | [.slice x0_a x0_n x0_c] => C.tocsinref01_Sum ⟨x0_a, x0_n, x0_c⟩ w (tocsinref01_Sum.Kt K)
  | _ => False
theorem tocsinref01_Sum.clok : OkC pr 93 tocsinref01_Sum.cl := by
  intro args K w h
  unfold tocsinref01_Sum.cl at h
  split at h
  · exact calls_last false mixed tocsinref01_Sum.FOk_ tocsinref01_Sum.fn rfl (Eq.mp (by kernel_rfl) h)
  · exact h.elim
namespace tocsinref01_PutFrame
abbrev KT := Sl → Int → World → Prop
def Kt (Kv : VW) : KT := fun l1 n2 w => Kv (.tuple #[l1.v, (.int .i64 n2)]) w
noncomputable def bd : Code := bdy Tryz.f56
theorem fn : FnOk pr 56 35 Tryz.f56 := ⟨Tryz.func56, by kernel_rfl, Tryz.ntmps56, by kernel_rfl, by kernel_rfl⟩
def F : Clee := ofL [(55, C.tocsinref01_PutU.cl), (92, C.tocsinref01_joined.cl), (93, C.tocsinref01_Sum.cl)]
theorem FOk_ : FOk pr F := FOk_cons C.tocsinref01_PutU.clok (FOk_cons C.tocsinref01_joined.clok (FOk_cons C.tocsinref01_Sum.clok (FOk_nil)))
def P1 (Kv : VW) : Post := bodyK false pr 35 Tryz.f56 Kv
end tocsinref01_PutFrame
def tocsinref01_PutFrame (b_3 : Sl) (p_4 : Sl) (w : World) (K : tocsinref01_PutFrame.KT) : Prop :=
  G.cond (decide (((p_4.n : Nat) : Int) > (65536 : Int))) (K nilS (4 : Int) w) (C.tocsinref01_Sum p_4 w fun n7 w8 => C.tocsinref01_PutU b_3 (IntKind.u64.wrap ((p_4.n : Nat) : Int)) w8 fun l9 w10 => G.nn (8 : Int) <| G.nn (16 : Int) <| G.nn (24 : Int) <| G.new (.cells #[(.int .u8 (IntKind.u8.wrap n7)), (.int .u8 (IntKind.u8.wrap (shr .u32 n7 (8 : Int)))), (.int .u8 (IntKind.u8.wrap (shr .u32 n7 (16 : Int)))), (.int .u8 (IntKind.u8.wrap (shr .u32 n7 (24 : Int))))] 5) w10 fun p11 w12 => G.runSl pr (Builtin.append_ #[22, 22] 22 #[l9.v, (Sl.v (⟨some p11, 4, 4⟩ : Sl))]) w12 fun l13 w14 => C.tocsinref01_joined l13 p_4 w14 fun l15 w16 => K l15 (0 : Int) w16)
def tocsinref01_PutFrame.cl : CL := fun args K w => match args with
  | [.slice x0_a x0_n x0_c, .slice x1_a x1_n x1_c] => C.tocsinref01_PutFrame ⟨x0_a, x0_n, x0_c⟩ ⟨x1_a, x1_n, x1_c⟩ w (tocsinref01_PutFrame.Kt K)
  | _ => False
theorem tocsinref01_PutFrame.clok : OkC pr 56 tocsinref01_PutFrame.cl := by
  intro args K w h
  unfold tocsinref01_PutFrame.cl at h
  split at h
  · exact calls_last false mixed tocsinref01_PutFrame.FOk_ tocsinref01_PutFrame.fn rfl (Eq.mp (by kernel_rfl) h)
  · exact h.elim
namespace tocsinref10_Build
abbrev KT := Sl → Int → Int → World → Prop
def Kt (Kv : VW) : KT := fun l1 n2 n3 w => Kv (.tuple #[l1.v, (.int .i64 n2), (.int .i64 n3)]) w
noncomputable def bd : Code := bdy Tryz.f18
theorem fn : FnOk pr 18 132 Tryz.f18 := ⟨Tryz.func18, by kernel_rfl, Tryz.ntmps18, by kernel_rfl, by kernel_rfl⟩
def F : Clee := ofL [(19, C.tocsinref10_Sorted.cl), (54, C.tocsinref10_wrong.cl), (55, C.tocsinref01_PutU.cl), (56, C.tocsinref01_PutFrame.cl), (57, C.tocsinref10_frame.cl)]
theorem FOk_ : FOk pr F := FOk_cons C.tocsinref10_Sorted.clok (FOk_cons C.tocsinref10_wrong.clok (FOk_cons C.tocsinref01_PutU.clok (FOk_cons C.tocsinref01_PutFrame.clok (FOk_cons C.tocsinref10_frame.clok (FOk_nil)))))
def P1 (Kv : VW) : Post := bodyK false pr 132 Tryz.f18 Kv
@[reducible] def g2 : List SE := [.v 15 .sl]
def S2 (K : KT) (b_6 : Sl) (w : World) : Prop :=
  K b_6 (0 : Int) (0 : Int) w
theorem S2_ok (Kv : VW) : OkT pr false none 132 g2 (S2 (Kt Kv)) (s2 (tl 1 (s2 (tl 1 (s2 (tl 4 bd)))))) (P1 Kv) := ok_last mixed FOk_ fun v ρ w => by kernel_rfl
def P3 (Kv : VW) : Post := next (get g2 (S2 (Kt Kv))) (P1 Kv)
def P4 (Kv : VW) : Post := inBlock 4 (P3 Kv)
@[reducible] def g5 : List SE := [.v 15 .sl, .v 110 .sl, .v 111 (.int .i64), .v 112 (.int .i64)]
def P6 (Kv : VW) (kc5 : Cur g5) : Post := next (get g5 kc5) (P4 Kv)
def S7 (K : KT) (kc5 : Cur g5) (b_15 : Sl) (l16 : Sl) (n17 : Int) (n18 : Int) (w : World) : Prop :=
  G.cond (decide (n18 < n17)) (G.ix l16.a l16.n n18 2 fun p19 => G.cSl p19 w fun l20 => G.cSl (p19.add 1) w fun l21 => G.new (.cells #[nilS.v, nilS.v] 57) w fun p22 w23 => G.st p22 l20.v w23 fun w24 => G.st (p22.add 1) l21.v w24 fun w25 => G.cSl p22 w25 fun l26 => G.cSl (p22.add 1) w25 fun l27 => C.tocsinref10_frame l26 l27 w25 fun l28 n29 w30 => C.tocsinref01_PutFrame b_15 l28 w30 fun l31 n32 w33 => G.cond (decide (((l31.n : Nat) : Int) > (1048576 : Int))) (K nilS (4 : Int) (0 : Int) w33) (kc5 l31 l16 n17 (IntKind.i64.wrap (n18 + (1 : Int))) w33)) (S2 K b_15 w)
theorem S7_ok (Kv : VW) (kc5 : Cur g5) : OkT pr false none 132 g5 (S7 (Kt Kv) kc5) (lp (blk (tl 1 (s1 (tl 1 (s2 (tl 1 (s2 (tl 4 bd))))))))) (P6 Kv kc5) := ok_last mixed FOk_ fun v ρ w => by kernel_rfl
def L5 (K : KT) : Cur g5 := loopC g5 (S7 K)
theorem L5_ok (Kv : VW) : OkT pr false none 132 g5 (L5 (Kt Kv)) (blk (tl 1 (s1 (tl 1 (s2 (tl 1 (s2 (tl 4 bd)))))))) (P4 Kv) := ok_loop (B := S7 (Kt Kv)) (by kernel_rfl) fun kc => S7_ok Kv kc
theorem L5_ind {K : KT} {b_7 : Sl} {l8 : Sl} {n9 : Int} {n10 : Int} {w : World} (h : ∀ X : Cur g5, (∀ b_7 l8 n9 n10 w, S7 K X b_7 l8 n9 n10 w → X b_7 l8 n9 n10 w) → X b_7 l8 n9 n10 w) : L5 K b_7 l8 n9 n10 w := fun X hX => h X fun b_7 l8 n9 n10 w hb => hX (b_7, l8, n9, n10, ()) w hb
theorem B8 (Kv : VW) : OkT pr false none 132 g5 (L5 (Kt Kv)) (tl 1 (s1 (tl 1 (s2 (tl 1 (s2 (tl 4 bd))))))) (P3 Kv) := ok_block 4 (by kernel_rfl) (L5_ok Kv)
@[reducible] def g9 : List SE := [.v 0 .sl, .v 15 .sl]
def S9 (K : KT) (l_34 : Sl) (b_35 : Sl) (w : World) : Prop :=
  C.tocsinref10_Sorted l_34 w fun l36 w37 => L5 K b_35 l36 ((l36.n : Nat) : Int) (0 : Int) w37
theorem S9_ok (Kv : VW) : OkT pr false none 132 g9 (S9 (Kt Kv)) (s1 (tl 1 (s2 (tl 1 (s2 (tl 4 bd)))))) (P3 Kv) := ok_group mixed FOk_ 1 (B8 Kv) fun v ρ w => by kernel_rfl
theorem Q10 (Kv : VW) : OkT pr false none 132 g9 (S9 (Kt Kv)) (tl 1 (s2 (tl 1 (s2 (tl 4 bd))))) (P1 Kv) := ok_seq (by kernel_rfl) (S2_ok Kv) (S9_ok Kv)
@[reducible] def g11 : List SE := [.v 0 .sl, .v 12 .sl]
def S11 (K : KT) (l_38 : Sl) (head_39 : Sl) (w : World) : Prop :=
  G.new (.cells #[(.int .u8 (84 : Int)), (.int .u8 (79 : Int)), (.int .u8 (67 : Int)), (.int .u8 (66 : Int)), (.int .u8 (76 : Int)), (.int .u8 (75 : Int)), (.int .u8 (48 : Int)), (.int .u8 (49 : Int))] 5) w fun p40 w41 => G.runSl pr (Go.convert 22 22 (Sl.v (⟨some p40, 8, 8⟩ : Sl))) w41 fun l42 w43 => C.tocsinref01_PutFrame l42 head_39 w43 fun l44 n45 w46 => S9 K l_38 l44 w46
theorem S11_ok (Kv : VW) : OkT pr false none 132 g11 (S11 (Kt Kv)) (s2 (tl 1 (s2 (tl 4 bd)))) (P1 Kv) := ok_group mixed FOk_ 1 (Q10 Kv) fun v ρ w => by kernel_rfl
def P12 (Kv : VW) : Post := next (get g11 (S11 (Kt Kv))) (P1 Kv)
def P13 (Kv : VW) : Post := inBlock 2 (P12 Kv)
@[reducible] def g14 : List SE := [.v 0 .sl, .v 12 .sl, .v 92 .sl, .v 93 (.int .i64), .v 94 (.int .i64)]
def P15 (Kv : VW) (kc14 : Cur g14) : Post := next (get g14 kc14) (P13 Kv)
def S16 (K : KT) (kc14 : Cur g14) (l_57 : Sl) (head_58 : Sl) (l59 : Sl) (n60 : Int) (n61 : Int) (w : World) : Prop :=
  G.cond (decide (n61 < n60)) (G.ix l59.a l59.n n61 1 fun p62 => G.cI .u64 p62 w fun n63 => C.tocsinref01_PutU head_58 n63 w fun l64 w65 => kc14 l_57 l64 l59 n60 (IntKind.i64.wrap (n61 + (1 : Int))) w65) (S11 K l_57 head_58 w)
theorem S16_ok (Kv : VW) (kc14 : Cur g14) : OkT pr false none 132 g14 (S16 (Kt Kv) kc14) (lp (blk (tl 1 (s1 (tl 1 (s2 (tl 4 bd))))))) (P15 Kv kc14) := ok_last mixed FOk_ fun v ρ w => by kernel_rfl
def L14 (K : KT) : Cur g14 := loopC g14 (S16 K)
theorem L14_ok (Kv : VW) : OkT pr false none 132 g14 (L14 (Kt Kv)) (blk (tl 1 (s1 (tl 1 (s2 (tl 4 bd)))))) (P13 Kv) := ok_loop (B := S16 (Kt Kv)) (by kernel_rfl) fun kc => S16_ok Kv kc
theorem L14_ind {K : KT} {l_47 : Sl} {head_48 : Sl} {l49 : Sl} {n50 : Int} {n51 : Int} {w : World} (h : ∀ X : Cur g14, (∀ l_47 head_48 l49 n50 n51 w, S16 K X l_47 head_48 l49 n50 n51 w → X l_47 head_48 l49 n50 n51 w) → X l_47 head_48 l49 n50 n51 w) : L14 K l_47 head_48 l49 n50 n51 w := fun X hX => h X fun l_47 head_48 l49 n50 n51 w hb => hX (l_47, head_48, l49, n50, n51, ()) w hb
theorem B17 (Kv : VW) : OkT pr false none 132 g14 (L14 (Kt Kv)) (tl 1 (s1 (tl 1 (s2 (tl 4 bd))))) (P12 Kv) := ok_block 2 (by kernel_rfl) (L14_ok Kv)
@[reducible] def g18 : List SE := [.v 0 .sl, .v 5 (.int .i64), .v 6 (.int .i64), .v 7 (.int .i64), .v 12 .sl]
def S18 (K : KT) (l_66 : Sl) (count_67 : Int) (lo_68 : Int) (hi_69 : Int) (head_70 : Sl) (w : World) : Prop :=
  G.new (.cells #[(.int .u64 (IntKind.u64.wrap ((l_66.n : Nat) : Int))), (.int .u64 (IntKind.u64.wrap count_67)), (.int .u64 (IntKind.u64.wrap lo_68)), (.int .u64 (IntKind.u64.wrap hi_69))] 105) w fun p71 w72 => L14 K l_66 head_70 (⟨some p71, 4, 4⟩ : Sl) (((⟨some p71, 4, 4⟩ : Sl).n : Nat) : Int) (0 : Int) w72
theorem S18_ok (Kv : VW) : OkT pr false none 132 g18 (S18 (Kt Kv)) (s1 (tl 1 (s2 (tl 4 bd)))) (P12 Kv) := ok_group mixed FOk_ 1 (B17 Kv) fun v ρ w => by kernel_rfl
theorem Q19 (Kv : VW) : OkT pr false none 132 g18 (S18 (Kt Kv)) (tl 1 (s2 (tl 4 bd))) (P1 Kv) := ok_seq (by kernel_rfl) (S11_ok Kv) (S18_ok Kv)
@[reducible] def g20 : List SE := [.v 0 .sl, .v 5 (.int .i64), .v 6 (.int .i64), .v 7 (.int .i64)]
def S20 (K : KT) (l_73 : Sl) (count_74 : Int) (lo_75 : Int) (hi_76 : Int) (w : World) : Prop :=
  S18 K l_73 count_74 lo_75 hi_76 nilS w
theorem S20_ok (Kv : VW) : OkT pr false none 132 g20 (S20 (Kt Kv)) (s2 (tl 4 bd)) (P1 Kv) := ok_group mixed FOk_ 1 (Q19 Kv) fun v ρ w => by kernel_rfl
def P21 (Kv : VW) : Post := next (get g20 (S20 (Kt Kv))) (P1 Kv)
def P22 (Kv : VW) : Post := inBlock 0 (P21 Kv)
@[reducible] def g23 : List SE := [.v 0 .sl, .v 5 (.int .i64), .v 6 (.int .i64), .v 7 (.int .i64), .v 24 .sl, .v 25 (.int .i64), .v 26 (.int .i64)]
def P24 (Kv : VW) (kc23 : Cur g23) : Post := next (get g23 kc23) (P22 Kv)
def S25 (K : KT) (kc23 : Cur g23) (l_91 : Sl) (count_92 : Int) (lo_93 : Int) (hi_94 : Int) (l95 : Sl) (n96 : Int) (n97 : Int) (w : World) : Prop :=
  G.cond (decide (n97 < n96)) (G.ix l95.a l95.n n97 2 fun p98 => G.cSl p98 w fun l99 => G.cSl (p98.add 1) w fun l100 => G.new (.cells #[nilS.v, nilS.v] 57) w fun p101 w102 => G.st p101 l99.v w102 fun w103 => G.st (p101.add 1) l100.v w103 fun w104 => G.slc l_91 0 n97 2 fun l105 => G.cSl p101 w104.drew fun l106 => G.cSl (p101.add 1) w104.drew fun l107 => C.tocsinref10_wrong l105 l106 l107 w104.drew fun n108 w109 => G.cond (n108 != (0 : Int)) (K nilS n108 n97 w109) (G.cSl (p101.add 1) w109 fun l110 => G.cond (n97 == (0 : Int)) (G.cSl (p101.add 1) w109 fun l111 => G.ix l111.a l111.n (0 : Int) 2 fun p112 => G.cI .i64 p112 w109 fun n113 => G.cond (n97 == (0 : Int)) (G.cSl (p101.add 1) w109 fun l114 => G.ix l114.a l114.n (IntKind.i64.wrap (((l110.n : Nat) : Int) - (1 : Int))) 2 fun p115 => G.cI .i64 p115 w109 fun n116 => kc23 l_91 (IntKind.i64.wrap (count_92 + ((l110.n : Nat) : Int))) n113 n116 l95 n96 (IntKind.i64.wrap (n97 + (1 : Int))) w109) (G.cSl (p101.add 1) w109 fun l117 => G.ix l117.a l117.n (IntKind.i64.wrap (((l110.n : Nat) : Int) - (1 : Int))) 2 fun p118 => G.cI .i64 p118 w109 fun n119 => G.cond (decide (n119 > hi_94)) (G.cSl (p101.add 1) w109 fun l120 => G.ix l120.a l120.n (IntKind.i64.wrap (((l110.n : Nat) : Int) - (1 : Int))) 2 fun p121 => G.cI .i64 p121 w109 fun n122 => kc23 l_91 (IntKind.i64.wrap (count_92 + ((l110.n : Nat) : Int))) n113 n122 l95 n96 (IntKind.i64.wrap (n97 + (1 : Int))) w109) (kc23 l_91 (IntKind.i64.wrap (count_92 + ((l110.n : Nat) : Int))) n113 hi_94 l95 n96 (IntKind.i64.wrap (n97 + (1 : Int))) w109))) (G.cSl (p101.add 1) w109 fun l123 => G.ix l123.a l123.n (0 : Int) 2 fun p124 => G.cI .i64 p124 w109 fun n125 => G.cond (decide (n125 < lo_93)) (G.cSl (p101.add 1) w109 fun l126 => G.ix l126.a l126.n (0 : Int) 2 fun p127 => G.cI .i64 p127 w109 fun n128 => G.cond (n97 == (0 : Int)) (G.cSl (p101.add 1) w109 fun l129 => G.ix l129.a l129.n (IntKind.i64.wrap (((l110.n : Nat) : Int) - (1 : Int))) 2 fun p130 => G.cI .i64 p130 w109 fun n131 => kc23 l_91 (IntKind.i64.wrap (count_92 + ((l110.n : Nat) : Int))) n128 n131 l95 n96 (IntKind.i64.wrap (n97 + (1 : Int))) w109) (G.cSl (p101.add 1) w109 fun l132 => G.ix l132.a l132.n (IntKind.i64.wrap (((l110.n : Nat) : Int) - (1 : Int))) 2 fun p133 => G.cI .i64 p133 w109 fun n134 => G.cond (decide (n134 > hi_94)) (G.cSl (p101.add 1) w109 fun l135 => G.ix l135.a l135.n (IntKind.i64.wrap (((l110.n : Nat) : Int) - (1 : Int))) 2 fun p136 => G.cI .i64 p136 w109 fun n137 => kc23 l_91 (IntKind.i64.wrap (count_92 + ((l110.n : Nat) : Int))) n128 n137 l95 n96 (IntKind.i64.wrap (n97 + (1 : Int))) w109) (kc23 l_91 (IntKind.i64.wrap (count_92 + ((l110.n : Nat) : Int))) n128 hi_94 l95 n96 (IntKind.i64.wrap (n97 + (1 : Int))) w109))) (G.cond (n97 == (0 : Int)) (G.cSl (p101.add 1) w109 fun l138 => G.ix l138.a l138.n (IntKind.i64.wrap (((l110.n : Nat) : Int) - (1 : Int))) 2 fun p139 => G.cI .i64 p139 w109 fun n140 => kc23 l_91 (IntKind.i64.wrap (count_92 + ((l110.n : Nat) : Int))) lo_93 n140 l95 n96 (IntKind.i64.wrap (n97 + (1 : Int))) w109) (G.cSl (p101.add 1) w109 fun l141 => G.ix l141.a l141.n (IntKind.i64.wrap (((l110.n : Nat) : Int) - (1 : Int))) 2 fun p142 => G.cI .i64 p142 w109 fun n143 => G.cond (decide (n143 > hi_94)) (G.cSl (p101.add 1) w109 fun l144 => G.ix l144.a l144.n (IntKind.i64.wrap (((l110.n : Nat) : Int) - (1 : Int))) 2 fun p145 => G.cI .i64 p145 w109 fun n146 => kc23 l_91 (IntKind.i64.wrap (count_92 + ((l110.n : Nat) : Int))) lo_93 n146 l95 n96 (IntKind.i64.wrap (n97 + (1 : Int))) w109) (kc23 l_91 (IntKind.i64.wrap (count_92 + ((l110.n : Nat) : Int))) lo_93 hi_94 l95 n96 (IntKind.i64.wrap (n97 + (1 : Int))) w109)))))) (S20 K l_91 count_92 lo_93 hi_94 w)
theorem S25_ok (Kv : VW) (kc23 : Cur g23) : OkT pr false none 132 g23 (S25 (Kt Kv) kc23) (lp (blk (tl 1 (s1 (tl 4 bd))))) (P24 Kv kc23) := ok_last mixed FOk_ fun v ρ w => by kernel_rfl
def L23 (K : KT) : Cur g23 := loopC g23 (S25 K)
theorem L23_ok (Kv : VW) : OkT pr false none 132 g23 (L23 (Kt Kv)) (blk (tl 1 (s1 (tl 4 bd)))) (P22 Kv) := ok_loop (B := S25 (Kt Kv)) (by kernel_rfl) fun kc => S25_ok Kv kc
theorem L23_ind {K : KT} {l_77 : Sl} {count_78 : Int} {lo_79 : Int} {hi_80 : Int} {l81 : Sl} {n82 : Int} {n83 : Int} {w : World} (h : ∀ X : Cur g23, (∀ l_77 count_78 lo_79 hi_80 l81 n82 n83 w, S25 K X l_77 count_78 lo_79 hi_80 l81 n82 n83 w → X l_77 count_78 lo_79 hi_80 l81 n82 n83 w) → X l_77 count_78 lo_79 hi_80 l81 n82 n83 w) : L23 K l_77 count_78 lo_79 hi_80 l81 n82 n83 w := fun X hX => h X fun l_77 count_78 lo_79 hi_80 l81 n82 n83 w hb => hX (l_77, count_78, lo_79, hi_80, l81, n82, n83, ()) w hb
theorem B26 (Kv : VW) : OkT pr false none 132 g23 (L23 (Kt Kv)) (tl 1 (s1 (tl 4 bd))) (P21 Kv) := ok_block 0 (by kernel_rfl) (L23_ok Kv)
def S27 (K : KT) (l_147 : Sl) (count_148 : Int) (lo_149 : Int) (hi_150 : Int) (w : World) : Prop :=
  L23 K l_147 count_148 lo_149 hi_150 l_147 ((l_147.n : Nat) : Int) (0 : Int) w
theorem S27_ok (Kv : VW) : OkT pr false none 132 g20 (S27 (Kt Kv)) (s1 (tl 4 bd)) (P21 Kv) := ok_group mixed FOk_ 1 (B26 Kv) fun v ρ w => by kernel_rfl
theorem Q28 (Kv : VW) : OkT pr false none 132 g20 (S27 (Kt Kv)) (tl 4 bd) (P1 Kv) := ok_seq (by kernel_rfl) (S20_ok Kv) (S27_ok Kv)
end tocsinref10_Build
def tocsinref10_Build (l_4 : Sl) (w : World) (K : tocsinref10_Build.KT) : Prop :=
  G.cond (decide (((l_4.n : Nat) : Int) > (1000 : Int))) (K nilS (8 : Int) (0 : Int) w) (tocsinref10_Build.S27 K l_4 (0 : Int) (0 : Int) (0 : Int) w)
def tocsinref10_Build.cl : CL := fun args K w => match args with
  | [.slice x0_a x0_n x0_c] => C.tocsinref10_Build ⟨x0_a, x0_n, x0_c⟩ w (tocsinref10_Build.Kt K)
  | _ => False
theorem tocsinref10_Build.clok : OkC pr 18 tocsinref10_Build.cl := by
  intro args K w h
  unfold tocsinref10_Build.cl at h
  split at h
  · exact calls_group false mixed tocsinref10_Build.FOk_ tocsinref10_Build.fn rfl 4 (tocsinref10_Build.Q28 K) (Eq.mp (by kernel_rfl) h)
  · exact h.elim
namespace tocsinlaw10_texts
abbrev KT := Bool → World → Prop
def Kt (Kv : VW) : KT := fun b1 w => Kv (.bool b1) w
noncomputable def bd : Code := bdy Tryz.f20
theorem fn : FnOk pr 20 26 Tryz.f20 := ⟨Tryz.func20, by kernel_rfl, Tryz.ntmps20, by kernel_rfl, by kernel_rfl⟩
def F : Clee := ofL []
theorem FOk_ : FOk pr F := FOk_nil
def P1 (Kv : VW) : Post := bodyK false pr 26 Tryz.f20 Kv
@[reducible] def g2 : List SE := []
def S2 (K : KT) (w : World) : Prop :=
  K true w
theorem S2_ok (Kv : VW) : OkT pr false none 26 g2 (S2 (Kt Kv)) (s2 (tl 2 bd)) (P1 Kv) := ok_last mixed FOk_ fun v ρ w => by kernel_rfl
def P3 (Kv : VW) : Post := next (get g2 (S2 (Kt Kv))) (P1 Kv)
def P4 (Kv : VW) : Post := inBlock 0 (P3 Kv)
@[reducible] def g5 : List SE := [.v 0 .sl, .v 1 .sl, .v 12 (.int .i64), .v 13 (.int .i64)]
def P6 (Kv : VW) (kc5 : Cur g5) : Post := next (get g5 kc5) (P4 Kv)
def S7 (K : KT) (kc5 : Cur g5) (a_12 : Sl) (b_13 : Sl) (n14 : Int) (n15 : Int) (w : World) : Prop :=
  G.cond (decide (n15 < n14)) (G.ix a_12.a a_12.n n15 1 fun p16 => G.cS p16 w.drew fun s17 => G.ix b_13.a b_13.n n15 1 fun p18 => G.cS p18 w.drew fun s19 => G.cond (!(s17.toList == s19.toList)) (K false w.drew) (kc5 a_12 b_13 n14 (IntKind.i64.wrap (n15 + (1 : Int))) w.drew)) (S2 K w)
theorem S7_ok (Kv : VW) (kc5 : Cur g5) : OkT pr false none 26 g5 (S7 (Kt Kv) kc5) (lp (blk (tl 1 (s1 (tl 2 bd))))) (P6 Kv kc5) := ok_last mixed FOk_ fun v ρ w => by kernel_rfl
def L5 (K : KT) : Cur g5 := loopC g5 (S7 K)
theorem L5_ok (Kv : VW) : OkT pr false none 26 g5 (L5 (Kt Kv)) (blk (tl 1 (s1 (tl 2 bd)))) (P4 Kv) := ok_loop (B := S7 (Kt Kv)) (by kernel_rfl) fun kc => S7_ok Kv kc
theorem L5_ind {K : KT} {a_4 : Sl} {b_5 : Sl} {n6 : Int} {n7 : Int} {w : World} (h : ∀ X : Cur g5, (∀ a_4 b_5 n6 n7 w, S7 K X a_4 b_5 n6 n7 w → X a_4 b_5 n6 n7 w) → X a_4 b_5 n6 n7 w) : L5 K a_4 b_5 n6 n7 w := fun X hX => h X fun a_4 b_5 n6 n7 w hb => hX (a_4, b_5, n6, n7, ()) w hb
theorem B8 (Kv : VW) : OkT pr false none 26 g5 (L5 (Kt Kv)) (tl 1 (s1 (tl 2 bd))) (P3 Kv) := ok_block 0 (by kernel_rfl) (L5_ok Kv)
@[reducible] def g9 : List SE := [.v 0 .sl, .v 1 .sl]
def S9 (K : KT) (a_20 : Sl) (b_21 : Sl) (w : World) : Prop :=
  L5 K a_20 b_21 ((a_20.n : Nat) : Int) (0 : Int) w
theorem S9_ok (Kv : VW) : OkT pr false none 26 g9 (S9 (Kt Kv)) (s1 (tl 2 bd)) (P3 Kv) := ok_group mixed FOk_ 1 (B8 Kv) fun v ρ w => by kernel_rfl
theorem Q10 (Kv : VW) : OkT pr false none 26 g9 (S9 (Kt Kv)) (tl 2 bd) (P1 Kv) := ok_seq (by kernel_rfl) (S2_ok Kv) (S9_ok Kv)
end tocsinlaw10_texts
def tocsinlaw10_texts (a_2 : Sl) (b_3 : Sl) (w : World) (K : tocsinlaw10_texts.KT) : Prop :=
  G.cond (((a_2.n : Nat) : Int) != ((b_3.n : Nat) : Int)) (K false w) (tocsinlaw10_texts.S9 K a_2 b_3 w)
def tocsinlaw10_texts.cl : CL := fun args K w => match args with
  | [.slice x0_a x0_n x0_c, .slice x1_a x1_n x1_c] => C.tocsinlaw10_texts ⟨x0_a, x0_n, x0_c⟩ ⟨x1_a, x1_n, x1_c⟩ w (tocsinlaw10_texts.Kt K)
  | _ => False
theorem tocsinlaw10_texts.clok : OkC pr 20 tocsinlaw10_texts.cl := by
  intro args K w h
  unfold tocsinlaw10_texts.cl at h
  split at h
  · exact calls_group false mixed tocsinlaw10_texts.FOk_ tocsinlaw10_texts.fn rfl 2 (tocsinlaw10_texts.Q10 K) (Eq.mp (by kernel_rfl) h)
  · exact h.elim
abbrev slices_Sort_string_string.KT := World → Prop
def slices_Sort_string_string.Kt (Kv : VW) : slices_Sort_string_string.KT := fun w => Kv (.tuple #[]) w
def slices_Sort_string_string (x0 : Sl) (w : World) (K : slices_Sort_string_string.KT) : Prop := Srt.sortS x0 w K
def slices_Sort_string_string.cl : CL := fun args K w => match args with
  | [.slice a n c] => C.slices_Sort_string_string ⟨a, n, c⟩ w (slices_Sort_string_string.Kt K)
  | _ => False
theorem slices_Sort_string_string.clok : OkC pr 97 slices_Sort_string_string.cl := by
  intro args K w h
  unfold slices_Sort_string_string.cl at h
  split at h
  · exact Srt.sortS_ok h
  · exact h.elim
namespace slices_Compact_string_string
abbrev KT := Sl → World → Prop
def Kt (Kv : VW) : KT := fun l1 w => Kv l1.v w
noncomputable def bd : Code := bdy Tryz.f98
theorem fn : FnOk pr 98 61 Tryz.f98 := ⟨Tryz.func98, by kernel_rfl, Tryz.ntmps98, by kernel_rfl, by kernel_rfl⟩
def F : Clee := ofL []
theorem FOk_ : FOk pr F := FOk_nil
def P1 (Kv : VW) : Post := bodyK false pr 61 Tryz.f98 Kv
@[reducible] def g2 : List SE := [.v 0 .sl]
def S2 (K : KT) (s_3 : Sl) (w : World) : Prop :=
  K s_3 w
theorem S2_ok (Kv : VW) : OkT pr false none 61 g2 (S2 (Kt Kv)) (s2 (tl 2 bd)) (P1 Kv) := ok_last mixed FOk_ fun v ρ w => by kernel_rfl
def P3 (Kv : VW) : Post := next (get g2 (S2 (Kt Kv))) (P1 Kv)
def P4 (Kv : VW) : Post := inBlock 0 (P3 Kv)
@[reducible] def g5 : List SE := [.v 0 .sl, .v 3 (.int .i64)]
def P6 (Kv : VW) (kc5 : Cur g5) : Post := next (get g5 kc5) (P4 Kv)
def S7 (K : KT) (kc5 : Cur g5) (s_6 : Sl) (k_7 : Int) (w : World) : Prop :=
  kc5 s_6 (IntKind.i64.wrap (k_7 + (1 : Int))) w
theorem S7_ok (Kv : VW) (kc5 : Cur g5) : OkT pr false none 61 g5 (S7 (Kt Kv) kc5) (s2 (tl 1 (lp (blk (tl 1 (s1 (tl 2 bd))))))) (P6 Kv kc5) := ok_last mixed FOk_ fun v ρ w => by kernel_rfl
def P8 (Kv : VW) (kc5 : Cur g5) : Post := next (get g5 (S7 (Kt Kv) kc5)) (P6 Kv kc5)
def P9 (Kv : VW) (kc5 : Cur g5) : Post := inBlock 1 (P8 Kv kc5)
def S10 (K : KT) (kc5 : Cur g5) (s_8 : Sl) (k_9 : Int) (w : World) : Prop :=
  G.slc s_8 k_9 ((s_8.n : Nat) : Int) 1 fun l10 => G.run pr (Builtin.clear_ #[42] 0 #[l10.v]) w fun v11 w12 => G.slc s_8 0 k_9 1 fun l13 => K l13 w12
theorem S10_ok (Kv : VW) (kc5 : Cur g5) : OkT pr false none 61 g5 (S10 (Kt Kv) kc5) (s2 (tl 1 (c1 (tl 1 (blk (s1 (tl 1 (lp (blk (tl 1 (s1 (tl 2 bd)))))))))))) (P9 Kv kc5) := ok_last mixed FOk_ fun v ρ w => by kernel_rfl
def P11 (Kv : VW) (kc5 : Cur g5) : Post := next (get g5 (S10 (Kt Kv) kc5)) (P9 Kv kc5)
def P12 (Kv : VW) (kc5 : Cur g5) : Post := inBlock 2 (P11 Kv kc5)
@[reducible] def g13 : List SE := [.v 0 .sl, .v 3 (.int .i64), .v 4 .sl, .v 5 (.int .i64)]
def P14 (Kv : VW) (kc5 : Cur g5) (kc13 : Cur g13) : Post := next (get g13 kc13) (P12 Kv kc5)
def S15 (K : KT) (kc5 : Cur g5) (kc13 : Cur g13) (s_22 : Sl) (k_23 : Int) (s2_24 : Sl) (k2_25 : Int) (w : World) : Prop :=
  G.cond (decide (k2_25 < ((s2_24.n : Nat) : Int))) (G.ix s2_24.a s2_24.n k2_25 1 fun p26 => G.cS p26 w.drew fun s27 => G.ix s2_24.a s2_24.n (IntKind.i64.wrap (k2_25 - (1 : Int))) 1 fun p28 => G.cS p28 w.drew fun s29 => G.cond (!(s27.toList == s29.toList)) (G.ix s2_24.a s2_24.n k2_25 1 fun p30 => G.cS p30 w.drew fun s31 => G.ix s_22.a s_22.n k_23 1 fun p32 => G.st p32 (.string s31) w.drew fun w33 => kc13 s_22 (IntKind.i64.wrap (k_23 + (1 : Int))) s2_24 (IntKind.i64.wrap (k2_25 + (1 : Int))) w33) (kc13 s_22 k_23 s2_24 (IntKind.i64.wrap (k2_25 + (1 : Int))) w.drew)) (S10 K kc5 s_22 k_23 w)
theorem S15_ok (Kv : VW) (kc5 : Cur g5) (kc13 : Cur g13) : OkT pr false none 61 g13 (S15 (Kt Kv) kc5 kc13) (lp (blk (tl 1 (s1 (tl 1 (c1 (tl 1 (blk (s1 (tl 1 (lp (blk (tl 1 (s1 (tl 2 bd))))))))))))))) (P14 Kv kc5 kc13) := ok_last mixed FOk_ fun v ρ w => by kernel_rfl
def L13 (K : KT) (kc5 : Cur g5) : Cur g13 := loopC g13 (S15 K kc5)
theorem L13_ok (Kv : VW) (kc5 : Cur g5) : OkT pr false none 61 g13 (L13 (Kt Kv) kc5) (blk (tl 1 (s1 (tl 1 (c1 (tl 1 (blk (s1 (tl 1 (lp (blk (tl 1 (s1 (tl 2 bd)))))))))))))) (P12 Kv kc5) := ok_loop (B := S15 (Kt Kv) kc5) (by kernel_rfl) fun kc => S15_ok Kv kc5 kc
theorem L13_ind {K : KT} {kc5 : Cur g5} {s_14 : Sl} {k_15 : Int} {s2_16 : Sl} {k2_17 : Int} {w : World} (h : ∀ X : Cur g13, (∀ s_14 k_15 s2_16 k2_17 w, S15 K kc5 X s_14 k_15 s2_16 k2_17 w → X s_14 k_15 s2_16 k2_17 w) → X s_14 k_15 s2_16 k2_17 w) : L13 K kc5 s_14 k_15 s2_16 k2_17 w := fun X hX => h X fun s_14 k_15 s2_16 k2_17 w hb => hX (s_14, k_15, s2_16, k2_17, ()) w hb
theorem B16 (Kv : VW) (kc5 : Cur g5) : OkT pr false none 61 g13 (L13 (Kt Kv) kc5) (tl 1 (s1 (tl 1 (c1 (tl 1 (blk (s1 (tl 1 (lp (blk (tl 1 (s1 (tl 2 bd))))))))))))) (P11 Kv kc5) := ok_block 2 (by kernel_rfl) (L13_ok Kv kc5)
@[reducible] def g17 : List SE := [.v 0 .sl, .v 3 (.int .i64), .v 4 .sl]
def S17 (K : KT) (kc5 : Cur g5) (s_34 : Sl) (k_35 : Int) (s2_36 : Sl) (w : World) : Prop :=
  L13 K kc5 s_34 k_35 s2_36 (1 : Int) w
theorem S17_ok (Kv : VW) (kc5 : Cur g5) : OkT pr false none 61 g17 (S17 (Kt Kv) kc5) (s1 (tl 1 (c1 (tl 1 (blk (s1 (tl 1 (lp (blk (tl 1 (s1 (tl 2 bd)))))))))))) (P11 Kv kc5) := ok_group mixed FOk_ 1 (B16 Kv kc5) fun v ρ w => by kernel_rfl
theorem Q18 (Kv : VW) (kc5 : Cur g5) : OkT pr false none 61 g17 (S17 (Kt Kv) kc5) (tl 1 (c1 (tl 1 (blk (s1 (tl 1 (lp (blk (tl 1 (s1 (tl 2 bd))))))))))) (P9 Kv kc5) := ok_seq (by kernel_rfl) (S10_ok Kv kc5) (S17_ok Kv kc5)
@[reducible] def g19 : List SE := [.v 0 .sl, .v 3 (.int .i64), .v 25 .bool]
def S19 (K : KT) (kc5 : Cur g5) (s_37 : Sl) (k_38 : Int) (b39 : Bool) (w : World) : Prop :=
  G.slc s_37 k_38 ((s_37.n : Nat) : Int) 1 fun l40 => S17 K kc5 s_37 k_38 l40 w
theorem S19_ok (Kv : VW) (kc5 : Cur g5) : OkT pr false none 61 g19 (S19 (Kt Kv) kc5) (c1 (tl 1 (blk (s1 (tl 1 (lp (blk (tl 1 (s1 (tl 2 bd)))))))))) (P9 Kv kc5) := ok_group mixed FOk_ 1 (Q18 Kv kc5) fun v ρ w => by kernel_rfl
def S20 (K : KT) (kc5 : Cur g5) (s_41 : Sl) (k_42 : Int) (b43 : Bool) (w : World) : Prop :=
  S7 K kc5 s_41 k_42 w
theorem S20_ok (Kv : VW) (kc5 : Cur g5) : OkT pr false none 61 g19 (S20 (Kt Kv) kc5) (c2 (tl 1 (blk (s1 (tl 1 (lp (blk (tl 1 (s1 (tl 2 bd)))))))))) (P9 Kv kc5) := ok_last mixed FOk_ fun v ρ w => by kernel_rfl
def D21 (K : KT) (kc5 : Cur g5) (s_44 : Sl) (k_45 : Int) (b46 : Bool) (w : World) : Prop :=
  G.cond b46 (S19 K kc5 s_44 k_45 b46 w) (S20 K kc5 s_44 k_45 b46 w)
theorem D21_ok (Kv : VW) (kc5 : Cur g5) : OkT pr false none 61 g19 (D21 (Kt Kv) kc5) (tl 1 (blk (s1 (tl 1 (lp (blk (tl 1 (s1 (tl 2 bd))))))))) (P9 Kv kc5) :=
  ok_cond 25 (fun v => v.2.2.1) (by kernel_rfl) (fun v ρ => by kernel_rfl) (fun v w => by kernel_rfl) (S19_ok Kv kc5) (S20_ok Kv kc5)
def S22 (K : KT) (kc5 : Cur g5) (s_47 : Sl) (k_48 : Int) (w : World) : Prop :=
  G.ix s_47.a s_47.n k_48 1 fun p49 => G.cS p49 w.drew fun s50 => G.ix s_47.a s_47.n (IntKind.i64.wrap (k_48 - (1 : Int))) 1 fun p51 => G.cS p51 w.drew fun s52 => D21 K kc5 s_47 k_48 (s50.toList == s52.toList) w.drew
theorem S22_ok (Kv : VW) (kc5 : Cur g5) : OkT pr false none 61 g5 (S22 (Kt Kv) kc5) (blk (s1 (tl 1 (lp (blk (tl 1 (s1 (tl 2 bd)))))))) (P9 Kv kc5) := ok_group mixed FOk_ 1 (D21_ok Kv kc5) fun v ρ w => by kernel_rfl
theorem B23 (Kv : VW) (kc5 : Cur g5) : OkT pr false none 61 g5 (S22 (Kt Kv) kc5) (s1 (tl 1 (lp (blk (tl 1 (s1 (tl 2 bd))))))) (P8 Kv kc5) := ok_block 1 (by kernel_rfl) (S22_ok Kv kc5)
theorem Q24 (Kv : VW) (kc5 : Cur g5) : OkT pr false none 61 g5 (S22 (Kt Kv) kc5) (tl 1 (lp (blk (tl 1 (s1 (tl 2 bd)))))) (P6 Kv kc5) := ok_seq (by kernel_rfl) (S7_ok Kv kc5) (B23 Kv kc5)
def S25 (K : KT) (kc5 : Cur g5) (s_53 : Sl) (k_54 : Int) (w : World) : Prop :=
  G.cond (decide (k_54 < ((s_53.n : Nat) : Int))) (S22 K kc5 s_53 k_54 w) (S2 K s_53 w)
theorem S25_ok (Kv : VW) (kc5 : Cur g5) : OkT pr false none 61 g5 (S25 (Kt Kv) kc5) (lp (blk (tl 1 (s1 (tl 2 bd))))) (P6 Kv kc5) := ok_group mixed FOk_ 1 (Q24 Kv kc5) fun v ρ w => by kernel_rfl
def L5 (K : KT) : Cur g5 := loopC g5 (S25 K)
theorem L5_ok (Kv : VW) : OkT pr false none 61 g5 (L5 (Kt Kv)) (blk (tl 1 (s1 (tl 2 bd)))) (P4 Kv) := ok_loop (B := S25 (Kt Kv)) (by kernel_rfl) fun kc => S25_ok Kv kc
theorem L5_ind {K : KT} {s_4 : Sl} {k_5 : Int} {w : World} (h : ∀ X : Cur g5, (∀ s_4 k_5 w, S25 K X s_4 k_5 w → X s_4 k_5 w) → X s_4 k_5 w) : L5 K s_4 k_5 w := fun X hX => h X fun s_4 k_5 w hb => hX (s_4, k_5, ()) w hb
theorem B26 (Kv : VW) : OkT pr false none 61 g5 (L5 (Kt Kv)) (tl 1 (s1 (tl 2 bd))) (P3 Kv) := ok_block 0 (by kernel_rfl) (L5_ok Kv)
def S27 (K : KT) (s_55 : Sl) (w : World) : Prop :=
  L5 K s_55 (1 : Int) w
theorem S27_ok (Kv : VW) : OkT pr false none 61 g2 (S27 (Kt Kv)) (s1 (tl 2 bd)) (P3 Kv) := ok_group mixed FOk_ 1 (B26 Kv) fun v ρ w => by kernel_rfl
theorem Q28 (Kv : VW) : OkT pr false none 61 g2 (S27 (Kt Kv)) (tl 2 bd) (P1 Kv) := ok_seq (by kernel_rfl) (S2_ok Kv) (S27_ok Kv)
end slices_Compact_string_string
def slices_Compact_string_string (s_2 : Sl) (w : World) (K : slices_Compact_string_string.KT) : Prop :=
  G.cond (decide (((s_2.n : Nat) : Int) < (2 : Int))) (K s_2 w) (slices_Compact_string_string.S27 K s_2 w)
def slices_Compact_string_string.cl : CL := fun args K w => match args with
  | [.slice x0_a x0_n x0_c] => C.slices_Compact_string_string ⟨x0_a, x0_n, x0_c⟩ w (slices_Compact_string_string.Kt K)
  | _ => False
theorem slices_Compact_string_string.clok : OkC pr 98 slices_Compact_string_string.cl := by
  intro args K w h
  unfold slices_Compact_string_string.cl at h
  split at h
  · exact calls_group false mixed slices_Compact_string_string.FOk_ slices_Compact_string_string.fn rfl 2 (slices_Compact_string_string.Q28 K) (Eq.mp (by kernel_rfl) h)
  · exact h.elim
namespace block_unique
abbrev KT := Sl → World → Prop
def Kt (Kv : VW) : KT := fun l1 w => Kv l1.v w
noncomputable def bd : Code := bdy Tryz.f59
theorem fn : FnOk pr 59 7 Tryz.f59 := ⟨Tryz.func59, by kernel_rfl, Tryz.ntmps59, by kernel_rfl, by kernel_rfl⟩
def F : Clee := ofL [(97, C.slices_Sort_string_string.cl), (98, C.slices_Compact_string_string.cl)]
theorem FOk_ : FOk pr F := FOk_cons C.slices_Sort_string_string.clok (FOk_cons C.slices_Compact_string_string.clok (FOk_nil))
def P1 (Kv : VW) : Post := bodyK false pr 7 Tryz.f59 Kv
end block_unique
def block_unique (l_2 : Sl) (w : World) (K : block_unique.KT) : Prop :=
  C.slices_Sort_string_string l_2 w fun w3 => C.slices_Compact_string_string l_2 w3 fun l4 w5 => K l4 w5
def block_unique.cl : CL := fun args K w => match args with
  | [.slice x0_a x0_n x0_c] => C.block_unique ⟨x0_a, x0_n, x0_c⟩ w (block_unique.Kt K)
  | _ => False
theorem block_unique.clok : OkC pr 59 block_unique.cl := by
  intro args K w h
  unfold block_unique.cl at h
  split at h
  · exact calls_last false mixed block_unique.FOk_ block_unique.fn rfl (Eq.mp (by kernel_rfl) h)
  · exact h.elim
namespace block_Block_Values
abbrev KT := Sl → World → Prop
def Kt (Kv : VW) : KT := fun l1 w => Kv l1.v w
noncomputable def bd : Code := bdy Tryz.f21
theorem fn : FnOk pr 21 29 Tryz.f21 := ⟨Tryz.func21, by kernel_rfl, Tryz.ntmps21, by kernel_rfl, by kernel_rfl⟩
def F : Clee := ofL [(59, C.block_unique.cl)]
theorem FOk_ : FOk pr F := FOk_cons C.block_unique.clok (FOk_nil)
def P1 (Kv : VW) : Post := bodyK false pr 29 Tryz.f21 Kv
@[reducible] def g2 : List SE := [.v 5 .sl]
def S2 (K : KT) (l_6 : Sl) (w : World) : Prop :=
  C.block_unique l_6 w fun l7 w8 => K l7 w8
theorem S2_ok (Kv : VW) : OkT pr false none 29 g2 (S2 (Kt Kv)) (s2 (tl 3 bd)) (P1 Kv) := ok_last mixed FOk_ fun v ρ w => by kernel_rfl
def P3 (Kv : VW) : Post := next (get g2 (S2 (Kt Kv))) (P1 Kv)
def P4 (Kv : VW) : Post := inBlock 0 (P3 Kv)
@[reducible] def g5 : List SE := [.v 1 .str, .v 5 .sl, .v 13 .ptr]
def P6 (Kv : VW) (kc5 : Cur g5) : Post := next (get g5 kc5) (P4 Kv)
def S7 (K : KT) (kc5 : Cur g5) (name_15 : ByteArray) (l_16 : Sl) (p17 : Option Addr) (w : World) : Prop :=
  G.nxt pr (Instr.next (.pointer p17) false 0) w (fun w18 => S2 K l_16 w18) (fun k20 x21 w19 => G.ent pr (Instr.entry (.pointer p17)) w19 fun k22 x23 => G.ag k22 2 fun c24 => G.vS c24[0 + 0]? fun s25 => G.vS c24[0 + 1]? fun s26 => G.new (.cells #[(.string (⟨#[]⟩ : ByteArray)), (.string (⟨#[]⟩ : ByteArray))] 93) w19 fun p27 w28 => G.st p27 (.string s25) w28 fun w29 => G.st (p27.add 1) (.string s26) w29 fun w30 => G.cS p27 w30 fun s31 => G.cond (s31.toList == name_15.toList) (G.cS (p27.add 1) w30 fun s32 => G.new (.cells #[(.string s32)] 9) w30 fun p33 w34 => G.runSl pr (Builtin.append_ #[42, 42] 42 #[l_16.v, (Sl.v (⟨some p33, 1, 1⟩ : Sl))]) w34 fun l35 w36 => kc5 name_15 l35 p17 w36) (kc5 name_15 l_16 p17 w30))
theorem S7_ok (Kv : VW) (kc5 : Cur g5) : OkT pr false none 29 g5 (S7 (Kt Kv) kc5) (lp (blk (tl 1 (s1 (tl 3 bd))))) (P6 Kv kc5) := ok_last mixed FOk_ fun v ρ w => by kernel_rfl
def L5 (K : KT) : Cur g5 := loopC g5 (S7 K)
theorem L5_ok (Kv : VW) : OkT pr false none 29 g5 (L5 (Kt Kv)) (blk (tl 1 (s1 (tl 3 bd)))) (P4 Kv) := ok_loop (B := S7 (Kt Kv)) (by kernel_rfl) fun kc => S7_ok Kv kc
theorem L5_ind {K : KT} {name_9 : ByteArray} {l_10 : Sl} {p11 : Option Addr} {w : World} (h : ∀ X : Cur g5, (∀ name_9 l_10 p11 w, S7 K X name_9 l_10 p11 w → X name_9 l_10 p11 w) → X name_9 l_10 p11 w) : L5 K name_9 l_10 p11 w := fun X hX => h X fun name_9 l_10 p11 w hb => hX (name_9, l_10, p11, ()) w hb
theorem B8 (Kv : VW) : OkT pr false none 29 g5 (L5 (Kt Kv)) (tl 1 (s1 (tl 3 bd))) (P3 Kv) := ok_block 0 (by kernel_rfl) (L5_ok Kv)
@[reducible] def g9 : List SE := [.v 0 .ptr, .v 1 .str, .v 5 .sl]
def S9 (K : KT) (b_37 : Option Addr) (name_38 : ByteArray) (l_39 : Sl) (w : World) : Prop :=
  G.ptr b_37 fun p40 => G.cM (p40.add 2) w fun m41 => G.runP pr (Instr.range 82 (.map m41)) w fun p42 w43 => L5 K name_38 l_39 p42 w43
theorem S9_ok (Kv : VW) : OkT pr false none 29 g9 (S9 (Kt Kv)) (s1 (tl 3 bd)) (P3 Kv) := ok_group mixed FOk_ 1 (B8 Kv) fun v ρ w => by kernel_rfl
theorem Q10 (Kv : VW) : OkT pr false none 29 g9 (S9 (Kt Kv)) (tl 3 bd) (P1 Kv) := ok_seq (by kernel_rfl) (S2_ok Kv) (S9_ok Kv)
end block_Block_Values
def block_Block_Values (b_2 : Option Addr) (name_3 : ByteArray) (w : World) (K : block_Block_Values.KT) : Prop :=
  G.cond b_2.isNone (K nilS w) (block_Block_Values.S9 K b_2 name_3 nilS w)
def block_Block_Values.cl : CL := fun args K w => match args with
  | [.pointer x0, .string x1] => C.block_Block_Values x0 x1 w (block_Block_Values.Kt K)
  | _ => False
theorem block_Block_Values.clok : OkC pr 21 block_Block_Values.cl := by
  intro args K w h
  unfold block_Block_Values.cl at h
  split at h
  · exact calls_group false mixed block_Block_Values.FOk_ block_Block_Values.fn rfl 3 (block_Block_Values.Q10 K) (Eq.mp (by kernel_rfl) h)
  · exact h.elim
namespace tocsinref04_Get
abbrev KT := ByteArray → World → Prop
def Kt (Kv : VW) : KT := fun s1 w => Kv (.string s1) w
noncomputable def bd : Code := bdy Tryz.f60
theorem fn : FnOk pr 60 20 Tryz.f60 := ⟨Tryz.func60, by kernel_rfl, Tryz.ntmps60, by kernel_rfl, by kernel_rfl⟩
def F : Clee := ofL []
theorem FOk_ : FOk pr F := FOk_nil
def P1 (Kv : VW) : Post := bodyK false pr 20 Tryz.f60 Kv
@[reducible] def g2 : List SE := []
def S2 (K : KT) (w : World) : Prop :=
  K (⟨#[]⟩ : ByteArray) w
theorem S2_ok (Kv : VW) : OkT pr false none 20 g2 (S2 (Kt Kv)) (s2 (tl 1 bd)) (P1 Kv) := ok_last mixed FOk_ fun v ρ w => by kernel_rfl
def P3 (Kv : VW) : Post := next (get g2 (S2 (Kt Kv))) (P1 Kv)
def P4 (Kv : VW) : Post := inBlock 0 (P3 Kv)
@[reducible] def g5 : List SE := [.v 1 .str, .v 7 .sl, .v 8 (.int .i64), .v 9 (.int .i64)]
def P6 (Kv : VW) (kc5 : Cur g5) : Post := next (get g5 kc5) (P4 Kv)
def S7 (K : KT) (kc5 : Cur g5) (name_12 : ByteArray) (l13 : Sl) (n14 : Int) (n15 : Int) (w : World) : Prop :=
  G.cond (decide (n15 < n14)) (G.ix l13.a l13.n n15 2 fun p16 => G.cS p16 w fun s17 => G.cS (p16.add 1) w fun s18 => G.new (.cells #[(.string (⟨#[]⟩ : ByteArray)), (.string (⟨#[]⟩ : ByteArray))] 93) w fun p19 w20 => G.st p19 (.string s17) w20 fun w21 => G.st (p19.add 1) (.string s18) w21 fun w22 => G.cS p19 w22 fun s23 => G.cond (s23.toList == name_12.toList) (G.cS (p19.add 1) w22 fun s24 => K s24 w22) (kc5 name_12 l13 n14 (IntKind.i64.wrap (n15 + (1 : Int))) w22)) (S2 K w)
theorem S7_ok (Kv : VW) (kc5 : Cur g5) : OkT pr false none 20 g5 (S7 (Kt Kv) kc5) (lp (blk (tl 1 (s1 (tl 1 bd))))) (P6 Kv kc5) := ok_last mixed FOk_ fun v ρ w => by kernel_rfl
def L5 (K : KT) : Cur g5 := loopC g5 (S7 K)
theorem L5_ok (Kv : VW) : OkT pr false none 20 g5 (L5 (Kt Kv)) (blk (tl 1 (s1 (tl 1 bd)))) (P4 Kv) := ok_loop (B := S7 (Kt Kv)) (by kernel_rfl) fun kc => S7_ok Kv kc
theorem L5_ind {K : KT} {name_4 : ByteArray} {l5 : Sl} {n6 : Int} {n7 : Int} {w : World} (h : ∀ X : Cur g5, (∀ name_4 l5 n6 n7 w, S7 K X name_4 l5 n6 n7 w → X name_4 l5 n6 n7 w) → X name_4 l5 n6 n7 w) : L5 K name_4 l5 n6 n7 w := fun X hX => h X fun name_4 l5 n6 n7 w hb => hX (name_4, l5, n6, n7, ()) w hb
theorem B8 (Kv : VW) : OkT pr false none 20 g5 (L5 (Kt Kv)) (tl 1 (s1 (tl 1 bd))) (P3 Kv) := ok_block 0 (by kernel_rfl) (L5_ok Kv)
@[reducible] def g9 : List SE := [.v 0 .sl, .v 1 .str]
def S9 (K : KT) (l_25 : Sl) (name_26 : ByteArray) (w : World) : Prop :=
  L5 K name_26 l_25 ((l_25.n : Nat) : Int) (0 : Int) w
theorem S9_ok (Kv : VW) : OkT pr false none 20 g9 (S9 (Kt Kv)) (s1 (tl 1 bd)) (P3 Kv) := ok_group mixed FOk_ 1 (B8 Kv) fun v ρ w => by kernel_rfl
theorem Q10 (Kv : VW) : OkT pr false none 20 g9 (S9 (Kt Kv)) (tl 1 bd) (P1 Kv) := ok_seq (by kernel_rfl) (S2_ok Kv) (S9_ok Kv)
end tocsinref04_Get
def tocsinref04_Get (l_2 : Sl) (name_3 : ByteArray) (w : World) (K : tocsinref04_Get.KT) : Prop :=
  tocsinref04_Get.S9 K l_2 name_3 w
def tocsinref04_Get.cl : CL := fun args K w => match args with
  | [.slice x0_a x0_n x0_c, .string x1] => C.tocsinref04_Get ⟨x0_a, x0_n, x0_c⟩ x1 w (tocsinref04_Get.Kt K)
  | _ => False
theorem tocsinref04_Get.clok : OkC pr 60 tocsinref04_Get.cl := by
  intro args K w h
  unfold tocsinref04_Get.cl at h
  split at h
  · exact calls_group false mixed tocsinref04_Get.FOk_ tocsinref04_Get.fn rfl 1 (tocsinref04_Get.Q10 K) (Eq.mp (by kernel_rfl) h)
  · exact h.elim
end C
end Go.Proofs.YtmfgmcajelmgbaaGreatDoor

set_option linter.unusedVariables false
set_option maxRecDepth 100000
namespace Go.Proofs.YtmfgmcajelmgbaaGreatDoor
open Go Vm
namespace C
namespace tocsinref10_set
abbrev KT := Sl → World → Prop
def Kt (Kv : VW) : KT := fun l1 w => Kv l1.v w
noncomputable def bd : Code := bdy Tryz.f61
theorem fn : FnOk pr 61 63 Tryz.f61 := ⟨Tryz.func61, by kernel_rfl, Tryz.ntmps61, by kernel_rfl, by kernel_rfl⟩
def F : Clee := ofL []
theorem FOk_ : FOk pr F := FOk_nil
def P1 (Kv : VW) : Post := bodyK false pr 63 Tryz.f61 Kv
@[reducible] def g2 : List SE := [.v 3 .sl]
def S2 (K : KT) (out_3 : Sl) (w : World) : Prop :=
  K out_3 w
theorem S2_ok (Kv : VW) : OkT pr false none 63 g2 (S2 (Kt Kv)) (s2 (tl 2 bd)) (P1 Kv) := ok_last mixed FOk_ fun v ρ w => by kernel_rfl
def P3 (Kv : VW) : Post := next (get g2 (S2 (Kt Kv))) (P1 Kv)
def P4 (Kv : VW) : Post := inBlock 0 (P3 Kv)
@[reducible] def g5 : List SE := [.v 3 .sl, .v 10 .sl, .v 11 (.int .i64), .v 12 (.int .i64)]
def P6 (Kv : VW) (kc5 : Cur g5) : Post := next (get g5 kc5) (P4 Kv)
def S7 (K : KT) (kc5 : Cur g5) (out_8 : Sl) (l9 : Sl) (n10 : Int) (n11 : Int) (w : World) : Prop :=
  kc5 out_8 l9 n10 (IntKind.i64.wrap (n11 + (1 : Int))) w
theorem S7_ok (Kv : VW) (kc5 : Cur g5) : OkT pr false none 63 g5 (S7 (Kt Kv) kc5) (s2 (tl 2 (lp (blk (tl 1 (s1 (tl 2 bd))))))) (P6 Kv kc5) := ok_last mixed FOk_ fun v ρ w => by kernel_rfl
def P8 (Kv : VW) (kc5 : Cur g5) : Post := next (get g5 (S7 (Kt Kv) kc5)) (P6 Kv kc5)
def P9 (Kv : VW) (kc5 : Cur g5) : Post := inBlock 1 (P8 Kv kc5)
@[reducible] def g10 : List SE := [.v 3 .sl, .v 5 .str, .v 6 (.int .i64), .v 10 .sl, .v 11 (.int .i64), .v 12 (.int .i64)]
def S10 (K : KT) (kc5 : Cur g5) (out_19 : Sl) (s_20 : ByteArray) (k_21 : Int) (l22 : Sl) (n23 : Int) (n24 : Int) (w : World) : Prop :=
  G.ix out_19.a out_19.n k_21 1 fun p25 => G.st p25 (.string s_20) w fun w26 => S7 K kc5 out_19 l22 n23 n24 w26
theorem S10_ok (Kv : VW) (kc5 : Cur g5) : OkT pr false none 63 g10 (S10 (Kt Kv) kc5) (s2 (tl 2 (s2 (tl 3 (blk (s1 (tl 2 (lp (blk (tl 1 (s1 (tl 2 bd)))))))))))) (P9 Kv kc5) := ok_last mixed FOk_ fun v ρ w => by kernel_rfl
def P11 (Kv : VW) (kc5 : Cur g5) : Post := next (get g10 (S10 (Kt Kv) kc5)) (P9 Kv kc5)
def P12 (Kv : VW) (kc5 : Cur g5) : Post := inBlock 4 (P11 Kv kc5)
def P14 (Kv : VW) (kc5 : Cur g5) (kc13 : Cur g10) : Post := next (get g10 kc13) (P12 Kv kc5)
def S15 (K : KT) (kc5 : Cur g5) (kc13 : Cur g10) (out_39 : Sl) (s_40 : ByteArray) (k_41 : Int) (l42 : Sl) (n43 : Int) (n44 : Int) (w : World) : Prop :=
  G.cond (decide (k_41 > (0 : Int))) (G.ix out_39.a out_39.n (IntKind.i64.wrap (k_41 - (1 : Int))) 1 fun p45 => G.cS p45 w fun s46 => G.cond (!((Op.bytesLess s46.toList s_40.toList) || (s46.toList == s_40.toList))) (G.ix out_39.a out_39.n (IntKind.i64.wrap (k_41 - (1 : Int))) 1 fun p47 => G.cS p47 w fun s48 => G.ix out_39.a out_39.n k_41 1 fun p49 => G.st p49 (.string s48) w fun w50 => kc13 out_39 s_40 (IntKind.i64.wrap (k_41 - (1 : Int))) l42 n43 n44 w50) (S10 K kc5 out_39 s_40 k_41 l42 n43 n44 w)) (S10 K kc5 out_39 s_40 k_41 l42 n43 n44 w)
theorem S15_ok (Kv : VW) (kc5 : Cur g5) (kc13 : Cur g10) : OkT pr false none 63 g10 (S15 (Kt Kv) kc5 kc13) (lp (blk (s1 (tl 2 (s2 (tl 3 (blk (s1 (tl 2 (lp (blk (tl 1 (s1 (tl 2 bd)))))))))))))) (P14 Kv kc5 kc13) := ok_last mixed FOk_ fun v ρ w => by kernel_rfl
def L13 (K : KT) (kc5 : Cur g5) : Cur g10 := loopC g10 (S15 K kc5)
theorem L13_ok (Kv : VW) (kc5 : Cur g5) : OkT pr false none 63 g10 (L13 (Kt Kv) kc5) (blk (s1 (tl 2 (s2 (tl 3 (blk (s1 (tl 2 (lp (blk (tl 1 (s1 (tl 2 bd))))))))))))) (P12 Kv kc5) := ok_loop (B := S15 (Kt Kv) kc5) (by kernel_rfl) fun kc => S15_ok Kv kc5 kc
theorem L13_ind {K : KT} {kc5 : Cur g5} {out_27 : Sl} {s_28 : ByteArray} {k_29 : Int} {l30 : Sl} {n31 : Int} {n32 : Int} {w : World} (h : ∀ X : Cur g10, (∀ out_27 s_28 k_29 l30 n31 n32 w, S15 K kc5 X out_27 s_28 k_29 l30 n31 n32 w → X out_27 s_28 k_29 l30 n31 n32 w) → X out_27 s_28 k_29 l30 n31 n32 w) : L13 K kc5 out_27 s_28 k_29 l30 n31 n32 w := fun X hX => h X fun out_27 s_28 k_29 l30 n31 n32 w hb => hX (out_27, s_28, k_29, l30, n31, n32, ()) w hb
theorem B16 (Kv : VW) (kc5 : Cur g5) : OkT pr false none 63 g10 (L13 (Kt Kv) kc5) (s1 (tl 2 (s2 (tl 3 (blk (s1 (tl 2 (lp (blk (tl 1 (s1 (tl 2 bd)))))))))))) (P11 Kv kc5) := ok_block 4 (by kernel_rfl) (L13_ok Kv kc5)
theorem Q17 (Kv : VW) (kc5 : Cur g5) : OkT pr false none 63 g10 (L13 (Kt Kv) kc5) (tl 2 (s2 (tl 3 (blk (s1 (tl 2 (lp (blk (tl 1 (s1 (tl 2 bd))))))))))) (P9 Kv kc5) := ok_seq (by kernel_rfl) (S10_ok Kv kc5) (B16 Kv kc5)
@[reducible] def g18 : List SE := [.v 3 .sl, .v 5 .str, .v 6 (.int .i64), .v 7 .bool, .v 10 .sl, .v 11 (.int .i64), .v 12 (.int .i64)]
def S18 (K : KT) (kc5 : Cur g5) (out_51 : Sl) (s_52 : ByteArray) (k_53 : Int) (met_54 : Bool) (l55 : Sl) (n56 : Int) (n57 : Int) (w : World) : Prop :=
  G.cond met_54 (S7 K kc5 out_51 l55 n56 n57 w) (G.new (.cells #[(.string s_52)] 9) w fun p58 w59 => G.runSl pr (Builtin.append_ #[42, 42] 42 #[out_51.v, (Sl.v (⟨some p58, 1, 1⟩ : Sl))]) w59 fun l60 w61 => L13 K kc5 l60 s_52 k_53 l55 n56 n57 w61)
theorem S18_ok (Kv : VW) (kc5 : Cur g5) : OkT pr false none 63 g18 (S18 (Kt Kv) kc5) (s2 (tl 3 (blk (s1 (tl 2 (lp (blk (tl 1 (s1 (tl 2 bd)))))))))) (P9 Kv kc5) := ok_group mixed FOk_ 2 (Q17 Kv kc5) fun v ρ w => by kernel_rfl
def P19 (Kv : VW) (kc5 : Cur g5) : Post := next (get g18 (S18 (Kt Kv) kc5)) (P9 Kv kc5)
def P20 (Kv : VW) (kc5 : Cur g5) : Post := inBlock 2 (P19 Kv kc5)
@[reducible] def g21 : List SE := [.v 3 .sl, .v 5 .str, .v 6 (.int .i64), .v 7 .bool, .v 10 .sl, .v 11 (.int .i64), .v 12 (.int .i64), .v 18 .sl, .v 19 (.int .i64), .v 20 (.int .i64)]
def P22 (Kv : VW) (kc5 : Cur g5) (kc21 : Cur g21) : Post := next (get g21 kc21) (P20 Kv kc5)
def S23 (K : KT) (kc5 : Cur g5) (kc21 : Cur g21) (out_82 : Sl) (s_83 : ByteArray) (k_84 : Int) (met_85 : Bool) (l86 : Sl) (n87 : Int) (n88 : Int) (l89 : Sl) (n90 : Int) (n91 : Int) (w : World) : Prop :=
  G.cond (decide (n91 < n90)) (G.ix l89.a l89.n n91 1 fun p92 => G.cS p92 w fun s93 => G.cond met_85 (kc21 out_82 s_83 k_84 true l86 n87 n88 l89 n90 (IntKind.i64.wrap (n91 + (1 : Int))) w) (kc21 out_82 s_83 k_84 (s93.toList == s_83.toList) l86 n87 n88 l89 n90 (IntKind.i64.wrap (n91 + (1 : Int))) w)) (S18 K kc5 out_82 s_83 k_84 met_85 l86 n87 n88 w)
theorem S23_ok (Kv : VW) (kc5 : Cur g5) (kc21 : Cur g21) : OkT pr false none 63 g21 (S23 (Kt Kv) kc5 kc21) (lp (blk (tl 1 (s1 (tl 3 (blk (s1 (tl 2 (lp (blk (tl 1 (s1 (tl 2 bd))))))))))))) (P22 Kv kc5 kc21) := ok_last mixed FOk_ fun v ρ w => by kernel_rfl
def L21 (K : KT) (kc5 : Cur g5) : Cur g21 := loopC g21 (S23 K kc5)
theorem L21_ok (Kv : VW) (kc5 : Cur g5) : OkT pr false none 63 g21 (L21 (Kt Kv) kc5) (blk (tl 1 (s1 (tl 3 (blk (s1 (tl 2 (lp (blk (tl 1 (s1 (tl 2 bd)))))))))))) (P20 Kv kc5) := ok_loop (B := S23 (Kt Kv) kc5) (by kernel_rfl) fun kc => S23_ok Kv kc5 kc
theorem L21_ind {K : KT} {kc5 : Cur g5} {out_62 : Sl} {s_63 : ByteArray} {k_64 : Int} {met_65 : Bool} {l66 : Sl} {n67 : Int} {n68 : Int} {l69 : Sl} {n70 : Int} {n71 : Int} {w : World} (h : ∀ X : Cur g21, (∀ out_62 s_63 k_64 met_65 l66 n67 n68 l69 n70 n71 w, S23 K kc5 X out_62 s_63 k_64 met_65 l66 n67 n68 l69 n70 n71 w → X out_62 s_63 k_64 met_65 l66 n67 n68 l69 n70 n71 w) → X out_62 s_63 k_64 met_65 l66 n67 n68 l69 n70 n71 w) : L21 K kc5 out_62 s_63 k_64 met_65 l66 n67 n68 l69 n70 n71 w := fun X hX => h X fun out_62 s_63 k_64 met_65 l66 n67 n68 l69 n70 n71 w hb => hX (out_62, s_63, k_64, met_65, l66, n67, n68, l69, n70, n71, ()) w hb
theorem B24 (Kv : VW) (kc5 : Cur g5) : OkT pr false none 63 g21 (L21 (Kt Kv) kc5) (tl 1 (s1 (tl 3 (blk (s1 (tl 2 (lp (blk (tl 1 (s1 (tl 2 bd))))))))))) (P19 Kv kc5) := ok_block 2 (by kernel_rfl) (L21_ok Kv kc5)
def S25 (K : KT) (kc5 : Cur g5) (out_94 : Sl) (s_95 : ByteArray) (k_96 : Int) (met_97 : Bool) (l98 : Sl) (n99 : Int) (n100 : Int) (w : World) : Prop :=
  L21 K kc5 out_94 s_95 k_96 met_97 l98 n99 n100 out_94 ((out_94.n : Nat) : Int) (0 : Int) w
theorem S25_ok (Kv : VW) (kc5 : Cur g5) : OkT pr false none 63 g18 (S25 (Kt Kv) kc5) (s1 (tl 3 (blk (s1 (tl 2 (lp (blk (tl 1 (s1 (tl 2 bd)))))))))) (P19 Kv kc5) := ok_group mixed FOk_ 1 (B24 Kv kc5) fun v ρ w => by kernel_rfl
theorem Q26 (Kv : VW) (kc5 : Cur g5) : OkT pr false none 63 g18 (S25 (Kt Kv) kc5) (tl 3 (blk (s1 (tl 2 (lp (blk (tl 1 (s1 (tl 2 bd))))))))) (P9 Kv kc5) := ok_seq (by kernel_rfl) (S18_ok Kv kc5) (S25_ok Kv kc5)
def S27 (K : KT) (kc5 : Cur g5) (out_101 : Sl) (l102 : Sl) (n103 : Int) (n104 : Int) (w : World) : Prop :=
  G.ix l102.a l102.n n104 1 fun p105 => G.cS p105 w fun s106 => S25 K kc5 out_101 s106 ((out_101.n : Nat) : Int) false l102 n103 n104 w
theorem S27_ok (Kv : VW) (kc5 : Cur g5) : OkT pr false none 63 g5 (S27 (Kt Kv) kc5) (blk (s1 (tl 2 (lp (blk (tl 1 (s1 (tl 2 bd)))))))) (P9 Kv kc5) := ok_group mixed FOk_ 3 (Q26 Kv kc5) fun v ρ w => by kernel_rfl
theorem B28 (Kv : VW) (kc5 : Cur g5) : OkT pr false none 63 g5 (S27 (Kt Kv) kc5) (s1 (tl 2 (lp (blk (tl 1 (s1 (tl 2 bd))))))) (P8 Kv kc5) := ok_block 1 (by kernel_rfl) (S27_ok Kv kc5)
theorem Q29 (Kv : VW) (kc5 : Cur g5) : OkT pr false none 63 g5 (S27 (Kt Kv) kc5) (tl 2 (lp (blk (tl 1 (s1 (tl 2 bd)))))) (P6 Kv kc5) := ok_seq (by kernel_rfl) (S7_ok Kv kc5) (B28 Kv kc5)
def S30 (K : KT) (kc5 : Cur g5) (out_107 : Sl) (l108 : Sl) (n109 : Int) (n110 : Int) (w : World) : Prop :=
  G.cond (decide (n110 < n109)) (S27 K kc5 out_107 l108 n109 n110 w) (S2 K out_107 w)
theorem S30_ok (Kv : VW) (kc5 : Cur g5) : OkT pr false none 63 g5 (S30 (Kt Kv) kc5) (lp (blk (tl 1 (s1 (tl 2 bd))))) (P6 Kv kc5) := ok_group mixed FOk_ 2 (Q29 Kv kc5) fun v ρ w => by kernel_rfl
def L5 (K : KT) : Cur g5 := loopC g5 (S30 K)
theorem L5_ok (Kv : VW) : OkT pr false none 63 g5 (L5 (Kt Kv)) (blk (tl 1 (s1 (tl 2 bd)))) (P4 Kv) := ok_loop (B := S30 (Kt Kv)) (by kernel_rfl) fun kc => S30_ok Kv kc
theorem L5_ind {K : KT} {out_4 : Sl} {l5 : Sl} {n6 : Int} {n7 : Int} {w : World} (h : ∀ X : Cur g5, (∀ out_4 l5 n6 n7 w, S30 K X out_4 l5 n6 n7 w → X out_4 l5 n6 n7 w) → X out_4 l5 n6 n7 w) : L5 K out_4 l5 n6 n7 w := fun X hX => h X fun out_4 l5 n6 n7 w hb => hX (out_4, l5, n6, n7, ()) w hb
theorem B31 (Kv : VW) : OkT pr false none 63 g5 (L5 (Kt Kv)) (tl 1 (s1 (tl 2 bd))) (P3 Kv) := ok_block 0 (by kernel_rfl) (L5_ok Kv)
@[reducible] def g32 : List SE := [.v 0 .sl, .v 3 .sl]
def S32 (K : KT) (l_111 : Sl) (out_112 : Sl) (w : World) : Prop :=
  L5 K out_112 l_111 ((l_111.n : Nat) : Int) (0 : Int) w
theorem S32_ok (Kv : VW) : OkT pr false none 63 g32 (S32 (Kt Kv)) (s1 (tl 2 bd)) (P3 Kv) := ok_group mixed FOk_ 1 (B31 Kv) fun v ρ w => by kernel_rfl
theorem Q33 (Kv : VW) : OkT pr false none 63 g32 (S32 (Kt Kv)) (tl 2 bd) (P1 Kv) := ok_seq (by kernel_rfl) (S2_ok Kv) (S32_ok Kv)
end tocsinref10_set
def tocsinref10_set (l_2 : Sl) (w : World) (K : tocsinref10_set.KT) : Prop :=
  tocsinref10_set.S32 K l_2 nilS w
def tocsinref10_set.cl : CL := fun args K w => match args with
  | [.slice x0_a x0_n x0_c] => C.tocsinref10_set ⟨x0_a, x0_n, x0_c⟩ w (tocsinref10_set.Kt K)
  | _ => False
theorem tocsinref10_set.clok : OkC pr 61 tocsinref10_set.cl := by
  intro args K w h
  unfold tocsinref10_set.cl at h
  split at h
  · exact calls_group false mixed tocsinref10_set.FOk_ tocsinref10_set.fn rfl 2 (tocsinref10_set.Q33 K) (Eq.mp (by kernel_rfl) h)
  · exact h.elim
namespace tocsinref10_Values
abbrev KT := Sl → World → Prop
def Kt (Kv : VW) : KT := fun l1 w => Kv l1.v w
noncomputable def bd : Code := bdy Tryz.f22
theorem fn : FnOk pr 22 28 Tryz.f22 := ⟨Tryz.func22, by kernel_rfl, Tryz.ntmps22, by kernel_rfl, by kernel_rfl⟩
def F : Clee := ofL [(60, C.tocsinref04_Get.cl), (61, C.tocsinref10_set.cl)]
theorem FOk_ : FOk pr F := FOk_cons C.tocsinref04_Get.clok (FOk_cons C.tocsinref10_set.clok (FOk_nil))
def P1 (Kv : VW) : Post := bodyK false pr 28 Tryz.f22 Kv
@[reducible] def g2 : List SE := [.v 5 .sl]
def S2 (K : KT) (out_4 : Sl) (w : World) : Prop :=
  C.tocsinref10_set out_4 w fun l5 w6 => K l5 w6
theorem S2_ok (Kv : VW) : OkT pr false none 28 g2 (S2 (Kt Kv)) (s2 (tl 2 bd)) (P1 Kv) := ok_last mixed FOk_ fun v ρ w => by kernel_rfl
def P3 (Kv : VW) : Post := next (get g2 (S2 (Kt Kv))) (P1 Kv)
def P4 (Kv : VW) : Post := inBlock 0 (P3 Kv)
@[reducible] def g5 : List SE := [.v 1 .str, .v 5 .sl, .v 9 .sl, .v 10 (.int .i64), .v 11 (.int .i64)]
def P6 (Kv : VW) (kc5 : Cur g5) : Post := next (get g5 kc5) (P4 Kv)
def S7 (K : KT) (kc5 : Cur g5) (name_17 : ByteArray) (out_18 : Sl) (l19 : Sl) (n20 : Int) (n21 : Int) (w : World) : Prop :=
  G.cond (decide (n21 < n20)) (G.ix l19.a l19.n n21 2 fun p22 => G.cSl p22 w fun l23 => G.cSl (p22.add 1) w fun l24 => G.new (.cells #[nilS.v, nilS.v] 57) w fun p25 w26 => G.st p25 l23.v w26 fun w27 => G.st (p25.add 1) l24.v w27 fun w28 => G.cSl p25 w28 fun l29 => C.tocsinref04_Get l29 name_17 w28 fun s30 w31 => G.cond (!(s30.toList == (⟨#[]⟩ : ByteArray).toList)) (G.new (.cells #[(.string s30)] 9) w31 fun p32 w33 => G.runSl pr (Builtin.append_ #[42, 42] 42 #[out_18.v, (Sl.v (⟨some p32, 1, 1⟩ : Sl))]) w33 fun l34 w35 => kc5 name_17 l34 l19 n20 (IntKind.i64.wrap (n21 + (1 : Int))) w35) (kc5 name_17 out_18 l19 n20 (IntKind.i64.wrap (n21 + (1 : Int))) w31)) (S2 K out_18 w)
theorem S7_ok (Kv : VW) (kc5 : Cur g5) : OkT pr false none 28 g5 (S7 (Kt Kv) kc5) (lp (blk (tl 1 (s1 (tl 2 bd))))) (P6 Kv kc5) := ok_last mixed FOk_ fun v ρ w => by kernel_rfl
def L5 (K : KT) : Cur g5 := loopC g5 (S7 K)
theorem L5_ok (Kv : VW) : OkT pr false none 28 g5 (L5 (Kt Kv)) (blk (tl 1 (s1 (tl 2 bd)))) (P4 Kv) := ok_loop (B := S7 (Kt Kv)) (by kernel_rfl) fun kc => S7_ok Kv kc
theorem L5_ind {K : KT} {name_7 : ByteArray} {out_8 : Sl} {l9 : Sl} {n10 : Int} {n11 : Int} {w : World} (h : ∀ X : Cur g5, (∀ name_7 out_8 l9 n10 n11 w, S7 K X name_7 out_8 l9 n10 n11 w → X name_7 out_8 l9 n10 n11 w) → X name_7 out_8 l9 n10 n11 w) : L5 K name_7 out_8 l9 n10 n11 w := fun X hX => h X fun name_7 out_8 l9 n10 n11 w hb => hX (name_7, out_8, l9, n10, n11, ()) w hb
theorem B8 (Kv : VW) : OkT pr false none 28 g5 (L5 (Kt Kv)) (tl 1 (s1 (tl 2 bd))) (P3 Kv) := ok_block 0 (by kernel_rfl) (L5_ok Kv)
@[reducible] def g9 : List SE := [.v 0 .sl, .v 1 .str, .v 5 .sl]
def S9 (K : KT) (l_36 : Sl) (name_37 : ByteArray) (out_38 : Sl) (w : World) : Prop :=
  L5 K name_37 out_38 l_36 ((l_36.n : Nat) : Int) (0 : Int) w
theorem S9_ok (Kv : VW) : OkT pr false none 28 g9 (S9 (Kt Kv)) (s1 (tl 2 bd)) (P3 Kv) := ok_group mixed FOk_ 1 (B8 Kv) fun v ρ w => by kernel_rfl
theorem Q10 (Kv : VW) : OkT pr false none 28 g9 (S9 (Kt Kv)) (tl 2 bd) (P1 Kv) := ok_seq (by kernel_rfl) (S2_ok Kv) (S9_ok Kv)
end tocsinref10_Values
def tocsinref10_Values (l_2 : Sl) (name_3 : ByteArray) (w : World) (K : tocsinref10_Values.KT) : Prop :=
  tocsinref10_Values.S9 K l_2 name_3 nilS w
def tocsinref10_Values.cl : CL := fun args K w => match args with
  | [.slice x0_a x0_n x0_c, .string x1] => C.tocsinref10_Values ⟨x0_a, x0_n, x0_c⟩ x1 w (tocsinref10_Values.Kt K)
  | _ => False
theorem tocsinref10_Values.clok : OkC pr 22 tocsinref10_Values.cl := by
  intro args K w h
  unfold tocsinref10_Values.cl at h
  split at h
  · exact calls_group false mixed tocsinref10_Values.FOk_ tocsinref10_Values.fn rfl 2 (tocsinref10_Values.Q10 K) (Eq.mp (by kernel_rfl) h)
  · exact h.elim
namespace tocsinlaw10_numbers
abbrev KT := Bool → World → Prop
def Kt (Kv : VW) : KT := fun b1 w => Kv (.bool b1) w
noncomputable def bd : Code := bdy Tryz.f23
theorem fn : FnOk pr 23 26 Tryz.f23 := ⟨Tryz.func23, by kernel_rfl, Tryz.ntmps23, by kernel_rfl, by kernel_rfl⟩
def F : Clee := ofL []
theorem FOk_ : FOk pr F := FOk_nil
def P1 (Kv : VW) : Post := bodyK false pr 26 Tryz.f23 Kv
@[reducible] def g2 : List SE := []
def S2 (K : KT) (w : World) : Prop :=
  K true w
theorem S2_ok (Kv : VW) : OkT pr false none 26 g2 (S2 (Kt Kv)) (s2 (tl 2 bd)) (P1 Kv) := ok_last mixed FOk_ fun v ρ w => by kernel_rfl
def P3 (Kv : VW) : Post := next (get g2 (S2 (Kt Kv))) (P1 Kv)
def P4 (Kv : VW) : Post := inBlock 0 (P3 Kv)
@[reducible] def g5 : List SE := [.v 0 .sl, .v 1 .sl, .v 12 (.int .i64), .v 13 (.int .i64)]
def P6 (Kv : VW) (kc5 : Cur g5) : Post := next (get g5 kc5) (P4 Kv)
def S7 (K : KT) (kc5 : Cur g5) (a_12 : Sl) (b_13 : Sl) (n14 : Int) (n15 : Int) (w : World) : Prop :=
  G.cond (decide (n15 < n14)) (G.ix a_12.a a_12.n n15 1 fun p16 => G.cI .i64 p16 w.drew fun n17 => G.ix b_13.a b_13.n n15 1 fun p18 => G.cI .i64 p18 w.drew fun n19 => G.cond (n17 != n19) (K false w.drew) (kc5 a_12 b_13 n14 (IntKind.i64.wrap (n15 + (1 : Int))) w.drew)) (S2 K w)
theorem S7_ok (Kv : VW) (kc5 : Cur g5) : OkT pr false none 26 g5 (S7 (Kt Kv) kc5) (lp (blk (tl 1 (s1 (tl 2 bd))))) (P6 Kv kc5) := ok_last mixed FOk_ fun v ρ w => by kernel_rfl
def L5 (K : KT) : Cur g5 := loopC g5 (S7 K)
theorem L5_ok (Kv : VW) : OkT pr false none 26 g5 (L5 (Kt Kv)) (blk (tl 1 (s1 (tl 2 bd)))) (P4 Kv) := ok_loop (B := S7 (Kt Kv)) (by kernel_rfl) fun kc => S7_ok Kv kc
theorem L5_ind {K : KT} {a_4 : Sl} {b_5 : Sl} {n6 : Int} {n7 : Int} {w : World} (h : ∀ X : Cur g5, (∀ a_4 b_5 n6 n7 w, S7 K X a_4 b_5 n6 n7 w → X a_4 b_5 n6 n7 w) → X a_4 b_5 n6 n7 w) : L5 K a_4 b_5 n6 n7 w := fun X hX => h X fun a_4 b_5 n6 n7 w hb => hX (a_4, b_5, n6, n7, ()) w hb
theorem B8 (Kv : VW) : OkT pr false none 26 g5 (L5 (Kt Kv)) (tl 1 (s1 (tl 2 bd))) (P3 Kv) := ok_block 0 (by kernel_rfl) (L5_ok Kv)
@[reducible] def g9 : List SE := [.v 0 .sl, .v 1 .sl]
def S9 (K : KT) (a_20 : Sl) (b_21 : Sl) (w : World) : Prop :=
  L5 K a_20 b_21 ((a_20.n : Nat) : Int) (0 : Int) w
theorem S9_ok (Kv : VW) : OkT pr false none 26 g9 (S9 (Kt Kv)) (s1 (tl 2 bd)) (P3 Kv) := ok_group mixed FOk_ 1 (B8 Kv) fun v ρ w => by kernel_rfl
theorem Q10 (Kv : VW) : OkT pr false none 26 g9 (S9 (Kt Kv)) (tl 2 bd) (P1 Kv) := ok_seq (by kernel_rfl) (S2_ok Kv) (S9_ok Kv)
end tocsinlaw10_numbers
def tocsinlaw10_numbers (a_2 : Sl) (b_3 : Sl) (w : World) (K : tocsinlaw10_numbers.KT) : Prop :=
  G.cond (((a_2.n : Nat) : Int) != ((b_3.n : Nat) : Int)) (K false w) (tocsinlaw10_numbers.S9 K a_2 b_3 w)
def tocsinlaw10_numbers.cl : CL := fun args K w => match args with
  | [.slice x0_a x0_n x0_c, .slice x1_a x1_n x1_c] => C.tocsinlaw10_numbers ⟨x0_a, x0_n, x0_c⟩ ⟨x1_a, x1_n, x1_c⟩ w (tocsinlaw10_numbers.Kt K)
  | _ => False
theorem tocsinlaw10_numbers.clok : OkC pr 23 tocsinlaw10_numbers.cl := by
  intro args K w h
  unfold tocsinlaw10_numbers.cl at h
  split at h
  · exact calls_group false mixed tocsinlaw10_numbers.FOk_ tocsinlaw10_numbers.fn rfl 2 (tocsinlaw10_numbers.Q10 K) (Eq.mp (by kernel_rfl) h)
  · exact h.elim
namespace tocsinref10_Postings
abbrev KT := Sl → World → Prop
def Kt (Kv : VW) : KT := fun l1 w => Kv l1.v w
noncomputable def bd : Code := bdy Tryz.f25
theorem fn : FnOk pr 25 29 Tryz.f25 := ⟨Tryz.func25, by kernel_rfl, Tryz.ntmps25, by kernel_rfl, by kernel_rfl⟩
def F : Clee := ofL [(60, C.tocsinref04_Get.cl)]
theorem FOk_ : FOk pr F := FOk_cons C.tocsinref04_Get.clok (FOk_nil)
def P1 (Kv : VW) : Post := bodyK false pr 29 Tryz.f25 Kv
@[reducible] def g2 : List SE := [.v 7 .sl]
def S2 (K : KT) (out_5 : Sl) (w : World) : Prop :=
  K out_5 w
theorem S2_ok (Kv : VW) : OkT pr false none 29 g2 (S2 (Kt Kv)) (s2 (tl 2 bd)) (P1 Kv) := ok_last mixed FOk_ fun v ρ w => by kernel_rfl
def P3 (Kv : VW) : Post := next (get g2 (S2 (Kt Kv))) (P1 Kv)
def P4 (Kv : VW) : Post := inBlock 0 (P3 Kv)
@[reducible] def g5 : List SE := [.v 1 .str, .v 2 .str, .v 7 .sl, .v 10 .sl, .v 11 (.int .i64), .v 12 (.int .i64)]
def P6 (Kv : VW) (kc5 : Cur g5) : Post := next (get g5 kc5) (P4 Kv)
def S7 (K : KT) (kc5 : Cur g5) (name_18 : ByteArray) (value_19 : ByteArray) (out_20 : Sl) (l21 : Sl) (n22 : Int) (n23 : Int) (w : World) : Prop :=
  G.cond (decide (n23 < n22)) (G.ix l21.a l21.n n23 2 fun p24 => G.cSl p24 w fun l25 => G.cSl (p24.add 1) w fun l26 => G.new (.cells #[nilS.v, nilS.v] 57) w fun p27 w28 => G.st p27 l25.v w28 fun w29 => G.st (p27.add 1) l26.v w29 fun w30 => G.cSl p27 w30 fun l31 => C.tocsinref04_Get l31 name_18 w30 fun s32 w33 => G.cond (s32.toList == value_19.toList) (G.new (.cells #[(.int .i64 n23)] 3) w33 fun p34 w35 => G.runSl pr (Builtin.append_ #[46, 46] 46 #[out_20.v, (Sl.v (⟨some p34, 1, 1⟩ : Sl))]) w35 fun l36 w37 => kc5 name_18 value_19 l36 l21 n22 (IntKind.i64.wrap (n23 + (1 : Int))) w37) (kc5 name_18 value_19 out_20 l21 n22 (IntKind.i64.wrap (n23 + (1 : Int))) w33)) (S2 K out_20 w)
theorem S7_ok (Kv : VW) (kc5 : Cur g5) : OkT pr false none 29 g5 (S7 (Kt Kv) kc5) (lp (blk (tl 1 (s1 (tl 2 bd))))) (P6 Kv kc5) := ok_last mixed FOk_ fun v ρ w => by kernel_rfl
def L5 (K : KT) : Cur g5 := loopC g5 (S7 K)
theorem L5_ok (Kv : VW) : OkT pr false none 29 g5 (L5 (Kt Kv)) (blk (tl 1 (s1 (tl 2 bd)))) (P4 Kv) := ok_loop (B := S7 (Kt Kv)) (by kernel_rfl) fun kc => S7_ok Kv kc
theorem L5_ind {K : KT} {name_6 : ByteArray} {value_7 : ByteArray} {out_8 : Sl} {l9 : Sl} {n10 : Int} {n11 : Int} {w : World} (h : ∀ X : Cur g5, (∀ name_6 value_7 out_8 l9 n10 n11 w, S7 K X name_6 value_7 out_8 l9 n10 n11 w → X name_6 value_7 out_8 l9 n10 n11 w) → X name_6 value_7 out_8 l9 n10 n11 w) : L5 K name_6 value_7 out_8 l9 n10 n11 w := fun X hX => h X fun name_6 value_7 out_8 l9 n10 n11 w hb => hX (name_6, value_7, out_8, l9, n10, n11, ()) w hb
theorem B8 (Kv : VW) : OkT pr false none 29 g5 (L5 (Kt Kv)) (tl 1 (s1 (tl 2 bd))) (P3 Kv) := ok_block 0 (by kernel_rfl) (L5_ok Kv)
@[reducible] def g9 : List SE := [.v 0 .sl, .v 1 .str, .v 2 .str, .v 7 .sl]
def S9 (K : KT) (l_38 : Sl) (name_39 : ByteArray) (value_40 : ByteArray) (out_41 : Sl) (w : World) : Prop :=
  L5 K name_39 value_40 out_41 l_38 ((l_38.n : Nat) : Int) (0 : Int) w
theorem S9_ok (Kv : VW) : OkT pr false none 29 g9 (S9 (Kt Kv)) (s1 (tl 2 bd)) (P3 Kv) := ok_group mixed FOk_ 1 (B8 Kv) fun v ρ w => by kernel_rfl
theorem Q10 (Kv : VW) : OkT pr false none 29 g9 (S9 (Kt Kv)) (tl 2 bd) (P1 Kv) := ok_seq (by kernel_rfl) (S2_ok Kv) (S9_ok Kv)
end tocsinref10_Postings
def tocsinref10_Postings (l_2 : Sl) (name_3 : ByteArray) (value_4 : ByteArray) (w : World) (K : tocsinref10_Postings.KT) : Prop :=
  tocsinref10_Postings.S9 K l_2 name_3 value_4 nilS w
def tocsinref10_Postings.cl : CL := fun args K w => match args with
  | [.slice x0_a x0_n x0_c, .string x1, .string x2] => C.tocsinref10_Postings ⟨x0_a, x0_n, x0_c⟩ x1 x2 w (tocsinref10_Postings.Kt K)
  | _ => False
theorem tocsinref10_Postings.clok : OkC pr 25 tocsinref10_Postings.cl := by
  intro args K w h
  unfold tocsinref10_Postings.cl at h
  split at h
  · exact calls_group false mixed tocsinref10_Postings.FOk_ tocsinref10_Postings.fn rfl 2 (tocsinref10_Postings.Q10 K) (Eq.mp (by kernel_rfl) h)
  · exact h.elim
namespace block_Block_Labels
abbrev KT := Sl → Int → World → Prop
def Kt (Kv : VW) : KT := fun l1 n2 w => Kv (.tuple #[l1.v, (.int .i64 n2)]) w
noncomputable def bd : Code := bdy Tryz.f26
theorem fn : FnOk pr 26 30 Tryz.f26 := ⟨Tryz.func26, by kernel_rfl, Tryz.ntmps26, by kernel_rfl, by kernel_rfl⟩
def F : Clee := ofL [(65, C.slices_Clone_Label_Label.cl)]
theorem FOk_ : FOk pr F := FOk_cons C.slices_Clone_Label_Label.clok (FOk_nil)
def P1 (Kv : VW) : Post := bodyK false pr 30 Tryz.f26 Kv
end block_Block_Labels
def block_Block_Labels (b_3 : Option Addr) (i_4 : Int) (w : World) (K : block_Block_Labels.KT) : Prop :=
  G.cond b_3.isNone (K nilS (2 : Int) w) (G.cond (decide (i_4 < (0 : Int))) (K nilS (5 : Int) w) (G.ptr b_3 fun p7 => G.cSl (p7.add 1) w fun l8 => G.cond (decide (i_4 ≥ ((l8.n : Nat) : Int))) (K nilS (5 : Int) w) (G.ptr b_3 fun p9 => G.cSl (p9.add 1) w fun l10 => G.ix l10.a l10.n i_4 2 fun p11 => G.cSl p11 w fun l12 => C.slices_Clone_Label_Label l12 w fun l13 w14 => K l13 (0 : Int) w14)))
def block_Block_Labels.cl : CL := fun args K w => match args with
  | [.pointer x0, .int .i64 x1] => C.block_Block_Labels x0 x1 w (block_Block_Labels.Kt K)
  | _ => False
theorem block_Block_Labels.clok : OkC pr 26 block_Block_Labels.cl := by
  intro args K w h
  unfold block_Block_Labels.cl at h
  split at h
  · exact calls_last false mixed block_Block_Labels.FOk_ block_Block_Labels.fn rfl (Eq.mp (by kernel_rfl) h)
  · exact h.elim
namespace block_Block_Series
abbrev KT := Sl → Int → World → Prop
def Kt (Kv : VW) : KT := fun l1 n2 w => Kv (.tuple #[l1.v, (.int .i64 n2)]) w
noncomputable def bd : Code := bdy Tryz.f27
theorem fn : FnOk pr 27 59 Tryz.f27 := ⟨Tryz.func27, by kernel_rfl, Tryz.ntmps27, by kernel_rfl, by kernel_rfl⟩
def F : Clee := ofL [(62, C.atomic_Int64_Add.cl)]
theorem FOk_ : FOk pr F := FOk_cons C.atomic_Int64_Add.clok (FOk_nil)
def P1 (Kv : VW) : Post := bodyK false pr 59 Tryz.f27 Kv
@[reducible] def g2 : List SE := [.v 10 .sl]
def S2 (K : KT) (l_15 : Sl) (w : World) : Prop :=
  K l_15 (0 : Int) w
theorem S2_ok (Kv : VW) : OkT pr false none 59 g2 (S2 (Kt Kv)) (s2 (tl 5 bd)) (P1 Kv) := ok_last mixed FOk_ fun v ρ w => by kernel_rfl
def P3 (Kv : VW) : Post := next (get g2 (S2 (Kt Kv))) (P1 Kv)
def P4 (Kv : VW) : Post := inBlock 0 (P3 Kv)
@[reducible] def g5 : List SE := [.v 2 (.int .i64), .v 3 (.int .i64), .v 10 .sl, .v 37 .sl, .v 38 (.int .i64), .v 39 (.int .i64)]
def P6 (Kv : VW) (kc5 : Cur g5) : Post := next (get g5 kc5) (P4 Kv)
def S7 (K : KT) (kc5 : Cur g5) (from_28 : Int) (to_29 : Int) (l_30 : Sl) (l31 : Sl) (n32 : Int) (n33 : Int) (w : World) : Prop :=
  G.cond (decide (n33 < n32)) (G.ix l31.a l31.n n33 2 fun p34 => G.cI .i64 p34 w fun n35 => G.cF .f64 (p34.add 1) w fun f36 => G.new (.cells #[(.int .i64 (0 : Int)), (.float .f64 0)] 96) w fun p37 w38 => G.st p37 (.int .i64 n35) w38 fun w39 => G.st (p37.add 1) (.float .f64 f36) w39 fun w40 => G.cI .i64 p37 w40 fun n41 => G.cond (decide (n41 ≥ from_28)) (G.cI .i64 p37 w40 fun n42 => G.cond (decide (n42 ≤ to_29)) (G.cI .i64 p37 w40 fun n43 => G.cF .f64 (p37.add 1) w40 fun f44 => G.new (.cells #[(.int .i64 n43), (.float .f64 f44)] 96) w40 fun p45 w46 => G.runSl pr (Builtin.append_ #[52, 52] 52 #[l_30.v, (Sl.v (⟨some p45, 1, 1⟩ : Sl))]) w46 fun l47 w48 => kc5 from_28 to_29 l47 l31 n32 (IntKind.i64.wrap (n33 + (1 : Int))) w48) (kc5 from_28 to_29 l_30 l31 n32 (IntKind.i64.wrap (n33 + (1 : Int))) w40)) (kc5 from_28 to_29 l_30 l31 n32 (IntKind.i64.wrap (n33 + (1 : Int))) w40)) (S2 K l_30 w)
theorem S7_ok (Kv : VW) (kc5 : Cur g5) : OkT pr false none 59 g5 (S7 (Kt Kv) kc5) (lp (blk (tl 1 (s1 (tl 5 bd))))) (P6 Kv kc5) := ok_last mixed FOk_ fun v ρ w => by kernel_rfl
def L5 (K : KT) : Cur g5 := loopC g5 (S7 K)
theorem L5_ok (Kv : VW) : OkT pr false none 59 g5 (L5 (Kt Kv)) (blk (tl 1 (s1 (tl 5 bd)))) (P4 Kv) := ok_loop (B := S7 (Kt Kv)) (by kernel_rfl) fun kc => S7_ok Kv kc
theorem L5_ind {K : KT} {from_16 : Int} {to_17 : Int} {l_18 : Sl} {l19 : Sl} {n20 : Int} {n21 : Int} {w : World} (h : ∀ X : Cur g5, (∀ from_16 to_17 l_18 l19 n20 n21 w, S7 K X from_16 to_17 l_18 l19 n20 n21 w → X from_16 to_17 l_18 l19 n20 n21 w) → X from_16 to_17 l_18 l19 n20 n21 w) : L5 K from_16 to_17 l_18 l19 n20 n21 w := fun X hX => h X fun from_16 to_17 l_18 l19 n20 n21 w hb => hX (from_16, to_17, l_18, l19, n20, n21, ()) w hb
theorem B8 (Kv : VW) : OkT pr false none 59 g5 (L5 (Kt Kv)) (tl 1 (s1 (tl 5 bd))) (P3 Kv) := ok_block 0 (by kernel_rfl) (L5_ok Kv)
@[reducible] def g9 : List SE := [.v 0 .ptr, .v 1 (.int .i64), .v 2 (.int .i64), .v 3 (.int .i64), .v 10 .sl]
def S9 (K : KT) (b_49 : Option Addr) (i_50 : Int) (from_51 : Int) (to_52 : Int) (l_53 : Sl) (w : World) : Prop :=
  G.ptr b_49 fun p54 => G.cSl (p54.add 1) w fun l55 => G.ix l55.a l55.n i_50 2 fun p56 => G.cSl (p56.add 1) w fun l57 => L5 K from_51 to_52 l_53 l57 ((l57.n : Nat) : Int) (0 : Int) w
theorem S9_ok (Kv : VW) : OkT pr false none 59 g9 (S9 (Kt Kv)) (s1 (tl 5 bd)) (P3 Kv) := ok_group mixed FOk_ 1 (B8 Kv) fun v ρ w => by kernel_rfl
theorem Q10 (Kv : VW) : OkT pr false none 59 g9 (S9 (Kt Kv)) (tl 5 bd) (P1 Kv) := ok_seq (by kernel_rfl) (S2_ok Kv) (S9_ok Kv)
end block_Block_Series
def block_Block_Series (b_3 : Option Addr) (i_4 : Int) (from_5 : Int) (to_6 : Int) (w : World) (K : block_Block_Series.KT) : Prop :=
  G.cond b_3.isNone (K nilS (2 : Int) w) (G.ptr b_3 fun p58 => C.atomic_Int64_Add (some (p58.add 3)) (1 : Int) w fun n59 w60 => G.cond (decide (i_4 < (0 : Int))) (K nilS (5 : Int) w60) (G.ptr b_3 fun p61 => G.cSl (p61.add 1) w60 fun l62 => G.cond (decide (i_4 ≥ ((l62.n : Nat) : Int))) (K nilS (5 : Int) w60) (block_Block_Series.S9 K b_3 i_4 from_5 to_6 nilS w60)))
def block_Block_Series.cl : CL := fun args K w => match args with
  | [.pointer x0, .int .i64 x1, .int .i64 x2, .int .i64 x3] => C.block_Block_Series x0 x1 x2 x3 w (block_Block_Series.Kt K)
  | _ => False
theorem block_Block_Series.clok : OkC pr 27 block_Block_Series.cl := by
  intro args K w h
  unfold block_Block_Series.cl at h
  split at h
  · exact calls_group false mixed block_Block_Series.FOk_ block_Block_Series.fn rfl 5 (block_Block_Series.Q10 K) (Eq.mp (by kernel_rfl) h)
  · exact h.elim
namespace tocsinref08_Same
abbrev KT := Bool → World → Prop
def Kt (Kv : VW) : KT := fun b1 w => Kv (.bool b1) w
noncomputable def bd : Code := bdy Tryz.f29
theorem fn : FnOk pr 29 43 Tryz.f29 := ⟨Tryz.func29, by kernel_rfl, Tryz.ntmps29, by kernel_rfl, by kernel_rfl⟩
def F : Clee := ofL [(66, C.tocsinref08_Bits.cl)]
theorem FOk_ : FOk pr F := FOk_cons C.tocsinref08_Bits.clok (FOk_nil)
def P1 (Kv : VW) : Post := bodyK false pr 43 Tryz.f29 Kv
@[reducible] def g2 : List SE := []
def S2 (K : KT) (w : World) : Prop :=
  K true w
theorem S2_ok (Kv : VW) : OkT pr false none 43 g2 (S2 (Kt Kv)) (s2 (tl 2 bd)) (P1 Kv) := ok_last mixed FOk_ fun v ρ w => by kernel_rfl
def P3 (Kv : VW) : Post := next (get g2 (S2 (Kt Kv))) (P1 Kv)
def P4 (Kv : VW) : Post := inBlock 0 (P3 Kv)
@[reducible] def g5 : List SE := [.v 0 .sl, .v 1 .sl, .v 12 (.int .i64), .v 13 (.int .i64)]
def P6 (Kv : VW) (kc5 : Cur g5) : Post := next (get g5 kc5) (P4 Kv)
def S7 (K : KT) (kc5 : Cur g5) (a_12 : Sl) (b_13 : Sl) (n14 : Int) (n15 : Int) (w : World) : Prop :=
  G.cond (decide (n15 < n14)) (G.ix a_12.a a_12.n n15 2 fun p16 => G.cI .i64 p16 w.drew fun n17 => G.ix b_13.a b_13.n n15 2 fun p18 => G.cI .i64 p18 w.drew fun n19 => G.cond (n17 != n19) (K false w.drew) (G.ix a_12.a a_12.n n15 2 fun p20 => G.cF .f64 (p20.add 1) w.drew fun f21 => G.ix b_13.a b_13.n n15 2 fun p22 => G.cF .f64 (p22.add 1) w.drew fun f23 => C.tocsinref08_Bits f21 w.drew fun n24 w25 => sameAt (p22.add 1) 1 w.drew w25 ∧ (C.tocsinref08_Bits f23 w25 fun n26 w27 => G.cond (n24 != n26) (K false w27) (kc5 a_12 b_13 n14 (IntKind.i64.wrap (n15 + (1 : Int))) w27)))) (S2 K w)
theorem S7_ok (Kv : VW) (kc5 : Cur g5) : OkT pr false none 43 g5 (S7 (Kt Kv) kc5) (lp (blk (tl 1 (s1 (tl 2 bd))))) (P6 Kv kc5) := ok_last mixed FOk_ fun v ρ w => by kernel_rfl
def L5 (K : KT) : Cur g5 := loopC g5 (S7 K)
theorem L5_ok (Kv : VW) : OkT pr false none 43 g5 (L5 (Kt Kv)) (blk (tl 1 (s1 (tl 2 bd)))) (P4 Kv) := ok_loop (B := S7 (Kt Kv)) (by kernel_rfl) fun kc => S7_ok Kv kc
theorem L5_ind {K : KT} {a_4 : Sl} {b_5 : Sl} {n6 : Int} {n7 : Int} {w : World} (h : ∀ X : Cur g5, (∀ a_4 b_5 n6 n7 w, S7 K X a_4 b_5 n6 n7 w → X a_4 b_5 n6 n7 w) → X a_4 b_5 n6 n7 w) : L5 K a_4 b_5 n6 n7 w := fun X hX => h X fun a_4 b_5 n6 n7 w hb => hX (a_4, b_5, n6, n7, ()) w hb
theorem B8 (Kv : VW) : OkT pr false none 43 g5 (L5 (Kt Kv)) (tl 1 (s1 (tl 2 bd))) (P3 Kv) := ok_block 0 (by kernel_rfl) (L5_ok Kv)
@[reducible] def g9 : List SE := [.v 0 .sl, .v 1 .sl]
def S9 (K : KT) (a_28 : Sl) (b_29 : Sl) (w : World) : Prop :=
  L5 K a_28 b_29 ((a_28.n : Nat) : Int) (0 : Int) w
theorem S9_ok (Kv : VW) : OkT pr false none 43 g9 (S9 (Kt Kv)) (s1 (tl 2 bd)) (P3 Kv) := ok_group mixed FOk_ 1 (B8 Kv) fun v ρ w => by kernel_rfl
theorem Q10 (Kv : VW) : OkT pr false none 43 g9 (S9 (Kt Kv)) (tl 2 bd) (P1 Kv) := ok_seq (by kernel_rfl) (S2_ok Kv) (S9_ok Kv)
end tocsinref08_Same
def tocsinref08_Same (a_2 : Sl) (b_3 : Sl) (w : World) (K : tocsinref08_Same.KT) : Prop :=
  G.cond (((a_2.n : Nat) : Int) != ((b_3.n : Nat) : Int)) (K false w) (tocsinref08_Same.S9 K a_2 b_3 w)
def tocsinref08_Same.cl : CL := fun args K w => match args with
  | [.slice x0_a x0_n x0_c, .slice x1_a x1_n x1_c] => C.tocsinref08_Same ⟨x0_a, x0_n, x0_c⟩ ⟨x1_a, x1_n, x1_c⟩ w (tocsinref08_Same.Kt K)
  | _ => False
theorem tocsinref08_Same.clok : OkC pr 29 tocsinref08_Same.cl := by
  intro args K w h
  unfold tocsinref08_Same.cl at h
  split at h
  · exact calls_group false mixed tocsinref08_Same.FOk_ tocsinref08_Same.fn rfl 2 (tocsinref08_Same.Q10 K) (Eq.mp (by kernel_rfl) h)
  · exact h.elim
namespace tocsinref08_Within
abbrev KT := Sl → World → Prop
def Kt (Kv : VW) : KT := fun l1 w => Kv l1.v w
noncomputable def bd : Code := bdy Tryz.f30
theorem fn : FnOk pr 30 32 Tryz.f30 := ⟨Tryz.func30, by kernel_rfl, Tryz.ntmps30, by kernel_rfl, by kernel_rfl⟩
def F : Clee := ofL []
theorem FOk_ : FOk pr F := FOk_nil
def P1 (Kv : VW) : Post := bodyK false pr 32 Tryz.f30 Kv
@[reducible] def g2 : List SE := [.v 7 .sl]
def S2 (K : KT) (out_5 : Sl) (w : World) : Prop :=
  K out_5 w
theorem S2_ok (Kv : VW) : OkT pr false none 32 g2 (S2 (Kt Kv)) (s2 (tl 2 bd)) (P1 Kv) := ok_last mixed FOk_ fun v ρ w => by kernel_rfl
def P3 (Kv : VW) : Post := next (get g2 (S2 (Kt Kv))) (P1 Kv)
def P4 (Kv : VW) : Post := inBlock 0 (P3 Kv)
@[reducible] def g5 : List SE := [.v 1 (.int .i64), .v 2 (.int .i64), .v 7 .sl, .v 10 .sl, .v 11 (.int .i64), .v 12 (.int .i64)]
def P6 (Kv : VW) (kc5 : Cur g5) : Post := next (get g5 kc5) (P4 Kv)
def S7 (K : KT) (kc5 : Cur g5) (from_18 : Int) (to_19 : Int) (out_20 : Sl) (l21 : Sl) (n22 : Int) (n23 : Int) (w : World) : Prop :=
  G.cond (decide (n23 < n22)) (G.ix l21.a l21.n n23 2 fun p24 => G.cI .i64 p24 w fun n25 => G.cF .f64 (p24.add 1) w fun f26 => G.new (.cells #[(.int .i64 (0 : Int)), (.float .f64 0)] 96) w fun p27 w28 => G.st p27 (.int .i64 n25) w28 fun w29 => G.st (p27.add 1) (.float .f64 f26) w29 fun w30 => G.cI .i64 p27 w30 fun n31 => G.cond (decide (n31 ≥ from_18)) (G.cI .i64 p27 w30 fun n32 => G.cond (decide (n32 ≤ to_19)) (G.cI .i64 p27 w30 fun n33 => G.cF .f64 (p27.add 1) w30 fun f34 => G.new (.cells #[(.int .i64 n33), (.float .f64 f34)] 96) w30 fun p35 w36 => G.runSl pr (Builtin.append_ #[52, 52] 52 #[out_20.v, (Sl.v (⟨some p35, 1, 1⟩ : Sl))]) w36 fun l37 w38 => kc5 from_18 to_19 l37 l21 n22 (IntKind.i64.wrap (n23 + (1 : Int))) w38) (kc5 from_18 to_19 out_20 l21 n22 (IntKind.i64.wrap (n23 + (1 : Int))) w30)) (kc5 from_18 to_19 out_20 l21 n22 (IntKind.i64.wrap (n23 + (1 : Int))) w30)) (S2 K out_20 w)
theorem S7_ok (Kv : VW) (kc5 : Cur g5) : OkT pr false none 32 g5 (S7 (Kt Kv) kc5) (lp (blk (tl 1 (s1 (tl 2 bd))))) (P6 Kv kc5) := ok_last mixed FOk_ fun v ρ w => by kernel_rfl
def L5 (K : KT) : Cur g5 := loopC g5 (S7 K)
theorem L5_ok (Kv : VW) : OkT pr false none 32 g5 (L5 (Kt Kv)) (blk (tl 1 (s1 (tl 2 bd)))) (P4 Kv) := ok_loop (B := S7 (Kt Kv)) (by kernel_rfl) fun kc => S7_ok Kv kc
theorem L5_ind {K : KT} {from_6 : Int} {to_7 : Int} {out_8 : Sl} {l9 : Sl} {n10 : Int} {n11 : Int} {w : World} (h : ∀ X : Cur g5, (∀ from_6 to_7 out_8 l9 n10 n11 w, S7 K X from_6 to_7 out_8 l9 n10 n11 w → X from_6 to_7 out_8 l9 n10 n11 w) → X from_6 to_7 out_8 l9 n10 n11 w) : L5 K from_6 to_7 out_8 l9 n10 n11 w := fun X hX => h X fun from_6 to_7 out_8 l9 n10 n11 w hb => hX (from_6, to_7, out_8, l9, n10, n11, ()) w hb
theorem B8 (Kv : VW) : OkT pr false none 32 g5 (L5 (Kt Kv)) (tl 1 (s1 (tl 2 bd))) (P3 Kv) := ok_block 0 (by kernel_rfl) (L5_ok Kv)
@[reducible] def g9 : List SE := [.v 0 .sl, .v 1 (.int .i64), .v 2 (.int .i64), .v 7 .sl]
def S9 (K : KT) (l_39 : Sl) (from_40 : Int) (to_41 : Int) (out_42 : Sl) (w : World) : Prop :=
  L5 K from_40 to_41 out_42 l_39 ((l_39.n : Nat) : Int) (0 : Int) w
theorem S9_ok (Kv : VW) : OkT pr false none 32 g9 (S9 (Kt Kv)) (s1 (tl 2 bd)) (P3 Kv) := ok_group mixed FOk_ 1 (B8 Kv) fun v ρ w => by kernel_rfl
theorem Q10 (Kv : VW) : OkT pr false none 32 g9 (S9 (Kt Kv)) (tl 2 bd) (P1 Kv) := ok_seq (by kernel_rfl) (S2_ok Kv) (S9_ok Kv)
end tocsinref08_Within
def tocsinref08_Within (l_2 : Sl) (from_3 : Int) (to_4 : Int) (w : World) (K : tocsinref08_Within.KT) : Prop :=
  tocsinref08_Within.S9 K l_2 from_3 to_4 nilS w
def tocsinref08_Within.cl : CL := fun args K w => match args with
  | [.slice x0_a x0_n x0_c, .int .i64 x1, .int .i64 x2] => C.tocsinref08_Within ⟨x0_a, x0_n, x0_c⟩ x1 x2 w (tocsinref08_Within.Kt K)
  | _ => False
theorem tocsinref08_Within.clok : OkC pr 30 tocsinref08_Within.cl := by
  intro args K w h
  unfold tocsinref08_Within.cl at h
  split at h
  · exact calls_group false mixed tocsinref08_Within.FOk_ tocsinref08_Within.fn rfl 2 (tocsinref08_Within.Q10 K) (Eq.mp (by kernel_rfl) h)
  · exact h.elim
abbrev atomic_LoadInt64.KT := Int → World → Prop
def atomic_LoadInt64.Kt (Kv : VW) : atomic_LoadInt64.KT := fun r0 w => Kv (.int .i64 r0) w
def atomic_LoadInt64 (x0 : Option Addr) (w : World) (K : atomic_LoadInt64.KT) : Prop := G.ptr x0 fun p => G.cI .i64 p w fun n => K n w
def atomic_LoadInt64.cl : CL := fun args K w => match args with
  | [.pointer x0] => C.atomic_LoadInt64 x0 w (atomic_LoadInt64.Kt K)
  | _ => False
theorem atomic_LoadInt64.clok : OkX pr 101 atomic_LoadInt64.cl := by
  intro args K w h
  unfold atomic_LoadInt64.cl at h
  split at h
  · rename_i x0
    cases x0 with
    | none => exact h.elim
    | some a =>
      obtain ⟨n, hc, hk⟩ := h
      exact ⟨_, w, run_call_load Tryz.func101 (by kernel_rfl) (by kernel_rfl) (by kernel_rfl) .i64 (by kernel_rfl) hc, hk⟩
  · exact h.elim
namespace atomic_Int64_Load
abbrev KT := Int → World → Prop
def Kt (Kv : VW) : KT := fun n1 w => Kv (.int .i64 n1) w
noncomputable def bd : Code := bdy Tryz.f67
theorem fn : FnOk pr 67 7 Tryz.f67 := ⟨Tryz.func67, by kernel_rfl, Tryz.ntmps67, by kernel_rfl, by kernel_rfl⟩
def F : Clee := ofL [(101, C.atomic_LoadInt64.cl)]
theorem FOk_ : FOk pr F := FOk_consX C.atomic_LoadInt64.clok (FOk_nil)
def P1 (Kv : VW) : Post := bodyK false pr 7 Tryz.f67 Kv
end atomic_Int64_Load
def atomic_Int64_Load (x_2 : Option Addr) (w : World) (K : atomic_Int64_Load.KT) : Prop :=
  G.ptr x_2 fun p3 => C.atomic_LoadInt64 (some p3) w fun n4 w5 => K n4 w5
def atomic_Int64_Load.cl : CL := fun args K w => match args with
  | [.pointer x0] => C.atomic_Int64_Load x0 w (atomic_Int64_Load.Kt K)
  | _ => False
theorem atomic_Int64_Load.clok : OkC pr 67 atomic_Int64_Load.cl := by
  intro args K w h
  unfold atomic_Int64_Load.cl at h
  split at h
  · exact calls_last false mixed atomic_Int64_Load.FOk_ atomic_Int64_Load.fn rfl (Eq.mp (by kernel_rfl) h)
  · exact h.elim
namespace block_Block_Asked
abbrev KT := Int → World → Prop
def Kt (Kv : VW) : KT := fun n1 w => Kv (.int .i64 n1) w
noncomputable def bd : Code := bdy Tryz.f31
theorem fn : FnOk pr 31 9 Tryz.f31 := ⟨Tryz.func31, by kernel_rfl, Tryz.ntmps31, by kernel_rfl, by kernel_rfl⟩
def F : Clee := ofL [(67, C.atomic_Int64_Load.cl)]
theorem FOk_ : FOk pr F := FOk_cons C.atomic_Int64_Load.clok (FOk_nil)
def P1 (Kv : VW) : Post := bodyK false pr 9 Tryz.f31 Kv
end block_Block_Asked
def block_Block_Asked (b_2 : Option Addr) (w : World) (K : block_Block_Asked.KT) : Prop :=
  G.cond b_2.isNone (K (0 : Int) w) (G.ptr b_2 fun p3 => C.atomic_Int64_Load (some (p3.add 3)) w fun n4 w5 => K n4 w5)
def block_Block_Asked.cl : CL := fun args K w => match args with
  | [.pointer x0] => C.block_Block_Asked x0 w (block_Block_Asked.Kt K)
  | _ => False
theorem block_Block_Asked.clok : OkC pr 31 block_Block_Asked.cl := by
  intro args K w h
  unfold block_Block_Asked.cl at h
  split at h
  · exact calls_last false mixed block_Block_Asked.FOk_ block_Block_Asked.fn rfl (Eq.mp (by kernel_rfl) h)
  · exact h.elim
namespace tocsinlaw10_BlockAsked
abbrev KT := Bool → World → Prop
def Kt (Kv : VW) : KT := fun b1 w => Kv (.bool b1) w
noncomputable def bd : Code := bdy Tryz.f4
theorem fn : FnOk pr 4 143 Tryz.f4 := ⟨Tryz.func4, by kernel_rfl, Tryz.ntmps4, by kernel_rfl, by kernel_rfl⟩
def F : Clee := ofL [(13, C.tocsinlaw10_awake.cl), (17, C.tocsinlaw10_built.cl), (18, C.tocsinref10_Build.cl), (19, C.tocsinref10_Sorted.cl), (20, C.tocsinlaw10_texts.cl), (21, C.block_Block_Values.cl), (22, C.tocsinref10_Values.cl), (23, C.tocsinlaw10_numbers.cl), (24, C.block_Block_Postings.cl), (25, C.tocsinref10_Postings.cl), (26, C.block_Block_Labels.cl), (27, C.block_Block_Series.cl), (28, C.tocsinref04_Same.cl), (29, C.tocsinref08_Same.cl), (30, C.tocsinref08_Within.cl), (31, C.block_Block_Asked.cl)]
theorem FOk_ : FOk pr F := FOk_cons C.tocsinlaw10_awake.clok (FOk_cons C.tocsinlaw10_built.clok (FOk_cons C.tocsinref10_Build.clok (FOk_cons C.tocsinref10_Sorted.clok (FOk_cons C.tocsinlaw10_texts.clok (FOk_cons C.block_Block_Values.clok (FOk_cons C.tocsinref10_Values.clok (FOk_cons C.tocsinlaw10_numbers.clok (FOk_cons C.block_Block_Postings.clok (FOk_cons C.tocsinref10_Postings.clok (FOk_cons C.block_Block_Labels.clok (FOk_cons C.block_Block_Series.clok (FOk_cons C.tocsinref04_Same.clok (FOk_cons C.tocsinref08_Same.clok (FOk_cons C.tocsinref08_Within.clok (FOk_cons C.block_Block_Asked.clok (FOk_nil))))))))))))))))
def P1 (Kv : VW) : Post := bodyK false pr 143 Tryz.f4 Kv
end tocsinlaw10_BlockAsked
def tocsinlaw10_BlockAsked (l_2 : Sl) (name_3 : ByteArray) (value_4 : ByteArray) (i_5 : Int) (from_6 : Int) (to_7 : Int) (w : World) (K : tocsinlaw10_BlockAsked.KT) : Prop :=
  C.tocsinlaw10_built l_2 w fun p26 w27 => C.tocsinref10_Build l_2 w27 fun l28 n29 n30 w31 => G.cond p26.isNone (G.cond (n29 != (0 : Int)) (G.cond p26.isNone (C.tocsinlaw10_awake w31 fun b32 w33 => K b32 w33) (K false w31)) (K false w31)) (G.cond (n29 != (0 : Int)) (G.cond (n29 != (0 : Int)) (G.cond p26.isNone (C.tocsinlaw10_awake w31 fun b34 w35 => K b34 w35) (K false w31)) (K false w31)) (C.tocsinref10_Sorted l_2 w31 fun l36 w37 => C.block_Block_Values p26 name_3 w37 fun l38 w39 => C.tocsinref10_Values l36 name_3 w39 fun l40 w41 => C.tocsinlaw10_texts l38 l40 w41 fun b42 w43 => G.cond (!b42) (K false w43) (C.block_Block_Postings p26 name_3 value_4 w43 fun l44 w45 => C.tocsinref10_Postings l36 name_3 value_4 w45 fun l46 w47 => C.tocsinlaw10_numbers l44 l46 w47 fun b48 w49 => G.cond (!b48) (K false w49) (C.block_Block_Labels p26 i_5 w49 fun l50 n51 w52 => C.block_Block_Series p26 i_5 from_6 to_7 w52 fun l53 n54 w55 => G.cond (decide (i_5 < (0 : Int))) (G.cond (((l50.n : Nat) : Int) == (0 : Int)) (G.cond (n51 == (5 : Int)) (G.cond (((l53.n : Nat) : Int) == (0 : Int)) (G.cond (n54 == (5 : Int)) (C.tocsinlaw10_awake w55 fun b56 w57 => K b56 w57) (K false w55)) (K false w55)) (K false w55)) (K false w55)) (G.cond (decide (i_5 ≥ ((l36.n : Nat) : Int))) (G.cond (((l50.n : Nat) : Int) == (0 : Int)) (G.cond (n51 == (5 : Int)) (G.cond (((l53.n : Nat) : Int) == (0 : Int)) (G.cond (n54 == (5 : Int)) (C.tocsinlaw10_awake w55 fun b58 w59 => K b58 w59) (K false w55)) (K false w55)) (K false w55)) (K false w55)) (G.cond (n51 != (0 : Int)) (K false w55) (G.cond (n54 != (0 : Int)) (K false w55) (G.ix l36.a l36.n i_5 2 fun p60 => G.cSl p60 w55 fun l61 => C.tocsinref04_Same l50 l61 w55 fun b62 w63 => G.cond (!b62) (K false w63) (G.ix l36.a l36.n i_5 2 fun p64 => G.cSl (p64.add 1) w63 fun l65 => C.tocsinref08_Within l65 from_6 to_7 w63 fun l66 w67 => C.tocsinref08_Same l53 l66 w67 fun b68 w69 => G.cond (!b68) (K false w69) (C.block_Block_Asked p26 w69 fun n70 w71 => G.cond (n70 == (2 : Int)) (C.tocsinlaw10_awake w71 fun b72 w73 => K b72 w73) (K false w71)))))))))))
def tocsinlaw10_BlockAsked.cl : CL := fun args K w => match args with
  | [.slice x0_a x0_n x0_c, .string x1, .string x2, .int .i64 x3, .int .i64 x4, .int .i64 x5] => C.tocsinlaw10_BlockAsked ⟨x0_a, x0_n, x0_c⟩ x1 x2 x3 x4 x5 w (tocsinlaw10_BlockAsked.Kt K)
  | _ => False
theorem tocsinlaw10_BlockAsked.clok : OkC pr 4 tocsinlaw10_BlockAsked.cl := by
  intro args K w h
  unfold tocsinlaw10_BlockAsked.cl at h
  split at h
  · exact calls_last false mixed tocsinlaw10_BlockAsked.FOk_ tocsinlaw10_BlockAsked.fn rfl (Eq.mp (by kernel_rfl) h)
  · exact h.elim
namespace tocsinlaw10_BlockParts
abbrev KT := Bool → World → Prop
def Kt (Kv : VW) : KT := fun b1 w => Kv (.bool b1) w
noncomputable def bd : Code := bdy Tryz.f10
theorem fn : FnOk pr 10 69 Tryz.f10 := ⟨Tryz.func10, by kernel_rfl, Tryz.ntmps10, by kernel_rfl, by kernel_rfl⟩
def F : Clee := ofL [(13, C.tocsinlaw10_awake.cl), (17, C.tocsinlaw10_built.cl), (21, C.block_Block_Values.cl), (24, C.block_Block_Postings.cl), (40, C.block_Block_Len.cl)]
theorem FOk_ : FOk pr F := FOk_cons C.tocsinlaw10_awake.clok (FOk_cons C.tocsinlaw10_built.clok (FOk_cons C.block_Block_Values.clok (FOk_cons C.block_Block_Postings.clok (FOk_cons C.block_Block_Len.clok (FOk_nil)))))
def P1 (Kv : VW) : Post := bodyK false pr 69 Tryz.f10 Kv
@[reducible] def g2 : List SE := []
def S2 (K : KT) (w : World) : Prop :=
  C.tocsinlaw10_awake w fun b6 w7 => K b6 w7
theorem S2_ok (Kv : VW) : OkT pr false none 69 g2 (S2 (Kt Kv)) (s2 (s2 (tl 6 bd))) (P1 Kv) := ok_last mixed FOk_ fun v ρ w => by kernel_rfl
def P3 (Kv : VW) : Post := next (get g2 (S2 (Kt Kv))) (P1 Kv)
def P4 (Kv : VW) : Post := inBlock 4 (P3 Kv)
@[reducible] def g5 : List SE := [.v 59 .sl, .v 60 (.int .i64), .v 61 (.int .i64)]
def P6 (Kv : VW) (kc5 : Cur g5) : Post := next (get g5 kc5) (P4 Kv)
def S7 (K : KT) (kc5 : Cur g5) (l14 : Sl) (n15 : Int) (n16 : Int) (w : World) : Prop :=
  G.cond (decide (n16 < n15)) (G.ix l14.a l14.n n16 1 fun p17 => G.cI .i64 p17 w fun n18 => G.cond (n18 != (1 : Int)) (K false w) (kc5 l14 n15 (IntKind.i64.wrap (n16 + (1 : Int))) w)) (S2 K w)
theorem S7_ok (Kv : VW) (kc5 : Cur g5) : OkT pr false none 69 g5 (S7 (Kt Kv) kc5) (lp (blk (tl 1 (s1 (s2 (tl 6 bd)))))) (P6 Kv kc5) := ok_last mixed FOk_ fun v ρ w => by kernel_rfl
def L5 (K : KT) : Cur g5 := loopC g5 (S7 K)
theorem L5_ok (Kv : VW) : OkT pr false none 69 g5 (L5 (Kt Kv)) (blk (tl 1 (s1 (s2 (tl 6 bd))))) (P4 Kv) := ok_loop (B := S7 (Kt Kv)) (by kernel_rfl) fun kc => S7_ok Kv kc
theorem L5_ind {K : KT} {l8 : Sl} {n9 : Int} {n10 : Int} {w : World} (h : ∀ X : Cur g5, (∀ l8 n9 n10 w, S7 K X l8 n9 n10 w → X l8 n9 n10 w) → X l8 n9 n10 w) : L5 K l8 n9 n10 w := fun X hX => h X fun l8 n9 n10 w hb => hX (l8, n9, n10, ()) w hb
theorem B8 (Kv : VW) : OkT pr false none 69 g5 (L5 (Kt Kv)) (tl 1 (s1 (s2 (tl 6 bd)))) (P3 Kv) := ok_block 4 (by kernel_rfl) (L5_ok Kv)
@[reducible] def g9 : List SE := [.v 6 .sl]
def S9 (K : KT) (met_19 : Sl) (w : World) : Prop :=
  L5 K met_19 ((met_19.n : Nat) : Int) (0 : Int) w
theorem S9_ok (Kv : VW) : OkT pr false none 69 g9 (S9 (Kt Kv)) (s1 (s2 (tl 6 bd))) (P3 Kv) := ok_group mixed FOk_ 1 (B8 Kv) fun v ρ w => by kernel_rfl
theorem Q10 (Kv : VW) : OkT pr false none 69 g9 (S9 (Kt Kv)) (s2 (tl 6 bd)) (P1 Kv) := ok_seq (by kernel_rfl) (S2_ok Kv) (S9_ok Kv)
def P11 (Kv : VW) : Post := next (get g9 (S9 (Kt Kv))) (P1 Kv)
def P12 (Kv : VW) : Post := inBlock 0 (P11 Kv)
@[reducible] def g13 : List SE := [.v 1 .str, .v 5 .ptr, .v 6 .sl, .v 28 .sl, .v 29 (.int .i64), .v 30 (.int .i64)]
def P14 (Kv : VW) (kc13 : Cur g13) : Post := next (get g13 kc13) (P12 Kv)
def S15 (K : KT) (kc13 : Cur g13) (name_26 : ByteArray) (x_27 : Option Addr) (met_28 : Sl) (l29 : Sl) (n30 : Int) (n31 : Int) (w : World) : Prop :=
  kc13 name_26 x_27 met_28 l29 n30 (IntKind.i64.wrap (n31 + (1 : Int))) w
theorem S15_ok (Kv : VW) (kc13 : Cur g13) : OkT pr false none 69 g13 (S15 (Kt Kv) kc13) (s2 (tl 2 (lp (blk (tl 1 (s1 (tl 6 bd))))))) (P14 Kv kc13) := ok_last mixed FOk_ fun v ρ w => by kernel_rfl
def P16 (Kv : VW) (kc13 : Cur g13) : Post := next (get g13 (S15 (Kt Kv) kc13)) (P14 Kv kc13)
def P17 (Kv : VW) (kc13 : Cur g13) : Post := inBlock 1 (P16 Kv kc13)
def P18 (Kv : VW) (kc13 : Cur g13) : Post := inBlock 2 (P17 Kv kc13)
@[reducible] def g19 : List SE := [.v 1 .str, .v 5 .ptr, .v 6 .sl, .v 28 .sl, .v 29 (.int .i64), .v 30 (.int .i64), .v 37 .sl, .v 38 (.int .i64), .v 39 (.int .i64)]
def P20 (Kv : VW) (kc13 : Cur g13) (kc19 : Cur g19) : Post := next (get g19 kc19) (P18 Kv kc13)
def S21 (K : KT) (kc13 : Cur g13) (kc19 : Cur g19) (name_50 : ByteArray) (x_51 : Option Addr) (met_52 : Sl) (l53 : Sl) (n54 : Int) (n55 : Int) (l56 : Sl) (n57 : Int) (n58 : Int) (w : World) : Prop :=
  G.cond (decide (n58 < n57)) (G.ix l56.a l56.n n58 1 fun p59 => G.cI .i64 p59 w fun n60 => G.cond (decide (n60 < (0 : Int))) (K false w) (G.cond (decide (n60 ≥ ((met_52.n : Nat) : Int))) (K false w) (G.ix met_52.a met_52.n n60 1 fun p61 => G.cI .i64 p61 w fun n62 => G.ix met_52.a met_52.n n60 1 fun p63 => G.st p63 (.int .i64 (IntKind.i64.wrap (n62 + (1 : Int)))) w fun w64 => kc19 name_50 x_51 met_52 l53 n54 n55 l56 n57 (IntKind.i64.wrap (n58 + (1 : Int))) w64))) (S15 K kc13 name_50 x_51 met_52 l53 n54 n55 w)
theorem S21_ok (Kv : VW) (kc13 : Cur g13) (kc19 : Cur g19) : OkT pr false none 69 g19 (S21 (Kt Kv) kc13 kc19) (lp (blk (tl 2 (blk (s1 (tl 2 (lp (blk (tl 1 (s1 (tl 6 bd))))))))))) (P20 Kv kc13 kc19) := ok_last mixed FOk_ fun v ρ w => by kernel_rfl
def L19 (K : KT) (kc13 : Cur g13) : Cur g19 := loopC g19 (S21 K kc13)
theorem L19_ok (Kv : VW) (kc13 : Cur g13) : OkT pr false none 69 g19 (L19 (Kt Kv) kc13) (blk (tl 2 (blk (s1 (tl 2 (lp (blk (tl 1 (s1 (tl 6 bd)))))))))) (P18 Kv kc13) := ok_loop (B := S21 (Kt Kv) kc13) (by kernel_rfl) fun kc => S21_ok Kv kc13 kc
theorem L19_ind {K : KT} {kc13 : Cur g13} {name_32 : ByteArray} {x_33 : Option Addr} {met_34 : Sl} {l35 : Sl} {n36 : Int} {n37 : Int} {l38 : Sl} {n39 : Int} {n40 : Int} {w : World} (h : ∀ X : Cur g19, (∀ name_32 x_33 met_34 l35 n36 n37 l38 n39 n40 w, S21 K kc13 X name_32 x_33 met_34 l35 n36 n37 l38 n39 n40 w → X name_32 x_33 met_34 l35 n36 n37 l38 n39 n40 w) → X name_32 x_33 met_34 l35 n36 n37 l38 n39 n40 w) : L19 K kc13 name_32 x_33 met_34 l35 n36 n37 l38 n39 n40 w := fun X hX => h X fun name_32 x_33 met_34 l35 n36 n37 l38 n39 n40 w hb => hX (name_32, x_33, met_34, l35, n36, n37, l38, n39, n40, ()) w hb
theorem B22 (Kv : VW) (kc13 : Cur g13) : OkT pr false none 69 g19 (L19 (Kt Kv) kc13) (tl 2 (blk (s1 (tl 2 (lp (blk (tl 1 (s1 (tl 6 bd))))))))) (P17 Kv kc13) := ok_block 2 (by kernel_rfl) (L19_ok Kv kc13)
def S23 (K : KT) (kc13 : Cur g13) (name_65 : ByteArray) (x_66 : Option Addr) (met_67 : Sl) (l68 : Sl) (n69 : Int) (n70 : Int) (w : World) : Prop :=
  G.ix l68.a l68.n n70 1 fun p71 => G.cS p71 w fun s72 => C.block_Block_Postings x_66 name_65 s72 w fun l73 w74 => L19 K kc13 name_65 x_66 met_67 l68 n69 n70 l73 ((l73.n : Nat) : Int) (0 : Int) w74
theorem S23_ok (Kv : VW) (kc13 : Cur g13) : OkT pr false none 69 g13 (S23 (Kt Kv) kc13) (blk (s1 (tl 2 (lp (blk (tl 1 (s1 (tl 6 bd)))))))) (P17 Kv kc13) := ok_group mixed FOk_ 2 (B22 Kv kc13) fun v ρ w => by kernel_rfl
theorem B24 (Kv : VW) (kc13 : Cur g13) : OkT pr false none 69 g13 (S23 (Kt Kv) kc13) (s1 (tl 2 (lp (blk (tl 1 (s1 (tl 6 bd))))))) (P16 Kv kc13) := ok_block 1 (by kernel_rfl) (S23_ok Kv kc13)
theorem Q25 (Kv : VW) (kc13 : Cur g13) : OkT pr false none 69 g13 (S23 (Kt Kv) kc13) (tl 2 (lp (blk (tl 1 (s1 (tl 6 bd)))))) (P14 Kv kc13) := ok_seq (by kernel_rfl) (S15_ok Kv kc13) (B24 Kv kc13)
def S26 (K : KT) (kc13 : Cur g13) (name_75 : ByteArray) (x_76 : Option Addr) (met_77 : Sl) (l78 : Sl) (n79 : Int) (n80 : Int) (w : World) : Prop :=
  G.cond (decide (n80 < n79)) (S23 K kc13 name_75 x_76 met_77 l78 n79 n80 w) (S9 K met_77 w)
theorem S26_ok (Kv : VW) (kc13 : Cur g13) : OkT pr false none 69 g13 (S26 (Kt Kv) kc13) (lp (blk (tl 1 (s1 (tl 6 bd))))) (P14 Kv kc13) := ok_group mixed FOk_ 2 (Q25 Kv kc13) fun v ρ w => by kernel_rfl
def L13 (K : KT) : Cur g13 := loopC g13 (S26 K)
theorem L13_ok (Kv : VW) : OkT pr false none 69 g13 (L13 (Kt Kv)) (blk (tl 1 (s1 (tl 6 bd)))) (P12 Kv) := ok_loop (B := S26 (Kt Kv)) (by kernel_rfl) fun kc => S26_ok Kv kc
theorem L13_ind {K : KT} {name_20 : ByteArray} {x_21 : Option Addr} {met_22 : Sl} {l23 : Sl} {n24 : Int} {n25 : Int} {w : World} (h : ∀ X : Cur g13, (∀ name_20 x_21 met_22 l23 n24 n25 w, S26 K X name_20 x_21 met_22 l23 n24 n25 w → X name_20 x_21 met_22 l23 n24 n25 w) → X name_20 x_21 met_22 l23 n24 n25 w) : L13 K name_20 x_21 met_22 l23 n24 n25 w := fun X hX => h X fun name_20 x_21 met_22 l23 n24 n25 w hb => hX (name_20, x_21, met_22, l23, n24, n25, ()) w hb
theorem B27 (Kv : VW) : OkT pr false none 69 g13 (L13 (Kt Kv)) (tl 1 (s1 (tl 6 bd))) (P11 Kv) := ok_block 0 (by kernel_rfl) (L13_ok Kv)
@[reducible] def g28 : List SE := [.v 1 .str, .v 5 .ptr, .v 6 .sl, .v 7 .sl]
def S28 (K : KT) (name_81 : ByteArray) (x_82 : Option Addr) (met_83 : Sl) (values_84 : Sl) (w : World) : Prop :=
  L13 K name_81 x_82 met_83 values_84 ((values_84.n : Nat) : Int) (0 : Int) w
theorem S28_ok (Kv : VW) : OkT pr false none 69 g28 (S28 (Kt Kv)) (s1 (tl 6 bd)) (P11 Kv) := ok_group mixed FOk_ 1 (B27 Kv) fun v ρ w => by kernel_rfl
theorem Q29 (Kv : VW) : OkT pr false none 69 g28 (S28 (Kt Kv)) (tl 6 bd) (P1 Kv) := ok_seq (by kernel_rfl) (Q10 Kv) (S28_ok Kv)
end tocsinlaw10_BlockParts
def tocsinlaw10_BlockParts (l_2 : Sl) (name_3 : ByteArray) (w : World) (K : tocsinlaw10_BlockParts.KT) : Prop :=
  C.tocsinlaw10_built l_2 w fun p85 w86 => G.cond p85.isNone (C.tocsinlaw10_awake w86 fun b87 w88 => K b87 w88) (C.block_Block_Len p85 w86 fun n89 w90 => G.runSl pr (Instr.makeSlice 46 (.int .i64 n89) (.int .i64 n89)) w90 fun l91 w92 => C.block_Block_Values p85 name_3 w92 fun l93 w94 => G.new (.cells #[(.string (⟨#[]⟩ : ByteArray))] 9) w94 fun p95 w96 => G.runSl pr (Builtin.append_ #[42, 42] 42 #[l93.v, (Sl.v (⟨some p95, 1, 1⟩ : Sl))]) w96 fun l97 w98 => tocsinlaw10_BlockParts.S28 K name_3 p85 l91 l97 w98)
def tocsinlaw10_BlockParts.cl : CL := fun args K w => match args with
  | [.slice x0_a x0_n x0_c, .string x1] => C.tocsinlaw10_BlockParts ⟨x0_a, x0_n, x0_c⟩ x1 w (tocsinlaw10_BlockParts.Kt K)
  | _ => False
theorem tocsinlaw10_BlockParts.clok : OkC pr 10 tocsinlaw10_BlockParts.cl := by
  intro args K w h
  unfold tocsinlaw10_BlockParts.cl at h
  split at h
  · exact calls_group false mixed tocsinlaw10_BlockParts.FOk_ tocsinlaw10_BlockParts.fn rfl 6 (tocsinlaw10_BlockParts.Q29 K) (Eq.mp (by kernel_rfl) h)
  · exact h.elim
end C
end Go.Proofs.YtmfgmcajelmgbaaGreatDoor

namespace Go.Proofs.YtmfgmcajelmgbaaGreatDoor.Utf
open Go Vm Go.RowKit Num Mem Lib
set_option maxRecDepth 10000
abbrev bytes (s : ByteArray) : List UInt8 := s.data.toList
theorem ixS_at {s : ByteArray} {i : Int} {k : Nat} (hi : i = (k : Int)) (hk : k < s.size) {K : Int → Prop} (hK : K (((bytes s).getD k 0).toNat : Int)) : G.ixS s i K := by
  subst hi
  refine ⟨(bytes s).getD k 0, by omega, ?_, hK⟩
  rw [Int.toNat_natCast, getElem?_pos s k hk]
  have hk' : k < s.data.toList.length := by rw [← size_eq]; exact hk
  congr 1
  rw [List.getD_eq_getElem?_getD, List.getElem?_eq_getElem hk', Option.getD_some]
  rfl
theorem slcS_at {s : ByteArray} {i : Int} {k : Nat} (hi : i = (k : Int)) (hk : k ≤ s.size) {K : ByteArray → Prop} (hK : K (s.extract k s.size)) : G.slcS s i ((s.size : Nat) : Int) K := by
  subst hi
  exact ⟨⟨by omega, by omega, by omega⟩, by simpa using hK⟩
end Go.Proofs.YtmfgmcajelmgbaaGreatDoor.Utf

namespace Go.Proofs.YtmfgmcajelmgbaaGreatDoor.Utf
open Go Vm Go.RowKit Num Mem Lib
set_option maxRecDepth 10000
abbrev UTab (w : World) : Prop := Utf8Tabs 2 3 w
theorem UTab.keep {w w' : World} (h : UTab w) (k : Keep w w') : UTab w' := ⟨fun c hc => k.cell (h.1 c hc), fun i hi => ⟨k.cell (h.2 i hi).1, k.cell (h.2 i hi).2⟩⟩
theorem orByte {a k m : Nat} {c : UInt8} (hk : k ≤ 56) (hm : m = 2 ^ k) (ha : a < m) : Go.bits .or .u64 (a : Int) (shl .u64 (IntKind.u64.wrap (c.toNat : Int)) (k : Int)) = ((a + c.toNat * m : Nat) : Int) := by
  have hc := c.toNat_lt
  subst hm
  have hp : 2 ^ k ≤ 2 ^ 56 := Nat.pow_le_pow_right (by decide) hk
  have hx : c.toNat * 2 ^ k ≤ 255 * 2 ^ 56 := Nat.mul_le_mul (by omega) hp
  rw [wU64_id (x := (c.toNat : Int)) (by omega) (by omega), shl_nat .u64 _ k (by simp only [IntKind.bits]; omega), show (c.toNat : Int) * 2 ^ k = ((c.toNat * 2 ^ k : Nat) : Int) by simp, wU64_id (by omega) (by omega),
    bits_or rfl (by simp only [IntKind.bits]; omega) (by simp only [IntKind.bits]; omega), Nat.or_comm, Nat.mul_comm, ← Nat.two_pow_add_eq_or_of_lt ha, Nat.add_comm]
abbrev word (s : ByteArray) : Nat := leNat [s.get! 0, s.get! 1, s.get! 2, s.get! 3, s.get! 4, s.get! 5, s.get! 6, s.get! 7]
theorem word_ok {s : ByteArray} (hs : 8 ≤ s.size) {w : World} {K : Int → World → Prop} (hK : K ((word s : Nat) : Int) w.drew) : C.utf8_word_string s w K := by
  unfold C.utf8_word_string
  have e8 : (8 : Int) = ((8 : Nat) : Int) := rfl
  have e16 : (16 : Int) = ((16 : Nat) : Int) := rfl
  have e24 : (24 : Int) = ((24 : Nat) : Int) := rfl
  have e32 : (32 : Int) = ((32 : Nat) : Int) := rfl
  have e40 : (40 : Int) = ((40 : Nat) : Int) := rfl
  have e48 : (48 : Int) = ((48 : Nat) : Int) := rfl
  have e56 : (56 : Int) = ((56 : Nat) : Int) := rfl
  have h0 := ((bytes s).getD 0 0).toNat_lt
  have h1 := ((bytes s).getD 1 0).toNat_lt
  have h2 := ((bytes s).getD 2 0).toNat_lt
  have h3 := ((bytes s).getD 3 0).toNat_lt
  have h4 := ((bytes s).getD 4 0).toNat_lt
  have h5 := ((bytes s).getD 5 0).toNat_lt
  have h6 := ((bytes s).getD 6 0).toNat_lt
  have h7 := ((bytes s).getD 7 0).toNat_lt
  refine ixS_at (k := 0) rfl (by omega) ?_
  refine ixS_at (k := 1) rfl (by omega) ⟨by decide, ?_⟩
  refine ixS_at (k := 2) rfl (by omega) ⟨by decide, ?_⟩
  refine ixS_at (k := 3) rfl (by omega) ⟨by decide, ?_⟩
  refine ixS_at (k := 4) rfl (by omega) ⟨by decide, ?_⟩
  refine ixS_at (k := 5) rfl (by omega) ⟨by decide, ?_⟩
  refine ixS_at (k := 6) rfl (by omega) ⟨by decide, ?_⟩
  refine ixS_at (k := 7) rfl (by omega) ⟨by decide, ?_⟩
  unfold word at hK
  simp only [← Lib.getD_get!', leNat] at hK
  rw [wU64_id (x := (((bytes s).getD 0 0).toNat : Int)) (by omega) (by omega), e8, orByte (m := 256) (by decide) rfl (by omega), e16, orByte (m := 65536) (by decide) rfl (by omega), e24, orByte (m := 16777216) (by decide) rfl (by omega),
    e32, orByte (m := 4294967296) (by decide) rfl (by omega), e40, orByte (m := 1099511627776) (by decide) rfl (by omega), e48, orByte (m := 281474976710656) (by decide) rfl (by omega), e56, orByte (m := 72057594037927936) (by decide) rfl (by omega)]
  refine Eq.mp (congrArg (fun x : Nat => K (x : Int) w.drew) ?_) hK
  simp only [bytes]
  omega
theorem maskInt {n : Nat} (h : n < 18446744073709551616) : Go.bits .and .u64 (n : Int) (9259542123273814144 : Int) = ((n &&& 9259542123273814144 : Nat) : Int) :=
  bits_and rfl (by simp only [IntKind.bits]; omega) (by decide)
theorem or64 {a b : Nat} (ha : a < 18446744073709551616) (hb : b < 18446744073709551616) : Go.bits .or .u64 (a : Int) (b : Int) = ((a ||| b : Nat) : Int) :=
  bits_or rfl (by simp only [IntKind.bits]; omega) (by simp only [IntKind.bits]; omega)
theorem or64_lt {a b : Nat} (ha : a < 18446744073709551616) (hb : b < 18446744073709551616) : a ||| b < 18446744073709551616 := Nat.or_lt_two_pow (n := 64) ha hb
theorem newPair {w : World} {t : TypeId} {x y a b : Value} (ha : a.oneCell' = true) (hb : b.oneCell' = true) {K : Addr → World → Prop} (hK : ∀ p w', Keep w w' → w'.cell? p = some a → w'.cell? (p.add 1) = some b → K p w') :
    G.new (.cells #[x, y] t) w fun p w1 => G.st p a w1 fun w2 => G.st (p.add 1) b w2 fun w3 => K p w3 := by
  have b1 := Blk.new w t #[x, y]
  have b2 := b1.set 0 a
  have b3 := b2.set 1 b
  have k1 : Keep w (((w.alloc (.cells #[x, y] t)).setCell ⟨w.heap.size, 0, none⟩ a).setCell ⟨w.heap.size, 1, none⟩ b) :=
    ((Keep.alloc w _).setCell (p := ⟨w.heap.size, 0, none⟩) (Nat.le_refl _) a).setCell (p := ⟨w.heap.size, 1, none⟩) (Nat.le_refl _) b
  refine ⟨⟨x, by rw [b1.cell]; rfl⟩, b1.frozen 0, ⟨y, ?_⟩, ?_, ?_⟩
  · rw [addr_add, b2.cell]; rfl
  · rw [addr_add]; exact b2.frozen _
  · rw [addr_add]
    exact hK _ _ k1 (by rw [b3.cell]; rfl) (by rw [addr_add, b3.cell]; rfl)
theorem chk2 {s : ByteArray} {p : Addr} {w : World} {lo hi : Nat} {F N : Prop} (h1 : w.cell? p = some (.int .u8 (lo : Int))) (h2 : w.cell? (p.add 1) = some (.int .u8 (hi : Int))) (hs : 1 < s.size)
    (hF : ((bytes s).getD 1 0).toNat < lo ∨ hi < ((bytes s).getD 1 0).toNat → F) (hN : ¬ (((bytes s).getD 1 0).toNat < lo ∨ hi < ((bytes s).getD 1 0).toNat) → N) :
    G.ixS s (1 : Int) fun n => G.cI .u8 p w fun m => G.cond (decide (n < m)) F (G.cI .u8 (p.add 1) w fun m' => G.ixS s (1 : Int) fun n' => G.cond (decide (m' < n')) F N) := by
  refine ixS_at (k := 1) rfl hs ⟨_, h1, ?_⟩
  refine cond_d (fun h => hF (.inl (by omega))) (fun h => ?_)
  refine ⟨_, h2, ixS_at (k := 1) rfl hs ?_⟩
  exact cond_d (fun h' => hF (.inr (by omega))) (fun h' => hN (by omega))
theorem chkC {s : ByteArray} {i : Int} {k : Nat} {F N : Prop} (hi : i = (k : Int)) (hs : k < s.size) (hF : ((bytes s).getD k 0).toNat < 128 ∨ 191 < ((bytes s).getD k 0).toNat → F)
    (hN : ¬ (((bytes s).getD k 0).toNat < 128 ∨ 191 < ((bytes s).getD k 0).toNat) → N) :
    G.ixS s i fun n => G.cond (decide (n < (128 : Int))) F (G.ixS s i fun n' => G.cond (decide ((191 : Int) < n')) F N) := by
  refine ixS_at hi hs ?_
  refine cond_d (fun h => hF (.inl (by omega))) (fun h => ?_)
  refine ixS_at hi hs ?_
  exact cond_d (fun h' => hF (.inr (by omega))) (fun h' => hN (by omega))
theorem firstT_lt (c : Nat) : firstT c < 256 := by
  rcases firstT_cases c with h | h | h | h | h | h | h | h | h <;> omega
theorem bits7 {f : Nat} (h : f < 256) : IntKind.i64.wrap (Go.bits .and .u8 (f : Int) (7 : Int)) = ((f % 8 : Nat) : Int) := by
  rw [show (7 : Int) = ((7 : Nat) : Int) from rfl, bits_and rfl (by simp only [IntKind.bits]; omega) (by decide), show f &&& 7 = f % 8 from Nat.and_two_pow_sub_one_eq_mod f 3, wI64 (by omega) (by omega)]
theorem shr4 {f : Nat} : shr .u8 (f : Int) (4 : Int) = ((f / 16 : Nat) : Int) := by
  have := shr_nat .u8 (f : Int) 4 (by decide)
  rw [show ((4 : Nat) : Int) = (4 : Int) from rfl] at this
  rw [this]; omega
theorem lead_ok {K : C.utf8_ValidString.KT} {kc : Cur C.utf8_ValidString.g5} {s : ByteArray} {w0 w : World} (ht : UTab w) (h0 : 0 < s.size) (hc : 128 ≤ ((bytes s).getD 0 0).toNat) (k0 : Keep w0 w)
    (hF : validD (bytes s) = false → ∀ w', Keep w0 w' → K false w') (hN : ∀ k w', 0 < k → k ≤ s.size → validD (bytes s) = validD (bytes (s.extract k s.size)) → Keep w0 w' → kc (s.extract k s.size) w') :
    C.utf8_ValidString.S8 K kc s (((bytes s).getD 0 0).toNat : Int) w := by
  have hlen : (bytes s).length = s.size := (size_eq s).symm
  have hv := validD_lead (bytes s) (fun e => by rw [e] at hlen; simp at hlen; omega) hc
  rw [hlen] at hv
  have hc' := ((bytes s).getD 0 0).toNat_lt
  have hf := firstT_lt ((bytes s).getD 0 0).toNat
  have hcell := ht.1 _ (show ((bytes s).getD 0 0).toNat < 256 from hc')
  generalize ((bytes s).getD 0 0).toNat = c at *
  generalize firstT c = f at *
  obtain ⟨a1, a2⟩ := ht.2 (f / 16) (by omega)
  generalize accLo (f / 16) = lo at *
  generalize accHi (f / 16) = hi at *
  have drop : ∀ k, bytes (s.extract k s.size) = (bytes s).drop k := fun k => ext_list s k
  unfold C.utf8_ValidString.S8
  refine ⟨⟨by omega, by omega⟩, (f : Int), ?_, by decide, ?_⟩
  · rw [addr_add]; simpa using hcell
  rw [shr4]
  refine ⟨⟨by omega, by omega⟩, (lo : Int), ?_, (hi : Int), ?_, ?_⟩
  · rw [addr_add, Int.toNat_natCast, Nat.zero_add, Nat.mul_comm]; exact a1
  · rw [addr_add, addr_add, Int.toNat_natCast, Nat.zero_add, Nat.mul_comm]; exact a2
  refine newPair rfl rfl fun p w1 k1 c1 c2 => ?_
  have k2 : Keep w0 w1.drew := Keep.trans (Keep.trans k0 k1) (Keep.drew w1)
  rw [bits7 hf]
  have d1 : w1.drew.cell? p = some (.int .u8 (lo : Int)) := c1
  have d2 : w1.drew.cell? (p.add 1) = some (.int .u8 (hi : Int)) := c2
  refine cond_eq (fun h2 => ?_) (fun h2 => cond_eq (fun h3 => ?_) (fun h3 => cond_eq (fun h4 => ?_) (fun h4 => ?_)))
  · have hm : f % 8 = 2 := by omega
    simp only [hm, checkN, if_true] at hv
    refine cond_d (fun h => ?_) (fun h => ?_)
    · rw [if_pos (by omega)] at hv; exact hF hv _ k2
    refine chk2 d1 d2 (by omega) (fun hb => ?_) (fun hb => ?_)
    · rw [if_pos (by omega)] at hv; exact hF hv _ k2
    rw [if_neg (by omega)] at hv
    exact slcS_at (k := 2) rfl (by omega) (hN 2 _ (by decide) (by omega) (by rw [drop]; exact hv) k2)
  · have hm : f % 8 = 3 := by omega
    simp only [hm, checkN, if_true, show ((3 : Nat) = 2) = False by simp, if_false] at hv
    refine cond_d (fun h => ?_) (fun h => ?_)
    · rw [if_pos (by omega)] at hv; exact hF hv _ k2
    refine chk2 d1 d2 (by omega) (fun hb => ?_) (fun hb => ?_)
    · rw [if_pos (by omega)] at hv; exact hF hv _ k2
    refine chkC (k := 2) rfl (by omega) (fun hb' => ?_) (fun hb' => ?_)
    · rw [if_pos (by omega)] at hv; exact hF hv _ k2
    rw [if_neg (by omega)] at hv
    exact slcS_at (k := 3) rfl (by omega) (hN 3 _ (by decide) (by omega) (by rw [drop]; exact hv) k2)
  · have hm : f % 8 = 4 := by omega
    simp only [hm, checkN, if_true, show ((4 : Nat) = 2) = False by simp, show ((4 : Nat) = 3) = False by simp, if_false] at hv
    refine cond_d (fun h => ?_) (fun h => ?_)
    · rw [if_pos (by omega)] at hv; exact hF hv _ k2
    refine chk2 d1 d2 (by omega) (fun hb => ?_) (fun hb => ?_)
    · rw [if_pos (by omega)] at hv; exact hF hv _ k2
    refine chkC (k := 2) rfl (by omega) (fun hb' => ?_) (fun hb' => ?_)
    · rw [if_pos (by omega)] at hv; exact hF hv _ k2
    refine chkC (k := 3) rfl (by omega) (fun hb'' => ?_) (fun hb'' => ?_)
    · rw [if_pos (by omega)] at hv; exact hF hv _ k2
    rw [if_neg (by omega)] at hv
    exact slcS_at (k := 4) rfl (by omega) (hN 4 _ (by decide) (by omega) (by rw [drop]; exact hv) k2)
  · have h2' : ¬ f % 8 = 2 := by omega
    have h3' : ¬ f % 8 = 3 := by omega
    have h4' : ¬ f % 8 = 4 := by omega
    simp only [checkN, if_neg h2', if_neg h3', if_neg h4'] at hv
    exact hF hv _ (Keep.trans k0 k1)
theorem skip {t : ByteArray} {k : Nat} (h : Asc t k) {b : Bool} (hv : validD (bytes t) = b) : validD (bytes (t.extract k t.size)) = b := by rw [← hv]; exact valid_skip t k h
theorem valid_ok {s : ByteArray} {w0 : World} (ht : UTab w0) (hs : s.size ≤ 140737488355328) {K : Bool → World → Prop} (hK : ∀ w', Keep w0 w' → K (validD (bytes s)) w') : C.utf8_ValidString s w0 K := by
  unfold C.utf8_ValidString
  refine C.utf8_ValidString.L5_ind fun X hX => ?_
  have key : ∀ (N : Nat) (t : ByteArray) (w : World), t.size < N → Keep w0 w → (∀ w', Keep w0 w' → K (validD (bytes t)) w') → X t w := by
    intro N
    induction N with
    | zero => intro t w h; omega
    | succ N ih =>
      intro t w hN k hK
      refine hX _ _ ?_
      unfold C.utf8_ValidString.S32 C.utf8_ValidString.S2
      refine cond_d (fun h0 => ?_) (fun h0 => ?_)
      · have hpos : 0 < t.size := by omega
        unfold C.utf8_ValidString.S30
        refine ixS_at (k := 0) rfl hpos ?_
        unfold C.utf8_ValidString.S28 C.utf8_ValidString.D27
        refine cond_d (fun hc => ?_) (fun hc => ?_)
        · have a1 : Asc t 1 := asc_one t hpos (by rw [← Lib.getD_get!']; exact_mod_cast hc)
          have next : ∀ (u : ByteArray) (w' : World), u.size < t.size → validD (bytes u) = validD (bytes t) → Keep w0 w' → X u w' := fun u w' hu hv k' => ih u w' (by omega) k' (by rw [hv]; exact hK)
          unfold C.utf8_ValidString.S25
          refine slcS_at (k := 1) rfl (by omega) ?_
          have e1 := ext_size t 1
          have v1 := skip a1 rfl
          generalize t.extract 1 t.size = t1 at *
          have out : ∀ w', Keep w0 w' → X t1 w' := fun w' k' => next t1 w' (by omega) v1 k'
          unfold C.utf8_ValidString.S23 C.utf8_ValidString.D22 C.utf8_ValidString.S21 C.utf8_ValidString.S10
          refine cond_d (fun h8 => ?_) (fun _ => cond_f rfl (out w k))
          refine word_ok (by omega) ?_
          have kd : Keep w0 w.drew := Keep.trans k (Keep.drew w)
          rw [maskInt (word_lt t1)]
          refine cond_eq (fun hm => ?_) (fun _ => out _ kd)
          have a8 : Asc t1 8 := (word_asc t1 (by omega)).1 (by exact_mod_cast hm)
          unfold C.utf8_ValidString.S20
          refine slcS_at (k := 8) rfl (by omega) ?_
          have e2 := ext_size t1 8
          have v2 := skip a8 v1
          generalize t1.extract 8 t1.size = t2 at *
          have out2 : ∀ w', Keep w0 w' → X t2 w' := fun w' k' => next t2 w' (by omega) v2 k'
          have kd2 : Keep w0 w.drew.drew := Keep.trans kd (Keep.drew _)
          unfold C.utf8_ValidString.D19 C.utf8_ValidString.S18 C.utf8_ValidString.S10
          refine cond_d (fun h16 => ?_) (fun _ => cond_f rfl (out2 _ kd2))
          refine slcS_at (k := 8) rfl (by omega) ?_
          have e3 := ext_size t2 8
          refine word_ok (by omega) ?_
          refine word_ok (by omega) ?_
          have kd4 : Keep w0 w.drew.drew.drew.drew := Keep.trans (Keep.trans kd2 (Keep.drew _)) (Keep.drew _)
          rw [or64 (word_lt _) (word_lt _), maskInt (or64_lt (word_lt _) (word_lt _))]
          refine cond_eq (fun hm => ?_) (fun _ => out2 _ kd4)
          have hm' : (word t2 ||| word (t2.extract 8 t2.size)) &&& 9259542123273814144 = 0 := by exact_mod_cast hm
          rw [or_mask] at hm'
          have b1 : Asc t2 8 := (word_asc t2 (by omega)).1 hm'.1
          have b2 : Asc (t2.extract 8 t2.size) 8 := (word_asc _ (by omega)).1 hm'.2
          have a16 : Asc t2 16 := asc_add t2 8 8 b1 b2
          unfold C.utf8_ValidString.S17
          refine slcS_at (k := 16) rfl (by omega) ?_
          have e4 := ext_size t2 16
          have v3 := skip a16 v2
          generalize t2.extract 16 t2.size = t3 at *
          refine C.utf8_ValidString.L13_ind fun Y hY => ?_
          have inner : ∀ (M : Nat) (u : ByteArray) (w' : World), u.size < M → u.size < t.size → validD (bytes u) = validD (bytes t) → Keep w0 w' → Y u w' := by
            intro M
            induction M with
            | zero => intro u w' h; omega
            | succ M ihm =>
              intro u w' hM hu hv kk
              refine hY _ _ ?_
              have kk1 : Keep w0 w'.drew := Keep.trans kk (Keep.drew _)
              unfold C.utf8_ValidString.S15 C.utf8_ValidString.S10
              refine cond_d (fun h32 => ?_) (fun _ => next u _ hu hv kk1)
              have f1 := ext_size u 8
              have f2 := ext_size u 16
              have f3 := ext_size u 24
              refine slcS_at (k := 8) rfl (by omega) ?_
              refine slcS_at (k := 16) rfl (by omega) ?_
              refine slcS_at (k := 24) rfl (by omega) ?_
              refine word_ok (by omega) <| word_ok (by omega) <| word_ok (by omega) <| word_ok (by omega) ?_
              have kk5 : Keep w0 w'.drew.drew.drew.drew.drew := Keep.trans (Keep.trans (Keep.trans (Keep.trans kk1 (Keep.drew _)) (Keep.drew _)) (Keep.drew _)) (Keep.drew _)
              rw [or64 (word_lt _) (word_lt _), or64 (word_lt _) (word_lt _), or64 (or64_lt (word_lt _) (word_lt _)) (or64_lt (word_lt _) (word_lt _)), maskInt (or64_lt (or64_lt (word_lt _) (word_lt _)) (or64_lt (word_lt _) (word_lt _)))]
              refine cond_eq (fun hm => ?_) (fun _ => next u _ hu hv kk5)
              have hm' : ((word u ||| word (u.extract 8 u.size)) ||| (word (u.extract 16 u.size) ||| word (u.extract 24 u.size))) &&& 9259542123273814144 = 0 := by exact_mod_cast hm
              rw [or_mask, or_mask, or_mask] at hm'
              have q1 : Asc u 8 := (word_asc u (by omega)).1 hm'.1.1
              have q2 : Asc u 16 := asc_add u 8 8 q1 ((word_asc _ (by omega)).1 hm'.1.2)
              have q3 : Asc u 24 := asc_add u 16 8 q2 ((word_asc _ (by omega)).1 hm'.2.1)
              have q4 : Asc u 32 := asc_add u 24 8 q3 ((word_asc _ (by omega)).1 hm'.2.2)
              refine slcS_at (k := 32) rfl (by omega) ?_
              have f4 := ext_size u 32
              exact ihm _ _ (by omega) (by omega) (skip q4 hv) kk5
          exact inner (t3.size + 1) t3 _ (by omega) (by omega) v3 kd4
        · unfold C.utf8_ValidString.S26
          refine lead_ok (UTab.keep ht k) hpos (by omega) k (fun hv w' k' => by rw [hv] at hK; exact hK w' k') fun n w' h1 h2 hv k' => ?_
          have := ext_size t n
          exact ih _ w' (by omega) k' (by rw [← hv]; exact hK)
      · have hz : bytes t = [] := List.eq_nil_of_length_eq_zero (by rw [← size_eq]; omega)
        rw [hz, validD_nil] at hK
        exact hK w k
  exact key (s.size + 1) s w0 (by omega) (Keep.refl _) hK
end Go.Proofs.YtmfgmcajelmgbaaGreatDoor.Utf

namespace Go.Proofs.YtmfgmcajelmgbaaGreatDoor.Utf
open Go Vm Go.RowKit Num Mem Lib
theorem convSB {w : World} {s : ByteArray} {K : Sl → World → Prop} (hK : ∀ r w', Keep w w' → RdB w' r (bytes s) → K r w') :
    G.runSl Tryz.prog (Go.convert 9 22 (.string s)) w K := by
  refine ⟨⟨some ⟨w.heap.size, 0, none⟩, s.size, grownCap w s.size 0 5⟩, _, Go.Lib.run_convert_string_bytes (P := Tryz.prog) w 9 22 5 s (u := .string) (by kernel_rfl) (by kernel_rfl) (by kernel_rfl), hK _ _ ?_ ?_⟩
  · refine ⟨?_, ?_, ?_, ?_, fun k hk => bytesWorld_at_old w _ s k hk⟩
    · simp [bytesWorld, World.freeze, World.alloc, World.drew, -World.alloc_eq, -World.drew_eq]
    · simp [bytesWorld, World.freeze, World.alloc, World.drew, -World.alloc_eq, -World.drew_eq]
    · simp [bytesWorld, World.freeze, World.alloc, World.drew, -World.alloc_eq, -World.drew_eq]
    · rw [bytesWorld_size]; omega
  · refine ⟨grownCap_ge w s.size 0 _, by rw [vBs_length, Nat.mul_one, size_eq], fun _ => ⟨_, 0, rfl, fun j v hv => ?_⟩⟩
    rw [Nat.zero_add]
    obtain ⟨hj, he⟩ := List.getElem?_eq_some_iff.1 hv
    rw [vBs_length, ← size_eq] at hj
    rw [bytesWorld_cell w _ s j hj, ← he]
    simp only [vBs, List.getElem_map, vB]
    rw [List.getD_eq_getElem?_getD, List.getElem?_eq_getElem (by rw [← size_eq]; exact hj), Option.getD_some]
theorem fold_push : ∀ (l m : List UInt8), (l.map fun b => (b.toNat : Int)).foldl (fun r n => r.push (UInt8.ofNat n.toNat)) (⟨m.toArray⟩ : ByteArray) = ⟨(m ++ l).toArray⟩
  | [], m => by rw [List.append_nil]; rfl
  | b :: l, m => by
    simp only [List.map_cons, List.foldl_cons]
    have e : (⟨m.toArray⟩ : ByteArray).push (UInt8.ofNat ((b.toNat : Int)).toNat) = ⟨(m ++ [b]).toArray⟩ := by
      simp [ByteArray.push]
    rw [e, fold_push l (m ++ [b])]
    simp
abbrev str (l : List UInt8) : ByteArray := ⟨l.toArray⟩
theorem bytes_str (l : List UInt8) : bytes (str l) = l := by simp [bytes, str]
theorem str_size (l : List UInt8) : (str l).size = l.length := by rw [size_eq]
theorem convBS {P : Program} {w : World} {b : Sl} {l : List UInt8} (h : RdB w b l) {K : ByteArray → Prop} (hK : K (str l)) : G.rdS P (Conv.bytesToString b.v) w K := by
  refine ⟨_, fun d => ?_, hK⟩
  have hd := Rd.drewN h d
  have hn := RdB.len h
  cases b with
  | mk a n c =>
    simp only at hn
    subst hn
    have go : ∀ x : Addr, (∀ j v, (vBs l)[j]? = some v → (w.drewN d).cell? (x.add j) = some v) → (Conv.bytesToString (.slice (some x) l.length c)).run P (w.drewN d) = .ok (.string (str l)) (w.drewN d) := by
      intro x hx
      have e : vBs l = (l.map fun b => (b.toNat : Int)).map (Value.int .u8) := by
        rw [List.map_map]; rfl
      have hl : (loadCells x l.length).run P (w.drewN d) = .ok ((l.map fun b => (b.toNat : Int)).map (Value.int .u8)).toArray (w.drewN d) := by
        rw [← e]
        have := run_loadCells_list (P := P) (w.drewN d) x (vBs l) hx
        rw [vBs_length] at this
        exact this
      rw [run_bytesToString (w.drewN d) x l.length c _ hl]
      have := fold_push l []
      simp only [List.nil_append] at this
      exact congrArg (fun s => Result.ok (Value.string s) (w.drewN d)) this
    by_cases h0 : vBs l = []
    · have hl0 : l = [] := by cases l with | nil => rfl | cons => simp [vBs] at h0
      subst hl0
      cases a with
      | none => rfl
      | some x => exact go x (by intro j v hv; simp [vBs] at hv)
    · obtain ⟨g, o, ha, hc⟩ := hd.2.2 h0
      simp only at ha
      subst ha
      exact go _ fun j v hv => by rw [addr_add]; exact hc j v hv
end Go.Proofs.YtmfgmcajelmgbaaGreatDoor.Utf

namespace Go.Proofs.YtmfgmcajelmgbaaGreatDoor.Lab
open Go Vm Num Mem Utf Lib
variable {w w' w0 : World}
def letterB (c : Nat) : Bool := (decide (97 ≤ c) && decide (c ≤ 122)) || (decide (65 ≤ c) && decide (c ≤ 90)) || c == 95
def digitB (c : Nat) : Bool := decide (48 ≤ c) && decide (c ≤ 57)
theorem letter_ok {c : Nat} {K : Bool → World → Prop} (hK : K (letterB c) w) : C.labels_letter (c : Int) w K := by
  unfold C.labels_letter
  have e95 : ∀ b : Bool, letterB c = b → (((c : Int) == (95 : Int)) = (c == 95)) := fun _ _ => by
    cases h : (c == 95) with
    | true => simp at h; subst h; rfl
    | false => simp at h; simp; omega
  have e := e95 _ rfl
  have yes : letterB c = true → K true w := fun h => by rw [h] at hK; exact hK
  have els : (letterB c = (c == 95)) → K ((c : Int) == (95 : Int)) w := fun h => by rw [e, ← h]; exact hK
  refine cond_d (fun h1 => cond_d (fun h2 => yes ?_) (fun h2 => cond_d (fun h3 => cond_d (fun h4 => by omega) (fun h4 => els ?_)) (fun h3 => by omega))) (fun h1 => cond_d (fun h3 => cond_d (fun h4 => yes ?_) (fun h4 => els ?_)) (fun h3 => els ?_))
  all_goals (unfold letterB; simp; try omega)
theorem digit_ok {c : Nat} {K : Bool → World → Prop} (hK : K (digitB c) w) : C.labels_digit (c : Int) w K := by
  unfold C.labels_digit
  unfold digitB at hK
  refine cond_d (fun h => ?_) (fun h => ?_)
  · have e : decide ((c : Int) ≤ 57) = decide (c ≤ 57) := by simp only [decide_eq_decide]; omega
    rw [e]
    rw [decide_eq_true (by omega : 48 ≤ c)] at hK
    exact hK
  · rw [decide_eq_false (by omega : ¬ 48 ≤ c)] at hK
    exact hK
def okB (colon : Bool) (c : Nat) : Bool := letterB c || (digitB c || (colon && c == 58))
def namedB (l : List UInt8) (most : Nat) (colon : Bool) : Bool := !l.isEmpty && (decide (l.length ≤ most) && (!digitB (l.getD 0 0).toNat && l.all fun c => okB colon c.toNat))
theorem named_ok {s : ByteArray} {most : Nat} {m : Int} (hm : m = (most : Int)) (hmm : most ≤ 100000) {colon : Bool} {K : Bool → World → Prop} (hK : ∀ w', Keep w0 w' → K (namedB (Utf.bytes s) most colon) w') : C.labels_named s m colon w0 K := by
  subst hm
  have hsz := size_eq s
  have hl : (Utf.bytes s).length = s.size := hsz.symm
  unfold C.labels_named
  have no : namedB (Utf.bytes s) most colon = false → ∀ w', Keep w0 w' → K false w' := fun h w' k => by have := hK w' k; rwa [h] at this
  have etl : s.toList = Utf.bytes s := ByteArray.toList_eq s
  have e0 : (⟨#[]⟩ : ByteArray).toList = [] := by rw [ByteArray.toList_eq]
  rw [etl, e0]
  refine cond_of (fun h => no ?_ w0 (Keep.refl w0)) (fun h => ?_)
  · have : Utf.bytes s = [] := by simpa using h
    unfold namedB; rw [this]; rfl
  have hne : Utf.bytes s ≠ [] := by intro e; rw [e] at h; simp at h
  have hpos : 0 < s.size := by rw [← hl]; exact List.length_pos_iff.2 hne
  refine cond_d (fun h => no ?_ w0 (Keep.refl w0)) (fun h => ?_)
  · unfold namedB; rw [decide_eq_false (by omega)]; simp
  refine ixS_at (k := 0) rfl hpos (digit_ok ?_)
  have hemp : (Utf.bytes s).isEmpty = false := by cases hb : Utf.bytes s with | nil => exact absurd hb hne | cons _ _ => rfl
  have hle : decide ((Utf.bytes s).length ≤ most) = true := decide_eq_true (by omega)
  refine cond_of (fun h => no ?_ w0 (Keep.refl w0)) (fun hd => ?_)
  · unfold namedB; rw [h]; simp
  have hn : namedB (Utf.bytes s) most colon = (Utf.bytes s).all fun c => okB colon c.toNat := by unfold namedB; rw [hemp, hle, hd]; simp
  rw [hn] at hK no
  unfold C.labels_named.S9
  refine convSB fun r w1 k1 o1 => ?_
  have hr := o1.len
  clear hn hd hle hemp hne etl hsz
  generalize Utf.bytes s = l at *
  refine C.labels_named.L5_ind fun X hX => ?_
  have key : ∀ (d i : Nat), i + d = l.length → (l.take i).all (fun c => okB colon c.toNat) = true → X colon r ((r.n : Nat) : Int) (i : Int) w1 := by
    intro d
    induction d with
    | zero =>
      intro i hi ha
      refine hX _ _ _ _ _ ?_
      unfold C.labels_named.S7 C.labels_named.S2
      refine cond_d (fun h => by omega) (fun _ => ?_)
      rw [List.take_of_length_le (by omega)] at ha
      have := hK w1 k1
      rwa [ha] at this
    | succ d ih =>
      intro i hi ha
      refine hX _ _ _ _ _ ?_
      unfold C.labels_named.S7
      have hil : i < l.length := by omega
      refine cond_d (fun _ => ?_) (fun h => by omega)
      refine RdB.at_ o1 hil ?_
      have next : okB colon l[i].toNat = true → X colon r ((r.n : Nat) : Int) (IntKind.i64.wrap ((i : Int) + 1)) w1 := fun hok => by
        rw [wI64 (by omega) (by omega), show (i : Int) + 1 = ((i + 1 : Nat) : Int) by omega]
        refine ih (i + 1) (by omega) ?_
        rw [List.take_add_one, List.getElem?_eq_getElem hil, List.all_append, ha]
        simp [hok]
      have stop : okB colon l[i].toNat = false → K false w1 := fun hok => no (by
        rw [List.all_eq_false]
        exact ⟨l[i], List.getElem_mem hil, by simp [hok]⟩) w1 k1
      refine letter_ok (cond_of (fun hlt => ?_) (fun hlt => next (by unfold okB; simp at hlt; simp [hlt])))
      refine digit_ok (cond_of (fun hdt => ?_) (fun hdt => next (by unfold okB; simp at hdt; simp [hdt])))
      simp only [Bool.not_eq_true'] at hlt hdt
      refine cond_of (fun hc => ?_) (fun hc => stop (by unfold okB; simp [hlt, hdt, hc]))
      have e58 : ((l[i].toNat : Int) == (58 : Int)) = (l[i].toNat == 58) := by
        cases h : (l[i].toNat == 58) with
        | true => simp at h; simp [h]
        | false => simp at h; simp; omega
      rw [e58]
      refine cond_of (fun h5 => stop (by unfold okB; simp at h5; simp [hlt, hdt, h5])) (fun h5 => next (by unfold okB; simp at h5; simp [hc, h5]))
  exact key l.length 0 (by omega) rfl
end Go.Proofs.YtmfgmcajelmgbaaGreatDoor.Lab
