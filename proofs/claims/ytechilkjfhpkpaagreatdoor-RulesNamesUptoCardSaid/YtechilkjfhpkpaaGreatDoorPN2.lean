/- (several texts in one: Cr, Cr1, StrB) Own work. -/
import Derived.Test.YtechilkjfhpkpaaGreatDoorProg
import Derived.Lib.Bytealg
import Derived.Lib.ValidAsc
import Derived.Test.YtechilkjfhpkpaaGreatDoorPN1
set_option linter.unusedVariables false
set_option maxRecDepth 100000
namespace Go.Proofs.YtechilkjfhpkpaaGreatDoor
open Go Vm
namespace C
abbrev VW := Value → World → Prop
noncomputable abbrev pr : Program := Tryz.prog
theorem mixed : pr.follows .mixedOrders = true := by kernel_rfl
namespace maps_Values_1_map_string_Active_string_Active
abbrev KT := World → Prop
def Kt (Kv : VW) : KT := fun  w => Kv (.tuple #[]) w
noncomputable def bd : Code := bdy Tryz.f80
theorem fn : FnOk pr 80 15 Tryz.f80 := ⟨Tryz.func80, by kernel_rfl, Tryz.ntmps80, by kernel_rfl, by kernel_rfl⟩
def F : Clee := ofL []
theorem FOk_ : FOk pr F := FOk_nil
def P1 (Kv : VW) : Post := bodyK false pr 15 Tryz.f80 Kv
def P2 (Kv : VW) : Post := inBlock 0 (P1 Kv)
@[reducible] def g3 : List SE := [.v 0 (.raw), .v 6 .ptr]
def P4 (Kv : VW) (kc3 : Cur g3) : Post := next (get g3 kc3) (P2 Kv)
def S5 (K : KT) (kc3 : Cur g3) (yield_7 : Value) (p8 : Option Addr) (w : World) : Prop :=
  G.nxt pr (Instr.next (.pointer p8) false 0) w (fun w9 => K w9) (fun k11 x12 w10 => G.ent pr (Instr.entry (.pointer p8)) w10 fun k13 x14 => G.ag x14 6 fun c15 => G.vSl c15[0 + 0]? fun l16 => G.vI .i64 c15[0 + 1]? fun n17 => G.vI .i64 c15[0 + 2]? fun n18 => G.vI .i64 c15[0 + 3]? fun n19 => G.vI .i64 c15[0 + 4]? fun n20 => G.vF .f64 c15[0 + 5]? fun f21 => G.new (.cells #[nilS.v, (.int .i64 (0 : Int)), (.int .i64 (0 : Int)), (.int .i64 (0 : Int)), (.int .i64 (0 : Int)), (.float .f64 0)] 41) w10 fun p22 w23 => G.st p22 l16.v w23 fun w24 => G.st (p22.add 1) (.int .i64 n17) w24 fun w25 => G.st (p22.add 2) (.int .i64 n18) w25 fun w26 => G.st (p22.add 3) (.int .i64 n19) w26 fun w27 => G.st (p22.add 4) (.int .i64 n20) w27 fun w28 => G.st (p22.add 5) (.float .f64 f21) w28 fun w29 => G.cSl p22 w29 fun l30 => G.cI .i64 (p22.add 1) w29 fun n31 => G.cI .i64 (p22.add 2) w29 fun n32 => G.cI .i64 (p22.add 3) w29 fun n33 => G.cI .i64 (p22.add 4) w29 fun n34 => G.cF .f64 (p22.add 5) w29 fun f35 => G.callV pr F yield_7 [(.agg #[l30.v, (.int .i64 n31), (.int .i64 n32), (.int .i64 n33), (.int .i64 n34), (.float .f64 f35)])] w29 fun v36 w37 => G.isB v36 fun b38 => G.cond (!b38) (K w37) (kc3 yield_7 p8 w37))
theorem S5_ok (Kv : VW) (kc3 : Cur g3) : OkT pr false none 15 g3 (S5 (Kt Kv) kc3) (lp (blk (tl 1 bd))) (P4 Kv kc3) := ok_last mixed FOk_ fun v ρ w => by kernel_rfl
def L3 (K : KT) : Cur g3 := loopC g3 (S5 K)
theorem L3_ok (Kv : VW) : OkT pr false none 15 g3 (L3 (Kt Kv)) (blk (tl 1 bd)) (P2 Kv) := ok_loop (B := S5 (Kt Kv)) (by kernel_rfl) fun kc => S5_ok Kv kc
theorem L3_ind {K : KT} {yield_3 : Value} {p4 : Option Addr} {w : World} (h : ∀ X : Cur g3, (∀ yield_3 p4 w, S5 K X yield_3 p4 w → X yield_3 p4 w) → X yield_3 p4 w) : L3 K yield_3 p4 w := fun X hX => h X fun yield_3 p4 w hb => hX (yield_3, p4, ()) w hb
theorem B6 (Kv : VW) : OkT pr false none 15 g3 (L3 (Kt Kv)) (tl 1 bd) (P1 Kv) := ok_block 0 (by kernel_rfl) (L3_ok Kv)
end maps_Values_1_map_string_Active_string_Active
def maps_Values_1_map_string_Active_string_Active (yield_1 : Value) (p_2 : Option Addr) (w : World) (K : maps_Values_1_map_string_Active_string_Active.KT) : Prop :=
  G.ptr p_2 fun p39 => G.cM p39 w fun m40 => G.runP pr (Instr.range 73 (.map m40)) w fun p41 w42 => maps_Values_1_map_string_Active_string_Active.L3 K yield_1 p41 w42
def maps_Values_1_map_string_Active_string_Active.cl : CL := fun args K w => match args with
  | [x0, .pointer x1] => C.maps_Values_1_map_string_Active_string_Active x0 x1 w (maps_Values_1_map_string_Active_string_Active.Kt K)
  | _ => False
theorem maps_Values_1_map_string_Active_string_Active.clok : OkC pr 80 maps_Values_1_map_string_Active_string_Active.cl := by
  intro args K w h
  unfold maps_Values_1_map_string_Active_string_Active.cl at h
  split at h
  · exact calls_group false mixed maps_Values_1_map_string_Active_string_Active.FOk_ maps_Values_1_map_string_Active_string_Active.fn rfl 1 (maps_Values_1_map_string_Active_string_Active.B6 K) (Eq.mp (by kernel_rfl) h)
  · exact h.elim
namespace maps_Keys_1_map_string_string_string_string
abbrev KT := World → Prop
def Kt (Kv : VW) : KT := fun  w => Kv (.tuple #[]) w
noncomputable def bd : Code := bdy Tryz.f113
theorem fn : FnOk pr 113 14 Tryz.f113 := ⟨Tryz.func113, by kernel_rfl, Tryz.ntmps113, by kernel_rfl, by kernel_rfl⟩
def F : Clee := ofL [(80, C.maps_Values_1_map_string_Active_string_Active.cl)]
theorem FOk_ : FOk pr F := FOk_cons C.maps_Values_1_map_string_Active_string_Active.clok (FOk_nil)
def P1 (Kv : VW) : Post := bodyK false pr 14 Tryz.f113 Kv
def P2 (Kv : VW) : Post := inBlock 0 (P1 Kv)
@[reducible] def g3 : List SE := [.v 0 (.raw), .v 5 .ptr]
def P4 (Kv : VW) (kc3 : Cur g3) : Post := next (get g3 kc3) (P2 Kv)
def S5 (K : KT) (kc3 : Cur g3) (yield_5 : Value) (p6 : Option Addr) (w : World) : Prop :=
  G.nxt pr (Instr.next (.pointer p6) false 0) w (fun w7 => K w7) (fun k9 x10 w8 => G.ent pr (Instr.entry (.pointer p6)) w8 fun k11 x12 => G.vS (some k11) fun s13 => G.callV pr F yield_5 [(.string s13)] w8 fun v14 w15 => G.isB v14 fun b16 => G.cond (!b16) (K w15) (kc3 yield_5 p6 w15))
theorem S5_ok (Kv : VW) (kc3 : Cur g3) : OkT pr false none 14 g3 (S5 (Kt Kv) kc3) (lp (blk (tl 1 bd))) (P4 Kv kc3) := ok_last mixed FOk_ fun v ρ w => by kernel_rfl
def L3 (K : KT) : Cur g3 := loopC g3 (S5 K)
theorem L3_ok (Kv : VW) : OkT pr false none 14 g3 (L3 (Kt Kv)) (blk (tl 1 bd)) (P2 Kv) := ok_loop (B := S5 (Kt Kv)) (by kernel_rfl) fun kc => S5_ok Kv kc
theorem L3_ind {K : KT} {yield_3 : Value} {p4 : Option Addr} {w : World} (h : ∀ X : Cur g3, (∀ yield_3 p4 w, S5 K X yield_3 p4 w → X yield_3 p4 w) → X yield_3 p4 w) : L3 K yield_3 p4 w := fun X hX => h X fun yield_3 p4 w hb => hX (yield_3, p4, ()) w hb
theorem B6 (Kv : VW) : OkT pr false none 14 g3 (L3 (Kt Kv)) (tl 1 bd) (P1 Kv) := ok_block 0 (by kernel_rfl) (L3_ok Kv)
end maps_Keys_1_map_string_string_string_string
def maps_Keys_1_map_string_string_string_string (yield_1 : Value) (p_2 : Option Addr) (w : World) (K : maps_Keys_1_map_string_string_string_string.KT) : Prop :=
  G.ptr p_2 fun p17 => G.cM p17 w fun m18 => G.runP pr (Instr.range 136 (.map m18)) w fun p19 w20 => maps_Keys_1_map_string_string_string_string.L3 K yield_1 p19 w20
def maps_Keys_1_map_string_string_string_string.cl : CL := fun args K w => match args with
  | [x0, .pointer x1] => C.maps_Keys_1_map_string_string_string_string x0 x1 w (maps_Keys_1_map_string_string_string_string.Kt K)
  | _ => False
theorem maps_Keys_1_map_string_string_string_string.clok : OkC pr 113 maps_Keys_1_map_string_string_string_string.cl := by
  intro args K w h
  unfold maps_Keys_1_map_string_string_string_string.cl at h
  split at h
  · exact calls_group false mixed maps_Keys_1_map_string_string_string_string.FOk_ maps_Keys_1_map_string_string_string_string.fn rfl 1 (maps_Keys_1_map_string_string_string_string.B6 K) (Eq.mp (by kernel_rfl) h)
  · exact h.elim
abbrev bytealg_abigen_runtime_cmpstring.KT := Int → World → Prop
def bytealg_abigen_runtime_cmpstring.Kt (Kv : VW) : bytealg_abigen_runtime_cmpstring.KT := fun r0 w => Kv (.int .i64 r0) w
def bytealg_abigen_runtime_cmpstring (x0 : ByteArray) (x1 : ByteArray) (w : World) (K : bytealg_abigen_runtime_cmpstring.KT) : Prop := K (Go.Lib.compareBytes x0.data.toList x1.data.toList) w
def bytealg_abigen_runtime_cmpstring.cl : CL := fun args K w => match args with
  | [.string x0, .string x1] => C.bytealg_abigen_runtime_cmpstring x0 x1 w (bytealg_abigen_runtime_cmpstring.Kt K)
  | _ => False
theorem bytealg_abigen_runtime_cmpstring.clok : OkX pr 137 bytealg_abigen_runtime_cmpstring.cl := by
  intro args K w h
  unfold bytealg_abigen_runtime_cmpstring.cl at h
  split at h
  · rename_i x0 x1
    refine ⟨_, w, ?_, h⟩
    show (callFunc _ #[.string x0, .string x1]).run pr w = _
    rw [run_callFunc_extern Tryz.func137 (by kernel_rfl) (by kernel_rfl) (by kernel_rfl) (e := Extern.BytealgCompare.compare) (by kernel_rfl), Lib.run_compareString]
    rfl
  · exact h.elim
namespace bytealg_CompareString
abbrev KT := Int → World → Prop
def Kt (Kv : VW) : KT := fun n1 w => Kv (.int .i64 n1) w
noncomputable def bd : Code := bdy Tryz.f110
theorem fn : FnOk pr 110 8 Tryz.f110 := ⟨Tryz.func110, by kernel_rfl, Tryz.ntmps110, by kernel_rfl, by kernel_rfl⟩
def F : Clee := ofL [(137, C.bytealg_abigen_runtime_cmpstring.cl)]
theorem FOk_ : FOk pr F := FOk_consX C.bytealg_abigen_runtime_cmpstring.clok (FOk_nil)
def P1 (Kv : VW) : Post := bodyK false pr 8 Tryz.f110 Kv
end bytealg_CompareString
def bytealg_CompareString (a_2 : ByteArray) (b_3 : ByteArray) (w : World) (K : bytealg_CompareString.KT) : Prop :=
  C.bytealg_abigen_runtime_cmpstring a_2 b_3 w fun n4 w5 => K n4 w5
def bytealg_CompareString.cl : CL := fun args K w => match args with
  | [.string x0, .string x1] => C.bytealg_CompareString x0 x1 w (bytealg_CompareString.Kt K)
  | _ => False
theorem bytealg_CompareString.clok : OkC pr 110 bytealg_CompareString.cl := by
  intro args K w h
  unfold bytealg_CompareString.cl at h
  split at h
  · exact calls_last false mixed bytealg_CompareString.FOk_ bytealg_CompareString.fn rfl (Eq.mp (by kernel_rfl) h)
  · exact h.elim
namespace strings_Compare
abbrev KT := Int → World → Prop
def Kt (Kv : VW) : KT := fun n1 w => Kv (.int .i64 n1) w
noncomputable def bd : Code := bdy Tryz.f83
theorem fn : FnOk pr 83 8 Tryz.f83 := ⟨Tryz.func83, by kernel_rfl, Tryz.ntmps83, by kernel_rfl, by kernel_rfl⟩
def F : Clee := ofL [(110, C.bytealg_CompareString.cl)]
theorem FOk_ : FOk pr F := FOk_cons C.bytealg_CompareString.clok (FOk_nil)
def P1 (Kv : VW) : Post := bodyK false pr 8 Tryz.f83 Kv
end strings_Compare
def strings_Compare (a_2 : ByteArray) (b_3 : ByteArray) (w : World) (K : strings_Compare.KT) : Prop :=
  C.bytealg_CompareString a_2 b_3 w fun n4 w5 => K n4 w5
def strings_Compare.cl : CL := fun args K w => match args with
  | [.string x0, .string x1] => C.strings_Compare x0 x1 w (strings_Compare.Kt K)
  | _ => False
theorem strings_Compare.clok : OkC pr 83 strings_Compare.cl := by
  intro args K w h
  unfold strings_Compare.cl at h
  split at h
  · exact calls_last false mixed strings_Compare.FOk_ strings_Compare.fn rfl (Eq.mp (by kernel_rfl) h)
  · exact h.elim
namespace labels_Compare_1
abbrev KT := Int → World → Prop
def Kt (Kv : VW) : KT := fun n1 w => Kv (.int .i64 n1) w
noncomputable def bd : Code := bdy Tryz.f82
theorem fn : FnOk pr 82 19 Tryz.f82 := ⟨Tryz.func82, by kernel_rfl, Tryz.ntmps82, by kernel_rfl, by kernel_rfl⟩
def F : Clee := ofL [(83, C.strings_Compare.cl)]
theorem FOk_ : FOk pr F := FOk_cons C.strings_Compare.clok (FOk_nil)
def P1 (Kv : VW) : Post := bodyK false pr 19 Tryz.f82 Kv
end labels_Compare_1
def labels_Compare_1 (x_2 : ByteArray) (x_3 : ByteArray) (y_4 : ByteArray) (y_5 : ByteArray) (w : World) (K : labels_Compare_1.KT) : Prop :=
  G.new (.cells #[(.string x_2), (.string x_3)] 99) w fun p6 w7 => G.new (.cells #[(.string y_4), (.string y_5)] 99) w7 fun p8 w9 => G.cS p6 w9 fun s10 => G.cS p8 w9 fun s11 => C.strings_Compare s10 s11 w9 fun n12 w13 => G.cond (n12 != (0 : Int)) (K n12 w13) (G.cS (p6.add 1) w13 fun s14 => G.cS (p8.add 1) w13 fun s15 => C.strings_Compare s14 s15 w13 fun n16 w17 => K n16 w17)
def labels_Compare_1.cl : CL := fun args K w => match args with
  | [.agg ⟨[.string x0_0, .string x0_1]⟩, .agg ⟨[.string x1_0, .string x1_1]⟩] => C.labels_Compare_1 x0_0 x0_1 x1_0 x1_1 w (labels_Compare_1.Kt K)
  | _ => False
theorem labels_Compare_1.clok : OkC pr 82 labels_Compare_1.cl := by
  intro args K w h
  unfold labels_Compare_1.cl at h
  split at h
  · exact calls_last false mixed labels_Compare_1.FOk_ labels_Compare_1.fn rfl (Eq.mp (by kernel_rfl) h)
  · exact h.elim
namespace slices_CompareFunc_Label_Label_Label_Label
abbrev KT := Int → World → Prop
def Kt (Kv : VW) : KT := fun n1 w => Kv (.int .i64 n1) w
noncomputable def bd : Code := bdy Tryz.f81
theorem fn : FnOk pr 81 39 Tryz.f81 := ⟨Tryz.func81, by kernel_rfl, Tryz.ntmps81, by kernel_rfl, by kernel_rfl⟩
def F : Clee := ofL [(80, C.maps_Values_1_map_string_Active_string_Active.cl), (82, C.labels_Compare_1.cl), (113, C.maps_Keys_1_map_string_string_string_string.cl)]
theorem FOk_ : FOk pr F := FOk_cons C.maps_Values_1_map_string_Active_string_Active.clok (FOk_cons C.labels_Compare_1.clok (FOk_cons C.maps_Keys_1_map_string_string_string_string.clok (FOk_nil)))
def P1 (Kv : VW) : Post := bodyK false pr 39 Tryz.f81 Kv
@[reducible] def g2 : List SE := [.v 0 .sl, .v 1 .sl]
def S2 (K : KT) (s1_5 : Sl) (s2_6 : Sl) (w : World) : Prop :=
  G.cond (decide (((s1_5.n : Nat) : Int) < ((s2_6.n : Nat) : Int))) (K (-1 : Int) w) (K (0 : Int) w)
theorem S2_ok (Kv : VW) : OkT pr false none 39 g2 (S2 (Kt Kv)) (s2 (tl 1 bd)) (P1 Kv) := ok_last mixed FOk_ fun v ρ w => by kernel_rfl
def P3 (Kv : VW) : Post := next (get g2 (S2 (Kt Kv))) (P1 Kv)
def P4 (Kv : VW) : Post := inBlock 0 (P3 Kv)
@[reducible] def g5 : List SE := [.v 0 .sl, .v 1 .sl, .v 2 (.raw), .v 11 .sl, .v 12 (.int .i64), .v 13 (.int .i64)]
def P6 (Kv : VW) (kc5 : Cur g5) : Post := next (get g5 kc5) (P4 Kv)
def S7 (K : KT) (kc5 : Cur g5) (s1_19 : Sl) (s2_20 : Sl) (cmp_21 : Value) (l22 : Sl) (n23 : Int) (n24 : Int) (w : World) : Prop :=
  G.cond (decide (n24 < n23)) (G.ix l22.a l22.n n24 2 fun p25 => G.cS p25 w fun s26 => G.cS (p25.add 1) w fun s27 => G.new (.cells #[(.string (⟨#[]⟩ : ByteArray)), (.string (⟨#[]⟩ : ByteArray))] 99) w fun p28 w29 => G.st p28 (.string s26) w29 fun w30 => G.st (p28.add 1) (.string s27) w30 fun w31 => G.cond (decide (n24 ≥ ((s2_20.n : Nat) : Int))) (K (1 : Int) w31) (G.ix s2_20.a s2_20.n n24 2 fun p32 => G.cS p32 w31 fun s33 => G.cS (p32.add 1) w31 fun s34 => G.new (.cells #[(.string (⟨#[]⟩ : ByteArray)), (.string (⟨#[]⟩ : ByteArray))] 99) w31 fun p35 w36 => G.st p35 (.string s33) w36 fun w37 => G.st (p35.add 1) (.string s34) w37 fun w38 => G.cS p28 w38 fun s39 => G.cS (p28.add 1) w38 fun s40 => G.cS p35 w38 fun s41 => G.cS (p35.add 1) w38 fun s42 => G.callV pr F cmp_21 [(.agg #[(.string s39), (.string s40)]), (.agg #[(.string s41), (.string s42)])] w38 fun v43 w44 => G.isI .i64 v43 fun n45 => G.cond (n45 != (0 : Int)) (K n45 w44) (kc5 s1_19 s2_20 cmp_21 l22 n23 (IntKind.i64.wrap (n24 + (1 : Int))) w44))) (S2 K s1_19 s2_20 w)
theorem S7_ok (Kv : VW) (kc5 : Cur g5) : OkT pr false none 39 g5 (S7 (Kt Kv) kc5) (lp (blk (tl 1 (s1 (tl 1 bd))))) (P6 Kv kc5) := ok_last mixed FOk_ fun v ρ w => by kernel_rfl
def L5 (K : KT) : Cur g5 := loopC g5 (S7 K)
theorem L5_ok (Kv : VW) : OkT pr false none 39 g5 (L5 (Kt Kv)) (blk (tl 1 (s1 (tl 1 bd)))) (P4 Kv) := ok_loop (B := S7 (Kt Kv)) (by kernel_rfl) fun kc => S7_ok Kv kc
theorem L5_ind {K : KT} {s1_7 : Sl} {s2_8 : Sl} {cmp_9 : Value} {l10 : Sl} {n11 : Int} {n12 : Int} {w : World} (h : ∀ X : Cur g5, (∀ s1_7 s2_8 cmp_9 l10 n11 n12 w, S7 K X s1_7 s2_8 cmp_9 l10 n11 n12 w → X s1_7 s2_8 cmp_9 l10 n11 n12 w) → X s1_7 s2_8 cmp_9 l10 n11 n12 w) : L5 K s1_7 s2_8 cmp_9 l10 n11 n12 w := fun X hX => h X fun s1_7 s2_8 cmp_9 l10 n11 n12 w hb => hX (s1_7, s2_8, cmp_9, l10, n11, n12, ()) w hb
theorem B8 (Kv : VW) : OkT pr false none 39 g5 (L5 (Kt Kv)) (tl 1 (s1 (tl 1 bd))) (P3 Kv) := ok_block 0 (by kernel_rfl) (L5_ok Kv)
@[reducible] def g9 : List SE := [.v 0 .sl, .v 1 .sl, .v 2 (.raw)]
def S9 (K : KT) (s1_46 : Sl) (s2_47 : Sl) (cmp_48 : Value) (w : World) : Prop :=
  L5 K s1_46 s2_47 cmp_48 s1_46 ((s1_46.n : Nat) : Int) (0 : Int) w
theorem S9_ok (Kv : VW) : OkT pr false none 39 g9 (S9 (Kt Kv)) (s1 (tl 1 bd)) (P3 Kv) := ok_group mixed FOk_ 1 (B8 Kv) fun v ρ w => by kernel_rfl
theorem Q10 (Kv : VW) : OkT pr false none 39 g9 (S9 (Kt Kv)) (tl 1 bd) (P1 Kv) := ok_seq (by kernel_rfl) (S2_ok Kv) (S9_ok Kv)
end slices_CompareFunc_Label_Label_Label_Label
def slices_CompareFunc_Label_Label_Label_Label (s1_2 : Sl) (s2_3 : Sl) (cmp_4 : Value) (w : World) (K : slices_CompareFunc_Label_Label_Label_Label.KT) : Prop :=
  slices_CompareFunc_Label_Label_Label_Label.S9 K s1_2 s2_3 cmp_4 w
def slices_CompareFunc_Label_Label_Label_Label.cl : CL := fun args K w => match args with
  | [.slice x0_a x0_n x0_c, .slice x1_a x1_n x1_c, x2] => C.slices_CompareFunc_Label_Label_Label_Label ⟨x0_a, x0_n, x0_c⟩ ⟨x1_a, x1_n, x1_c⟩ x2 w (slices_CompareFunc_Label_Label_Label_Label.Kt K)
  | _ => False
theorem slices_CompareFunc_Label_Label_Label_Label.clok : OkC pr 81 slices_CompareFunc_Label_Label_Label_Label.cl := by
  intro args K w h
  unfold slices_CompareFunc_Label_Label_Label_Label.cl at h
  split at h
  · exact calls_group false mixed slices_CompareFunc_Label_Label_Label_Label.FOk_ slices_CompareFunc_Label_Label_Label_Label.fn rfl 1 (slices_CompareFunc_Label_Label_Label_Label.Q10 K) (Eq.mp (by kernel_rfl) h)
  · exact h.elim
namespace labels_Compare
abbrev KT := Int → World → Prop
def Kt (Kv : VW) : KT := fun n1 w => Kv (.int .i64 n1) w
noncomputable def bd : Code := bdy Tryz.f49
theorem fn : FnOk pr 49 8 Tryz.f49 := ⟨Tryz.func49, by kernel_rfl, Tryz.ntmps49, by kernel_rfl, by kernel_rfl⟩
def F : Clee := ofL [(81, C.slices_CompareFunc_Label_Label_Label_Label.cl)]
theorem FOk_ : FOk pr F := FOk_cons C.slices_CompareFunc_Label_Label_Label_Label.clok (FOk_nil)
def P1 (Kv : VW) : Post := bodyK false pr 8 Tryz.f49 Kv
end labels_Compare
def labels_Compare (a_2 : Sl) (b_3 : Sl) (w : World) (K : labels_Compare.KT) : Prop :=
  C.slices_CompareFunc_Label_Label_Label_Label a_2 b_3 (Value.func (.func 82) #[] #[]) w fun n4 w5 => K n4 w5
def labels_Compare.cl : CL := fun args K w => match args with
  | [.slice x0_a x0_n x0_c, .slice x1_a x1_n x1_c] => C.labels_Compare ⟨x0_a, x0_n, x0_c⟩ ⟨x1_a, x1_n, x1_c⟩ w (labels_Compare.Kt K)
  | _ => False
theorem labels_Compare.clok : OkC pr 49 labels_Compare.cl := by
  intro args K w h
  unfold labels_Compare.cl at h
  split at h
  · exact calls_last false mixed labels_Compare.FOk_ labels_Compare.fn rfl (Eq.mp (by kernel_rfl) h)
  · exact h.elim
namespace rules_Keeper_Active_1
abbrev KT := Int → World → Prop
def Kt (Kv : VW) : KT := fun n1 w => Kv (.int .i64 n1) w
noncomputable def bd : Code := bdy Tryz.f48
theorem fn : FnOk pr 48 10 Tryz.f48 := ⟨Tryz.func48, by kernel_rfl, Tryz.ntmps48, by kernel_rfl, by kernel_rfl⟩
def F : Clee := ofL [(49, C.labels_Compare.cl)]
theorem FOk_ : FOk pr F := FOk_cons C.labels_Compare.clok (FOk_nil)
def P1 (Kv : VW) : Post := bodyK false pr 10 Tryz.f48 Kv
end rules_Keeper_Active_1
def rules_Keeper_Active_1 (a_2 : Sl) (a_3 : Int) (a_4 : Int) (a_5 : Int) (a_6 : Int) (a_7 : Nat) (b_8 : Sl) (b_9 : Int) (b_10 : Int) (b_11 : Int) (b_12 : Int) (b_13 : Nat) (w : World) (K : rules_Keeper_Active_1.KT) : Prop :=
  G.new (.cells #[a_2.v, (.int .i64 a_3), (.int .i64 a_4), (.int .i64 a_5), (.int .i64 a_6), (.float .f64 a_7)] 41) w fun p14 w15 => G.new (.cells #[b_8.v, (.int .i64 b_9), (.int .i64 b_10), (.int .i64 b_11), (.int .i64 b_12), (.float .f64 b_13)] 41) w15 fun p16 w17 => G.cSl p14 w17 fun l18 => G.cSl p16 w17 fun l19 => C.labels_Compare l18 l19 w17 fun n20 w21 => K n20 w21
def rules_Keeper_Active_1.cl : CL := fun args K w => match args with
  | [.agg ⟨[.slice x0_0_a x0_0_n x0_0_c, .int .i64 x0_1, .int .i64 x0_2, .int .i64 x0_3, .int .i64 x0_4, .float .f64 x0_5]⟩, .agg ⟨[.slice x1_0_a x1_0_n x1_0_c, .int .i64 x1_1, .int .i64 x1_2, .int .i64 x1_3, .int .i64 x1_4, .float .f64 x1_5]⟩] => C.rules_Keeper_Active_1 ⟨x0_0_a, x0_0_n, x0_0_c⟩ x0_1 x0_2 x0_3 x0_4 x0_5 ⟨x1_0_a, x1_0_n, x1_0_c⟩ x1_1 x1_2 x1_3 x1_4 x1_5 w (rules_Keeper_Active_1.Kt K)
  | _ => False
theorem rules_Keeper_Active_1.clok : OkC pr 48 rules_Keeper_Active_1.cl := by
  intro args K w h
  unfold rules_Keeper_Active_1.cl at h
  split at h
  · exact calls_last false mixed rules_Keeper_Active_1.FOk_ rules_Keeper_Active_1.fn rfl (Eq.mp (by kernel_rfl) h)
  · exact h.elim
namespace rules_Record_1
abbrev KT := Int → World → Prop
def Kt (Kv : VW) : KT := fun n1 w => Kv (.int .i64 n1) w
noncomputable def bd : Code := bdy Tryz.f61
theorem fn : FnOk pr 61 10 Tryz.f61 := ⟨Tryz.func61, by kernel_rfl, Tryz.ntmps61, by kernel_rfl, by kernel_rfl⟩
def F : Clee := ofL [(49, C.labels_Compare.cl)]
theorem FOk_ : FOk pr F := FOk_cons C.labels_Compare.clok (FOk_nil)
def P1 (Kv : VW) : Post := bodyK false pr 10 Tryz.f61 Kv
end rules_Record_1
def rules_Record_1 (a_2 : Sl) (a_3 : Nat) (b_4 : Sl) (b_5 : Nat) (w : World) (K : rules_Record_1.KT) : Prop :=
  G.new (.cells #[a_2.v, (.float .f64 a_3)] 45) w fun p6 w7 => G.new (.cells #[b_4.v, (.float .f64 b_5)] 45) w7 fun p8 w9 => G.cSl p6 w9 fun l10 => G.cSl p8 w9 fun l11 => C.labels_Compare l10 l11 w9 fun n12 w13 => K n12 w13
def rules_Record_1.cl : CL := fun args K w => match args with
  | [.agg ⟨[.slice x0_0_a x0_0_n x0_0_c, .float .f64 x0_1]⟩, .agg ⟨[.slice x1_0_a x1_0_n x1_0_c, .float .f64 x1_1]⟩] => C.rules_Record_1 ⟨x0_0_a, x0_0_n, x0_0_c⟩ x0_1 ⟨x1_0_a, x1_0_n, x1_0_c⟩ x1_1 w (rules_Record_1.Kt K)
  | _ => False
theorem rules_Record_1.clok : OkC pr 61 rules_Record_1.cl := by
  intro args K w h
  unfold rules_Record_1.cl at h
  split at h
  · exact calls_last false mixed rules_Record_1.FOk_ rules_Record_1.fn rfl (Eq.mp (by kernel_rfl) h)
  · exact h.elim
namespace utf8_word_string
abbrev KT := Int → World → Prop
def Kt (Kv : VW) : KT := fun n1 w => Kv (.int .u64 n1) w
noncomputable def bd : Code := bdy Tryz.f89
theorem fn : FnOk pr 89 59 Tryz.f89 := ⟨Tryz.func89, by kernel_rfl, Tryz.ntmps89, by kernel_rfl, by kernel_rfl⟩
def F : Clee := ofL []
theorem FOk_ : FOk pr F := FOk_nil
def P1 (Kv : VW) : Post := bodyK false pr 59 Tryz.f89 Kv
end utf8_word_string
def utf8_word_string (s_2 : ByteArray) (w : World) (K : utf8_word_string.KT) : Prop :=
  G.ixS s_2 (0 : Int) fun n4 => G.ixS s_2 (1 : Int) fun n5 => G.nn (8 : Int) <| G.ixS s_2 (2 : Int) fun n6 => G.nn (16 : Int) <| G.ixS s_2 (3 : Int) fun n7 => G.nn (24 : Int) <| G.ixS s_2 (4 : Int) fun n8 => G.nn (32 : Int) <| G.ixS s_2 (5 : Int) fun n9 => G.nn (40 : Int) <| G.ixS s_2 (6 : Int) fun n10 => G.nn (48 : Int) <| G.ixS s_2 (7 : Int) fun n11 => G.nn (56 : Int) <| K (Go.bits .or .u64 (Go.bits .or .u64 (Go.bits .or .u64 (Go.bits .or .u64 (Go.bits .or .u64 (Go.bits .or .u64 (Go.bits .or .u64 (IntKind.u64.wrap n4) (shl .u64 (IntKind.u64.wrap n5) (8 : Int))) (shl .u64 (IntKind.u64.wrap n6) (16 : Int))) (shl .u64 (IntKind.u64.wrap n7) (24 : Int))) (shl .u64 (IntKind.u64.wrap n8) (32 : Int))) (shl .u64 (IntKind.u64.wrap n9) (40 : Int))) (shl .u64 (IntKind.u64.wrap n10) (48 : Int))) (shl .u64 (IntKind.u64.wrap n11) (56 : Int))) w.drew
def utf8_word_string.cl : CL := fun args K w => match args with
  | [.string x0] => C.utf8_word_string x0 w (utf8_word_string.Kt K)
  | _ => False
theorem utf8_word_string.clok : OkC pr 89 utf8_word_string.cl := by
  intro args K w h
  unfold utf8_word_string.cl at h
  split at h
  · exact calls_last false mixed utf8_word_string.FOk_ utf8_word_string.fn rfl (Eq.mp (by kernel_rfl) h)
  · exact h.elim
namespace utf8_ValidString
abbrev KT := Bool → World → Prop
def Kt (Kv : VW) : KT := fun b1 w => Kv (.bool b1) w
noncomputable def bd : Code := bdy Tryz.f62
theorem fn : FnOk pr 62 169 Tryz.f62 := ⟨Tryz.func62, by kernel_rfl, Tryz.ntmps62, by kernel_rfl, by kernel_rfl⟩
def F : Clee := ofL [(89, C.utf8_word_string.cl)]
theorem FOk_ : FOk pr F := FOk_cons C.utf8_word_string.clok (FOk_nil)
def P1 (Kv : VW) : Post := bodyK false pr 169 Tryz.f62 Kv
@[reducible] def g2 : List SE := []
def S2 (K : KT) (w : World) : Prop :=
  K true w
theorem S2_ok (Kv : VW) : OkT pr false none 169 g2 (S2 (Kt Kv)) (s2 (tl 1 bd)) (P1 Kv) := ok_last mixed FOk_ fun v ρ w => by kernel_rfl
def P3 (Kv : VW) : Post := next (get g2 (S2 (Kt Kv))) (P1 Kv)
def P4 (Kv : VW) : Post := inBlock 0 (P3 Kv)
@[reducible] def g5 : List SE := [.v 0 .str]
def P6 (Kv : VW) (kc5 : Cur g5) : Post := next (get g5 kc5) (P4 Kv)
def P7 (Kv : VW) (kc5 : Cur g5) : Post := inBlock 1 (P6 Kv kc5)
@[reducible] def g8 : List SE := [.v 0 .str, .v 3 (.int .u8)]
def S8 (K : KT) (kc5 : Cur g5) (s_4 : ByteArray) (s0_5 : Int) (w : World) : Prop :=
  G.ix (some ⟨2, 0, none⟩) 256 s0_5 1 fun p6 => G.cI .u8 p6 w fun n7 => G.nn (4 : Int) <| G.ix (some ⟨3, 0, none⟩) 16 (shr .u8 n7 (4 : Int)) 2 fun p8 => G.cI .u8 p8 w fun n9 => G.cI .u8 (p8.add 1) w fun n10 => G.new (.cells #[(.int .u8 (0 : Int)), (.int .u8 (0 : Int))] 147) w fun p11 w12 => G.st p11 (.int .u8 n9) w12 fun w13 => G.st (p11.add 1) (.int .u8 n10) w13 fun w14 => G.cond ((IntKind.i64.wrap (Go.bits .and .u8 n7 (7 : Int))) == (2 : Int)) (G.cond (decide (((s_4.size : Nat) : Int) < (2 : Int))) (K false w14.drew) (G.ixS s_4 (1 : Int) fun n15 => G.cI .u8 p11 w14.drew fun n16 => G.cond (decide (n15 < n16)) (K false w14.drew) (G.cI .u8 (p11.add 1) w14.drew fun n17 => G.ixS s_4 (1 : Int) fun n18 => G.cond (decide (n17 < n18)) (K false w14.drew) (G.slcS s_4 (2 : Int) ((s_4.size : Nat) : Int) fun s19 => kc5 s19 w14.drew)))) (G.cond ((IntKind.i64.wrap (Go.bits .and .u8 n7 (7 : Int))) == (3 : Int)) (G.cond (decide (((s_4.size : Nat) : Int) < (3 : Int))) (K false w14.drew) (G.ixS s_4 (1 : Int) fun n20 => G.cI .u8 p11 w14.drew fun n21 => G.cond (decide (n20 < n21)) (K false w14.drew) (G.cI .u8 (p11.add 1) w14.drew fun n22 => G.ixS s_4 (1 : Int) fun n23 => G.cond (decide (n22 < n23)) (K false w14.drew) (G.ixS s_4 (2 : Int) fun n24 => G.cond (decide (n24 < (128 : Int))) (K false w14.drew) (G.ixS s_4 (2 : Int) fun n25 => G.cond (decide ((191 : Int) < n25)) (K false w14.drew) (G.slcS s_4 (3 : Int) ((s_4.size : Nat) : Int) fun s26 => kc5 s26 w14.drew)))))) (G.cond ((IntKind.i64.wrap (Go.bits .and .u8 n7 (7 : Int))) == (4 : Int)) (G.cond (decide (((s_4.size : Nat) : Int) < (4 : Int))) (K false w14.drew) (G.ixS s_4 (1 : Int) fun n27 => G.cI .u8 p11 w14.drew fun n28 => G.cond (decide (n27 < n28)) (K false w14.drew) (G.cI .u8 (p11.add 1) w14.drew fun n29 => G.ixS s_4 (1 : Int) fun n30 => G.cond (decide (n29 < n30)) (K false w14.drew) (G.ixS s_4 (2 : Int) fun n31 => G.cond (decide (n31 < (128 : Int))) (K false w14.drew) (G.ixS s_4 (2 : Int) fun n32 => G.cond (decide ((191 : Int) < n32)) (K false w14.drew) (G.ixS s_4 (3 : Int) fun n33 => G.cond (decide (n33 < (128 : Int))) (K false w14.drew) (G.ixS s_4 (3 : Int) fun n34 => G.cond (decide ((191 : Int) < n34)) (K false w14.drew) (G.slcS s_4 (4 : Int) ((s_4.size : Nat) : Int) fun s35 => kc5 s35 w14.drew)))))))) (K false w14)))
theorem S8_ok (Kv : VW) (kc5 : Cur g5) : OkT pr false none 169 g8 (S8 (Kt Kv) kc5) (s2 (tl 1 (blk (tl 1 (lp (blk (s1 (tl 1 bd)))))))) (P7 Kv kc5) := ok_last mixed FOk_ fun v ρ w => by kernel_rfl
def P9 (Kv : VW) (kc5 : Cur g5) : Post := next (get g8 (S8 (Kt Kv) kc5)) (P7 Kv kc5)
def S10 (K : KT) (kc5 : Cur g5) (s_36 : ByteArray) (w : World) : Prop :=
  kc5 s_36 w
theorem S10_ok (Kv : VW) (kc5 : Cur g5) : OkT pr false none 169 g5 (S10 (Kt Kv) kc5) (s2 (tl 1 (c1 (tl 1 (s1 (tl 1 (blk (tl 1 (lp (blk (s1 (tl 1 bd)))))))))))) (P9 Kv kc5) := ok_last mixed FOk_ fun v ρ w => by kernel_rfl
def P11 (Kv : VW) (kc5 : Cur g5) : Post := next (get g5 (S10 (Kt Kv) kc5)) (P9 Kv kc5)
def P12 (Kv : VW) (kc5 : Cur g5) : Post := inBlock 2 (P11 Kv kc5)
def P14 (Kv : VW) (kc5 : Cur g5) (kc13 : Cur g5) : Post := next (get g5 kc13) (P12 Kv kc5)
def S15 (K : KT) (kc5 : Cur g5) (kc13 : Cur g5) (s_38 : ByteArray) (w : World) : Prop :=
  G.cond (decide (((s_38.size : Nat) : Int) > (32 : Int))) (G.slcS s_38 (8 : Int) ((s_38.size : Nat) : Int) fun s39 => G.slcS s_38 (16 : Int) ((s_38.size : Nat) : Int) fun s40 => G.slcS s_38 (24 : Int) ((s_38.size : Nat) : Int) fun s41 => C.utf8_word_string s_38 w.drew fun n42 w43 => C.utf8_word_string s39 w43 fun n44 w45 => C.utf8_word_string s40 w45 fun n46 w47 => C.utf8_word_string s41 w47 fun n48 w49 => G.cond ((Go.bits .and .u64 (Go.bits .or .u64 (Go.bits .or .u64 n42 n44) (Go.bits .or .u64 n46 n48)) (9259542123273814144 : Int)) == (0 : Int)) (G.slcS s_38 (32 : Int) ((s_38.size : Nat) : Int) fun s50 => kc13 s50 w49) (S10 K kc5 s_38 w49)) (S10 K kc5 s_38 w.drew)
theorem S15_ok (Kv : VW) (kc5 : Cur g5) (kc13 : Cur g5) : OkT pr false none 169 g5 (S15 (Kt Kv) kc5 kc13) (lp (blk (tl 1 (c1 (tl 2 (c1 (tl 1 (s1 (tl 1 (c1 (tl 1 (s1 (tl 1 (blk (tl 1 (lp (blk (s1 (tl 1 bd))))))))))))))))))) (P14 Kv kc5 kc13) := ok_last mixed FOk_ fun v ρ w => by kernel_rfl
def L13 (K : KT) (kc5 : Cur g5) : Cur g5 := loopC g5 (S15 K kc5)
theorem L13_ok (Kv : VW) (kc5 : Cur g5) : OkT pr false none 169 g5 (L13 (Kt Kv) kc5) (blk (tl 1 (c1 (tl 2 (c1 (tl 1 (s1 (tl 1 (c1 (tl 1 (s1 (tl 1 (blk (tl 1 (lp (blk (s1 (tl 1 bd)))))))))))))))))) (P12 Kv kc5) := ok_loop (B := S15 (Kt Kv) kc5) (by kernel_rfl) fun kc => S15_ok Kv kc5 kc
theorem L13_ind {K : KT} {kc5 : Cur g5} {s_37 : ByteArray} {w : World} (h : ∀ X : Cur g5, (∀ s_37 w, S15 K kc5 X s_37 w → X s_37 w) → X s_37 w) : L13 K kc5 s_37 w := fun X hX => h X fun s_37 w hb => hX (s_37, ()) w hb
theorem B16 (Kv : VW) (kc5 : Cur g5) : OkT pr false none 169 g5 (L13 (Kt Kv) kc5) (tl 1 (c1 (tl 2 (c1 (tl 1 (s1 (tl 1 (c1 (tl 1 (s1 (tl 1 (blk (tl 1 (lp (blk (s1 (tl 1 bd))))))))))))))))) (P11 Kv kc5) := ok_block 2 (by kernel_rfl) (L13_ok Kv kc5)
@[reducible] def g17 : List SE := [.v 0 .str, .v 39 .bool]
def S17 (K : KT) (kc5 : Cur g5) (s_51 : ByteArray) (b52 : Bool) (w : World) : Prop :=
  G.slcS s_51 (16 : Int) ((s_51.size : Nat) : Int) fun s53 => L13 K kc5 s53 w
theorem S17_ok (Kv : VW) (kc5 : Cur g5) : OkT pr false none 169 g17 (S17 (Kt Kv) kc5) (c1 (tl 2 (c1 (tl 1 (s1 (tl 1 (c1 (tl 1 (s1 (tl 1 (blk (tl 1 (lp (blk (s1 (tl 1 bd)))))))))))))))) (P11 Kv kc5) := ok_group mixed FOk_ 1 (B16 Kv kc5) fun v ρ w => by kernel_rfl
def S18 (K : KT) (kc5 : Cur g5) (s_54 : ByteArray) (b55 : Bool) (w : World) : Prop :=
  S10 K kc5 s_54 w
theorem S18_ok (Kv : VW) (kc5 : Cur g5) : OkT pr false none 169 g17 (S18 (Kt Kv) kc5) (c2 (tl 2 (c1 (tl 1 (s1 (tl 1 (c1 (tl 1 (s1 (tl 1 (blk (tl 1 (lp (blk (s1 (tl 1 bd)))))))))))))))) (P11 Kv kc5) := ok_last mixed FOk_ fun v ρ w => by kernel_rfl
def D19 (K : KT) (kc5 : Cur g5) (s_56 : ByteArray) (b57 : Bool) (w : World) : Prop :=
  G.cond b57 (S17 K kc5 s_56 b57 w) (S18 K kc5 s_56 b57 w)
theorem D19_ok (Kv : VW) (kc5 : Cur g5) : OkT pr false none 169 g17 (D19 (Kt Kv) kc5) (tl 2 (c1 (tl 1 (s1 (tl 1 (c1 (tl 1 (s1 (tl 1 (blk (tl 1 (lp (blk (s1 (tl 1 bd))))))))))))))) (P11 Kv kc5) :=
  ok_cond 39 (fun v => v.2.1) (by kernel_rfl) (fun v ρ => by kernel_rfl) (fun v w => by kernel_rfl) (S17_ok Kv kc5) (S18_ok Kv kc5)
@[reducible] def g20 : List SE := [.v 0 .str, .v 24 .bool]
def S20 (K : KT) (kc5 : Cur g5) (s_58 : ByteArray) (b59 : Bool) (w : World) : Prop :=
  G.slcS s_58 (8 : Int) ((s_58.size : Nat) : Int) fun s60 => G.cond (decide (((s60.size : Nat) : Int) > (16 : Int))) (G.slcS s60 (8 : Int) ((s60.size : Nat) : Int) fun s61 => C.utf8_word_string s60 w.drew fun n62 w63 => C.utf8_word_string s61 w63 fun n64 w65 => D19 K kc5 s60 ((Go.bits .and .u64 (Go.bits .or .u64 n62 n64) (9259542123273814144 : Int)) == (0 : Int)) w65) (D19 K kc5 s60 false w.drew)
theorem S20_ok (Kv : VW) (kc5 : Cur g5) : OkT pr false none 169 g20 (S20 (Kt Kv) kc5) (c1 (tl 1 (s1 (tl 1 (c1 (tl 1 (s1 (tl 1 (blk (tl 1 (lp (blk (s1 (tl 1 bd)))))))))))))) (P11 Kv kc5) := ok_group mixed FOk_ 2 (D19_ok Kv kc5) fun v ρ w => by kernel_rfl
def S21 (K : KT) (kc5 : Cur g5) (s_66 : ByteArray) (b67 : Bool) (w : World) : Prop :=
  S10 K kc5 s_66 w
theorem S21_ok (Kv : VW) (kc5 : Cur g5) : OkT pr false none 169 g20 (S21 (Kt Kv) kc5) (c2 (tl 1 (s1 (tl 1 (c1 (tl 1 (s1 (tl 1 (blk (tl 1 (lp (blk (s1 (tl 1 bd)))))))))))))) (P11 Kv kc5) := ok_last mixed FOk_ fun v ρ w => by kernel_rfl
def D22 (K : KT) (kc5 : Cur g5) (s_68 : ByteArray) (b69 : Bool) (w : World) : Prop :=
  G.cond b69 (S20 K kc5 s_68 b69 w) (S21 K kc5 s_68 b69 w)
theorem D22_ok (Kv : VW) (kc5 : Cur g5) : OkT pr false none 169 g20 (D22 (Kt Kv) kc5) (tl 1 (s1 (tl 1 (c1 (tl 1 (s1 (tl 1 (blk (tl 1 (lp (blk (s1 (tl 1 bd))))))))))))) (P11 Kv kc5) :=
  ok_cond 24 (fun v => v.2.1) (by kernel_rfl) (fun v ρ => by kernel_rfl) (fun v w => by kernel_rfl) (S20_ok Kv kc5) (S21_ok Kv kc5)
def S23 (K : KT) (kc5 : Cur g5) (s_70 : ByteArray) (w : World) : Prop :=
  G.cond (decide (((s_70.size : Nat) : Int) > (8 : Int))) (C.utf8_word_string s_70 w fun n71 w72 => D22 K kc5 s_70 ((Go.bits .and .u64 n71 (9259542123273814144 : Int)) == (0 : Int)) w72) (D22 K kc5 s_70 false w)
theorem S23_ok (Kv : VW) (kc5 : Cur g5) : OkT pr false none 169 g5 (S23 (Kt Kv) kc5) (s1 (tl 1 (c1 (tl 1 (s1 (tl 1 (blk (tl 1 (lp (blk (s1 (tl 1 bd)))))))))))) (P11 Kv kc5) := ok_group mixed FOk_ 1 (D22_ok Kv kc5) fun v ρ w => by kernel_rfl
theorem Q24 (Kv : VW) (kc5 : Cur g5) : OkT pr false none 169 g5 (S23 (Kt Kv) kc5) (tl 1 (c1 (tl 1 (s1 (tl 1 (blk (tl 1 (lp (blk (s1 (tl 1 bd))))))))))) (P9 Kv kc5) := ok_seq (by kernel_rfl) (S10_ok Kv kc5) (S23_ok Kv kc5)
@[reducible] def g25 : List SE := [.v 0 .str, .v 3 (.int .u8), .v 13 .bool]
def S25 (K : KT) (kc5 : Cur g5) (s_73 : ByteArray) (s0_74 : Int) (b75 : Bool) (w : World) : Prop :=
  G.slcS s_73 (1 : Int) ((s_73.size : Nat) : Int) fun s76 => S23 K kc5 s76 w
theorem S25_ok (Kv : VW) (kc5 : Cur g5) : OkT pr false none 169 g25 (S25 (Kt Kv) kc5) (c1 (tl 1 (s1 (tl 1 (blk (tl 1 (lp (blk (s1 (tl 1 bd)))))))))) (P9 Kv kc5) := ok_group mixed FOk_ 1 (Q24 Kv kc5) fun v ρ w => by kernel_rfl
def S26 (K : KT) (kc5 : Cur g5) (s_77 : ByteArray) (s0_78 : Int) (b79 : Bool) (w : World) : Prop :=
  S8 K kc5 s_77 s0_78 w
theorem S26_ok (Kv : VW) (kc5 : Cur g5) : OkT pr false none 169 g25 (S26 (Kt Kv) kc5) (c2 (tl 1 (s1 (tl 1 (blk (tl 1 (lp (blk (s1 (tl 1 bd)))))))))) (P9 Kv kc5) := ok_last mixed FOk_ fun v ρ w => by kernel_rfl
def D27 (K : KT) (kc5 : Cur g5) (s_80 : ByteArray) (s0_81 : Int) (b82 : Bool) (w : World) : Prop :=
  G.cond b82 (S25 K kc5 s_80 s0_81 b82 w) (S26 K kc5 s_80 s0_81 b82 w)
theorem D27_ok (Kv : VW) (kc5 : Cur g5) : OkT pr false none 169 g25 (D27 (Kt Kv) kc5) (tl 1 (s1 (tl 1 (blk (tl 1 (lp (blk (s1 (tl 1 bd))))))))) (P9 Kv kc5) :=
  ok_cond 13 (fun v => v.2.2.1) (by kernel_rfl) (fun v ρ => by kernel_rfl) (fun v w => by kernel_rfl) (S25_ok Kv kc5) (S26_ok Kv kc5)
def S28 (K : KT) (kc5 : Cur g5) (s_83 : ByteArray) (s0_84 : Int) (w : World) : Prop :=
  D27 K kc5 s_83 s0_84 (decide (s0_84 < (128 : Int))) w
theorem S28_ok (Kv : VW) (kc5 : Cur g5) : OkT pr false none 169 g8 (S28 (Kt Kv) kc5) (s1 (tl 1 (blk (tl 1 (lp (blk (s1 (tl 1 bd)))))))) (P9 Kv kc5) := ok_group mixed FOk_ 1 (D27_ok Kv kc5) fun v ρ w => by kernel_rfl
theorem Q29 (Kv : VW) (kc5 : Cur g5) : OkT pr false none 169 g8 (S28 (Kt Kv) kc5) (tl 1 (blk (tl 1 (lp (blk (s1 (tl 1 bd))))))) (P7 Kv kc5) := ok_seq (by kernel_rfl) (S8_ok Kv kc5) (S28_ok Kv kc5)
def S30 (K : KT) (kc5 : Cur g5) (s_85 : ByteArray) (w : World) : Prop :=
  G.ixS s_85 (0 : Int) fun n86 => S28 K kc5 s_85 n86 w
theorem S30_ok (Kv : VW) (kc5 : Cur g5) : OkT pr false none 169 g5 (S30 (Kt Kv) kc5) (blk (tl 1 (lp (blk (s1 (tl 1 bd)))))) (P7 Kv kc5) := ok_group mixed FOk_ 1 (Q29 Kv kc5) fun v ρ w => by kernel_rfl
theorem B31 (Kv : VW) (kc5 : Cur g5) : OkT pr false none 169 g5 (S30 (Kt Kv) kc5) (tl 1 (lp (blk (s1 (tl 1 bd))))) (P6 Kv kc5) := ok_block 1 (by kernel_rfl) (S30_ok Kv kc5)
def S32 (K : KT) (kc5 : Cur g5) (s_87 : ByteArray) (w : World) : Prop :=
  G.cond (decide (((s_87.size : Nat) : Int) > (0 : Int))) (S30 K kc5 s_87 w) (S2 K w)
theorem S32_ok (Kv : VW) (kc5 : Cur g5) : OkT pr false none 169 g5 (S32 (Kt Kv) kc5) (lp (blk (s1 (tl 1 bd)))) (P6 Kv kc5) := ok_group mixed FOk_ 1 (B31 Kv kc5) fun v ρ w => by kernel_rfl
def L5 (K : KT) : Cur g5 := loopC g5 (S32 K)
theorem L5_ok (Kv : VW) : OkT pr false none 169 g5 (L5 (Kt Kv)) (blk (s1 (tl 1 bd))) (P4 Kv) := ok_loop (B := S32 (Kt Kv)) (by kernel_rfl) fun kc => S32_ok Kv kc
theorem L5_ind {K : KT} {s_3 : ByteArray} {w : World} (h : ∀ X : Cur g5, (∀ s_3 w, S32 K X s_3 w → X s_3 w) → X s_3 w) : L5 K s_3 w := fun X hX => h X fun s_3 w hb => hX (s_3, ()) w hb
theorem B33 (Kv : VW) : OkT pr false none 169 g5 (L5 (Kt Kv)) (s1 (tl 1 bd)) (P3 Kv) := ok_block 0 (by kernel_rfl) (L5_ok Kv)
theorem Q34 (Kv : VW) : OkT pr false none 169 g5 (L5 (Kt Kv)) (tl 1 bd) (P1 Kv) := ok_seq (by kernel_rfl) (S2_ok Kv) (B33 Kv)
end utf8_ValidString
def utf8_ValidString (s_2 : ByteArray) (w : World) (K : utf8_ValidString.KT) : Prop :=
  utf8_ValidString.L5 K s_2 w
def utf8_ValidString.cl : CL := fun args K w => match args with
  | [.string x0] => C.utf8_ValidString x0 w (utf8_ValidString.Kt K)
  | _ => False
theorem utf8_ValidString.clok : OkC pr 62 utf8_ValidString.cl := by
  intro args K w h
  unfold utf8_ValidString.cl at h
  split at h
  · exact calls_group false mixed utf8_ValidString.FOk_ utf8_ValidString.fn rfl 1 (utf8_ValidString.Q34 K) (Eq.mp (by kernel_rfl) h)
  · exact h.elim
namespace labels_digit
abbrev KT := Bool → World → Prop
def Kt (Kv : VW) : KT := fun b1 w => Kv (.bool b1) w
noncomputable def bd : Code := bdy Tryz.f124
theorem fn : FnOk pr 124 9 Tryz.f124 := ⟨Tryz.func124, by kernel_rfl, Tryz.ntmps124, by kernel_rfl, by kernel_rfl⟩
def F : Clee := ofL []
theorem FOk_ : FOk pr F := FOk_nil
def P1 (Kv : VW) : Post := bodyK false pr 9 Tryz.f124 Kv
end labels_digit
def labels_digit (c_2 : Int) (w : World) (K : labels_digit.KT) : Prop :=
  G.cond (decide (c_2 ≥ (48 : Int))) (K (decide (c_2 ≤ (57 : Int))) w) (K false w)
def labels_digit.cl : CL := fun args K w => match args with
  | [.int .u8 x0] => C.labels_digit x0 w (labels_digit.Kt K)
  | _ => False
theorem labels_digit.clok : OkC pr 124 labels_digit.cl := by
  intro args K w h
  unfold labels_digit.cl at h
  split at h
  · exact calls_last false mixed labels_digit.FOk_ labels_digit.fn rfl (Eq.mp (by kernel_rfl) h)
  · exact h.elim
namespace labels_letter
abbrev KT := Bool → World → Prop
def Kt (Kv : VW) : KT := fun b1 w => Kv (.bool b1) w
noncomputable def bd : Code := bdy Tryz.f125
theorem fn : FnOk pr 125 21 Tryz.f125 := ⟨Tryz.func125, by kernel_rfl, Tryz.ntmps125, by kernel_rfl, by kernel_rfl⟩
def F : Clee := ofL []
theorem FOk_ : FOk pr F := FOk_nil
def P1 (Kv : VW) : Post := bodyK false pr 21 Tryz.f125 Kv
end labels_letter
def labels_letter (c_2 : Int) (w : World) (K : labels_letter.KT) : Prop :=
  G.cond (decide (c_2 ≥ (97 : Int))) (G.cond (decide (c_2 ≤ (122 : Int))) (K true w) (G.cond (decide (c_2 ≥ (65 : Int))) (G.cond (decide (c_2 ≤ (90 : Int))) (K true w) (K (c_2 == (95 : Int)) w)) (K (c_2 == (95 : Int)) w))) (G.cond (decide (c_2 ≥ (65 : Int))) (G.cond (decide (c_2 ≤ (90 : Int))) (K true w) (K (c_2 == (95 : Int)) w)) (K (c_2 == (95 : Int)) w))
def labels_letter.cl : CL := fun args K w => match args with
  | [.int .u8 x0] => C.labels_letter x0 w (labels_letter.Kt K)
  | _ => False
theorem labels_letter.clok : OkC pr 125 labels_letter.cl := by
  intro args K w h
  unfold labels_letter.cl at h
  split at h
  · exact calls_last false mixed labels_letter.FOk_ labels_letter.fn rfl (Eq.mp (by kernel_rfl) h)
  · exact h.elim
namespace labels_named
abbrev KT := Bool → World → Prop
def Kt (Kv : VW) : KT := fun b1 w => Kv (.bool b1) w
noncomputable def bd : Code := bdy Tryz.f90
theorem fn : FnOk pr 90 46 Tryz.f90 := ⟨Tryz.func90, by kernel_rfl, Tryz.ntmps90, by kernel_rfl, by kernel_rfl⟩
def F : Clee := ofL [(124, C.labels_digit.cl), (125, C.labels_letter.cl)]
theorem FOk_ : FOk pr F := FOk_cons C.labels_digit.clok (FOk_cons C.labels_letter.clok (FOk_nil))
def P1 (Kv : VW) : Post := bodyK false pr 46 Tryz.f90 Kv
@[reducible] def g2 : List SE := []
def S2 (K : KT) (w : World) : Prop :=
  K true w
theorem S2_ok (Kv : VW) : OkT pr false none 46 g2 (S2 (Kt Kv)) (s2 (tl 2 bd)) (P1 Kv) := ok_last mixed FOk_ fun v ρ w => by kernel_rfl
def P3 (Kv : VW) : Post := next (get g2 (S2 (Kt Kv))) (P1 Kv)
def P4 (Kv : VW) : Post := inBlock 0 (P3 Kv)
@[reducible] def g5 : List SE := [.v 2 .bool, .v 23 .sl, .v 24 (.int .i64), .v 25 (.int .i64)]
def P6 (Kv : VW) (kc5 : Cur g5) : Post := next (get g5 kc5) (P4 Kv)
def S7 (K : KT) (kc5 : Cur g5) (colon_13 : Bool) (l14 : Sl) (n15 : Int) (n16 : Int) (w : World) : Prop :=
  G.cond (decide (n16 < n15)) (G.ix l14.a l14.n n16 1 fun p17 => G.cI .u8 p17 w fun n18 => C.labels_letter n18 w fun b19 w20 => G.cond (!b19) (C.labels_digit n18 w20 fun b21 w22 => G.cond (!b21) (G.cond colon_13 (G.cond (!(n18 == (58 : Int))) (K false w22) (kc5 colon_13 l14 n15 (IntKind.i64.wrap (n16 + (1 : Int))) w22)) (K false w22)) (kc5 colon_13 l14 n15 (IntKind.i64.wrap (n16 + (1 : Int))) w22)) (kc5 colon_13 l14 n15 (IntKind.i64.wrap (n16 + (1 : Int))) w20)) (S2 K w)
theorem S7_ok (Kv : VW) (kc5 : Cur g5) : OkT pr false none 46 g5 (S7 (Kt Kv) kc5) (lp (blk (tl 1 (s1 (tl 2 bd))))) (P6 Kv kc5) := ok_last mixed FOk_ fun v ρ w => by kernel_rfl
def L5 (K : KT) : Cur g5 := loopC g5 (S7 K)
theorem L5_ok (Kv : VW) : OkT pr false none 46 g5 (L5 (Kt Kv)) (blk (tl 1 (s1 (tl 2 bd)))) (P4 Kv) := ok_loop (B := S7 (Kt Kv)) (by kernel_rfl) fun kc => S7_ok Kv kc
theorem L5_ind {K : KT} {colon_5 : Bool} {l6 : Sl} {n7 : Int} {n8 : Int} {w : World} (h : ∀ X : Cur g5, (∀ colon_5 l6 n7 n8 w, S7 K X colon_5 l6 n7 n8 w → X colon_5 l6 n7 n8 w) → X colon_5 l6 n7 n8 w) : L5 K colon_5 l6 n7 n8 w := fun X hX => h X fun colon_5 l6 n7 n8 w hb => hX (colon_5, l6, n7, n8, ()) w hb
theorem B8 (Kv : VW) : OkT pr false none 46 g5 (L5 (Kt Kv)) (tl 1 (s1 (tl 2 bd))) (P3 Kv) := ok_block 0 (by kernel_rfl) (L5_ok Kv)
@[reducible] def g9 : List SE := [.v 0 .str, .v 2 .bool]
def S9 (K : KT) (s_23 : ByteArray) (colon_24 : Bool) (w : World) : Prop :=
  G.runSl pr (Go.convert 9 120 (.string s_23)) w fun l25 w26 => L5 K colon_24 l25 ((l25.n : Nat) : Int) (0 : Int) w26
theorem S9_ok (Kv : VW) : OkT pr false none 46 g9 (S9 (Kt Kv)) (s1 (tl 2 bd)) (P3 Kv) := ok_group mixed FOk_ 1 (B8 Kv) fun v ρ w => by kernel_rfl
theorem Q10 (Kv : VW) : OkT pr false none 46 g9 (S9 (Kt Kv)) (tl 2 bd) (P1 Kv) := ok_seq (by kernel_rfl) (S2_ok Kv) (S9_ok Kv)
end labels_named
def labels_named (s_2 : ByteArray) (most_3 : Int) (colon_4 : Bool) (w : World) (K : labels_named.KT) : Prop :=
  G.cond (s_2.toList == (⟨#[]⟩ : ByteArray).toList) (K false w) (G.cond (decide (((s_2.size : Nat) : Int) > most_3)) (K false w) (G.ixS s_2 (0 : Int) fun n27 => C.labels_digit n27 w fun b28 w29 => G.cond b28 (K false w29) (labels_named.S9 K s_2 colon_4 w29)))
def labels_named.cl : CL := fun args K w => match args with
  | [.string x0, .int .i64 x1, .bool x2] => C.labels_named x0 x1 x2 w (labels_named.Kt K)
  | _ => False
theorem labels_named.clok : OkC pr 90 labels_named.cl := by
  intro args K w h
  unfold labels_named.cl at h
  split at h
  · exact calls_group false mixed labels_named.FOk_ labels_named.fn rfl 2 (labels_named.Q10 K) (Eq.mp (by kernel_rfl) h)
  · exact h.elim
namespace labels_Metric
abbrev KT := Bool → World → Prop
def Kt (Kv : VW) : KT := fun b1 w => Kv (.bool b1) w
noncomputable def bd : Code := bdy Tryz.f63
theorem fn : FnOk pr 63 5 Tryz.f63 := ⟨Tryz.func63, by kernel_rfl, Tryz.ntmps63, by kernel_rfl, by kernel_rfl⟩
def F : Clee := ofL [(90, C.labels_named.cl)]
theorem FOk_ : FOk pr F := FOk_cons C.labels_named.clok (FOk_nil)
def P1 (Kv : VW) : Post := bodyK false pr 5 Tryz.f63 Kv
end labels_Metric
def labels_Metric (s_2 : ByteArray) (w : World) (K : labels_Metric.KT) : Prop :=
  C.labels_named s_2 (256 : Int) true w fun b3 w4 => K b3 w4
def labels_Metric.cl : CL := fun args K w => match args with
  | [.string x0] => C.labels_Metric x0 w (labels_Metric.Kt K)
  | _ => False
theorem labels_Metric.clok : OkC pr 63 labels_Metric.cl := by
  intro args K w h
  unfold labels_Metric.cl at h
  split at h
  · exact calls_last false mixed labels_Metric.FOk_ labels_Metric.fn rfl (Eq.mp (by kernel_rfl) h)
  · exact h.elim
namespace labels_Name
abbrev KT := Bool → World → Prop
def Kt (Kv : VW) : KT := fun b1 w => Kv (.bool b1) w
noncomputable def bd : Code := bdy Tryz.f91
theorem fn : FnOk pr 91 5 Tryz.f91 := ⟨Tryz.func91, by kernel_rfl, Tryz.ntmps91, by kernel_rfl, by kernel_rfl⟩
def F : Clee := ofL [(90, C.labels_named.cl)]
theorem FOk_ : FOk pr F := FOk_cons C.labels_named.clok (FOk_nil)
def P1 (Kv : VW) : Post := bodyK false pr 5 Tryz.f91 Kv
end labels_Name
def labels_Name (s_2 : ByteArray) (w : World) (K : labels_Name.KT) : Prop :=
  C.labels_named s_2 (64 : Int) false w fun b3 w4 => K b3 w4
def labels_Name.cl : CL := fun args K w => match args with
  | [.string x0] => C.labels_Name x0 w (labels_Name.Kt K)
  | _ => False
theorem labels_Name.clok : OkC pr 91 labels_Name.cl := by
  intro args K w h
  unfold labels_Name.cl at h
  split at h
  · exact calls_last false mixed labels_Name.FOk_ labels_Name.fn rfl (Eq.mp (by kernel_rfl) h)
  · exact h.elim
namespace labels_value
abbrev KT := Int → World → Prop
def Kt (Kv : VW) : KT := fun n1 w => Kv (.int .i64 n1) w
noncomputable def bd : Code := bdy Tryz.f92
theorem fn : FnOk pr 92 14 Tryz.f92 := ⟨Tryz.func92, by kernel_rfl, Tryz.ntmps92, by kernel_rfl, by kernel_rfl⟩
def F : Clee := ofL [(62, C.utf8_ValidString.cl)]
theorem FOk_ : FOk pr F := FOk_cons C.utf8_ValidString.clok (FOk_nil)
def P1 (Kv : VW) : Post := bodyK false pr 14 Tryz.f92 Kv
end labels_value
def labels_value (s_2 : ByteArray) (w : World) (K : labels_value.KT) : Prop :=
  G.cond (s_2.toList == (⟨#[]⟩ : ByteArray).toList) (K (41 : Int) w) (G.cond (decide (((s_2.size : Nat) : Int) > (256 : Int))) (K (4 : Int) w) (C.utf8_ValidString s_2 w fun b3 w4 => G.cond (!b3) (K (12 : Int) w4) (K (0 : Int) w4)))
def labels_value.cl : CL := fun args K w => match args with
  | [.string x0] => C.labels_value x0 w (labels_value.Kt K)
  | _ => False
theorem labels_value.clok : OkC pr 92 labels_value.cl := by
  intro args K w h
  unfold labels_value.cl at h
  split at h
  · exact calls_last false mixed labels_value.FOk_ labels_value.fn rfl (Eq.mp (by kernel_rfl) h)
  · exact h.elim
namespace labels_Right
abbrev KT := Int → Int → World → Prop
def Kt (Kv : VW) : KT := fun n1 n2 w => Kv (.tuple #[(.int .i64 n1), (.int .i64 n2)]) w
noncomputable def bd : Code := bdy Tryz.f64
theorem fn : FnOk pr 64 44 Tryz.f64 := ⟨Tryz.func64, by kernel_rfl, Tryz.ntmps64, by kernel_rfl, by kernel_rfl⟩
def F : Clee := ofL [(91, C.labels_Name.cl), (92, C.labels_value.cl)]
theorem FOk_ : FOk pr F := FOk_cons C.labels_Name.clok (FOk_cons C.labels_value.clok (FOk_nil))
def P1 (Kv : VW) : Post := bodyK false pr 44 Tryz.f64 Kv
@[reducible] def g2 : List SE := []
def S2 (K : KT) (w : World) : Prop :=
  K (0 : Int) (0 : Int) w
theorem S2_ok (Kv : VW) : OkT pr false none 44 g2 (S2 (Kt Kv)) (s2 (tl 2 bd)) (P1 Kv) := ok_last mixed FOk_ fun v ρ w => by kernel_rfl
def P3 (Kv : VW) : Post := next (get g2 (S2 (Kt Kv))) (P1 Kv)
def P4 (Kv : VW) : Post := inBlock 0 (P3 Kv)
@[reducible] def g5 : List SE := [.v 0 .sl, .v 10 .sl, .v 11 (.int .i64), .v 12 (.int .i64)]
def P6 (Kv : VW) (kc5 : Cur g5) : Post := next (get g5 kc5) (P4 Kv)
def S7 (K : KT) (kc5 : Cur g5) (l_12 : Sl) (l13 : Sl) (n14 : Int) (n15 : Int) (w : World) : Prop :=
  G.cond (decide (n15 < n14)) (G.ix l13.a l13.n n15 2 fun p16 => G.cS p16 w fun s17 => G.cS (p16.add 1) w fun s18 => G.new (.cells #[(.string (⟨#[]⟩ : ByteArray)), (.string (⟨#[]⟩ : ByteArray))] 99) w fun p19 w20 => G.st p19 (.string s17) w20 fun w21 => G.st (p19.add 1) (.string s18) w21 fun w22 => G.cS p19 w22 fun s23 => C.labels_Name s23 w22 fun b24 w25 => G.cond (!b24) (K (40 : Int) n15 w25) (G.cS (p19.add 1) w25 fun s26 => C.labels_value s26 w25 fun n27 w28 => G.cond (n27 != (0 : Int)) (K n27 n15 w28) (G.cond (decide (n15 > (0 : Int))) (G.cS p19 w28.drew fun s29 => G.ix l_12.a l_12.n (IntKind.i64.wrap (n15 - (1 : Int))) 2 fun p30 => G.cS p30 w28.drew fun s31 => G.cond ((Op.bytesLess s29.toList s31.toList) || (s29.toList == s31.toList)) (K (3 : Int) n15 w28.drew) (kc5 l_12 l13 n14 (IntKind.i64.wrap (n15 + (1 : Int))) w28.drew)) (kc5 l_12 l13 n14 (IntKind.i64.wrap (n15 + (1 : Int))) w28.drew)))) (S2 K w)
theorem S7_ok (Kv : VW) (kc5 : Cur g5) : OkT pr false none 44 g5 (S7 (Kt Kv) kc5) (lp (blk (tl 1 (s1 (tl 2 bd))))) (P6 Kv kc5) := ok_last mixed FOk_ fun v ρ w => by kernel_rfl
def L5 (K : KT) : Cur g5 := loopC g5 (S7 K)
theorem L5_ok (Kv : VW) : OkT pr false none 44 g5 (L5 (Kt Kv)) (blk (tl 1 (s1 (tl 2 bd)))) (P4 Kv) := ok_loop (B := S7 (Kt Kv)) (by kernel_rfl) fun kc => S7_ok Kv kc
theorem L5_ind {K : KT} {l_4 : Sl} {l5 : Sl} {n6 : Int} {n7 : Int} {w : World} (h : ∀ X : Cur g5, (∀ l_4 l5 n6 n7 w, S7 K X l_4 l5 n6 n7 w → X l_4 l5 n6 n7 w) → X l_4 l5 n6 n7 w) : L5 K l_4 l5 n6 n7 w := fun X hX => h X fun l_4 l5 n6 n7 w hb => hX (l_4, l5, n6, n7, ()) w hb
theorem B8 (Kv : VW) : OkT pr false none 44 g5 (L5 (Kt Kv)) (tl 1 (s1 (tl 2 bd))) (P3 Kv) := ok_block 0 (by kernel_rfl) (L5_ok Kv)
@[reducible] def g9 : List SE := [.v 0 .sl]
def S9 (K : KT) (l_32 : Sl) (w : World) : Prop :=
  L5 K l_32 l_32 ((l_32.n : Nat) : Int) (0 : Int) w
theorem S9_ok (Kv : VW) : OkT pr false none 44 g9 (S9 (Kt Kv)) (s1 (tl 2 bd)) (P3 Kv) := ok_group mixed FOk_ 1 (B8 Kv) fun v ρ w => by kernel_rfl
theorem Q10 (Kv : VW) : OkT pr false none 44 g9 (S9 (Kt Kv)) (tl 2 bd) (P1 Kv) := ok_seq (by kernel_rfl) (S2_ok Kv) (S9_ok Kv)
end labels_Right
def labels_Right (l_3 : Sl) (w : World) (K : labels_Right.KT) : Prop :=
  G.cond (decide (((l_3.n : Nat) : Int) > (16 : Int))) (K (8 : Int) (0 : Int) w) (labels_Right.S9 K l_3 w)
def labels_Right.cl : CL := fun args K w => match args with
  | [.slice x0_a x0_n x0_c] => C.labels_Right ⟨x0_a, x0_n, x0_c⟩ w (labels_Right.Kt K)
  | _ => False
theorem labels_Right.clok : OkC pr 64 labels_Right.cl := by
  intro args K w h
  unfold labels_Right.cl at h
  split at h
  · exact calls_group false mixed labels_Right.FOk_ labels_Right.fn rfl 2 (labels_Right.Q10 K) (Eq.mp (by kernel_rfl) h)
  · exact h.elim
namespace rules_span
abbrev KT := Bool → World → Prop
def Kt (Kv : VW) : KT := fun b1 w => Kv (.bool b1) w
noncomputable def bd : Code := bdy Tryz.f65
theorem fn : FnOk pr 65 9 Tryz.f65 := ⟨Tryz.func65, by kernel_rfl, Tryz.ntmps65, by kernel_rfl, by kernel_rfl⟩
def F : Clee := ofL []
theorem FOk_ : FOk pr F := FOk_nil
def P1 (Kv : VW) : Post := bodyK false pr 9 Tryz.f65 Kv
end rules_span
def rules_span (t_2 : Int) (w : World) (K : rules_span.KT) : Prop :=
  G.cond (decide (t_2 ≥ (0 : Int))) (K (decide (t_2 ≤ (1099511627776 : Int))) w) (K false w)
def rules_span.cl : CL := fun args K w => match args with
  | [.int .i64 x0] => C.rules_span x0 w (rules_span.Kt K)
  | _ => False
theorem rules_span.clok : OkC pr 65 rules_span.cl := by
  intro args K w h
  unfold rules_span.cl at h
  split at h
  · exact calls_last false mixed rules_span.FOk_ rules_span.fn rfl (Eq.mp (by kernel_rfl) h)
  · exact h.elim
namespace labels_Get
abbrev KT := ByteArray → World → Prop
def Kt (Kv : VW) : KT := fun s1 w => Kv (.string s1) w
noncomputable def bd : Code := bdy Tryz.f66
theorem fn : FnOk pr 66 20 Tryz.f66 := ⟨Tryz.func66, by kernel_rfl, Tryz.ntmps66, by kernel_rfl, by kernel_rfl⟩
def F : Clee := ofL []
theorem FOk_ : FOk pr F := FOk_nil
def P1 (Kv : VW) : Post := bodyK false pr 20 Tryz.f66 Kv
@[reducible] def g2 : List SE := []
def S2 (K : KT) (w : World) : Prop :=
  K (⟨#[]⟩ : ByteArray) w
theorem S2_ok (Kv : VW) : OkT pr false none 20 g2 (S2 (Kt Kv)) (s2 (tl 1 bd)) (P1 Kv) := ok_last mixed FOk_ fun v ρ w => by kernel_rfl
def P3 (Kv : VW) : Post := next (get g2 (S2 (Kt Kv))) (P1 Kv)
def P4 (Kv : VW) : Post := inBlock 0 (P3 Kv)
@[reducible] def g5 : List SE := [.v 1 .str, .v 7 .sl, .v 8 (.int .i64), .v 9 (.int .i64)]
def P6 (Kv : VW) (kc5 : Cur g5) : Post := next (get g5 kc5) (P4 Kv)
def S7 (K : KT) (kc5 : Cur g5) (name_12 : ByteArray) (l13 : Sl) (n14 : Int) (n15 : Int) (w : World) : Prop :=
  G.cond (decide (n15 < n14)) (G.ix l13.a l13.n n15 2 fun p16 => G.cS p16 w fun s17 => G.cS (p16.add 1) w fun s18 => G.new (.cells #[(.string (⟨#[]⟩ : ByteArray)), (.string (⟨#[]⟩ : ByteArray))] 99) w fun p19 w20 => G.st p19 (.string s17) w20 fun w21 => G.st (p19.add 1) (.string s18) w21 fun w22 => G.cS p19 w22 fun s23 => G.cond (s23.toList == name_12.toList) (G.cS (p19.add 1) w22 fun s24 => K s24 w22) (kc5 name_12 l13 n14 (IntKind.i64.wrap (n15 + (1 : Int))) w22)) (S2 K w)
theorem S7_ok (Kv : VW) (kc5 : Cur g5) : OkT pr false none 20 g5 (S7 (Kt Kv) kc5) (lp (blk (tl 1 (s1 (tl 1 bd))))) (P6 Kv kc5) := ok_last mixed FOk_ fun v ρ w => by kernel_rfl
def L5 (K : KT) : Cur g5 := loopC g5 (S7 K)
theorem L5_ok (Kv : VW) : OkT pr false none 20 g5 (L5 (Kt Kv)) (blk (tl 1 (s1 (tl 1 bd)))) (P4 Kv) := ok_loop (B := S7 (Kt Kv)) (by kernel_rfl) fun kc => S7_ok Kv kc
theorem L5_ind {K : KT} {name_4 : ByteArray} {l5 : Sl} {n6 : Int} {n7 : Int} {w : World} (h : ∀ X : Cur g5, (∀ name_4 l5 n6 n7 w, S7 K X name_4 l5 n6 n7 w → X name_4 l5 n6 n7 w) → X name_4 l5 n6 n7 w) : L5 K name_4 l5 n6 n7 w := fun X hX => h X fun name_4 l5 n6 n7 w hb => hX (name_4, l5, n6, n7, ()) w hb
theorem B8 (Kv : VW) : OkT pr false none 20 g5 (L5 (Kt Kv)) (tl 1 (s1 (tl 1 bd))) (P3 Kv) := ok_block 0 (by kernel_rfl) (L5_ok Kv)
@[reducible] def g9 : List SE := [.v 0 .sl, .v 1 .str]
def S9 (K : KT) (l_25 : Sl) (name_26 : ByteArray) (w : World) : Prop :=
  L5 K name_26 l_25 ((l_25.n : Nat) : Int) (0 : Int) w
theorem S9_ok (Kv : VW) : OkT pr false none 20 g9 (S9 (Kt Kv)) (s1 (tl 1 bd)) (P3 Kv) := ok_group mixed FOk_ 1 (B8 Kv) fun v ρ w => by kernel_rfl
theorem Q10 (Kv : VW) : OkT pr false none 20 g9 (S9 (Kt Kv)) (tl 1 bd) (P1 Kv) := ok_seq (by kernel_rfl) (S2_ok Kv) (S9_ok Kv)
end labels_Get
def labels_Get (l_2 : Sl) (name_3 : ByteArray) (w : World) (K : labels_Get.KT) : Prop :=
  labels_Get.S9 K l_2 name_3 w
def labels_Get.cl : CL := fun args K w => match args with
  | [.slice x0_a x0_n x0_c, .string x1] => C.labels_Get ⟨x0_a, x0_n, x0_c⟩ x1 w (labels_Get.Kt K)
  | _ => False
theorem labels_Get.clok : OkC pr 66 labels_Get.cl := by
  intro args K w h
  unfold labels_Get.cl at h
  split at h
  · exact calls_group false mixed labels_Get.FOk_ labels_Get.fn rfl 1 (labels_Get.Q10 K) (Eq.mp (by kernel_rfl) h)
  · exact h.elim
namespace rules_Rule
abbrev KT := Int → World → Prop
def Kt (Kv : VW) : KT := fun n1 w => Kv (.int .i64 n1) w
noncomputable def bd : Code := bdy Tryz.f31
theorem fn : FnOk pr 31 84 Tryz.f31 := ⟨Tryz.func31, by kernel_rfl, Tryz.ntmps31, by kernel_rfl, by kernel_rfl⟩
def F : Clee := ofL [(62, C.utf8_ValidString.cl), (63, C.labels_Metric.cl), (64, C.labels_Right.cl), (65, C.rules_span.cl), (66, C.labels_Get.cl)]
theorem FOk_ : FOk pr F := FOk_cons C.utf8_ValidString.clok (FOk_cons C.labels_Metric.clok (FOk_cons C.labels_Right.clok (FOk_cons C.rules_span.clok (FOk_cons C.labels_Get.clok (FOk_nil)))))
def P1 (Kv : VW) : Post := bodyK false pr 84 Tryz.f31 Kv
@[reducible] def g2 : List SE := [.v 1 .ptr, .v 3 .bool]
def S2 (K : KT) (r_16 : Option Addr) (named_17 : Bool) (w : World) : Prop :=
  G.ptr r_16 fun p18 => G.cSl (p18.add 5) w fun l19 => C.labels_Right l19 w fun n20 n21 w22 => G.cond (!named_17) (K (201 : Int) w22) (G.ptr r_16 fun p23 => G.cS (p23.add 2) w22 fun s24 => G.cond (decide (((s24.size : Nat) : Int) > (65536 : Int))) (K (201 : Int) w22) (G.ptr r_16 fun p25 => G.cI .i64 (p25.add 3) w22 fun n26 => C.rules_span n26 w22 fun b27 w28 => G.cond (!b27) (K (201 : Int) w28) (G.ptr r_16 fun p29 => G.cI .i64 (p29.add 4) w28 fun n30 => C.rules_span n30 w28 fun b31 w32 => G.cond (!b31) (K (201 : Int) w32) (G.cond (n20 != (0 : Int)) (K (201 : Int) w32) (G.ptr r_16 fun p33 => G.cSl (p33.add 5) w32 fun l34 => C.labels_Get l34 (⟨#[95, 95, 110, 97, 109, 101, 95, 95]⟩ : ByteArray) w32 fun s35 w36 => G.cond (!(s35.toList == (⟨#[]⟩ : ByteArray).toList)) (K (201 : Int) w36) (G.ptr r_16 fun p37 => G.cSl (p37.add 5) w36 fun l38 => C.labels_Get l38 (⟨#[97, 108, 101, 114, 116, 110, 97, 109, 101]⟩ : ByteArray) w36 fun s39 w40 => G.cond (!(s39.toList == (⟨#[]⟩ : ByteArray).toList)) (K (201 : Int) w40) (K (0 : Int) w40)))))))
theorem S2_ok (Kv : VW) : OkT pr false none 84 g2 (S2 (Kt Kv)) (tl 1 (tl 2 bd)) (P1 Kv) := ok_last mixed FOk_ fun v ρ w => by kernel_rfl
def S3 (K : KT) (r_41 : Option Addr) (named_42 : Bool) (w : World) : Prop :=
  G.ptr r_41 fun p43 => G.cB p43 w fun b44 => G.cond b44 (G.ptr r_41 fun p45 => G.cS (p45.add 1) w fun s46 => G.cond (decide (((s46.size : Nat) : Int) ≤ (64 : Int))) (G.ptr r_41 fun p47 => G.cS (p47.add 1) w fun s48 => C.labels_Metric s48 w fun b49 w50 => G.cond b49 (G.ptr r_41 fun p51 => G.cI .i64 (p51.add 3) w50 fun n52 => G.cond (n52 == (0 : Int)) (G.ptr r_41 fun p53 => G.cI .i64 (p53.add 4) w50 fun n54 => S2 K r_41 (n54 == (0 : Int)) w50) (S2 K r_41 false w50)) (S2 K r_41 false w50)) (S2 K r_41 false w)) (S2 K r_41 named_42 w)
theorem S3_ok (Kv : VW) : OkT pr false none 84 g2 (S3 (Kt Kv)) (tl 2 bd) (P1 Kv) := ok_group mixed FOk_ 1 (S2_ok Kv) fun v ρ w => by kernel_rfl
end rules_Rule
def rules_Rule (r_2 : Bool) (r_3 : ByteArray) (r_4 : ByteArray) (r_5 : Int) (r_6 : Int) (r_7 : Sl) (w : World) (K : rules_Rule.KT) : Prop :=
  G.new (.cells #[(.bool r_2), (.string r_3), (.string r_4), (.int .i64 r_5), (.int .i64 r_6), r_7.v] 24) w fun p55 w56 => G.cS (p55.add 1) w56 fun s57 => G.cond (decide (((s57.size : Nat) : Int) ≥ (1 : Int))) (G.cS (p55.add 1) w56 fun s58 => G.cond (decide (((s58.size : Nat) : Int) ≤ (256 : Int))) (G.cS (p55.add 1) w56 fun s59 => C.utf8_ValidString s59 w56 fun b60 w61 => rules_Rule.S3 K (some p55) b60 w61) (rules_Rule.S3 K (some p55) false w56)) (rules_Rule.S3 K (some p55) false w56)
def rules_Rule.cl : CL := fun args K w => match args with
  | [.agg ⟨[.bool x0_0, .string x0_1, .string x0_2, .int .i64 x0_3, .int .i64 x0_4, .slice x0_5_a x0_5_n x0_5_c]⟩] => C.rules_Rule x0_0 x0_1 x0_2 x0_3 x0_4 ⟨x0_5_a, x0_5_n, x0_5_c⟩ w (rules_Rule.Kt K)
  | _ => False
theorem rules_Rule.clok : OkC pr 31 rules_Rule.cl := by
  intro args K w h
  unfold rules_Rule.cl at h
  split at h
  · exact calls_group false mixed rules_Rule.FOk_ rules_Rule.fn rfl 2 (rules_Rule.S3_ok K) (Eq.mp (by kernel_rfl) h)
  · exact h.elim
namespace labels_right
abbrev KT := Int → World → Prop
def Kt (Kv : VW) : KT := fun n1 w => Kv (.int .i64 n1) w
noncomputable def bd : Code := bdy Tryz.f101
theorem fn : FnOk pr 101 11 Tryz.f101 := ⟨Tryz.func101, by kernel_rfl, Tryz.ntmps101, by kernel_rfl, by kernel_rfl⟩
def F : Clee := ofL [(64, C.labels_Right.cl)]
theorem FOk_ : FOk pr F := FOk_cons C.labels_Right.clok (FOk_nil)
def P1 (Kv : VW) : Post := bodyK false pr 11 Tryz.f101 Kv
end labels_right
def labels_right (l_2 : Sl) (w : World) (K : labels_right.KT) : Prop :=
  C.labels_Right l_2 w fun n3 n4 w5 => K n3 w5
def labels_right.cl : CL := fun args K w => match args with
  | [.slice x0_a x0_n x0_c] => C.labels_right ⟨x0_a, x0_n, x0_c⟩ w (labels_right.Kt K)
  | _ => False
theorem labels_right.clok : OkC pr 101 labels_right.cl := by
  intro args K w h
  unfold labels_right.cl at h
  split at h
  · exact calls_last false mixed labels_right.FOk_ labels_right.fn rfl (Eq.mp (by kernel_rfl) h)
  · exact h.elim
namespace vint_joined
abbrev KT := Sl → World → Prop
def Kt (Kv : VW) : KT := fun l1 w => Kv l1.v w
noncomputable def bd : Code := bdy Tryz.f128
theorem fn : FnOk pr 128 17 Tryz.f128 := ⟨Tryz.func128, by kernel_rfl, Tryz.ntmps128, by kernel_rfl, by kernel_rfl⟩
def F : Clee := ofL []
theorem FOk_ : FOk pr F := FOk_nil
def P1 (Kv : VW) : Post := bodyK false pr 17 Tryz.f128 Kv
end vint_joined
def vint_joined (b_2 : Sl) (c_3 : Sl) (w : World) (K : vint_joined.KT) : Prop :=
  G.runSl pr (Instr.makeSlice 120 (.int .i64 (0 : Int)) (.int .i64 (IntKind.i64.wrap (((b_2.n : Nat) : Int) + ((c_3.n : Nat) : Int))))) w fun l4 w5 => G.runSl pr (Builtin.append_ #[120, 120] 120 #[l4.v, b_2.v]) w5 fun l6 w7 => G.runSl pr (Builtin.append_ #[120, 120] 120 #[l6.v, c_3.v]) w7 fun l8 w9 => K l8 w9
def vint_joined.cl : CL := fun args K w => match args with
  | [.slice x0_a x0_n x0_c, .slice x1_a x1_n x1_c] => C.vint_joined ⟨x0_a, x0_n, x0_c⟩ ⟨x1_a, x1_n, x1_c⟩ w (vint_joined.Kt K)
  | _ => False
theorem vint_joined.clok : OkC pr 128 vint_joined.cl := by
  intro args K w h
  unfold vint_joined.cl at h
  split at h
  · exact calls_last false mixed vint_joined.FOk_ vint_joined.fn rfl (Eq.mp (by kernel_rfl) h)
  · exact h.elim
namespace vint_PutU
abbrev KT := Sl → World → Prop
def Kt (Kv : VW) : KT := fun l1 w => Kv l1.v w
noncomputable def bd : Code := bdy Tryz.f102
theorem fn : FnOk pr 102 23 Tryz.f102 := ⟨Tryz.func102, by kernel_rfl, Tryz.ntmps102, by kernel_rfl, by kernel_rfl⟩
def F : Clee := ofL [(128, C.vint_joined.cl)]
theorem FOk_ : FOk pr F := FOk_cons C.vint_joined.clok (FOk_nil)
def P1 (Kv : VW) : Post := bodyK false pr 23 Tryz.f102 Kv
@[reducible] def g2 : List SE := [.v 0 .sl, .v 1 (.int .u64), .v 5 .sl]
def S2 (K : KT) (b_4 : Sl) (n_5 : Int) (c_6 : Sl) (w : World) : Prop :=
  G.new (.cells #[(.int .u8 (IntKind.u8.wrap n_5))] 5) w fun p7 w8 => G.runSl pr (Builtin.append_ #[120, 120] 120 #[c_6.v, (Sl.v (⟨some p7, 1, 1⟩ : Sl))]) w8 fun l9 w10 => C.vint_joined b_4 l9 w10 fun l11 w12 => K l11 w12
theorem S2_ok (Kv : VW) : OkT pr false none 23 g2 (S2 (Kt Kv)) (s2 (tl 2 bd)) (P1 Kv) := ok_last mixed FOk_ fun v ρ w => by kernel_rfl
def P3 (Kv : VW) : Post := next (get g2 (S2 (Kt Kv))) (P1 Kv)
def P4 (Kv : VW) : Post := inBlock 0 (P3 Kv)
def P6 (Kv : VW) (kc5 : Cur g2) : Post := next (get g2 kc5) (P4 Kv)
def S7 (K : KT) (kc5 : Cur g2) (b_19 : Sl) (n_20 : Int) (c_21 : Sl) (w : World) : Prop :=
  G.cond (decide (n_20 ≥ (128 : Int))) (G.new (.cells #[(.int .u8 (Go.bits .or .u8 (IntKind.u8.wrap n_20) (128 : Int)))] 5) w fun p22 w23 => G.runSl pr (Builtin.append_ #[120, 120] 120 #[c_21.v, (Sl.v (⟨some p22, 1, 1⟩ : Sl))]) w23 fun l24 w25 => G.nn (7 : Int) <| kc5 b_19 (shr .u64 n_20 (7 : Int)) l24 w25) (S2 K b_19 n_20 c_21 w)
theorem S7_ok (Kv : VW) (kc5 : Cur g2) : OkT pr false none 23 g2 (S7 (Kt Kv) kc5) (lp (blk (s1 (tl 2 bd)))) (P6 Kv kc5) := ok_last mixed FOk_ fun v ρ w => by kernel_rfl
def L5 (K : KT) : Cur g2 := loopC g2 (S7 K)
theorem L5_ok (Kv : VW) : OkT pr false none 23 g2 (L5 (Kt Kv)) (blk (s1 (tl 2 bd))) (P4 Kv) := ok_loop (B := S7 (Kt Kv)) (by kernel_rfl) fun kc => S7_ok Kv kc
theorem L5_ind {K : KT} {b_13 : Sl} {n_14 : Int} {c_15 : Sl} {w : World} (h : ∀ X : Cur g2, (∀ b_13 n_14 c_15 w, S7 K X b_13 n_14 c_15 w → X b_13 n_14 c_15 w) → X b_13 n_14 c_15 w) : L5 K b_13 n_14 c_15 w := fun X hX => h X fun b_13 n_14 c_15 w hb => hX (b_13, n_14, c_15, ()) w hb
theorem B8 (Kv : VW) : OkT pr false none 23 g2 (L5 (Kt Kv)) (s1 (tl 2 bd)) (P3 Kv) := ok_block 0 (by kernel_rfl) (L5_ok Kv)
theorem Q9 (Kv : VW) : OkT pr false none 23 g2 (L5 (Kt Kv)) (tl 2 bd) (P1 Kv) := ok_seq (by kernel_rfl) (S2_ok Kv) (B8 Kv)
end vint_PutU
def vint_PutU (b_2 : Sl) (n_3 : Int) (w : World) (K : vint_PutU.KT) : Prop :=
  vint_PutU.L5 K b_2 n_3 nilS w
def vint_PutU.cl : CL := fun args K w => match args with
  | [.slice x0_a x0_n x0_c, .int .u64 x1] => C.vint_PutU ⟨x0_a, x0_n, x0_c⟩ x1 w (vint_PutU.Kt K)
  | _ => False
theorem vint_PutU.clok : OkC pr 102 vint_PutU.cl := by
  intro args K w h
  unfold vint_PutU.cl at h
  split at h
  · exact calls_group false mixed vint_PutU.FOk_ vint_PutU.fn rfl 2 (vint_PutU.Q9 K) (Eq.mp (by kernel_rfl) h)
  · exact h.elim
namespace vint_PutText
abbrev KT := Sl → World → Prop
def Kt (Kv : VW) : KT := fun l1 w => Kv l1.v w
noncomputable def bd : Code := bdy Tryz.f103
theorem fn : FnOk pr 103 13 Tryz.f103 := ⟨Tryz.func103, by kernel_rfl, Tryz.ntmps103, by kernel_rfl, by kernel_rfl⟩
def F : Clee := ofL [(102, C.vint_PutU.cl), (128, C.vint_joined.cl)]
theorem FOk_ : FOk pr F := FOk_cons C.vint_PutU.clok (FOk_cons C.vint_joined.clok (FOk_nil))
def P1 (Kv : VW) : Post := bodyK false pr 13 Tryz.f103 Kv
end vint_PutText
def vint_PutText (b_2 : Sl) (s_3 : ByteArray) (w : World) (K : vint_PutText.KT) : Prop :=
  C.vint_PutU b_2 (IntKind.u64.wrap ((s_3.size : Nat) : Int)) w fun l4 w5 => G.runSl pr (Go.convert 9 120 (.string s_3)) w5 fun l6 w7 => C.vint_joined l4 l6 w7 fun l8 w9 => K l8 w9
def vint_PutText.cl : CL := fun args K w => match args with
  | [.slice x0_a x0_n x0_c, .string x1] => C.vint_PutText ⟨x0_a, x0_n, x0_c⟩ x1 w (vint_PutText.Kt K)
  | _ => False
theorem vint_PutText.clok : OkC pr 103 vint_PutText.cl := by
  intro args K w h
  unfold vint_PutText.cl at h
  split at h
  · exact calls_last false mixed vint_PutText.FOk_ vint_PutText.fn rfl (Eq.mp (by kernel_rfl) h)
  · exact h.elim
namespace labels_Put
abbrev KT := Sl → Int → World → Prop
def Kt (Kv : VW) : KT := fun l1 n2 w => Kv (.tuple #[l1.v, (.int .i64 n2)]) w
noncomputable def bd : Code := bdy Tryz.f73
theorem fn : FnOk pr 73 35 Tryz.f73 := ⟨Tryz.func73, by kernel_rfl, Tryz.ntmps73, by kernel_rfl, by kernel_rfl⟩
def F : Clee := ofL [(101, C.labels_right.cl), (102, C.vint_PutU.cl), (103, C.vint_PutText.cl)]
theorem FOk_ : FOk pr F := FOk_cons C.labels_right.clok (FOk_cons C.vint_PutU.clok (FOk_cons C.vint_PutText.clok (FOk_nil)))
def P1 (Kv : VW) : Post := bodyK false pr 35 Tryz.f73 Kv
@[reducible] def g2 : List SE := [.v 7 .sl]
def S2 (K : KT) (out_7 : Sl) (w : World) : Prop :=
  K out_7 (0 : Int) w
theorem S2_ok (Kv : VW) : OkT pr false none 35 g2 (S2 (Kt Kv)) (s2 (tl 3 bd)) (P1 Kv) := ok_last mixed FOk_ fun v ρ w => by kernel_rfl
def P3 (Kv : VW) : Post := next (get g2 (S2 (Kt Kv))) (P1 Kv)
def P4 (Kv : VW) : Post := inBlock 0 (P3 Kv)
@[reducible] def g5 : List SE := [.v 7 .sl, .v 20 .sl, .v 21 (.int .i64), .v 22 (.int .i64)]
def P6 (Kv : VW) (kc5 : Cur g5) : Post := next (get g5 kc5) (P4 Kv)
def S7 (K : KT) (kc5 : Cur g5) (out_16 : Sl) (l17 : Sl) (n18 : Int) (n19 : Int) (w : World) : Prop :=
  G.cond (decide (n19 < n18)) (G.ix l17.a l17.n n19 2 fun p20 => G.cS p20 w fun s21 => G.cS (p20.add 1) w fun s22 => G.new (.cells #[(.string (⟨#[]⟩ : ByteArray)), (.string (⟨#[]⟩ : ByteArray))] 99) w fun p23 w24 => G.st p23 (.string s21) w24 fun w25 => G.st (p23.add 1) (.string s22) w25 fun w26 => G.cS p23 w26.drew fun s27 => G.cS (p23.add 1) w26.drew fun s28 => C.vint_PutText out_16 s27 w26.drew fun l29 w30 => sameAt (p23.add 1) 1 w26.drew w30 ∧ (C.vint_PutText l29 s28 w30 fun l31 w32 => kc5 l31 l17 n18 (IntKind.i64.wrap (n19 + (1 : Int))) w32)) (S2 K out_16 w)
theorem S7_ok (Kv : VW) (kc5 : Cur g5) : OkT pr false none 35 g5 (S7 (Kt Kv) kc5) (lp (blk (tl 1 (s1 (tl 3 bd))))) (P6 Kv kc5) := ok_last mixed FOk_ fun v ρ w => by kernel_rfl
def L5 (K : KT) : Cur g5 := loopC g5 (S7 K)
theorem L5_ok (Kv : VW) : OkT pr false none 35 g5 (L5 (Kt Kv)) (blk (tl 1 (s1 (tl 3 bd)))) (P4 Kv) := ok_loop (B := S7 (Kt Kv)) (by kernel_rfl) fun kc => S7_ok Kv kc
theorem L5_ind {K : KT} {out_8 : Sl} {l9 : Sl} {n10 : Int} {n11 : Int} {w : World} (h : ∀ X : Cur g5, (∀ out_8 l9 n10 n11 w, S7 K X out_8 l9 n10 n11 w → X out_8 l9 n10 n11 w) → X out_8 l9 n10 n11 w) : L5 K out_8 l9 n10 n11 w := fun X hX => h X fun out_8 l9 n10 n11 w hb => hX (out_8, l9, n10, n11, ()) w hb
theorem B8 (Kv : VW) : OkT pr false none 35 g5 (L5 (Kt Kv)) (tl 1 (s1 (tl 3 bd))) (P3 Kv) := ok_block 0 (by kernel_rfl) (L5_ok Kv)
@[reducible] def g9 : List SE := [.v 1 .sl, .v 7 .sl]
def S9 (K : KT) (l_33 : Sl) (out_34 : Sl) (w : World) : Prop :=
  L5 K out_34 l_33 ((l_33.n : Nat) : Int) (0 : Int) w
theorem S9_ok (Kv : VW) : OkT pr false none 35 g9 (S9 (Kt Kv)) (s1 (tl 3 bd)) (P3 Kv) := ok_group mixed FOk_ 1 (B8 Kv) fun v ρ w => by kernel_rfl
theorem Q10 (Kv : VW) : OkT pr false none 35 g9 (S9 (Kt Kv)) (tl 3 bd) (P1 Kv) := ok_seq (by kernel_rfl) (S2_ok Kv) (S9_ok Kv)
end labels_Put
def labels_Put (b_3 : Sl) (l_4 : Sl) (w : World) (K : labels_Put.KT) : Prop :=
  C.labels_right l_4 w fun n35 w36 => G.cond (n35 != (0 : Int)) (K nilS n35 w36) (C.vint_PutU b_3 (IntKind.u64.wrap ((l_4.n : Nat) : Int)) w36 fun l37 w38 => labels_Put.S9 K l_4 l37 w38)
def labels_Put.cl : CL := fun args K w => match args with
  | [.slice x0_a x0_n x0_c, .slice x1_a x1_n x1_c] => C.labels_Put ⟨x0_a, x0_n, x0_c⟩ ⟨x1_a, x1_n, x1_c⟩ w (labels_Put.Kt K)
  | _ => False
theorem labels_Put.clok : OkC pr 73 labels_Put.cl := by
  intro args K w h
  unfold labels_Put.cl at h
  split at h
  · exact calls_group false mixed labels_Put.FOk_ labels_Put.fn rfl 3 (labels_Put.Q10 K) (Eq.mp (by kernel_rfl) h)
  · exact h.elim
namespace rules_key
abbrev KT := ByteArray → World → Prop
def Kt (Kv : VW) : KT := fun s1 w => Kv (.string s1) w
noncomputable def bd : Code := bdy Tryz.f39
theorem fn : FnOk pr 39 12 Tryz.f39 := ⟨Tryz.func39, by kernel_rfl, Tryz.ntmps39, by kernel_rfl, by kernel_rfl⟩
def F : Clee := ofL [(73, C.labels_Put.cl)]
theorem FOk_ : FOk pr F := FOk_cons C.labels_Put.clok (FOk_nil)
def P1 (Kv : VW) : Post := bodyK false pr 12 Tryz.f39 Kv
end rules_key
def rules_key (l_2 : Sl) (w : World) (K : rules_key.KT) : Prop :=
  C.labels_Put nilS l_2 w fun l3 n4 w5 => G.rdS pr (Conv.bytesToString l3.v) w5 fun s6 => K s6 w5
def rules_key.cl : CL := fun args K w => match args with
  | [.slice x0_a x0_n x0_c] => C.rules_key ⟨x0_a, x0_n, x0_c⟩ w (rules_key.Kt K)
  | _ => False
theorem rules_key.clok : OkC pr 39 rules_key.cl := by
  intro args K w h
  unfold rules_key.cl at h
  split at h
  · exact calls_last false mixed rules_key.FOk_ rules_key.fn rfl (Eq.mp (by kernel_rfl) h)
  · exact h.elim
namespace slices_Clone_Label_Label
abbrev KT := Sl → World → Prop
def Kt (Kv : VW) : KT := fun l1 w => Kv l1.v w
noncomputable def bd : Code := bdy Tryz.f50
theorem fn : FnOk pr 50 8 Tryz.f50 := ⟨Tryz.func50, by kernel_rfl, Tryz.ntmps50, by kernel_rfl, by kernel_rfl⟩
def F : Clee := ofL []
theorem FOk_ : FOk pr F := FOk_nil
def P1 (Kv : VW) : Post := bodyK false pr 8 Tryz.f50 Kv
end slices_Clone_Label_Label
def slices_Clone_Label_Label (s_2 : Sl) (w : World) (K : slices_Clone_Label_Label.KT) : Prop :=
  G.cond s_2.a.isNone (K nilS w) (G.new (.cells #[] 99) w fun p3 w4 => G.runSl pr (Builtin.append_ #[22, 22] 22 #[(Sl.v (⟨some p3, 0, 0⟩ : Sl)), s_2.v]) w4 fun l5 w6 => K l5 w6)
def slices_Clone_Label_Label.cl : CL := fun args K w => match args with
  | [.slice x0_a x0_n x0_c] => C.slices_Clone_Label_Label ⟨x0_a, x0_n, x0_c⟩ w (slices_Clone_Label_Label.Kt K)
  | _ => False
theorem slices_Clone_Label_Label.clok : OkC pr 50 slices_Clone_Label_Label.cl := by
  intro args K w h
  unfold slices_Clone_Label_Label.cl at h
  split at h
  · exact calls_last false mixed slices_Clone_Label_Label.FOk_ slices_Clone_Label_Label.fn rfl (Eq.mp (by kernel_rfl) h)
  · exact h.elim
namespace rules_can
abbrev KT := Bool → World → Prop
def Kt (Kv : VW) : KT := fun b1 w => Kv (.bool b1) w
noncomputable def bd : Code := bdy Tryz.f54
theorem fn : FnOk pr 54 76 Tryz.f54 := ⟨Tryz.func54, by kernel_rfl, Tryz.ntmps54, by kernel_rfl, by kernel_rfl⟩
def F : Clee := ofL [(64, C.labels_Right.cl)]
theorem FOk_ : FOk pr F := FOk_cons C.labels_Right.clok (FOk_nil)
def P1 (Kv : VW) : Post := bodyK false pr 76 Tryz.f54 Kv
end rules_can
def rules_can (a_2 : Sl) (a_3 : Int) (a_4 : Int) (a_5 : Int) (a_6 : Int) (a_7 : Nat) (last_8 : Int) (w : World) (K : rules_can.KT) : Prop :=
  G.new (.cells #[a_2.v, (.int .i64 a_3), (.int .i64 a_4), (.int .i64 a_5), (.int .i64 a_6), (.float .f64 a_7)] 41) w fun p16 w17 => G.cSl p16 w17 fun l18 => C.labels_Right l18 w17 fun n19 n20 w21 => G.cond (n19 != (0 : Int)) (K false w21) (G.cSl p16 w21 fun l22 => G.cond (((l22.n : Nat) : Int) == (0 : Int)) (K false w21) (G.cI .i64 (p16.add 2) w21 fun n23 => G.cond (decide (n23 < (0 : Int))) (K false w21) (G.cI .i64 (p16.add 2) w21 fun n24 => G.cond (decide (n24 > last_8)) (K false w21) (G.cI .i64 (p16.add 1) w21 fun n25 => G.cond (n25 == (1 : Int)) (G.cI .i64 (p16.add 1) w21 fun n26 => G.cI .i64 (p16.add 3) w21 fun n27 => G.cI .i64 (p16.add 4) w21 fun n28 => K ((n26 == (1 : Int)) && ((n27 == (-1 : Int)) && ((n28 == (-1 : Int)) && true))) w21) (G.cond (n25 == (2 : Int)) (G.cI .i64 (p16.add 3) w21 fun n29 => G.cI .i64 (p16.add 2) w21 fun n30 => G.cond (decide (n29 ≥ n30)) (G.cI .i64 (p16.add 3) w21 fun n31 => G.cond (decide (n31 ≤ last_8)) (G.cI .i64 (p16.add 4) w21 fun n32 => G.cond (n32 == (-1 : Int)) (K true w21) (G.cI .i64 (p16.add 4) w21 fun n33 => G.cI .i64 (p16.add 3) w21 fun n34 => G.cond (decide (n33 ≥ n34)) (G.cI .i64 (p16.add 4) w21 fun n35 => K (decide (n35 ≤ last_8)) w21) (K false w21))) (K false w21)) (K false w21)) (K false w21))))))
def rules_can.cl : CL := fun args K w => match args with
  | [.agg ⟨[.slice x0_0_a x0_0_n x0_0_c, .int .i64 x0_1, .int .i64 x0_2, .int .i64 x0_3, .int .i64 x0_4, .float .f64 x0_5]⟩, .int .i64 x1] => C.rules_can ⟨x0_0_a, x0_0_n, x0_0_c⟩ x0_1 x0_2 x0_3 x0_4 x0_5 x1 w (rules_can.Kt K)
  | _ => False
theorem rules_can.clok : OkC pr 54 rules_can.cl := by
  intro args K w h
  unfold rules_can.cl at h
  split at h
  · exact calls_last false mixed rules_can.FOk_ rules_can.fn rfl (Eq.mp (by kernel_rfl) h)
  · exact h.elim
namespace rules_Restore
abbrev KT := Option Addr → Int → World → Prop
def Kt (Kv : VW) : KT := fun p1 n2 w => Kv (.tuple #[(.pointer p1), (.int .i64 n2)]) w
noncomputable def bd : Code := bdy Tryz.f20
theorem fn : FnOk pr 20 82 Tryz.f20 := ⟨Tryz.func20, by kernel_rfl, Tryz.ntmps20, by kernel_rfl, by kernel_rfl⟩
def F : Clee := ofL [(31, C.rules_Rule.cl), (39, C.rules_key.cl), (50, C.slices_Clone_Label_Label.cl), (54, C.rules_can.cl)]
theorem FOk_ : FOk pr F := FOk_cons C.rules_Rule.clok (FOk_cons C.rules_key.clok (FOk_cons C.slices_Clone_Label_Label.clok (FOk_cons C.rules_can.clok (FOk_nil))))
def P1 (Kv : VW) : Post := bodyK false pr 82 Tryz.f20 Kv
@[reducible] def g2 : List SE := [.v 8 .ptr]
def S2 (K : KT) (k_19 : Option Addr) (w : World) : Prop :=
  K k_19 (0 : Int) w
theorem S2_ok (Kv : VW) : OkT pr false none 82 g2 (S2 (Kt Kv)) (s2 (s2 (tl 4 bd))) (P1 Kv) := ok_last mixed FOk_ fun v ρ w => by kernel_rfl
def P3 (Kv : VW) : Post := next (get g2 (S2 (Kt Kv))) (P1 Kv)
def P4 (Kv : VW) : Post := inBlock 3 (P3 Kv)
@[reducible] def g5 : List SE := [.v 8 .ptr, .v 50 .sl, .v 51 (.int .i64), .v 52 (.int .i64)]
def P6 (Kv : VW) (kc5 : Cur g5) : Post := next (get g5 kc5) (P4 Kv)
def S7 (K : KT) (kc5 : Cur g5) (k_28 : Option Addr) (l29 : Sl) (n30 : Int) (n31 : Int) (w : World) : Prop :=
  G.cond (decide (n31 < n30)) (G.ix l29.a l29.n n31 6 fun p32 => G.cSl p32 w fun l33 => G.cI .i64 (p32.add 1) w fun n34 => G.cI .i64 (p32.add 2) w fun n35 => G.cI .i64 (p32.add 3) w fun n36 => G.cI .i64 (p32.add 4) w fun n37 => G.cF .f64 (p32.add 5) w fun f38 => G.new (.cells #[nilS.v, (.int .i64 (0 : Int)), (.int .i64 (0 : Int)), (.int .i64 (0 : Int)), (.int .i64 (0 : Int)), (.float .f64 0)] 41) w fun p39 w40 => G.st p39 l33.v w40 fun w41 => G.st (p39.add 1) (.int .i64 n34) w41 fun w42 => G.st (p39.add 2) (.int .i64 n35) w42 fun w43 => G.st (p39.add 3) (.int .i64 n36) w43 fun w44 => G.st (p39.add 4) (.int .i64 n37) w44 fun w45 => G.st (p39.add 5) (.float .f64 f38) w45 fun w46 => G.ptr k_28 fun p47 => G.cM (p47.add 6) w46.drew fun m48 => G.cSl p39 w46.drew fun l49 => (C.rules_key l49 w46.drew fun s50 w51 => sameAt (p47.add 6) 1 w46.drew w51 ∧ ((G.rd2 pr (Instr.lookup 73 (.map m48) (.string s50) true) (fun v : Value => v) w51 fun v52 b54 => G.ag v52 6 fun c53 => G.vSl c53[0 + 0]? fun l55 => G.vI .i64 c53[0 + 1]? fun n56 => G.vI .i64 c53[0 + 2]? fun n57 => G.vI .i64 c53[0 + 3]? fun n58 => G.vI .i64 c53[0 + 4]? fun n59 => G.vF .f64 c53[0 + 5]? fun f60 => G.new (.cells #[nilS.v, (.int .i64 (0 : Int)), (.int .i64 (0 : Int)), (.int .i64 (0 : Int)), (.int .i64 (0 : Int)), (.float .f64 0)] 41) w51 fun p61 w62 => G.st p61 l55.v w62 fun w63 => G.st (p61.add 1) (.int .i64 n56) w63 fun w64 => G.st (p61.add 2) (.int .i64 n57) w64 fun w65 => G.st (p61.add 3) (.int .i64 n58) w65 fun w66 => G.st (p61.add 4) (.int .i64 n59) w66 fun w67 => G.st (p61.add 5) (.float .f64 f60) w67 fun w68 => G.cond b54 (K none (6 : Int) w68) (G.cSl p39 w68 fun l69 => C.slices_Clone_Label_Label l69 w68 fun l70 w71 => G.st p39 l70.v w71 fun w72 => G.ptr k_28 fun p73 => G.cM (p73.add 6) w72.drew fun m74 => G.cSl p39 w72.drew fun l75 => G.cSl p39 w72.drew fun l76 => G.cI .i64 (p39.add 1) w72.drew fun n77 => G.cI .i64 (p39.add 2) w72.drew fun n78 => G.cI .i64 (p39.add 3) w72.drew fun n79 => G.cI .i64 (p39.add 4) w72.drew fun n80 => G.cF .f64 (p39.add 5) w72.drew fun f81 => C.rules_key l75 w72.drew fun s82 w83 => sameAt (p73.add 6) 1 w72.drew w83 ∧ sameAt p39 6 w72.drew w83 ∧ (G.runU pr (Instr.mapUpdate 73 (.map m74) (.string s82) (.agg #[l76.v, (.int .i64 n77), (.int .i64 n78), (.int .i64 n79), (.int .i64 n80), (.float .f64 f81)])) w83 fun w84 => kc5 k_28 l29 n30 (IntKind.i64.wrap (n31 + (1 : Int))) w84))) ∧ (G.new (.cells #[nilS.v, (.int .i64 (0 : Int)), (.int .i64 (0 : Int)), (.int .i64 (0 : Int)), (.int .i64 (0 : Int)), (.float .f64 0)] 41) w51 fun p85 w86 => sameAt (p47.add 6) 1 w46.drew w86 ∧ (G.rd2 pr (Instr.lookup 73 (.map m48) (.string s50) true) (fun v : Value => v) w86 fun v87 b89 => G.ag v87 6 fun c88 => G.vSl c88[0 + 0]? fun l90 => G.vI .i64 c88[0 + 1]? fun n91 => G.vI .i64 c88[0 + 2]? fun n92 => G.vI .i64 c88[0 + 3]? fun n93 => G.vI .i64 c88[0 + 4]? fun n94 => G.vF .f64 c88[0 + 5]? fun f95 => G.st p85 l90.v w86 fun w96 => G.st (p85.add 1) (.int .i64 n91) w96 fun w97 => G.st (p85.add 2) (.int .i64 n92) w97 fun w98 => G.st (p85.add 3) (.int .i64 n93) w98 fun w99 => G.st (p85.add 4) (.int .i64 n94) w99 fun w100 => G.st (p85.add 5) (.float .f64 f95) w100 fun w101 => G.cond b89 (K none (6 : Int) w101) (G.cSl p39 w101 fun l102 => C.slices_Clone_Label_Label l102 w101 fun l103 w104 => G.st p39 l103.v w104 fun w105 => G.ptr k_28 fun p106 => G.cM (p106.add 6) w105.drew fun m107 => G.cSl p39 w105.drew fun l108 => G.cSl p39 w105.drew fun l109 => G.cI .i64 (p39.add 1) w105.drew fun n110 => G.cI .i64 (p39.add 2) w105.drew fun n111 => G.cI .i64 (p39.add 3) w105.drew fun n112 => G.cI .i64 (p39.add 4) w105.drew fun n113 => G.cF .f64 (p39.add 5) w105.drew fun f114 => C.rules_key l108 w105.drew fun s115 w116 => sameAt (p106.add 6) 1 w105.drew w116 ∧ sameAt p39 6 w105.drew w116 ∧ (G.runU pr (Instr.mapUpdate 73 (.map m107) (.string s115) (.agg #[l109.v, (.int .i64 n110), (.int .i64 n111), (.int .i64 n112), (.int .i64 n113), (.float .f64 f114)])) w116 fun w117 => kc5 k_28 l29 n30 (IntKind.i64.wrap (n31 + (1 : Int))) w117)))))) ∧ (G.new (.cells #[nilS.v, (.int .i64 (0 : Int)), (.int .i64 (0 : Int)), (.int .i64 (0 : Int)), (.int .i64 (0 : Int)), (.float .f64 0)] 41) w46.drew fun p118 w119 => sameAt (p47.add 6) 1 w46.drew w119 ∧ sameAt p39 1 w46.drew w119 ∧ (C.rules_key l49 w119 fun s120 w121 => sameAt (p47.add 6) 1 w46.drew w121 ∧ (G.rd2 pr (Instr.lookup 73 (.map m48) (.string s120) true) (fun v : Value => v) w121 fun v122 b124 => G.ag v122 6 fun c123 => G.vSl c123[0 + 0]? fun l125 => G.vI .i64 c123[0 + 1]? fun n126 => G.vI .i64 c123[0 + 2]? fun n127 => G.vI .i64 c123[0 + 3]? fun n128 => G.vI .i64 c123[0 + 4]? fun n129 => G.vF .f64 c123[0 + 5]? fun f130 => G.st p118 l125.v w121 fun w131 => G.st (p118.add 1) (.int .i64 n126) w131 fun w132 => G.st (p118.add 2) (.int .i64 n127) w132 fun w133 => G.st (p118.add 3) (.int .i64 n128) w133 fun w134 => G.st (p118.add 4) (.int .i64 n129) w134 fun w135 => G.st (p118.add 5) (.float .f64 f130) w135 fun w136 => G.cond b124 (K none (6 : Int) w136) (G.cSl p39 w136 fun l137 => C.slices_Clone_Label_Label l137 w136 fun l138 w139 => G.st p39 l138.v w139 fun w140 => G.ptr k_28 fun p141 => G.cM (p141.add 6) w140.drew fun m142 => G.cSl p39 w140.drew fun l143 => G.cSl p39 w140.drew fun l144 => G.cI .i64 (p39.add 1) w140.drew fun n145 => G.cI .i64 (p39.add 2) w140.drew fun n146 => G.cI .i64 (p39.add 3) w140.drew fun n147 => G.cI .i64 (p39.add 4) w140.drew fun n148 => G.cF .f64 (p39.add 5) w140.drew fun f149 => C.rules_key l143 w140.drew fun s150 w151 => sameAt (p141.add 6) 1 w140.drew w151 ∧ sameAt p39 6 w140.drew w151 ∧ (G.runU pr (Instr.mapUpdate 73 (.map m142) (.string s150) (.agg #[l144.v, (.int .i64 n145), (.int .i64 n146), (.int .i64 n147), (.int .i64 n148), (.float .f64 f149)])) w151 fun w152 => kc5 k_28 l29 n30 (IntKind.i64.wrap (n31 + (1 : Int))) w152)))))) (S2 K k_28 w)
theorem S7_ok (Kv : VW) (kc5 : Cur g5) : OkT pr false none 82 g5 (S7 (Kt Kv) kc5) (lp (blk (tl 1 (s1 (s2 (tl 4 bd)))))) (P6 Kv kc5) := ok_last mixed FOk_ fun v ρ w => by kernel_rfl
def L5 (K : KT) : Cur g5 := loopC g5 (S7 K)
theorem L5_ok (Kv : VW) : OkT pr false none 82 g5 (L5 (Kt Kv)) (blk (tl 1 (s1 (s2 (tl 4 bd))))) (P4 Kv) := ok_loop (B := S7 (Kt Kv)) (by kernel_rfl) fun kc => S7_ok Kv kc
theorem L5_ind {K : KT} {k_20 : Option Addr} {l21 : Sl} {n22 : Int} {n23 : Int} {w : World} (h : ∀ X : Cur g5, (∀ k_20 l21 n22 n23 w, S7 K X k_20 l21 n22 n23 w → X k_20 l21 n22 n23 w) → X k_20 l21 n22 n23 w) : L5 K k_20 l21 n22 n23 w := fun X hX => h X fun k_20 l21 n22 n23 w hb => hX (k_20, l21, n22, n23, ()) w hb
theorem B8 (Kv : VW) : OkT pr false none 82 g5 (L5 (Kt Kv)) (tl 1 (s1 (s2 (tl 4 bd)))) (P3 Kv) := ok_block 3 (by kernel_rfl) (L5_ok Kv)
@[reducible] def g9 : List SE := [.v 1 .sl, .v 8 .ptr]
def S9 (K : KT) (l_153 : Sl) (k_154 : Option Addr) (w : World) : Prop :=
  L5 K k_154 l_153 ((l_153.n : Nat) : Int) (0 : Int) w
theorem S9_ok (Kv : VW) : OkT pr false none 82 g9 (S9 (Kt Kv)) (s1 (s2 (tl 4 bd))) (P3 Kv) := ok_group mixed FOk_ 1 (B8 Kv) fun v ρ w => by kernel_rfl
theorem Q10 (Kv : VW) : OkT pr false none 82 g9 (S9 (Kt Kv)) (s2 (tl 4 bd)) (P1 Kv) := ok_seq (by kernel_rfl) (S2_ok Kv) (S9_ok Kv)
def P11 (Kv : VW) : Post := next (get g9 (S9 (Kt Kv))) (P1 Kv)
def P12 (Kv : VW) : Post := inBlock 1 (P11 Kv)
@[reducible] def g13 : List SE := [.v 1 .sl, .v 2 (.int .i64), .v 8 .ptr, .v 39 .sl, .v 40 (.int .i64), .v 41 (.int .i64)]
def P14 (Kv : VW) (kc13 : Cur g13) : Post := next (get g13 kc13) (P12 Kv)
def S15 (K : KT) (kc13 : Cur g13) (l_167 : Sl) (last_168 : Int) (k_169 : Option Addr) (l170 : Sl) (n171 : Int) (n172 : Int) (w : World) : Prop :=
  G.cond (decide (n172 < n171)) (G.ix l170.a l170.n n172 6 fun p173 => G.cSl p173 w fun l174 => G.cI .i64 (p173.add 1) w fun n175 => G.cI .i64 (p173.add 2) w fun n176 => G.cI .i64 (p173.add 3) w fun n177 => G.cI .i64 (p173.add 4) w fun n178 => G.cF .f64 (p173.add 5) w fun f179 => G.new (.cells #[nilS.v, (.int .i64 (0 : Int)), (.int .i64 (0 : Int)), (.int .i64 (0 : Int)), (.int .i64 (0 : Int)), (.float .f64 0)] 41) w fun p180 w181 => G.st p180 l174.v w181 fun w182 => G.st (p180.add 1) (.int .i64 n175) w182 fun w183 => G.st (p180.add 2) (.int .i64 n176) w183 fun w184 => G.st (p180.add 3) (.int .i64 n177) w184 fun w185 => G.st (p180.add 4) (.int .i64 n178) w185 fun w186 => G.st (p180.add 5) (.float .f64 f179) w186 fun w187 => G.cSl p180 w187 fun l188 => G.cI .i64 (p180.add 1) w187 fun n189 => G.cI .i64 (p180.add 2) w187 fun n190 => G.cI .i64 (p180.add 3) w187 fun n191 => G.cI .i64 (p180.add 4) w187 fun n192 => G.cF .f64 (p180.add 5) w187 fun f193 => C.rules_can l188 n189 n190 n191 n192 f193 last_168 w187 fun b194 w195 => G.cond (!b194) (K none (220 : Int) w195) (kc13 l_167 last_168 k_169 l170 n171 (IntKind.i64.wrap (n172 + (1 : Int))) w195)) (S9 K l_167 k_169 w)
theorem S15_ok (Kv : VW) (kc13 : Cur g13) : OkT pr false none 82 g13 (S15 (Kt Kv) kc13) (lp (blk (tl 1 (s1 (tl 4 bd))))) (P14 Kv kc13) := ok_last mixed FOk_ fun v ρ w => by kernel_rfl
def L13 (K : KT) : Cur g13 := loopC g13 (S15 K)
theorem L13_ok (Kv : VW) : OkT pr false none 82 g13 (L13 (Kt Kv)) (blk (tl 1 (s1 (tl 4 bd)))) (P12 Kv) := ok_loop (B := S15 (Kt Kv)) (by kernel_rfl) fun kc => S15_ok Kv kc
theorem L13_ind {K : KT} {l_155 : Sl} {last_156 : Int} {k_157 : Option Addr} {l158 : Sl} {n159 : Int} {n160 : Int} {w : World} (h : ∀ X : Cur g13, (∀ l_155 last_156 k_157 l158 n159 n160 w, S15 K X l_155 last_156 k_157 l158 n159 n160 w → X l_155 last_156 k_157 l158 n159 n160 w) → X l_155 last_156 k_157 l158 n159 n160 w) : L13 K l_155 last_156 k_157 l158 n159 n160 w := fun X hX => h X fun l_155 last_156 k_157 l158 n159 n160 w hb => hX (l_155, last_156, k_157, l158, n159, n160, ()) w hb
theorem B16 (Kv : VW) : OkT pr false none 82 g13 (L13 (Kt Kv)) (tl 1 (s1 (tl 4 bd))) (P11 Kv) := ok_block 1 (by kernel_rfl) (L13_ok Kv)
@[reducible] def g17 : List SE := [.v 1 .sl, .v 2 (.int .i64), .v 8 .ptr]
def S17 (K : KT) (l_196 : Sl) (last_197 : Int) (k_198 : Option Addr) (w : World) : Prop :=
  L13 K l_196 last_197 k_198 l_196 ((l_196.n : Nat) : Int) (0 : Int) w
theorem S17_ok (Kv : VW) : OkT pr false none 82 g17 (S17 (Kt Kv)) (s1 (tl 4 bd)) (P11 Kv) := ok_group mixed FOk_ 1 (B16 Kv) fun v ρ w => by kernel_rfl
theorem Q18 (Kv : VW) : OkT pr false none 82 g17 (S17 (Kt Kv)) (tl 4 bd) (P1 Kv) := ok_seq (by kernel_rfl) (Q10 Kv) (S17_ok Kv)
end rules_Restore
def rules_Restore (r_3 : Bool) (r_4 : ByteArray) (r_5 : ByteArray) (r_6 : Int) (r_7 : Int) (r_8 : Sl) (l_9 : Sl) (last_10 : Int) (w : World) (K : rules_Restore.KT) : Prop :=
  G.new (.cells #[(.bool r_3), (.string r_4), (.string r_5), (.int .i64 r_6), (.int .i64 r_7), r_8.v] 24) w fun p199 w200 => G.cB p199 w200 fun b201 => G.cS (p199.add 1) w200 fun s202 => G.cS (p199.add 2) w200 fun s203 => G.cI .i64 (p199.add 3) w200 fun n204 => G.cI .i64 (p199.add 4) w200 fun n205 => G.cSl (p199.add 5) w200 fun l206 => C.rules_Rule b201 s202 s203 n204 n205 l206 w200 fun n207 w208 => G.cond (n207 != (0 : Int)) (K none (201 : Int) w208) (G.cB p199 w208 fun b209 => G.cond b209 (K none (201 : Int) w208) (G.cond (decide (last_10 < (-1 : Int))) (K none (1 : Int) w208) (G.cond (decide (last_10 > (1125899906842624 : Int))) (K none (1 : Int) w208) (G.cSl (p199.add 5) w208 fun l210 => C.slices_Clone_Label_Label l210 w208 fun l211 w212 => G.st (p199.add 5) l211.v w212 fun w213 => G.cB p199 w213 fun b214 => G.cS (p199.add 1) w213 fun s215 => G.cS (p199.add 2) w213 fun s216 => G.cI .i64 (p199.add 3) w213 fun n217 => G.cI .i64 (p199.add 4) w213 fun n218 => G.cSl (p199.add 5) w213 fun l219 => G.runM pr (Instr.makeMap 73 none) w213 fun m220 w221 => G.new (.cells #[(.bool b214), (.string s215), (.string s216), (.int .i64 n217), (.int .i64 n218), l219.v, (.map m220), (.int .i64 last_10)] 75) w221 fun p222 w223 => rules_Restore.S17 K l_9 last_10 (some p222) w223))))
def rules_Restore.cl : CL := fun args K w => match args with
  | [.agg ⟨[.bool x0_0, .string x0_1, .string x0_2, .int .i64 x0_3, .int .i64 x0_4, .slice x0_5_a x0_5_n x0_5_c]⟩, .slice x1_a x1_n x1_c, .int .i64 x2] => C.rules_Restore x0_0 x0_1 x0_2 x0_3 x0_4 ⟨x0_5_a, x0_5_n, x0_5_c⟩ ⟨x1_a, x1_n, x1_c⟩ x2 w (rules_Restore.Kt K)
  | _ => False
theorem rules_Restore.clok : OkC pr 20 rules_Restore.cl := by
  intro args K w h
  unfold rules_Restore.cl at h
  split at h
  · exact calls_group false mixed rules_Restore.FOk_ rules_Restore.fn rfl 4 (rules_Restore.Q18 K) (Eq.mp (by kernel_rfl) h)
  · exact h.elim
namespace rules_New
abbrev KT := Option Addr → Int → World → Prop
def Kt (Kv : VW) : KT := fun p1 n2 w => Kv (.tuple #[(.pointer p1), (.int .i64 n2)]) w
noncomputable def bd : Code := bdy Tryz.f9
theorem fn : FnOk pr 9 8 Tryz.f9 := ⟨Tryz.func9, by kernel_rfl, Tryz.ntmps9, by kernel_rfl, by kernel_rfl⟩
def F : Clee := ofL [(20, C.rules_Restore.cl)]
theorem FOk_ : FOk pr F := FOk_cons C.rules_Restore.clok (FOk_nil)
def P1 (Kv : VW) : Post := bodyK false pr 8 Tryz.f9 Kv
end rules_New
def rules_New (r_3 : Bool) (r_4 : ByteArray) (r_5 : ByteArray) (r_6 : Int) (r_7 : Int) (r_8 : Sl) (w : World) (K : rules_New.KT) : Prop :=
  G.new (.cells #[(.bool r_3), (.string r_4), (.string r_5), (.int .i64 r_6), (.int .i64 r_7), r_8.v] 24) w fun p9 w10 => G.cB p9 w10 fun b11 => G.cS (p9.add 1) w10 fun s12 => G.cS (p9.add 2) w10 fun s13 => G.cI .i64 (p9.add 3) w10 fun n14 => G.cI .i64 (p9.add 4) w10 fun n15 => G.cSl (p9.add 5) w10 fun l16 => C.rules_Restore b11 s12 s13 n14 n15 l16 nilS (-1 : Int) w10 fun p17 n18 w19 => K p17 n18 w19
def rules_New.cl : CL := fun args K w => match args with
  | [.agg ⟨[.bool x0_0, .string x0_1, .string x0_2, .int .i64 x0_3, .int .i64 x0_4, .slice x0_5_a x0_5_n x0_5_c]⟩] => C.rules_New x0_0 x0_1 x0_2 x0_3 x0_4 ⟨x0_5_a, x0_5_n, x0_5_c⟩ w (rules_New.Kt K)
  | _ => False
theorem rules_New.clok : OkC pr 9 rules_New.cl := by
  intro args K w h
  unfold rules_New.cl at h
  split at h
  · exact calls_last false mixed rules_New.FOk_ rules_New.fn rfl (Eq.mp (by kernel_rfl) h)
  · exact h.elim
namespace slices_AppendSeq_Active_Active
abbrev KT := Sl → World → Prop
def Kt (Kv : VW) : KT := fun l1 w => Kv l1.v w
noncomputable def bd : Code := bdy Tryz.f108
theorem fn : FnOk pr 108 13 Tryz.f108 := ⟨Tryz.func108, by kernel_rfl, Tryz.ntmps108, by kernel_rfl, by kernel_rfl⟩
def F : Clee := ofL []
theorem FOk_ : FOk pr F := FOk_nil
def Fc : Clee := ofL [(48, C.rules_Keeper_Active_1.cl), (61, C.rules_Record_1.cl), (80, C.maps_Values_1_map_string_Active_string_Active.cl), (82, C.labels_Compare_1.cl), (113, C.maps_Keys_1_map_string_string_string_string.cl)]
theorem FcOk : FOkB pr Fc := FOkB_cons C.rules_Keeper_Active_1.clok (FOkB_cons C.rules_Record_1.clok (FOkB_cons C.maps_Values_1_map_string_Active_string_Active.clok (FOkB_cons C.labels_Compare_1.clok (FOkB_cons C.maps_Keys_1_map_string_string_string_string.clok (FOkB_nil)))))
def P1 (Kv : VW) : Post := bodyK true pr 13 Tryz.f108 Kv
@[reducible] def g2 : List SE := [.v 2 .ptr, .v 13 .raw]
def S2 (K : KT) (s_4 : Option Addr) (v5 : Value) (w : World) : Prop :=
  G.ptr s_4 fun p6 => G.cSl p6 w fun l7 => G.marks v5 w fun w8 => K l7 w8
theorem S2_ok (Kv : VW) : OkT pr true none 13 g2 (S2 (Kt Kv)) (s2 (tl 1 bd)) (P1 Kv) := ok_last mixed FOk_ fun v ρ w => by kernel_rfl
def P3 (Kv : VW) : Post := next (get g2 (S2 (Kt Kv))) (P1 Kv)
def P4 (Kv : VW) : Post := inBlock 0 (P3 Kv)
@[reducible] def g5 : List SE := [.v 2 .ptr, .v 6 (.raw), .v 13 .raw]
def P6 (Rr : Exit → World → Prop) : Post := RP Rr
@[reducible] def g7 : List SE := [.v 2 .ptr, .v 5 .ptr]
def S7 (Rr : Exit → World → Prop) (s_12 : Option Addr) (v_13 : Option Addr) (w : World) : Prop :=
  G.ptr s_12 fun p14 => G.cSl p14 w fun l15 => G.ptr v_13 fun p16 => G.cSl p16 w fun l17 => G.cI .i64 (p16.add 1) w fun n18 => G.cI .i64 (p16.add 2) w fun n19 => G.cI .i64 (p16.add 3) w fun n20 => G.cI .i64 (p16.add 4) w fun n21 => G.cF .f64 (p16.add 5) w fun f22 => G.new (.cells #[l17.v, (.int .i64 n18), (.int .i64 n19), (.int .i64 n20), (.int .i64 n21), (.float .f64 f22)] 41) w fun p23 w24 => G.runSl pr (Builtin.append_ #[31, 31] 31 #[l15.v, (Sl.v (⟨some p23, 1, 1⟩ : Sl))]) w24 fun l25 w26 => G.ptr s_12 fun p27 => G.st p27 l25.v w26 fun w28 => Rr .normal w28
theorem S7_ok (Rr : Exit → World → Prop) {ro : Option Nat} : OkT pr false ro 13 g7 (S7 Rr) (rbd (blk (tl 1 (s1 (tl 1 bd))))) (P6 Rr) := ok_last mixed FOk_ fun v ρ w => by kernel_rfl
def B_R5 (s_9 : Option Addr) (v10 : Value) (v11 : Value) (args : List Value) (wb : World) (bz : (World → Prop) → World → Prop) (Rr : Exit → World → Prop) : Prop := match args with
  | [.agg ⟨[.slice y_29_a y_29_n y_29_c, .int .i64 y_30, .int .i64 y_31, .int .i64 y_32, .int .i64 y_33, .float .f64 y_34]⟩] => G.new (.cells #[nilS.v, (.int .i64 (0 : Int)), (.int .i64 (0 : Int)), (.int .i64 (0 : Int)), (.int .i64 (0 : Int)), (.float .f64 0)] 41) wb fun p35 w36 => G.st p35 (⟨y_29_a, y_29_n, y_29_c⟩ : Sl).v w36 fun w37 => G.st (p35.add 1) (.int .i64 y_30) w37 fun w38 => G.st (p35.add 2) (.int .i64 y_31) w38 fun w39 => G.st (p35.add 3) (.int .i64 y_32) w39 fun w40 => G.st (p35.add 4) (.int .i64 y_33) w40 fun w41 => G.st (p35.add 5) (.float .f64 y_34) w41 fun w42 => bz (S7 Rr s_9 (some p35)) w42
  | _ => False
def O_R5 (K : KT) (s_9 : Option Addr) (v10 : Value) (v11 : Value) (e : Exit) (D : Nat) (w : World) : Prop := match e with
  | .normal => S2 K s_9 (pushMark v11 D) w
  | _ => False
def R5 (K : KT) (s_9 : Option Addr) (v10 : Value) (v11 : Value) (w : World) : Prop :=
  G.rangeW Fc v10 pr (B_R5 s_9 v10 v11) w (O_R5 K s_9 v10 v11)
theorem R5_ok (Kv : VW) : OkT pr true none 13 g5 (R5 (Kt Kv)) (blk (tl 1 (s1 (tl 1 bd)))) (P4 Kv) := by
  refine ok_rangeW mixed FOk_ FcOk (s := 6) (ps := #[7]) (Bt := fun v => B_R5 v.1 v.2.1 v.2.2.1) (kB := fun Rr => S7 Rr) (sgB := g7) (out := fun v => O_R5 (Kt Kv) v.1 v.2.1 v.2.2.1) (by kernel_rfl) (fun v ρ w => by kernel_rfl) ?_ (fun Rr l => S7_ok Rr) ?_
  · intro v ρ args w bz Rr h
    have h' : B_R5 v.1 v.2.1 v.2.2.1 args w bz Rr := h
    unfold B_R5 at h'
    split at h'
    · exact ⟨rfl, Eq.mp (by kernel_rfl) h'⟩
    · exact h'.elim
  · intro v ρ e D w h
    cases e with
    | normal => exact Eq.mp (by kernel_rfl) h
    | _ => exact h.elim
theorem B8 (Kv : VW) : OkT pr true none 13 g5 (R5 (Kt Kv)) (tl 1 (s1 (tl 1 bd))) (P3 Kv) := ok_block 0 (by kernel_rfl) (R5_ok Kv)
@[reducible] def g9 : List SE := [.v 1 (.raw), .v 2 .ptr, .v 13 .raw]
def S9 (K : KT) (seq_43 : Value) (s_44 : Option Addr) (v45 : Value) (w : World) : Prop :=
  R5 K s_44 seq_43 v45 w
theorem S9_ok (Kv : VW) : OkT pr true none 13 g9 (S9 (Kt Kv)) (s1 (tl 1 bd)) (P3 Kv) := ok_group mixed FOk_ 1 (B8 Kv) fun v ρ w => by kernel_rfl
theorem Q10 (Kv : VW) : OkT pr true none 13 g9 (S9 (Kt Kv)) (tl 1 bd) (P1 Kv) := ok_seq (by kernel_rfl) (S2_ok Kv) (S9_ok Kv)
end slices_AppendSeq_Active_Active
def slices_AppendSeq_Active_Active (s_2 : Sl) (seq_3 : Value) (w : World) (K : slices_AppendSeq_Active_Active.KT) : Prop :=
  G.new (.cells #[s_2.v] 31) w fun p46 w47 => slices_AppendSeq_Active_Active.S9 K seq_3 (some p46) undef w47
def slices_AppendSeq_Active_Active.cl : CL := fun args K w => match args with
  | [.slice x0_a x0_n x0_c, x1] => C.slices_AppendSeq_Active_Active ⟨x0_a, x0_n, x0_c⟩ x1 w (slices_AppendSeq_Active_Active.Kt K)
  | _ => False
theorem slices_AppendSeq_Active_Active.clok : OkC pr 108 slices_AppendSeq_Active_Active.cl := by
  intro args K w h
  unfold slices_AppendSeq_Active_Active.cl at h
  split at h
  · exact calls_group true mixed slices_AppendSeq_Active_Active.FOk_ slices_AppendSeq_Active_Active.fn rfl 1 (slices_AppendSeq_Active_Active.Q10 K) (Eq.mp (by kernel_rfl) h)
  · exact h.elim
namespace slices_Collect_Active
abbrev KT := Sl → World → Prop
def Kt (Kv : VW) : KT := fun l1 w => Kv l1.v w
noncomputable def bd : Code := bdy Tryz.f78
theorem fn : FnOk pr 78 5 Tryz.f78 := ⟨Tryz.func78, by kernel_rfl, Tryz.ntmps78, by kernel_rfl, by kernel_rfl⟩
def F : Clee := ofL [(108, C.slices_AppendSeq_Active_Active.cl)]
theorem FOk_ : FOk pr F := FOk_cons C.slices_AppendSeq_Active_Active.clok (FOk_nil)
def P1 (Kv : VW) : Post := bodyK false pr 5 Tryz.f78 Kv
end slices_Collect_Active
def slices_Collect_Active (seq_2 : Value) (w : World) (K : slices_Collect_Active.KT) : Prop :=
  C.slices_AppendSeq_Active_Active nilS seq_2 w fun l3 w4 => K l3 w4
def slices_Collect_Active.cl : CL := fun args K w => match args with
  | [x0] => C.slices_Collect_Active x0 w (slices_Collect_Active.Kt K)
  | _ => False
theorem slices_Collect_Active.clok : OkC pr 78 slices_Collect_Active.cl := by
  intro args K w h
  unfold slices_Collect_Active.cl at h
  split at h
  · exact calls_last false mixed slices_Collect_Active.FOk_ slices_Collect_Active.fn rfl (Eq.mp (by kernel_rfl) h)
  · exact h.elim
abbrev slices_SortFunc_Active_Active.KT := World → Prop
def slices_SortFunc_Active_Active.Kt (Kv : VW) : slices_SortFunc_Active_Active.KT := fun w => Kv (.tuple #[]) w
def slices_SortFunc_Active_Active (x0 : Sl) (x1 : Value) (w : World) (K : slices_SortFunc_Active_Active.KT) : Prop := Srt.sortF 6 x0 x1 w K
def slices_SortFunc_Active_Active.cl : CL := fun args K w => match args with
  | [.slice a n c, fv] => C.slices_SortFunc_Active_Active ⟨a, n, c⟩ fv w (slices_SortFunc_Active_Active.Kt K)
  | _ => False
theorem slices_SortFunc_Active_Active.clok : OkC pr 79 slices_SortFunc_Active_Active.cl := by
  intro args K w h
  unfold slices_SortFunc_Active_Active.cl at h
  split at h
  · exact Srt.sortA_ok h
  · exact h.elim
namespace slices_SortedFunc_Active
abbrev KT := Sl → World → Prop
def Kt (Kv : VW) : KT := fun l1 w => Kv l1.v w
noncomputable def bd : Code := bdy Tryz.f46
theorem fn : FnOk pr 46 12 Tryz.f46 := ⟨Tryz.func46, by kernel_rfl, Tryz.ntmps46, by kernel_rfl, by kernel_rfl⟩
def F : Clee := ofL [(78, C.slices_Collect_Active.cl), (79, C.slices_SortFunc_Active_Active.cl)]
theorem FOk_ : FOk pr F := FOk_cons C.slices_Collect_Active.clok (FOk_cons C.slices_SortFunc_Active_Active.clok (FOk_nil))
def P1 (Kv : VW) : Post := bodyK false pr 12 Tryz.f46 Kv
end slices_SortedFunc_Active
def slices_SortedFunc_Active (seq_2 : Value) (cmp_3 : Value) (w : World) (K : slices_SortedFunc_Active.KT) : Prop :=
  C.slices_Collect_Active seq_2 w fun l4 w5 => C.slices_SortFunc_Active_Active l4 cmp_3 w5 fun w6 => K l4 w6
def slices_SortedFunc_Active.cl : CL := fun args K w => match args with
  | [x0, x1] => C.slices_SortedFunc_Active x0 x1 w (slices_SortedFunc_Active.Kt K)
  | _ => False
theorem slices_SortedFunc_Active.clok : OkC pr 46 slices_SortedFunc_Active.cl := by
  intro args K w h
  unfold slices_SortedFunc_Active.cl at h
  split at h
  · exact calls_last false mixed slices_SortedFunc_Active.FOk_ slices_SortedFunc_Active.fn rfl (Eq.mp (by kernel_rfl) h)
  · exact h.elim
namespace maps_Values_map_string_Active_string_Active
abbrev KT := Value → World → Prop
def Kt (Kv : VW) : KT := fun v1 w => Kv v1 w
noncomputable def bd : Code := bdy Tryz.f47
theorem fn : FnOk pr 47 4 Tryz.f47 := ⟨Tryz.func47, by kernel_rfl, Tryz.ntmps47, by kernel_rfl, by kernel_rfl⟩
def F : Clee := ofL []
theorem FOk_ : FOk pr F := FOk_nil
def P1 (Kv : VW) : Post := bodyK false pr 4 Tryz.f47 Kv
end maps_Values_map_string_Active_string_Active
def maps_Values_map_string_Active_string_Active (m_2 : Option Nat) (w : World) (K : maps_Values_map_string_Active_string_Active.KT) : Prop :=
  G.new (.cells #[(.map m_2)] 73) w fun p3 w4 => K (Value.func (.func 80) #[] #[(.pointer (some p3))]) w4
def maps_Values_map_string_Active_string_Active.cl : CL := fun args K w => match args with
  | [.map x0] => C.maps_Values_map_string_Active_string_Active x0 w (maps_Values_map_string_Active_string_Active.Kt K)
  | _ => False
theorem maps_Values_map_string_Active_string_Active.clok : OkC pr 47 maps_Values_map_string_Active_string_Active.cl := by
  intro args K w h
  unfold maps_Values_map_string_Active_string_Active.cl at h
  split at h
  · exact calls_last false mixed maps_Values_map_string_Active_string_Active.FOk_ maps_Values_map_string_Active_string_Active.fn rfl (Eq.mp (by kernel_rfl) h)
  · exact h.elim
namespace rules_Keeper_Active
abbrev KT := Sl → World → Prop
def Kt (Kv : VW) : KT := fun l1 w => Kv l1.v w
noncomputable def bd : Code := bdy Tryz.f16
theorem fn : FnOk pr 16 30 Tryz.f16 := ⟨Tryz.func16, by kernel_rfl, Tryz.ntmps16, by kernel_rfl, by kernel_rfl⟩
def F : Clee := ofL [(46, C.slices_SortedFunc_Active.cl), (47, C.maps_Values_map_string_Active_string_Active.cl), (50, C.slices_Clone_Label_Label.cl)]
theorem FOk_ : FOk pr F := FOk_cons C.slices_SortedFunc_Active.clok (FOk_cons C.maps_Values_map_string_Active_string_Active.clok (FOk_cons C.slices_Clone_Label_Label.clok (FOk_nil)))
def P1 (Kv : VW) : Post := bodyK false pr 30 Tryz.f16 Kv
@[reducible] def g2 : List SE := [.v 3 .sl]
def S2 (K : KT) (l_4 : Sl) (w : World) : Prop :=
  K l_4 w
theorem S2_ok (Kv : VW) : OkT pr false none 30 g2 (S2 (Kt Kv)) (s2 (tl 3 bd)) (P1 Kv) := ok_last mixed FOk_ fun v ρ w => by kernel_rfl
def P3 (Kv : VW) : Post := next (get g2 (S2 (Kt Kv))) (P1 Kv)
def P4 (Kv : VW) : Post := inBlock 0 (P3 Kv)
@[reducible] def g5 : List SE := [.v 3 .sl, .v 14 (.int .i64), .v 15 (.int .i64)]
def P6 (Kv : VW) (kc5 : Cur g5) : Post := next (get g5 kc5) (P4 Kv)
def S7 (K : KT) (kc5 : Cur g5) (l_11 : Sl) (n12 : Int) (n13 : Int) (w : World) : Prop :=
  G.cond (decide (n13 < n12)) (G.ix l_11.a l_11.n n13 6 fun p14 => G.cSl p14 w fun l15 => C.slices_Clone_Label_Label l15 w fun l16 w17 => G.ix l_11.a l_11.n n13 6 fun p18 => G.st p18 l16.v w17 fun w19 => kc5 l_11 n12 (IntKind.i64.wrap (n13 + (1 : Int))) w19) (S2 K l_11 w)
theorem S7_ok (Kv : VW) (kc5 : Cur g5) : OkT pr false none 30 g5 (S7 (Kt Kv) kc5) (lp (blk (tl 1 (s1 (tl 3 bd))))) (P6 Kv kc5) := ok_last mixed FOk_ fun v ρ w => by kernel_rfl
def L5 (K : KT) : Cur g5 := loopC g5 (S7 K)
theorem L5_ok (Kv : VW) : OkT pr false none 30 g5 (L5 (Kt Kv)) (blk (tl 1 (s1 (tl 3 bd)))) (P4 Kv) := ok_loop (B := S7 (Kt Kv)) (by kernel_rfl) fun kc => S7_ok Kv kc
theorem L5_ind {K : KT} {l_5 : Sl} {n6 : Int} {n7 : Int} {w : World} (h : ∀ X : Cur g5, (∀ l_5 n6 n7 w, S7 K X l_5 n6 n7 w → X l_5 n6 n7 w) → X l_5 n6 n7 w) : L5 K l_5 n6 n7 w := fun X hX => h X fun l_5 n6 n7 w hb => hX (l_5, n6, n7, ()) w hb
theorem B8 (Kv : VW) : OkT pr false none 30 g5 (L5 (Kt Kv)) (tl 1 (s1 (tl 3 bd))) (P3 Kv) := ok_block 0 (by kernel_rfl) (L5_ok Kv)
def S9 (K : KT) (l_20 : Sl) (w : World) : Prop :=
  L5 K l_20 ((l_20.n : Nat) : Int) (0 : Int) w
theorem S9_ok (Kv : VW) : OkT pr false none 30 g2 (S9 (Kt Kv)) (s1 (tl 3 bd)) (P3 Kv) := ok_group mixed FOk_ 1 (B8 Kv) fun v ρ w => by kernel_rfl
theorem Q10 (Kv : VW) : OkT pr false none 30 g2 (S9 (Kt Kv)) (tl 3 bd) (P1 Kv) := ok_seq (by kernel_rfl) (S2_ok Kv) (S9_ok Kv)
end rules_Keeper_Active
def rules_Keeper_Active (k_2 : Option Addr) (w : World) (K : rules_Keeper_Active.KT) : Prop :=
  G.cond k_2.isNone (K nilS w) (G.ptr k_2 fun p21 => G.cM (p21.add 6) w fun m22 => C.maps_Values_map_string_Active_string_Active m22 w fun v23 w24 => C.slices_SortedFunc_Active v23 (Value.func (.func 48) #[] #[]) w24 fun l25 w26 => rules_Keeper_Active.S9 K l25 w26)
def rules_Keeper_Active.cl : CL := fun args K w => match args with
  | [.pointer x0] => C.rules_Keeper_Active x0 w (rules_Keeper_Active.Kt K)
  | _ => False
theorem rules_Keeper_Active.clok : OkC pr 16 rules_Keeper_Active.cl := by
  intro args K w h
  unfold rules_Keeper_Active.cl at h
  split at h
  · exact calls_group false mixed rules_Keeper_Active.FOk_ rules_Keeper_Active.fn rfl 3 (rules_Keeper_Active.Q10 K) (Eq.mp (by kernel_rfl) h)
  · exact h.elim
namespace rules_time
abbrev KT := Bool → World → Prop
def Kt (Kv : VW) : KT := fun b1 w => Kv (.bool b1) w
noncomputable def bd : Code := bdy Tryz.f35
theorem fn : FnOk pr 35 9 Tryz.f35 := ⟨Tryz.func35, by kernel_rfl, Tryz.ntmps35, by kernel_rfl, by kernel_rfl⟩
def F : Clee := ofL []
theorem FOk_ : FOk pr F := FOk_nil
def P1 (Kv : VW) : Post := bodyK false pr 9 Tryz.f35 Kv
end rules_time
def rules_time (t_2 : Int) (w : World) (K : rules_time.KT) : Prop :=
  G.cond (decide (t_2 ≥ (0 : Int))) (K (decide (t_2 ≤ (1125899906842624 : Int))) w) (K false w)
def rules_time.cl : CL := fun args K w => match args with
  | [.int .i64 x0] => C.rules_time x0 w (rules_time.Kt K)
  | _ => False
theorem rules_time.clok : OkC pr 35 rules_time.cl := by
  intro args K w h
  unfold rules_time.cl at h
  split at h
  · exact calls_last false mixed rules_time.FOk_ rules_time.fn rfl (Eq.mp (by kernel_rfl) h)
  · exact h.elim
namespace rules_fault_Unwrap
abbrev KT := Value → World → Prop
def Kt (Kv : VW) : KT := fun v1 w => Kv v1 w
noncomputable def bd : Code := bdy Tryz.f182
theorem fn : FnOk pr 182 4 Tryz.f182 := ⟨Tryz.func182, by kernel_rfl, Tryz.ntmps182, by kernel_rfl, by kernel_rfl⟩
def F : Clee := ofL []
theorem FOk_ : FOk pr F := FOk_nil
def P1 (Kv : VW) : Post := bodyK false pr 4 Tryz.f182 Kv
end rules_fault_Unwrap
def rules_fault_Unwrap (f_2 : Int) (w : World) (K : rules_fault_Unwrap.KT) : Prop :=
  G.new (.cells #[(.int .i64 f_2)] 116) w fun p3 w4 => G.cV (⟨0, 0, none⟩ : Addr) w4 fun v5 => K v5 w4
def rules_fault_Unwrap.cl : CL := fun args K w => match args with
  | [.agg ⟨[.int .i64 x0_0]⟩] => C.rules_fault_Unwrap x0_0 w (rules_fault_Unwrap.Kt K)
  | _ => False
theorem rules_fault_Unwrap.clok : OkC pr 182 rules_fault_Unwrap.cl := by
  intro args K w h
  unfold rules_fault_Unwrap.cl at h
  split at h
  · exact calls_last false mixed rules_fault_Unwrap.FOk_ rules_fault_Unwrap.fn rfl (Eq.mp (by kernel_rfl) h)
  · exact h.elim
namespace rules_wrong
abbrev KT := Value → World → Prop
def Kt (Kv : VW) : KT := fun v1 w => Kv v1 w
noncomputable def bd : Code := bdy Tryz.f70
theorem fn : FnOk pr 70 6 Tryz.f70 := ⟨Tryz.func70, by kernel_rfl, Tryz.ntmps70, by kernel_rfl, by kernel_rfl⟩
def F : Clee := ofL []
theorem FOk_ : FOk pr F := FOk_nil
def P1 (Kv : VW) : Post := bodyK false pr 6 Tryz.f70 Kv
end rules_wrong
def rules_wrong (e_2 : Int) (w : World) (K : rules_wrong.KT) : Prop :=
  K (Value.iface 116 (.agg #[(.int .i64 e_2)])) w
def rules_wrong.cl : CL := fun args K w => match args with
  | [.int .i64 x0] => C.rules_wrong x0 w (rules_wrong.Kt K)
  | _ => False
theorem rules_wrong.clok : OkC pr 70 rules_wrong.cl := by
  intro args K w h
  unfold rules_wrong.cl at h
  split at h
  · exact calls_last false mixed rules_wrong.FOk_ rules_wrong.fn rfl (Eq.mp (by kernel_rfl) h)
  · exact h.elim
namespace slices_AppendSeq_string_string
abbrev KT := Sl → World → Prop
def Kt (Kv : VW) : KT := fun l1 w => Kv l1.v w
noncomputable def bd : Code := bdy Tryz.f138
theorem fn : FnOk pr 138 13 Tryz.f138 := ⟨Tryz.func138, by kernel_rfl, Tryz.ntmps138, by kernel_rfl, by kernel_rfl⟩
def F : Clee := ofL []
theorem FOk_ : FOk pr F := FOk_nil
def Fc : Clee := ofL [(48, C.rules_Keeper_Active_1.cl), (61, C.rules_Record_1.cl), (80, C.maps_Values_1_map_string_Active_string_Active.cl), (82, C.labels_Compare_1.cl), (113, C.maps_Keys_1_map_string_string_string_string.cl)]
theorem FcOk : FOkB pr Fc := FOkB_cons C.rules_Keeper_Active_1.clok (FOkB_cons C.rules_Record_1.clok (FOkB_cons C.maps_Values_1_map_string_Active_string_Active.clok (FOkB_cons C.labels_Compare_1.clok (FOkB_cons C.maps_Keys_1_map_string_string_string_string.clok (FOkB_nil)))))
def P1 (Kv : VW) : Post := bodyK true pr 13 Tryz.f138 Kv
@[reducible] def g2 : List SE := [.v 2 .ptr, .v 13 .raw]
def S2 (K : KT) (s_4 : Option Addr) (v5 : Value) (w : World) : Prop :=
  G.ptr s_4 fun p6 => G.cSl p6 w fun l7 => G.marks v5 w fun w8 => K l7 w8
theorem S2_ok (Kv : VW) : OkT pr true none 13 g2 (S2 (Kt Kv)) (s2 (tl 1 bd)) (P1 Kv) := ok_last mixed FOk_ fun v ρ w => by kernel_rfl
def P3 (Kv : VW) : Post := next (get g2 (S2 (Kt Kv))) (P1 Kv)
def P4 (Kv : VW) : Post := inBlock 0 (P3 Kv)
@[reducible] def g5 : List SE := [.v 2 .ptr, .v 6 (.raw), .v 13 .raw]
def P6 (Rr : Exit → World → Prop) : Post := RP Rr
@[reducible] def g7 : List SE := [.v 2 .ptr, .v 5 .str]
def S7 (Rr : Exit → World → Prop) (s_12 : Option Addr) (v_13 : ByteArray) (w : World) : Prop :=
  G.ptr s_12 fun p14 => G.cSl p14 w fun l15 => G.new (.cells #[(.string v_13)] 9) w fun p16 w17 => G.runSl pr (Builtin.append_ #[88, 88] 88 #[l15.v, (Sl.v (⟨some p16, 1, 1⟩ : Sl))]) w17 fun l18 w19 => G.ptr s_12 fun p20 => G.st p20 l18.v w19 fun w21 => Rr .normal w21
theorem S7_ok (Rr : Exit → World → Prop) {ro : Option Nat} : OkT pr false ro 13 g7 (S7 Rr) (rbd (blk (tl 1 (s1 (tl 1 bd))))) (P6 Rr) := ok_last mixed FOk_ fun v ρ w => by kernel_rfl
def B_R5 (s_9 : Option Addr) (v10 : Value) (v11 : Value) (args : List Value) (wb : World) (Rr : Exit → World → Prop) : Prop := match args with
  | [.string y_22] => S7 Rr s_9 y_22 wb
  | _ => False
def O_R5 (K : KT) (s_9 : Option Addr) (v10 : Value) (v11 : Value) (e : Exit) (D : Nat) (w : World) : Prop := match e with
  | .normal => S2 K s_9 (pushMark v11 D) w
  | _ => False
def R5 (K : KT) (s_9 : Option Addr) (v10 : Value) (v11 : Value) (w : World) : Prop :=
  G.rangeF Fc v10 pr (B_R5 s_9 v10 v11) w (O_R5 K s_9 v10 v11)
theorem R5_ok (Kv : VW) : OkT pr true none 13 g5 (R5 (Kt Kv)) (blk (tl 1 (s1 (tl 1 bd)))) (P4 Kv) := by
  refine ok_range mixed FOk_ FcOk (s := 6) (ps := #[7]) (Bt := fun v => B_R5 v.1 v.2.1 v.2.2.1) (kB := fun Rr => S7 Rr) (sgB := g7) (out := fun v => O_R5 (Kt Kv) v.1 v.2.1 v.2.2.1) (by kernel_rfl) (fun v ρ w => by kernel_rfl) ?_ (fun Rr l => S7_ok Rr) ?_
  · intro v ρ args w wb Rr h
    have h' : B_R5 v.1 v.2.1 v.2.2.1 args wb Rr := h
    unfold B_R5 at h'
    split at h'
    · exact ⟨rfl, Eq.mp (by kernel_rfl) (And.intro (Eq.refl w) h')⟩
    · exact h'.elim
  · intro v ρ e D w h
    cases e with
    | normal => exact Eq.mp (by kernel_rfl) h
    | _ => exact h.elim
theorem B8 (Kv : VW) : OkT pr true none 13 g5 (R5 (Kt Kv)) (tl 1 (s1 (tl 1 bd))) (P3 Kv) := ok_block 0 (by kernel_rfl) (R5_ok Kv)
@[reducible] def g9 : List SE := [.v 1 (.raw), .v 2 .ptr, .v 13 .raw]
def S9 (K : KT) (seq_23 : Value) (s_24 : Option Addr) (v25 : Value) (w : World) : Prop :=
  R5 K s_24 seq_23 v25 w
theorem S9_ok (Kv : VW) : OkT pr true none 13 g9 (S9 (Kt Kv)) (s1 (tl 1 bd)) (P3 Kv) := ok_group mixed FOk_ 1 (B8 Kv) fun v ρ w => by kernel_rfl
theorem Q10 (Kv : VW) : OkT pr true none 13 g9 (S9 (Kt Kv)) (tl 1 bd) (P1 Kv) := ok_seq (by kernel_rfl) (S2_ok Kv) (S9_ok Kv)
end slices_AppendSeq_string_string
def slices_AppendSeq_string_string (s_2 : Sl) (seq_3 : Value) (w : World) (K : slices_AppendSeq_string_string.KT) : Prop :=
  G.new (.cells #[s_2.v] 88) w fun p26 w27 => slices_AppendSeq_string_string.S9 K seq_3 (some p26) undef w27
def slices_AppendSeq_string_string.cl : CL := fun args K w => match args with
  | [.slice x0_a x0_n x0_c, x1] => C.slices_AppendSeq_string_string ⟨x0_a, x0_n, x0_c⟩ x1 w (slices_AppendSeq_string_string.Kt K)
  | _ => False
theorem slices_AppendSeq_string_string.clok : OkC pr 138 slices_AppendSeq_string_string.cl := by
  intro args K w h
  unfold slices_AppendSeq_string_string.cl at h
  split at h
  · exact calls_group true mixed slices_AppendSeq_string_string.FOk_ slices_AppendSeq_string_string.fn rfl 1 (slices_AppendSeq_string_string.Q10 K) (Eq.mp (by kernel_rfl) h)
  · exact h.elim
namespace slices_Collect_string
abbrev KT := Sl → World → Prop
def Kt (Kv : VW) : KT := fun l1 w => Kv l1.v w
noncomputable def bd : Code := bdy Tryz.f111
theorem fn : FnOk pr 111 5 Tryz.f111 := ⟨Tryz.func111, by kernel_rfl, Tryz.ntmps111, by kernel_rfl, by kernel_rfl⟩
def F : Clee := ofL [(138, C.slices_AppendSeq_string_string.cl)]
theorem FOk_ : FOk pr F := FOk_cons C.slices_AppendSeq_string_string.clok (FOk_nil)
def P1 (Kv : VW) : Post := bodyK false pr 5 Tryz.f111 Kv
end slices_Collect_string
def slices_Collect_string (seq_2 : Value) (w : World) (K : slices_Collect_string.KT) : Prop :=
  C.slices_AppendSeq_string_string nilS seq_2 w fun l3 w4 => K l3 w4
def slices_Collect_string.cl : CL := fun args K w => match args with
  | [x0] => C.slices_Collect_string x0 w (slices_Collect_string.Kt K)
  | _ => False
theorem slices_Collect_string.clok : OkC pr 111 slices_Collect_string.cl := by
  intro args K w h
  unfold slices_Collect_string.cl at h
  split at h
  · exact calls_last false mixed slices_Collect_string.FOk_ slices_Collect_string.fn rfl (Eq.mp (by kernel_rfl) h)
  · exact h.elim
abbrev slices_Sort_string_string.KT := World → Prop
def slices_Sort_string_string.Kt (Kv : VW) : slices_Sort_string_string.KT := fun w => Kv (.tuple #[]) w
def slices_Sort_string_string (x0 : Sl) (w : World) (K : slices_Sort_string_string.KT) : Prop := Srt.sortS x0 w K
def slices_Sort_string_string.cl : CL := fun args K w => match args with
  | [.slice a n c] => C.slices_Sort_string_string ⟨a, n, c⟩ w (slices_Sort_string_string.Kt K)
  | _ => False
theorem slices_Sort_string_string.clok : OkC pr 112 slices_Sort_string_string.cl := by
  intro args K w h
  unfold slices_Sort_string_string.cl at h
  split at h
  · exact Srt.sortS_ok h
  · exact h.elim
namespace slices_Sorted_string
abbrev KT := Sl → World → Prop
def Kt (Kv : VW) : KT := fun l1 w => Kv l1.v w
noncomputable def bd : Code := bdy Tryz.f85
theorem fn : FnOk pr 85 9 Tryz.f85 := ⟨Tryz.func85, by kernel_rfl, Tryz.ntmps85, by kernel_rfl, by kernel_rfl⟩
def F : Clee := ofL [(111, C.slices_Collect_string.cl), (112, C.slices_Sort_string_string.cl)]
theorem FOk_ : FOk pr F := FOk_cons C.slices_Collect_string.clok (FOk_cons C.slices_Sort_string_string.clok (FOk_nil))
def P1 (Kv : VW) : Post := bodyK false pr 9 Tryz.f85 Kv
end slices_Sorted_string
def slices_Sorted_string (seq_2 : Value) (w : World) (K : slices_Sorted_string.KT) : Prop :=
  C.slices_Collect_string seq_2 w fun l3 w4 => C.slices_Sort_string_string l3 w4 fun w5 => K l3 w5
def slices_Sorted_string.cl : CL := fun args K w => match args with
  | [x0] => C.slices_Sorted_string x0 w (slices_Sorted_string.Kt K)
  | _ => False
theorem slices_Sorted_string.clok : OkC pr 85 slices_Sorted_string.cl := by
  intro args K w h
  unfold slices_Sorted_string.cl at h
  split at h
  · exact calls_last false mixed slices_Sorted_string.FOk_ slices_Sorted_string.fn rfl (Eq.mp (by kernel_rfl) h)
  · exact h.elim
namespace maps_Keys_map_string_string_string_string
abbrev KT := Value → World → Prop
def Kt (Kv : VW) : KT := fun v1 w => Kv v1 w
noncomputable def bd : Code := bdy Tryz.f86
theorem fn : FnOk pr 86 4 Tryz.f86 := ⟨Tryz.func86, by kernel_rfl, Tryz.ntmps86, by kernel_rfl, by kernel_rfl⟩
def F : Clee := ofL []
theorem FOk_ : FOk pr F := FOk_nil
def P1 (Kv : VW) : Post := bodyK false pr 4 Tryz.f86 Kv
end maps_Keys_map_string_string_string_string
def maps_Keys_map_string_string_string_string (m_2 : Option Nat) (w : World) (K : maps_Keys_map_string_string_string_string.KT) : Prop :=
  G.new (.cells #[(.map m_2)] 136) w fun p3 w4 => K (Value.func (.func 113) #[] #[(.pointer (some p3))]) w4
def maps_Keys_map_string_string_string_string.cl : CL := fun args K w => match args with
  | [.map x0] => C.maps_Keys_map_string_string_string_string x0 w (maps_Keys_map_string_string_string_string.Kt K)
  | _ => False
theorem maps_Keys_map_string_string_string_string.clok : OkC pr 86 maps_Keys_map_string_string_string_string.cl := by
  intro args K w h
  unfold maps_Keys_map_string_string_string_string.cl at h
  split at h
  · exact calls_last false mixed maps_Keys_map_string_string_string_string.FOk_ maps_Keys_map_string_string_string_string.fn rfl (Eq.mp (by kernel_rfl) h)
  · exact h.elim
namespace rules_with
abbrev KT := Sl → Value → World → Prop
def Kt (Kv : VW) : KT := fun l1 v2 w => Kv (.tuple #[l1.v, v2]) w
noncomputable def bd : Code := bdy Tryz.f59
theorem fn : FnOk pr 59 75 Tryz.f59 := ⟨Tryz.func59, by kernel_rfl, Tryz.ntmps59, by kernel_rfl, by kernel_rfl⟩
def F : Clee := ofL [(64, C.labels_Right.cl), (70, C.rules_wrong.cl), (85, C.slices_Sorted_string.cl), (86, C.maps_Keys_map_string_string_string_string.cl)]
theorem FOk_ : FOk pr F := FOk_cons C.labels_Right.clok (FOk_cons C.rules_wrong.clok (FOk_cons C.slices_Sorted_string.clok (FOk_cons C.maps_Keys_map_string_string_string_string.clok (FOk_nil))))
def P1 (Kv : VW) : Post := bodyK false pr 75 Tryz.f59 Kv
@[reducible] def g2 : List SE := [.v 13 .sl]
def S2 (K : KT) (out_7 : Sl) (w : World) : Prop :=
  G.cond (decide (((out_7.n : Nat) : Int) > (16 : Int))) (C.rules_wrong (8 : Int) w fun v8 w9 => K nilS v8 w9) (K out_7 Value.nilIface w)
theorem S2_ok (Kv : VW) : OkT pr false none 75 g2 (S2 (Kt Kv)) (s2 (tl 1 (s2 (s2 (tl 3 bd))))) (P1 Kv) := ok_last mixed FOk_ fun v ρ w => by kernel_rfl
def P3 (Kv : VW) : Post := next (get g2 (S2 (Kt Kv))) (P1 Kv)
def P4 (Kv : VW) : Post := inBlock 4 (P3 Kv)
@[reducible] def g5 : List SE := [.v 8 .map, .v 13 .sl, .v 51 .sl, .v 52 (.int .i64), .v 53 (.int .i64)]
def P6 (Kv : VW) (kc5 : Cur g5) : Post := next (get g5 kc5) (P4 Kv)
def S7 (K : KT) (kc5 : Cur g5) (by_20 : Option Nat) (out_21 : Sl) (l22 : Sl) (n23 : Int) (n24 : Int) (w : World) : Prop :=
  G.cond (decide (n24 < n23)) (G.ix l22.a l22.n n24 1 fun p25 => G.cS p25 w fun s26 => G.rd1 pr (Instr.lookup 136 (.map by_20) (.string s26) false) (fun b : ByteArray => Value.string b) w fun s27 => G.cond (!(s27.toList == (⟨#[]⟩ : ByteArray).toList)) (G.rd1 pr (Instr.lookup 136 (.map by_20) (.string s26) false) (fun b : ByteArray => Value.string b) w fun s28 => G.new (.cells #[(.string s26), (.string s28)] 99) w fun p29 w30 => G.runSl pr (Builtin.append_ #[22, 22] 22 #[out_21.v, (Sl.v (⟨some p29, 1, 1⟩ : Sl))]) w30 fun l31 w32 => kc5 by_20 l31 l22 n23 (IntKind.i64.wrap (n24 + (1 : Int))) w32) (kc5 by_20 out_21 l22 n23 (IntKind.i64.wrap (n24 + (1 : Int))) w)) (S2 K out_21 w)
theorem S7_ok (Kv : VW) (kc5 : Cur g5) : OkT pr false none 75 g5 (S7 (Kt Kv) kc5) (lp (blk (tl 1 (s1 (tl 1 (s2 (s2 (tl 3 bd)))))))) (P6 Kv kc5) := ok_last mixed FOk_ fun v ρ w => by kernel_rfl
def L5 (K : KT) : Cur g5 := loopC g5 (S7 K)
theorem L5_ok (Kv : VW) : OkT pr false none 75 g5 (L5 (Kt Kv)) (blk (tl 1 (s1 (tl 1 (s2 (s2 (tl 3 bd))))))) (P4 Kv) := ok_loop (B := S7 (Kt Kv)) (by kernel_rfl) fun kc => S7_ok Kv kc
theorem L5_ind {K : KT} {by_10 : Option Nat} {out_11 : Sl} {l12 : Sl} {n13 : Int} {n14 : Int} {w : World} (h : ∀ X : Cur g5, (∀ by_10 out_11 l12 n13 n14 w, S7 K X by_10 out_11 l12 n13 n14 w → X by_10 out_11 l12 n13 n14 w) → X by_10 out_11 l12 n13 n14 w) : L5 K by_10 out_11 l12 n13 n14 w := fun X hX => h X fun by_10 out_11 l12 n13 n14 w hb => hX (by_10, out_11, l12, n13, n14, ()) w hb
theorem B8 (Kv : VW) : OkT pr false none 75 g5 (L5 (Kt Kv)) (tl 1 (s1 (tl 1 (s2 (s2 (tl 3 bd)))))) (P3 Kv) := ok_block 4 (by kernel_rfl) (L5_ok Kv)
@[reducible] def g9 : List SE := [.v 8 .map, .v 13 .sl]
def S9 (K : KT) (by_33 : Option Nat) (out_34 : Sl) (w : World) : Prop :=
  C.maps_Keys_map_string_string_string_string by_33 w fun v35 w36 => C.slices_Sorted_string v35 w36 fun l37 w38 => L5 K by_33 out_34 l37 ((l37.n : Nat) : Int) (0 : Int) w38
theorem S9_ok (Kv : VW) : OkT pr false none 75 g9 (S9 (Kt Kv)) (s1 (tl 1 (s2 (s2 (tl 3 bd))))) (P3 Kv) := ok_group mixed FOk_ 1 (B8 Kv) fun v ρ w => by kernel_rfl
theorem Q10 (Kv : VW) : OkT pr false none 75 g9 (S9 (Kt Kv)) (tl 1 (s2 (s2 (tl 3 bd)))) (P1 Kv) := ok_seq (by kernel_rfl) (S2_ok Kv) (S9_ok Kv)
@[reducible] def g11 : List SE := [.v 8 .map]
def S11 (K : KT) (by_39 : Option Nat) (w : World) : Prop :=
  S9 K by_39 nilS w
theorem S11_ok (Kv : VW) : OkT pr false none 75 g11 (S11 (Kt Kv)) (s2 (s2 (tl 3 bd))) (P1 Kv) := ok_group mixed FOk_ 1 (Q10 Kv) fun v ρ w => by kernel_rfl
def P12 (Kv : VW) : Post := next (get g11 (S11 (Kt Kv))) (P1 Kv)
def P13 (Kv : VW) : Post := inBlock 2 (P12 Kv)
@[reducible] def g14 : List SE := [.v 8 .map, .v 37 .sl, .v 38 (.int .i64), .v 39 (.int .i64)]
def P15 (Kv : VW) (kc14 : Cur g14) : Post := next (get g14 kc14) (P13 Kv)
def S16 (K : KT) (kc14 : Cur g14) (by_48 : Option Nat) (l49 : Sl) (n50 : Int) (n51 : Int) (w : World) : Prop :=
  G.cond (decide (n51 < n50)) (G.ix l49.a l49.n n51 2 fun p52 => G.cS p52 w fun s53 => G.cS (p52.add 1) w fun s54 => G.new (.cells #[(.string (⟨#[]⟩ : ByteArray)), (.string (⟨#[]⟩ : ByteArray))] 99) w fun p55 w56 => G.st p55 (.string s53) w56 fun w57 => G.st (p55.add 1) (.string s54) w57 fun w58 => G.cS p55 w58 fun s59 => G.cS (p55.add 1) w58 fun s60 => G.runU pr (Instr.mapUpdate 136 (.map by_48) (.string s59) (.string s60)) w58 fun w61 => kc14 by_48 l49 n50 (IntKind.i64.wrap (n51 + (1 : Int))) w61) (S11 K by_48 w)
theorem S16_ok (Kv : VW) (kc14 : Cur g14) : OkT pr false none 75 g14 (S16 (Kt Kv) kc14) (lp (blk (tl 1 (s1 (s2 (tl 3 bd)))))) (P15 Kv kc14) := ok_last mixed FOk_ fun v ρ w => by kernel_rfl
def L14 (K : KT) : Cur g14 := loopC g14 (S16 K)
theorem L14_ok (Kv : VW) : OkT pr false none 75 g14 (L14 (Kt Kv)) (blk (tl 1 (s1 (s2 (tl 3 bd))))) (P13 Kv) := ok_loop (B := S16 (Kt Kv)) (by kernel_rfl) fun kc => S16_ok Kv kc
theorem L14_ind {K : KT} {by_40 : Option Nat} {l41 : Sl} {n42 : Int} {n43 : Int} {w : World} (h : ∀ X : Cur g14, (∀ by_40 l41 n42 n43 w, S16 K X by_40 l41 n42 n43 w → X by_40 l41 n42 n43 w) → X by_40 l41 n42 n43 w) : L14 K by_40 l41 n42 n43 w := fun X hX => h X fun by_40 l41 n42 n43 w hb => hX (by_40, l41, n42, n43, ()) w hb
theorem B17 (Kv : VW) : OkT pr false none 75 g14 (L14 (Kt Kv)) (tl 1 (s1 (s2 (tl 3 bd)))) (P12 Kv) := ok_block 2 (by kernel_rfl) (L14_ok Kv)
@[reducible] def g18 : List SE := [.v 1 .sl, .v 8 .map]
def S18 (K : KT) (more_62 : Sl) (by_63 : Option Nat) (w : World) : Prop :=
  L14 K by_63 more_62 ((more_62.n : Nat) : Int) (0 : Int) w
theorem S18_ok (Kv : VW) : OkT pr false none 75 g18 (S18 (Kt Kv)) (s1 (s2 (tl 3 bd))) (P12 Kv) := ok_group mixed FOk_ 1 (B17 Kv) fun v ρ w => by kernel_rfl
theorem Q19 (Kv : VW) : OkT pr false none 75 g18 (S18 (Kt Kv)) (s2 (tl 3 bd)) (P1 Kv) := ok_seq (by kernel_rfl) (S11_ok Kv) (S18_ok Kv)
def P20 (Kv : VW) : Post := next (get g18 (S18 (Kt Kv))) (P1 Kv)
def P21 (Kv : VW) : Post := inBlock 0 (P20 Kv)
@[reducible] def g22 : List SE := [.v 1 .sl, .v 8 .map, .v 25 .sl, .v 26 (.int .i64), .v 27 (.int .i64)]
def P23 (Kv : VW) (kc22 : Cur g22) : Post := next (get g22 kc22) (P21 Kv)
def S24 (K : KT) (kc22 : Cur g22) (more_74 : Sl) (by_75 : Option Nat) (l76 : Sl) (n77 : Int) (n78 : Int) (w : World) : Prop :=
  G.cond (decide (n78 < n77)) (G.ix l76.a l76.n n78 2 fun p79 => G.cS p79 w fun s80 => G.cS (p79.add 1) w fun s81 => G.new (.cells #[(.string (⟨#[]⟩ : ByteArray)), (.string (⟨#[]⟩ : ByteArray))] 99) w fun p82 w83 => G.st p82 (.string s80) w83 fun w84 => G.st (p82.add 1) (.string s81) w84 fun w85 => G.cS p82 w85 fun s86 => G.cS (p82.add 1) w85 fun s87 => G.runU pr (Instr.mapUpdate 136 (.map by_75) (.string s86) (.string s87)) w85 fun w88 => kc22 more_74 by_75 l76 n77 (IntKind.i64.wrap (n78 + (1 : Int))) w88) (S18 K more_74 by_75 w)
theorem S24_ok (Kv : VW) (kc22 : Cur g22) : OkT pr false none 75 g22 (S24 (Kt Kv) kc22) (lp (blk (tl 1 (s1 (tl 3 bd))))) (P23 Kv kc22) := ok_last mixed FOk_ fun v ρ w => by kernel_rfl
def L22 (K : KT) : Cur g22 := loopC g22 (S24 K)
theorem L22_ok (Kv : VW) : OkT pr false none 75 g22 (L22 (Kt Kv)) (blk (tl 1 (s1 (tl 3 bd)))) (P21 Kv) := ok_loop (B := S24 (Kt Kv)) (by kernel_rfl) fun kc => S24_ok Kv kc
theorem L22_ind {K : KT} {more_64 : Sl} {by_65 : Option Nat} {l66 : Sl} {n67 : Int} {n68 : Int} {w : World} (h : ∀ X : Cur g22, (∀ more_64 by_65 l66 n67 n68 w, S24 K X more_64 by_65 l66 n67 n68 w → X more_64 by_65 l66 n67 n68 w) → X more_64 by_65 l66 n67 n68 w) : L22 K more_64 by_65 l66 n67 n68 w := fun X hX => h X fun more_64 by_65 l66 n67 n68 w hb => hX (more_64, by_65, l66, n67, n68, ()) w hb
theorem B25 (Kv : VW) : OkT pr false none 75 g22 (L22 (Kt Kv)) (tl 1 (s1 (tl 3 bd))) (P20 Kv) := ok_block 0 (by kernel_rfl) (L22_ok Kv)
@[reducible] def g26 : List SE := [.v 0 .sl, .v 1 .sl, .v 8 .map]
def S26 (K : KT) (l_89 : Sl) (more_90 : Sl) (by_91 : Option Nat) (w : World) : Prop :=
  L22 K more_90 by_91 l_89 ((l_89.n : Nat) : Int) (0 : Int) w
theorem S26_ok (Kv : VW) : OkT pr false none 75 g26 (S26 (Kt Kv)) (s1 (tl 3 bd)) (P20 Kv) := ok_group mixed FOk_ 1 (B25 Kv) fun v ρ w => by kernel_rfl
theorem Q27 (Kv : VW) : OkT pr false none 75 g26 (S26 (Kt Kv)) (tl 3 bd) (P1 Kv) := ok_seq (by kernel_rfl) (Q19 Kv) (S26_ok Kv)
end rules_with
def rules_with (l_3 : Sl) (more_4 : Sl) (w : World) (K : rules_with.KT) : Prop :=
  C.labels_Right l_3 w fun n92 n93 w94 => G.cond (n92 != (0 : Int)) (C.rules_wrong (41 : Int) w94 fun v95 w96 => K nilS v95 w96) (G.runM pr (Instr.makeMap 136 none) w94 fun m97 w98 => rules_with.S26 K l_3 more_4 m97 w98)
def rules_with.cl : CL := fun args K w => match args with
  | [.slice x0_a x0_n x0_c, .slice x1_a x1_n x1_c] => C.rules_with ⟨x0_a, x0_n, x0_c⟩ ⟨x1_a, x1_n, x1_c⟩ w (rules_with.Kt K)
  | _ => False
theorem rules_with.clok : OkC pr 59 rules_with.cl := by
  intro args K w h
  unfold rules_with.cl at h
  split at h
  · exact calls_group false mixed rules_with.FOk_ rules_with.fn rfl 3 (rules_with.Q27 K) (Eq.mp (by kernel_rfl) h)
  · exact h.elim
namespace rules_alert
abbrev KT := Sl → Value → World → Prop
def Kt (Kv : VW) : KT := fun l1 v2 w => Kv (.tuple #[l1.v, v2]) w
noncomputable def bd : Code := bdy Tryz.f58
theorem fn : FnOk pr 58 18 Tryz.f58 := ⟨Tryz.func58, by kernel_rfl, Tryz.ntmps58, by kernel_rfl, by kernel_rfl⟩
def F : Clee := ofL [(59, C.rules_with.cl)]
theorem FOk_ : FOk pr F := FOk_cons C.rules_with.clok (FOk_nil)
def P1 (Kv : VW) : Post := bodyK false pr 18 Tryz.f58 Kv
end rules_alert
def rules_alert (r_3 : Bool) (r_4 : ByteArray) (r_5 : ByteArray) (r_6 : Int) (r_7 : Int) (r_8 : Sl) (l_9 : Sl) (w : World) (K : rules_alert.KT) : Prop :=
  G.new (.cells #[(.bool r_3), (.string r_4), (.string r_5), (.int .i64 r_6), (.int .i64 r_7), r_8.v] 24) w fun p10 w11 => G.cS (p10.add 1) w11 fun s12 => G.new (.cells #[(.string (⟨#[95, 95, 110, 97, 109, 101, 95, 95]⟩ : ByteArray)), (.string (⟨#[]⟩ : ByteArray)), (.string (⟨#[97, 108, 101, 114, 116, 110, 97, 109, 101]⟩ : ByteArray)), (.string s12)] 99) w11 fun p13 w14 => G.cSl (p10.add 5) w14 fun l15 => G.runSl pr (Builtin.append_ #[22, 22] 22 #[(Sl.v (⟨some p13, 2, 2⟩ : Sl)), l15.v]) w14 fun l16 w17 => C.rules_with l_9 l16 w17 fun l18 v19 w20 => K l18 v19 w20
def rules_alert.cl : CL := fun args K w => match args with
  | [.agg ⟨[.bool x0_0, .string x0_1, .string x0_2, .int .i64 x0_3, .int .i64 x0_4, .slice x0_5_a x0_5_n x0_5_c]⟩, .slice x1_a x1_n x1_c] => C.rules_alert x0_0 x0_1 x0_2 x0_3 x0_4 ⟨x0_5_a, x0_5_n, x0_5_c⟩ ⟨x1_a, x1_n, x1_c⟩ w (rules_alert.Kt K)
  | _ => False
theorem rules_alert.clok : OkC pr 58 rules_alert.cl := by
  intro args K w h
  unfold rules_alert.cl at h
  split at h
  · exact calls_last false mixed rules_alert.FOk_ rules_alert.fn rfl (Eq.mp (by kernel_rfl) h)
  · exact h.elim
namespace rules_Keeper_told
abbrev KT := Option Nat → Value → World → Prop
def Kt (Kv : VW) : KT := fun m1 v2 w => Kv (.tuple #[(.map m1), v2]) w
noncomputable def bd : Code := bdy Tryz.f36
theorem fn : FnOk pr 36 56 Tryz.f36 := ⟨Tryz.func36, by kernel_rfl, Tryz.ntmps36, by kernel_rfl, by kernel_rfl⟩
def F : Clee := ofL [(39, C.rules_key.cl), (58, C.rules_alert.cl), (70, C.rules_wrong.cl)]
theorem FOk_ : FOk pr F := FOk_cons C.rules_key.clok (FOk_cons C.rules_alert.clok (FOk_cons C.rules_wrong.clok (FOk_nil)))
def P1 (Kv : VW) : Post := bodyK false pr 56 Tryz.f36 Kv
@[reducible] def g2 : List SE := [.v 6 .map, .v 7 .bool]
def S2 (K : KT) (out_5 : Option Nat) (twice_6 : Bool) (w : World) : Prop :=
  G.cond twice_6 (C.rules_wrong (150 : Int) w fun v7 w8 => K none v7 w8) (K out_5 Value.nilIface w)
theorem S2_ok (Kv : VW) : OkT pr false none 56 g2 (S2 (Kt Kv)) (s2 (tl 3 bd)) (P1 Kv) := ok_last mixed FOk_ fun v ρ w => by kernel_rfl
def P3 (Kv : VW) : Post := next (get g2 (S2 (Kt Kv))) (P1 Kv)
def P4 (Kv : VW) : Post := inBlock 0 (P3 Kv)
@[reducible] def g5 : List SE := [.v 0 .ptr, .v 6 .map, .v 7 .bool, .v 15 .sl, .v 16 (.int .i64), .v 17 (.int .i64)]
def P6 (Kv : VW) (kc5 : Cur g5) : Post := next (get g5 kc5) (P4 Kv)
def S7 (K : KT) (kc5 : Cur g5) (k_21 : Option Addr) (out_22 : Option Nat) (twice_23 : Bool) (l24 : Sl) (n25 : Int) (n26 : Int) (w : World) : Prop :=
  G.cond (decide (n26 < n25)) (G.ix l24.a l24.n n26 2 fun p27 => G.cSl p27 w fun l28 => G.cF .f64 (p27.add 1) w fun f29 => G.new (.cells #[nilS.v, (.float .f64 0)] 45) w fun p30 w31 => G.st p30 l28.v w31 fun w32 => G.st (p30.add 1) (.float .f64 f29) w32 fun w33 => G.ptr k_21 fun p34 => G.cB p34 w33.drew fun b35 => G.cS (p34.add 1) w33.drew fun s36 => G.cS (p34.add 2) w33.drew fun s37 => G.cI .i64 (p34.add 3) w33.drew fun n38 => G.cI .i64 (p34.add 4) w33.drew fun n39 => G.cSl (p34.add 5) w33.drew fun l40 => G.cSl p30 w33.drew fun l41 => C.rules_alert b35 s36 s37 n38 n39 l40 l41 w33.drew fun l42 v43 w44 => G.isNilI v43 fun b45 => G.cond (!b45) (K none v43 w44) (C.rules_key l42 w44 fun s46 w47 => G.rd2 pr (Instr.lookup 73 (.map out_22) (.string s46) true) (fun v : Value => v) w47 fun v48 b50 => G.ag v48 6 fun c49 => G.vSl c49[0 + 0]? fun l51 => G.vI .i64 c49[0 + 1]? fun n52 => G.vI .i64 c49[0 + 2]? fun n53 => G.vI .i64 c49[0 + 3]? fun n54 => G.vI .i64 c49[0 + 4]? fun n55 => G.vF .f64 c49[0 + 5]? fun f56 => G.new (.cells #[nilS.v, (.int .i64 (0 : Int)), (.int .i64 (0 : Int)), (.int .i64 (0 : Int)), (.int .i64 (0 : Int)), (.float .f64 0)] 41) w47 fun p57 w58 => G.st p57 l51.v w58 fun w59 => G.st (p57.add 1) (.int .i64 n52) w59 fun w60 => G.st (p57.add 2) (.int .i64 n53) w60 fun w61 => G.st (p57.add 3) (.int .i64 n54) w61 fun w62 => G.st (p57.add 4) (.int .i64 n55) w62 fun w63 => G.st (p57.add 5) (.float .f64 f56) w63 fun w64 => G.cond twice_23 (G.cF .f64 (p30.add 1) w64.drew fun f65 => C.rules_key l42 w64.drew fun s66 w67 => sameAt (p30.add 1) 1 w64.drew w67 ∧ (G.runU pr (Instr.mapUpdate 73 (.map out_22) (.string s66) (.agg #[l42.v, (.int .i64 (0 : Int)), (.int .i64 (0 : Int)), (.int .i64 (0 : Int)), (.int .i64 (0 : Int)), (.float .f64 f65)])) w67 fun w68 => kc5 k_21 out_22 true l24 n25 (IntKind.i64.wrap (n26 + (1 : Int))) w68)) (G.cF .f64 (p30.add 1) w64.drew fun f69 => C.rules_key l42 w64.drew fun s70 w71 => sameAt (p30.add 1) 1 w64.drew w71 ∧ (G.runU pr (Instr.mapUpdate 73 (.map out_22) (.string s70) (.agg #[l42.v, (.int .i64 (0 : Int)), (.int .i64 (0 : Int)), (.int .i64 (0 : Int)), (.int .i64 (0 : Int)), (.float .f64 f69)])) w71 fun w72 => kc5 k_21 out_22 b50 l24 n25 (IntKind.i64.wrap (n26 + (1 : Int))) w72)))) (S2 K out_22 twice_23 w)
theorem S7_ok (Kv : VW) (kc5 : Cur g5) : OkT pr false none 56 g5 (S7 (Kt Kv) kc5) (lp (blk (tl 1 (s1 (tl 3 bd))))) (P6 Kv kc5) := ok_last mixed FOk_ fun v ρ w => by kernel_rfl
def L5 (K : KT) : Cur g5 := loopC g5 (S7 K)
theorem L5_ok (Kv : VW) : OkT pr false none 56 g5 (L5 (Kt Kv)) (blk (tl 1 (s1 (tl 3 bd)))) (P4 Kv) := ok_loop (B := S7 (Kt Kv)) (by kernel_rfl) fun kc => S7_ok Kv kc
theorem L5_ind {K : KT} {k_9 : Option Addr} {out_10 : Option Nat} {twice_11 : Bool} {l12 : Sl} {n13 : Int} {n14 : Int} {w : World} (h : ∀ X : Cur g5, (∀ k_9 out_10 twice_11 l12 n13 n14 w, S7 K X k_9 out_10 twice_11 l12 n13 n14 w → X k_9 out_10 twice_11 l12 n13 n14 w) → X k_9 out_10 twice_11 l12 n13 n14 w) : L5 K k_9 out_10 twice_11 l12 n13 n14 w := fun X hX => h X fun k_9 out_10 twice_11 l12 n13 n14 w hb => hX (k_9, out_10, twice_11, l12, n13, n14, ()) w hb
theorem B8 (Kv : VW) : OkT pr false none 56 g5 (L5 (Kt Kv)) (tl 1 (s1 (tl 3 bd))) (P3 Kv) := ok_block 0 (by kernel_rfl) (L5_ok Kv)
@[reducible] def g9 : List SE := [.v 0 .ptr, .v 1 .sl, .v 6 .map, .v 7 .bool]
def S9 (K : KT) (k_73 : Option Addr) (v_74 : Sl) (out_75 : Option Nat) (twice_76 : Bool) (w : World) : Prop :=
  L5 K k_73 out_75 twice_76 v_74 ((v_74.n : Nat) : Int) (0 : Int) w
theorem S9_ok (Kv : VW) : OkT pr false none 56 g9 (S9 (Kt Kv)) (s1 (tl 3 bd)) (P3 Kv) := ok_group mixed FOk_ 1 (B8 Kv) fun v ρ w => by kernel_rfl
theorem Q10 (Kv : VW) : OkT pr false none 56 g9 (S9 (Kt Kv)) (tl 3 bd) (P1 Kv) := ok_seq (by kernel_rfl) (S2_ok Kv) (S9_ok Kv)
end rules_Keeper_told
def rules_Keeper_told (k_3 : Option Addr) (v_4 : Sl) (w : World) (K : rules_Keeper_told.KT) : Prop :=
  G.runM pr (Instr.makeMap 73 none) w fun m77 w78 => rules_Keeper_told.S9 K k_3 v_4 m77 false w78
def rules_Keeper_told.cl : CL := fun args K w => match args with
  | [.pointer x0, .slice x1_a x1_n x1_c] => C.rules_Keeper_told x0 ⟨x1_a, x1_n, x1_c⟩ w (rules_Keeper_told.Kt K)
  | _ => False
theorem rules_Keeper_told.clok : OkC pr 36 rules_Keeper_told.cl := by
  intro args K w h
  unfold rules_Keeper_told.cl at h
  split at h
  · exact calls_group false mixed rules_Keeper_told.FOk_ rules_Keeper_told.fn rfl 3 (rules_Keeper_told.Q10 K) (Eq.mp (by kernel_rfl) h)
  · exact h.elim
abbrev errors_Is.KT := Bool → World → Prop
def errors_Is.Kt (Kv : VW) : errors_Is.KT := fun r0 w => Kv (.bool r0) w
def errors_Is (x0 : Value) (x1 : Value) (w : World) (K : errors_Is.KT) : Prop := ErrN.isK x0 x1 w K
def errors_Is.cl : CL := fun args K w => match args with
  | [x, y] => C.errors_Is x y w (errors_Is.Kt K)
  | _ => False
theorem errors_Is.clok : OkC pr 71 errors_Is.cl := by
  intro args K w h
  unfold errors_Is.cl at h
  split at h
  · exact ErrN.isS_ok h
  · exact h.elim
abbrev errors_As.KT := Bool → World → Prop
def errors_As.Kt (Kv : VW) : errors_As.KT := fun r0 w => Kv (.bool r0) w
def errors_As (x0 : Value) (x1 : Value) (w : World) (K : errors_As.KT) : Prop := ErrN.asK x0 x1 w K
def errors_As.cl : CL := fun args K w => match args with
  | [x, y] => C.errors_As x y w (errors_As.Kt K)
  | _ => False
theorem errors_As.clok : OkC pr 72 errors_As.cl := by
  intro args K w h
  unfold errors_As.cl at h
  split at h
  · exact ErrN.asS_ok h
  · exact h.elim
namespace rules_number
abbrev KT := Int → World → Prop
def Kt (Kv : VW) : KT := fun n1 w => Kv (.int .i64 n1) w
noncomputable def bd : Code := bdy Tryz.f37
theorem fn : FnOk pr 37 14 Tryz.f37 := ⟨Tryz.func37, by kernel_rfl, Tryz.ntmps37, by kernel_rfl, by kernel_rfl⟩
def F : Clee := ofL [(71, C.errors_Is.cl), (72, C.errors_As.cl)]
theorem FOk_ : FOk pr F := FOk_cons C.errors_Is.clok (FOk_cons C.errors_As.clok (FOk_nil))
def P1 (Kv : VW) : Post := bodyK false pr 14 Tryz.f37 Kv
end rules_number
def rules_number (err_2 : Value) (w : World) (K : rules_number.KT) : Prop :=
  G.new (.cells #[(.int .i64 (0 : Int))] 116) w fun p3 w4 => G.cV (⟨0, 0, none⟩ : Addr) w4 fun v5 => C.errors_Is err_2 v5 w4 fun b6 w7 => G.cond b6 (C.errors_As err_2 (Value.iface 119 (.pointer (some p3))) w7 fun b8 w9 => G.cond b8 (G.cI .i64 p3 w9 fun n10 => K n10 w9) (K (0 : Int) w9)) (K (0 : Int) w7)
def rules_number.cl : CL := fun args K w => match args with
  | [x0] => C.rules_number x0 w (rules_number.Kt K)
  | _ => False
theorem rules_number.clok : OkC pr 37 rules_number.cl := by
  intro args K w h
  unfold rules_number.cl at h
  split at h
  · exact calls_last false mixed rules_number.FOk_ rules_number.fn rfl (Eq.mp (by kernel_rfl) h)
  · exact h.elim
namespace rules_Keeper_next
abbrev KT := World → Prop
def Kt (Kv : VW) : KT := fun  w => Kv (.tuple #[]) w
noncomputable def bd : Code := bdy Tryz.f38
theorem fn : FnOk pr 38 55 Tryz.f38 := ⟨Tryz.func38, by kernel_rfl, Tryz.ntmps38, by kernel_rfl, by kernel_rfl⟩
def F : Clee := ofL [(39, C.rules_key.cl)]
theorem FOk_ : FOk pr F := FOk_cons C.rules_key.clok (FOk_nil)
def P1 (Kv : VW) : Post := bodyK false pr 55 Tryz.f38 Kv
@[reducible] def g2 : List SE := [.v 0 .ptr, .v 5 .ptr, .v 6 .ptr]
def S2 (K : KT) (k_21 : Option Addr) (a_22 : Option Addr) (x_23 : Option Addr) (w : World) : Prop :=
  G.ptr k_21 fun p24 => G.cM (p24.add 6) w.drew fun m25 => G.ptr a_22 fun p26 => G.cSl p26 w.drew fun l27 => G.ptr x_23 fun p28 => G.cSl p28 w.drew fun l29 => G.cI .i64 (p28.add 1) w.drew fun n30 => G.cI .i64 (p28.add 2) w.drew fun n31 => G.cI .i64 (p28.add 3) w.drew fun n32 => G.cI .i64 (p28.add 4) w.drew fun n33 => G.cF .f64 (p28.add 5) w.drew fun f34 => C.rules_key l27 w.drew fun s35 w36 => sameAt (p24.add 6) 1 w.drew w36 ∧ sameAt p28 6 w.drew w36 ∧ (G.runU pr (Instr.mapUpdate 73 (.map m25) (.string s35) (.agg #[l29.v, (.int .i64 n30), (.int .i64 n31), (.int .i64 n32), (.int .i64 n33), (.float .f64 f34)])) w36 fun w37 => K w37)
theorem S2_ok (Kv : VW) : OkT pr false none 55 g2 (S2 (Kt Kv)) (tl 2 (tl 3 bd)) (P1 Kv) := ok_last mixed FOk_ fun v ρ w => by kernel_rfl
@[reducible] def g3 : List SE := [.v 0 .ptr, .v 1 (.int .i64), .v 5 .ptr, .v 6 .ptr]
def S3 (K : KT) (k_38 : Option Addr) (now_39 : Int) (a_40 : Option Addr) (x_41 : Option Addr) (w : World) : Prop :=
  G.ptr a_40 fun p42 => G.cF .f64 (p42.add 5) w.drew fun f43 => G.ptr x_41 fun p44 => G.st (p44.add 4) (.int .i64 (-1 : Int)) w.drew fun w45 => sameAt (p42.add 5) 1 w.drew w45 ∧ (G.ptr x_41 fun p46 => G.st (p46.add 5) (.float .f64 f43) w45 fun w47 => G.ptr x_41 fun p48 => G.cI .i64 (p48.add 1) w47.drew fun n49 => G.cond (n49 == (1 : Int)) (G.ptr x_41 fun p50 => G.cI .i64 (p50.add 2) w47.drew fun n51 => G.ptr k_38 fun p52 => G.cI .i64 (p52.add 3) w47.drew fun n53 => G.cond (decide ((IntKind.i64.wrap (now_39 - n51)) ≥ n53)) (G.ptr x_41 fun p54 => G.st (p54.add 1) (.int .i64 (2 : Int)) w47.drew fun w55 => G.ptr x_41 fun p56 => G.st (p56.add 3) (.int .i64 now_39) w55 fun w57 => S2 K k_38 a_40 x_41 w57) (S2 K k_38 a_40 x_41 w47.drew)) (S2 K k_38 a_40 x_41 w47.drew))
theorem S3_ok (Kv : VW) : OkT pr false none 55 g3 (S3 (Kt Kv)) (tl 3 bd) (P1 Kv) := ok_group mixed FOk_ 2 (S2_ok Kv) fun v ρ w => by kernel_rfl
end rules_Keeper_next
def rules_Keeper_next (k_1 : Option Addr) (now_2 : Int) (a_3 : Sl) (a_4 : Int) (a_5 : Int) (a_6 : Int) (a_7 : Int) (a_8 : Nat) (w : World) (K : rules_Keeper_next.KT) : Prop :=
  G.new (.cells #[a_3.v, (.int .i64 a_4), (.int .i64 a_5), (.int .i64 a_6), (.int .i64 a_7), (.float .f64 a_8)] 41) w fun p58 w59 => G.ptr k_1 fun p60 => G.cM (p60.add 6) w59.drew fun m61 => G.cSl p58 w59.drew fun l62 => (C.rules_key l62 w59.drew fun s63 w64 => sameAt (p60.add 6) 1 w59.drew w64 ∧ ((G.rd2 pr (Instr.lookup 73 (.map m61) (.string s63) true) (fun v : Value => v) w64 fun v65 b67 => G.ag v65 6 fun c66 => G.vSl c66[0 + 0]? fun l68 => G.vI .i64 c66[0 + 1]? fun n69 => G.vI .i64 c66[0 + 2]? fun n70 => G.vI .i64 c66[0 + 3]? fun n71 => G.vI .i64 c66[0 + 4]? fun n72 => G.vF .f64 c66[0 + 5]? fun f73 => G.new (.cells #[nilS.v, (.int .i64 (0 : Int)), (.int .i64 (0 : Int)), (.int .i64 (0 : Int)), (.int .i64 (0 : Int)), (.float .f64 0)] 41) w64 fun p74 w75 => G.st p74 l68.v w75 fun w76 => G.st (p74.add 1) (.int .i64 n69) w76 fun w77 => G.st (p74.add 2) (.int .i64 n70) w77 fun w78 => G.st (p74.add 3) (.int .i64 n71) w78 fun w79 => G.st (p74.add 4) (.int .i64 n72) w79 fun w80 => G.st (p74.add 5) (.float .f64 f73) w80 fun w81 => G.cond (!b67) (G.cSl p58 w81 fun l82 => G.st p74 l82.v w81 fun w83 => G.st (p74.add 1) (.int .i64 (1 : Int)) w83 fun w84 => G.st (p74.add 2) (.int .i64 now_2) w84 fun w85 => G.st (p74.add 3) (.int .i64 (-1 : Int)) w85 fun w86 => G.st (p74.add 4) (.int .i64 (0 : Int)) w86 fun w87 => G.st (p74.add 5) (.float .f64 0) w87 fun w88 => rules_Keeper_next.S3 K k_1 now_2 (some p58) (some p74) w88) (rules_Keeper_next.S3 K k_1 now_2 (some p58) (some p74) w81)) ∧ (G.new (.cells #[nilS.v, (.int .i64 (0 : Int)), (.int .i64 (0 : Int)), (.int .i64 (0 : Int)), (.int .i64 (0 : Int)), (.float .f64 0)] 41) w64 fun p89 w90 => sameAt (p60.add 6) 1 w59.drew w90 ∧ (G.rd2 pr (Instr.lookup 73 (.map m61) (.string s63) true) (fun v : Value => v) w90 fun v91 b93 => G.ag v91 6 fun c92 => G.vSl c92[0 + 0]? fun l94 => G.vI .i64 c92[0 + 1]? fun n95 => G.vI .i64 c92[0 + 2]? fun n96 => G.vI .i64 c92[0 + 3]? fun n97 => G.vI .i64 c92[0 + 4]? fun n98 => G.vF .f64 c92[0 + 5]? fun f99 => G.st p89 l94.v w90 fun w100 => G.st (p89.add 1) (.int .i64 n95) w100 fun w101 => G.st (p89.add 2) (.int .i64 n96) w101 fun w102 => G.st (p89.add 3) (.int .i64 n97) w102 fun w103 => G.st (p89.add 4) (.int .i64 n98) w103 fun w104 => G.st (p89.add 5) (.float .f64 f99) w104 fun w105 => G.cond (!b93) (G.cSl p58 w105 fun l106 => G.st p89 l106.v w105 fun w107 => G.st (p89.add 1) (.int .i64 (1 : Int)) w107 fun w108 => G.st (p89.add 2) (.int .i64 now_2) w108 fun w109 => G.st (p89.add 3) (.int .i64 (-1 : Int)) w109 fun w110 => G.st (p89.add 4) (.int .i64 (0 : Int)) w110 fun w111 => G.st (p89.add 5) (.float .f64 0) w111 fun w112 => rules_Keeper_next.S3 K k_1 now_2 (some p58) (some p89) w112) (rules_Keeper_next.S3 K k_1 now_2 (some p58) (some p89) w105))))) ∧ (G.new (.cells #[nilS.v, (.int .i64 (0 : Int)), (.int .i64 (0 : Int)), (.int .i64 (0 : Int)), (.int .i64 (0 : Int)), (.float .f64 0)] 41) w59.drew fun p113 w114 => sameAt (p60.add 6) 1 w59.drew w114 ∧ sameAt p58 1 w59.drew w114 ∧ (C.rules_key l62 w114 fun s115 w116 => sameAt (p60.add 6) 1 w59.drew w116 ∧ (G.rd2 pr (Instr.lookup 73 (.map m61) (.string s115) true) (fun v : Value => v) w116 fun v117 b119 => G.ag v117 6 fun c118 => G.vSl c118[0 + 0]? fun l120 => G.vI .i64 c118[0 + 1]? fun n121 => G.vI .i64 c118[0 + 2]? fun n122 => G.vI .i64 c118[0 + 3]? fun n123 => G.vI .i64 c118[0 + 4]? fun n124 => G.vF .f64 c118[0 + 5]? fun f125 => G.st p113 l120.v w116 fun w126 => G.st (p113.add 1) (.int .i64 n121) w126 fun w127 => G.st (p113.add 2) (.int .i64 n122) w127 fun w128 => G.st (p113.add 3) (.int .i64 n123) w128 fun w129 => G.st (p113.add 4) (.int .i64 n124) w129 fun w130 => G.st (p113.add 5) (.float .f64 f125) w130 fun w131 => G.cond (!b119) (G.cSl p58 w131 fun l132 => G.st p113 l132.v w131 fun w133 => G.st (p113.add 1) (.int .i64 (1 : Int)) w133 fun w134 => G.st (p113.add 2) (.int .i64 now_2) w134 fun w135 => G.st (p113.add 3) (.int .i64 (-1 : Int)) w135 fun w136 => G.st (p113.add 4) (.int .i64 (0 : Int)) w136 fun w137 => G.st (p113.add 5) (.float .f64 0) w137 fun w138 => rules_Keeper_next.S3 K k_1 now_2 (some p58) (some p113) w138) (rules_Keeper_next.S3 K k_1 now_2 (some p58) (some p113) w131))))
def rules_Keeper_next.cl : CL := fun args K w => match args with
  | [.pointer x0, .int .i64 x1, .agg ⟨[.slice x2_0_a x2_0_n x2_0_c, .int .i64 x2_1, .int .i64 x2_2, .int .i64 x2_3, .int .i64 x2_4, .float .f64 x2_5]⟩] => C.rules_Keeper_next x0 x1 ⟨x2_0_a, x2_0_n, x2_0_c⟩ x2_1 x2_2 x2_3 x2_4 x2_5 w (rules_Keeper_next.Kt K)
  | _ => False
theorem rules_Keeper_next.clok : OkC pr 38 rules_Keeper_next.cl := by
  intro args K w h
  unfold rules_Keeper_next.cl at h
  split at h
  · exact calls_group false mixed rules_Keeper_next.FOk_ rules_Keeper_next.fn rfl 3 (rules_Keeper_next.S3_ok K) (Eq.mp (by kernel_rfl) h)
  · exact h.elim
namespace rules_Keeper_Step
abbrev KT := Sl → Sl → Int → World → Prop
def Kt (Kv : VW) : KT := fun l1 l2 n3 w => Kv (.tuple #[l1.v, l2.v, (.int .i64 n3)]) w
noncomputable def bd : Code := bdy Tryz.f11
theorem fn : FnOk pr 11 118 Tryz.f11 := ⟨Tryz.func11, by kernel_rfl, Tryz.ntmps11, by kernel_rfl, by kernel_rfl⟩
def F : Clee := ofL [(16, C.rules_Keeper_Active.cl), (35, C.rules_time.cl), (36, C.rules_Keeper_told.cl), (37, C.rules_number.cl), (38, C.rules_Keeper_next.cl), (39, C.rules_key.cl)]
theorem FOk_ : FOk pr F := FOk_cons C.rules_Keeper_Active.clok (FOk_cons C.rules_time.clok (FOk_cons C.rules_Keeper_told.clok (FOk_cons C.rules_number.clok (FOk_cons C.rules_Keeper_next.clok (FOk_cons C.rules_key.clok (FOk_nil))))))
def P1 (Kv : VW) : Post := bodyK false pr 118 Tryz.f11 Kv
@[reducible] def g2 : List SE := [.v 0 .ptr, .v 13 .sl]
def S2 (K : KT) (k_13 : Option Addr) (over_14 : Sl) (w : World) : Prop :=
  C.rules_Keeper_Active k_13 w fun l15 w16 => K l15 over_14 (0 : Int) w16
theorem S2_ok (Kv : VW) : OkT pr false none 118 g2 (S2 (Kt Kv)) (s2 (tl 1 (s2 (tl 5 bd)))) (P1 Kv) := ok_last mixed FOk_ fun v ρ w => by kernel_rfl
def P3 (Kv : VW) : Post := next (get g2 (S2 (Kt Kv))) (P1 Kv)
def P4 (Kv : VW) : Post := inBlock 3 (P3 Kv)
@[reducible] def g5 : List SE := [.v 0 .ptr, .v 1 (.int .i64), .v 9 .map, .v 13 .sl, .v 59 .sl, .v 60 (.int .i64), .v 61 (.int .i64)]
def P6 (Kv : VW) (kc5 : Cur g5) : Post := next (get g5 kc5) (P4 Kv)
def S7 (K : KT) (kc5 : Cur g5) (k_31 : Option Addr) (now_32 : Int) (told_33 : Option Nat) (over_34 : Sl) (l35 : Sl) (n36 : Int) (n37 : Int) (w : World) : Prop :=
  G.cond (decide (n37 < n36)) (G.ix l35.a l35.n n37 6 fun p38 => G.cSl p38 w fun l39 => G.cI .i64 (p38.add 1) w fun n40 => G.cI .i64 (p38.add 2) w fun n41 => G.cI .i64 (p38.add 3) w fun n42 => G.cI .i64 (p38.add 4) w fun n43 => G.cF .f64 (p38.add 5) w fun f44 => G.new (.cells #[nilS.v, (.int .i64 (0 : Int)), (.int .i64 (0 : Int)), (.int .i64 (0 : Int)), (.int .i64 (0 : Int)), (.float .f64 0)] 41) w fun p45 w46 => G.st p45 l39.v w46 fun w47 => G.st (p45.add 1) (.int .i64 n40) w47 fun w48 => G.st (p45.add 2) (.int .i64 n41) w48 fun w49 => G.st (p45.add 3) (.int .i64 n42) w49 fun w50 => G.st (p45.add 4) (.int .i64 n43) w50 fun w51 => G.st (p45.add 5) (.float .f64 f44) w51 fun w52 => G.cSl p45 w52 fun l53 => C.rules_key l53 w52 fun s54 w55 => G.rd2 pr (Instr.lookup 73 (.map told_33) (.string s54) true) (fun v : Value => v) w55 fun v56 b58 => G.ag v56 6 fun c57 => G.vSl c57[0 + 0]? fun l59 => G.vI .i64 c57[0 + 1]? fun n60 => G.vI .i64 c57[0 + 2]? fun n61 => G.vI .i64 c57[0 + 3]? fun n62 => G.vI .i64 c57[0 + 4]? fun n63 => G.vF .f64 c57[0 + 5]? fun f64 => G.new (.cells #[nilS.v, (.int .i64 (0 : Int)), (.int .i64 (0 : Int)), (.int .i64 (0 : Int)), (.int .i64 (0 : Int)), (.float .f64 0)] 41) w55 fun p65 w66 => G.st p65 l59.v w66 fun w67 => G.st (p65.add 1) (.int .i64 n60) w67 fun w68 => G.st (p65.add 2) (.int .i64 n61) w68 fun w69 => G.st (p65.add 3) (.int .i64 n62) w69 fun w70 => G.st (p65.add 4) (.int .i64 n63) w70 fun w71 => G.st (p65.add 5) (.float .f64 f64) w71 fun w72 => G.cond b58 (kc5 k_31 now_32 told_33 over_34 l35 n36 (IntKind.i64.wrap (n37 + (1 : Int))) w72) (G.cI .i64 (p45.add 1) w72 fun n73 => G.cond (n73 == (1 : Int)) (G.ptr k_31 fun p74 => G.cM (p74.add 6) w72 fun m75 => G.run pr (Builtin.delete_ #[73, 9] 0 #[(.map m75), (.string s54)]) w72 fun v76 w77 => kc5 k_31 now_32 told_33 over_34 l35 n36 (IntKind.i64.wrap (n37 + (1 : Int))) w77) (G.cI .i64 (p45.add 4) w72 fun n78 => G.cond (decide (n78 < (0 : Int))) (G.st (p45.add 4) (.int .i64 now_32) w72 fun w79 => G.ptr k_31 fun p80 => G.cM (p80.add 6) w79.drew fun m81 => G.cSl p45 w79.drew fun l82 => G.cI .i64 (p45.add 1) w79.drew fun n83 => G.cI .i64 (p45.add 2) w79.drew fun n84 => G.cI .i64 (p45.add 3) w79.drew fun n85 => G.cI .i64 (p45.add 4) w79.drew fun n86 => G.cF .f64 (p45.add 5) w79.drew fun f87 => G.runU pr (Instr.mapUpdate 73 (.map m81) (.string s54) (.agg #[l82.v, (.int .i64 n83), (.int .i64 n84), (.int .i64 n85), (.int .i64 n86), (.float .f64 f87)])) w79.drew fun w88 => G.cI .i64 (p45.add 4) w88.drew fun n89 => G.ptr k_31 fun p90 => G.cI .i64 (p90.add 4) w88.drew fun n91 => G.cond (decide ((IntKind.i64.wrap (now_32 - n89)) ≥ n91)) (G.ptr k_31 fun p92 => G.cM (p92.add 6) w88.drew fun m93 => G.run pr (Builtin.delete_ #[73, 9] 0 #[(.map m93), (.string s54)]) w88.drew fun v94 w95 => G.cSl p45 w95 fun l96 => G.new (.cells #[l96.v] 22) w95 fun p97 w98 => G.runSl pr (Builtin.append_ #[32, 32] 32 #[over_34.v, (Sl.v (⟨some p97, 1, 1⟩ : Sl))]) w98 fun l99 w100 => kc5 k_31 now_32 told_33 l99 l35 n36 (IntKind.i64.wrap (n37 + (1 : Int))) w100) (kc5 k_31 now_32 told_33 over_34 l35 n36 (IntKind.i64.wrap (n37 + (1 : Int))) w88.drew)) (G.ptr k_31 fun p101 => G.cM (p101.add 6) w72.drew fun m102 => G.cSl p45 w72.drew fun l103 => G.cI .i64 (p45.add 1) w72.drew fun n104 => G.cI .i64 (p45.add 2) w72.drew fun n105 => G.cI .i64 (p45.add 3) w72.drew fun n106 => G.cI .i64 (p45.add 4) w72.drew fun n107 => G.cF .f64 (p45.add 5) w72.drew fun f108 => G.runU pr (Instr.mapUpdate 73 (.map m102) (.string s54) (.agg #[l103.v, (.int .i64 n104), (.int .i64 n105), (.int .i64 n106), (.int .i64 n107), (.float .f64 f108)])) w72.drew fun w109 => G.cI .i64 (p45.add 4) w109.drew fun n110 => G.ptr k_31 fun p111 => G.cI .i64 (p111.add 4) w109.drew fun n112 => G.cond (decide ((IntKind.i64.wrap (now_32 - n110)) ≥ n112)) (G.ptr k_31 fun p113 => G.cM (p113.add 6) w109.drew fun m114 => G.run pr (Builtin.delete_ #[73, 9] 0 #[(.map m114), (.string s54)]) w109.drew fun v115 w116 => G.cSl p45 w116 fun l117 => G.new (.cells #[l117.v] 22) w116 fun p118 w119 => G.runSl pr (Builtin.append_ #[32, 32] 32 #[over_34.v, (Sl.v (⟨some p118, 1, 1⟩ : Sl))]) w119 fun l120 w121 => kc5 k_31 now_32 told_33 l120 l35 n36 (IntKind.i64.wrap (n37 + (1 : Int))) w121) (kc5 k_31 now_32 told_33 over_34 l35 n36 (IntKind.i64.wrap (n37 + (1 : Int))) w109.drew))))) (S2 K k_31 over_34 w)
theorem S7_ok (Kv : VW) (kc5 : Cur g5) : OkT pr false none 118 g5 (S7 (Kt Kv) kc5) (lp (blk (tl 1 (s1 (tl 1 (s2 (tl 5 bd))))))) (P6 Kv kc5) := ok_last mixed FOk_ fun v ρ w => by kernel_rfl
def L5 (K : KT) : Cur g5 := loopC g5 (S7 K)
theorem L5_ok (Kv : VW) : OkT pr false none 118 g5 (L5 (Kt Kv)) (blk (tl 1 (s1 (tl 1 (s2 (tl 5 bd)))))) (P4 Kv) := ok_loop (B := S7 (Kt Kv)) (by kernel_rfl) fun kc => S7_ok Kv kc
theorem L5_ind {K : KT} {k_17 : Option Addr} {now_18 : Int} {told_19 : Option Nat} {over_20 : Sl} {l21 : Sl} {n22 : Int} {n23 : Int} {w : World} (h : ∀ X : Cur g5, (∀ k_17 now_18 told_19 over_20 l21 n22 n23 w, S7 K X k_17 now_18 told_19 over_20 l21 n22 n23 w → X k_17 now_18 told_19 over_20 l21 n22 n23 w) → X k_17 now_18 told_19 over_20 l21 n22 n23 w) : L5 K k_17 now_18 told_19 over_20 l21 n22 n23 w := fun X hX => h X fun k_17 now_18 told_19 over_20 l21 n22 n23 w hb => hX (k_17, now_18, told_19, over_20, l21, n22, n23, ()) w hb
theorem B8 (Kv : VW) : OkT pr false none 118 g5 (L5 (Kt Kv)) (tl 1 (s1 (tl 1 (s2 (tl 5 bd))))) (P3 Kv) := ok_block 3 (by kernel_rfl) (L5_ok Kv)
@[reducible] def g9 : List SE := [.v 0 .ptr, .v 1 (.int .i64), .v 9 .map, .v 13 .sl]
def S9 (K : KT) (k_122 : Option Addr) (now_123 : Int) (told_124 : Option Nat) (over_125 : Sl) (w : World) : Prop :=
  C.rules_Keeper_Active k_122 w fun l126 w127 => L5 K k_122 now_123 told_124 over_125 l126 ((l126.n : Nat) : Int) (0 : Int) w127
theorem S9_ok (Kv : VW) : OkT pr false none 118 g9 (S9 (Kt Kv)) (s1 (tl 1 (s2 (tl 5 bd)))) (P3 Kv) := ok_group mixed FOk_ 1 (B8 Kv) fun v ρ w => by kernel_rfl
theorem Q10 (Kv : VW) : OkT pr false none 118 g9 (S9 (Kt Kv)) (tl 1 (s2 (tl 5 bd))) (P1 Kv) := ok_seq (by kernel_rfl) (S2_ok Kv) (S9_ok Kv)
@[reducible] def g11 : List SE := [.v 0 .ptr, .v 1 (.int .i64), .v 9 .map]
def S11 (K : KT) (k_128 : Option Addr) (now_129 : Int) (told_130 : Option Nat) (w : World) : Prop :=
  S9 K k_128 now_129 told_130 nilS w
theorem S11_ok (Kv : VW) : OkT pr false none 118 g11 (S11 (Kt Kv)) (s2 (tl 5 bd)) (P1 Kv) := ok_group mixed FOk_ 1 (Q10 Kv) fun v ρ w => by kernel_rfl
def P12 (Kv : VW) : Post := next (get g11 (S11 (Kt Kv))) (P1 Kv)
def P13 (Kv : VW) : Post := inBlock 1 (P12 Kv)
@[reducible] def g14 : List SE := [.v 0 .ptr, .v 1 (.int .i64), .v 9 .map, .v 49 .ptr]
def P15 (Kv : VW) (kc14 : Cur g14) : Post := next (get g14 kc14) (P13 Kv)
def S16 (K : KT) (kc14 : Cur g14) (k_139 : Option Addr) (now_140 : Int) (told_141 : Option Nat) (p142 : Option Addr) (w : World) : Prop :=
  G.nxt pr (Instr.next (.pointer p142) false 0) w (fun w143 => S11 K k_139 now_140 told_141 w143) (fun k145 x146 w144 => G.ent pr (Instr.entry (.pointer p142)) w144 fun k147 x148 => G.ag x148 6 fun c149 => G.vSl c149[0 + 0]? fun l150 => G.vI .i64 c149[0 + 1]? fun n151 => G.vI .i64 c149[0 + 2]? fun n152 => G.vI .i64 c149[0 + 3]? fun n153 => G.vI .i64 c149[0 + 4]? fun n154 => G.vF .f64 c149[0 + 5]? fun f155 => G.new (.cells #[nilS.v, (.int .i64 (0 : Int)), (.int .i64 (0 : Int)), (.int .i64 (0 : Int)), (.int .i64 (0 : Int)), (.float .f64 0)] 41) w144 fun p156 w157 => G.st p156 l150.v w157 fun w158 => G.st (p156.add 1) (.int .i64 n151) w158 fun w159 => G.st (p156.add 2) (.int .i64 n152) w159 fun w160 => G.st (p156.add 3) (.int .i64 n153) w160 fun w161 => G.st (p156.add 4) (.int .i64 n154) w161 fun w162 => G.st (p156.add 5) (.float .f64 f155) w162 fun w163 => G.cSl p156 w163 fun l164 => G.cI .i64 (p156.add 1) w163 fun n165 => G.cI .i64 (p156.add 2) w163 fun n166 => G.cI .i64 (p156.add 3) w163 fun n167 => G.cI .i64 (p156.add 4) w163 fun n168 => G.cF .f64 (p156.add 5) w163 fun f169 => C.rules_Keeper_next k_139 now_140 l164 n165 n166 n167 n168 f169 w163 fun w170 => kc14 k_139 now_140 told_141 p142 w170)
theorem S16_ok (Kv : VW) (kc14 : Cur g14) : OkT pr false none 118 g14 (S16 (Kt Kv) kc14) (lp (blk (tl 1 (s1 (tl 5 bd))))) (P15 Kv kc14) := ok_last mixed FOk_ fun v ρ w => by kernel_rfl
def L14 (K : KT) : Cur g14 := loopC g14 (S16 K)
theorem L14_ok (Kv : VW) : OkT pr false none 118 g14 (L14 (Kt Kv)) (blk (tl 1 (s1 (tl 5 bd)))) (P13 Kv) := ok_loop (B := S16 (Kt Kv)) (by kernel_rfl) fun kc => S16_ok Kv kc
theorem L14_ind {K : KT} {k_131 : Option Addr} {now_132 : Int} {told_133 : Option Nat} {p134 : Option Addr} {w : World} (h : ∀ X : Cur g14, (∀ k_131 now_132 told_133 p134 w, S16 K X k_131 now_132 told_133 p134 w → X k_131 now_132 told_133 p134 w) → X k_131 now_132 told_133 p134 w) : L14 K k_131 now_132 told_133 p134 w := fun X hX => h X fun k_131 now_132 told_133 p134 w hb => hX (k_131, now_132, told_133, p134, ()) w hb
theorem B17 (Kv : VW) : OkT pr false none 118 g14 (L14 (Kt Kv)) (tl 1 (s1 (tl 5 bd))) (P12 Kv) := ok_block 1 (by kernel_rfl) (L14_ok Kv)
def S18 (K : KT) (k_171 : Option Addr) (now_172 : Int) (told_173 : Option Nat) (w : World) : Prop :=
  G.runP pr (Instr.range 73 (.map told_173)) w fun p174 w175 => L14 K k_171 now_172 told_173 p174 w175
theorem S18_ok (Kv : VW) : OkT pr false none 118 g11 (S18 (Kt Kv)) (s1 (tl 5 bd)) (P12 Kv) := ok_group mixed FOk_ 1 (B17 Kv) fun v ρ w => by kernel_rfl
theorem Q19 (Kv : VW) : OkT pr false none 118 g11 (S18 (Kt Kv)) (tl 5 bd) (P1 Kv) := ok_seq (by kernel_rfl) (S11_ok Kv) (S18_ok Kv)
end rules_Keeper_Step
def rules_Keeper_Step (k_4 : Option Addr) (now_5 : Int) (v_6 : Sl) (w : World) (K : rules_Keeper_Step.KT) : Prop :=
  G.cond k_4.isNone (K nilS nilS (2 : Int) w) (C.rules_time now_5 w fun b176 w177 => G.cond (!b176) (K nilS nilS (1 : Int) w177) (G.ptr k_4 fun p178 => G.cI .i64 (p178.add 7) w177 fun n179 => G.cond (decide (now_5 ≤ n179)) (K nilS nilS (1 : Int) w177) (C.rules_Keeper_told k_4 v_6 w177 fun m180 v181 w182 => G.isNilI v181 fun b183 => G.cond (!b183) (C.rules_number v181 w182 fun n184 w185 => K nilS nilS n184 w185) (G.ptr k_4 fun p186 => G.st (p186.add 7) (.int .i64 now_5) w182 fun w187 => rules_Keeper_Step.S18 K k_4 now_5 m180 w187))))
def rules_Keeper_Step.cl : CL := fun args K w => match args with
  | [.pointer x0, .int .i64 x1, .slice x2_a x2_n x2_c] => C.rules_Keeper_Step x0 x1 ⟨x2_a, x2_n, x2_c⟩ w (rules_Keeper_Step.Kt K)
  | _ => False
theorem rules_Keeper_Step.clok : OkC pr 11 rules_Keeper_Step.cl := by
  intro args K w h
  unfold rules_Keeper_Step.cl at h
  split at h
  · exact calls_group false mixed rules_Keeper_Step.FOk_ rules_Keeper_Step.fn rfl 5 (rules_Keeper_Step.Q19 K) (Eq.mp (by kernel_rfl) h)
  · exact h.elim
namespace tocsinlaw19_one
abbrev KT := Sl → World → Prop
def Kt (Kv : VW) : KT := fun l1 w => Kv l1.v w
noncomputable def bd : Code := bdy Tryz.f34
theorem fn : FnOk pr 34 5 Tryz.f34 := ⟨Tryz.func34, by kernel_rfl, Tryz.ntmps34, by kernel_rfl, by kernel_rfl⟩
def F : Clee := ofL []
theorem FOk_ : FOk pr F := FOk_nil
def P1 (Kv : VW) : Post := bodyK false pr 5 Tryz.f34 Kv
end tocsinlaw19_one
def tocsinlaw19_one (w : World) (K : tocsinlaw19_one.KT) : Prop :=
  G.new (.cells #[(.string (⟨#[97]⟩ : ByteArray)), (.string (⟨#[49]⟩ : ByteArray))] 99) w fun p2 w3 => G.new (.cells #[(Sl.v (⟨some p2, 1, 1⟩ : Sl)), (.float .f64 4607182418800017408)] 45) w3 fun p4 w5 => K (⟨some p4, 1, 1⟩ : Sl) w5
def tocsinlaw19_one.cl : CL := fun args K w => match args with
  | [] => C.tocsinlaw19_one w (tocsinlaw19_one.Kt K)
  | _ => False
theorem tocsinlaw19_one.clok : OkC pr 34 tocsinlaw19_one.cl := by
  intro args K w h
  unfold tocsinlaw19_one.cl at h
  split at h
  · exact calls_last false mixed tocsinlaw19_one.FOk_ tocsinlaw19_one.fn rfl (Eq.mp (by kernel_rfl) h)
  · exact h.elim
namespace tocsinlaw19_known
abbrev KT := Bool → World → Prop
def Kt (Kv : VW) : KT := fun b1 w => Kv (.bool b1) w
noncomputable def bd : Code := bdy Tryz.f10
theorem fn : FnOk pr 10 97 Tryz.f10 := ⟨Tryz.func10, by kernel_rfl, Tryz.ntmps10, by kernel_rfl, by kernel_rfl⟩
def F : Clee := ofL [(9, C.rules_New.cl), (11, C.rules_Keeper_Step.cl), (34, C.tocsinlaw19_one.cl)]
theorem FOk_ : FOk pr F := FOk_cons C.rules_New.clok (FOk_cons C.rules_Keeper_Step.clok (FOk_cons C.tocsinlaw19_one.clok (FOk_nil)))
def P1 (Kv : VW) : Post := bodyK false pr 97 Tryz.f10 Kv
end tocsinlaw19_known
def tocsinlaw19_known (w : World) (K : tocsinlaw19_known.KT) : Prop :=
  C.rules_New false (⟨#[120]⟩ : ByteArray) (⟨#[]⟩ : ByteArray) (10 : Int) (0 : Int) nilS w fun p2 n3 w4 => G.cond (n3 != (0 : Int)) (K false w4) (G.cond p2.isNone (K false w4) (C.tocsinlaw19_one w4 fun l5 w6 => C.rules_Keeper_Step p2 (0 : Int) l5 w6 fun l7 l8 n9 w10 => C.tocsinlaw19_one w10 fun l11 w12 => C.rules_Keeper_Step p2 (5 : Int) l11 w12 fun l13 l14 n15 w16 => C.tocsinlaw19_one w16 fun l17 w18 => C.rules_Keeper_Step p2 (10 : Int) l17 w18 fun l19 l20 n21 w22 => C.rules_Keeper_Step p2 (15 : Int) nilS w22 fun l23 l24 n25 w26 => G.cond (n15 == (0 : Int)) (G.cond (n21 == (0 : Int)) (G.cond (n25 == (0 : Int)) (G.cond (((l13.n : Nat) : Int) == (1 : Int)) (G.ix l13.a l13.n (0 : Int) 6 fun p27 => G.cI .i64 (p27.add 1) w26 fun n28 => G.cond (n28 == (1 : Int)) (G.cond (((l19.n : Nat) : Int) == (1 : Int)) (G.ix l19.a l19.n (0 : Int) 6 fun p29 => G.cI .i64 (p29.add 1) w26 fun n30 => G.cond (n30 == (2 : Int)) (G.ix l19.a l19.n (0 : Int) 6 fun p31 => G.cI .i64 (p31.add 2) w26 fun n32 => G.cond (n32 == (0 : Int)) (G.cond (((l23.n : Nat) : Int) == (0 : Int)) (K (((l24.n : Nat) : Int) == (1 : Int)) w26) (K false w26)) (K false w26)) (K false w26)) (K false w26)) (K false w26)) (K false w26)) (K false w26)) (K false w26)) (K false w26)))
def tocsinlaw19_known.cl : CL := fun args K w => match args with
  | [] => C.tocsinlaw19_known w (tocsinlaw19_known.Kt K)
  | _ => False
theorem tocsinlaw19_known.clok : OkC pr 10 tocsinlaw19_known.cl := by
  intro args K w h
  unfold tocsinlaw19_known.cl at h
  split at h
  · exact calls_last false mixed tocsinlaw19_known.FOk_ tocsinlaw19_known.fn rfl (Eq.mp (by kernel_rfl) h)
  · exact h.elim
namespace tocsinref01_Utf8
abbrev KT := Bool → World → Prop
def Kt (Kv : VW) : KT := fun b1 w => Kv (.bool b1) w
noncomputable def bd : Code := bdy Tryz.f67
theorem fn : FnOk pr 67 98 Tryz.f67 := ⟨Tryz.func67, by kernel_rfl, Tryz.ntmps67, by kernel_rfl, by kernel_rfl⟩
def F : Clee := ofL []
theorem FOk_ : FOk pr F := FOk_nil
def P1 (Kv : VW) : Post := bodyK false pr 98 Tryz.f67 Kv
@[reducible] def g2 : List SE := []
def S2 (K : KT) (w : World) : Prop :=
  K true w
theorem S2_ok (Kv : VW) : OkT pr false none 98 g2 (S2 (Kt Kv)) (s2 (tl 1 bd)) (P1 Kv) := ok_last mixed FOk_ fun v ρ w => by kernel_rfl
def P3 (Kv : VW) : Post := next (get g2 (S2 (Kt Kv))) (P1 Kv)
def P4 (Kv : VW) : Post := inBlock 0 (P3 Kv)
@[reducible] def g5 : List SE := [.v 0 .str, .v 3 (.int .i64)]
def P6 (Kv : VW) (kc5 : Cur g5) : Post := next (get g5 kc5) (P4 Kv)
def P7 (Kv : VW) (kc5 : Cur g5) : Post := inBlock 1 (P6 Kv kc5)
@[reducible] def g8 : List SE := [.v 0 .str, .v 3 (.int .i64), .v 5 (.int .i64), .v 6 (.int .i64), .v 7 (.int .i64)]
def S8 (K : KT) (kc5 : Cur g5) (s_5 : ByteArray) (i_6 : Int) (n_7 : Int) (least_8 : Int) (r_9 : Int) (w : World) : Prop :=
  G.cond (decide (r_9 < least_8)) (K false w) (G.cond (decide (r_9 > (1114111 : Int))) (K false w) (G.cond (decide (r_9 ≥ (55296 : Int))) (G.cond (decide (r_9 < (57344 : Int))) (K false w) (kc5 s_5 (IntKind.i64.wrap ((IntKind.i64.wrap (i_6 + n_7)) + (1 : Int))) w)) (kc5 s_5 (IntKind.i64.wrap ((IntKind.i64.wrap (i_6 + n_7)) + (1 : Int))) w)))
theorem S8_ok (Kv : VW) (kc5 : Cur g5) : OkT pr false none 98 g8 (S8 (Kt Kv) kc5) (s2 (tl 5 (blk (tl 1 (lp (blk (tl 1 (s1 (tl 1 bd))))))))) (P7 Kv kc5) := ok_last mixed FOk_ fun v ρ w => by kernel_rfl
def P9 (Kv : VW) (kc5 : Cur g5) : Post := next (get g8 (S8 (Kt Kv) kc5)) (P7 Kv kc5)
def P10 (Kv : VW) (kc5 : Cur g5) : Post := inBlock 3 (P9 Kv kc5)
@[reducible] def g11 : List SE := [.v 0 .str, .v 3 (.int .i64), .v 5 (.int .i64), .v 6 (.int .i64), .v 7 (.int .i64), .v 8 (.int .i64)]
def P12 (Kv : VW) (kc5 : Cur g5) (kc11 : Cur g11) : Post := next (get g11 kc11) (P10 Kv kc5)
def S13 (K : KT) (kc5 : Cur g5) (kc11 : Cur g11) (s_22 : ByteArray) (i_23 : Int) (n_24 : Int) (least_25 : Int) (r_26 : Int) (k_27 : Int) (w : World) : Prop :=
  G.cond (decide (k_27 ≤ n_24)) (G.cond (decide ((IntKind.i64.wrap (i_23 + k_27)) ≥ ((s_22.size : Nat) : Int))) (K false w) (G.ixS s_22 (IntKind.i64.wrap (i_23 + k_27)) fun n28 => G.cond ((Go.bits .and .u8 n28 (192 : Int)) != (128 : Int)) (K false w) (G.ixS s_22 (IntKind.i64.wrap (i_23 + k_27)) fun n29 => kc11 s_22 i_23 n_24 least_25 (IntKind.i64.wrap ((IntKind.i64.wrap (r_26 * (64 : Int))) + (IntKind.i64.wrap (Go.bits .and .u8 n29 (63 : Int))))) (IntKind.i64.wrap (k_27 + (1 : Int))) w))) (S8 K kc5 s_22 i_23 n_24 least_25 r_26 w)
theorem S13_ok (Kv : VW) (kc5 : Cur g5) (kc11 : Cur g11) : OkT pr false none 98 g11 (S13 (Kt Kv) kc5 kc11) (lp (blk (tl 1 (s1 (tl 5 (blk (tl 1 (lp (blk (tl 1 (s1 (tl 1 bd)))))))))))) (P12 Kv kc5 kc11) := ok_last mixed FOk_ fun v ρ w => by kernel_rfl
def L11 (K : KT) (kc5 : Cur g5) : Cur g11 := loopC g11 (S13 K kc5)
theorem L11_ok (Kv : VW) (kc5 : Cur g5) : OkT pr false none 98 g11 (L11 (Kt Kv) kc5) (blk (tl 1 (s1 (tl 5 (blk (tl 1 (lp (blk (tl 1 (s1 (tl 1 bd))))))))))) (P10 Kv kc5) := ok_loop (B := S13 (Kt Kv) kc5) (by kernel_rfl) fun kc => S13_ok Kv kc5 kc
theorem L11_ind {K : KT} {kc5 : Cur g5} {s_10 : ByteArray} {i_11 : Int} {n_12 : Int} {least_13 : Int} {r_14 : Int} {k_15 : Int} {w : World} (h : ∀ X : Cur g11, (∀ s_10 i_11 n_12 least_13 r_14 k_15 w, S13 K kc5 X s_10 i_11 n_12 least_13 r_14 k_15 w → X s_10 i_11 n_12 least_13 r_14 k_15 w) → X s_10 i_11 n_12 least_13 r_14 k_15 w) : L11 K kc5 s_10 i_11 n_12 least_13 r_14 k_15 w := fun X hX => h X fun s_10 i_11 n_12 least_13 r_14 k_15 w hb => hX (s_10, i_11, n_12, least_13, r_14, k_15, ()) w hb
theorem B14 (Kv : VW) (kc5 : Cur g5) : OkT pr false none 98 g11 (L11 (Kt Kv) kc5) (tl 1 (s1 (tl 5 (blk (tl 1 (lp (blk (tl 1 (s1 (tl 1 bd)))))))))) (P9 Kv kc5) := ok_block 3 (by kernel_rfl) (L11_ok Kv kc5)
def S15 (K : KT) (kc5 : Cur g5) (s_30 : ByteArray) (i_31 : Int) (n_32 : Int) (least_33 : Int) (r_34 : Int) (w : World) : Prop :=
  L11 K kc5 s_30 i_31 n_32 least_33 r_34 (1 : Int) w
theorem S15_ok (Kv : VW) (kc5 : Cur g5) : OkT pr false none 98 g8 (S15 (Kt Kv) kc5) (s1 (tl 5 (blk (tl 1 (lp (blk (tl 1 (s1 (tl 1 bd))))))))) (P9 Kv kc5) := ok_group mixed FOk_ 1 (B14 Kv kc5) fun v ρ w => by kernel_rfl
theorem Q16 (Kv : VW) (kc5 : Cur g5) : OkT pr false none 98 g8 (S15 (Kt Kv) kc5) (tl 5 (blk (tl 1 (lp (blk (tl 1 (s1 (tl 1 bd)))))))) (P7 Kv kc5) := ok_seq (by kernel_rfl) (S8_ok Kv kc5) (S15_ok Kv kc5)
def S17 (K : KT) (kc5 : Cur g5) (s_35 : ByteArray) (i_36 : Int) (w : World) : Prop :=
  G.ixS s_35 i_36 fun n37 => G.cond (decide ((IntKind.i64.wrap n37) < (128 : Int))) (kc5 s_35 (IntKind.i64.wrap (i_36 + (1 : Int))) w) (G.cond (decide ((IntKind.i64.wrap n37) ≥ (194 : Int))) (G.cond (decide ((IntKind.i64.wrap n37) < (224 : Int))) (S15 K kc5 s_35 i_36 (1 : Int) (128 : Int) (Go.bits .and .i64 (IntKind.i64.wrap n37) (31 : Int)) w) (G.cond (decide ((IntKind.i64.wrap n37) ≥ (224 : Int))) (G.cond (decide ((IntKind.i64.wrap n37) < (240 : Int))) (S15 K kc5 s_35 i_36 (2 : Int) (2048 : Int) (Go.bits .and .i64 (IntKind.i64.wrap n37) (15 : Int)) w) (G.cond (decide ((IntKind.i64.wrap n37) ≥ (240 : Int))) (G.cond (decide ((IntKind.i64.wrap n37) < (245 : Int))) (S15 K kc5 s_35 i_36 (3 : Int) (65536 : Int) (Go.bits .and .i64 (IntKind.i64.wrap n37) (7 : Int)) w) (K false w)) (K false w))) (G.cond (decide ((IntKind.i64.wrap n37) ≥ (240 : Int))) (G.cond (decide ((IntKind.i64.wrap n37) < (245 : Int))) (S15 K kc5 s_35 i_36 (3 : Int) (65536 : Int) (Go.bits .and .i64 (IntKind.i64.wrap n37) (7 : Int)) w) (K false w)) (K false w)))) (G.cond (decide ((IntKind.i64.wrap n37) ≥ (224 : Int))) (G.cond (decide ((IntKind.i64.wrap n37) < (240 : Int))) (S15 K kc5 s_35 i_36 (2 : Int) (2048 : Int) (Go.bits .and .i64 (IntKind.i64.wrap n37) (15 : Int)) w) (G.cond (decide ((IntKind.i64.wrap n37) ≥ (240 : Int))) (G.cond (decide ((IntKind.i64.wrap n37) < (245 : Int))) (S15 K kc5 s_35 i_36 (3 : Int) (65536 : Int) (Go.bits .and .i64 (IntKind.i64.wrap n37) (7 : Int)) w) (K false w)) (K false w))) (G.cond (decide ((IntKind.i64.wrap n37) ≥ (240 : Int))) (G.cond (decide ((IntKind.i64.wrap n37) < (245 : Int))) (S15 K kc5 s_35 i_36 (3 : Int) (65536 : Int) (Go.bits .and .i64 (IntKind.i64.wrap n37) (7 : Int)) w) (K false w)) (K false w))))
theorem S17_ok (Kv : VW) (kc5 : Cur g5) : OkT pr false none 98 g5 (S17 (Kt Kv) kc5) (blk (tl 1 (lp (blk (tl 1 (s1 (tl 1 bd))))))) (P7 Kv kc5) := ok_group mixed FOk_ 5 (Q16 Kv kc5) fun v ρ w => by kernel_rfl
theorem B18 (Kv : VW) (kc5 : Cur g5) : OkT pr false none 98 g5 (S17 (Kt Kv) kc5) (tl 1 (lp (blk (tl 1 (s1 (tl 1 bd)))))) (P6 Kv kc5) := ok_block 1 (by kernel_rfl) (S17_ok Kv kc5)
def S19 (K : KT) (kc5 : Cur g5) (s_38 : ByteArray) (i_39 : Int) (w : World) : Prop :=
  G.cond (decide (i_39 < ((s_38.size : Nat) : Int))) (S17 K kc5 s_38 i_39 w) (S2 K w)
theorem S19_ok (Kv : VW) (kc5 : Cur g5) : OkT pr false none 98 g5 (S19 (Kt Kv) kc5) (lp (blk (tl 1 (s1 (tl 1 bd))))) (P6 Kv kc5) := ok_group mixed FOk_ 1 (B18 Kv kc5) fun v ρ w => by kernel_rfl
def L5 (K : KT) : Cur g5 := loopC g5 (S19 K)
theorem L5_ok (Kv : VW) : OkT pr false none 98 g5 (L5 (Kt Kv)) (blk (tl 1 (s1 (tl 1 bd)))) (P4 Kv) := ok_loop (B := S19 (Kt Kv)) (by kernel_rfl) fun kc => S19_ok Kv kc
theorem L5_ind {K : KT} {s_3 : ByteArray} {i_4 : Int} {w : World} (h : ∀ X : Cur g5, (∀ s_3 i_4 w, S19 K X s_3 i_4 w → X s_3 i_4 w) → X s_3 i_4 w) : L5 K s_3 i_4 w := fun X hX => h X fun s_3 i_4 w hb => hX (s_3, i_4, ()) w hb
theorem B20 (Kv : VW) : OkT pr false none 98 g5 (L5 (Kt Kv)) (tl 1 (s1 (tl 1 bd))) (P3 Kv) := ok_block 0 (by kernel_rfl) (L5_ok Kv)
@[reducible] def g21 : List SE := [.v 0 .str]
def S21 (K : KT) (s_40 : ByteArray) (w : World) : Prop :=
  L5 K s_40 (0 : Int) w
theorem S21_ok (Kv : VW) : OkT pr false none 98 g21 (S21 (Kt Kv)) (s1 (tl 1 bd)) (P3 Kv) := ok_group mixed FOk_ 1 (B20 Kv) fun v ρ w => by kernel_rfl
theorem Q22 (Kv : VW) : OkT pr false none 98 g21 (S21 (Kt Kv)) (tl 1 bd) (P1 Kv) := ok_seq (by kernel_rfl) (S2_ok Kv) (S21_ok Kv)
end tocsinref01_Utf8
def tocsinref01_Utf8 (s_2 : ByteArray) (w : World) (K : tocsinref01_Utf8.KT) : Prop :=
  tocsinref01_Utf8.S21 K s_2 w
def tocsinref01_Utf8.cl : CL := fun args K w => match args with
  | [.string x0] => C.tocsinref01_Utf8 x0 w (tocsinref01_Utf8.Kt K)
  | _ => False
theorem tocsinref01_Utf8.clok : OkC pr 67 tocsinref01_Utf8.cl := by
  intro args K w h
  unfold tocsinref01_Utf8.cl at h
  split at h
  · exact calls_group false mixed tocsinref01_Utf8.FOk_ tocsinref01_Utf8.fn rfl 1 (tocsinref01_Utf8.Q22 K) (Eq.mp (by kernel_rfl) h)
  · exact h.elim
namespace tocsinref04_letter
abbrev KT := Bool → World → Prop
def Kt (Kv : VW) : KT := fun b1 w => Kv (.bool b1) w
noncomputable def bd : Code := bdy Tryz.f93
theorem fn : FnOk pr 93 21 Tryz.f93 := ⟨Tryz.func93, by kernel_rfl, Tryz.ntmps93, by kernel_rfl, by kernel_rfl⟩
def F : Clee := ofL []
theorem FOk_ : FOk pr F := FOk_nil
def P1 (Kv : VW) : Post := bodyK false pr 21 Tryz.f93 Kv
end tocsinref04_letter
def tocsinref04_letter (c_2 : Int) (w : World) (K : tocsinref04_letter.KT) : Prop :=
  G.cond (decide (c_2 ≥ (97 : Int))) (G.cond (decide (c_2 ≤ (122 : Int))) (K true w) (G.cond (decide (c_2 ≥ (65 : Int))) (G.cond (decide (c_2 ≤ (90 : Int))) (K true w) (K (c_2 == (95 : Int)) w)) (K (c_2 == (95 : Int)) w))) (G.cond (decide (c_2 ≥ (65 : Int))) (G.cond (decide (c_2 ≤ (90 : Int))) (K true w) (K (c_2 == (95 : Int)) w)) (K (c_2 == (95 : Int)) w))
def tocsinref04_letter.cl : CL := fun args K w => match args with
  | [.int .u8 x0] => C.tocsinref04_letter x0 w (tocsinref04_letter.Kt K)
  | _ => False
theorem tocsinref04_letter.clok : OkC pr 93 tocsinref04_letter.cl := by
  intro args K w h
  unfold tocsinref04_letter.cl at h
  split at h
  · exact calls_last false mixed tocsinref04_letter.FOk_ tocsinref04_letter.fn rfl (Eq.mp (by kernel_rfl) h)
  · exact h.elim
namespace tocsinref04_digit
abbrev KT := Bool → World → Prop
def Kt (Kv : VW) : KT := fun b1 w => Kv (.bool b1) w
noncomputable def bd : Code := bdy Tryz.f94
theorem fn : FnOk pr 94 9 Tryz.f94 := ⟨Tryz.func94, by kernel_rfl, Tryz.ntmps94, by kernel_rfl, by kernel_rfl⟩
def F : Clee := ofL []
theorem FOk_ : FOk pr F := FOk_nil
def P1 (Kv : VW) : Post := bodyK false pr 9 Tryz.f94 Kv
end tocsinref04_digit
def tocsinref04_digit (c_2 : Int) (w : World) (K : tocsinref04_digit.KT) : Prop :=
  G.cond (decide (c_2 ≥ (48 : Int))) (K (decide (c_2 ≤ (57 : Int))) w) (K false w)
def tocsinref04_digit.cl : CL := fun args K w => match args with
  | [.int .u8 x0] => C.tocsinref04_digit x0 w (tocsinref04_digit.Kt K)
  | _ => False
theorem tocsinref04_digit.clok : OkC pr 94 tocsinref04_digit.cl := by
  intro args K w h
  unfold tocsinref04_digit.cl at h
  split at h
  · exact calls_last false mixed tocsinref04_digit.FOk_ tocsinref04_digit.fn rfl (Eq.mp (by kernel_rfl) h)
  · exact h.elim
namespace tocsinref04_Name
abbrev KT := Bool → World → Prop
def Kt (Kv : VW) : KT := fun b1 w => Kv (.bool b1) w
noncomputable def bd : Code := bdy Tryz.f104
theorem fn : FnOk pr 104 33 Tryz.f104 := ⟨Tryz.func104, by kernel_rfl, Tryz.ntmps104, by kernel_rfl, by kernel_rfl⟩
def F : Clee := ofL [(93, C.tocsinref04_letter.cl), (94, C.tocsinref04_digit.cl)]
theorem FOk_ : FOk pr F := FOk_cons C.tocsinref04_letter.clok (FOk_cons C.tocsinref04_digit.clok (FOk_nil))
def P1 (Kv : VW) : Post := bodyK false pr 33 Tryz.f104 Kv
@[reducible] def g2 : List SE := []
def S2 (K : KT) (w : World) : Prop :=
  K true w
theorem S2_ok (Kv : VW) : OkT pr false none 33 g2 (S2 (Kt Kv)) (s2 (tl 2 bd)) (P1 Kv) := ok_last mixed FOk_ fun v ρ w => by kernel_rfl
def P3 (Kv : VW) : Post := next (get g2 (S2 (Kt Kv))) (P1 Kv)
def P4 (Kv : VW) : Post := inBlock 0 (P3 Kv)
@[reducible] def g5 : List SE := [.v 0 .str, .v 12 (.int .i64), .v 13 (.int .i64)]
def P6 (Kv : VW) (kc5 : Cur g5) : Post := next (get g5 kc5) (P4 Kv)
def S7 (K : KT) (kc5 : Cur g5) (s_9 : ByteArray) (n10 : Int) (n11 : Int) (w : World) : Prop :=
  G.cond (decide (n11 < n10)) (G.ixS s_9 n11 fun n12 => C.tocsinref04_letter n12 w fun b13 w14 => G.cond (!b13) (G.cond (n11 == (0 : Int)) (K false w14) (G.ixS s_9 n11 fun n15 => C.tocsinref04_digit n15 w14 fun b16 w17 => G.cond (!b16) (K false w17) (kc5 s_9 n10 (IntKind.i64.wrap (n11 + (1 : Int))) w17))) (kc5 s_9 n10 (IntKind.i64.wrap (n11 + (1 : Int))) w14)) (S2 K w)
theorem S7_ok (Kv : VW) (kc5 : Cur g5) : OkT pr false none 33 g5 (S7 (Kt Kv) kc5) (lp (blk (tl 1 (s1 (tl 2 bd))))) (P6 Kv kc5) := ok_last mixed FOk_ fun v ρ w => by kernel_rfl
def L5 (K : KT) : Cur g5 := loopC g5 (S7 K)
theorem L5_ok (Kv : VW) : OkT pr false none 33 g5 (L5 (Kt Kv)) (blk (tl 1 (s1 (tl 2 bd)))) (P4 Kv) := ok_loop (B := S7 (Kt Kv)) (by kernel_rfl) fun kc => S7_ok Kv kc
theorem L5_ind {K : KT} {s_3 : ByteArray} {n4 : Int} {n5 : Int} {w : World} (h : ∀ X : Cur g5, (∀ s_3 n4 n5 w, S7 K X s_3 n4 n5 w → X s_3 n4 n5 w) → X s_3 n4 n5 w) : L5 K s_3 n4 n5 w := fun X hX => h X fun s_3 n4 n5 w hb => hX (s_3, n4, n5, ()) w hb
theorem B8 (Kv : VW) : OkT pr false none 33 g5 (L5 (Kt Kv)) (tl 1 (s1 (tl 2 bd))) (P3 Kv) := ok_block 0 (by kernel_rfl) (L5_ok Kv)
@[reducible] def g9 : List SE := [.v 0 .str]
def S9 (K : KT) (s_18 : ByteArray) (w : World) : Prop :=
  L5 K s_18 ((s_18.size : Nat) : Int) (0 : Int) w
theorem S9_ok (Kv : VW) : OkT pr false none 33 g9 (S9 (Kt Kv)) (s1 (tl 2 bd)) (P3 Kv) := ok_group mixed FOk_ 1 (B8 Kv) fun v ρ w => by kernel_rfl
theorem Q10 (Kv : VW) : OkT pr false none 33 g9 (S9 (Kt Kv)) (tl 2 bd) (P1 Kv) := ok_seq (by kernel_rfl) (S2_ok Kv) (S9_ok Kv)
end tocsinref04_Name
def tocsinref04_Name (s_2 : ByteArray) (w : World) (K : tocsinref04_Name.KT) : Prop :=
  G.cond (s_2.toList == (⟨#[]⟩ : ByteArray).toList) (K false w) (G.cond (decide (((s_2.size : Nat) : Int) > (64 : Int))) (K false w) (tocsinref04_Name.S9 K s_2 w))
def tocsinref04_Name.cl : CL := fun args K w => match args with
  | [.string x0] => C.tocsinref04_Name x0 w (tocsinref04_Name.Kt K)
  | _ => False
theorem tocsinref04_Name.clok : OkC pr 104 tocsinref04_Name.cl := by
  intro args K w h
  unfold tocsinref04_Name.cl at h
  split at h
  · exact calls_group false mixed tocsinref04_Name.FOk_ tocsinref04_Name.fn rfl 2 (tocsinref04_Name.Q10 K) (Eq.mp (by kernel_rfl) h)
  · exact h.elim
namespace tocsinref04_one
abbrev KT := Int → World → Prop
def Kt (Kv : VW) : KT := fun n1 w => Kv (.int .i64 n1) w
noncomputable def bd : Code := bdy Tryz.f74
theorem fn : FnOk pr 74 22 Tryz.f74 := ⟨Tryz.func74, by kernel_rfl, Tryz.ntmps74, by kernel_rfl, by kernel_rfl⟩
def F : Clee := ofL [(67, C.tocsinref01_Utf8.cl), (104, C.tocsinref04_Name.cl)]
theorem FOk_ : FOk pr F := FOk_cons C.tocsinref01_Utf8.clok (FOk_cons C.tocsinref04_Name.clok (FOk_nil))
def P1 (Kv : VW) : Post := bodyK false pr 22 Tryz.f74 Kv
end tocsinref04_one
def tocsinref04_one (x_2 : ByteArray) (x_3 : ByteArray) (w : World) (K : tocsinref04_one.KT) : Prop :=
  G.new (.cells #[(.string x_2), (.string x_3)] 99) w fun p4 w5 => G.cS p4 w5 fun s6 => C.tocsinref04_Name s6 w5 fun b7 w8 => G.cond (!b7) (K (40 : Int) w8) (G.cS (p4.add 1) w8 fun s9 => G.cond (s9.toList == (⟨#[]⟩ : ByteArray).toList) (K (41 : Int) w8) (G.cS (p4.add 1) w8 fun s10 => G.cond (decide (((s10.size : Nat) : Int) > (256 : Int))) (K (4 : Int) w8) (G.cS (p4.add 1) w8 fun s11 => C.tocsinref01_Utf8 s11 w8 fun b12 w13 => G.cond (!b12) (K (12 : Int) w13) (K (0 : Int) w13))))
def tocsinref04_one.cl : CL := fun args K w => match args with
  | [.agg ⟨[.string x0_0, .string x0_1]⟩] => C.tocsinref04_one x0_0 x0_1 w (tocsinref04_one.Kt K)
  | _ => False
theorem tocsinref04_one.clok : OkC pr 74 tocsinref04_one.cl := by
  intro args K w h
  unfold tocsinref04_one.cl at h
  split at h
  · exact calls_last false mixed tocsinref04_one.FOk_ tocsinref04_one.fn rfl (Eq.mp (by kernel_rfl) h)
  · exact h.elim
namespace tocsinref04_Right
abbrev KT := Int → Int → World → Prop
def Kt (Kv : VW) : KT := fun n1 n2 w => Kv (.tuple #[(.int .i64 n1), (.int .i64 n2)]) w
noncomputable def bd : Code := bdy Tryz.f40
theorem fn : FnOk pr 40 38 Tryz.f40 := ⟨Tryz.func40, by kernel_rfl, Tryz.ntmps40, by kernel_rfl, by kernel_rfl⟩
def F : Clee := ofL [(74, C.tocsinref04_one.cl)]
theorem FOk_ : FOk pr F := FOk_cons C.tocsinref04_one.clok (FOk_nil)
def P1 (Kv : VW) : Post := bodyK false pr 38 Tryz.f40 Kv
@[reducible] def g2 : List SE := []
def S2 (K : KT) (w : World) : Prop :=
  K (0 : Int) (0 : Int) w
theorem S2_ok (Kv : VW) : OkT pr false none 38 g2 (S2 (Kt Kv)) (s2 (tl 2 bd)) (P1 Kv) := ok_last mixed FOk_ fun v ρ w => by kernel_rfl
def P3 (Kv : VW) : Post := next (get g2 (S2 (Kt Kv))) (P1 Kv)
def P4 (Kv : VW) : Post := inBlock 0 (P3 Kv)
@[reducible] def g5 : List SE := [.v 0 .sl, .v 10 .sl, .v 11 (.int .i64), .v 12 (.int .i64)]
def P6 (Kv : VW) (kc5 : Cur g5) : Post := next (get g5 kc5) (P4 Kv)
def S7 (K : KT) (kc5 : Cur g5) (l_12 : Sl) (l13 : Sl) (n14 : Int) (n15 : Int) (w : World) : Prop :=
  G.cond (decide (n15 < n14)) (G.ix l13.a l13.n n15 2 fun p16 => G.cS p16 w fun s17 => G.cS (p16.add 1) w fun s18 => G.new (.cells #[(.string (⟨#[]⟩ : ByteArray)), (.string (⟨#[]⟩ : ByteArray))] 99) w fun p19 w20 => G.st p19 (.string s17) w20 fun w21 => G.st (p19.add 1) (.string s18) w21 fun w22 => G.cS p19 w22 fun s23 => G.cS (p19.add 1) w22 fun s24 => C.tocsinref04_one s23 s24 w22 fun n25 w26 => G.cond (n25 != (0 : Int)) (K n25 n15 w26) (G.cond (decide (n15 > (0 : Int))) (G.ix l_12.a l_12.n (IntKind.i64.wrap (n15 - (1 : Int))) 2 fun p27 => G.cS p27 w26.drew fun s28 => G.cS p19 w26.drew fun s29 => G.cond (!(Op.bytesLess s28.toList s29.toList)) (K (3 : Int) n15 w26.drew) (kc5 l_12 l13 n14 (IntKind.i64.wrap (n15 + (1 : Int))) w26.drew)) (kc5 l_12 l13 n14 (IntKind.i64.wrap (n15 + (1 : Int))) w26.drew))) (S2 K w)
theorem S7_ok (Kv : VW) (kc5 : Cur g5) : OkT pr false none 38 g5 (S7 (Kt Kv) kc5) (lp (blk (tl 1 (s1 (tl 2 bd))))) (P6 Kv kc5) := ok_last mixed FOk_ fun v ρ w => by kernel_rfl
def L5 (K : KT) : Cur g5 := loopC g5 (S7 K)
theorem L5_ok (Kv : VW) : OkT pr false none 38 g5 (L5 (Kt Kv)) (blk (tl 1 (s1 (tl 2 bd)))) (P4 Kv) := ok_loop (B := S7 (Kt Kv)) (by kernel_rfl) fun kc => S7_ok Kv kc
theorem L5_ind {K : KT} {l_4 : Sl} {l5 : Sl} {n6 : Int} {n7 : Int} {w : World} (h : ∀ X : Cur g5, (∀ l_4 l5 n6 n7 w, S7 K X l_4 l5 n6 n7 w → X l_4 l5 n6 n7 w) → X l_4 l5 n6 n7 w) : L5 K l_4 l5 n6 n7 w := fun X hX => h X fun l_4 l5 n6 n7 w hb => hX (l_4, l5, n6, n7, ()) w hb
theorem B8 (Kv : VW) : OkT pr false none 38 g5 (L5 (Kt Kv)) (tl 1 (s1 (tl 2 bd))) (P3 Kv) := ok_block 0 (by kernel_rfl) (L5_ok Kv)
@[reducible] def g9 : List SE := [.v 0 .sl]
def S9 (K : KT) (l_30 : Sl) (w : World) : Prop :=
  L5 K l_30 l_30 ((l_30.n : Nat) : Int) (0 : Int) w
theorem S9_ok (Kv : VW) : OkT pr false none 38 g9 (S9 (Kt Kv)) (s1 (tl 2 bd)) (P3 Kv) := ok_group mixed FOk_ 1 (B8 Kv) fun v ρ w => by kernel_rfl
theorem Q10 (Kv : VW) : OkT pr false none 38 g9 (S9 (Kt Kv)) (tl 2 bd) (P1 Kv) := ok_seq (by kernel_rfl) (S2_ok Kv) (S9_ok Kv)
end tocsinref04_Right
def tocsinref04_Right (l_3 : Sl) (w : World) (K : tocsinref04_Right.KT) : Prop :=
  G.cond (decide (((l_3.n : Nat) : Int) > (16 : Int))) (K (8 : Int) (0 : Int) w) (tocsinref04_Right.S9 K l_3 w)
def tocsinref04_Right.cl : CL := fun args K w => match args with
  | [.slice x0_a x0_n x0_c] => C.tocsinref04_Right ⟨x0_a, x0_n, x0_c⟩ w (tocsinref04_Right.Kt K)
  | _ => False
theorem tocsinref04_Right.clok : OkC pr 40 tocsinref04_Right.cl := by
  intro args K w h
  unfold tocsinref04_Right.cl at h
  split at h
  · exact calls_group false mixed tocsinref04_Right.FOk_ tocsinref04_Right.fn rfl 2 (tocsinref04_Right.Q10 K) (Eq.mp (by kernel_rfl) h)
  · exact h.elim
namespace tocsinref04_Metric
abbrev KT := Bool → World → Prop
def Kt (Kv : VW) : KT := fun b1 w => Kv (.bool b1) w
noncomputable def bd : Code := bdy Tryz.f68
theorem fn : FnOk pr 68 39 Tryz.f68 := ⟨Tryz.func68, by kernel_rfl, Tryz.ntmps68, by kernel_rfl, by kernel_rfl⟩
def F : Clee := ofL [(93, C.tocsinref04_letter.cl), (94, C.tocsinref04_digit.cl)]
theorem FOk_ : FOk pr F := FOk_cons C.tocsinref04_letter.clok (FOk_cons C.tocsinref04_digit.clok (FOk_nil))
def P1 (Kv : VW) : Post := bodyK false pr 39 Tryz.f68 Kv
@[reducible] def g2 : List SE := []
def S2 (K : KT) (w : World) : Prop :=
  K true w
theorem S2_ok (Kv : VW) : OkT pr false none 39 g2 (S2 (Kt Kv)) (s2 (tl 2 bd)) (P1 Kv) := ok_last mixed FOk_ fun v ρ w => by kernel_rfl
def P3 (Kv : VW) : Post := next (get g2 (S2 (Kt Kv))) (P1 Kv)
def P4 (Kv : VW) : Post := inBlock 0 (P3 Kv)
@[reducible] def g5 : List SE := [.v 0 .str, .v 12 (.int .i64), .v 13 (.int .i64)]
def P6 (Kv : VW) (kc5 : Cur g5) : Post := next (get g5 kc5) (P4 Kv)
def S7 (K : KT) (kc5 : Cur g5) (s_9 : ByteArray) (n10 : Int) (n11 : Int) (w : World) : Prop :=
  G.cond (decide (n11 < n10)) (G.ixS s_9 n11 fun n12 => C.tocsinref04_letter n12 w fun b13 w14 => G.cond (!b13) (G.ixS s_9 n11 fun n15 => G.cond (n15 != (58 : Int)) (G.cond (n11 == (0 : Int)) (K false w14) (G.ixS s_9 n11 fun n16 => C.tocsinref04_digit n16 w14 fun b17 w18 => G.cond (!b17) (K false w18) (kc5 s_9 n10 (IntKind.i64.wrap (n11 + (1 : Int))) w18))) (kc5 s_9 n10 (IntKind.i64.wrap (n11 + (1 : Int))) w14)) (kc5 s_9 n10 (IntKind.i64.wrap (n11 + (1 : Int))) w14)) (S2 K w)
theorem S7_ok (Kv : VW) (kc5 : Cur g5) : OkT pr false none 39 g5 (S7 (Kt Kv) kc5) (lp (blk (tl 1 (s1 (tl 2 bd))))) (P6 Kv kc5) := ok_last mixed FOk_ fun v ρ w => by kernel_rfl
def L5 (K : KT) : Cur g5 := loopC g5 (S7 K)
theorem L5_ok (Kv : VW) : OkT pr false none 39 g5 (L5 (Kt Kv)) (blk (tl 1 (s1 (tl 2 bd)))) (P4 Kv) := ok_loop (B := S7 (Kt Kv)) (by kernel_rfl) fun kc => S7_ok Kv kc
theorem L5_ind {K : KT} {s_3 : ByteArray} {n4 : Int} {n5 : Int} {w : World} (h : ∀ X : Cur g5, (∀ s_3 n4 n5 w, S7 K X s_3 n4 n5 w → X s_3 n4 n5 w) → X s_3 n4 n5 w) : L5 K s_3 n4 n5 w := fun X hX => h X fun s_3 n4 n5 w hb => hX (s_3, n4, n5, ()) w hb
theorem B8 (Kv : VW) : OkT pr false none 39 g5 (L5 (Kt Kv)) (tl 1 (s1 (tl 2 bd))) (P3 Kv) := ok_block 0 (by kernel_rfl) (L5_ok Kv)
@[reducible] def g9 : List SE := [.v 0 .str]
def S9 (K : KT) (s_19 : ByteArray) (w : World) : Prop :=
  L5 K s_19 ((s_19.size : Nat) : Int) (0 : Int) w
theorem S9_ok (Kv : VW) : OkT pr false none 39 g9 (S9 (Kt Kv)) (s1 (tl 2 bd)) (P3 Kv) := ok_group mixed FOk_ 1 (B8 Kv) fun v ρ w => by kernel_rfl
theorem Q10 (Kv : VW) : OkT pr false none 39 g9 (S9 (Kt Kv)) (tl 2 bd) (P1 Kv) := ok_seq (by kernel_rfl) (S2_ok Kv) (S9_ok Kv)
end tocsinref04_Metric
def tocsinref04_Metric (s_2 : ByteArray) (w : World) (K : tocsinref04_Metric.KT) : Prop :=
  G.cond (s_2.toList == (⟨#[]⟩ : ByteArray).toList) (K false w) (G.cond (decide (((s_2.size : Nat) : Int) > (256 : Int))) (K false w) (tocsinref04_Metric.S9 K s_2 w))
def tocsinref04_Metric.cl : CL := fun args K w => match args with
  | [.string x0] => C.tocsinref04_Metric x0 w (tocsinref04_Metric.Kt K)
  | _ => False
theorem tocsinref04_Metric.clok : OkC pr 68 tocsinref04_Metric.cl := by
  intro args K w h
  unfold tocsinref04_Metric.cl at h
  split at h
  · exact calls_group false mixed tocsinref04_Metric.FOk_ tocsinref04_Metric.fn rfl 2 (tocsinref04_Metric.Q10 K) (Eq.mp (by kernel_rfl) h)
  · exact h.elim
namespace tocsinref04_Get
abbrev KT := ByteArray → World → Prop
def Kt (Kv : VW) : KT := fun s1 w => Kv (.string s1) w
noncomputable def bd : Code := bdy Tryz.f69
theorem fn : FnOk pr 69 20 Tryz.f69 := ⟨Tryz.func69, by kernel_rfl, Tryz.ntmps69, by kernel_rfl, by kernel_rfl⟩
def F : Clee := ofL []
theorem FOk_ : FOk pr F := FOk_nil
def P1 (Kv : VW) : Post := bodyK false pr 20 Tryz.f69 Kv
@[reducible] def g2 : List SE := []
def S2 (K : KT) (w : World) : Prop :=
  K (⟨#[]⟩ : ByteArray) w
theorem S2_ok (Kv : VW) : OkT pr false none 20 g2 (S2 (Kt Kv)) (s2 (tl 1 bd)) (P1 Kv) := ok_last mixed FOk_ fun v ρ w => by kernel_rfl
def P3 (Kv : VW) : Post := next (get g2 (S2 (Kt Kv))) (P1 Kv)
def P4 (Kv : VW) : Post := inBlock 0 (P3 Kv)
@[reducible] def g5 : List SE := [.v 1 .str, .v 7 .sl, .v 8 (.int .i64), .v 9 (.int .i64)]
def P6 (Kv : VW) (kc5 : Cur g5) : Post := next (get g5 kc5) (P4 Kv)
def S7 (K : KT) (kc5 : Cur g5) (name_12 : ByteArray) (l13 : Sl) (n14 : Int) (n15 : Int) (w : World) : Prop :=
  G.cond (decide (n15 < n14)) (G.ix l13.a l13.n n15 2 fun p16 => G.cS p16 w fun s17 => G.cS (p16.add 1) w fun s18 => G.new (.cells #[(.string (⟨#[]⟩ : ByteArray)), (.string (⟨#[]⟩ : ByteArray))] 99) w fun p19 w20 => G.st p19 (.string s17) w20 fun w21 => G.st (p19.add 1) (.string s18) w21 fun w22 => G.cS p19 w22 fun s23 => G.cond (s23.toList == name_12.toList) (G.cS (p19.add 1) w22 fun s24 => K s24 w22) (kc5 name_12 l13 n14 (IntKind.i64.wrap (n15 + (1 : Int))) w22)) (S2 K w)
theorem S7_ok (Kv : VW) (kc5 : Cur g5) : OkT pr false none 20 g5 (S7 (Kt Kv) kc5) (lp (blk (tl 1 (s1 (tl 1 bd))))) (P6 Kv kc5) := ok_last mixed FOk_ fun v ρ w => by kernel_rfl
def L5 (K : KT) : Cur g5 := loopC g5 (S7 K)
theorem L5_ok (Kv : VW) : OkT pr false none 20 g5 (L5 (Kt Kv)) (blk (tl 1 (s1 (tl 1 bd)))) (P4 Kv) := ok_loop (B := S7 (Kt Kv)) (by kernel_rfl) fun kc => S7_ok Kv kc
theorem L5_ind {K : KT} {name_4 : ByteArray} {l5 : Sl} {n6 : Int} {n7 : Int} {w : World} (h : ∀ X : Cur g5, (∀ name_4 l5 n6 n7 w, S7 K X name_4 l5 n6 n7 w → X name_4 l5 n6 n7 w) → X name_4 l5 n6 n7 w) : L5 K name_4 l5 n6 n7 w := fun X hX => h X fun name_4 l5 n6 n7 w hb => hX (name_4, l5, n6, n7, ()) w hb
theorem B8 (Kv : VW) : OkT pr false none 20 g5 (L5 (Kt Kv)) (tl 1 (s1 (tl 1 bd))) (P3 Kv) := ok_block 0 (by kernel_rfl) (L5_ok Kv)
@[reducible] def g9 : List SE := [.v 0 .sl, .v 1 .str]
def S9 (K : KT) (l_25 : Sl) (name_26 : ByteArray) (w : World) : Prop :=
  L5 K name_26 l_25 ((l_25.n : Nat) : Int) (0 : Int) w
theorem S9_ok (Kv : VW) : OkT pr false none 20 g9 (S9 (Kt Kv)) (s1 (tl 1 bd)) (P3 Kv) := ok_group mixed FOk_ 1 (B8 Kv) fun v ρ w => by kernel_rfl
theorem Q10 (Kv : VW) : OkT pr false none 20 g9 (S9 (Kt Kv)) (tl 1 bd) (P1 Kv) := ok_seq (by kernel_rfl) (S2_ok Kv) (S9_ok Kv)
end tocsinref04_Get
def tocsinref04_Get (l_2 : Sl) (name_3 : ByteArray) (w : World) (K : tocsinref04_Get.KT) : Prop :=
  tocsinref04_Get.S9 K l_2 name_3 w
def tocsinref04_Get.cl : CL := fun args K w => match args with
  | [.slice x0_a x0_n x0_c, .string x1] => C.tocsinref04_Get ⟨x0_a, x0_n, x0_c⟩ x1 w (tocsinref04_Get.Kt K)
  | _ => False
theorem tocsinref04_Get.clok : OkC pr 69 tocsinref04_Get.cl := by
  intro args K w h
  unfold tocsinref04_Get.cl at h
  split at h
  · exact calls_group false mixed tocsinref04_Get.FOk_ tocsinref04_Get.fn rfl 1 (tocsinref04_Get.Q10 K) (Eq.mp (by kernel_rfl) h)
  · exact h.elim
namespace tocsinref19_Rule
abbrev KT := Int → World → Prop
def Kt (Kv : VW) : KT := fun n1 w => Kv (.int .i64 n1) w
noncomputable def bd : Code := bdy Tryz.f32
theorem fn : FnOk pr 32 97 Tryz.f32 := ⟨Tryz.func32, by kernel_rfl, Tryz.ntmps32, by kernel_rfl, by kernel_rfl⟩
def F : Clee := ofL [(40, C.tocsinref04_Right.cl), (67, C.tocsinref01_Utf8.cl), (68, C.tocsinref04_Metric.cl), (69, C.tocsinref04_Get.cl)]
theorem FOk_ : FOk pr F := FOk_cons C.tocsinref04_Right.clok (FOk_cons C.tocsinref01_Utf8.clok (FOk_cons C.tocsinref04_Metric.clok (FOk_cons C.tocsinref04_Get.clok (FOk_nil))))
def P1 (Kv : VW) : Post := bodyK false pr 97 Tryz.f32 Kv
@[reducible] def g2 : List SE := [.v 1 .ptr, .v 3 .bool, .v 4 .bool]
def S2 (K : KT) (r_21 : Option Addr) (name_22 : Bool) (span_23 : Bool) (w : World) : Prop :=
  G.ptr r_21 fun p24 => G.cSl (p24.add 5) w fun l25 => C.tocsinref04_Right l25 w fun n26 n27 w28 => G.cond (!name_22) (K (201 : Int) w28) (G.cond (!span_23) (K (201 : Int) w28) (G.ptr r_21 fun p29 => G.cS (p29.add 2) w28 fun s30 => G.cond (decide (((s30.size : Nat) : Int) > (65536 : Int))) (K (201 : Int) w28) (G.cond (n26 != (0 : Int)) (K (201 : Int) w28) (G.ptr r_21 fun p31 => G.cSl (p31.add 5) w28 fun l32 => C.tocsinref04_Get l32 (⟨#[95, 95, 110, 97, 109, 101, 95, 95]⟩ : ByteArray) w28 fun s33 w34 => G.cond (!(s33.toList == (⟨#[]⟩ : ByteArray).toList)) (K (201 : Int) w34) (G.ptr r_21 fun p35 => G.cSl (p35.add 5) w34 fun l36 => C.tocsinref04_Get l36 (⟨#[97, 108, 101, 114, 116, 110, 97, 109, 101]⟩ : ByteArray) w34 fun s37 w38 => G.cond (!(s37.toList == (⟨#[]⟩ : ByteArray).toList)) (K (201 : Int) w38) (K (0 : Int) w38))))))
theorem S2_ok (Kv : VW) : OkT pr false none 97 g2 (S2 (Kt Kv)) (tl 1 (tl 1 (tl 1 (tl 2 bd)))) (P1 Kv) := ok_last mixed FOk_ fun v ρ w => by kernel_rfl
def S3 (K : KT) (r_39 : Option Addr) (name_40 : Bool) (span_41 : Bool) (w : World) : Prop :=
  G.ptr r_39 fun p42 => G.cB p42 w fun b43 => G.cond b43 (G.ptr r_39 fun p44 => G.cI .i64 (p44.add 3) w fun n45 => G.cond (n45 != (0 : Int)) (S2 K r_39 name_40 false w) (G.ptr r_39 fun p46 => G.cI .i64 (p46.add 4) w fun n47 => G.cond (n47 != (0 : Int)) (S2 K r_39 name_40 false w) (S2 K r_39 name_40 span_41 w))) (S2 K r_39 name_40 span_41 w)
theorem S3_ok (Kv : VW) : OkT pr false none 97 g2 (S3 (Kt Kv)) (tl 1 (tl 1 (tl 2 bd))) (P1 Kv) := ok_group mixed FOk_ 1 (S2_ok Kv) fun v ρ w => by kernel_rfl
@[reducible] def g4 : List SE := [.v 1 .ptr, .v 3 .bool]
def S4 (K : KT) (r_48 : Option Addr) (name_49 : Bool) (w : World) : Prop :=
  G.ptr r_48 fun p50 => G.cI .i64 (p50.add 3) w fun n51 => G.cond (decide (n51 ≥ (0 : Int))) (G.ptr r_48 fun p52 => G.cI .i64 (p52.add 3) w fun n53 => G.cond (decide (n53 ≤ (1099511627776 : Int))) (G.ptr r_48 fun p54 => G.cI .i64 (p54.add 4) w fun n55 => G.cond (decide (n55 ≥ (0 : Int))) (G.ptr r_48 fun p56 => G.cI .i64 (p56.add 4) w fun n57 => S3 K r_48 name_49 (decide (n57 ≤ (1099511627776 : Int))) w) (S3 K r_48 name_49 false w)) (S3 K r_48 name_49 false w)) (S3 K r_48 name_49 false w)
theorem S4_ok (Kv : VW) : OkT pr false none 97 g4 (S4 (Kt Kv)) (tl 1 (tl 2 bd)) (P1 Kv) := ok_group mixed FOk_ 1 (S3_ok Kv) fun v ρ w => by kernel_rfl
def S5 (K : KT) (r_58 : Option Addr) (name_59 : Bool) (w : World) : Prop :=
  G.ptr r_58 fun p60 => G.cB p60 w fun b61 => G.cond b61 (G.ptr r_58 fun p62 => G.cS (p62.add 1) w fun s63 => C.tocsinref04_Metric s63 w fun b64 w65 => G.cond b64 (G.ptr r_58 fun p66 => G.cS (p66.add 1) w65 fun s67 => S4 K r_58 (decide (((s67.size : Nat) : Int) ≤ (64 : Int))) w65) (S4 K r_58 false w65)) (S4 K r_58 name_59 w)
theorem S5_ok (Kv : VW) : OkT pr false none 97 g4 (S5 (Kt Kv)) (tl 2 bd) (P1 Kv) := ok_group mixed FOk_ 1 (S4_ok Kv) fun v ρ w => by kernel_rfl
end tocsinref19_Rule
def tocsinref19_Rule (r_2 : Bool) (r_3 : ByteArray) (r_4 : ByteArray) (r_5 : Int) (r_6 : Int) (r_7 : Sl) (w : World) (K : tocsinref19_Rule.KT) : Prop :=
  G.new (.cells #[(.bool r_2), (.string r_3), (.string r_4), (.int .i64 r_5), (.int .i64 r_6), r_7.v] 24) w fun p68 w69 => G.cS (p68.add 1) w69 fun s70 => G.cond (decide (((s70.size : Nat) : Int) ≥ (1 : Int))) (G.cS (p68.add 1) w69 fun s71 => G.cond (decide (((s71.size : Nat) : Int) ≤ (256 : Int))) (G.cS (p68.add 1) w69 fun s72 => C.tocsinref01_Utf8 s72 w69 fun b73 w74 => tocsinref19_Rule.S5 K (some p68) b73 w74) (tocsinref19_Rule.S5 K (some p68) false w69)) (tocsinref19_Rule.S5 K (some p68) false w69)
def tocsinref19_Rule.cl : CL := fun args K w => match args with
  | [.agg ⟨[.bool x0_0, .string x0_1, .string x0_2, .int .i64 x0_3, .int .i64 x0_4, .slice x0_5_a x0_5_n x0_5_c]⟩] => C.tocsinref19_Rule x0_0 x0_1 x0_2 x0_3 x0_4 ⟨x0_5_a, x0_5_n, x0_5_c⟩ w (tocsinref19_Rule.Kt K)
  | _ => False
theorem tocsinref19_Rule.clok : OkC pr 32 tocsinref19_Rule.cl := by
  intro args K w h
  unfold tocsinref19_Rule.cl at h
  split at h
  · exact calls_group false mixed tocsinref19_Rule.FOk_ tocsinref19_Rule.fn rfl 2 (tocsinref19_Rule.S5_ok K) (Eq.mp (by kernel_rfl) h)
  · exact h.elim
end C
end Go.Proofs.YtechilkjfhpkpaaGreatDoor

set_option linter.unusedVariables false
set_option maxRecDepth 100000
namespace Go.Proofs.YtechilkjfhpkpaaGreatDoor
open Go Vm
namespace C
namespace tocsinref04_has
abbrev KT := Bool → World → Prop
def Kt (Kv : VW) : KT := fun b1 w => Kv (.bool b1) w
noncomputable def bd : Code := bdy Tryz.f76
theorem fn : FnOk pr 76 17 Tryz.f76 := ⟨Tryz.func76, by kernel_rfl, Tryz.ntmps76, by kernel_rfl, by kernel_rfl⟩
def F : Clee := ofL []
theorem FOk_ : FOk pr F := FOk_nil
def P1 (Kv : VW) : Post := bodyK false pr 17 Tryz.f76 Kv
@[reducible] def g2 : List SE := []
def S2 (K : KT) (w : World) : Prop :=
  K false w
theorem S2_ok (Kv : VW) : OkT pr false none 17 g2 (S2 (Kt Kv)) (s2 (tl 1 bd)) (P1 Kv) := ok_last mixed FOk_ fun v ρ w => by kernel_rfl
def P3 (Kv : VW) : Post := next (get g2 (S2 (Kt Kv))) (P1 Kv)
def P4 (Kv : VW) : Post := inBlock 0 (P3 Kv)
@[reducible] def g5 : List SE := [.v 1 .str, .v 7 .sl, .v 8 (.int .i64), .v 9 (.int .i64)]
def P6 (Kv : VW) (kc5 : Cur g5) : Post := next (get g5 kc5) (P4 Kv)
def S7 (K : KT) (kc5 : Cur g5) (s_12 : ByteArray) (l13 : Sl) (n14 : Int) (n15 : Int) (w : World) : Prop :=
  G.cond (decide (n15 < n14)) (G.ix l13.a l13.n n15 1 fun p16 => G.cS p16 w fun s17 => G.cond (s17.toList == s_12.toList) (K true w) (kc5 s_12 l13 n14 (IntKind.i64.wrap (n15 + (1 : Int))) w)) (S2 K w)
theorem S7_ok (Kv : VW) (kc5 : Cur g5) : OkT pr false none 17 g5 (S7 (Kt Kv) kc5) (lp (blk (tl 1 (s1 (tl 1 bd))))) (P6 Kv kc5) := ok_last mixed FOk_ fun v ρ w => by kernel_rfl
def L5 (K : KT) : Cur g5 := loopC g5 (S7 K)
theorem L5_ok (Kv : VW) : OkT pr false none 17 g5 (L5 (Kt Kv)) (blk (tl 1 (s1 (tl 1 bd)))) (P4 Kv) := ok_loop (B := S7 (Kt Kv)) (by kernel_rfl) fun kc => S7_ok Kv kc
theorem L5_ind {K : KT} {s_4 : ByteArray} {l5 : Sl} {n6 : Int} {n7 : Int} {w : World} (h : ∀ X : Cur g5, (∀ s_4 l5 n6 n7 w, S7 K X s_4 l5 n6 n7 w → X s_4 l5 n6 n7 w) → X s_4 l5 n6 n7 w) : L5 K s_4 l5 n6 n7 w := fun X hX => h X fun s_4 l5 n6 n7 w hb => hX (s_4, l5, n6, n7, ()) w hb
theorem B8 (Kv : VW) : OkT pr false none 17 g5 (L5 (Kt Kv)) (tl 1 (s1 (tl 1 bd))) (P3 Kv) := ok_block 0 (by kernel_rfl) (L5_ok Kv)
@[reducible] def g9 : List SE := [.v 0 .sl, .v 1 .str]
def S9 (K : KT) (names_18 : Sl) (s_19 : ByteArray) (w : World) : Prop :=
  L5 K s_19 names_18 ((names_18.n : Nat) : Int) (0 : Int) w
theorem S9_ok (Kv : VW) : OkT pr false none 17 g9 (S9 (Kt Kv)) (s1 (tl 1 bd)) (P3 Kv) := ok_group mixed FOk_ 1 (B8 Kv) fun v ρ w => by kernel_rfl
theorem Q10 (Kv : VW) : OkT pr false none 17 g9 (S9 (Kt Kv)) (tl 1 bd) (P1 Kv) := ok_seq (by kernel_rfl) (S2_ok Kv) (S9_ok Kv)
end tocsinref04_has
def tocsinref04_has (names_2 : Sl) (s_3 : ByteArray) (w : World) (K : tocsinref04_has.KT) : Prop :=
  tocsinref04_has.S9 K names_2 s_3 w
def tocsinref04_has.cl : CL := fun args K w => match args with
  | [.slice x0_a x0_n x0_c, .string x1] => C.tocsinref04_has ⟨x0_a, x0_n, x0_c⟩ x1 w (tocsinref04_has.Kt K)
  | _ => False
theorem tocsinref04_has.clok : OkC pr 76 tocsinref04_has.cl := by
  intro args K w h
  unfold tocsinref04_has.cl at h
  split at h
  · exact calls_group false mixed tocsinref04_has.FOk_ tocsinref04_has.fn rfl 1 (tocsinref04_has.Q10 K) (Eq.mp (by kernel_rfl) h)
  · exact h.elim
namespace tocsinref04_Pick
abbrev KT := Sl → World → Prop
def Kt (Kv : VW) : KT := fun l1 w => Kv l1.v w
noncomputable def bd : Code := bdy Tryz.f42
theorem fn : FnOk pr 42 28 Tryz.f42 := ⟨Tryz.func42, by kernel_rfl, Tryz.ntmps42, by kernel_rfl, by kernel_rfl⟩
def F : Clee := ofL [(76, C.tocsinref04_has.cl)]
theorem FOk_ : FOk pr F := FOk_cons C.tocsinref04_has.clok (FOk_nil)
def P1 (Kv : VW) : Post := bodyK false pr 28 Tryz.f42 Kv
@[reducible] def g2 : List SE := [.v 7 .sl]
def S2 (K : KT) (out_5 : Sl) (w : World) : Prop :=
  K out_5 w
theorem S2_ok (Kv : VW) : OkT pr false none 28 g2 (S2 (Kt Kv)) (s2 (tl 2 bd)) (P1 Kv) := ok_last mixed FOk_ fun v ρ w => by kernel_rfl
def P3 (Kv : VW) : Post := next (get g2 (S2 (Kt Kv))) (P1 Kv)
def P4 (Kv : VW) : Post := inBlock 0 (P3 Kv)
@[reducible] def g5 : List SE := [.v 1 .sl, .v 2 .bool, .v 7 .sl, .v 10 .sl, .v 11 (.int .i64), .v 12 (.int .i64)]
def P6 (Kv : VW) (kc5 : Cur g5) : Post := next (get g5 kc5) (P4 Kv)
def S7 (K : KT) (kc5 : Cur g5) (names_18 : Sl) (in_19 : Bool) (out_20 : Sl) (l21 : Sl) (n22 : Int) (n23 : Int) (w : World) : Prop :=
  G.cond (decide (n23 < n22)) (G.ix l21.a l21.n n23 2 fun p24 => G.cS p24 w fun s25 => G.cS (p24.add 1) w fun s26 => G.new (.cells #[(.string (⟨#[]⟩ : ByteArray)), (.string (⟨#[]⟩ : ByteArray))] 99) w fun p27 w28 => G.st p27 (.string s25) w28 fun w29 => G.st (p27.add 1) (.string s26) w29 fun w30 => G.cS p27 w30 fun s31 => C.tocsinref04_has names_18 s31 w30 fun b32 w33 => G.cond (b32 == in_19) (G.cS p27 w33 fun s34 => G.cS (p27.add 1) w33 fun s35 => G.new (.cells #[(.string s34), (.string s35)] 99) w33 fun p36 w37 => G.runSl pr (Builtin.append_ #[22, 22] 22 #[out_20.v, (Sl.v (⟨some p36, 1, 1⟩ : Sl))]) w37 fun l38 w39 => kc5 names_18 in_19 l38 l21 n22 (IntKind.i64.wrap (n23 + (1 : Int))) w39) (kc5 names_18 in_19 out_20 l21 n22 (IntKind.i64.wrap (n23 + (1 : Int))) w33)) (S2 K out_20 w)
theorem S7_ok (Kv : VW) (kc5 : Cur g5) : OkT pr false none 28 g5 (S7 (Kt Kv) kc5) (lp (blk (tl 1 (s1 (tl 2 bd))))) (P6 Kv kc5) := ok_last mixed FOk_ fun v ρ w => by kernel_rfl
def L5 (K : KT) : Cur g5 := loopC g5 (S7 K)
theorem L5_ok (Kv : VW) : OkT pr false none 28 g5 (L5 (Kt Kv)) (blk (tl 1 (s1 (tl 2 bd)))) (P4 Kv) := ok_loop (B := S7 (Kt Kv)) (by kernel_rfl) fun kc => S7_ok Kv kc
theorem L5_ind {K : KT} {names_6 : Sl} {in_7 : Bool} {out_8 : Sl} {l9 : Sl} {n10 : Int} {n11 : Int} {w : World} (h : ∀ X : Cur g5, (∀ names_6 in_7 out_8 l9 n10 n11 w, S7 K X names_6 in_7 out_8 l9 n10 n11 w → X names_6 in_7 out_8 l9 n10 n11 w) → X names_6 in_7 out_8 l9 n10 n11 w) : L5 K names_6 in_7 out_8 l9 n10 n11 w := fun X hX => h X fun names_6 in_7 out_8 l9 n10 n11 w hb => hX (names_6, in_7, out_8, l9, n10, n11, ()) w hb
theorem B8 (Kv : VW) : OkT pr false none 28 g5 (L5 (Kt Kv)) (tl 1 (s1 (tl 2 bd))) (P3 Kv) := ok_block 0 (by kernel_rfl) (L5_ok Kv)
@[reducible] def g9 : List SE := [.v 0 .sl, .v 1 .sl, .v 2 .bool, .v 7 .sl]
def S9 (K : KT) (l_40 : Sl) (names_41 : Sl) (in_42 : Bool) (out_43 : Sl) (w : World) : Prop :=
  L5 K names_41 in_42 out_43 l_40 ((l_40.n : Nat) : Int) (0 : Int) w
theorem S9_ok (Kv : VW) : OkT pr false none 28 g9 (S9 (Kt Kv)) (s1 (tl 2 bd)) (P3 Kv) := ok_group mixed FOk_ 1 (B8 Kv) fun v ρ w => by kernel_rfl
theorem Q10 (Kv : VW) : OkT pr false none 28 g9 (S9 (Kt Kv)) (tl 2 bd) (P1 Kv) := ok_seq (by kernel_rfl) (S2_ok Kv) (S9_ok Kv)
end tocsinref04_Pick
def tocsinref04_Pick (l_2 : Sl) (names_3 : Sl) (in_4 : Bool) (w : World) (K : tocsinref04_Pick.KT) : Prop :=
  tocsinref04_Pick.S9 K l_2 names_3 in_4 nilS w
def tocsinref04_Pick.cl : CL := fun args K w => match args with
  | [.slice x0_a x0_n x0_c, .slice x1_a x1_n x1_c, .bool x2] => C.tocsinref04_Pick ⟨x0_a, x0_n, x0_c⟩ ⟨x1_a, x1_n, x1_c⟩ x2 w (tocsinref04_Pick.Kt K)
  | _ => False
theorem tocsinref04_Pick.clok : OkC pr 42 tocsinref04_Pick.cl := by
  intro args K w h
  unfold tocsinref04_Pick.cl at h
  split at h
  · exact calls_group false mixed tocsinref04_Pick.FOk_ tocsinref04_Pick.fn rfl 2 (tocsinref04_Pick.Q10 K) (Eq.mp (by kernel_rfl) h)
  · exact h.elim
namespace tocsinref04_twice
abbrev KT := Bool → World → Prop
def Kt (Kv : VW) : KT := fun b1 w => Kv (.bool b1) w
noncomputable def bd : Code := bdy Tryz.f105
theorem fn : FnOk pr 105 29 Tryz.f105 := ⟨Tryz.func105, by kernel_rfl, Tryz.ntmps105, by kernel_rfl, by kernel_rfl⟩
def F : Clee := ofL []
theorem FOk_ : FOk pr F := FOk_nil
def P1 (Kv : VW) : Post := bodyK false pr 29 Tryz.f105 Kv
@[reducible] def g2 : List SE := []
def S2 (K : KT) (w : World) : Prop :=
  K false w
theorem S2_ok (Kv : VW) : OkT pr false none 29 g2 (S2 (Kt Kv)) (s2 (tl 1 bd)) (P1 Kv) := ok_last mixed FOk_ fun v ρ w => by kernel_rfl
def P3 (Kv : VW) : Post := next (get g2 (S2 (Kt Kv))) (P1 Kv)
def P4 (Kv : VW) : Post := inBlock 0 (P3 Kv)
@[reducible] def g5 : List SE := [.v 0 .sl, .v 7 .sl, .v 8 (.int .i64), .v 9 (.int .i64)]
def P6 (Kv : VW) (kc5 : Cur g5) : Post := next (get g5 kc5) (P4 Kv)
def S7 (K : KT) (kc5 : Cur g5) (l_7 : Sl) (l8 : Sl) (n9 : Int) (n10 : Int) (w : World) : Prop :=
  kc5 l_7 l8 n9 (IntKind.i64.wrap (n10 + (1 : Int))) w
theorem S7_ok (Kv : VW) (kc5 : Cur g5) : OkT pr false none 29 g5 (S7 (Kt Kv) kc5) (s2 (tl 2 (lp (blk (tl 1 (s1 (tl 1 bd))))))) (P6 Kv kc5) := ok_last mixed FOk_ fun v ρ w => by kernel_rfl
def P8 (Kv : VW) (kc5 : Cur g5) : Post := next (get g5 (S7 (Kt Kv) kc5)) (P6 Kv kc5)
def P9 (Kv : VW) (kc5 : Cur g5) : Post := inBlock 1 (P8 Kv kc5)
def P10 (Kv : VW) (kc5 : Cur g5) : Post := inBlock 2 (P9 Kv kc5)
@[reducible] def g11 : List SE := [.v 0 .sl, .v 4 .ptr, .v 7 .sl, .v 8 (.int .i64), .v 9 (.int .i64), .v 16 .sl, .v 17 (.int .i64), .v 18 (.int .i64)]
def P12 (Kv : VW) (kc5 : Cur g5) (kc11 : Cur g11) : Post := next (get g11 kc11) (P10 Kv kc5)
def S13 (K : KT) (kc5 : Cur g5) (kc11 : Cur g11) (l_27 : Sl) (x_28 : Option Addr) (l29 : Sl) (n30 : Int) (n31 : Int) (l32 : Sl) (n33 : Int) (n34 : Int) (w : World) : Prop :=
  G.cond (decide (n34 < n33)) (G.ix l32.a l32.n n34 2 fun p35 => G.cS p35 w fun s36 => G.cS (p35.add 1) w fun s37 => G.new (.cells #[(.string (⟨#[]⟩ : ByteArray)), (.string (⟨#[]⟩ : ByteArray))] 99) w fun p38 w39 => G.st p38 (.string s36) w39 fun w40 => G.st (p38.add 1) (.string s37) w40 fun w41 => G.ptr x_28 fun p42 => G.cS p42 w41 fun s43 => G.cS p38 w41 fun s44 => G.cond (s43.toList == s44.toList) (K true w41) (kc11 l_27 x_28 l29 n30 n31 l32 n33 (IntKind.i64.wrap (n34 + (1 : Int))) w41)) (S7 K kc5 l_27 l29 n30 n31 w)
theorem S13_ok (Kv : VW) (kc5 : Cur g5) (kc11 : Cur g11) : OkT pr false none 29 g11 (S13 (Kt Kv) kc5 kc11) (lp (blk (tl 2 (blk (s1 (tl 2 (lp (blk (tl 1 (s1 (tl 1 bd))))))))))) (P12 Kv kc5 kc11) := ok_last mixed FOk_ fun v ρ w => by kernel_rfl
def L11 (K : KT) (kc5 : Cur g5) : Cur g11 := loopC g11 (S13 K kc5)
theorem L11_ok (Kv : VW) (kc5 : Cur g5) : OkT pr false none 29 g11 (L11 (Kt Kv) kc5) (blk (tl 2 (blk (s1 (tl 2 (lp (blk (tl 1 (s1 (tl 1 bd)))))))))) (P10 Kv kc5) := ok_loop (B := S13 (Kt Kv) kc5) (by kernel_rfl) fun kc => S13_ok Kv kc5 kc
theorem L11_ind {K : KT} {kc5 : Cur g5} {l_11 : Sl} {x_12 : Option Addr} {l13 : Sl} {n14 : Int} {n15 : Int} {l16 : Sl} {n17 : Int} {n18 : Int} {w : World} (h : ∀ X : Cur g11, (∀ l_11 x_12 l13 n14 n15 l16 n17 n18 w, S13 K kc5 X l_11 x_12 l13 n14 n15 l16 n17 n18 w → X l_11 x_12 l13 n14 n15 l16 n17 n18 w) → X l_11 x_12 l13 n14 n15 l16 n17 n18 w) : L11 K kc5 l_11 x_12 l13 n14 n15 l16 n17 n18 w := fun X hX => h X fun l_11 x_12 l13 n14 n15 l16 n17 n18 w hb => hX (l_11, x_12, l13, n14, n15, l16, n17, n18, ()) w hb
theorem B14 (Kv : VW) (kc5 : Cur g5) : OkT pr false none 29 g11 (L11 (Kt Kv) kc5) (tl 2 (blk (s1 (tl 2 (lp (blk (tl 1 (s1 (tl 1 bd))))))))) (P9 Kv kc5) := ok_block 2 (by kernel_rfl) (L11_ok Kv kc5)
def S15 (K : KT) (kc5 : Cur g5) (l_45 : Sl) (l46 : Sl) (n47 : Int) (n48 : Int) (w : World) : Prop :=
  G.ix l46.a l46.n n48 2 fun p49 => G.cS p49 w fun s50 => G.cS (p49.add 1) w fun s51 => G.new (.cells #[(.string (⟨#[]⟩ : ByteArray)), (.string (⟨#[]⟩ : ByteArray))] 99) w fun p52 w53 => G.st p52 (.string s50) w53 fun w54 => G.st (p52.add 1) (.string s51) w54 fun w55 => G.slc l_45 0 n48 2 fun l56 => L11 K kc5 l_45 (some p52) l46 n47 n48 l56 ((l56.n : Nat) : Int) (0 : Int) w55
theorem S15_ok (Kv : VW) (kc5 : Cur g5) : OkT pr false none 29 g5 (S15 (Kt Kv) kc5) (blk (s1 (tl 2 (lp (blk (tl 1 (s1 (tl 1 bd)))))))) (P9 Kv kc5) := ok_group mixed FOk_ 2 (B14 Kv kc5) fun v ρ w => by kernel_rfl
theorem B16 (Kv : VW) (kc5 : Cur g5) : OkT pr false none 29 g5 (S15 (Kt Kv) kc5) (s1 (tl 2 (lp (blk (tl 1 (s1 (tl 1 bd))))))) (P8 Kv kc5) := ok_block 1 (by kernel_rfl) (S15_ok Kv kc5)
theorem Q17 (Kv : VW) (kc5 : Cur g5) : OkT pr false none 29 g5 (S15 (Kt Kv) kc5) (tl 2 (lp (blk (tl 1 (s1 (tl 1 bd)))))) (P6 Kv kc5) := ok_seq (by kernel_rfl) (S7_ok Kv kc5) (B16 Kv kc5)
def S18 (K : KT) (kc5 : Cur g5) (l_57 : Sl) (l58 : Sl) (n59 : Int) (n60 : Int) (w : World) : Prop :=
  G.cond (decide (n60 < n59)) (S15 K kc5 l_57 l58 n59 n60 w) (S2 K w)
theorem S18_ok (Kv : VW) (kc5 : Cur g5) : OkT pr false none 29 g5 (S18 (Kt Kv) kc5) (lp (blk (tl 1 (s1 (tl 1 bd))))) (P6 Kv kc5) := ok_group mixed FOk_ 2 (Q17 Kv kc5) fun v ρ w => by kernel_rfl
def L5 (K : KT) : Cur g5 := loopC g5 (S18 K)
theorem L5_ok (Kv : VW) : OkT pr false none 29 g5 (L5 (Kt Kv)) (blk (tl 1 (s1 (tl 1 bd)))) (P4 Kv) := ok_loop (B := S18 (Kt Kv)) (by kernel_rfl) fun kc => S18_ok Kv kc
theorem L5_ind {K : KT} {l_3 : Sl} {l4 : Sl} {n5 : Int} {n6 : Int} {w : World} (h : ∀ X : Cur g5, (∀ l_3 l4 n5 n6 w, S18 K X l_3 l4 n5 n6 w → X l_3 l4 n5 n6 w) → X l_3 l4 n5 n6 w) : L5 K l_3 l4 n5 n6 w := fun X hX => h X fun l_3 l4 n5 n6 w hb => hX (l_3, l4, n5, n6, ()) w hb
theorem B19 (Kv : VW) : OkT pr false none 29 g5 (L5 (Kt Kv)) (tl 1 (s1 (tl 1 bd))) (P3 Kv) := ok_block 0 (by kernel_rfl) (L5_ok Kv)
@[reducible] def g20 : List SE := [.v 0 .sl]
def S20 (K : KT) (l_61 : Sl) (w : World) : Prop :=
  L5 K l_61 l_61 ((l_61.n : Nat) : Int) (0 : Int) w
theorem S20_ok (Kv : VW) : OkT pr false none 29 g20 (S20 (Kt Kv)) (s1 (tl 1 bd)) (P3 Kv) := ok_group mixed FOk_ 1 (B19 Kv) fun v ρ w => by kernel_rfl
theorem Q21 (Kv : VW) : OkT pr false none 29 g20 (S20 (Kt Kv)) (tl 1 bd) (P1 Kv) := ok_seq (by kernel_rfl) (S2_ok Kv) (S20_ok Kv)
end tocsinref04_twice
def tocsinref04_twice (l_2 : Sl) (w : World) (K : tocsinref04_twice.KT) : Prop :=
  tocsinref04_twice.S20 K l_2 w
def tocsinref04_twice.cl : CL := fun args K w => match args with
  | [.slice x0_a x0_n x0_c] => C.tocsinref04_twice ⟨x0_a, x0_n, x0_c⟩ w (tocsinref04_twice.Kt K)
  | _ => False
theorem tocsinref04_twice.clok : OkC pr 105 tocsinref04_twice.cl := by
  intro args K w h
  unfold tocsinref04_twice.cl at h
  split at h
  · exact calls_group false mixed tocsinref04_twice.FOk_ tocsinref04_twice.fn rfl 1 (tocsinref04_twice.Q21 K) (Eq.mp (by kernel_rfl) h)
  · exact h.elim
namespace tocsinref04_sorted
abbrev KT := Sl → World → Prop
def Kt (Kv : VW) : KT := fun l1 w => Kv l1.v w
noncomputable def bd : Code := bdy Tryz.f106
theorem fn : FnOk pr 106 48 Tryz.f106 := ⟨Tryz.func106, by kernel_rfl, Tryz.ntmps106, by kernel_rfl, by kernel_rfl⟩
def F : Clee := ofL []
theorem FOk_ : FOk pr F := FOk_nil
def P1 (Kv : VW) : Post := bodyK false pr 48 Tryz.f106 Kv
@[reducible] def g2 : List SE := [.v 3 .sl]
def S2 (K : KT) (out_3 : Sl) (w : World) : Prop :=
  K out_3 w
theorem S2_ok (Kv : VW) : OkT pr false none 48 g2 (S2 (Kt Kv)) (s2 (tl 2 bd)) (P1 Kv) := ok_last mixed FOk_ fun v ρ w => by kernel_rfl
def P3 (Kv : VW) : Post := next (get g2 (S2 (Kt Kv))) (P1 Kv)
def P4 (Kv : VW) : Post := inBlock 0 (P3 Kv)
@[reducible] def g5 : List SE := [.v 3 .sl, .v 7 .sl, .v 8 (.int .i64), .v 9 (.int .i64)]
def P6 (Kv : VW) (kc5 : Cur g5) : Post := next (get g5 kc5) (P4 Kv)
def S7 (K : KT) (kc5 : Cur g5) (out_8 : Sl) (l9 : Sl) (n10 : Int) (n11 : Int) (w : World) : Prop :=
  kc5 out_8 l9 n10 (IntKind.i64.wrap (n11 + (1 : Int))) w
theorem S7_ok (Kv : VW) (kc5 : Cur g5) : OkT pr false none 48 g5 (S7 (Kt Kv) kc5) (s2 (tl 2 (lp (blk (tl 1 (s1 (tl 2 bd))))))) (P6 Kv kc5) := ok_last mixed FOk_ fun v ρ w => by kernel_rfl
def P8 (Kv : VW) (kc5 : Cur g5) : Post := next (get g5 (S7 (Kt Kv) kc5)) (P6 Kv kc5)
def P9 (Kv : VW) (kc5 : Cur g5) : Post := inBlock 1 (P8 Kv kc5)
@[reducible] def g10 : List SE := [.v 3 .sl, .v 5 .ptr, .v 6 (.int .i64), .v 7 .sl, .v 8 (.int .i64), .v 9 (.int .i64)]
def S10 (K : KT) (kc5 : Cur g5) (out_12 : Sl) (x_13 : Option Addr) (k_14 : Int) (l15 : Sl) (n16 : Int) (n17 : Int) (w : World) : Prop :=
  G.ptr x_13 fun p18 => G.cS p18 w fun s19 => G.cS (p18.add 1) w fun s20 => G.ix out_12.a out_12.n k_14 2 fun p21 => G.st p21 (.string s19) w fun w22 => G.st (p21.add 1) (.string s20) w22 fun w23 => S7 K kc5 out_12 l15 n16 n17 w23
theorem S10_ok (Kv : VW) (kc5 : Cur g5) : OkT pr false none 48 g10 (S10 (Kt Kv) kc5) (s2 (tl 3 (blk (s1 (tl 2 (lp (blk (tl 1 (s1 (tl 2 bd)))))))))) (P9 Kv kc5) := ok_last mixed FOk_ fun v ρ w => by kernel_rfl
def P11 (Kv : VW) (kc5 : Cur g5) : Post := next (get g10 (S10 (Kt Kv) kc5)) (P9 Kv kc5)
def P12 (Kv : VW) (kc5 : Cur g5) : Post := inBlock 2 (P11 Kv kc5)
def P14 (Kv : VW) (kc5 : Cur g5) (kc13 : Cur g10) : Post := next (get g10 kc13) (P12 Kv kc5)
def S15 (K : KT) (kc5 : Cur g5) (kc13 : Cur g10) (out_36 : Sl) (x_37 : Option Addr) (k_38 : Int) (l39 : Sl) (n40 : Int) (n41 : Int) (w : World) : Prop :=
  G.cond (decide (k_38 > (0 : Int))) (G.ix out_36.a out_36.n (IntKind.i64.wrap (k_38 - (1 : Int))) 2 fun p42 => G.cS p42 w.drew fun s43 => G.ptr x_37 fun p44 => G.cS p44 w.drew fun s45 => G.cond (!((Op.bytesLess s43.toList s45.toList) || (s43.toList == s45.toList))) (G.ix out_36.a out_36.n (IntKind.i64.wrap (k_38 - (1 : Int))) 2 fun p46 => G.cS p46 w.drew fun s47 => G.cS (p46.add 1) w.drew fun s48 => G.ix out_36.a out_36.n k_38 2 fun p49 => G.st p49 (.string s47) w.drew fun w50 => G.st (p49.add 1) (.string s48) w50 fun w51 => kc13 out_36 x_37 (IntKind.i64.wrap (k_38 - (1 : Int))) l39 n40 n41 w51) (S10 K kc5 out_36 x_37 k_38 l39 n40 n41 w.drew)) (S10 K kc5 out_36 x_37 k_38 l39 n40 n41 w.drew)
theorem S15_ok (Kv : VW) (kc5 : Cur g5) (kc13 : Cur g10) : OkT pr false none 48 g10 (S15 (Kt Kv) kc5 kc13) (lp (blk (s1 (tl 3 (blk (s1 (tl 2 (lp (blk (tl 1 (s1 (tl 2 bd)))))))))))) (P14 Kv kc5 kc13) := ok_last mixed FOk_ fun v ρ w => by kernel_rfl
def L13 (K : KT) (kc5 : Cur g5) : Cur g10 := loopC g10 (S15 K kc5)
theorem L13_ok (Kv : VW) (kc5 : Cur g5) : OkT pr false none 48 g10 (L13 (Kt Kv) kc5) (blk (s1 (tl 3 (blk (s1 (tl 2 (lp (blk (tl 1 (s1 (tl 2 bd))))))))))) (P12 Kv kc5) := ok_loop (B := S15 (Kt Kv) kc5) (by kernel_rfl) fun kc => S15_ok Kv kc5 kc
theorem L13_ind {K : KT} {kc5 : Cur g5} {out_24 : Sl} {x_25 : Option Addr} {k_26 : Int} {l27 : Sl} {n28 : Int} {n29 : Int} {w : World} (h : ∀ X : Cur g10, (∀ out_24 x_25 k_26 l27 n28 n29 w, S15 K kc5 X out_24 x_25 k_26 l27 n28 n29 w → X out_24 x_25 k_26 l27 n28 n29 w) → X out_24 x_25 k_26 l27 n28 n29 w) : L13 K kc5 out_24 x_25 k_26 l27 n28 n29 w := fun X hX => h X fun out_24 x_25 k_26 l27 n28 n29 w hb => hX (out_24, x_25, k_26, l27, n28, n29, ()) w hb
theorem B16 (Kv : VW) (kc5 : Cur g5) : OkT pr false none 48 g10 (L13 (Kt Kv) kc5) (s1 (tl 3 (blk (s1 (tl 2 (lp (blk (tl 1 (s1 (tl 2 bd)))))))))) (P11 Kv kc5) := ok_block 2 (by kernel_rfl) (L13_ok Kv kc5)
theorem Q17 (Kv : VW) (kc5 : Cur g5) : OkT pr false none 48 g10 (L13 (Kt Kv) kc5) (tl 3 (blk (s1 (tl 2 (lp (blk (tl 1 (s1 (tl 2 bd))))))))) (P9 Kv kc5) := ok_seq (by kernel_rfl) (S10_ok Kv kc5) (B16 Kv kc5)
def S18 (K : KT) (kc5 : Cur g5) (out_52 : Sl) (l53 : Sl) (n54 : Int) (n55 : Int) (w : World) : Prop :=
  G.ix l53.a l53.n n55 2 fun p56 => G.cS p56 w fun s57 => G.cS (p56.add 1) w fun s58 => G.new (.cells #[(.string (⟨#[]⟩ : ByteArray)), (.string (⟨#[]⟩ : ByteArray))] 99) w fun p59 w60 => G.st p59 (.string s57) w60 fun w61 => G.st (p59.add 1) (.string s58) w61 fun w62 => G.cS p59 w62 fun s63 => G.cS (p59.add 1) w62 fun s64 => G.new (.cells #[(.string s63), (.string s64)] 99) w62 fun p65 w66 => G.runSl pr (Builtin.append_ #[22, 22] 22 #[out_52.v, (Sl.v (⟨some p65, 1, 1⟩ : Sl))]) w66 fun l67 w68 => L13 K kc5 l67 (some p59) ((out_52.n : Nat) : Int) l53 n54 n55 w68
theorem S18_ok (Kv : VW) (kc5 : Cur g5) : OkT pr false none 48 g5 (S18 (Kt Kv) kc5) (blk (s1 (tl 2 (lp (blk (tl 1 (s1 (tl 2 bd)))))))) (P9 Kv kc5) := ok_group mixed FOk_ 3 (Q17 Kv kc5) fun v ρ w => by kernel_rfl
theorem B19 (Kv : VW) (kc5 : Cur g5) : OkT pr false none 48 g5 (S18 (Kt Kv) kc5) (s1 (tl 2 (lp (blk (tl 1 (s1 (tl 2 bd))))))) (P8 Kv kc5) := ok_block 1 (by kernel_rfl) (S18_ok Kv kc5)
theorem Q20 (Kv : VW) (kc5 : Cur g5) : OkT pr false none 48 g5 (S18 (Kt Kv) kc5) (tl 2 (lp (blk (tl 1 (s1 (tl 2 bd)))))) (P6 Kv kc5) := ok_seq (by kernel_rfl) (S7_ok Kv kc5) (B19 Kv kc5)
def S21 (K : KT) (kc5 : Cur g5) (out_69 : Sl) (l70 : Sl) (n71 : Int) (n72 : Int) (w : World) : Prop :=
  G.cond (decide (n72 < n71)) (S18 K kc5 out_69 l70 n71 n72 w) (S2 K out_69 w)
theorem S21_ok (Kv : VW) (kc5 : Cur g5) : OkT pr false none 48 g5 (S21 (Kt Kv) kc5) (lp (blk (tl 1 (s1 (tl 2 bd))))) (P6 Kv kc5) := ok_group mixed FOk_ 2 (Q20 Kv kc5) fun v ρ w => by kernel_rfl
def L5 (K : KT) : Cur g5 := loopC g5 (S21 K)
theorem L5_ok (Kv : VW) : OkT pr false none 48 g5 (L5 (Kt Kv)) (blk (tl 1 (s1 (tl 2 bd)))) (P4 Kv) := ok_loop (B := S21 (Kt Kv)) (by kernel_rfl) fun kc => S21_ok Kv kc
theorem L5_ind {K : KT} {out_4 : Sl} {l5 : Sl} {n6 : Int} {n7 : Int} {w : World} (h : ∀ X : Cur g5, (∀ out_4 l5 n6 n7 w, S21 K X out_4 l5 n6 n7 w → X out_4 l5 n6 n7 w) → X out_4 l5 n6 n7 w) : L5 K out_4 l5 n6 n7 w := fun X hX => h X fun out_4 l5 n6 n7 w hb => hX (out_4, l5, n6, n7, ()) w hb
theorem B22 (Kv : VW) : OkT pr false none 48 g5 (L5 (Kt Kv)) (tl 1 (s1 (tl 2 bd))) (P3 Kv) := ok_block 0 (by kernel_rfl) (L5_ok Kv)
@[reducible] def g23 : List SE := [.v 0 .sl, .v 3 .sl]
def S23 (K : KT) (l_73 : Sl) (out_74 : Sl) (w : World) : Prop :=
  L5 K out_74 l_73 ((l_73.n : Nat) : Int) (0 : Int) w
theorem S23_ok (Kv : VW) : OkT pr false none 48 g23 (S23 (Kt Kv)) (s1 (tl 2 bd)) (P3 Kv) := ok_group mixed FOk_ 1 (B22 Kv) fun v ρ w => by kernel_rfl
theorem Q24 (Kv : VW) : OkT pr false none 48 g23 (S23 (Kt Kv)) (tl 2 bd) (P1 Kv) := ok_seq (by kernel_rfl) (S2_ok Kv) (S23_ok Kv)
end tocsinref04_sorted
def tocsinref04_sorted (l_2 : Sl) (w : World) (K : tocsinref04_sorted.KT) : Prop :=
  tocsinref04_sorted.S23 K l_2 nilS w
def tocsinref04_sorted.cl : CL := fun args K w => match args with
  | [.slice x0_a x0_n x0_c] => C.tocsinref04_sorted ⟨x0_a, x0_n, x0_c⟩ w (tocsinref04_sorted.Kt K)
  | _ => False
theorem tocsinref04_sorted.clok : OkC pr 106 tocsinref04_sorted.cl := by
  intro args K w h
  unfold tocsinref04_sorted.cl at h
  split at h
  · exact calls_group false mixed tocsinref04_sorted.FOk_ tocsinref04_sorted.fn rfl 2 (tocsinref04_sorted.Q24 K) (Eq.mp (by kernel_rfl) h)
  · exact h.elim
namespace tocsinref04_full
abbrev KT := Sl → World → Prop
def Kt (Kv : VW) : KT := fun l1 w => Kv l1.v w
noncomputable def bd : Code := bdy Tryz.f107
theorem fn : FnOk pr 107 21 Tryz.f107 := ⟨Tryz.func107, by kernel_rfl, Tryz.ntmps107, by kernel_rfl, by kernel_rfl⟩
def F : Clee := ofL []
theorem FOk_ : FOk pr F := FOk_nil
def P1 (Kv : VW) : Post := bodyK false pr 21 Tryz.f107 Kv
@[reducible] def g2 : List SE := [.v 3 .sl]
def S2 (K : KT) (out_3 : Sl) (w : World) : Prop :=
  K out_3 w
theorem S2_ok (Kv : VW) : OkT pr false none 21 g2 (S2 (Kt Kv)) (s2 (tl 2 bd)) (P1 Kv) := ok_last mixed FOk_ fun v ρ w => by kernel_rfl
def P3 (Kv : VW) : Post := next (get g2 (S2 (Kt Kv))) (P1 Kv)
def P4 (Kv : VW) : Post := inBlock 0 (P3 Kv)
@[reducible] def g5 : List SE := [.v 3 .sl, .v 6 .sl, .v 7 (.int .i64), .v 8 (.int .i64)]
def P6 (Kv : VW) (kc5 : Cur g5) : Post := next (get g5 kc5) (P4 Kv)
def S7 (K : KT) (kc5 : Cur g5) (out_12 : Sl) (l13 : Sl) (n14 : Int) (n15 : Int) (w : World) : Prop :=
  G.cond (decide (n15 < n14)) (G.ix l13.a l13.n n15 2 fun p16 => G.cS p16 w fun s17 => G.cS (p16.add 1) w fun s18 => G.new (.cells #[(.string (⟨#[]⟩ : ByteArray)), (.string (⟨#[]⟩ : ByteArray))] 99) w fun p19 w20 => G.st p19 (.string s17) w20 fun w21 => G.st (p19.add 1) (.string s18) w21 fun w22 => G.cS (p19.add 1) w22 fun s23 => G.cond (!(s23.toList == (⟨#[]⟩ : ByteArray).toList)) (G.cS p19 w22 fun s24 => G.cS (p19.add 1) w22 fun s25 => G.new (.cells #[(.string s24), (.string s25)] 99) w22 fun p26 w27 => G.runSl pr (Builtin.append_ #[22, 22] 22 #[out_12.v, (Sl.v (⟨some p26, 1, 1⟩ : Sl))]) w27 fun l28 w29 => kc5 l28 l13 n14 (IntKind.i64.wrap (n15 + (1 : Int))) w29) (kc5 out_12 l13 n14 (IntKind.i64.wrap (n15 + (1 : Int))) w22)) (S2 K out_12 w)
theorem S7_ok (Kv : VW) (kc5 : Cur g5) : OkT pr false none 21 g5 (S7 (Kt Kv) kc5) (lp (blk (tl 1 (s1 (tl 2 bd))))) (P6 Kv kc5) := ok_last mixed FOk_ fun v ρ w => by kernel_rfl
def L5 (K : KT) : Cur g5 := loopC g5 (S7 K)
theorem L5_ok (Kv : VW) : OkT pr false none 21 g5 (L5 (Kt Kv)) (blk (tl 1 (s1 (tl 2 bd)))) (P4 Kv) := ok_loop (B := S7 (Kt Kv)) (by kernel_rfl) fun kc => S7_ok Kv kc
theorem L5_ind {K : KT} {out_4 : Sl} {l5 : Sl} {n6 : Int} {n7 : Int} {w : World} (h : ∀ X : Cur g5, (∀ out_4 l5 n6 n7 w, S7 K X out_4 l5 n6 n7 w → X out_4 l5 n6 n7 w) → X out_4 l5 n6 n7 w) : L5 K out_4 l5 n6 n7 w := fun X hX => h X fun out_4 l5 n6 n7 w hb => hX (out_4, l5, n6, n7, ()) w hb
theorem B8 (Kv : VW) : OkT pr false none 21 g5 (L5 (Kt Kv)) (tl 1 (s1 (tl 2 bd))) (P3 Kv) := ok_block 0 (by kernel_rfl) (L5_ok Kv)
@[reducible] def g9 : List SE := [.v 0 .sl, .v 3 .sl]
def S9 (K : KT) (l_30 : Sl) (out_31 : Sl) (w : World) : Prop :=
  L5 K out_31 l_30 ((l_30.n : Nat) : Int) (0 : Int) w
theorem S9_ok (Kv : VW) : OkT pr false none 21 g9 (S9 (Kt Kv)) (s1 (tl 2 bd)) (P3 Kv) := ok_group mixed FOk_ 1 (B8 Kv) fun v ρ w => by kernel_rfl
theorem Q10 (Kv : VW) : OkT pr false none 21 g9 (S9 (Kt Kv)) (tl 2 bd) (P1 Kv) := ok_seq (by kernel_rfl) (S2_ok Kv) (S9_ok Kv)
end tocsinref04_full
def tocsinref04_full (l_2 : Sl) (w : World) (K : tocsinref04_full.KT) : Prop :=
  tocsinref04_full.S9 K l_2 nilS w
def tocsinref04_full.cl : CL := fun args K w => match args with
  | [.slice x0_a x0_n x0_c] => C.tocsinref04_full ⟨x0_a, x0_n, x0_c⟩ w (tocsinref04_full.Kt K)
  | _ => False
theorem tocsinref04_full.clok : OkC pr 107 tocsinref04_full.cl := by
  intro args K w h
  unfold tocsinref04_full.cl at h
  split at h
  · exact calls_group false mixed tocsinref04_full.FOk_ tocsinref04_full.fn rfl 2 (tocsinref04_full.Q10 K) (Eq.mp (by kernel_rfl) h)
  · exact h.elim
namespace tocsinref04_Make
abbrev KT := Sl → Int → World → Prop
def Kt (Kv : VW) : KT := fun l1 n2 w => Kv (.tuple #[l1.v, (.int .i64 n2)]) w
noncomputable def bd : Code := bdy Tryz.f75
theorem fn : FnOk pr 75 21 Tryz.f75 := ⟨Tryz.func75, by kernel_rfl, Tryz.ntmps75, by kernel_rfl, by kernel_rfl⟩
def F : Clee := ofL [(40, C.tocsinref04_Right.cl), (105, C.tocsinref04_twice.cl), (106, C.tocsinref04_sorted.cl), (107, C.tocsinref04_full.cl)]
theorem FOk_ : FOk pr F := FOk_cons C.tocsinref04_Right.clok (FOk_cons C.tocsinref04_twice.clok (FOk_cons C.tocsinref04_sorted.clok (FOk_cons C.tocsinref04_full.clok (FOk_nil))))
def P1 (Kv : VW) : Post := bodyK false pr 21 Tryz.f75 Kv
end tocsinref04_Make
def tocsinref04_Make (l_3 : Sl) (w : World) (K : tocsinref04_Make.KT) : Prop :=
  C.tocsinref04_twice l_3 w fun b5 w6 => G.cond b5 (K nilS (6 : Int) w6) (C.tocsinref04_full l_3 w6 fun l7 w8 => C.tocsinref04_sorted l7 w8 fun l9 w10 => C.tocsinref04_Right l9 w10 fun n11 n12 w13 => G.cond (n11 != (0 : Int)) (K nilS n11 w13) (K l9 (0 : Int) w13))
def tocsinref04_Make.cl : CL := fun args K w => match args with
  | [.slice x0_a x0_n x0_c] => C.tocsinref04_Make ⟨x0_a, x0_n, x0_c⟩ w (tocsinref04_Make.Kt K)
  | _ => False
theorem tocsinref04_Make.clok : OkC pr 75 tocsinref04_Make.cl := by
  intro args K w h
  unfold tocsinref04_Make.cl at h
  split at h
  · exact calls_last false mixed tocsinref04_Make.FOk_ tocsinref04_Make.fn rfl (Eq.mp (by kernel_rfl) h)
  · exact h.elim
namespace tocsinref19_with
abbrev KT := Sl → Int → World → Prop
def Kt (Kv : VW) : KT := fun l1 n2 w => Kv (.tuple #[l1.v, (.int .i64 n2)]) w
noncomputable def bd : Code := bdy Tryz.f41
theorem fn : FnOk pr 41 49 Tryz.f41 := ⟨Tryz.func41, by kernel_rfl, Tryz.ntmps41, by kernel_rfl, by kernel_rfl⟩
def F : Clee := ofL [(40, C.tocsinref04_Right.cl), (42, C.tocsinref04_Pick.cl), (75, C.tocsinref04_Make.cl)]
theorem FOk_ : FOk pr F := FOk_cons C.tocsinref04_Right.clok (FOk_cons C.tocsinref04_Pick.clok (FOk_cons C.tocsinref04_Make.clok (FOk_nil)))
def P1 (Kv : VW) : Post := bodyK false pr 49 Tryz.f41 Kv
@[reducible] def g2 : List SE := [.v 0 .sl, .v 1 .sl, .v 8 .sl]
def S2 (K : KT) (l_10 : Sl) (more_11 : Sl) (names_12 : Sl) (w : World) : Prop :=
  C.tocsinref04_Pick l_10 names_12 false w fun l13 w14 => G.runSl pr (Builtin.append_ #[22, 22] 22 #[l13.v, more_11.v]) w14 fun l15 w16 => G.cond (decide (((l15.n : Nat) : Int) > (16 : Int))) (K nilS (8 : Int) w16) (C.tocsinref04_Make l15 w16 fun l17 n18 w19 => K l17 (0 : Int) w19)
theorem S2_ok (Kv : VW) : OkT pr false none 49 g2 (S2 (Kt Kv)) (s2 (tl 4 bd)) (P1 Kv) := ok_last mixed FOk_ fun v ρ w => by kernel_rfl
def P3 (Kv : VW) : Post := next (get g2 (S2 (Kt Kv))) (P1 Kv)
def P4 (Kv : VW) : Post := inBlock 0 (P3 Kv)
@[reducible] def g5 : List SE := [.v 0 .sl, .v 1 .sl, .v 8 .sl, .v 9 (.int .i64)]
def P6 (Kv : VW) (kc5 : Cur g5) : Post := next (get g5 kc5) (P4 Kv)
def S7 (K : KT) (kc5 : Cur g5) (l_28 : Sl) (more_29 : Sl) (names_30 : Sl) (i_31 : Int) (w : World) : Prop :=
  G.cond (decide (i_31 < ((more_29.n : Nat) : Int))) (G.ix more_29.a more_29.n i_31 2 fun p32 => G.cS p32 w fun s33 => G.new (.cells #[(.string s33)] 9) w fun p34 w35 => G.runSl pr (Builtin.append_ #[88, 88] 88 #[names_30.v, (Sl.v (⟨some p34, 1, 1⟩ : Sl))]) w35 fun l36 w37 => kc5 l_28 more_29 l36 (IntKind.i64.wrap (i_31 + (1 : Int))) w37) (S2 K l_28 more_29 names_30 w)
theorem S7_ok (Kv : VW) (kc5 : Cur g5) : OkT pr false none 49 g5 (S7 (Kt Kv) kc5) (lp (blk (tl 1 (s1 (tl 4 bd))))) (P6 Kv kc5) := ok_last mixed FOk_ fun v ρ w => by kernel_rfl
def L5 (K : KT) : Cur g5 := loopC g5 (S7 K)
theorem L5_ok (Kv : VW) : OkT pr false none 49 g5 (L5 (Kt Kv)) (blk (tl 1 (s1 (tl 4 bd)))) (P4 Kv) := ok_loop (B := S7 (Kt Kv)) (by kernel_rfl) fun kc => S7_ok Kv kc
theorem L5_ind {K : KT} {l_20 : Sl} {more_21 : Sl} {names_22 : Sl} {i_23 : Int} {w : World} (h : ∀ X : Cur g5, (∀ l_20 more_21 names_22 i_23 w, S7 K X l_20 more_21 names_22 i_23 w → X l_20 more_21 names_22 i_23 w) → X l_20 more_21 names_22 i_23 w) : L5 K l_20 more_21 names_22 i_23 w := fun X hX => h X fun l_20 more_21 names_22 i_23 w hb => hX (l_20, more_21, names_22, i_23, ()) w hb
theorem B8 (Kv : VW) : OkT pr false none 49 g5 (L5 (Kt Kv)) (tl 1 (s1 (tl 4 bd))) (P3 Kv) := ok_block 0 (by kernel_rfl) (L5_ok Kv)
def S9 (K : KT) (l_38 : Sl) (more_39 : Sl) (names_40 : Sl) (w : World) : Prop :=
  L5 K l_38 more_39 names_40 (0 : Int) w
theorem S9_ok (Kv : VW) : OkT pr false none 49 g2 (S9 (Kt Kv)) (s1 (tl 4 bd)) (P3 Kv) := ok_group mixed FOk_ 1 (B8 Kv) fun v ρ w => by kernel_rfl
theorem Q10 (Kv : VW) : OkT pr false none 49 g2 (S9 (Kt Kv)) (tl 4 bd) (P1 Kv) := ok_seq (by kernel_rfl) (S2_ok Kv) (S9_ok Kv)
end tocsinref19_with
def tocsinref19_with (l_3 : Sl) (more_4 : Sl) (w : World) (K : tocsinref19_with.KT) : Prop :=
  C.tocsinref04_Right l_3 w fun n41 n42 w43 => G.cond (n41 != (0 : Int)) (K nilS (41 : Int) w43) (tocsinref19_with.S9 K l_3 more_4 nilS w43)
def tocsinref19_with.cl : CL := fun args K w => match args with
  | [.slice x0_a x0_n x0_c, .slice x1_a x1_n x1_c] => C.tocsinref19_with ⟨x0_a, x0_n, x0_c⟩ ⟨x1_a, x1_n, x1_c⟩ w (tocsinref19_with.Kt K)
  | _ => False
theorem tocsinref19_with.clok : OkC pr 41 tocsinref19_with.cl := by
  intro args K w h
  unfold tocsinref19_with.cl at h
  split at h
  · exact calls_group false mixed tocsinref19_with.FOk_ tocsinref19_with.fn rfl 4 (tocsinref19_with.Q10 K) (Eq.mp (by kernel_rfl) h)
  · exact h.elim
namespace tocsinref09_Own
abbrev KT := Sl → World → Prop
def Kt (Kv : VW) : KT := fun l1 w => Kv l1.v w
noncomputable def bd : Code := bdy Tryz.f19
theorem fn : FnOk pr 19 8 Tryz.f19 := ⟨Tryz.func19, by kernel_rfl, Tryz.ntmps19, by kernel_rfl, by kernel_rfl⟩
def F : Clee := ofL []
theorem FOk_ : FOk pr F := FOk_nil
def P1 (Kv : VW) : Post := bodyK false pr 8 Tryz.f19 Kv
end tocsinref09_Own
def tocsinref09_Own (l_2 : Sl) (w : World) (K : tocsinref09_Own.KT) : Prop :=
  G.runSl pr (Builtin.append_ #[22, 22] 22 #[nilS.v, l_2.v]) w fun l3 w4 => K l3 w4
def tocsinref09_Own.cl : CL := fun args K w => match args with
  | [.slice x0_a x0_n x0_c] => C.tocsinref09_Own ⟨x0_a, x0_n, x0_c⟩ w (tocsinref09_Own.Kt K)
  | _ => False
theorem tocsinref09_Own.clok : OkC pr 19 tocsinref09_Own.cl := by
  intro args K w h
  unfold tocsinref09_Own.cl at h
  split at h
  · exact calls_last false mixed tocsinref09_Own.FOk_ tocsinref09_Own.fn rfl (Eq.mp (by kernel_rfl) h)
  · exact h.elim
namespace tocsinref19_named
abbrev KT := Sl → World → Prop
def Kt (Kv : VW) : KT := fun l1 w => Kv l1.v w
noncomputable def bd : Code := bdy Tryz.f43
theorem fn : FnOk pr 43 17 Tryz.f43 := ⟨Tryz.func43, by kernel_rfl, Tryz.ntmps43, by kernel_rfl, by kernel_rfl⟩
def F : Clee := ofL [(19, C.tocsinref09_Own.cl)]
theorem FOk_ : FOk pr F := FOk_cons C.tocsinref09_Own.clok (FOk_nil)
def P1 (Kv : VW) : Post := bodyK false pr 17 Tryz.f43 Kv
end tocsinref19_named
def tocsinref19_named (r_2 : Bool) (r_3 : ByteArray) (r_4 : ByteArray) (r_5 : Int) (r_6 : Int) (r_7 : Sl) (name_8 : ByteArray) (w : World) (K : tocsinref19_named.KT) : Prop :=
  G.new (.cells #[(.bool r_2), (.string r_3), (.string r_4), (.int .i64 r_5), (.int .i64 r_6), r_7.v] 24) w fun p9 w10 => G.cSl (p9.add 5) w10 fun l11 => C.tocsinref09_Own l11 w10 fun l12 w13 => G.cS (p9.add 1) w13 fun s14 => G.new (.cells #[(.string name_8), (.string s14)] 99) w13 fun p15 w16 => G.runSl pr (Builtin.append_ #[22, 22] 22 #[l12.v, (Sl.v (⟨some p15, 1, 1⟩ : Sl))]) w16 fun l17 w18 => K l17 w18
def tocsinref19_named.cl : CL := fun args K w => match args with
  | [.agg ⟨[.bool x0_0, .string x0_1, .string x0_2, .int .i64 x0_3, .int .i64 x0_4, .slice x0_5_a x0_5_n x0_5_c]⟩, .string x1] => C.tocsinref19_named x0_0 x0_1 x0_2 x0_3 x0_4 ⟨x0_5_a, x0_5_n, x0_5_c⟩ x1 w (tocsinref19_named.Kt K)
  | _ => False
theorem tocsinref19_named.clok : OkC pr 43 tocsinref19_named.cl := by
  intro args K w h
  unfold tocsinref19_named.cl at h
  split at h
  · exact calls_last false mixed tocsinref19_named.FOk_ tocsinref19_named.fn rfl (Eq.mp (by kernel_rfl) h)
  · exact h.elim
namespace tocsinref19_Labels
abbrev KT := Sl → Int → World → Prop
def Kt (Kv : VW) : KT := fun l1 n2 w => Kv (.tuple #[l1.v, (.int .i64 n2)]) w
noncomputable def bd : Code := bdy Tryz.f13
theorem fn : FnOk pr 13 26 Tryz.f13 := ⟨Tryz.func13, by kernel_rfl, Tryz.ntmps13, by kernel_rfl, by kernel_rfl⟩
def F : Clee := ofL [(32, C.tocsinref19_Rule.cl), (40, C.tocsinref04_Right.cl), (41, C.tocsinref19_with.cl), (42, C.tocsinref04_Pick.cl), (43, C.tocsinref19_named.cl)]
theorem FOk_ : FOk pr F := FOk_cons C.tocsinref19_Rule.clok (FOk_cons C.tocsinref04_Right.clok (FOk_cons C.tocsinref19_with.clok (FOk_cons C.tocsinref04_Pick.clok (FOk_cons C.tocsinref19_named.clok (FOk_nil)))))
def P1 (Kv : VW) : Post := bodyK false pr 26 Tryz.f13 Kv
end tocsinref19_Labels
def tocsinref19_Labels (r_3 : Bool) (r_4 : ByteArray) (r_5 : ByteArray) (r_6 : Int) (r_7 : Int) (r_8 : Sl) (l_9 : Sl) (w : World) (K : tocsinref19_Labels.KT) : Prop :=
  G.new (.cells #[(.bool r_3), (.string r_4), (.string r_5), (.int .i64 r_6), (.int .i64 r_7), r_8.v] 24) w fun p24 w25 => G.cB p24 w25 fun b26 => G.cS (p24.add 1) w25 fun s27 => G.cS (p24.add 2) w25 fun s28 => G.cI .i64 (p24.add 3) w25 fun n29 => G.cI .i64 (p24.add 4) w25 fun n30 => G.cSl (p24.add 5) w25 fun l31 => C.tocsinref19_Rule b26 s27 s28 n29 n30 l31 w25 fun n32 w33 => G.cond (n32 != (0 : Int)) (K nilS (201 : Int) w33) (C.tocsinref04_Right l_9 w33 fun n34 n35 w36 => G.cond (n34 != (0 : Int)) (K nilS (41 : Int) w36) (G.cB p24 w36.drew fun b37 => G.cS (p24.add 1) w36.drew fun s38 => G.cS (p24.add 2) w36.drew fun s39 => G.cI .i64 (p24.add 3) w36.drew fun n40 => G.cI .i64 (p24.add 4) w36.drew fun n41 => G.cSl (p24.add 5) w36.drew fun l42 => G.new (.cells #[(.string (⟨#[95, 95, 110, 97, 109, 101, 95, 95]⟩ : ByteArray))] 9) w36.drew fun p43 w44 => sameAt p24 6 w36.drew w44 ∧ (C.tocsinref04_Pick l_9 (⟨some p43, 1, 1⟩ : Sl) false w44 fun l45 w46 => sameAt p24 6 w36.drew w46 ∧ (C.tocsinref19_named b37 s38 s39 n40 n41 l42 (⟨#[97, 108, 101, 114, 116, 110, 97, 109, 101]⟩ : ByteArray) w46 fun l47 w48 => C.tocsinref19_with l45 l47 w48 fun l49 n50 w51 => K l49 n50 w51))))
def tocsinref19_Labels.cl : CL := fun args K w => match args with
  | [.agg ⟨[.bool x0_0, .string x0_1, .string x0_2, .int .i64 x0_3, .int .i64 x0_4, .slice x0_5_a x0_5_n x0_5_c]⟩, .slice x1_a x1_n x1_c] => C.tocsinref19_Labels x0_0 x0_1 x0_2 x0_3 x0_4 ⟨x0_5_a, x0_5_n, x0_5_c⟩ ⟨x1_a, x1_n, x1_c⟩ w (tocsinref19_Labels.Kt K)
  | _ => False
theorem tocsinref19_Labels.clok : OkC pr 13 tocsinref19_Labels.cl := by
  intro args K w h
  unfold tocsinref19_Labels.cl at h
  split at h
  · exact calls_last false mixed tocsinref19_Labels.FOk_ tocsinref19_Labels.fn rfl (Eq.mp (by kernel_rfl) h)
  · exact h.elim
namespace tocsinref04_side
abbrev KT := Int → World → Prop
def Kt (Kv : VW) : KT := fun n1 w => Kv (.int .i64 n1) w
noncomputable def bd : Code := bdy Tryz.f77
theorem fn : FnOk pr 77 11 Tryz.f77 := ⟨Tryz.func77, by kernel_rfl, Tryz.ntmps77, by kernel_rfl, by kernel_rfl⟩
def F : Clee := ofL []
theorem FOk_ : FOk pr F := FOk_nil
def P1 (Kv : VW) : Post := bodyK false pr 11 Tryz.f77 Kv
end tocsinref04_side
def tocsinref04_side (a_2 : ByteArray) (b_3 : ByteArray) (w : World) (K : tocsinref04_side.KT) : Prop :=
  G.cond (Op.bytesLess a_2.toList b_3.toList) (K (-1 : Int) w) (G.cond (!((Op.bytesLess a_2.toList b_3.toList) || (a_2.toList == b_3.toList))) (K (1 : Int) w) (K (0 : Int) w))
def tocsinref04_side.cl : CL := fun args K w => match args with
  | [.string x0, .string x1] => C.tocsinref04_side x0 x1 w (tocsinref04_side.Kt K)
  | _ => False
theorem tocsinref04_side.clok : OkC pr 77 tocsinref04_side.cl := by
  intro args K w h
  unfold tocsinref04_side.cl at h
  split at h
  · exact calls_last false mixed tocsinref04_side.FOk_ tocsinref04_side.fn rfl (Eq.mp (by kernel_rfl) h)
  · exact h.elim
namespace tocsinref04_Compare
abbrev KT := Int → World → Prop
def Kt (Kv : VW) : KT := fun n1 w => Kv (.int .i64 n1) w
noncomputable def bd : Code := bdy Tryz.f44
theorem fn : FnOk pr 44 58 Tryz.f44 := ⟨Tryz.func44, by kernel_rfl, Tryz.ntmps44, by kernel_rfl, by kernel_rfl⟩
def F : Clee := ofL [(77, C.tocsinref04_side.cl)]
theorem FOk_ : FOk pr F := FOk_cons C.tocsinref04_side.clok (FOk_nil)
def P1 (Kv : VW) : Post := bodyK false pr 58 Tryz.f44 Kv
@[reducible] def g2 : List SE := [.v 0 .sl, .v 1 .sl]
def S2 (K : KT) (a_4 : Sl) (b_5 : Sl) (w : World) : Prop :=
  G.cond (decide (((a_4.n : Nat) : Int) < ((b_5.n : Nat) : Int))) (K (-1 : Int) w) (G.cond (decide (((a_4.n : Nat) : Int) > ((b_5.n : Nat) : Int))) (K (1 : Int) w) (K (0 : Int) w))
theorem S2_ok (Kv : VW) : OkT pr false none 58 g2 (S2 (Kt Kv)) (s2 (tl 1 bd)) (P1 Kv) := ok_last mixed FOk_ fun v ρ w => by kernel_rfl
def P3 (Kv : VW) : Post := next (get g2 (S2 (Kt Kv))) (P1 Kv)
def P4 (Kv : VW) : Post := inBlock 0 (P3 Kv)
@[reducible] def g5 : List SE := [.v 0 .sl, .v 1 .sl, .v 5 (.int .i64)]
def P6 (Kv : VW) (kc5 : Cur g5) : Post := next (get g5 kc5) (P4 Kv)
def S7 (K : KT) (kc5 : Cur g5) (a_12 : Sl) (b_13 : Sl) (i_14 : Int) (w : World) : Prop :=
  G.cond (decide (i_14 < ((a_12.n : Nat) : Int))) (G.cond (decide (i_14 < ((b_13.n : Nat) : Int))) (G.ix a_12.a a_12.n i_14 2 fun p15 => G.cS p15 w.drew fun s16 => G.ix b_13.a b_13.n i_14 2 fun p17 => G.cS p17 w.drew fun s18 => C.tocsinref04_side s16 s18 w.drew fun n19 w20 => G.cond (n19 != (0 : Int)) (K n19 w20) (G.ix a_12.a a_12.n i_14 2 fun p21 => G.cS (p21.add 1) w20.drew fun s22 => G.ix b_13.a b_13.n i_14 2 fun p23 => G.cS (p23.add 1) w20.drew fun s24 => C.tocsinref04_side s22 s24 w20.drew fun n25 w26 => G.cond (n25 != (0 : Int)) (K n25 w26) (kc5 a_12 b_13 (IntKind.i64.wrap (i_14 + (1 : Int))) w26))) (S2 K a_12 b_13 w)) (S2 K a_12 b_13 w)
theorem S7_ok (Kv : VW) (kc5 : Cur g5) : OkT pr false none 58 g5 (S7 (Kt Kv) kc5) (lp (blk (tl 1 (s1 (tl 1 bd))))) (P6 Kv kc5) := ok_last mixed FOk_ fun v ρ w => by kernel_rfl
def L5 (K : KT) : Cur g5 := loopC g5 (S7 K)
theorem L5_ok (Kv : VW) : OkT pr false none 58 g5 (L5 (Kt Kv)) (blk (tl 1 (s1 (tl 1 bd)))) (P4 Kv) := ok_loop (B := S7 (Kt Kv)) (by kernel_rfl) fun kc => S7_ok Kv kc
theorem L5_ind {K : KT} {a_6 : Sl} {b_7 : Sl} {i_8 : Int} {w : World} (h : ∀ X : Cur g5, (∀ a_6 b_7 i_8 w, S7 K X a_6 b_7 i_8 w → X a_6 b_7 i_8 w) → X a_6 b_7 i_8 w) : L5 K a_6 b_7 i_8 w := fun X hX => h X fun a_6 b_7 i_8 w hb => hX (a_6, b_7, i_8, ()) w hb
theorem B8 (Kv : VW) : OkT pr false none 58 g5 (L5 (Kt Kv)) (tl 1 (s1 (tl 1 bd))) (P3 Kv) := ok_block 0 (by kernel_rfl) (L5_ok Kv)
def S9 (K : KT) (a_27 : Sl) (b_28 : Sl) (w : World) : Prop :=
  L5 K a_27 b_28 (0 : Int) w
theorem S9_ok (Kv : VW) : OkT pr false none 58 g2 (S9 (Kt Kv)) (s1 (tl 1 bd)) (P3 Kv) := ok_group mixed FOk_ 1 (B8 Kv) fun v ρ w => by kernel_rfl
theorem Q10 (Kv : VW) : OkT pr false none 58 g2 (S9 (Kt Kv)) (tl 1 bd) (P1 Kv) := ok_seq (by kernel_rfl) (S2_ok Kv) (S9_ok Kv)
end tocsinref04_Compare
def tocsinref04_Compare (a_2 : Sl) (b_3 : Sl) (w : World) (K : tocsinref04_Compare.KT) : Prop :=
  tocsinref04_Compare.S9 K a_2 b_3 w
def tocsinref04_Compare.cl : CL := fun args K w => match args with
  | [.slice x0_a x0_n x0_c, .slice x1_a x1_n x1_c] => C.tocsinref04_Compare ⟨x0_a, x0_n, x0_c⟩ ⟨x1_a, x1_n, x1_c⟩ w (tocsinref04_Compare.Kt K)
  | _ => False
theorem tocsinref04_Compare.clok : OkC pr 44 tocsinref04_Compare.cl := by
  intro args K w h
  unfold tocsinref04_Compare.cl at h
  split at h
  · exact calls_group false mixed tocsinref04_Compare.FOk_ tocsinref04_Compare.fn rfl 1 (tocsinref04_Compare.Q10 K) (Eq.mp (by kernel_rfl) h)
  · exact h.elim
namespace tocsinref04_Same
abbrev KT := Bool → World → Prop
def Kt (Kv : VW) : KT := fun b1 w => Kv (.bool b1) w
noncomputable def bd : Code := bdy Tryz.f14
theorem fn : FnOk pr 14 9 Tryz.f14 := ⟨Tryz.func14, by kernel_rfl, Tryz.ntmps14, by kernel_rfl, by kernel_rfl⟩
def F : Clee := ofL [(44, C.tocsinref04_Compare.cl)]
theorem FOk_ : FOk pr F := FOk_cons C.tocsinref04_Compare.clok (FOk_nil)
def P1 (Kv : VW) : Post := bodyK false pr 9 Tryz.f14 Kv
end tocsinref04_Same
def tocsinref04_Same (a_2 : Sl) (b_3 : Sl) (w : World) (K : tocsinref04_Same.KT) : Prop :=
  C.tocsinref04_Compare a_2 b_3 w fun n4 w5 => K (n4 == (0 : Int)) w5
def tocsinref04_Same.cl : CL := fun args K w => match args with
  | [.slice x0_a x0_n x0_c, .slice x1_a x1_n x1_c] => C.tocsinref04_Same ⟨x0_a, x0_n, x0_c⟩ ⟨x1_a, x1_n, x1_c⟩ w (tocsinref04_Same.Kt K)
  | _ => False
theorem tocsinref04_Same.clok : OkC pr 14 tocsinref04_Same.cl := by
  intro args K w h
  unfold tocsinref04_Same.cl at h
  split at h
  · exact calls_last false mixed tocsinref04_Same.FOk_ tocsinref04_Same.fn rfl (Eq.mp (by kernel_rfl) h)
  · exact h.elim
namespace rules_Labels
abbrev KT := Sl → Int → World → Prop
def Kt (Kv : VW) : KT := fun l1 n2 w => Kv (.tuple #[l1.v, (.int .i64 n2)]) w
noncomputable def bd : Code := bdy Tryz.f26
theorem fn : FnOk pr 26 20 Tryz.f26 := ⟨Tryz.func26, by kernel_rfl, Tryz.ntmps26, by kernel_rfl, by kernel_rfl⟩
def F : Clee := ofL [(31, C.rules_Rule.cl), (37, C.rules_number.cl), (58, C.rules_alert.cl)]
theorem FOk_ : FOk pr F := FOk_cons C.rules_Rule.clok (FOk_cons C.rules_number.clok (FOk_cons C.rules_alert.clok (FOk_nil)))
def P1 (Kv : VW) : Post := bodyK false pr 20 Tryz.f26 Kv
end rules_Labels
def rules_Labels (r_3 : Bool) (r_4 : ByteArray) (r_5 : ByteArray) (r_6 : Int) (r_7 : Int) (r_8 : Sl) (l_9 : Sl) (w : World) (K : rules_Labels.KT) : Prop :=
  G.new (.cells #[(.bool r_3), (.string r_4), (.string r_5), (.int .i64 r_6), (.int .i64 r_7), r_8.v] 24) w fun p17 w18 => G.cB p17 w18 fun b19 => G.cS (p17.add 1) w18 fun s20 => G.cS (p17.add 2) w18 fun s21 => G.cI .i64 (p17.add 3) w18 fun n22 => G.cI .i64 (p17.add 4) w18 fun n23 => G.cSl (p17.add 5) w18 fun l24 => C.rules_Rule b19 s20 s21 n22 n23 l24 w18 fun n25 w26 => G.cond (n25 != (0 : Int)) (K nilS (201 : Int) w26) (G.cB p17 w26 fun b27 => G.cS (p17.add 1) w26 fun s28 => G.cS (p17.add 2) w26 fun s29 => G.cI .i64 (p17.add 3) w26 fun n30 => G.cI .i64 (p17.add 4) w26 fun n31 => G.cSl (p17.add 5) w26 fun l32 => C.rules_alert b27 s28 s29 n30 n31 l32 l_9 w26 fun l33 v34 w35 => C.rules_number v34 w35 fun n36 w37 => K l33 n36 w37)
def rules_Labels.cl : CL := fun args K w => match args with
  | [.agg ⟨[.bool x0_0, .string x0_1, .string x0_2, .int .i64 x0_3, .int .i64 x0_4, .slice x0_5_a x0_5_n x0_5_c]⟩, .slice x1_a x1_n x1_c] => C.rules_Labels x0_0 x0_1 x0_2 x0_3 x0_4 ⟨x0_5_a, x0_5_n, x0_5_c⟩ ⟨x1_a, x1_n, x1_c⟩ w (rules_Labels.Kt K)
  | _ => False
theorem rules_Labels.clok : OkC pr 26 rules_Labels.cl := by
  intro args K w h
  unfold rules_Labels.cl at h
  split at h
  · exact calls_last false mixed rules_Labels.FOk_ rules_Labels.fn rfl (Eq.mp (by kernel_rfl) h)
  · exact h.elim
abbrev slices_SortFunc_Point_Point.KT := World → Prop
def slices_SortFunc_Point_Point.Kt (Kv : VW) : slices_SortFunc_Point_Point.KT := fun w => Kv (.tuple #[]) w
def slices_SortFunc_Point_Point (x0 : Sl) (x1 : Value) (w : World) (K : slices_SortFunc_Point_Point.KT) : Prop := Srt.sortF 2 x0 x1 w K
def slices_SortFunc_Point_Point.cl : CL := fun args K w => match args with
  | [.slice a n c, fv] => C.slices_SortFunc_Point_Point ⟨a, n, c⟩ fv w (slices_SortFunc_Point_Point.Kt K)
  | _ => False
theorem slices_SortFunc_Point_Point.clok : OkC pr 60 slices_SortFunc_Point_Point.cl := by
  intro args K w h
  unfold slices_SortFunc_Point_Point.cl at h
  split at h
  · exact Srt.sortP_ok h
  · exact h.elim
namespace rules_Record
abbrev KT := Sl → Int → World → Prop
def Kt (Kv : VW) : KT := fun l1 n2 w => Kv (.tuple #[l1.v, (.int .i64 n2)]) w
noncomputable def bd : Code := bdy Tryz.f27
theorem fn : FnOk pr 27 73 Tryz.f27 := ⟨Tryz.func27, by kernel_rfl, Tryz.ntmps27, by kernel_rfl, by kernel_rfl⟩
def F : Clee := ofL [(31, C.rules_Rule.cl), (37, C.rules_number.cl), (49, C.labels_Compare.cl), (59, C.rules_with.cl), (60, C.slices_SortFunc_Point_Point.cl)]
theorem FOk_ : FOk pr F := FOk_cons C.rules_Rule.clok (FOk_cons C.rules_number.clok (FOk_cons C.labels_Compare.clok (FOk_cons C.rules_with.clok (FOk_cons C.slices_SortFunc_Point_Point.clok (FOk_nil)))))
def P1 (Kv : VW) : Post := bodyK false pr 73 Tryz.f27 Kv
@[reducible] def g2 : List SE := [.v 6 .sl]
def S2 (K : KT) (out_17 : Sl) (w : World) : Prop :=
  K out_17 (0 : Int) w
theorem S2_ok (Kv : VW) : OkT pr false none 73 g2 (S2 (Kt Kv)) (s2 (tl 1 (s2 (tl 3 bd)))) (P1 Kv) := ok_last mixed FOk_ fun v ρ w => by kernel_rfl
def P3 (Kv : VW) : Post := next (get g2 (S2 (Kt Kv))) (P1 Kv)
def P4 (Kv : VW) : Post := inBlock 2 (P3 Kv)
@[reducible] def g5 : List SE := [.v 6 .sl, .v 11 (.int .i64)]
def P6 (Kv : VW) (kc5 : Cur g5) : Post := next (get g5 kc5) (P4 Kv)
def S7 (K : KT) (kc5 : Cur g5) (out_22 : Sl) (i_23 : Int) (w : World) : Prop :=
  G.cond (decide (i_23 < ((out_22.n : Nat) : Int))) (G.ix out_22.a out_22.n (IntKind.i64.wrap (i_23 - (1 : Int))) 2 fun p24 => G.cSl p24 w.drew fun l25 => G.ix out_22.a out_22.n i_23 2 fun p26 => G.cSl p26 w.drew fun l27 => C.labels_Compare l25 l27 w.drew fun n28 w29 => G.cond (n28 == (0 : Int)) (K nilS (150 : Int) w29) (kc5 out_22 (IntKind.i64.wrap (i_23 + (1 : Int))) w29)) (S2 K out_22 w)
theorem S7_ok (Kv : VW) (kc5 : Cur g5) : OkT pr false none 73 g5 (S7 (Kt Kv) kc5) (lp (blk (tl 1 (s1 (tl 1 (s2 (tl 3 bd))))))) (P6 Kv kc5) := ok_last mixed FOk_ fun v ρ w => by kernel_rfl
def L5 (K : KT) : Cur g5 := loopC g5 (S7 K)
theorem L5_ok (Kv : VW) : OkT pr false none 73 g5 (L5 (Kt Kv)) (blk (tl 1 (s1 (tl 1 (s2 (tl 3 bd)))))) (P4 Kv) := ok_loop (B := S7 (Kt Kv)) (by kernel_rfl) fun kc => S7_ok Kv kc
theorem L5_ind {K : KT} {out_18 : Sl} {i_19 : Int} {w : World} (h : ∀ X : Cur g5, (∀ out_18 i_19 w, S7 K X out_18 i_19 w → X out_18 i_19 w) → X out_18 i_19 w) : L5 K out_18 i_19 w := fun X hX => h X fun out_18 i_19 w hb => hX (out_18, i_19, ()) w hb
theorem B8 (Kv : VW) : OkT pr false none 73 g5 (L5 (Kt Kv)) (tl 1 (s1 (tl 1 (s2 (tl 3 bd))))) (P3 Kv) := ok_block 2 (by kernel_rfl) (L5_ok Kv)
def S9 (K : KT) (out_30 : Sl) (w : World) : Prop :=
  L5 K out_30 (1 : Int) w
theorem S9_ok (Kv : VW) : OkT pr false none 73 g2 (S9 (Kt Kv)) (s1 (tl 1 (s2 (tl 3 bd)))) (P3 Kv) := ok_group mixed FOk_ 1 (B8 Kv) fun v ρ w => by kernel_rfl
theorem Q10 (Kv : VW) : OkT pr false none 73 g2 (S9 (Kt Kv)) (tl 1 (s2 (tl 3 bd))) (P1 Kv) := ok_seq (by kernel_rfl) (S2_ok Kv) (S9_ok Kv)
def S11 (K : KT) (out_31 : Sl) (w : World) : Prop :=
  C.slices_SortFunc_Point_Point out_31 (Value.func (.func 61) #[] #[]) w fun w32 => S9 K out_31 w32
theorem S11_ok (Kv : VW) : OkT pr false none 73 g2 (S11 (Kt Kv)) (s2 (tl 3 bd)) (P1 Kv) := ok_group mixed FOk_ 1 (Q10 Kv) fun v ρ w => by kernel_rfl
def P12 (Kv : VW) : Post := next (get g2 (S11 (Kt Kv))) (P1 Kv)
def P13 (Kv : VW) : Post := inBlock 0 (P12 Kv)
@[reducible] def g14 : List SE := [.v 2 .ptr, .v 6 .sl, .v 20 .sl, .v 21 (.int .i64), .v 22 (.int .i64)]
def P15 (Kv : VW) (kc14 : Cur g14) : Post := next (get g14 kc14) (P13 Kv)
def S16 (K : KT) (kc14 : Cur g14) (r_43 : Option Addr) (out_44 : Sl) (l45 : Sl) (n46 : Int) (n47 : Int) (w : World) : Prop :=
  G.cond (decide (n47 < n46)) (G.ix l45.a l45.n n47 2 fun p48 => G.cSl p48 w fun l49 => G.cF .f64 (p48.add 1) w fun f50 => G.new (.cells #[nilS.v, (.float .f64 0)] 45) w fun p51 w52 => G.st p51 l49.v w52 fun w53 => G.st (p51.add 1) (.float .f64 f50) w53 fun w54 => G.cSl p51 w54.drew fun l55 => G.ptr r_43 fun p56 => G.cS (p56.add 1) w54.drew fun s57 => G.ptr r_43 fun p58 => G.cSl (p58.add 5) w54.drew fun l59 => G.new (.cells #[(.string (⟨#[95, 95, 110, 97, 109, 101, 95, 95]⟩ : ByteArray)), (.string s57)] 99) w54.drew fun p60 w61 => sameAt p51 1 w54.drew w61 ∧ sameAt (p58.add 5) 1 w54.drew w61 ∧ (G.runSl pr (Builtin.append_ #[22, 22] 22 #[(Sl.v (⟨some p60, 1, 1⟩ : Sl)), l59.v]) w61 fun l62 w63 => sameAt p51 1 w54.drew w63 ∧ (C.rules_with l55 l62 w63 fun l64 v65 w66 => G.isNilI v65 fun b67 => G.cond (!b67) (C.rules_number v65 w66 fun n68 w69 => K nilS n68 w69) (G.cF .f64 (p51.add 1) w66 fun f70 => G.new (.cells #[l64.v, (.float .f64 f70)] 45) w66 fun p71 w72 => G.runSl pr (Builtin.append_ #[35, 35] 35 #[out_44.v, (Sl.v (⟨some p71, 1, 1⟩ : Sl))]) w72 fun l73 w74 => kc14 r_43 l73 l45 n46 (IntKind.i64.wrap (n47 + (1 : Int))) w74)))) (S11 K out_44 w)
theorem S16_ok (Kv : VW) (kc14 : Cur g14) : OkT pr false none 73 g14 (S16 (Kt Kv) kc14) (lp (blk (tl 1 (s1 (tl 3 bd))))) (P15 Kv kc14) := ok_last mixed FOk_ fun v ρ w => by kernel_rfl
def L14 (K : KT) : Cur g14 := loopC g14 (S16 K)
theorem L14_ok (Kv : VW) : OkT pr false none 73 g14 (L14 (Kt Kv)) (blk (tl 1 (s1 (tl 3 bd)))) (P13 Kv) := ok_loop (B := S16 (Kt Kv)) (by kernel_rfl) fun kc => S16_ok Kv kc
theorem L14_ind {K : KT} {r_33 : Option Addr} {out_34 : Sl} {l35 : Sl} {n36 : Int} {n37 : Int} {w : World} (h : ∀ X : Cur g14, (∀ r_33 out_34 l35 n36 n37 w, S16 K X r_33 out_34 l35 n36 n37 w → X r_33 out_34 l35 n36 n37 w) → X r_33 out_34 l35 n36 n37 w) : L14 K r_33 out_34 l35 n36 n37 w := fun X hX => h X fun r_33 out_34 l35 n36 n37 w hb => hX (r_33, out_34, l35, n36, n37, ()) w hb
theorem B17 (Kv : VW) : OkT pr false none 73 g14 (L14 (Kt Kv)) (tl 1 (s1 (tl 3 bd))) (P12 Kv) := ok_block 0 (by kernel_rfl) (L14_ok Kv)
@[reducible] def g18 : List SE := [.v 1 .sl, .v 2 .ptr, .v 6 .sl]
def S18 (K : KT) (v_75 : Sl) (r_76 : Option Addr) (out_77 : Sl) (w : World) : Prop :=
  L14 K r_76 out_77 v_75 ((v_75.n : Nat) : Int) (0 : Int) w
theorem S18_ok (Kv : VW) : OkT pr false none 73 g18 (S18 (Kt Kv)) (s1 (tl 3 bd)) (P12 Kv) := ok_group mixed FOk_ 1 (B17 Kv) fun v ρ w => by kernel_rfl
theorem Q19 (Kv : VW) : OkT pr false none 73 g18 (S18 (Kt Kv)) (tl 3 bd) (P1 Kv) := ok_seq (by kernel_rfl) (S11_ok Kv) (S18_ok Kv)
end rules_Record
def rules_Record (r_3 : Bool) (r_4 : ByteArray) (r_5 : ByteArray) (r_6 : Int) (r_7 : Int) (r_8 : Sl) (v_9 : Sl) (w : World) (K : rules_Record.KT) : Prop :=
  G.new (.cells #[(.bool r_3), (.string r_4), (.string r_5), (.int .i64 r_6), (.int .i64 r_7), r_8.v] 24) w fun p78 w79 => G.cB p78 w79 fun b80 => G.cS (p78.add 1) w79 fun s81 => G.cS (p78.add 2) w79 fun s82 => G.cI .i64 (p78.add 3) w79 fun n83 => G.cI .i64 (p78.add 4) w79 fun n84 => G.cSl (p78.add 5) w79 fun l85 => C.rules_Rule b80 s81 s82 n83 n84 l85 w79 fun n86 w87 => G.cond (n86 != (0 : Int)) (K nilS (201 : Int) w87) (G.cB p78 w87 fun b88 => G.cond (!b88) (K nilS (201 : Int) w87) (rules_Record.S18 K v_9 (some p78) nilS w87))
def rules_Record.cl : CL := fun args K w => match args with
  | [.agg ⟨[.bool x0_0, .string x0_1, .string x0_2, .int .i64 x0_3, .int .i64 x0_4, .slice x0_5_a x0_5_n x0_5_c]⟩, .slice x1_a x1_n x1_c] => C.rules_Record x0_0 x0_1 x0_2 x0_3 x0_4 ⟨x0_5_a, x0_5_n, x0_5_c⟩ ⟨x1_a, x1_n, x1_c⟩ w (rules_Record.Kt K)
  | _ => False
theorem rules_Record.clok : OkC pr 27 rules_Record.cl := by
  intro args K w h
  unfold rules_Record.cl at h
  split at h
  · exact calls_group false mixed rules_Record.FOk_ rules_Record.fn rfl 3 (rules_Record.Q19 K) (Eq.mp (by kernel_rfl) h)
  · exact h.elim
namespace tocsinref19_Record
abbrev KT := Sl → Int → World → Prop
def Kt (Kv : VW) : KT := fun l1 n2 w => Kv (.tuple #[l1.v, (.int .i64 n2)]) w
noncomputable def bd : Code := bdy Tryz.f28
theorem fn : FnOk pr 28 96 Tryz.f28 := ⟨Tryz.func28, by kernel_rfl, Tryz.ntmps28, by kernel_rfl, by kernel_rfl⟩
def F : Clee := ofL [(14, C.tocsinref04_Same.cl), (32, C.tocsinref19_Rule.cl), (41, C.tocsinref19_with.cl), (43, C.tocsinref19_named.cl), (44, C.tocsinref04_Compare.cl)]
theorem FOk_ : FOk pr F := FOk_cons C.tocsinref04_Same.clok (FOk_cons C.tocsinref19_Rule.clok (FOk_cons C.tocsinref19_with.clok (FOk_cons C.tocsinref19_named.clok (FOk_cons C.tocsinref04_Compare.clok (FOk_nil)))))
def P1 (Kv : VW) : Post := bodyK false pr 96 Tryz.f28 Kv
@[reducible] def g2 : List SE := [.v 6 .sl, .v 7 .bool]
def S2 (K : KT) (out_17 : Sl) (many_18 : Bool) (w : World) : Prop :=
  G.cond many_18 (K nilS (150 : Int) w) (K out_17 (0 : Int) w)
theorem S2_ok (Kv : VW) : OkT pr false none 96 g2 (S2 (Kt Kv)) (s2 (tl 4 bd)) (P1 Kv) := ok_last mixed FOk_ fun v ρ w => by kernel_rfl
def P3 (Kv : VW) : Post := next (get g2 (S2 (Kt Kv))) (P1 Kv)
def P4 (Kv : VW) : Post := inBlock 0 (P3 Kv)
@[reducible] def g5 : List SE := [.v 1 .sl, .v 2 .ptr, .v 6 .sl, .v 7 .bool, .v 8 (.int .i64)]
def P6 (Kv : VW) (kc5 : Cur g5) : Post := next (get g5 kc5) (P4 Kv)
def S7 (K : KT) (kc5 : Cur g5) (v_24 : Sl) (r_25 : Option Addr) (out_26 : Sl) (many_27 : Bool) (i_28 : Int) (w : World) : Prop :=
  kc5 v_24 r_25 out_26 many_27 (IntKind.i64.wrap (i_28 + (1 : Int))) w
theorem S7_ok (Kv : VW) (kc5 : Cur g5) : OkT pr false none 96 g5 (S7 (Kt Kv) kc5) (s2 (tl 1 (lp (blk (tl 1 (s1 (tl 4 bd))))))) (P6 Kv kc5) := ok_last mixed FOk_ fun v ρ w => by kernel_rfl
def P8 (Kv : VW) (kc5 : Cur g5) : Post := next (get g5 (S7 (Kt Kv) kc5)) (P6 Kv kc5)
def P9 (Kv : VW) (kc5 : Cur g5) : Post := inBlock 1 (P8 Kv kc5)
@[reducible] def g10 : List SE := [.v 1 .sl, .v 2 .ptr, .v 6 .sl, .v 7 .bool, .v 8 (.int .i64), .v 9 .sl, .v 11 (.int .i64)]
def S10 (K : KT) (kc5 : Cur g5) (v_41 : Sl) (r_42 : Option Addr) (out_43 : Sl) (many_44 : Bool) (i_45 : Int) (l_46 : Sl) (k_47 : Int) (w : World) : Prop :=
  G.slc out_43 0 k_47 2 fun l48 => G.runSl pr (Builtin.append_ #[35, 35] 35 #[nilS.v, l48.v]) w fun l49 w50 => G.ix v_41.a v_41.n i_45 2 fun p51 => G.cF .f64 (p51.add 1) w50 fun f52 => G.new (.cells #[l_46.v, (.float .f64 f52)] 45) w50 fun p53 w54 => G.runSl pr (Builtin.append_ #[35, 35] 35 #[l49.v, (Sl.v (⟨some p53, 1, 1⟩ : Sl))]) w54 fun l55 w56 => G.slc out_43 k_47 ((out_43.n : Nat) : Int) 2 fun l57 => G.runSl pr (Builtin.append_ #[35, 35] 35 #[l55.v, l57.v]) w56 fun l58 w59 => S7 K kc5 v_41 r_42 l58 many_44 i_45 w59
theorem S10_ok (Kv : VW) (kc5 : Cur g5) : OkT pr false none 96 g10 (S10 (Kt Kv) kc5) (tl 1 (s2 (tl 3 (blk (s1 (tl 1 (lp (blk (tl 1 (s1 (tl 4 bd))))))))))) (P9 Kv kc5) := ok_last mixed FOk_ fun v ρ w => by kernel_rfl
def S11 (K : KT) (kc5 : Cur g5) (v_60 : Sl) (r_61 : Option Addr) (out_62 : Sl) (many_63 : Bool) (i_64 : Int) (l_65 : Sl) (k_66 : Int) (w : World) : Prop :=
  G.cond many_63 (S10 K kc5 v_60 r_61 out_62 true i_64 l_65 k_66 w) (G.cond (decide (k_66 > (0 : Int))) (G.ix out_62.a out_62.n (IntKind.i64.wrap (k_66 - (1 : Int))) 2 fun p67 => G.cSl p67 w fun l68 => C.tocsinref04_Same l68 l_65 w fun b69 w70 => S10 K kc5 v_60 r_61 out_62 b69 i_64 l_65 k_66 w70) (S10 K kc5 v_60 r_61 out_62 false i_64 l_65 k_66 w))
theorem S11_ok (Kv : VW) (kc5 : Cur g5) : OkT pr false none 96 g10 (S11 (Kt Kv) kc5) (s2 (tl 3 (blk (s1 (tl 1 (lp (blk (tl 1 (s1 (tl 4 bd)))))))))) (P9 Kv kc5) := ok_group mixed FOk_ 1 (S10_ok Kv kc5) fun v ρ w => by kernel_rfl
def P12 (Kv : VW) (kc5 : Cur g5) : Post := next (get g10 (S11 (Kt Kv) kc5)) (P9 Kv kc5)
def P13 (Kv : VW) (kc5 : Cur g5) : Post := inBlock 2 (P12 Kv kc5)
def P15 (Kv : VW) (kc5 : Cur g5) (kc14 : Cur g10) : Post := next (get g10 kc14) (P13 Kv kc5)
def S16 (K : KT) (kc5 : Cur g5) (kc14 : Cur g10) (v_78 : Sl) (r_79 : Option Addr) (out_80 : Sl) (many_81 : Bool) (i_82 : Int) (l_83 : Sl) (k_84 : Int) (w : World) : Prop :=
  G.cond (decide (k_84 > (0 : Int))) (G.ix out_80.a out_80.n (IntKind.i64.wrap (k_84 - (1 : Int))) 2 fun p85 => G.cSl p85 w fun l86 => C.tocsinref04_Compare l86 l_83 w fun n87 w88 => G.cond (decide (n87 > (0 : Int))) (kc14 v_78 r_79 out_80 many_81 i_82 l_83 (IntKind.i64.wrap (k_84 - (1 : Int))) w88) (S11 K kc5 v_78 r_79 out_80 many_81 i_82 l_83 k_84 w88)) (S11 K kc5 v_78 r_79 out_80 many_81 i_82 l_83 k_84 w)
theorem S16_ok (Kv : VW) (kc5 : Cur g5) (kc14 : Cur g10) : OkT pr false none 96 g10 (S16 (Kt Kv) kc5 kc14) (lp (blk (s1 (tl 3 (blk (s1 (tl 1 (lp (blk (tl 1 (s1 (tl 4 bd)))))))))))) (P15 Kv kc5 kc14) := ok_last mixed FOk_ fun v ρ w => by kernel_rfl
def L14 (K : KT) (kc5 : Cur g5) : Cur g10 := loopC g10 (S16 K kc5)
theorem L14_ok (Kv : VW) (kc5 : Cur g5) : OkT pr false none 96 g10 (L14 (Kt Kv) kc5) (blk (s1 (tl 3 (blk (s1 (tl 1 (lp (blk (tl 1 (s1 (tl 4 bd))))))))))) (P13 Kv kc5) := ok_loop (B := S16 (Kt Kv) kc5) (by kernel_rfl) fun kc => S16_ok Kv kc5 kc
theorem L14_ind {K : KT} {kc5 : Cur g5} {v_71 : Sl} {r_72 : Option Addr} {out_73 : Sl} {many_74 : Bool} {i_75 : Int} {l_76 : Sl} {k_77 : Int} {w : World} (h : ∀ X : Cur g10, (∀ v_71 r_72 out_73 many_74 i_75 l_76 k_77 w, S16 K kc5 X v_71 r_72 out_73 many_74 i_75 l_76 k_77 w → X v_71 r_72 out_73 many_74 i_75 l_76 k_77 w) → X v_71 r_72 out_73 many_74 i_75 l_76 k_77 w) : L14 K kc5 v_71 r_72 out_73 many_74 i_75 l_76 k_77 w := fun X hX => h X fun v_71 r_72 out_73 many_74 i_75 l_76 k_77 w hb => hX (v_71, r_72, out_73, many_74, i_75, l_76, k_77, ()) w hb
theorem B17 (Kv : VW) (kc5 : Cur g5) : OkT pr false none 96 g10 (L14 (Kt Kv) kc5) (s1 (tl 3 (blk (s1 (tl 1 (lp (blk (tl 1 (s1 (tl 4 bd)))))))))) (P12 Kv kc5) := ok_block 2 (by kernel_rfl) (L14_ok Kv kc5)
theorem Q18 (Kv : VW) (kc5 : Cur g5) : OkT pr false none 96 g10 (L14 (Kt Kv) kc5) (tl 3 (blk (s1 (tl 1 (lp (blk (tl 1 (s1 (tl 4 bd))))))))) (P9 Kv kc5) := ok_seq (by kernel_rfl) (S11_ok Kv kc5) (B17 Kv kc5)
def S19 (K : KT) (kc5 : Cur g5) (v_89 : Sl) (r_90 : Option Addr) (out_91 : Sl) (many_92 : Bool) (i_93 : Int) (w : World) : Prop :=
  G.ix v_89.a v_89.n i_93 2 fun p94 => G.cSl p94 w.drew fun l95 => G.ptr r_90 fun p96 => G.cB p96 w.drew fun b97 => G.cS (p96.add 1) w.drew fun s98 => G.cS (p96.add 2) w.drew fun s99 => G.cI .i64 (p96.add 3) w.drew fun n100 => G.cI .i64 (p96.add 4) w.drew fun n101 => G.cSl (p96.add 5) w.drew fun l102 => C.tocsinref19_named b97 s98 s99 n100 n101 l102 (⟨#[95, 95, 110, 97, 109, 101, 95, 95]⟩ : ByteArray) w.drew fun l103 w104 => sameAt p94 1 w.drew w104 ∧ (C.tocsinref19_with l95 l103 w104 fun l105 n106 w107 => G.cond (n106 != (0 : Int)) (K nilS n106 w107) (L14 K kc5 v_89 r_90 out_91 many_92 i_93 l105 ((out_91.n : Nat) : Int) w107))
theorem S19_ok (Kv : VW) (kc5 : Cur g5) : OkT pr false none 96 g5 (S19 (Kt Kv) kc5) (blk (s1 (tl 1 (lp (blk (tl 1 (s1 (tl 4 bd)))))))) (P9 Kv kc5) := ok_group mixed FOk_ 3 (Q18 Kv kc5) fun v ρ w => by kernel_rfl
theorem B20 (Kv : VW) (kc5 : Cur g5) : OkT pr false none 96 g5 (S19 (Kt Kv) kc5) (s1 (tl 1 (lp (blk (tl 1 (s1 (tl 4 bd))))))) (P8 Kv kc5) := ok_block 1 (by kernel_rfl) (S19_ok Kv kc5)
theorem Q21 (Kv : VW) (kc5 : Cur g5) : OkT pr false none 96 g5 (S19 (Kt Kv) kc5) (tl 1 (lp (blk (tl 1 (s1 (tl 4 bd)))))) (P6 Kv kc5) := ok_seq (by kernel_rfl) (S7_ok Kv kc5) (B20 Kv kc5)
def S22 (K : KT) (kc5 : Cur g5) (v_108 : Sl) (r_109 : Option Addr) (out_110 : Sl) (many_111 : Bool) (i_112 : Int) (w : World) : Prop :=
  G.cond (decide (i_112 < ((v_108.n : Nat) : Int))) (S19 K kc5 v_108 r_109 out_110 many_111 i_112 w) (S2 K out_110 many_111 w)
theorem S22_ok (Kv : VW) (kc5 : Cur g5) : OkT pr false none 96 g5 (S22 (Kt Kv) kc5) (lp (blk (tl 1 (s1 (tl 4 bd))))) (P6 Kv kc5) := ok_group mixed FOk_ 1 (Q21 Kv kc5) fun v ρ w => by kernel_rfl
def L5 (K : KT) : Cur g5 := loopC g5 (S22 K)
theorem L5_ok (Kv : VW) : OkT pr false none 96 g5 (L5 (Kt Kv)) (blk (tl 1 (s1 (tl 4 bd)))) (P4 Kv) := ok_loop (B := S22 (Kt Kv)) (by kernel_rfl) fun kc => S22_ok Kv kc
theorem L5_ind {K : KT} {v_19 : Sl} {r_20 : Option Addr} {out_21 : Sl} {many_22 : Bool} {i_23 : Int} {w : World} (h : ∀ X : Cur g5, (∀ v_19 r_20 out_21 many_22 i_23 w, S22 K X v_19 r_20 out_21 many_22 i_23 w → X v_19 r_20 out_21 many_22 i_23 w) → X v_19 r_20 out_21 many_22 i_23 w) : L5 K v_19 r_20 out_21 many_22 i_23 w := fun X hX => h X fun v_19 r_20 out_21 many_22 i_23 w hb => hX (v_19, r_20, out_21, many_22, i_23, ()) w hb
theorem B23 (Kv : VW) : OkT pr false none 96 g5 (L5 (Kt Kv)) (tl 1 (s1 (tl 4 bd))) (P3 Kv) := ok_block 0 (by kernel_rfl) (L5_ok Kv)
@[reducible] def g24 : List SE := [.v 1 .sl, .v 2 .ptr, .v 6 .sl, .v 7 .bool]
def S24 (K : KT) (v_113 : Sl) (r_114 : Option Addr) (out_115 : Sl) (many_116 : Bool) (w : World) : Prop :=
  L5 K v_113 r_114 out_115 many_116 (0 : Int) w
theorem S24_ok (Kv : VW) : OkT pr false none 96 g24 (S24 (Kt Kv)) (s1 (tl 4 bd)) (P3 Kv) := ok_group mixed FOk_ 1 (B23 Kv) fun v ρ w => by kernel_rfl
theorem Q25 (Kv : VW) : OkT pr false none 96 g24 (S24 (Kt Kv)) (tl 4 bd) (P1 Kv) := ok_seq (by kernel_rfl) (S2_ok Kv) (S24_ok Kv)
end tocsinref19_Record
def tocsinref19_Record (r_3 : Bool) (r_4 : ByteArray) (r_5 : ByteArray) (r_6 : Int) (r_7 : Int) (r_8 : Sl) (v_9 : Sl) (w : World) (K : tocsinref19_Record.KT) : Prop :=
  G.new (.cells #[(.bool r_3), (.string r_4), (.string r_5), (.int .i64 r_6), (.int .i64 r_7), r_8.v] 24) w fun p117 w118 => G.cB p117 w118 fun b119 => G.cS (p117.add 1) w118 fun s120 => G.cS (p117.add 2) w118 fun s121 => G.cI .i64 (p117.add 3) w118 fun n122 => G.cI .i64 (p117.add 4) w118 fun n123 => G.cSl (p117.add 5) w118 fun l124 => C.tocsinref19_Rule b119 s120 s121 n122 n123 l124 w118 fun n125 w126 => G.cond (n125 != (0 : Int)) (K nilS (201 : Int) w126) (G.cB p117 w126 fun b127 => G.cond (!b127) (K nilS (201 : Int) w126) (tocsinref19_Record.S24 K v_9 (some p117) nilS false w126))
def tocsinref19_Record.cl : CL := fun args K w => match args with
  | [.agg ⟨[.bool x0_0, .string x0_1, .string x0_2, .int .i64 x0_3, .int .i64 x0_4, .slice x0_5_a x0_5_n x0_5_c]⟩, .slice x1_a x1_n x1_c] => C.tocsinref19_Record x0_0 x0_1 x0_2 x0_3 x0_4 ⟨x0_5_a, x0_5_n, x0_5_c⟩ ⟨x1_a, x1_n, x1_c⟩ w (tocsinref19_Record.Kt K)
  | _ => False
theorem tocsinref19_Record.clok : OkC pr 28 tocsinref19_Record.cl := by
  intro args K w h
  unfold tocsinref19_Record.cl at h
  split at h
  · exact calls_group false mixed tocsinref19_Record.FOk_ tocsinref19_Record.fn rfl 4 (tocsinref19_Record.Q25 K) (Eq.mp (by kernel_rfl) h)
  · exact h.elim
namespace rules_Next
abbrev KT := Int → Int → World → Prop
def Kt (Kv : VW) : KT := fun n1 n2 w => Kv (.tuple #[(.int .i64 n1), (.int .i64 n2)]) w
noncomputable def bd : Code := bdy Tryz.f29
theorem fn : FnOk pr 29 38 Tryz.f29 := ⟨Tryz.func29, by kernel_rfl, Tryz.ntmps29, by kernel_rfl, by kernel_rfl⟩
def F : Clee := ofL [(35, C.rules_time.cl)]
theorem FOk_ : FOk pr F := FOk_cons C.rules_time.clok (FOk_nil)
def P1 (Kv : VW) : Post := bodyK false pr 38 Tryz.f29 Kv
end rules_Next
def rules_Next (loaded_3 : Int) (every_4 : Int) (now_5 : Int) (w : World) (K : rules_Next.KT) : Prop :=
  C.rules_time loaded_3 w fun b12 w13 => G.cond (!b12) (K (0 : Int) (1 : Int) w13) (C.rules_time now_5 w13 fun b14 w15 => G.cond (!b14) (K (0 : Int) (1 : Int) w15) (G.cond (decide (every_4 < (1 : Int))) (K (0 : Int) (1 : Int) w15) (G.cond (decide (every_4 > (1099511627776 : Int))) (K (0 : Int) (1 : Int) w15) (G.cond (decide (now_5 < loaded_3)) (K loaded_3 (0 : Int) w15) (G.nz every_4 <| K (IntKind.i64.wrap (loaded_3 + (IntKind.i64.wrap ((IntKind.i64.wrap ((IntKind.i64.wrap (Int.tdiv (IntKind.i64.wrap (now_5 - loaded_3)) every_4)) + (1 : Int))) * every_4)))) (0 : Int) w15)))))
def rules_Next.cl : CL := fun args K w => match args with
  | [.int .i64 x0, .int .i64 x1, .int .i64 x2] => C.rules_Next x0 x1 x2 w (rules_Next.Kt K)
  | _ => False
theorem rules_Next.clok : OkC pr 29 rules_Next.cl := by
  intro args K w h
  unfold rules_Next.cl at h
  split at h
  · exact calls_last false mixed rules_Next.FOk_ rules_Next.fn rfl (Eq.mp (by kernel_rfl) h)
  · exact h.elim
namespace tocsinref19_Next
abbrev KT := Int → Int → World → Prop
def Kt (Kv : VW) : KT := fun n1 n2 w => Kv (.tuple #[(.int .i64 n1), (.int .i64 n2)]) w
noncomputable def bd : Code := bdy Tryz.f30
theorem fn : FnOk pr 30 44 Tryz.f30 := ⟨Tryz.func30, by kernel_rfl, Tryz.ntmps30, by kernel_rfl, by kernel_rfl⟩
def F : Clee := ofL []
theorem FOk_ : FOk pr F := FOk_nil
def P1 (Kv : VW) : Post := bodyK false pr 44 Tryz.f30 Kv
end tocsinref19_Next
def tocsinref19_Next (loaded_3 : Int) (every_4 : Int) (now_5 : Int) (w : World) (K : tocsinref19_Next.KT) : Prop :=
  G.cond (decide (loaded_3 < (0 : Int))) (K (0 : Int) (1 : Int) w) (G.cond (decide (loaded_3 > (1125899906842624 : Int))) (K (0 : Int) (1 : Int) w) (G.cond (decide (now_5 < (0 : Int))) (K (0 : Int) (1 : Int) w) (G.cond (decide (now_5 > (1125899906842624 : Int))) (K (0 : Int) (1 : Int) w) (G.cond (decide (every_4 < (1 : Int))) (K (0 : Int) (1 : Int) w) (G.cond (decide (every_4 > (1099511627776 : Int))) (K (0 : Int) (1 : Int) w) (G.cond (decide (now_5 < loaded_3)) (K loaded_3 (0 : Int) w) (G.nz every_4 <| K (IntKind.i64.wrap (loaded_3 + (IntKind.i64.wrap ((IntKind.i64.wrap ((IntKind.i64.wrap (Int.tdiv (IntKind.i64.wrap (now_5 - loaded_3)) every_4)) + (1 : Int))) * every_4)))) (0 : Int) w)))))))
def tocsinref19_Next.cl : CL := fun args K w => match args with
  | [.int .i64 x0, .int .i64 x1, .int .i64 x2] => C.tocsinref19_Next x0 x1 x2 w (tocsinref19_Next.Kt K)
  | _ => False
theorem tocsinref19_Next.clok : OkC pr 30 tocsinref19_Next.cl := by
  intro args K w h
  unfold tocsinref19_Next.cl at h
  split at h
  · exact calls_last false mixed tocsinref19_Next.FOk_ tocsinref19_Next.fn rfl (Eq.mp (by kernel_rfl) h)
  · exact h.elim
abbrev math_Float64bits.KT := Int → World → Prop
def math_Float64bits.Kt (Kv : VW) : math_Float64bits.KT := fun r0 w => Kv (.int .u64 r0) w
def math_Float64bits (x0 : Nat) (w : World) (K : math_Float64bits.KT) : Prop := K (x0 : Int) w
def math_Float64bits.cl : CL := fun args K w => match args with
  | [.float .f64 x0] => C.math_Float64bits x0 w (math_Float64bits.Kt K)
  | _ => False
theorem math_Float64bits.clok : OkX pr 45 math_Float64bits.cl := by
  intro args K w h
  unfold math_Float64bits.cl at h
  split at h
  · exact ⟨_, w, by kernel_rfl, h⟩
  · exact h.elim
namespace tocsinref11_SamePoints
abbrev KT := Bool → World → Prop
def Kt (Kv : VW) : KT := fun b1 w => Kv (.bool b1) w
noncomputable def bd : Code := bdy Tryz.f33
theorem fn : FnOk pr 33 44 Tryz.f33 := ⟨Tryz.func33, by kernel_rfl, Tryz.ntmps33, by kernel_rfl, by kernel_rfl⟩
def F : Clee := ofL [(14, C.tocsinref04_Same.cl), (45, C.math_Float64bits.cl)]
theorem FOk_ : FOk pr F := FOk_cons C.tocsinref04_Same.clok (FOk_consX C.math_Float64bits.clok (FOk_nil))
def P1 (Kv : VW) : Post := bodyK false pr 44 Tryz.f33 Kv
@[reducible] def g2 : List SE := []
def S2 (K : KT) (w : World) : Prop :=
  K true w
theorem S2_ok (Kv : VW) : OkT pr false none 44 g2 (S2 (Kt Kv)) (s2 (tl 2 bd)) (P1 Kv) := ok_last mixed FOk_ fun v ρ w => by kernel_rfl
def P3 (Kv : VW) : Post := next (get g2 (S2 (Kt Kv))) (P1 Kv)
def P4 (Kv : VW) : Post := inBlock 0 (P3 Kv)
@[reducible] def g5 : List SE := [.v 0 .sl, .v 1 .sl, .v 5 (.int .i64)]
def P6 (Kv : VW) (kc5 : Cur g5) : Post := next (get g5 kc5) (P4 Kv)
def S7 (K : KT) (kc5 : Cur g5) (a_10 : Sl) (b_11 : Sl) (i_12 : Int) (w : World) : Prop :=
  G.cond (decide (i_12 < ((a_10.n : Nat) : Int))) (G.ix a_10.a a_10.n i_12 2 fun p13 => G.cSl p13 w.drew fun l14 => G.ix b_11.a b_11.n i_12 2 fun p15 => G.cSl p15 w.drew fun l16 => C.tocsinref04_Same l14 l16 w.drew fun b17 w18 => G.cond (!b17) (K false w18) (G.ix a_10.a a_10.n i_12 2 fun p19 => G.cF .f64 (p19.add 1) w18 fun f20 => G.ix b_11.a b_11.n i_12 2 fun p21 => G.cF .f64 (p21.add 1) w18 fun f22 => C.math_Float64bits f20 w18 fun n23 w24 => sameAt (p21.add 1) 1 w18 w24 ∧ (C.math_Float64bits f22 w24 fun n25 w26 => G.cond (n23 != n25) (K false w26) (kc5 a_10 b_11 (IntKind.i64.wrap (i_12 + (1 : Int))) w26)))) (S2 K w)
theorem S7_ok (Kv : VW) (kc5 : Cur g5) : OkT pr false none 44 g5 (S7 (Kt Kv) kc5) (lp (blk (tl 1 (s1 (tl 2 bd))))) (P6 Kv kc5) := ok_last mixed FOk_ fun v ρ w => by kernel_rfl
def L5 (K : KT) : Cur g5 := loopC g5 (S7 K)
theorem L5_ok (Kv : VW) : OkT pr false none 44 g5 (L5 (Kt Kv)) (blk (tl 1 (s1 (tl 2 bd)))) (P4 Kv) := ok_loop (B := S7 (Kt Kv)) (by kernel_rfl) fun kc => S7_ok Kv kc
theorem L5_ind {K : KT} {a_4 : Sl} {b_5 : Sl} {i_6 : Int} {w : World} (h : ∀ X : Cur g5, (∀ a_4 b_5 i_6 w, S7 K X a_4 b_5 i_6 w → X a_4 b_5 i_6 w) → X a_4 b_5 i_6 w) : L5 K a_4 b_5 i_6 w := fun X hX => h X fun a_4 b_5 i_6 w hb => hX (a_4, b_5, i_6, ()) w hb
theorem B8 (Kv : VW) : OkT pr false none 44 g5 (L5 (Kt Kv)) (tl 1 (s1 (tl 2 bd))) (P3 Kv) := ok_block 0 (by kernel_rfl) (L5_ok Kv)
@[reducible] def g9 : List SE := [.v 0 .sl, .v 1 .sl]
def S9 (K : KT) (a_27 : Sl) (b_28 : Sl) (w : World) : Prop :=
  L5 K a_27 b_28 (0 : Int) w
theorem S9_ok (Kv : VW) : OkT pr false none 44 g9 (S9 (Kt Kv)) (s1 (tl 2 bd)) (P3 Kv) := ok_group mixed FOk_ 1 (B8 Kv) fun v ρ w => by kernel_rfl
theorem Q10 (Kv : VW) : OkT pr false none 44 g9 (S9 (Kt Kv)) (tl 2 bd) (P1 Kv) := ok_seq (by kernel_rfl) (S2_ok Kv) (S9_ok Kv)
end tocsinref11_SamePoints
def tocsinref11_SamePoints (a_2 : Sl) (b_3 : Sl) (w : World) (K : tocsinref11_SamePoints.KT) : Prop :=
  G.cond (((a_2.n : Nat) : Int) != ((b_3.n : Nat) : Int)) (K false w) (tocsinref11_SamePoints.S9 K a_2 b_3 w)
def tocsinref11_SamePoints.cl : CL := fun args K w => match args with
  | [.slice x0_a x0_n x0_c, .slice x1_a x1_n x1_c] => C.tocsinref11_SamePoints ⟨x0_a, x0_n, x0_c⟩ ⟨x1_a, x1_n, x1_c⟩ w (tocsinref11_SamePoints.Kt K)
  | _ => False
theorem tocsinref11_SamePoints.clok : OkC pr 33 tocsinref11_SamePoints.cl := by
  intro args K w h
  unfold tocsinref11_SamePoints.cl at h
  split at h
  · exact calls_group false mixed tocsinref11_SamePoints.FOk_ tocsinref11_SamePoints.fn rfl 2 (tocsinref11_SamePoints.Q10 K) (Eq.mp (by kernel_rfl) h)
  · exact h.elim
namespace tocsinlaw19_RulesNames
abbrev KT := Bool → World → Prop
def Kt (Kv : VW) : KT := fun b1 w => Kv (.bool b1) w
noncomputable def bd : Code := bdy Tryz.f8
theorem fn : FnOk pr 8 115 Tryz.f8 := ⟨Tryz.func8, by kernel_rfl, Tryz.ntmps8, by kernel_rfl, by kernel_rfl⟩
def F : Clee := ofL [(10, C.tocsinlaw19_known.cl), (13, C.tocsinref19_Labels.cl), (14, C.tocsinref04_Same.cl), (26, C.rules_Labels.cl), (27, C.rules_Record.cl), (28, C.tocsinref19_Record.cl), (29, C.rules_Next.cl), (30, C.tocsinref19_Next.cl), (31, C.rules_Rule.cl), (32, C.tocsinref19_Rule.cl), (33, C.tocsinref11_SamePoints.cl)]
theorem FOk_ : FOk pr F := FOk_cons C.tocsinlaw19_known.clok (FOk_cons C.tocsinref19_Labels.clok (FOk_cons C.tocsinref04_Same.clok (FOk_cons C.rules_Labels.clok (FOk_cons C.rules_Record.clok (FOk_cons C.tocsinref19_Record.clok (FOk_cons C.rules_Next.clok (FOk_cons C.tocsinref19_Next.clok (FOk_cons C.rules_Rule.clok (FOk_cons C.tocsinref19_Rule.clok (FOk_cons C.tocsinref11_SamePoints.clok (FOk_nil)))))))))))
def P1 (Kv : VW) : Post := bodyK false pr 115 Tryz.f8 Kv
end tocsinlaw19_RulesNames
def tocsinlaw19_RulesNames (r_2 : Bool) (r_3 : ByteArray) (r_4 : ByteArray) (r_5 : Int) (r_6 : Int) (r_7 : Sl) (l_8 : Sl) (v_9 : Sl) (loaded_10 : Int) (every_11 : Int) (now_12 : Int) (w : World) (K : tocsinlaw19_RulesNames.KT) : Prop :=
  G.new (.cells #[(.bool r_2), (.string r_3), (.string r_4), (.int .i64 r_5), (.int .i64 r_6), r_7.v] 24) w fun p13 w14 => G.cB p13 w14 fun b15 => G.cS (p13.add 1) w14 fun s16 => G.cS (p13.add 2) w14 fun s17 => G.cI .i64 (p13.add 3) w14 fun n18 => G.cI .i64 (p13.add 4) w14 fun n19 => G.cSl (p13.add 5) w14 fun l20 => C.rules_Labels b15 s16 s17 n18 n19 l20 l_8 w14 fun l21 n22 w23 => G.cB p13 w23 fun b24 => G.cS (p13.add 1) w23 fun s25 => G.cS (p13.add 2) w23 fun s26 => G.cI .i64 (p13.add 3) w23 fun n27 => G.cI .i64 (p13.add 4) w23 fun n28 => G.cSl (p13.add 5) w23 fun l29 => C.tocsinref19_Labels b24 s25 s26 n27 n28 l29 l_8 w23 fun l30 n31 w32 => G.cB p13 w32 fun b33 => G.cS (p13.add 1) w32 fun s34 => G.cS (p13.add 2) w32 fun s35 => G.cI .i64 (p13.add 3) w32 fun n36 => G.cI .i64 (p13.add 4) w32 fun n37 => G.cSl (p13.add 5) w32 fun l38 => C.rules_Record b33 s34 s35 n36 n37 l38 v_9 w32 fun l39 n40 w41 => G.cB p13 w41 fun b42 => G.cS (p13.add 1) w41 fun s43 => G.cS (p13.add 2) w41 fun s44 => G.cI .i64 (p13.add 3) w41 fun n45 => G.cI .i64 (p13.add 4) w41 fun n46 => G.cSl (p13.add 5) w41 fun l47 => C.tocsinref19_Record b42 s43 s44 n45 n46 l47 v_9 w41 fun l48 n49 w50 => C.rules_Next loaded_10 every_11 now_12 w50 fun n51 n52 w53 => C.tocsinref19_Next loaded_10 every_11 now_12 w53 fun n54 n55 w56 => G.cB p13 w56.drew fun b57 => G.cS (p13.add 1) w56.drew fun s58 => G.cS (p13.add 2) w56.drew fun s59 => G.cI .i64 (p13.add 3) w56.drew fun n60 => G.cI .i64 (p13.add 4) w56.drew fun n61 => G.cSl (p13.add 5) w56.drew fun l62 => G.cB p13 w56.drew fun b63 => G.cS (p13.add 1) w56.drew fun s64 => G.cS (p13.add 2) w56.drew fun s65 => G.cI .i64 (p13.add 3) w56.drew fun n66 => G.cI .i64 (p13.add 4) w56.drew fun n67 => G.cSl (p13.add 5) w56.drew fun l68 => C.rules_Rule b57 s58 s59 n60 n61 l62 w56.drew fun n69 w70 => sameAt p13 6 w56.drew w70 ∧ (C.tocsinref19_Rule b63 s64 s65 n66 n67 l68 w70 fun n71 w72 => G.cond (n69 == n71) (C.tocsinref04_Same l21 l30 w72 fun b73 w74 => G.cond b73 (G.cond (n22 == n31) (C.tocsinref11_SamePoints l39 l48 w74 fun b75 w76 => G.cond b75 (G.cond (n40 == n49) (G.cond (n51 == n54) (G.cond (n52 == n55) (G.cond (n52 != (0 : Int)) (C.tocsinlaw19_known w76 fun b77 w78 => K b77 w78) (G.cond (decide (n51 > now_12)) (C.tocsinlaw19_known w76 fun b79 w80 => K b79 w80) (G.cond (n51 == loaded_10) (C.tocsinlaw19_known w76 fun b81 w82 => K b81 w82) (K false w76)))) (K false w76)) (K false w76)) (K false w76)) (K false w76)) (K false w74)) (K false w74)) (K false w72))
def tocsinlaw19_RulesNames.cl : CL := fun args K w => match args with
  | [.agg ⟨[.bool x0_0, .string x0_1, .string x0_2, .int .i64 x0_3, .int .i64 x0_4, .slice x0_5_a x0_5_n x0_5_c]⟩, .slice x1_a x1_n x1_c, .slice x2_a x2_n x2_c, .int .i64 x3, .int .i64 x4, .int .i64 x5] => C.tocsinlaw19_RulesNames x0_0 x0_1 x0_2 x0_3 x0_4 ⟨x0_5_a, x0_5_n, x0_5_c⟩ ⟨x1_a, x1_n, x1_c⟩ ⟨x2_a, x2_n, x2_c⟩ x3 x4 x5 w (tocsinlaw19_RulesNames.Kt K)
  | _ => False
theorem tocsinlaw19_RulesNames.clok : OkC pr 8 tocsinlaw19_RulesNames.cl := by
  intro args K w h
  unfold tocsinlaw19_RulesNames.cl at h
  split at h
  · exact calls_last false mixed tocsinlaw19_RulesNames.FOk_ tocsinlaw19_RulesNames.fn rfl (Eq.mp (by kernel_rfl) h)
  · exact h.elim
end C
end Go.Proofs.YtechilkjfhpkpaaGreatDoor

namespace Go.Proofs.YtechilkjfhpkpaaGreatDoor.Utf
open Go Vm Go.RowKit Num Mem Lib
set_option maxRecDepth 10000
abbrev bytes (s : ByteArray) : List UInt8 := s.data.toList
theorem ixS_at {s : ByteArray} {i : Int} {k : Nat} (hi : i = (k : Int)) (hk : k < s.size) {K : Int → Prop} (hK : K (((bytes s).getD k 0).toNat : Int)) : G.ixS s i K := by
  subst hi
  refine ⟨(bytes s).getD k 0, by omega, ?_, hK⟩
  rw [Int.toNat_natCast, getElem?_pos s k hk]
  have hk' : k < s.data.toList.length := by rw [← size_eq]; exact hk
  congr 1
  rw [List.getD_eq_getElem?_getD, List.getElem?_eq_getElem hk', Option.getD_some]
  rfl
theorem slcS_at {s : ByteArray} {i : Int} {k : Nat} (hi : i = (k : Int)) (hk : k ≤ s.size) {K : ByteArray → Prop} (hK : K (s.extract k s.size)) : G.slcS s i ((s.size : Nat) : Int) K := by
  subst hi
  exact ⟨⟨by omega, by omega, by omega⟩, by simpa using hK⟩
end Go.Proofs.YtechilkjfhpkpaaGreatDoor.Utf
