/- Clean texts of Go functions, written by a program of this work (gen.py) off the loaded code, each shown to be what the code does. -/
import Derived.Test.YtfkpehcbijgmnaaGreatDoorProg
import Derived.Test.YtfkpehcbijgmnaaGreatDoorVmLift
import Derived.Lib.Bytealg
import Derived.Test.YtfkpehcbijgmnaaGreatDoorSortF
import Derived.Test.YtfkpehcbijgmnaaGreatDoorSortS
set_option linter.unusedVariables false
set_option maxRecDepth 100000
namespace Go.Proofs.YtfkpehcbijgmnaaGreatDoor
open Go Vm
namespace C
noncomputable abbrev pr : Program := Tryz.prog
theorem mixed : pr.follows .mixedOrders = true := by kernel_rfl
/-! maps.Values[map[string]tocsin/api.Alert,string,tocsin/api.Alert]$1 -/
namespace maps_Values_1_map_string_Alert_string_Alert
abbrev KT := World → Prop
def Kt (Kv : Value → World → Prop) : KT := fun  w => Kv (.tuple #[]) w
noncomputable def bd : Code := bdy Tryz.f35
theorem fn : FnOk pr 35 15 Tryz.f35 := ⟨Tryz.func35, by kernel_rfl, Tryz.ntmps35, by kernel_rfl, by kernel_rfl⟩
def F : Clee := ofL []
theorem FOk_ : FOk pr F := FOk_nil
def P1 (Kv : Value → World → Prop) : Post := bodyK false pr 15 Tryz.f35 Kv
def P2 (Kv : Value → World → Prop) : Post := inBlock 0 (P1 Kv)
@[reducible] def g3 : List SE := [.v 0 .raw, .v 6 .ptr]
def P4 (Kv : Value → World → Prop) (kc3 : Cur g3) : Post := next (get g3 kc3) (P2 Kv)
def S5 (K : KT) (kc3 : Cur g3) (yield_7 : Value) (p8 : Option Addr) (w : World) : Prop :=
  G.nxt pr (Instr.next (.pointer p8) false 0) w (fun w9 => K w9) (fun k11 x12 w10 => G.ent pr (Instr.entry (.pointer p8)) w10 fun k13 x14 => G.ag x14 3 fun c15 => G.vSl c15[0 + 0]? fun l16 => G.vI .i64 c15[0 + 1]? fun n17 => G.vI .i64 c15[0 + 2]? fun n18 => G.new (.cells #[nilS.v, (.int .i64 (0 : Int)), (.int .i64 (0 : Int))] 34) w10 fun p19 w20 => G.st p19 l16.v w20 fun w21 => G.st (p19.add 1) (.int .i64 n17) w21 fun w22 => G.st (p19.add 2) (.int .i64 n18) w22 fun w23 => G.cSl p19 w23 fun l24 => G.cI .i64 (p19.add 1) w23 fun n25 => G.cI .i64 (p19.add 2) w23 fun n26 => G.callV pr F yield_7 [(.agg #[l24.v, (.int .i64 n25), (.int .i64 n26)])] w23 fun v27 w28 => G.isB v27 fun b29 => G.cond (!b29) (K w28) (kc3 yield_7 p8 w28))
theorem S5_ok (Kv : Value → World → Prop) (kc3 : Cur g3) : OkT pr false none 15 g3 (S5 (Kt Kv) kc3) (lp (blk (tl 1 bd))) (P4 Kv kc3) := ok_last mixed FOk_ fun v ρ w => by kernel_rfl
def L3 (K : KT) : Cur g3 := loopC g3 (S5 K)
theorem L3_ok (Kv : Value → World → Prop) : OkT pr false none 15 g3 (L3 (Kt Kv)) (blk (tl 1 bd)) (P2 Kv) := ok_loop (B := S5 (Kt Kv)) (by kernel_rfl) fun kc => S5_ok Kv kc
theorem L3_ind {K : KT} {yield_3 : Value} {p4 : Option Addr} {w : World} (h : ∀ X : Cur g3, (∀ yield_3 p4 w, S5 K X yield_3 p4 w → X yield_3 p4 w) → X yield_3 p4 w) : L3 K yield_3 p4 w := fun X hX => h X fun yield_3 p4 w hb => hX (yield_3, p4, ()) w hb
theorem B6 (Kv : Value → World → Prop) : OkT pr false none 15 g3 (L3 (Kt Kv)) (tl 1 bd) (P1 Kv) := ok_block 0 (by kernel_rfl) (L3_ok Kv)
end maps_Values_1_map_string_Alert_string_Alert
def maps_Values_1_map_string_Alert_string_Alert (yield_1 : Value) (p_2 : Option Addr) (w : World) (K : maps_Values_1_map_string_Alert_string_Alert.KT) : Prop :=
  G.ptr p_2 fun p30 => G.cM p30 w fun m31 => G.runP pr (Instr.range 44 (.map m31)) w fun p32 w33 => maps_Values_1_map_string_Alert_string_Alert.L3 K yield_1 p32 w33
def maps_Values_1_map_string_Alert_string_Alert.cl : CL := fun args K w => match args with
  | [x0, .pointer x1] => C.maps_Values_1_map_string_Alert_string_Alert x0 x1 w (maps_Values_1_map_string_Alert_string_Alert.Kt K)
  | _ => False
theorem maps_Values_1_map_string_Alert_string_Alert.clok : OkC pr 35 maps_Values_1_map_string_Alert_string_Alert.cl := by
  intro args K w h
  unfold maps_Values_1_map_string_Alert_string_Alert.cl at h
  split at h
  · exact calls_group false mixed maps_Values_1_map_string_Alert_string_Alert.FOk_ maps_Values_1_map_string_Alert_string_Alert.fn rfl 1 (maps_Values_1_map_string_Alert_string_Alert.B6 K) (Eq.mp (by kernel_rfl) h)
  · exact h.elim

/-! maps.Keys[map[string]tocsin/api.Alert,string,tocsin/api.Alert]$1 -/
namespace maps_Keys_1_map_string_Alert_string_Alert
abbrev KT := World → Prop
def Kt (Kv : Value → World → Prop) : KT := fun  w => Kv (.tuple #[]) w
noncomputable def bd : Code := bdy Tryz.f75
theorem fn : FnOk pr 75 14 Tryz.f75 := ⟨Tryz.func75, by kernel_rfl, Tryz.ntmps75, by kernel_rfl, by kernel_rfl⟩
def F : Clee := ofL [(35, C.maps_Values_1_map_string_Alert_string_Alert.cl)]
theorem FOk_ : FOk pr F := FOk_cons C.maps_Values_1_map_string_Alert_string_Alert.clok (FOk_nil)
def P1 (Kv : Value → World → Prop) : Post := bodyK false pr 14 Tryz.f75 Kv
def P2 (Kv : Value → World → Prop) : Post := inBlock 0 (P1 Kv)
@[reducible] def g3 : List SE := [.v 0 .raw, .v 5 .ptr]
def P4 (Kv : Value → World → Prop) (kc3 : Cur g3) : Post := next (get g3 kc3) (P2 Kv)
def S5 (K : KT) (kc3 : Cur g3) (yield_5 : Value) (p6 : Option Addr) (w : World) : Prop :=
  G.nxt pr (Instr.next (.pointer p6) false 0) w (fun w7 => K w7) (fun k9 x10 w8 => G.ent pr (Instr.entry (.pointer p6)) w8 fun k11 x12 => G.vS (some k11) fun s13 => G.callV pr F yield_5 [(.string s13)] w8 fun v14 w15 => G.isB v14 fun b16 => G.cond (!b16) (K w15) (kc3 yield_5 p6 w15))
theorem S5_ok (Kv : Value → World → Prop) (kc3 : Cur g3) : OkT pr false none 14 g3 (S5 (Kt Kv) kc3) (lp (blk (tl 1 bd))) (P4 Kv kc3) := ok_last mixed FOk_ fun v ρ w => by kernel_rfl
def L3 (K : KT) : Cur g3 := loopC g3 (S5 K)
theorem L3_ok (Kv : Value → World → Prop) : OkT pr false none 14 g3 (L3 (Kt Kv)) (blk (tl 1 bd)) (P2 Kv) := ok_loop (B := S5 (Kt Kv)) (by kernel_rfl) fun kc => S5_ok Kv kc
theorem L3_ind {K : KT} {yield_3 : Value} {p4 : Option Addr} {w : World} (h : ∀ X : Cur g3, (∀ yield_3 p4 w, S5 K X yield_3 p4 w → X yield_3 p4 w) → X yield_3 p4 w) : L3 K yield_3 p4 w := fun X hX => h X fun yield_3 p4 w hb => hX (yield_3, p4, ()) w hb
theorem B6 (Kv : Value → World → Prop) : OkT pr false none 14 g3 (L3 (Kt Kv)) (tl 1 bd) (P1 Kv) := ok_block 0 (by kernel_rfl) (L3_ok Kv)
end maps_Keys_1_map_string_Alert_string_Alert
def maps_Keys_1_map_string_Alert_string_Alert (yield_1 : Value) (p_2 : Option Addr) (w : World) (K : maps_Keys_1_map_string_Alert_string_Alert.KT) : Prop :=
  G.ptr p_2 fun p17 => G.cM p17 w fun m18 => G.runP pr (Instr.range 44 (.map m18)) w fun p19 w20 => maps_Keys_1_map_string_Alert_string_Alert.L3 K yield_1 p19 w20
def maps_Keys_1_map_string_Alert_string_Alert.cl : CL := fun args K w => match args with
  | [x0, .pointer x1] => C.maps_Keys_1_map_string_Alert_string_Alert x0 x1 w (maps_Keys_1_map_string_Alert_string_Alert.Kt K)
  | _ => False
theorem maps_Keys_1_map_string_Alert_string_Alert.clok : OkC pr 75 maps_Keys_1_map_string_Alert_string_Alert.cl := by
  intro args K w h
  unfold maps_Keys_1_map_string_Alert_string_Alert.cl at h
  split at h
  · exact calls_group false mixed maps_Keys_1_map_string_Alert_string_Alert.FOk_ maps_Keys_1_map_string_Alert_string_Alert.fn rfl 1 (maps_Keys_1_map_string_Alert_string_Alert.B6 K) (Eq.mp (by kernel_rfl) h)
  · exact h.elim

/-! internal/bytealg.abigen_runtime_cmpstring: the model's own -/
abbrev bytealg_abigen_runtime_cmpstring.KT := Int → World → Prop
def bytealg_abigen_runtime_cmpstring.Kt (Kv : Value → World → Prop) : bytealg_abigen_runtime_cmpstring.KT := fun r0 w => Kv (.int .i64 r0) w
def bytealg_abigen_runtime_cmpstring (x0 : ByteArray) (x1 : ByteArray) (w : World) (K : bytealg_abigen_runtime_cmpstring.KT) : Prop := K (Go.Lib.compareBytes x0.data.toList x1.data.toList) w
def bytealg_abigen_runtime_cmpstring.cl : CL := fun args K w => match args with
  | [.string x0, .string x1] => C.bytealg_abigen_runtime_cmpstring x0 x1 w (bytealg_abigen_runtime_cmpstring.Kt K)
  | _ => False
theorem bytealg_abigen_runtime_cmpstring.clok : OkX pr 70 bytealg_abigen_runtime_cmpstring.cl := by
  intro args K w h
  unfold bytealg_abigen_runtime_cmpstring.cl at h
  split at h
  · rename_i x0 x1
    refine ⟨_, w, ?_, h⟩
    show (callFunc _ #[.string x0, .string x1]).run pr w = _
    rw [run_callFunc_extern Tryz.func70 (by kernel_rfl) (by kernel_rfl) (by kernel_rfl) (e := Extern.BytealgCompare.compare) (by kernel_rfl), Lib.run_compareString]
    rfl
  · exact h.elim

/-! internal/bytealg.CompareString -/
namespace bytealg_CompareString
abbrev KT := Int → World → Prop
def Kt (Kv : Value → World → Prop) : KT := fun n1 w => Kv (.int .i64 n1) w
noncomputable def bd : Code := bdy Tryz.f50
theorem fn : FnOk pr 50 8 Tryz.f50 := ⟨Tryz.func50, by kernel_rfl, Tryz.ntmps50, by kernel_rfl, by kernel_rfl⟩
def F : Clee := ofL [(70, C.bytealg_abigen_runtime_cmpstring.cl)]
theorem FOk_ : FOk pr F := FOk_consX C.bytealg_abigen_runtime_cmpstring.clok (FOk_nil)
def P1 (Kv : Value → World → Prop) : Post := bodyK false pr 8 Tryz.f50 Kv
end bytealg_CompareString
def bytealg_CompareString (a_2 : ByteArray) (b_3 : ByteArray) (w : World) (K : bytealg_CompareString.KT) : Prop :=
  C.bytealg_abigen_runtime_cmpstring a_2 b_3 w fun n4 w5 => K n4 w5
def bytealg_CompareString.cl : CL := fun args K w => match args with
  | [.string x0, .string x1] => C.bytealg_CompareString x0 x1 w (bytealg_CompareString.Kt K)
  | _ => False
theorem bytealg_CompareString.clok : OkC pr 50 bytealg_CompareString.cl := by
  intro args K w h
  unfold bytealg_CompareString.cl at h
  split at h
  · exact calls_last false mixed bytealg_CompareString.FOk_ bytealg_CompareString.fn rfl (Eq.mp (by kernel_rfl) h)
  · exact h.elim

/-! strings.Compare -/
namespace strings_Compare
abbrev KT := Int → World → Prop
def Kt (Kv : Value → World → Prop) : KT := fun n1 w => Kv (.int .i64 n1) w
noncomputable def bd : Code := bdy Tryz.f38
theorem fn : FnOk pr 38 8 Tryz.f38 := ⟨Tryz.func38, by kernel_rfl, Tryz.ntmps38, by kernel_rfl, by kernel_rfl⟩
def F : Clee := ofL [(50, C.bytealg_CompareString.cl)]
theorem FOk_ : FOk pr F := FOk_cons C.bytealg_CompareString.clok (FOk_nil)
def P1 (Kv : Value → World → Prop) : Post := bodyK false pr 8 Tryz.f38 Kv
end strings_Compare
def strings_Compare (a_2 : ByteArray) (b_3 : ByteArray) (w : World) (K : strings_Compare.KT) : Prop :=
  C.bytealg_CompareString a_2 b_3 w fun n4 w5 => K n4 w5
def strings_Compare.cl : CL := fun args K w => match args with
  | [.string x0, .string x1] => C.strings_Compare x0 x1 w (strings_Compare.Kt K)
  | _ => False
theorem strings_Compare.clok : OkC pr 38 strings_Compare.cl := by
  intro args K w h
  unfold strings_Compare.cl at h
  split at h
  · exact calls_last false mixed strings_Compare.FOk_ strings_Compare.fn rfl (Eq.mp (by kernel_rfl) h)
  · exact h.elim

/-! tocsin/labels.Compare$1 -/
namespace labels_Compare_1
abbrev KT := Int → World → Prop
def Kt (Kv : Value → World → Prop) : KT := fun n1 w => Kv (.int .i64 n1) w
noncomputable def bd : Code := bdy Tryz.f37
theorem fn : FnOk pr 37 19 Tryz.f37 := ⟨Tryz.func37, by kernel_rfl, Tryz.ntmps37, by kernel_rfl, by kernel_rfl⟩
def F : Clee := ofL [(38, C.strings_Compare.cl)]
theorem FOk_ : FOk pr F := FOk_cons C.strings_Compare.clok (FOk_nil)
def P1 (Kv : Value → World → Prop) : Post := bodyK false pr 19 Tryz.f37 Kv
end labels_Compare_1
def labels_Compare_1 (x_2 : ByteArray) (x_3 : ByteArray) (y_4 : ByteArray) (y_5 : ByteArray) (w : World) (K : labels_Compare_1.KT) : Prop :=
  G.new (.cells #[(.string x_2), (.string x_3)] 48) w fun p6 w7 => G.new (.cells #[(.string y_4), (.string y_5)] 48) w7 fun p8 w9 => G.cS p6 w9 fun s10 => G.cS p8 w9 fun s11 => C.strings_Compare s10 s11 w9 fun n12 w13 => G.cond (n12 != (0 : Int)) (K n12 w13) (G.cS (p6.add 1) w13 fun s14 => G.cS (p8.add 1) w13 fun s15 => C.strings_Compare s14 s15 w13 fun n16 w17 => K n16 w17)
def labels_Compare_1.cl : CL := fun args K w => match args with
  | [.agg ⟨[.string x0_0, .string x0_1]⟩, .agg ⟨[.string x1_0, .string x1_1]⟩] => C.labels_Compare_1 x0_0 x0_1 x1_0 x1_1 w (labels_Compare_1.Kt K)
  | _ => False
theorem labels_Compare_1.clok : OkC pr 37 labels_Compare_1.cl := by
  intro args K w h
  unfold labels_Compare_1.cl at h
  split at h
  · exact calls_last false mixed labels_Compare_1.FOk_ labels_Compare_1.fn rfl (Eq.mp (by kernel_rfl) h)
  · exact h.elim

/-! slices.CompareFunc[[]tocsin/api.Label,[]tocsin/api.Label,tocsin/api.Label,tocsin/api.Label] -/
namespace slices_CompareFunc_Label_Label_Label_Label
abbrev KT := Int → World → Prop
def Kt (Kv : Value → World → Prop) : KT := fun n1 w => Kv (.int .i64 n1) w
noncomputable def bd : Code := bdy Tryz.f36
theorem fn : FnOk pr 36 39 Tryz.f36 := ⟨Tryz.func36, by kernel_rfl, Tryz.ntmps36, by kernel_rfl, by kernel_rfl⟩
def F : Clee := ofL [(35, C.maps_Values_1_map_string_Alert_string_Alert.cl), (37, C.labels_Compare_1.cl), (75, C.maps_Keys_1_map_string_Alert_string_Alert.cl)]
theorem FOk_ : FOk pr F := FOk_cons C.maps_Values_1_map_string_Alert_string_Alert.clok (FOk_cons C.labels_Compare_1.clok (FOk_cons C.maps_Keys_1_map_string_Alert_string_Alert.clok (FOk_nil)))
def P1 (Kv : Value → World → Prop) : Post := bodyK false pr 39 Tryz.f36 Kv
@[reducible] def g2 : List SE := [.v 0 .sl, .v 1 .sl]
def S2 (K : KT) (s1_5 : Sl) (s2_6 : Sl) (w : World) : Prop :=
  G.cond (decide (((s1_5.n : Nat) : Int) < ((s2_6.n : Nat) : Int))) (K (-1 : Int) w) (K (0 : Int) w)
theorem S2_ok (Kv : Value → World → Prop) : OkT pr false none 39 g2 (S2 (Kt Kv)) (s2 (tl 1 bd)) (P1 Kv) := ok_last mixed FOk_ fun v ρ w => by kernel_rfl
def P3 (Kv : Value → World → Prop) : Post := next (get g2 (S2 (Kt Kv))) (P1 Kv)
def P4 (Kv : Value → World → Prop) : Post := inBlock 0 (P3 Kv)
@[reducible] def g5 : List SE := [.v 0 .sl, .v 1 .sl, .v 2 .raw, .v 11 .sl, .v 12 (.int .i64), .v 13 (.int .i64)]
def P6 (Kv : Value → World → Prop) (kc5 : Cur g5) : Post := next (get g5 kc5) (P4 Kv)
def S7 (K : KT) (kc5 : Cur g5) (s1_19 : Sl) (s2_20 : Sl) (cmp_21 : Value) (l22 : Sl) (n23 : Int) (n24 : Int) (w : World) : Prop :=
  G.cond (decide (n24 < n23)) (G.ix l22.a l22.n n24 2 fun p25 => G.cS p25 w fun s26 => G.cS (p25.add 1) w fun s27 => G.new (.cells #[(.string (⟨#[]⟩ : ByteArray)), (.string (⟨#[]⟩ : ByteArray))] 48) w fun p28 w29 => G.st p28 (.string s26) w29 fun w30 => G.st (p28.add 1) (.string s27) w30 fun w31 => G.cond (decide (n24 ≥ ((s2_20.n : Nat) : Int))) (K (1 : Int) w31) (G.ix s2_20.a s2_20.n n24 2 fun p32 => G.cS p32 w31 fun s33 => G.cS (p32.add 1) w31 fun s34 => G.new (.cells #[(.string (⟨#[]⟩ : ByteArray)), (.string (⟨#[]⟩ : ByteArray))] 48) w31 fun p35 w36 => G.st p35 (.string s33) w36 fun w37 => G.st (p35.add 1) (.string s34) w37 fun w38 => G.cS p28 w38 fun s39 => G.cS (p28.add 1) w38 fun s40 => G.cS p35 w38 fun s41 => G.cS (p35.add 1) w38 fun s42 => G.callV pr F cmp_21 [(.agg #[(.string s39), (.string s40)]), (.agg #[(.string s41), (.string s42)])] w38 fun v43 w44 => G.isI .i64 v43 fun n45 => G.cond (n45 != (0 : Int)) (K n45 w44) (kc5 s1_19 s2_20 cmp_21 l22 n23 (IntKind.i64.wrap (n24 + (1 : Int))) w44))) (S2 K s1_19 s2_20 w)
theorem S7_ok (Kv : Value → World → Prop) (kc5 : Cur g5) : OkT pr false none 39 g5 (S7 (Kt Kv) kc5) (lp (blk (tl 1 (s1 (tl 1 bd))))) (P6 Kv kc5) := ok_last mixed FOk_ fun v ρ w => by kernel_rfl
def L5 (K : KT) : Cur g5 := loopC g5 (S7 K)
theorem L5_ok (Kv : Value → World → Prop) : OkT pr false none 39 g5 (L5 (Kt Kv)) (blk (tl 1 (s1 (tl 1 bd)))) (P4 Kv) := ok_loop (B := S7 (Kt Kv)) (by kernel_rfl) fun kc => S7_ok Kv kc
theorem L5_ind {K : KT} {s1_7 : Sl} {s2_8 : Sl} {cmp_9 : Value} {l10 : Sl} {n11 : Int} {n12 : Int} {w : World} (h : ∀ X : Cur g5, (∀ s1_7 s2_8 cmp_9 l10 n11 n12 w, S7 K X s1_7 s2_8 cmp_9 l10 n11 n12 w → X s1_7 s2_8 cmp_9 l10 n11 n12 w) → X s1_7 s2_8 cmp_9 l10 n11 n12 w) : L5 K s1_7 s2_8 cmp_9 l10 n11 n12 w := fun X hX => h X fun s1_7 s2_8 cmp_9 l10 n11 n12 w hb => hX (s1_7, s2_8, cmp_9, l10, n11, n12, ()) w hb
theorem B8 (Kv : Value → World → Prop) : OkT pr false none 39 g5 (L5 (Kt Kv)) (tl 1 (s1 (tl 1 bd))) (P3 Kv) := ok_block 0 (by kernel_rfl) (L5_ok Kv)
@[reducible] def g9 : List SE := [.v 0 .sl, .v 1 .sl, .v 2 .raw]
def S9 (K : KT) (s1_46 : Sl) (s2_47 : Sl) (cmp_48 : Value) (w : World) : Prop :=
  L5 K s1_46 s2_47 cmp_48 s1_46 ((s1_46.n : Nat) : Int) (0 : Int) w
theorem S9_ok (Kv : Value → World → Prop) : OkT pr false none 39 g9 (S9 (Kt Kv)) (s1 (tl 1 bd)) (P3 Kv) := ok_group mixed FOk_ 1 (B8 Kv) fun v ρ w => by kernel_rfl
theorem Q10 (Kv : Value → World → Prop) : OkT pr false none 39 g9 (S9 (Kt Kv)) (tl 1 bd) (P1 Kv) := ok_seq (by kernel_rfl) (S2_ok Kv) (S9_ok Kv)
end slices_CompareFunc_Label_Label_Label_Label
def slices_CompareFunc_Label_Label_Label_Label (s1_2 : Sl) (s2_3 : Sl) (cmp_4 : Value) (w : World) (K : slices_CompareFunc_Label_Label_Label_Label.KT) : Prop :=
  slices_CompareFunc_Label_Label_Label_Label.S9 K s1_2 s2_3 cmp_4 w
def slices_CompareFunc_Label_Label_Label_Label.cl : CL := fun args K w => match args with
  | [.slice x0_a x0_n x0_c, .slice x1_a x1_n x1_c, x2] => C.slices_CompareFunc_Label_Label_Label_Label ⟨x0_a, x0_n, x0_c⟩ ⟨x1_a, x1_n, x1_c⟩ x2 w (slices_CompareFunc_Label_Label_Label_Label.Kt K)
  | _ => False
theorem slices_CompareFunc_Label_Label_Label_Label.clok : OkC pr 36 slices_CompareFunc_Label_Label_Label_Label.cl := by
  intro args K w h
  unfold slices_CompareFunc_Label_Label_Label_Label.cl at h
  split at h
  · exact calls_group false mixed slices_CompareFunc_Label_Label_Label_Label.FOk_ slices_CompareFunc_Label_Label_Label_Label.fn rfl 1 (slices_CompareFunc_Label_Label_Label_Label.Q10 K) (Eq.mp (by kernel_rfl) h)
  · exact h.elim

/-! tocsin/labels.Compare -/
namespace labels_Compare
abbrev KT := Int → World → Prop
def Kt (Kv : Value → World → Prop) : KT := fun n1 w => Kv (.int .i64 n1) w
noncomputable def bd : Code := bdy Tryz.f19
theorem fn : FnOk pr 19 8 Tryz.f19 := ⟨Tryz.func19, by kernel_rfl, Tryz.ntmps19, by kernel_rfl, by kernel_rfl⟩
def F : Clee := ofL [(36, C.slices_CompareFunc_Label_Label_Label_Label.cl)]
theorem FOk_ : FOk pr F := FOk_cons C.slices_CompareFunc_Label_Label_Label_Label.clok (FOk_nil)
def P1 (Kv : Value → World → Prop) : Post := bodyK false pr 8 Tryz.f19 Kv
end labels_Compare
def labels_Compare (a_2 : Sl) (b_3 : Sl) (w : World) (K : labels_Compare.KT) : Prop :=
  C.slices_CompareFunc_Label_Label_Label_Label a_2 b_3 (Value.func (.func 37) #[] #[]) w fun n4 w5 => K n4 w5
def labels_Compare.cl : CL := fun args K w => match args with
  | [.slice x0_a x0_n x0_c, .slice x1_a x1_n x1_c] => C.labels_Compare ⟨x0_a, x0_n, x0_c⟩ ⟨x1_a, x1_n, x1_c⟩ w (labels_Compare.Kt K)
  | _ => False
theorem labels_Compare.clok : OkC pr 19 labels_Compare.cl := by
  intro args K w h
  unfold labels_Compare.cl at h
  split at h
  · exact calls_last false mixed labels_Compare.FOk_ labels_Compare.fn rfl (Eq.mp (by kernel_rfl) h)
  · exact h.elim

/-! (*tocsin/alerts.Set).All$1$1 -/
namespace alerts_Set_All_1_1
abbrev KT := Int → World → Prop
def Kt (Kv : Value → World → Prop) : KT := fun n1 w => Kv (.int .i64 n1) w
noncomputable def bd : Code := bdy Tryz.f18
theorem fn : FnOk pr 18 10 Tryz.f18 := ⟨Tryz.func18, by kernel_rfl, Tryz.ntmps18, by kernel_rfl, by kernel_rfl⟩
def F : Clee := ofL [(19, C.labels_Compare.cl)]
theorem FOk_ : FOk pr F := FOk_cons C.labels_Compare.clok (FOk_nil)
def P1 (Kv : Value → World → Prop) : Post := bodyK false pr 10 Tryz.f18 Kv
end alerts_Set_All_1_1
def alerts_Set_All_1_1 (a_2 : Sl) (a_3 : Int) (a_4 : Int) (b_5 : Sl) (b_6 : Int) (b_7 : Int) (w : World) (K : alerts_Set_All_1_1.KT) : Prop :=
  G.new (.cells #[a_2.v, (.int .i64 a_3), (.int .i64 a_4)] 34) w fun p8 w9 => G.new (.cells #[b_5.v, (.int .i64 b_6), (.int .i64 b_7)] 34) w9 fun p10 w11 => G.cSl p8 w11 fun l12 => G.cSl p10 w11 fun l13 => C.labels_Compare l12 l13 w11 fun n14 w15 => K n14 w15
def alerts_Set_All_1_1.cl : CL := fun args K w => match args with
  | [.agg ⟨[.slice x0_0_a x0_0_n x0_0_c, .int .i64 x0_1, .int .i64 x0_2]⟩, .agg ⟨[.slice x1_0_a x1_0_n x1_0_c, .int .i64 x1_1, .int .i64 x1_2]⟩] => C.alerts_Set_All_1_1 ⟨x0_0_a, x0_0_n, x0_0_c⟩ x0_1 x0_2 ⟨x1_0_a, x1_0_n, x1_0_c⟩ x1_1 x1_2 w (alerts_Set_All_1_1.Kt K)
  | _ => False
theorem alerts_Set_All_1_1.clok : OkC pr 18 alerts_Set_All_1_1.cl := by
  intro args K w h
  unfold alerts_Set_All_1_1.cl at h
  split at h
  · exact calls_last false mixed alerts_Set_All_1_1.FOk_ alerts_Set_All_1_1.fn rfl (Eq.mp (by kernel_rfl) h)
  · exact h.elim

/-! slices.AppendSeq[[]tocsin/api.Alert,tocsin/api.Alert] -/
namespace slices_AppendSeq_Alert_Alert
abbrev KT := Sl → World → Prop
def Kt (Kv : Value → World → Prop) : KT := fun l1 w => Kv l1.v w
noncomputable def bd : Code := bdy Tryz.f47
theorem fn : FnOk pr 47 13 Tryz.f47 := ⟨Tryz.func47, by kernel_rfl, Tryz.ntmps47, by kernel_rfl, by kernel_rfl⟩
def F : Clee := ofL []
theorem FOk_ : FOk pr F := FOk_nil
def Fc : Clee := ofL [(18, C.alerts_Set_All_1_1.cl), (35, C.maps_Values_1_map_string_Alert_string_Alert.cl), (37, C.labels_Compare_1.cl), (75, C.maps_Keys_1_map_string_Alert_string_Alert.cl)]
theorem FcOk : FOkB pr Fc := FOkB_cons C.alerts_Set_All_1_1.clok (FOkB_cons C.maps_Values_1_map_string_Alert_string_Alert.clok (FOkB_cons C.labels_Compare_1.clok (FOkB_cons C.maps_Keys_1_map_string_Alert_string_Alert.clok (FOkB_nil))))
def P1 (Kv : Value → World → Prop) : Post := bodyK true pr 13 Tryz.f47 Kv
@[reducible] def g2 : List SE := [.v 2 .ptr, .v 13 .raw]
def S2 (K : KT) (s_4 : Option Addr) (v5 : Value) (w : World) : Prop :=
  G.ptr s_4 fun p6 => G.cSl p6 w fun l7 => G.marks v5 w fun w8 => K l7 w8
theorem S2_ok (Kv : Value → World → Prop) : OkT pr true none 13 g2 (S2 (Kt Kv)) (s2 (tl 1 bd)) (P1 Kv) := ok_last mixed FOk_ fun v ρ w => by kernel_rfl
def P3 (Kv : Value → World → Prop) : Post := next (get g2 (S2 (Kt Kv))) (P1 Kv)
def P4 (Kv : Value → World → Prop) : Post := inBlock 0 (P3 Kv)
@[reducible] def g5 : List SE := [.v 2 .ptr, .v 6 .raw, .v 13 .raw]
def P6 (Rr : Exit → World → Prop) : Post := RP Rr
@[reducible] def g7 : List SE := [.v 2 .ptr, .v 5 .ptr]
def S7 (Rr : Exit → World → Prop) (s_12 : Option Addr) (v_13 : Option Addr) (w : World) : Prop :=
  G.ptr s_12 fun p14 => G.cSl p14 w fun l15 => G.ptr v_13 fun p16 => G.cSl p16 w fun l17 => G.cI .i64 (p16.add 1) w fun n18 => G.cI .i64 (p16.add 2) w fun n19 => G.new (.cells #[l17.v, (.int .i64 n18), (.int .i64 n19)] 34) w fun p20 w21 => G.runSl pr (Builtin.append_ #[38, 38] 38 #[l15.v, (Sl.v (⟨some p20, 1, 1⟩ : Sl))]) w21 fun l22 w23 => G.ptr s_12 fun p24 => G.st p24 l22.v w23 fun w25 => Rr .normal w25
theorem S7_ok (Rr : Exit → World → Prop) {ro : Option Nat} : OkT pr false ro 13 g7 (S7 Rr) (rbd (blk (tl 1 (s1 (tl 1 bd))))) (P6 Rr) := ok_last mixed FOk_ fun v ρ w => by kernel_rfl
def B_R5 (s_9 : Option Addr) (v10 : Value) (v11 : Value) (args : List Value) (wb : World) (bz : (World → Prop) → World → Prop) (Rr : Exit → World → Prop) : Prop := match args with
  | [.agg ⟨[.slice y_26_a y_26_n y_26_c, .int .i64 y_27, .int .i64 y_28]⟩] => G.new (.cells #[nilS.v, (.int .i64 (0 : Int)), (.int .i64 (0 : Int))] 34) wb fun p29 w30 => G.st p29 (⟨y_26_a, y_26_n, y_26_c⟩ : Sl).v w30 fun w31 => G.st (p29.add 1) (.int .i64 y_27) w31 fun w32 => G.st (p29.add 2) (.int .i64 y_28) w32 fun w33 => bz (S7 Rr s_9 (some p29)) w33
  | _ => False
def O_R5 (K : KT) (s_9 : Option Addr) (v10 : Value) (v11 : Value) (e : Exit) (D : Nat) (w : World) : Prop := match e with
  | .normal => S2 K s_9 (pushMark v11 D) w
  | _ => False
def R5 (K : KT) (s_9 : Option Addr) (v10 : Value) (v11 : Value) (w : World) : Prop :=
  G.rangeW Fc v10 pr (B_R5 s_9 v10 v11) w (O_R5 K s_9 v10 v11)
theorem R5_ok (Kv : Value → World → Prop) : OkT pr true none 13 g5 (R5 (Kt Kv)) (blk (tl 1 (s1 (tl 1 bd)))) (P4 Kv) := by
  refine ok_rangeW mixed FOk_ FcOk (s := 6) (ps := #[7]) (Bt := fun v => B_R5 v.1 v.2.1 v.2.2.1) (kB := fun Rr => S7 Rr) (sgB := g7) (out := fun v => O_R5 (Kt Kv) v.1 v.2.1 v.2.2.1) (by kernel_rfl) (fun v ρ w => by kernel_rfl) ?_ (fun Rr l => S7_ok Rr) ?_
  · intro v ρ args w bz Rr h
    have h' : B_R5 v.1 v.2.1 v.2.2.1 args w bz Rr := h
    unfold B_R5 at h'
    split at h'
    · exact ⟨rfl, Eq.mp (by kernel_rfl) h'⟩
    · exact h'.elim
  · intro v ρ e D w h
    cases e with
    | normal => exact Eq.mp (by kernel_rfl) h
    | _ => exact h.elim
theorem B8 (Kv : Value → World → Prop) : OkT pr true none 13 g5 (R5 (Kt Kv)) (tl 1 (s1 (tl 1 bd))) (P3 Kv) := ok_block 0 (by kernel_rfl) (R5_ok Kv)
@[reducible] def g9 : List SE := [.v 1 .raw, .v 2 .ptr, .v 13 .raw]
def S9 (K : KT) (seq_34 : Value) (s_35 : Option Addr) (v36 : Value) (w : World) : Prop :=
  R5 K s_35 seq_34 v36 w
theorem S9_ok (Kv : Value → World → Prop) : OkT pr true none 13 g9 (S9 (Kt Kv)) (s1 (tl 1 bd)) (P3 Kv) := ok_group mixed FOk_ 1 (B8 Kv) fun v ρ w => by kernel_rfl
theorem Q10 (Kv : Value → World → Prop) : OkT pr true none 13 g9 (S9 (Kt Kv)) (tl 1 bd) (P1 Kv) := ok_seq (by kernel_rfl) (S2_ok Kv) (S9_ok Kv)
end slices_AppendSeq_Alert_Alert
def slices_AppendSeq_Alert_Alert (s_2 : Sl) (seq_3 : Value) (w : World) (K : slices_AppendSeq_Alert_Alert.KT) : Prop :=
  G.new (.cells #[s_2.v] 38) w fun p37 w38 => slices_AppendSeq_Alert_Alert.S9 K seq_3 (some p37) undef w38
def slices_AppendSeq_Alert_Alert.cl : CL := fun args K w => match args with
  | [.slice x0_a x0_n x0_c, x1] => C.slices_AppendSeq_Alert_Alert ⟨x0_a, x0_n, x0_c⟩ x1 w (slices_AppendSeq_Alert_Alert.Kt K)
  | _ => False
theorem slices_AppendSeq_Alert_Alert.clok : OkC pr 47 slices_AppendSeq_Alert_Alert.cl := by
  intro args K w h
  unfold slices_AppendSeq_Alert_Alert.cl at h
  split at h
  · exact calls_group true mixed slices_AppendSeq_Alert_Alert.FOk_ slices_AppendSeq_Alert_Alert.fn rfl 1 (slices_AppendSeq_Alert_Alert.Q10 K) (Eq.mp (by kernel_rfl) h)
  · exact h.elim

/-! slices.Collect[tocsin/api.Alert] -/
namespace slices_Collect_Alert
abbrev KT := Sl → World → Prop
def Kt (Kv : Value → World → Prop) : KT := fun l1 w => Kv l1.v w
noncomputable def bd : Code := bdy Tryz.f33
theorem fn : FnOk pr 33 5 Tryz.f33 := ⟨Tryz.func33, by kernel_rfl, Tryz.ntmps33, by kernel_rfl, by kernel_rfl⟩
def F : Clee := ofL [(47, C.slices_AppendSeq_Alert_Alert.cl)]
theorem FOk_ : FOk pr F := FOk_cons C.slices_AppendSeq_Alert_Alert.clok (FOk_nil)
def P1 (Kv : Value → World → Prop) : Post := bodyK false pr 5 Tryz.f33 Kv
end slices_Collect_Alert
def slices_Collect_Alert (seq_2 : Value) (w : World) (K : slices_Collect_Alert.KT) : Prop :=
  C.slices_AppendSeq_Alert_Alert nilS seq_2 w fun l3 w4 => K l3 w4
def slices_Collect_Alert.cl : CL := fun args K w => match args with
  | [x0] => C.slices_Collect_Alert x0 w (slices_Collect_Alert.Kt K)
  | _ => False
theorem slices_Collect_Alert.clok : OkC pr 33 slices_Collect_Alert.cl := by
  intro args K w h
  unfold slices_Collect_Alert.cl at h
  split at h
  · exact calls_last false mixed slices_Collect_Alert.FOk_ slices_Collect_Alert.fn rfl (Eq.mp (by kernel_rfl) h)
  · exact h.elim

/-! slices.SortFunc[[]tocsin/api.Alert,tocsin/api.Alert]: by the library's contract -/
abbrev slices_SortFunc_Alert_Alert.KT := World → Prop
def slices_SortFunc_Alert_Alert.Kt (Kv : Value → World → Prop) : slices_SortFunc_Alert_Alert.KT := fun w => Kv (.tuple #[]) w
def slices_SortFunc_Alert_Alert (x0 : Sl) (x1 : Value) (w : World) (K : slices_SortFunc_Alert_Alert.KT) : Prop := Srt.sortF x0 x1 w K
def slices_SortFunc_Alert_Alert.cl : CL := fun args K w => match args with
  | [.slice a n c, fv] => C.slices_SortFunc_Alert_Alert ⟨a, n, c⟩ fv w (slices_SortFunc_Alert_Alert.Kt K)
  | _ => False
theorem slices_SortFunc_Alert_Alert.clok : OkC pr 34 slices_SortFunc_Alert_Alert.cl := by
  intro args K w h
  unfold slices_SortFunc_Alert_Alert.cl at h
  split at h
  · exact Srt.sortF_ok h
  · exact h.elim

/-! slices.SortedFunc[tocsin/api.Alert] -/
namespace slices_SortedFunc_Alert
abbrev KT := Sl → World → Prop
def Kt (Kv : Value → World → Prop) : KT := fun l1 w => Kv l1.v w
noncomputable def bd : Code := bdy Tryz.f16
theorem fn : FnOk pr 16 12 Tryz.f16 := ⟨Tryz.func16, by kernel_rfl, Tryz.ntmps16, by kernel_rfl, by kernel_rfl⟩
def F : Clee := ofL [(33, C.slices_Collect_Alert.cl), (34, C.slices_SortFunc_Alert_Alert.cl)]
theorem FOk_ : FOk pr F := FOk_cons C.slices_Collect_Alert.clok (FOk_cons C.slices_SortFunc_Alert_Alert.clok (FOk_nil))
def P1 (Kv : Value → World → Prop) : Post := bodyK false pr 12 Tryz.f16 Kv
end slices_SortedFunc_Alert
def slices_SortedFunc_Alert (seq_2 : Value) (cmp_3 : Value) (w : World) (K : slices_SortedFunc_Alert.KT) : Prop :=
  C.slices_Collect_Alert seq_2 w fun l4 w5 => C.slices_SortFunc_Alert_Alert l4 cmp_3 w5 fun w6 => K l4 w6
def slices_SortedFunc_Alert.cl : CL := fun args K w => match args with
  | [x0, x1] => C.slices_SortedFunc_Alert x0 x1 w (slices_SortedFunc_Alert.Kt K)
  | _ => False
theorem slices_SortedFunc_Alert.clok : OkC pr 16 slices_SortedFunc_Alert.cl := by
  intro args K w h
  unfold slices_SortedFunc_Alert.cl at h
  split at h
  · exact calls_last false mixed slices_SortedFunc_Alert.FOk_ slices_SortedFunc_Alert.fn rfl (Eq.mp (by kernel_rfl) h)
  · exact h.elim

/-! maps.Values[map[string]tocsin/api.Alert,string,tocsin/api.Alert] -/
namespace maps_Values_map_string_Alert_string_Alert
abbrev KT := Value → World → Prop
def Kt (Kv : Value → World → Prop) : KT := fun v1 w => Kv v1 w
noncomputable def bd : Code := bdy Tryz.f17
theorem fn : FnOk pr 17 4 Tryz.f17 := ⟨Tryz.func17, by kernel_rfl, Tryz.ntmps17, by kernel_rfl, by kernel_rfl⟩
def F : Clee := ofL []
theorem FOk_ : FOk pr F := FOk_nil
def P1 (Kv : Value → World → Prop) : Post := bodyK false pr 4 Tryz.f17 Kv
end maps_Values_map_string_Alert_string_Alert
def maps_Values_map_string_Alert_string_Alert (m_2 : Option Nat) (w : World) (K : maps_Values_map_string_Alert_string_Alert.KT) : Prop :=
  G.new (.cells #[(.map m_2)] 44) w fun p3 w4 => K (Value.func (.func 35) #[] #[(.pointer (some p3))]) w4
def maps_Values_map_string_Alert_string_Alert.cl : CL := fun args K w => match args with
  | [.map x0] => C.maps_Values_map_string_Alert_string_Alert x0 w (maps_Values_map_string_Alert_string_Alert.Kt K)
  | _ => False
theorem maps_Values_map_string_Alert_string_Alert.clok : OkC pr 17 maps_Values_map_string_Alert_string_Alert.cl := by
  intro args K w h
  unfold maps_Values_map_string_Alert_string_Alert.cl at h
  split at h
  · exact calls_last false mixed maps_Values_map_string_Alert_string_Alert.FOk_ maps_Values_map_string_Alert_string_Alert.fn rfl (Eq.mp (by kernel_rfl) h)
  · exact h.elim

/-! slices.Clone[[]tocsin/api.Label,tocsin/api.Label] -/
namespace slices_Clone_Label_Label
abbrev KT := Sl → World → Prop
def Kt (Kv : Value → World → Prop) : KT := fun l1 w => Kv l1.v w
noncomputable def bd : Code := bdy Tryz.f32
theorem fn : FnOk pr 32 8 Tryz.f32 := ⟨Tryz.func32, by kernel_rfl, Tryz.ntmps32, by kernel_rfl, by kernel_rfl⟩
def F : Clee := ofL []
theorem FOk_ : FOk pr F := FOk_nil
def P1 (Kv : Value → World → Prop) : Post := bodyK false pr 8 Tryz.f32 Kv
end slices_Clone_Label_Label
def slices_Clone_Label_Label (s_2 : Sl) (w : World) (K : slices_Clone_Label_Label.KT) : Prop :=
  G.cond s_2.a.isNone (K nilS w) (G.new (.cells #[] 48) w fun p3 w4 => G.runSl pr (Builtin.append_ #[32, 32] 32 #[(Sl.v (⟨some p3, 0, 0⟩ : Sl)), s_2.v]) w4 fun l5 w6 => K l5 w6)
def slices_Clone_Label_Label.cl : CL := fun args K w => match args with
  | [.slice x0_a x0_n x0_c] => C.slices_Clone_Label_Label ⟨x0_a, x0_n, x0_c⟩ w (slices_Clone_Label_Label.Kt K)
  | _ => False
theorem slices_Clone_Label_Label.clok : OkC pr 32 slices_Clone_Label_Label.cl := by
  intro args K w h
  unfold slices_Clone_Label_Label.cl at h
  split at h
  · exact calls_last false mixed slices_Clone_Label_Label.FOk_ slices_Clone_Label_Label.fn rfl (Eq.mp (by kernel_rfl) h)
  · exact h.elim

/-! tocsin/alerts.copied -/
namespace alerts_copied
abbrev KT := Sl → Int → Int → World → Prop
def Kt (Kv : Value → World → Prop) : KT := fun l1 n2 n3 w => Kv (.agg #[l1.v, (.int .i64 n2), (.int .i64 n3)]) w
noncomputable def bd : Code := bdy Tryz.f20
theorem fn : FnOk pr 20 8 Tryz.f20 := ⟨Tryz.func20, by kernel_rfl, Tryz.ntmps20, by kernel_rfl, by kernel_rfl⟩
def F : Clee := ofL [(32, C.slices_Clone_Label_Label.cl)]
theorem FOk_ : FOk pr F := FOk_cons C.slices_Clone_Label_Label.clok (FOk_nil)
def P1 (Kv : Value → World → Prop) : Post := bodyK false pr 8 Tryz.f20 Kv
end alerts_copied
def alerts_copied (a_4 : Sl) (a_5 : Int) (a_6 : Int) (w : World) (K : alerts_copied.KT) : Prop :=
  G.new (.cells #[a_4.v, (.int .i64 a_5), (.int .i64 a_6)] 34) w fun p7 w8 => G.new (.cells #[nilS.v, (.int .i64 (0 : Int)), (.int .i64 (0 : Int))] 34) w8 fun p9 w10 => G.cSl p7 w10 fun l11 => C.slices_Clone_Label_Label l11 w10 fun l12 w13 => G.st p7 l12.v w13 fun w14 => G.cSl p7 w14 fun l15 => G.cI .i64 (p7.add 1) w14 fun n16 => G.cI .i64 (p7.add 2) w14 fun n17 => G.st p9 l15.v w14 fun w18 => G.st (p9.add 1) (.int .i64 n16) w18 fun w19 => G.st (p9.add 2) (.int .i64 n17) w19 fun w20 => G.cSl p9 w20 fun l21 => G.cI .i64 (p9.add 1) w20 fun n22 => G.cI .i64 (p9.add 2) w20 fun n23 => K l21 n22 n23 w20
def alerts_copied.cl : CL := fun args K w => match args with
  | [.agg ⟨[.slice x0_0_a x0_0_n x0_0_c, .int .i64 x0_1, .int .i64 x0_2]⟩] => C.alerts_copied ⟨x0_0_a, x0_0_n, x0_0_c⟩ x0_1 x0_2 w (alerts_copied.Kt K)
  | _ => False
theorem alerts_copied.clok : OkC pr 20 alerts_copied.cl := by
  intro args K w h
  unfold alerts_copied.cl at h
  split at h
  · exact calls_last false mixed alerts_copied.FOk_ alerts_copied.fn rfl (Eq.mp (by kernel_rfl) h)
  · exact h.elim

/-! (*tocsin/alerts.Set).All$1 -/
namespace alerts_Set_All_1
abbrev KT := World → Prop
def Kt (Kv : Value → World → Prop) : KT := fun  w => Kv (.tuple #[]) w
noncomputable def bd : Code := bdy Tryz.f15
theorem fn : FnOk pr 15 26 Tryz.f15 := ⟨Tryz.func15, by kernel_rfl, Tryz.ntmps15, by kernel_rfl, by kernel_rfl⟩
def F : Clee := ofL [(16, C.slices_SortedFunc_Alert.cl), (17, C.maps_Values_map_string_Alert_string_Alert.cl), (18, C.alerts_Set_All_1_1.cl), (20, C.alerts_copied.cl), (35, C.maps_Values_1_map_string_Alert_string_Alert.cl), (37, C.labels_Compare_1.cl), (75, C.maps_Keys_1_map_string_Alert_string_Alert.cl)]
theorem FOk_ : FOk pr F := FOk_cons C.slices_SortedFunc_Alert.clok (FOk_cons C.maps_Values_map_string_Alert_string_Alert.clok (FOk_cons C.alerts_Set_All_1_1.clok (FOk_cons C.alerts_copied.clok (FOk_cons C.maps_Values_1_map_string_Alert_string_Alert.clok (FOk_cons C.labels_Compare_1.clok (FOk_cons C.maps_Keys_1_map_string_Alert_string_Alert.clok (FOk_nil)))))))
def P1 (Kv : Value → World → Prop) : Post := bodyK false pr 26 Tryz.f15 Kv
def P2 (Kv : Value → World → Prop) : Post := inBlock 0 (P1 Kv)
@[reducible] def g3 : List SE := [.v 0 .raw, .v 14 .sl, .v 15 (.int .i64), .v 16 (.int .i64)]
def P4 (Kv : Value → World → Prop) (kc3 : Cur g3) : Post := next (get g3 kc3) (P2 Kv)
def S5 (K : KT) (kc3 : Cur g3) (yield_13 : Value) (l14 : Sl) (n15 : Int) (n16 : Int) (w : World) : Prop :=
  G.cond (decide (n16 < n15)) (G.ix l14.a l14.n n16 3 fun p17 => G.cSl p17 w fun l18 => G.cI .i64 (p17.add 1) w fun n19 => G.cI .i64 (p17.add 2) w fun n20 => G.new (.cells #[nilS.v, (.int .i64 (0 : Int)), (.int .i64 (0 : Int))] 34) w fun p21 w22 => G.st p21 l18.v w22 fun w23 => G.st (p21.add 1) (.int .i64 n19) w23 fun w24 => G.st (p21.add 2) (.int .i64 n20) w24 fun w25 => G.cSl p21 w25 fun l26 => G.cI .i64 (p21.add 1) w25 fun n27 => G.cI .i64 (p21.add 2) w25 fun n28 => C.alerts_copied l26 n27 n28 w25 fun l29 n30 n31 w32 => G.callV pr F yield_13 [(.agg #[l29.v, (.int .i64 n30), (.int .i64 n31)])] w32 fun v33 w34 => G.isB v33 fun b35 => G.cond (!b35) (K w34) (kc3 yield_13 l14 n15 (IntKind.i64.wrap (n16 + (1 : Int))) w34)) (K w)
theorem S5_ok (Kv : Value → World → Prop) (kc3 : Cur g3) : OkT pr false none 26 g3 (S5 (Kt Kv) kc3) (lp (blk (tl 3 bd))) (P4 Kv kc3) := ok_last mixed FOk_ fun v ρ w => by kernel_rfl
def L3 (K : KT) : Cur g3 := loopC g3 (S5 K)
theorem L3_ok (Kv : Value → World → Prop) : OkT pr false none 26 g3 (L3 (Kt Kv)) (blk (tl 3 bd)) (P2 Kv) := ok_loop (B := S5 (Kt Kv)) (by kernel_rfl) fun kc => S5_ok Kv kc
theorem L3_ind {K : KT} {yield_5 : Value} {l6 : Sl} {n7 : Int} {n8 : Int} {w : World} (h : ∀ X : Cur g3, (∀ yield_5 l6 n7 n8 w, S5 K X yield_5 l6 n7 n8 w → X yield_5 l6 n7 n8 w) → X yield_5 l6 n7 n8 w) : L3 K yield_5 l6 n7 n8 w := fun X hX => h X fun yield_5 l6 n7 n8 w hb => hX (yield_5, l6, n7, n8, ()) w hb
theorem B6 (Kv : Value → World → Prop) : OkT pr false none 26 g3 (L3 (Kt Kv)) (tl 3 bd) (P1 Kv) := ok_block 0 (by kernel_rfl) (L3_ok Kv)
end alerts_Set_All_1
def alerts_Set_All_1 (yield_1 : Value) (p_2 : Option Addr) (w : World) (K : alerts_Set_All_1.KT) : Prop :=
  G.ptr p_2 fun p36 => G.cP p36 w fun p37 => G.cond p37.isNone (K w) (G.ptr p_2 fun p38 => G.cP p38 w fun p39 => G.ptr p39 fun p40 => G.cM (p40.add 2) w fun m41 => C.maps_Values_map_string_Alert_string_Alert m41 w fun v42 w43 => C.slices_SortedFunc_Alert v42 (Value.func (.func 18) #[] #[]) w43 fun l44 w45 => alerts_Set_All_1.L3 K yield_1 l44 ((l44.n : Nat) : Int) (0 : Int) w45)
def alerts_Set_All_1.cl : CL := fun args K w => match args with
  | [x0, .pointer x1] => C.alerts_Set_All_1 x0 x1 w (alerts_Set_All_1.Kt K)
  | _ => False
theorem alerts_Set_All_1.clok : OkC pr 15 alerts_Set_All_1.cl := by
  intro args K w h
  unfold alerts_Set_All_1.cl at h
  split at h
  · exact calls_group false mixed alerts_Set_All_1.FOk_ alerts_Set_All_1.fn rfl 3 (alerts_Set_All_1.B6 K) (Eq.mp (by kernel_rfl) h)
  · exact h.elim

/-! tocsin/alerts.New -/
namespace alerts_New
abbrev KT := Option Addr → World → Prop
def Kt (Kv : Value → World → Prop) : KT := fun p1 w => Kv (.pointer p1) w
noncomputable def bd : Code := bdy Tryz.f4
theorem fn : FnOk pr 4 24 Tryz.f4 := ⟨Tryz.func4, by kernel_rfl, Tryz.ntmps4, by kernel_rfl, by kernel_rfl⟩
def F : Clee := ofL []
theorem FOk_ : FOk pr F := FOk_nil
def P1 (Kv : Value → World → Prop) : Post := bodyK false pr 24 Tryz.f4 Kv
end alerts_New
def alerts_New (resolve_2 : Int) (most_3 : Int) (w : World) (K : alerts_New.KT) : Prop :=
  G.cond (decide (resolve_2 < (1 : Int))) (K none w) (G.cond (decide (resolve_2 > (1099511627776 : Int))) (K none w) (G.cond (decide (most_3 < (1 : Int))) (K none w) (G.cond (decide (most_3 > (500 : Int))) (K none w) (G.runM pr (Instr.makeMap 44 none) w fun m4 w5 => G.new (.cells #[(.int .i64 resolve_2), (.int .i64 most_3), (.map m4)] 46) w5 fun p6 w7 => K (some p6) w7))))
def alerts_New.cl : CL := fun args K w => match args with
  | [.int .i64 x0, .int .i64 x1] => C.alerts_New x0 x1 w (alerts_New.Kt K)
  | _ => False
theorem alerts_New.clok : OkC pr 4 alerts_New.cl := by
  intro args K w h
  unfold alerts_New.cl at h
  split at h
  · exact calls_last false mixed alerts_New.FOk_ alerts_New.fn rfl (Eq.mp (by kernel_rfl) h)
  · exact h.elim

/-! tocsin/tocsinref21.New -/
namespace tocsinref21_New
abbrev KT := Option Addr → World → Prop
def Kt (Kv : Value → World → Prop) : KT := fun p1 w => Kv (.pointer p1) w
noncomputable def bd : Code := bdy Tryz.f5
theorem fn : FnOk pr 5 23 Tryz.f5 := ⟨Tryz.func5, by kernel_rfl, Tryz.ntmps5, by kernel_rfl, by kernel_rfl⟩
def F : Clee := ofL []
theorem FOk_ : FOk pr F := FOk_nil
def P1 (Kv : Value → World → Prop) : Post := bodyK false pr 23 Tryz.f5 Kv
end tocsinref21_New
def tocsinref21_New (resolve_2 : Int) (most_3 : Int) (w : World) (K : tocsinref21_New.KT) : Prop :=
  G.cond (decide (resolve_2 < (1 : Int))) (K none w) (G.cond (decide (resolve_2 > (1099511627776 : Int))) (K none w) (G.cond (decide (most_3 < (1 : Int))) (K none w) (G.cond (decide (most_3 > (500 : Int))) (K none w) (G.new (.cells #[(.int .i64 resolve_2), (.int .i64 most_3), nilS.v] 40) w fun p4 w5 => K (some p4) w5))))
def tocsinref21_New.cl : CL := fun args K w => match args with
  | [.int .i64 x0, .int .i64 x1] => C.tocsinref21_New x0 x1 w (tocsinref21_New.Kt K)
  | _ => False
theorem tocsinref21_New.clok : OkC pr 5 tocsinref21_New.cl := by
  intro args K w h
  unfold tocsinref21_New.cl at h
  split at h
  · exact calls_last false mixed tocsinref21_New.FOk_ tocsinref21_New.fn rfl (Eq.mp (by kernel_rfl) h)
  · exact h.elim

/-! tocsin/alerts.time -/
namespace alerts_time
abbrev KT := Bool → World → Prop
def Kt (Kv : Value → World → Prop) : KT := fun b1 w => Kv (.bool b1) w
noncomputable def bd : Code := bdy Tryz.f29
theorem fn : FnOk pr 29 9 Tryz.f29 := ⟨Tryz.func29, by kernel_rfl, Tryz.ntmps29, by kernel_rfl, by kernel_rfl⟩
def F : Clee := ofL []
theorem FOk_ : FOk pr F := FOk_nil
def P1 (Kv : Value → World → Prop) : Post := bodyK false pr 9 Tryz.f29 Kv
end alerts_time
def alerts_time (t_2 : Int) (w : World) (K : alerts_time.KT) : Prop :=
  G.cond (decide (t_2 ≥ (0 : Int))) (K (decide (t_2 ≤ (1125899906842624 : Int))) w) (K false w)
def alerts_time.cl : CL := fun args K w => match args with
  | [.int .i64 x0] => C.alerts_time x0 w (alerts_time.Kt K)
  | _ => False
theorem alerts_time.clok : OkC pr 29 alerts_time.cl := by
  intro args K w h
  unfold alerts_time.cl at h
  split at h
  · exact calls_last false mixed alerts_time.FOk_ alerts_time.fn rfl (Eq.mp (by kernel_rfl) h)
  · exact h.elim

/-! tocsin/labels.digit -/
namespace labels_digit
abbrev KT := Bool → World → Prop
def Kt (Kv : Value → World → Prop) : KT := fun b1 w => Kv (.bool b1) w
noncomputable def bd : Code := bdy Tryz.f76
theorem fn : FnOk pr 76 9 Tryz.f76 := ⟨Tryz.func76, by kernel_rfl, Tryz.ntmps76, by kernel_rfl, by kernel_rfl⟩
def F : Clee := ofL []
theorem FOk_ : FOk pr F := FOk_nil
def P1 (Kv : Value → World → Prop) : Post := bodyK false pr 9 Tryz.f76 Kv
end labels_digit
def labels_digit (c_2 : Int) (w : World) (K : labels_digit.KT) : Prop :=
  G.cond (decide (c_2 ≥ (48 : Int))) (K (decide (c_2 ≤ (57 : Int))) w) (K false w)
def labels_digit.cl : CL := fun args K w => match args with
  | [.int .u8 x0] => C.labels_digit x0 w (labels_digit.Kt K)
  | _ => False
theorem labels_digit.clok : OkC pr 76 labels_digit.cl := by
  intro args K w h
  unfold labels_digit.cl at h
  split at h
  · exact calls_last false mixed labels_digit.FOk_ labels_digit.fn rfl (Eq.mp (by kernel_rfl) h)
  · exact h.elim

/-! tocsin/labels.letter -/
namespace labels_letter
abbrev KT := Bool → World → Prop
def Kt (Kv : Value → World → Prop) : KT := fun b1 w => Kv (.bool b1) w
noncomputable def bd : Code := bdy Tryz.f77
theorem fn : FnOk pr 77 21 Tryz.f77 := ⟨Tryz.func77, by kernel_rfl, Tryz.ntmps77, by kernel_rfl, by kernel_rfl⟩
def F : Clee := ofL []
theorem FOk_ : FOk pr F := FOk_nil
def P1 (Kv : Value → World → Prop) : Post := bodyK false pr 21 Tryz.f77 Kv
end labels_letter
def labels_letter (c_2 : Int) (w : World) (K : labels_letter.KT) : Prop :=
  G.cond (decide (c_2 ≥ (97 : Int))) (G.cond (decide (c_2 ≤ (122 : Int))) (K true w) (G.cond (decide (c_2 ≥ (65 : Int))) (G.cond (decide (c_2 ≤ (90 : Int))) (K true w) (K (c_2 == (95 : Int)) w)) (K (c_2 == (95 : Int)) w))) (G.cond (decide (c_2 ≥ (65 : Int))) (G.cond (decide (c_2 ≤ (90 : Int))) (K true w) (K (c_2 == (95 : Int)) w)) (K (c_2 == (95 : Int)) w))
def labels_letter.cl : CL := fun args K w => match args with
  | [.int .u8 x0] => C.labels_letter x0 w (labels_letter.Kt K)
  | _ => False
theorem labels_letter.clok : OkC pr 77 labels_letter.cl := by
  intro args K w h
  unfold labels_letter.cl at h
  split at h
  · exact calls_last false mixed labels_letter.FOk_ labels_letter.fn rfl (Eq.mp (by kernel_rfl) h)
  · exact h.elim

/-! tocsin/labels.named -/
namespace labels_named
abbrev KT := Bool → World → Prop
def Kt (Kv : Value → World → Prop) : KT := fun b1 w => Kv (.bool b1) w
noncomputable def bd : Code := bdy Tryz.f55
theorem fn : FnOk pr 55 46 Tryz.f55 := ⟨Tryz.func55, by kernel_rfl, Tryz.ntmps55, by kernel_rfl, by kernel_rfl⟩
def F : Clee := ofL [(76, C.labels_digit.cl), (77, C.labels_letter.cl)]
theorem FOk_ : FOk pr F := FOk_cons C.labels_digit.clok (FOk_cons C.labels_letter.clok (FOk_nil))
def P1 (Kv : Value → World → Prop) : Post := bodyK false pr 46 Tryz.f55 Kv
@[reducible] def g2 : List SE := []
def S2 (K : KT) (w : World) : Prop :=
  K true w
theorem S2_ok (Kv : Value → World → Prop) : OkT pr false none 46 g2 (S2 (Kt Kv)) (s2 (tl 2 bd)) (P1 Kv) := ok_last mixed FOk_ fun v ρ w => by kernel_rfl
def P3 (Kv : Value → World → Prop) : Post := next (get g2 (S2 (Kt Kv))) (P1 Kv)
def P4 (Kv : Value → World → Prop) : Post := inBlock 0 (P3 Kv)
@[reducible] def g5 : List SE := [.v 2 .bool, .v 23 .sl, .v 24 (.int .i64), .v 25 (.int .i64)]
def P6 (Kv : Value → World → Prop) (kc5 : Cur g5) : Post := next (get g5 kc5) (P4 Kv)
def S7 (K : KT) (kc5 : Cur g5) (colon_13 : Bool) (l14 : Sl) (n15 : Int) (n16 : Int) (w : World) : Prop :=
  G.cond (decide (n16 < n15)) (G.ix l14.a l14.n n16 1 fun p17 => G.cI .u8 p17 w fun n18 => C.labels_letter n18 w fun b19 w20 => G.cond (!b19) (C.labels_digit n18 w20 fun b21 w22 => G.cond (!b21) (G.cond colon_13 (G.cond (!(n18 == (58 : Int))) (K false w22) (kc5 colon_13 l14 n15 (IntKind.i64.wrap (n16 + (1 : Int))) w22)) (K false w22)) (kc5 colon_13 l14 n15 (IntKind.i64.wrap (n16 + (1 : Int))) w22)) (kc5 colon_13 l14 n15 (IntKind.i64.wrap (n16 + (1 : Int))) w20)) (S2 K w)
theorem S7_ok (Kv : Value → World → Prop) (kc5 : Cur g5) : OkT pr false none 46 g5 (S7 (Kt Kv) kc5) (lp (blk (tl 1 (s1 (tl 2 bd))))) (P6 Kv kc5) := ok_last mixed FOk_ fun v ρ w => by kernel_rfl
def L5 (K : KT) : Cur g5 := loopC g5 (S7 K)
theorem L5_ok (Kv : Value → World → Prop) : OkT pr false none 46 g5 (L5 (Kt Kv)) (blk (tl 1 (s1 (tl 2 bd)))) (P4 Kv) := ok_loop (B := S7 (Kt Kv)) (by kernel_rfl) fun kc => S7_ok Kv kc
theorem L5_ind {K : KT} {colon_5 : Bool} {l6 : Sl} {n7 : Int} {n8 : Int} {w : World} (h : ∀ X : Cur g5, (∀ colon_5 l6 n7 n8 w, S7 K X colon_5 l6 n7 n8 w → X colon_5 l6 n7 n8 w) → X colon_5 l6 n7 n8 w) : L5 K colon_5 l6 n7 n8 w := fun X hX => h X fun colon_5 l6 n7 n8 w hb => hX (colon_5, l6, n7, n8, ()) w hb
theorem B8 (Kv : Value → World → Prop) : OkT pr false none 46 g5 (L5 (Kt Kv)) (tl 1 (s1 (tl 2 bd))) (P3 Kv) := ok_block 0 (by kernel_rfl) (L5_ok Kv)
@[reducible] def g9 : List SE := [.v 0 .str, .v 2 .bool]
def S9 (K : KT) (s_23 : ByteArray) (colon_24 : Bool) (w : World) : Prop :=
  G.runSl pr (Go.convert 9 81 (.string s_23)) w fun l25 w26 => L5 K colon_24 l25 ((l25.n : Nat) : Int) (0 : Int) w26
theorem S9_ok (Kv : Value → World → Prop) : OkT pr false none 46 g9 (S9 (Kt Kv)) (s1 (tl 2 bd)) (P3 Kv) := ok_group mixed FOk_ 1 (B8 Kv) fun v ρ w => by kernel_rfl
theorem Q10 (Kv : Value → World → Prop) : OkT pr false none 46 g9 (S9 (Kt Kv)) (tl 2 bd) (P1 Kv) := ok_seq (by kernel_rfl) (S2_ok Kv) (S9_ok Kv)
end labels_named
def labels_named (s_2 : ByteArray) (most_3 : Int) (colon_4 : Bool) (w : World) (K : labels_named.KT) : Prop :=
  G.cond (s_2.toList == (⟨#[]⟩ : ByteArray).toList) (K false w) (G.cond (decide (((s_2.size : Nat) : Int) > most_3)) (K false w) (G.ixS s_2 (0 : Int) fun n27 => C.labels_digit n27 w fun b28 w29 => G.cond b28 (K false w29) (labels_named.S9 K s_2 colon_4 w29)))
def labels_named.cl : CL := fun args K w => match args with
  | [.string x0, .int .i64 x1, .bool x2] => C.labels_named x0 x1 x2 w (labels_named.Kt K)
  | _ => False
theorem labels_named.clok : OkC pr 55 labels_named.cl := by
  intro args K w h
  unfold labels_named.cl at h
  split at h
  · exact calls_group false mixed labels_named.FOk_ labels_named.fn rfl 2 (labels_named.Q10 K) (Eq.mp (by kernel_rfl) h)
  · exact h.elim

/-! tocsin/labels.Name -/
namespace labels_Name
abbrev KT := Bool → World → Prop
def Kt (Kv : Value → World → Prop) : KT := fun b1 w => Kv (.bool b1) w
noncomputable def bd : Code := bdy Tryz.f44
theorem fn : FnOk pr 44 5 Tryz.f44 := ⟨Tryz.func44, by kernel_rfl, Tryz.ntmps44, by kernel_rfl, by kernel_rfl⟩
def F : Clee := ofL [(55, C.labels_named.cl)]
theorem FOk_ : FOk pr F := FOk_cons C.labels_named.clok (FOk_nil)
def P1 (Kv : Value → World → Prop) : Post := bodyK false pr 5 Tryz.f44 Kv
end labels_Name
def labels_Name (s_2 : ByteArray) (w : World) (K : labels_Name.KT) : Prop :=
  C.labels_named s_2 (64 : Int) false w fun b3 w4 => K b3 w4
def labels_Name.cl : CL := fun args K w => match args with
  | [.string x0] => C.labels_Name x0 w (labels_Name.Kt K)
  | _ => False
theorem labels_Name.clok : OkC pr 44 labels_Name.cl := by
  intro args K w h
  unfold labels_Name.cl at h
  split at h
  · exact calls_last false mixed labels_Name.FOk_ labels_Name.fn rfl (Eq.mp (by kernel_rfl) h)
  · exact h.elim

/-! unicode/utf8.word[string] -/
namespace utf8_word_string
abbrev KT := Int → World → Prop
def Kt (Kv : Value → World → Prop) : KT := fun n1 w => Kv (.int .u64 n1) w
noncomputable def bd : Code := bdy Tryz.f78
theorem fn : FnOk pr 78 59 Tryz.f78 := ⟨Tryz.func78, by kernel_rfl, Tryz.ntmps78, by kernel_rfl, by kernel_rfl⟩
def F : Clee := ofL []
theorem FOk_ : FOk pr F := FOk_nil
def P1 (Kv : Value → World → Prop) : Post := bodyK false pr 59 Tryz.f78 Kv
end utf8_word_string
def utf8_word_string (s_2 : ByteArray) (w : World) (K : utf8_word_string.KT) : Prop :=
  G.ixS s_2 (0 : Int) fun n4 => G.ixS s_2 (1 : Int) fun n5 => G.nn (8 : Int) <| G.ixS s_2 (2 : Int) fun n6 => G.nn (16 : Int) <| G.ixS s_2 (3 : Int) fun n7 => G.nn (24 : Int) <| G.ixS s_2 (4 : Int) fun n8 => G.nn (32 : Int) <| G.ixS s_2 (5 : Int) fun n9 => G.nn (40 : Int) <| G.ixS s_2 (6 : Int) fun n10 => G.nn (48 : Int) <| G.ixS s_2 (7 : Int) fun n11 => G.nn (56 : Int) <| K (Go.bits .or .u64 (Go.bits .or .u64 (Go.bits .or .u64 (Go.bits .or .u64 (Go.bits .or .u64 (Go.bits .or .u64 (Go.bits .or .u64 (IntKind.u64.wrap n4) (shl .u64 (IntKind.u64.wrap n5) (8 : Int))) (shl .u64 (IntKind.u64.wrap n6) (16 : Int))) (shl .u64 (IntKind.u64.wrap n7) (24 : Int))) (shl .u64 (IntKind.u64.wrap n8) (32 : Int))) (shl .u64 (IntKind.u64.wrap n9) (40 : Int))) (shl .u64 (IntKind.u64.wrap n10) (48 : Int))) (shl .u64 (IntKind.u64.wrap n11) (56 : Int))) w.drew
def utf8_word_string.cl : CL := fun args K w => match args with
  | [.string x0] => C.utf8_word_string x0 w (utf8_word_string.Kt K)
  | _ => False
theorem utf8_word_string.clok : OkC pr 78 utf8_word_string.cl := by
  intro args K w h
  unfold utf8_word_string.cl at h
  split at h
  · exact calls_last false mixed utf8_word_string.FOk_ utf8_word_string.fn rfl (Eq.mp (by kernel_rfl) h)
  · exact h.elim

/-! unicode/utf8.ValidString -/
namespace utf8_ValidString
abbrev KT := Bool → World → Prop
def Kt (Kv : Value → World → Prop) : KT := fun b1 w => Kv (.bool b1) w
noncomputable def bd : Code := bdy Tryz.f56
theorem fn : FnOk pr 56 169 Tryz.f56 := ⟨Tryz.func56, by kernel_rfl, Tryz.ntmps56, by kernel_rfl, by kernel_rfl⟩
def F : Clee := ofL [(78, C.utf8_word_string.cl)]
theorem FOk_ : FOk pr F := FOk_cons C.utf8_word_string.clok (FOk_nil)
def P1 (Kv : Value → World → Prop) : Post := bodyK false pr 169 Tryz.f56 Kv
@[reducible] def g2 : List SE := []
def S2 (K : KT) (w : World) : Prop :=
  K true w
theorem S2_ok (Kv : Value → World → Prop) : OkT pr false none 169 g2 (S2 (Kt Kv)) (s2 (tl 1 bd)) (P1 Kv) := ok_last mixed FOk_ fun v ρ w => by kernel_rfl
def P3 (Kv : Value → World → Prop) : Post := next (get g2 (S2 (Kt Kv))) (P1 Kv)
def P4 (Kv : Value → World → Prop) : Post := inBlock 0 (P3 Kv)
@[reducible] def g5 : List SE := [.v 0 .str]
def P6 (Kv : Value → World → Prop) (kc5 : Cur g5) : Post := next (get g5 kc5) (P4 Kv)
def P7 (Kv : Value → World → Prop) (kc5 : Cur g5) : Post := inBlock 1 (P6 Kv kc5)
@[reducible] def g8 : List SE := [.v 0 .str, .v 3 (.int .u8)]
def S8 (K : KT) (kc5 : Cur g5) (s_4 : ByteArray) (s0_5 : Int) (w : World) : Prop :=
  G.ix (some ⟨1, 0, none⟩) 256 s0_5 1 fun p6 => G.cI .u8 p6 w fun n7 => G.nn (4 : Int) <| G.ix (some ⟨2, 0, none⟩) 16 (shr .u8 n7 (4 : Int)) 2 fun p8 => G.cI .u8 p8 w fun n9 => G.cI .u8 (p8.add 1) w fun n10 => G.new (.cells #[(.int .u8 (0 : Int)), (.int .u8 (0 : Int))] 113) w fun p11 w12 => G.st p11 (.int .u8 n9) w12 fun w13 => G.st (p11.add 1) (.int .u8 n10) w13 fun w14 => G.cond ((IntKind.i64.wrap (Go.bits .and .u8 n7 (7 : Int))) == (2 : Int)) (G.cond (decide (((s_4.size : Nat) : Int) < (2 : Int))) (K false w14.drew) (G.ixS s_4 (1 : Int) fun n15 => G.cI .u8 p11 w14.drew fun n16 => G.cond (decide (n15 < n16)) (K false w14.drew) (G.cI .u8 (p11.add 1) w14.drew fun n17 => G.ixS s_4 (1 : Int) fun n18 => G.cond (decide (n17 < n18)) (K false w14.drew) (G.slcS s_4 (2 : Int) ((s_4.size : Nat) : Int) fun s19 => kc5 s19 w14.drew)))) (G.cond ((IntKind.i64.wrap (Go.bits .and .u8 n7 (7 : Int))) == (3 : Int)) (G.cond (decide (((s_4.size : Nat) : Int) < (3 : Int))) (K false w14.drew) (G.ixS s_4 (1 : Int) fun n20 => G.cI .u8 p11 w14.drew fun n21 => G.cond (decide (n20 < n21)) (K false w14.drew) (G.cI .u8 (p11.add 1) w14.drew fun n22 => G.ixS s_4 (1 : Int) fun n23 => G.cond (decide (n22 < n23)) (K false w14.drew) (G.ixS s_4 (2 : Int) fun n24 => G.cond (decide (n24 < (128 : Int))) (K false w14.drew) (G.ixS s_4 (2 : Int) fun n25 => G.cond (decide ((191 : Int) < n25)) (K false w14.drew) (G.slcS s_4 (3 : Int) ((s_4.size : Nat) : Int) fun s26 => kc5 s26 w14.drew)))))) (G.cond ((IntKind.i64.wrap (Go.bits .and .u8 n7 (7 : Int))) == (4 : Int)) (G.cond (decide (((s_4.size : Nat) : Int) < (4 : Int))) (K false w14.drew) (G.ixS s_4 (1 : Int) fun n27 => G.cI .u8 p11 w14.drew fun n28 => G.cond (decide (n27 < n28)) (K false w14.drew) (G.cI .u8 (p11.add 1) w14.drew fun n29 => G.ixS s_4 (1 : Int) fun n30 => G.cond (decide (n29 < n30)) (K false w14.drew) (G.ixS s_4 (2 : Int) fun n31 => G.cond (decide (n31 < (128 : Int))) (K false w14.drew) (G.ixS s_4 (2 : Int) fun n32 => G.cond (decide ((191 : Int) < n32)) (K false w14.drew) (G.ixS s_4 (3 : Int) fun n33 => G.cond (decide (n33 < (128 : Int))) (K false w14.drew) (G.ixS s_4 (3 : Int) fun n34 => G.cond (decide ((191 : Int) < n34)) (K false w14.drew) (G.slcS s_4 (4 : Int) ((s_4.size : Nat) : Int) fun s35 => kc5 s35 w14.drew)))))))) (K false w14)))
theorem S8_ok (Kv : Value → World → Prop) (kc5 : Cur g5) : OkT pr false none 169 g8 (S8 (Kt Kv) kc5) (s2 (tl 1 (blk (tl 1 (lp (blk (s1 (tl 1 bd)))))))) (P7 Kv kc5) := ok_last mixed FOk_ fun v ρ w => by kernel_rfl
def P9 (Kv : Value → World → Prop) (kc5 : Cur g5) : Post := next (get g8 (S8 (Kt Kv) kc5)) (P7 Kv kc5)
def S10 (K : KT) (kc5 : Cur g5) (s_36 : ByteArray) (w : World) : Prop :=
  kc5 s_36 w
theorem S10_ok (Kv : Value → World → Prop) (kc5 : Cur g5) : OkT pr false none 169 g5 (S10 (Kt Kv) kc5) (s2 (tl 1 (c1 (tl 1 (s1 (tl 1 (blk (tl 1 (lp (blk (s1 (tl 1 bd)))))))))))) (P9 Kv kc5) := ok_last mixed FOk_ fun v ρ w => by kernel_rfl
def P11 (Kv : Value → World → Prop) (kc5 : Cur g5) : Post := next (get g5 (S10 (Kt Kv) kc5)) (P9 Kv kc5)
def P12 (Kv : Value → World → Prop) (kc5 : Cur g5) : Post := inBlock 2 (P11 Kv kc5)
def P14 (Kv : Value → World → Prop) (kc5 : Cur g5) (kc13 : Cur g5) : Post := next (get g5 kc13) (P12 Kv kc5)
def S15 (K : KT) (kc5 : Cur g5) (kc13 : Cur g5) (s_38 : ByteArray) (w : World) : Prop :=
  G.cond (decide (((s_38.size : Nat) : Int) > (32 : Int))) (G.slcS s_38 (8 : Int) ((s_38.size : Nat) : Int) fun s39 => G.slcS s_38 (16 : Int) ((s_38.size : Nat) : Int) fun s40 => G.slcS s_38 (24 : Int) ((s_38.size : Nat) : Int) fun s41 => C.utf8_word_string s_38 w.drew fun n42 w43 => C.utf8_word_string s39 w43 fun n44 w45 => C.utf8_word_string s40 w45 fun n46 w47 => C.utf8_word_string s41 w47 fun n48 w49 => G.cond ((Go.bits .and .u64 (Go.bits .or .u64 (Go.bits .or .u64 n42 n44) (Go.bits .or .u64 n46 n48)) (9259542123273814144 : Int)) == (0 : Int)) (G.slcS s_38 (32 : Int) ((s_38.size : Nat) : Int) fun s50 => kc13 s50 w49) (S10 K kc5 s_38 w49)) (S10 K kc5 s_38 w.drew)
theorem S15_ok (Kv : Value → World → Prop) (kc5 : Cur g5) (kc13 : Cur g5) : OkT pr false none 169 g5 (S15 (Kt Kv) kc5 kc13) (lp (blk (tl 1 (c1 (tl 2 (c1 (tl 1 (s1 (tl 1 (c1 (tl 1 (s1 (tl 1 (blk (tl 1 (lp (blk (s1 (tl 1 bd))))))))))))))))))) (P14 Kv kc5 kc13) := ok_last mixed FOk_ fun v ρ w => by kernel_rfl
def L13 (K : KT) (kc5 : Cur g5) : Cur g5 := loopC g5 (S15 K kc5)
theorem L13_ok (Kv : Value → World → Prop) (kc5 : Cur g5) : OkT pr false none 169 g5 (L13 (Kt Kv) kc5) (blk (tl 1 (c1 (tl 2 (c1 (tl 1 (s1 (tl 1 (c1 (tl 1 (s1 (tl 1 (blk (tl 1 (lp (blk (s1 (tl 1 bd)))))))))))))))))) (P12 Kv kc5) := ok_loop (B := S15 (Kt Kv) kc5) (by kernel_rfl) fun kc => S15_ok Kv kc5 kc
theorem L13_ind {K : KT} {kc5 : Cur g5} {s_37 : ByteArray} {w : World} (h : ∀ X : Cur g5, (∀ s_37 w, S15 K kc5 X s_37 w → X s_37 w) → X s_37 w) : L13 K kc5 s_37 w := fun X hX => h X fun s_37 w hb => hX (s_37, ()) w hb
theorem B16 (Kv : Value → World → Prop) (kc5 : Cur g5) : OkT pr false none 169 g5 (L13 (Kt Kv) kc5) (tl 1 (c1 (tl 2 (c1 (tl 1 (s1 (tl 1 (c1 (tl 1 (s1 (tl 1 (blk (tl 1 (lp (blk (s1 (tl 1 bd))))))))))))))))) (P11 Kv kc5) := ok_block 2 (by kernel_rfl) (L13_ok Kv kc5)
@[reducible] def g17 : List SE := [.v 0 .str, .v 39 .bool]
def S17 (K : KT) (kc5 : Cur g5) (s_51 : ByteArray) (b52 : Bool) (w : World) : Prop :=
  G.slcS s_51 (16 : Int) ((s_51.size : Nat) : Int) fun s53 => L13 K kc5 s53 w
theorem S17_ok (Kv : Value → World → Prop) (kc5 : Cur g5) : OkT pr false none 169 g17 (S17 (Kt Kv) kc5) (c1 (tl 2 (c1 (tl 1 (s1 (tl 1 (c1 (tl 1 (s1 (tl 1 (blk (tl 1 (lp (blk (s1 (tl 1 bd)))))))))))))))) (P11 Kv kc5) := ok_group mixed FOk_ 1 (B16 Kv kc5) fun v ρ w => by kernel_rfl
def S18 (K : KT) (kc5 : Cur g5) (s_54 : ByteArray) (b55 : Bool) (w : World) : Prop :=
  S10 K kc5 s_54 w
theorem S18_ok (Kv : Value → World → Prop) (kc5 : Cur g5) : OkT pr false none 169 g17 (S18 (Kt Kv) kc5) (c2 (tl 2 (c1 (tl 1 (s1 (tl 1 (c1 (tl 1 (s1 (tl 1 (blk (tl 1 (lp (blk (s1 (tl 1 bd)))))))))))))))) (P11 Kv kc5) := ok_last mixed FOk_ fun v ρ w => by kernel_rfl
def D19 (K : KT) (kc5 : Cur g5) (s_56 : ByteArray) (b57 : Bool) (w : World) : Prop :=
  G.cond b57 (S17 K kc5 s_56 b57 w) (S18 K kc5 s_56 b57 w)
theorem D19_ok (Kv : Value → World → Prop) (kc5 : Cur g5) : OkT pr false none 169 g17 (D19 (Kt Kv) kc5) (tl 2 (c1 (tl 1 (s1 (tl 1 (c1 (tl 1 (s1 (tl 1 (blk (tl 1 (lp (blk (s1 (tl 1 bd))))))))))))))) (P11 Kv kc5) :=
  ok_cond 39 (fun v => v.2.1) (by kernel_rfl) (fun v ρ => by kernel_rfl) (fun v w => by kernel_rfl) (S17_ok Kv kc5) (S18_ok Kv kc5)
@[reducible] def g20 : List SE := [.v 0 .str, .v 24 .bool]
def S20 (K : KT) (kc5 : Cur g5) (s_58 : ByteArray) (b59 : Bool) (w : World) : Prop :=
  G.slcS s_58 (8 : Int) ((s_58.size : Nat) : Int) fun s60 => G.cond (decide (((s60.size : Nat) : Int) > (16 : Int))) (G.slcS s60 (8 : Int) ((s60.size : Nat) : Int) fun s61 => C.utf8_word_string s60 w.drew fun n62 w63 => C.utf8_word_string s61 w63 fun n64 w65 => D19 K kc5 s60 ((Go.bits .and .u64 (Go.bits .or .u64 n62 n64) (9259542123273814144 : Int)) == (0 : Int)) w65) (D19 K kc5 s60 false w.drew)
theorem S20_ok (Kv : Value → World → Prop) (kc5 : Cur g5) : OkT pr false none 169 g20 (S20 (Kt Kv) kc5) (c1 (tl 1 (s1 (tl 1 (c1 (tl 1 (s1 (tl 1 (blk (tl 1 (lp (blk (s1 (tl 1 bd)))))))))))))) (P11 Kv kc5) := ok_group mixed FOk_ 2 (D19_ok Kv kc5) fun v ρ w => by kernel_rfl
def S21 (K : KT) (kc5 : Cur g5) (s_66 : ByteArray) (b67 : Bool) (w : World) : Prop :=
  S10 K kc5 s_66 w
theorem S21_ok (Kv : Value → World → Prop) (kc5 : Cur g5) : OkT pr false none 169 g20 (S21 (Kt Kv) kc5) (c2 (tl 1 (s1 (tl 1 (c1 (tl 1 (s1 (tl 1 (blk (tl 1 (lp (blk (s1 (tl 1 bd)))))))))))))) (P11 Kv kc5) := ok_last mixed FOk_ fun v ρ w => by kernel_rfl
def D22 (K : KT) (kc5 : Cur g5) (s_68 : ByteArray) (b69 : Bool) (w : World) : Prop :=
  G.cond b69 (S20 K kc5 s_68 b69 w) (S21 K kc5 s_68 b69 w)
theorem D22_ok (Kv : Value → World → Prop) (kc5 : Cur g5) : OkT pr false none 169 g20 (D22 (Kt Kv) kc5) (tl 1 (s1 (tl 1 (c1 (tl 1 (s1 (tl 1 (blk (tl 1 (lp (blk (s1 (tl 1 bd))))))))))))) (P11 Kv kc5) :=
  ok_cond 24 (fun v => v.2.1) (by kernel_rfl) (fun v ρ => by kernel_rfl) (fun v w => by kernel_rfl) (S20_ok Kv kc5) (S21_ok Kv kc5)
def S23 (K : KT) (kc5 : Cur g5) (s_70 : ByteArray) (w : World) : Prop :=
  G.cond (decide (((s_70.size : Nat) : Int) > (8 : Int))) (C.utf8_word_string s_70 w fun n71 w72 => D22 K kc5 s_70 ((Go.bits .and .u64 n71 (9259542123273814144 : Int)) == (0 : Int)) w72) (D22 K kc5 s_70 false w)
theorem S23_ok (Kv : Value → World → Prop) (kc5 : Cur g5) : OkT pr false none 169 g5 (S23 (Kt Kv) kc5) (s1 (tl 1 (c1 (tl 1 (s1 (tl 1 (blk (tl 1 (lp (blk (s1 (tl 1 bd)))))))))))) (P11 Kv kc5) := ok_group mixed FOk_ 1 (D22_ok Kv kc5) fun v ρ w => by kernel_rfl
theorem Q24 (Kv : Value → World → Prop) (kc5 : Cur g5) : OkT pr false none 169 g5 (S23 (Kt Kv) kc5) (tl 1 (c1 (tl 1 (s1 (tl 1 (blk (tl 1 (lp (blk (s1 (tl 1 bd))))))))))) (P9 Kv kc5) := ok_seq (by kernel_rfl) (S10_ok Kv kc5) (S23_ok Kv kc5)
@[reducible] def g25 : List SE := [.v 0 .str, .v 3 (.int .u8), .v 13 .bool]
def S25 (K : KT) (kc5 : Cur g5) (s_73 : ByteArray) (s0_74 : Int) (b75 : Bool) (w : World) : Prop :=
  G.slcS s_73 (1 : Int) ((s_73.size : Nat) : Int) fun s76 => S23 K kc5 s76 w
theorem S25_ok (Kv : Value → World → Prop) (kc5 : Cur g5) : OkT pr false none 169 g25 (S25 (Kt Kv) kc5) (c1 (tl 1 (s1 (tl 1 (blk (tl 1 (lp (blk (s1 (tl 1 bd)))))))))) (P9 Kv kc5) := ok_group mixed FOk_ 1 (Q24 Kv kc5) fun v ρ w => by kernel_rfl
def S26 (K : KT) (kc5 : Cur g5) (s_77 : ByteArray) (s0_78 : Int) (b79 : Bool) (w : World) : Prop :=
  S8 K kc5 s_77 s0_78 w
theorem S26_ok (Kv : Value → World → Prop) (kc5 : Cur g5) : OkT pr false none 169 g25 (S26 (Kt Kv) kc5) (c2 (tl 1 (s1 (tl 1 (blk (tl 1 (lp (blk (s1 (tl 1 bd)))))))))) (P9 Kv kc5) := ok_last mixed FOk_ fun v ρ w => by kernel_rfl
def D27 (K : KT) (kc5 : Cur g5) (s_80 : ByteArray) (s0_81 : Int) (b82 : Bool) (w : World) : Prop :=
  G.cond b82 (S25 K kc5 s_80 s0_81 b82 w) (S26 K kc5 s_80 s0_81 b82 w)
theorem D27_ok (Kv : Value → World → Prop) (kc5 : Cur g5) : OkT pr false none 169 g25 (D27 (Kt Kv) kc5) (tl 1 (s1 (tl 1 (blk (tl 1 (lp (blk (s1 (tl 1 bd))))))))) (P9 Kv kc5) :=
  ok_cond 13 (fun v => v.2.2.1) (by kernel_rfl) (fun v ρ => by kernel_rfl) (fun v w => by kernel_rfl) (S25_ok Kv kc5) (S26_ok Kv kc5)
def S28 (K : KT) (kc5 : Cur g5) (s_83 : ByteArray) (s0_84 : Int) (w : World) : Prop :=
  D27 K kc5 s_83 s0_84 (decide (s0_84 < (128 : Int))) w
theorem S28_ok (Kv : Value → World → Prop) (kc5 : Cur g5) : OkT pr false none 169 g8 (S28 (Kt Kv) kc5) (s1 (tl 1 (blk (tl 1 (lp (blk (s1 (tl 1 bd)))))))) (P9 Kv kc5) := ok_group mixed FOk_ 1 (D27_ok Kv kc5) fun v ρ w => by kernel_rfl
theorem Q29 (Kv : Value → World → Prop) (kc5 : Cur g5) : OkT pr false none 169 g8 (S28 (Kt Kv) kc5) (tl 1 (blk (tl 1 (lp (blk (s1 (tl 1 bd))))))) (P7 Kv kc5) := ok_seq (by kernel_rfl) (S8_ok Kv kc5) (S28_ok Kv kc5)
def S30 (K : KT) (kc5 : Cur g5) (s_85 : ByteArray) (w : World) : Prop :=
  G.ixS s_85 (0 : Int) fun n86 => S28 K kc5 s_85 n86 w
theorem S30_ok (Kv : Value → World → Prop) (kc5 : Cur g5) : OkT pr false none 169 g5 (S30 (Kt Kv) kc5) (blk (tl 1 (lp (blk (s1 (tl 1 bd)))))) (P7 Kv kc5) := ok_group mixed FOk_ 1 (Q29 Kv kc5) fun v ρ w => by kernel_rfl
theorem B31 (Kv : Value → World → Prop) (kc5 : Cur g5) : OkT pr false none 169 g5 (S30 (Kt Kv) kc5) (tl 1 (lp (blk (s1 (tl 1 bd))))) (P6 Kv kc5) := ok_block 1 (by kernel_rfl) (S30_ok Kv kc5)
def S32 (K : KT) (kc5 : Cur g5) (s_87 : ByteArray) (w : World) : Prop :=
  G.cond (decide (((s_87.size : Nat) : Int) > (0 : Int))) (S30 K kc5 s_87 w) (S2 K w)
theorem S32_ok (Kv : Value → World → Prop) (kc5 : Cur g5) : OkT pr false none 169 g5 (S32 (Kt Kv) kc5) (lp (blk (s1 (tl 1 bd)))) (P6 Kv kc5) := ok_group mixed FOk_ 1 (B31 Kv kc5) fun v ρ w => by kernel_rfl
def L5 (K : KT) : Cur g5 := loopC g5 (S32 K)
theorem L5_ok (Kv : Value → World → Prop) : OkT pr false none 169 g5 (L5 (Kt Kv)) (blk (s1 (tl 1 bd))) (P4 Kv) := ok_loop (B := S32 (Kt Kv)) (by kernel_rfl) fun kc => S32_ok Kv kc
theorem L5_ind {K : KT} {s_3 : ByteArray} {w : World} (h : ∀ X : Cur g5, (∀ s_3 w, S32 K X s_3 w → X s_3 w) → X s_3 w) : L5 K s_3 w := fun X hX => h X fun s_3 w hb => hX (s_3, ()) w hb
theorem B33 (Kv : Value → World → Prop) : OkT pr false none 169 g5 (L5 (Kt Kv)) (s1 (tl 1 bd)) (P3 Kv) := ok_block 0 (by kernel_rfl) (L5_ok Kv)
theorem Q34 (Kv : Value → World → Prop) : OkT pr false none 169 g5 (L5 (Kt Kv)) (tl 1 bd) (P1 Kv) := ok_seq (by kernel_rfl) (S2_ok Kv) (B33 Kv)
end utf8_ValidString
def utf8_ValidString (s_2 : ByteArray) (w : World) (K : utf8_ValidString.KT) : Prop :=
  utf8_ValidString.L5 K s_2 w
def utf8_ValidString.cl : CL := fun args K w => match args with
  | [.string x0] => C.utf8_ValidString x0 w (utf8_ValidString.Kt K)
  | _ => False
theorem utf8_ValidString.clok : OkC pr 56 utf8_ValidString.cl := by
  intro args K w h
  unfold utf8_ValidString.cl at h
  split at h
  · exact calls_group false mixed utf8_ValidString.FOk_ utf8_ValidString.fn rfl 1 (utf8_ValidString.Q34 K) (Eq.mp (by kernel_rfl) h)
  · exact h.elim

/-! tocsin/labels.value -/
namespace labels_value
abbrev KT := Int → World → Prop
def Kt (Kv : Value → World → Prop) : KT := fun n1 w => Kv (.int .i64 n1) w
noncomputable def bd : Code := bdy Tryz.f45
theorem fn : FnOk pr 45 14 Tryz.f45 := ⟨Tryz.func45, by kernel_rfl, Tryz.ntmps45, by kernel_rfl, by kernel_rfl⟩
def F : Clee := ofL [(56, C.utf8_ValidString.cl)]
theorem FOk_ : FOk pr F := FOk_cons C.utf8_ValidString.clok (FOk_nil)
def P1 (Kv : Value → World → Prop) : Post := bodyK false pr 14 Tryz.f45 Kv
end labels_value
def labels_value (s_2 : ByteArray) (w : World) (K : labels_value.KT) : Prop :=
  G.cond (s_2.toList == (⟨#[]⟩ : ByteArray).toList) (K (41 : Int) w) (G.cond (decide (((s_2.size : Nat) : Int) > (256 : Int))) (K (4 : Int) w) (C.utf8_ValidString s_2 w fun b3 w4 => G.cond (!b3) (K (12 : Int) w4) (K (0 : Int) w4)))
def labels_value.cl : CL := fun args K w => match args with
  | [.string x0] => C.labels_value x0 w (labels_value.Kt K)
  | _ => False
theorem labels_value.clok : OkC pr 45 labels_value.cl := by
  intro args K w h
  unfold labels_value.cl at h
  split at h
  · exact calls_last false mixed labels_value.FOk_ labels_value.fn rfl (Eq.mp (by kernel_rfl) h)
  · exact h.elim

/-! tocsin/labels.Right -/
namespace labels_Right
abbrev KT := Int → Int → World → Prop
def Kt (Kv : Value → World → Prop) : KT := fun n1 n2 w => Kv (.tuple #[(.int .i64 n1), (.int .i64 n2)]) w
noncomputable def bd : Code := bdy Tryz.f30
theorem fn : FnOk pr 30 44 Tryz.f30 := ⟨Tryz.func30, by kernel_rfl, Tryz.ntmps30, by kernel_rfl, by kernel_rfl⟩
def F : Clee := ofL [(44, C.labels_Name.cl), (45, C.labels_value.cl)]
theorem FOk_ : FOk pr F := FOk_cons C.labels_Name.clok (FOk_cons C.labels_value.clok (FOk_nil))
def P1 (Kv : Value → World → Prop) : Post := bodyK false pr 44 Tryz.f30 Kv
@[reducible] def g2 : List SE := []
def S2 (K : KT) (w : World) : Prop :=
  K (0 : Int) (0 : Int) w
theorem S2_ok (Kv : Value → World → Prop) : OkT pr false none 44 g2 (S2 (Kt Kv)) (s2 (tl 2 bd)) (P1 Kv) := ok_last mixed FOk_ fun v ρ w => by kernel_rfl
def P3 (Kv : Value → World → Prop) : Post := next (get g2 (S2 (Kt Kv))) (P1 Kv)
def P4 (Kv : Value → World → Prop) : Post := inBlock 0 (P3 Kv)
@[reducible] def g5 : List SE := [.v 0 .sl, .v 10 .sl, .v 11 (.int .i64), .v 12 (.int .i64)]
def P6 (Kv : Value → World → Prop) (kc5 : Cur g5) : Post := next (get g5 kc5) (P4 Kv)
def S7 (K : KT) (kc5 : Cur g5) (l_12 : Sl) (l13 : Sl) (n14 : Int) (n15 : Int) (w : World) : Prop :=
  G.cond (decide (n15 < n14)) (G.ix l13.a l13.n n15 2 fun p16 => G.cS p16 w fun s17 => G.cS (p16.add 1) w fun s18 => G.new (.cells #[(.string (⟨#[]⟩ : ByteArray)), (.string (⟨#[]⟩ : ByteArray))] 48) w fun p19 w20 => G.st p19 (.string s17) w20 fun w21 => G.st (p19.add 1) (.string s18) w21 fun w22 => G.cS p19 w22 fun s23 => C.labels_Name s23 w22 fun b24 w25 => G.cond (!b24) (K (40 : Int) n15 w25) (G.cS (p19.add 1) w25 fun s26 => C.labels_value s26 w25 fun n27 w28 => G.cond (n27 != (0 : Int)) (K n27 n15 w28) (G.cond (decide (n15 > (0 : Int))) (G.cS p19 w28.drew fun s29 => G.ix l_12.a l_12.n (IntKind.i64.wrap (n15 - (1 : Int))) 2 fun p30 => G.cS p30 w28.drew fun s31 => G.cond ((Op.bytesLess s29.toList s31.toList) || (s29.toList == s31.toList)) (K (3 : Int) n15 w28.drew) (kc5 l_12 l13 n14 (IntKind.i64.wrap (n15 + (1 : Int))) w28.drew)) (kc5 l_12 l13 n14 (IntKind.i64.wrap (n15 + (1 : Int))) w28.drew)))) (S2 K w)
theorem S7_ok (Kv : Value → World → Prop) (kc5 : Cur g5) : OkT pr false none 44 g5 (S7 (Kt Kv) kc5) (lp (blk (tl 1 (s1 (tl 2 bd))))) (P6 Kv kc5) := ok_last mixed FOk_ fun v ρ w => by kernel_rfl
def L5 (K : KT) : Cur g5 := loopC g5 (S7 K)
theorem L5_ok (Kv : Value → World → Prop) : OkT pr false none 44 g5 (L5 (Kt Kv)) (blk (tl 1 (s1 (tl 2 bd)))) (P4 Kv) := ok_loop (B := S7 (Kt Kv)) (by kernel_rfl) fun kc => S7_ok Kv kc
theorem L5_ind {K : KT} {l_4 : Sl} {l5 : Sl} {n6 : Int} {n7 : Int} {w : World} (h : ∀ X : Cur g5, (∀ l_4 l5 n6 n7 w, S7 K X l_4 l5 n6 n7 w → X l_4 l5 n6 n7 w) → X l_4 l5 n6 n7 w) : L5 K l_4 l5 n6 n7 w := fun X hX => h X fun l_4 l5 n6 n7 w hb => hX (l_4, l5, n6, n7, ()) w hb
theorem B8 (Kv : Value → World → Prop) : OkT pr false none 44 g5 (L5 (Kt Kv)) (tl 1 (s1 (tl 2 bd))) (P3 Kv) := ok_block 0 (by kernel_rfl) (L5_ok Kv)
@[reducible] def g9 : List SE := [.v 0 .sl]
def S9 (K : KT) (l_32 : Sl) (w : World) : Prop :=
  L5 K l_32 l_32 ((l_32.n : Nat) : Int) (0 : Int) w
theorem S9_ok (Kv : Value → World → Prop) : OkT pr false none 44 g9 (S9 (Kt Kv)) (s1 (tl 2 bd)) (P3 Kv) := ok_group mixed FOk_ 1 (B8 Kv) fun v ρ w => by kernel_rfl
theorem Q10 (Kv : Value → World → Prop) : OkT pr false none 44 g9 (S9 (Kt Kv)) (tl 2 bd) (P1 Kv) := ok_seq (by kernel_rfl) (S2_ok Kv) (S9_ok Kv)
end labels_Right
def labels_Right (l_3 : Sl) (w : World) (K : labels_Right.KT) : Prop :=
  G.cond (decide (((l_3.n : Nat) : Int) > (16 : Int))) (K (8 : Int) (0 : Int) w) (labels_Right.S9 K l_3 w)
def labels_Right.cl : CL := fun args K w => match args with
  | [.slice x0_a x0_n x0_c] => C.labels_Right ⟨x0_a, x0_n, x0_c⟩ w (labels_Right.Kt K)
  | _ => False
theorem labels_Right.clok : OkC pr 30 labels_Right.cl := by
  intro args K w h
  unfold labels_Right.cl at h
  split at h
  · exact calls_group false mixed labels_Right.FOk_ labels_Right.fn rfl 2 (labels_Right.Q10 K) (Eq.mp (by kernel_rfl) h)
  · exact h.elim

/-! tocsin/labels.right -/
namespace labels_right
abbrev KT := Int → World → Prop
def Kt (Kv : Value → World → Prop) : KT := fun n1 w => Kv (.int .i64 n1) w
noncomputable def bd : Code := bdy Tryz.f57
theorem fn : FnOk pr 57 11 Tryz.f57 := ⟨Tryz.func57, by kernel_rfl, Tryz.ntmps57, by kernel_rfl, by kernel_rfl⟩
def F : Clee := ofL [(30, C.labels_Right.cl)]
theorem FOk_ : FOk pr F := FOk_cons C.labels_Right.clok (FOk_nil)
def P1 (Kv : Value → World → Prop) : Post := bodyK false pr 11 Tryz.f57 Kv
end labels_right
def labels_right (l_2 : Sl) (w : World) (K : labels_right.KT) : Prop :=
  C.labels_Right l_2 w fun n3 n4 w5 => K n3 w5
def labels_right.cl : CL := fun args K w => match args with
  | [.slice x0_a x0_n x0_c] => C.labels_right ⟨x0_a, x0_n, x0_c⟩ w (labels_right.Kt K)
  | _ => False
theorem labels_right.clok : OkC pr 57 labels_right.cl := by
  intro args K w h
  unfold labels_right.cl at h
  split at h
  · exact calls_last false mixed labels_right.FOk_ labels_right.fn rfl (Eq.mp (by kernel_rfl) h)
  · exact h.elim

/-! tocsin/vint.joined -/
namespace vint_joined
abbrev KT := Sl → World → Prop
def Kt (Kv : Value → World → Prop) : KT := fun l1 w => Kv l1.v w
noncomputable def bd : Code := bdy Tryz.f79
theorem fn : FnOk pr 79 17 Tryz.f79 := ⟨Tryz.func79, by kernel_rfl, Tryz.ntmps79, by kernel_rfl, by kernel_rfl⟩
def F : Clee := ofL []
theorem FOk_ : FOk pr F := FOk_nil
def P1 (Kv : Value → World → Prop) : Post := bodyK false pr 17 Tryz.f79 Kv
end vint_joined
def vint_joined (b_2 : Sl) (c_3 : Sl) (w : World) (K : vint_joined.KT) : Prop :=
  G.runSl pr (Instr.makeSlice 81 (.int .i64 (0 : Int)) (.int .i64 (IntKind.i64.wrap (((b_2.n : Nat) : Int) + ((c_3.n : Nat) : Int))))) w fun l4 w5 => G.runSl pr (Builtin.append_ #[81, 81] 81 #[l4.v, b_2.v]) w5 fun l6 w7 => G.runSl pr (Builtin.append_ #[81, 81] 81 #[l6.v, c_3.v]) w7 fun l8 w9 => K l8 w9
def vint_joined.cl : CL := fun args K w => match args with
  | [.slice x0_a x0_n x0_c, .slice x1_a x1_n x1_c] => C.vint_joined ⟨x0_a, x0_n, x0_c⟩ ⟨x1_a, x1_n, x1_c⟩ w (vint_joined.Kt K)
  | _ => False
theorem vint_joined.clok : OkC pr 79 vint_joined.cl := by
  intro args K w h
  unfold vint_joined.cl at h
  split at h
  · exact calls_last false mixed vint_joined.FOk_ vint_joined.fn rfl (Eq.mp (by kernel_rfl) h)
  · exact h.elim

/-! tocsin/vint.PutU -/
namespace vint_PutU
abbrev KT := Sl → World → Prop
def Kt (Kv : Value → World → Prop) : KT := fun l1 w => Kv l1.v w
noncomputable def bd : Code := bdy Tryz.f58
theorem fn : FnOk pr 58 23 Tryz.f58 := ⟨Tryz.func58, by kernel_rfl, Tryz.ntmps58, by kernel_rfl, by kernel_rfl⟩
def F : Clee := ofL [(79, C.vint_joined.cl)]
theorem FOk_ : FOk pr F := FOk_cons C.vint_joined.clok (FOk_nil)
def P1 (Kv : Value → World → Prop) : Post := bodyK false pr 23 Tryz.f58 Kv
@[reducible] def g2 : List SE := [.v 0 .sl, .v 1 (.int .u64), .v 5 .sl]
def S2 (K : KT) (b_4 : Sl) (n_5 : Int) (c_6 : Sl) (w : World) : Prop :=
  G.new (.cells #[(.int .u8 (IntKind.u8.wrap n_5))] 5) w fun p7 w8 => G.runSl pr (Builtin.append_ #[81, 81] 81 #[c_6.v, (Sl.v (⟨some p7, 1, 1⟩ : Sl))]) w8 fun l9 w10 => C.vint_joined b_4 l9 w10 fun l11 w12 => K l11 w12
theorem S2_ok (Kv : Value → World → Prop) : OkT pr false none 23 g2 (S2 (Kt Kv)) (s2 (tl 2 bd)) (P1 Kv) := ok_last mixed FOk_ fun v ρ w => by kernel_rfl
def P3 (Kv : Value → World → Prop) : Post := next (get g2 (S2 (Kt Kv))) (P1 Kv)
def P4 (Kv : Value → World → Prop) : Post := inBlock 0 (P3 Kv)
def P6 (Kv : Value → World → Prop) (kc5 : Cur g2) : Post := next (get g2 kc5) (P4 Kv)
def S7 (K : KT) (kc5 : Cur g2) (b_19 : Sl) (n_20 : Int) (c_21 : Sl) (w : World) : Prop :=
  G.cond (decide (n_20 ≥ (128 : Int))) (G.new (.cells #[(.int .u8 (Go.bits .or .u8 (IntKind.u8.wrap n_20) (128 : Int)))] 5) w fun p22 w23 => G.runSl pr (Builtin.append_ #[81, 81] 81 #[c_21.v, (Sl.v (⟨some p22, 1, 1⟩ : Sl))]) w23 fun l24 w25 => G.nn (7 : Int) <| kc5 b_19 (shr .u64 n_20 (7 : Int)) l24 w25) (S2 K b_19 n_20 c_21 w)
theorem S7_ok (Kv : Value → World → Prop) (kc5 : Cur g2) : OkT pr false none 23 g2 (S7 (Kt Kv) kc5) (lp (blk (s1 (tl 2 bd)))) (P6 Kv kc5) := ok_last mixed FOk_ fun v ρ w => by kernel_rfl
def L5 (K : KT) : Cur g2 := loopC g2 (S7 K)
theorem L5_ok (Kv : Value → World → Prop) : OkT pr false none 23 g2 (L5 (Kt Kv)) (blk (s1 (tl 2 bd))) (P4 Kv) := ok_loop (B := S7 (Kt Kv)) (by kernel_rfl) fun kc => S7_ok Kv kc
theorem L5_ind {K : KT} {b_13 : Sl} {n_14 : Int} {c_15 : Sl} {w : World} (h : ∀ X : Cur g2, (∀ b_13 n_14 c_15 w, S7 K X b_13 n_14 c_15 w → X b_13 n_14 c_15 w) → X b_13 n_14 c_15 w) : L5 K b_13 n_14 c_15 w := fun X hX => h X fun b_13 n_14 c_15 w hb => hX (b_13, n_14, c_15, ()) w hb
theorem B8 (Kv : Value → World → Prop) : OkT pr false none 23 g2 (L5 (Kt Kv)) (s1 (tl 2 bd)) (P3 Kv) := ok_block 0 (by kernel_rfl) (L5_ok Kv)
theorem Q9 (Kv : Value → World → Prop) : OkT pr false none 23 g2 (L5 (Kt Kv)) (tl 2 bd) (P1 Kv) := ok_seq (by kernel_rfl) (S2_ok Kv) (B8 Kv)
end vint_PutU
def vint_PutU (b_2 : Sl) (n_3 : Int) (w : World) (K : vint_PutU.KT) : Prop :=
  vint_PutU.L5 K b_2 n_3 nilS w
def vint_PutU.cl : CL := fun args K w => match args with
  | [.slice x0_a x0_n x0_c, .int .u64 x1] => C.vint_PutU ⟨x0_a, x0_n, x0_c⟩ x1 w (vint_PutU.Kt K)
  | _ => False
theorem vint_PutU.clok : OkC pr 58 vint_PutU.cl := by
  intro args K w h
  unfold vint_PutU.cl at h
  split at h
  · exact calls_group false mixed vint_PutU.FOk_ vint_PutU.fn rfl 2 (vint_PutU.Q9 K) (Eq.mp (by kernel_rfl) h)
  · exact h.elim

/-! tocsin/vint.PutText -/
namespace vint_PutText
abbrev KT := Sl → World → Prop
def Kt (Kv : Value → World → Prop) : KT := fun l1 w => Kv l1.v w
noncomputable def bd : Code := bdy Tryz.f59
theorem fn : FnOk pr 59 13 Tryz.f59 := ⟨Tryz.func59, by kernel_rfl, Tryz.ntmps59, by kernel_rfl, by kernel_rfl⟩
def F : Clee := ofL [(58, C.vint_PutU.cl), (79, C.vint_joined.cl)]
theorem FOk_ : FOk pr F := FOk_cons C.vint_PutU.clok (FOk_cons C.vint_joined.clok (FOk_nil))
def P1 (Kv : Value → World → Prop) : Post := bodyK false pr 13 Tryz.f59 Kv
end vint_PutText
def vint_PutText (b_2 : Sl) (s_3 : ByteArray) (w : World) (K : vint_PutText.KT) : Prop :=
  C.vint_PutU b_2 (IntKind.u64.wrap ((s_3.size : Nat) : Int)) w fun l4 w5 => G.runSl pr (Go.convert 9 81 (.string s_3)) w5 fun l6 w7 => C.vint_joined l4 l6 w7 fun l8 w9 => K l8 w9
def vint_PutText.cl : CL := fun args K w => match args with
  | [.slice x0_a x0_n x0_c, .string x1] => C.vint_PutText ⟨x0_a, x0_n, x0_c⟩ x1 w (vint_PutText.Kt K)
  | _ => False
theorem vint_PutText.clok : OkC pr 59 vint_PutText.cl := by
  intro args K w h
  unfold vint_PutText.cl at h
  split at h
  · exact calls_last false mixed vint_PutText.FOk_ vint_PutText.fn rfl (Eq.mp (by kernel_rfl) h)
  · exact h.elim

/-! tocsin/labels.Put -/
namespace labels_Put
abbrev KT := Sl → Int → World → Prop
def Kt (Kv : Value → World → Prop) : KT := fun l1 n2 w => Kv (.tuple #[l1.v, (.int .i64 n2)]) w
noncomputable def bd : Code := bdy Tryz.f46
theorem fn : FnOk pr 46 35 Tryz.f46 := ⟨Tryz.func46, by kernel_rfl, Tryz.ntmps46, by kernel_rfl, by kernel_rfl⟩
def F : Clee := ofL [(57, C.labels_right.cl), (58, C.vint_PutU.cl), (59, C.vint_PutText.cl)]
theorem FOk_ : FOk pr F := FOk_cons C.labels_right.clok (FOk_cons C.vint_PutU.clok (FOk_cons C.vint_PutText.clok (FOk_nil)))
def P1 (Kv : Value → World → Prop) : Post := bodyK false pr 35 Tryz.f46 Kv
@[reducible] def g2 : List SE := [.v 7 .sl]
def S2 (K : KT) (out_7 : Sl) (w : World) : Prop :=
  K out_7 (0 : Int) w
theorem S2_ok (Kv : Value → World → Prop) : OkT pr false none 35 g2 (S2 (Kt Kv)) (s2 (tl 3 bd)) (P1 Kv) := ok_last mixed FOk_ fun v ρ w => by kernel_rfl
def P3 (Kv : Value → World → Prop) : Post := next (get g2 (S2 (Kt Kv))) (P1 Kv)
def P4 (Kv : Value → World → Prop) : Post := inBlock 0 (P3 Kv)
@[reducible] def g5 : List SE := [.v 7 .sl, .v 20 .sl, .v 21 (.int .i64), .v 22 (.int .i64)]
def P6 (Kv : Value → World → Prop) (kc5 : Cur g5) : Post := next (get g5 kc5) (P4 Kv)
def S7 (K : KT) (kc5 : Cur g5) (out_16 : Sl) (l17 : Sl) (n18 : Int) (n19 : Int) (w : World) : Prop :=
  G.cond (decide (n19 < n18)) (G.ix l17.a l17.n n19 2 fun p20 => G.cS p20 w fun s21 => G.cS (p20.add 1) w fun s22 => G.new (.cells #[(.string (⟨#[]⟩ : ByteArray)), (.string (⟨#[]⟩ : ByteArray))] 48) w fun p23 w24 => G.st p23 (.string s21) w24 fun w25 => G.st (p23.add 1) (.string s22) w25 fun w26 => G.cS p23 w26.drew fun s27 => G.cS (p23.add 1) w26.drew fun s28 => C.vint_PutText out_16 s27 w26.drew fun l29 w30 => sameAt (p23.add 1) 1 w26.drew w30 ∧ (C.vint_PutText l29 s28 w30 fun l31 w32 => kc5 l31 l17 n18 (IntKind.i64.wrap (n19 + (1 : Int))) w32)) (S2 K out_16 w)
theorem S7_ok (Kv : Value → World → Prop) (kc5 : Cur g5) : OkT pr false none 35 g5 (S7 (Kt Kv) kc5) (lp (blk (tl 1 (s1 (tl 3 bd))))) (P6 Kv kc5) := ok_last mixed FOk_ fun v ρ w => by kernel_rfl
def L5 (K : KT) : Cur g5 := loopC g5 (S7 K)
theorem L5_ok (Kv : Value → World → Prop) : OkT pr false none 35 g5 (L5 (Kt Kv)) (blk (tl 1 (s1 (tl 3 bd)))) (P4 Kv) := ok_loop (B := S7 (Kt Kv)) (by kernel_rfl) fun kc => S7_ok Kv kc
theorem L5_ind {K : KT} {out_8 : Sl} {l9 : Sl} {n10 : Int} {n11 : Int} {w : World} (h : ∀ X : Cur g5, (∀ out_8 l9 n10 n11 w, S7 K X out_8 l9 n10 n11 w → X out_8 l9 n10 n11 w) → X out_8 l9 n10 n11 w) : L5 K out_8 l9 n10 n11 w := fun X hX => h X fun out_8 l9 n10 n11 w hb => hX (out_8, l9, n10, n11, ()) w hb
theorem B8 (Kv : Value → World → Prop) : OkT pr false none 35 g5 (L5 (Kt Kv)) (tl 1 (s1 (tl 3 bd))) (P3 Kv) := ok_block 0 (by kernel_rfl) (L5_ok Kv)
@[reducible] def g9 : List SE := [.v 1 .sl, .v 7 .sl]
def S9 (K : KT) (l_33 : Sl) (out_34 : Sl) (w : World) : Prop :=
  L5 K out_34 l_33 ((l_33.n : Nat) : Int) (0 : Int) w
theorem S9_ok (Kv : Value → World → Prop) : OkT pr false none 35 g9 (S9 (Kt Kv)) (s1 (tl 3 bd)) (P3 Kv) := ok_group mixed FOk_ 1 (B8 Kv) fun v ρ w => by kernel_rfl
theorem Q10 (Kv : Value → World → Prop) : OkT pr false none 35 g9 (S9 (Kt Kv)) (tl 3 bd) (P1 Kv) := ok_seq (by kernel_rfl) (S2_ok Kv) (S9_ok Kv)
end labels_Put
def labels_Put (b_3 : Sl) (l_4 : Sl) (w : World) (K : labels_Put.KT) : Prop :=
  C.labels_right l_4 w fun n35 w36 => G.cond (n35 != (0 : Int)) (K nilS n35 w36) (C.vint_PutU b_3 (IntKind.u64.wrap ((l_4.n : Nat) : Int)) w36 fun l37 w38 => labels_Put.S9 K l_4 l37 w38)
def labels_Put.cl : CL := fun args K w => match args with
  | [.slice x0_a x0_n x0_c, .slice x1_a x1_n x1_c] => C.labels_Put ⟨x0_a, x0_n, x0_c⟩ ⟨x1_a, x1_n, x1_c⟩ w (labels_Put.Kt K)
  | _ => False
theorem labels_Put.clok : OkC pr 46 labels_Put.cl := by
  intro args K w h
  unfold labels_Put.cl at h
  split at h
  · exact calls_group false mixed labels_Put.FOk_ labels_Put.fn rfl 3 (labels_Put.Q10 K) (Eq.mp (by kernel_rfl) h)
  · exact h.elim

/-! tocsin/alerts.key -/
namespace alerts_key
abbrev KT := ByteArray → World → Prop
def Kt (Kv : Value → World → Prop) : KT := fun s1 w => Kv (.string s1) w
noncomputable def bd : Code := bdy Tryz.f31
theorem fn : FnOk pr 31 12 Tryz.f31 := ⟨Tryz.func31, by kernel_rfl, Tryz.ntmps31, by kernel_rfl, by kernel_rfl⟩
def F : Clee := ofL [(46, C.labels_Put.cl)]
theorem FOk_ : FOk pr F := FOk_cons C.labels_Put.clok (FOk_nil)
def P1 (Kv : Value → World → Prop) : Post := bodyK false pr 12 Tryz.f31 Kv
end alerts_key
def alerts_key (l_2 : Sl) (w : World) (K : alerts_key.KT) : Prop :=
  C.labels_Put nilS l_2 w fun l3 n4 w5 => G.rdS pr (Conv.bytesToString l3.v) w5 fun s6 => K s6 w5
def alerts_key.cl : CL := fun args K w => match args with
  | [.slice x0_a x0_n x0_c] => C.alerts_key ⟨x0_a, x0_n, x0_c⟩ w (alerts_key.Kt K)
  | _ => False
theorem alerts_key.clok : OkC pr 31 alerts_key.cl := by
  intro args K w h
  unfold alerts_key.cl at h
  split at h
  · exact calls_last false mixed alerts_key.FOk_ alerts_key.fn rfl (Eq.mp (by kernel_rfl) h)
  · exact h.elim

/-! (*tocsin/alerts.Set).Put -/
namespace alerts_Set_Put
abbrev KT := Int → World → Prop
def Kt (Kv : Value → World → Prop) : KT := fun n1 w => Kv (.int .i64 n1) w
noncomputable def bd : Code := bdy Tryz.f12
theorem fn : FnOk pr 12 134 Tryz.f12 := ⟨Tryz.func12, by kernel_rfl, Tryz.ntmps12, by kernel_rfl, by kernel_rfl⟩
def F : Clee := ofL [(29, C.alerts_time.cl), (30, C.labels_Right.cl), (31, C.alerts_key.cl), (32, C.slices_Clone_Label_Label.cl)]
theorem FOk_ : FOk pr F := FOk_cons C.alerts_time.clok (FOk_cons C.labels_Right.clok (FOk_cons C.alerts_key.clok (FOk_cons C.slices_Clone_Label_Label.clok (FOk_nil))))
def P1 (Kv : Value → World → Prop) : Post := bodyK false pr 134 Tryz.f12 Kv
@[reducible] def g2 : List SE := [.v 0 .ptr, .v 5 .ptr, .v 9 .str]
def S2 (K : KT) (s_34 : Option Addr) (a_35 : Option Addr) (k_36 : ByteArray) (w : World) : Prop :=
  G.ptr a_35 fun p37 => G.cSl p37 w fun l38 => C.slices_Clone_Label_Label l38 w fun l39 w40 => G.ptr a_35 fun p41 => G.st p41 l39.v w40 fun w42 => G.ptr s_34 fun p43 => G.cM (p43.add 2) w42.drew fun m44 => G.ptr a_35 fun p45 => G.cSl p45 w42.drew fun l46 => G.cI .i64 (p45.add 1) w42.drew fun n47 => G.cI .i64 (p45.add 2) w42.drew fun n48 => G.runU pr (Instr.mapUpdate 44 (.map m44) (.string k_36) (.agg #[l46.v, (.int .i64 n47), (.int .i64 n48)])) w42.drew fun w49 => K (0 : Int) w49
theorem S2_ok (Kv : Value → World → Prop) : OkT pr false none 134 g2 (S2 (Kt Kv)) (tl 4 (tl 1 (tl 1 (tl 4 bd)))) (P1 Kv) := ok_last mixed FOk_ fun v ρ w => by kernel_rfl
@[reducible] def g3 : List SE := [.v 0 .ptr, .v 1 (.int .i64), .v 5 .ptr]
def S3 (K : KT) (s_50 : Option Addr) (now_51 : Int) (a_52 : Option Addr) (w : World) : Prop :=
  G.ptr a_52 fun p53 => G.cI .i64 (p53.add 2) w fun n54 => G.ptr a_52 fun p55 => G.cI .i64 (p55.add 1) w fun n56 => G.cond (decide (n54 < n56)) (K (1 : Int) w) (G.ptr a_52 fun p57 => G.cSl p57 w fun l58 => C.alerts_key l58 w fun s59 w60 => G.ptr s_50 fun p61 => G.cM (p61.add 2) w60 fun m62 => G.rd2 pr (Instr.lookup 44 (.map m62) (.string s59) true) (fun v : Value => v) w60 fun v63 b65 => G.ag v63 3 fun c64 => G.vSl c64[0 + 0]? fun l66 => G.vI .i64 c64[0 + 1]? fun n67 => G.vI .i64 c64[0 + 2]? fun n68 => G.new (.cells #[nilS.v, (.int .i64 (0 : Int)), (.int .i64 (0 : Int))] 34) w60 fun p69 w70 => G.st p69 l66.v w70 fun w71 => G.st (p69.add 1) (.int .i64 n67) w71 fun w72 => G.st (p69.add 2) (.int .i64 n68) w72 fun w73 => G.cond (!b65) (G.ptr s_50 fun p74 => G.cM (p74.add 2) w73.drew fun m75 => G.ptr s_50 fun p76 => G.cI .i64 (p76.add 1) w73.drew fun n77 => G.rdI pr (Builtin.len_ #[44] 3 #[(.map m75)]) .i64 w73.drew fun n78 => sameAt (p76.add 1) 1 w73.drew w73.drew ∧ (G.cond (decide (n78 ≥ n77)) (K (8 : Int) w73.drew) (G.cond b65 (G.cI .i64 (p69.add 2) w73.drew fun n79 => G.cond (decide (n79 > now_51)) (G.ptr a_52 fun p80 => G.cI .i64 (p80.add 1) w73.drew fun n81 => G.cI .i64 (p69.add 1) w73.drew fun n82 => G.ptr a_52 fun p83 => G.st (p83.add 1) (.int .i64 (if n82 < n81 then n82 else n81)) w73.drew fun w84 => S2 K s_50 a_52 s59 w84) (S2 K s_50 a_52 s59 w73.drew)) (S2 K s_50 a_52 s59 w73.drew)))) (G.cond b65 (G.cI .i64 (p69.add 2) w73.drew fun n85 => G.cond (decide (n85 > now_51)) (G.ptr a_52 fun p86 => G.cI .i64 (p86.add 1) w73.drew fun n87 => G.cI .i64 (p69.add 1) w73.drew fun n88 => G.ptr a_52 fun p89 => G.st (p89.add 1) (.int .i64 (if n88 < n87 then n88 else n87)) w73.drew fun w90 => S2 K s_50 a_52 s59 w90) (S2 K s_50 a_52 s59 w73.drew)) (S2 K s_50 a_52 s59 w73.drew)))
theorem S3_ok (Kv : Value → World → Prop) : OkT pr false none 134 g3 (S3 (Kt Kv)) (tl 1 (tl 1 (tl 4 bd))) (P1 Kv) := ok_group mixed FOk_ 4 (S2_ok Kv) fun v ρ w => by kernel_rfl
def S4 (K : KT) (s_91 : Option Addr) (now_92 : Int) (a_93 : Option Addr) (w : World) : Prop :=
  G.ptr a_93 fun p94 => G.cI .i64 (p94.add 1) w fun n95 => G.cond (n95 == (0 : Int)) (G.ptr a_93 fun p96 => G.st (p96.add 1) (.int .i64 now_92) w fun w97 => S3 K s_91 now_92 a_93 w97) (S3 K s_91 now_92 a_93 w)
theorem S4_ok (Kv : Value → World → Prop) : OkT pr false none 134 g3 (S4 (Kt Kv)) (tl 1 (tl 4 bd)) (P1 Kv) := ok_group mixed FOk_ 1 (S3_ok Kv) fun v ρ w => by kernel_rfl
def S5 (K : KT) (s_98 : Option Addr) (now_99 : Int) (a_100 : Option Addr) (w : World) : Prop :=
  G.ptr a_100 fun p101 => G.cI .i64 (p101.add 2) w fun n102 => G.cond (n102 == (0 : Int)) (G.ptr s_98 fun p103 => G.cI .i64 p103 w fun n104 => G.ptr a_100 fun p105 => G.st (p105.add 2) (.int .i64 (IntKind.i64.wrap (now_99 + n104))) w fun w106 => S4 K s_98 now_99 a_100 w106) (S4 K s_98 now_99 a_100 w)
theorem S5_ok (Kv : Value → World → Prop) : OkT pr false none 134 g3 (S5 (Kt Kv)) (tl 4 bd) (P1 Kv) := ok_group mixed FOk_ 1 (S4_ok Kv) fun v ρ w => by kernel_rfl
end alerts_Set_Put
def alerts_Set_Put (s_2 : Option Addr) (now_3 : Int) (a_4 : Sl) (a_5 : Int) (a_6 : Int) (w : World) (K : alerts_Set_Put.KT) : Prop :=
  G.new (.cells #[a_4.v, (.int .i64 a_5), (.int .i64 a_6)] 34) w fun p107 w108 => G.cond s_2.isNone (K (2 : Int) w108) (C.alerts_time now_3 w108 fun b109 w110 => G.cond (!b109) (K (1 : Int) w110) (G.cSl p107 w110 fun l111 => C.labels_Right l111 w110 fun n112 n113 w114 => G.cond (n112 != (0 : Int)) (K (41 : Int) w114) (G.cSl p107 w114 fun l115 => G.cond (((l115.n : Nat) : Int) == (0 : Int)) (K (41 : Int) w114) (G.cI .i64 (p107.add 1) w114 fun n116 => G.cond (decide (n116 < (0 : Int))) (K (1 : Int) w114) (G.cI .i64 (p107.add 1) w114 fun n117 => G.cond (decide (n117 > (1126999418470400 : Int))) (K (1 : Int) w114) (G.cI .i64 (p107.add 2) w114 fun n118 => G.cond (decide (n118 < (0 : Int))) (K (1 : Int) w114) (G.cI .i64 (p107.add 2) w114 fun n119 => G.cond (decide (n119 > (1126999418470400 : Int))) (K (1 : Int) w114) (G.cI .i64 (p107.add 2) w114 fun n120 => G.cond (n120 != (0 : Int)) (G.cI .i64 (p107.add 2) w114 fun n121 => G.cI .i64 (p107.add 1) w114 fun n122 => G.cond (decide (n121 < n122)) (K (1 : Int) w114) (alerts_Set_Put.S5 K s_2 now_3 (some p107) w114)) (alerts_Set_Put.S5 K s_2 now_3 (some p107) w114)))))))))
def alerts_Set_Put.cl : CL := fun args K w => match args with
  | [.pointer x0, .int .i64 x1, .agg ⟨[.slice x2_0_a x2_0_n x2_0_c, .int .i64 x2_1, .int .i64 x2_2]⟩] => C.alerts_Set_Put x0 x1 ⟨x2_0_a, x2_0_n, x2_0_c⟩ x2_1 x2_2 w (alerts_Set_Put.Kt K)
  | _ => False
theorem alerts_Set_Put.clok : OkC pr 12 alerts_Set_Put.cl := by
  intro args K w h
  unfold alerts_Set_Put.cl at h
  split at h
  · exact calls_group false mixed alerts_Set_Put.FOk_ alerts_Set_Put.fn rfl 4 (alerts_Set_Put.S5_ok K) (Eq.mp (by kernel_rfl) h)
  · exact h.elim

/-! (*tocsin/alerts.Set).Get -/
namespace alerts_Set_Get
abbrev KT := Sl → Int → Int → Bool → World → Prop
def Kt (Kv : Value → World → Prop) : KT := fun l1 n2 n3 b4 w => Kv (.tuple #[(.agg #[l1.v, (.int .i64 n2), (.int .i64 n3)]), (.bool b4)]) w
noncomputable def bd : Code := bdy Tryz.f13
theorem fn : FnOk pr 13 36 Tryz.f13 := ⟨Tryz.func13, by kernel_rfl, Tryz.ntmps13, by kernel_rfl, by kernel_rfl⟩
def F : Clee := ofL [(20, C.alerts_copied.cl), (30, C.labels_Right.cl), (31, C.alerts_key.cl)]
theorem FOk_ : FOk pr F := FOk_cons C.alerts_copied.clok (FOk_cons C.labels_Right.clok (FOk_cons C.alerts_key.clok (FOk_nil)))
def P1 (Kv : Value → World → Prop) : Post := bodyK false pr 36 Tryz.f13 Kv
end alerts_Set_Get
def alerts_Set_Get (s_5 : Option Addr) (l_6 : Sl) (w : World) (K : alerts_Set_Get.KT) : Prop :=
  G.new (.cells #[nilS.v, (.int .i64 (0 : Int)), (.int .i64 (0 : Int))] 34) w fun p11 w12 => G.cond s_5.isNone (G.st p11 nilS.v w12 fun w13 => G.st (p11.add 1) (.int .i64 (0 : Int)) w13 fun w14 => G.st (p11.add 2) (.int .i64 (0 : Int)) w14 fun w15 => G.cSl p11 w15 fun l16 => G.cI .i64 (p11.add 1) w15 fun n17 => G.cI .i64 (p11.add 2) w15 fun n18 => K l16 n17 n18 false w15) (C.labels_Right l_6 w12 fun n19 n20 w21 => G.cond (n19 != (0 : Int)) (G.st p11 nilS.v w21 fun w22 => G.st (p11.add 1) (.int .i64 (0 : Int)) w22 fun w23 => G.st (p11.add 2) (.int .i64 (0 : Int)) w23 fun w24 => G.cSl p11 w24 fun l25 => G.cI .i64 (p11.add 1) w24 fun n26 => G.cI .i64 (p11.add 2) w24 fun n27 => K l25 n26 n27 false w24) (G.ptr s_5 fun p28 => G.cM (p28.add 2) w21.drew fun m29 => (C.alerts_key l_6 w21.drew fun s30 w31 => sameAt (p28.add 2) 1 w21.drew w31 ∧ ((G.rd2 pr (Instr.lookup 44 (.map m29) (.string s30) true) (fun v : Value => v) w31 fun v32 b34 => G.ag v32 3 fun c33 => G.vSl c33[0 + 0]? fun l35 => G.vI .i64 c33[0 + 1]? fun n36 => G.vI .i64 c33[0 + 2]? fun n37 => G.new (.cells #[nilS.v, (.int .i64 (0 : Int)), (.int .i64 (0 : Int))] 34) w31 fun p38 w39 => G.st p38 l35.v w39 fun w40 => G.st (p38.add 1) (.int .i64 n36) w40 fun w41 => G.st (p38.add 2) (.int .i64 n37) w41 fun w42 => G.cond (!b34) (G.st p11 nilS.v w42 fun w43 => G.st (p11.add 1) (.int .i64 (0 : Int)) w43 fun w44 => G.st (p11.add 2) (.int .i64 (0 : Int)) w44 fun w45 => G.cSl p11 w45 fun l46 => G.cI .i64 (p11.add 1) w45 fun n47 => G.cI .i64 (p11.add 2) w45 fun n48 => K l46 n47 n48 false w45) (G.cSl p38 w42 fun l49 => G.cI .i64 (p38.add 1) w42 fun n50 => G.cI .i64 (p38.add 2) w42 fun n51 => C.alerts_copied l49 n50 n51 w42 fun l52 n53 n54 w55 => G.st p11 l52.v w55 fun w56 => G.st (p11.add 1) (.int .i64 n53) w56 fun w57 => G.st (p11.add 2) (.int .i64 n54) w57 fun w58 => G.cSl p11 w58 fun l59 => G.cI .i64 (p11.add 1) w58 fun n60 => G.cI .i64 (p11.add 2) w58 fun n61 => K l59 n60 n61 true w58)) ∧ (G.new (.cells #[nilS.v, (.int .i64 (0 : Int)), (.int .i64 (0 : Int))] 34) w31 fun p62 w63 => sameAt (p28.add 2) 1 w21.drew w63 ∧ (G.rd2 pr (Instr.lookup 44 (.map m29) (.string s30) true) (fun v : Value => v) w63 fun v64 b66 => G.ag v64 3 fun c65 => G.vSl c65[0 + 0]? fun l67 => G.vI .i64 c65[0 + 1]? fun n68 => G.vI .i64 c65[0 + 2]? fun n69 => G.st p62 l67.v w63 fun w70 => G.st (p62.add 1) (.int .i64 n68) w70 fun w71 => G.st (p62.add 2) (.int .i64 n69) w71 fun w72 => G.cond (!b66) (G.st p11 nilS.v w72 fun w73 => G.st (p11.add 1) (.int .i64 (0 : Int)) w73 fun w74 => G.st (p11.add 2) (.int .i64 (0 : Int)) w74 fun w75 => G.cSl p11 w75 fun l76 => G.cI .i64 (p11.add 1) w75 fun n77 => G.cI .i64 (p11.add 2) w75 fun n78 => K l76 n77 n78 false w75) (G.cSl p62 w72 fun l79 => G.cI .i64 (p62.add 1) w72 fun n80 => G.cI .i64 (p62.add 2) w72 fun n81 => C.alerts_copied l79 n80 n81 w72 fun l82 n83 n84 w85 => G.st p11 l82.v w85 fun w86 => G.st (p11.add 1) (.int .i64 n83) w86 fun w87 => G.st (p11.add 2) (.int .i64 n84) w87 fun w88 => G.cSl p11 w88 fun l89 => G.cI .i64 (p11.add 1) w88 fun n90 => G.cI .i64 (p11.add 2) w88 fun n91 => K l89 n90 n91 true w88))))) ∧ (G.new (.cells #[nilS.v, (.int .i64 (0 : Int)), (.int .i64 (0 : Int))] 34) w21.drew fun p92 w93 => sameAt (p28.add 2) 1 w21.drew w93 ∧ (C.alerts_key l_6 w93 fun s94 w95 => sameAt (p28.add 2) 1 w21.drew w95 ∧ (G.rd2 pr (Instr.lookup 44 (.map m29) (.string s94) true) (fun v : Value => v) w95 fun v96 b98 => G.ag v96 3 fun c97 => G.vSl c97[0 + 0]? fun l99 => G.vI .i64 c97[0 + 1]? fun n100 => G.vI .i64 c97[0 + 2]? fun n101 => G.st p92 l99.v w95 fun w102 => G.st (p92.add 1) (.int .i64 n100) w102 fun w103 => G.st (p92.add 2) (.int .i64 n101) w103 fun w104 => G.cond (!b98) (G.st p11 nilS.v w104 fun w105 => G.st (p11.add 1) (.int .i64 (0 : Int)) w105 fun w106 => G.st (p11.add 2) (.int .i64 (0 : Int)) w106 fun w107 => G.cSl p11 w107 fun l108 => G.cI .i64 (p11.add 1) w107 fun n109 => G.cI .i64 (p11.add 2) w107 fun n110 => K l108 n109 n110 false w107) (G.cSl p92 w104 fun l111 => G.cI .i64 (p92.add 1) w104 fun n112 => G.cI .i64 (p92.add 2) w104 fun n113 => C.alerts_copied l111 n112 n113 w104 fun l114 n115 n116 w117 => G.st p11 l114.v w117 fun w118 => G.st (p11.add 1) (.int .i64 n115) w118 fun w119 => G.st (p11.add 2) (.int .i64 n116) w119 fun w120 => G.cSl p11 w120 fun l121 => G.cI .i64 (p11.add 1) w120 fun n122 => G.cI .i64 (p11.add 2) w120 fun n123 => K l121 n122 n123 true w120))))))
def alerts_Set_Get.cl : CL := fun args K w => match args with
  | [.pointer x0, .slice x1_a x1_n x1_c] => C.alerts_Set_Get x0 ⟨x1_a, x1_n, x1_c⟩ w (alerts_Set_Get.Kt K)
  | _ => False
theorem alerts_Set_Get.clok : OkC pr 13 alerts_Set_Get.cl := by
  intro args K w h
  unfold alerts_Set_Get.cl at h
  split at h
  · exact calls_last false mixed alerts_Set_Get.FOk_ alerts_Set_Get.fn rfl (Eq.mp (by kernel_rfl) h)
  · exact h.elim

/-! (*tocsin/alerts.Set).All -/
namespace alerts_Set_All
abbrev KT := Value → World → Prop
def Kt (Kv : Value → World → Prop) : KT := fun v1 w => Kv v1 w
noncomputable def bd : Code := bdy Tryz.f7
theorem fn : FnOk pr 7 4 Tryz.f7 := ⟨Tryz.func7, by kernel_rfl, Tryz.ntmps7, by kernel_rfl, by kernel_rfl⟩
def F : Clee := ofL []
theorem FOk_ : FOk pr F := FOk_nil
def P1 (Kv : Value → World → Prop) : Post := bodyK false pr 4 Tryz.f7 Kv
end alerts_Set_All
def alerts_Set_All (s_2 : Option Addr) (w : World) (K : alerts_Set_All.KT) : Prop :=
  G.new (.cells #[(.pointer s_2)] 23) w fun p3 w4 => K (Value.func (.func 15) #[] #[(.pointer (some p3))]) w4
def alerts_Set_All.cl : CL := fun args K w => match args with
  | [.pointer x0] => C.alerts_Set_All x0 w (alerts_Set_All.Kt K)
  | _ => False
theorem alerts_Set_All.clok : OkC pr 7 alerts_Set_All.cl := by
  intro args K w h
  unfold alerts_Set_All.cl at h
  split at h
  · exact calls_last false mixed alerts_Set_All.FOk_ alerts_Set_All.fn rfl (Eq.mp (by kernel_rfl) h)
  · exact h.elim

/-! (*tocsin/alerts.Set).Firing -/
namespace alerts_Set_Firing
abbrev KT := Sl → World → Prop
def Kt (Kv : Value → World → Prop) : KT := fun l1 w => Kv l1.v w
noncomputable def bd : Code := bdy Tryz.f14
theorem fn : FnOk pr 14 25 Tryz.f14 := ⟨Tryz.func14, by kernel_rfl, Tryz.ntmps14, by kernel_rfl, by kernel_rfl⟩
def F : Clee := ofL [(7, C.alerts_Set_All.cl)]
theorem FOk_ : FOk pr F := FOk_cons C.alerts_Set_All.clok (FOk_nil)
def Fc : Clee := ofL [(15, C.alerts_Set_All_1.cl), (18, C.alerts_Set_All_1_1.cl), (35, C.maps_Values_1_map_string_Alert_string_Alert.cl), (37, C.labels_Compare_1.cl), (75, C.maps_Keys_1_map_string_Alert_string_Alert.cl)]
theorem FcOk : FOkB pr Fc := FOkB_cons C.alerts_Set_All_1.clok (FOkB_cons C.alerts_Set_All_1_1.clok (FOkB_cons C.maps_Values_1_map_string_Alert_string_Alert.clok (FOkB_cons C.labels_Compare_1.clok (FOkB_cons C.maps_Keys_1_map_string_Alert_string_Alert.clok (FOkB_nil)))))
def P1 (Kv : Value → World → Prop) : Post := bodyK true pr 25 Tryz.f14 Kv
@[reducible] def g2 : List SE := [.v 5 .ptr, .v 25 .raw]
def S2 (K : KT) (l_4 : Option Addr) (v5 : Value) (w : World) : Prop :=
  G.ptr l_4 fun p6 => G.cSl p6 w fun l7 => G.marks v5 w fun w8 => K l7 w8
theorem S2_ok (Kv : Value → World → Prop) : OkT pr true none 25 g2 (S2 (Kt Kv)) (s2 (tl 2 bd)) (P1 Kv) := ok_last mixed FOk_ fun v ρ w => by kernel_rfl
def P3 (Kv : Value → World → Prop) : Post := next (get g2 (S2 (Kt Kv))) (P1 Kv)
def P4 (Kv : Value → World → Prop) : Post := inBlock 0 (P3 Kv)
@[reducible] def g5 : List SE := [.v 3 .ptr, .v 5 .ptr, .v 8 .raw, .v 25 .raw]
def P6 (Rr : Exit → World → Prop) : Post := RP Rr
@[reducible] def g7 : List SE := [.v 3 .ptr, .v 5 .ptr, .v 6 .ptr]
def S7 (Rr : Exit → World → Prop) (now_13 : Option Addr) (l_14 : Option Addr) (a_15 : Option Addr) (w : World) : Prop :=
  G.ptr a_15 fun p16 => G.cI .i64 (p16.add 1) w fun n17 => G.ptr now_13 fun p18 => G.cI .i64 p18 w fun n19 => G.cond (decide (n17 ≤ n19)) (G.ptr now_13 fun p20 => G.cI .i64 p20 w fun n21 => G.ptr a_15 fun p22 => G.cI .i64 (p22.add 2) w fun n23 => G.cond (decide (n21 < n23)) (G.ptr l_14 fun p24 => G.cSl p24 w fun l25 => G.ptr a_15 fun p26 => G.cSl p26 w fun l27 => G.cI .i64 (p26.add 1) w fun n28 => G.cI .i64 (p26.add 2) w fun n29 => G.new (.cells #[l27.v, (.int .i64 n28), (.int .i64 n29)] 34) w fun p30 w31 => G.runSl pr (Builtin.append_ #[38, 38] 38 #[l25.v, (Sl.v (⟨some p30, 1, 1⟩ : Sl))]) w31 fun l32 w33 => G.ptr l_14 fun p34 => G.st p34 l32.v w33 fun w35 => Rr .normal w35) (Rr .normal w)) (Rr .normal w)
theorem S7_ok (Rr : Exit → World → Prop) {ro : Option Nat} : OkT pr false ro 25 g7 (S7 Rr) (rbd (blk (tl 1 (s1 (tl 2 bd))))) (P6 Rr) := ok_last mixed FOk_ fun v ρ w => by kernel_rfl
def B_R5 (now_9 : Option Addr) (l_10 : Option Addr) (v11 : Value) (v12 : Value) (args : List Value) (wb : World) (bz : (World → Prop) → World → Prop) (Rr : Exit → World → Prop) : Prop := match args with
  | [.agg ⟨[.slice y_36_a y_36_n y_36_c, .int .i64 y_37, .int .i64 y_38]⟩] => G.new (.cells #[nilS.v, (.int .i64 (0 : Int)), (.int .i64 (0 : Int))] 34) wb fun p39 w40 => G.st p39 (⟨y_36_a, y_36_n, y_36_c⟩ : Sl).v w40 fun w41 => G.st (p39.add 1) (.int .i64 y_37) w41 fun w42 => G.st (p39.add 2) (.int .i64 y_38) w42 fun w43 => bz (S7 Rr now_9 l_10 (some p39)) w43
  | _ => False
def O_R5 (K : KT) (now_9 : Option Addr) (l_10 : Option Addr) (v11 : Value) (v12 : Value) (e : Exit) (D : Nat) (w : World) : Prop := match e with
  | .normal => S2 K l_10 (pushMark v12 D) w
  | _ => False
def R5 (K : KT) (now_9 : Option Addr) (l_10 : Option Addr) (v11 : Value) (v12 : Value) (w : World) : Prop :=
  G.rangeW Fc v11 pr (B_R5 now_9 l_10 v11 v12) w (O_R5 K now_9 l_10 v11 v12)
theorem R5_ok (Kv : Value → World → Prop) : OkT pr true none 25 g5 (R5 (Kt Kv)) (blk (tl 1 (s1 (tl 2 bd)))) (P4 Kv) := by
  refine ok_rangeW mixed FOk_ FcOk (s := 8) (ps := #[9]) (Bt := fun v => B_R5 v.1 v.2.1 v.2.2.1 v.2.2.2.1) (kB := fun Rr => S7 Rr) (sgB := g7) (out := fun v => O_R5 (Kt Kv) v.1 v.2.1 v.2.2.1 v.2.2.2.1) (by kernel_rfl) (fun v ρ w => by kernel_rfl) ?_ (fun Rr l => S7_ok Rr) ?_
  · intro v ρ args w bz Rr h
    have h' : B_R5 v.1 v.2.1 v.2.2.1 v.2.2.2.1 args w bz Rr := h
    unfold B_R5 at h'
    split at h'
    · exact ⟨rfl, Eq.mp (by kernel_rfl) h'⟩
    · exact h'.elim
  · intro v ρ e D w h
    cases e with
    | normal => exact Eq.mp (by kernel_rfl) h
    | _ => exact h.elim
theorem B8 (Kv : Value → World → Prop) : OkT pr true none 25 g5 (R5 (Kt Kv)) (tl 1 (s1 (tl 2 bd))) (P3 Kv) := ok_block 0 (by kernel_rfl) (R5_ok Kv)
@[reducible] def g9 : List SE := [.v 0 .ptr, .v 3 .ptr, .v 5 .ptr, .v 25 .raw]
def S9 (K : KT) (s_44 : Option Addr) (now_45 : Option Addr) (l_46 : Option Addr) (v47 : Value) (w : World) : Prop :=
  C.alerts_Set_All s_44 w fun v48 w49 => R5 K now_45 l_46 v48 v47 w49
theorem S9_ok (Kv : Value → World → Prop) : OkT pr true none 25 g9 (S9 (Kt Kv)) (s1 (tl 2 bd)) (P3 Kv) := ok_group mixed FOk_ 1 (B8 Kv) fun v ρ w => by kernel_rfl
theorem Q10 (Kv : Value → World → Prop) : OkT pr true none 25 g9 (S9 (Kt Kv)) (tl 2 bd) (P1 Kv) := ok_seq (by kernel_rfl) (S2_ok Kv) (S9_ok Kv)
end alerts_Set_Firing
def alerts_Set_Firing (s_2 : Option Addr) (now_3 : Int) (w : World) (K : alerts_Set_Firing.KT) : Prop :=
  G.new (.cells #[(.int .i64 now_3)] 2) w fun p50 w51 => G.new (.cells #[nilS.v] 38) w51 fun p52 w53 => alerts_Set_Firing.S9 K s_2 (some p50) (some p52) undef w53
def alerts_Set_Firing.cl : CL := fun args K w => match args with
  | [.pointer x0, .int .i64 x1] => C.alerts_Set_Firing x0 x1 w (alerts_Set_Firing.Kt K)
  | _ => False
theorem alerts_Set_Firing.clok : OkC pr 14 alerts_Set_Firing.cl := by
  intro args K w h
  unfold alerts_Set_Firing.cl at h
  split at h
  · exact calls_group true mixed alerts_Set_Firing.FOk_ alerts_Set_Firing.fn rfl 2 (alerts_Set_Firing.Q10 K) (Eq.mp (by kernel_rfl) h)
  · exact h.elim

/-! tocsin/tocsinlaw21.known -/
namespace tocsinlaw21_known
abbrev KT := Bool → World → Prop
def Kt (Kv : Value → World → Prop) : KT := fun b1 w => Kv (.bool b1) w
noncomputable def bd : Code := bdy Tryz.f6
theorem fn : FnOk pr 6 57 Tryz.f6 := ⟨Tryz.func6, by kernel_rfl, Tryz.ntmps6, by kernel_rfl, by kernel_rfl⟩
def F : Clee := ofL [(4, C.alerts_New.cl), (12, C.alerts_Set_Put.cl), (13, C.alerts_Set_Get.cl), (14, C.alerts_Set_Firing.cl)]
theorem FOk_ : FOk pr F := FOk_cons C.alerts_New.clok (FOk_cons C.alerts_Set_Put.clok (FOk_cons C.alerts_Set_Get.clok (FOk_cons C.alerts_Set_Firing.clok (FOk_nil))))
def P1 (Kv : Value → World → Prop) : Post := bodyK false pr 57 Tryz.f6 Kv
end tocsinlaw21_known
def tocsinlaw21_known (w : World) (K : tocsinlaw21_known.KT) : Prop :=
  C.alerts_New (100 : Int) (5 : Int) w fun p2 w3 => G.new (.cells #[(.string (⟨#[97]⟩ : ByteArray)), (.string (⟨#[49]⟩ : ByteArray))] 48) w3 fun p4 w5 => G.cond p2.isNone (K false w5) (C.alerts_Set_Put p2 (10 : Int) (⟨some p4, 1, 1⟩ : Sl) (0 : Int) (0 : Int) w5 fun n6 w7 => C.alerts_Set_Put p2 (50 : Int) (⟨some p4, 1, 1⟩ : Sl) (20 : Int) (0 : Int) w7 fun n8 w9 => C.alerts_Set_Get p2 (⟨some p4, 1, 1⟩ : Sl) w9 fun l10 n11 n12 b13 w14 => G.new (.cells #[nilS.v, (.int .i64 (0 : Int)), (.int .i64 (0 : Int))] 34) w14 fun p15 w16 => G.st p15 l10.v w16 fun w17 => G.st (p15.add 1) (.int .i64 n11) w17 fun w18 => G.st (p15.add 2) (.int .i64 n12) w18 fun w19 => G.cond (n6 == (0 : Int)) (G.cond (n8 == (0 : Int)) (G.cond b13 (G.cI .i64 (p15.add 1) w19 fun n20 => G.cond (n20 == (10 : Int)) (G.cI .i64 (p15.add 2) w19 fun n21 => G.cond (n21 == (150 : Int)) (C.alerts_Set_Firing p2 (149 : Int) w19 fun l22 w23 => G.cond (((l22.n : Nat) : Int) == (1 : Int)) (C.alerts_Set_Firing p2 (150 : Int) w23 fun l24 w25 => K (((l24.n : Nat) : Int) == (0 : Int)) w25) (K false w23)) (K false w19)) (K false w19)) (K false w19)) (K false w19)) (K false w19))
def tocsinlaw21_known.cl : CL := fun args K w => match args with
  | [] => C.tocsinlaw21_known w (tocsinlaw21_known.Kt K)
  | _ => False
theorem tocsinlaw21_known.clok : OkC pr 6 tocsinlaw21_known.cl := by
  intro args K w h
  unfold tocsinlaw21_known.cl at h
  split at h
  · exact calls_last false mixed tocsinlaw21_known.FOk_ tocsinlaw21_known.fn rfl (Eq.mp (by kernel_rfl) h)
  · exact h.elim

/-! tocsin/tocsinref04.side -/
namespace tocsinref04_side
abbrev KT := Int → World → Prop
def Kt (Kv : Value → World → Prop) : KT := fun n1 w => Kv (.int .i64 n1) w
noncomputable def bd : Code := bdy Tryz.f51
theorem fn : FnOk pr 51 11 Tryz.f51 := ⟨Tryz.func51, by kernel_rfl, Tryz.ntmps51, by kernel_rfl, by kernel_rfl⟩
def F : Clee := ofL []
theorem FOk_ : FOk pr F := FOk_nil
def P1 (Kv : Value → World → Prop) : Post := bodyK false pr 11 Tryz.f51 Kv
end tocsinref04_side
def tocsinref04_side (a_2 : ByteArray) (b_3 : ByteArray) (w : World) (K : tocsinref04_side.KT) : Prop :=
  G.cond (Op.bytesLess a_2.toList b_3.toList) (K (-1 : Int) w) (G.cond (!((Op.bytesLess a_2.toList b_3.toList) || (a_2.toList == b_3.toList))) (K (1 : Int) w) (K (0 : Int) w))
def tocsinref04_side.cl : CL := fun args K w => match args with
  | [.string x0, .string x1] => C.tocsinref04_side x0 x1 w (tocsinref04_side.Kt K)
  | _ => False
theorem tocsinref04_side.clok : OkC pr 51 tocsinref04_side.cl := by
  intro args K w h
  unfold tocsinref04_side.cl at h
  split at h
  · exact calls_last false mixed tocsinref04_side.FOk_ tocsinref04_side.fn rfl (Eq.mp (by kernel_rfl) h)
  · exact h.elim

/-! tocsin/tocsinref04.Compare -/
namespace tocsinref04_Compare
abbrev KT := Int → World → Prop
def Kt (Kv : Value → World → Prop) : KT := fun n1 w => Kv (.int .i64 n1) w
noncomputable def bd : Code := bdy Tryz.f39
theorem fn : FnOk pr 39 58 Tryz.f39 := ⟨Tryz.func39, by kernel_rfl, Tryz.ntmps39, by kernel_rfl, by kernel_rfl⟩
def F : Clee := ofL [(51, C.tocsinref04_side.cl)]
theorem FOk_ : FOk pr F := FOk_cons C.tocsinref04_side.clok (FOk_nil)
def P1 (Kv : Value → World → Prop) : Post := bodyK false pr 58 Tryz.f39 Kv
@[reducible] def g2 : List SE := [.v 0 .sl, .v 1 .sl]
def S2 (K : KT) (a_4 : Sl) (b_5 : Sl) (w : World) : Prop :=
  G.cond (decide (((a_4.n : Nat) : Int) < ((b_5.n : Nat) : Int))) (K (-1 : Int) w) (G.cond (decide (((a_4.n : Nat) : Int) > ((b_5.n : Nat) : Int))) (K (1 : Int) w) (K (0 : Int) w))
theorem S2_ok (Kv : Value → World → Prop) : OkT pr false none 58 g2 (S2 (Kt Kv)) (s2 (tl 1 bd)) (P1 Kv) := ok_last mixed FOk_ fun v ρ w => by kernel_rfl
def P3 (Kv : Value → World → Prop) : Post := next (get g2 (S2 (Kt Kv))) (P1 Kv)
def P4 (Kv : Value → World → Prop) : Post := inBlock 0 (P3 Kv)
@[reducible] def g5 : List SE := [.v 0 .sl, .v 1 .sl, .v 5 (.int .i64)]
def P6 (Kv : Value → World → Prop) (kc5 : Cur g5) : Post := next (get g5 kc5) (P4 Kv)
def S7 (K : KT) (kc5 : Cur g5) (a_12 : Sl) (b_13 : Sl) (i_14 : Int) (w : World) : Prop :=
  G.cond (decide (i_14 < ((a_12.n : Nat) : Int))) (G.cond (decide (i_14 < ((b_13.n : Nat) : Int))) (G.ix a_12.a a_12.n i_14 2 fun p15 => G.cS p15 w.drew fun s16 => G.ix b_13.a b_13.n i_14 2 fun p17 => G.cS p17 w.drew fun s18 => C.tocsinref04_side s16 s18 w.drew fun n19 w20 => G.cond (n19 != (0 : Int)) (K n19 w20) (G.ix a_12.a a_12.n i_14 2 fun p21 => G.cS (p21.add 1) w20.drew fun s22 => G.ix b_13.a b_13.n i_14 2 fun p23 => G.cS (p23.add 1) w20.drew fun s24 => C.tocsinref04_side s22 s24 w20.drew fun n25 w26 => G.cond (n25 != (0 : Int)) (K n25 w26) (kc5 a_12 b_13 (IntKind.i64.wrap (i_14 + (1 : Int))) w26))) (S2 K a_12 b_13 w)) (S2 K a_12 b_13 w)
theorem S7_ok (Kv : Value → World → Prop) (kc5 : Cur g5) : OkT pr false none 58 g5 (S7 (Kt Kv) kc5) (lp (blk (tl 1 (s1 (tl 1 bd))))) (P6 Kv kc5) := ok_last mixed FOk_ fun v ρ w => by kernel_rfl
def L5 (K : KT) : Cur g5 := loopC g5 (S7 K)
theorem L5_ok (Kv : Value → World → Prop) : OkT pr false none 58 g5 (L5 (Kt Kv)) (blk (tl 1 (s1 (tl 1 bd)))) (P4 Kv) := ok_loop (B := S7 (Kt Kv)) (by kernel_rfl) fun kc => S7_ok Kv kc
theorem L5_ind {K : KT} {a_6 : Sl} {b_7 : Sl} {i_8 : Int} {w : World} (h : ∀ X : Cur g5, (∀ a_6 b_7 i_8 w, S7 K X a_6 b_7 i_8 w → X a_6 b_7 i_8 w) → X a_6 b_7 i_8 w) : L5 K a_6 b_7 i_8 w := fun X hX => h X fun a_6 b_7 i_8 w hb => hX (a_6, b_7, i_8, ()) w hb
theorem B8 (Kv : Value → World → Prop) : OkT pr false none 58 g5 (L5 (Kt Kv)) (tl 1 (s1 (tl 1 bd))) (P3 Kv) := ok_block 0 (by kernel_rfl) (L5_ok Kv)
def S9 (K : KT) (a_27 : Sl) (b_28 : Sl) (w : World) : Prop :=
  L5 K a_27 b_28 (0 : Int) w
theorem S9_ok (Kv : Value → World → Prop) : OkT pr false none 58 g2 (S9 (Kt Kv)) (s1 (tl 1 bd)) (P3 Kv) := ok_group mixed FOk_ 1 (B8 Kv) fun v ρ w => by kernel_rfl
theorem Q10 (Kv : Value → World → Prop) : OkT pr false none 58 g2 (S9 (Kt Kv)) (tl 1 bd) (P1 Kv) := ok_seq (by kernel_rfl) (S2_ok Kv) (S9_ok Kv)
end tocsinref04_Compare
def tocsinref04_Compare (a_2 : Sl) (b_3 : Sl) (w : World) (K : tocsinref04_Compare.KT) : Prop :=
  tocsinref04_Compare.S9 K a_2 b_3 w
def tocsinref04_Compare.cl : CL := fun args K w => match args with
  | [.slice x0_a x0_n x0_c, .slice x1_a x1_n x1_c] => C.tocsinref04_Compare ⟨x0_a, x0_n, x0_c⟩ ⟨x1_a, x1_n, x1_c⟩ w (tocsinref04_Compare.Kt K)
  | _ => False
theorem tocsinref04_Compare.clok : OkC pr 39 tocsinref04_Compare.cl := by
  intro args K w h
  unfold tocsinref04_Compare.cl at h
  split at h
  · exact calls_group false mixed tocsinref04_Compare.FOk_ tocsinref04_Compare.fn rfl 1 (tocsinref04_Compare.Q10 K) (Eq.mp (by kernel_rfl) h)
  · exact h.elim

/-! tocsin/tocsinref04.Same -/
namespace tocsinref04_Same
abbrev KT := Bool → World → Prop
def Kt (Kv : Value → World → Prop) : KT := fun b1 w => Kv (.bool b1) w
noncomputable def bd : Code := bdy Tryz.f22
theorem fn : FnOk pr 22 9 Tryz.f22 := ⟨Tryz.func22, by kernel_rfl, Tryz.ntmps22, by kernel_rfl, by kernel_rfl⟩
def F : Clee := ofL [(39, C.tocsinref04_Compare.cl)]
theorem FOk_ : FOk pr F := FOk_cons C.tocsinref04_Compare.clok (FOk_nil)
def P1 (Kv : Value → World → Prop) : Post := bodyK false pr 9 Tryz.f22 Kv
end tocsinref04_Same
def tocsinref04_Same (a_2 : Sl) (b_3 : Sl) (w : World) (K : tocsinref04_Same.KT) : Prop :=
  C.tocsinref04_Compare a_2 b_3 w fun n4 w5 => K (n4 == (0 : Int)) w5
def tocsinref04_Same.cl : CL := fun args K w => match args with
  | [.slice x0_a x0_n x0_c, .slice x1_a x1_n x1_c] => C.tocsinref04_Same ⟨x0_a, x0_n, x0_c⟩ ⟨x1_a, x1_n, x1_c⟩ w (tocsinref04_Same.Kt K)
  | _ => False
theorem tocsinref04_Same.clok : OkC pr 22 tocsinref04_Same.cl := by
  intro args K w h
  unfold tocsinref04_Same.cl at h
  split at h
  · exact calls_last false mixed tocsinref04_Same.FOk_ tocsinref04_Same.fn rfl (Eq.mp (by kernel_rfl) h)
  · exact h.elim

/-! tocsin/tocsinref21.Same -/
namespace tocsinref21_Same
abbrev KT := Bool → World → Prop
def Kt (Kv : Value → World → Prop) : KT := fun b1 w => Kv (.bool b1) w
noncomputable def bd : Code := bdy Tryz.f10
theorem fn : FnOk pr 10 55 Tryz.f10 := ⟨Tryz.func10, by kernel_rfl, Tryz.ntmps10, by kernel_rfl, by kernel_rfl⟩
def F : Clee := ofL [(22, C.tocsinref04_Same.cl)]
theorem FOk_ : FOk pr F := FOk_cons C.tocsinref04_Same.clok (FOk_nil)
def P1 (Kv : Value → World → Prop) : Post := bodyK false pr 55 Tryz.f10 Kv
@[reducible] def g2 : List SE := []
def S2 (K : KT) (w : World) : Prop :=
  K true w
theorem S2_ok (Kv : Value → World → Prop) : OkT pr false none 55 g2 (S2 (Kt Kv)) (s2 (tl 2 bd)) (P1 Kv) := ok_last mixed FOk_ fun v ρ w => by kernel_rfl
def P3 (Kv : Value → World → Prop) : Post := next (get g2 (S2 (Kt Kv))) (P1 Kv)
def P4 (Kv : Value → World → Prop) : Post := inBlock 0 (P3 Kv)
@[reducible] def g5 : List SE := [.v 0 .sl, .v 1 .sl, .v 5 (.int .i64)]
def P6 (Kv : Value → World → Prop) (kc5 : Cur g5) : Post := next (get g5 kc5) (P4 Kv)
def S7 (K : KT) (kc5 : Cur g5) (a_10 : Sl) (b_11 : Sl) (i_12 : Int) (w : World) : Prop :=
  G.cond (decide (i_12 < ((a_10.n : Nat) : Int))) (G.ix a_10.a a_10.n i_12 3 fun p13 => G.cSl p13 w.drew fun l14 => G.ix b_11.a b_11.n i_12 3 fun p15 => G.cSl p15 w.drew fun l16 => C.tocsinref04_Same l14 l16 w.drew fun b17 w18 => G.cond (!b17) (K false w18) (G.ix a_10.a a_10.n i_12 3 fun p19 => G.cI .i64 (p19.add 1) w18 fun n20 => G.ix b_11.a b_11.n i_12 3 fun p21 => G.cI .i64 (p21.add 1) w18 fun n22 => G.cond (n20 != n22) (K false w18) (G.ix a_10.a a_10.n i_12 3 fun p23 => G.cI .i64 (p23.add 2) w18 fun n24 => G.ix b_11.a b_11.n i_12 3 fun p25 => G.cI .i64 (p25.add 2) w18 fun n26 => G.cond (n24 != n26) (K false w18) (kc5 a_10 b_11 (IntKind.i64.wrap (i_12 + (1 : Int))) w18)))) (S2 K w)
theorem S7_ok (Kv : Value → World → Prop) (kc5 : Cur g5) : OkT pr false none 55 g5 (S7 (Kt Kv) kc5) (lp (blk (tl 1 (s1 (tl 2 bd))))) (P6 Kv kc5) := ok_last mixed FOk_ fun v ρ w => by kernel_rfl
def L5 (K : KT) : Cur g5 := loopC g5 (S7 K)
theorem L5_ok (Kv : Value → World → Prop) : OkT pr false none 55 g5 (L5 (Kt Kv)) (blk (tl 1 (s1 (tl 2 bd)))) (P4 Kv) := ok_loop (B := S7 (Kt Kv)) (by kernel_rfl) fun kc => S7_ok Kv kc
theorem L5_ind {K : KT} {a_4 : Sl} {b_5 : Sl} {i_6 : Int} {w : World} (h : ∀ X : Cur g5, (∀ a_4 b_5 i_6 w, S7 K X a_4 b_5 i_6 w → X a_4 b_5 i_6 w) → X a_4 b_5 i_6 w) : L5 K a_4 b_5 i_6 w := fun X hX => h X fun a_4 b_5 i_6 w hb => hX (a_4, b_5, i_6, ()) w hb
theorem B8 (Kv : Value → World → Prop) : OkT pr false none 55 g5 (L5 (Kt Kv)) (tl 1 (s1 (tl 2 bd))) (P3 Kv) := ok_block 0 (by kernel_rfl) (L5_ok Kv)
@[reducible] def g9 : List SE := [.v 0 .sl, .v 1 .sl]
def S9 (K : KT) (a_27 : Sl) (b_28 : Sl) (w : World) : Prop :=
  L5 K a_27 b_28 (0 : Int) w
theorem S9_ok (Kv : Value → World → Prop) : OkT pr false none 55 g9 (S9 (Kt Kv)) (s1 (tl 2 bd)) (P3 Kv) := ok_group mixed FOk_ 1 (B8 Kv) fun v ρ w => by kernel_rfl
theorem Q10 (Kv : Value → World → Prop) : OkT pr false none 55 g9 (S9 (Kt Kv)) (tl 2 bd) (P1 Kv) := ok_seq (by kernel_rfl) (S2_ok Kv) (S9_ok Kv)
end tocsinref21_Same
def tocsinref21_Same (a_2 : Sl) (b_3 : Sl) (w : World) (K : tocsinref21_Same.KT) : Prop :=
  G.cond (((a_2.n : Nat) : Int) != ((b_3.n : Nat) : Int)) (K false w) (tocsinref21_Same.S9 K a_2 b_3 w)
def tocsinref21_Same.cl : CL := fun args K w => match args with
  | [.slice x0_a x0_n x0_c, .slice x1_a x1_n x1_c] => C.tocsinref21_Same ⟨x0_a, x0_n, x0_c⟩ ⟨x1_a, x1_n, x1_c⟩ w (tocsinref21_Same.Kt K)
  | _ => False
theorem tocsinref21_Same.clok : OkC pr 10 tocsinref21_Same.cl := by
  intro args K w h
  unfold tocsinref21_Same.cl at h
  split at h
  · exact calls_group false mixed tocsinref21_Same.FOk_ tocsinref21_Same.fn rfl 2 (tocsinref21_Same.Q10 K) (Eq.mp (by kernel_rfl) h)
  · exact h.elim

/-! tocsin/tocsinref09.Own -/
namespace tocsinref09_Own
abbrev KT := Sl → World → Prop
def Kt (Kv : Value → World → Prop) : KT := fun l1 w => Kv l1.v w
noncomputable def bd : Code := bdy Tryz.f21
theorem fn : FnOk pr 21 8 Tryz.f21 := ⟨Tryz.func21, by kernel_rfl, Tryz.ntmps21, by kernel_rfl, by kernel_rfl⟩
def F : Clee := ofL []
theorem FOk_ : FOk pr F := FOk_nil
def P1 (Kv : Value → World → Prop) : Post := bodyK false pr 8 Tryz.f21 Kv
end tocsinref09_Own
def tocsinref09_Own (l_2 : Sl) (w : World) (K : tocsinref09_Own.KT) : Prop :=
  G.runSl pr (Builtin.append_ #[32, 32] 32 #[nilS.v, l_2.v]) w fun l3 w4 => K l3 w4
def tocsinref09_Own.cl : CL := fun args K w => match args with
  | [.slice x0_a x0_n x0_c] => C.tocsinref09_Own ⟨x0_a, x0_n, x0_c⟩ w (tocsinref09_Own.Kt K)
  | _ => False
theorem tocsinref09_Own.clok : OkC pr 21 tocsinref09_Own.cl := by
  intro args K w h
  unfold tocsinref09_Own.cl at h
  split at h
  · exact calls_last false mixed tocsinref09_Own.FOk_ tocsinref09_Own.fn rfl (Eq.mp (by kernel_rfl) h)
  · exact h.elim

/-! tocsin/tocsinref21.At -/
namespace tocsinref21_At
abbrev KT := Int → Bool → World → Prop
def Kt (Kv : Value → World → Prop) : KT := fun n1 b2 w => Kv (.tuple #[(.int .i64 n1), (.bool b2)]) w
noncomputable def bd : Code := bdy Tryz.f26
theorem fn : FnOk pr 26 38 Tryz.f26 := ⟨Tryz.func26, by kernel_rfl, Tryz.ntmps26, by kernel_rfl, by kernel_rfl⟩
def F : Clee := ofL [(22, C.tocsinref04_Same.cl), (39, C.tocsinref04_Compare.cl)]
theorem FOk_ : FOk pr F := FOk_cons C.tocsinref04_Same.clok (FOk_cons C.tocsinref04_Compare.clok (FOk_nil))
def P1 (Kv : Value → World → Prop) : Post := bodyK false pr 38 Tryz.f26 Kv
@[reducible] def g2 : List SE := [.v 0 .sl, .v 1 .sl, .v 6 (.int .i64)]
def S2 (K : KT) (l_5 : Sl) (x_6 : Sl) (k_7 : Int) (w : World) : Prop :=
  G.cond (decide (k_7 < ((l_5.n : Nat) : Int))) (G.ix l_5.a l_5.n k_7 3 fun p8 => G.cSl p8 w fun l9 => C.tocsinref04_Same l9 x_6 w fun b10 w11 => K k_7 b10 w11) (K k_7 false w)
theorem S2_ok (Kv : Value → World → Prop) : OkT pr false none 38 g2 (S2 (Kt Kv)) (s2 (tl 2 bd)) (P1 Kv) := ok_last mixed FOk_ fun v ρ w => by kernel_rfl
def P3 (Kv : Value → World → Prop) : Post := next (get g2 (S2 (Kt Kv))) (P1 Kv)
def P4 (Kv : Value → World → Prop) : Post := inBlock 0 (P3 Kv)
def P6 (Kv : Value → World → Prop) (kc5 : Cur g2) : Post := next (get g2 kc5) (P4 Kv)
def S7 (K : KT) (kc5 : Cur g2) (l_15 : Sl) (x_16 : Sl) (k_17 : Int) (w : World) : Prop :=
  G.cond (decide (k_17 > (0 : Int))) (G.ix l_15.a l_15.n (IntKind.i64.wrap (k_17 - (1 : Int))) 3 fun p18 => G.cSl p18 w fun l19 => C.tocsinref04_Compare l19 x_16 w fun n20 w21 => G.cond (decide (n20 ≥ (0 : Int))) (kc5 l_15 x_16 (IntKind.i64.wrap (k_17 - (1 : Int))) w21) (S2 K l_15 x_16 k_17 w21)) (S2 K l_15 x_16 k_17 w)
theorem S7_ok (Kv : Value → World → Prop) (kc5 : Cur g2) : OkT pr false none 38 g2 (S7 (Kt Kv) kc5) (lp (blk (s1 (tl 2 bd)))) (P6 Kv kc5) := ok_last mixed FOk_ fun v ρ w => by kernel_rfl
def L5 (K : KT) : Cur g2 := loopC g2 (S7 K)
theorem L5_ok (Kv : Value → World → Prop) : OkT pr false none 38 g2 (L5 (Kt Kv)) (blk (s1 (tl 2 bd))) (P4 Kv) := ok_loop (B := S7 (Kt Kv)) (by kernel_rfl) fun kc => S7_ok Kv kc
theorem L5_ind {K : KT} {l_12 : Sl} {x_13 : Sl} {k_14 : Int} {w : World} (h : ∀ X : Cur g2, (∀ l_12 x_13 k_14 w, S7 K X l_12 x_13 k_14 w → X l_12 x_13 k_14 w) → X l_12 x_13 k_14 w) : L5 K l_12 x_13 k_14 w := fun X hX => h X fun l_12 x_13 k_14 w hb => hX (l_12, x_13, k_14, ()) w hb
theorem B8 (Kv : Value → World → Prop) : OkT pr false none 38 g2 (L5 (Kt Kv)) (s1 (tl 2 bd)) (P3 Kv) := ok_block 0 (by kernel_rfl) (L5_ok Kv)
theorem Q9 (Kv : Value → World → Prop) : OkT pr false none 38 g2 (L5 (Kt Kv)) (tl 2 bd) (P1 Kv) := ok_seq (by kernel_rfl) (S2_ok Kv) (B8 Kv)
end tocsinref21_At
def tocsinref21_At (l_3 : Sl) (x_4 : Sl) (w : World) (K : tocsinref21_At.KT) : Prop :=
  tocsinref21_At.L5 K l_3 x_4 ((l_3.n : Nat) : Int) w
def tocsinref21_At.cl : CL := fun args K w => match args with
  | [.slice x0_a x0_n x0_c, .slice x1_a x1_n x1_c] => C.tocsinref21_At ⟨x0_a, x0_n, x0_c⟩ ⟨x1_a, x1_n, x1_c⟩ w (tocsinref21_At.Kt K)
  | _ => False
theorem tocsinref21_At.clok : OkC pr 26 tocsinref21_At.cl := by
  intro args K w h
  unfold tocsinref21_At.cl at h
  split at h
  · exact calls_group false mixed tocsinref21_At.FOk_ tocsinref21_At.fn rfl 2 (tocsinref21_At.Q9 K) (Eq.mp (by kernel_rfl) h)
  · exact h.elim

/-! tocsin/tocsinref21.Time -/
namespace tocsinref21_Time
abbrev KT := Bool → World → Prop
def Kt (Kv : Value → World → Prop) : KT := fun b1 w => Kv (.bool b1) w
noncomputable def bd : Code := bdy Tryz.f40
theorem fn : FnOk pr 40 9 Tryz.f40 := ⟨Tryz.func40, by kernel_rfl, Tryz.ntmps40, by kernel_rfl, by kernel_rfl⟩
def F : Clee := ofL []
theorem FOk_ : FOk pr F := FOk_nil
def P1 (Kv : Value → World → Prop) : Post := bodyK false pr 9 Tryz.f40 Kv
end tocsinref21_Time
def tocsinref21_Time (t_2 : Int) (w : World) (K : tocsinref21_Time.KT) : Prop :=
  G.cond (decide (t_2 ≥ (0 : Int))) (K (decide (t_2 ≤ (1125899906842624 : Int))) w) (K false w)
def tocsinref21_Time.cl : CL := fun args K w => match args with
  | [.int .i64 x0] => C.tocsinref21_Time x0 w (tocsinref21_Time.Kt K)
  | _ => False
theorem tocsinref21_Time.clok : OkC pr 40 tocsinref21_Time.cl := by
  intro args K w h
  unfold tocsinref21_Time.cl at h
  split at h
  · exact calls_last false mixed tocsinref21_Time.FOk_ tocsinref21_Time.fn rfl (Eq.mp (by kernel_rfl) h)
  · exact h.elim

/-! tocsin/tocsinref04.letter -/
namespace tocsinref04_letter
abbrev KT := Bool → World → Prop
def Kt (Kv : Value → World → Prop) : KT := fun b1 w => Kv (.bool b1) w
noncomputable def bd : Code := bdy Tryz.f85
theorem fn : FnOk pr 85 21 Tryz.f85 := ⟨Tryz.func85, by kernel_rfl, Tryz.ntmps85, by kernel_rfl, by kernel_rfl⟩
def F : Clee := ofL []
theorem FOk_ : FOk pr F := FOk_nil
def P1 (Kv : Value → World → Prop) : Post := bodyK false pr 21 Tryz.f85 Kv
end tocsinref04_letter
def tocsinref04_letter (c_2 : Int) (w : World) (K : tocsinref04_letter.KT) : Prop :=
  G.cond (decide (c_2 ≥ (97 : Int))) (G.cond (decide (c_2 ≤ (122 : Int))) (K true w) (G.cond (decide (c_2 ≥ (65 : Int))) (G.cond (decide (c_2 ≤ (90 : Int))) (K true w) (K (c_2 == (95 : Int)) w)) (K (c_2 == (95 : Int)) w))) (G.cond (decide (c_2 ≥ (65 : Int))) (G.cond (decide (c_2 ≤ (90 : Int))) (K true w) (K (c_2 == (95 : Int)) w)) (K (c_2 == (95 : Int)) w))
def tocsinref04_letter.cl : CL := fun args K w => match args with
  | [.int .u8 x0] => C.tocsinref04_letter x0 w (tocsinref04_letter.Kt K)
  | _ => False
theorem tocsinref04_letter.clok : OkC pr 85 tocsinref04_letter.cl := by
  intro args K w h
  unfold tocsinref04_letter.cl at h
  split at h
  · exact calls_last false mixed tocsinref04_letter.FOk_ tocsinref04_letter.fn rfl (Eq.mp (by kernel_rfl) h)
  · exact h.elim

/-! tocsin/tocsinref04.digit -/
namespace tocsinref04_digit
abbrev KT := Bool → World → Prop
def Kt (Kv : Value → World → Prop) : KT := fun b1 w => Kv (.bool b1) w
noncomputable def bd : Code := bdy Tryz.f86
theorem fn : FnOk pr 86 9 Tryz.f86 := ⟨Tryz.func86, by kernel_rfl, Tryz.ntmps86, by kernel_rfl, by kernel_rfl⟩
def F : Clee := ofL []
theorem FOk_ : FOk pr F := FOk_nil
def P1 (Kv : Value → World → Prop) : Post := bodyK false pr 9 Tryz.f86 Kv
end tocsinref04_digit
def tocsinref04_digit (c_2 : Int) (w : World) (K : tocsinref04_digit.KT) : Prop :=
  G.cond (decide (c_2 ≥ (48 : Int))) (K (decide (c_2 ≤ (57 : Int))) w) (K false w)
def tocsinref04_digit.cl : CL := fun args K w => match args with
  | [.int .u8 x0] => C.tocsinref04_digit x0 w (tocsinref04_digit.Kt K)
  | _ => False
theorem tocsinref04_digit.clok : OkC pr 86 tocsinref04_digit.cl := by
  intro args K w h
  unfold tocsinref04_digit.cl at h
  split at h
  · exact calls_last false mixed tocsinref04_digit.FOk_ tocsinref04_digit.fn rfl (Eq.mp (by kernel_rfl) h)
  · exact h.elim

/-! tocsin/tocsinref04.Name -/
namespace tocsinref04_Name
abbrev KT := Bool → World → Prop
def Kt (Kv : Value → World → Prop) : KT := fun b1 w => Kv (.bool b1) w
noncomputable def bd : Code := bdy Tryz.f71
theorem fn : FnOk pr 71 33 Tryz.f71 := ⟨Tryz.func71, by kernel_rfl, Tryz.ntmps71, by kernel_rfl, by kernel_rfl⟩
def F : Clee := ofL [(85, C.tocsinref04_letter.cl), (86, C.tocsinref04_digit.cl)]
theorem FOk_ : FOk pr F := FOk_cons C.tocsinref04_letter.clok (FOk_cons C.tocsinref04_digit.clok (FOk_nil))
def P1 (Kv : Value → World → Prop) : Post := bodyK false pr 33 Tryz.f71 Kv
@[reducible] def g2 : List SE := []
def S2 (K : KT) (w : World) : Prop :=
  K true w
theorem S2_ok (Kv : Value → World → Prop) : OkT pr false none 33 g2 (S2 (Kt Kv)) (s2 (tl 2 bd)) (P1 Kv) := ok_last mixed FOk_ fun v ρ w => by kernel_rfl
def P3 (Kv : Value → World → Prop) : Post := next (get g2 (S2 (Kt Kv))) (P1 Kv)
def P4 (Kv : Value → World → Prop) : Post := inBlock 0 (P3 Kv)
@[reducible] def g5 : List SE := [.v 0 .str, .v 12 (.int .i64), .v 13 (.int .i64)]
def P6 (Kv : Value → World → Prop) (kc5 : Cur g5) : Post := next (get g5 kc5) (P4 Kv)
def S7 (K : KT) (kc5 : Cur g5) (s_9 : ByteArray) (n10 : Int) (n11 : Int) (w : World) : Prop :=
  G.cond (decide (n11 < n10)) (G.ixS s_9 n11 fun n12 => C.tocsinref04_letter n12 w fun b13 w14 => G.cond (!b13) (G.cond (n11 == (0 : Int)) (K false w14) (G.ixS s_9 n11 fun n15 => C.tocsinref04_digit n15 w14 fun b16 w17 => G.cond (!b16) (K false w17) (kc5 s_9 n10 (IntKind.i64.wrap (n11 + (1 : Int))) w17))) (kc5 s_9 n10 (IntKind.i64.wrap (n11 + (1 : Int))) w14)) (S2 K w)
theorem S7_ok (Kv : Value → World → Prop) (kc5 : Cur g5) : OkT pr false none 33 g5 (S7 (Kt Kv) kc5) (lp (blk (tl 1 (s1 (tl 2 bd))))) (P6 Kv kc5) := ok_last mixed FOk_ fun v ρ w => by kernel_rfl
def L5 (K : KT) : Cur g5 := loopC g5 (S7 K)
theorem L5_ok (Kv : Value → World → Prop) : OkT pr false none 33 g5 (L5 (Kt Kv)) (blk (tl 1 (s1 (tl 2 bd)))) (P4 Kv) := ok_loop (B := S7 (Kt Kv)) (by kernel_rfl) fun kc => S7_ok Kv kc
theorem L5_ind {K : KT} {s_3 : ByteArray} {n4 : Int} {n5 : Int} {w : World} (h : ∀ X : Cur g5, (∀ s_3 n4 n5 w, S7 K X s_3 n4 n5 w → X s_3 n4 n5 w) → X s_3 n4 n5 w) : L5 K s_3 n4 n5 w := fun X hX => h X fun s_3 n4 n5 w hb => hX (s_3, n4, n5, ()) w hb
theorem B8 (Kv : Value → World → Prop) : OkT pr false none 33 g5 (L5 (Kt Kv)) (tl 1 (s1 (tl 2 bd))) (P3 Kv) := ok_block 0 (by kernel_rfl) (L5_ok Kv)
@[reducible] def g9 : List SE := [.v 0 .str]
def S9 (K : KT) (s_18 : ByteArray) (w : World) : Prop :=
  L5 K s_18 ((s_18.size : Nat) : Int) (0 : Int) w
theorem S9_ok (Kv : Value → World → Prop) : OkT pr false none 33 g9 (S9 (Kt Kv)) (s1 (tl 2 bd)) (P3 Kv) := ok_group mixed FOk_ 1 (B8 Kv) fun v ρ w => by kernel_rfl
theorem Q10 (Kv : Value → World → Prop) : OkT pr false none 33 g9 (S9 (Kt Kv)) (tl 2 bd) (P1 Kv) := ok_seq (by kernel_rfl) (S2_ok Kv) (S9_ok Kv)
end tocsinref04_Name
def tocsinref04_Name (s_2 : ByteArray) (w : World) (K : tocsinref04_Name.KT) : Prop :=
  G.cond (s_2.toList == (⟨#[]⟩ : ByteArray).toList) (K false w) (G.cond (decide (((s_2.size : Nat) : Int) > (64 : Int))) (K false w) (tocsinref04_Name.S9 K s_2 w))
def tocsinref04_Name.cl : CL := fun args K w => match args with
  | [.string x0] => C.tocsinref04_Name x0 w (tocsinref04_Name.Kt K)
  | _ => False
theorem tocsinref04_Name.clok : OkC pr 71 tocsinref04_Name.cl := by
  intro args K w h
  unfold tocsinref04_Name.cl at h
  split at h
  · exact calls_group false mixed tocsinref04_Name.FOk_ tocsinref04_Name.fn rfl 2 (tocsinref04_Name.Q10 K) (Eq.mp (by kernel_rfl) h)
  · exact h.elim

/-! tocsin/tocsinref01.Utf8 -/
namespace tocsinref01_Utf8
abbrev KT := Bool → World → Prop
def Kt (Kv : Value → World → Prop) : KT := fun b1 w => Kv (.bool b1) w
noncomputable def bd : Code := bdy Tryz.f72
theorem fn : FnOk pr 72 98 Tryz.f72 := ⟨Tryz.func72, by kernel_rfl, Tryz.ntmps72, by kernel_rfl, by kernel_rfl⟩
def F : Clee := ofL []
theorem FOk_ : FOk pr F := FOk_nil
def P1 (Kv : Value → World → Prop) : Post := bodyK false pr 98 Tryz.f72 Kv
@[reducible] def g2 : List SE := []
def S2 (K : KT) (w : World) : Prop :=
  K true w
theorem S2_ok (Kv : Value → World → Prop) : OkT pr false none 98 g2 (S2 (Kt Kv)) (s2 (tl 1 bd)) (P1 Kv) := ok_last mixed FOk_ fun v ρ w => by kernel_rfl
def P3 (Kv : Value → World → Prop) : Post := next (get g2 (S2 (Kt Kv))) (P1 Kv)
def P4 (Kv : Value → World → Prop) : Post := inBlock 0 (P3 Kv)
@[reducible] def g5 : List SE := [.v 0 .str, .v 3 (.int .i64)]
def P6 (Kv : Value → World → Prop) (kc5 : Cur g5) : Post := next (get g5 kc5) (P4 Kv)
def P7 (Kv : Value → World → Prop) (kc5 : Cur g5) : Post := inBlock 1 (P6 Kv kc5)
@[reducible] def g8 : List SE := [.v 0 .str, .v 3 (.int .i64), .v 5 (.int .i64), .v 6 (.int .i64), .v 7 (.int .i64)]
def S8 (K : KT) (kc5 : Cur g5) (s_5 : ByteArray) (i_6 : Int) (n_7 : Int) (least_8 : Int) (r_9 : Int) (w : World) : Prop :=
  G.cond (decide (r_9 < least_8)) (K false w) (G.cond (decide (r_9 > (1114111 : Int))) (K false w) (G.cond (decide (r_9 ≥ (55296 : Int))) (G.cond (decide (r_9 < (57344 : Int))) (K false w) (kc5 s_5 (IntKind.i64.wrap ((IntKind.i64.wrap (i_6 + n_7)) + (1 : Int))) w)) (kc5 s_5 (IntKind.i64.wrap ((IntKind.i64.wrap (i_6 + n_7)) + (1 : Int))) w)))
theorem S8_ok (Kv : Value → World → Prop) (kc5 : Cur g5) : OkT pr false none 98 g8 (S8 (Kt Kv) kc5) (s2 (tl 5 (blk (tl 1 (lp (blk (tl 1 (s1 (tl 1 bd))))))))) (P7 Kv kc5) := ok_last mixed FOk_ fun v ρ w => by kernel_rfl
def P9 (Kv : Value → World → Prop) (kc5 : Cur g5) : Post := next (get g8 (S8 (Kt Kv) kc5)) (P7 Kv kc5)
def P10 (Kv : Value → World → Prop) (kc5 : Cur g5) : Post := inBlock 3 (P9 Kv kc5)
@[reducible] def g11 : List SE := [.v 0 .str, .v 3 (.int .i64), .v 5 (.int .i64), .v 6 (.int .i64), .v 7 (.int .i64), .v 8 (.int .i64)]
def P12 (Kv : Value → World → Prop) (kc5 : Cur g5) (kc11 : Cur g11) : Post := next (get g11 kc11) (P10 Kv kc5)
def S13 (K : KT) (kc5 : Cur g5) (kc11 : Cur g11) (s_22 : ByteArray) (i_23 : Int) (n_24 : Int) (least_25 : Int) (r_26 : Int) (k_27 : Int) (w : World) : Prop :=
  G.cond (decide (k_27 ≤ n_24)) (G.cond (decide ((IntKind.i64.wrap (i_23 + k_27)) ≥ ((s_22.size : Nat) : Int))) (K false w) (G.ixS s_22 (IntKind.i64.wrap (i_23 + k_27)) fun n28 => G.cond ((Go.bits .and .u8 n28 (192 : Int)) != (128 : Int)) (K false w) (G.ixS s_22 (IntKind.i64.wrap (i_23 + k_27)) fun n29 => kc11 s_22 i_23 n_24 least_25 (IntKind.i64.wrap ((IntKind.i64.wrap (r_26 * (64 : Int))) + (IntKind.i64.wrap (Go.bits .and .u8 n29 (63 : Int))))) (IntKind.i64.wrap (k_27 + (1 : Int))) w))) (S8 K kc5 s_22 i_23 n_24 least_25 r_26 w)
theorem S13_ok (Kv : Value → World → Prop) (kc5 : Cur g5) (kc11 : Cur g11) : OkT pr false none 98 g11 (S13 (Kt Kv) kc5 kc11) (lp (blk (tl 1 (s1 (tl 5 (blk (tl 1 (lp (blk (tl 1 (s1 (tl 1 bd)))))))))))) (P12 Kv kc5 kc11) := ok_last mixed FOk_ fun v ρ w => by kernel_rfl
def L11 (K : KT) (kc5 : Cur g5) : Cur g11 := loopC g11 (S13 K kc5)
theorem L11_ok (Kv : Value → World → Prop) (kc5 : Cur g5) : OkT pr false none 98 g11 (L11 (Kt Kv) kc5) (blk (tl 1 (s1 (tl 5 (blk (tl 1 (lp (blk (tl 1 (s1 (tl 1 bd))))))))))) (P10 Kv kc5) := ok_loop (B := S13 (Kt Kv) kc5) (by kernel_rfl) fun kc => S13_ok Kv kc5 kc
theorem L11_ind {K : KT} {kc5 : Cur g5} {s_10 : ByteArray} {i_11 : Int} {n_12 : Int} {least_13 : Int} {r_14 : Int} {k_15 : Int} {w : World} (h : ∀ X : Cur g11, (∀ s_10 i_11 n_12 least_13 r_14 k_15 w, S13 K kc5 X s_10 i_11 n_12 least_13 r_14 k_15 w → X s_10 i_11 n_12 least_13 r_14 k_15 w) → X s_10 i_11 n_12 least_13 r_14 k_15 w) : L11 K kc5 s_10 i_11 n_12 least_13 r_14 k_15 w := fun X hX => h X fun s_10 i_11 n_12 least_13 r_14 k_15 w hb => hX (s_10, i_11, n_12, least_13, r_14, k_15, ()) w hb
theorem B14 (Kv : Value → World → Prop) (kc5 : Cur g5) : OkT pr false none 98 g11 (L11 (Kt Kv) kc5) (tl 1 (s1 (tl 5 (blk (tl 1 (lp (blk (tl 1 (s1 (tl 1 bd)))))))))) (P9 Kv kc5) := ok_block 3 (by kernel_rfl) (L11_ok Kv kc5)
def S15 (K : KT) (kc5 : Cur g5) (s_30 : ByteArray) (i_31 : Int) (n_32 : Int) (least_33 : Int) (r_34 : Int) (w : World) : Prop :=
  L11 K kc5 s_30 i_31 n_32 least_33 r_34 (1 : Int) w
theorem S15_ok (Kv : Value → World → Prop) (kc5 : Cur g5) : OkT pr false none 98 g8 (S15 (Kt Kv) kc5) (s1 (tl 5 (blk (tl 1 (lp (blk (tl 1 (s1 (tl 1 bd))))))))) (P9 Kv kc5) := ok_group mixed FOk_ 1 (B14 Kv kc5) fun v ρ w => by kernel_rfl
theorem Q16 (Kv : Value → World → Prop) (kc5 : Cur g5) : OkT pr false none 98 g8 (S15 (Kt Kv) kc5) (tl 5 (blk (tl 1 (lp (blk (tl 1 (s1 (tl 1 bd)))))))) (P7 Kv kc5) := ok_seq (by kernel_rfl) (S8_ok Kv kc5) (S15_ok Kv kc5)
def S17 (K : KT) (kc5 : Cur g5) (s_35 : ByteArray) (i_36 : Int) (w : World) : Prop :=
  G.ixS s_35 i_36 fun n37 => G.cond (decide ((IntKind.i64.wrap n37) < (128 : Int))) (kc5 s_35 (IntKind.i64.wrap (i_36 + (1 : Int))) w) (G.cond (decide ((IntKind.i64.wrap n37) ≥ (194 : Int))) (G.cond (decide ((IntKind.i64.wrap n37) < (224 : Int))) (S15 K kc5 s_35 i_36 (1 : Int) (128 : Int) (Go.bits .and .i64 (IntKind.i64.wrap n37) (31 : Int)) w) (G.cond (decide ((IntKind.i64.wrap n37) ≥ (224 : Int))) (G.cond (decide ((IntKind.i64.wrap n37) < (240 : Int))) (S15 K kc5 s_35 i_36 (2 : Int) (2048 : Int) (Go.bits .and .i64 (IntKind.i64.wrap n37) (15 : Int)) w) (G.cond (decide ((IntKind.i64.wrap n37) ≥ (240 : Int))) (G.cond (decide ((IntKind.i64.wrap n37) < (245 : Int))) (S15 K kc5 s_35 i_36 (3 : Int) (65536 : Int) (Go.bits .and .i64 (IntKind.i64.wrap n37) (7 : Int)) w) (K false w)) (K false w))) (G.cond (decide ((IntKind.i64.wrap n37) ≥ (240 : Int))) (G.cond (decide ((IntKind.i64.wrap n37) < (245 : Int))) (S15 K kc5 s_35 i_36 (3 : Int) (65536 : Int) (Go.bits .and .i64 (IntKind.i64.wrap n37) (7 : Int)) w) (K false w)) (K false w)))) (G.cond (decide ((IntKind.i64.wrap n37) ≥ (224 : Int))) (G.cond (decide ((IntKind.i64.wrap n37) < (240 : Int))) (S15 K kc5 s_35 i_36 (2 : Int) (2048 : Int) (Go.bits .and .i64 (IntKind.i64.wrap n37) (15 : Int)) w) (G.cond (decide ((IntKind.i64.wrap n37) ≥ (240 : Int))) (G.cond (decide ((IntKind.i64.wrap n37) < (245 : Int))) (S15 K kc5 s_35 i_36 (3 : Int) (65536 : Int) (Go.bits .and .i64 (IntKind.i64.wrap n37) (7 : Int)) w) (K false w)) (K false w))) (G.cond (decide ((IntKind.i64.wrap n37) ≥ (240 : Int))) (G.cond (decide ((IntKind.i64.wrap n37) < (245 : Int))) (S15 K kc5 s_35 i_36 (3 : Int) (65536 : Int) (Go.bits .and .i64 (IntKind.i64.wrap n37) (7 : Int)) w) (K false w)) (K false w))))
theorem S17_ok (Kv : Value → World → Prop) (kc5 : Cur g5) : OkT pr false none 98 g5 (S17 (Kt Kv) kc5) (blk (tl 1 (lp (blk (tl 1 (s1 (tl 1 bd))))))) (P7 Kv kc5) := ok_group mixed FOk_ 5 (Q16 Kv kc5) fun v ρ w => by kernel_rfl
theorem B18 (Kv : Value → World → Prop) (kc5 : Cur g5) : OkT pr false none 98 g5 (S17 (Kt Kv) kc5) (tl 1 (lp (blk (tl 1 (s1 (tl 1 bd)))))) (P6 Kv kc5) := ok_block 1 (by kernel_rfl) (S17_ok Kv kc5)
def S19 (K : KT) (kc5 : Cur g5) (s_38 : ByteArray) (i_39 : Int) (w : World) : Prop :=
  G.cond (decide (i_39 < ((s_38.size : Nat) : Int))) (S17 K kc5 s_38 i_39 w) (S2 K w)
theorem S19_ok (Kv : Value → World → Prop) (kc5 : Cur g5) : OkT pr false none 98 g5 (S19 (Kt Kv) kc5) (lp (blk (tl 1 (s1 (tl 1 bd))))) (P6 Kv kc5) := ok_group mixed FOk_ 1 (B18 Kv kc5) fun v ρ w => by kernel_rfl
def L5 (K : KT) : Cur g5 := loopC g5 (S19 K)
theorem L5_ok (Kv : Value → World → Prop) : OkT pr false none 98 g5 (L5 (Kt Kv)) (blk (tl 1 (s1 (tl 1 bd)))) (P4 Kv) := ok_loop (B := S19 (Kt Kv)) (by kernel_rfl) fun kc => S19_ok Kv kc
theorem L5_ind {K : KT} {s_3 : ByteArray} {i_4 : Int} {w : World} (h : ∀ X : Cur g5, (∀ s_3 i_4 w, S19 K X s_3 i_4 w → X s_3 i_4 w) → X s_3 i_4 w) : L5 K s_3 i_4 w := fun X hX => h X fun s_3 i_4 w hb => hX (s_3, i_4, ()) w hb
theorem B20 (Kv : Value → World → Prop) : OkT pr false none 98 g5 (L5 (Kt Kv)) (tl 1 (s1 (tl 1 bd))) (P3 Kv) := ok_block 0 (by kernel_rfl) (L5_ok Kv)
@[reducible] def g21 : List SE := [.v 0 .str]
def S21 (K : KT) (s_40 : ByteArray) (w : World) : Prop :=
  L5 K s_40 (0 : Int) w
theorem S21_ok (Kv : Value → World → Prop) : OkT pr false none 98 g21 (S21 (Kt Kv)) (s1 (tl 1 bd)) (P3 Kv) := ok_group mixed FOk_ 1 (B20 Kv) fun v ρ w => by kernel_rfl
theorem Q22 (Kv : Value → World → Prop) : OkT pr false none 98 g21 (S21 (Kt Kv)) (tl 1 bd) (P1 Kv) := ok_seq (by kernel_rfl) (S2_ok Kv) (S21_ok Kv)
end tocsinref01_Utf8
def tocsinref01_Utf8 (s_2 : ByteArray) (w : World) (K : tocsinref01_Utf8.KT) : Prop :=
  tocsinref01_Utf8.S21 K s_2 w
def tocsinref01_Utf8.cl : CL := fun args K w => match args with
  | [.string x0] => C.tocsinref01_Utf8 x0 w (tocsinref01_Utf8.Kt K)
  | _ => False
theorem tocsinref01_Utf8.clok : OkC pr 72 tocsinref01_Utf8.cl := by
  intro args K w h
  unfold tocsinref01_Utf8.cl at h
  split at h
  · exact calls_group false mixed tocsinref01_Utf8.FOk_ tocsinref01_Utf8.fn rfl 1 (tocsinref01_Utf8.Q22 K) (Eq.mp (by kernel_rfl) h)
  · exact h.elim

/-! tocsin/tocsinref04.one -/
namespace tocsinref04_one
abbrev KT := Int → World → Prop
def Kt (Kv : Value → World → Prop) : KT := fun n1 w => Kv (.int .i64 n1) w
noncomputable def bd : Code := bdy Tryz.f52
theorem fn : FnOk pr 52 22 Tryz.f52 := ⟨Tryz.func52, by kernel_rfl, Tryz.ntmps52, by kernel_rfl, by kernel_rfl⟩
def F : Clee := ofL [(71, C.tocsinref04_Name.cl), (72, C.tocsinref01_Utf8.cl)]
theorem FOk_ : FOk pr F := FOk_cons C.tocsinref04_Name.clok (FOk_cons C.tocsinref01_Utf8.clok (FOk_nil))
def P1 (Kv : Value → World → Prop) : Post := bodyK false pr 22 Tryz.f52 Kv
end tocsinref04_one
def tocsinref04_one (x_2 : ByteArray) (x_3 : ByteArray) (w : World) (K : tocsinref04_one.KT) : Prop :=
  G.new (.cells #[(.string x_2), (.string x_3)] 48) w fun p4 w5 => G.cS p4 w5 fun s6 => C.tocsinref04_Name s6 w5 fun b7 w8 => G.cond (!b7) (K (40 : Int) w8) (G.cS (p4.add 1) w8 fun s9 => G.cond (s9.toList == (⟨#[]⟩ : ByteArray).toList) (K (41 : Int) w8) (G.cS (p4.add 1) w8 fun s10 => G.cond (decide (((s10.size : Nat) : Int) > (256 : Int))) (K (4 : Int) w8) (G.cS (p4.add 1) w8 fun s11 => C.tocsinref01_Utf8 s11 w8 fun b12 w13 => G.cond (!b12) (K (12 : Int) w13) (K (0 : Int) w13))))
def tocsinref04_one.cl : CL := fun args K w => match args with
  | [.agg ⟨[.string x0_0, .string x0_1]⟩] => C.tocsinref04_one x0_0 x0_1 w (tocsinref04_one.Kt K)
  | _ => False
theorem tocsinref04_one.clok : OkC pr 52 tocsinref04_one.cl := by
  intro args K w h
  unfold tocsinref04_one.cl at h
  split at h
  · exact calls_last false mixed tocsinref04_one.FOk_ tocsinref04_one.fn rfl (Eq.mp (by kernel_rfl) h)
  · exact h.elim

/-! tocsin/tocsinref04.Right -/
namespace tocsinref04_Right
abbrev KT := Int → Int → World → Prop
def Kt (Kv : Value → World → Prop) : KT := fun n1 n2 w => Kv (.tuple #[(.int .i64 n1), (.int .i64 n2)]) w
noncomputable def bd : Code := bdy Tryz.f41
theorem fn : FnOk pr 41 38 Tryz.f41 := ⟨Tryz.func41, by kernel_rfl, Tryz.ntmps41, by kernel_rfl, by kernel_rfl⟩
def F : Clee := ofL [(52, C.tocsinref04_one.cl)]
theorem FOk_ : FOk pr F := FOk_cons C.tocsinref04_one.clok (FOk_nil)
def P1 (Kv : Value → World → Prop) : Post := bodyK false pr 38 Tryz.f41 Kv
@[reducible] def g2 : List SE := []
def S2 (K : KT) (w : World) : Prop :=
  K (0 : Int) (0 : Int) w
theorem S2_ok (Kv : Value → World → Prop) : OkT pr false none 38 g2 (S2 (Kt Kv)) (s2 (tl 2 bd)) (P1 Kv) := ok_last mixed FOk_ fun v ρ w => by kernel_rfl
def P3 (Kv : Value → World → Prop) : Post := next (get g2 (S2 (Kt Kv))) (P1 Kv)
def P4 (Kv : Value → World → Prop) : Post := inBlock 0 (P3 Kv)
@[reducible] def g5 : List SE := [.v 0 .sl, .v 10 .sl, .v 11 (.int .i64), .v 12 (.int .i64)]
def P6 (Kv : Value → World → Prop) (kc5 : Cur g5) : Post := next (get g5 kc5) (P4 Kv)
def S7 (K : KT) (kc5 : Cur g5) (l_12 : Sl) (l13 : Sl) (n14 : Int) (n15 : Int) (w : World) : Prop :=
  G.cond (decide (n15 < n14)) (G.ix l13.a l13.n n15 2 fun p16 => G.cS p16 w fun s17 => G.cS (p16.add 1) w fun s18 => G.new (.cells #[(.string (⟨#[]⟩ : ByteArray)), (.string (⟨#[]⟩ : ByteArray))] 48) w fun p19 w20 => G.st p19 (.string s17) w20 fun w21 => G.st (p19.add 1) (.string s18) w21 fun w22 => G.cS p19 w22 fun s23 => G.cS (p19.add 1) w22 fun s24 => C.tocsinref04_one s23 s24 w22 fun n25 w26 => G.cond (n25 != (0 : Int)) (K n25 n15 w26) (G.cond (decide (n15 > (0 : Int))) (G.ix l_12.a l_12.n (IntKind.i64.wrap (n15 - (1 : Int))) 2 fun p27 => G.cS p27 w26.drew fun s28 => G.cS p19 w26.drew fun s29 => G.cond (!(Op.bytesLess s28.toList s29.toList)) (K (3 : Int) n15 w26.drew) (kc5 l_12 l13 n14 (IntKind.i64.wrap (n15 + (1 : Int))) w26.drew)) (kc5 l_12 l13 n14 (IntKind.i64.wrap (n15 + (1 : Int))) w26.drew))) (S2 K w)
theorem S7_ok (Kv : Value → World → Prop) (kc5 : Cur g5) : OkT pr false none 38 g5 (S7 (Kt Kv) kc5) (lp (blk (tl 1 (s1 (tl 2 bd))))) (P6 Kv kc5) := ok_last mixed FOk_ fun v ρ w => by kernel_rfl
def L5 (K : KT) : Cur g5 := loopC g5 (S7 K)
theorem L5_ok (Kv : Value → World → Prop) : OkT pr false none 38 g5 (L5 (Kt Kv)) (blk (tl 1 (s1 (tl 2 bd)))) (P4 Kv) := ok_loop (B := S7 (Kt Kv)) (by kernel_rfl) fun kc => S7_ok Kv kc
theorem L5_ind {K : KT} {l_4 : Sl} {l5 : Sl} {n6 : Int} {n7 : Int} {w : World} (h : ∀ X : Cur g5, (∀ l_4 l5 n6 n7 w, S7 K X l_4 l5 n6 n7 w → X l_4 l5 n6 n7 w) → X l_4 l5 n6 n7 w) : L5 K l_4 l5 n6 n7 w := fun X hX => h X fun l_4 l5 n6 n7 w hb => hX (l_4, l5, n6, n7, ()) w hb
theorem B8 (Kv : Value → World → Prop) : OkT pr false none 38 g5 (L5 (Kt Kv)) (tl 1 (s1 (tl 2 bd))) (P3 Kv) := ok_block 0 (by kernel_rfl) (L5_ok Kv)
@[reducible] def g9 : List SE := [.v 0 .sl]
def S9 (K : KT) (l_30 : Sl) (w : World) : Prop :=
  L5 K l_30 l_30 ((l_30.n : Nat) : Int) (0 : Int) w
theorem S9_ok (Kv : Value → World → Prop) : OkT pr false none 38 g9 (S9 (Kt Kv)) (s1 (tl 2 bd)) (P3 Kv) := ok_group mixed FOk_ 1 (B8 Kv) fun v ρ w => by kernel_rfl
theorem Q10 (Kv : Value → World → Prop) : OkT pr false none 38 g9 (S9 (Kt Kv)) (tl 2 bd) (P1 Kv) := ok_seq (by kernel_rfl) (S2_ok Kv) (S9_ok Kv)
end tocsinref04_Right
def tocsinref04_Right (l_3 : Sl) (w : World) (K : tocsinref04_Right.KT) : Prop :=
  G.cond (decide (((l_3.n : Nat) : Int) > (16 : Int))) (K (8 : Int) (0 : Int) w) (tocsinref04_Right.S9 K l_3 w)
def tocsinref04_Right.cl : CL := fun args K w => match args with
  | [.slice x0_a x0_n x0_c] => C.tocsinref04_Right ⟨x0_a, x0_n, x0_c⟩ w (tocsinref04_Right.Kt K)
  | _ => False
theorem tocsinref04_Right.clok : OkC pr 41 tocsinref04_Right.cl := by
  intro args K w h
  unfold tocsinref04_Right.cl at h
  split at h
  · exact calls_group false mixed tocsinref04_Right.FOk_ tocsinref04_Right.fn rfl 2 (tocsinref04_Right.Q10 K) (Eq.mp (by kernel_rfl) h)
  · exact h.elim

/-! tocsin/tocsinref21.Add -/
namespace tocsinref21_Add
abbrev KT := Sl → World → Prop
def Kt (Kv : Value → World → Prop) : KT := fun l1 w => Kv l1.v w
noncomputable def bd : Code := bdy Tryz.f42
theorem fn : FnOk pr 42 37 Tryz.f42 := ⟨Tryz.func42, by kernel_rfl, Tryz.ntmps42, by kernel_rfl, by kernel_rfl⟩
def F : Clee := ofL [(21, C.tocsinref09_Own.cl), (26, C.tocsinref21_At.cl)]
theorem FOk_ : FOk pr F := FOk_cons C.tocsinref09_Own.clok (FOk_cons C.tocsinref21_At.clok (FOk_nil))
def P1 (Kv : Value → World → Prop) : Post := bodyK false pr 37 Tryz.f42 Kv
@[reducible] def g2 : List SE := [.v 0 .sl, .v 5 (.int .i64), .v 7 .sl]
def S2 (K : KT) (l_10 : Sl) (k_11 : Int) (m_12 : Sl) (w : World) : Prop :=
  G.slc l_10 k_11 ((l_10.n : Nat) : Int) 3 fun l13 => G.runSl pr (Builtin.append_ #[38, 38] 38 #[m_12.v, l13.v]) w fun l14 w15 => K l14 w15
theorem S2_ok (Kv : Value → World → Prop) : OkT pr false none 37 g2 (S2 (Kt Kv)) (tl 7 bd) (P1 Kv) := ok_last mixed FOk_ fun v ρ w => by kernel_rfl
end tocsinref21_Add
def tocsinref21_Add (l_2 : Sl) (a_3 : Sl) (a_4 : Int) (a_5 : Int) (w : World) (K : tocsinref21_Add.KT) : Prop :=
  G.new (.cells #[a_3.v, (.int .i64 a_4), (.int .i64 a_5)] 34) w fun p16 w17 => G.cSl p16 w17 fun l18 => C.tocsinref21_At l_2 l18 w17 fun n19 b20 w21 => G.cSl p16 w21 fun l22 => C.tocsinref09_Own l22 w21 fun l23 w24 => G.st p16 l23.v w24 fun w25 => G.slc l_2 0 n19 3 fun l26 => G.runSl pr (Builtin.append_ #[38, 38] 38 #[nilS.v, l26.v]) w25 fun l27 w28 => G.cSl p16 w28 fun l29 => G.cI .i64 (p16.add 1) w28 fun n30 => G.cI .i64 (p16.add 2) w28 fun n31 => G.new (.cells #[l29.v, (.int .i64 n30), (.int .i64 n31)] 34) w28 fun p32 w33 => G.runSl pr (Builtin.append_ #[38, 38] 38 #[l27.v, (Sl.v (⟨some p32, 1, 1⟩ : Sl))]) w33 fun l34 w35 => G.cond b20 (tocsinref21_Add.S2 K l_2 (IntKind.i64.wrap (n19 + (1 : Int))) l34 w35) (tocsinref21_Add.S2 K l_2 n19 l34 w35)
def tocsinref21_Add.cl : CL := fun args K w => match args with
  | [.slice x0_a x0_n x0_c, .agg ⟨[.slice x1_0_a x1_0_n x1_0_c, .int .i64 x1_1, .int .i64 x1_2]⟩] => C.tocsinref21_Add ⟨x0_a, x0_n, x0_c⟩ ⟨x1_0_a, x1_0_n, x1_0_c⟩ x1_1 x1_2 w (tocsinref21_Add.Kt K)
  | _ => False
theorem tocsinref21_Add.clok : OkC pr 42 tocsinref21_Add.cl := by
  intro args K w h
  unfold tocsinref21_Add.cl at h
  split at h
  · exact calls_group false mixed tocsinref21_Add.FOk_ tocsinref21_Add.fn rfl 7 (tocsinref21_Add.S2_ok K) (Eq.mp (by kernel_rfl) h)
  · exact h.elim

/-! (*tocsin/tocsinref21.Set).Put -/
namespace tocsinref21_Set_Put
abbrev KT := Int → World → Prop
def Kt (Kv : Value → World → Prop) : KT := fun n1 w => Kv (.int .i64 n1) w
noncomputable def bd : Code := bdy Tryz.f23
theorem fn : FnOk pr 23 146 Tryz.f23 := ⟨Tryz.func23, by kernel_rfl, Tryz.ntmps23, by kernel_rfl, by kernel_rfl⟩
def F : Clee := ofL [(26, C.tocsinref21_At.cl), (40, C.tocsinref21_Time.cl), (41, C.tocsinref04_Right.cl), (42, C.tocsinref21_Add.cl)]
theorem FOk_ : FOk pr F := FOk_cons C.tocsinref21_At.clok (FOk_cons C.tocsinref21_Time.clok (FOk_cons C.tocsinref04_Right.clok (FOk_cons C.tocsinref21_Add.clok (FOk_nil))))
def P1 (Kv : Value → World → Prop) : Post := bodyK false pr 146 Tryz.f23 Kv
@[reducible] def g2 : List SE := [.v 0 .ptr, .v 5 .ptr]
def S2 (K : KT) (s_39 : Option Addr) (a_40 : Option Addr) (w : World) : Prop :=
  G.ptr s_39 fun p41 => G.cSl (p41.add 2) w.drew fun l42 => G.ptr a_40 fun p43 => G.cSl p43 w.drew fun l44 => G.cI .i64 (p43.add 1) w.drew fun n45 => G.cI .i64 (p43.add 2) w.drew fun n46 => C.tocsinref21_Add l42 l44 n45 n46 w.drew fun l47 w48 => G.ptr s_39 fun p49 => G.st (p49.add 2) l47.v w48 fun w50 => K (0 : Int) w50
theorem S2_ok (Kv : Value → World → Prop) : OkT pr false none 146 g2 (S2 (Kt Kv)) (tl 1 (tl 3 (tl 1 (tl 1 (tl 5 bd))))) (P1 Kv) := ok_last mixed FOk_ fun v ρ w => by kernel_rfl
@[reducible] def g3 : List SE := [.v 0 .ptr, .v 1 (.int .i64), .v 5 .ptr, .v 9 (.int .i64), .v 10 .bool]
def S3 (K : KT) (s_51 : Option Addr) (now_52 : Int) (a_53 : Option Addr) (k_54 : Int) (there_55 : Bool) (w : World) : Prop :=
  G.cond there_55 (G.ptr s_51 fun p56 => G.cSl (p56.add 2) w.drew fun l57 => G.ix l57.a l57.n k_54 3 fun p58 => G.cI .i64 (p58.add 2) w.drew fun n59 => G.cond (decide (n59 > now_52)) (G.ptr s_51 fun p60 => G.cSl (p60.add 2) w.drew fun l61 => G.ix l61.a l61.n k_54 3 fun p62 => G.cI .i64 (p62.add 1) w.drew fun n63 => G.ptr a_53 fun p64 => G.cI .i64 (p64.add 1) w.drew fun n65 => G.cond (decide (n63 < n65)) (G.ptr s_51 fun p66 => G.cSl (p66.add 2) w.drew fun l67 => G.ix l67.a l67.n k_54 3 fun p68 => G.cI .i64 (p68.add 1) w.drew fun n69 => G.ptr a_53 fun p70 => G.st (p70.add 1) (.int .i64 n69) w.drew fun w71 => S2 K s_51 a_53 w71) (S2 K s_51 a_53 w.drew)) (S2 K s_51 a_53 w.drew)) (S2 K s_51 a_53 w.drew)
theorem S3_ok (Kv : Value → World → Prop) : OkT pr false none 146 g3 (S3 (Kt Kv)) (tl 3 (tl 1 (tl 1 (tl 5 bd)))) (P1 Kv) := ok_group mixed FOk_ 1 (S2_ok Kv) fun v ρ w => by kernel_rfl
@[reducible] def g4 : List SE := [.v 0 .ptr, .v 1 (.int .i64), .v 5 .ptr]
def S4 (K : KT) (s_72 : Option Addr) (now_73 : Int) (a_74 : Option Addr) (w : World) : Prop :=
  G.ptr a_74 fun p75 => G.cI .i64 (p75.add 2) w fun n76 => G.ptr a_74 fun p77 => G.cI .i64 (p77.add 1) w fun n78 => G.cond (decide (n76 < n78)) (K (1 : Int) w) (G.ptr s_72 fun p79 => G.cSl (p79.add 2) w.drew fun l80 => G.ptr a_74 fun p81 => G.cSl p81 w.drew fun l82 => C.tocsinref21_At l80 l82 w.drew fun n83 b84 w85 => G.cond (!b84) (G.ptr s_72 fun p86 => G.cSl (p86.add 2) w85.drew fun l87 => G.ptr s_72 fun p88 => G.cI .i64 (p88.add 1) w85.drew fun n89 => G.cond (decide (((l87.n : Nat) : Int) ≥ n89)) (K (8 : Int) w85.drew) (S3 K s_72 now_73 a_74 n83 b84 w85.drew)) (S3 K s_72 now_73 a_74 n83 b84 w85.drew))
theorem S4_ok (Kv : Value → World → Prop) : OkT pr false none 146 g4 (S4 (Kt Kv)) (tl 1 (tl 1 (tl 5 bd))) (P1 Kv) := ok_group mixed FOk_ 3 (S3_ok Kv) fun v ρ w => by kernel_rfl
def S5 (K : KT) (s_90 : Option Addr) (now_91 : Int) (a_92 : Option Addr) (w : World) : Prop :=
  G.ptr a_92 fun p93 => G.cI .i64 (p93.add 1) w fun n94 => G.cond (n94 == (0 : Int)) (G.ptr a_92 fun p95 => G.st (p95.add 1) (.int .i64 now_91) w fun w96 => S4 K s_90 now_91 a_92 w96) (S4 K s_90 now_91 a_92 w)
theorem S5_ok (Kv : Value → World → Prop) : OkT pr false none 146 g4 (S5 (Kt Kv)) (tl 1 (tl 5 bd)) (P1 Kv) := ok_group mixed FOk_ 1 (S4_ok Kv) fun v ρ w => by kernel_rfl
def S6 (K : KT) (s_97 : Option Addr) (now_98 : Int) (a_99 : Option Addr) (w : World) : Prop :=
  G.ptr a_99 fun p100 => G.cI .i64 (p100.add 2) w fun n101 => G.cond (n101 == (0 : Int)) (G.ptr s_97 fun p102 => G.cI .i64 p102 w fun n103 => G.ptr a_99 fun p104 => G.st (p104.add 2) (.int .i64 (IntKind.i64.wrap (now_98 + n103))) w fun w105 => S5 K s_97 now_98 a_99 w105) (S5 K s_97 now_98 a_99 w)
theorem S6_ok (Kv : Value → World → Prop) : OkT pr false none 146 g4 (S6 (Kt Kv)) (tl 5 bd) (P1 Kv) := ok_group mixed FOk_ 1 (S5_ok Kv) fun v ρ w => by kernel_rfl
end tocsinref21_Set_Put
def tocsinref21_Set_Put (s_2 : Option Addr) (now_3 : Int) (a_4 : Sl) (a_5 : Int) (a_6 : Int) (w : World) (K : tocsinref21_Set_Put.KT) : Prop :=
  G.new (.cells #[a_4.v, (.int .i64 a_5), (.int .i64 a_6)] 34) w fun p106 w107 => C.tocsinref21_Time now_3 w107 fun b108 w109 => G.cond (!b108) (K (1 : Int) w109) (G.cSl p106 w109 fun l110 => C.tocsinref04_Right l110 w109 fun n111 n112 w113 => G.cond (n111 != (0 : Int)) (K (41 : Int) w113) (G.cSl p106 w113 fun l114 => G.cond (((l114.n : Nat) : Int) == (0 : Int)) (K (41 : Int) w113) (G.cI .i64 (p106.add 1) w113 fun n115 => G.cond (decide (n115 < (0 : Int))) (K (1 : Int) w113) (G.cI .i64 (p106.add 1) w113 fun n116 => G.cond (decide (n116 > (1126999418470400 : Int))) (K (1 : Int) w113) (G.cI .i64 (p106.add 2) w113 fun n117 => G.cond (decide (n117 < (0 : Int))) (K (1 : Int) w113) (G.cI .i64 (p106.add 2) w113 fun n118 => G.cond (decide (n118 > (1126999418470400 : Int))) (K (1 : Int) w113) (G.cI .i64 (p106.add 2) w113 fun n119 => G.cond (n119 != (0 : Int)) (G.cI .i64 (p106.add 2) w113 fun n120 => G.cI .i64 (p106.add 1) w113 fun n121 => G.cond (decide (n120 < n121)) (K (1 : Int) w113) (tocsinref21_Set_Put.S6 K s_2 now_3 (some p106) w113)) (tocsinref21_Set_Put.S6 K s_2 now_3 (some p106) w113))))))))
def tocsinref21_Set_Put.cl : CL := fun args K w => match args with
  | [.pointer x0, .int .i64 x1, .agg ⟨[.slice x2_0_a x2_0_n x2_0_c, .int .i64 x2_1, .int .i64 x2_2]⟩] => C.tocsinref21_Set_Put x0 x1 ⟨x2_0_a, x2_0_n, x2_0_c⟩ x2_1 x2_2 w (tocsinref21_Set_Put.Kt K)
  | _ => False
theorem tocsinref21_Set_Put.clok : OkC pr 23 tocsinref21_Set_Put.cl := by
  intro args K w h
  unfold tocsinref21_Set_Put.cl at h
  split at h
  · exact calls_group false mixed tocsinref21_Set_Put.FOk_ tocsinref21_Set_Put.fn rfl 5 (tocsinref21_Set_Put.S6_ok K) (Eq.mp (by kernel_rfl) h)
  · exact h.elim

/-! slices.AppendSeq[[]string,string] -/
namespace slices_AppendSeq_string_string
abbrev KT := Sl → World → Prop
def Kt (Kv : Value → World → Prop) : KT := fun l1 w => Kv l1.v w
noncomputable def bd : Code := bdy Tryz.f87
theorem fn : FnOk pr 87 13 Tryz.f87 := ⟨Tryz.func87, by kernel_rfl, Tryz.ntmps87, by kernel_rfl, by kernel_rfl⟩
def F : Clee := ofL []
theorem FOk_ : FOk pr F := FOk_nil
def Fc : Clee := ofL [(15, C.alerts_Set_All_1.cl), (18, C.alerts_Set_All_1_1.cl), (35, C.maps_Values_1_map_string_Alert_string_Alert.cl), (37, C.labels_Compare_1.cl), (75, C.maps_Keys_1_map_string_Alert_string_Alert.cl)]
theorem FcOk : FOkB pr Fc := FOkB_cons C.alerts_Set_All_1.clok (FOkB_cons C.alerts_Set_All_1_1.clok (FOkB_cons C.maps_Values_1_map_string_Alert_string_Alert.clok (FOkB_cons C.labels_Compare_1.clok (FOkB_cons C.maps_Keys_1_map_string_Alert_string_Alert.clok (FOkB_nil)))))
def P1 (Kv : Value → World → Prop) : Post := bodyK true pr 13 Tryz.f87 Kv
@[reducible] def g2 : List SE := [.v 2 .ptr, .v 13 .raw]
def S2 (K : KT) (s_4 : Option Addr) (v5 : Value) (w : World) : Prop :=
  G.ptr s_4 fun p6 => G.cSl p6 w fun l7 => G.marks v5 w fun w8 => K l7 w8
theorem S2_ok (Kv : Value → World → Prop) : OkT pr true none 13 g2 (S2 (Kt Kv)) (s2 (tl 1 bd)) (P1 Kv) := ok_last mixed FOk_ fun v ρ w => by kernel_rfl
def P3 (Kv : Value → World → Prop) : Post := next (get g2 (S2 (Kt Kv))) (P1 Kv)
def P4 (Kv : Value → World → Prop) : Post := inBlock 0 (P3 Kv)
@[reducible] def g5 : List SE := [.v 2 .ptr, .v 6 .raw, .v 13 .raw]
def P6 (Rr : Exit → World → Prop) : Post := RP Rr
@[reducible] def g7 : List SE := [.v 2 .ptr, .v 5 .str]
def S7 (Rr : Exit → World → Prop) (s_12 : Option Addr) (v_13 : ByteArray) (w : World) : Prop :=
  G.ptr s_12 fun p14 => G.cSl p14 w fun l15 => G.new (.cells #[(.string v_13)] 9) w fun p16 w17 => G.runSl pr (Builtin.append_ #[77, 77] 77 #[l15.v, (Sl.v (⟨some p16, 1, 1⟩ : Sl))]) w17 fun l18 w19 => G.ptr s_12 fun p20 => G.st p20 l18.v w19 fun w21 => Rr .normal w21
theorem S7_ok (Rr : Exit → World → Prop) {ro : Option Nat} : OkT pr false ro 13 g7 (S7 Rr) (rbd (blk (tl 1 (s1 (tl 1 bd))))) (P6 Rr) := ok_last mixed FOk_ fun v ρ w => by kernel_rfl
def B_R5 (s_9 : Option Addr) (v10 : Value) (v11 : Value) (args : List Value) (wb : World) (Rr : Exit → World → Prop) : Prop := match args with
  | [.string y_22] => S7 Rr s_9 y_22 wb
  | _ => False
def O_R5 (K : KT) (s_9 : Option Addr) (v10 : Value) (v11 : Value) (e : Exit) (D : Nat) (w : World) : Prop := match e with
  | .normal => S2 K s_9 (pushMark v11 D) w
  | _ => False
def R5 (K : KT) (s_9 : Option Addr) (v10 : Value) (v11 : Value) (w : World) : Prop :=
  G.rangeF Fc v10 pr (B_R5 s_9 v10 v11) w (O_R5 K s_9 v10 v11)
theorem R5_ok (Kv : Value → World → Prop) : OkT pr true none 13 g5 (R5 (Kt Kv)) (blk (tl 1 (s1 (tl 1 bd)))) (P4 Kv) := by
  refine ok_range mixed FOk_ FcOk (s := 6) (ps := #[7]) (Bt := fun v => B_R5 v.1 v.2.1 v.2.2.1) (kB := fun Rr => S7 Rr) (sgB := g7) (out := fun v => O_R5 (Kt Kv) v.1 v.2.1 v.2.2.1) (by kernel_rfl) (fun v ρ w => by kernel_rfl) ?_ (fun Rr l => S7_ok Rr) ?_
  · intro v ρ args w wb Rr h
    have h' : B_R5 v.1 v.2.1 v.2.2.1 args wb Rr := h
    unfold B_R5 at h'
    split at h'
    · exact ⟨rfl, Eq.mp (by kernel_rfl) (And.intro (Eq.refl w) h')⟩
    · exact h'.elim
  · intro v ρ e D w h
    cases e with
    | normal => exact Eq.mp (by kernel_rfl) h
    | _ => exact h.elim
theorem B8 (Kv : Value → World → Prop) : OkT pr true none 13 g5 (R5 (Kt Kv)) (tl 1 (s1 (tl 1 bd))) (P3 Kv) := ok_block 0 (by kernel_rfl) (R5_ok Kv)
@[reducible] def g9 : List SE := [.v 1 .raw, .v 2 .ptr, .v 13 .raw]
def S9 (K : KT) (seq_23 : Value) (s_24 : Option Addr) (v25 : Value) (w : World) : Prop :=
  R5 K s_24 seq_23 v25 w
theorem S9_ok (Kv : Value → World → Prop) : OkT pr true none 13 g9 (S9 (Kt Kv)) (s1 (tl 1 bd)) (P3 Kv) := ok_group mixed FOk_ 1 (B8 Kv) fun v ρ w => by kernel_rfl
theorem Q10 (Kv : Value → World → Prop) : OkT pr true none 13 g9 (S9 (Kt Kv)) (tl 1 bd) (P1 Kv) := ok_seq (by kernel_rfl) (S2_ok Kv) (S9_ok Kv)
end slices_AppendSeq_string_string
def slices_AppendSeq_string_string (s_2 : Sl) (seq_3 : Value) (w : World) (K : slices_AppendSeq_string_string.KT) : Prop :=
  G.new (.cells #[s_2.v] 77) w fun p26 w27 => slices_AppendSeq_string_string.S9 K seq_3 (some p26) undef w27
def slices_AppendSeq_string_string.cl : CL := fun args K w => match args with
  | [.slice x0_a x0_n x0_c, x1] => C.slices_AppendSeq_string_string ⟨x0_a, x0_n, x0_c⟩ x1 w (slices_AppendSeq_string_string.Kt K)
  | _ => False
theorem slices_AppendSeq_string_string.clok : OkC pr 87 slices_AppendSeq_string_string.cl := by
  intro args K w h
  unfold slices_AppendSeq_string_string.cl at h
  split at h
  · exact calls_group true mixed slices_AppendSeq_string_string.FOk_ slices_AppendSeq_string_string.fn rfl 1 (slices_AppendSeq_string_string.Q10 K) (Eq.mp (by kernel_rfl) h)
  · exact h.elim

/-! slices.Collect[string] -/
namespace slices_Collect_string
abbrev KT := Sl → World → Prop
def Kt (Kv : Value → World → Prop) : KT := fun l1 w => Kv l1.v w
noncomputable def bd : Code := bdy Tryz.f73
theorem fn : FnOk pr 73 5 Tryz.f73 := ⟨Tryz.func73, by kernel_rfl, Tryz.ntmps73, by kernel_rfl, by kernel_rfl⟩
def F : Clee := ofL [(87, C.slices_AppendSeq_string_string.cl)]
theorem FOk_ : FOk pr F := FOk_cons C.slices_AppendSeq_string_string.clok (FOk_nil)
def P1 (Kv : Value → World → Prop) : Post := bodyK false pr 5 Tryz.f73 Kv
end slices_Collect_string
def slices_Collect_string (seq_2 : Value) (w : World) (K : slices_Collect_string.KT) : Prop :=
  C.slices_AppendSeq_string_string nilS seq_2 w fun l3 w4 => K l3 w4
def slices_Collect_string.cl : CL := fun args K w => match args with
  | [x0] => C.slices_Collect_string x0 w (slices_Collect_string.Kt K)
  | _ => False
theorem slices_Collect_string.clok : OkC pr 73 slices_Collect_string.cl := by
  intro args K w h
  unfold slices_Collect_string.cl at h
  split at h
  · exact calls_last false mixed slices_Collect_string.FOk_ slices_Collect_string.fn rfl (Eq.mp (by kernel_rfl) h)
  · exact h.elim

/-! slices.Sort[[]string,string]: by the library's contract -/
abbrev slices_Sort_string_string.KT := World → Prop
def slices_Sort_string_string.Kt (Kv : Value → World → Prop) : slices_Sort_string_string.KT := fun w => Kv (.tuple #[]) w
def slices_Sort_string_string (x0 : Sl) (w : World) (K : slices_Sort_string_string.KT) : Prop := Srt.sortS x0 w K
def slices_Sort_string_string.cl : CL := fun args K w => match args with
  | [.slice a n c] => C.slices_Sort_string_string ⟨a, n, c⟩ w (slices_Sort_string_string.Kt K)
  | _ => False
theorem slices_Sort_string_string.clok : OkC pr 74 slices_Sort_string_string.cl := by
  intro args K w h
  unfold slices_Sort_string_string.cl at h
  split at h
  · exact Srt.sortS_ok h
  · exact h.elim

/-! slices.Sorted[string] -/
namespace slices_Sorted_string
abbrev KT := Sl → World → Prop
def Kt (Kv : Value → World → Prop) : KT := fun l1 w => Kv l1.v w
noncomputable def bd : Code := bdy Tryz.f53
theorem fn : FnOk pr 53 9 Tryz.f53 := ⟨Tryz.func53, by kernel_rfl, Tryz.ntmps53, by kernel_rfl, by kernel_rfl⟩
def F : Clee := ofL [(73, C.slices_Collect_string.cl), (74, C.slices_Sort_string_string.cl)]
theorem FOk_ : FOk pr F := FOk_cons C.slices_Collect_string.clok (FOk_cons C.slices_Sort_string_string.clok (FOk_nil))
def P1 (Kv : Value → World → Prop) : Post := bodyK false pr 9 Tryz.f53 Kv
end slices_Sorted_string
def slices_Sorted_string (seq_2 : Value) (w : World) (K : slices_Sorted_string.KT) : Prop :=
  C.slices_Collect_string seq_2 w fun l3 w4 => C.slices_Sort_string_string l3 w4 fun w5 => K l3 w5
def slices_Sorted_string.cl : CL := fun args K w => match args with
  | [x0] => C.slices_Sorted_string x0 w (slices_Sorted_string.Kt K)
  | _ => False
theorem slices_Sorted_string.clok : OkC pr 53 slices_Sorted_string.cl := by
  intro args K w h
  unfold slices_Sorted_string.cl at h
  split at h
  · exact calls_last false mixed slices_Sorted_string.FOk_ slices_Sorted_string.fn rfl (Eq.mp (by kernel_rfl) h)
  · exact h.elim

/-! maps.Keys[map[string]tocsin/api.Alert,string,tocsin/api.Alert] -/
namespace maps_Keys_map_string_Alert_string_Alert
abbrev KT := Value → World → Prop
def Kt (Kv : Value → World → Prop) : KT := fun v1 w => Kv v1 w
noncomputable def bd : Code := bdy Tryz.f54
theorem fn : FnOk pr 54 4 Tryz.f54 := ⟨Tryz.func54, by kernel_rfl, Tryz.ntmps54, by kernel_rfl, by kernel_rfl⟩
def F : Clee := ofL []
theorem FOk_ : FOk pr F := FOk_nil
def P1 (Kv : Value → World → Prop) : Post := bodyK false pr 4 Tryz.f54 Kv
end maps_Keys_map_string_Alert_string_Alert
def maps_Keys_map_string_Alert_string_Alert (m_2 : Option Nat) (w : World) (K : maps_Keys_map_string_Alert_string_Alert.KT) : Prop :=
  G.new (.cells #[(.map m_2)] 44) w fun p3 w4 => K (Value.func (.func 75) #[] #[(.pointer (some p3))]) w4
def maps_Keys_map_string_Alert_string_Alert.cl : CL := fun args K w => match args with
  | [.map x0] => C.maps_Keys_map_string_Alert_string_Alert x0 w (maps_Keys_map_string_Alert_string_Alert.Kt K)
  | _ => False
theorem maps_Keys_map_string_Alert_string_Alert.clok : OkC pr 54 maps_Keys_map_string_Alert_string_Alert.cl := by
  intro args K w h
  unfold maps_Keys_map_string_Alert_string_Alert.cl at h
  split at h
  · exact calls_last false mixed maps_Keys_map_string_Alert_string_Alert.FOk_ maps_Keys_map_string_Alert_string_Alert.fn rfl (Eq.mp (by kernel_rfl) h)
  · exact h.elim

/-! tocsin/alerts.rising[string,tocsin/api.Alert] -/
namespace alerts_rising_string_Alert
abbrev KT := Sl → World → Prop
def Kt (Kv : Value → World → Prop) : KT := fun l1 w => Kv l1.v w
noncomputable def bd : Code := bdy Tryz.f43
theorem fn : FnOk pr 43 6 Tryz.f43 := ⟨Tryz.func43, by kernel_rfl, Tryz.ntmps43, by kernel_rfl, by kernel_rfl⟩
def F : Clee := ofL [(53, C.slices_Sorted_string.cl), (54, C.maps_Keys_map_string_Alert_string_Alert.cl)]
theorem FOk_ : FOk pr F := FOk_cons C.slices_Sorted_string.clok (FOk_cons C.maps_Keys_map_string_Alert_string_Alert.clok (FOk_nil))
def P1 (Kv : Value → World → Prop) : Post := bodyK false pr 6 Tryz.f43 Kv
end alerts_rising_string_Alert
def alerts_rising_string_Alert (m_2 : Option Nat) (w : World) (K : alerts_rising_string_Alert.KT) : Prop :=
  C.maps_Keys_map_string_Alert_string_Alert m_2 w fun v3 w4 => C.slices_Sorted_string v3 w4 fun l5 w6 => K l5 w6
def alerts_rising_string_Alert.cl : CL := fun args K w => match args with
  | [.map x0] => C.alerts_rising_string_Alert x0 w (alerts_rising_string_Alert.Kt K)
  | _ => False
theorem alerts_rising_string_Alert.clok : OkC pr 43 alerts_rising_string_Alert.cl := by
  intro args K w h
  unfold alerts_rising_string_Alert.cl at h
  split at h
  · exact calls_last false mixed alerts_rising_string_Alert.FOk_ alerts_rising_string_Alert.fn rfl (Eq.mp (by kernel_rfl) h)
  · exact h.elim

/-! (*tocsin/alerts.Set).Sweep -/
namespace alerts_Set_Sweep
abbrev KT := Int → Int → World → Prop
def Kt (Kv : Value → World → Prop) : KT := fun n1 n2 w => Kv (.tuple #[(.int .i64 n1), (.int .i64 n2)]) w
noncomputable def bd : Code := bdy Tryz.f24
theorem fn : FnOk pr 24 56 Tryz.f24 := ⟨Tryz.func24, by kernel_rfl, Tryz.ntmps24, by kernel_rfl, by kernel_rfl⟩
def F : Clee := ofL [(29, C.alerts_time.cl), (43, C.alerts_rising_string_Alert.cl)]
theorem FOk_ : FOk pr F := FOk_cons C.alerts_time.clok (FOk_cons C.alerts_rising_string_Alert.clok (FOk_nil))
def P1 (Kv : Value → World → Prop) : Post := bodyK false pr 56 Tryz.f24 Kv
@[reducible] def g2 : List SE := [.v 8 (.int .i64)]
def S2 (K : KT) (n_9 : Int) (w : World) : Prop :=
  K n_9 (0 : Int) w
theorem S2_ok (Kv : Value → World → Prop) : OkT pr false none 56 g2 (S2 (Kt Kv)) (s2 (tl 3 bd)) (P1 Kv) := ok_last mixed FOk_ fun v ρ w => by kernel_rfl
def P3 (Kv : Value → World → Prop) : Post := next (get g2 (S2 (Kt Kv))) (P1 Kv)
def P4 (Kv : Value → World → Prop) : Post := inBlock 1 (P3 Kv)
@[reducible] def g5 : List SE := [.v 0 .ptr, .v 1 (.int .i64), .v 2 (.int .i64), .v 8 (.int .i64), .v 30 .sl, .v 31 (.int .i64), .v 32 (.int .i64)]
def P6 (Kv : Value → World → Prop) (kc5 : Cur g5) : Post := next (get g5 kc5) (P4 Kv)
def S7 (K : KT) (kc5 : Cur g5) (s_24 : Option Addr) (now_25 : Int) (keep_26 : Int) (n_27 : Int) (l28 : Sl) (n29 : Int) (n30 : Int) (w : World) : Prop :=
  G.cond (decide (n30 < n29)) (G.ix l28.a l28.n n30 1 fun p31 => G.cS p31 w fun s32 => G.ptr s_24 fun p33 => G.cM (p33.add 2) w fun m34 => G.rd1 pr (Instr.lookup 44 (.map m34) (.string s32) false) (fun v : Value => v) w fun v35 => G.ag v35 3 fun c36 => G.vSl c36[0 + 0]? fun l38 => G.vI .i64 c36[0 + 1]? fun n39 => G.vI .i64 c36[0 + 2]? fun n40 => G.cond (decide (n40 ≤ (IntKind.i64.wrap (now_25 - keep_26)))) (G.ptr s_24 fun p41 => G.cM (p41.add 2) w fun m42 => G.run pr (Builtin.delete_ #[44, 9] 0 #[(.map m42), (.string s32)]) w fun v43 w44 => kc5 s_24 now_25 keep_26 (IntKind.i64.wrap (n_27 + (1 : Int))) l28 n29 (IntKind.i64.wrap (n30 + (1 : Int))) w44) (kc5 s_24 now_25 keep_26 n_27 l28 n29 (IntKind.i64.wrap (n30 + (1 : Int))) w)) (S2 K n_27 w)
theorem S7_ok (Kv : Value → World → Prop) (kc5 : Cur g5) : OkT pr false none 56 g5 (S7 (Kt Kv) kc5) (lp (blk (tl 1 (s1 (tl 3 bd))))) (P6 Kv kc5) := ok_last mixed FOk_ fun v ρ w => by kernel_rfl
def L5 (K : KT) : Cur g5 := loopC g5 (S7 K)
theorem L5_ok (Kv : Value → World → Prop) : OkT pr false none 56 g5 (L5 (Kt Kv)) (blk (tl 1 (s1 (tl 3 bd)))) (P4 Kv) := ok_loop (B := S7 (Kt Kv)) (by kernel_rfl) fun kc => S7_ok Kv kc
theorem L5_ind {K : KT} {s_10 : Option Addr} {now_11 : Int} {keep_12 : Int} {n_13 : Int} {l14 : Sl} {n15 : Int} {n16 : Int} {w : World} (h : ∀ X : Cur g5, (∀ s_10 now_11 keep_12 n_13 l14 n15 n16 w, S7 K X s_10 now_11 keep_12 n_13 l14 n15 n16 w → X s_10 now_11 keep_12 n_13 l14 n15 n16 w) → X s_10 now_11 keep_12 n_13 l14 n15 n16 w) : L5 K s_10 now_11 keep_12 n_13 l14 n15 n16 w := fun X hX => h X fun s_10 now_11 keep_12 n_13 l14 n15 n16 w hb => hX (s_10, now_11, keep_12, n_13, l14, n15, n16, ()) w hb
theorem B8 (Kv : Value → World → Prop) : OkT pr false none 56 g5 (L5 (Kt Kv)) (tl 1 (s1 (tl 3 bd))) (P3 Kv) := ok_block 1 (by kernel_rfl) (L5_ok Kv)
@[reducible] def g9 : List SE := [.v 0 .ptr, .v 1 (.int .i64), .v 2 (.int .i64), .v 8 (.int .i64)]
def S9 (K : KT) (s_45 : Option Addr) (now_46 : Int) (keep_47 : Int) (n_48 : Int) (w : World) : Prop :=
  G.ptr s_45 fun p49 => G.cM (p49.add 2) w fun m50 => C.alerts_rising_string_Alert m50 w fun l51 w52 => L5 K s_45 now_46 keep_47 n_48 l51 ((l51.n : Nat) : Int) (0 : Int) w52
theorem S9_ok (Kv : Value → World → Prop) : OkT pr false none 56 g9 (S9 (Kt Kv)) (s1 (tl 3 bd)) (P3 Kv) := ok_group mixed FOk_ 1 (B8 Kv) fun v ρ w => by kernel_rfl
theorem Q10 (Kv : Value → World → Prop) : OkT pr false none 56 g9 (S9 (Kt Kv)) (tl 3 bd) (P1 Kv) := ok_seq (by kernel_rfl) (S2_ok Kv) (S9_ok Kv)
end alerts_Set_Sweep
def alerts_Set_Sweep (s_3 : Option Addr) (now_4 : Int) (keep_5 : Int) (w : World) (K : alerts_Set_Sweep.KT) : Prop :=
  G.cond s_3.isNone (K (0 : Int) (2 : Int) w) (C.alerts_time now_4 w fun b53 w54 => G.cond (!b53) (K (0 : Int) (1 : Int) w54) (G.cond (decide (keep_5 < (0 : Int))) (K (0 : Int) (1 : Int) w54) (G.cond (decide (keep_5 > (1099511627776 : Int))) (K (0 : Int) (1 : Int) w54) (alerts_Set_Sweep.S9 K s_3 now_4 keep_5 (0 : Int) w54))))
def alerts_Set_Sweep.cl : CL := fun args K w => match args with
  | [.pointer x0, .int .i64 x1, .int .i64 x2] => C.alerts_Set_Sweep x0 x1 x2 w (alerts_Set_Sweep.Kt K)
  | _ => False
theorem alerts_Set_Sweep.clok : OkC pr 24 alerts_Set_Sweep.cl := by
  intro args K w h
  unfold alerts_Set_Sweep.cl at h
  split at h
  · exact calls_group false mixed alerts_Set_Sweep.FOk_ alerts_Set_Sweep.fn rfl 3 (alerts_Set_Sweep.Q10 K) (Eq.mp (by kernel_rfl) h)
  · exact h.elim

/-! (*tocsin/tocsinref21.Set).Sweep -/
namespace tocsinref21_Set_Sweep
abbrev KT := Int → Int → World → Prop
def Kt (Kv : Value → World → Prop) : KT := fun n1 n2 w => Kv (.tuple #[(.int .i64 n1), (.int .i64 n2)]) w
noncomputable def bd : Code := bdy Tryz.f25
theorem fn : FnOk pr 25 66 Tryz.f25 := ⟨Tryz.func25, by kernel_rfl, Tryz.ntmps25, by kernel_rfl, by kernel_rfl⟩
def F : Clee := ofL [(40, C.tocsinref21_Time.cl)]
theorem FOk_ : FOk pr F := FOk_cons C.tocsinref21_Time.clok (FOk_nil)
def P1 (Kv : Value → World → Prop) : Post := bodyK false pr 66 Tryz.f25 Kv
@[reducible] def g2 : List SE := [.v 0 .ptr, .v 8 .sl]
def S2 (K : KT) (s_9 : Option Addr) (l_10 : Sl) (w : World) : Prop :=
  G.ptr s_9 fun p11 => G.cSl (p11.add 2) w fun l12 => G.ptr s_9 fun p13 => G.st (p13.add 2) l_10.v w fun w14 => K (IntKind.i64.wrap (((l12.n : Nat) : Int) - ((l_10.n : Nat) : Int))) (0 : Int) w14
theorem S2_ok (Kv : Value → World → Prop) : OkT pr false none 66 g2 (S2 (Kt Kv)) (s2 (tl 3 bd)) (P1 Kv) := ok_last mixed FOk_ fun v ρ w => by kernel_rfl
def P3 (Kv : Value → World → Prop) : Post := next (get g2 (S2 (Kt Kv))) (P1 Kv)
def P4 (Kv : Value → World → Prop) : Post := inBlock 0 (P3 Kv)
@[reducible] def g5 : List SE := [.v 0 .ptr, .v 1 (.int .i64), .v 2 (.int .i64), .v 8 .sl, .v 9 (.int .i64)]
def P6 (Kv : Value → World → Prop) (kc5 : Cur g5) : Post := next (get g5 kc5) (P4 Kv)
def S7 (K : KT) (kc5 : Cur g5) (s_25 : Option Addr) (now_26 : Int) (keep_27 : Int) (l_28 : Sl) (i_29 : Int) (w : World) : Prop :=
  G.ptr s_25 fun p30 => G.cSl (p30.add 2) w fun l31 => G.cond (decide (i_29 < ((l31.n : Nat) : Int))) (G.ptr s_25 fun p32 => G.cSl (p32.add 2) w fun l33 => G.ix l33.a l33.n i_29 3 fun p34 => G.cI .i64 (p34.add 2) w fun n35 => G.cond (decide (n35 > (IntKind.i64.wrap (now_26 - keep_27)))) (G.ptr s_25 fun p36 => G.cSl (p36.add 2) w fun l37 => G.ix l37.a l37.n i_29 3 fun p38 => G.cSl p38 w fun l39 => G.cI .i64 (p38.add 1) w fun n40 => G.cI .i64 (p38.add 2) w fun n41 => G.new (.cells #[l39.v, (.int .i64 n40), (.int .i64 n41)] 34) w fun p42 w43 => G.runSl pr (Builtin.append_ #[38, 38] 38 #[l_28.v, (Sl.v (⟨some p42, 1, 1⟩ : Sl))]) w43 fun l44 w45 => kc5 s_25 now_26 keep_27 l44 (IntKind.i64.wrap (i_29 + (1 : Int))) w45) (kc5 s_25 now_26 keep_27 l_28 (IntKind.i64.wrap (i_29 + (1 : Int))) w)) (S2 K s_25 l_28 w)
theorem S7_ok (Kv : Value → World → Prop) (kc5 : Cur g5) : OkT pr false none 66 g5 (S7 (Kt Kv) kc5) (lp (blk (tl 1 (s1 (tl 3 bd))))) (P6 Kv kc5) := ok_last mixed FOk_ fun v ρ w => by kernel_rfl
def L5 (K : KT) : Cur g5 := loopC g5 (S7 K)
theorem L5_ok (Kv : Value → World → Prop) : OkT pr false none 66 g5 (L5 (Kt Kv)) (blk (tl 1 (s1 (tl 3 bd)))) (P4 Kv) := ok_loop (B := S7 (Kt Kv)) (by kernel_rfl) fun kc => S7_ok Kv kc
theorem L5_ind {K : KT} {s_15 : Option Addr} {now_16 : Int} {keep_17 : Int} {l_18 : Sl} {i_19 : Int} {w : World} (h : ∀ X : Cur g5, (∀ s_15 now_16 keep_17 l_18 i_19 w, S7 K X s_15 now_16 keep_17 l_18 i_19 w → X s_15 now_16 keep_17 l_18 i_19 w) → X s_15 now_16 keep_17 l_18 i_19 w) : L5 K s_15 now_16 keep_17 l_18 i_19 w := fun X hX => h X fun s_15 now_16 keep_17 l_18 i_19 w hb => hX (s_15, now_16, keep_17, l_18, i_19, ()) w hb
theorem B8 (Kv : Value → World → Prop) : OkT pr false none 66 g5 (L5 (Kt Kv)) (tl 1 (s1 (tl 3 bd))) (P3 Kv) := ok_block 0 (by kernel_rfl) (L5_ok Kv)
@[reducible] def g9 : List SE := [.v 0 .ptr, .v 1 (.int .i64), .v 2 (.int .i64), .v 8 .sl]
def S9 (K : KT) (s_46 : Option Addr) (now_47 : Int) (keep_48 : Int) (l_49 : Sl) (w : World) : Prop :=
  L5 K s_46 now_47 keep_48 l_49 (0 : Int) w
theorem S9_ok (Kv : Value → World → Prop) : OkT pr false none 66 g9 (S9 (Kt Kv)) (s1 (tl 3 bd)) (P3 Kv) := ok_group mixed FOk_ 1 (B8 Kv) fun v ρ w => by kernel_rfl
theorem Q10 (Kv : Value → World → Prop) : OkT pr false none 66 g9 (S9 (Kt Kv)) (tl 3 bd) (P1 Kv) := ok_seq (by kernel_rfl) (S2_ok Kv) (S9_ok Kv)
end tocsinref21_Set_Sweep
def tocsinref21_Set_Sweep (s_3 : Option Addr) (now_4 : Int) (keep_5 : Int) (w : World) (K : tocsinref21_Set_Sweep.KT) : Prop :=
  C.tocsinref21_Time now_4 w fun b50 w51 => G.cond (!b50) (K (0 : Int) (1 : Int) w51) (G.cond (decide (keep_5 < (0 : Int))) (K (0 : Int) (1 : Int) w51) (G.cond (decide (keep_5 > (1099511627776 : Int))) (K (0 : Int) (1 : Int) w51) (tocsinref21_Set_Sweep.S9 K s_3 now_4 keep_5 nilS w51)))
def tocsinref21_Set_Sweep.cl : CL := fun args K w => match args with
  | [.pointer x0, .int .i64 x1, .int .i64 x2] => C.tocsinref21_Set_Sweep x0 x1 x2 w (tocsinref21_Set_Sweep.Kt K)
  | _ => False
theorem tocsinref21_Set_Sweep.clok : OkC pr 25 tocsinref21_Set_Sweep.cl := by
  intro args K w h
  unfold tocsinref21_Set_Sweep.cl at h
  split at h
  · exact calls_group false mixed tocsinref21_Set_Sweep.FOk_ tocsinref21_Set_Sweep.fn rfl 3 (tocsinref21_Set_Sweep.Q10 K) (Eq.mp (by kernel_rfl) h)
  · exact h.elim

/-! tocsin/tocsinref21.Spoil -/
namespace tocsinref21_Spoil
abbrev KT := World → Prop
def Kt (Kv : Value → World → Prop) : KT := fun  w => Kv (.tuple #[]) w
noncomputable def bd : Code := bdy Tryz.f27
theorem fn : FnOk pr 27 36 Tryz.f27 := ⟨Tryz.func27, by kernel_rfl, Tryz.ntmps27, by kernel_rfl, by kernel_rfl⟩
def F : Clee := ofL []
theorem FOk_ : FOk pr F := FOk_nil
def P1 (Kv : Value → World → Prop) : Post := bodyK false pr 36 Tryz.f27 Kv
def P2 (Kv : Value → World → Prop) : Post := inBlock 0 (P1 Kv)
@[reducible] def g3 : List SE := [.v 0 .sl, .v 2 (.int .i64)]
def P4 (Kv : Value → World → Prop) (kc3 : Cur g3) : Post := next (get g3 kc3) (P2 Kv)
def S5 (K : KT) (kc3 : Cur g3) (l_4 : Sl) (i_5 : Int) (w : World) : Prop :=
  kc3 l_4 (IntKind.i64.wrap (i_5 + (1 : Int))) w
theorem S5_ok (Kv : Value → World → Prop) (kc3 : Cur g3) : OkT pr false none 36 g3 (S5 (Kt Kv) kc3) (s2 (tl 1 (lp (blk (tl 1 bd))))) (P4 Kv kc3) := ok_last mixed FOk_ fun v ρ w => by kernel_rfl
def P6 (Kv : Value → World → Prop) (kc3 : Cur g3) : Post := next (get g3 (S5 (Kt Kv) kc3)) (P4 Kv kc3)
def P7 (Kv : Value → World → Prop) (kc3 : Cur g3) : Post := inBlock 1 (P6 Kv kc3)
def S8 (K : KT) (kc3 : Cur g3) (l_6 : Sl) (i_7 : Int) (w : World) : Prop :=
  G.ix l_6.a l_6.n i_7 3 fun p8 => G.st (p8.add 1) (.int .i64 (-3 : Int)) w fun w9 => G.ix l_6.a l_6.n i_7 3 fun p10 => G.st p10 nilS.v w9 fun w11 => S5 K kc3 l_6 i_7 w11
theorem S8_ok (Kv : Value → World → Prop) (kc3 : Cur g3) : OkT pr false none 36 g3 (S8 (Kt Kv) kc3) (s2 (blk (s1 (tl 1 (lp (blk (tl 1 bd))))))) (P7 Kv kc3) := ok_last mixed FOk_ fun v ρ w => by kernel_rfl
def P9 (Kv : Value → World → Prop) (kc3 : Cur g3) : Post := next (get g3 (S8 (Kt Kv) kc3)) (P7 Kv kc3)
def P10 (Kv : Value → World → Prop) (kc3 : Cur g3) : Post := inBlock 2 (P9 Kv kc3)
@[reducible] def g11 : List SE := [.v 0 .sl, .v 2 (.int .i64), .v 3 (.int .i64)]
def P12 (Kv : Value → World → Prop) (kc3 : Cur g3) (kc11 : Cur g11) : Post := next (get g11 kc11) (P10 Kv kc3)
def S13 (K : KT) (kc3 : Cur g3) (kc11 : Cur g11) (l_18 : Sl) (i_19 : Int) (k_20 : Int) (w : World) : Prop :=
  G.ix l_18.a l_18.n i_19 3 fun p21 => G.cSl p21 w fun l22 => G.cond (decide (k_20 < ((l22.n : Nat) : Int))) (G.ix l_18.a l_18.n i_19 3 fun p23 => G.cSl p23 w fun l24 => G.ix l24.a l24.n k_20 2 fun p25 => G.st (p25.add 1) (.string (⟨#[115, 112, 111, 105, 108, 116]⟩ : ByteArray)) w fun w26 => kc11 l_18 i_19 (IntKind.i64.wrap (k_20 + (1 : Int))) w26) (S8 K kc3 l_18 i_19 w)
theorem S13_ok (Kv : Value → World → Prop) (kc3 : Cur g3) (kc11 : Cur g11) : OkT pr false none 36 g11 (S13 (Kt Kv) kc3 kc11) (lp (blk (tl 1 (s1 (blk (s1 (tl 1 (lp (blk (tl 1 bd)))))))))) (P12 Kv kc3 kc11) := ok_last mixed FOk_ fun v ρ w => by kernel_rfl
def L11 (K : KT) (kc3 : Cur g3) : Cur g11 := loopC g11 (S13 K kc3)
theorem L11_ok (Kv : Value → World → Prop) (kc3 : Cur g3) : OkT pr false none 36 g11 (L11 (Kt Kv) kc3) (blk (tl 1 (s1 (blk (s1 (tl 1 (lp (blk (tl 1 bd))))))))) (P10 Kv kc3) := ok_loop (B := S13 (Kt Kv) kc3) (by kernel_rfl) fun kc => S13_ok Kv kc3 kc
theorem L11_ind {K : KT} {kc3 : Cur g3} {l_12 : Sl} {i_13 : Int} {k_14 : Int} {w : World} (h : ∀ X : Cur g11, (∀ l_12 i_13 k_14 w, S13 K kc3 X l_12 i_13 k_14 w → X l_12 i_13 k_14 w) → X l_12 i_13 k_14 w) : L11 K kc3 l_12 i_13 k_14 w := fun X hX => h X fun l_12 i_13 k_14 w hb => hX (l_12, i_13, k_14, ()) w hb
theorem B14 (Kv : Value → World → Prop) (kc3 : Cur g3) : OkT pr false none 36 g11 (L11 (Kt Kv) kc3) (tl 1 (s1 (blk (s1 (tl 1 (lp (blk (tl 1 bd)))))))) (P9 Kv kc3) := ok_block 2 (by kernel_rfl) (L11_ok Kv kc3)
def S15 (K : KT) (kc3 : Cur g3) (l_27 : Sl) (i_28 : Int) (w : World) : Prop :=
  L11 K kc3 l_27 i_28 (0 : Int) w
theorem S15_ok (Kv : Value → World → Prop) (kc3 : Cur g3) : OkT pr false none 36 g3 (S15 (Kt Kv) kc3) (s1 (blk (s1 (tl 1 (lp (blk (tl 1 bd))))))) (P9 Kv kc3) := ok_group mixed FOk_ 1 (B14 Kv kc3) fun v ρ w => by kernel_rfl
theorem Q16 (Kv : Value → World → Prop) (kc3 : Cur g3) : OkT pr false none 36 g3 (S15 (Kt Kv) kc3) (blk (s1 (tl 1 (lp (blk (tl 1 bd)))))) (P7 Kv kc3) := ok_seq (by kernel_rfl) (S8_ok Kv kc3) (S15_ok Kv kc3)
theorem B17 (Kv : Value → World → Prop) (kc3 : Cur g3) : OkT pr false none 36 g3 (S15 (Kt Kv) kc3) (s1 (tl 1 (lp (blk (tl 1 bd))))) (P6 Kv kc3) := ok_block 1 (by kernel_rfl) (Q16 Kv kc3)
theorem Q18 (Kv : Value → World → Prop) (kc3 : Cur g3) : OkT pr false none 36 g3 (S15 (Kt Kv) kc3) (tl 1 (lp (blk (tl 1 bd)))) (P4 Kv kc3) := ok_seq (by kernel_rfl) (S5_ok Kv kc3) (B17 Kv kc3)
def S19 (K : KT) (kc3 : Cur g3) (l_29 : Sl) (i_30 : Int) (w : World) : Prop :=
  G.cond (decide (i_30 < ((l_29.n : Nat) : Int))) (S15 K kc3 l_29 i_30 w) (K w)
theorem S19_ok (Kv : Value → World → Prop) (kc3 : Cur g3) : OkT pr false none 36 g3 (S19 (Kt Kv) kc3) (lp (blk (tl 1 bd))) (P4 Kv kc3) := ok_group mixed FOk_ 1 (Q18 Kv kc3) fun v ρ w => by kernel_rfl
def L3 (K : KT) : Cur g3 := loopC g3 (S19 K)
theorem L3_ok (Kv : Value → World → Prop) : OkT pr false none 36 g3 (L3 (Kt Kv)) (blk (tl 1 bd)) (P2 Kv) := ok_loop (B := S19 (Kt Kv)) (by kernel_rfl) fun kc => S19_ok Kv kc
theorem L3_ind {K : KT} {l_2 : Sl} {i_3 : Int} {w : World} (h : ∀ X : Cur g3, (∀ l_2 i_3 w, S19 K X l_2 i_3 w → X l_2 i_3 w) → X l_2 i_3 w) : L3 K l_2 i_3 w := fun X hX => h X fun l_2 i_3 w hb => hX (l_2, i_3, ()) w hb
theorem B20 (Kv : Value → World → Prop) : OkT pr false none 36 g3 (L3 (Kt Kv)) (tl 1 bd) (P1 Kv) := ok_block 0 (by kernel_rfl) (L3_ok Kv)
end tocsinref21_Spoil
def tocsinref21_Spoil (l_1 : Sl) (w : World) (K : tocsinref21_Spoil.KT) : Prop :=
  tocsinref21_Spoil.L3 K l_1 (0 : Int) w
def tocsinref21_Spoil.cl : CL := fun args K w => match args with
  | [.slice x0_a x0_n x0_c] => C.tocsinref21_Spoil ⟨x0_a, x0_n, x0_c⟩ w (tocsinref21_Spoil.Kt K)
  | _ => False
theorem tocsinref21_Spoil.clok : OkC pr 27 tocsinref21_Spoil.cl := by
  intro args K w h
  unfold tocsinref21_Spoil.cl at h
  split at h
  · exact calls_group false mixed tocsinref21_Spoil.FOk_ tocsinref21_Spoil.fn rfl 1 (tocsinref21_Spoil.B20 K) (Eq.mp (by kernel_rfl) h)
  · exact h.elim

/-! (*tocsin/tocsinref21.Set).Firing -/
namespace tocsinref21_Set_Firing
abbrev KT := Sl → World → Prop
def Kt (Kv : Value → World → Prop) : KT := fun l1 w => Kv l1.v w
noncomputable def bd : Code := bdy Tryz.f28
theorem fn : FnOk pr 28 49 Tryz.f28 := ⟨Tryz.func28, by kernel_rfl, Tryz.ntmps28, by kernel_rfl, by kernel_rfl⟩
def F : Clee := ofL []
theorem FOk_ : FOk pr F := FOk_nil
def P1 (Kv : Value → World → Prop) : Post := bodyK false pr 49 Tryz.f28 Kv
@[reducible] def g2 : List SE := [.v 5 .sl]
def S2 (K : KT) (l_4 : Sl) (w : World) : Prop :=
  K l_4 w
theorem S2_ok (Kv : Value → World → Prop) : OkT pr false none 49 g2 (S2 (Kt Kv)) (s2 (tl 2 bd)) (P1 Kv) := ok_last mixed FOk_ fun v ρ w => by kernel_rfl
def P3 (Kv : Value → World → Prop) : Post := next (get g2 (S2 (Kt Kv))) (P1 Kv)
def P4 (Kv : Value → World → Prop) : Post := inBlock 0 (P3 Kv)
@[reducible] def g5 : List SE := [.v 0 .ptr, .v 1 (.int .i64), .v 5 .sl, .v 6 (.int .i64)]
def P6 (Kv : Value → World → Prop) (kc5 : Cur g5) : Post := next (get g5 kc5) (P4 Kv)
def S7 (K : KT) (kc5 : Cur g5) (s_13 : Option Addr) (now_14 : Int) (l_15 : Sl) (i_16 : Int) (w : World) : Prop :=
  G.ptr s_13 fun p17 => G.cSl (p17.add 2) w fun l18 => G.cond (decide (i_16 < ((l18.n : Nat) : Int))) (G.ptr s_13 fun p19 => G.cSl (p19.add 2) w fun l20 => G.ix l20.a l20.n i_16 3 fun p21 => G.cI .i64 (p21.add 1) w fun n22 => G.cond (decide (n22 ≤ now_14)) (G.ptr s_13 fun p23 => G.cSl (p23.add 2) w fun l24 => G.ix l24.a l24.n i_16 3 fun p25 => G.cI .i64 (p25.add 2) w fun n26 => G.cond (decide (now_14 < n26)) (G.ptr s_13 fun p27 => G.cSl (p27.add 2) w fun l28 => G.ix l28.a l28.n i_16 3 fun p29 => G.cSl p29 w fun l30 => G.cI .i64 (p29.add 1) w fun n31 => G.cI .i64 (p29.add 2) w fun n32 => G.new (.cells #[l30.v, (.int .i64 n31), (.int .i64 n32)] 34) w fun p33 w34 => G.runSl pr (Builtin.append_ #[38, 38] 38 #[l_15.v, (Sl.v (⟨some p33, 1, 1⟩ : Sl))]) w34 fun l35 w36 => kc5 s_13 now_14 l35 (IntKind.i64.wrap (i_16 + (1 : Int))) w36) (kc5 s_13 now_14 l_15 (IntKind.i64.wrap (i_16 + (1 : Int))) w)) (kc5 s_13 now_14 l_15 (IntKind.i64.wrap (i_16 + (1 : Int))) w)) (S2 K l_15 w)
theorem S7_ok (Kv : Value → World → Prop) (kc5 : Cur g5) : OkT pr false none 49 g5 (S7 (Kt Kv) kc5) (lp (blk (tl 1 (s1 (tl 2 bd))))) (P6 Kv kc5) := ok_last mixed FOk_ fun v ρ w => by kernel_rfl
def L5 (K : KT) : Cur g5 := loopC g5 (S7 K)
theorem L5_ok (Kv : Value → World → Prop) : OkT pr false none 49 g5 (L5 (Kt Kv)) (blk (tl 1 (s1 (tl 2 bd)))) (P4 Kv) := ok_loop (B := S7 (Kt Kv)) (by kernel_rfl) fun kc => S7_ok Kv kc
theorem L5_ind {K : KT} {s_5 : Option Addr} {now_6 : Int} {l_7 : Sl} {i_8 : Int} {w : World} (h : ∀ X : Cur g5, (∀ s_5 now_6 l_7 i_8 w, S7 K X s_5 now_6 l_7 i_8 w → X s_5 now_6 l_7 i_8 w) → X s_5 now_6 l_7 i_8 w) : L5 K s_5 now_6 l_7 i_8 w := fun X hX => h X fun s_5 now_6 l_7 i_8 w hb => hX (s_5, now_6, l_7, i_8, ()) w hb
theorem B8 (Kv : Value → World → Prop) : OkT pr false none 49 g5 (L5 (Kt Kv)) (tl 1 (s1 (tl 2 bd))) (P3 Kv) := ok_block 0 (by kernel_rfl) (L5_ok Kv)
@[reducible] def g9 : List SE := [.v 0 .ptr, .v 1 (.int .i64), .v 5 .sl]
def S9 (K : KT) (s_37 : Option Addr) (now_38 : Int) (l_39 : Sl) (w : World) : Prop :=
  L5 K s_37 now_38 l_39 (0 : Int) w
theorem S9_ok (Kv : Value → World → Prop) : OkT pr false none 49 g9 (S9 (Kt Kv)) (s1 (tl 2 bd)) (P3 Kv) := ok_group mixed FOk_ 1 (B8 Kv) fun v ρ w => by kernel_rfl
theorem Q10 (Kv : Value → World → Prop) : OkT pr false none 49 g9 (S9 (Kt Kv)) (tl 2 bd) (P1 Kv) := ok_seq (by kernel_rfl) (S2_ok Kv) (S9_ok Kv)
end tocsinref21_Set_Firing
def tocsinref21_Set_Firing (s_2 : Option Addr) (now_3 : Int) (w : World) (K : tocsinref21_Set_Firing.KT) : Prop :=
  tocsinref21_Set_Firing.S9 K s_2 now_3 nilS w
def tocsinref21_Set_Firing.cl : CL := fun args K w => match args with
  | [.pointer x0, .int .i64 x1] => C.tocsinref21_Set_Firing x0 x1 w (tocsinref21_Set_Firing.Kt K)
  | _ => False
theorem tocsinref21_Set_Firing.clok : OkC pr 28 tocsinref21_Set_Firing.cl := by
  intro args K w h
  unfold tocsinref21_Set_Firing.cl at h
  split at h
  · exact calls_group false mixed tocsinref21_Set_Firing.FOk_ tocsinref21_Set_Firing.fn rfl 2 (tocsinref21_Set_Firing.Q10 K) (Eq.mp (by kernel_rfl) h)
  · exact h.elim

/-! tocsin/tocsinlaw21.step -/
namespace tocsinlaw21_step
abbrev KT := Bool → World → Prop
def Kt (Kv : Value → World → Prop) : KT := fun b1 w => Kv (.bool b1) w
noncomputable def bd : Code := bdy Tryz.f8
theorem fn : FnOk pr 8 167 Tryz.f8 := ⟨Tryz.func8, by kernel_rfl, Tryz.ntmps8, by kernel_rfl, by kernel_rfl⟩
def F : Clee := ofL [(10, C.tocsinref21_Same.cl), (12, C.alerts_Set_Put.cl), (13, C.alerts_Set_Get.cl), (14, C.alerts_Set_Firing.cl), (21, C.tocsinref09_Own.cl), (22, C.tocsinref04_Same.cl), (23, C.tocsinref21_Set_Put.cl), (24, C.alerts_Set_Sweep.cl), (25, C.tocsinref21_Set_Sweep.cl), (26, C.tocsinref21_At.cl), (27, C.tocsinref21_Spoil.cl), (28, C.tocsinref21_Set_Firing.cl)]
theorem FOk_ : FOk pr F := FOk_cons C.tocsinref21_Same.clok (FOk_cons C.alerts_Set_Put.clok (FOk_cons C.alerts_Set_Get.clok (FOk_cons C.alerts_Set_Firing.clok (FOk_cons C.tocsinref09_Own.clok (FOk_cons C.tocsinref04_Same.clok (FOk_cons C.tocsinref21_Set_Put.clok (FOk_cons C.alerts_Set_Sweep.clok (FOk_cons C.tocsinref21_Set_Sweep.clok (FOk_cons C.tocsinref21_At.clok (FOk_cons C.tocsinref21_Spoil.clok (FOk_cons C.tocsinref21_Set_Firing.clok (FOk_nil))))))))))))
def P1 (Kv : Value → World → Prop) : Post := bodyK false pr 167 Tryz.f8 Kv
@[reducible] def g2 : List SE := [.v 0 .ptr, .v 1 .ptr, .v 5 .ptr]
def S2 (K : KT) (s_10 : Option Addr) (r_11 : Option Addr) (o_12 : Option Addr) (w : World) : Prop :=
  G.ptr o_12 fun p13 => G.cI .i64 (p13.add 1) w fun n14 => C.alerts_Set_Firing s_10 n14 w fun l15 w16 => G.ptr o_12 fun p17 => G.cI .i64 (p17.add 1) w16 fun n18 => C.tocsinref21_Set_Firing r_11 n18 w16 fun l19 w20 => C.tocsinref21_Same l15 l19 w20 fun b21 w22 => C.tocsinref21_Spoil l15 w22 fun w23 => K b21 w23
theorem S2_ok (Kv : Value → World → Prop) : OkT pr false none 167 g2 (S2 (Kt Kv)) (s2 (tl 1 bd)) (P1 Kv) := ok_last mixed FOk_ fun v ρ w => by kernel_rfl
def P3 (Kv : Value → World → Prop) : Post := next (get g2 (S2 (Kt Kv))) (P1 Kv)
def P4 (Kv : Value → World → Prop) : Post := inBlock 0 (P3 Kv)
@[reducible] def g5 : List SE := [.v 1 .ptr, .v 5 .ptr, .v 8 (.int .i64), .v 9 .bool]
def S5 (K : KT) (r_24 : Option Addr) (o_25 : Option Addr) (e_26 : Int) (ok_27 : Bool) (w : World) : Prop :=
  G.cond ok_27 (G.ptr o_25 fun p28 => G.cI .i64 (p28.add 1) w fun n29 => G.ptr o_25 fun p30 => G.cSl (p30.add 3) w fun l31 => G.cI .i64 ((p30.add 3).add 1) w fun n32 => G.cI .i64 ((p30.add 3).add 2) w fun n33 => C.tocsinref21_Set_Put r_24 n29 l31 n32 n33 w fun n34 w35 => K (e_26 == n34) w35) (K false w)
theorem S5_ok (Kv : Value → World → Prop) : OkT pr false none 167 g5 (S5 (Kt Kv)) (s2 (tl 4 (c1 (tl 1 (blk (tl 1 (s1 (tl 1 bd)))))))) (P4 Kv) := ok_last mixed FOk_ fun v ρ w => by kernel_rfl
def P6 (Kv : Value → World → Prop) : Post := next (get g5 (S5 (Kt Kv))) (P4 Kv)
def P7 (Kv : Value → World → Prop) : Post := inBlock 1 (P6 Kv)
@[reducible] def g8 : List SE := [.v 1 .ptr, .v 5 .ptr, .v 7 .ptr, .v 8 (.int .i64), .v 9 .bool, .v 10 (.int .i64)]
def P9 (Kv : Value → World → Prop) (kc8 : Cur g8) : Post := next (get g8 kc8) (P7 Kv)
def S10 (K : KT) (kc8 : Cur g8) (r_48 : Option Addr) (o_49 : Option Addr) (a_50 : Option Addr) (e_51 : Int) (ok_52 : Bool) (i_53 : Int) (w : World) : Prop :=
  G.ptr a_50 fun p54 => G.cSl p54 w fun l55 => G.cond (decide (i_53 < ((l55.n : Nat) : Int))) (G.ptr a_50 fun p56 => G.cSl p56 w fun l57 => G.ix l57.a l57.n i_53 2 fun p58 => G.st (p58.add 1) (.string (⟨#[115, 112, 111, 105, 108, 116]⟩ : ByteArray)) w fun w59 => kc8 r_48 o_49 a_50 e_51 ok_52 (IntKind.i64.wrap (i_53 + (1 : Int))) w59) (S5 K r_48 o_49 e_51 ok_52 w)
theorem S10_ok (Kv : Value → World → Prop) (kc8 : Cur g8) : OkT pr false none 167 g8 (S10 (Kt Kv) kc8) (lp (blk (tl 1 (s1 (tl 4 (c1 (tl 1 (blk (tl 1 (s1 (tl 1 bd))))))))))) (P9 Kv kc8) := ok_last mixed FOk_ fun v ρ w => by kernel_rfl
def L8 (K : KT) : Cur g8 := loopC g8 (S10 K)
theorem L8_ok (Kv : Value → World → Prop) : OkT pr false none 167 g8 (L8 (Kt Kv)) (blk (tl 1 (s1 (tl 4 (c1 (tl 1 (blk (tl 1 (s1 (tl 1 bd)))))))))) (P7 Kv) := ok_loop (B := S10 (Kt Kv)) (by kernel_rfl) fun kc => S10_ok Kv kc
theorem L8_ind {K : KT} {r_36 : Option Addr} {o_37 : Option Addr} {a_38 : Option Addr} {e_39 : Int} {ok_40 : Bool} {i_41 : Int} {w : World} (h : ∀ X : Cur g8, (∀ r_36 o_37 a_38 e_39 ok_40 i_41 w, S10 K X r_36 o_37 a_38 e_39 ok_40 i_41 w → X r_36 o_37 a_38 e_39 ok_40 i_41 w) → X r_36 o_37 a_38 e_39 ok_40 i_41 w) : L8 K r_36 o_37 a_38 e_39 ok_40 i_41 w := fun X hX => h X fun r_36 o_37 a_38 e_39 ok_40 i_41 w hb => hX (r_36, o_37, a_38, e_39, ok_40, i_41, ()) w hb
theorem B11 (Kv : Value → World → Prop) : OkT pr false none 167 g8 (L8 (Kt Kv)) (tl 1 (s1 (tl 4 (c1 (tl 1 (blk (tl 1 (s1 (tl 1 bd))))))))) (P6 Kv) := ok_block 1 (by kernel_rfl) (L8_ok Kv)
@[reducible] def g12 : List SE := [.v 1 .ptr, .v 5 .ptr, .v 7 .ptr, .v 8 (.int .i64), .v 9 .bool]
def S12 (K : KT) (r_60 : Option Addr) (o_61 : Option Addr) (a_62 : Option Addr) (e_63 : Int) (ok_64 : Bool) (w : World) : Prop :=
  L8 K r_60 o_61 a_62 e_63 ok_64 (0 : Int) w
theorem S12_ok (Kv : Value → World → Prop) : OkT pr false none 167 g12 (S12 (Kt Kv)) (s1 (tl 4 (c1 (tl 1 (blk (tl 1 (s1 (tl 1 bd)))))))) (P6 Kv) := ok_group mixed FOk_ 1 (B11 Kv) fun v ρ w => by kernel_rfl
theorem Q13 (Kv : Value → World → Prop) : OkT pr false none 167 g12 (S12 (Kt Kv)) (tl 4 (c1 (tl 1 (blk (tl 1 (s1 (tl 1 bd))))))) (P4 Kv) := ok_seq (by kernel_rfl) (S5_ok Kv) (S12_ok Kv)
@[reducible] def g14 : List SE := [.v 0 .ptr, .v 1 .ptr, .v 5 .ptr, .v 23 (.int .i64), .v 24 .bool]
def S14 (K : KT) (s_65 : Option Addr) (r_66 : Option Addr) (o_67 : Option Addr) (n68 : Int) (b69 : Bool) (w : World) : Prop :=
  G.ptr o_67 fun p70 => G.cSl (p70.add 3) w fun l71 => G.cI .i64 ((p70.add 3).add 1) w fun n72 => G.cI .i64 ((p70.add 3).add 2) w fun n73 => G.new (.cells #[nilS.v, (.int .i64 (0 : Int)), (.int .i64 (0 : Int))] 34) w fun p74 w75 => G.st p74 l71.v w75 fun w76 => G.st (p74.add 1) (.int .i64 n72) w76 fun w77 => G.st (p74.add 2) (.int .i64 n73) w77 fun w78 => G.ptr o_67 fun p79 => G.cSl (p79.add 3) w78 fun l80 => C.tocsinref09_Own l80 w78 fun l81 w82 => G.st p74 l81.v w82 fun w83 => G.ptr o_67 fun p84 => G.cI .i64 (p84.add 1) w83 fun n85 => G.cSl p74 w83 fun l86 => G.cI .i64 (p74.add 1) w83 fun n87 => G.cI .i64 (p74.add 2) w83 fun n88 => C.alerts_Set_Put s_65 n85 l86 n87 n88 w83 fun n89 w90 => G.cSl p74 w90 fun l91 => G.ptr o_67 fun p92 => G.cSl (p92.add 3) w90 fun l93 => C.tocsinref04_Same l91 l93 w90 fun b94 w95 => S12 K r_66 o_67 (some p74) n89 b94 w95
theorem S14_ok (Kv : Value → World → Prop) : OkT pr false none 167 g14 (S14 (Kt Kv)) (c1 (tl 1 (blk (tl 1 (s1 (tl 1 bd)))))) (P4 Kv) := ok_group mixed FOk_ 4 (Q13 Kv) fun v ρ w => by kernel_rfl
def S15 (K : KT) (s_96 : Option Addr) (r_97 : Option Addr) (o_98 : Option Addr) (n99 : Int) (b100 : Bool) (w : World) : Prop :=
  G.cond (n99 == (1 : Int)) (G.ptr o_98 fun p101 => G.cI .i64 (p101.add 1) w fun n102 => G.ptr o_98 fun p103 => G.cI .i64 (p103.add 2) w fun n104 => C.alerts_Set_Sweep s_96 n102 n104 w fun n105 n106 w107 => G.ptr o_98 fun p108 => G.cI .i64 (p108.add 1) w107 fun n109 => G.ptr o_98 fun p110 => G.cI .i64 (p110.add 2) w107 fun n111 => C.tocsinref21_Set_Sweep r_97 n109 n111 w107 fun n112 n113 w114 => G.cond (n105 == n112) (K (n106 == n113) w114) (K false w114)) (G.cond (n99 == (2 : Int)) (G.ptr o_98 fun p115 => G.cSl (p115.add 3) w fun l116 => C.alerts_Set_Get s_96 l116 w fun l117 n118 n119 b120 w121 => G.new (.cells #[nilS.v, (.int .i64 (0 : Int)), (.int .i64 (0 : Int))] 34) w121 fun p122 w123 => G.st p122 l117.v w123 fun w124 => G.st (p122.add 1) (.int .i64 n118) w124 fun w125 => G.st (p122.add 2) (.int .i64 n119) w125 fun w126 => G.ptr r_97 fun p127 => G.cSl (p127.add 2) w126.drew fun l128 => G.ptr o_98 fun p129 => G.cSl (p129.add 3) w126.drew fun l130 => C.tocsinref21_At l128 l130 w126.drew fun n131 b132 w133 => G.cond (!b132) (G.cond (!b120) (G.cSl p122 w133 fun l134 => G.cond (((l134.n : Nat) : Int) == (0 : Int)) (G.cI .i64 (p122.add 1) w133 fun n135 => G.cond (n135 == (0 : Int)) (G.cI .i64 (p122.add 2) w133 fun n136 => K (n136 == (0 : Int)) w133) (K false w133)) (K false w133)) (K false w133)) (G.cond b120 (G.cSl p122 w133.drew fun l137 => G.cI .i64 (p122.add 1) w133.drew fun n138 => G.cI .i64 (p122.add 2) w133.drew fun n139 => G.ptr r_97 fun p140 => G.cSl (p140.add 2) w133.drew fun l141 => G.slc l141 n131 (IntKind.i64.wrap (n131 + (1 : Int))) 3 fun l142 => G.new (.cells #[l137.v, (.int .i64 n138), (.int .i64 n139)] 34) w133.drew fun p143 w144 => sameAt (p140.add 2) 1 w133.drew w144 ∧ (C.tocsinref21_Same (⟨some p143, 1, 1⟩ : Sl) l142 w144 fun b145 w146 => G.cSl p122 w146 fun l147 => G.cI .i64 (p122.add 1) w146 fun n148 => G.cI .i64 (p122.add 2) w146 fun n149 => G.new (.cells #[l147.v, (.int .i64 n148), (.int .i64 n149)] 34) w146 fun p150 w151 => C.tocsinref21_Spoil (⟨some p150, 1, 1⟩ : Sl) w151 fun w152 => K b145 w152)) (G.cSl p122 w133.drew fun l153 => G.cI .i64 (p122.add 1) w133.drew fun n154 => G.cI .i64 (p122.add 2) w133.drew fun n155 => G.new (.cells #[l153.v, (.int .i64 n154), (.int .i64 n155)] 34) w133.drew fun p156 w157 => C.tocsinref21_Spoil (⟨some p156, 1, 1⟩ : Sl) w157 fun w158 => K false w158))) (S2 K s_96 r_97 o_98 w))
theorem S15_ok (Kv : Value → World → Prop) : OkT pr false none 167 g14 (S15 (Kt Kv)) (c2 (tl 1 (blk (tl 1 (s1 (tl 1 bd)))))) (P4 Kv) := ok_last mixed FOk_ fun v ρ w => by kernel_rfl
def D16 (K : KT) (s_159 : Option Addr) (r_160 : Option Addr) (o_161 : Option Addr) (n162 : Int) (b163 : Bool) (w : World) : Prop :=
  G.cond b163 (S14 K s_159 r_160 o_161 n162 b163 w) (S15 K s_159 r_160 o_161 n162 b163 w)
theorem D16_ok (Kv : Value → World → Prop) : OkT pr false none 167 g14 (D16 (Kt Kv)) (tl 1 (blk (tl 1 (s1 (tl 1 bd))))) (P4 Kv) :=
  ok_cond 24 (fun v => v.2.2.2.2.1) (by kernel_rfl) (fun v ρ => by kernel_rfl) (fun v w => by kernel_rfl) (S14_ok Kv) (S15_ok Kv)
@[reducible] def g17 : List SE := [.v 0 .ptr, .v 1 .ptr, .v 5 .ptr, .v 23 (.int .i64)]
def S17 (K : KT) (s_164 : Option Addr) (r_165 : Option Addr) (o_166 : Option Addr) (n167 : Int) (w : World) : Prop :=
  D16 K s_164 r_165 o_166 n167 (n167 == (0 : Int)) w
theorem S17_ok (Kv : Value → World → Prop) : OkT pr false none 167 g17 (S17 (Kt Kv)) (blk (tl 1 (s1 (tl 1 bd)))) (P4 Kv) := ok_group mixed FOk_ 1 (D16_ok Kv) fun v ρ w => by kernel_rfl
theorem B18 (Kv : Value → World → Prop) : OkT pr false none 167 g17 (S17 (Kt Kv)) (tl 1 (s1 (tl 1 bd))) (P3 Kv) := ok_block 0 (by kernel_rfl) (S17_ok Kv)
def S19 (K : KT) (s_168 : Option Addr) (r_169 : Option Addr) (o_170 : Option Addr) (w : World) : Prop :=
  G.ptr o_170 fun p171 => G.cI .i64 p171 w fun n172 => S17 K s_168 r_169 o_170 n172 w
theorem S19_ok (Kv : Value → World → Prop) : OkT pr false none 167 g2 (S19 (Kt Kv)) (s1 (tl 1 bd)) (P3 Kv) := ok_group mixed FOk_ 1 (B18 Kv) fun v ρ w => by kernel_rfl
theorem Q20 (Kv : Value → World → Prop) : OkT pr false none 167 g2 (S19 (Kt Kv)) (tl 1 bd) (P1 Kv) := ok_seq (by kernel_rfl) (S2_ok Kv) (S19_ok Kv)
end tocsinlaw21_step
def tocsinlaw21_step (s_2 : Option Addr) (r_3 : Option Addr) (o_4 : Int) (o_5 : Int) (o_6 : Int) (o_7 : Sl) (o_8 : Int) (o_9 : Int) (w : World) (K : tocsinlaw21_step.KT) : Prop :=
  G.new (.cells #[(.int .i64 o_4), (.int .i64 o_5), (.int .i64 o_6), o_7.v, (.int .i64 o_8), (.int .i64 o_9)] 36) w fun p173 w174 => tocsinlaw21_step.S19 K s_2 r_3 (some p173) w174
def tocsinlaw21_step.cl : CL := fun args K w => match args with
  | [.pointer x0, .pointer x1, .agg ⟨[.int .i64 x2_0, .int .i64 x2_1, .int .i64 x2_2, .slice x2_3_a x2_3_n x2_3_c, .int .i64 x2_4, .int .i64 x2_5]⟩] => C.tocsinlaw21_step x0 x1 x2_0 x2_1 x2_2 ⟨x2_3_a, x2_3_n, x2_3_c⟩ x2_4 x2_5 w (tocsinlaw21_step.Kt K)
  | _ => False
theorem tocsinlaw21_step.clok : OkC pr 8 tocsinlaw21_step.cl := by
  intro args K w h
  unfold tocsinlaw21_step.cl at h
  split at h
  · exact calls_group false mixed tocsinlaw21_step.FOk_ tocsinlaw21_step.fn rfl 1 (tocsinlaw21_step.Q20 K) (Eq.mp (by kernel_rfl) h)
  · exact h.elim

/-! (*tocsin/alerts.Set).Len -/
namespace alerts_Set_Len
abbrev KT := Int → World → Prop
def Kt (Kv : Value → World → Prop) : KT := fun n1 w => Kv (.int .i64 n1) w
noncomputable def bd : Code := bdy Tryz.f9
theorem fn : FnOk pr 9 10 Tryz.f9 := ⟨Tryz.func9, by kernel_rfl, Tryz.ntmps9, by kernel_rfl, by kernel_rfl⟩
def F : Clee := ofL []
theorem FOk_ : FOk pr F := FOk_nil
def P1 (Kv : Value → World → Prop) : Post := bodyK false pr 10 Tryz.f9 Kv
end alerts_Set_Len
def alerts_Set_Len (s_2 : Option Addr) (w : World) (K : alerts_Set_Len.KT) : Prop :=
  G.cond s_2.isNone (K (0 : Int) w) (G.ptr s_2 fun p3 => G.cM (p3.add 2) w fun m4 => G.rdI pr (Builtin.len_ #[44] 3 #[(.map m4)]) .i64 w fun n5 => K n5 w)
def alerts_Set_Len.cl : CL := fun args K w => match args with
  | [.pointer x0] => C.alerts_Set_Len x0 w (alerts_Set_Len.Kt K)
  | _ => False
theorem alerts_Set_Len.clok : OkC pr 9 alerts_Set_Len.cl := by
  intro args K w h
  unfold alerts_Set_Len.cl at h
  split at h
  · exact calls_last false mixed alerts_Set_Len.FOk_ alerts_Set_Len.fn rfl (Eq.mp (by kernel_rfl) h)
  · exact h.elim

/-! tocsin/tocsinlaw21.all -/
namespace tocsinlaw21_all
abbrev KT := Sl → World → Prop
def Kt (Kv : Value → World → Prop) : KT := fun l1 w => Kv l1.v w
noncomputable def bd : Code := bdy Tryz.f11
theorem fn : FnOk pr 11 23 Tryz.f11 := ⟨Tryz.func11, by kernel_rfl, Tryz.ntmps11, by kernel_rfl, by kernel_rfl⟩
def F : Clee := ofL [(7, C.alerts_Set_All.cl)]
theorem FOk_ : FOk pr F := FOk_cons C.alerts_Set_All.clok (FOk_nil)
def Fc : Clee := ofL [(15, C.alerts_Set_All_1.cl), (18, C.alerts_Set_All_1_1.cl), (35, C.maps_Values_1_map_string_Alert_string_Alert.cl), (37, C.labels_Compare_1.cl), (75, C.maps_Keys_1_map_string_Alert_string_Alert.cl)]
theorem FcOk : FOkB pr Fc := FOkB_cons C.alerts_Set_All_1.clok (FOkB_cons C.alerts_Set_All_1_1.clok (FOkB_cons C.maps_Values_1_map_string_Alert_string_Alert.clok (FOkB_cons C.labels_Compare_1.clok (FOkB_cons C.maps_Keys_1_map_string_Alert_string_Alert.clok (FOkB_nil)))))
def P1 (Kv : Value → World → Prop) : Post := bodyK true pr 23 Tryz.f11 Kv
@[reducible] def g2 : List SE := [.v 5 .ptr, .v 23 .raw]
def S2 (K : KT) (l_4 : Option Addr) (v5 : Value) (w : World) : Prop :=
  G.ptr l_4 fun p6 => G.cSl p6 w fun l7 => G.marks v5 w fun w8 => K l7 w8
theorem S2_ok (Kv : Value → World → Prop) : OkT pr true none 23 g2 (S2 (Kt Kv)) (s2 (tl 4 bd)) (P1 Kv) := ok_last mixed FOk_ fun v ρ w => by kernel_rfl
def P3 (Kv : Value → World → Prop) : Post := next (get g2 (S2 (Kt Kv))) (P1 Kv)
def P4 (Kv : Value → World → Prop) : Post := inBlock 0 (P3 Kv)
@[reducible] def g5 : List SE := [.v 3 .ptr, .v 5 .ptr, .v 12 .raw, .v 23 .raw]
def P6 (Rr : Exit → World → Prop) : Post := RP Rr
@[reducible] def g7 : List SE := [.v 3 .ptr, .v 5 .ptr, .v 7 .ptr]
def S7 (Rr : Exit → World → Prop) (most_13 : Option Addr) (l_14 : Option Addr) (a_15 : Option Addr) (w : World) : Prop :=
  G.ptr l_14 fun p16 => G.cSl p16 w fun l17 => G.ptr a_15 fun p18 => G.cSl p18 w fun l19 => G.cI .i64 (p18.add 1) w fun n20 => G.cI .i64 (p18.add 2) w fun n21 => G.new (.cells #[l19.v, (.int .i64 n20), (.int .i64 n21)] 34) w fun p22 w23 => G.runSl pr (Builtin.append_ #[38, 38] 38 #[l17.v, (Sl.v (⟨some p22, 1, 1⟩ : Sl))]) w23 fun l24 w25 => G.ptr l_14 fun p26 => G.st p26 l24.v w25 fun w27 => G.ptr l_14 fun p28 => G.cSl p28 w27 fun l29 => G.ptr most_13 fun p30 => G.cI .i64 p30 w27 fun n31 => G.cond (((l29.n : Nat) : Int) == n31) (Rr (.exit 0) w27) (Rr .normal w27)
theorem S7_ok (Rr : Exit → World → Prop) {ro : Option Nat} : OkT pr false ro 23 g7 (S7 Rr) (rbd (blk (tl 1 (s1 (tl 4 bd))))) (P6 Rr) := ok_last mixed FOk_ fun v ρ w => by kernel_rfl
def B_R5 (most_9 : Option Addr) (l_10 : Option Addr) (v11 : Value) (v12 : Value) (args : List Value) (wb : World) (bz : (World → Prop) → World → Prop) (Rr : Exit → World → Prop) : Prop := match args with
  | [.agg ⟨[.slice y_32_a y_32_n y_32_c, .int .i64 y_33, .int .i64 y_34]⟩] => G.new (.cells #[nilS.v, (.int .i64 (0 : Int)), (.int .i64 (0 : Int))] 34) wb fun p35 w36 => G.st p35 (⟨y_32_a, y_32_n, y_32_c⟩ : Sl).v w36 fun w37 => G.st (p35.add 1) (.int .i64 y_33) w37 fun w38 => G.st (p35.add 2) (.int .i64 y_34) w38 fun w39 => bz (S7 Rr most_9 l_10 (some p35)) w39
  | _ => False
def O_R5 (K : KT) (most_9 : Option Addr) (l_10 : Option Addr) (v11 : Value) (v12 : Value) (e : Exit) (D : Nat) (w : World) : Prop := match e with
  | .normal => S2 K l_10 (pushMark v12 D) w
  | .exit i => bif Nat.beq i 0 then (S2 K l_10 (pushMark v12 D) w) else False
  | _ => False
def R5 (K : KT) (most_9 : Option Addr) (l_10 : Option Addr) (v11 : Value) (v12 : Value) (w : World) : Prop :=
  G.rangeW Fc v11 pr (B_R5 most_9 l_10 v11 v12) w (O_R5 K most_9 l_10 v11 v12)
theorem R5_ok (Kv : Value → World → Prop) : OkT pr true none 23 g5 (R5 (Kt Kv)) (blk (tl 1 (s1 (tl 4 bd)))) (P4 Kv) := by
  refine ok_rangeW mixed FOk_ FcOk (s := 12) (ps := #[13]) (Bt := fun v => B_R5 v.1 v.2.1 v.2.2.1 v.2.2.2.1) (kB := fun Rr => S7 Rr) (sgB := g7) (out := fun v => O_R5 (Kt Kv) v.1 v.2.1 v.2.2.1 v.2.2.2.1) (by kernel_rfl) (fun v ρ w => by kernel_rfl) ?_ (fun Rr l => S7_ok Rr) ?_
  · intro v ρ args w bz Rr h
    have h' : B_R5 v.1 v.2.1 v.2.2.1 v.2.2.2.1 args w bz Rr := h
    unfold B_R5 at h'
    split at h'
    · exact ⟨rfl, Eq.mp (by kernel_rfl) h'⟩
    · exact h'.elim
  · intro v ρ e D w h
    cases e with
    | normal => exact Eq.mp (by kernel_rfl) h
    | exit i =>
      refine (exit_inv h).elim (fun h => ?_) (fun h => ?_)
      · obtain ⟨rfl, h⟩ := h; exact Eq.mp (by kernel_rfl) h
      · exact h.elim
    | _ => exact h.elim
theorem B8 (Kv : Value → World → Prop) : OkT pr true none 23 g5 (R5 (Kt Kv)) (tl 1 (s1 (tl 4 bd))) (P3 Kv) := ok_block 0 (by kernel_rfl) (R5_ok Kv)
@[reducible] def g9 : List SE := [.v 3 .ptr, .v 5 .ptr, .v 6 .raw, .v 23 .raw]
def S9 (K : KT) (most_40 : Option Addr) (l_41 : Option Addr) (seq_42 : Value) (v43 : Value) (w : World) : Prop :=
  R5 K most_40 l_41 seq_42 v43 w
theorem S9_ok (Kv : Value → World → Prop) : OkT pr true none 23 g9 (S9 (Kt Kv)) (s1 (tl 4 bd)) (P3 Kv) := ok_group mixed FOk_ 1 (B8 Kv) fun v ρ w => by kernel_rfl
theorem Q10 (Kv : Value → World → Prop) : OkT pr true none 23 g9 (S9 (Kt Kv)) (tl 4 bd) (P1 Kv) := ok_seq (by kernel_rfl) (S2_ok Kv) (S9_ok Kv)
end tocsinlaw21_all
def tocsinlaw21_all (s_2 : Option Addr) (most_3 : Int) (w : World) (K : tocsinlaw21_all.KT) : Prop :=
  G.new (.cells #[(.int .i64 most_3)] 3) w fun p44 w45 => G.new (.cells #[nilS.v] 38) w45 fun p46 w47 => C.alerts_Set_All s_2 w47 fun v48 w49 => G.isNilF v48 fun b50 => G.cond b50 (K nilS w49) (tocsinlaw21_all.S9 K (some p44) (some p46) v48 undef w49)
def tocsinlaw21_all.cl : CL := fun args K w => match args with
  | [.pointer x0, .int .i64 x1] => C.tocsinlaw21_all x0 x1 w (tocsinlaw21_all.Kt K)
  | _ => False
theorem tocsinlaw21_all.clok : OkC pr 11 tocsinlaw21_all.cl := by
  intro args K w h
  unfold tocsinlaw21_all.cl at h
  split at h
  · exact calls_group true mixed tocsinlaw21_all.FOk_ tocsinlaw21_all.fn rfl 4 (tocsinlaw21_all.Q10 K) (Eq.mp (by kernel_rfl) h)
  · exact h.elim
end C
end Go.Proofs.YtfkpehcbijgmnaaGreatDoor
