/- Clean texts of Go functions, written by a program of this work (gen.py) off the loaded code, each shown to be what the code does. -/
import Derived.Test.YtfkpehcbijgmnaaDoorProg
import Derived.Test.YtfkpehcbijgmnaaDoorVmLift
import Derived.Lib.Bytealg
import Derived.Test.YtfkpehcbijgmnaaDoorSortF
import Derived.Test.YtfkpehcbijgmnaaDoorSortS
set_option linter.unusedVariables false
set_option maxRecDepth 100000
namespace Go.Proofs.YtfkpehcbijgmnaaDoor
open Go Vm
namespace C
noncomputable abbrev pr : Program := Tryd.prog
theorem mixed : pr.follows .mixedOrders = true := by kernel_rfl
/-! maps.Values[map[string]tocsin/api.Alert,string,tocsin/api.Alert]$1 -/
namespace maps_Values_1_map_string_Alert_string_Alert
abbrev KT := World → Prop
def Kt (Kv : Value → World → Prop) : KT := fun  w => Kv (.tuple #[]) w
noncomputable def bd : Code := bdy Tryd.f48
theorem fn : FnOk pr 48 15 Tryd.f48 := ⟨Tryd.func48, by kernel_rfl, Tryd.ntmps48, by kernel_rfl, by kernel_rfl⟩
def F : Clee := ofL []
theorem FOk_ : FOk pr F := FOk_nil
def P1 (Kv : Value → World → Prop) : Post := bodyK false pr 15 Tryd.f48 Kv
def P2 (Kv : Value → World → Prop) : Post := inBlock 0 (P1 Kv)
@[reducible] def g3 : List SE := [.v 0 .raw, .v 6 .ptr]
def P4 (Kv : Value → World → Prop) (kc3 : Cur g3) : Post := next (get g3 kc3) (P2 Kv)
def S5 (K : KT) (kc3 : Cur g3) (yield_7 : Value) (p8 : Option Addr) (w : World) : Prop :=
  G.nxt pr (Instr.next (.pointer p8) false 0) w (fun w9 => K w9) (fun k11 x12 w10 => G.ent pr (Instr.entry (.pointer p8)) w10 fun k13 x14 => G.ag x14 3 fun c15 => G.vSl c15[0 + 0]? fun l16 => G.vI .i64 c15[0 + 1]? fun n17 => G.vI .i64 c15[0 + 2]? fun n18 => G.new (.cells #[nilS.v, (.int .i64 (0 : Int)), (.int .i64 (0 : Int))] 31) w10 fun p19 w20 => G.st p19 l16.v w20 fun w21 => G.st (p19.add 1) (.int .i64 n17) w21 fun w22 => G.st (p19.add 2) (.int .i64 n18) w22 fun w23 => G.cSl p19 w23 fun l24 => G.cI .i64 (p19.add 1) w23 fun n25 => G.cI .i64 (p19.add 2) w23 fun n26 => G.callV pr F yield_7 [(.agg #[l24.v, (.int .i64 n25), (.int .i64 n26)])] w23 fun v27 w28 => G.isB v27 fun b29 => G.cond (!b29) (K w28) (kc3 yield_7 p8 w28))
theorem S5_ok (Kv : Value → World → Prop) (kc3 : Cur g3) : OkT pr false none 15 g3 (S5 (Kt Kv) kc3) (lp (blk (tl 1 bd))) (P4 Kv kc3) := ok_last mixed FOk_ fun v ρ w => by kernel_rfl
def L3 (K : KT) : Cur g3 := loopC g3 (S5 K)
theorem L3_ok (Kv : Value → World → Prop) : OkT pr false none 15 g3 (L3 (Kt Kv)) (blk (tl 1 bd)) (P2 Kv) := ok_loop (B := S5 (Kt Kv)) (by kernel_rfl) fun kc => S5_ok Kv kc
theorem L3_ind {K : KT} {yield_3 : Value} {p4 : Option Addr} {w : World} (h : ∀ X : Cur g3, (∀ yield_3 p4 w, S5 K X yield_3 p4 w → X yield_3 p4 w) → X yield_3 p4 w) : L3 K yield_3 p4 w := fun X hX => h X fun yield_3 p4 w hb => hX (yield_3, p4, ()) w hb
theorem B6 (Kv : Value → World → Prop) : OkT pr false none 15 g3 (L3 (Kt Kv)) (tl 1 bd) (P1 Kv) := ok_block 0 (by kernel_rfl) (L3_ok Kv)
end maps_Values_1_map_string_Alert_string_Alert
def maps_Values_1_map_string_Alert_string_Alert (yield_1 : Value) (p_2 : Option Addr) (w : World) (K : maps_Values_1_map_string_Alert_string_Alert.KT) : Prop :=
  G.ptr p_2 fun p30 => G.cM p30 w fun m31 => G.runP pr (Instr.range 50 (.map m31)) w fun p32 w33 => maps_Values_1_map_string_Alert_string_Alert.L3 K yield_1 p32 w33
def maps_Values_1_map_string_Alert_string_Alert.cl : CL := fun args K w => match args with
  | [x0, .pointer x1] => C.maps_Values_1_map_string_Alert_string_Alert x0 x1 w (maps_Values_1_map_string_Alert_string_Alert.Kt K)
  | _ => False
theorem maps_Values_1_map_string_Alert_string_Alert.clok : OkC pr 48 maps_Values_1_map_string_Alert_string_Alert.cl := by
  intro args K w h
  unfold maps_Values_1_map_string_Alert_string_Alert.cl at h
  split at h
  · exact calls_group false mixed maps_Values_1_map_string_Alert_string_Alert.FOk_ maps_Values_1_map_string_Alert_string_Alert.fn rfl 1 (maps_Values_1_map_string_Alert_string_Alert.B6 K) (Eq.mp (by kernel_rfl) h)
  · exact h.elim

/-! maps.Keys[map[string]tocsin/api.Alert,string,tocsin/api.Alert]$1 -/
namespace maps_Keys_1_map_string_Alert_string_Alert
abbrev KT := World → Prop
def Kt (Kv : Value → World → Prop) : KT := fun  w => Kv (.tuple #[]) w
noncomputable def bd : Code := bdy Tryd.f54
theorem fn : FnOk pr 54 14 Tryd.f54 := ⟨Tryd.func54, by kernel_rfl, Tryd.ntmps54, by kernel_rfl, by kernel_rfl⟩
def F : Clee := ofL [(48, C.maps_Values_1_map_string_Alert_string_Alert.cl)]
theorem FOk_ : FOk pr F := FOk_cons C.maps_Values_1_map_string_Alert_string_Alert.clok (FOk_nil)
def P1 (Kv : Value → World → Prop) : Post := bodyK false pr 14 Tryd.f54 Kv
def P2 (Kv : Value → World → Prop) : Post := inBlock 0 (P1 Kv)
@[reducible] def g3 : List SE := [.v 0 .raw, .v 5 .ptr]
def P4 (Kv : Value → World → Prop) (kc3 : Cur g3) : Post := next (get g3 kc3) (P2 Kv)
def S5 (K : KT) (kc3 : Cur g3) (yield_5 : Value) (p6 : Option Addr) (w : World) : Prop :=
  G.nxt pr (Instr.next (.pointer p6) false 0) w (fun w7 => K w7) (fun k9 x10 w8 => G.ent pr (Instr.entry (.pointer p6)) w8 fun k11 x12 => G.vS (some k11) fun s13 => G.callV pr F yield_5 [(.string s13)] w8 fun v14 w15 => G.isB v14 fun b16 => G.cond (!b16) (K w15) (kc3 yield_5 p6 w15))
theorem S5_ok (Kv : Value → World → Prop) (kc3 : Cur g3) : OkT pr false none 14 g3 (S5 (Kt Kv) kc3) (lp (blk (tl 1 bd))) (P4 Kv kc3) := ok_last mixed FOk_ fun v ρ w => by kernel_rfl
def L3 (K : KT) : Cur g3 := loopC g3 (S5 K)
theorem L3_ok (Kv : Value → World → Prop) : OkT pr false none 14 g3 (L3 (Kt Kv)) (blk (tl 1 bd)) (P2 Kv) := ok_loop (B := S5 (Kt Kv)) (by kernel_rfl) fun kc => S5_ok Kv kc
theorem L3_ind {K : KT} {yield_3 : Value} {p4 : Option Addr} {w : World} (h : ∀ X : Cur g3, (∀ yield_3 p4 w, S5 K X yield_3 p4 w → X yield_3 p4 w) → X yield_3 p4 w) : L3 K yield_3 p4 w := fun X hX => h X fun yield_3 p4 w hb => hX (yield_3, p4, ()) w hb
theorem B6 (Kv : Value → World → Prop) : OkT pr false none 14 g3 (L3 (Kt Kv)) (tl 1 bd) (P1 Kv) := ok_block 0 (by kernel_rfl) (L3_ok Kv)
end maps_Keys_1_map_string_Alert_string_Alert
def maps_Keys_1_map_string_Alert_string_Alert (yield_1 : Value) (p_2 : Option Addr) (w : World) (K : maps_Keys_1_map_string_Alert_string_Alert.KT) : Prop :=
  G.ptr p_2 fun p17 => G.cM p17 w fun m18 => G.runP pr (Instr.range 50 (.map m18)) w fun p19 w20 => maps_Keys_1_map_string_Alert_string_Alert.L3 K yield_1 p19 w20
def maps_Keys_1_map_string_Alert_string_Alert.cl : CL := fun args K w => match args with
  | [x0, .pointer x1] => C.maps_Keys_1_map_string_Alert_string_Alert x0 x1 w (maps_Keys_1_map_string_Alert_string_Alert.Kt K)
  | _ => False
theorem maps_Keys_1_map_string_Alert_string_Alert.clok : OkC pr 54 maps_Keys_1_map_string_Alert_string_Alert.cl := by
  intro args K w h
  unfold maps_Keys_1_map_string_Alert_string_Alert.cl at h
  split at h
  · exact calls_group false mixed maps_Keys_1_map_string_Alert_string_Alert.FOk_ maps_Keys_1_map_string_Alert_string_Alert.fn rfl 1 (maps_Keys_1_map_string_Alert_string_Alert.B6 K) (Eq.mp (by kernel_rfl) h)
  · exact h.elim

/-! internal/bytealg.abigen_runtime_cmpstring: the model's own -/
abbrev bytealg_abigen_runtime_cmpstring.KT := Int → World → Prop
def bytealg_abigen_runtime_cmpstring.Kt (Kv : Value → World → Prop) : bytealg_abigen_runtime_cmpstring.KT := fun r0 w => Kv (.int .i64 r0) w
def bytealg_abigen_runtime_cmpstring (x0 : ByteArray) (x1 : ByteArray) (w : World) (K : bytealg_abigen_runtime_cmpstring.KT) : Prop := K (Go.Lib.compareBytes x0.data.toList x1.data.toList) w
def bytealg_abigen_runtime_cmpstring.cl : CL := fun args K w => match args with
  | [.string x0, .string x1] => C.bytealg_abigen_runtime_cmpstring x0 x1 w (bytealg_abigen_runtime_cmpstring.Kt K)
  | _ => False
theorem bytealg_abigen_runtime_cmpstring.clok : OkX pr 75 bytealg_abigen_runtime_cmpstring.cl := by
  intro args K w h
  unfold bytealg_abigen_runtime_cmpstring.cl at h
  split at h
  · rename_i x0 x1
    refine ⟨_, w, ?_, h⟩
    show (callFunc _ #[.string x0, .string x1]).run pr w = _
    rw [run_callFunc_extern Tryd.func75 (by kernel_rfl) (by kernel_rfl) (by kernel_rfl) (e := Extern.BytealgCompare.compare) (by kernel_rfl), Lib.run_compareString]
    rfl
  · exact h.elim

/-! internal/bytealg.CompareString -/
namespace bytealg_CompareString
abbrev KT := Int → World → Prop
def Kt (Kv : Value → World → Prop) : KT := fun n1 w => Kv (.int .i64 n1) w
noncomputable def bd : Code := bdy Tryd.f62
theorem fn : FnOk pr 62 8 Tryd.f62 := ⟨Tryd.func62, by kernel_rfl, Tryd.ntmps62, by kernel_rfl, by kernel_rfl⟩
def F : Clee := ofL [(75, C.bytealg_abigen_runtime_cmpstring.cl)]
theorem FOk_ : FOk pr F := FOk_consX C.bytealg_abigen_runtime_cmpstring.clok (FOk_nil)
def P1 (Kv : Value → World → Prop) : Post := bodyK false pr 8 Tryd.f62 Kv
end bytealg_CompareString
def bytealg_CompareString (a_2 : ByteArray) (b_3 : ByteArray) (w : World) (K : bytealg_CompareString.KT) : Prop :=
  C.bytealg_abigen_runtime_cmpstring a_2 b_3 w fun n4 w5 => K n4 w5
def bytealg_CompareString.cl : CL := fun args K w => match args with
  | [.string x0, .string x1] => C.bytealg_CompareString x0 x1 w (bytealg_CompareString.Kt K)
  | _ => False
theorem bytealg_CompareString.clok : OkC pr 62 bytealg_CompareString.cl := by
  intro args K w h
  unfold bytealg_CompareString.cl at h
  split at h
  · exact calls_last false mixed bytealg_CompareString.FOk_ bytealg_CompareString.fn rfl (Eq.mp (by kernel_rfl) h)
  · exact h.elim

/-! strings.Compare -/
namespace strings_Compare
abbrev KT := Int → World → Prop
def Kt (Kv : Value → World → Prop) : KT := fun n1 w => Kv (.int .i64 n1) w
noncomputable def bd : Code := bdy Tryd.f51
theorem fn : FnOk pr 51 8 Tryd.f51 := ⟨Tryd.func51, by kernel_rfl, Tryd.ntmps51, by kernel_rfl, by kernel_rfl⟩
def F : Clee := ofL [(62, C.bytealg_CompareString.cl)]
theorem FOk_ : FOk pr F := FOk_cons C.bytealg_CompareString.clok (FOk_nil)
def P1 (Kv : Value → World → Prop) : Post := bodyK false pr 8 Tryd.f51 Kv
end strings_Compare
def strings_Compare (a_2 : ByteArray) (b_3 : ByteArray) (w : World) (K : strings_Compare.KT) : Prop :=
  C.bytealg_CompareString a_2 b_3 w fun n4 w5 => K n4 w5
def strings_Compare.cl : CL := fun args K w => match args with
  | [.string x0, .string x1] => C.strings_Compare x0 x1 w (strings_Compare.Kt K)
  | _ => False
theorem strings_Compare.clok : OkC pr 51 strings_Compare.cl := by
  intro args K w h
  unfold strings_Compare.cl at h
  split at h
  · exact calls_last false mixed strings_Compare.FOk_ strings_Compare.fn rfl (Eq.mp (by kernel_rfl) h)
  · exact h.elim

/-! tocsin/labels.Compare$1 -/
namespace labels_Compare_1
abbrev KT := Int → World → Prop
def Kt (Kv : Value → World → Prop) : KT := fun n1 w => Kv (.int .i64 n1) w
noncomputable def bd : Code := bdy Tryd.f50
theorem fn : FnOk pr 50 19 Tryd.f50 := ⟨Tryd.func50, by kernel_rfl, Tryd.ntmps50, by kernel_rfl, by kernel_rfl⟩
def F : Clee := ofL [(51, C.strings_Compare.cl)]
theorem FOk_ : FOk pr F := FOk_cons C.strings_Compare.clok (FOk_nil)
def P1 (Kv : Value → World → Prop) : Post := bodyK false pr 19 Tryd.f50 Kv
end labels_Compare_1
def labels_Compare_1 (x_2 : ByteArray) (x_3 : ByteArray) (y_4 : ByteArray) (y_5 : ByteArray) (w : World) (K : labels_Compare_1.KT) : Prop :=
  G.new (.cells #[(.string x_2), (.string x_3)] 54) w fun p6 w7 => G.new (.cells #[(.string y_4), (.string y_5)] 54) w7 fun p8 w9 => G.cS p6 w9 fun s10 => G.cS p8 w9 fun s11 => C.strings_Compare s10 s11 w9 fun n12 w13 => G.cond (n12 != (0 : Int)) (K n12 w13) (G.cS (p6.add 1) w13 fun s14 => G.cS (p8.add 1) w13 fun s15 => C.strings_Compare s14 s15 w13 fun n16 w17 => K n16 w17)
def labels_Compare_1.cl : CL := fun args K w => match args with
  | [.agg ⟨[.string x0_0, .string x0_1]⟩, .agg ⟨[.string x1_0, .string x1_1]⟩] => C.labels_Compare_1 x0_0 x0_1 x1_0 x1_1 w (labels_Compare_1.Kt K)
  | _ => False
theorem labels_Compare_1.clok : OkC pr 50 labels_Compare_1.cl := by
  intro args K w h
  unfold labels_Compare_1.cl at h
  split at h
  · exact calls_last false mixed labels_Compare_1.FOk_ labels_Compare_1.fn rfl (Eq.mp (by kernel_rfl) h)
  · exact h.elim

/-! slices.CompareFunc[[]tocsin/api.Label,[]tocsin/api.Label,tocsin/api.Label,tocsin/api.Label] -/
namespace slices_CompareFunc_Label_Label_Label_Label
abbrev KT := Int → World → Prop
def Kt (Kv : Value → World → Prop) : KT := fun n1 w => Kv (.int .i64 n1) w
noncomputable def bd : Code := bdy Tryd.f49
theorem fn : FnOk pr 49 39 Tryd.f49 := ⟨Tryd.func49, by kernel_rfl, Tryd.ntmps49, by kernel_rfl, by kernel_rfl⟩
def F : Clee := ofL [(48, C.maps_Values_1_map_string_Alert_string_Alert.cl), (50, C.labels_Compare_1.cl), (54, C.maps_Keys_1_map_string_Alert_string_Alert.cl)]
theorem FOk_ : FOk pr F := FOk_cons C.maps_Values_1_map_string_Alert_string_Alert.clok (FOk_cons C.labels_Compare_1.clok (FOk_cons C.maps_Keys_1_map_string_Alert_string_Alert.clok (FOk_nil)))
def P1 (Kv : Value → World → Prop) : Post := bodyK false pr 39 Tryd.f49 Kv
@[reducible] def g2 : List SE := [.v 0 .sl, .v 1 .sl]
def S2 (K : KT) (s1_5 : Sl) (s2_6 : Sl) (w : World) : Prop :=
  G.cond (decide (((s1_5.n : Nat) : Int) < ((s2_6.n : Nat) : Int))) (K (-1 : Int) w) (K (0 : Int) w)
theorem S2_ok (Kv : Value → World → Prop) : OkT pr false none 39 g2 (S2 (Kt Kv)) (s2 (tl 1 bd)) (P1 Kv) := ok_last mixed FOk_ fun v ρ w => by kernel_rfl
def P3 (Kv : Value → World → Prop) : Post := next (get g2 (S2 (Kt Kv))) (P1 Kv)
def P4 (Kv : Value → World → Prop) : Post := inBlock 0 (P3 Kv)
@[reducible] def g5 : List SE := [.v 0 .sl, .v 1 .sl, .v 2 .raw, .v 11 .sl, .v 12 (.int .i64), .v 13 (.int .i64)]
def P6 (Kv : Value → World → Prop) (kc5 : Cur g5) : Post := next (get g5 kc5) (P4 Kv)
def S7 (K : KT) (kc5 : Cur g5) (s1_19 : Sl) (s2_20 : Sl) (cmp_21 : Value) (l22 : Sl) (n23 : Int) (n24 : Int) (w : World) : Prop :=
  G.cond (decide (n24 < n23)) (G.ix l22.a l22.n n24 2 fun p25 => G.cS p25 w fun s26 => G.cS (p25.add 1) w fun s27 => G.new (.cells #[(.string (⟨#[]⟩ : ByteArray)), (.string (⟨#[]⟩ : ByteArray))] 54) w fun p28 w29 => G.st p28 (.string s26) w29 fun w30 => G.st (p28.add 1) (.string s27) w30 fun w31 => G.cond (decide (n24 ≥ ((s2_20.n : Nat) : Int))) (K (1 : Int) w31) (G.ix s2_20.a s2_20.n n24 2 fun p32 => G.cS p32 w31 fun s33 => G.cS (p32.add 1) w31 fun s34 => G.new (.cells #[(.string (⟨#[]⟩ : ByteArray)), (.string (⟨#[]⟩ : ByteArray))] 54) w31 fun p35 w36 => G.st p35 (.string s33) w36 fun w37 => G.st (p35.add 1) (.string s34) w37 fun w38 => G.cS p28 w38 fun s39 => G.cS (p28.add 1) w38 fun s40 => G.cS p35 w38 fun s41 => G.cS (p35.add 1) w38 fun s42 => G.callV pr F cmp_21 [(.agg #[(.string s39), (.string s40)]), (.agg #[(.string s41), (.string s42)])] w38 fun v43 w44 => G.isI .i64 v43 fun n45 => G.cond (n45 != (0 : Int)) (K n45 w44) (kc5 s1_19 s2_20 cmp_21 l22 n23 (IntKind.i64.wrap (n24 + (1 : Int))) w44))) (S2 K s1_19 s2_20 w)
theorem S7_ok (Kv : Value → World → Prop) (kc5 : Cur g5) : OkT pr false none 39 g5 (S7 (Kt Kv) kc5) (lp (blk (tl 1 (s1 (tl 1 bd))))) (P6 Kv kc5) := ok_last mixed FOk_ fun v ρ w => by kernel_rfl
def L5 (K : KT) : Cur g5 := loopC g5 (S7 K)
theorem L5_ok (Kv : Value → World → Prop) : OkT pr false none 39 g5 (L5 (Kt Kv)) (blk (tl 1 (s1 (tl 1 bd)))) (P4 Kv) := ok_loop (B := S7 (Kt Kv)) (by kernel_rfl) fun kc => S7_ok Kv kc
theorem L5_ind {K : KT} {s1_7 : Sl} {s2_8 : Sl} {cmp_9 : Value} {l10 : Sl} {n11 : Int} {n12 : Int} {w : World} (h : ∀ X : Cur g5, (∀ s1_7 s2_8 cmp_9 l10 n11 n12 w, S7 K X s1_7 s2_8 cmp_9 l10 n11 n12 w → X s1_7 s2_8 cmp_9 l10 n11 n12 w) → X s1_7 s2_8 cmp_9 l10 n11 n12 w) : L5 K s1_7 s2_8 cmp_9 l10 n11 n12 w := fun X hX => h X fun s1_7 s2_8 cmp_9 l10 n11 n12 w hb => hX (s1_7, s2_8, cmp_9, l10, n11, n12, ()) w hb
theorem B8 (Kv : Value → World → Prop) : OkT pr false none 39 g5 (L5 (Kt Kv)) (tl 1 (s1 (tl 1 bd))) (P3 Kv) := ok_block 0 (by kernel_rfl) (L5_ok Kv)
@[reducible] def g9 : List SE := [.v 0 .sl, .v 1 .sl, .v 2 .raw]
def S9 (K : KT) (s1_46 : Sl) (s2_47 : Sl) (cmp_48 : Value) (w : World) : Prop :=
  L5 K s1_46 s2_47 cmp_48 s1_46 ((s1_46.n : Nat) : Int) (0 : Int) w
theorem S9_ok (Kv : Value → World → Prop) : OkT pr false none 39 g9 (S9 (Kt Kv)) (s1 (tl 1 bd)) (P3 Kv) := ok_group mixed FOk_ 1 (B8 Kv) fun v ρ w => by kernel_rfl
theorem Q10 (Kv : Value → World → Prop) : OkT pr false none 39 g9 (S9 (Kt Kv)) (tl 1 bd) (P1 Kv) := ok_seq (by kernel_rfl) (S2_ok Kv) (S9_ok Kv)
end slices_CompareFunc_Label_Label_Label_Label
def slices_CompareFunc_Label_Label_Label_Label (s1_2 : Sl) (s2_3 : Sl) (cmp_4 : Value) (w : World) (K : slices_CompareFunc_Label_Label_Label_Label.KT) : Prop :=
  slices_CompareFunc_Label_Label_Label_Label.S9 K s1_2 s2_3 cmp_4 w
def slices_CompareFunc_Label_Label_Label_Label.cl : CL := fun args K w => match args with
  | [.slice x0_a x0_n x0_c, .slice x1_a x1_n x1_c, x2] => C.slices_CompareFunc_Label_Label_Label_Label ⟨x0_a, x0_n, x0_c⟩ ⟨x1_a, x1_n, x1_c⟩ x2 w (slices_CompareFunc_Label_Label_Label_Label.Kt K)
  | _ => False
theorem slices_CompareFunc_Label_Label_Label_Label.clok : OkC pr 49 slices_CompareFunc_Label_Label_Label_Label.cl := by
  intro args K w h
  unfold slices_CompareFunc_Label_Label_Label_Label.cl at h
  split at h
  · exact calls_group false mixed slices_CompareFunc_Label_Label_Label_Label.FOk_ slices_CompareFunc_Label_Label_Label_Label.fn rfl 1 (slices_CompareFunc_Label_Label_Label_Label.Q10 K) (Eq.mp (by kernel_rfl) h)
  · exact h.elim

/-! tocsin/labels.Compare -/
namespace labels_Compare
abbrev KT := Int → World → Prop
def Kt (Kv : Value → World → Prop) : KT := fun n1 w => Kv (.int .i64 n1) w
noncomputable def bd : Code := bdy Tryd.f36
theorem fn : FnOk pr 36 8 Tryd.f36 := ⟨Tryd.func36, by kernel_rfl, Tryd.ntmps36, by kernel_rfl, by kernel_rfl⟩
def F : Clee := ofL [(49, C.slices_CompareFunc_Label_Label_Label_Label.cl)]
theorem FOk_ : FOk pr F := FOk_cons C.slices_CompareFunc_Label_Label_Label_Label.clok (FOk_nil)
def P1 (Kv : Value → World → Prop) : Post := bodyK false pr 8 Tryd.f36 Kv
end labels_Compare
def labels_Compare (a_2 : Sl) (b_3 : Sl) (w : World) (K : labels_Compare.KT) : Prop :=
  C.slices_CompareFunc_Label_Label_Label_Label a_2 b_3 (Value.func (.func 50) #[] #[]) w fun n4 w5 => K n4 w5
def labels_Compare.cl : CL := fun args K w => match args with
  | [.slice x0_a x0_n x0_c, .slice x1_a x1_n x1_c] => C.labels_Compare ⟨x0_a, x0_n, x0_c⟩ ⟨x1_a, x1_n, x1_c⟩ w (labels_Compare.Kt K)
  | _ => False
theorem labels_Compare.clok : OkC pr 36 labels_Compare.cl := by
  intro args K w h
  unfold labels_Compare.cl at h
  split at h
  · exact calls_last false mixed labels_Compare.FOk_ labels_Compare.fn rfl (Eq.mp (by kernel_rfl) h)
  · exact h.elim

/-! (*tocsin/alerts.Set).All$1$1 -/
namespace alerts_Set_All_1_1
abbrev KT := Int → World → Prop
def Kt (Kv : Value → World → Prop) : KT := fun n1 w => Kv (.int .i64 n1) w
noncomputable def bd : Code := bdy Tryd.f35
theorem fn : FnOk pr 35 10 Tryd.f35 := ⟨Tryd.func35, by kernel_rfl, Tryd.ntmps35, by kernel_rfl, by kernel_rfl⟩
def F : Clee := ofL [(36, C.labels_Compare.cl)]
theorem FOk_ : FOk pr F := FOk_cons C.labels_Compare.clok (FOk_nil)
def P1 (Kv : Value → World → Prop) : Post := bodyK false pr 10 Tryd.f35 Kv
end alerts_Set_All_1_1
def alerts_Set_All_1_1 (a_2 : Sl) (a_3 : Int) (a_4 : Int) (b_5 : Sl) (b_6 : Int) (b_7 : Int) (w : World) (K : alerts_Set_All_1_1.KT) : Prop :=
  G.new (.cells #[a_2.v, (.int .i64 a_3), (.int .i64 a_4)] 31) w fun p8 w9 => G.new (.cells #[b_5.v, (.int .i64 b_6), (.int .i64 b_7)] 31) w9 fun p10 w11 => G.cSl p8 w11 fun l12 => G.cSl p10 w11 fun l13 => C.labels_Compare l12 l13 w11 fun n14 w15 => K n14 w15
def alerts_Set_All_1_1.cl : CL := fun args K w => match args with
  | [.agg ⟨[.slice x0_0_a x0_0_n x0_0_c, .int .i64 x0_1, .int .i64 x0_2]⟩, .agg ⟨[.slice x1_0_a x1_0_n x1_0_c, .int .i64 x1_1, .int .i64 x1_2]⟩] => C.alerts_Set_All_1_1 ⟨x0_0_a, x0_0_n, x0_0_c⟩ x0_1 x0_2 ⟨x1_0_a, x1_0_n, x1_0_c⟩ x1_1 x1_2 w (alerts_Set_All_1_1.Kt K)
  | _ => False
theorem alerts_Set_All_1_1.clok : OkC pr 35 alerts_Set_All_1_1.cl := by
  intro args K w h
  unfold alerts_Set_All_1_1.cl at h
  split at h
  · exact calls_last false mixed alerts_Set_All_1_1.FOk_ alerts_Set_All_1_1.fn rfl (Eq.mp (by kernel_rfl) h)
  · exact h.elim

/-! slices.Clone[[]tocsin/api.Label,tocsin/api.Label] -/
namespace slices_Clone_Label_Label
abbrev KT := Sl → World → Prop
def Kt (Kv : Value → World → Prop) : KT := fun l1 w => Kv l1.v w
noncomputable def bd : Code := bdy Tryd.f22
theorem fn : FnOk pr 22 8 Tryd.f22 := ⟨Tryd.func22, by kernel_rfl, Tryd.ntmps22, by kernel_rfl, by kernel_rfl⟩
def F : Clee := ofL []
theorem FOk_ : FOk pr F := FOk_nil
def P1 (Kv : Value → World → Prop) : Post := bodyK false pr 8 Tryd.f22 Kv
end slices_Clone_Label_Label
def slices_Clone_Label_Label (s_2 : Sl) (w : World) (K : slices_Clone_Label_Label.KT) : Prop :=
  G.cond s_2.a.isNone (K nilS w) (G.new (.cells #[] 54) w fun p3 w4 => G.runSl pr (Builtin.append_ #[22, 22] 22 #[(Sl.v (⟨some p3, 0, 0⟩ : Sl)), s_2.v]) w4 fun l5 w6 => K l5 w6)
def slices_Clone_Label_Label.cl : CL := fun args K w => match args with
  | [.slice x0_a x0_n x0_c] => C.slices_Clone_Label_Label ⟨x0_a, x0_n, x0_c⟩ w (slices_Clone_Label_Label.Kt K)
  | _ => False
theorem slices_Clone_Label_Label.clok : OkC pr 22 slices_Clone_Label_Label.cl := by
  intro args K w h
  unfold slices_Clone_Label_Label.cl at h
  split at h
  · exact calls_last false mixed slices_Clone_Label_Label.FOk_ slices_Clone_Label_Label.fn rfl (Eq.mp (by kernel_rfl) h)
  · exact h.elim

/-! tocsin/alerts.copied -/
namespace alerts_copied
abbrev KT := Sl → Int → Int → World → Prop
def Kt (Kv : Value → World → Prop) : KT := fun l1 n2 n3 w => Kv (.agg #[l1.v, (.int .i64 n2), (.int .i64 n3)]) w
noncomputable def bd : Code := bdy Tryd.f23
theorem fn : FnOk pr 23 8 Tryd.f23 := ⟨Tryd.func23, by kernel_rfl, Tryd.ntmps23, by kernel_rfl, by kernel_rfl⟩
def F : Clee := ofL [(22, C.slices_Clone_Label_Label.cl)]
theorem FOk_ : FOk pr F := FOk_cons C.slices_Clone_Label_Label.clok (FOk_nil)
def P1 (Kv : Value → World → Prop) : Post := bodyK false pr 8 Tryd.f23 Kv
end alerts_copied
def alerts_copied (a_4 : Sl) (a_5 : Int) (a_6 : Int) (w : World) (K : alerts_copied.KT) : Prop :=
  G.new (.cells #[a_4.v, (.int .i64 a_5), (.int .i64 a_6)] 31) w fun p7 w8 => G.new (.cells #[nilS.v, (.int .i64 (0 : Int)), (.int .i64 (0 : Int))] 31) w8 fun p9 w10 => G.cSl p7 w10 fun l11 => C.slices_Clone_Label_Label l11 w10 fun l12 w13 => G.st p7 l12.v w13 fun w14 => G.cSl p7 w14 fun l15 => G.cI .i64 (p7.add 1) w14 fun n16 => G.cI .i64 (p7.add 2) w14 fun n17 => G.st p9 l15.v w14 fun w18 => G.st (p9.add 1) (.int .i64 n16) w18 fun w19 => G.st (p9.add 2) (.int .i64 n17) w19 fun w20 => G.cSl p9 w20 fun l21 => G.cI .i64 (p9.add 1) w20 fun n22 => G.cI .i64 (p9.add 2) w20 fun n23 => K l21 n22 n23 w20
def alerts_copied.cl : CL := fun args K w => match args with
  | [.agg ⟨[.slice x0_0_a x0_0_n x0_0_c, .int .i64 x0_1, .int .i64 x0_2]⟩] => C.alerts_copied ⟨x0_0_a, x0_0_n, x0_0_c⟩ x0_1 x0_2 w (alerts_copied.Kt K)
  | _ => False
theorem alerts_copied.clok : OkC pr 23 alerts_copied.cl := by
  intro args K w h
  unfold alerts_copied.cl at h
  split at h
  · exact calls_last false mixed alerts_copied.FOk_ alerts_copied.fn rfl (Eq.mp (by kernel_rfl) h)
  · exact h.elim

/-! slices.AppendSeq[[]tocsin/api.Alert,tocsin/api.Alert] -/
namespace slices_AppendSeq_Alert_Alert
abbrev KT := Sl → World → Prop
def Kt (Kv : Value → World → Prop) : KT := fun l1 w => Kv l1.v w
noncomputable def bd : Code := bdy Tryd.f59
theorem fn : FnOk pr 59 13 Tryd.f59 := ⟨Tryd.func59, by kernel_rfl, Tryd.ntmps59, by kernel_rfl, by kernel_rfl⟩
def F : Clee := ofL []
theorem FOk_ : FOk pr F := FOk_nil
def Fc : Clee := ofL [(35, C.alerts_Set_All_1_1.cl), (48, C.maps_Values_1_map_string_Alert_string_Alert.cl), (50, C.labels_Compare_1.cl), (54, C.maps_Keys_1_map_string_Alert_string_Alert.cl)]
theorem FcOk : FOkB pr Fc := FOkB_cons C.alerts_Set_All_1_1.clok (FOkB_cons C.maps_Values_1_map_string_Alert_string_Alert.clok (FOkB_cons C.labels_Compare_1.clok (FOkB_cons C.maps_Keys_1_map_string_Alert_string_Alert.clok (FOkB_nil))))
def P1 (Kv : Value → World → Prop) : Post := bodyK true pr 13 Tryd.f59 Kv
@[reducible] def g2 : List SE := [.v 2 .ptr, .v 13 .raw]
def S2 (K : KT) (s_4 : Option Addr) (v5 : Value) (w : World) : Prop :=
  G.ptr s_4 fun p6 => G.cSl p6 w fun l7 => G.marks v5 w fun w8 => K l7 w8
theorem S2_ok (Kv : Value → World → Prop) : OkT pr true none 13 g2 (S2 (Kt Kv)) (s2 (tl 1 bd)) (P1 Kv) := ok_last mixed FOk_ fun v ρ w => by kernel_rfl
def P3 (Kv : Value → World → Prop) : Post := next (get g2 (S2 (Kt Kv))) (P1 Kv)
def P4 (Kv : Value → World → Prop) : Post := inBlock 0 (P3 Kv)
@[reducible] def g5 : List SE := [.v 2 .ptr, .v 6 .raw, .v 13 .raw]
def P6 (Rr : Exit → World → Prop) : Post := RP Rr
@[reducible] def g7 : List SE := [.v 2 .ptr, .v 5 .ptr]
def S7 (Rr : Exit → World → Prop) (s_12 : Option Addr) (v_13 : Option Addr) (w : World) : Prop :=
  G.ptr s_12 fun p14 => G.cSl p14 w fun l15 => G.ptr v_13 fun p16 => G.cSl p16 w fun l17 => G.cI .i64 (p16.add 1) w fun n18 => G.cI .i64 (p16.add 2) w fun n19 => G.new (.cells #[l17.v, (.int .i64 n18), (.int .i64 n19)] 31) w fun p20 w21 => G.runSl pr (Builtin.append_ #[35, 35] 35 #[l15.v, (Sl.v (⟨some p20, 1, 1⟩ : Sl))]) w21 fun l22 w23 => G.ptr s_12 fun p24 => G.st p24 l22.v w23 fun w25 => Rr .normal w25
theorem S7_ok (Rr : Exit → World → Prop) {ro : Option Nat} : OkT pr false ro 13 g7 (S7 Rr) (rbd (blk (tl 1 (s1 (tl 1 bd))))) (P6 Rr) := ok_last mixed FOk_ fun v ρ w => by kernel_rfl
def B_R5 (s_9 : Option Addr) (v10 : Value) (v11 : Value) (args : List Value) (wb : World) (bz : (World → Prop) → World → Prop) (Rr : Exit → World → Prop) : Prop := match args with
  | [.agg ⟨[.slice y_26_a y_26_n y_26_c, .int .i64 y_27, .int .i64 y_28]⟩] => G.new (.cells #[nilS.v, (.int .i64 (0 : Int)), (.int .i64 (0 : Int))] 31) wb fun p29 w30 => G.st p29 (⟨y_26_a, y_26_n, y_26_c⟩ : Sl).v w30 fun w31 => G.st (p29.add 1) (.int .i64 y_27) w31 fun w32 => G.st (p29.add 2) (.int .i64 y_28) w32 fun w33 => bz (S7 Rr s_9 (some p29)) w33
  | _ => False
def O_R5 (K : KT) (s_9 : Option Addr) (v10 : Value) (v11 : Value) (e : Exit) (D : Nat) (w : World) : Prop := match e with
  | .normal => S2 K s_9 (pushMark v11 D) w
  | _ => False
def R5 (K : KT) (s_9 : Option Addr) (v10 : Value) (v11 : Value) (w : World) : Prop :=
  G.rangeW Fc v10 pr (B_R5 s_9 v10 v11) w (O_R5 K s_9 v10 v11)
theorem R5_ok (Kv : Value → World → Prop) : OkT pr true none 13 g5 (R5 (Kt Kv)) (blk (tl 1 (s1 (tl 1 bd)))) (P4 Kv) := by
  refine ok_rangeW mixed FOk_ FcOk (s := 6) (ps := #[7]) (Bt := fun v => B_R5 v.1 v.2.1 v.2.2.1) (kB := fun Rr => S7 Rr) (sgB := g7) (out := fun v => O_R5 (Kt Kv) v.1 v.2.1 v.2.2.1) (by kernel_rfl) (fun v ρ w => by kernel_rfl) ?_ (fun Rr l => S7_ok Rr) ?_
  · intro v ρ args w bz Rr h
    have h' : B_R5 v.1 v.2.1 v.2.2.1 args w bz Rr := h
    unfold B_R5 at h'
    split at h'
    · exact ⟨rfl, Eq.mp (by kernel_rfl) h'⟩
    · exact h'.elim
  · intro v ρ e D w h
    cases e with
    | normal => exact Eq.mp (by kernel_rfl) h
    | _ => exact h.elim
theorem B8 (Kv : Value → World → Prop) : OkT pr true none 13 g5 (R5 (Kt Kv)) (tl 1 (s1 (tl 1 bd))) (P3 Kv) := ok_block 0 (by kernel_rfl) (R5_ok Kv)
@[reducible] def g9 : List SE := [.v 1 .raw, .v 2 .ptr, .v 13 .raw]
def S9 (K : KT) (seq_34 : Value) (s_35 : Option Addr) (v36 : Value) (w : World) : Prop :=
  R5 K s_35 seq_34 v36 w
theorem S9_ok (Kv : Value → World → Prop) : OkT pr true none 13 g9 (S9 (Kt Kv)) (s1 (tl 1 bd)) (P3 Kv) := ok_group mixed FOk_ 1 (B8 Kv) fun v ρ w => by kernel_rfl
theorem Q10 (Kv : Value → World → Prop) : OkT pr true none 13 g9 (S9 (Kt Kv)) (tl 1 bd) (P1 Kv) := ok_seq (by kernel_rfl) (S2_ok Kv) (S9_ok Kv)
end slices_AppendSeq_Alert_Alert
def slices_AppendSeq_Alert_Alert (s_2 : Sl) (seq_3 : Value) (w : World) (K : slices_AppendSeq_Alert_Alert.KT) : Prop :=
  G.new (.cells #[s_2.v] 35) w fun p37 w38 => slices_AppendSeq_Alert_Alert.S9 K seq_3 (some p37) undef w38
def slices_AppendSeq_Alert_Alert.cl : CL := fun args K w => match args with
  | [.slice x0_a x0_n x0_c, x1] => C.slices_AppendSeq_Alert_Alert ⟨x0_a, x0_n, x0_c⟩ x1 w (slices_AppendSeq_Alert_Alert.Kt K)
  | _ => False
theorem slices_AppendSeq_Alert_Alert.clok : OkC pr 59 slices_AppendSeq_Alert_Alert.cl := by
  intro args K w h
  unfold slices_AppendSeq_Alert_Alert.cl at h
  split at h
  · exact calls_group true mixed slices_AppendSeq_Alert_Alert.FOk_ slices_AppendSeq_Alert_Alert.fn rfl 1 (slices_AppendSeq_Alert_Alert.Q10 K) (Eq.mp (by kernel_rfl) h)
  · exact h.elim

/-! slices.Collect[tocsin/api.Alert] -/
namespace slices_Collect_Alert
abbrev KT := Sl → World → Prop
def Kt (Kv : Value → World → Prop) : KT := fun l1 w => Kv l1.v w
noncomputable def bd : Code := bdy Tryd.f46
theorem fn : FnOk pr 46 5 Tryd.f46 := ⟨Tryd.func46, by kernel_rfl, Tryd.ntmps46, by kernel_rfl, by kernel_rfl⟩
def F : Clee := ofL [(59, C.slices_AppendSeq_Alert_Alert.cl)]
theorem FOk_ : FOk pr F := FOk_cons C.slices_AppendSeq_Alert_Alert.clok (FOk_nil)
def P1 (Kv : Value → World → Prop) : Post := bodyK false pr 5 Tryd.f46 Kv
end slices_Collect_Alert
def slices_Collect_Alert (seq_2 : Value) (w : World) (K : slices_Collect_Alert.KT) : Prop :=
  C.slices_AppendSeq_Alert_Alert nilS seq_2 w fun l3 w4 => K l3 w4
def slices_Collect_Alert.cl : CL := fun args K w => match args with
  | [x0] => C.slices_Collect_Alert x0 w (slices_Collect_Alert.Kt K)
  | _ => False
theorem slices_Collect_Alert.clok : OkC pr 46 slices_Collect_Alert.cl := by
  intro args K w h
  unfold slices_Collect_Alert.cl at h
  split at h
  · exact calls_last false mixed slices_Collect_Alert.FOk_ slices_Collect_Alert.fn rfl (Eq.mp (by kernel_rfl) h)
  · exact h.elim

/-! slices.SortFunc[[]tocsin/api.Alert,tocsin/api.Alert]: by the library's contract -/
abbrev slices_SortFunc_Alert_Alert.KT := World → Prop
def slices_SortFunc_Alert_Alert.Kt (Kv : Value → World → Prop) : slices_SortFunc_Alert_Alert.KT := fun w => Kv (.tuple #[]) w
def slices_SortFunc_Alert_Alert (x0 : Sl) (x1 : Value) (w : World) (K : slices_SortFunc_Alert_Alert.KT) : Prop := Srt.sortF x0 x1 w K
def slices_SortFunc_Alert_Alert.cl : CL := fun args K w => match args with
  | [.slice a n c, fv] => C.slices_SortFunc_Alert_Alert ⟨a, n, c⟩ fv w (slices_SortFunc_Alert_Alert.Kt K)
  | _ => False
theorem slices_SortFunc_Alert_Alert.clok : OkC pr 47 slices_SortFunc_Alert_Alert.cl := by
  intro args K w h
  unfold slices_SortFunc_Alert_Alert.cl at h
  split at h
  · exact Srt.sortF_ok h
  · exact h.elim

/-! slices.SortedFunc[tocsin/api.Alert] -/
namespace slices_SortedFunc_Alert
abbrev KT := Sl → World → Prop
def Kt (Kv : Value → World → Prop) : KT := fun l1 w => Kv l1.v w
noncomputable def bd : Code := bdy Tryd.f33
theorem fn : FnOk pr 33 12 Tryd.f33 := ⟨Tryd.func33, by kernel_rfl, Tryd.ntmps33, by kernel_rfl, by kernel_rfl⟩
def F : Clee := ofL [(46, C.slices_Collect_Alert.cl), (47, C.slices_SortFunc_Alert_Alert.cl)]
theorem FOk_ : FOk pr F := FOk_cons C.slices_Collect_Alert.clok (FOk_cons C.slices_SortFunc_Alert_Alert.clok (FOk_nil))
def P1 (Kv : Value → World → Prop) : Post := bodyK false pr 12 Tryd.f33 Kv
end slices_SortedFunc_Alert
def slices_SortedFunc_Alert (seq_2 : Value) (cmp_3 : Value) (w : World) (K : slices_SortedFunc_Alert.KT) : Prop :=
  C.slices_Collect_Alert seq_2 w fun l4 w5 => C.slices_SortFunc_Alert_Alert l4 cmp_3 w5 fun w6 => K l4 w6
def slices_SortedFunc_Alert.cl : CL := fun args K w => match args with
  | [x0, x1] => C.slices_SortedFunc_Alert x0 x1 w (slices_SortedFunc_Alert.Kt K)
  | _ => False
theorem slices_SortedFunc_Alert.clok : OkC pr 33 slices_SortedFunc_Alert.cl := by
  intro args K w h
  unfold slices_SortedFunc_Alert.cl at h
  split at h
  · exact calls_last false mixed slices_SortedFunc_Alert.FOk_ slices_SortedFunc_Alert.fn rfl (Eq.mp (by kernel_rfl) h)
  · exact h.elim

/-! maps.Values[map[string]tocsin/api.Alert,string,tocsin/api.Alert] -/
namespace maps_Values_map_string_Alert_string_Alert
abbrev KT := Value → World → Prop
def Kt (Kv : Value → World → Prop) : KT := fun v1 w => Kv v1 w
noncomputable def bd : Code := bdy Tryd.f34
theorem fn : FnOk pr 34 4 Tryd.f34 := ⟨Tryd.func34, by kernel_rfl, Tryd.ntmps34, by kernel_rfl, by kernel_rfl⟩
def F : Clee := ofL []
theorem FOk_ : FOk pr F := FOk_nil
def P1 (Kv : Value → World → Prop) : Post := bodyK false pr 4 Tryd.f34 Kv
end maps_Values_map_string_Alert_string_Alert
def maps_Values_map_string_Alert_string_Alert (m_2 : Option Nat) (w : World) (K : maps_Values_map_string_Alert_string_Alert.KT) : Prop :=
  G.new (.cells #[(.map m_2)] 50) w fun p3 w4 => K (Value.func (.func 48) #[] #[(.pointer (some p3))]) w4
def maps_Values_map_string_Alert_string_Alert.cl : CL := fun args K w => match args with
  | [.map x0] => C.maps_Values_map_string_Alert_string_Alert x0 w (maps_Values_map_string_Alert_string_Alert.Kt K)
  | _ => False
theorem maps_Values_map_string_Alert_string_Alert.clok : OkC pr 34 maps_Values_map_string_Alert_string_Alert.cl := by
  intro args K w h
  unfold maps_Values_map_string_Alert_string_Alert.cl at h
  split at h
  · exact calls_last false mixed maps_Values_map_string_Alert_string_Alert.FOk_ maps_Values_map_string_Alert_string_Alert.fn rfl (Eq.mp (by kernel_rfl) h)
  · exact h.elim

/-! (*tocsin/alerts.Set).All$1 -/
namespace alerts_Set_All_1
abbrev KT := World → Prop
def Kt (Kv : Value → World → Prop) : KT := fun  w => Kv (.tuple #[]) w
noncomputable def bd : Code := bdy Tryd.f32
theorem fn : FnOk pr 32 26 Tryd.f32 := ⟨Tryd.func32, by kernel_rfl, Tryd.ntmps32, by kernel_rfl, by kernel_rfl⟩
def F : Clee := ofL [(23, C.alerts_copied.cl), (33, C.slices_SortedFunc_Alert.cl), (34, C.maps_Values_map_string_Alert_string_Alert.cl), (35, C.alerts_Set_All_1_1.cl), (48, C.maps_Values_1_map_string_Alert_string_Alert.cl), (50, C.labels_Compare_1.cl), (54, C.maps_Keys_1_map_string_Alert_string_Alert.cl)]
theorem FOk_ : FOk pr F := FOk_cons C.alerts_copied.clok (FOk_cons C.slices_SortedFunc_Alert.clok (FOk_cons C.maps_Values_map_string_Alert_string_Alert.clok (FOk_cons C.alerts_Set_All_1_1.clok (FOk_cons C.maps_Values_1_map_string_Alert_string_Alert.clok (FOk_cons C.labels_Compare_1.clok (FOk_cons C.maps_Keys_1_map_string_Alert_string_Alert.clok (FOk_nil)))))))
def P1 (Kv : Value → World → Prop) : Post := bodyK false pr 26 Tryd.f32 Kv
def P2 (Kv : Value → World → Prop) : Post := inBlock 0 (P1 Kv)
@[reducible] def g3 : List SE := [.v 0 .raw, .v 14 .sl, .v 15 (.int .i64), .v 16 (.int .i64)]
def P4 (Kv : Value → World → Prop) (kc3 : Cur g3) : Post := next (get g3 kc3) (P2 Kv)
def S5 (K : KT) (kc3 : Cur g3) (yield_13 : Value) (l14 : Sl) (n15 : Int) (n16 : Int) (w : World) : Prop :=
  G.cond (decide (n16 < n15)) (G.ix l14.a l14.n n16 3 fun p17 => G.cSl p17 w fun l18 => G.cI .i64 (p17.add 1) w fun n19 => G.cI .i64 (p17.add 2) w fun n20 => G.new (.cells #[nilS.v, (.int .i64 (0 : Int)), (.int .i64 (0 : Int))] 31) w fun p21 w22 => G.st p21 l18.v w22 fun w23 => G.st (p21.add 1) (.int .i64 n19) w23 fun w24 => G.st (p21.add 2) (.int .i64 n20) w24 fun w25 => G.cSl p21 w25 fun l26 => G.cI .i64 (p21.add 1) w25 fun n27 => G.cI .i64 (p21.add 2) w25 fun n28 => C.alerts_copied l26 n27 n28 w25 fun l29 n30 n31 w32 => G.callV pr F yield_13 [(.agg #[l29.v, (.int .i64 n30), (.int .i64 n31)])] w32 fun v33 w34 => G.isB v33 fun b35 => G.cond (!b35) (K w34) (kc3 yield_13 l14 n15 (IntKind.i64.wrap (n16 + (1 : Int))) w34)) (K w)
theorem S5_ok (Kv : Value → World → Prop) (kc3 : Cur g3) : OkT pr false none 26 g3 (S5 (Kt Kv) kc3) (lp (blk (tl 3 bd))) (P4 Kv kc3) := ok_last mixed FOk_ fun v ρ w => by kernel_rfl
def L3 (K : KT) : Cur g3 := loopC g3 (S5 K)
theorem L3_ok (Kv : Value → World → Prop) : OkT pr false none 26 g3 (L3 (Kt Kv)) (blk (tl 3 bd)) (P2 Kv) := ok_loop (B := S5 (Kt Kv)) (by kernel_rfl) fun kc => S5_ok Kv kc
theorem L3_ind {K : KT} {yield_5 : Value} {l6 : Sl} {n7 : Int} {n8 : Int} {w : World} (h : ∀ X : Cur g3, (∀ yield_5 l6 n7 n8 w, S5 K X yield_5 l6 n7 n8 w → X yield_5 l6 n7 n8 w) → X yield_5 l6 n7 n8 w) : L3 K yield_5 l6 n7 n8 w := fun X hX => h X fun yield_5 l6 n7 n8 w hb => hX (yield_5, l6, n7, n8, ()) w hb
theorem B6 (Kv : Value → World → Prop) : OkT pr false none 26 g3 (L3 (Kt Kv)) (tl 3 bd) (P1 Kv) := ok_block 0 (by kernel_rfl) (L3_ok Kv)
end alerts_Set_All_1
def alerts_Set_All_1 (yield_1 : Value) (p_2 : Option Addr) (w : World) (K : alerts_Set_All_1.KT) : Prop :=
  G.ptr p_2 fun p36 => G.cP p36 w fun p37 => G.cond p37.isNone (K w) (G.ptr p_2 fun p38 => G.cP p38 w fun p39 => G.ptr p39 fun p40 => G.cM (p40.add 2) w fun m41 => C.maps_Values_map_string_Alert_string_Alert m41 w fun v42 w43 => C.slices_SortedFunc_Alert v42 (Value.func (.func 35) #[] #[]) w43 fun l44 w45 => alerts_Set_All_1.L3 K yield_1 l44 ((l44.n : Nat) : Int) (0 : Int) w45)
def alerts_Set_All_1.cl : CL := fun args K w => match args with
  | [x0, .pointer x1] => C.alerts_Set_All_1 x0 x1 w (alerts_Set_All_1.Kt K)
  | _ => False
theorem alerts_Set_All_1.clok : OkC pr 32 alerts_Set_All_1.cl := by
  intro args K w h
  unfold alerts_Set_All_1.cl at h
  split at h
  · exact calls_group false mixed alerts_Set_All_1.FOk_ alerts_Set_All_1.fn rfl 3 (alerts_Set_All_1.B6 K) (Eq.mp (by kernel_rfl) h)
  · exact h.elim

/-! tocsin/alerts.New -/
namespace alerts_New
abbrev KT := Option Addr → World → Prop
def Kt (Kv : Value → World → Prop) : KT := fun p1 w => Kv (.pointer p1) w
noncomputable def bd : Code := bdy Tryd.f6
theorem fn : FnOk pr 6 24 Tryd.f6 := ⟨Tryd.func6, by kernel_rfl, Tryd.ntmps6, by kernel_rfl, by kernel_rfl⟩
def F : Clee := ofL []
theorem FOk_ : FOk pr F := FOk_nil
def P1 (Kv : Value → World → Prop) : Post := bodyK false pr 24 Tryd.f6 Kv
end alerts_New
def alerts_New (resolve_2 : Int) (most_3 : Int) (w : World) (K : alerts_New.KT) : Prop :=
  G.cond (decide (resolve_2 < (1 : Int))) (K none w) (G.cond (decide (resolve_2 > (1099511627776 : Int))) (K none w) (G.cond (decide (most_3 < (1 : Int))) (K none w) (G.cond (decide (most_3 > (500 : Int))) (K none w) (G.runM pr (Instr.makeMap 50 none) w fun m4 w5 => G.new (.cells #[(.int .i64 resolve_2), (.int .i64 most_3), (.map m4)] 52) w5 fun p6 w7 => K (some p6) w7))))
def alerts_New.cl : CL := fun args K w => match args with
  | [.int .i64 x0, .int .i64 x1] => C.alerts_New x0 x1 w (alerts_New.Kt K)
  | _ => False
theorem alerts_New.clok : OkC pr 6 alerts_New.cl := by
  intro args K w h
  unfold alerts_New.cl at h
  split at h
  · exact calls_last false mixed alerts_New.FOk_ alerts_New.fn rfl (Eq.mp (by kernel_rfl) h)
  · exact h.elim

/-! tocsin/tocsinref04.letter -/
namespace tocsinref04_letter
abbrev KT := Bool → World → Prop
def Kt (Kv : Value → World → Prop) : KT := fun b1 w => Kv (.bool b1) w
noncomputable def bd : Code := bdy Tryd.f39
theorem fn : FnOk pr 39 21 Tryd.f39 := ⟨Tryd.func39, by kernel_rfl, Tryd.ntmps39, by kernel_rfl, by kernel_rfl⟩
def F : Clee := ofL []
theorem FOk_ : FOk pr F := FOk_nil
def P1 (Kv : Value → World → Prop) : Post := bodyK false pr 21 Tryd.f39 Kv
end tocsinref04_letter
def tocsinref04_letter (c_2 : Int) (w : World) (K : tocsinref04_letter.KT) : Prop :=
  G.cond (decide (c_2 ≥ (97 : Int))) (G.cond (decide (c_2 ≤ (122 : Int))) (K true w) (G.cond (decide (c_2 ≥ (65 : Int))) (G.cond (decide (c_2 ≤ (90 : Int))) (K true w) (K (c_2 == (95 : Int)) w)) (K (c_2 == (95 : Int)) w))) (G.cond (decide (c_2 ≥ (65 : Int))) (G.cond (decide (c_2 ≤ (90 : Int))) (K true w) (K (c_2 == (95 : Int)) w)) (K (c_2 == (95 : Int)) w))
def tocsinref04_letter.cl : CL := fun args K w => match args with
  | [.int .u8 x0] => C.tocsinref04_letter x0 w (tocsinref04_letter.Kt K)
  | _ => False
theorem tocsinref04_letter.clok : OkC pr 39 tocsinref04_letter.cl := by
  intro args K w h
  unfold tocsinref04_letter.cl at h
  split at h
  · exact calls_last false mixed tocsinref04_letter.FOk_ tocsinref04_letter.fn rfl (Eq.mp (by kernel_rfl) h)
  · exact h.elim

/-! tocsin/tocsinref04.digit -/
namespace tocsinref04_digit
abbrev KT := Bool → World → Prop
def Kt (Kv : Value → World → Prop) : KT := fun b1 w => Kv (.bool b1) w
noncomputable def bd : Code := bdy Tryd.f40
theorem fn : FnOk pr 40 9 Tryd.f40 := ⟨Tryd.func40, by kernel_rfl, Tryd.ntmps40, by kernel_rfl, by kernel_rfl⟩
def F : Clee := ofL []
theorem FOk_ : FOk pr F := FOk_nil
def P1 (Kv : Value → World → Prop) : Post := bodyK false pr 9 Tryd.f40 Kv
end tocsinref04_digit
def tocsinref04_digit (c_2 : Int) (w : World) (K : tocsinref04_digit.KT) : Prop :=
  G.cond (decide (c_2 ≥ (48 : Int))) (K (decide (c_2 ≤ (57 : Int))) w) (K false w)
def tocsinref04_digit.cl : CL := fun args K w => match args with
  | [.int .u8 x0] => C.tocsinref04_digit x0 w (tocsinref04_digit.Kt K)
  | _ => False
theorem tocsinref04_digit.clok : OkC pr 40 tocsinref04_digit.cl := by
  intro args K w h
  unfold tocsinref04_digit.cl at h
  split at h
  · exact calls_last false mixed tocsinref04_digit.FOk_ tocsinref04_digit.fn rfl (Eq.mp (by kernel_rfl) h)
  · exact h.elim

/-! tocsin/tocsinref04.Name -/
namespace tocsinref04_Name
abbrev KT := Bool → World → Prop
def Kt (Kv : Value → World → Prop) : KT := fun b1 w => Kv (.bool b1) w
noncomputable def bd : Code := bdy Tryd.f27
theorem fn : FnOk pr 27 33 Tryd.f27 := ⟨Tryd.func27, by kernel_rfl, Tryd.ntmps27, by kernel_rfl, by kernel_rfl⟩
def F : Clee := ofL [(39, C.tocsinref04_letter.cl), (40, C.tocsinref04_digit.cl)]
theorem FOk_ : FOk pr F := FOk_cons C.tocsinref04_letter.clok (FOk_cons C.tocsinref04_digit.clok (FOk_nil))
def P1 (Kv : Value → World → Prop) : Post := bodyK false pr 33 Tryd.f27 Kv
@[reducible] def g2 : List SE := []
def S2 (K : KT) (w : World) : Prop :=
  K true w
theorem S2_ok (Kv : Value → World → Prop) : OkT pr false none 33 g2 (S2 (Kt Kv)) (s2 (tl 2 bd)) (P1 Kv) := ok_last mixed FOk_ fun v ρ w => by kernel_rfl
def P3 (Kv : Value → World → Prop) : Post := next (get g2 (S2 (Kt Kv))) (P1 Kv)
def P4 (Kv : Value → World → Prop) : Post := inBlock 0 (P3 Kv)
@[reducible] def g5 : List SE := [.v 0 .str, .v 12 (.int .i64), .v 13 (.int .i64)]
def P6 (Kv : Value → World → Prop) (kc5 : Cur g5) : Post := next (get g5 kc5) (P4 Kv)
def S7 (K : KT) (kc5 : Cur g5) (s_9 : ByteArray) (n10 : Int) (n11 : Int) (w : World) : Prop :=
  G.cond (decide (n11 < n10)) (G.ixS s_9 n11 fun n12 => C.tocsinref04_letter n12 w fun b13 w14 => G.cond (!b13) (G.cond (n11 == (0 : Int)) (K false w14) (G.ixS s_9 n11 fun n15 => C.tocsinref04_digit n15 w14 fun b16 w17 => G.cond (!b16) (K false w17) (kc5 s_9 n10 (IntKind.i64.wrap (n11 + (1 : Int))) w17))) (kc5 s_9 n10 (IntKind.i64.wrap (n11 + (1 : Int))) w14)) (S2 K w)
theorem S7_ok (Kv : Value → World → Prop) (kc5 : Cur g5) : OkT pr false none 33 g5 (S7 (Kt Kv) kc5) (lp (blk (tl 1 (s1 (tl 2 bd))))) (P6 Kv kc5) := ok_last mixed FOk_ fun v ρ w => by kernel_rfl
def L5 (K : KT) : Cur g5 := loopC g5 (S7 K)
theorem L5_ok (Kv : Value → World → Prop) : OkT pr false none 33 g5 (L5 (Kt Kv)) (blk (tl 1 (s1 (tl 2 bd)))) (P4 Kv) := ok_loop (B := S7 (Kt Kv)) (by kernel_rfl) fun kc => S7_ok Kv kc
theorem L5_ind {K : KT} {s_3 : ByteArray} {n4 : Int} {n5 : Int} {w : World} (h : ∀ X : Cur g5, (∀ s_3 n4 n5 w, S7 K X s_3 n4 n5 w → X s_3 n4 n5 w) → X s_3 n4 n5 w) : L5 K s_3 n4 n5 w := fun X hX => h X fun s_3 n4 n5 w hb => hX (s_3, n4, n5, ()) w hb
theorem B8 (Kv : Value → World → Prop) : OkT pr false none 33 g5 (L5 (Kt Kv)) (tl 1 (s1 (tl 2 bd))) (P3 Kv) := ok_block 0 (by kernel_rfl) (L5_ok Kv)
@[reducible] def g9 : List SE := [.v 0 .str]
def S9 (K : KT) (s_18 : ByteArray) (w : World) : Prop :=
  L5 K s_18 ((s_18.size : Nat) : Int) (0 : Int) w
theorem S9_ok (Kv : Value → World → Prop) : OkT pr false none 33 g9 (S9 (Kt Kv)) (s1 (tl 2 bd)) (P3 Kv) := ok_group mixed FOk_ 1 (B8 Kv) fun v ρ w => by kernel_rfl
theorem Q10 (Kv : Value → World → Prop) : OkT pr false none 33 g9 (S9 (Kt Kv)) (tl 2 bd) (P1 Kv) := ok_seq (by kernel_rfl) (S2_ok Kv) (S9_ok Kv)
end tocsinref04_Name
def tocsinref04_Name (s_2 : ByteArray) (w : World) (K : tocsinref04_Name.KT) : Prop :=
  G.cond (s_2.toList == (⟨#[]⟩ : ByteArray).toList) (K false w) (G.cond (decide (((s_2.size : Nat) : Int) > (64 : Int))) (K false w) (tocsinref04_Name.S9 K s_2 w))
def tocsinref04_Name.cl : CL := fun args K w => match args with
  | [.string x0] => C.tocsinref04_Name x0 w (tocsinref04_Name.Kt K)
  | _ => False
theorem tocsinref04_Name.clok : OkC pr 27 tocsinref04_Name.cl := by
  intro args K w h
  unfold tocsinref04_Name.cl at h
  split at h
  · exact calls_group false mixed tocsinref04_Name.FOk_ tocsinref04_Name.fn rfl 2 (tocsinref04_Name.Q10 K) (Eq.mp (by kernel_rfl) h)
  · exact h.elim

/-! tocsin/tocsinref01.Utf8 -/
namespace tocsinref01_Utf8
abbrev KT := Bool → World → Prop
def Kt (Kv : Value → World → Prop) : KT := fun b1 w => Kv (.bool b1) w
noncomputable def bd : Code := bdy Tryd.f28
theorem fn : FnOk pr 28 98 Tryd.f28 := ⟨Tryd.func28, by kernel_rfl, Tryd.ntmps28, by kernel_rfl, by kernel_rfl⟩
def F : Clee := ofL []
theorem FOk_ : FOk pr F := FOk_nil
def P1 (Kv : Value → World → Prop) : Post := bodyK false pr 98 Tryd.f28 Kv
@[reducible] def g2 : List SE := []
def S2 (K : KT) (w : World) : Prop :=
  K true w
theorem S2_ok (Kv : Value → World → Prop) : OkT pr false none 98 g2 (S2 (Kt Kv)) (s2 (tl 1 bd)) (P1 Kv) := ok_last mixed FOk_ fun v ρ w => by kernel_rfl
def P3 (Kv : Value → World → Prop) : Post := next (get g2 (S2 (Kt Kv))) (P1 Kv)
def P4 (Kv : Value → World → Prop) : Post := inBlock 0 (P3 Kv)
@[reducible] def g5 : List SE := [.v 0 .str, .v 3 (.int .i64)]
def P6 (Kv : Value → World → Prop) (kc5 : Cur g5) : Post := next (get g5 kc5) (P4 Kv)
def P7 (Kv : Value → World → Prop) (kc5 : Cur g5) : Post := inBlock 1 (P6 Kv kc5)
@[reducible] def g8 : List SE := [.v 0 .str, .v 3 (.int .i64), .v 5 (.int .i64), .v 6 (.int .i64), .v 7 (.int .i64)]
def S8 (K : KT) (kc5 : Cur g5) (s_5 : ByteArray) (i_6 : Int) (n_7 : Int) (least_8 : Int) (r_9 : Int) (w : World) : Prop :=
  G.cond (decide (r_9 < least_8)) (K false w) (G.cond (decide (r_9 > (1114111 : Int))) (K false w) (G.cond (decide (r_9 ≥ (55296 : Int))) (G.cond (decide (r_9 < (57344 : Int))) (K false w) (kc5 s_5 (IntKind.i64.wrap ((IntKind.i64.wrap (i_6 + n_7)) + (1 : Int))) w)) (kc5 s_5 (IntKind.i64.wrap ((IntKind.i64.wrap (i_6 + n_7)) + (1 : Int))) w)))
theorem S8_ok (Kv : Value → World → Prop) (kc5 : Cur g5) : OkT pr false none 98 g8 (S8 (Kt Kv) kc5) (s2 (tl 5 (blk (tl 1 (lp (blk (tl 1 (s1 (tl 1 bd))))))))) (P7 Kv kc5) := ok_last mixed FOk_ fun v ρ w => by kernel_rfl
def P9 (Kv : Value → World → Prop) (kc5 : Cur g5) : Post := next (get g8 (S8 (Kt Kv) kc5)) (P7 Kv kc5)
def P10 (Kv : Value → World → Prop) (kc5 : Cur g5) : Post := inBlock 3 (P9 Kv kc5)
@[reducible] def g11 : List SE := [.v 0 .str, .v 3 (.int .i64), .v 5 (.int .i64), .v 6 (.int .i64), .v 7 (.int .i64), .v 8 (.int .i64)]
def P12 (Kv : Value → World → Prop) (kc5 : Cur g5) (kc11 : Cur g11) : Post := next (get g11 kc11) (P10 Kv kc5)
def S13 (K : KT) (kc5 : Cur g5) (kc11 : Cur g11) (s_22 : ByteArray) (i_23 : Int) (n_24 : Int) (least_25 : Int) (r_26 : Int) (k_27 : Int) (w : World) : Prop :=
  G.cond (decide (k_27 ≤ n_24)) (G.cond (decide ((IntKind.i64.wrap (i_23 + k_27)) ≥ ((s_22.size : Nat) : Int))) (K false w) (G.ixS s_22 (IntKind.i64.wrap (i_23 + k_27)) fun n28 => G.cond ((Go.bits .and .u8 n28 (192 : Int)) != (128 : Int)) (K false w) (G.ixS s_22 (IntKind.i64.wrap (i_23 + k_27)) fun n29 => kc11 s_22 i_23 n_24 least_25 (IntKind.i64.wrap ((IntKind.i64.wrap (r_26 * (64 : Int))) + (IntKind.i64.wrap (Go.bits .and .u8 n29 (63 : Int))))) (IntKind.i64.wrap (k_27 + (1 : Int))) w))) (S8 K kc5 s_22 i_23 n_24 least_25 r_26 w)
theorem S13_ok (Kv : Value → World → Prop) (kc5 : Cur g5) (kc11 : Cur g11) : OkT pr false none 98 g11 (S13 (Kt Kv) kc5 kc11) (lp (blk (tl 1 (s1 (tl 5 (blk (tl 1 (lp (blk (tl 1 (s1 (tl 1 bd)))))))))))) (P12 Kv kc5 kc11) := ok_last mixed FOk_ fun v ρ w => by kernel_rfl
def L11 (K : KT) (kc5 : Cur g5) : Cur g11 := loopC g11 (S13 K kc5)
theorem L11_ok (Kv : Value → World → Prop) (kc5 : Cur g5) : OkT pr false none 98 g11 (L11 (Kt Kv) kc5) (blk (tl 1 (s1 (tl 5 (blk (tl 1 (lp (blk (tl 1 (s1 (tl 1 bd))))))))))) (P10 Kv kc5) := ok_loop (B := S13 (Kt Kv) kc5) (by kernel_rfl) fun kc => S13_ok Kv kc5 kc
theorem L11_ind {K : KT} {kc5 : Cur g5} {s_10 : ByteArray} {i_11 : Int} {n_12 : Int} {least_13 : Int} {r_14 : Int} {k_15 : Int} {w : World} (h : ∀ X : Cur g11, (∀ s_10 i_11 n_12 least_13 r_14 k_15 w, S13 K kc5 X s_10 i_11 n_12 least_13 r_14 k_15 w → X s_10 i_11 n_12 least_13 r_14 k_15 w) → X s_10 i_11 n_12 least_13 r_14 k_15 w) : L11 K kc5 s_10 i_11 n_12 least_13 r_14 k_15 w := fun X hX => h X fun s_10 i_11 n_12 least_13 r_14 k_15 w hb => hX (s_10, i_11, n_12, least_13, r_14, k_15, ()) w hb
theorem B14 (Kv : Value → World → Prop) (kc5 : Cur g5) : OkT pr false none 98 g11 (L11 (Kt Kv) kc5) (tl 1 (s1 (tl 5 (blk (tl 1 (lp (blk (tl 1 (s1 (tl 1 bd)))))))))) (P9 Kv kc5) := ok_block 3 (by kernel_rfl) (L11_ok Kv kc5)
def S15 (K : KT) (kc5 : Cur g5) (s_30 : ByteArray) (i_31 : Int) (n_32 : Int) (least_33 : Int) (r_34 : Int) (w : World) : Prop :=
  L11 K kc5 s_30 i_31 n_32 least_33 r_34 (1 : Int) w
theorem S15_ok (Kv : Value → World → Prop) (kc5 : Cur g5) : OkT pr false none 98 g8 (S15 (Kt Kv) kc5) (s1 (tl 5 (blk (tl 1 (lp (blk (tl 1 (s1 (tl 1 bd))))))))) (P9 Kv kc5) := ok_group mixed FOk_ 1 (B14 Kv kc5) fun v ρ w => by kernel_rfl
theorem Q16 (Kv : Value → World → Prop) (kc5 : Cur g5) : OkT pr false none 98 g8 (S15 (Kt Kv) kc5) (tl 5 (blk (tl 1 (lp (blk (tl 1 (s1 (tl 1 bd)))))))) (P7 Kv kc5) := ok_seq (by kernel_rfl) (S8_ok Kv kc5) (S15_ok Kv kc5)
def S17 (K : KT) (kc5 : Cur g5) (s_35 : ByteArray) (i_36 : Int) (w : World) : Prop :=
  G.ixS s_35 i_36 fun n37 => G.cond (decide ((IntKind.i64.wrap n37) < (128 : Int))) (kc5 s_35 (IntKind.i64.wrap (i_36 + (1 : Int))) w) (G.cond (decide ((IntKind.i64.wrap n37) ≥ (194 : Int))) (G.cond (decide ((IntKind.i64.wrap n37) < (224 : Int))) (S15 K kc5 s_35 i_36 (1 : Int) (128 : Int) (Go.bits .and .i64 (IntKind.i64.wrap n37) (31 : Int)) w) (G.cond (decide ((IntKind.i64.wrap n37) ≥ (224 : Int))) (G.cond (decide ((IntKind.i64.wrap n37) < (240 : Int))) (S15 K kc5 s_35 i_36 (2 : Int) (2048 : Int) (Go.bits .and .i64 (IntKind.i64.wrap n37) (15 : Int)) w) (G.cond (decide ((IntKind.i64.wrap n37) ≥ (240 : Int))) (G.cond (decide ((IntKind.i64.wrap n37) < (245 : Int))) (S15 K kc5 s_35 i_36 (3 : Int) (65536 : Int) (Go.bits .and .i64 (IntKind.i64.wrap n37) (7 : Int)) w) (K false w)) (K false w))) (G.cond (decide ((IntKind.i64.wrap n37) ≥ (240 : Int))) (G.cond (decide ((IntKind.i64.wrap n37) < (245 : Int))) (S15 K kc5 s_35 i_36 (3 : Int) (65536 : Int) (Go.bits .and .i64 (IntKind.i64.wrap n37) (7 : Int)) w) (K false w)) (K false w)))) (G.cond (decide ((IntKind.i64.wrap n37) ≥ (224 : Int))) (G.cond (decide ((IntKind.i64.wrap n37) < (240 : Int))) (S15 K kc5 s_35 i_36 (2 : Int) (2048 : Int) (Go.bits .and .i64 (IntKind.i64.wrap n37) (15 : Int)) w) (G.cond (decide ((IntKind.i64.wrap n37) ≥ (240 : Int))) (G.cond (decide ((IntKind.i64.wrap n37) < (245 : Int))) (S15 K kc5 s_35 i_36 (3 : Int) (65536 : Int) (Go.bits .and .i64 (IntKind.i64.wrap n37) (7 : Int)) w) (K false w)) (K false w))) (G.cond (decide ((IntKind.i64.wrap n37) ≥ (240 : Int))) (G.cond (decide ((IntKind.i64.wrap n37) < (245 : Int))) (S15 K kc5 s_35 i_36 (3 : Int) (65536 : Int) (Go.bits .and .i64 (IntKind.i64.wrap n37) (7 : Int)) w) (K false w)) (K false w))))
theorem S17_ok (Kv : Value → World → Prop) (kc5 : Cur g5) : OkT pr false none 98 g5 (S17 (Kt Kv) kc5) (blk (tl 1 (lp (blk (tl 1 (s1 (tl 1 bd))))))) (P7 Kv kc5) := ok_group mixed FOk_ 5 (Q16 Kv kc5) fun v ρ w => by kernel_rfl
theorem B18 (Kv : Value → World → Prop) (kc5 : Cur g5) : OkT pr false none 98 g5 (S17 (Kt Kv) kc5) (tl 1 (lp (blk (tl 1 (s1 (tl 1 bd)))))) (P6 Kv kc5) := ok_block 1 (by kernel_rfl) (S17_ok Kv kc5)
def S19 (K : KT) (kc5 : Cur g5) (s_38 : ByteArray) (i_39 : Int) (w : World) : Prop :=
  G.cond (decide (i_39 < ((s_38.size : Nat) : Int))) (S17 K kc5 s_38 i_39 w) (S2 K w)
theorem S19_ok (Kv : Value → World → Prop) (kc5 : Cur g5) : OkT pr false none 98 g5 (S19 (Kt Kv) kc5) (lp (blk (tl 1 (s1 (tl 1 bd))))) (P6 Kv kc5) := ok_group mixed FOk_ 1 (B18 Kv kc5) fun v ρ w => by kernel_rfl
def L5 (K : KT) : Cur g5 := loopC g5 (S19 K)
theorem L5_ok (Kv : Value → World → Prop) : OkT pr false none 98 g5 (L5 (Kt Kv)) (blk (tl 1 (s1 (tl 1 bd)))) (P4 Kv) := ok_loop (B := S19 (Kt Kv)) (by kernel_rfl) fun kc => S19_ok Kv kc
theorem L5_ind {K : KT} {s_3 : ByteArray} {i_4 : Int} {w : World} (h : ∀ X : Cur g5, (∀ s_3 i_4 w, S19 K X s_3 i_4 w → X s_3 i_4 w) → X s_3 i_4 w) : L5 K s_3 i_4 w := fun X hX => h X fun s_3 i_4 w hb => hX (s_3, i_4, ()) w hb
theorem B20 (Kv : Value → World → Prop) : OkT pr false none 98 g5 (L5 (Kt Kv)) (tl 1 (s1 (tl 1 bd))) (P3 Kv) := ok_block 0 (by kernel_rfl) (L5_ok Kv)
@[reducible] def g21 : List SE := [.v 0 .str]
def S21 (K : KT) (s_40 : ByteArray) (w : World) : Prop :=
  L5 K s_40 (0 : Int) w
theorem S21_ok (Kv : Value → World → Prop) : OkT pr false none 98 g21 (S21 (Kt Kv)) (s1 (tl 1 bd)) (P3 Kv) := ok_group mixed FOk_ 1 (B20 Kv) fun v ρ w => by kernel_rfl
theorem Q22 (Kv : Value → World → Prop) : OkT pr false none 98 g21 (S21 (Kt Kv)) (tl 1 bd) (P1 Kv) := ok_seq (by kernel_rfl) (S2_ok Kv) (S21_ok Kv)
end tocsinref01_Utf8
def tocsinref01_Utf8 (s_2 : ByteArray) (w : World) (K : tocsinref01_Utf8.KT) : Prop :=
  tocsinref01_Utf8.S21 K s_2 w
def tocsinref01_Utf8.cl : CL := fun args K w => match args with
  | [.string x0] => C.tocsinref01_Utf8 x0 w (tocsinref01_Utf8.Kt K)
  | _ => False
theorem tocsinref01_Utf8.clok : OkC pr 28 tocsinref01_Utf8.cl := by
  intro args K w h
  unfold tocsinref01_Utf8.cl at h
  split at h
  · exact calls_group false mixed tocsinref01_Utf8.FOk_ tocsinref01_Utf8.fn rfl 1 (tocsinref01_Utf8.Q22 K) (Eq.mp (by kernel_rfl) h)
  · exact h.elim

/-! tocsin/tocsinref04.one -/
namespace tocsinref04_one
abbrev KT := Int → World → Prop
def Kt (Kv : Value → World → Prop) : KT := fun n1 w => Kv (.int .i64 n1) w
noncomputable def bd : Code := bdy Tryd.f18
theorem fn : FnOk pr 18 22 Tryd.f18 := ⟨Tryd.func18, by kernel_rfl, Tryd.ntmps18, by kernel_rfl, by kernel_rfl⟩
def F : Clee := ofL [(27, C.tocsinref04_Name.cl), (28, C.tocsinref01_Utf8.cl)]
theorem FOk_ : FOk pr F := FOk_cons C.tocsinref04_Name.clok (FOk_cons C.tocsinref01_Utf8.clok (FOk_nil))
def P1 (Kv : Value → World → Prop) : Post := bodyK false pr 22 Tryd.f18 Kv
end tocsinref04_one
def tocsinref04_one (x_2 : ByteArray) (x_3 : ByteArray) (w : World) (K : tocsinref04_one.KT) : Prop :=
  G.new (.cells #[(.string x_2), (.string x_3)] 54) w fun p4 w5 => G.cS p4 w5 fun s6 => C.tocsinref04_Name s6 w5 fun b7 w8 => G.cond (!b7) (K (40 : Int) w8) (G.cS (p4.add 1) w8 fun s9 => G.cond (s9.toList == (⟨#[]⟩ : ByteArray).toList) (K (41 : Int) w8) (G.cS (p4.add 1) w8 fun s10 => G.cond (decide (((s10.size : Nat) : Int) > (256 : Int))) (K (4 : Int) w8) (G.cS (p4.add 1) w8 fun s11 => C.tocsinref01_Utf8 s11 w8 fun b12 w13 => G.cond (!b12) (K (12 : Int) w13) (K (0 : Int) w13))))
def tocsinref04_one.cl : CL := fun args K w => match args with
  | [.agg ⟨[.string x0_0, .string x0_1]⟩] => C.tocsinref04_one x0_0 x0_1 w (tocsinref04_one.Kt K)
  | _ => False
theorem tocsinref04_one.clok : OkC pr 18 tocsinref04_one.cl := by
  intro args K w h
  unfold tocsinref04_one.cl at h
  split at h
  · exact calls_last false mixed tocsinref04_one.FOk_ tocsinref04_one.fn rfl (Eq.mp (by kernel_rfl) h)
  · exact h.elim

/-! tocsin/tocsinref04.Right -/
namespace tocsinref04_Right
abbrev KT := Int → Int → World → Prop
def Kt (Kv : Value → World → Prop) : KT := fun n1 n2 w => Kv (.tuple #[(.int .i64 n1), (.int .i64 n2)]) w
noncomputable def bd : Code := bdy Tryd.f7
theorem fn : FnOk pr 7 38 Tryd.f7 := ⟨Tryd.func7, by kernel_rfl, Tryd.ntmps7, by kernel_rfl, by kernel_rfl⟩
def F : Clee := ofL [(18, C.tocsinref04_one.cl)]
theorem FOk_ : FOk pr F := FOk_cons C.tocsinref04_one.clok (FOk_nil)
def P1 (Kv : Value → World → Prop) : Post := bodyK false pr 38 Tryd.f7 Kv
@[reducible] def g2 : List SE := []
def S2 (K : KT) (w : World) : Prop :=
  K (0 : Int) (0 : Int) w
theorem S2_ok (Kv : Value → World → Prop) : OkT pr false none 38 g2 (S2 (Kt Kv)) (s2 (tl 2 bd)) (P1 Kv) := ok_last mixed FOk_ fun v ρ w => by kernel_rfl
def P3 (Kv : Value → World → Prop) : Post := next (get g2 (S2 (Kt Kv))) (P1 Kv)
def P4 (Kv : Value → World → Prop) : Post := inBlock 0 (P3 Kv)
@[reducible] def g5 : List SE := [.v 0 .sl, .v 10 .sl, .v 11 (.int .i64), .v 12 (.int .i64)]
def P6 (Kv : Value → World → Prop) (kc5 : Cur g5) : Post := next (get g5 kc5) (P4 Kv)
def S7 (K : KT) (kc5 : Cur g5) (l_12 : Sl) (l13 : Sl) (n14 : Int) (n15 : Int) (w : World) : Prop :=
  G.cond (decide (n15 < n14)) (G.ix l13.a l13.n n15 2 fun p16 => G.cS p16 w fun s17 => G.cS (p16.add 1) w fun s18 => G.new (.cells #[(.string (⟨#[]⟩ : ByteArray)), (.string (⟨#[]⟩ : ByteArray))] 54) w fun p19 w20 => G.st p19 (.string s17) w20 fun w21 => G.st (p19.add 1) (.string s18) w21 fun w22 => G.cS p19 w22 fun s23 => G.cS (p19.add 1) w22 fun s24 => C.tocsinref04_one s23 s24 w22 fun n25 w26 => G.cond (n25 != (0 : Int)) (K n25 n15 w26) (G.cond (decide (n15 > (0 : Int))) (G.ix l_12.a l_12.n (IntKind.i64.wrap (n15 - (1 : Int))) 2 fun p27 => G.cS p27 w26.drew fun s28 => G.cS p19 w26.drew fun s29 => G.cond (!(Op.bytesLess s28.toList s29.toList)) (K (3 : Int) n15 w26.drew) (kc5 l_12 l13 n14 (IntKind.i64.wrap (n15 + (1 : Int))) w26.drew)) (kc5 l_12 l13 n14 (IntKind.i64.wrap (n15 + (1 : Int))) w26.drew))) (S2 K w)
theorem S7_ok (Kv : Value → World → Prop) (kc5 : Cur g5) : OkT pr false none 38 g5 (S7 (Kt Kv) kc5) (lp (blk (tl 1 (s1 (tl 2 bd))))) (P6 Kv kc5) := ok_last mixed FOk_ fun v ρ w => by kernel_rfl
def L5 (K : KT) : Cur g5 := loopC g5 (S7 K)
theorem L5_ok (Kv : Value → World → Prop) : OkT pr false none 38 g5 (L5 (Kt Kv)) (blk (tl 1 (s1 (tl 2 bd)))) (P4 Kv) := ok_loop (B := S7 (Kt Kv)) (by kernel_rfl) fun kc => S7_ok Kv kc
theorem L5_ind {K : KT} {l_4 : Sl} {l5 : Sl} {n6 : Int} {n7 : Int} {w : World} (h : ∀ X : Cur g5, (∀ l_4 l5 n6 n7 w, S7 K X l_4 l5 n6 n7 w → X l_4 l5 n6 n7 w) → X l_4 l5 n6 n7 w) : L5 K l_4 l5 n6 n7 w := fun X hX => h X fun l_4 l5 n6 n7 w hb => hX (l_4, l5, n6, n7, ()) w hb
theorem B8 (Kv : Value → World → Prop) : OkT pr false none 38 g5 (L5 (Kt Kv)) (tl 1 (s1 (tl 2 bd))) (P3 Kv) := ok_block 0 (by kernel_rfl) (L5_ok Kv)
@[reducible] def g9 : List SE := [.v 0 .sl]
def S9 (K : KT) (l_30 : Sl) (w : World) : Prop :=
  L5 K l_30 l_30 ((l_30.n : Nat) : Int) (0 : Int) w
theorem S9_ok (Kv : Value → World → Prop) : OkT pr false none 38 g9 (S9 (Kt Kv)) (s1 (tl 2 bd)) (P3 Kv) := ok_group mixed FOk_ 1 (B8 Kv) fun v ρ w => by kernel_rfl
theorem Q10 (Kv : Value → World → Prop) : OkT pr false none 38 g9 (S9 (Kt Kv)) (tl 2 bd) (P1 Kv) := ok_seq (by kernel_rfl) (S2_ok Kv) (S9_ok Kv)
end tocsinref04_Right
def tocsinref04_Right (l_3 : Sl) (w : World) (K : tocsinref04_Right.KT) : Prop :=
  G.cond (decide (((l_3.n : Nat) : Int) > (16 : Int))) (K (8 : Int) (0 : Int) w) (tocsinref04_Right.S9 K l_3 w)
def tocsinref04_Right.cl : CL := fun args K w => match args with
  | [.slice x0_a x0_n x0_c] => C.tocsinref04_Right ⟨x0_a, x0_n, x0_c⟩ w (tocsinref04_Right.Kt K)
  | _ => False
theorem tocsinref04_Right.clok : OkC pr 7 tocsinref04_Right.cl := by
  intro args K w h
  unfold tocsinref04_Right.cl at h
  split at h
  · exact calls_group false mixed tocsinref04_Right.FOk_ tocsinref04_Right.fn rfl 2 (tocsinref04_Right.Q10 K) (Eq.mp (by kernel_rfl) h)
  · exact h.elim

/-! tocsin/alerts.time -/
namespace alerts_time
abbrev KT := Bool → World → Prop
def Kt (Kv : Value → World → Prop) : KT := fun b1 w => Kv (.bool b1) w
noncomputable def bd : Code := bdy Tryd.f19
theorem fn : FnOk pr 19 9 Tryd.f19 := ⟨Tryd.func19, by kernel_rfl, Tryd.ntmps19, by kernel_rfl, by kernel_rfl⟩
def F : Clee := ofL []
theorem FOk_ : FOk pr F := FOk_nil
def P1 (Kv : Value → World → Prop) : Post := bodyK false pr 9 Tryd.f19 Kv
end alerts_time
def alerts_time (t_2 : Int) (w : World) (K : alerts_time.KT) : Prop :=
  G.cond (decide (t_2 ≥ (0 : Int))) (K (decide (t_2 ≤ (1125899906842624 : Int))) w) (K false w)
def alerts_time.cl : CL := fun args K w => match args with
  | [.int .i64 x0] => C.alerts_time x0 w (alerts_time.Kt K)
  | _ => False
theorem alerts_time.clok : OkC pr 19 alerts_time.cl := by
  intro args K w h
  unfold alerts_time.cl at h
  split at h
  · exact calls_last false mixed alerts_time.FOk_ alerts_time.fn rfl (Eq.mp (by kernel_rfl) h)
  · exact h.elim

/-! tocsin/labels.digit -/
namespace labels_digit
abbrev KT := Bool → World → Prop
def Kt (Kv : Value → World → Prop) : KT := fun b1 w => Kv (.bool b1) w
noncomputable def bd : Code := bdy Tryd.f55
theorem fn : FnOk pr 55 9 Tryd.f55 := ⟨Tryd.func55, by kernel_rfl, Tryd.ntmps55, by kernel_rfl, by kernel_rfl⟩
def F : Clee := ofL []
theorem FOk_ : FOk pr F := FOk_nil
def P1 (Kv : Value → World → Prop) : Post := bodyK false pr 9 Tryd.f55 Kv
end labels_digit
def labels_digit (c_2 : Int) (w : World) (K : labels_digit.KT) : Prop :=
  G.cond (decide (c_2 ≥ (48 : Int))) (K (decide (c_2 ≤ (57 : Int))) w) (K false w)
def labels_digit.cl : CL := fun args K w => match args with
  | [.int .u8 x0] => C.labels_digit x0 w (labels_digit.Kt K)
  | _ => False
theorem labels_digit.clok : OkC pr 55 labels_digit.cl := by
  intro args K w h
  unfold labels_digit.cl at h
  split at h
  · exact calls_last false mixed labels_digit.FOk_ labels_digit.fn rfl (Eq.mp (by kernel_rfl) h)
  · exact h.elim

/-! tocsin/labels.letter -/
namespace labels_letter
abbrev KT := Bool → World → Prop
def Kt (Kv : Value → World → Prop) : KT := fun b1 w => Kv (.bool b1) w
noncomputable def bd : Code := bdy Tryd.f56
theorem fn : FnOk pr 56 21 Tryd.f56 := ⟨Tryd.func56, by kernel_rfl, Tryd.ntmps56, by kernel_rfl, by kernel_rfl⟩
def F : Clee := ofL []
theorem FOk_ : FOk pr F := FOk_nil
def P1 (Kv : Value → World → Prop) : Post := bodyK false pr 21 Tryd.f56 Kv
end labels_letter
def labels_letter (c_2 : Int) (w : World) (K : labels_letter.KT) : Prop :=
  G.cond (decide (c_2 ≥ (97 : Int))) (G.cond (decide (c_2 ≤ (122 : Int))) (K true w) (G.cond (decide (c_2 ≥ (65 : Int))) (G.cond (decide (c_2 ≤ (90 : Int))) (K true w) (K (c_2 == (95 : Int)) w)) (K (c_2 == (95 : Int)) w))) (G.cond (decide (c_2 ≥ (65 : Int))) (G.cond (decide (c_2 ≤ (90 : Int))) (K true w) (K (c_2 == (95 : Int)) w)) (K (c_2 == (95 : Int)) w))
def labels_letter.cl : CL := fun args K w => match args with
  | [.int .u8 x0] => C.labels_letter x0 w (labels_letter.Kt K)
  | _ => False
theorem labels_letter.clok : OkC pr 56 labels_letter.cl := by
  intro args K w h
  unfold labels_letter.cl at h
  split at h
  · exact calls_last false mixed labels_letter.FOk_ labels_letter.fn rfl (Eq.mp (by kernel_rfl) h)
  · exact h.elim

/-! tocsin/labels.named -/
namespace labels_named
abbrev KT := Bool → World → Prop
def Kt (Kv : Value → World → Prop) : KT := fun b1 w => Kv (.bool b1) w
noncomputable def bd : Code := bdy Tryd.f41
theorem fn : FnOk pr 41 46 Tryd.f41 := ⟨Tryd.func41, by kernel_rfl, Tryd.ntmps41, by kernel_rfl, by kernel_rfl⟩
def F : Clee := ofL [(55, C.labels_digit.cl), (56, C.labels_letter.cl)]
theorem FOk_ : FOk pr F := FOk_cons C.labels_digit.clok (FOk_cons C.labels_letter.clok (FOk_nil))
def P1 (Kv : Value → World → Prop) : Post := bodyK false pr 46 Tryd.f41 Kv
@[reducible] def g2 : List SE := []
def S2 (K : KT) (w : World) : Prop :=
  K true w
theorem S2_ok (Kv : Value → World → Prop) : OkT pr false none 46 g2 (S2 (Kt Kv)) (s2 (tl 2 bd)) (P1 Kv) := ok_last mixed FOk_ fun v ρ w => by kernel_rfl
def P3 (Kv : Value → World → Prop) : Post := next (get g2 (S2 (Kt Kv))) (P1 Kv)
def P4 (Kv : Value → World → Prop) : Post := inBlock 0 (P3 Kv)
@[reducible] def g5 : List SE := [.v 2 .bool, .v 23 .sl, .v 24 (.int .i64), .v 25 (.int .i64)]
def P6 (Kv : Value → World → Prop) (kc5 : Cur g5) : Post := next (get g5 kc5) (P4 Kv)
def S7 (K : KT) (kc5 : Cur g5) (colon_13 : Bool) (l14 : Sl) (n15 : Int) (n16 : Int) (w : World) : Prop :=
  G.cond (decide (n16 < n15)) (G.ix l14.a l14.n n16 1 fun p17 => G.cI .u8 p17 w fun n18 => C.labels_letter n18 w fun b19 w20 => G.cond (!b19) (C.labels_digit n18 w20 fun b21 w22 => G.cond (!b21) (G.cond colon_13 (G.cond (!(n18 == (58 : Int))) (K false w22) (kc5 colon_13 l14 n15 (IntKind.i64.wrap (n16 + (1 : Int))) w22)) (K false w22)) (kc5 colon_13 l14 n15 (IntKind.i64.wrap (n16 + (1 : Int))) w22)) (kc5 colon_13 l14 n15 (IntKind.i64.wrap (n16 + (1 : Int))) w20)) (S2 K w)
theorem S7_ok (Kv : Value → World → Prop) (kc5 : Cur g5) : OkT pr false none 46 g5 (S7 (Kt Kv) kc5) (lp (blk (tl 1 (s1 (tl 2 bd))))) (P6 Kv kc5) := ok_last mixed FOk_ fun v ρ w => by kernel_rfl
def L5 (K : KT) : Cur g5 := loopC g5 (S7 K)
theorem L5_ok (Kv : Value → World → Prop) : OkT pr false none 46 g5 (L5 (Kt Kv)) (blk (tl 1 (s1 (tl 2 bd)))) (P4 Kv) := ok_loop (B := S7 (Kt Kv)) (by kernel_rfl) fun kc => S7_ok Kv kc
theorem L5_ind {K : KT} {colon_5 : Bool} {l6 : Sl} {n7 : Int} {n8 : Int} {w : World} (h : ∀ X : Cur g5, (∀ colon_5 l6 n7 n8 w, S7 K X colon_5 l6 n7 n8 w → X colon_5 l6 n7 n8 w) → X colon_5 l6 n7 n8 w) : L5 K colon_5 l6 n7 n8 w := fun X hX => h X fun colon_5 l6 n7 n8 w hb => hX (colon_5, l6, n7, n8, ()) w hb
theorem B8 (Kv : Value → World → Prop) : OkT pr false none 46 g5 (L5 (Kt Kv)) (tl 1 (s1 (tl 2 bd))) (P3 Kv) := ok_block 0 (by kernel_rfl) (L5_ok Kv)
@[reducible] def g9 : List SE := [.v 0 .str, .v 2 .bool]
def S9 (K : KT) (s_23 : ByteArray) (colon_24 : Bool) (w : World) : Prop :=
  G.runSl pr (Go.convert 9 68 (.string s_23)) w fun l25 w26 => L5 K colon_24 l25 ((l25.n : Nat) : Int) (0 : Int) w26
theorem S9_ok (Kv : Value → World → Prop) : OkT pr false none 46 g9 (S9 (Kt Kv)) (s1 (tl 2 bd)) (P3 Kv) := ok_group mixed FOk_ 1 (B8 Kv) fun v ρ w => by kernel_rfl
theorem Q10 (Kv : Value → World → Prop) : OkT pr false none 46 g9 (S9 (Kt Kv)) (tl 2 bd) (P1 Kv) := ok_seq (by kernel_rfl) (S2_ok Kv) (S9_ok Kv)
end labels_named
def labels_named (s_2 : ByteArray) (most_3 : Int) (colon_4 : Bool) (w : World) (K : labels_named.KT) : Prop :=
  G.cond (s_2.toList == (⟨#[]⟩ : ByteArray).toList) (K false w) (G.cond (decide (((s_2.size : Nat) : Int) > most_3)) (K false w) (G.ixS s_2 (0 : Int) fun n27 => C.labels_digit n27 w fun b28 w29 => G.cond b28 (K false w29) (labels_named.S9 K s_2 colon_4 w29)))
def labels_named.cl : CL := fun args K w => match args with
  | [.string x0, .int .i64 x1, .bool x2] => C.labels_named x0 x1 x2 w (labels_named.Kt K)
  | _ => False
theorem labels_named.clok : OkC pr 41 labels_named.cl := by
  intro args K w h
  unfold labels_named.cl at h
  split at h
  · exact calls_group false mixed labels_named.FOk_ labels_named.fn rfl 2 (labels_named.Q10 K) (Eq.mp (by kernel_rfl) h)
  · exact h.elim

/-! tocsin/labels.Name -/
namespace labels_Name
abbrev KT := Bool → World → Prop
def Kt (Kv : Value → World → Prop) : KT := fun b1 w => Kv (.bool b1) w
noncomputable def bd : Code := bdy Tryd.f29
theorem fn : FnOk pr 29 5 Tryd.f29 := ⟨Tryd.func29, by kernel_rfl, Tryd.ntmps29, by kernel_rfl, by kernel_rfl⟩
def F : Clee := ofL [(41, C.labels_named.cl)]
theorem FOk_ : FOk pr F := FOk_cons C.labels_named.clok (FOk_nil)
def P1 (Kv : Value → World → Prop) : Post := bodyK false pr 5 Tryd.f29 Kv
end labels_Name
def labels_Name (s_2 : ByteArray) (w : World) (K : labels_Name.KT) : Prop :=
  C.labels_named s_2 (64 : Int) false w fun b3 w4 => K b3 w4
def labels_Name.cl : CL := fun args K w => match args with
  | [.string x0] => C.labels_Name x0 w (labels_Name.Kt K)
  | _ => False
theorem labels_Name.clok : OkC pr 29 labels_Name.cl := by
  intro args K w h
  unfold labels_Name.cl at h
  split at h
  · exact calls_last false mixed labels_Name.FOk_ labels_Name.fn rfl (Eq.mp (by kernel_rfl) h)
  · exact h.elim

/-! unicode/utf8.word[string] -/
namespace utf8_word_string
abbrev KT := Int → World → Prop
def Kt (Kv : Value → World → Prop) : KT := fun n1 w => Kv (.int .u64 n1) w
noncomputable def bd : Code := bdy Tryd.f57
theorem fn : FnOk pr 57 59 Tryd.f57 := ⟨Tryd.func57, by kernel_rfl, Tryd.ntmps57, by kernel_rfl, by kernel_rfl⟩
def F : Clee := ofL []
theorem FOk_ : FOk pr F := FOk_nil
def P1 (Kv : Value → World → Prop) : Post := bodyK false pr 59 Tryd.f57 Kv
end utf8_word_string
def utf8_word_string (s_2 : ByteArray) (w : World) (K : utf8_word_string.KT) : Prop :=
  G.ixS s_2 (0 : Int) fun n4 => G.ixS s_2 (1 : Int) fun n5 => G.nn (8 : Int) <| G.ixS s_2 (2 : Int) fun n6 => G.nn (16 : Int) <| G.ixS s_2 (3 : Int) fun n7 => G.nn (24 : Int) <| G.ixS s_2 (4 : Int) fun n8 => G.nn (32 : Int) <| G.ixS s_2 (5 : Int) fun n9 => G.nn (40 : Int) <| G.ixS s_2 (6 : Int) fun n10 => G.nn (48 : Int) <| G.ixS s_2 (7 : Int) fun n11 => G.nn (56 : Int) <| K (Go.bits .or .u64 (Go.bits .or .u64 (Go.bits .or .u64 (Go.bits .or .u64 (Go.bits .or .u64 (Go.bits .or .u64 (Go.bits .or .u64 (IntKind.u64.wrap n4) (shl .u64 (IntKind.u64.wrap n5) (8 : Int))) (shl .u64 (IntKind.u64.wrap n6) (16 : Int))) (shl .u64 (IntKind.u64.wrap n7) (24 : Int))) (shl .u64 (IntKind.u64.wrap n8) (32 : Int))) (shl .u64 (IntKind.u64.wrap n9) (40 : Int))) (shl .u64 (IntKind.u64.wrap n10) (48 : Int))) (shl .u64 (IntKind.u64.wrap n11) (56 : Int))) w.drew
def utf8_word_string.cl : CL := fun args K w => match args with
  | [.string x0] => C.utf8_word_string x0 w (utf8_word_string.Kt K)
  | _ => False
theorem utf8_word_string.clok : OkC pr 57 utf8_word_string.cl := by
  intro args K w h
  unfold utf8_word_string.cl at h
  split at h
  · exact calls_last false mixed utf8_word_string.FOk_ utf8_word_string.fn rfl (Eq.mp (by kernel_rfl) h)
  · exact h.elim

/-! unicode/utf8.ValidString -/
namespace utf8_ValidString
abbrev KT := Bool → World → Prop
def Kt (Kv : Value → World → Prop) : KT := fun b1 w => Kv (.bool b1) w
noncomputable def bd : Code := bdy Tryd.f42
theorem fn : FnOk pr 42 169 Tryd.f42 := ⟨Tryd.func42, by kernel_rfl, Tryd.ntmps42, by kernel_rfl, by kernel_rfl⟩
def F : Clee := ofL [(57, C.utf8_word_string.cl)]
theorem FOk_ : FOk pr F := FOk_cons C.utf8_word_string.clok (FOk_nil)
def P1 (Kv : Value → World → Prop) : Post := bodyK false pr 169 Tryd.f42 Kv
@[reducible] def g2 : List SE := []
def S2 (K : KT) (w : World) : Prop :=
  K true w
theorem S2_ok (Kv : Value → World → Prop) : OkT pr false none 169 g2 (S2 (Kt Kv)) (s2 (tl 1 bd)) (P1 Kv) := ok_last mixed FOk_ fun v ρ w => by kernel_rfl
def P3 (Kv : Value → World → Prop) : Post := next (get g2 (S2 (Kt Kv))) (P1 Kv)
def P4 (Kv : Value → World → Prop) : Post := inBlock 0 (P3 Kv)
@[reducible] def g5 : List SE := [.v 0 .str]
def P6 (Kv : Value → World → Prop) (kc5 : Cur g5) : Post := next (get g5 kc5) (P4 Kv)
def P7 (Kv : Value → World → Prop) (kc5 : Cur g5) : Post := inBlock 1 (P6 Kv kc5)
@[reducible] def g8 : List SE := [.v 0 .str, .v 3 (.int .u8)]
def S8 (K : KT) (kc5 : Cur g5) (s_4 : ByteArray) (s0_5 : Int) (w : World) : Prop :=
  G.ix (some ⟨0, 0, none⟩) 256 s0_5 1 fun p6 => G.cI .u8 p6 w fun n7 => G.nn (4 : Int) <| G.ix (some ⟨1, 0, none⟩) 16 (shr .u8 n7 (4 : Int)) 2 fun p8 => G.cI .u8 p8 w fun n9 => G.cI .u8 (p8.add 1) w fun n10 => G.new (.cells #[(.int .u8 (0 : Int)), (.int .u8 (0 : Int))] 93) w fun p11 w12 => G.st p11 (.int .u8 n9) w12 fun w13 => G.st (p11.add 1) (.int .u8 n10) w13 fun w14 => G.cond ((IntKind.i64.wrap (Go.bits .and .u8 n7 (7 : Int))) == (2 : Int)) (G.cond (decide (((s_4.size : Nat) : Int) < (2 : Int))) (K false w14.drew) (G.ixS s_4 (1 : Int) fun n15 => G.cI .u8 p11 w14.drew fun n16 => G.cond (decide (n15 < n16)) (K false w14.drew) (G.cI .u8 (p11.add 1) w14.drew fun n17 => G.ixS s_4 (1 : Int) fun n18 => G.cond (decide (n17 < n18)) (K false w14.drew) (G.slcS s_4 (2 : Int) ((s_4.size : Nat) : Int) fun s19 => kc5 s19 w14.drew)))) (G.cond ((IntKind.i64.wrap (Go.bits .and .u8 n7 (7 : Int))) == (3 : Int)) (G.cond (decide (((s_4.size : Nat) : Int) < (3 : Int))) (K false w14.drew) (G.ixS s_4 (1 : Int) fun n20 => G.cI .u8 p11 w14.drew fun n21 => G.cond (decide (n20 < n21)) (K false w14.drew) (G.cI .u8 (p11.add 1) w14.drew fun n22 => G.ixS s_4 (1 : Int) fun n23 => G.cond (decide (n22 < n23)) (K false w14.drew) (G.ixS s_4 (2 : Int) fun n24 => G.cond (decide (n24 < (128 : Int))) (K false w14.drew) (G.ixS s_4 (2 : Int) fun n25 => G.cond (decide ((191 : Int) < n25)) (K false w14.drew) (G.slcS s_4 (3 : Int) ((s_4.size : Nat) : Int) fun s26 => kc5 s26 w14.drew)))))) (G.cond ((IntKind.i64.wrap (Go.bits .and .u8 n7 (7 : Int))) == (4 : Int)) (G.cond (decide (((s_4.size : Nat) : Int) < (4 : Int))) (K false w14.drew) (G.ixS s_4 (1 : Int) fun n27 => G.cI .u8 p11 w14.drew fun n28 => G.cond (decide (n27 < n28)) (K false w14.drew) (G.cI .u8 (p11.add 1) w14.drew fun n29 => G.ixS s_4 (1 : Int) fun n30 => G.cond (decide (n29 < n30)) (K false w14.drew) (G.ixS s_4 (2 : Int) fun n31 => G.cond (decide (n31 < (128 : Int))) (K false w14.drew) (G.ixS s_4 (2 : Int) fun n32 => G.cond (decide ((191 : Int) < n32)) (K false w14.drew) (G.ixS s_4 (3 : Int) fun n33 => G.cond (decide (n33 < (128 : Int))) (K false w14.drew) (G.ixS s_4 (3 : Int) fun n34 => G.cond (decide ((191 : Int) < n34)) (K false w14.drew) (G.slcS s_4 (4 : Int) ((s_4.size : Nat) : Int) fun s35 => kc5 s35 w14.drew)))))))) (K false w14)))
theorem S8_ok (Kv : Value → World → Prop) (kc5 : Cur g5) : OkT pr false none 169 g8 (S8 (Kt Kv) kc5) (s2 (tl 1 (blk (tl 1 (lp (blk (s1 (tl 1 bd)))))))) (P7 Kv kc5) := ok_last mixed FOk_ fun v ρ w => by kernel_rfl
def P9 (Kv : Value → World → Prop) (kc5 : Cur g5) : Post := next (get g8 (S8 (Kt Kv) kc5)) (P7 Kv kc5)
def S10 (K : KT) (kc5 : Cur g5) (s_36 : ByteArray) (w : World) : Prop :=
  kc5 s_36 w
theorem S10_ok (Kv : Value → World → Prop) (kc5 : Cur g5) : OkT pr false none 169 g5 (S10 (Kt Kv) kc5) (s2 (tl 1 (c1 (tl 1 (s1 (tl 1 (blk (tl 1 (lp (blk (s1 (tl 1 bd)))))))))))) (P9 Kv kc5) := ok_last mixed FOk_ fun v ρ w => by kernel_rfl
def P11 (Kv : Value → World → Prop) (kc5 : Cur g5) : Post := next (get g5 (S10 (Kt Kv) kc5)) (P9 Kv kc5)
def P12 (Kv : Value → World → Prop) (kc5 : Cur g5) : Post := inBlock 2 (P11 Kv kc5)
def P14 (Kv : Value → World → Prop) (kc5 : Cur g5) (kc13 : Cur g5) : Post := next (get g5 kc13) (P12 Kv kc5)
def S15 (K : KT) (kc5 : Cur g5) (kc13 : Cur g5) (s_38 : ByteArray) (w : World) : Prop :=
  G.cond (decide (((s_38.size : Nat) : Int) > (32 : Int))) (G.slcS s_38 (8 : Int) ((s_38.size : Nat) : Int) fun s39 => G.slcS s_38 (16 : Int) ((s_38.size : Nat) : Int) fun s40 => G.slcS s_38 (24 : Int) ((s_38.size : Nat) : Int) fun s41 => C.utf8_word_string s_38 w.drew fun n42 w43 => C.utf8_word_string s39 w43 fun n44 w45 => C.utf8_word_string s40 w45 fun n46 w47 => C.utf8_word_string s41 w47 fun n48 w49 => G.cond ((Go.bits .and .u64 (Go.bits .or .u64 (Go.bits .or .u64 n42 n44) (Go.bits .or .u64 n46 n48)) (9259542123273814144 : Int)) == (0 : Int)) (G.slcS s_38 (32 : Int) ((s_38.size : Nat) : Int) fun s50 => kc13 s50 w49) (S10 K kc5 s_38 w49)) (S10 K kc5 s_38 w.drew)
theorem S15_ok (Kv : Value → World → Prop) (kc5 : Cur g5) (kc13 : Cur g5) : OkT pr false none 169 g5 (S15 (Kt Kv) kc5 kc13) (lp (blk (tl 1 (c1 (tl 2 (c1 (tl 1 (s1 (tl 1 (c1 (tl 1 (s1 (tl 1 (blk (tl 1 (lp (blk (s1 (tl 1 bd))))))))))))))))))) (P14 Kv kc5 kc13) := ok_last mixed FOk_ fun v ρ w => by kernel_rfl
def L13 (K : KT) (kc5 : Cur g5) : Cur g5 := loopC g5 (S15 K kc5)
theorem L13_ok (Kv : Value → World → Prop) (kc5 : Cur g5) : OkT pr false none 169 g5 (L13 (Kt Kv) kc5) (blk (tl 1 (c1 (tl 2 (c1 (tl 1 (s1 (tl 1 (c1 (tl 1 (s1 (tl 1 (blk (tl 1 (lp (blk (s1 (tl 1 bd)))))))))))))))))) (P12 Kv kc5) := ok_loop (B := S15 (Kt Kv) kc5) (by kernel_rfl) fun kc => S15_ok Kv kc5 kc
theorem L13_ind {K : KT} {kc5 : Cur g5} {s_37 : ByteArray} {w : World} (h : ∀ X : Cur g5, (∀ s_37 w, S15 K kc5 X s_37 w → X s_37 w) → X s_37 w) : L13 K kc5 s_37 w := fun X hX => h X fun s_37 w hb => hX (s_37, ()) w hb
theorem B16 (Kv : Value → World → Prop) (kc5 : Cur g5) : OkT pr false none 169 g5 (L13 (Kt Kv) kc5) (tl 1 (c1 (tl 2 (c1 (tl 1 (s1 (tl 1 (c1 (tl 1 (s1 (tl 1 (blk (tl 1 (lp (blk (s1 (tl 1 bd))))))))))))))))) (P11 Kv kc5) := ok_block 2 (by kernel_rfl) (L13_ok Kv kc5)
@[reducible] def g17 : List SE := [.v 0 .str, .v 39 .bool]
def S17 (K : KT) (kc5 : Cur g5) (s_51 : ByteArray) (b52 : Bool) (w : World) : Prop :=
  G.slcS s_51 (16 : Int) ((s_51.size : Nat) : Int) fun s53 => L13 K kc5 s53 w
theorem S17_ok (Kv : Value → World → Prop) (kc5 : Cur g5) : OkT pr false none 169 g17 (S17 (Kt Kv) kc5) (c1 (tl 2 (c1 (tl 1 (s1 (tl 1 (c1 (tl 1 (s1 (tl 1 (blk (tl 1 (lp (blk (s1 (tl 1 bd)))))))))))))))) (P11 Kv kc5) := ok_group mixed FOk_ 1 (B16 Kv kc5) fun v ρ w => by kernel_rfl
def S18 (K : KT) (kc5 : Cur g5) (s_54 : ByteArray) (b55 : Bool) (w : World) : Prop :=
  S10 K kc5 s_54 w
theorem S18_ok (Kv : Value → World → Prop) (kc5 : Cur g5) : OkT pr false none 169 g17 (S18 (Kt Kv) kc5) (c2 (tl 2 (c1 (tl 1 (s1 (tl 1 (c1 (tl 1 (s1 (tl 1 (blk (tl 1 (lp (blk (s1 (tl 1 bd)))))))))))))))) (P11 Kv kc5) := ok_last mixed FOk_ fun v ρ w => by kernel_rfl
def D19 (K : KT) (kc5 : Cur g5) (s_56 : ByteArray) (b57 : Bool) (w : World) : Prop :=
  G.cond b57 (S17 K kc5 s_56 b57 w) (S18 K kc5 s_56 b57 w)
theorem D19_ok (Kv : Value → World → Prop) (kc5 : Cur g5) : OkT pr false none 169 g17 (D19 (Kt Kv) kc5) (tl 2 (c1 (tl 1 (s1 (tl 1 (c1 (tl 1 (s1 (tl 1 (blk (tl 1 (lp (blk (s1 (tl 1 bd))))))))))))))) (P11 Kv kc5) :=
  ok_cond 39 (fun v => v.2.1) (by kernel_rfl) (fun v ρ => by kernel_rfl) (fun v w => by kernel_rfl) (S17_ok Kv kc5) (S18_ok Kv kc5)
@[reducible] def g20 : List SE := [.v 0 .str, .v 24 .bool]
def S20 (K : KT) (kc5 : Cur g5) (s_58 : ByteArray) (b59 : Bool) (w : World) : Prop :=
  G.slcS s_58 (8 : Int) ((s_58.size : Nat) : Int) fun s60 => G.cond (decide (((s60.size : Nat) : Int) > (16 : Int))) (G.slcS s60 (8 : Int) ((s60.size : Nat) : Int) fun s61 => C.utf8_word_string s60 w.drew fun n62 w63 => C.utf8_word_string s61 w63 fun n64 w65 => D19 K kc5 s60 ((Go.bits .and .u64 (Go.bits .or .u64 n62 n64) (9259542123273814144 : Int)) == (0 : Int)) w65) (D19 K kc5 s60 false w.drew)
theorem S20_ok (Kv : Value → World → Prop) (kc5 : Cur g5) : OkT pr false none 169 g20 (S20 (Kt Kv) kc5) (c1 (tl 1 (s1 (tl 1 (c1 (tl 1 (s1 (tl 1 (blk (tl 1 (lp (blk (s1 (tl 1 bd)))))))))))))) (P11 Kv kc5) := ok_group mixed FOk_ 2 (D19_ok Kv kc5) fun v ρ w => by kernel_rfl
def S21 (K : KT) (kc5 : Cur g5) (s_66 : ByteArray) (b67 : Bool) (w : World) : Prop :=
  S10 K kc5 s_66 w
theorem S21_ok (Kv : Value → World → Prop) (kc5 : Cur g5) : OkT pr false none 169 g20 (S21 (Kt Kv) kc5) (c2 (tl 1 (s1 (tl 1 (c1 (tl 1 (s1 (tl 1 (blk (tl 1 (lp (blk (s1 (tl 1 bd)))))))))))))) (P11 Kv kc5) := ok_last mixed FOk_ fun v ρ w => by kernel_rfl
def D22 (K : KT) (kc5 : Cur g5) (s_68 : ByteArray) (b69 : Bool) (w : World) : Prop :=
  G.cond b69 (S20 K kc5 s_68 b69 w) (S21 K kc5 s_68 b69 w)
theorem D22_ok (Kv : Value → World → Prop) (kc5 : Cur g5) : OkT pr false none 169 g20 (D22 (Kt Kv) kc5) (tl 1 (s1 (tl 1 (c1 (tl 1 (s1 (tl 1 (blk (tl 1 (lp (blk (s1 (tl 1 bd))))))))))))) (P11 Kv kc5) :=
  ok_cond 24 (fun v => v.2.1) (by kernel_rfl) (fun v ρ => by kernel_rfl) (fun v w => by kernel_rfl) (S20_ok Kv kc5) (S21_ok Kv kc5)
def S23 (K : KT) (kc5 : Cur g5) (s_70 : ByteArray) (w : World) : Prop :=
  G.cond (decide (((s_70.size : Nat) : Int) > (8 : Int))) (C.utf8_word_string s_70 w fun n71 w72 => D22 K kc5 s_70 ((Go.bits .and .u64 n71 (9259542123273814144 : Int)) == (0 : Int)) w72) (D22 K kc5 s_70 false w)
theorem S23_ok (Kv : Value → World → Prop) (kc5 : Cur g5) : OkT pr false none 169 g5 (S23 (Kt Kv) kc5) (s1 (tl 1 (c1 (tl 1 (s1 (tl 1 (blk (tl 1 (lp (blk (s1 (tl 1 bd)))))))))))) (P11 Kv kc5) := ok_group mixed FOk_ 1 (D22_ok Kv kc5) fun v ρ w => by kernel_rfl
theorem Q24 (Kv : Value → World → Prop) (kc5 : Cur g5) : OkT pr false none 169 g5 (S23 (Kt Kv) kc5) (tl 1 (c1 (tl 1 (s1 (tl 1 (blk (tl 1 (lp (blk (s1 (tl 1 bd))))))))))) (P9 Kv kc5) := ok_seq (by kernel_rfl) (S10_ok Kv kc5) (S23_ok Kv kc5)
@[reducible] def g25 : List SE := [.v 0 .str, .v 3 (.int .u8), .v 13 .bool]
def S25 (K : KT) (kc5 : Cur g5) (s_73 : ByteArray) (s0_74 : Int) (b75 : Bool) (w : World) : Prop :=
  G.slcS s_73 (1 : Int) ((s_73.size : Nat) : Int) fun s76 => S23 K kc5 s76 w
theorem S25_ok (Kv : Value → World → Prop) (kc5 : Cur g5) : OkT pr false none 169 g25 (S25 (Kt Kv) kc5) (c1 (tl 1 (s1 (tl 1 (blk (tl 1 (lp (blk (s1 (tl 1 bd)))))))))) (P9 Kv kc5) := ok_group mixed FOk_ 1 (Q24 Kv kc5) fun v ρ w => by kernel_rfl
def S26 (K : KT) (kc5 : Cur g5) (s_77 : ByteArray) (s0_78 : Int) (b79 : Bool) (w : World) : Prop :=
  S8 K kc5 s_77 s0_78 w
theorem S26_ok (Kv : Value → World → Prop) (kc5 : Cur g5) : OkT pr false none 169 g25 (S26 (Kt Kv) kc5) (c2 (tl 1 (s1 (tl 1 (blk (tl 1 (lp (blk (s1 (tl 1 bd)))))))))) (P9 Kv kc5) := ok_last mixed FOk_ fun v ρ w => by kernel_rfl
def D27 (K : KT) (kc5 : Cur g5) (s_80 : ByteArray) (s0_81 : Int) (b82 : Bool) (w : World) : Prop :=
  G.cond b82 (S25 K kc5 s_80 s0_81 b82 w) (S26 K kc5 s_80 s0_81 b82 w)
theorem D27_ok (Kv : Value → World → Prop) (kc5 : Cur g5) : OkT pr false none 169 g25 (D27 (Kt Kv) kc5) (tl 1 (s1 (tl 1 (blk (tl 1 (lp (blk (s1 (tl 1 bd))))))))) (P9 Kv kc5) :=
  ok_cond 13 (fun v => v.2.2.1) (by kernel_rfl) (fun v ρ => by kernel_rfl) (fun v w => by kernel_rfl) (S25_ok Kv kc5) (S26_ok Kv kc5)
def S28 (K : KT) (kc5 : Cur g5) (s_83 : ByteArray) (s0_84 : Int) (w : World) : Prop :=
  D27 K kc5 s_83 s0_84 (decide (s0_84 < (128 : Int))) w
theorem S28_ok (Kv : Value → World → Prop) (kc5 : Cur g5) : OkT pr false none 169 g8 (S28 (Kt Kv) kc5) (s1 (tl 1 (blk (tl 1 (lp (blk (s1 (tl 1 bd)))))))) (P9 Kv kc5) := ok_group mixed FOk_ 1 (D27_ok Kv kc5) fun v ρ w => by kernel_rfl
theorem Q29 (Kv : Value → World → Prop) (kc5 : Cur g5) : OkT pr false none 169 g8 (S28 (Kt Kv) kc5) (tl 1 (blk (tl 1 (lp (blk (s1 (tl 1 bd))))))) (P7 Kv kc5) := ok_seq (by kernel_rfl) (S8_ok Kv kc5) (S28_ok Kv kc5)
def S30 (K : KT) (kc5 : Cur g5) (s_85 : ByteArray) (w : World) : Prop :=
  G.ixS s_85 (0 : Int) fun n86 => S28 K kc5 s_85 n86 w
theorem S30_ok (Kv : Value → World → Prop) (kc5 : Cur g5) : OkT pr false none 169 g5 (S30 (Kt Kv) kc5) (blk (tl 1 (lp (blk (s1 (tl 1 bd)))))) (P7 Kv kc5) := ok_group mixed FOk_ 1 (Q29 Kv kc5) fun v ρ w => by kernel_rfl
theorem B31 (Kv : Value → World → Prop) (kc5 : Cur g5) : OkT pr false none 169 g5 (S30 (Kt Kv) kc5) (tl 1 (lp (blk (s1 (tl 1 bd))))) (P6 Kv kc5) := ok_block 1 (by kernel_rfl) (S30_ok Kv kc5)
def S32 (K : KT) (kc5 : Cur g5) (s_87 : ByteArray) (w : World) : Prop :=
  G.cond (decide (((s_87.size : Nat) : Int) > (0 : Int))) (S30 K kc5 s_87 w) (S2 K w)
theorem S32_ok (Kv : Value → World → Prop) (kc5 : Cur g5) : OkT pr false none 169 g5 (S32 (Kt Kv) kc5) (lp (blk (s1 (tl 1 bd)))) (P6 Kv kc5) := ok_group mixed FOk_ 1 (B31 Kv kc5) fun v ρ w => by kernel_rfl
def L5 (K : KT) : Cur g5 := loopC g5 (S32 K)
theorem L5_ok (Kv : Value → World → Prop) : OkT pr false none 169 g5 (L5 (Kt Kv)) (blk (s1 (tl 1 bd))) (P4 Kv) := ok_loop (B := S32 (Kt Kv)) (by kernel_rfl) fun kc => S32_ok Kv kc
theorem L5_ind {K : KT} {s_3 : ByteArray} {w : World} (h : ∀ X : Cur g5, (∀ s_3 w, S32 K X s_3 w → X s_3 w) → X s_3 w) : L5 K s_3 w := fun X hX => h X fun s_3 w hb => hX (s_3, ()) w hb
theorem B33 (Kv : Value → World → Prop) : OkT pr false none 169 g5 (L5 (Kt Kv)) (s1 (tl 1 bd)) (P3 Kv) := ok_block 0 (by kernel_rfl) (L5_ok Kv)
theorem Q34 (Kv : Value → World → Prop) : OkT pr false none 169 g5 (L5 (Kt Kv)) (tl 1 bd) (P1 Kv) := ok_seq (by kernel_rfl) (S2_ok Kv) (B33 Kv)
end utf8_ValidString
def utf8_ValidString (s_2 : ByteArray) (w : World) (K : utf8_ValidString.KT) : Prop :=
  utf8_ValidString.L5 K s_2 w
def utf8_ValidString.cl : CL := fun args K w => match args with
  | [.string x0] => C.utf8_ValidString x0 w (utf8_ValidString.Kt K)
  | _ => False
theorem utf8_ValidString.clok : OkC pr 42 utf8_ValidString.cl := by
  intro args K w h
  unfold utf8_ValidString.cl at h
  split at h
  · exact calls_group false mixed utf8_ValidString.FOk_ utf8_ValidString.fn rfl 1 (utf8_ValidString.Q34 K) (Eq.mp (by kernel_rfl) h)
  · exact h.elim

/-! tocsin/labels.value -/
namespace labels_value
abbrev KT := Int → World → Prop
def Kt (Kv : Value → World → Prop) : KT := fun n1 w => Kv (.int .i64 n1) w
noncomputable def bd : Code := bdy Tryd.f30
theorem fn : FnOk pr 30 14 Tryd.f30 := ⟨Tryd.func30, by kernel_rfl, Tryd.ntmps30, by kernel_rfl, by kernel_rfl⟩
def F : Clee := ofL [(42, C.utf8_ValidString.cl)]
theorem FOk_ : FOk pr F := FOk_cons C.utf8_ValidString.clok (FOk_nil)
def P1 (Kv : Value → World → Prop) : Post := bodyK false pr 14 Tryd.f30 Kv
end labels_value
def labels_value (s_2 : ByteArray) (w : World) (K : labels_value.KT) : Prop :=
  G.cond (s_2.toList == (⟨#[]⟩ : ByteArray).toList) (K (41 : Int) w) (G.cond (decide (((s_2.size : Nat) : Int) > (256 : Int))) (K (4 : Int) w) (C.utf8_ValidString s_2 w fun b3 w4 => G.cond (!b3) (K (12 : Int) w4) (K (0 : Int) w4)))
def labels_value.cl : CL := fun args K w => match args with
  | [.string x0] => C.labels_value x0 w (labels_value.Kt K)
  | _ => False
theorem labels_value.clok : OkC pr 30 labels_value.cl := by
  intro args K w h
  unfold labels_value.cl at h
  split at h
  · exact calls_last false mixed labels_value.FOk_ labels_value.fn rfl (Eq.mp (by kernel_rfl) h)
  · exact h.elim

/-! tocsin/labels.Right -/
namespace labels_Right
abbrev KT := Int → Int → World → Prop
def Kt (Kv : Value → World → Prop) : KT := fun n1 n2 w => Kv (.tuple #[(.int .i64 n1), (.int .i64 n2)]) w
noncomputable def bd : Code := bdy Tryd.f20
theorem fn : FnOk pr 20 44 Tryd.f20 := ⟨Tryd.func20, by kernel_rfl, Tryd.ntmps20, by kernel_rfl, by kernel_rfl⟩
def F : Clee := ofL [(29, C.labels_Name.cl), (30, C.labels_value.cl)]
theorem FOk_ : FOk pr F := FOk_cons C.labels_Name.clok (FOk_cons C.labels_value.clok (FOk_nil))
def P1 (Kv : Value → World → Prop) : Post := bodyK false pr 44 Tryd.f20 Kv
@[reducible] def g2 : List SE := []
def S2 (K : KT) (w : World) : Prop :=
  K (0 : Int) (0 : Int) w
theorem S2_ok (Kv : Value → World → Prop) : OkT pr false none 44 g2 (S2 (Kt Kv)) (s2 (tl 2 bd)) (P1 Kv) := ok_last mixed FOk_ fun v ρ w => by kernel_rfl
def P3 (Kv : Value → World → Prop) : Post := next (get g2 (S2 (Kt Kv))) (P1 Kv)
def P4 (Kv : Value → World → Prop) : Post := inBlock 0 (P3 Kv)
@[reducible] def g5 : List SE := [.v 0 .sl, .v 10 .sl, .v 11 (.int .i64), .v 12 (.int .i64)]
def P6 (Kv : Value → World → Prop) (kc5 : Cur g5) : Post := next (get g5 kc5) (P4 Kv)
def S7 (K : KT) (kc5 : Cur g5) (l_12 : Sl) (l13 : Sl) (n14 : Int) (n15 : Int) (w : World) : Prop :=
  G.cond (decide (n15 < n14)) (G.ix l13.a l13.n n15 2 fun p16 => G.cS p16 w fun s17 => G.cS (p16.add 1) w fun s18 => G.new (.cells #[(.string (⟨#[]⟩ : ByteArray)), (.string (⟨#[]⟩ : ByteArray))] 54) w fun p19 w20 => G.st p19 (.string s17) w20 fun w21 => G.st (p19.add 1) (.string s18) w21 fun w22 => G.cS p19 w22 fun s23 => C.labels_Name s23 w22 fun b24 w25 => G.cond (!b24) (K (40 : Int) n15 w25) (G.cS (p19.add 1) w25 fun s26 => C.labels_value s26 w25 fun n27 w28 => G.cond (n27 != (0 : Int)) (K n27 n15 w28) (G.cond (decide (n15 > (0 : Int))) (G.cS p19 w28.drew fun s29 => G.ix l_12.a l_12.n (IntKind.i64.wrap (n15 - (1 : Int))) 2 fun p30 => G.cS p30 w28.drew fun s31 => G.cond ((Op.bytesLess s29.toList s31.toList) || (s29.toList == s31.toList)) (K (3 : Int) n15 w28.drew) (kc5 l_12 l13 n14 (IntKind.i64.wrap (n15 + (1 : Int))) w28.drew)) (kc5 l_12 l13 n14 (IntKind.i64.wrap (n15 + (1 : Int))) w28.drew)))) (S2 K w)
theorem S7_ok (Kv : Value → World → Prop) (kc5 : Cur g5) : OkT pr false none 44 g5 (S7 (Kt Kv) kc5) (lp (blk (tl 1 (s1 (tl 2 bd))))) (P6 Kv kc5) := ok_last mixed FOk_ fun v ρ w => by kernel_rfl
def L5 (K : KT) : Cur g5 := loopC g5 (S7 K)
theorem L5_ok (Kv : Value → World → Prop) : OkT pr false none 44 g5 (L5 (Kt Kv)) (blk (tl 1 (s1 (tl 2 bd)))) (P4 Kv) := ok_loop (B := S7 (Kt Kv)) (by kernel_rfl) fun kc => S7_ok Kv kc
theorem L5_ind {K : KT} {l_4 : Sl} {l5 : Sl} {n6 : Int} {n7 : Int} {w : World} (h : ∀ X : Cur g5, (∀ l_4 l5 n6 n7 w, S7 K X l_4 l5 n6 n7 w → X l_4 l5 n6 n7 w) → X l_4 l5 n6 n7 w) : L5 K l_4 l5 n6 n7 w := fun X hX => h X fun l_4 l5 n6 n7 w hb => hX (l_4, l5, n6, n7, ()) w hb
theorem B8 (Kv : Value → World → Prop) : OkT pr false none 44 g5 (L5 (Kt Kv)) (tl 1 (s1 (tl 2 bd))) (P3 Kv) := ok_block 0 (by kernel_rfl) (L5_ok Kv)
@[reducible] def g9 : List SE := [.v 0 .sl]
def S9 (K : KT) (l_32 : Sl) (w : World) : Prop :=
  L5 K l_32 l_32 ((l_32.n : Nat) : Int) (0 : Int) w
theorem S9_ok (Kv : Value → World → Prop) : OkT pr false none 44 g9 (S9 (Kt Kv)) (s1 (tl 2 bd)) (P3 Kv) := ok_group mixed FOk_ 1 (B8 Kv) fun v ρ w => by kernel_rfl
theorem Q10 (Kv : Value → World → Prop) : OkT pr false none 44 g9 (S9 (Kt Kv)) (tl 2 bd) (P1 Kv) := ok_seq (by kernel_rfl) (S2_ok Kv) (S9_ok Kv)
end labels_Right
def labels_Right (l_3 : Sl) (w : World) (K : labels_Right.KT) : Prop :=
  G.cond (decide (((l_3.n : Nat) : Int) > (16 : Int))) (K (8 : Int) (0 : Int) w) (labels_Right.S9 K l_3 w)
def labels_Right.cl : CL := fun args K w => match args with
  | [.slice x0_a x0_n x0_c] => C.labels_Right ⟨x0_a, x0_n, x0_c⟩ w (labels_Right.Kt K)
  | _ => False
theorem labels_Right.clok : OkC pr 20 labels_Right.cl := by
  intro args K w h
  unfold labels_Right.cl at h
  split at h
  · exact calls_group false mixed labels_Right.FOk_ labels_Right.fn rfl 2 (labels_Right.Q10 K) (Eq.mp (by kernel_rfl) h)
  · exact h.elim

/-! tocsin/labels.right -/
namespace labels_right
abbrev KT := Int → World → Prop
def Kt (Kv : Value → World → Prop) : KT := fun n1 w => Kv (.int .i64 n1) w
noncomputable def bd : Code := bdy Tryd.f43
theorem fn : FnOk pr 43 11 Tryd.f43 := ⟨Tryd.func43, by kernel_rfl, Tryd.ntmps43, by kernel_rfl, by kernel_rfl⟩
def F : Clee := ofL [(20, C.labels_Right.cl)]
theorem FOk_ : FOk pr F := FOk_cons C.labels_Right.clok (FOk_nil)
def P1 (Kv : Value → World → Prop) : Post := bodyK false pr 11 Tryd.f43 Kv
end labels_right
def labels_right (l_2 : Sl) (w : World) (K : labels_right.KT) : Prop :=
  C.labels_Right l_2 w fun n3 n4 w5 => K n3 w5
def labels_right.cl : CL := fun args K w => match args with
  | [.slice x0_a x0_n x0_c] => C.labels_right ⟨x0_a, x0_n, x0_c⟩ w (labels_right.Kt K)
  | _ => False
theorem labels_right.clok : OkC pr 43 labels_right.cl := by
  intro args K w h
  unfold labels_right.cl at h
  split at h
  · exact calls_last false mixed labels_right.FOk_ labels_right.fn rfl (Eq.mp (by kernel_rfl) h)
  · exact h.elim

/-! tocsin/vint.joined -/
namespace vint_joined
abbrev KT := Sl → World → Prop
def Kt (Kv : Value → World → Prop) : KT := fun l1 w => Kv l1.v w
noncomputable def bd : Code := bdy Tryd.f58
theorem fn : FnOk pr 58 17 Tryd.f58 := ⟨Tryd.func58, by kernel_rfl, Tryd.ntmps58, by kernel_rfl, by kernel_rfl⟩
def F : Clee := ofL []
theorem FOk_ : FOk pr F := FOk_nil
def P1 (Kv : Value → World → Prop) : Post := bodyK false pr 17 Tryd.f58 Kv
end vint_joined
def vint_joined (b_2 : Sl) (c_3 : Sl) (w : World) (K : vint_joined.KT) : Prop :=
  G.runSl pr (Instr.makeSlice 68 (.int .i64 (0 : Int)) (.int .i64 (IntKind.i64.wrap (((b_2.n : Nat) : Int) + ((c_3.n : Nat) : Int))))) w fun l4 w5 => G.runSl pr (Builtin.append_ #[68, 68] 68 #[l4.v, b_2.v]) w5 fun l6 w7 => G.runSl pr (Builtin.append_ #[68, 68] 68 #[l6.v, c_3.v]) w7 fun l8 w9 => K l8 w9
def vint_joined.cl : CL := fun args K w => match args with
  | [.slice x0_a x0_n x0_c, .slice x1_a x1_n x1_c] => C.vint_joined ⟨x0_a, x0_n, x0_c⟩ ⟨x1_a, x1_n, x1_c⟩ w (vint_joined.Kt K)
  | _ => False
theorem vint_joined.clok : OkC pr 58 vint_joined.cl := by
  intro args K w h
  unfold vint_joined.cl at h
  split at h
  · exact calls_last false mixed vint_joined.FOk_ vint_joined.fn rfl (Eq.mp (by kernel_rfl) h)
  · exact h.elim

/-! tocsin/vint.PutU -/
namespace vint_PutU
abbrev KT := Sl → World → Prop
def Kt (Kv : Value → World → Prop) : KT := fun l1 w => Kv l1.v w
noncomputable def bd : Code := bdy Tryd.f44
theorem fn : FnOk pr 44 23 Tryd.f44 := ⟨Tryd.func44, by kernel_rfl, Tryd.ntmps44, by kernel_rfl, by kernel_rfl⟩
def F : Clee := ofL [(58, C.vint_joined.cl)]
theorem FOk_ : FOk pr F := FOk_cons C.vint_joined.clok (FOk_nil)
def P1 (Kv : Value → World → Prop) : Post := bodyK false pr 23 Tryd.f44 Kv
@[reducible] def g2 : List SE := [.v 0 .sl, .v 1 (.int .u64), .v 5 .sl]
def S2 (K : KT) (b_4 : Sl) (n_5 : Int) (c_6 : Sl) (w : World) : Prop :=
  G.new (.cells #[(.int .u8 (IntKind.u8.wrap n_5))] 5) w fun p7 w8 => G.runSl pr (Builtin.append_ #[68, 68] 68 #[c_6.v, (Sl.v (⟨some p7, 1, 1⟩ : Sl))]) w8 fun l9 w10 => C.vint_joined b_4 l9 w10 fun l11 w12 => K l11 w12
theorem S2_ok (Kv : Value → World → Prop) : OkT pr false none 23 g2 (S2 (Kt Kv)) (s2 (tl 2 bd)) (P1 Kv) := ok_last mixed FOk_ fun v ρ w => by kernel_rfl
def P3 (Kv : Value → World → Prop) : Post := next (get g2 (S2 (Kt Kv))) (P1 Kv)
def P4 (Kv : Value → World → Prop) : Post := inBlock 0 (P3 Kv)
def P6 (Kv : Value → World → Prop) (kc5 : Cur g2) : Post := next (get g2 kc5) (P4 Kv)
def S7 (K : KT) (kc5 : Cur g2) (b_19 : Sl) (n_20 : Int) (c_21 : Sl) (w : World) : Prop :=
  G.cond (decide (n_20 ≥ (128 : Int))) (G.new (.cells #[(.int .u8 (Go.bits .or .u8 (IntKind.u8.wrap n_20) (128 : Int)))] 5) w fun p22 w23 => G.runSl pr (Builtin.append_ #[68, 68] 68 #[c_21.v, (Sl.v (⟨some p22, 1, 1⟩ : Sl))]) w23 fun l24 w25 => G.nn (7 : Int) <| kc5 b_19 (shr .u64 n_20 (7 : Int)) l24 w25) (S2 K b_19 n_20 c_21 w)
theorem S7_ok (Kv : Value → World → Prop) (kc5 : Cur g2) : OkT pr false none 23 g2 (S7 (Kt Kv) kc5) (lp (blk (s1 (tl 2 bd)))) (P6 Kv kc5) := ok_last mixed FOk_ fun v ρ w => by kernel_rfl
def L5 (K : KT) : Cur g2 := loopC g2 (S7 K)
theorem L5_ok (Kv : Value → World → Prop) : OkT pr false none 23 g2 (L5 (Kt Kv)) (blk (s1 (tl 2 bd))) (P4 Kv) := ok_loop (B := S7 (Kt Kv)) (by kernel_rfl) fun kc => S7_ok Kv kc
theorem L5_ind {K : KT} {b_13 : Sl} {n_14 : Int} {c_15 : Sl} {w : World} (h : ∀ X : Cur g2, (∀ b_13 n_14 c_15 w, S7 K X b_13 n_14 c_15 w → X b_13 n_14 c_15 w) → X b_13 n_14 c_15 w) : L5 K b_13 n_14 c_15 w := fun X hX => h X fun b_13 n_14 c_15 w hb => hX (b_13, n_14, c_15, ()) w hb
theorem B8 (Kv : Value → World → Prop) : OkT pr false none 23 g2 (L5 (Kt Kv)) (s1 (tl 2 bd)) (P3 Kv) := ok_block 0 (by kernel_rfl) (L5_ok Kv)
theorem Q9 (Kv : Value → World → Prop) : OkT pr false none 23 g2 (L5 (Kt Kv)) (tl 2 bd) (P1 Kv) := ok_seq (by kernel_rfl) (S2_ok Kv) (B8 Kv)
end vint_PutU
def vint_PutU (b_2 : Sl) (n_3 : Int) (w : World) (K : vint_PutU.KT) : Prop :=
  vint_PutU.L5 K b_2 n_3 nilS w
def vint_PutU.cl : CL := fun args K w => match args with
  | [.slice x0_a x0_n x0_c, .int .u64 x1] => C.vint_PutU ⟨x0_a, x0_n, x0_c⟩ x1 w (vint_PutU.Kt K)
  | _ => False
theorem vint_PutU.clok : OkC pr 44 vint_PutU.cl := by
  intro args K w h
  unfold vint_PutU.cl at h
  split at h
  · exact calls_group false mixed vint_PutU.FOk_ vint_PutU.fn rfl 2 (vint_PutU.Q9 K) (Eq.mp (by kernel_rfl) h)
  · exact h.elim

/-! tocsin/vint.PutText -/
namespace vint_PutText
abbrev KT := Sl → World → Prop
def Kt (Kv : Value → World → Prop) : KT := fun l1 w => Kv l1.v w
noncomputable def bd : Code := bdy Tryd.f45
theorem fn : FnOk pr 45 13 Tryd.f45 := ⟨Tryd.func45, by kernel_rfl, Tryd.ntmps45, by kernel_rfl, by kernel_rfl⟩
def F : Clee := ofL [(44, C.vint_PutU.cl), (58, C.vint_joined.cl)]
theorem FOk_ : FOk pr F := FOk_cons C.vint_PutU.clok (FOk_cons C.vint_joined.clok (FOk_nil))
def P1 (Kv : Value → World → Prop) : Post := bodyK false pr 13 Tryd.f45 Kv
end vint_PutText
def vint_PutText (b_2 : Sl) (s_3 : ByteArray) (w : World) (K : vint_PutText.KT) : Prop :=
  C.vint_PutU b_2 (IntKind.u64.wrap ((s_3.size : Nat) : Int)) w fun l4 w5 => G.runSl pr (Go.convert 9 68 (.string s_3)) w5 fun l6 w7 => C.vint_joined l4 l6 w7 fun l8 w9 => K l8 w9
def vint_PutText.cl : CL := fun args K w => match args with
  | [.slice x0_a x0_n x0_c, .string x1] => C.vint_PutText ⟨x0_a, x0_n, x0_c⟩ x1 w (vint_PutText.Kt K)
  | _ => False
theorem vint_PutText.clok : OkC pr 45 vint_PutText.cl := by
  intro args K w h
  unfold vint_PutText.cl at h
  split at h
  · exact calls_last false mixed vint_PutText.FOk_ vint_PutText.fn rfl (Eq.mp (by kernel_rfl) h)
  · exact h.elim

/-! tocsin/labels.Put -/
namespace labels_Put
abbrev KT := Sl → Int → World → Prop
def Kt (Kv : Value → World → Prop) : KT := fun l1 n2 w => Kv (.tuple #[l1.v, (.int .i64 n2)]) w
noncomputable def bd : Code := bdy Tryd.f31
theorem fn : FnOk pr 31 35 Tryd.f31 := ⟨Tryd.func31, by kernel_rfl, Tryd.ntmps31, by kernel_rfl, by kernel_rfl⟩
def F : Clee := ofL [(43, C.labels_right.cl), (44, C.vint_PutU.cl), (45, C.vint_PutText.cl)]
theorem FOk_ : FOk pr F := FOk_cons C.labels_right.clok (FOk_cons C.vint_PutU.clok (FOk_cons C.vint_PutText.clok (FOk_nil)))
def P1 (Kv : Value → World → Prop) : Post := bodyK false pr 35 Tryd.f31 Kv
@[reducible] def g2 : List SE := [.v 7 .sl]
def S2 (K : KT) (out_7 : Sl) (w : World) : Prop :=
  K out_7 (0 : Int) w
theorem S2_ok (Kv : Value → World → Prop) : OkT pr false none 35 g2 (S2 (Kt Kv)) (s2 (tl 3 bd)) (P1 Kv) := ok_last mixed FOk_ fun v ρ w => by kernel_rfl
def P3 (Kv : Value → World → Prop) : Post := next (get g2 (S2 (Kt Kv))) (P1 Kv)
def P4 (Kv : Value → World → Prop) : Post := inBlock 0 (P3 Kv)
@[reducible] def g5 : List SE := [.v 7 .sl, .v 20 .sl, .v 21 (.int .i64), .v 22 (.int .i64)]
def P6 (Kv : Value → World → Prop) (kc5 : Cur g5) : Post := next (get g5 kc5) (P4 Kv)
def S7 (K : KT) (kc5 : Cur g5) (out_16 : Sl) (l17 : Sl) (n18 : Int) (n19 : Int) (w : World) : Prop :=
  G.cond (decide (n19 < n18)) (G.ix l17.a l17.n n19 2 fun p20 => G.cS p20 w fun s21 => G.cS (p20.add 1) w fun s22 => G.new (.cells #[(.string (⟨#[]⟩ : ByteArray)), (.string (⟨#[]⟩ : ByteArray))] 54) w fun p23 w24 => G.st p23 (.string s21) w24 fun w25 => G.st (p23.add 1) (.string s22) w25 fun w26 => G.cS p23 w26.drew fun s27 => G.cS (p23.add 1) w26.drew fun s28 => C.vint_PutText out_16 s27 w26.drew fun l29 w30 => sameAt (p23.add 1) 1 w26.drew w30 ∧ (C.vint_PutText l29 s28 w30 fun l31 w32 => kc5 l31 l17 n18 (IntKind.i64.wrap (n19 + (1 : Int))) w32)) (S2 K out_16 w)
theorem S7_ok (Kv : Value → World → Prop) (kc5 : Cur g5) : OkT pr false none 35 g5 (S7 (Kt Kv) kc5) (lp (blk (tl 1 (s1 (tl 3 bd))))) (P6 Kv kc5) := ok_last mixed FOk_ fun v ρ w => by kernel_rfl
def L5 (K : KT) : Cur g5 := loopC g5 (S7 K)
theorem L5_ok (Kv : Value → World → Prop) : OkT pr false none 35 g5 (L5 (Kt Kv)) (blk (tl 1 (s1 (tl 3 bd)))) (P4 Kv) := ok_loop (B := S7 (Kt Kv)) (by kernel_rfl) fun kc => S7_ok Kv kc
theorem L5_ind {K : KT} {out_8 : Sl} {l9 : Sl} {n10 : Int} {n11 : Int} {w : World} (h : ∀ X : Cur g5, (∀ out_8 l9 n10 n11 w, S7 K X out_8 l9 n10 n11 w → X out_8 l9 n10 n11 w) → X out_8 l9 n10 n11 w) : L5 K out_8 l9 n10 n11 w := fun X hX => h X fun out_8 l9 n10 n11 w hb => hX (out_8, l9, n10, n11, ()) w hb
theorem B8 (Kv : Value → World → Prop) : OkT pr false none 35 g5 (L5 (Kt Kv)) (tl 1 (s1 (tl 3 bd))) (P3 Kv) := ok_block 0 (by kernel_rfl) (L5_ok Kv)
@[reducible] def g9 : List SE := [.v 1 .sl, .v 7 .sl]
def S9 (K : KT) (l_33 : Sl) (out_34 : Sl) (w : World) : Prop :=
  L5 K out_34 l_33 ((l_33.n : Nat) : Int) (0 : Int) w
theorem S9_ok (Kv : Value → World → Prop) : OkT pr false none 35 g9 (S9 (Kt Kv)) (s1 (tl 3 bd)) (P3 Kv) := ok_group mixed FOk_ 1 (B8 Kv) fun v ρ w => by kernel_rfl
theorem Q10 (Kv : Value → World → Prop) : OkT pr false none 35 g9 (S9 (Kt Kv)) (tl 3 bd) (P1 Kv) := ok_seq (by kernel_rfl) (S2_ok Kv) (S9_ok Kv)
end labels_Put
def labels_Put (b_3 : Sl) (l_4 : Sl) (w : World) (K : labels_Put.KT) : Prop :=
  C.labels_right l_4 w fun n35 w36 => G.cond (n35 != (0 : Int)) (K nilS n35 w36) (C.vint_PutU b_3 (IntKind.u64.wrap ((l_4.n : Nat) : Int)) w36 fun l37 w38 => labels_Put.S9 K l_4 l37 w38)
def labels_Put.cl : CL := fun args K w => match args with
  | [.slice x0_a x0_n x0_c, .slice x1_a x1_n x1_c] => C.labels_Put ⟨x0_a, x0_n, x0_c⟩ ⟨x1_a, x1_n, x1_c⟩ w (labels_Put.Kt K)
  | _ => False
theorem labels_Put.clok : OkC pr 31 labels_Put.cl := by
  intro args K w h
  unfold labels_Put.cl at h
  split at h
  · exact calls_group false mixed labels_Put.FOk_ labels_Put.fn rfl 3 (labels_Put.Q10 K) (Eq.mp (by kernel_rfl) h)
  · exact h.elim

/-! tocsin/alerts.key -/
namespace alerts_key
abbrev KT := ByteArray → World → Prop
def Kt (Kv : Value → World → Prop) : KT := fun s1 w => Kv (.string s1) w
noncomputable def bd : Code := bdy Tryd.f21
theorem fn : FnOk pr 21 12 Tryd.f21 := ⟨Tryd.func21, by kernel_rfl, Tryd.ntmps21, by kernel_rfl, by kernel_rfl⟩
def F : Clee := ofL [(31, C.labels_Put.cl)]
theorem FOk_ : FOk pr F := FOk_cons C.labels_Put.clok (FOk_nil)
def P1 (Kv : Value → World → Prop) : Post := bodyK false pr 12 Tryd.f21 Kv
end alerts_key
def alerts_key (l_2 : Sl) (w : World) (K : alerts_key.KT) : Prop :=
  C.labels_Put nilS l_2 w fun l3 n4 w5 => G.rdS pr (Conv.bytesToString l3.v) w5 fun s6 => K s6 w5
def alerts_key.cl : CL := fun args K w => match args with
  | [.slice x0_a x0_n x0_c] => C.alerts_key ⟨x0_a, x0_n, x0_c⟩ w (alerts_key.Kt K)
  | _ => False
theorem alerts_key.clok : OkC pr 21 alerts_key.cl := by
  intro args K w h
  unfold alerts_key.cl at h
  split at h
  · exact calls_last false mixed alerts_key.FOk_ alerts_key.fn rfl (Eq.mp (by kernel_rfl) h)
  · exact h.elim

/-! (*tocsin/alerts.Set).Put -/
namespace alerts_Set_Put
abbrev KT := Int → World → Prop
def Kt (Kv : Value → World → Prop) : KT := fun n1 w => Kv (.int .i64 n1) w
noncomputable def bd : Code := bdy Tryd.f8
theorem fn : FnOk pr 8 134 Tryd.f8 := ⟨Tryd.func8, by kernel_rfl, Tryd.ntmps8, by kernel_rfl, by kernel_rfl⟩
def F : Clee := ofL [(19, C.alerts_time.cl), (20, C.labels_Right.cl), (21, C.alerts_key.cl), (22, C.slices_Clone_Label_Label.cl)]
theorem FOk_ : FOk pr F := FOk_cons C.alerts_time.clok (FOk_cons C.labels_Right.clok (FOk_cons C.alerts_key.clok (FOk_cons C.slices_Clone_Label_Label.clok (FOk_nil))))
def P1 (Kv : Value → World → Prop) : Post := bodyK false pr 134 Tryd.f8 Kv
@[reducible] def g2 : List SE := [.v 0 .ptr, .v 5 .ptr, .v 9 .str]
def S2 (K : KT) (s_34 : Option Addr) (a_35 : Option Addr) (k_36 : ByteArray) (w : World) : Prop :=
  G.ptr a_35 fun p37 => G.cSl p37 w fun l38 => C.slices_Clone_Label_Label l38 w fun l39 w40 => G.ptr a_35 fun p41 => G.st p41 l39.v w40 fun w42 => G.ptr s_34 fun p43 => G.cM (p43.add 2) w42.drew fun m44 => G.ptr a_35 fun p45 => G.cSl p45 w42.drew fun l46 => G.cI .i64 (p45.add 1) w42.drew fun n47 => G.cI .i64 (p45.add 2) w42.drew fun n48 => G.runU pr (Instr.mapUpdate 50 (.map m44) (.string k_36) (.agg #[l46.v, (.int .i64 n47), (.int .i64 n48)])) w42.drew fun w49 => K (0 : Int) w49
theorem S2_ok (Kv : Value → World → Prop) : OkT pr false none 134 g2 (S2 (Kt Kv)) (tl 4 (tl 1 (tl 1 (tl 4 bd)))) (P1 Kv) := ok_last mixed FOk_ fun v ρ w => by kernel_rfl
@[reducible] def g3 : List SE := [.v 0 .ptr, .v 1 (.int .i64), .v 5 .ptr]
def S3 (K : KT) (s_50 : Option Addr) (now_51 : Int) (a_52 : Option Addr) (w : World) : Prop :=
  G.ptr a_52 fun p53 => G.cI .i64 (p53.add 2) w fun n54 => G.ptr a_52 fun p55 => G.cI .i64 (p55.add 1) w fun n56 => G.cond (decide (n54 < n56)) (K (1 : Int) w) (G.ptr a_52 fun p57 => G.cSl p57 w fun l58 => C.alerts_key l58 w fun s59 w60 => G.ptr s_50 fun p61 => G.cM (p61.add 2) w60 fun m62 => G.rd2 pr (Instr.lookup 50 (.map m62) (.string s59) true) (fun v : Value => v) w60 fun v63 b65 => G.ag v63 3 fun c64 => G.vSl c64[0 + 0]? fun l66 => G.vI .i64 c64[0 + 1]? fun n67 => G.vI .i64 c64[0 + 2]? fun n68 => G.new (.cells #[nilS.v, (.int .i64 (0 : Int)), (.int .i64 (0 : Int))] 31) w60 fun p69 w70 => G.st p69 l66.v w70 fun w71 => G.st (p69.add 1) (.int .i64 n67) w71 fun w72 => G.st (p69.add 2) (.int .i64 n68) w72 fun w73 => G.cond (!b65) (G.ptr s_50 fun p74 => G.cM (p74.add 2) w73.drew fun m75 => G.ptr s_50 fun p76 => G.cI .i64 (p76.add 1) w73.drew fun n77 => G.rdI pr (Builtin.len_ #[50] 3 #[(.map m75)]) .i64 w73.drew fun n78 => sameAt (p76.add 1) 1 w73.drew w73.drew ∧ (G.cond (decide (n78 ≥ n77)) (K (8 : Int) w73.drew) (G.cond b65 (G.cI .i64 (p69.add 2) w73.drew fun n79 => G.cond (decide (n79 > now_51)) (G.ptr a_52 fun p80 => G.cI .i64 (p80.add 1) w73.drew fun n81 => G.cI .i64 (p69.add 1) w73.drew fun n82 => G.ptr a_52 fun p83 => G.st (p83.add 1) (.int .i64 (if n82 < n81 then n82 else n81)) w73.drew fun w84 => S2 K s_50 a_52 s59 w84) (S2 K s_50 a_52 s59 w73.drew)) (S2 K s_50 a_52 s59 w73.drew)))) (G.cond b65 (G.cI .i64 (p69.add 2) w73.drew fun n85 => G.cond (decide (n85 > now_51)) (G.ptr a_52 fun p86 => G.cI .i64 (p86.add 1) w73.drew fun n87 => G.cI .i64 (p69.add 1) w73.drew fun n88 => G.ptr a_52 fun p89 => G.st (p89.add 1) (.int .i64 (if n88 < n87 then n88 else n87)) w73.drew fun w90 => S2 K s_50 a_52 s59 w90) (S2 K s_50 a_52 s59 w73.drew)) (S2 K s_50 a_52 s59 w73.drew)))
theorem S3_ok (Kv : Value → World → Prop) : OkT pr false none 134 g3 (S3 (Kt Kv)) (tl 1 (tl 1 (tl 4 bd))) (P1 Kv) := ok_group mixed FOk_ 4 (S2_ok Kv) fun v ρ w => by kernel_rfl
def S4 (K : KT) (s_91 : Option Addr) (now_92 : Int) (a_93 : Option Addr) (w : World) : Prop :=
  G.ptr a_93 fun p94 => G.cI .i64 (p94.add 1) w fun n95 => G.cond (n95 == (0 : Int)) (G.ptr a_93 fun p96 => G.st (p96.add 1) (.int .i64 now_92) w fun w97 => S3 K s_91 now_92 a_93 w97) (S3 K s_91 now_92 a_93 w)
theorem S4_ok (Kv : Value → World → Prop) : OkT pr false none 134 g3 (S4 (Kt Kv)) (tl 1 (tl 4 bd)) (P1 Kv) := ok_group mixed FOk_ 1 (S3_ok Kv) fun v ρ w => by kernel_rfl
def S5 (K : KT) (s_98 : Option Addr) (now_99 : Int) (a_100 : Option Addr) (w : World) : Prop :=
  G.ptr a_100 fun p101 => G.cI .i64 (p101.add 2) w fun n102 => G.cond (n102 == (0 : Int)) (G.ptr s_98 fun p103 => G.cI .i64 p103 w fun n104 => G.ptr a_100 fun p105 => G.st (p105.add 2) (.int .i64 (IntKind.i64.wrap (now_99 + n104))) w fun w106 => S4 K s_98 now_99 a_100 w106) (S4 K s_98 now_99 a_100 w)
theorem S5_ok (Kv : Value → World → Prop) : OkT pr false none 134 g3 (S5 (Kt Kv)) (tl 4 bd) (P1 Kv) := ok_group mixed FOk_ 1 (S4_ok Kv) fun v ρ w => by kernel_rfl
end alerts_Set_Put
def alerts_Set_Put (s_2 : Option Addr) (now_3 : Int) (a_4 : Sl) (a_5 : Int) (a_6 : Int) (w : World) (K : alerts_Set_Put.KT) : Prop :=
  G.new (.cells #[a_4.v, (.int .i64 a_5), (.int .i64 a_6)] 31) w fun p107 w108 => G.cond s_2.isNone (K (2 : Int) w108) (C.alerts_time now_3 w108 fun b109 w110 => G.cond (!b109) (K (1 : Int) w110) (G.cSl p107 w110 fun l111 => C.labels_Right l111 w110 fun n112 n113 w114 => G.cond (n112 != (0 : Int)) (K (41 : Int) w114) (G.cSl p107 w114 fun l115 => G.cond (((l115.n : Nat) : Int) == (0 : Int)) (K (41 : Int) w114) (G.cI .i64 (p107.add 1) w114 fun n116 => G.cond (decide (n116 < (0 : Int))) (K (1 : Int) w114) (G.cI .i64 (p107.add 1) w114 fun n117 => G.cond (decide (n117 > (1126999418470400 : Int))) (K (1 : Int) w114) (G.cI .i64 (p107.add 2) w114 fun n118 => G.cond (decide (n118 < (0 : Int))) (K (1 : Int) w114) (G.cI .i64 (p107.add 2) w114 fun n119 => G.cond (decide (n119 > (1126999418470400 : Int))) (K (1 : Int) w114) (G.cI .i64 (p107.add 2) w114 fun n120 => G.cond (n120 != (0 : Int)) (G.cI .i64 (p107.add 2) w114 fun n121 => G.cI .i64 (p107.add 1) w114 fun n122 => G.cond (decide (n121 < n122)) (K (1 : Int) w114) (alerts_Set_Put.S5 K s_2 now_3 (some p107) w114)) (alerts_Set_Put.S5 K s_2 now_3 (some p107) w114)))))))))
def alerts_Set_Put.cl : CL := fun args K w => match args with
  | [.pointer x0, .int .i64 x1, .agg ⟨[.slice x2_0_a x2_0_n x2_0_c, .int .i64 x2_1, .int .i64 x2_2]⟩] => C.alerts_Set_Put x0 x1 ⟨x2_0_a, x2_0_n, x2_0_c⟩ x2_1 x2_2 w (alerts_Set_Put.Kt K)
  | _ => False
theorem alerts_Set_Put.clok : OkC pr 8 alerts_Set_Put.cl := by
  intro args K w h
  unfold alerts_Set_Put.cl at h
  split at h
  · exact calls_group false mixed alerts_Set_Put.FOk_ alerts_Set_Put.fn rfl 4 (alerts_Set_Put.S5_ok K) (Eq.mp (by kernel_rfl) h)
  · exact h.elim

/-! (*tocsin/alerts.Set).Get -/
namespace alerts_Set_Get
abbrev KT := Sl → Int → Int → Bool → World → Prop
def Kt (Kv : Value → World → Prop) : KT := fun l1 n2 n3 b4 w => Kv (.tuple #[(.agg #[l1.v, (.int .i64 n2), (.int .i64 n3)]), (.bool b4)]) w
noncomputable def bd : Code := bdy Tryd.f10
theorem fn : FnOk pr 10 36 Tryd.f10 := ⟨Tryd.func10, by kernel_rfl, Tryd.ntmps10, by kernel_rfl, by kernel_rfl⟩
def F : Clee := ofL [(20, C.labels_Right.cl), (21, C.alerts_key.cl), (23, C.alerts_copied.cl)]
theorem FOk_ : FOk pr F := FOk_cons C.labels_Right.clok (FOk_cons C.alerts_key.clok (FOk_cons C.alerts_copied.clok (FOk_nil)))
def P1 (Kv : Value → World → Prop) : Post := bodyK false pr 36 Tryd.f10 Kv
end alerts_Set_Get
def alerts_Set_Get (s_5 : Option Addr) (l_6 : Sl) (w : World) (K : alerts_Set_Get.KT) : Prop :=
  G.new (.cells #[nilS.v, (.int .i64 (0 : Int)), (.int .i64 (0 : Int))] 31) w fun p11 w12 => G.cond s_5.isNone (G.st p11 nilS.v w12 fun w13 => G.st (p11.add 1) (.int .i64 (0 : Int)) w13 fun w14 => G.st (p11.add 2) (.int .i64 (0 : Int)) w14 fun w15 => G.cSl p11 w15 fun l16 => G.cI .i64 (p11.add 1) w15 fun n17 => G.cI .i64 (p11.add 2) w15 fun n18 => K l16 n17 n18 false w15) (C.labels_Right l_6 w12 fun n19 n20 w21 => G.cond (n19 != (0 : Int)) (G.st p11 nilS.v w21 fun w22 => G.st (p11.add 1) (.int .i64 (0 : Int)) w22 fun w23 => G.st (p11.add 2) (.int .i64 (0 : Int)) w23 fun w24 => G.cSl p11 w24 fun l25 => G.cI .i64 (p11.add 1) w24 fun n26 => G.cI .i64 (p11.add 2) w24 fun n27 => K l25 n26 n27 false w24) (G.ptr s_5 fun p28 => G.cM (p28.add 2) w21.drew fun m29 => (C.alerts_key l_6 w21.drew fun s30 w31 => sameAt (p28.add 2) 1 w21.drew w31 ∧ ((G.rd2 pr (Instr.lookup 50 (.map m29) (.string s30) true) (fun v : Value => v) w31 fun v32 b34 => G.ag v32 3 fun c33 => G.vSl c33[0 + 0]? fun l35 => G.vI .i64 c33[0 + 1]? fun n36 => G.vI .i64 c33[0 + 2]? fun n37 => G.new (.cells #[nilS.v, (.int .i64 (0 : Int)), (.int .i64 (0 : Int))] 31) w31 fun p38 w39 => G.st p38 l35.v w39 fun w40 => G.st (p38.add 1) (.int .i64 n36) w40 fun w41 => G.st (p38.add 2) (.int .i64 n37) w41 fun w42 => G.cond (!b34) (G.st p11 nilS.v w42 fun w43 => G.st (p11.add 1) (.int .i64 (0 : Int)) w43 fun w44 => G.st (p11.add 2) (.int .i64 (0 : Int)) w44 fun w45 => G.cSl p11 w45 fun l46 => G.cI .i64 (p11.add 1) w45 fun n47 => G.cI .i64 (p11.add 2) w45 fun n48 => K l46 n47 n48 false w45) (G.cSl p38 w42 fun l49 => G.cI .i64 (p38.add 1) w42 fun n50 => G.cI .i64 (p38.add 2) w42 fun n51 => C.alerts_copied l49 n50 n51 w42 fun l52 n53 n54 w55 => G.st p11 l52.v w55 fun w56 => G.st (p11.add 1) (.int .i64 n53) w56 fun w57 => G.st (p11.add 2) (.int .i64 n54) w57 fun w58 => G.cSl p11 w58 fun l59 => G.cI .i64 (p11.add 1) w58 fun n60 => G.cI .i64 (p11.add 2) w58 fun n61 => K l59 n60 n61 true w58)) ∧ (G.new (.cells #[nilS.v, (.int .i64 (0 : Int)), (.int .i64 (0 : Int))] 31) w31 fun p62 w63 => sameAt (p28.add 2) 1 w21.drew w63 ∧ (G.rd2 pr (Instr.lookup 50 (.map m29) (.string s30) true) (fun v : Value => v) w63 fun v64 b66 => G.ag v64 3 fun c65 => G.vSl c65[0 + 0]? fun l67 => G.vI .i64 c65[0 + 1]? fun n68 => G.vI .i64 c65[0 + 2]? fun n69 => G.st p62 l67.v w63 fun w70 => G.st (p62.add 1) (.int .i64 n68) w70 fun w71 => G.st (p62.add 2) (.int .i64 n69) w71 fun w72 => G.cond (!b66) (G.st p11 nilS.v w72 fun w73 => G.st (p11.add 1) (.int .i64 (0 : Int)) w73 fun w74 => G.st (p11.add 2) (.int .i64 (0 : Int)) w74 fun w75 => G.cSl p11 w75 fun l76 => G.cI .i64 (p11.add 1) w75 fun n77 => G.cI .i64 (p11.add 2) w75 fun n78 => K l76 n77 n78 false w75) (G.cSl p62 w72 fun l79 => G.cI .i64 (p62.add 1) w72 fun n80 => G.cI .i64 (p62.add 2) w72 fun n81 => C.alerts_copied l79 n80 n81 w72 fun l82 n83 n84 w85 => G.st p11 l82.v w85 fun w86 => G.st (p11.add 1) (.int .i64 n83) w86 fun w87 => G.st (p11.add 2) (.int .i64 n84) w87 fun w88 => G.cSl p11 w88 fun l89 => G.cI .i64 (p11.add 1) w88 fun n90 => G.cI .i64 (p11.add 2) w88 fun n91 => K l89 n90 n91 true w88))))) ∧ (G.new (.cells #[nilS.v, (.int .i64 (0 : Int)), (.int .i64 (0 : Int))] 31) w21.drew fun p92 w93 => sameAt (p28.add 2) 1 w21.drew w93 ∧ (C.alerts_key l_6 w93 fun s94 w95 => sameAt (p28.add 2) 1 w21.drew w95 ∧ (G.rd2 pr (Instr.lookup 50 (.map m29) (.string s94) true) (fun v : Value => v) w95 fun v96 b98 => G.ag v96 3 fun c97 => G.vSl c97[0 + 0]? fun l99 => G.vI .i64 c97[0 + 1]? fun n100 => G.vI .i64 c97[0 + 2]? fun n101 => G.st p92 l99.v w95 fun w102 => G.st (p92.add 1) (.int .i64 n100) w102 fun w103 => G.st (p92.add 2) (.int .i64 n101) w103 fun w104 => G.cond (!b98) (G.st p11 nilS.v w104 fun w105 => G.st (p11.add 1) (.int .i64 (0 : Int)) w105 fun w106 => G.st (p11.add 2) (.int .i64 (0 : Int)) w106 fun w107 => G.cSl p11 w107 fun l108 => G.cI .i64 (p11.add 1) w107 fun n109 => G.cI .i64 (p11.add 2) w107 fun n110 => K l108 n109 n110 false w107) (G.cSl p92 w104 fun l111 => G.cI .i64 (p92.add 1) w104 fun n112 => G.cI .i64 (p92.add 2) w104 fun n113 => C.alerts_copied l111 n112 n113 w104 fun l114 n115 n116 w117 => G.st p11 l114.v w117 fun w118 => G.st (p11.add 1) (.int .i64 n115) w118 fun w119 => G.st (p11.add 2) (.int .i64 n116) w119 fun w120 => G.cSl p11 w120 fun l121 => G.cI .i64 (p11.add 1) w120 fun n122 => G.cI .i64 (p11.add 2) w120 fun n123 => K l121 n122 n123 true w120))))))
def alerts_Set_Get.cl : CL := fun args K w => match args with
  | [.pointer x0, .slice x1_a x1_n x1_c] => C.alerts_Set_Get x0 ⟨x1_a, x1_n, x1_c⟩ w (alerts_Set_Get.Kt K)
  | _ => False
theorem alerts_Set_Get.clok : OkC pr 10 alerts_Set_Get.cl := by
  intro args K w h
  unfold alerts_Set_Get.cl at h
  split at h
  · exact calls_last false mixed alerts_Set_Get.FOk_ alerts_Set_Get.fn rfl (Eq.mp (by kernel_rfl) h)
  · exact h.elim

/-! (*tocsin/alerts.Set).All -/
namespace alerts_Set_All
abbrev KT := Value → World → Prop
def Kt (Kv : Value → World → Prop) : KT := fun v1 w => Kv v1 w
noncomputable def bd : Code := bdy Tryd.f24
theorem fn : FnOk pr 24 4 Tryd.f24 := ⟨Tryd.func24, by kernel_rfl, Tryd.ntmps24, by kernel_rfl, by kernel_rfl⟩
def F : Clee := ofL []
theorem FOk_ : FOk pr F := FOk_nil
def P1 (Kv : Value → World → Prop) : Post := bodyK false pr 4 Tryd.f24 Kv
end alerts_Set_All
def alerts_Set_All (s_2 : Option Addr) (w : World) (K : alerts_Set_All.KT) : Prop :=
  G.new (.cells #[(.pointer s_2)] 24) w fun p3 w4 => K (Value.func (.func 32) #[] #[(.pointer (some p3))]) w4
def alerts_Set_All.cl : CL := fun args K w => match args with
  | [.pointer x0] => C.alerts_Set_All x0 w (alerts_Set_All.Kt K)
  | _ => False
theorem alerts_Set_All.clok : OkC pr 24 alerts_Set_All.cl := by
  intro args K w h
  unfold alerts_Set_All.cl at h
  split at h
  · exact calls_last false mixed alerts_Set_All.FOk_ alerts_Set_All.fn rfl (Eq.mp (by kernel_rfl) h)
  · exact h.elim

/-! (*tocsin/alerts.Set).Firing -/
namespace alerts_Set_Firing
abbrev KT := Sl → World → Prop
def Kt (Kv : Value → World → Prop) : KT := fun l1 w => Kv l1.v w
noncomputable def bd : Code := bdy Tryd.f11
theorem fn : FnOk pr 11 25 Tryd.f11 := ⟨Tryd.func11, by kernel_rfl, Tryd.ntmps11, by kernel_rfl, by kernel_rfl⟩
def F : Clee := ofL [(24, C.alerts_Set_All.cl)]
theorem FOk_ : FOk pr F := FOk_cons C.alerts_Set_All.clok (FOk_nil)
def Fc : Clee := ofL [(32, C.alerts_Set_All_1.cl), (35, C.alerts_Set_All_1_1.cl), (48, C.maps_Values_1_map_string_Alert_string_Alert.cl), (50, C.labels_Compare_1.cl), (54, C.maps_Keys_1_map_string_Alert_string_Alert.cl)]
theorem FcOk : FOkB pr Fc := FOkB_cons C.alerts_Set_All_1.clok (FOkB_cons C.alerts_Set_All_1_1.clok (FOkB_cons C.maps_Values_1_map_string_Alert_string_Alert.clok (FOkB_cons C.labels_Compare_1.clok (FOkB_cons C.maps_Keys_1_map_string_Alert_string_Alert.clok (FOkB_nil)))))
def P1 (Kv : Value → World → Prop) : Post := bodyK true pr 25 Tryd.f11 Kv
@[reducible] def g2 : List SE := [.v 5 .ptr, .v 25 .raw]
def S2 (K : KT) (l_4 : Option Addr) (v5 : Value) (w : World) : Prop :=
  G.ptr l_4 fun p6 => G.cSl p6 w fun l7 => G.marks v5 w fun w8 => K l7 w8
theorem S2_ok (Kv : Value → World → Prop) : OkT pr true none 25 g2 (S2 (Kt Kv)) (s2 (tl 2 bd)) (P1 Kv) := ok_last mixed FOk_ fun v ρ w => by kernel_rfl
def P3 (Kv : Value → World → Prop) : Post := next (get g2 (S2 (Kt Kv))) (P1 Kv)
def P4 (Kv : Value → World → Prop) : Post := inBlock 0 (P3 Kv)
@[reducible] def g5 : List SE := [.v 3 .ptr, .v 5 .ptr, .v 8 .raw, .v 25 .raw]
def P6 (Rr : Exit → World → Prop) : Post := RP Rr
@[reducible] def g7 : List SE := [.v 3 .ptr, .v 5 .ptr, .v 6 .ptr]
def S7 (Rr : Exit → World → Prop) (now_13 : Option Addr) (l_14 : Option Addr) (a_15 : Option Addr) (w : World) : Prop :=
  G.ptr a_15 fun p16 => G.cI .i64 (p16.add 1) w fun n17 => G.ptr now_13 fun p18 => G.cI .i64 p18 w fun n19 => G.cond (decide (n17 ≤ n19)) (G.ptr now_13 fun p20 => G.cI .i64 p20 w fun n21 => G.ptr a_15 fun p22 => G.cI .i64 (p22.add 2) w fun n23 => G.cond (decide (n21 < n23)) (G.ptr l_14 fun p24 => G.cSl p24 w fun l25 => G.ptr a_15 fun p26 => G.cSl p26 w fun l27 => G.cI .i64 (p26.add 1) w fun n28 => G.cI .i64 (p26.add 2) w fun n29 => G.new (.cells #[l27.v, (.int .i64 n28), (.int .i64 n29)] 31) w fun p30 w31 => G.runSl pr (Builtin.append_ #[35, 35] 35 #[l25.v, (Sl.v (⟨some p30, 1, 1⟩ : Sl))]) w31 fun l32 w33 => G.ptr l_14 fun p34 => G.st p34 l32.v w33 fun w35 => Rr .normal w35) (Rr .normal w)) (Rr .normal w)
theorem S7_ok (Rr : Exit → World → Prop) {ro : Option Nat} : OkT pr false ro 25 g7 (S7 Rr) (rbd (blk (tl 1 (s1 (tl 2 bd))))) (P6 Rr) := ok_last mixed FOk_ fun v ρ w => by kernel_rfl
def B_R5 (now_9 : Option Addr) (l_10 : Option Addr) (v11 : Value) (v12 : Value) (args : List Value) (wb : World) (bz : (World → Prop) → World → Prop) (Rr : Exit → World → Prop) : Prop := match args with
  | [.agg ⟨[.slice y_36_a y_36_n y_36_c, .int .i64 y_37, .int .i64 y_38]⟩] => G.new (.cells #[nilS.v, (.int .i64 (0 : Int)), (.int .i64 (0 : Int))] 31) wb fun p39 w40 => G.st p39 (⟨y_36_a, y_36_n, y_36_c⟩ : Sl).v w40 fun w41 => G.st (p39.add 1) (.int .i64 y_37) w41 fun w42 => G.st (p39.add 2) (.int .i64 y_38) w42 fun w43 => bz (S7 Rr now_9 l_10 (some p39)) w43
  | _ => False
def O_R5 (K : KT) (now_9 : Option Addr) (l_10 : Option Addr) (v11 : Value) (v12 : Value) (e : Exit) (D : Nat) (w : World) : Prop := match e with
  | .normal => S2 K l_10 (pushMark v12 D) w
  | _ => False
def R5 (K : KT) (now_9 : Option Addr) (l_10 : Option Addr) (v11 : Value) (v12 : Value) (w : World) : Prop :=
  G.rangeW Fc v11 pr (B_R5 now_9 l_10 v11 v12) w (O_R5 K now_9 l_10 v11 v12)
theorem R5_ok (Kv : Value → World → Prop) : OkT pr true none 25 g5 (R5 (Kt Kv)) (blk (tl 1 (s1 (tl 2 bd)))) (P4 Kv) := by
  refine ok_rangeW mixed FOk_ FcOk (s := 8) (ps := #[9]) (Bt := fun v => B_R5 v.1 v.2.1 v.2.2.1 v.2.2.2.1) (kB := fun Rr => S7 Rr) (sgB := g7) (out := fun v => O_R5 (Kt Kv) v.1 v.2.1 v.2.2.1 v.2.2.2.1) (by kernel_rfl) (fun v ρ w => by kernel_rfl) ?_ (fun Rr l => S7_ok Rr) ?_
  · intro v ρ args w bz Rr h
    have h' : B_R5 v.1 v.2.1 v.2.2.1 v.2.2.2.1 args w bz Rr := h
    unfold B_R5 at h'
    split at h'
    · exact ⟨rfl, Eq.mp (by kernel_rfl) h'⟩
    · exact h'.elim
  · intro v ρ e D w h
    cases e with
    | normal => exact Eq.mp (by kernel_rfl) h
    | _ => exact h.elim
theorem B8 (Kv : Value → World → Prop) : OkT pr true none 25 g5 (R5 (Kt Kv)) (tl 1 (s1 (tl 2 bd))) (P3 Kv) := ok_block 0 (by kernel_rfl) (R5_ok Kv)
@[reducible] def g9 : List SE := [.v 0 .ptr, .v 3 .ptr, .v 5 .ptr, .v 25 .raw]
def S9 (K : KT) (s_44 : Option Addr) (now_45 : Option Addr) (l_46 : Option Addr) (v47 : Value) (w : World) : Prop :=
  C.alerts_Set_All s_44 w fun v48 w49 => R5 K now_45 l_46 v48 v47 w49
theorem S9_ok (Kv : Value → World → Prop) : OkT pr true none 25 g9 (S9 (Kt Kv)) (s1 (tl 2 bd)) (P3 Kv) := ok_group mixed FOk_ 1 (B8 Kv) fun v ρ w => by kernel_rfl
theorem Q10 (Kv : Value → World → Prop) : OkT pr true none 25 g9 (S9 (Kt Kv)) (tl 2 bd) (P1 Kv) := ok_seq (by kernel_rfl) (S2_ok Kv) (S9_ok Kv)
end alerts_Set_Firing
def alerts_Set_Firing (s_2 : Option Addr) (now_3 : Int) (w : World) (K : alerts_Set_Firing.KT) : Prop :=
  G.new (.cells #[(.int .i64 now_3)] 2) w fun p50 w51 => G.new (.cells #[nilS.v] 35) w51 fun p52 w53 => alerts_Set_Firing.S9 K s_2 (some p50) (some p52) undef w53
def alerts_Set_Firing.cl : CL := fun args K w => match args with
  | [.pointer x0, .int .i64 x1] => C.alerts_Set_Firing x0 x1 w (alerts_Set_Firing.Kt K)
  | _ => False
theorem alerts_Set_Firing.clok : OkC pr 11 alerts_Set_Firing.cl := by
  intro args K w h
  unfold alerts_Set_Firing.cl at h
  split at h
  · exact calls_group true mixed alerts_Set_Firing.FOk_ alerts_Set_Firing.fn rfl 2 (alerts_Set_Firing.Q10 K) (Eq.mp (by kernel_rfl) h)
  · exact h.elim

/-! tocsin/tocsinlaw21.known -/
namespace tocsinlaw21_known
abbrev KT := Bool → World → Prop
def Kt (Kv : Value → World → Prop) : KT := fun b1 w => Kv (.bool b1) w
noncomputable def bd : Code := bdy Tryd.f9
theorem fn : FnOk pr 9 57 Tryd.f9 := ⟨Tryd.func9, by kernel_rfl, Tryd.ntmps9, by kernel_rfl, by kernel_rfl⟩
def F : Clee := ofL [(6, C.alerts_New.cl), (8, C.alerts_Set_Put.cl), (10, C.alerts_Set_Get.cl), (11, C.alerts_Set_Firing.cl)]
theorem FOk_ : FOk pr F := FOk_cons C.alerts_New.clok (FOk_cons C.alerts_Set_Put.clok (FOk_cons C.alerts_Set_Get.clok (FOk_cons C.alerts_Set_Firing.clok (FOk_nil))))
def P1 (Kv : Value → World → Prop) : Post := bodyK false pr 57 Tryd.f9 Kv
end tocsinlaw21_known
def tocsinlaw21_known (w : World) (K : tocsinlaw21_known.KT) : Prop :=
  C.alerts_New (100 : Int) (5 : Int) w fun p2 w3 => G.new (.cells #[(.string (⟨#[97]⟩ : ByteArray)), (.string (⟨#[49]⟩ : ByteArray))] 54) w3 fun p4 w5 => G.cond p2.isNone (K false w5) (C.alerts_Set_Put p2 (10 : Int) (⟨some p4, 1, 1⟩ : Sl) (0 : Int) (0 : Int) w5 fun n6 w7 => C.alerts_Set_Put p2 (50 : Int) (⟨some p4, 1, 1⟩ : Sl) (20 : Int) (0 : Int) w7 fun n8 w9 => C.alerts_Set_Get p2 (⟨some p4, 1, 1⟩ : Sl) w9 fun l10 n11 n12 b13 w14 => G.new (.cells #[nilS.v, (.int .i64 (0 : Int)), (.int .i64 (0 : Int))] 31) w14 fun p15 w16 => G.st p15 l10.v w16 fun w17 => G.st (p15.add 1) (.int .i64 n11) w17 fun w18 => G.st (p15.add 2) (.int .i64 n12) w18 fun w19 => G.cond (n6 == (0 : Int)) (G.cond (n8 == (0 : Int)) (G.cond b13 (G.cI .i64 (p15.add 1) w19 fun n20 => G.cond (n20 == (10 : Int)) (G.cI .i64 (p15.add 2) w19 fun n21 => G.cond (n21 == (150 : Int)) (C.alerts_Set_Firing p2 (149 : Int) w19 fun l22 w23 => G.cond (((l22.n : Nat) : Int) == (1 : Int)) (C.alerts_Set_Firing p2 (150 : Int) w23 fun l24 w25 => K (((l24.n : Nat) : Int) == (0 : Int)) w25) (K false w23)) (K false w19)) (K false w19)) (K false w19)) (K false w19)) (K false w19))
def tocsinlaw21_known.cl : CL := fun args K w => match args with
  | [] => C.tocsinlaw21_known w (tocsinlaw21_known.Kt K)
  | _ => False
theorem tocsinlaw21_known.clok : OkC pr 9 tocsinlaw21_known.cl := by
  intro args K w h
  unfold tocsinlaw21_known.cl at h
  split at h
  · exact calls_last false mixed tocsinlaw21_known.FOk_ tocsinlaw21_known.fn rfl (Eq.mp (by kernel_rfl) h)
  · exact h.elim

/-! tocsin/tocsinlaw21.AlertsLasts -/
namespace tocsinlaw21_AlertsLasts
abbrev KT := Bool → World → Prop
def Kt (Kv : Value → World → Prop) : KT := fun b1 w => Kv (.bool b1) w
noncomputable def bd : Code := bdy Tryd.f3
theorem fn : FnOk pr 3 125 Tryd.f3 := ⟨Tryd.func3, by kernel_rfl, Tryd.ntmps3, by kernel_rfl, by kernel_rfl⟩
def F : Clee := ofL [(6, C.alerts_New.cl), (7, C.tocsinref04_Right.cl), (8, C.alerts_Set_Put.cl), (9, C.tocsinlaw21_known.cl), (10, C.alerts_Set_Get.cl), (11, C.alerts_Set_Firing.cl)]
theorem FOk_ : FOk pr F := FOk_cons C.alerts_New.clok (FOk_cons C.tocsinref04_Right.clok (FOk_cons C.alerts_Set_Put.clok (FOk_cons C.tocsinlaw21_known.clok (FOk_cons C.alerts_Set_Get.clok (FOk_cons C.alerts_Set_Firing.clok (FOk_nil))))))
def P1 (Kv : Value → World → Prop) : Post := bodyK false pr 125 Tryd.f3 Kv
@[reducible] def g2 : List SE := []
def S2 (K : KT) (w : World) : Prop :=
  C.tocsinlaw21_known w fun b14 w15 => K b14 w15
theorem S2_ok (Kv : Value → World → Prop) : OkT pr false none 125 g2 (S2 (Kt Kv)) (s2 (tl 6 (tl 2 bd))) (P1 Kv) := ok_last mixed FOk_ fun v ρ w => by kernel_rfl
def P3 (Kv : Value → World → Prop) : Post := next (get g2 (S2 (Kt Kv))) (P1 Kv)
def P4 (Kv : Value → World → Prop) : Post := inBlock 0 (P3 Kv)
@[reducible] def g5 : List SE := [.v 0 (.int .i64), .v 1 .sl, .v 2 .sl, .v 7 .ptr, .v 10 (.int .i64), .v 11 (.int .i64), .v 12 (.int .i64)]
def P6 (Kv : Value → World → Prop) (kc5 : Cur g5) : Post := next (get g5 kc5) (P4 Kv)
def S7 (K : KT) (kc5 : Cur g5) (resolve_30 : Int) (l_31 : Sl) (steps_32 : Sl) (s_33 : Option Addr) (now_34 : Int) (first_35 : Int) (i_36 : Int) (w : World) : Prop :=
  G.cond (decide (i_36 < ((steps_32.n : Nat) : Int))) (G.cond (decide (i_36 < (50 : Int))) (C.alerts_Set_Put s_33 now_34 l_31 (0 : Int) (0 : Int) w fun n37 w38 => G.cond (n37 != (0 : Int)) (K false w38) (C.alerts_Set_Get s_33 l_31 w38 fun l39 n40 n41 b42 w43 => G.new (.cells #[nilS.v, (.int .i64 (0 : Int)), (.int .i64 (0 : Int))] 31) w43 fun p44 w45 => G.st p44 l39.v w45 fun w46 => G.st (p44.add 1) (.int .i64 n40) w46 fun w47 => G.st (p44.add 2) (.int .i64 n41) w47 fun w48 => G.cond (!b42) (K false w48) (G.cI .i64 (p44.add 1) w48 fun n49 => G.cond (n49 != first_35) (K false w48) (G.cI .i64 (p44.add 2) w48 fun n50 => G.cond (n50 != (IntKind.i64.wrap (now_34 + resolve_30))) (K false w48) (C.alerts_Set_Firing s_33 now_34 w48 fun l51 w52 => G.cond (((l51.n : Nat) : Int) != (1 : Int)) (K false w52) (C.alerts_Set_Firing s_33 (IntKind.i64.wrap ((IntKind.i64.wrap (now_34 + resolve_30)) - (1 : Int))) w52 fun l53 w54 => G.cond (((l53.n : Nat) : Int) != (1 : Int)) (K false w54) (C.alerts_Set_Firing s_33 (IntKind.i64.wrap (now_34 + resolve_30)) w54 fun l55 w56 => G.cond (((l55.n : Nat) : Int) != (0 : Int)) (K false w56) (G.ix steps_32.a steps_32.n i_36 1 fun p57 => G.cI .i64 p57 w56 fun n58 => G.nz resolve_30 <| G.cond (decide ((Int.tmod n58 resolve_30) < (0 : Int))) (kc5 resolve_30 l_31 steps_32 s_33 (IntKind.i64.wrap (now_34 + (IntKind.i64.wrap (0 - (Int.tmod n58 resolve_30))))) first_35 (IntKind.i64.wrap (i_36 + (1 : Int))) w56) (kc5 resolve_30 l_31 steps_32 s_33 (IntKind.i64.wrap (now_34 + (Int.tmod n58 resolve_30))) first_35 (IntKind.i64.wrap (i_36 + (1 : Int))) w56))))))))) (S2 K w)) (S2 K w)
theorem S7_ok (Kv : Value → World → Prop) (kc5 : Cur g5) : OkT pr false none 125 g5 (S7 (Kt Kv) kc5) (lp (blk (tl 1 (s1 (tl 6 (tl 2 bd)))))) (P6 Kv kc5) := ok_last mixed FOk_ fun v ρ w => by kernel_rfl
def L5 (K : KT) : Cur g5 := loopC g5 (S7 K)
theorem L5_ok (Kv : Value → World → Prop) : OkT pr false none 125 g5 (L5 (Kt Kv)) (blk (tl 1 (s1 (tl 6 (tl 2 bd))))) (P4 Kv) := ok_loop (B := S7 (Kt Kv)) (by kernel_rfl) fun kc => S7_ok Kv kc
theorem L5_ind {K : KT} {resolve_16 : Int} {l_17 : Sl} {steps_18 : Sl} {s_19 : Option Addr} {now_20 : Int} {first_21 : Int} {i_22 : Int} {w : World} (h : ∀ X : Cur g5, (∀ resolve_16 l_17 steps_18 s_19 now_20 first_21 i_22 w, S7 K X resolve_16 l_17 steps_18 s_19 now_20 first_21 i_22 w → X resolve_16 l_17 steps_18 s_19 now_20 first_21 i_22 w) → X resolve_16 l_17 steps_18 s_19 now_20 first_21 i_22 w) : L5 K resolve_16 l_17 steps_18 s_19 now_20 first_21 i_22 w := fun X hX => h X fun resolve_16 l_17 steps_18 s_19 now_20 first_21 i_22 w hb => hX (resolve_16, l_17, steps_18, s_19, now_20, first_21, i_22, ()) w hb
theorem B8 (Kv : Value → World → Prop) : OkT pr false none 125 g5 (L5 (Kt Kv)) (tl 1 (s1 (tl 6 (tl 2 bd)))) (P3 Kv) := ok_block 0 (by kernel_rfl) (L5_ok Kv)
@[reducible] def g9 : List SE := [.v 0 (.int .i64), .v 1 .sl, .v 2 .sl, .v 7 .ptr, .v 10 (.int .i64), .v 11 (.int .i64)]
def S9 (K : KT) (resolve_59 : Int) (l_60 : Sl) (steps_61 : Sl) (s_62 : Option Addr) (now_63 : Int) (first_64 : Int) (w : World) : Prop :=
  L5 K resolve_59 l_60 steps_61 s_62 now_63 first_64 (0 : Int) w
theorem S9_ok (Kv : Value → World → Prop) : OkT pr false none 125 g9 (S9 (Kt Kv)) (s1 (tl 6 (tl 2 bd))) (P3 Kv) := ok_group mixed FOk_ 1 (B8 Kv) fun v ρ w => by kernel_rfl
theorem Q10 (Kv : Value → World → Prop) : OkT pr false none 125 g9 (S9 (Kt Kv)) (tl 6 (tl 2 bd)) (P1 Kv) := ok_seq (by kernel_rfl) (S2_ok Kv) (S9_ok Kv)
@[reducible] def g11 : List SE := [.v 0 (.int .i64), .v 1 .sl, .v 2 .sl]
def S11 (K : KT) (resolve_65 : Int) (l_66 : Sl) (steps_67 : Sl) (w : World) : Prop :=
  C.alerts_New resolve_65 (3 : Int) w fun p68 w69 => C.tocsinref04_Right l_66 w69 fun n70 n71 w72 => G.cond p68.isNone (K false w72) (G.cond (n70 != (0 : Int)) (C.alerts_Set_Put p68 (5 : Int) l_66 (0 : Int) (0 : Int) w72 fun n73 w74 => G.cond (n73 == (41 : Int)) (C.tocsinlaw21_known w74 fun b75 w76 => K b75 w76) (K false w74)) (G.cond (((l_66.n : Nat) : Int) == (0 : Int)) (C.alerts_Set_Put p68 (5 : Int) l_66 (0 : Int) (0 : Int) w72 fun n77 w78 => G.cond (n77 == (41 : Int)) (C.tocsinlaw21_known w78 fun b79 w80 => K b79 w80) (K false w78)) (S9 K resolve_65 l_66 steps_67 p68 (1 : Int) (1 : Int) w72)))
theorem S11_ok (Kv : Value → World → Prop) : OkT pr false none 125 g11 (S11 (Kt Kv)) (tl 2 bd) (P1 Kv) := ok_group mixed FOk_ 6 (Q10 Kv) fun v ρ w => by kernel_rfl
end tocsinlaw21_AlertsLasts
def tocsinlaw21_AlertsLasts (resolve_2 : Int) (l_3 : Sl) (steps_4 : Sl) (w : World) (K : tocsinlaw21_AlertsLasts.KT) : Prop :=
  G.cond (decide (resolve_2 < (2 : Int))) (tocsinlaw21_AlertsLasts.S11 K (100 : Int) l_3 steps_4 w) (G.cond (decide (resolve_2 > (1073741824 : Int))) (tocsinlaw21_AlertsLasts.S11 K (100 : Int) l_3 steps_4 w) (tocsinlaw21_AlertsLasts.S11 K resolve_2 l_3 steps_4 w))
def tocsinlaw21_AlertsLasts.cl : CL := fun args K w => match args with
  | [.int .i64 x0, .slice x1_a x1_n x1_c, .slice x2_a x2_n x2_c] => C.tocsinlaw21_AlertsLasts x0 ⟨x1_a, x1_n, x1_c⟩ ⟨x2_a, x2_n, x2_c⟩ w (tocsinlaw21_AlertsLasts.Kt K)
  | _ => False
theorem tocsinlaw21_AlertsLasts.clok : OkC pr 3 tocsinlaw21_AlertsLasts.cl := by
  intro args K w h
  unfold tocsinlaw21_AlertsLasts.cl at h
  split at h
  · exact calls_group false mixed tocsinlaw21_AlertsLasts.FOk_ tocsinlaw21_AlertsLasts.fn rfl 2 (tocsinlaw21_AlertsLasts.S11_ok K) (Eq.mp (by kernel_rfl) h)
  · exact h.elim

/-! tocsin/tocsinlaw21.all -/
namespace tocsinlaw21_all
abbrev KT := Sl → World → Prop
def Kt (Kv : Value → World → Prop) : KT := fun l1 w => Kv l1.v w
noncomputable def bd : Code := bdy Tryd.f12
theorem fn : FnOk pr 12 23 Tryd.f12 := ⟨Tryd.func12, by kernel_rfl, Tryd.ntmps12, by kernel_rfl, by kernel_rfl⟩
def F : Clee := ofL [(24, C.alerts_Set_All.cl)]
theorem FOk_ : FOk pr F := FOk_cons C.alerts_Set_All.clok (FOk_nil)
def Fc : Clee := ofL [(32, C.alerts_Set_All_1.cl), (35, C.alerts_Set_All_1_1.cl), (48, C.maps_Values_1_map_string_Alert_string_Alert.cl), (50, C.labels_Compare_1.cl), (54, C.maps_Keys_1_map_string_Alert_string_Alert.cl)]
theorem FcOk : FOkB pr Fc := FOkB_cons C.alerts_Set_All_1.clok (FOkB_cons C.alerts_Set_All_1_1.clok (FOkB_cons C.maps_Values_1_map_string_Alert_string_Alert.clok (FOkB_cons C.labels_Compare_1.clok (FOkB_cons C.maps_Keys_1_map_string_Alert_string_Alert.clok (FOkB_nil)))))
def P1 (Kv : Value → World → Prop) : Post := bodyK true pr 23 Tryd.f12 Kv
@[reducible] def g2 : List SE := [.v 5 .ptr, .v 23 .raw]
def S2 (K : KT) (l_4 : Option Addr) (v5 : Value) (w : World) : Prop :=
  G.ptr l_4 fun p6 => G.cSl p6 w fun l7 => G.marks v5 w fun w8 => K l7 w8
theorem S2_ok (Kv : Value → World → Prop) : OkT pr true none 23 g2 (S2 (Kt Kv)) (s2 (tl 4 bd)) (P1 Kv) := ok_last mixed FOk_ fun v ρ w => by kernel_rfl
def P3 (Kv : Value → World → Prop) : Post := next (get g2 (S2 (Kt Kv))) (P1 Kv)
def P4 (Kv : Value → World → Prop) : Post := inBlock 0 (P3 Kv)
@[reducible] def g5 : List SE := [.v 3 .ptr, .v 5 .ptr, .v 12 .raw, .v 23 .raw]
def P6 (Rr : Exit → World → Prop) : Post := RP Rr
@[reducible] def g7 : List SE := [.v 3 .ptr, .v 5 .ptr, .v 7 .ptr]
def S7 (Rr : Exit → World → Prop) (most_13 : Option Addr) (l_14 : Option Addr) (a_15 : Option Addr) (w : World) : Prop :=
  G.ptr l_14 fun p16 => G.cSl p16 w fun l17 => G.ptr a_15 fun p18 => G.cSl p18 w fun l19 => G.cI .i64 (p18.add 1) w fun n20 => G.cI .i64 (p18.add 2) w fun n21 => G.new (.cells #[l19.v, (.int .i64 n20), (.int .i64 n21)] 31) w fun p22 w23 => G.runSl pr (Builtin.append_ #[35, 35] 35 #[l17.v, (Sl.v (⟨some p22, 1, 1⟩ : Sl))]) w23 fun l24 w25 => G.ptr l_14 fun p26 => G.st p26 l24.v w25 fun w27 => G.ptr l_14 fun p28 => G.cSl p28 w27 fun l29 => G.ptr most_13 fun p30 => G.cI .i64 p30 w27 fun n31 => G.cond (((l29.n : Nat) : Int) == n31) (Rr (.exit 0) w27) (Rr .normal w27)
theorem S7_ok (Rr : Exit → World → Prop) {ro : Option Nat} : OkT pr false ro 23 g7 (S7 Rr) (rbd (blk (tl 1 (s1 (tl 4 bd))))) (P6 Rr) := ok_last mixed FOk_ fun v ρ w => by kernel_rfl
def B_R5 (most_9 : Option Addr) (l_10 : Option Addr) (v11 : Value) (v12 : Value) (args : List Value) (wb : World) (bz : (World → Prop) → World → Prop) (Rr : Exit → World → Prop) : Prop := match args with
  | [.agg ⟨[.slice y_32_a y_32_n y_32_c, .int .i64 y_33, .int .i64 y_34]⟩] => G.new (.cells #[nilS.v, (.int .i64 (0 : Int)), (.int .i64 (0 : Int))] 31) wb fun p35 w36 => G.st p35 (⟨y_32_a, y_32_n, y_32_c⟩ : Sl).v w36 fun w37 => G.st (p35.add 1) (.int .i64 y_33) w37 fun w38 => G.st (p35.add 2) (.int .i64 y_34) w38 fun w39 => bz (S7 Rr most_9 l_10 (some p35)) w39
  | _ => False
def O_R5 (K : KT) (most_9 : Option Addr) (l_10 : Option Addr) (v11 : Value) (v12 : Value) (e : Exit) (D : Nat) (w : World) : Prop := match e with
  | .normal => S2 K l_10 (pushMark v12 D) w
  | .exit i => bif Nat.beq i 0 then (S2 K l_10 (pushMark v12 D) w) else False
  | _ => False
def R5 (K : KT) (most_9 : Option Addr) (l_10 : Option Addr) (v11 : Value) (v12 : Value) (w : World) : Prop :=
  G.rangeW Fc v11 pr (B_R5 most_9 l_10 v11 v12) w (O_R5 K most_9 l_10 v11 v12)
theorem R5_ok (Kv : Value → World → Prop) : OkT pr true none 23 g5 (R5 (Kt Kv)) (blk (tl 1 (s1 (tl 4 bd)))) (P4 Kv) := by
  refine ok_rangeW mixed FOk_ FcOk (s := 12) (ps := #[13]) (Bt := fun v => B_R5 v.1 v.2.1 v.2.2.1 v.2.2.2.1) (kB := fun Rr => S7 Rr) (sgB := g7) (out := fun v => O_R5 (Kt Kv) v.1 v.2.1 v.2.2.1 v.2.2.2.1) (by kernel_rfl) (fun v ρ w => by kernel_rfl) ?_ (fun Rr l => S7_ok Rr) ?_
  · intro v ρ args w bz Rr h
    have h' : B_R5 v.1 v.2.1 v.2.2.1 v.2.2.2.1 args w bz Rr := h
    unfold B_R5 at h'
    split at h'
    · exact ⟨rfl, Eq.mp (by kernel_rfl) h'⟩
    · exact h'.elim
  · intro v ρ e D w h
    cases e with
    | normal => exact Eq.mp (by kernel_rfl) h
    | exit i =>
      refine (exit_inv h).elim (fun h => ?_) (fun h => ?_)
      · obtain ⟨rfl, h⟩ := h; exact Eq.mp (by kernel_rfl) h
      · exact h.elim
    | _ => exact h.elim
theorem B8 (Kv : Value → World → Prop) : OkT pr true none 23 g5 (R5 (Kt Kv)) (tl 1 (s1 (tl 4 bd))) (P3 Kv) := ok_block 0 (by kernel_rfl) (R5_ok Kv)
@[reducible] def g9 : List SE := [.v 3 .ptr, .v 5 .ptr, .v 6 .raw, .v 23 .raw]
def S9 (K : KT) (most_40 : Option Addr) (l_41 : Option Addr) (seq_42 : Value) (v43 : Value) (w : World) : Prop :=
  R5 K most_40 l_41 seq_42 v43 w
theorem S9_ok (Kv : Value → World → Prop) : OkT pr true none 23 g9 (S9 (Kt Kv)) (s1 (tl 4 bd)) (P3 Kv) := ok_group mixed FOk_ 1 (B8 Kv) fun v ρ w => by kernel_rfl
theorem Q10 (Kv : Value → World → Prop) : OkT pr true none 23 g9 (S9 (Kt Kv)) (tl 4 bd) (P1 Kv) := ok_seq (by kernel_rfl) (S2_ok Kv) (S9_ok Kv)
end tocsinlaw21_all
def tocsinlaw21_all (s_2 : Option Addr) (most_3 : Int) (w : World) (K : tocsinlaw21_all.KT) : Prop :=
  G.new (.cells #[(.int .i64 most_3)] 3) w fun p44 w45 => G.new (.cells #[nilS.v] 35) w45 fun p46 w47 => C.alerts_Set_All s_2 w47 fun v48 w49 => G.isNilF v48 fun b50 => G.cond b50 (K nilS w49) (tocsinlaw21_all.S9 K (some p44) (some p46) v48 undef w49)
def tocsinlaw21_all.cl : CL := fun args K w => match args with
  | [.pointer x0, .int .i64 x1] => C.tocsinlaw21_all x0 x1 w (tocsinlaw21_all.Kt K)
  | _ => False
theorem tocsinlaw21_all.clok : OkC pr 12 tocsinlaw21_all.cl := by
  intro args K w h
  unfold tocsinlaw21_all.cl at h
  split at h
  · exact calls_group true mixed tocsinlaw21_all.FOk_ tocsinlaw21_all.fn rfl 4 (tocsinlaw21_all.Q10 K) (Eq.mp (by kernel_rfl) h)
  · exact h.elim

/-! slices.AppendSeq[[]string,string] -/
namespace slices_AppendSeq_string_string
abbrev KT := Sl → World → Prop
def Kt (Kv : Value → World → Prop) : KT := fun l1 w => Kv l1.v w
noncomputable def bd : Code := bdy Tryd.f63
theorem fn : FnOk pr 63 13 Tryd.f63 := ⟨Tryd.func63, by kernel_rfl, Tryd.ntmps63, by kernel_rfl, by kernel_rfl⟩
def F : Clee := ofL []
theorem FOk_ : FOk pr F := FOk_nil
def Fc : Clee := ofL [(32, C.alerts_Set_All_1.cl), (35, C.alerts_Set_All_1_1.cl), (48, C.maps_Values_1_map_string_Alert_string_Alert.cl), (50, C.labels_Compare_1.cl), (54, C.maps_Keys_1_map_string_Alert_string_Alert.cl)]
theorem FcOk : FOkB pr Fc := FOkB_cons C.alerts_Set_All_1.clok (FOkB_cons C.alerts_Set_All_1_1.clok (FOkB_cons C.maps_Values_1_map_string_Alert_string_Alert.clok (FOkB_cons C.labels_Compare_1.clok (FOkB_cons C.maps_Keys_1_map_string_Alert_string_Alert.clok (FOkB_nil)))))
def P1 (Kv : Value → World → Prop) : Post := bodyK true pr 13 Tryd.f63 Kv
@[reducible] def g2 : List SE := [.v 2 .ptr, .v 13 .raw]
def S2 (K : KT) (s_4 : Option Addr) (v5 : Value) (w : World) : Prop :=
  G.ptr s_4 fun p6 => G.cSl p6 w fun l7 => G.marks v5 w fun w8 => K l7 w8
theorem S2_ok (Kv : Value → World → Prop) : OkT pr true none 13 g2 (S2 (Kt Kv)) (s2 (tl 1 bd)) (P1 Kv) := ok_last mixed FOk_ fun v ρ w => by kernel_rfl
def P3 (Kv : Value → World → Prop) : Post := next (get g2 (S2 (Kt Kv))) (P1 Kv)
def P4 (Kv : Value → World → Prop) : Post := inBlock 0 (P3 Kv)
@[reducible] def g5 : List SE := [.v 2 .ptr, .v 6 .raw, .v 13 .raw]
def P6 (Rr : Exit → World → Prop) : Post := RP Rr
@[reducible] def g7 : List SE := [.v 2 .ptr, .v 5 .str]
def S7 (Rr : Exit → World → Prop) (s_12 : Option Addr) (v_13 : ByteArray) (w : World) : Prop :=
  G.ptr s_12 fun p14 => G.cSl p14 w fun l15 => G.new (.cells #[(.string v_13)] 9) w fun p16 w17 => G.runSl pr (Builtin.append_ #[63, 63] 63 #[l15.v, (Sl.v (⟨some p16, 1, 1⟩ : Sl))]) w17 fun l18 w19 => G.ptr s_12 fun p20 => G.st p20 l18.v w19 fun w21 => Rr .normal w21
theorem S7_ok (Rr : Exit → World → Prop) {ro : Option Nat} : OkT pr false ro 13 g7 (S7 Rr) (rbd (blk (tl 1 (s1 (tl 1 bd))))) (P6 Rr) := ok_last mixed FOk_ fun v ρ w => by kernel_rfl
def B_R5 (s_9 : Option Addr) (v10 : Value) (v11 : Value) (args : List Value) (wb : World) (Rr : Exit → World → Prop) : Prop := match args with
  | [.string y_22] => S7 Rr s_9 y_22 wb
  | _ => False
def O_R5 (K : KT) (s_9 : Option Addr) (v10 : Value) (v11 : Value) (e : Exit) (D : Nat) (w : World) : Prop := match e with
  | .normal => S2 K s_9 (pushMark v11 D) w
  | _ => False
def R5 (K : KT) (s_9 : Option Addr) (v10 : Value) (v11 : Value) (w : World) : Prop :=
  G.rangeF Fc v10 pr (B_R5 s_9 v10 v11) w (O_R5 K s_9 v10 v11)
theorem R5_ok (Kv : Value → World → Prop) : OkT pr true none 13 g5 (R5 (Kt Kv)) (blk (tl 1 (s1 (tl 1 bd)))) (P4 Kv) := by
  refine ok_range mixed FOk_ FcOk (s := 6) (ps := #[7]) (Bt := fun v => B_R5 v.1 v.2.1 v.2.2.1) (kB := fun Rr => S7 Rr) (sgB := g7) (out := fun v => O_R5 (Kt Kv) v.1 v.2.1 v.2.2.1) (by kernel_rfl) (fun v ρ w => by kernel_rfl) ?_ (fun Rr l => S7_ok Rr) ?_
  · intro v ρ args w wb Rr h
    have h' : B_R5 v.1 v.2.1 v.2.2.1 args wb Rr := h
    unfold B_R5 at h'
    split at h'
    · exact ⟨rfl, Eq.mp (by kernel_rfl) (And.intro (Eq.refl w) h')⟩
    · exact h'.elim
  · intro v ρ e D w h
    cases e with
    | normal => exact Eq.mp (by kernel_rfl) h
    | _ => exact h.elim
theorem B8 (Kv : Value → World → Prop) : OkT pr true none 13 g5 (R5 (Kt Kv)) (tl 1 (s1 (tl 1 bd))) (P3 Kv) := ok_block 0 (by kernel_rfl) (R5_ok Kv)
@[reducible] def g9 : List SE := [.v 1 .raw, .v 2 .ptr, .v 13 .raw]
def S9 (K : KT) (seq_23 : Value) (s_24 : Option Addr) (v25 : Value) (w : World) : Prop :=
  R5 K s_24 seq_23 v25 w
theorem S9_ok (Kv : Value → World → Prop) : OkT pr true none 13 g9 (S9 (Kt Kv)) (s1 (tl 1 bd)) (P3 Kv) := ok_group mixed FOk_ 1 (B8 Kv) fun v ρ w => by kernel_rfl
theorem Q10 (Kv : Value → World → Prop) : OkT pr true none 13 g9 (S9 (Kt Kv)) (tl 1 bd) (P1 Kv) := ok_seq (by kernel_rfl) (S2_ok Kv) (S9_ok Kv)
end slices_AppendSeq_string_string
def slices_AppendSeq_string_string (s_2 : Sl) (seq_3 : Value) (w : World) (K : slices_AppendSeq_string_string.KT) : Prop :=
  G.new (.cells #[s_2.v] 63) w fun p26 w27 => slices_AppendSeq_string_string.S9 K seq_3 (some p26) undef w27
def slices_AppendSeq_string_string.cl : CL := fun args K w => match args with
  | [.slice x0_a x0_n x0_c, x1] => C.slices_AppendSeq_string_string ⟨x0_a, x0_n, x0_c⟩ x1 w (slices_AppendSeq_string_string.Kt K)
  | _ => False
theorem slices_AppendSeq_string_string.clok : OkC pr 63 slices_AppendSeq_string_string.cl := by
  intro args K w h
  unfold slices_AppendSeq_string_string.cl at h
  split at h
  · exact calls_group true mixed slices_AppendSeq_string_string.FOk_ slices_AppendSeq_string_string.fn rfl 1 (slices_AppendSeq_string_string.Q10 K) (Eq.mp (by kernel_rfl) h)
  · exact h.elim

/-! slices.Collect[string] -/
namespace slices_Collect_string
abbrev KT := Sl → World → Prop
def Kt (Kv : Value → World → Prop) : KT := fun l1 w => Kv l1.v w
noncomputable def bd : Code := bdy Tryd.f52
theorem fn : FnOk pr 52 5 Tryd.f52 := ⟨Tryd.func52, by kernel_rfl, Tryd.ntmps52, by kernel_rfl, by kernel_rfl⟩
def F : Clee := ofL [(63, C.slices_AppendSeq_string_string.cl)]
theorem FOk_ : FOk pr F := FOk_cons C.slices_AppendSeq_string_string.clok (FOk_nil)
def P1 (Kv : Value → World → Prop) : Post := bodyK false pr 5 Tryd.f52 Kv
end slices_Collect_string
def slices_Collect_string (seq_2 : Value) (w : World) (K : slices_Collect_string.KT) : Prop :=
  C.slices_AppendSeq_string_string nilS seq_2 w fun l3 w4 => K l3 w4
def slices_Collect_string.cl : CL := fun args K w => match args with
  | [x0] => C.slices_Collect_string x0 w (slices_Collect_string.Kt K)
  | _ => False
theorem slices_Collect_string.clok : OkC pr 52 slices_Collect_string.cl := by
  intro args K w h
  unfold slices_Collect_string.cl at h
  split at h
  · exact calls_last false mixed slices_Collect_string.FOk_ slices_Collect_string.fn rfl (Eq.mp (by kernel_rfl) h)
  · exact h.elim

/-! slices.Sort[[]string,string]: by the library's contract -/
abbrev slices_Sort_string_string.KT := World → Prop
def slices_Sort_string_string.Kt (Kv : Value → World → Prop) : slices_Sort_string_string.KT := fun w => Kv (.tuple #[]) w
def slices_Sort_string_string (x0 : Sl) (w : World) (K : slices_Sort_string_string.KT) : Prop := Srt.sortS x0 w K
def slices_Sort_string_string.cl : CL := fun args K w => match args with
  | [.slice a n c] => C.slices_Sort_string_string ⟨a, n, c⟩ w (slices_Sort_string_string.Kt K)
  | _ => False
theorem slices_Sort_string_string.clok : OkC pr 53 slices_Sort_string_string.cl := by
  intro args K w h
  unfold slices_Sort_string_string.cl at h
  split at h
  · exact Srt.sortS_ok h
  · exact h.elim

/-! slices.Sorted[string] -/
namespace slices_Sorted_string
abbrev KT := Sl → World → Prop
def Kt (Kv : Value → World → Prop) : KT := fun l1 w => Kv l1.v w
noncomputable def bd : Code := bdy Tryd.f37
theorem fn : FnOk pr 37 9 Tryd.f37 := ⟨Tryd.func37, by kernel_rfl, Tryd.ntmps37, by kernel_rfl, by kernel_rfl⟩
def F : Clee := ofL [(52, C.slices_Collect_string.cl), (53, C.slices_Sort_string_string.cl)]
theorem FOk_ : FOk pr F := FOk_cons C.slices_Collect_string.clok (FOk_cons C.slices_Sort_string_string.clok (FOk_nil))
def P1 (Kv : Value → World → Prop) : Post := bodyK false pr 9 Tryd.f37 Kv
end slices_Sorted_string
def slices_Sorted_string (seq_2 : Value) (w : World) (K : slices_Sorted_string.KT) : Prop :=
  C.slices_Collect_string seq_2 w fun l3 w4 => C.slices_Sort_string_string l3 w4 fun w5 => K l3 w5
def slices_Sorted_string.cl : CL := fun args K w => match args with
  | [x0] => C.slices_Sorted_string x0 w (slices_Sorted_string.Kt K)
  | _ => False
theorem slices_Sorted_string.clok : OkC pr 37 slices_Sorted_string.cl := by
  intro args K w h
  unfold slices_Sorted_string.cl at h
  split at h
  · exact calls_last false mixed slices_Sorted_string.FOk_ slices_Sorted_string.fn rfl (Eq.mp (by kernel_rfl) h)
  · exact h.elim

/-! maps.Keys[map[string]tocsin/api.Alert,string,tocsin/api.Alert] -/
namespace maps_Keys_map_string_Alert_string_Alert
abbrev KT := Value → World → Prop
def Kt (Kv : Value → World → Prop) : KT := fun v1 w => Kv v1 w
noncomputable def bd : Code := bdy Tryd.f38
theorem fn : FnOk pr 38 4 Tryd.f38 := ⟨Tryd.func38, by kernel_rfl, Tryd.ntmps38, by kernel_rfl, by kernel_rfl⟩
def F : Clee := ofL []
theorem FOk_ : FOk pr F := FOk_nil
def P1 (Kv : Value → World → Prop) : Post := bodyK false pr 4 Tryd.f38 Kv
end maps_Keys_map_string_Alert_string_Alert
def maps_Keys_map_string_Alert_string_Alert (m_2 : Option Nat) (w : World) (K : maps_Keys_map_string_Alert_string_Alert.KT) : Prop :=
  G.new (.cells #[(.map m_2)] 50) w fun p3 w4 => K (Value.func (.func 54) #[] #[(.pointer (some p3))]) w4
def maps_Keys_map_string_Alert_string_Alert.cl : CL := fun args K w => match args with
  | [.map x0] => C.maps_Keys_map_string_Alert_string_Alert x0 w (maps_Keys_map_string_Alert_string_Alert.Kt K)
  | _ => False
theorem maps_Keys_map_string_Alert_string_Alert.clok : OkC pr 38 maps_Keys_map_string_Alert_string_Alert.cl := by
  intro args K w h
  unfold maps_Keys_map_string_Alert_string_Alert.cl at h
  split at h
  · exact calls_last false mixed maps_Keys_map_string_Alert_string_Alert.FOk_ maps_Keys_map_string_Alert_string_Alert.fn rfl (Eq.mp (by kernel_rfl) h)
  · exact h.elim

/-! tocsin/alerts.rising[string,tocsin/api.Alert] -/
namespace alerts_rising_string_Alert
abbrev KT := Sl → World → Prop
def Kt (Kv : Value → World → Prop) : KT := fun l1 w => Kv l1.v w
noncomputable def bd : Code := bdy Tryd.f25
theorem fn : FnOk pr 25 6 Tryd.f25 := ⟨Tryd.func25, by kernel_rfl, Tryd.ntmps25, by kernel_rfl, by kernel_rfl⟩
def F : Clee := ofL [(37, C.slices_Sorted_string.cl), (38, C.maps_Keys_map_string_Alert_string_Alert.cl)]
theorem FOk_ : FOk pr F := FOk_cons C.slices_Sorted_string.clok (FOk_cons C.maps_Keys_map_string_Alert_string_Alert.clok (FOk_nil))
def P1 (Kv : Value → World → Prop) : Post := bodyK false pr 6 Tryd.f25 Kv
end alerts_rising_string_Alert
def alerts_rising_string_Alert (m_2 : Option Nat) (w : World) (K : alerts_rising_string_Alert.KT) : Prop :=
  C.maps_Keys_map_string_Alert_string_Alert m_2 w fun v3 w4 => C.slices_Sorted_string v3 w4 fun l5 w6 => K l5 w6
def alerts_rising_string_Alert.cl : CL := fun args K w => match args with
  | [.map x0] => C.alerts_rising_string_Alert x0 w (alerts_rising_string_Alert.Kt K)
  | _ => False
theorem alerts_rising_string_Alert.clok : OkC pr 25 alerts_rising_string_Alert.cl := by
  intro args K w h
  unfold alerts_rising_string_Alert.cl at h
  split at h
  · exact calls_last false mixed alerts_rising_string_Alert.FOk_ alerts_rising_string_Alert.fn rfl (Eq.mp (by kernel_rfl) h)
  · exact h.elim

/-! (*tocsin/alerts.Set).Sweep -/
namespace alerts_Set_Sweep
abbrev KT := Int → Int → World → Prop
def Kt (Kv : Value → World → Prop) : KT := fun n1 n2 w => Kv (.tuple #[(.int .i64 n1), (.int .i64 n2)]) w
noncomputable def bd : Code := bdy Tryd.f13
theorem fn : FnOk pr 13 56 Tryd.f13 := ⟨Tryd.func13, by kernel_rfl, Tryd.ntmps13, by kernel_rfl, by kernel_rfl⟩
def F : Clee := ofL [(19, C.alerts_time.cl), (25, C.alerts_rising_string_Alert.cl)]
theorem FOk_ : FOk pr F := FOk_cons C.alerts_time.clok (FOk_cons C.alerts_rising_string_Alert.clok (FOk_nil))
def P1 (Kv : Value → World → Prop) : Post := bodyK false pr 56 Tryd.f13 Kv
@[reducible] def g2 : List SE := [.v 8 (.int .i64)]
def S2 (K : KT) (n_9 : Int) (w : World) : Prop :=
  K n_9 (0 : Int) w
theorem S2_ok (Kv : Value → World → Prop) : OkT pr false none 56 g2 (S2 (Kt Kv)) (s2 (tl 3 bd)) (P1 Kv) := ok_last mixed FOk_ fun v ρ w => by kernel_rfl
def P3 (Kv : Value → World → Prop) : Post := next (get g2 (S2 (Kt Kv))) (P1 Kv)
def P4 (Kv : Value → World → Prop) : Post := inBlock 1 (P3 Kv)
@[reducible] def g5 : List SE := [.v 0 .ptr, .v 1 (.int .i64), .v 2 (.int .i64), .v 8 (.int .i64), .v 30 .sl, .v 31 (.int .i64), .v 32 (.int .i64)]
def P6 (Kv : Value → World → Prop) (kc5 : Cur g5) : Post := next (get g5 kc5) (P4 Kv)
def S7 (K : KT) (kc5 : Cur g5) (s_24 : Option Addr) (now_25 : Int) (keep_26 : Int) (n_27 : Int) (l28 : Sl) (n29 : Int) (n30 : Int) (w : World) : Prop :=
  G.cond (decide (n30 < n29)) (G.ix l28.a l28.n n30 1 fun p31 => G.cS p31 w fun s32 => G.ptr s_24 fun p33 => G.cM (p33.add 2) w fun m34 => G.rd1 pr (Instr.lookup 50 (.map m34) (.string s32) false) (fun v : Value => v) w fun v35 => G.ag v35 3 fun c36 => G.vSl c36[0 + 0]? fun l38 => G.vI .i64 c36[0 + 1]? fun n39 => G.vI .i64 c36[0 + 2]? fun n40 => G.cond (decide (n40 ≤ (IntKind.i64.wrap (now_25 - keep_26)))) (G.ptr s_24 fun p41 => G.cM (p41.add 2) w fun m42 => G.run pr (Builtin.delete_ #[50, 9] 0 #[(.map m42), (.string s32)]) w fun v43 w44 => kc5 s_24 now_25 keep_26 (IntKind.i64.wrap (n_27 + (1 : Int))) l28 n29 (IntKind.i64.wrap (n30 + (1 : Int))) w44) (kc5 s_24 now_25 keep_26 n_27 l28 n29 (IntKind.i64.wrap (n30 + (1 : Int))) w)) (S2 K n_27 w)
theorem S7_ok (Kv : Value → World → Prop) (kc5 : Cur g5) : OkT pr false none 56 g5 (S7 (Kt Kv) kc5) (lp (blk (tl 1 (s1 (tl 3 bd))))) (P6 Kv kc5) := ok_last mixed FOk_ fun v ρ w => by kernel_rfl
def L5 (K : KT) : Cur g5 := loopC g5 (S7 K)
theorem L5_ok (Kv : Value → World → Prop) : OkT pr false none 56 g5 (L5 (Kt Kv)) (blk (tl 1 (s1 (tl 3 bd)))) (P4 Kv) := ok_loop (B := S7 (Kt Kv)) (by kernel_rfl) fun kc => S7_ok Kv kc
theorem L5_ind {K : KT} {s_10 : Option Addr} {now_11 : Int} {keep_12 : Int} {n_13 : Int} {l14 : Sl} {n15 : Int} {n16 : Int} {w : World} (h : ∀ X : Cur g5, (∀ s_10 now_11 keep_12 n_13 l14 n15 n16 w, S7 K X s_10 now_11 keep_12 n_13 l14 n15 n16 w → X s_10 now_11 keep_12 n_13 l14 n15 n16 w) → X s_10 now_11 keep_12 n_13 l14 n15 n16 w) : L5 K s_10 now_11 keep_12 n_13 l14 n15 n16 w := fun X hX => h X fun s_10 now_11 keep_12 n_13 l14 n15 n16 w hb => hX (s_10, now_11, keep_12, n_13, l14, n15, n16, ()) w hb
theorem B8 (Kv : Value → World → Prop) : OkT pr false none 56 g5 (L5 (Kt Kv)) (tl 1 (s1 (tl 3 bd))) (P3 Kv) := ok_block 1 (by kernel_rfl) (L5_ok Kv)
@[reducible] def g9 : List SE := [.v 0 .ptr, .v 1 (.int .i64), .v 2 (.int .i64), .v 8 (.int .i64)]
def S9 (K : KT) (s_45 : Option Addr) (now_46 : Int) (keep_47 : Int) (n_48 : Int) (w : World) : Prop :=
  G.ptr s_45 fun p49 => G.cM (p49.add 2) w fun m50 => C.alerts_rising_string_Alert m50 w fun l51 w52 => L5 K s_45 now_46 keep_47 n_48 l51 ((l51.n : Nat) : Int) (0 : Int) w52
theorem S9_ok (Kv : Value → World → Prop) : OkT pr false none 56 g9 (S9 (Kt Kv)) (s1 (tl 3 bd)) (P3 Kv) := ok_group mixed FOk_ 1 (B8 Kv) fun v ρ w => by kernel_rfl
theorem Q10 (Kv : Value → World → Prop) : OkT pr false none 56 g9 (S9 (Kt Kv)) (tl 3 bd) (P1 Kv) := ok_seq (by kernel_rfl) (S2_ok Kv) (S9_ok Kv)
end alerts_Set_Sweep
def alerts_Set_Sweep (s_3 : Option Addr) (now_4 : Int) (keep_5 : Int) (w : World) (K : alerts_Set_Sweep.KT) : Prop :=
  G.cond s_3.isNone (K (0 : Int) (2 : Int) w) (C.alerts_time now_4 w fun b53 w54 => G.cond (!b53) (K (0 : Int) (1 : Int) w54) (G.cond (decide (keep_5 < (0 : Int))) (K (0 : Int) (1 : Int) w54) (G.cond (decide (keep_5 > (1099511627776 : Int))) (K (0 : Int) (1 : Int) w54) (alerts_Set_Sweep.S9 K s_3 now_4 keep_5 (0 : Int) w54))))
def alerts_Set_Sweep.cl : CL := fun args K w => match args with
  | [.pointer x0, .int .i64 x1, .int .i64 x2] => C.alerts_Set_Sweep x0 x1 x2 w (alerts_Set_Sweep.Kt K)
  | _ => False
theorem alerts_Set_Sweep.clok : OkC pr 13 alerts_Set_Sweep.cl := by
  intro args K w h
  unfold alerts_Set_Sweep.cl at h
  split at h
  · exact calls_group false mixed alerts_Set_Sweep.FOk_ alerts_Set_Sweep.fn rfl 3 (alerts_Set_Sweep.Q10 K) (Eq.mp (by kernel_rfl) h)
  · exact h.elim

/-! tocsin/tocsinref04.side -/
namespace tocsinref04_side
abbrev KT := Int → World → Prop
def Kt (Kv : Value → World → Prop) : KT := fun n1 w => Kv (.int .i64 n1) w
noncomputable def bd : Code := bdy Tryd.f26
theorem fn : FnOk pr 26 11 Tryd.f26 := ⟨Tryd.func26, by kernel_rfl, Tryd.ntmps26, by kernel_rfl, by kernel_rfl⟩
def F : Clee := ofL []
theorem FOk_ : FOk pr F := FOk_nil
def P1 (Kv : Value → World → Prop) : Post := bodyK false pr 11 Tryd.f26 Kv
end tocsinref04_side
def tocsinref04_side (a_2 : ByteArray) (b_3 : ByteArray) (w : World) (K : tocsinref04_side.KT) : Prop :=
  G.cond (Op.bytesLess a_2.toList b_3.toList) (K (-1 : Int) w) (G.cond (!((Op.bytesLess a_2.toList b_3.toList) || (a_2.toList == b_3.toList))) (K (1 : Int) w) (K (0 : Int) w))
def tocsinref04_side.cl : CL := fun args K w => match args with
  | [.string x0, .string x1] => C.tocsinref04_side x0 x1 w (tocsinref04_side.Kt K)
  | _ => False
theorem tocsinref04_side.clok : OkC pr 26 tocsinref04_side.cl := by
  intro args K w h
  unfold tocsinref04_side.cl at h
  split at h
  · exact calls_last false mixed tocsinref04_side.FOk_ tocsinref04_side.fn rfl (Eq.mp (by kernel_rfl) h)
  · exact h.elim

/-! tocsin/tocsinref04.Compare -/
namespace tocsinref04_Compare
abbrev KT := Int → World → Prop
def Kt (Kv : Value → World → Prop) : KT := fun n1 w => Kv (.int .i64 n1) w
noncomputable def bd : Code := bdy Tryd.f16
theorem fn : FnOk pr 16 58 Tryd.f16 := ⟨Tryd.func16, by kernel_rfl, Tryd.ntmps16, by kernel_rfl, by kernel_rfl⟩
def F : Clee := ofL [(26, C.tocsinref04_side.cl)]
theorem FOk_ : FOk pr F := FOk_cons C.tocsinref04_side.clok (FOk_nil)
def P1 (Kv : Value → World → Prop) : Post := bodyK false pr 58 Tryd.f16 Kv
@[reducible] def g2 : List SE := [.v 0 .sl, .v 1 .sl]
def S2 (K : KT) (a_4 : Sl) (b_5 : Sl) (w : World) : Prop :=
  G.cond (decide (((a_4.n : Nat) : Int) < ((b_5.n : Nat) : Int))) (K (-1 : Int) w) (G.cond (decide (((a_4.n : Nat) : Int) > ((b_5.n : Nat) : Int))) (K (1 : Int) w) (K (0 : Int) w))
theorem S2_ok (Kv : Value → World → Prop) : OkT pr false none 58 g2 (S2 (Kt Kv)) (s2 (tl 1 bd)) (P1 Kv) := ok_last mixed FOk_ fun v ρ w => by kernel_rfl
def P3 (Kv : Value → World → Prop) : Post := next (get g2 (S2 (Kt Kv))) (P1 Kv)
def P4 (Kv : Value → World → Prop) : Post := inBlock 0 (P3 Kv)
@[reducible] def g5 : List SE := [.v 0 .sl, .v 1 .sl, .v 5 (.int .i64)]
def P6 (Kv : Value → World → Prop) (kc5 : Cur g5) : Post := next (get g5 kc5) (P4 Kv)
def S7 (K : KT) (kc5 : Cur g5) (a_12 : Sl) (b_13 : Sl) (i_14 : Int) (w : World) : Prop :=
  G.cond (decide (i_14 < ((a_12.n : Nat) : Int))) (G.cond (decide (i_14 < ((b_13.n : Nat) : Int))) (G.ix a_12.a a_12.n i_14 2 fun p15 => G.cS p15 w.drew fun s16 => G.ix b_13.a b_13.n i_14 2 fun p17 => G.cS p17 w.drew fun s18 => C.tocsinref04_side s16 s18 w.drew fun n19 w20 => G.cond (n19 != (0 : Int)) (K n19 w20) (G.ix a_12.a a_12.n i_14 2 fun p21 => G.cS (p21.add 1) w20.drew fun s22 => G.ix b_13.a b_13.n i_14 2 fun p23 => G.cS (p23.add 1) w20.drew fun s24 => C.tocsinref04_side s22 s24 w20.drew fun n25 w26 => G.cond (n25 != (0 : Int)) (K n25 w26) (kc5 a_12 b_13 (IntKind.i64.wrap (i_14 + (1 : Int))) w26))) (S2 K a_12 b_13 w)) (S2 K a_12 b_13 w)
theorem S7_ok (Kv : Value → World → Prop) (kc5 : Cur g5) : OkT pr false none 58 g5 (S7 (Kt Kv) kc5) (lp (blk (tl 1 (s1 (tl 1 bd))))) (P6 Kv kc5) := ok_last mixed FOk_ fun v ρ w => by kernel_rfl
def L5 (K : KT) : Cur g5 := loopC g5 (S7 K)
theorem L5_ok (Kv : Value → World → Prop) : OkT pr false none 58 g5 (L5 (Kt Kv)) (blk (tl 1 (s1 (tl 1 bd)))) (P4 Kv) := ok_loop (B := S7 (Kt Kv)) (by kernel_rfl) fun kc => S7_ok Kv kc
theorem L5_ind {K : KT} {a_6 : Sl} {b_7 : Sl} {i_8 : Int} {w : World} (h : ∀ X : Cur g5, (∀ a_6 b_7 i_8 w, S7 K X a_6 b_7 i_8 w → X a_6 b_7 i_8 w) → X a_6 b_7 i_8 w) : L5 K a_6 b_7 i_8 w := fun X hX => h X fun a_6 b_7 i_8 w hb => hX (a_6, b_7, i_8, ()) w hb
theorem B8 (Kv : Value → World → Prop) : OkT pr false none 58 g5 (L5 (Kt Kv)) (tl 1 (s1 (tl 1 bd))) (P3 Kv) := ok_block 0 (by kernel_rfl) (L5_ok Kv)
def S9 (K : KT) (a_27 : Sl) (b_28 : Sl) (w : World) : Prop :=
  L5 K a_27 b_28 (0 : Int) w
theorem S9_ok (Kv : Value → World → Prop) : OkT pr false none 58 g2 (S9 (Kt Kv)) (s1 (tl 1 bd)) (P3 Kv) := ok_group mixed FOk_ 1 (B8 Kv) fun v ρ w => by kernel_rfl
theorem Q10 (Kv : Value → World → Prop) : OkT pr false none 58 g2 (S9 (Kt Kv)) (tl 1 bd) (P1 Kv) := ok_seq (by kernel_rfl) (S2_ok Kv) (S9_ok Kv)
end tocsinref04_Compare
def tocsinref04_Compare (a_2 : Sl) (b_3 : Sl) (w : World) (K : tocsinref04_Compare.KT) : Prop :=
  tocsinref04_Compare.S9 K a_2 b_3 w
def tocsinref04_Compare.cl : CL := fun args K w => match args with
  | [.slice x0_a x0_n x0_c, .slice x1_a x1_n x1_c] => C.tocsinref04_Compare ⟨x0_a, x0_n, x0_c⟩ ⟨x1_a, x1_n, x1_c⟩ w (tocsinref04_Compare.Kt K)
  | _ => False
theorem tocsinref04_Compare.clok : OkC pr 16 tocsinref04_Compare.cl := by
  intro args K w h
  unfold tocsinref04_Compare.cl at h
  split at h
  · exact calls_group false mixed tocsinref04_Compare.FOk_ tocsinref04_Compare.fn rfl 1 (tocsinref04_Compare.Q10 K) (Eq.mp (by kernel_rfl) h)
  · exact h.elim

/-! tocsin/tocsinref04.Same -/
namespace tocsinref04_Same
abbrev KT := Bool → World → Prop
def Kt (Kv : Value → World → Prop) : KT := fun b1 w => Kv (.bool b1) w
noncomputable def bd : Code := bdy Tryd.f17
theorem fn : FnOk pr 17 9 Tryd.f17 := ⟨Tryd.func17, by kernel_rfl, Tryd.ntmps17, by kernel_rfl, by kernel_rfl⟩
def F : Clee := ofL [(16, C.tocsinref04_Compare.cl)]
theorem FOk_ : FOk pr F := FOk_cons C.tocsinref04_Compare.clok (FOk_nil)
def P1 (Kv : Value → World → Prop) : Post := bodyK false pr 9 Tryd.f17 Kv
end tocsinref04_Same
def tocsinref04_Same (a_2 : Sl) (b_3 : Sl) (w : World) (K : tocsinref04_Same.KT) : Prop :=
  C.tocsinref04_Compare a_2 b_3 w fun n4 w5 => K (n4 == (0 : Int)) w5
def tocsinref04_Same.cl : CL := fun args K w => match args with
  | [.slice x0_a x0_n x0_c, .slice x1_a x1_n x1_c] => C.tocsinref04_Same ⟨x0_a, x0_n, x0_c⟩ ⟨x1_a, x1_n, x1_c⟩ w (tocsinref04_Same.Kt K)
  | _ => False
theorem tocsinref04_Same.clok : OkC pr 17 tocsinref04_Same.cl := by
  intro args K w h
  unfold tocsinref04_Same.cl at h
  split at h
  · exact calls_last false mixed tocsinref04_Same.FOk_ tocsinref04_Same.fn rfl (Eq.mp (by kernel_rfl) h)
  · exact h.elim

/-! tocsin/tocsinref21.Same -/
namespace tocsinref21_Same
abbrev KT := Bool → World → Prop
def Kt (Kv : Value → World → Prop) : KT := fun b1 w => Kv (.bool b1) w
noncomputable def bd : Code := bdy Tryd.f14
theorem fn : FnOk pr 14 55 Tryd.f14 := ⟨Tryd.func14, by kernel_rfl, Tryd.ntmps14, by kernel_rfl, by kernel_rfl⟩
def F : Clee := ofL [(17, C.tocsinref04_Same.cl)]
theorem FOk_ : FOk pr F := FOk_cons C.tocsinref04_Same.clok (FOk_nil)
def P1 (Kv : Value → World → Prop) : Post := bodyK false pr 55 Tryd.f14 Kv
@[reducible] def g2 : List SE := []
def S2 (K : KT) (w : World) : Prop :=
  K true w
theorem S2_ok (Kv : Value → World → Prop) : OkT pr false none 55 g2 (S2 (Kt Kv)) (s2 (tl 2 bd)) (P1 Kv) := ok_last mixed FOk_ fun v ρ w => by kernel_rfl
def P3 (Kv : Value → World → Prop) : Post := next (get g2 (S2 (Kt Kv))) (P1 Kv)
def P4 (Kv : Value → World → Prop) : Post := inBlock 0 (P3 Kv)
@[reducible] def g5 : List SE := [.v 0 .sl, .v 1 .sl, .v 5 (.int .i64)]
def P6 (Kv : Value → World → Prop) (kc5 : Cur g5) : Post := next (get g5 kc5) (P4 Kv)
def S7 (K : KT) (kc5 : Cur g5) (a_10 : Sl) (b_11 : Sl) (i_12 : Int) (w : World) : Prop :=
  G.cond (decide (i_12 < ((a_10.n : Nat) : Int))) (G.ix a_10.a a_10.n i_12 3 fun p13 => G.cSl p13 w.drew fun l14 => G.ix b_11.a b_11.n i_12 3 fun p15 => G.cSl p15 w.drew fun l16 => C.tocsinref04_Same l14 l16 w.drew fun b17 w18 => G.cond (!b17) (K false w18) (G.ix a_10.a a_10.n i_12 3 fun p19 => G.cI .i64 (p19.add 1) w18 fun n20 => G.ix b_11.a b_11.n i_12 3 fun p21 => G.cI .i64 (p21.add 1) w18 fun n22 => G.cond (n20 != n22) (K false w18) (G.ix a_10.a a_10.n i_12 3 fun p23 => G.cI .i64 (p23.add 2) w18 fun n24 => G.ix b_11.a b_11.n i_12 3 fun p25 => G.cI .i64 (p25.add 2) w18 fun n26 => G.cond (n24 != n26) (K false w18) (kc5 a_10 b_11 (IntKind.i64.wrap (i_12 + (1 : Int))) w18)))) (S2 K w)
theorem S7_ok (Kv : Value → World → Prop) (kc5 : Cur g5) : OkT pr false none 55 g5 (S7 (Kt Kv) kc5) (lp (blk (tl 1 (s1 (tl 2 bd))))) (P6 Kv kc5) := ok_last mixed FOk_ fun v ρ w => by kernel_rfl
def L5 (K : KT) : Cur g5 := loopC g5 (S7 K)
theorem L5_ok (Kv : Value → World → Prop) : OkT pr false none 55 g5 (L5 (Kt Kv)) (blk (tl 1 (s1 (tl 2 bd)))) (P4 Kv) := ok_loop (B := S7 (Kt Kv)) (by kernel_rfl) fun kc => S7_ok Kv kc
theorem L5_ind {K : KT} {a_4 : Sl} {b_5 : Sl} {i_6 : Int} {w : World} (h : ∀ X : Cur g5, (∀ a_4 b_5 i_6 w, S7 K X a_4 b_5 i_6 w → X a_4 b_5 i_6 w) → X a_4 b_5 i_6 w) : L5 K a_4 b_5 i_6 w := fun X hX => h X fun a_4 b_5 i_6 w hb => hX (a_4, b_5, i_6, ()) w hb
theorem B8 (Kv : Value → World → Prop) : OkT pr false none 55 g5 (L5 (Kt Kv)) (tl 1 (s1 (tl 2 bd))) (P3 Kv) := ok_block 0 (by kernel_rfl) (L5_ok Kv)
@[reducible] def g9 : List SE := [.v 0 .sl, .v 1 .sl]
def S9 (K : KT) (a_27 : Sl) (b_28 : Sl) (w : World) : Prop :=
  L5 K a_27 b_28 (0 : Int) w
theorem S9_ok (Kv : Value → World → Prop) : OkT pr false none 55 g9 (S9 (Kt Kv)) (s1 (tl 2 bd)) (P3 Kv) := ok_group mixed FOk_ 1 (B8 Kv) fun v ρ w => by kernel_rfl
theorem Q10 (Kv : Value → World → Prop) : OkT pr false none 55 g9 (S9 (Kt Kv)) (tl 2 bd) (P1 Kv) := ok_seq (by kernel_rfl) (S2_ok Kv) (S9_ok Kv)
end tocsinref21_Same
def tocsinref21_Same (a_2 : Sl) (b_3 : Sl) (w : World) (K : tocsinref21_Same.KT) : Prop :=
  G.cond (((a_2.n : Nat) : Int) != ((b_3.n : Nat) : Int)) (K false w) (tocsinref21_Same.S9 K a_2 b_3 w)
def tocsinref21_Same.cl : CL := fun args K w => match args with
  | [.slice x0_a x0_n x0_c, .slice x1_a x1_n x1_c] => C.tocsinref21_Same ⟨x0_a, x0_n, x0_c⟩ ⟨x1_a, x1_n, x1_c⟩ w (tocsinref21_Same.Kt K)
  | _ => False
theorem tocsinref21_Same.clok : OkC pr 14 tocsinref21_Same.cl := by
  intro args K w h
  unfold tocsinref21_Same.cl at h
  split at h
  · exact calls_group false mixed tocsinref21_Same.FOk_ tocsinref21_Same.fn rfl 2 (tocsinref21_Same.Q10 K) (Eq.mp (by kernel_rfl) h)
  · exact h.elim

/-! (*tocsin/alerts.Set).Len -/
namespace alerts_Set_Len
abbrev KT := Int → World → Prop
def Kt (Kv : Value → World → Prop) : KT := fun n1 w => Kv (.int .i64 n1) w
noncomputable def bd : Code := bdy Tryd.f15
theorem fn : FnOk pr 15 10 Tryd.f15 := ⟨Tryd.func15, by kernel_rfl, Tryd.ntmps15, by kernel_rfl, by kernel_rfl⟩
def F : Clee := ofL []
theorem FOk_ : FOk pr F := FOk_nil
def P1 (Kv : Value → World → Prop) : Post := bodyK false pr 10 Tryd.f15 Kv
end alerts_Set_Len
def alerts_Set_Len (s_2 : Option Addr) (w : World) (K : alerts_Set_Len.KT) : Prop :=
  G.cond s_2.isNone (K (0 : Int) w) (G.ptr s_2 fun p3 => G.cM (p3.add 2) w fun m4 => G.rdI pr (Builtin.len_ #[50] 3 #[(.map m4)]) .i64 w fun n5 => K n5 w)
def alerts_Set_Len.cl : CL := fun args K w => match args with
  | [.pointer x0] => C.alerts_Set_Len x0 w (alerts_Set_Len.Kt K)
  | _ => False
theorem alerts_Set_Len.clok : OkC pr 15 alerts_Set_Len.cl := by
  intro args K w h
  unfold alerts_Set_Len.cl at h
  split at h
  · exact calls_last false mixed alerts_Set_Len.FOk_ alerts_Set_Len.fn rfl (Eq.mp (by kernel_rfl) h)
  · exact h.elim

/-! tocsin/tocsinlaw21.AlertsStands -/
namespace tocsinlaw21_AlertsStands
abbrev KT := Bool → World → Prop
def Kt (Kv : Value → World → Prop) : KT := fun b1 w => Kv (.bool b1) w
noncomputable def bd : Code := bdy Tryd.f4
theorem fn : FnOk pr 4 231 Tryd.f4 := ⟨Tryd.func4, by kernel_rfl, Tryd.ntmps4, by kernel_rfl, by kernel_rfl⟩
def F : Clee := ofL [(6, C.alerts_New.cl), (8, C.alerts_Set_Put.cl), (9, C.tocsinlaw21_known.cl), (10, C.alerts_Set_Get.cl), (12, C.tocsinlaw21_all.cl), (13, C.alerts_Set_Sweep.cl), (14, C.tocsinref21_Same.cl), (15, C.alerts_Set_Len.cl), (16, C.tocsinref04_Compare.cl), (17, C.tocsinref04_Same.cl)]
theorem FOk_ : FOk pr F := FOk_cons C.alerts_New.clok (FOk_cons C.alerts_Set_Put.clok (FOk_cons C.tocsinlaw21_known.clok (FOk_cons C.alerts_Set_Get.clok (FOk_cons C.tocsinlaw21_all.clok (FOk_cons C.alerts_Set_Sweep.clok (FOk_cons C.tocsinref21_Same.clok (FOk_cons C.alerts_Set_Len.clok (FOk_cons C.tocsinref04_Compare.clok (FOk_cons C.tocsinref04_Same.clok (FOk_nil))))))))))
def P1 (Kv : Value → World → Prop) : Post := bodyK false pr 231 Tryd.f4 Kv
@[reducible] def g2 : List SE := []
def S2 (K : KT) (w : World) : Prop :=
  C.tocsinlaw21_known w fun b5 w6 => K b5 w6
theorem S2_ok (Kv : Value → World → Prop) : OkT pr false none 231 g2 (S2 (Kt Kv)) (s2 (tl 3 bd)) (P1 Kv) := ok_last mixed FOk_ fun v ρ w => by kernel_rfl
def P3 (Kv : Value → World → Prop) : Post := next (get g2 (S2 (Kt Kv))) (P1 Kv)
def P4 (Kv : Value → World → Prop) : Post := inBlock 0 (P3 Kv)
@[reducible] def g5 : List SE := [.v 1 (.int .i64), .v 2 .sl, .v 7 .ptr, .v 8 (.int .i64)]
def P6 (Kv : Value → World → Prop) (kc5 : Cur g5) : Post := next (get g5 kc5) (P4 Kv)
def S7 (K : KT) (kc5 : Cur g5) (most_11 : Int) (script_12 : Sl) (s_13 : Option Addr) (i_14 : Int) (w : World) : Prop :=
  kc5 most_11 script_12 s_13 (IntKind.i64.wrap (i_14 + (1 : Int))) w
theorem S7_ok (Kv : Value → World → Prop) (kc5 : Cur g5) : OkT pr false none 231 g5 (S7 (Kt Kv) kc5) (s2 (tl 1 (lp (blk (tl 1 (s1 (tl 3 bd))))))) (P6 Kv kc5) := ok_last mixed FOk_ fun v ρ w => by kernel_rfl
def P8 (Kv : Value → World → Prop) (kc5 : Cur g5) : Post := next (get g5 (S7 (Kt Kv) kc5)) (P6 Kv kc5)
def P9 (Kv : Value → World → Prop) (kc5 : Cur g5) : Post := inBlock 1 (P8 Kv kc5)
def P10 (Kv : Value → World → Prop) (kc5 : Cur g5) : Post := inBlock 6 (P9 Kv kc5)
@[reducible] def g11 : List SE := [.v 1 (.int .i64), .v 2 .sl, .v 7 .ptr, .v 8 (.int .i64), .v 9 .sl, .v 10 .ptr, .v 22 (.int .i64)]
def P12 (Kv : Value → World → Prop) (kc5 : Cur g5) (kc11 : Cur g11) : Post := next (get g11 kc11) (P10 Kv kc5)
def S13 (K : KT) (kc5 : Cur g5) (kc11 : Cur g11) (most_29 : Int) (script_30 : Sl) (s_31 : Option Addr) (i_32 : Int) (was_33 : Sl) (o_34 : Option Addr) (k_35 : Int) (w : World) : Prop :=
  G.cond (decide (k_35 < ((was_33.n : Nat) : Int))) (G.ix was_33.a was_33.n k_35 3 fun p36 => G.cSl p36 w fun l37 => C.alerts_Set_Get s_31 l37 w fun l38 n39 n40 b41 w42 => G.new (.cells #[nilS.v, (.int .i64 (0 : Int)), (.int .i64 (0 : Int))] 31) w42 fun p43 w44 => G.st p43 l38.v w44 fun w45 => G.st (p43.add 1) (.int .i64 n39) w45 fun w46 => G.st (p43.add 2) (.int .i64 n40) w46 fun w47 => G.ix was_33.a was_33.n k_35 3 fun p48 => G.cSl p48 w47.drew fun l49 => G.ptr o_34 fun p50 => G.cSl (p50.add 3) w47.drew fun l51 => C.tocsinref04_Same l49 l51 w47.drew fun b52 w53 => G.cond (!b52) (G.cond (!b41) (K false w53) (G.cSl p43 w53 fun l54 => G.cI .i64 (p43.add 1) w53 fun n55 => G.cI .i64 (p43.add 2) w53 fun n56 => G.slc was_33 k_35 (IntKind.i64.wrap (k_35 + (1 : Int))) 3 fun l57 => G.new (.cells #[l54.v, (.int .i64 n55), (.int .i64 n56)] 31) w53 fun p58 w59 => C.tocsinref21_Same (⟨some p58, 1, 1⟩ : Sl) l57 w59 fun b60 w61 => G.cond (!b60) (K false w61) (kc11 most_29 script_30 s_31 i_32 was_33 o_34 (IntKind.i64.wrap (k_35 + (1 : Int))) w61))) (kc11 most_29 script_30 s_31 i_32 was_33 o_34 (IntKind.i64.wrap (k_35 + (1 : Int))) w53)) (S7 K kc5 most_29 script_30 s_31 i_32 w)
theorem S13_ok (Kv : Value → World → Prop) (kc5 : Cur g5) (kc11 : Cur g11) : OkT pr false none 231 g11 (S13 (Kt Kv) kc5 kc11) (lp (blk (tl 1 (s2 (tl 3 (s2 (tl 2 (blk (s1 (tl 1 (lp (blk (tl 1 (s1 (tl 3 bd))))))))))))))) (P12 Kv kc5 kc11) := ok_last mixed FOk_ fun v ρ w => by kernel_rfl
def L11 (K : KT) (kc5 : Cur g5) : Cur g11 := loopC g11 (S13 K kc5)
theorem L11_ok (Kv : Value → World → Prop) (kc5 : Cur g5) : OkT pr false none 231 g11 (L11 (Kt Kv) kc5) (blk (tl 1 (s2 (tl 3 (s2 (tl 2 (blk (s1 (tl 1 (lp (blk (tl 1 (s1 (tl 3 bd)))))))))))))) (P10 Kv kc5) := ok_loop (B := S13 (Kt Kv) kc5) (by kernel_rfl) fun kc => S13_ok Kv kc5 kc
theorem L11_ind {K : KT} {kc5 : Cur g5} {most_15 : Int} {script_16 : Sl} {s_17 : Option Addr} {i_18 : Int} {was_19 : Sl} {o_20 : Option Addr} {k_21 : Int} {w : World} (h : ∀ X : Cur g11, (∀ most_15 script_16 s_17 i_18 was_19 o_20 k_21 w, S13 K kc5 X most_15 script_16 s_17 i_18 was_19 o_20 k_21 w → X most_15 script_16 s_17 i_18 was_19 o_20 k_21 w) → X most_15 script_16 s_17 i_18 was_19 o_20 k_21 w) : L11 K kc5 most_15 script_16 s_17 i_18 was_19 o_20 k_21 w := fun X hX => h X fun most_15 script_16 s_17 i_18 was_19 o_20 k_21 w hb => hX (most_15, script_16, s_17, i_18, was_19, o_20, k_21, ()) w hb
theorem B14 (Kv : Value → World → Prop) (kc5 : Cur g5) : OkT pr false none 231 g11 (L11 (Kt Kv) kc5) (tl 1 (s2 (tl 3 (s2 (tl 2 (blk (s1 (tl 1 (lp (blk (tl 1 (s1 (tl 3 bd))))))))))))) (P9 Kv kc5) := ok_block 6 (by kernel_rfl) (L11_ok Kv kc5)
@[reducible] def g15 : List SE := [.v 1 (.int .i64), .v 2 .sl, .v 7 .ptr, .v 8 (.int .i64), .v 9 .sl, .v 10 .ptr]
def S15 (K : KT) (kc5 : Cur g5) (most_62 : Int) (script_63 : Sl) (s_64 : Option Addr) (i_65 : Int) (was_66 : Sl) (o_67 : Option Addr) (w : World) : Prop :=
  L11 K kc5 most_62 script_63 s_64 i_65 was_66 o_67 (0 : Int) w
theorem S15_ok (Kv : Value → World → Prop) (kc5 : Cur g5) : OkT pr false none 231 g15 (S15 (Kt Kv) kc5) (s2 (tl 3 (s2 (tl 2 (blk (s1 (tl 1 (lp (blk (tl 1 (s1 (tl 3 bd)))))))))))) (P9 Kv kc5) := ok_group mixed FOk_ 1 (B14 Kv kc5) fun v ρ w => by kernel_rfl
def P16 (Kv : Value → World → Prop) (kc5 : Cur g5) : Post := next (get g15 (S15 (Kt Kv) kc5)) (P9 Kv kc5)
def P17 (Kv : Value → World → Prop) (kc5 : Cur g5) : Post := inBlock 4 (P16 Kv kc5)
@[reducible] def g18 : List SE := [.v 1 (.int .i64), .v 2 .sl, .v 7 .ptr, .v 8 (.int .i64), .v 9 .sl, .v 10 .ptr, .v 20 .sl, .v 21 (.int .i64)]
def P19 (Kv : Value → World → Prop) (kc5 : Cur g5) (kc18 : Cur g18) : Post := next (get g18 kc18) (P17 Kv kc5)
def S20 (K : KT) (kc5 : Cur g5) (kc18 : Cur g18) (most_84 : Int) (script_85 : Sl) (s_86 : Option Addr) (i_87 : Int) (was_88 : Sl) (o_89 : Option Addr) (l_90 : Sl) (k_91 : Int) (w : World) : Prop :=
  G.cond (decide (k_91 < ((l_90.n : Nat) : Int))) (G.ix l_90.a l_90.n k_91 3 fun p92 => G.cI .i64 (p92.add 1) w.drew fun n93 => G.ix l_90.a l_90.n k_91 3 fun p94 => G.cI .i64 (p94.add 2) w.drew fun n95 => G.cond (decide (n93 > n95)) (K false w.drew) (G.cond (decide (k_91 > (0 : Int))) (G.ix l_90.a l_90.n (IntKind.i64.wrap (k_91 - (1 : Int))) 3 fun p96 => G.cSl p96 w.drew fun l97 => G.ix l_90.a l_90.n k_91 3 fun p98 => G.cSl p98 w.drew fun l99 => C.tocsinref04_Compare l97 l99 w.drew fun n100 w101 => G.cond (decide (n100 ≥ (0 : Int))) (K false w101) (kc18 most_84 script_85 s_86 i_87 was_88 o_89 l_90 (IntKind.i64.wrap (k_91 + (1 : Int))) w101)) (kc18 most_84 script_85 s_86 i_87 was_88 o_89 l_90 (IntKind.i64.wrap (k_91 + (1 : Int))) w.drew))) (S15 K kc5 most_84 script_85 s_86 i_87 was_88 o_89 w)
theorem S20_ok (Kv : Value → World → Prop) (kc5 : Cur g5) (kc18 : Cur g18) : OkT pr false none 231 g18 (S20 (Kt Kv) kc5 kc18) (lp (blk (tl 1 (s1 (tl 3 (s2 (tl 2 (blk (s1 (tl 1 (lp (blk (tl 1 (s1 (tl 3 bd))))))))))))))) (P19 Kv kc5 kc18) := ok_last mixed FOk_ fun v ρ w => by kernel_rfl
def L18 (K : KT) (kc5 : Cur g5) : Cur g18 := loopC g18 (S20 K kc5)
theorem L18_ok (Kv : Value → World → Prop) (kc5 : Cur g5) : OkT pr false none 231 g18 (L18 (Kt Kv) kc5) (blk (tl 1 (s1 (tl 3 (s2 (tl 2 (blk (s1 (tl 1 (lp (blk (tl 1 (s1 (tl 3 bd)))))))))))))) (P17 Kv kc5) := ok_loop (B := S20 (Kt Kv) kc5) (by kernel_rfl) fun kc => S20_ok Kv kc5 kc
theorem L18_ind {K : KT} {kc5 : Cur g5} {most_68 : Int} {script_69 : Sl} {s_70 : Option Addr} {i_71 : Int} {was_72 : Sl} {o_73 : Option Addr} {l_74 : Sl} {k_75 : Int} {w : World} (h : ∀ X : Cur g18, (∀ most_68 script_69 s_70 i_71 was_72 o_73 l_74 k_75 w, S20 K kc5 X most_68 script_69 s_70 i_71 was_72 o_73 l_74 k_75 w → X most_68 script_69 s_70 i_71 was_72 o_73 l_74 k_75 w) → X most_68 script_69 s_70 i_71 was_72 o_73 l_74 k_75 w) : L18 K kc5 most_68 script_69 s_70 i_71 was_72 o_73 l_74 k_75 w := fun X hX => h X fun most_68 script_69 s_70 i_71 was_72 o_73 l_74 k_75 w hb => hX (most_68, script_69, s_70, i_71, was_72, o_73, l_74, k_75, ()) w hb
theorem B21 (Kv : Value → World → Prop) (kc5 : Cur g5) : OkT pr false none 231 g18 (L18 (Kt Kv) kc5) (tl 1 (s1 (tl 3 (s2 (tl 2 (blk (s1 (tl 1 (lp (blk (tl 1 (s1 (tl 3 bd))))))))))))) (P16 Kv kc5) := ok_block 4 (by kernel_rfl) (L18_ok Kv kc5)
@[reducible] def g22 : List SE := [.v 1 (.int .i64), .v 2 .sl, .v 7 .ptr, .v 8 (.int .i64), .v 9 .sl, .v 10 .ptr, .v 20 .sl]
def S22 (K : KT) (kc5 : Cur g5) (most_102 : Int) (script_103 : Sl) (s_104 : Option Addr) (i_105 : Int) (was_106 : Sl) (o_107 : Option Addr) (l_108 : Sl) (w : World) : Prop :=
  L18 K kc5 most_102 script_103 s_104 i_105 was_106 o_107 l_108 (0 : Int) w
theorem S22_ok (Kv : Value → World → Prop) (kc5 : Cur g5) : OkT pr false none 231 g22 (S22 (Kt Kv) kc5) (s1 (tl 3 (s2 (tl 2 (blk (s1 (tl 1 (lp (blk (tl 1 (s1 (tl 3 bd)))))))))))) (P16 Kv kc5) := ok_group mixed FOk_ 1 (B21 Kv kc5) fun v ρ w => by kernel_rfl
theorem Q23 (Kv : Value → World → Prop) (kc5 : Cur g5) : OkT pr false none 231 g22 (S22 (Kt Kv) kc5) (tl 3 (s2 (tl 2 (blk (s1 (tl 1 (lp (blk (tl 1 (s1 (tl 3 bd))))))))))) (P9 Kv kc5) := ok_seq (by kernel_rfl) (S15_ok Kv kc5) (S22_ok Kv kc5)
def S24 (K : KT) (kc5 : Cur g5) (most_109 : Int) (script_110 : Sl) (s_111 : Option Addr) (i_112 : Int) (was_113 : Sl) (o_114 : Option Addr) (w : World) : Prop :=
  G.ptr o_114 fun p115 => G.cI .i64 (p115.add 1) w fun n116 => G.ptr o_114 fun p117 => G.cSl (p117.add 3) w fun l118 => G.cI .i64 ((p117.add 3).add 1) w fun n119 => G.cI .i64 ((p117.add 3).add 2) w fun n120 => C.alerts_Set_Put s_111 n116 l118 n119 n120 w fun n121 w122 => C.tocsinlaw21_all s_111 (0 : Int) w122 fun l123 w124 => G.cond (n121 != (0 : Int)) (C.tocsinref21_Same l123 was_113 w124 fun b125 w126 => G.cond (!b125) (K false w126) (G.cond (decide (((l123.n : Nat) : Int) > most_109)) (K false w126) (C.alerts_Set_Len s_111 w126 fun n127 w128 => G.cond (((l123.n : Nat) : Int) != n127) (K false w128) (S22 K kc5 most_109 script_110 s_111 i_112 was_113 o_114 l123 w128)))) (G.cond (decide (((l123.n : Nat) : Int) > most_109)) (K false w124) (C.alerts_Set_Len s_111 w124 fun n129 w130 => G.cond (((l123.n : Nat) : Int) != n129) (K false w130) (S22 K kc5 most_109 script_110 s_111 i_112 was_113 o_114 l123 w130)))
theorem S24_ok (Kv : Value → World → Prop) (kc5 : Cur g5) : OkT pr false none 231 g15 (S24 (Kt Kv) kc5) (s2 (tl 2 (blk (s1 (tl 1 (lp (blk (tl 1 (s1 (tl 3 bd)))))))))) (P9 Kv kc5) := ok_group mixed FOk_ 3 (Q23 Kv kc5) fun v ρ w => by kernel_rfl
def P25 (Kv : Value → World → Prop) (kc5 : Cur g5) : Post := next (get g15 (S24 (Kt Kv) kc5)) (P9 Kv kc5)
def S26 (K : KT) (kc5 : Cur g5) (most_131 : Int) (script_132 : Sl) (s_133 : Option Addr) (i_134 : Int) (w : World) : Prop :=
  S7 K kc5 most_131 script_132 s_133 i_134 w
theorem S26_ok (Kv : Value → World → Prop) (kc5 : Cur g5) : OkT pr false none 231 g5 (S26 (Kt Kv) kc5) (s2 (tl 4 (c1 (tl 1 (s1 (tl 2 (blk (s1 (tl 1 (lp (blk (tl 1 (s1 (tl 3 bd)))))))))))))) (P25 Kv kc5) := ok_last mixed FOk_ fun v ρ w => by kernel_rfl
def P27 (Kv : Value → World → Prop) (kc5 : Cur g5) : Post := next (get g5 (S26 (Kt Kv) kc5)) (P25 Kv kc5)
def P28 (Kv : Value → World → Prop) (kc5 : Cur g5) : Post := inBlock 2 (P27 Kv kc5)
@[reducible] def g29 : List SE := [.v 1 (.int .i64), .v 2 .sl, .v 7 .ptr, .v 8 (.int .i64), .v 9 .sl, .v 10 .ptr, .v 12 (.int .i64), .v 16 (.int .i64)]
def P30 (Kv : Value → World → Prop) (kc5 : Cur g5) (kc29 : Cur g29) : Post := next (get g29 kc29) (P28 Kv kc5)
def S31 (K : KT) (kc5 : Cur g5) (kc29 : Cur g29) (most_151 : Int) (script_152 : Sl) (s_153 : Option Addr) (i_154 : Int) (was_155 : Sl) (o_156 : Option Addr) (e_157 : Int) (k_158 : Int) (w : World) : Prop :=
  G.cond (decide (k_158 < ((was_155.n : Nat) : Int))) (G.ix was_155.a was_155.n k_158 3 fun p159 => G.cSl p159 w fun l160 => C.alerts_Set_Get s_153 l160 w fun l161 n162 n163 b164 w165 => G.new (.cells #[nilS.v, (.int .i64 (0 : Int)), (.int .i64 (0 : Int))] 31) w165 fun p166 w167 => G.st p166 l161.v w167 fun w168 => G.st (p166.add 1) (.int .i64 n162) w168 fun w169 => G.st (p166.add 2) (.int .i64 n163) w169 fun w170 => G.cond (e_157 == (0 : Int)) (G.ix was_155.a was_155.n k_158 3 fun p171 => G.cI .i64 (p171.add 1) w170.drew fun n172 => G.ptr o_156 fun p173 => G.cI .i64 (p173.add 1) w170.drew fun n174 => G.cond (decide (n172 ≤ n174)) (G.ptr o_156 fun p175 => G.cI .i64 (p175.add 1) w170.drew fun n176 => G.ix was_155.a was_155.n k_158 3 fun p177 => G.cI .i64 (p177.add 2) w170.drew fun n178 => G.cond (decide (n176 < n178)) (G.cond (!b164) (K false w170.drew) (kc29 most_151 script_152 s_153 i_154 was_155 o_156 e_157 (IntKind.i64.wrap (k_158 + (1 : Int))) w170.drew)) (kc29 most_151 script_152 s_153 i_154 was_155 o_156 e_157 (IntKind.i64.wrap (k_158 + (1 : Int))) w170.drew)) (kc29 most_151 script_152 s_153 i_154 was_155 o_156 e_157 (IntKind.i64.wrap (k_158 + (1 : Int))) w170.drew)) (kc29 most_151 script_152 s_153 i_154 was_155 o_156 e_157 (IntKind.i64.wrap (k_158 + (1 : Int))) w170.drew)) (S26 K kc5 most_151 script_152 s_153 i_154 w)
theorem S31_ok (Kv : Value → World → Prop) (kc5 : Cur g5) (kc29 : Cur g29) : OkT pr false none 231 g29 (S31 (Kt Kv) kc5 kc29) (lp (blk (tl 1 (s1 (tl 4 (c1 (tl 1 (s1 (tl 2 (blk (s1 (tl 1 (lp (blk (tl 1 (s1 (tl 3 bd))))))))))))))))) (P30 Kv kc5 kc29) := ok_last mixed FOk_ fun v ρ w => by kernel_rfl
def L29 (K : KT) (kc5 : Cur g5) : Cur g29 := loopC g29 (S31 K kc5)
theorem L29_ok (Kv : Value → World → Prop) (kc5 : Cur g5) : OkT pr false none 231 g29 (L29 (Kt Kv) kc5) (blk (tl 1 (s1 (tl 4 (c1 (tl 1 (s1 (tl 2 (blk (s1 (tl 1 (lp (blk (tl 1 (s1 (tl 3 bd)))))))))))))))) (P28 Kv kc5) := ok_loop (B := S31 (Kt Kv) kc5) (by kernel_rfl) fun kc => S31_ok Kv kc5 kc
theorem L29_ind {K : KT} {kc5 : Cur g5} {most_135 : Int} {script_136 : Sl} {s_137 : Option Addr} {i_138 : Int} {was_139 : Sl} {o_140 : Option Addr} {e_141 : Int} {k_142 : Int} {w : World} (h : ∀ X : Cur g29, (∀ most_135 script_136 s_137 i_138 was_139 o_140 e_141 k_142 w, S31 K kc5 X most_135 script_136 s_137 i_138 was_139 o_140 e_141 k_142 w → X most_135 script_136 s_137 i_138 was_139 o_140 e_141 k_142 w) → X most_135 script_136 s_137 i_138 was_139 o_140 e_141 k_142 w) : L29 K kc5 most_135 script_136 s_137 i_138 was_139 o_140 e_141 k_142 w := fun X hX => h X fun most_135 script_136 s_137 i_138 was_139 o_140 e_141 k_142 w hb => hX (most_135, script_136, s_137, i_138, was_139, o_140, e_141, k_142, ()) w hb
theorem B32 (Kv : Value → World → Prop) (kc5 : Cur g5) : OkT pr false none 231 g29 (L29 (Kt Kv) kc5) (tl 1 (s1 (tl 4 (c1 (tl 1 (s1 (tl 2 (blk (s1 (tl 1 (lp (blk (tl 1 (s1 (tl 3 bd))))))))))))))) (P27 Kv kc5) := ok_block 2 (by kernel_rfl) (L29_ok Kv kc5)
@[reducible] def g33 : List SE := [.v 1 (.int .i64), .v 2 .sl, .v 7 .ptr, .v 8 (.int .i64), .v 9 .sl, .v 10 .ptr, .v 12 (.int .i64)]
def S33 (K : KT) (kc5 : Cur g5) (most_179 : Int) (script_180 : Sl) (s_181 : Option Addr) (i_182 : Int) (was_183 : Sl) (o_184 : Option Addr) (e_185 : Int) (w : World) : Prop :=
  L29 K kc5 most_179 script_180 s_181 i_182 was_183 o_184 e_185 (0 : Int) w
theorem S33_ok (Kv : Value → World → Prop) (kc5 : Cur g5) : OkT pr false none 231 g33 (S33 (Kt Kv) kc5) (s1 (tl 4 (c1 (tl 1 (s1 (tl 2 (blk (s1 (tl 1 (lp (blk (tl 1 (s1 (tl 3 bd)))))))))))))) (P27 Kv kc5) := ok_group mixed FOk_ 1 (B32 Kv kc5) fun v ρ w => by kernel_rfl
theorem Q34 (Kv : Value → World → Prop) (kc5 : Cur g5) : OkT pr false none 231 g33 (S33 (Kt Kv) kc5) (tl 4 (c1 (tl 1 (s1 (tl 2 (blk (s1 (tl 1 (lp (blk (tl 1 (s1 (tl 3 bd))))))))))))) (P25 Kv kc5) := ok_seq (by kernel_rfl) (S26_ok Kv kc5) (S33_ok Kv kc5)
@[reducible] def g35 : List SE := [.v 1 (.int .i64), .v 2 .sl, .v 7 .ptr, .v 8 (.int .i64), .v 9 .sl, .v 10 .ptr, .v 45 .bool]
def S35 (K : KT) (kc5 : Cur g5) (most_186 : Int) (script_187 : Sl) (s_188 : Option Addr) (i_189 : Int) (was_190 : Sl) (o_191 : Option Addr) (b192 : Bool) (w : World) : Prop :=
  G.ptr o_191 fun p193 => G.cI .i64 (p193.add 1) w fun n194 => G.ptr o_191 fun p195 => G.cI .i64 (p195.add 2) w fun n196 => C.alerts_Set_Sweep s_188 n194 n196 w fun n197 n198 w199 => C.tocsinlaw21_all s_188 (0 : Int) w199 fun l200 w201 => G.ptr o_191 fun p202 => G.cI .i64 (p202.add 1) w201 fun n203 => G.ptr o_191 fun p204 => G.cI .i64 (p204.add 2) w201 fun n205 => C.alerts_Set_Sweep s_188 n203 n205 w201 fun n206 n207 w208 => G.cond (n197 != (IntKind.i64.wrap (((was_190.n : Nat) : Int) - ((l200.n : Nat) : Int)))) (K false w208) (G.cond (n206 != (0 : Int)) (K false w208) (G.cond (n198 != n207) (K false w208) (S33 K kc5 most_186 script_187 s_188 i_189 was_190 o_191 n198 w208)))
theorem S35_ok (Kv : Value → World → Prop) (kc5 : Cur g5) : OkT pr false none 231 g35 (S35 (Kt Kv) kc5) (c1 (tl 1 (s1 (tl 2 (blk (s1 (tl 1 (lp (blk (tl 1 (s1 (tl 3 bd)))))))))))) (P25 Kv kc5) := ok_group mixed FOk_ 4 (Q34 Kv kc5) fun v ρ w => by kernel_rfl
def S36 (K : KT) (kc5 : Cur g5) (most_209 : Int) (script_210 : Sl) (s_211 : Option Addr) (i_212 : Int) (was_213 : Sl) (o_214 : Option Addr) (b215 : Bool) (w : World) : Prop :=
  S24 K kc5 most_209 script_210 s_211 i_212 was_213 o_214 w
theorem S36_ok (Kv : Value → World → Prop) (kc5 : Cur g5) : OkT pr false none 231 g35 (S36 (Kt Kv) kc5) (c2 (tl 1 (s1 (tl 2 (blk (s1 (tl 1 (lp (blk (tl 1 (s1 (tl 3 bd)))))))))))) (P25 Kv kc5) := ok_last mixed FOk_ fun v ρ w => by kernel_rfl
def D37 (K : KT) (kc5 : Cur g5) (most_216 : Int) (script_217 : Sl) (s_218 : Option Addr) (i_219 : Int) (was_220 : Sl) (o_221 : Option Addr) (b222 : Bool) (w : World) : Prop :=
  G.cond b222 (S35 K kc5 most_216 script_217 s_218 i_219 was_220 o_221 b222 w) (S36 K kc5 most_216 script_217 s_218 i_219 was_220 o_221 b222 w)
theorem D37_ok (Kv : Value → World → Prop) (kc5 : Cur g5) : OkT pr false none 231 g35 (D37 (Kt Kv) kc5) (tl 1 (s1 (tl 2 (blk (s1 (tl 1 (lp (blk (tl 1 (s1 (tl 3 bd))))))))))) (P25 Kv kc5) :=
  ok_cond 45 (fun v => v.2.2.2.2.2.2.1) (by kernel_rfl) (fun v ρ => by kernel_rfl) (fun v w => by kernel_rfl) (S35_ok Kv kc5) (S36_ok Kv kc5)
def S38 (K : KT) (kc5 : Cur g5) (most_223 : Int) (script_224 : Sl) (s_225 : Option Addr) (i_226 : Int) (was_227 : Sl) (o_228 : Option Addr) (w : World) : Prop :=
  G.ptr o_228 fun p229 => G.cI .i64 p229 w fun n230 => D37 K kc5 most_223 script_224 s_225 i_226 was_227 o_228 (n230 == (1 : Int)) w
theorem S38_ok (Kv : Value → World → Prop) (kc5 : Cur g5) : OkT pr false none 231 g15 (S38 (Kt Kv) kc5) (s1 (tl 2 (blk (s1 (tl 1 (lp (blk (tl 1 (s1 (tl 3 bd)))))))))) (P25 Kv kc5) := ok_group mixed FOk_ 1 (D37_ok Kv kc5) fun v ρ w => by kernel_rfl
theorem Q39 (Kv : Value → World → Prop) (kc5 : Cur g5) : OkT pr false none 231 g15 (S38 (Kt Kv) kc5) (tl 2 (blk (s1 (tl 1 (lp (blk (tl 1 (s1 (tl 3 bd))))))))) (P9 Kv kc5) := ok_seq (by kernel_rfl) (S24_ok Kv kc5) (S38_ok Kv kc5)
def S40 (K : KT) (kc5 : Cur g5) (most_231 : Int) (script_232 : Sl) (s_233 : Option Addr) (i_234 : Int) (w : World) : Prop :=
  C.tocsinlaw21_all s_233 (0 : Int) w fun l235 w236 => G.ix script_232.a script_232.n i_234 6 fun p237 => G.cI .i64 p237 w236 fun n238 => G.cI .i64 (p237.add 1) w236 fun n239 => G.cI .i64 (p237.add 2) w236 fun n240 => G.cSl (p237.add 3) w236 fun l241 => G.cI .i64 (p237.add 4) w236 fun n242 => G.cI .i64 (p237.add 5) w236 fun n243 => G.new (.cells #[(.int .i64 (0 : Int)), (.int .i64 (0 : Int)), (.int .i64 (0 : Int)), nilS.v, (.int .i64 (0 : Int)), (.int .i64 (0 : Int))] 41) w236 fun p244 w245 => G.st p244 (.int .i64 n238) w245 fun w246 => G.st (p244.add 1) (.int .i64 n239) w246 fun w247 => G.st (p244.add 2) (.int .i64 n240) w247 fun w248 => G.st (p244.add 3) l241.v w248 fun w249 => G.st (p244.add 4) (.int .i64 n242) w249 fun w250 => G.st (p244.add 5) (.int .i64 n243) w250 fun w251 => S38 K kc5 most_231 script_232 s_233 i_234 l235 (some p244) w251
theorem S40_ok (Kv : Value → World → Prop) (kc5 : Cur g5) : OkT pr false none 231 g5 (S40 (Kt Kv) kc5) (blk (s1 (tl 1 (lp (blk (tl 1 (s1 (tl 3 bd)))))))) (P9 Kv kc5) := ok_group mixed FOk_ 2 (Q39 Kv kc5) fun v ρ w => by kernel_rfl
theorem B41 (Kv : Value → World → Prop) (kc5 : Cur g5) : OkT pr false none 231 g5 (S40 (Kt Kv) kc5) (s1 (tl 1 (lp (blk (tl 1 (s1 (tl 3 bd))))))) (P8 Kv kc5) := ok_block 1 (by kernel_rfl) (S40_ok Kv kc5)
theorem Q42 (Kv : Value → World → Prop) (kc5 : Cur g5) : OkT pr false none 231 g5 (S40 (Kt Kv) kc5) (tl 1 (lp (blk (tl 1 (s1 (tl 3 bd)))))) (P6 Kv kc5) := ok_seq (by kernel_rfl) (S7_ok Kv kc5) (B41 Kv kc5)
def S43 (K : KT) (kc5 : Cur g5) (most_252 : Int) (script_253 : Sl) (s_254 : Option Addr) (i_255 : Int) (w : World) : Prop :=
  G.cond (decide (i_255 < ((script_253.n : Nat) : Int))) (S40 K kc5 most_252 script_253 s_254 i_255 w) (S2 K w)
theorem S43_ok (Kv : Value → World → Prop) (kc5 : Cur g5) : OkT pr false none 231 g5 (S43 (Kt Kv) kc5) (lp (blk (tl 1 (s1 (tl 3 bd))))) (P6 Kv kc5) := ok_group mixed FOk_ 1 (Q42 Kv kc5) fun v ρ w => by kernel_rfl
def L5 (K : KT) : Cur g5 := loopC g5 (S43 K)
theorem L5_ok (Kv : Value → World → Prop) : OkT pr false none 231 g5 (L5 (Kt Kv)) (blk (tl 1 (s1 (tl 3 bd)))) (P4 Kv) := ok_loop (B := S43 (Kt Kv)) (by kernel_rfl) fun kc => S43_ok Kv kc
theorem L5_ind {K : KT} {most_7 : Int} {script_8 : Sl} {s_9 : Option Addr} {i_10 : Int} {w : World} (h : ∀ X : Cur g5, (∀ most_7 script_8 s_9 i_10 w, S43 K X most_7 script_8 s_9 i_10 w → X most_7 script_8 s_9 i_10 w) → X most_7 script_8 s_9 i_10 w) : L5 K most_7 script_8 s_9 i_10 w := fun X hX => h X fun most_7 script_8 s_9 i_10 w hb => hX (most_7, script_8, s_9, i_10, ()) w hb
theorem B44 (Kv : Value → World → Prop) : OkT pr false none 231 g5 (L5 (Kt Kv)) (tl 1 (s1 (tl 3 bd))) (P3 Kv) := ok_block 0 (by kernel_rfl) (L5_ok Kv)
@[reducible] def g45 : List SE := [.v 1 (.int .i64), .v 2 .sl, .v 7 .ptr]
def S45 (K : KT) (most_256 : Int) (script_257 : Sl) (s_258 : Option Addr) (w : World) : Prop :=
  L5 K most_256 script_257 s_258 (0 : Int) w
theorem S45_ok (Kv : Value → World → Prop) : OkT pr false none 231 g45 (S45 (Kt Kv)) (s1 (tl 3 bd)) (P3 Kv) := ok_group mixed FOk_ 1 (B44 Kv) fun v ρ w => by kernel_rfl
theorem Q46 (Kv : Value → World → Prop) : OkT pr false none 231 g45 (S45 (Kt Kv)) (tl 3 bd) (P1 Kv) := ok_seq (by kernel_rfl) (S2_ok Kv) (S45_ok Kv)
end tocsinlaw21_AlertsStands
def tocsinlaw21_AlertsStands (resolve_2 : Int) (most_3 : Int) (script_4 : Sl) (w : World) (K : tocsinlaw21_AlertsStands.KT) : Prop :=
  C.alerts_New resolve_2 most_3 w fun p259 w260 => G.cond p259.isNone (C.tocsinlaw21_known w260 fun b261 w262 => K b261 w262) (tocsinlaw21_AlertsStands.S45 K most_3 script_4 p259 w260)
def tocsinlaw21_AlertsStands.cl : CL := fun args K w => match args with
  | [.int .i64 x0, .int .i64 x1, .slice x2_a x2_n x2_c] => C.tocsinlaw21_AlertsStands x0 x1 ⟨x2_a, x2_n, x2_c⟩ w (tocsinlaw21_AlertsStands.Kt K)
  | _ => False
theorem tocsinlaw21_AlertsStands.clok : OkC pr 4 tocsinlaw21_AlertsStands.cl := by
  intro args K w h
  unfold tocsinlaw21_AlertsStands.cl at h
  split at h
  · exact calls_group false mixed tocsinlaw21_AlertsStands.FOk_ tocsinlaw21_AlertsStands.fn rfl 3 (tocsinlaw21_AlertsStands.Q46 K) (Eq.mp (by kernel_rfl) h)
  · exact h.elim

/-! tocsin/tocsinlaw21.AlertsNil -/
namespace tocsinlaw21_AlertsNil
abbrev KT := Bool → World → Prop
def Kt (Kv : Value → World → Prop) : KT := fun b1 w => Kv (.bool b1) w
noncomputable def bd : Code := bdy Tryd.f5
theorem fn : FnOk pr 5 61 Tryd.f5 := ⟨Tryd.func5, by kernel_rfl, Tryd.ntmps5, by kernel_rfl, by kernel_rfl⟩
def F : Clee := ofL [(8, C.alerts_Set_Put.cl), (9, C.tocsinlaw21_known.cl), (10, C.alerts_Set_Get.cl), (11, C.alerts_Set_Firing.cl), (12, C.tocsinlaw21_all.cl), (13, C.alerts_Set_Sweep.cl), (15, C.alerts_Set_Len.cl)]
theorem FOk_ : FOk pr F := FOk_cons C.alerts_Set_Put.clok (FOk_cons C.tocsinlaw21_known.clok (FOk_cons C.alerts_Set_Get.clok (FOk_cons C.alerts_Set_Firing.clok (FOk_cons C.tocsinlaw21_all.clok (FOk_cons C.alerts_Set_Sweep.clok (FOk_cons C.alerts_Set_Len.clok (FOk_nil)))))))
def P1 (Kv : Value → World → Prop) : Post := bodyK false pr 61 Tryd.f5 Kv
end tocsinlaw21_AlertsNil
def tocsinlaw21_AlertsNil (now_2 : Int) (a_3 : Sl) (a_4 : Int) (a_5 : Int) (w : World) (K : tocsinlaw21_AlertsNil.KT) : Prop :=
  G.new (.cells #[a_3.v, (.int .i64 a_4), (.int .i64 a_5)] 31) w fun p6 w7 => C.alerts_Set_Sweep none now_2 (1 : Int) w7 fun n8 n9 w10 => G.cSl p6 w10 fun l11 => C.alerts_Set_Get none l11 w10 fun l12 n13 n14 b15 w16 => G.new (.cells #[nilS.v, (.int .i64 (0 : Int)), (.int .i64 (0 : Int))] 31) w16 fun p17 w18 => G.st p17 l12.v w18 fun w19 => G.st (p17.add 1) (.int .i64 n13) w19 fun w20 => G.st (p17.add 2) (.int .i64 n14) w20 fun w21 => G.cSl p6 w21 fun l22 => G.cI .i64 (p6.add 1) w21 fun n23 => G.cI .i64 (p6.add 2) w21 fun n24 => C.alerts_Set_Put none now_2 l22 n23 n24 w21 fun n25 w26 => G.cond (n25 == (2 : Int)) (G.cond (n8 == (0 : Int)) (G.cond (n9 == (2 : Int)) (G.cond (!b15) (C.alerts_Set_Firing none now_2 w26 fun l27 w28 => G.cond (((l27.n : Nat) : Int) == (0 : Int)) (C.tocsinlaw21_all none (0 : Int) w28 fun l29 w30 => G.cond (((l29.n : Nat) : Int) == (0 : Int)) (C.alerts_Set_Len none w30 fun n31 w32 => G.cond (n31 == (0 : Int)) (C.tocsinlaw21_known w32 fun b33 w34 => K b33 w34) (K false w32)) (K false w30)) (K false w28)) (K false w26)) (K false w26)) (K false w26)) (K false w26)
def tocsinlaw21_AlertsNil.cl : CL := fun args K w => match args with
  | [.int .i64 x0, .agg ⟨[.slice x1_0_a x1_0_n x1_0_c, .int .i64 x1_1, .int .i64 x1_2]⟩] => C.tocsinlaw21_AlertsNil x0 ⟨x1_0_a, x1_0_n, x1_0_c⟩ x1_1 x1_2 w (tocsinlaw21_AlertsNil.Kt K)
  | _ => False
theorem tocsinlaw21_AlertsNil.clok : OkC pr 5 tocsinlaw21_AlertsNil.cl := by
  intro args K w h
  unfold tocsinlaw21_AlertsNil.cl at h
  split at h
  · exact calls_last false mixed tocsinlaw21_AlertsNil.FOk_ tocsinlaw21_AlertsNil.fn rfl (Eq.mp (by kernel_rfl) h)
  · exact h.elim
end C
end Go.Proofs.YtfkpehcbijgmnaaDoor
