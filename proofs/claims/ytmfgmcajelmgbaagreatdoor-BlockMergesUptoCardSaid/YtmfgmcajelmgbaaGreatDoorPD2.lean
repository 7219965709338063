/- (several texts in one: Cx) Own work. -/
import Derived.Test.YtmfgmcajelmgbaaGreatDoorProg
import Derived.Laws.LoneSync
import Derived.Lib.Bytealg
import Derived.Test.YtmfgmcajelmgbaaGreatDoorPD1
set_option linter.unusedVariables false
set_option maxRecDepth 100000
namespace Go.Proofs.YtmfgmcajelmgbaaGreatDoor
open Go Vm
namespace C
abbrev VW:=Value→World→Prop
variable (Kv : VW)
noncomputable abbrev pr:Program:=Tryz.prog
theorem mixed:pr.follows .mixedOrders=true:=by kernel_rfl
namespace block_Trim_1
abbrev KT:=Bool→World→Prop
def Kt:KT:=fun b1 w=>Kv (.bool b1) w
noncomputable def bd:Code:=bdy Tryz.f76
theorem fn:FnOk pr 76 8 Tryz.f76:=⟨Tryz.func76,by kernel_rfl,Tryz.ntmps76,by kernel_rfl,by kernel_rfl⟩
def F:Clee:=ofL []
theorem FOk_:FOk pr F:=FOk_nil
def P1:Post:=bodyK false pr 8 Tryz.f76 Kv
end block_Trim_1
def block_Trim_1 (x_2:Int) (x_3:Nat) (p_4:Option Addr) (w:World) (K:block_Trim_1.KT):Prop :=
 G.new (.cells #[(.int .i64 x_2),(.float .f64 x_3)] 96) w fun p5 w6=>G.cI .i64 p5 w6 fun n7=>G.ptr p_4 fun p8=>G.cI .i64 p8 w6 fun n9=>K (decide (n7<n9)) w6
def block_Trim_1.cl:CL:=fun args K w=>match args with
 | [.agg ⟨[.int .i64 x0_0,.float .f64 x0_1]⟩,.pointer x1]=>C.block_Trim_1 x0_0 x0_1 x1 w (block_Trim_1.Kt K)
 | _=>False
theorem block_Trim_1.clok:OkC pr 76 block_Trim_1.cl:=by
 intro args K w h
 unfold block_Trim_1.cl at h
 split at h
 ·exact calls_last false mixed block_Trim_1.FOk_ block_Trim_1.fn rfl (Eq.mp (by kernel_rfl) h)
 ·exact h.elim
namespace slices_Clone_Label_Label
abbrev KT:=Sl→World→Prop
def Kt:KT:=fun l1 w=>Kv l1.v w
noncomputable def bd:Code:=bdy Tryz.f65
theorem fn:FnOk pr 65 8 Tryz.f65:=⟨Tryz.func65,by kernel_rfl,Tryz.ntmps65,by kernel_rfl,by kernel_rfl⟩
def F:Clee:=ofL []
theorem FOk_:FOk pr F:=FOk_nil
def P1:Post:=bodyK false pr 8 Tryz.f65 Kv
end slices_Clone_Label_Label
def slices_Clone_Label_Label (s_2:Sl) (w:World) (K:slices_Clone_Label_Label.KT):Prop :=
 G.cond s_2.a.isNone (K nilS w) (G.new (.cells #[] 93) w fun p3 w4=>G.runSl pr (Builtin.append_ #[49,49] 49 #[(Sl.v (⟨some p3,0,0⟩:Sl)),s_2.v]) w4 fun l5 w6=>K l5 w6)
def slices_Clone_Label_Label.cl:CL:=fun args K w=>match args with
 | [.slice x0_a x0_n x0_c]=>C.slices_Clone_Label_Label ⟨x0_a,x0_n,x0_c⟩ w (slices_Clone_Label_Label.Kt K)
 | _=>False
theorem slices_Clone_Label_Label.clok:OkC pr 65 slices_Clone_Label_Label.cl:=by
 intro args K w h
 unfold slices_Clone_Label_Label.cl at h
 split at h
 ·exact calls_last false mixed slices_Clone_Label_Label.FOk_ slices_Clone_Label_Label.fn rfl (Eq.mp (by kernel_rfl) h)
 ·exact h.elim
namespace slices_Clone_Sample_Sample
abbrev KT:=Sl→World→Prop
def Kt:KT:=fun l1 w=>Kv l1.v w
noncomputable def bd:Code:=bdy Tryz.f90
theorem fn:FnOk pr 90 8 Tryz.f90:=⟨Tryz.func90,by kernel_rfl,Tryz.ntmps90,by kernel_rfl,by kernel_rfl⟩
def F:Clee:=ofL []
theorem FOk_:FOk pr F:=FOk_nil
def P1:Post:=bodyK false pr 8 Tryz.f90 Kv
end slices_Clone_Sample_Sample
def slices_Clone_Sample_Sample (s_2:Sl) (w:World) (K:slices_Clone_Sample_Sample.KT):Prop :=
 G.cond s_2.a.isNone (K nilS w) (G.new (.cells #[] 96) w fun p3 w4=>G.runSl pr (Builtin.append_ #[52,52] 52 #[(Sl.v (⟨some p3,0,0⟩:Sl)),s_2.v]) w4 fun l5 w6=>K l5 w6)
def slices_Clone_Sample_Sample.cl:CL:=fun args K w=>match args with
 | [.slice x0_a x0_n x0_c]=>C.slices_Clone_Sample_Sample ⟨x0_a,x0_n,x0_c⟩ w (slices_Clone_Sample_Sample.Kt K)
 | _=>False
theorem slices_Clone_Sample_Sample.clok:OkC pr 90 slices_Clone_Sample_Sample.cl:=by
 intro args K w h
 unfold slices_Clone_Sample_Sample.cl at h
 split at h
 ·exact calls_last false mixed slices_Clone_Sample_Sample.FOk_ slices_Clone_Sample_Sample.fn rfl (Eq.mp (by kernel_rfl) h)
 ·exact h.elim
namespace block_own
abbrev KT:=Sl→Sl→World→Prop
def Kt:KT:=fun l1 l2 w=>Kv (.agg #[l1.v,l2.v]) w
noncomputable def bd:Code:=bdy Tryz.f49
theorem fn:FnOk pr 49 10 Tryz.f49:=⟨Tryz.func49,by kernel_rfl,Tryz.ntmps49,by kernel_rfl,by kernel_rfl⟩
def F:Clee:=ofL [(65,C.slices_Clone_Label_Label.cl),(90,C.slices_Clone_Sample_Sample.cl)]
theorem FOk_:FOk pr F:=FOk_cons C.slices_Clone_Label_Label.clok (FOk_cons C.slices_Clone_Sample_Sample.clok (FOk_nil))
def P1:Post:=bodyK false pr 10 Tryz.f49 Kv
end block_own
def block_own (s_3:Sl) (s_4:Sl) (w:World) (K:block_own.KT):Prop :=
 G.new (.cells #[s_3.v,s_4.v] 57) w fun p5 w6=>G.new (.cells #[nilS.v,nilS.v] 57) w6 fun p7 w8=>G.cSl p5 w8.drew fun l9=>G.cSl (p5.add 1) w8.drew fun l10=>C.slices_Clone_Label_Label l9 w8.drew fun l11 w12=>sameAt (p5.add 1) 1 w8.drew w12∧(C.slices_Clone_Sample_Sample l10 w12 fun l13 w14=>G.st p7 l11.v w14 fun w15=>G.st (p7.add 1) l13.v w15 fun w16=>G.cSl p7 w16 fun l17=>G.cSl (p7.add 1) w16 fun l18=>K l17 l18 w16)
def block_own.cl:CL:=fun args K w=>match args with
 | [.agg ⟨[.slice x0_0_a x0_0_n x0_0_c,.slice x0_1_a x0_1_n x0_1_c]⟩]=>C.block_own ⟨x0_0_a,x0_0_n,x0_0_c⟩ ⟨x0_1_a,x0_1_n,x0_1_c⟩ w (block_own.Kt K)
 | _=>False
theorem block_own.clok:OkC pr 49 block_own.cl:=by
 intro args K w h
 unfold block_own.cl at h
 split at h
 ·exact calls_last false mixed block_own.FOk_ block_own.fn rfl (Eq.mp (by kernel_rfl) h)
 ·exact h.elim
namespace block_Block_All_1
abbrev KT:=World→Prop
def Kt:KT:=fun  w=>Kv (.tuple #[]) w
noncomputable def bd:Code:=bdy Tryz.f48
theorem fn:FnOk pr 48 22 Tryz.f48:=⟨Tryz.func48,by kernel_rfl,Tryz.ntmps48,by kernel_rfl,by kernel_rfl⟩
def F:Clee:=ofL [(49,C.block_own.cl),(76,C.block_Trim_1.cl)]
theorem FOk_:FOk pr F:=FOk_cons C.block_own.clok (FOk_cons C.block_Trim_1.clok (FOk_nil))
def P1:Post:=bodyK false pr 22 Tryz.f48 Kv
def P2:Post:=inBlock 0 (P1 Kv)
abbrev g3:List SE:=[.v 0 .raw,.v 10 .sl,.v 11 (.int .i64),.v 12 (.int .i64)]
def P4 (kc3:Cur g3):Post:=next (get g3 kc3) (P2 Kv)
def S5 (K:KT) (kc3:Cur g3) (yield_13:Value) (l14:Sl) (n15:Int) (n16:Int) (w:World):Prop :=
 G.cond (decide (n16<n15)) (G.ix l14.a l14.n n16 2 fun p17=>G.cSl p17 w fun l18=>G.cSl (p17.add 1) w fun l19=>G.new (.cells #[nilS.v,nilS.v] 57) w fun p20 w21=>G.st p20 l18.v w21 fun w22=>G.st (p20.add 1) l19.v w22 fun w23=>G.cSl p20 w23 fun l24=>G.cSl (p20.add 1) w23 fun l25=>C.block_own l24 l25 w23 fun l26 l27 w28=>G.callV pr F yield_13 [(.agg #[l26.v,l27.v])] w28 fun v29 w30=>G.isB v29 fun b31=>G.cond (!b31) (K w30) (kc3 yield_13 l14 n15 (IntKind.i64.wrap (n16+1)) w30)) (K w)
theorem S5_ok (kc3:Cur g3):OkT pr false none 22 g3 (S5 (Kt Kv) kc3) (lp (blk (tl 2 bd))) (P4 Kv kc3):=ok_last mixed FOk_ fun v ρ w=>by kernel_rfl
def L3 (K:KT):Cur g3:=loopC g3 (S5 K)
theorem L3_ok:OkT pr false none 22 g3 (L3 (Kt Kv)) (blk (tl 2 bd)) (P2 Kv):=ok_loop (B:=S5 (Kt Kv)) (by kernel_rfl) fun kc=>S5_ok Kv kc
theorem L3_ind {K:KT} {yield_5:Value} {l6:Sl} {n7:Int} {n8:Int} {w:World} (h:∀ X:Cur g3,(∀ yield_5 l6 n7 n8 w,S5 K X yield_5 l6 n7 n8 w→X yield_5 l6 n7 n8 w)→X yield_5 l6 n7 n8 w):L3 K yield_5 l6 n7 n8 w:=fun X hX=>h X fun yield_5 l6 n7 n8 w hb=>hX (yield_5,l6,n7,n8,()) w hb
theorem B6:OkT pr false none 22 g3 (L3 (Kt Kv)) (tl 2 bd) (P1 Kv):=ok_block 0 (by kernel_rfl) (L3_ok Kv)
end block_Block_All_1
def block_Block_All_1 (yield_1:Value) (p_2:Option Addr) (w:World) (K:block_Block_All_1.KT):Prop :=
 G.ptr p_2 fun p32=>G.cP p32 w fun p33=>G.cond p33.isNone (K w) (G.ptr p_2 fun p34=>G.cP p34 w fun p35=>G.ptr p35 fun p36=>G.cSl (p36.add 1) w fun l37=>block_Block_All_1.L3 K yield_1 l37 ((l37.n:Nat):Int) 0 w)
def block_Block_All_1.cl:CL:=fun args K w=>match args with
 | [x0,.pointer x1]=>C.block_Block_All_1 x0 x1 w (block_Block_All_1.Kt K)
 | _=>False
theorem block_Block_All_1.clok:OkC pr 48 block_Block_All_1.cl:=by
 intro args K w h
 unfold block_Block_All_1.cl at h
 split at h
 ·exact calls_group false mixed block_Block_All_1.FOk_ block_Block_All_1.fn rfl 2 (block_Block_All_1.B6 K) (Eq.mp (by kernel_rfl) h)
 ·exact h.elim
abbrev bytealg_abigen_runtime_cmpstring.KT:=Int→World→Prop
def bytealg_abigen_runtime_cmpstring.Kt:bytealg_abigen_runtime_cmpstring.KT:=fun r0 w=>Kv (.int .i64 r0) w
def bytealg_abigen_runtime_cmpstring (x0:ByteArray) (x1:ByteArray) (w:World) (K:bytealg_abigen_runtime_cmpstring.KT):Prop:=K (Go.Lib.compareBytes x0.data.toList x1.data.toList) w
def bytealg_abigen_runtime_cmpstring.cl:CL:=fun args K w=>match args with
 | [.string x0,.string x1]=>C.bytealg_abigen_runtime_cmpstring x0 x1 w (bytealg_abigen_runtime_cmpstring.Kt K)
 | _=>False
theorem bytealg_abigen_runtime_cmpstring.clok:OkX pr 195 bytealg_abigen_runtime_cmpstring.cl:=by
 intro args K w h
 unfold bytealg_abigen_runtime_cmpstring.cl at h
 split at h
 ·rename_i x0 x1
  refine ⟨_,w,?_,h⟩
  show (callFunc _ #[.string x0,.string x1]).run pr w=_
  rw [run_callFunc_extern Tryz.func195 (by kernel_rfl) (by kernel_rfl) (by kernel_rfl) (e:=Extern.BytealgCompare.compare) (by kernel_rfl),Lib.run_compareString]
  rfl
 ·exact h.elim
namespace bytealg_CompareString
abbrev KT:=Int→World→Prop
def Kt:KT:=fun n1 w=>Kv (.int .i64 n1) w
noncomputable def bd:Code:=bdy Tryz.f169
theorem fn:FnOk pr 169 8 Tryz.f169:=⟨Tryz.func169,by kernel_rfl,Tryz.ntmps169,by kernel_rfl,by kernel_rfl⟩
def F:Clee:=ofL [(195,C.bytealg_abigen_runtime_cmpstring.cl)]
theorem FOk_:FOk pr F:=FOk_consX C.bytealg_abigen_runtime_cmpstring.clok (FOk_nil)
def P1:Post:=bodyK false pr 8 Tryz.f169 Kv
end bytealg_CompareString
def bytealg_CompareString (a_2:ByteArray) (b_3:ByteArray) (w:World) (K:bytealg_CompareString.KT):Prop :=
 C.bytealg_abigen_runtime_cmpstring a_2 b_3 w fun n4 w5=>K n4 w5
def bytealg_CompareString.cl:CL:=fun args K w=>match args with
 | [.string x0,.string x1]=>C.bytealg_CompareString x0 x1 w (bytealg_CompareString.Kt K)
 | _=>False
theorem bytealg_CompareString.clok:OkC pr 169 bytealg_CompareString.cl:=by
 intro args K w h
 unfold bytealg_CompareString.cl at h
 split at h
 ·exact calls_last false mixed bytealg_CompareString.FOk_ bytealg_CompareString.fn rfl (Eq.mp (by kernel_rfl) h)
 ·exact h.elim
namespace strings_Compare
abbrev KT:=Int→World→Prop
def Kt:KT:=fun n1 w=>Kv (.int .i64 n1) w
noncomputable def bd:Code:=bdy Tryz.f136
theorem fn:FnOk pr 136 8 Tryz.f136:=⟨Tryz.func136,by kernel_rfl,Tryz.ntmps136,by kernel_rfl,by kernel_rfl⟩
def F:Clee:=ofL [(169,C.bytealg_CompareString.cl)]
theorem FOk_:FOk pr F:=FOk_cons C.bytealg_CompareString.clok (FOk_nil)
def P1:Post:=bodyK false pr 8 Tryz.f136 Kv
end strings_Compare
def strings_Compare (a_2:ByteArray) (b_3:ByteArray) (w:World) (K:strings_Compare.KT):Prop :=
 C.bytealg_CompareString a_2 b_3 w fun n4 w5=>K n4 w5
def strings_Compare.cl:CL:=fun args K w=>match args with
 | [.string x0,.string x1]=>C.strings_Compare x0 x1 w (strings_Compare.Kt K)
 | _=>False
theorem strings_Compare.clok:OkC pr 136 strings_Compare.cl:=by
 intro args K w h
 unfold strings_Compare.cl at h
 split at h
 ·exact calls_last false mixed strings_Compare.FOk_ strings_Compare.fn rfl (Eq.mp (by kernel_rfl) h)
 ·exact h.elim
namespace labels_Compare_1
abbrev KT:=Int→World→Prop
def Kt:KT:=fun n1 w=>Kv (.int .i64 n1) w
noncomputable def bd:Code:=bdy Tryz.f135
theorem fn:FnOk pr 135 19 Tryz.f135:=⟨Tryz.func135,by kernel_rfl,Tryz.ntmps135,by kernel_rfl,by kernel_rfl⟩
def F:Clee:=ofL [(136,C.strings_Compare.cl)]
theorem FOk_:FOk pr F:=FOk_cons C.strings_Compare.clok (FOk_nil)
def P1:Post:=bodyK false pr 19 Tryz.f135 Kv
end labels_Compare_1
def labels_Compare_1 (x_2:ByteArray) (x_3:ByteArray) (y_4:ByteArray) (y_5:ByteArray) (w:World) (K:labels_Compare_1.KT):Prop :=
 G.new (.cells #[(.string x_2),(.string x_3)] 93) w fun p6 w7=>G.new (.cells #[(.string y_4),(.string y_5)] 93) w7 fun p8 w9=>G.cS p6 w9 fun s10=>G.cS p8 w9 fun s11=>C.strings_Compare s10 s11 w9 fun n12 w13=>G.cond (n12 != 0) (K n12 w13) (G.cS (p6.add 1) w13 fun s14=>G.cS (p8.add 1) w13 fun s15=>C.strings_Compare s14 s15 w13 fun n16 w17=>K n16 w17)
def labels_Compare_1.cl:CL:=fun args K w=>match args with
 | [.agg ⟨[.string x0_0,.string x0_1]⟩,.agg ⟨[.string x1_0,.string x1_1]⟩]=>C.labels_Compare_1 x0_0 x0_1 x1_0 x1_1 w (labels_Compare_1.Kt K)
 | _=>False
theorem labels_Compare_1.clok:OkC pr 135 labels_Compare_1.cl:=by
 intro args K w h
 unfold labels_Compare_1.cl at h
 split at h
 ·exact calls_last false mixed labels_Compare_1.FOk_ labels_Compare_1.fn rfl (Eq.mp (by kernel_rfl) h)
 ·exact h.elim
namespace slices_CompareFunc_Label_Label_Label_Label
abbrev KT:=Int→World→Prop
def Kt:KT:=fun n1 w=>Kv (.int .i64 n1) w
noncomputable def bd:Code:=bdy Tryz.f134
theorem fn:FnOk pr 134 39 Tryz.f134:=⟨Tryz.func134,by kernel_rfl,Tryz.ntmps134,by kernel_rfl,by kernel_rfl⟩
def F:Clee:=ofL [(48,C.block_Block_All_1.cl),(76,C.block_Trim_1.cl),(135,C.labels_Compare_1.cl)]
theorem FOk_:FOk pr F:=FOk_cons C.block_Block_All_1.clok (FOk_cons C.block_Trim_1.clok (FOk_cons C.labels_Compare_1.clok (FOk_nil)))
def P1:Post:=bodyK false pr 39 Tryz.f134 Kv
abbrev g2:List SE:=[.v 0 .sl,.v 1 .sl]
def S2 (K:KT) (s1_5:Sl) (s2_6:Sl) (w:World):Prop :=
 G.cond (decide (((s1_5.n:Nat):Int)<((s2_6.n:Nat):Int))) (K (-1:Int) w) (K 0 w)
theorem S2_ok:OkT pr false none 39 g2 (S2 (Kt Kv)) (s2 (tl 1 bd)) (P1 Kv):=ok_last mixed FOk_ fun v ρ w=>by kernel_rfl
def P3:Post:=next (get g2 (S2 (Kt Kv))) (P1 Kv)
def P4:Post:=inBlock 0 (P3 Kv)
abbrev g5:List SE:=[.v 0 .sl,.v 1 .sl,.v 2 .raw,.v 11 .sl,.v 12 (.int .i64),.v 13 (.int .i64)]
def P6 (kc5:Cur g5):Post:=next (get g5 kc5) (P4 Kv)
def S7 (K:KT) (kc5:Cur g5) (s1_19:Sl) (s2_20:Sl) (cmp_21:Value) (l22:Sl) (n23:Int) (n24:Int) (w:World):Prop :=
 G.cond (decide (n24<n23)) (G.ix l22.a l22.n n24 2 fun p25=>G.cS p25 w fun s26=>G.cS (p25.add 1) w fun s27=>G.new (.cells #[(.string (⟨#[]⟩:ByteArray)),(.string (⟨#[]⟩:ByteArray))] 93) w fun p28 w29=>G.st p28 (.string s26) w29 fun w30=>G.st (p28.add 1) (.string s27) w30 fun w31=>G.cond (decide (n24 ≥ ((s2_20.n:Nat):Int))) (K 1 w31) (G.ix s2_20.a s2_20.n n24 2 fun p32=>G.cS p32 w31 fun s33=>G.cS (p32.add 1) w31 fun s34=>G.new (.cells #[(.string (⟨#[]⟩:ByteArray)),(.string (⟨#[]⟩:ByteArray))] 93) w31 fun p35 w36=>G.st p35 (.string s33) w36 fun w37=>G.st (p35.add 1) (.string s34) w37 fun w38=>G.cS p28 w38 fun s39=>G.cS (p28.add 1) w38 fun s40=>G.cS p35 w38 fun s41=>G.cS (p35.add 1) w38 fun s42=>G.callV pr F cmp_21 [(.agg #[(.string s39),(.string s40)]),(.agg #[(.string s41),(.string s42)])] w38 fun v43 w44=>G.isI .i64 v43 fun n45=>G.cond (n45 != 0) (K n45 w44) (kc5 s1_19 s2_20 cmp_21 l22 n23 (IntKind.i64.wrap (n24+1)) w44))) (S2 K s1_19 s2_20 w)
theorem S7_ok (kc5:Cur g5):OkT pr false none 39 g5 (S7 (Kt Kv) kc5) (lp (blk (tl 1 (s1 (tl 1 bd))))) (P6 Kv kc5):=ok_last mixed FOk_ fun v ρ w=>by kernel_rfl
def L5 (K:KT):Cur g5:=loopC g5 (S7 K)
theorem L5_ok:OkT pr false none 39 g5 (L5 (Kt Kv)) (blk (tl 1 (s1 (tl 1 bd)))) (P4 Kv):=ok_loop (B:=S7 (Kt Kv)) (by kernel_rfl) fun kc=>S7_ok Kv kc
theorem L5_ind {K:KT} {s1_7:Sl} {s2_8:Sl} {cmp_9:Value} {l10:Sl} {n11:Int} {n12:Int} {w:World} (h:∀ X:Cur g5,(∀ s1_7 s2_8 cmp_9 l10 n11 n12 w,S7 K X s1_7 s2_8 cmp_9 l10 n11 n12 w→X s1_7 s2_8 cmp_9 l10 n11 n12 w)→X s1_7 s2_8 cmp_9 l10 n11 n12 w):L5 K s1_7 s2_8 cmp_9 l10 n11 n12 w:=fun X hX=>h X fun s1_7 s2_8 cmp_9 l10 n11 n12 w hb=>hX (s1_7,s2_8,cmp_9,l10,n11,n12,()) w hb
theorem B8:OkT pr false none 39 g5 (L5 (Kt Kv)) (tl 1 (s1 (tl 1 bd))) (P3 Kv):=ok_block 0 (by kernel_rfl) (L5_ok Kv)
abbrev g9:List SE:=[.v 0 .sl,.v 1 .sl,.v 2 .raw]
def S9 (K:KT) (s1_46:Sl) (s2_47:Sl) (cmp_48:Value) (w:World):Prop :=
 L5 K s1_46 s2_47 cmp_48 s1_46 ((s1_46.n:Nat):Int) 0 w
theorem S9_ok:OkT pr false none 39 g9 (S9 (Kt Kv)) (s1 (tl 1 bd)) (P3 Kv):=ok_group mixed FOk_ 1 (B8 Kv) fun v ρ w=>by kernel_rfl
theorem Q10:OkT pr false none 39 g9 (S9 (Kt Kv)) (tl 1 bd) (P1 Kv):=ok_seq (by kernel_rfl) (S2_ok Kv) (S9_ok Kv)
end slices_CompareFunc_Label_Label_Label_Label
def slices_CompareFunc_Label_Label_Label_Label (s1_2:Sl) (s2_3:Sl) (cmp_4:Value) (w:World) (K:slices_CompareFunc_Label_Label_Label_Label.KT):Prop :=
 slices_CompareFunc_Label_Label_Label_Label.S9 K s1_2 s2_3 cmp_4 w
def slices_CompareFunc_Label_Label_Label_Label.cl:CL:=fun args K w=>match args with
 | [.slice x0_a x0_n x0_c,.slice x1_a x1_n x1_c,x2]=>C.slices_CompareFunc_Label_Label_Label_Label ⟨x0_a,x0_n,x0_c⟩ ⟨x1_a,x1_n,x1_c⟩ x2 w (slices_CompareFunc_Label_Label_Label_Label.Kt K)
 | _=>False
theorem slices_CompareFunc_Label_Label_Label_Label.clok:OkC pr 134 slices_CompareFunc_Label_Label_Label_Label.cl:=by
 intro args K w h
 unfold slices_CompareFunc_Label_Label_Label_Label.cl at h
 split at h
 ·exact calls_group false mixed slices_CompareFunc_Label_Label_Label_Label.FOk_ slices_CompareFunc_Label_Label_Label_Label.fn rfl 1 (slices_CompareFunc_Label_Label_Label_Label.Q10 K) (Eq.mp (by kernel_rfl) h)
 ·exact h.elim
namespace labels_Compare
abbrev KT:=Int→World→Prop
def Kt:KT:=fun n1 w=>Kv (.int .i64 n1) w
noncomputable def bd:Code:=bdy Tryz.f105
theorem fn:FnOk pr 105 8 Tryz.f105:=⟨Tryz.func105,by kernel_rfl,Tryz.ntmps105,by kernel_rfl,by kernel_rfl⟩
def F:Clee:=ofL [(134,C.slices_CompareFunc_Label_Label_Label_Label.cl)]
theorem FOk_:FOk pr F:=FOk_cons C.slices_CompareFunc_Label_Label_Label_Label.clok (FOk_nil)
def P1:Post:=bodyK false pr 8 Tryz.f105 Kv
end labels_Compare
def labels_Compare (a_2:Sl) (b_3:Sl) (w:World) (K:labels_Compare.KT):Prop :=
 C.slices_CompareFunc_Label_Label_Label_Label a_2 b_3 (Value.func (.func 135) #[] #[]) w fun n4 w5=>K n4 w5
def labels_Compare.cl:CL:=fun args K w=>match args with
 | [.slice x0_a x0_n x0_c,.slice x1_a x1_n x1_c]=>C.labels_Compare ⟨x0_a,x0_n,x0_c⟩ ⟨x1_a,x1_n,x1_c⟩ w (labels_Compare.Kt K)
 | _=>False
theorem labels_Compare.clok:OkC pr 105 labels_Compare.cl:=by
 intro args K w h
 unfold labels_Compare.cl at h
 split at h
 ·exact calls_last false mixed labels_Compare.FOk_ labels_Compare.fn rfl (Eq.mp (by kernel_rfl) h)
 ·exact h.elim
namespace block_compare
abbrev KT:=Int→World→Prop
def Kt:KT:=fun n1 w=>Kv (.int .i64 n1) w
noncomputable def bd:Code:=bdy Tryz.f71
theorem fn:FnOk pr 71 10 Tryz.f71:=⟨Tryz.func71,by kernel_rfl,Tryz.ntmps71,by kernel_rfl,by kernel_rfl⟩
def F:Clee:=ofL [(105,C.labels_Compare.cl)]
theorem FOk_:FOk pr F:=FOk_cons C.labels_Compare.clok (FOk_nil)
def P1:Post:=bodyK false pr 10 Tryz.f71 Kv
end block_compare
def block_compare (a_2:Sl) (a_3:Sl) (b_4:Sl) (b_5:Sl) (w:World) (K:block_compare.KT):Prop :=
 G.new (.cells #[a_2.v,a_3.v] 57) w fun p6 w7=>G.new (.cells #[b_4.v,b_5.v] 57) w7 fun p8 w9=>G.cSl p6 w9 fun l10=>G.cSl p8 w9 fun l11=>C.labels_Compare l10 l11 w9 fun n12 w13=>K n12 w13
def block_compare.cl:CL:=fun args K w=>match args with
 | [.agg ⟨[.slice x0_0_a x0_0_n x0_0_c,.slice x0_1_a x0_1_n x0_1_c]⟩,.agg ⟨[.slice x1_0_a x1_0_n x1_0_c,.slice x1_1_a x1_1_n x1_1_c]⟩]=>C.block_compare ⟨x0_0_a,x0_0_n,x0_0_c⟩ ⟨x0_1_a,x0_1_n,x0_1_c⟩ ⟨x1_0_a,x1_0_n,x1_0_c⟩ ⟨x1_1_a,x1_1_n,x1_1_c⟩ w (block_compare.Kt K)
 | _=>False
theorem block_compare.clok:OkC pr 71 block_compare.cl:=by
 intro args K w h
 unfold block_compare.cl at h
 split at h
 ·exact calls_last false mixed block_compare.FOk_ block_compare.fn rfl (Eq.mp (by kernel_rfl) h)
 ·exact h.elim
namespace vint_joined
abbrev KT:=Sl→World→Prop
def Kt:KT:=fun l1 w=>Kv l1.v w
noncomputable def bd:Code:=bdy Tryz.f106
theorem fn:FnOk pr 106 17 Tryz.f106:=⟨Tryz.func106,by kernel_rfl,Tryz.ntmps106,by kernel_rfl,by kernel_rfl⟩
def F:Clee:=ofL []
theorem FOk_:FOk pr F:=FOk_nil
def P1:Post:=bodyK false pr 17 Tryz.f106 Kv
end vint_joined
def vint_joined (b_2:Sl) (c_3:Sl) (w:World) (K:vint_joined.KT):Prop :=
 G.runSl pr (Instr.makeSlice 22 (.int .i64 0) (.int .i64 (IntKind.i64.wrap (((b_2.n:Nat):Int)+((c_3.n:Nat):Int))))) w fun l4 w5=>G.runSl pr (Builtin.append_ #[22,22] 22 #[l4.v,b_2.v]) w5 fun l6 w7=>G.runSl pr (Builtin.append_ #[22,22] 22 #[l6.v,c_3.v]) w7 fun l8 w9=>K l8 w9
def vint_joined.cl:CL:=fun args K w=>match args with
 | [.slice x0_a x0_n x0_c,.slice x1_a x1_n x1_c]=>C.vint_joined ⟨x0_a,x0_n,x0_c⟩ ⟨x1_a,x1_n,x1_c⟩ w (vint_joined.Kt K)
 | _=>False
theorem vint_joined.clok:OkC pr 106 vint_joined.cl:=by
 intro args K w h
 unfold vint_joined.cl at h
 split at h
 ·exact calls_last false mixed vint_joined.FOk_ vint_joined.fn rfl (Eq.mp (by kernel_rfl) h)
 ·exact h.elim
namespace vint_PutU
abbrev KT:=Sl→World→Prop
def Kt:KT:=fun l1 w=>Kv l1.v w
noncomputable def bd:Code:=bdy Tryz.f72
theorem fn:FnOk pr 72 23 Tryz.f72:=⟨Tryz.func72,by kernel_rfl,Tryz.ntmps72,by kernel_rfl,by kernel_rfl⟩
def F:Clee:=ofL [(106,C.vint_joined.cl)]
theorem FOk_:FOk pr F:=FOk_cons C.vint_joined.clok (FOk_nil)
def P1:Post:=bodyK false pr 23 Tryz.f72 Kv
abbrev g2:List SE:=[.v 0 .sl,.v 1 (.int .u64),.v 5 .sl]
def S2 (K:KT) (b_4:Sl) (n_5:Int) (c_6:Sl) (w:World):Prop :=
 G.new (.cells #[(.int .u8 (IntKind.u8.wrap n_5))] 5) w fun p7 w8=>G.runSl pr (Builtin.append_ #[22,22] 22 #[c_6.v,(Sl.v (⟨some p7,1,1⟩:Sl))]) w8 fun l9 w10=>C.vint_joined b_4 l9 w10 fun l11 w12=>K l11 w12
theorem S2_ok:OkT pr false none 23 g2 (S2 (Kt Kv)) (s2 (tl 2 bd)) (P1 Kv):=ok_last mixed FOk_ fun v ρ w=>by kernel_rfl
def P3:Post:=next (get g2 (S2 (Kt Kv))) (P1 Kv)
def P4:Post:=inBlock 0 (P3 Kv)
def P6 (kc5:Cur g2):Post:=next (get g2 kc5) (P4 Kv)
def S7 (K:KT) (kc5:Cur g2) (b_19:Sl) (n_20:Int) (c_21:Sl) (w:World):Prop :=
 G.cond (decide (n_20 ≥ 128)) (G.new (.cells #[(.int .u8 (Go.bits .or .u8 (IntKind.u8.wrap n_20) 128))] 5) w fun p22 w23=>G.runSl pr (Builtin.append_ #[22,22] 22 #[c_21.v,(Sl.v (⟨some p22,1,1⟩:Sl))]) w23 fun l24 w25=>G.nn 7<|kc5 b_19 (shr .u64 n_20 7) l24 w25) (S2 K b_19 n_20 c_21 w)
theorem S7_ok (kc5:Cur g2):OkT pr false none 23 g2 (S7 (Kt Kv) kc5) (lp (blk (s1 (tl 2 bd)))) (P6 Kv kc5):=ok_last mixed FOk_ fun v ρ w=>by kernel_rfl
def L5 (K:KT):Cur g2:=loopC g2 (S7 K)
theorem L5_ok:OkT pr false none 23 g2 (L5 (Kt Kv)) (blk (s1 (tl 2 bd))) (P4 Kv):=ok_loop (B:=S7 (Kt Kv)) (by kernel_rfl) fun kc=>S7_ok Kv kc
theorem L5_ind {K:KT} {b_13:Sl} {n_14:Int} {c_15:Sl} {w:World} (h:∀ X:Cur g2,(∀ b_13 n_14 c_15 w,S7 K X b_13 n_14 c_15 w→X b_13 n_14 c_15 w)→X b_13 n_14 c_15 w):L5 K b_13 n_14 c_15 w:=fun X hX=>h X fun b_13 n_14 c_15 w hb=>hX (b_13,n_14,c_15,()) w hb
theorem B8:OkT pr false none 23 g2 (L5 (Kt Kv)) (s1 (tl 2 bd)) (P3 Kv):=ok_block 0 (by kernel_rfl) (L5_ok Kv)
theorem Q9:OkT pr false none 23 g2 (L5 (Kt Kv)) (tl 2 bd) (P1 Kv):=ok_seq (by kernel_rfl) (S2_ok Kv) (B8 Kv)
end vint_PutU
def vint_PutU (b_2:Sl) (n_3:Int) (w:World) (K:vint_PutU.KT):Prop :=
 vint_PutU.L5 K b_2 n_3 nilS w
def vint_PutU.cl:CL:=fun args K w=>match args with
 | [.slice x0_a x0_n x0_c,.int .u64 x1]=>C.vint_PutU ⟨x0_a,x0_n,x0_c⟩ x1 w (vint_PutU.Kt K)
 | _=>False
theorem vint_PutU.clok:OkC pr 72 vint_PutU.cl:=by
 intro args K w h
 unfold vint_PutU.cl at h
 split at h
 ·exact calls_group false mixed vint_PutU.FOk_ vint_PutU.fn rfl 2 (vint_PutU.Q9 K) (Eq.mp (by kernel_rfl) h)
 ·exact h.elim
namespace vint_On
abbrev KT:=Int→World→Prop
def Kt:KT:=fun n1 w=>Kv (.int .u32 n1) w
noncomputable def bd:Code:=bdy Tryz.f137
theorem fn:FnOk pr 137 37 Tryz.f137:=⟨Tryz.func137,by kernel_rfl,Tryz.ntmps137,by kernel_rfl,by kernel_rfl⟩
def F:Clee:=ofL []
theorem FOk_:FOk pr F:=FOk_nil
def P1:Post:=bodyK false pr 37 Tryz.f137 Kv
abbrev g2:List SE:=[.v 5 (.int .u32)]
def S2 (K:KT) (r_4:Int) (w:World):Prop :=
 K (Go.bits .xor .u32 (notK .u32) r_4) w
theorem S2_ok:OkT pr false none 37 g2 (S2 (Kt Kv)) (s2 (tl 2 bd)) (P1 Kv):=ok_last mixed FOk_ fun v ρ w=>by kernel_rfl
def P3:Post:=next (get g2 (S2 (Kt Kv))) (P1 Kv)
def P4:Post:=inBlock 0 (P3 Kv)
abbrev g5:List SE:=[.v 5 (.int .u32),.v 10 .sl,.v 11 (.int .i64),.v 12 (.int .i64)]
def P6 (kc5:Cur g5):Post:=next (get g5 kc5) (P4 Kv)
def S7 (K:KT) (kc5:Cur g5) (r_13:Int) (l14:Sl) (n15:Int) (n16:Int) (w:World):Prop :=
 G.cond (decide (n16<n15)) (G.ix l14.a l14.n n16 1 fun p17=>G.cI .u8 p17 w fun n18=>G.nn 4<|G.ix (some ⟨1,0,none⟩) 16 (Go.bits .and .u32 (Go.bits .xor .u32 r_13 (IntKind.u32.wrap n18)) 15) 1 fun p19=>G.cI .u32 p19 w fun n20=>G.nn 4<|G.ix (some ⟨1,0,none⟩) 16 (Go.bits .and .u32 (Go.bits .xor .u32 (shr .u32 (Go.bits .xor .u32 r_13 (IntKind.u32.wrap n18)) 4) n20) 15) 1 fun p21=>G.cI .u32 p21 w fun n22=>kc5 (Go.bits .xor .u32 (shr .u32 (Go.bits .xor .u32 (shr .u32 (Go.bits .xor .u32 r_13 (IntKind.u32.wrap n18)) 4) n20) 4) n22) l14 n15 (IntKind.i64.wrap (n16+1)) w) (S2 K r_13 w)
theorem S7_ok (kc5:Cur g5):OkT pr false none 37 g5 (S7 (Kt Kv) kc5) (lp (blk (tl 1 (s1 (tl 2 bd))))) (P6 Kv kc5):=ok_last mixed FOk_ fun v ρ w=>by kernel_rfl
def L5 (K:KT):Cur g5:=loopC g5 (S7 K)
theorem L5_ok:OkT pr false none 37 g5 (L5 (Kt Kv)) (blk (tl 1 (s1 (tl 2 bd)))) (P4 Kv):=ok_loop (B:=S7 (Kt Kv)) (by kernel_rfl) fun kc=>S7_ok Kv kc
theorem L5_ind {K:KT} {r_5:Int} {l6:Sl} {n7:Int} {n8:Int} {w:World} (h:∀ X:Cur g5,(∀ r_5 l6 n7 n8 w,S7 K X r_5 l6 n7 n8 w→X r_5 l6 n7 n8 w)→X r_5 l6 n7 n8 w):L5 K r_5 l6 n7 n8 w:=fun X hX=>h X fun r_5 l6 n7 n8 w hb=>hX (r_5,l6,n7,n8,()) w hb
theorem B8:OkT pr false none 37 g5 (L5 (Kt Kv)) (tl 1 (s1 (tl 2 bd))) (P3 Kv):=ok_block 0 (by kernel_rfl) (L5_ok Kv)
abbrev g9:List SE:=[.v 1 .sl,.v 5 (.int .u32)]
def S9 (K:KT) (b_23:Sl) (r_24:Int) (w:World):Prop :=
 L5 K r_24 b_23 ((b_23.n:Nat):Int) 0 w
theorem S9_ok:OkT pr false none 37 g9 (S9 (Kt Kv)) (s1 (tl 2 bd)) (P3 Kv):=ok_group mixed FOk_ 1 (B8 Kv) fun v ρ w=>by kernel_rfl
theorem Q10:OkT pr false none 37 g9 (S9 (Kt Kv)) (tl 2 bd) (P1 Kv):=ok_seq (by kernel_rfl) (S2_ok Kv) (S9_ok Kv)
end vint_On
def vint_On (sum_2:Int) (b_3:Sl) (w:World) (K:vint_On.KT):Prop :=
 vint_On.S9 K b_3 (Go.bits .xor .u32 (notK .u32) sum_2) w
def vint_On.cl:CL:=fun args K w=>match args with
 | [.int .u32 x0,.slice x1_a x1_n x1_c]=>C.vint_On x0 ⟨x1_a,x1_n,x1_c⟩ w (vint_On.Kt K)
 | _=>False
theorem vint_On.clok:OkC pr 137 vint_On.cl:=by
 intro args K w h
 unfold vint_On.cl at h
 split at h
 ·exact calls_group false mixed vint_On.FOk_ vint_On.fn rfl 2 (vint_On.Q10 K) (Eq.mp (by kernel_rfl) h)
 ·exact h.elim
namespace vint_Sum
abbrev KT:=Int→World→Prop
def Kt:KT:=fun n1 w=>Kv (.int .u32 n1) w
noncomputable def bd:Code:=bdy Tryz.f107
theorem fn:FnOk pr 107 5 Tryz.f107:=⟨Tryz.func107,by kernel_rfl,Tryz.ntmps107,by kernel_rfl,by kernel_rfl⟩
def F:Clee:=ofL [(137,C.vint_On.cl)]
theorem FOk_:FOk pr F:=FOk_cons C.vint_On.clok (FOk_nil)
def P1:Post:=bodyK false pr 5 Tryz.f107 Kv
end vint_Sum
def vint_Sum (b_2:Sl) (w:World) (K:vint_Sum.KT):Prop :=
 C.vint_On 0 b_2 w fun n3 w4=>K n3 w4
def vint_Sum.cl:CL:=fun args K w=>match args with
 | [.slice x0_a x0_n x0_c]=>C.vint_Sum ⟨x0_a,x0_n,x0_c⟩ w (vint_Sum.Kt K)
 | _=>False
theorem vint_Sum.clok:OkC pr 107 vint_Sum.cl:=by
 intro args K w h
 unfold vint_Sum.cl at h
 split at h
 ·exact calls_last false mixed vint_Sum.FOk_ vint_Sum.fn rfl (Eq.mp (by kernel_rfl) h)
 ·exact h.elim
namespace vint_PutFrame
abbrev KT:=Sl→Int→World→Prop
def Kt:KT:=fun l1 n2 w=>Kv (.tuple #[l1.v,(.int .i64 n2)]) w
noncomputable def bd:Code:=bdy Tryz.f73
theorem fn:FnOk pr 73 34 Tryz.f73:=⟨Tryz.func73,by kernel_rfl,Tryz.ntmps73,by kernel_rfl,by kernel_rfl⟩
def F:Clee:=ofL [(72,C.vint_PutU.cl),(107,C.vint_Sum.cl)]
theorem FOk_:FOk pr F:=FOk_cons C.vint_PutU.clok (FOk_cons C.vint_Sum.clok (FOk_nil))
def P1:Post:=bodyK false pr 34 Tryz.f73 Kv
end vint_PutFrame
def vint_PutFrame (b_3:Sl) (p_4:Sl) (w:World) (K:vint_PutFrame.KT):Prop :=
 G.cond (decide (((p_4.n:Nat):Int) > 65536)) (K nilS 4 w) (C.vint_Sum p_4 w fun n7 w8=>C.vint_PutU b_3 (IntKind.u64.wrap ((p_4.n:Nat):Int)) w8 fun l9 w10=>G.nn 8<|G.nn 16<|G.nn 24<|G.new (.cells #[(.int .u8 (IntKind.u8.wrap n7)),(.int .u8 (IntKind.u8.wrap (shr .u32 n7 8))),(.int .u8 (IntKind.u8.wrap (shr .u32 n7 16))),(.int .u8 (IntKind.u8.wrap (shr .u32 n7 24)))] 5) w10 fun p11 w12=>G.runSl pr (Builtin.append_ #[22,22] 22 #[l9.v,(Sl.v (⟨some p11,4,4⟩:Sl))]) w12 fun l13 w14=>G.runSl pr (Builtin.append_ #[22,22] 22 #[l13.v,p_4.v]) w14 fun l15 w16=>K l15 0 w16)
def vint_PutFrame.cl:CL:=fun args K w=>match args with
 | [.slice x0_a x0_n x0_c,.slice x1_a x1_n x1_c]=>C.vint_PutFrame ⟨x0_a,x0_n,x0_c⟩ ⟨x1_a,x1_n,x1_c⟩ w (vint_PutFrame.Kt K)
 | _=>False
theorem vint_PutFrame.clok:OkC pr 73 vint_PutFrame.cl:=by
 intro args K w h
 unfold vint_PutFrame.cl at h
 split at h
 ·exact calls_last false mixed vint_PutFrame.FOk_ vint_PutFrame.fn rfl (Eq.mp (by kernel_rfl) h)
 ·exact h.elim
namespace labels_digit
abbrev KT:=Bool→World→Prop
def Kt:KT:=fun b1 w=>Kv (.bool b1) w
noncomputable def bd:Code:=bdy Tryz.f192
theorem fn:FnOk pr 192 9 Tryz.f192:=⟨Tryz.func192,by kernel_rfl,Tryz.ntmps192,by kernel_rfl,by kernel_rfl⟩
def F:Clee:=ofL []
theorem FOk_:FOk pr F:=FOk_nil
def P1:Post:=bodyK false pr 9 Tryz.f192 Kv
end labels_digit
def labels_digit (c_2:Int) (w:World) (K:labels_digit.KT):Prop :=
 G.cond (decide (c_2 ≥ 48)) (K (decide (c_2≤57)) w) (K false w)
def labels_digit.cl:CL:=fun args K w=>match args with
 | [.int .u8 x0]=>C.labels_digit x0 w (labels_digit.Kt K)
 | _=>False
theorem labels_digit.clok:OkC pr 192 labels_digit.cl:=by
 intro args K w h
 unfold labels_digit.cl at h
 split at h
 ·exact calls_last false mixed labels_digit.FOk_ labels_digit.fn rfl (Eq.mp (by kernel_rfl) h)
 ·exact h.elim
namespace labels_letter
abbrev KT:=Bool→World→Prop
def Kt:KT:=fun b1 w=>Kv (.bool b1) w
noncomputable def bd:Code:=bdy Tryz.f193
theorem fn:FnOk pr 193 21 Tryz.f193:=⟨Tryz.func193,by kernel_rfl,Tryz.ntmps193,by kernel_rfl,by kernel_rfl⟩
def F:Clee:=ofL []
theorem FOk_:FOk pr F:=FOk_nil
def P1:Post:=bodyK false pr 21 Tryz.f193 Kv
end labels_letter
def labels_letter (c_2:Int) (w:World) (K:labels_letter.KT):Prop :=
 G.cond (decide (c_2 ≥ 97)) (G.cond (decide (c_2≤122)) (K true w) (G.cond (decide (c_2 ≥ 65)) (G.cond (decide (c_2≤90)) (K true w) (K (c_2==95) w)) (K (c_2==95) w))) (G.cond (decide (c_2 ≥ 65)) (G.cond (decide (c_2≤90)) (K true w) (K (c_2==95) w)) (K (c_2==95) w))
def labels_letter.cl:CL:=fun args K w=>match args with
 | [.int .u8 x0]=>C.labels_letter x0 w (labels_letter.Kt K)
 | _=>False
theorem labels_letter.clok:OkC pr 193 labels_letter.cl:=by
 intro args K w h
 unfold labels_letter.cl at h
 split at h
 ·exact calls_last false mixed labels_letter.FOk_ labels_letter.fn rfl (Eq.mp (by kernel_rfl) h)
 ·exact h.elim
namespace labels_named
abbrev KT:=Bool→World→Prop
def Kt:KT:=fun b1 w=>Kv (.bool b1) w
noncomputable def bd:Code:=bdy Tryz.f163
theorem fn:FnOk pr 163 46 Tryz.f163:=⟨Tryz.func163,by kernel_rfl,Tryz.ntmps163,by kernel_rfl,by kernel_rfl⟩
def F:Clee:=ofL [(192,C.labels_digit.cl),(193,C.labels_letter.cl)]
theorem FOk_:FOk pr F:=FOk_cons C.labels_digit.clok (FOk_cons C.labels_letter.clok (FOk_nil))
def P1:Post:=bodyK false pr 46 Tryz.f163 Kv
abbrev g2:List SE:=[]
def S2 (K:KT) (w:World):Prop :=
 K true w
theorem S2_ok:OkT pr false none 46 g2 (S2 (Kt Kv)) (s2 (tl 2 bd)) (P1 Kv):=ok_last mixed FOk_ fun v ρ w=>by kernel_rfl
def P3:Post:=next (get g2 (S2 (Kt Kv))) (P1 Kv)
def P4:Post:=inBlock 0 (P3 Kv)
abbrev g5:List SE:=[.v 2 .bool,.v 23 .sl,.v 24 (.int .i64),.v 25 (.int .i64)]
def P6 (kc5:Cur g5):Post:=next (get g5 kc5) (P4 Kv)
def S7 (K:KT) (kc5:Cur g5) (colon_13:Bool) (l14:Sl) (n15:Int) (n16:Int) (w:World):Prop :=
 G.cond (decide (n16<n15)) (G.ix l14.a l14.n n16 1 fun p17=>G.cI .u8 p17 w fun n18=>C.labels_letter n18 w fun b19 w20=>G.cond (!b19) (C.labels_digit n18 w20 fun b21 w22=>G.cond (!b21) (G.cond colon_13 (G.cond (!(n18==58)) (K false w22) (kc5 colon_13 l14 n15 (IntKind.i64.wrap (n16+1)) w22)) (K false w22)) (kc5 colon_13 l14 n15 (IntKind.i64.wrap (n16+1)) w22)) (kc5 colon_13 l14 n15 (IntKind.i64.wrap (n16+1)) w20)) (S2 K w)
theorem S7_ok (kc5:Cur g5):OkT pr false none 46 g5 (S7 (Kt Kv) kc5) (lp (blk (tl 1 (s1 (tl 2 bd))))) (P6 Kv kc5):=ok_last mixed FOk_ fun v ρ w=>by kernel_rfl
def L5 (K:KT):Cur g5:=loopC g5 (S7 K)
theorem L5_ok:OkT pr false none 46 g5 (L5 (Kt Kv)) (blk (tl 1 (s1 (tl 2 bd)))) (P4 Kv):=ok_loop (B:=S7 (Kt Kv)) (by kernel_rfl) fun kc=>S7_ok Kv kc
theorem L5_ind {K:KT} {colon_5:Bool} {l6:Sl} {n7:Int} {n8:Int} {w:World} (h:∀ X:Cur g5,(∀ colon_5 l6 n7 n8 w,S7 K X colon_5 l6 n7 n8 w→X colon_5 l6 n7 n8 w)→X colon_5 l6 n7 n8 w):L5 K colon_5 l6 n7 n8 w:=fun X hX=>h X fun colon_5 l6 n7 n8 w hb=>hX (colon_5,l6,n7,n8,()) w hb
theorem B8:OkT pr false none 46 g5 (L5 (Kt Kv)) (tl 1 (s1 (tl 2 bd))) (P3 Kv):=ok_block 0 (by kernel_rfl) (L5_ok Kv)
abbrev g9:List SE:=[.v 0 .str,.v 2 .bool]
def S9 (K:KT) (s_23:ByteArray) (colon_24:Bool) (w:World):Prop :=
 G.runSl pr (Go.convert 9 22 (.string s_23)) w fun l25 w26=>L5 K colon_24 l25 ((l25.n:Nat):Int) 0 w26
theorem S9_ok:OkT pr false none 46 g9 (S9 (Kt Kv)) (s1 (tl 2 bd)) (P3 Kv):=ok_group mixed FOk_ 1 (B8 Kv) fun v ρ w=>by kernel_rfl
theorem Q10:OkT pr false none 46 g9 (S9 (Kt Kv)) (tl 2 bd) (P1 Kv):=ok_seq (by kernel_rfl) (S2_ok Kv) (S9_ok Kv)
end labels_named
def labels_named (s_2:ByteArray) (most_3:Int) (colon_4:Bool) (w:World) (K:labels_named.KT):Prop :=
 G.cond (s_2.toList==(⟨#[]⟩:ByteArray).toList) (K false w) (G.cond (decide (((s_2.size:Nat):Int) > most_3)) (K false w) (G.ixS s_2 0 fun n27=>C.labels_digit n27 w fun b28 w29=>G.cond b28 (K false w29) (labels_named.S9 K s_2 colon_4 w29)))
def labels_named.cl:CL:=fun args K w=>match args with
 | [.string x0,.int .i64 x1,.bool x2]=>C.labels_named x0 x1 x2 w (labels_named.Kt K)
 | _=>False
theorem labels_named.clok:OkC pr 163 labels_named.cl:=by
 intro args K w h
 unfold labels_named.cl at h
 split at h
 ·exact calls_group false mixed labels_named.FOk_ labels_named.fn rfl 2 (labels_named.Q10 K) (Eq.mp (by kernel_rfl) h)
 ·exact h.elim
namespace labels_Name
abbrev KT:=Bool→World→Prop
def Kt:KT:=fun b1 w=>Kv (.bool b1) w
noncomputable def bd:Code:=bdy Tryz.f122
theorem fn:FnOk pr 122 5 Tryz.f122:=⟨Tryz.func122,by kernel_rfl,Tryz.ntmps122,by kernel_rfl,by kernel_rfl⟩
def F:Clee:=ofL [(163,C.labels_named.cl)]
theorem FOk_:FOk pr F:=FOk_cons C.labels_named.clok (FOk_nil)
def P1:Post:=bodyK false pr 5 Tryz.f122 Kv
end labels_Name
def labels_Name (s_2:ByteArray) (w:World) (K:labels_Name.KT):Prop :=
 C.labels_named s_2 64 false w fun b3 w4=>K b3 w4
def labels_Name.cl:CL:=fun args K w=>match args with
 | [.string x0]=>C.labels_Name x0 w (labels_Name.Kt K)
 | _=>False
theorem labels_Name.clok:OkC pr 122 labels_Name.cl:=by
 intro args K w h
 unfold labels_Name.cl at h
 split at h
 ·exact calls_last false mixed labels_Name.FOk_ labels_Name.fn rfl (Eq.mp (by kernel_rfl) h)
 ·exact h.elim
namespace utf8_word_string
abbrev KT:=Int→World→Prop
def Kt:KT:=fun n1 w=>Kv (.int .u64 n1) w
noncomputable def bd:Code:=bdy Tryz.f173
theorem fn:FnOk pr 173 59 Tryz.f173:=⟨Tryz.func173,by kernel_rfl,Tryz.ntmps173,by kernel_rfl,by kernel_rfl⟩
def F:Clee:=ofL []
theorem FOk_:FOk pr F:=FOk_nil
def P1:Post:=bodyK false pr 59 Tryz.f173 Kv
end utf8_word_string
def utf8_word_string (s_2:ByteArray) (w:World) (K:utf8_word_string.KT):Prop :=
 G.ixS s_2 0 fun n4=>G.ixS s_2 1 fun n5=>G.nn 8<|G.ixS s_2 2 fun n6=>G.nn 16<|G.ixS s_2 3 fun n7=>G.nn 24<|G.ixS s_2 4 fun n8=>G.nn 32<|G.ixS s_2 5 fun n9=>G.nn 40<|G.ixS s_2 6 fun n10=>G.nn 48<|G.ixS s_2 7 fun n11=>G.nn 56<|K (Go.bits .or .u64 (Go.bits .or .u64 (Go.bits .or .u64 (Go.bits .or .u64 (Go.bits .or .u64 (Go.bits .or .u64 (Go.bits .or .u64 (IntKind.u64.wrap n4) (shl .u64 (IntKind.u64.wrap n5) 8)) (shl .u64 (IntKind.u64.wrap n6) 16)) (shl .u64 (IntKind.u64.wrap n7) 24)) (shl .u64 (IntKind.u64.wrap n8) 32)) (shl .u64 (IntKind.u64.wrap n9) 40)) (shl .u64 (IntKind.u64.wrap n10) 48)) (shl .u64 (IntKind.u64.wrap n11) 56)) w.drew
def utf8_word_string.cl:CL:=fun args K w=>match args with
 | [.string x0]=>C.utf8_word_string x0 w (utf8_word_string.Kt K)
 | _=>False
theorem utf8_word_string.clok:OkC pr 173 utf8_word_string.cl:=by
 intro args K w h
 unfold utf8_word_string.cl at h
 split at h
 ·exact calls_last false mixed utf8_word_string.FOk_ utf8_word_string.fn rfl (Eq.mp (by kernel_rfl) h)
 ·exact h.elim
namespace utf8_ValidString
abbrev KT:=Bool→World→Prop
def Kt:KT:=fun b1 w=>Kv (.bool b1) w
noncomputable def bd:Code:=bdy Tryz.f139
theorem fn:FnOk pr 139 169 Tryz.f139:=⟨Tryz.func139,by kernel_rfl,Tryz.ntmps139,by kernel_rfl,by kernel_rfl⟩
def F:Clee:=ofL [(173,C.utf8_word_string.cl)]
theorem FOk_:FOk pr F:=FOk_cons C.utf8_word_string.clok (FOk_nil)
def P1:Post:=bodyK false pr 169 Tryz.f139 Kv
abbrev g2:List SE:=[]
def S2 (K:KT) (w:World):Prop :=
 K true w
theorem S2_ok:OkT pr false none 169 g2 (S2 (Kt Kv)) (s2 (tl 1 bd)) (P1 Kv):=ok_last mixed FOk_ fun v ρ w=>by kernel_rfl
def P3:Post:=next (get g2 (S2 (Kt Kv))) (P1 Kv)
def P4:Post:=inBlock 0 (P3 Kv)
abbrev g5:List SE:=[.v 0 .str]
def P6 (kc5:Cur g5):Post:=next (get g5 kc5) (P4 Kv)
def P7 (kc5:Cur g5):Post:=inBlock 1 (P6 Kv kc5)
abbrev g8:List SE:=[.v 0 .str,.v 3 (.int .u8)]
def S8 (K:KT) (kc5:Cur g5) (s_4:ByteArray) (s0_5:Int) (w:World):Prop :=
 G.ix (some ⟨2,0,none⟩) 256 s0_5 1 fun p6=>G.cI .u8 p6 w fun n7=>G.nn 4<|G.ix (some ⟨3,0,none⟩) 16 (shr .u8 n7 4) 2 fun p8=>G.cI .u8 p8 w fun n9=>G.cI .u8 (p8.add 1) w fun n10=>G.new (.cells #[(.int .u8 0),(.int .u8 0)] 221) w fun p11 w12=>G.st p11 (.int .u8 n9) w12 fun w13=>G.st (p11.add 1) (.int .u8 n10) w13 fun w14=>G.cond ((IntKind.i64.wrap (Go.bits .and .u8 n7 7))==2) (G.cond (decide (((s_4.size:Nat):Int)<2)) (K false w14.drew) (G.ixS s_4 1 fun n15=>G.cI .u8 p11 w14.drew fun n16=>G.cond (decide (n15<n16)) (K false w14.drew) (G.cI .u8 (p11.add 1) w14.drew fun n17=>G.ixS s_4 1 fun n18=>G.cond (decide (n17<n18)) (K false w14.drew) (G.slcS s_4 2 ((s_4.size:Nat):Int) fun s19=>kc5 s19 w14.drew)))) (G.cond ((IntKind.i64.wrap (Go.bits .and .u8 n7 7))==3) (G.cond (decide (((s_4.size:Nat):Int)<3)) (K false w14.drew) (G.ixS s_4 1 fun n20=>G.cI .u8 p11 w14.drew fun n21=>G.cond (decide (n20<n21)) (K false w14.drew) (G.cI .u8 (p11.add 1) w14.drew fun n22=>G.ixS s_4 1 fun n23=>G.cond (decide (n22<n23)) (K false w14.drew) (G.ixS s_4 2 fun n24=>G.cond (decide (n24<128)) (K false w14.drew) (G.ixS s_4 2 fun n25=>G.cond (decide (191<n25)) (K false w14.drew) (G.slcS s_4 3 ((s_4.size:Nat):Int) fun s26=>kc5 s26 w14.drew)))))) (G.cond ((IntKind.i64.wrap (Go.bits .and .u8 n7 7))==4) (G.cond (decide (((s_4.size:Nat):Int)<4)) (K false w14.drew) (G.ixS s_4 1 fun n27=>G.cI .u8 p11 w14.drew fun n28=>G.cond (decide (n27<n28)) (K false w14.drew) (G.cI .u8 (p11.add 1) w14.drew fun n29=>G.ixS s_4 1 fun n30=>G.cond (decide (n29<n30)) (K false w14.drew) (G.ixS s_4 2 fun n31=>G.cond (decide (n31<128)) (K false w14.drew) (G.ixS s_4 2 fun n32=>G.cond (decide (191<n32)) (K false w14.drew) (G.ixS s_4 3 fun n33=>G.cond (decide (n33<128)) (K false w14.drew) (G.ixS s_4 3 fun n34=>G.cond (decide (191<n34)) (K false w14.drew) (G.slcS s_4 4 ((s_4.size:Nat):Int) fun s35=>kc5 s35 w14.drew)))))))) (K false w14)))
theorem S8_ok (kc5:Cur g5):OkT pr false none 169 g8 (S8 (Kt Kv) kc5) (s2 (tl 1 (blk (tl 1 (lp (blk (s1 (tl 1 bd)))))))) (P7 Kv kc5):=ok_last mixed FOk_ fun v ρ w=>by kernel_rfl
def P9 (kc5:Cur g5):Post:=next (get g8 (S8 (Kt Kv) kc5)) (P7 Kv kc5)
def S10 (K:KT) (kc5:Cur g5) (s_36:ByteArray) (w:World):Prop :=
 kc5 s_36 w
theorem S10_ok (kc5:Cur g5):OkT pr false none 169 g5 (S10 (Kt Kv) kc5) (s2 (tl 1 (c1 (tl 1 (s1 (tl 1 (blk (tl 1 (lp (blk (s1 (tl 1 bd)))))))))))) (P9 Kv kc5):=ok_last mixed FOk_ fun v ρ w=>by kernel_rfl
def P11 (kc5:Cur g5):Post:=next (get g5 (S10 (Kt Kv) kc5)) (P9 Kv kc5)
def P12 (kc5:Cur g5):Post:=inBlock 2 (P11 Kv kc5)
def P14 (kc5:Cur g5) (kc13:Cur g5):Post:=next (get g5 kc13) (P12 Kv kc5)
def S15 (K:KT) (kc5:Cur g5) (kc13:Cur g5) (s_38:ByteArray) (w:World):Prop :=
 G.cond (decide (((s_38.size:Nat):Int) > 32)) (G.slcS s_38 8 ((s_38.size:Nat):Int) fun s39=>G.slcS s_38 16 ((s_38.size:Nat):Int) fun s40=>G.slcS s_38 24 ((s_38.size:Nat):Int) fun s41=>C.utf8_word_string s_38 w.drew fun n42 w43=>C.utf8_word_string s39 w43 fun n44 w45=>C.utf8_word_string s40 w45 fun n46 w47=>C.utf8_word_string s41 w47 fun n48 w49=>G.cond ((Go.bits .and .u64 (Go.bits .or .u64 (Go.bits .or .u64 n42 n44) (Go.bits .or .u64 n46 n48)) 9259542123273814144)==0) (G.slcS s_38 32 ((s_38.size:Nat):Int) fun s50=>kc13 s50 w49) (S10 K kc5 s_38 w49)) (S10 K kc5 s_38 w.drew)
theorem S15_ok (kc5:Cur g5) (kc13:Cur g5):OkT pr false none 169 g5 (S15 (Kt Kv) kc5 kc13) (lp (blk (tl 1 (c1 (tl 2 (c1 (tl 1 (s1 (tl 1 (c1 (tl 1 (s1 (tl 1 (blk (tl 1 (lp (blk (s1 (tl 1 bd))))))))))))))))))) (P14 Kv kc5 kc13):=ok_last mixed FOk_ fun v ρ w=>by kernel_rfl
def L13 (K:KT) (kc5:Cur g5):Cur g5:=loopC g5 (S15 K kc5)
theorem L13_ok (kc5:Cur g5):OkT pr false none 169 g5 (L13 (Kt Kv) kc5) (blk (tl 1 (c1 (tl 2 (c1 (tl 1 (s1 (tl 1 (c1 (tl 1 (s1 (tl 1 (blk (tl 1 (lp (blk (s1 (tl 1 bd)))))))))))))))))) (P12 Kv kc5):=ok_loop (B:=S15 (Kt Kv) kc5) (by kernel_rfl) fun kc=>S15_ok Kv kc5 kc
theorem L13_ind {K:KT} {kc5:Cur g5} {s_37:ByteArray} {w:World} (h:∀ X:Cur g5,(∀ s_37 w,S15 K kc5 X s_37 w→X s_37 w)→X s_37 w):L13 K kc5 s_37 w:=fun X hX=>h X fun s_37 w hb=>hX (s_37,()) w hb
theorem B16 (kc5:Cur g5):OkT pr false none 169 g5 (L13 (Kt Kv) kc5) (tl 1 (c1 (tl 2 (c1 (tl 1 (s1 (tl 1 (c1 (tl 1 (s1 (tl 1 (blk (tl 1 (lp (blk (s1 (tl 1 bd))))))))))))))))) (P11 Kv kc5):=ok_block 2 (by kernel_rfl) (L13_ok Kv kc5)
abbrev g17:List SE:=[.v 0 .str,.v 39 .bool]
def S17 (K:KT) (kc5:Cur g5) (s_51:ByteArray) (b52:Bool) (w:World):Prop :=
 G.slcS s_51 16 ((s_51.size:Nat):Int) fun s53=>L13 K kc5 s53 w
theorem S17_ok (kc5:Cur g5):OkT pr false none 169 g17 (S17 (Kt Kv) kc5) (c1 (tl 2 (c1 (tl 1 (s1 (tl 1 (c1 (tl 1 (s1 (tl 1 (blk (tl 1 (lp (blk (s1 (tl 1 bd)))))))))))))))) (P11 Kv kc5):=ok_group mixed FOk_ 1 (B16 Kv kc5) fun v ρ w=>by kernel_rfl
def S18 (K:KT) (kc5:Cur g5) (s_54:ByteArray) (b55:Bool) (w:World):Prop :=
 S10 K kc5 s_54 w
theorem S18_ok (kc5:Cur g5):OkT pr false none 169 g17 (S18 (Kt Kv) kc5) (c2 (tl 2 (c1 (tl 1 (s1 (tl 1 (c1 (tl 1 (s1 (tl 1 (blk (tl 1 (lp (blk (s1 (tl 1 bd)))))))))))))))) (P11 Kv kc5):=ok_last mixed FOk_ fun v ρ w=>by kernel_rfl
def D19 (K:KT) (kc5:Cur g5) (s_56:ByteArray) (b57:Bool) (w:World):Prop :=
 G.cond b57 (S17 K kc5 s_56 b57 w) (S18 K kc5 s_56 b57 w)
theorem D19_ok (kc5:Cur g5):OkT pr false none 169 g17 (D19 (Kt Kv) kc5) (tl 2 (c1 (tl 1 (s1 (tl 1 (c1 (tl 1 (s1 (tl 1 (blk (tl 1 (lp (blk (s1 (tl 1 bd))))))))))))))) (P11 Kv kc5) :=
 ok_cond 39 (fun v=>v.2.1) (by kernel_rfl) (fun v ρ=>by kernel_rfl) (fun v w=>by kernel_rfl) (S17_ok Kv kc5) (S18_ok Kv kc5)
abbrev g20:List SE:=[.v 0 .str,.v 24 .bool]
def S20 (K:KT) (kc5:Cur g5) (s_58:ByteArray) (b59:Bool) (w:World):Prop :=
 G.slcS s_58 8 ((s_58.size:Nat):Int) fun s60=>G.cond (decide (((s60.size:Nat):Int) > 16)) (G.slcS s60 8 ((s60.size:Nat):Int) fun s61=>C.utf8_word_string s60 w.drew fun n62 w63=>C.utf8_word_string s61 w63 fun n64 w65=>D19 K kc5 s60 ((Go.bits .and .u64 (Go.bits .or .u64 n62 n64) 9259542123273814144)==0) w65) (D19 K kc5 s60 false w.drew)
theorem S20_ok (kc5:Cur g5):OkT pr false none 169 g20 (S20 (Kt Kv) kc5) (c1 (tl 1 (s1 (tl 1 (c1 (tl 1 (s1 (tl 1 (blk (tl 1 (lp (blk (s1 (tl 1 bd)))))))))))))) (P11 Kv kc5):=ok_group mixed FOk_ 2 (D19_ok Kv kc5) fun v ρ w=>by kernel_rfl
def S21 (K:KT) (kc5:Cur g5) (s_66:ByteArray) (b67:Bool) (w:World):Prop :=
 S10 K kc5 s_66 w
theorem S21_ok (kc5:Cur g5):OkT pr false none 169 g20 (S21 (Kt Kv) kc5) (c2 (tl 1 (s1 (tl 1 (c1 (tl 1 (s1 (tl 1 (blk (tl 1 (lp (blk (s1 (tl 1 bd)))))))))))))) (P11 Kv kc5):=ok_last mixed FOk_ fun v ρ w=>by kernel_rfl
def D22 (K:KT) (kc5:Cur g5) (s_68:ByteArray) (b69:Bool) (w:World):Prop :=
 G.cond b69 (S20 K kc5 s_68 b69 w) (S21 K kc5 s_68 b69 w)
theorem D22_ok (kc5:Cur g5):OkT pr false none 169 g20 (D22 (Kt Kv) kc5) (tl 1 (s1 (tl 1 (c1 (tl 1 (s1 (tl 1 (blk (tl 1 (lp (blk (s1 (tl 1 bd))))))))))))) (P11 Kv kc5) :=
 ok_cond 24 (fun v=>v.2.1) (by kernel_rfl) (fun v ρ=>by kernel_rfl) (fun v w=>by kernel_rfl) (S20_ok Kv kc5) (S21_ok Kv kc5)
def S23 (K:KT) (kc5:Cur g5) (s_70:ByteArray) (w:World):Prop :=
 G.cond (decide (((s_70.size:Nat):Int) > 8)) (C.utf8_word_string s_70 w fun n71 w72=>D22 K kc5 s_70 ((Go.bits .and .u64 n71 9259542123273814144)==0) w72) (D22 K kc5 s_70 false w)
theorem S23_ok (kc5:Cur g5):OkT pr false none 169 g5 (S23 (Kt Kv) kc5) (s1 (tl 1 (c1 (tl 1 (s1 (tl 1 (blk (tl 1 (lp (blk (s1 (tl 1 bd)))))))))))) (P11 Kv kc5):=ok_group mixed FOk_ 1 (D22_ok Kv kc5) fun v ρ w=>by kernel_rfl
theorem Q24 (kc5:Cur g5):OkT pr false none 169 g5 (S23 (Kt Kv) kc5) (tl 1 (c1 (tl 1 (s1 (tl 1 (blk (tl 1 (lp (blk (s1 (tl 1 bd))))))))))) (P9 Kv kc5):=ok_seq (by kernel_rfl) (S10_ok Kv kc5) (S23_ok Kv kc5)
abbrev g25:List SE:=[.v 0 .str,.v 3 (.int .u8),.v 13 .bool]
def S25 (K:KT) (kc5:Cur g5) (s_73:ByteArray) (s0_74:Int) (b75:Bool) (w:World):Prop :=
 G.slcS s_73 1 ((s_73.size:Nat):Int) fun s76=>S23 K kc5 s76 w
theorem S25_ok (kc5:Cur g5):OkT pr false none 169 g25 (S25 (Kt Kv) kc5) (c1 (tl 1 (s1 (tl 1 (blk (tl 1 (lp (blk (s1 (tl 1 bd)))))))))) (P9 Kv kc5):=ok_group mixed FOk_ 1 (Q24 Kv kc5) fun v ρ w=>by kernel_rfl
def S26 (K:KT) (kc5:Cur g5) (s_77:ByteArray) (s0_78:Int) (b79:Bool) (w:World):Prop :=
 S8 K kc5 s_77 s0_78 w
theorem S26_ok (kc5:Cur g5):OkT pr false none 169 g25 (S26 (Kt Kv) kc5) (c2 (tl 1 (s1 (tl 1 (blk (tl 1 (lp (blk (s1 (tl 1 bd)))))))))) (P9 Kv kc5):=ok_last mixed FOk_ fun v ρ w=>by kernel_rfl
def D27 (K:KT) (kc5:Cur g5) (s_80:ByteArray) (s0_81:Int) (b82:Bool) (w:World):Prop :=
 G.cond b82 (S25 K kc5 s_80 s0_81 b82 w) (S26 K kc5 s_80 s0_81 b82 w)
theorem D27_ok (kc5:Cur g5):OkT pr false none 169 g25 (D27 (Kt Kv) kc5) (tl 1 (s1 (tl 1 (blk (tl 1 (lp (blk (s1 (tl 1 bd))))))))) (P9 Kv kc5) :=
 ok_cond 13 (fun v=>v.2.2.1) (by kernel_rfl) (fun v ρ=>by kernel_rfl) (fun v w=>by kernel_rfl) (S25_ok Kv kc5) (S26_ok Kv kc5)
def S28 (K:KT) (kc5:Cur g5) (s_83:ByteArray) (s0_84:Int) (w:World):Prop :=
 D27 K kc5 s_83 s0_84 (decide (s0_84<128)) w
theorem S28_ok (kc5:Cur g5):OkT pr false none 169 g8 (S28 (Kt Kv) kc5) (s1 (tl 1 (blk (tl 1 (lp (blk (s1 (tl 1 bd)))))))) (P9 Kv kc5):=ok_group mixed FOk_ 1 (D27_ok Kv kc5) fun v ρ w=>by kernel_rfl
theorem Q29 (kc5:Cur g5):OkT pr false none 169 g8 (S28 (Kt Kv) kc5) (tl 1 (blk (tl 1 (lp (blk (s1 (tl 1 bd))))))) (P7 Kv kc5):=ok_seq (by kernel_rfl) (S8_ok Kv kc5) (S28_ok Kv kc5)
def S30 (K:KT) (kc5:Cur g5) (s_85:ByteArray) (w:World):Prop :=
 G.ixS s_85 0 fun n86=>S28 K kc5 s_85 n86 w
theorem S30_ok (kc5:Cur g5):OkT pr false none 169 g5 (S30 (Kt Kv) kc5) (blk (tl 1 (lp (blk (s1 (tl 1 bd)))))) (P7 Kv kc5):=ok_group mixed FOk_ 1 (Q29 Kv kc5) fun v ρ w=>by kernel_rfl
theorem B31 (kc5:Cur g5):OkT pr false none 169 g5 (S30 (Kt Kv) kc5) (tl 1 (lp (blk (s1 (tl 1 bd))))) (P6 Kv kc5):=ok_block 1 (by kernel_rfl) (S30_ok Kv kc5)
def S32 (K:KT) (kc5:Cur g5) (s_87:ByteArray) (w:World):Prop :=
 G.cond (decide (((s_87.size:Nat):Int) > 0)) (S30 K kc5 s_87 w) (S2 K w)
theorem S32_ok (kc5:Cur g5):OkT pr false none 169 g5 (S32 (Kt Kv) kc5) (lp (blk (s1 (tl 1 bd)))) (P6 Kv kc5):=ok_group mixed FOk_ 1 (B31 Kv kc5) fun v ρ w=>by kernel_rfl
def L5 (K:KT):Cur g5:=loopC g5 (S32 K)
theorem L5_ok:OkT pr false none 169 g5 (L5 (Kt Kv)) (blk (s1 (tl 1 bd))) (P4 Kv):=ok_loop (B:=S32 (Kt Kv)) (by kernel_rfl) fun kc=>S32_ok Kv kc
theorem L5_ind {K:KT} {s_3:ByteArray} {w:World} (h:∀ X:Cur g5,(∀ s_3 w,S32 K X s_3 w→X s_3 w)→X s_3 w):L5 K s_3 w:=fun X hX=>h X fun s_3 w hb=>hX (s_3,()) w hb
theorem B33:OkT pr false none 169 g5 (L5 (Kt Kv)) (s1 (tl 1 bd)) (P3 Kv):=ok_block 0 (by kernel_rfl) (L5_ok Kv)
theorem Q34:OkT pr false none 169 g5 (L5 (Kt Kv)) (tl 1 bd) (P1 Kv):=ok_seq (by kernel_rfl) (S2_ok Kv) (B33 Kv)
end utf8_ValidString
def utf8_ValidString (s_2:ByteArray) (w:World) (K:utf8_ValidString.KT):Prop :=
 utf8_ValidString.L5 K s_2 w
def utf8_ValidString.cl:CL:=fun args K w=>match args with
 | [.string x0]=>C.utf8_ValidString x0 w (utf8_ValidString.Kt K)
 | _=>False
theorem utf8_ValidString.clok:OkC pr 139 utf8_ValidString.cl:=by
 intro args K w h
 unfold utf8_ValidString.cl at h
 split at h
 ·exact calls_group false mixed utf8_ValidString.FOk_ utf8_ValidString.fn rfl 1 (utf8_ValidString.Q34 K) (Eq.mp (by kernel_rfl) h)
 ·exact h.elim
namespace labels_value
abbrev KT:=Int→World→Prop
def Kt:KT:=fun n1 w=>Kv (.int .i64 n1) w
noncomputable def bd:Code:=bdy Tryz.f123
theorem fn:FnOk pr 123 14 Tryz.f123:=⟨Tryz.func123,by kernel_rfl,Tryz.ntmps123,by kernel_rfl,by kernel_rfl⟩
def F:Clee:=ofL [(139,C.utf8_ValidString.cl)]
theorem FOk_:FOk pr F:=FOk_cons C.utf8_ValidString.clok (FOk_nil)
def P1:Post:=bodyK false pr 14 Tryz.f123 Kv
end labels_value
def labels_value (s_2:ByteArray) (w:World) (K:labels_value.KT):Prop :=
 G.cond (s_2.toList==(⟨#[]⟩:ByteArray).toList) (K 41 w) (G.cond (decide (((s_2.size:Nat):Int) > 256)) (K 4 w) (C.utf8_ValidString s_2 w fun b3 w4=>G.cond (!b3) (K 12 w4) (K 0 w4)))
def labels_value.cl:CL:=fun args K w=>match args with
 | [.string x0]=>C.labels_value x0 w (labels_value.Kt K)
 | _=>False
theorem labels_value.clok:OkC pr 123 labels_value.cl:=by
 intro args K w h
 unfold labels_value.cl at h
 split at h
 ·exact calls_last false mixed labels_value.FOk_ labels_value.fn rfl (Eq.mp (by kernel_rfl) h)
 ·exact h.elim
namespace labels_Right
abbrev KT:=Int→Int→World→Prop
def Kt:KT:=fun n1 n2 w=>Kv (.tuple #[(.int .i64 n1),(.int .i64 n2)]) w
noncomputable def bd:Code:=bdy Tryz.f102
theorem fn:FnOk pr 102 44 Tryz.f102:=⟨Tryz.func102,by kernel_rfl,Tryz.ntmps102,by kernel_rfl,by kernel_rfl⟩
def F:Clee:=ofL [(122,C.labels_Name.cl),(123,C.labels_value.cl)]
theorem FOk_:FOk pr F:=FOk_cons C.labels_Name.clok (FOk_cons C.labels_value.clok (FOk_nil))
def P1:Post:=bodyK false pr 44 Tryz.f102 Kv
abbrev g2:List SE:=[]
def S2 (K:KT) (w:World):Prop :=
 K 0 0 w
theorem S2_ok:OkT pr false none 44 g2 (S2 (Kt Kv)) (s2 (tl 2 bd)) (P1 Kv):=ok_last mixed FOk_ fun v ρ w=>by kernel_rfl
def P3:Post:=next (get g2 (S2 (Kt Kv))) (P1 Kv)
def P4:Post:=inBlock 0 (P3 Kv)
abbrev g5:List SE:=[.v 0 .sl,.v 10 .sl,.v 11 (.int .i64),.v 12 (.int .i64)]
def P6 (kc5:Cur g5):Post:=next (get g5 kc5) (P4 Kv)
def S7 (K:KT) (kc5:Cur g5) (l_12:Sl) (l13:Sl) (n14:Int) (n15:Int) (w:World):Prop :=
 G.cond (decide (n15<n14)) (G.ix l13.a l13.n n15 2 fun p16=>G.cS p16 w fun s17=>G.cS (p16.add 1) w fun s18=>G.new (.cells #[(.string (⟨#[]⟩:ByteArray)),(.string (⟨#[]⟩:ByteArray))] 93) w fun p19 w20=>G.st p19 (.string s17) w20 fun w21=>G.st (p19.add 1) (.string s18) w21 fun w22=>G.cS p19 w22 fun s23=>C.labels_Name s23 w22 fun b24 w25=>G.cond (!b24) (K 40 n15 w25) (G.cS (p19.add 1) w25 fun s26=>C.labels_value s26 w25 fun n27 w28=>G.cond (n27 != 0) (K n27 n15 w28) (G.cond (decide (n15 > 0)) (G.cS p19 w28.drew fun s29=>G.ix l_12.a l_12.n (IntKind.i64.wrap (n15-1)) 2 fun p30=>G.cS p30 w28.drew fun s31=>G.cond ((Op.bytesLess s29.toList s31.toList) || (s29.toList==s31.toList)) (K 3 n15 w28.drew) (kc5 l_12 l13 n14 (IntKind.i64.wrap (n15+1)) w28.drew)) (kc5 l_12 l13 n14 (IntKind.i64.wrap (n15+1)) w28.drew)))) (S2 K w)
theorem S7_ok (kc5:Cur g5):OkT pr false none 44 g5 (S7 (Kt Kv) kc5) (lp (blk (tl 1 (s1 (tl 2 bd))))) (P6 Kv kc5):=ok_last mixed FOk_ fun v ρ w=>by kernel_rfl
def L5 (K:KT):Cur g5:=loopC g5 (S7 K)
theorem L5_ok:OkT pr false none 44 g5 (L5 (Kt Kv)) (blk (tl 1 (s1 (tl 2 bd)))) (P4 Kv):=ok_loop (B:=S7 (Kt Kv)) (by kernel_rfl) fun kc=>S7_ok Kv kc
theorem L5_ind {K:KT} {l_4:Sl} {l5:Sl} {n6:Int} {n7:Int} {w:World} (h:∀ X:Cur g5,(∀ l_4 l5 n6 n7 w,S7 K X l_4 l5 n6 n7 w→X l_4 l5 n6 n7 w)→X l_4 l5 n6 n7 w):L5 K l_4 l5 n6 n7 w:=fun X hX=>h X fun l_4 l5 n6 n7 w hb=>hX (l_4,l5,n6,n7,()) w hb
theorem B8:OkT pr false none 44 g5 (L5 (Kt Kv)) (tl 1 (s1 (tl 2 bd))) (P3 Kv):=ok_block 0 (by kernel_rfl) (L5_ok Kv)
abbrev g9:List SE:=[.v 0 .sl]
def S9 (K:KT) (l_32:Sl) (w:World):Prop :=
 L5 K l_32 l_32 ((l_32.n:Nat):Int) 0 w
theorem S9_ok:OkT pr false none 44 g9 (S9 (Kt Kv)) (s1 (tl 2 bd)) (P3 Kv):=ok_group mixed FOk_ 1 (B8 Kv) fun v ρ w=>by kernel_rfl
theorem Q10:OkT pr false none 44 g9 (S9 (Kt Kv)) (tl 2 bd) (P1 Kv):=ok_seq (by kernel_rfl) (S2_ok Kv) (S9_ok Kv)
end labels_Right
def labels_Right (l_3:Sl) (w:World) (K:labels_Right.KT):Prop :=
 G.cond (decide (((l_3.n:Nat):Int) > 16)) (K 8 0 w) (labels_Right.S9 K l_3 w)
def labels_Right.cl:CL:=fun args K w=>match args with
 | [.slice x0_a x0_n x0_c]=>C.labels_Right ⟨x0_a,x0_n,x0_c⟩ w (labels_Right.Kt K)
 | _=>False
theorem labels_Right.clok:OkC pr 102 labels_Right.cl:=by
 intro args K w h
 unfold labels_Right.cl at h
 split at h
 ·exact calls_group false mixed labels_Right.FOk_ labels_Right.fn rfl 2 (labels_Right.Q10 K) (Eq.mp (by kernel_rfl) h)
 ·exact h.elim
namespace labels_right
abbrev KT:=Int→World→Prop
def Kt:KT:=fun n1 w=>Kv (.int .i64 n1) w
noncomputable def bd:Code:=bdy Tryz.f111
theorem fn:FnOk pr 111 11 Tryz.f111:=⟨Tryz.func111,by kernel_rfl,Tryz.ntmps111,by kernel_rfl,by kernel_rfl⟩
def F:Clee:=ofL [(102,C.labels_Right.cl)]
theorem FOk_:FOk pr F:=FOk_cons C.labels_Right.clok (FOk_nil)
def P1:Post:=bodyK false pr 11 Tryz.f111 Kv
end labels_right
def labels_right (l_2:Sl) (w:World) (K:labels_right.KT):Prop :=
 C.labels_Right l_2 w fun n3 n4 w5=>K n3 w5
def labels_right.cl:CL:=fun args K w=>match args with
 | [.slice x0_a x0_n x0_c]=>C.labels_right ⟨x0_a,x0_n,x0_c⟩ w (labels_right.Kt K)
 | _=>False
theorem labels_right.clok:OkC pr 111 labels_right.cl:=by
 intro args K w h
 unfold labels_right.cl at h
 split at h
 ·exact calls_last false mixed labels_right.FOk_ labels_right.fn rfl (Eq.mp (by kernel_rfl) h)
 ·exact h.elim
namespace vint_PutText
abbrev KT:=Sl→World→Prop
def Kt:KT:=fun l1 w=>Kv l1.v w
noncomputable def bd:Code:=bdy Tryz.f112
theorem fn:FnOk pr 112 13 Tryz.f112:=⟨Tryz.func112,by kernel_rfl,Tryz.ntmps112,by kernel_rfl,by kernel_rfl⟩
def F:Clee:=ofL [(72,C.vint_PutU.cl),(106,C.vint_joined.cl)]
theorem FOk_:FOk pr F:=FOk_cons C.vint_PutU.clok (FOk_cons C.vint_joined.clok (FOk_nil))
def P1:Post:=bodyK false pr 13 Tryz.f112 Kv
end vint_PutText
def vint_PutText (b_2:Sl) (s_3:ByteArray) (w:World) (K:vint_PutText.KT):Prop :=
 C.vint_PutU b_2 (IntKind.u64.wrap ((s_3.size:Nat):Int)) w fun l4 w5=>G.runSl pr (Go.convert 9 22 (.string s_3)) w5 fun l6 w7=>C.vint_joined l4 l6 w7 fun l8 w9=>K l8 w9
def vint_PutText.cl:CL:=fun args K w=>match args with
 | [.slice x0_a x0_n x0_c,.string x1]=>C.vint_PutText ⟨x0_a,x0_n,x0_c⟩ x1 w (vint_PutText.Kt K)
 | _=>False
theorem vint_PutText.clok:OkC pr 112 vint_PutText.cl:=by
 intro args K w h
 unfold vint_PutText.cl at h
 split at h
 ·exact calls_last false mixed vint_PutText.FOk_ vint_PutText.fn rfl (Eq.mp (by kernel_rfl) h)
 ·exact h.elim
namespace labels_Put
abbrev KT:=Sl→Int→World→Prop
def Kt:KT:=fun l1 n2 w=>Kv (.tuple #[l1.v,(.int .i64 n2)]) w
noncomputable def bd:Code:=bdy Tryz.f79
theorem fn:FnOk pr 79 35 Tryz.f79:=⟨Tryz.func79,by kernel_rfl,Tryz.ntmps79,by kernel_rfl,by kernel_rfl⟩
def F:Clee:=ofL [(72,C.vint_PutU.cl),(111,C.labels_right.cl),(112,C.vint_PutText.cl)]
theorem FOk_:FOk pr F:=FOk_cons C.vint_PutU.clok (FOk_cons C.labels_right.clok (FOk_cons C.vint_PutText.clok (FOk_nil)))
def P1:Post:=bodyK false pr 35 Tryz.f79 Kv
abbrev g2:List SE:=[.v 7 .sl]
def S2 (K:KT) (out_7:Sl) (w:World):Prop :=
 K out_7 0 w
theorem S2_ok:OkT pr false none 35 g2 (S2 (Kt Kv)) (s2 (tl 3 bd)) (P1 Kv):=ok_last mixed FOk_ fun v ρ w=>by kernel_rfl
def P3:Post:=next (get g2 (S2 (Kt Kv))) (P1 Kv)
def P4:Post:=inBlock 0 (P3 Kv)
abbrev g5:List SE:=[.v 7 .sl,.v 20 .sl,.v 21 (.int .i64),.v 22 (.int .i64)]
def P6 (kc5:Cur g5):Post:=next (get g5 kc5) (P4 Kv)
def S7 (K:KT) (kc5:Cur g5) (out_16:Sl) (l17:Sl) (n18:Int) (n19:Int) (w:World):Prop :=
 G.cond (decide (n19<n18)) (G.ix l17.a l17.n n19 2 fun p20=>G.cS p20 w fun s21=>G.cS (p20.add 1) w fun s22=>G.new (.cells #[(.string (⟨#[]⟩:ByteArray)),(.string (⟨#[]⟩:ByteArray))] 93) w fun p23 w24=>G.st p23 (.string s21) w24 fun w25=>G.st (p23.add 1) (.string s22) w25 fun w26=>G.cS p23 w26.drew fun s27=>G.cS (p23.add 1) w26.drew fun s28=>C.vint_PutText out_16 s27 w26.drew fun l29 w30=>sameAt (p23.add 1) 1 w26.drew w30∧(C.vint_PutText l29 s28 w30 fun l31 w32=>kc5 l31 l17 n18 (IntKind.i64.wrap (n19+1)) w32)) (S2 K out_16 w)
theorem S7_ok (kc5:Cur g5):OkT pr false none 35 g5 (S7 (Kt Kv) kc5) (lp (blk (tl 1 (s1 (tl 3 bd))))) (P6 Kv kc5):=ok_last mixed FOk_ fun v ρ w=>by kernel_rfl
def L5 (K:KT):Cur g5:=loopC g5 (S7 K)
theorem L5_ok:OkT pr false none 35 g5 (L5 (Kt Kv)) (blk (tl 1 (s1 (tl 3 bd)))) (P4 Kv):=ok_loop (B:=S7 (Kt Kv)) (by kernel_rfl) fun kc=>S7_ok Kv kc
theorem L5_ind {K:KT} {out_8:Sl} {l9:Sl} {n10:Int} {n11:Int} {w:World} (h:∀ X:Cur g5,(∀ out_8 l9 n10 n11 w,S7 K X out_8 l9 n10 n11 w→X out_8 l9 n10 n11 w)→X out_8 l9 n10 n11 w):L5 K out_8 l9 n10 n11 w:=fun X hX=>h X fun out_8 l9 n10 n11 w hb=>hX (out_8,l9,n10,n11,()) w hb
theorem B8:OkT pr false none 35 g5 (L5 (Kt Kv)) (tl 1 (s1 (tl 3 bd))) (P3 Kv):=ok_block 0 (by kernel_rfl) (L5_ok Kv)
abbrev g9:List SE:=[.v 1 .sl,.v 7 .sl]
def S9 (K:KT) (l_33:Sl) (out_34:Sl) (w:World):Prop :=
 L5 K out_34 l_33 ((l_33.n:Nat):Int) 0 w
theorem S9_ok:OkT pr false none 35 g9 (S9 (Kt Kv)) (s1 (tl 3 bd)) (P3 Kv):=ok_group mixed FOk_ 1 (B8 Kv) fun v ρ w=>by kernel_rfl
theorem Q10:OkT pr false none 35 g9 (S9 (Kt Kv)) (tl 3 bd) (P1 Kv):=ok_seq (by kernel_rfl) (S2_ok Kv) (S9_ok Kv)
end labels_Put
def labels_Put (b_3:Sl) (l_4:Sl) (w:World) (K:labels_Put.KT):Prop :=
 C.labels_right l_4 w fun n35 w36=>G.cond (n35 != 0) (K nilS n35 w36) (C.vint_PutU b_3 (IntKind.u64.wrap ((l_4.n:Nat):Int)) w36 fun l37 w38=>labels_Put.S9 K l_4 l37 w38)
def labels_Put.cl:CL:=fun args K w=>match args with
 | [.slice x0_a x0_n x0_c,.slice x1_a x1_n x1_c]=>C.labels_Put ⟨x0_a,x0_n,x0_c⟩ ⟨x1_a,x1_n,x1_c⟩ w (labels_Put.Kt K)
 | _=>False
theorem labels_Put.clok:OkC pr 79 labels_Put.cl:=by
 intro args K w h
 unfold labels_Put.cl at h
 split at h
 ·exact calls_group false mixed labels_Put.FOk_ labels_Put.fn rfl 3 (labels_Put.Q10 K) (Eq.mp (by kernel_rfl) h)
 ·exact h.elim
namespace bits_NewWriter
abbrev KT:=Option Addr→World→Prop
def Kt:KT:=fun p1 w=>Kv (.pointer p1) w
noncomputable def bd:Code:=bdy Tryz.f196
theorem fn:FnOk pr 196 3 Tryz.f196:=⟨Tryz.func196,by kernel_rfl,Tryz.ntmps196,by kernel_rfl,by kernel_rfl⟩
def F:Clee:=ofL []
theorem FOk_:FOk pr F:=FOk_nil
def P1:Post:=bodyK false pr 3 Tryz.f196 Kv
end bits_NewWriter
def bits_NewWriter (w:World) (K:bits_NewWriter.KT):Prop :=
 G.new (.cells #[nilS.v,(.int .i64 0)] 250) w fun p2 w3=>K (some p2) w3
def bits_NewWriter.cl:CL:=fun args K w=>match args with
 | []=>C.bits_NewWriter w (bits_NewWriter.Kt K)
 | _=>False
theorem bits_NewWriter.clok:OkC pr 196 bits_NewWriter.cl:=by
 intro args K w h
 unfold bits_NewWriter.cl at h
 split at h
 ·exact calls_last false mixed bits_NewWriter.FOk_ bits_NewWriter.fn rfl (Eq.mp (by kernel_rfl) h)
 ·exact h.elim
namespace chunk_New
abbrev KT:=Option Addr→World→Prop
def Kt:KT:=fun p1 w=>Kv (.pointer p1) w
noncomputable def bd:Code:=bdy Tryz.f170
theorem fn:FnOk pr 170 4 Tryz.f170:=⟨Tryz.func170,by kernel_rfl,Tryz.ntmps170,by kernel_rfl,by kernel_rfl⟩
def F:Clee:=ofL [(196,C.bits_NewWriter.cl)]
theorem FOk_:FOk pr F:=FOk_cons C.bits_NewWriter.clok (FOk_nil)
def P1:Post:=bodyK false pr 4 Tryz.f170 Kv
end chunk_New
def chunk_New (w:World) (K:chunk_New.KT):Prop :=
 C.bits_NewWriter w fun p2 w3=>G.new (.cells #[nilS.v,(.pointer p2),(.int .i64 0),(.int .i64 0),(.bool false)] 243) w3 fun p4 w5=>K (some p4) w5
def chunk_New.cl:CL:=fun args K w=>match args with
 | []=>C.chunk_New w (chunk_New.Kt K)
 | _=>False
theorem chunk_New.clok:OkC pr 170 chunk_New.cl:=by
 intro args K w h
 unfold chunk_New.cl at h
 split at h
 ·exact calls_last false mixed chunk_New.FOk_ chunk_New.fn rfl (Eq.mp (by kernel_rfl) h)
 ·exact h.elim
abbrev math_Float64bits.KT:=Int→World→Prop
def math_Float64bits.Kt:math_Float64bits.KT:=fun r0 w=>Kv (.int .u64 r0) w
def math_Float64bits (x0:Nat) (w:World) (K:math_Float64bits.KT):Prop:=K (x0:Int) w
def math_Float64bits.cl:CL:=fun args K w=>match args with
 | [.float .f64 x0]=>C.math_Float64bits x0 w (math_Float64bits.Kt K)
 | _=>False
theorem math_Float64bits.clok:OkX pr 100 math_Float64bits.cl:=by
 intro args K w h
 unfold math_Float64bits.cl at h
 split at h
 ·exact ⟨_,w,by kernel_rfl,h⟩
 ·exact h.elim
namespace bits_Writer_put
abbrev KT:=World→Prop
def Kt:KT:=fun  w=>Kv (.tuple #[]) w
noncomputable def bd:Code:=bdy Tryz.f213
theorem fn:FnOk pr 213 47 Tryz.f213:=⟨Tryz.func213,by kernel_rfl,Tryz.ntmps213,by kernel_rfl,by kernel_rfl⟩
def F:Clee:=ofL []
theorem FOk_:FOk pr F:=FOk_nil
def P1:Post:=bodyK false pr 47 Tryz.f213 Kv
abbrev g2:List SE:=[.v 0 .ptr]
def S2 (K:KT) (w_7:Option Addr) (w:World):Prop :=
 G.ptr w_7 fun p8=>G.cI .i64 (p8.add 1) w fun n9=>G.ptr w_7 fun p10=>G.st (p10.add 1) (.int .i64 (IntKind.i64.wrap (n9+1))) w fun w11=>K w11
theorem S2_ok:OkT pr false none 47 g2 (S2 (Kt Kv)) (tl 1 (tl 1 bd)) (P1 Kv):=ok_last mixed FOk_ fun v ρ w=>by kernel_rfl
abbrev g3:List SE:=[.v 0 .ptr,.v 1 .bool]
def S3 (K:KT) (w_12:Option Addr) (b_13:Bool) (w:World):Prop :=
 G.cond b_13 (G.ptr w_12 fun p14=>G.cSl p14 w.drew fun l15=>G.ptr w_12 fun p16=>G.cI .i64 (p16.add 1) w.drew fun n17=>G.nz 8<|G.ix l15.a l15.n (IntKind.i64.wrap (Int.tdiv n17 8)) 1 fun p18=>G.cI .u8 p18 w.drew fun n19=>G.ptr w_12 fun p20=>G.cI .i64 (p20.add 1) w.drew fun n21=>G.nz 8<|G.nn (IntKind.u64.wrap (Int.tmod n21 8))<|G.ix l15.a l15.n (IntKind.i64.wrap (Int.tdiv n17 8)) 1 fun p22=>G.st p22 (.int .u8 (Go.bits .or .u8 n19 (shr .u8 128 (IntKind.u64.wrap (Int.tmod n21 8))))) w.drew fun w23=>S2 K w_12 w23) (S2 K w_12 w)
theorem S3_ok:OkT pr false none 47 g3 (S3 (Kt Kv)) (tl 1 bd) (P1 Kv):=ok_group mixed FOk_ 1 (S2_ok Kv) fun v ρ w=>by kernel_rfl
end bits_Writer_put
def bits_Writer_put (w_1:Option Addr) (b_2:Bool) (w:World) (K:bits_Writer_put.KT):Prop :=
 G.ptr w_1 fun p24=>G.cI .i64 (p24.add 1) w fun n25=>G.nz 8<|G.cond ((Int.tmod n25 8)==0) (G.ptr w_1 fun p26=>G.cSl p26 w fun l27=>G.new (.cells #[(.int .u8 0)] 5) w fun p28 w29=>G.runSl pr (Builtin.append_ #[22,22] 22 #[l27.v,(Sl.v (⟨some p28,1,1⟩:Sl))]) w29 fun l30 w31=>G.ptr w_1 fun p32=>G.st p32 l30.v w31 fun w33=>bits_Writer_put.S3 K w_1 b_2 w33) (bits_Writer_put.S3 K w_1 b_2 w)
def bits_Writer_put.cl:CL:=fun args K w=>match args with
 | [.pointer x0,.bool x1]=>C.bits_Writer_put x0 x1 w (bits_Writer_put.Kt K)
 | _=>False
theorem bits_Writer_put.clok:OkC pr 213 bits_Writer_put.cl:=by
 intro args K w h
 unfold bits_Writer_put.cl at h
 split at h
 ·exact calls_group false mixed bits_Writer_put.FOk_ bits_Writer_put.fn rfl 1 (bits_Writer_put.S3_ok K) (Eq.mp (by kernel_rfl) h)
 ·exact h.elim
namespace bits_Writer_Bits
abbrev KT:=Int→World→Prop
def Kt:KT:=fun n1 w=>Kv (.int .i64 n1) w
noncomputable def bd:Code:=bdy Tryz.f209
theorem fn:FnOk pr 209 51 Tryz.f209:=⟨Tryz.func209,by kernel_rfl,Tryz.ntmps209,by kernel_rfl,by kernel_rfl⟩
def F:Clee:=ofL [(213,C.bits_Writer_put.cl)]
theorem FOk_:FOk pr F:=FOk_cons C.bits_Writer_put.clok (FOk_nil)
def P1:Post:=bodyK false pr 51 Tryz.f209 Kv
abbrev g2:List SE:=[]
def S2 (K:KT) (w:World):Prop :=
 K 0 w
theorem S2_ok:OkT pr false none 51 g2 (S2 (Kt Kv)) (s2 (tl 2 bd)) (P1 Kv):=ok_last mixed FOk_ fun v ρ w=>by kernel_rfl
def P3:Post:=next (get g2 (S2 (Kt Kv))) (P1 Kv)
def P4:Post:=inBlock 1 (P3 Kv)
abbrev g5:List SE:=[.v 0 .ptr,.v 1 (.int .u64),.v 7 (.int .i64)]
def P6 (kc5:Cur g5):Post:=next (get g5 kc5) (P4 Kv)
def S7 (K:KT) (kc5:Cur g5) (w_11:Option Addr) (v_12:Int) (i_13:Int) (w:World):Prop :=
 G.cond (decide (i_13 ≥ 0)) (G.nn (IntKind.u64.wrap i_13)<|C.bits_Writer_put w_11 ((Go.bits .and .u64 (shr .u64 v_12 (IntKind.u64.wrap i_13)) 1)==1) w fun w14=>kc5 w_11 v_12 (IntKind.i64.wrap (i_13-1)) w14) (S2 K w)
theorem S7_ok (kc5:Cur g5):OkT pr false none 51 g5 (S7 (Kt Kv) kc5) (lp (blk (tl 1 (s1 (tl 2 bd))))) (P6 Kv kc5):=ok_last mixed FOk_ fun v ρ w=>by kernel_rfl
def L5 (K:KT):Cur g5:=loopC g5 (S7 K)
theorem L5_ok:OkT pr false none 51 g5 (L5 (Kt Kv)) (blk (tl 1 (s1 (tl 2 bd)))) (P4 Kv):=ok_loop (B:=S7 (Kt Kv)) (by kernel_rfl) fun kc=>S7_ok Kv kc
theorem L5_ind {K:KT} {w_5:Option Addr} {v_6:Int} {i_7:Int} {w:World} (h:∀ X:Cur g5,(∀ w_5 v_6 i_7 w,S7 K X w_5 v_6 i_7 w→X w_5 v_6 i_7 w)→X w_5 v_6 i_7 w):L5 K w_5 v_6 i_7 w:=fun X hX=>h X fun w_5 v_6 i_7 w hb=>hX (w_5,v_6,i_7,()) w hb
theorem B8:OkT pr false none 51 g5 (L5 (Kt Kv)) (tl 1 (s1 (tl 2 bd))) (P3 Kv):=ok_block 1 (by kernel_rfl) (L5_ok Kv)
abbrev g9:List SE:=[.v 0 .ptr,.v 1 (.int .u64),.v 2 (.int .i64)]
def S9 (K:KT) (w_15:Option Addr) (v_16:Int) (n_17:Int) (w:World):Prop :=
 L5 K w_15 v_16 (IntKind.i64.wrap (n_17-1)) w
theorem S9_ok:OkT pr false none 51 g9 (S9 (Kt Kv)) (s1 (tl 2 bd)) (P3 Kv):=ok_group mixed FOk_ 1 (B8 Kv) fun v ρ w=>by kernel_rfl
theorem Q10:OkT pr false none 51 g9 (S9 (Kt Kv)) (tl 2 bd) (P1 Kv):=ok_seq (by kernel_rfl) (S2_ok Kv) (S9_ok Kv)
end bits_Writer_Bits
def bits_Writer_Bits (w_2:Option Addr) (v_3:Int) (n_4:Int) (w:World) (K:bits_Writer_Bits.KT):Prop :=
 G.cond w_2.isNone (K 2 w) (G.cond (decide (n_4<0)) (K 1 w) (G.cond (decide (n_4 > 64)) (K 1 w) (G.cond (decide (n_4<64)) (G.nn (IntKind.u64.wrap n_4)<|G.cond ((shr .u64 v_3 (IntKind.u64.wrap n_4)) != 0) (K 1 w) (G.ptr w_2 fun p18=>G.cI .i64 (p18.add 1) w fun n19=>G.cond (decide (n_4 > (IntKind.i64.wrap (8388608-n19)))) (K 8 w) (bits_Writer_Bits.S9 K w_2 v_3 n_4 w))) (G.ptr w_2 fun p20=>G.cI .i64 (p20.add 1) w fun n21=>G.cond (decide (n_4 > (IntKind.i64.wrap (8388608-n21)))) (K 8 w) (bits_Writer_Bits.S9 K w_2 v_3 n_4 w)))))
def bits_Writer_Bits.cl:CL:=fun args K w=>match args with
 | [.pointer x0,.int .u64 x1,.int .i64 x2]=>C.bits_Writer_Bits x0 x1 x2 w (bits_Writer_Bits.Kt K)
 | _=>False
theorem bits_Writer_Bits.clok:OkC pr 209 bits_Writer_Bits.cl:=by
 intro args K w h
 unfold bits_Writer_Bits.cl at h
 split at h
 ·exact calls_group false mixed bits_Writer_Bits.FOk_ bits_Writer_Bits.fn rfl 2 (bits_Writer_Bits.Q10 K) (Eq.mp (by kernel_rfl) h)
 ·exact h.elim
namespace chunk_Chunk_bytes
abbrev KT:=World→Prop
def Kt:KT:=fun  w=>Kv (.tuple #[]) w
noncomputable def bd:Code:=bdy Tryz.f207
theorem fn:FnOk pr 207 20 Tryz.f207:=⟨Tryz.func207,by kernel_rfl,Tryz.ntmps207,by kernel_rfl,by kernel_rfl⟩
def F:Clee:=ofL [(209,C.bits_Writer_Bits.cl)]
theorem FOk_:FOk pr F:=FOk_cons C.bits_Writer_Bits.clok (FOk_nil)
def P1:Post:=bodyK false pr 20 Tryz.f207 Kv
def P2:Post:=inBlock 0 (P1 Kv)
abbrev g3:List SE:=[.v 0 .ptr,.v 6 .sl,.v 7 (.int .i64),.v 8 (.int .i64)]
def P4 (kc3:Cur g3):Post:=next (get g3 kc3) (P2 Kv)
def S5 (K:KT) (kc3:Cur g3) (c_11:Option Addr) (l12:Sl) (n13:Int) (n14:Int) (w:World):Prop :=
 G.cond (decide (n14<n13)) (G.ix l12.a l12.n n14 1 fun p15=>G.cI .u8 p15 w fun n16=>G.ptr c_11 fun p17=>G.cP (p17.add 1) w fun p18=>C.bits_Writer_Bits p18 (IntKind.u64.wrap n16) 8 w fun n19 w20=>kc3 c_11 l12 n13 (IntKind.i64.wrap (n14+1)) w20) (K w)
theorem S5_ok (kc3:Cur g3):OkT pr false none 20 g3 (S5 (Kt Kv) kc3) (lp (blk (tl 1 bd))) (P4 Kv kc3):=ok_last mixed FOk_ fun v ρ w=>by kernel_rfl
def L3 (K:KT):Cur g3:=loopC g3 (S5 K)
theorem L3_ok:OkT pr false none 20 g3 (L3 (Kt Kv)) (blk (tl 1 bd)) (P2 Kv):=ok_loop (B:=S5 (Kt Kv)) (by kernel_rfl) fun kc=>S5_ok Kv kc
theorem L3_ind {K:KT} {c_3:Option Addr} {l4:Sl} {n5:Int} {n6:Int} {w:World} (h:∀ X:Cur g3,(∀ c_3 l4 n5 n6 w,S5 K X c_3 l4 n5 n6 w→X c_3 l4 n5 n6 w)→X c_3 l4 n5 n6 w):L3 K c_3 l4 n5 n6 w:=fun X hX=>h X fun c_3 l4 n5 n6 w hb=>hX (c_3,l4,n5,n6,()) w hb
theorem B6:OkT pr false none 20 g3 (L3 (Kt Kv)) (tl 1 bd) (P1 Kv):=ok_block 0 (by kernel_rfl) (L3_ok Kv)
end chunk_Chunk_bytes
def chunk_Chunk_bytes (c_1:Option Addr) (b_2:Sl) (w:World) (K:chunk_Chunk_bytes.KT):Prop :=
 chunk_Chunk_bytes.L3 K c_1 b_2 ((b_2.n:Nat):Int) 0 w
def chunk_Chunk_bytes.cl:CL:=fun args K w=>match args with
 | [.pointer x0,.slice x1_a x1_n x1_c]=>C.chunk_Chunk_bytes x0 ⟨x1_a,x1_n,x1_c⟩ w (chunk_Chunk_bytes.Kt K)
 | _=>False
theorem chunk_Chunk_bytes.clok:OkC pr 207 chunk_Chunk_bytes.cl:=by
 intro args K w h
 unfold chunk_Chunk_bytes.cl at h
 split at h
 ·exact calls_group false mixed chunk_Chunk_bytes.FOk_ chunk_Chunk_bytes.fn rfl 1 (chunk_Chunk_bytes.B6 K) (Eq.mp (by kernel_rfl) h)
 ·exact h.elim
namespace vint_PutI
abbrev KT:=Sl→World→Prop
def Kt:KT:=fun l1 w=>Kv l1.v w
noncomputable def bd:Code:=bdy Tryz.f208
theorem fn:FnOk pr 208 14 Tryz.f208:=⟨Tryz.func208,by kernel_rfl,Tryz.ntmps208,by kernel_rfl,by kernel_rfl⟩
def F:Clee:=ofL [(72,C.vint_PutU.cl)]
theorem FOk_:FOk pr F:=FOk_cons C.vint_PutU.clok (FOk_nil)
def P1:Post:=bodyK false pr 14 Tryz.f208 Kv
end vint_PutI
def vint_PutI (b_2:Sl) (n_3:Int) (w:World) (K:vint_PutI.KT):Prop :=
 G.nn 1<|G.nn 63<|C.vint_PutU b_2 (Go.bits .xor .u64 (shl .u64 (IntKind.u64.wrap n_3) 1) (IntKind.u64.wrap (shr .i64 n_3 63))) w fun l4 w5=>K l4 w5
def vint_PutI.cl:CL:=fun args K w=>match args with
 | [.slice x0_a x0_n x0_c,.int .i64 x1]=>C.vint_PutI ⟨x0_a,x0_n,x0_c⟩ x1 w (vint_PutI.Kt K)
 | _=>False
theorem vint_PutI.clok:OkC pr 208 vint_PutI.cl:=by
 intro args K w h
 unfold vint_PutI.cl at h
 split at h
 ·exact calls_last false mixed vint_PutI.FOk_ vint_PutI.fn rfl (Eq.mp (by kernel_rfl) h)
 ·exact h.elim
namespace bits_Len64
abbrev KT:=Int→World→Prop
def Kt:KT:=fun n1 w=>Kv (.int .i64 n1) w
noncomputable def bd:Code:=bdy Tryz.f133
theorem fn:FnOk pr 133 25 Tryz.f133:=⟨Tryz.func133,by kernel_rfl,Tryz.ntmps133,by kernel_rfl,by kernel_rfl⟩
def F:Clee:=ofL []
theorem FOk_:FOk pr F:=FOk_nil
def P1:Post:=bodyK false pr 25 Tryz.f133 Kv
abbrev g2:List SE:=[.v 0 (.int .u64),.v 2 (.int .i64)]
def S2 (K:KT) (x_6:Int) (n_7:Int) (w:World):Prop :=
 G.cond (decide (x_6 ≥ 256)) (G.nn 8<|G.ixS (⟨#[0,1,2,2,3,3,3,3,4,4,4,4,4,4,4,4,5,5,5,5,5,5,5,5,5,5,5,5,5,5,5,5,6,6,6,6,6,6,6,6,6,6,6,6,6,6,6,6,6,6,6,6,6,6,6,6,6,6,6,6,6,6,6,6,7,7,7,7,7,7,7,7,7,7,7,7,7,7,7,7,7,7,7,7,7,7,7,7,7,7,7,7,7,7,7,7,7,7,7,7,7,7,7,7,7,7,7,7,7,7,7,7,7,7,7,7,7,7,7,7,7,7,7,7,7,7,7,7,8,8,8,8,8,8,8,8,8,8,8,8,8,8,8,8,8,8,8,8,8,8,8,8,8,8,8,8,8,8,8,8,8,8,8,8,8,8,8,8,8,8,8,8,8,8,8,8,8,8,8,8,8,8,8,8,8,8,8,8,8,8,8,8,8,8,8,8,8,8,8,8,8,8,8,8,8,8,8,8,8,8,8,8,8,8,8,8,8,8,8,8,8,8,8,8,8,8,8,8,8,8,8,8,8,8,8,8,8,8,8,8,8,8,8,8,8,8,8,8,8,8,8,8,8,8,8,8]⟩:ByteArray) (IntKind.u8.wrap (shr .u64 x_6 8)) fun n8=>K (IntKind.i64.wrap ((IntKind.i64.wrap (n_7+8))+(IntKind.i64.wrap n8))) w) (G.ixS (⟨#[0,1,2,2,3,3,3,3,4,4,4,4,4,4,4,4,5,5,5,5,5,5,5,5,5,5,5,5,5,5,5,5,6,6,6,6,6,6,6,6,6,6,6,6,6,6,6,6,6,6,6,6,6,6,6,6,6,6,6,6,6,6,6,6,7,7,7,7,7,7,7,7,7,7,7,7,7,7,7,7,7,7,7,7,7,7,7,7,7,7,7,7,7,7,7,7,7,7,7,7,7,7,7,7,7,7,7,7,7,7,7,7,7,7,7,7,7,7,7,7,7,7,7,7,7,7,7,7,8,8,8,8,8,8,8,8,8,8,8,8,8,8,8,8,8,8,8,8,8,8,8,8,8,8,8,8,8,8,8,8,8,8,8,8,8,8,8,8,8,8,8,8,8,8,8,8,8,8,8,8,8,8,8,8,8,8,8,8,8,8,8,8,8,8,8,8,8,8,8,8,8,8,8,8,8,8,8,8,8,8,8,8,8,8,8,8,8,8,8,8,8,8,8,8,8,8,8,8,8,8,8,8,8,8,8,8,8,8,8,8,8,8,8,8,8,8,8,8,8,8,8,8,8,8,8,8]⟩:ByteArray) (IntKind.u8.wrap x_6) fun n9=>K (IntKind.i64.wrap (n_7+(IntKind.i64.wrap n9))) w)
theorem S2_ok:OkT pr false none 25 g2 (S2 (Kt Kv)) (tl 1 (tl 2 bd)) (P1 Kv):=ok_last mixed FOk_ fun v ρ w=>by kernel_rfl
def S3 (K:KT) (x_10:Int) (n_11:Int) (w:World):Prop :=
 G.cond (decide (x_10 ≥ 65536)) (G.nn 16<|S2 K (shr .u64 x_10 16) (IntKind.i64.wrap (n_11+16)) w) (S2 K x_10 n_11 w)
theorem S3_ok:OkT pr false none 25 g2 (S3 (Kt Kv)) (tl 2 bd) (P1 Kv):=ok_group mixed FOk_ 1 (S2_ok Kv) fun v ρ w=>by kernel_rfl
end bits_Len64
def bits_Len64 (x_2:Int) (w:World) (K:bits_Len64.KT):Prop :=
 G.cond (decide (x_2 ≥ 4294967296)) (G.nn 32<|bits_Len64.S3 K (shr .u64 x_2 32) 32 w) (bits_Len64.S3 K x_2 0 w)
def bits_Len64.cl:CL:=fun args K w=>match args with
 | [.int .u64 x0]=>C.bits_Len64 x0 w (bits_Len64.Kt K)
 | _=>False
theorem bits_Len64.clok:OkC pr 133 bits_Len64.cl:=by
 intro args K w h
 unfold bits_Len64.cl at h
 split at h
 ·exact calls_group false mixed bits_Len64.FOk_ bits_Len64.fn rfl 2 (bits_Len64.S3_ok K) (Eq.mp (by kernel_rfl) h)
 ·exact h.elim
namespace bits_LeadingZeros64
abbrev KT:=Int→World→Prop
def Kt:KT:=fun n1 w=>Kv (.int .i64 n1) w
noncomputable def bd:Code:=bdy Tryz.f214
theorem fn:FnOk pr 214 6 Tryz.f214:=⟨Tryz.func214,by kernel_rfl,Tryz.ntmps214,by kernel_rfl,by kernel_rfl⟩
def F:Clee:=ofL [(133,C.bits_Len64.cl)]
theorem FOk_:FOk pr F:=FOk_cons C.bits_Len64.clok (FOk_nil)
def P1:Post:=bodyK false pr 6 Tryz.f214 Kv
end bits_LeadingZeros64
def bits_LeadingZeros64 (x_2:Int) (w:World) (K:bits_LeadingZeros64.KT):Prop :=
 C.bits_Len64 x_2 w fun n3 w4=>K (IntKind.i64.wrap (64-n3)) w4
def bits_LeadingZeros64.cl:CL:=fun args K w=>match args with
 | [.int .u64 x0]=>C.bits_LeadingZeros64 x0 w (bits_LeadingZeros64.Kt K)
 | _=>False
theorem bits_LeadingZeros64.clok:OkC pr 214 bits_LeadingZeros64.cl:=by
 intro args K w h
 unfold bits_LeadingZeros64.cl at h
 split at h
 ·exact calls_last false mixed bits_LeadingZeros64.FOk_ bits_LeadingZeros64.fn rfl (Eq.mp (by kernel_rfl) h)
 ·exact h.elim
namespace bits_TrailingZeros64
abbrev KT:=Int→World→Prop
def Kt:KT:=fun n1 w=>Kv (.int .i64 n1) w
noncomputable def bd:Code:=bdy Tryz.f215
theorem fn:FnOk pr 215 14 Tryz.f215:=⟨Tryz.func215,by kernel_rfl,Tryz.ntmps215,by kernel_rfl,by kernel_rfl⟩
def F:Clee:=ofL []
theorem FOk_:FOk pr F:=FOk_nil
def P1:Post:=bodyK false pr 14 Tryz.f215 Kv
end bits_TrailingZeros64
def bits_TrailingZeros64 (x_2:Int) (w:World) (K:bits_TrailingZeros64.KT):Prop :=
 G.cond (x_2==0) (K 64 w) (G.nn 58<|G.ix (some ⟨5,0,none⟩) 64 (shr .u64 (IntKind.u64.wrap ((Go.bits .and .u64 x_2 (IntKind.u64.wrap (0-x_2)))*285870213051353865)) 58) 1 fun p4=>G.cI .u8 p4 w fun n5=>K (IntKind.i64.wrap n5) w)
def bits_TrailingZeros64.cl:CL:=fun args K w=>match args with
 | [.int .u64 x0]=>C.bits_TrailingZeros64 x0 w (bits_TrailingZeros64.Kt K)
 | _=>False
theorem bits_TrailingZeros64.clok:OkC pr 215 bits_TrailingZeros64.cl:=by
 intro args K w h
 unfold bits_TrailingZeros64.cl at h
 split at h
 ·exact calls_last false mixed bits_TrailingZeros64.FOk_ bits_TrailingZeros64.fn rfl (Eq.mp (by kernel_rfl) h)
 ·exact h.elim
namespace chunk_mask
abbrev KT:=Int→World→Prop
def Kt:KT:=fun n1 w=>Kv (.int .u64 n1) w
noncomputable def bd:Code:=bdy Tryz.f216
theorem fn:FnOk pr 216 9 Tryz.f216:=⟨Tryz.func216,by kernel_rfl,Tryz.ntmps216,by kernel_rfl,by kernel_rfl⟩
def F:Clee:=ofL []
theorem FOk_:FOk pr F:=FOk_nil
def P1:Post:=bodyK false pr 9 Tryz.f216 Kv
end chunk_mask
def chunk_mask (n_2:Int) (w:World) (K:chunk_mask.KT):Prop :=
 G.cond (decide (n_2 ≥ 64)) (K 18446744073709551615 w) (G.nn (IntKind.u64.wrap n_2)<|K (IntKind.u64.wrap ((shl .u64 1 (IntKind.u64.wrap n_2))-1)) w)
def chunk_mask.cl:CL:=fun args K w=>match args with
 | [.int .i64 x0]=>C.chunk_mask x0 w (chunk_mask.Kt K)
 | _=>False
theorem chunk_mask.clok:OkC pr 216 chunk_mask.cl:=by
 intro args K w h
 unfold chunk_mask.cl at h
 split at h
 ·exact calls_last false mixed chunk_mask.FOk_ chunk_mask.fn rfl (Eq.mp (by kernel_rfl) h)
 ·exact h.elim
namespace chunk_Chunk_value
abbrev KT:=World→Prop
def Kt:KT:=fun  w=>Kv (.tuple #[]) w
noncomputable def bd:Code:=bdy Tryz.f210
theorem fn:FnOk pr 210 131 Tryz.f210:=⟨Tryz.func210,by kernel_rfl,Tryz.ntmps210,by kernel_rfl,by kernel_rfl⟩
def F:Clee:=ofL [(209,C.bits_Writer_Bits.cl),(214,C.bits_LeadingZeros64.cl),(215,C.bits_TrailingZeros64.cl),(216,C.chunk_mask.cl)]
theorem FOk_:FOk pr F:=FOk_cons C.bits_Writer_Bits.clok (FOk_cons C.bits_LeadingZeros64.clok (FOk_cons C.bits_TrailingZeros64.clok (FOk_cons C.chunk_mask.clok (FOk_nil))))
def P1:Post:=bodyK false pr 131 Tryz.f210 Kv
abbrev g2:List SE:=[.v 0 .ptr,.v 1 (.int .u64),.v 4 .ptr]
def S2 (K:KT) (c_7:Option Addr) (x_8:Int) (now_9:Option Addr) (w:World):Prop :=
 G.ptr now_9 fun p10=>G.cI .i64 p10 w fun n11=>G.ptr now_9 fun p12=>G.cI .i64 (p12.add 1) w fun n13=>G.ptr c_7 fun p14=>G.cP (p14.add 1) w fun p15=>C.bits_Writer_Bits p15 1 1 w fun n16 w17=>G.ptr c_7 fun p18=>G.cP (p18.add 1) w17.drew fun p19=>G.ptr now_9 fun p20=>G.cI .i64 p20 w17.drew fun n21=>C.bits_Writer_Bits p19 (IntKind.u64.wrap n21) 5 w17.drew fun n22 w23=>G.ptr c_7 fun p24=>G.cP (p24.add 1) w23 fun p25=>G.nz 64<|C.bits_Writer_Bits p25 (IntKind.u64.wrap (Int.tmod (IntKind.i64.wrap ((IntKind.i64.wrap (64-n11))-n13)) 64)) 6 w23 fun n26 w27=>G.ptr c_7 fun p28=>G.cP (p28.add 1) w27.drew fun p29=>G.ptr now_9 fun p30=>G.cI .i64 (p30.add 1) w27.drew fun n31=>G.nn (IntKind.u64.wrap n31)<|C.chunk_mask (IntKind.i64.wrap ((IntKind.i64.wrap (64-n11))-n13)) w27.drew fun n32 w33=>sameAt (p28.add 1) 1 w27.drew w33∧sameAt (p30.add 1) 1 w27.drew w33∧(C.bits_Writer_Bits p29 (Go.bits .and .u64 (shr .u64 x_8 (IntKind.u64.wrap n31)) n32) (IntKind.i64.wrap ((IntKind.i64.wrap (64-n11))-n13)) w33 fun n34 w35=>G.ptr now_9 fun p36=>G.cI .i64 p36 w35 fun n37=>G.cI .i64 (p36.add 1) w35 fun n38=>G.ptr c_7 fun p39=>G.st (p39.add 2) (.int .i64 n37) w35 fun w40=>G.st ((p39.add 2).add 1) (.int .i64 n38) w40 fun w41=>G.ptr c_7 fun p42=>G.st (p42.add 4) (.bool true) w41 fun w43=>K w43)
theorem S2_ok:OkT pr false none 131 g2 (S2 (Kt Kv)) (tl 4 bd) (P1 Kv):=ok_last mixed FOk_ fun v ρ w=>by kernel_rfl
end chunk_Chunk_value
def chunk_Chunk_value (c_1:Option Addr) (x_2:Int) (w:World) (K:chunk_Chunk_value.KT):Prop :=
 G.cond (x_2==0) (G.ptr c_1 fun p44=>G.cP (p44.add 1) w fun p45=>C.bits_Writer_Bits p45 0 1 w fun n46 w47=>K w47) (G.ptr c_1 fun p48=>G.cP (p48.add 1) w fun p49=>C.bits_Writer_Bits p49 1 1 w fun n50 w51=>C.bits_LeadingZeros64 x_2 w51 fun n52 w53=>C.bits_TrailingZeros64 x_2 w53 fun n54 w55=>G.new (.cells #[(.int .i64 0),(.int .i64 0)] 183) w55 fun p56 w57=>G.st p56 (.int .i64 (if 31<n52 then 31 else n52)) w57 fun w58=>G.st (p56.add 1) (.int .i64 n54) w58 fun w59=>G.ptr c_1 fun p60=>G.cB (p60.add 4) w59.drew fun b61=>G.cond b61 (G.cI .i64 p56 w59.drew fun n62=>G.ptr c_1 fun p63=>G.cI .i64 (p63.add 2) w59.drew fun n64=>G.cond (decide (n62 ≥ n64)) (G.cI .i64 (p56.add 1) w59.drew fun n65=>G.ptr c_1 fun p66=>G.cI .i64 ((p66.add 2).add 1) w59.drew fun n67=>G.cond (decide (n65 ≥ n67)) (G.ptr c_1 fun p68=>G.cI .i64 (p68.add 2) w59.drew.drew fun n69=>G.ptr c_1 fun p70=>G.cI .i64 ((p70.add 2).add 1) w59.drew.drew fun n71=>G.ptr c_1 fun p72=>G.cP (p72.add 1) w59.drew.drew fun p73=>C.bits_Writer_Bits p73 0 1 w59.drew.drew fun n74 w75=>G.ptr c_1 fun p76=>G.cP (p76.add 1) w75.drew fun p77=>G.ptr c_1 fun p78=>G.cI .i64 ((p78.add 2).add 1) w75.drew fun n79=>G.nn (IntKind.u64.wrap n79)<|C.chunk_mask (IntKind.i64.wrap ((IntKind.i64.wrap (64-n69))-n71)) w75.drew fun n80 w81=>sameAt (p76.add 1) 1 w75.drew w81∧sameAt ((p78.add 2).add 1) 1 w75.drew w81∧(C.bits_Writer_Bits p77 (Go.bits .and .u64 (shr .u64 x_2 (IntKind.u64.wrap n79)) n80) (IntKind.i64.wrap ((IntKind.i64.wrap (64-n69))-n71)) w81 fun n82 w83=>K w83)) (chunk_Chunk_value.S2 K c_1 x_2 (some p56) w59.drew)) (chunk_Chunk_value.S2 K c_1 x_2 (some p56) w59.drew)) (chunk_Chunk_value.S2 K c_1 x_2 (some p56) w59.drew))
def chunk_Chunk_value.cl:CL:=fun args K w=>match args with
 | [.pointer x0,.int .u64 x1]=>C.chunk_Chunk_value x0 x1 w (chunk_Chunk_value.Kt K)
 | _=>False
theorem chunk_Chunk_value.clok:OkC pr 210 chunk_Chunk_value.cl:=by
 intro args K w h
 unfold chunk_Chunk_value.cl at h
 split at h
 ·exact calls_group false mixed chunk_Chunk_value.FOk_ chunk_Chunk_value.fn rfl 4 (chunk_Chunk_value.S2_ok K) (Eq.mp (by kernel_rfl) h)
 ·exact h.elim
namespace chunk_Chunk_time
abbrev KT:=World→Prop
def Kt:KT:=fun  w=>Kv (.tuple #[]) w
noncomputable def bd:Code:=bdy Tryz.f211
theorem fn:FnOk pr 211 79 Tryz.f211:=⟨Tryz.func211,by kernel_rfl,Tryz.ntmps211,by kernel_rfl,by kernel_rfl⟩
def F:Clee:=ofL [(209,C.bits_Writer_Bits.cl)]
theorem FOk_:FOk pr F:=FOk_cons C.bits_Writer_Bits.clok (FOk_nil)
def P1:Post:=bodyK false pr 79 Tryz.f211 Kv
def P2:Post:=noG (P1 Kv)
def P3:Post:=inBlock 0 (P2 Kv)
abbrev g4:List SE:=[.v 0 .ptr,.v 1 (.int .i64),.agg 19 [.int .i64,.int .i64,.int .i64,.int .i64,.int .i64,.int .i64,.int .i64,.int .i64,.int .i64],.v 20 (.int .i64)]
def P5 (kc4:Cur g4):Post:=next (get g4 kc4) (P3 Kv)
def S6 (K:KT) (kc4:Cur g4) (c_29:Option Addr) (d_30:Int) (n31:Int) (n32:Int) (n33:Int) (n34:Int) (n35:Int) (n36:Int) (n37:Int) (n38:Int) (n39:Int) (n40:Int) (w:World):Prop :=
 G.cond (decide (n40<3)) ((0≤n40∧n40<3)∧(G.vI .i64 (#[(.int .i64 n31),(.int .i64 n32),(.int .i64 n33),(.int .i64 n34),(.int .i64 n35),(.int .i64 n36),(.int .i64 n37),(.int .i64 n38),(.int .i64 n39)]:Array Value)[(n40:Int).toNat*3+0]? fun n41=>G.vI .i64 (#[(.int .i64 n31),(.int .i64 n32),(.int .i64 n33),(.int .i64 n34),(.int .i64 n35),(.int .i64 n36),(.int .i64 n37),(.int .i64 n38),(.int .i64 n39)]:Array Value)[(n40:Int).toNat*3+1]? fun n42=>G.vI .i64 (#[(.int .i64 n31),(.int .i64 n32),(.int .i64 n33),(.int .i64 n34),(.int .i64 n35),(.int .i64 n36),(.int .i64 n37),(.int .i64 n38),(.int .i64 n39)]:Array Value)[(n40:Int).toNat*3+2]? fun n43=>G.new (.cells #[(.int .i64 0),(.int .i64 0),(.int .i64 0)] 257) w fun p44 w45=>G.st p44 (.int .i64 n41) w45 fun w46=>G.st (p44.add 1) (.int .i64 n42) w46 fun w47=>G.st (p44.add 2) (.int .i64 n43) w47 fun w48=>G.cI .i64 (p44.add 2) w48 fun n49=>G.nn (IntKind.u64.wrap (IntKind.i64.wrap (n49-1)))<|G.cond (decide (d_30 ≥ (IntKind.i64.wrap (0-(IntKind.i64.wrap ((shl .i64 1 (IntKind.u64.wrap (IntKind.i64.wrap (n49-1))))-1)))))) (G.cond (decide (d_30≤(shl .i64 1 (IntKind.u64.wrap (IntKind.i64.wrap (n49-1)))))) (G.ptr c_29 fun p50=>G.cP (p50.add 1) w48.drew fun p51=>G.cI .i64 (p44.add 1) w48.drew fun n52=>G.cI .i64 p44 w48.drew fun n53=>C.bits_Writer_Bits p51 (IntKind.u64.wrap n52) n53 w48.drew fun n54 w55=>G.ptr c_29 fun p56=>G.cP (p56.add 1) w55.drew fun p57=>G.cI .i64 (p44.add 2) w55.drew fun n58=>G.nn (IntKind.u64.wrap n58)<|G.cI .i64 (p44.add 2) w55.drew fun n59=>C.bits_Writer_Bits p57 (Go.bits .and .u64 (IntKind.u64.wrap d_30) (IntKind.u64.wrap ((shl .u64 1 (IntKind.u64.wrap n58))-1))) n59 w55.drew fun n60 w61=>K w61) (G.cI .i64 (p44.add 2) w48 fun n62=>G.cond (n62==20) (G.ptr c_29 fun p63=>G.cP (p63.add 1) w48 fun p64=>C.bits_Writer_Bits p64 15 4 w48 fun n65 w66=>G.ptr c_29 fun p67=>G.cP (p67.add 1) w66 fun p68=>C.bits_Writer_Bits p68 (IntKind.u64.wrap d_30) 64 w66 fun n69 w70=>kc4 c_29 d_30 n31 n32 n33 n34 n35 n36 n37 n38 n39 (IntKind.i64.wrap (n40+1)) w70) (kc4 c_29 d_30 n31 n32 n33 n34 n35 n36 n37 n38 n39 (IntKind.i64.wrap (n40+1)) w48))) (G.cI .i64 (p44.add 2) w48 fun n71=>G.cond (n71==20) (G.ptr c_29 fun p72=>G.cP (p72.add 1) w48 fun p73=>C.bits_Writer_Bits p73 15 4 w48 fun n74 w75=>G.ptr c_29 fun p76=>G.cP (p76.add 1) w75 fun p77=>C.bits_Writer_Bits p77 (IntKind.u64.wrap d_30) 64 w75 fun n78 w79=>kc4 c_29 d_30 n31 n32 n33 n34 n35 n36 n37 n38 n39 (IntKind.i64.wrap (n40+1)) w79) (kc4 c_29 d_30 n31 n32 n33 n34 n35 n36 n37 n38 n39 (IntKind.i64.wrap (n40+1)) w48)))) (K w)
theorem S6_ok (kc4:Cur g4):OkT pr false none 79 g4 (S6 (Kt Kv) kc4) (lp (blk (tl 4 (scp (tl 0 bd))))) (P5 Kv kc4):=ok_last mixed FOk_ fun v ρ w=>by kernel_rfl
def L4 (K:KT):Cur g4:=loopC g4 (S6 K)
theorem L4_ok:OkT pr false none 79 g4 (L4 (Kt Kv)) (blk (tl 4 (scp (tl 0 bd)))) (P3 Kv):=ok_loop (B:=S6 (Kt Kv)) (by kernel_rfl) fun kc=>S6_ok Kv kc
theorem L4_ind {K:KT} {c_5:Option Addr} {d_6:Int} {n7:Int} {n8:Int} {n9:Int} {n10:Int} {n11:Int} {n12:Int} {n13:Int} {n14:Int} {n15:Int} {n16:Int} {w:World} (h:∀ X:Cur g4,(∀ c_5 d_6 n7 n8 n9 n10 n11 n12 n13 n14 n15 n16 w,S6 K X c_5 d_6 n7 n8 n9 n10 n11 n12 n13 n14 n15 n16 w→X c_5 d_6 n7 n8 n9 n10 n11 n12 n13 n14 n15 n16 w)→X c_5 d_6 n7 n8 n9 n10 n11 n12 n13 n14 n15 n16 w):L4 K c_5 d_6 n7 n8 n9 n10 n11 n12 n13 n14 n15 n16 w:=fun X hX=>h X fun c_5 d_6 n7 n8 n9 n10 n11 n12 n13 n14 n15 n16 w hb=>hX (c_5,d_6,(n7,n8,n9,n10,n11,n12,n13,n14,n15,()),n16,()) w hb
theorem B7:OkT pr false none 79 g4 (L4 (Kt Kv)) (tl 4 (scp (tl 0 bd))) (P2 Kv):=ok_block 0 (by kernel_rfl) (L4_ok Kv)
abbrev g8:List SE:=[.v 0 .ptr,.v 1 (.int .i64)]
def S8 (K:KT) (c_80:Option Addr) (d_81:Int) (w:World):Prop :=
 G.new (.cells #[(.int .i64 0),(.int .i64 0),(.int .i64 0),(.int .i64 0),(.int .i64 0),(.int .i64 0),(.int .i64 0),(.int .i64 0),(.int .i64 0)] 258) w fun p82 w83=>G.st p82 (.int .i64 2) w83 fun w84=>G.st (p82.add 1) (.int .i64 2) w84 fun w85=>G.st (p82.add 2) (.int .i64 14) w85 fun w86=>G.st (p82.add 3) (.int .i64 3) w86 fun w87=>G.st (p82.add 4) (.int .i64 6) w87 fun w88=>G.st (p82.add 5) (.int .i64 17) w88 fun w89=>G.st (p82.add 6) (.int .i64 4) w89 fun w90=>G.st (p82.add 7) (.int .i64 14) w90 fun w91=>G.st (p82.add 8) (.int .i64 20) w91 fun w92=>G.cond (d_81==0) (G.ptr c_80 fun p93=>G.cP (p93.add 1) w92 fun p94=>C.bits_Writer_Bits p94 0 1 w92 fun n95 w96=>K w96) (G.cI .i64 p82 w92 fun n97=>G.cI .i64 (p82.add 1) w92 fun n98=>G.cI .i64 (p82.add 2) w92 fun n99=>G.cI .i64 (p82.add 3) w92 fun n100=>G.cI .i64 (p82.add 4) w92 fun n101=>G.cI .i64 (p82.add 5) w92 fun n102=>G.cI .i64 (p82.add 6) w92 fun n103=>G.cI .i64 (p82.add 7) w92 fun n104=>G.cI .i64 (p82.add 8) w92 fun n105=>L4 K c_80 d_81 n97 n98 n99 n100 n101 n102 n103 n104 n105 0 w92)
theorem S8_ok:OkT pr false none 79 g8 (S8 (Kt Kv)) (scp (tl 0 bd)) (P2 Kv):=ok_group mixed FOk_ 4 (B7 Kv) fun v ρ w=>by kernel_rfl
theorem B9:OkT pr false none 79 g8 (S8 (Kt Kv)) (tl 0 bd) (P1 Kv):=ok_scope (by kernel_rfl) (S8_ok Kv)
end chunk_Chunk_time
def chunk_Chunk_time (c_1:Option Addr) (d_2:Int) (w:World) (K:chunk_Chunk_time.KT):Prop :=
 chunk_Chunk_time.S8 K c_1 d_2 w
def chunk_Chunk_time.cl:CL:=fun args K w=>match args with
 | [.pointer x0,.int .i64 x1]=>C.chunk_Chunk_time x0 x1 w (chunk_Chunk_time.Kt K)
 | _=>False
theorem chunk_Chunk_time.clok:OkC pr 211 chunk_Chunk_time.cl:=by
 intro args K w h
 unfold chunk_Chunk_time.cl at h
 split at h
 ·exact calls_group false mixed chunk_Chunk_time.FOk_ chunk_Chunk_time.fn rfl 0 (chunk_Chunk_time.B9 K) (Eq.mp (by kernel_rfl) h)
 ·exact h.elim
namespace chunk_Chunk_put
abbrev KT:=World→Prop
def Kt:KT:=fun  w=>Kv (.tuple #[]) w
noncomputable def bd:Code:=bdy Tryz.f197
theorem fn:FnOk pr 197 104 Tryz.f197:=⟨Tryz.func197,by kernel_rfl,Tryz.ntmps197,by kernel_rfl,by kernel_rfl⟩
def F:Clee:=ofL [(72,C.vint_PutU.cl),(100,C.math_Float64bits.cl),(207,C.chunk_Chunk_bytes.cl),(208,C.vint_PutI.cl),(209,C.bits_Writer_Bits.cl),(210,C.chunk_Chunk_value.cl),(211,C.chunk_Chunk_time.cl)]
theorem FOk_:FOk pr F:=FOk_cons C.vint_PutU.clok (FOk_consX C.math_Float64bits.clok (FOk_cons C.chunk_Chunk_bytes.clok (FOk_cons C.vint_PutI.clok (FOk_cons C.bits_Writer_Bits.clok (FOk_cons C.chunk_Chunk_value.clok (FOk_cons C.chunk_Chunk_time.clok (FOk_nil)))))))
def P1:Post:=bodyK false pr 104 Tryz.f197 Kv
abbrev g2:List SE:=[.v 0 .ptr,.v 1 (.int .i64),.v 2 (.fl .f64)]
def S2 (K:KT) (c_7:Option Addr) (t_8:Int) (v_9:Nat) (w:World):Prop :=
 G.ptr c_7 fun p10=>G.cSl p10 w fun l11=>G.new (.cells #[(.int .i64 t_8),(.float .f64 v_9)] 96) w fun p12 w13=>G.runSl pr (Builtin.append_ #[52,52] 52 #[l11.v,(Sl.v (⟨some p12,1,1⟩:Sl))]) w13 fun l14 w15=>G.ptr c_7 fun p16=>G.st p16 l14.v w15 fun w17=>K w17
theorem S2_ok:OkT pr false none 104 g2 (S2 (Kt Kv)) (tl 2 bd) (P1 Kv):=ok_last mixed FOk_ fun v ρ w=>by kernel_rfl
end chunk_Chunk_put
def chunk_Chunk_put (c_1:Option Addr) (t_2:Int) (v_3:Nat) (w:World) (K:chunk_Chunk_put.KT):Prop :=
 G.ptr c_1 fun p18=>G.cSl p18 w fun l19=>G.cond (((l19.n:Nat):Int)==0) (C.vint_PutI nilS t_2 w fun l20 w21=>C.chunk_Chunk_bytes c_1 l20 w21 fun w22=>G.ptr c_1 fun p23=>G.cP (p23.add 1) w22.drew fun p24=>C.math_Float64bits v_3 w22.drew fun n25 w26=>sameAt (p23.add 1) 1 w22.drew w26∧(C.bits_Writer_Bits p24 n25 64 w26 fun n27 w28=>chunk_Chunk_put.S2 K c_1 t_2 v_3 w28)) (G.cond (((l19.n:Nat):Int)==1) (G.ptr c_1 fun p29=>G.cSl p29 w fun l30=>G.ix l30.a l30.n 0 2 fun p31=>G.cI .i64 p31 w fun n32=>C.vint_PutU nilS (IntKind.u64.wrap (IntKind.i64.wrap (t_2-n32))) w fun l33 w34=>C.chunk_Chunk_bytes c_1 l33 w34 fun w35=>G.ptr c_1 fun p36=>G.cSl p36 w35.drew fun l37=>G.ix l37.a l37.n 0 2 fun p38=>G.cF .f64 (p38.add 1) w35.drew fun f39=>C.math_Float64bits v_3 w35.drew fun n40 w41=>sameAt p36 1 w35.drew w41∧sameAt (p38.add 1) 1 w35.drew w41∧(C.math_Float64bits f39 w41 fun n42 w43=>C.chunk_Chunk_value c_1 (Go.bits .xor .u64 n40 n42) w43 fun w44=>chunk_Chunk_put.S2 K c_1 t_2 v_3 w44)) (G.ptr c_1 fun p45=>G.cSl p45 w.drew fun l46=>G.ix l46.a l46.n (IntKind.i64.wrap (((l19.n:Nat):Int)-2)) 2 fun p47=>G.cI .i64 p47 w.drew fun n48=>G.cF .f64 (p47.add 1) w.drew fun f49=>G.ptr c_1 fun p50=>G.cSl p50 w.drew fun l51=>G.ix l51.a l51.n (IntKind.i64.wrap (((l19.n:Nat):Int)-1)) 2 fun p52=>G.cI .i64 p52 w.drew fun n53=>G.cF .f64 (p52.add 1) w.drew fun f54=>(G.new (.cells #[(.int .i64 0),(.float .f64 0)] 96) w.drew fun p55 w56=>sameAt p45 1 w.drew w56∧sameAt p47 2 w.drew w56∧sameAt p50 1 w.drew w56∧sameAt p52 2 w.drew w56∧(G.new (.cells #[(.int .i64 0),(.float .f64 0)] 96) w56 fun p57 w58=>sameAt p45 1 w.drew w58∧sameAt p47 2 w.drew w58∧sameAt p50 1 w.drew w58∧sameAt p52 2 w.drew w58∧(G.st p55 (.int .i64 n48) w58 fun w59=>G.st (p55.add 1) (.float .f64 f49) w59 fun w60=>sameAt p50 1 w.drew w60∧sameAt p52 2 w.drew w60∧(G.st p57 (.int .i64 n53) w60 fun w61=>G.st (p57.add 1) (.float .f64 f54) w61 fun w62=>G.cI .i64 p57 w62 fun n63=>G.cI .i64 p57 w62 fun n64=>G.cI .i64 p55 w62 fun n65=>C.chunk_Chunk_time c_1 (IntKind.i64.wrap ((IntKind.i64.wrap (t_2-n63))-(IntKind.i64.wrap (n64-n65)))) w62 fun w66=>G.cF .f64 (p57.add 1) w66.drew fun f67=>C.math_Float64bits v_3 w66.drew fun n68 w69=>sameAt (p57.add 1) 1 w66.drew w69∧(C.math_Float64bits f67 w69 fun n70 w71=>C.chunk_Chunk_value c_1 (Go.bits .xor .u64 n68 n70) w71 fun w72=>chunk_Chunk_put.S2 K c_1 t_2 v_3 w72)))))∧(G.new (.cells #[(.int .i64 0),(.float .f64 0)] 96) w.drew fun p73 w74=>sameAt p45 1 w.drew w74∧sameAt p47 2 w.drew w74∧sameAt p50 1 w.drew w74∧sameAt p52 2 w.drew w74∧(G.new (.cells #[(.int .i64 0),(.float .f64 0)] 96) w74 fun p75 w76=>sameAt p45 1 w.drew w76∧sameAt p47 2 w.drew w76∧sameAt p50 1 w.drew w76∧sameAt p52 2 w.drew w76∧(G.st p75 (.int .i64 n48) w76 fun w77=>G.st (p75.add 1) (.float .f64 f49) w77 fun w78=>sameAt p50 1 w.drew w78∧sameAt p52 2 w.drew w78∧(G.st p73 (.int .i64 n53) w78 fun w79=>G.st (p73.add 1) (.float .f64 f54) w79 fun w80=>G.cI .i64 p73 w80 fun n81=>G.cI .i64 p73 w80 fun n82=>G.cI .i64 p75 w80 fun n83=>C.chunk_Chunk_time c_1 (IntKind.i64.wrap ((IntKind.i64.wrap (t_2-n81))-(IntKind.i64.wrap (n82-n83)))) w80 fun w84=>G.cF .f64 (p73.add 1) w84.drew fun f85=>C.math_Float64bits v_3 w84.drew fun n86 w87=>sameAt (p73.add 1) 1 w84.drew w87∧(C.math_Float64bits f85 w87 fun n88 w89=>C.chunk_Chunk_value c_1 (Go.bits .xor .u64 n86 n88) w89 fun w90=>chunk_Chunk_put.S2 K c_1 t_2 v_3 w90)))))))
def chunk_Chunk_put.cl:CL:=fun args K w=>match args with
 | [.pointer x0,.int .i64 x1,.float .f64 x2]=>C.chunk_Chunk_put x0 x1 x2 w (chunk_Chunk_put.Kt K)
 | _=>False
theorem chunk_Chunk_put.clok:OkC pr 197 chunk_Chunk_put.cl:=by
 intro args K w h
 unfold chunk_Chunk_put.cl at h
 split at h
 ·exact calls_group false mixed chunk_Chunk_put.FOk_ chunk_Chunk_put.fn rfl 2 (chunk_Chunk_put.S2_ok K) (Eq.mp (by kernel_rfl) h)
 ·exact h.elim
namespace chunk_Chunk_Append
abbrev KT:=Int→World→Prop
def Kt:KT:=fun n1 w=>Kv (.int .i64 n1) w
noncomputable def bd:Code:=bdy Tryz.f171
theorem fn:FnOk pr 171 46 Tryz.f171:=⟨Tryz.func171,by kernel_rfl,Tryz.ntmps171,by kernel_rfl,by kernel_rfl⟩
def F:Clee:=ofL [(197,C.chunk_Chunk_put.cl)]
theorem FOk_:FOk pr F:=FOk_cons C.chunk_Chunk_put.clok (FOk_nil)
def P1:Post:=bodyK false pr 46 Tryz.f171 Kv
end chunk_Chunk_Append
def chunk_Chunk_Append (c_2:Option Addr) (t_3:Int) (v_4:Nat) (w:World) (K:chunk_Chunk_Append.KT):Prop :=
 G.cond c_2.isNone (K 2 w) (G.cond (decide (t_3<0)) (K 1 w) (G.cond (decide (t_3 > 1125899906842624)) (K 1 w) (G.ptr c_2 fun p8=>G.cSl p8 w fun l9=>G.cond (decide (((l9.n:Nat):Int) > 0)) (G.ptr c_2 fun p10=>G.cSl p10 w fun l11=>G.ix l11.a l11.n (IntKind.i64.wrap (((l9.n:Nat):Int)-1)) 2 fun p12=>G.cI .i64 p12 w fun n13=>G.cond (decide (t_3≤n13)) (K 90 w) (G.cond (decide (((l9.n:Nat):Int) ≥ 120)) (K 8 w) (C.chunk_Chunk_put c_2 t_3 v_4 w fun w14=>K 0 w14))) (G.cond (decide (((l9.n:Nat):Int) ≥ 120)) (K 8 w) (C.chunk_Chunk_put c_2 t_3 v_4 w fun w15=>K 0 w15)))))
def chunk_Chunk_Append.cl:CL:=fun args K w=>match args with
 | [.pointer x0,.int .i64 x1,.float .f64 x2]=>C.chunk_Chunk_Append x0 x1 x2 w (chunk_Chunk_Append.Kt K)
 | _=>False
theorem chunk_Chunk_Append.clok:OkC pr 171 chunk_Chunk_Append.cl:=by
 intro args K w h
 unfold chunk_Chunk_Append.cl at h
 split at h
 ·exact calls_last false mixed chunk_Chunk_Append.FOk_ chunk_Chunk_Append.fn rfl (Eq.mp (by kernel_rfl) h)
 ·exact h.elim
namespace bits_Writer_Bytes
abbrev KT:=Sl→World→Prop
def Kt:KT:=fun l1 w=>Kv l1.v w
noncomputable def bd:Code:=bdy Tryz.f198
theorem fn:FnOk pr 198 10 Tryz.f198:=⟨Tryz.func198,by kernel_rfl,Tryz.ntmps198,by kernel_rfl,by kernel_rfl⟩
def F:Clee:=ofL []
theorem FOk_:FOk pr F:=FOk_nil
def P1:Post:=bodyK false pr 10 Tryz.f198 Kv
end bits_Writer_Bytes
def bits_Writer_Bytes (w_2:Option Addr) (w:World) (K:bits_Writer_Bytes.KT):Prop :=
 G.cond w_2.isNone (K nilS w) (G.ptr w_2 fun p3=>G.cSl p3 w fun l4=>G.runSl pr (Builtin.append_ #[22,22] 22 #[nilS.v,l4.v]) w fun l5 w6=>K l5 w6)
def bits_Writer_Bytes.cl:CL:=fun args K w=>match args with
 | [.pointer x0]=>C.bits_Writer_Bytes x0 w (bits_Writer_Bytes.Kt K)
 | _=>False
theorem bits_Writer_Bytes.clok:OkC pr 198 bits_Writer_Bytes.cl:=by
 intro args K w h
 unfold bits_Writer_Bytes.cl at h
 split at h
 ·exact calls_last false mixed bits_Writer_Bytes.FOk_ bits_Writer_Bytes.fn rfl (Eq.mp (by kernel_rfl) h)
 ·exact h.elim
namespace chunk_Chunk_Bytes
abbrev KT:=Sl→World→Prop
def Kt:KT:=fun l1 w=>Kv l1.v w
noncomputable def bd:Code:=bdy Tryz.f172
theorem fn:FnOk pr 172 25 Tryz.f172:=⟨Tryz.func172,by kernel_rfl,Tryz.ntmps172,by kernel_rfl,by kernel_rfl⟩
def F:Clee:=ofL [(198,C.bits_Writer_Bytes.cl)]
theorem FOk_:FOk pr F:=FOk_cons C.bits_Writer_Bytes.clok (FOk_nil)
def P1:Post:=bodyK false pr 25 Tryz.f172 Kv
end chunk_Chunk_Bytes
def chunk_Chunk_Bytes (c_2:Option Addr) (w:World) (K:chunk_Chunk_Bytes.KT):Prop :=
 G.cond c_2.isNone (K nilS w) (G.ptr c_2 fun p4=>G.cSl p4 w.drew fun l5=>G.nn 8<|G.ptr c_2 fun p6=>G.cSl p6 w.drew fun l7=>G.ptr c_2 fun p8=>G.cP (p8.add 1) w.drew fun p9=>(G.new (.cells #[(.int .u8 (IntKind.u8.wrap (shr .i64 ((l5.n:Nat):Int) 8))),(.int .u8 (IntKind.u8.wrap ((l7.n:Nat):Int)))] 5) w.drew fun p10 w11=>sameAt (p8.add 1) 1 w.drew w11∧(C.bits_Writer_Bytes p9 w11 fun l12 w13=>G.runSl pr (Builtin.append_ #[22,22] 22 #[(Sl.v (⟨some p10,2,2⟩:Sl)),l12.v]) w13 fun l14 w15=>K l14 w15))∧(C.bits_Writer_Bytes p9 w.drew fun l16 w17=>sameAt p4 1 w.drew w17∧sameAt p6 1 w.drew w17∧(G.new (.cells #[(.int .u8 (IntKind.u8.wrap (shr .i64 ((l5.n:Nat):Int) 8))),(.int .u8 (IntKind.u8.wrap ((l7.n:Nat):Int)))] 5) w17 fun p18 w19=>G.runSl pr (Builtin.append_ #[22,22] 22 #[(Sl.v (⟨some p18,2,2⟩:Sl)),l16.v]) w19 fun l20 w21=>K l20 w21)))
def chunk_Chunk_Bytes.cl:CL:=fun args K w=>match args with
 | [.pointer x0]=>C.chunk_Chunk_Bytes x0 w (chunk_Chunk_Bytes.Kt K)
 | _=>False
theorem chunk_Chunk_Bytes.clok:OkC pr 172 chunk_Chunk_Bytes.cl:=by
 intro args K w h
 unfold chunk_Chunk_Bytes.cl at h
 split at h
 ·exact calls_last false mixed chunk_Chunk_Bytes.FOk_ chunk_Chunk_Bytes.fn rfl (Eq.mp (by kernel_rfl) h)
 ·exact h.elim
namespace chunk_Encode
abbrev KT:=Sl→Int→Int→World→Prop
def Kt:KT:=fun l1 n2 n3 w=>Kv (.tuple #[l1.v,(.int .i64 n2),(.int .i64 n3)]) w
noncomputable def bd:Code:=bdy Tryz.f138
theorem fn:FnOk pr 138 30 Tryz.f138:=⟨Tryz.func138,by kernel_rfl,Tryz.ntmps138,by kernel_rfl,by kernel_rfl⟩
def F:Clee:=ofL [(170,C.chunk_New.cl),(171,C.chunk_Chunk_Append.cl),(172,C.chunk_Chunk_Bytes.cl)]
theorem FOk_:FOk pr F:=FOk_cons C.chunk_New.clok (FOk_cons C.chunk_Chunk_Append.clok (FOk_cons C.chunk_Chunk_Bytes.clok (FOk_nil)))
def P1:Post:=bodyK false pr 30 Tryz.f138 Kv
abbrev g2:List SE:=[.v 5 .ptr]
def S2 (K:KT) (c_5:Option Addr) (w:World):Prop :=
 C.chunk_Chunk_Bytes c_5 w fun l6 w7=>K l6 0 0 w7
theorem S2_ok:OkT pr false none 30 g2 (S2 (Kt Kv)) (s2 (tl 2 bd)) (P1 Kv):=ok_last mixed FOk_ fun v ρ w=>by kernel_rfl
def P3:Post:=next (get g2 (S2 (Kt Kv))) (P1 Kv)
def P4:Post:=inBlock 0 (P3 Kv)
abbrev g5:List SE:=[.v 5 .ptr,.v 10 .sl,.v 11 (.int .i64),.v 12 (.int .i64)]
def P6 (kc5:Cur g5):Post:=next (get g5 kc5) (P4 Kv)
def S7 (K:KT) (kc5:Cur g5) (c_16:Option Addr) (l17:Sl) (n18:Int) (n19:Int) (w:World):Prop :=
 G.cond (decide (n19<n18)) (G.ix l17.a l17.n n19 2 fun p20=>G.cI .i64 p20 w fun n21=>G.cF .f64 (p20.add 1) w fun f22=>G.new (.cells #[(.int .i64 0),(.float .f64 0)] 96) w fun p23 w24=>G.st p23 (.int .i64 n21) w24 fun w25=>G.st (p23.add 1) (.float .f64 f22) w25 fun w26=>G.cI .i64 p23 w26 fun n27=>G.cF .f64 (p23.add 1) w26 fun f28=>C.chunk_Chunk_Append c_16 n27 f28 w26 fun n29 w30=>G.cond (n29 != 0) (K nilS n29 n19 w30) (kc5 c_16 l17 n18 (IntKind.i64.wrap (n19+1)) w30)) (S2 K c_16 w)
theorem S7_ok (kc5:Cur g5):OkT pr false none 30 g5 (S7 (Kt Kv) kc5) (lp (blk (tl 1 (s1 (tl 2 bd))))) (P6 Kv kc5):=ok_last mixed FOk_ fun v ρ w=>by kernel_rfl
def L5 (K:KT):Cur g5:=loopC g5 (S7 K)
theorem L5_ok:OkT pr false none 30 g5 (L5 (Kt Kv)) (blk (tl 1 (s1 (tl 2 bd)))) (P4 Kv):=ok_loop (B:=S7 (Kt Kv)) (by kernel_rfl) fun kc=>S7_ok Kv kc
theorem L5_ind {K:KT} {c_8:Option Addr} {l9:Sl} {n10:Int} {n11:Int} {w:World} (h:∀ X:Cur g5,(∀ c_8 l9 n10 n11 w,S7 K X c_8 l9 n10 n11 w→X c_8 l9 n10 n11 w)→X c_8 l9 n10 n11 w):L5 K c_8 l9 n10 n11 w:=fun X hX=>h X fun c_8 l9 n10 n11 w hb=>hX (c_8,l9,n10,n11,()) w hb
theorem B8:OkT pr false none 30 g5 (L5 (Kt Kv)) (tl 1 (s1 (tl 2 bd))) (P3 Kv):=ok_block 0 (by kernel_rfl) (L5_ok Kv)
abbrev g9:List SE:=[.v 0 .sl,.v 5 .ptr]
def S9 (K:KT) (l_31:Sl) (c_32:Option Addr) (w:World):Prop :=
 L5 K c_32 l_31 ((l_31.n:Nat):Int) 0 w
theorem S9_ok:OkT pr false none 30 g9 (S9 (Kt Kv)) (s1 (tl 2 bd)) (P3 Kv):=ok_group mixed FOk_ 1 (B8 Kv) fun v ρ w=>by kernel_rfl
theorem Q10:OkT pr false none 30 g9 (S9 (Kt Kv)) (tl 2 bd) (P1 Kv):=ok_seq (by kernel_rfl) (S2_ok Kv) (S9_ok Kv)
end chunk_Encode
def chunk_Encode (l_4:Sl) (w:World) (K:chunk_Encode.KT):Prop :=
 C.chunk_New w fun p33 w34=>chunk_Encode.S9 K l_4 p33 w34
def chunk_Encode.cl:CL:=fun args K w=>match args with
 | [.slice x0_a x0_n x0_c]=>C.chunk_Encode ⟨x0_a,x0_n,x0_c⟩ w (chunk_Encode.Kt K)
 | _=>False
theorem chunk_Encode.clok:OkC pr 138 chunk_Encode.cl:=by
 intro args K w h
 unfold chunk_Encode.cl at h
 split at h
 ·exact calls_group false mixed chunk_Encode.FOk_ chunk_Encode.fn rfl 2 (chunk_Encode.Q10 K) (Eq.mp (by kernel_rfl) h)
 ·exact h.elim
namespace chunk_Split
abbrev KT:=Sl→Int→Int→World→Prop
def Kt:KT:=fun l1 n2 n3 w=>Kv (.tuple #[l1.v,(.int .i64 n2),(.int .i64 n3)]) w
noncomputable def bd:Code:=bdy Tryz.f108
theorem fn:FnOk pr 108 72 Tryz.f108:=⟨Tryz.func108,by kernel_rfl,Tryz.ntmps108,by kernel_rfl,by kernel_rfl⟩
def F:Clee:=ofL [(138,C.chunk_Encode.cl)]
theorem FOk_:FOk pr F:=FOk_cons C.chunk_Encode.clok (FOk_nil)
def P1:Post:=bodyK false pr 72 Tryz.f108 Kv
abbrev g2:List SE:=[.v 7 .sl]
def S2 (K:KT) (out_5:Sl) (w:World):Prop :=
 K out_5 0 0 w
theorem S2_ok:OkT pr false none 72 g2 (S2 (Kt Kv)) (s2 (tl 1 (s2 (tl 1 bd)))) (P1 Kv):=ok_last mixed FOk_ fun v ρ w=>by kernel_rfl
def P3:Post:=next (get g2 (S2 (Kt Kv))) (P1 Kv)
def P4:Post:=inBlock 3 (P3 Kv)
abbrev g5:List SE:=[.v 0 .sl,.v 7 .sl,.v 8 (.int .i64)]
def P6 (kc5:Cur g5):Post:=next (get g5 kc5) (P4 Kv)
def S7 (K:KT) (kc5:Cur g5) (l_12:Sl) (out_13:Sl) (from_14:Int) (w:World):Prop :=
 G.cond (decide (from_14<((l_12.n:Nat):Int))) (G.slc3 l_12 from_14 (if ((l_12.n:Nat):Int)<(IntKind.i64.wrap (from_14+120)) then ((l_12.n:Nat):Int) else (IntKind.i64.wrap (from_14+120))) (if ((l_12.n:Nat):Int)<(IntKind.i64.wrap (from_14+120)) then ((l_12.n:Nat):Int) else (IntKind.i64.wrap (from_14+120))) 2 fun l15=>C.chunk_Encode l15 w fun l16 n17 n18 w19=>G.new (.cells #[l16.v] 22) w19 fun p20 w21=>G.runSl pr (Builtin.append_ #[78,78] 78 #[out_13.v,(Sl.v (⟨some p20,1,1⟩:Sl))]) w21 fun l22 w23=>kc5 l_12 l22 (IntKind.i64.wrap (from_14+120)) w23) (S2 K out_13 w)
theorem S7_ok (kc5:Cur g5):OkT pr false none 72 g5 (S7 (Kt Kv) kc5) (lp (blk (tl 1 (s1 (tl 1 (s2 (tl 1 bd))))))) (P6 Kv kc5):=ok_last mixed FOk_ fun v ρ w=>by kernel_rfl
def L5 (K:KT):Cur g5:=loopC g5 (S7 K)
theorem L5_ok:OkT pr false none 72 g5 (L5 (Kt Kv)) (blk (tl 1 (s1 (tl 1 (s2 (tl 1 bd)))))) (P4 Kv):=ok_loop (B:=S7 (Kt Kv)) (by kernel_rfl) fun kc=>S7_ok Kv kc
theorem L5_ind {K:KT} {l_6:Sl} {out_7:Sl} {from_8:Int} {w:World} (h:∀ X:Cur g5,(∀ l_6 out_7 from_8 w,S7 K X l_6 out_7 from_8 w→X l_6 out_7 from_8 w)→X l_6 out_7 from_8 w):L5 K l_6 out_7 from_8 w:=fun X hX=>h X fun l_6 out_7 from_8 w hb=>hX (l_6,out_7,from_8,()) w hb
theorem B8:OkT pr false none 72 g5 (L5 (Kt Kv)) (tl 1 (s1 (tl 1 (s2 (tl 1 bd))))) (P3 Kv):=ok_block 3 (by kernel_rfl) (L5_ok Kv)
abbrev g9:List SE:=[.v 0 .sl,.v 7 .sl]
def S9 (K:KT) (l_24:Sl) (out_25:Sl) (w:World):Prop :=
 L5 K l_24 out_25 0 w
theorem S9_ok:OkT pr false none 72 g9 (S9 (Kt Kv)) (s1 (tl 1 (s2 (tl 1 bd)))) (P3 Kv):=ok_group mixed FOk_ 1 (B8 Kv) fun v ρ w=>by kernel_rfl
theorem Q10:OkT pr false none 72 g9 (S9 (Kt Kv)) (tl 1 (s2 (tl 1 bd))) (P1 Kv):=ok_seq (by kernel_rfl) (S2_ok Kv) (S9_ok Kv)
abbrev g11:List SE:=[.v 0 .sl]
def S11 (K:KT) (l_26:Sl) (w:World):Prop :=
 S9 K l_26 nilS w
theorem S11_ok:OkT pr false none 72 g11 (S11 (Kt Kv)) (s2 (tl 1 bd)) (P1 Kv):=ok_group mixed FOk_ 1 (Q10 Kv) fun v ρ w=>by kernel_rfl
def P12:Post:=next (get g11 (S11 (Kt Kv))) (P1 Kv)
def P13:Post:=inBlock 0 (P12 Kv)
abbrev g14:List SE:=[.v 0 .sl,.v 13 .sl,.v 14 (.int .i64),.v 15 (.int .i64)]
def P15 (kc14:Cur g14):Post:=next (get g14 kc14) (P13 Kv)
def S16 (K:KT) (kc14:Cur g14) (l_35:Sl) (l36:Sl) (n37:Int) (n38:Int) (w:World):Prop :=
 G.cond (decide (n38<n37)) (G.ix l36.a l36.n n38 2 fun p39=>G.cI .i64 p39 w fun n40=>G.cF .f64 (p39.add 1) w fun f41=>G.new (.cells #[(.int .i64 0),(.float .f64 0)] 96) w fun p42 w43=>G.st p42 (.int .i64 n40) w43 fun w44=>G.st (p42.add 1) (.float .f64 f41) w44 fun w45=>G.cI .i64 p42 w45 fun n46=>G.cond (decide (n46<0)) (K nilS 1 n38 w45) (G.cI .i64 p42 w45 fun n47=>G.cond (decide (n47 > 1125899906842624)) (K nilS 1 n38 w45) (G.cond (decide (n38 > 0)) (G.cI .i64 p42 w45.drew fun n48=>G.ix l_35.a l_35.n (IntKind.i64.wrap (n38-1)) 2 fun p49=>G.cI .i64 p49 w45.drew fun n50=>G.cond (decide (n48≤n50)) (K nilS 90 n38 w45.drew) (kc14 l_35 l36 n37 (IntKind.i64.wrap (n38+1)) w45.drew)) (kc14 l_35 l36 n37 (IntKind.i64.wrap (n38+1)) w45.drew)))) (S11 K l_35 w)
theorem S16_ok (kc14:Cur g14):OkT pr false none 72 g14 (S16 (Kt Kv) kc14) (lp (blk (tl 1 (s1 (tl 1 bd))))) (P15 Kv kc14):=ok_last mixed FOk_ fun v ρ w=>by kernel_rfl
def L14 (K:KT):Cur g14:=loopC g14 (S16 K)
theorem L14_ok:OkT pr false none 72 g14 (L14 (Kt Kv)) (blk (tl 1 (s1 (tl 1 bd)))) (P13 Kv):=ok_loop (B:=S16 (Kt Kv)) (by kernel_rfl) fun kc=>S16_ok Kv kc
theorem L14_ind {K:KT} {l_27:Sl} {l28:Sl} {n29:Int} {n30:Int} {w:World} (h:∀ X:Cur g14,(∀ l_27 l28 n29 n30 w,S16 K X l_27 l28 n29 n30 w→X l_27 l28 n29 n30 w)→X l_27 l28 n29 n30 w):L14 K l_27 l28 n29 n30 w:=fun X hX=>h X fun l_27 l28 n29 n30 w hb=>hX (l_27,l28,n29,n30,()) w hb
theorem B17:OkT pr false none 72 g14 (L14 (Kt Kv)) (tl 1 (s1 (tl 1 bd))) (P12 Kv):=ok_block 0 (by kernel_rfl) (L14_ok Kv)
def S18 (K:KT) (l_51:Sl) (w:World):Prop :=
 L14 K l_51 l_51 ((l_51.n:Nat):Int) 0 w
theorem S18_ok:OkT pr false none 72 g11 (S18 (Kt Kv)) (s1 (tl 1 bd)) (P12 Kv):=ok_group mixed FOk_ 1 (B17 Kv) fun v ρ w=>by kernel_rfl
theorem Q19:OkT pr false none 72 g11 (S18 (Kt Kv)) (tl 1 bd) (P1 Kv):=ok_seq (by kernel_rfl) (S11_ok Kv) (S18_ok Kv)
end chunk_Split
def chunk_Split (l_4:Sl) (w:World) (K:chunk_Split.KT):Prop :=
 chunk_Split.S18 K l_4 w
def chunk_Split.cl:CL:=fun args K w=>match args with
 | [.slice x0_a x0_n x0_c]=>C.chunk_Split ⟨x0_a,x0_n,x0_c⟩ w (chunk_Split.Kt K)
 | _=>False
theorem chunk_Split.clok:OkC pr 108 chunk_Split.cl:=by
 intro args K w h
 unfold chunk_Split.cl at h
 split at h
 ·exact calls_group false mixed chunk_Split.FOk_ chunk_Split.fn rfl 1 (chunk_Split.Q19 K) (Eq.mp (by kernel_rfl) h)
 ·exact h.elim
namespace block_frame
abbrev KT:=Sl→Int→World→Prop
def Kt:KT:=fun l1 n2 w=>Kv (.tuple #[l1.v,(.int .i64 n2)]) w
noncomputable def bd:Code:=bdy Tryz.f74
theorem fn:FnOk pr 74 56 Tryz.f74:=⟨Tryz.func74,by kernel_rfl,Tryz.ntmps74,by kernel_rfl,by kernel_rfl⟩
def F:Clee:=ofL [(72,C.vint_PutU.cl),(73,C.vint_PutFrame.cl),(79,C.labels_Put.cl),(108,C.chunk_Split.cl)]
theorem FOk_:FOk pr F:=FOk_cons C.vint_PutU.clok (FOk_cons C.vint_PutFrame.clok (FOk_cons C.labels_Put.clok (FOk_cons C.chunk_Split.clok (FOk_nil))))
def P1:Post:=bodyK false pr 56 Tryz.f74 Kv
abbrev g2:List SE:=[.v 4 .sl]
def S2 (K:KT) (p_11:Sl) (w:World):Prop :=
 C.vint_PutFrame nilS p_11 w fun l12 n13 w14=>K l12 n13 w14
theorem S2_ok:OkT pr false none 56 g2 (S2 (Kt Kv)) (s2 (tl 7 bd)) (P1 Kv):=ok_last mixed FOk_ fun v ρ w=>by kernel_rfl
def P3:Post:=next (get g2 (S2 (Kt Kv))) (P1 Kv)
def P4:Post:=inBlock 0 (P3 Kv)
abbrev g5:List SE:=[.v 4 .sl,.v 38 .sl,.v 39 (.int .i64),.v 40 (.int .i64)]
def P6 (kc5:Cur g5):Post:=next (get g5 kc5) (P4 Kv)
def S7 (K:KT) (kc5:Cur g5) (p_23:Sl) (l24:Sl) (n25:Int) (n26:Int) (w:World):Prop :=
 G.cond (decide (n26<n25)) (G.ix l24.a l24.n n26 1 fun p27=>G.cSl p27 w fun l28=>C.vint_PutU p_23 (IntKind.u64.wrap ((l28.n:Nat):Int)) w fun l29 w30=>G.runSl pr (Builtin.append_ #[22,22] 22 #[l29.v,l28.v]) w30 fun l31 w32=>kc5 l31 l24 n25 (IntKind.i64.wrap (n26+1)) w32) (S2 K p_23 w)
theorem S7_ok (kc5:Cur g5):OkT pr false none 56 g5 (S7 (Kt Kv) kc5) (lp (blk (tl 1 (s1 (tl 7 bd))))) (P6 Kv kc5):=ok_last mixed FOk_ fun v ρ w=>by kernel_rfl
def L5 (K:KT):Cur g5:=loopC g5 (S7 K)
theorem L5_ok:OkT pr false none 56 g5 (L5 (Kt Kv)) (blk (tl 1 (s1 (tl 7 bd)))) (P4 Kv):=ok_loop (B:=S7 (Kt Kv)) (by kernel_rfl) fun kc=>S7_ok Kv kc
theorem L5_ind {K:KT} {p_15:Sl} {l16:Sl} {n17:Int} {n18:Int} {w:World} (h:∀ X:Cur g5,(∀ p_15 l16 n17 n18 w,S7 K X p_15 l16 n17 n18 w→X p_15 l16 n17 n18 w)→X p_15 l16 n17 n18 w):L5 K p_15 l16 n17 n18 w:=fun X hX=>h X fun p_15 l16 n17 n18 w hb=>hX (p_15,l16,n17,n18,()) w hb
theorem B8:OkT pr false none 56 g5 (L5 (Kt Kv)) (tl 1 (s1 (tl 7 bd))) (P3 Kv):=ok_block 0 (by kernel_rfl) (L5_ok Kv)
abbrev g9:List SE:=[.v 4 .sl,.v 6 .sl]
def S9 (K:KT) (p_33:Sl) (chunks_34:Sl) (w:World):Prop :=
 L5 K p_33 chunks_34 ((chunks_34.n:Nat):Int) 0 w
theorem S9_ok:OkT pr false none 56 g9 (S9 (Kt Kv)) (s1 (tl 7 bd)) (P3 Kv):=ok_group mixed FOk_ 1 (B8 Kv) fun v ρ w=>by kernel_rfl
theorem Q10:OkT pr false none 56 g9 (S9 (Kt Kv)) (tl 7 bd) (P1 Kv):=ok_seq (by kernel_rfl) (S2_ok Kv) (S9_ok Kv)
end block_frame
def block_frame (s_3:Sl) (s_4:Sl) (w:World) (K:block_frame.KT):Prop :=
 G.new (.cells #[s_3.v,s_4.v] 57) w fun p35 w36=>G.cSl p35 w36 fun l37=>C.labels_Put nilS l37 w36 fun l38 n39 w40=>G.cond (n39 != 0) (K nilS n39 w40) (G.cSl (p35.add 1) w40 fun l41=>G.cond (((l41.n:Nat):Int)==0) (K nilS 5 w40) (G.cSl (p35.add 1) w40 fun l42=>C.chunk_Split l42 w40 fun l43 n44 n45 w46=>G.cond (n44 != 0) (K nilS n44 w46) (C.vint_PutU l38 (IntKind.u64.wrap ((l43.n:Nat):Int)) w46 fun l47 w48=>block_frame.S9 K l47 l43 w48)))
def block_frame.cl:CL:=fun args K w=>match args with
 | [.agg ⟨[.slice x0_0_a x0_0_n x0_0_c,.slice x0_1_a x0_1_n x0_1_c]⟩]=>C.block_frame ⟨x0_0_a,x0_0_n,x0_0_c⟩ ⟨x0_1_a,x0_1_n,x0_1_c⟩ w (block_frame.Kt K)
 | _=>False
theorem block_frame.clok:OkC pr 74 block_frame.cl:=by
 intro args K w h
 unfold block_frame.cl at h
 split at h
 ·exact calls_group false mixed block_frame.FOk_ block_frame.fn rfl 7 (block_frame.Q10 K) (Eq.mp (by kernel_rfl) h)
 ·exact h.elim
namespace block_wrong
abbrev KT:=Int→Int→World→Prop
def Kt:KT:=fun n1 n2 w=>Kv (.tuple #[(.int .i64 n1),(.int .i64 n2)]) w
noncomputable def bd:Code:=bdy Tryz.f68
theorem fn:FnOk pr 68 58 Tryz.f68:=⟨Tryz.func68,by kernel_rfl,Tryz.ntmps68,by kernel_rfl,by kernel_rfl⟩
def F:Clee:=ofL [(74,C.block_frame.cl),(79,C.labels_Put.cl),(102,C.labels_Right.cl)]
theorem FOk_:FOk pr F:=FOk_cons C.block_frame.clok (FOk_cons C.labels_Put.clok (FOk_cons C.labels_Right.clok (FOk_nil)))
def P1:Post:=bodyK false pr 58 Tryz.f68 Kv
abbrev g2:List SE:=[]
def S2 (K:KT) (w:World):Prop :=
 K 0 0 w
theorem S2_ok:OkT pr false none 58 g2 (S2 (Kt Kv)) (s2 (tl 2 bd)) (P1 Kv):=ok_last mixed FOk_ fun v ρ w=>by kernel_rfl
def P3:Post:=next (get g2 (S2 (Kt Kv))) (P1 Kv)
def P4:Post:=inBlock 0 (P3 Kv)
abbrev g5:List SE:=[.v 4 .map,.v 14 .sl,.v 15 (.int .i64),.v 16 (.int .i64)]
def P6 (kc5:Cur g5):Post:=next (get g5 kc5) (P4 Kv)
def S7 (K:KT) (kc5:Cur g5) (met_12:Option Nat) (l13:Sl) (n14:Int) (n15:Int) (w:World):Prop :=
 G.cond (decide (n15<n14)) (G.ix l13.a l13.n n15 2 fun p16=>G.cSl p16 w fun l17=>G.cSl (p16.add 1) w fun l18=>G.new (.cells #[nilS.v,nilS.v] 57) w fun p19 w20=>G.st p19 l17.v w20 fun w21=>G.st (p19.add 1) l18.v w21 fun w22=>G.cSl p19 w22 fun l23=>C.labels_Right l23 w22 fun n24 n25 w26=>G.cond (n24 != 0) (K n24 n15 w26) (G.cSl p19 w26 fun l27=>C.labels_Put nilS l27 w26 fun l28 n29 w30=>G.rdS pr (Conv.bytesToString l28.v) w30 fun s31=>G.rd1 pr (Instr.lookup 126 (.map met_12) (.string s31) false) (fun n:Int=>Value.int .i64 n) w30 fun n32=>G.runU pr (Instr.mapUpdate 126 (.map met_12) (.string s31) (.int .i64 (IntKind.i64.wrap (n32+1)))) w30 fun w33=>G.rdS pr (Conv.bytesToString l28.v) w33 fun s34=>G.rd1 pr (Instr.lookup 126 (.map met_12) (.string s34) false) (fun n:Int=>Value.int .i64 n) w33 fun n35=>G.cond (decide (n35 > 1)) (K 6 n15 w33) (G.cSl p19 w33 fun l36=>G.cSl (p19.add 1) w33 fun l37=>C.block_frame l36 l37 w33 fun l38 n39 w40=>G.cond (n39 != 0) (K n39 n15 w40) (kc5 met_12 l13 n14 (IntKind.i64.wrap (n15+1)) w40)))) (S2 K w)
theorem S7_ok (kc5:Cur g5):OkT pr false none 58 g5 (S7 (Kt Kv) kc5) (lp (blk (tl 1 (s1 (tl 2 bd))))) (P6 Kv kc5):=ok_last mixed FOk_ fun v ρ w=>by kernel_rfl
def L5 (K:KT):Cur g5:=loopC g5 (S7 K)
theorem L5_ok:OkT pr false none 58 g5 (L5 (Kt Kv)) (blk (tl 1 (s1 (tl 2 bd)))) (P4 Kv):=ok_loop (B:=S7 (Kt Kv)) (by kernel_rfl) fun kc=>S7_ok Kv kc
theorem L5_ind {K:KT} {met_4:Option Nat} {l5:Sl} {n6:Int} {n7:Int} {w:World} (h:∀ X:Cur g5,(∀ met_4 l5 n6 n7 w,S7 K X met_4 l5 n6 n7 w→X met_4 l5 n6 n7 w)→X met_4 l5 n6 n7 w):L5 K met_4 l5 n6 n7 w:=fun X hX=>h X fun met_4 l5 n6 n7 w hb=>hX (met_4,l5,n6,n7,()) w hb
theorem B8:OkT pr false none 58 g5 (L5 (Kt Kv)) (tl 1 (s1 (tl 2 bd))) (P3 Kv):=ok_block 0 (by kernel_rfl) (L5_ok Kv)
abbrev g9:List SE:=[.v 0 .sl,.v 4 .map]
def S9 (K:KT) (l_41:Sl) (met_42:Option Nat) (w:World):Prop :=
 L5 K met_42 l_41 ((l_41.n:Nat):Int) 0 w
theorem S9_ok:OkT pr false none 58 g9 (S9 (Kt Kv)) (s1 (tl 2 bd)) (P3 Kv):=ok_group mixed FOk_ 1 (B8 Kv) fun v ρ w=>by kernel_rfl
theorem Q10:OkT pr false none 58 g9 (S9 (Kt Kv)) (tl 2 bd) (P1 Kv):=ok_seq (by kernel_rfl) (S2_ok Kv) (S9_ok Kv)
end block_wrong
def block_wrong (l_3:Sl) (w:World) (K:block_wrong.KT):Prop :=
 G.runM pr (Instr.makeMap 126 none) w fun m43 w44=>block_wrong.S9 K l_3 m43 w44
def block_wrong.cl:CL:=fun args K w=>match args with
 | [.slice x0_a x0_n x0_c]=>C.block_wrong ⟨x0_a,x0_n,x0_c⟩ w (block_wrong.Kt K)
 | _=>False
theorem block_wrong.clok:OkC pr 68 block_wrong.cl:=by
 intro args K w h
 unfold block_wrong.cl at h
 split at h
 ·exact calls_group false mixed block_wrong.FOk_ block_wrong.fn rfl 2 (block_wrong.Q10 K) (Eq.mp (by kernel_rfl) h)
 ·exact h.elim
namespace slices_Clone_Series_Series
abbrev KT:=Sl→World→Prop
def Kt:KT:=fun l1 w=>Kv l1.v w
noncomputable def bd:Code:=bdy Tryz.f69
theorem fn:FnOk pr 69 8 Tryz.f69:=⟨Tryz.func69,by kernel_rfl,Tryz.ntmps69,by kernel_rfl,by kernel_rfl⟩
def F:Clee:=ofL []
theorem FOk_:FOk pr F:=FOk_nil
def P1:Post:=bodyK false pr 8 Tryz.f69 Kv
end slices_Clone_Series_Series
def slices_Clone_Series_Series (s_2:Sl) (w:World) (K:slices_Clone_Series_Series.KT):Prop :=
 G.cond s_2.a.isNone (K nilS w) (G.new (.cells #[] 57) w fun p3 w4=>G.runSl pr (Builtin.append_ #[27,27] 27 #[(Sl.v (⟨some p3,0,0⟩:Sl)),s_2.v]) w4 fun l5 w6=>K l5 w6)
def slices_Clone_Series_Series.cl:CL:=fun args K w=>match args with
 | [.slice x0_a x0_n x0_c]=>C.slices_Clone_Series_Series ⟨x0_a,x0_n,x0_c⟩ w (slices_Clone_Series_Series.Kt K)
 | _=>False
theorem slices_Clone_Series_Series.clok:OkC pr 69 slices_Clone_Series_Series.cl:=by
 intro args K w h
 unfold slices_Clone_Series_Series.cl at h
 split at h
 ·exact calls_last false mixed slices_Clone_Series_Series.FOk_ slices_Clone_Series_Series.fn rfl (Eq.mp (by kernel_rfl) h)
 ·exact h.elim
abbrev slices_SortFunc_Series_Series.KT:=World→Prop
def slices_SortFunc_Series_Series.Kt:slices_SortFunc_Series_Series.KT:=fun w=>Kv (.tuple #[]) w
def slices_SortFunc_Series_Series (x0:Sl) (x1:Value) (w:World) (K:slices_SortFunc_Series_Series.KT):Prop:=Srt.sortF x0 x1 w K
def slices_SortFunc_Series_Series.cl:CL:=fun args K w=>match args with
 | [.slice a n c,fv]=>C.slices_SortFunc_Series_Series ⟨a,n,c⟩ fv w (slices_SortFunc_Series_Series.Kt K)
 | _=>False
theorem slices_SortFunc_Series_Series.clok:OkC pr 70 slices_SortFunc_Series_Series.cl:=by
 intro args K w h
 unfold slices_SortFunc_Series_Series.cl at h
 split at h
 ·exact Srt.sortF_ok h
 ·exact h.elim
namespace block_Build
abbrev KT:=Sl→Int→Int→World→Prop
def Kt:KT:=fun l1 n2 n3 w=>Kv (.tuple #[l1.v,(.int .i64 n2),(.int .i64 n3)]) w
noncomputable def bd:Code:=bdy Tryz.f33
theorem fn:FnOk pr 33 122 Tryz.f33:=⟨Tryz.func33,by kernel_rfl,Tryz.ntmps33,by kernel_rfl,by kernel_rfl⟩
def F:Clee:=ofL [(68,C.block_wrong.cl),(69,C.slices_Clone_Series_Series.cl),(70,C.slices_SortFunc_Series_Series.cl),(72,C.vint_PutU.cl),(73,C.vint_PutFrame.cl),(74,C.block_frame.cl)]
theorem FOk_:FOk pr F:=FOk_cons C.block_wrong.clok (FOk_cons C.slices_Clone_Series_Series.clok (FOk_cons C.slices_SortFunc_Series_Series.clok (FOk_cons C.vint_PutU.clok (FOk_cons C.vint_PutFrame.clok (FOk_cons C.block_frame.clok (FOk_nil))))))
def P1:Post:=bodyK false pr 122 Tryz.f33 Kv
abbrev g2:List SE:=[.v 18 .sl]
def S2 (K:KT) (out_7:Sl) (w:World):Prop :=
 K out_7 0 0 w
theorem S2_ok:OkT pr false none 122 g2 (S2 (Kt Kv)) (s2 (tl 1 (s2 (tl 1 (s2 (tl 6 bd)))))) (P1 Kv):=ok_last mixed FOk_ fun v ρ w=>by kernel_rfl
def P3:Post:=next (get g2 (S2 (Kt Kv))) (P1 Kv)
def P4:Post:=inBlock 4 (P3 Kv)
abbrev g5:List SE:=[.v 18 .sl,.v 103 .sl,.v 104 (.int .i64),.v 105 (.int .i64)]
def P6 (kc5:Cur g5):Post:=next (get g5 kc5) (P4 Kv)
def S7 (K:KT) (kc5:Cur g5) (out_16:Sl) (l17:Sl) (n18:Int) (n19:Int) (w:World):Prop :=
 G.cond (decide (n19<n18)) (G.ix l17.a l17.n n19 2 fun p20=>G.cSl p20 w fun l21=>G.cSl (p20.add 1) w fun l22=>G.new (.cells #[nilS.v,nilS.v] 57) w fun p23 w24=>G.st p23 l21.v w24 fun w25=>G.st (p23.add 1) l22.v w25 fun w26=>G.cSl p23 w26 fun l27=>G.cSl (p23.add 1) w26 fun l28=>C.block_frame l27 l28 w26 fun l29 n30 w31=>G.runSl pr (Builtin.append_ #[22,22] 22 #[out_16.v,l29.v]) w31 fun l32 w33=>G.cond (decide (((l32.n:Nat):Int) > 1048576)) (K nilS 4 0 w33) (kc5 l32 l17 n18 (IntKind.i64.wrap (n19+1)) w33)) (S2 K out_16 w)
theorem S7_ok (kc5:Cur g5):OkT pr false none 122 g5 (S7 (Kt Kv) kc5) (lp (blk (tl 1 (s1 (tl 1 (s2 (tl 1 (s2 (tl 6 bd))))))))) (P6 Kv kc5):=ok_last mixed FOk_ fun v ρ w=>by kernel_rfl
def L5 (K:KT):Cur g5:=loopC g5 (S7 K)
theorem L5_ok:OkT pr false none 122 g5 (L5 (Kt Kv)) (blk (tl 1 (s1 (tl 1 (s2 (tl 1 (s2 (tl 6 bd)))))))) (P4 Kv):=ok_loop (B:=S7 (Kt Kv)) (by kernel_rfl) fun kc=>S7_ok Kv kc
theorem L5_ind {K:KT} {out_8:Sl} {l9:Sl} {n10:Int} {n11:Int} {w:World} (h:∀ X:Cur g5,(∀ out_8 l9 n10 n11 w,S7 K X out_8 l9 n10 n11 w→X out_8 l9 n10 n11 w)→X out_8 l9 n10 n11 w):L5 K out_8 l9 n10 n11 w:=fun X hX=>h X fun out_8 l9 n10 n11 w hb=>hX (out_8,l9,n10,n11,()) w hb
theorem B8:OkT pr false none 122 g5 (L5 (Kt Kv)) (tl 1 (s1 (tl 1 (s2 (tl 1 (s2 (tl 6 bd))))))) (P3 Kv):=ok_block 4 (by kernel_rfl) (L5_ok Kv)
abbrev g9:List SE:=[.v 7 .sl,.v 18 .sl]
def S9 (K:KT) (all_34:Sl) (out_35:Sl) (w:World):Prop :=
 L5 K out_35 all_34 ((all_34.n:Nat):Int) 0 w
theorem S9_ok:OkT pr false none 122 g9 (S9 (Kt Kv)) (s1 (tl 1 (s2 (tl 1 (s2 (tl 6 bd)))))) (P3 Kv):=ok_group mixed FOk_ 1 (B8 Kv) fun v ρ w=>by kernel_rfl
theorem Q10:OkT pr false none 122 g9 (S9 (Kt Kv)) (tl 1 (s2 (tl 1 (s2 (tl 6 bd))))) (P1 Kv):=ok_seq (by kernel_rfl) (S2_ok Kv) (S9_ok Kv)
abbrev g11:List SE:=[.v 7 .sl,.v 15 .sl]
def S11 (K:KT) (all_36:Sl) (head_37:Sl) (w:World):Prop :=
 G.new (.cells #[(.int .u8 84),(.int .u8 79),(.int .u8 67),(.int .u8 66),(.int .u8 76),(.int .u8 75),(.int .u8 48),(.int .u8 49)] 5) w fun p38 w39=>G.runSl pr (Go.convert 22 22 (Sl.v (⟨some p38,8,8⟩:Sl))) w39 fun l40 w41=>C.vint_PutFrame l40 head_37 w41 fun l42 n43 w44=>S9 K all_36 l42 w44
theorem S11_ok:OkT pr false none 122 g11 (S11 (Kt Kv)) (s2 (tl 1 (s2 (tl 6 bd)))) (P1 Kv):=ok_group mixed FOk_ 1 (Q10 Kv) fun v ρ w=>by kernel_rfl
def P12:Post:=next (get g11 (S11 (Kt Kv))) (P1 Kv)
def P13:Post:=inBlock 2 (P12 Kv)
abbrev g14:List SE:=[.v 7 .sl,.v 15 .sl,.v 86 .sl,.v 87 (.int .i64),.v 88 (.int .i64)]
def P15 (kc14:Cur g14):Post:=next (get g14 kc14) (P13 Kv)
def S16 (K:KT) (kc14:Cur g14) (all_55:Sl) (head_56:Sl) (l57:Sl) (n58:Int) (n59:Int) (w:World):Prop :=
 G.cond (decide (n59<n58)) (G.ix l57.a l57.n n59 1 fun p60=>G.cI .u64 p60 w fun n61=>C.vint_PutU head_56 n61 w fun l62 w63=>kc14 all_55 l62 l57 n58 (IntKind.i64.wrap (n59+1)) w63) (S11 K all_55 head_56 w)
theorem S16_ok (kc14:Cur g14):OkT pr false none 122 g14 (S16 (Kt Kv) kc14) (lp (blk (tl 1 (s1 (tl 1 (s2 (tl 6 bd))))))) (P15 Kv kc14):=ok_last mixed FOk_ fun v ρ w=>by kernel_rfl
def L14 (K:KT):Cur g14:=loopC g14 (S16 K)
theorem L14_ok:OkT pr false none 122 g14 (L14 (Kt Kv)) (blk (tl 1 (s1 (tl 1 (s2 (tl 6 bd)))))) (P13 Kv):=ok_loop (B:=S16 (Kt Kv)) (by kernel_rfl) fun kc=>S16_ok Kv kc
theorem L14_ind {K:KT} {all_45:Sl} {head_46:Sl} {l47:Sl} {n48:Int} {n49:Int} {w:World} (h:∀ X:Cur g14,(∀ all_45 head_46 l47 n48 n49 w,S16 K X all_45 head_46 l47 n48 n49 w→X all_45 head_46 l47 n48 n49 w)→X all_45 head_46 l47 n48 n49 w):L14 K all_45 head_46 l47 n48 n49 w:=fun X hX=>h X fun all_45 head_46 l47 n48 n49 w hb=>hX (all_45,head_46,l47,n48,n49,()) w hb
theorem B17:OkT pr false none 122 g14 (L14 (Kt Kv)) (tl 1 (s1 (tl 1 (s2 (tl 6 bd))))) (P12 Kv):=ok_block 2 (by kernel_rfl) (L14_ok Kv)
abbrev g18:List SE:=[.v 7 .sl,.v 8 (.int .i64),.v 9 (.int .i64),.v 10 (.int .i64),.v 15 .sl]
def S18 (K:KT) (all_64:Sl) (n_65:Int) (first_66:Int) (last_67:Int) (head_68:Sl) (w:World):Prop :=
 G.new (.cells #[(.int .u64 (IntKind.u64.wrap ((all_64.n:Nat):Int))),(.int .u64 (IntKind.u64.wrap n_65)),(.int .u64 (IntKind.u64.wrap first_66)),(.int .u64 (IntKind.u64.wrap last_67))] 105) w fun p69 w70=>L14 K all_64 head_68 (⟨some p69,4,4⟩:Sl) (((⟨some p69,4,4⟩:Sl).n:Nat):Int) 0 w70
theorem S18_ok:OkT pr false none 122 g18 (S18 (Kt Kv)) (s1 (tl 1 (s2 (tl 6 bd)))) (P12 Kv):=ok_group mixed FOk_ 1 (B17 Kv) fun v ρ w=>by kernel_rfl
theorem Q19:OkT pr false none 122 g18 (S18 (Kt Kv)) (tl 1 (s2 (tl 6 bd))) (P1 Kv):=ok_seq (by kernel_rfl) (S11_ok Kv) (S18_ok Kv)
abbrev g20:List SE:=[.v 7 .sl,.v 8 (.int .i64),.v 9 (.int .i64),.v 10 (.int .i64)]
def S20 (K:KT) (all_71:Sl) (n_72:Int) (first_73:Int) (last_74:Int) (w:World):Prop :=
 S18 K all_71 n_72 first_73 last_74 nilS w
theorem S20_ok:OkT pr false none 122 g20 (S20 (Kt Kv)) (s2 (tl 6 bd)) (P1 Kv):=ok_group mixed FOk_ 1 (Q19 Kv) fun v ρ w=>by kernel_rfl
def P21:Post:=next (get g20 (S20 (Kt Kv))) (P1 Kv)
def P22:Post:=inBlock 0 (P21 Kv)
abbrev g23:List SE:=[.v 7 .sl,.v 8 (.int .i64),.v 9 (.int .i64),.v 10 (.int .i64),.v 40 .sl,.v 41 (.int .i64),.v 42 (.int .i64)]
def P24 (kc23:Cur g23):Post:=next (get g23 kc23) (P22 Kv)
def S25 (K:KT) (kc23:Cur g23) (all_89:Sl) (n_90:Int) (first_91:Int) (last_92:Int) (l93:Sl) (n94:Int) (n95:Int) (w:World):Prop :=
 G.cond (decide (n95<n94)) (G.ix l93.a l93.n n95 2 fun p96=>G.cSl p96 w fun l97=>G.cSl (p96.add 1) w fun l98=>G.new (.cells #[nilS.v,nilS.v] 57) w fun p99 w100=>G.st p99 l97.v w100 fun w101=>G.st (p99.add 1) l98.v w101 fun w102=>G.cSl (p99.add 1) w102.drew fun l103=>G.ix l103.a l103.n 0 2 fun p104=>G.cI .i64 p104 w102.drew fun n105=>G.cSl (p99.add 1) w102.drew fun l106=>G.cSl (p99.add 1) w102.drew fun l107=>G.ix l106.a l106.n (IntKind.i64.wrap (((l107.n:Nat):Int)-1)) 2 fun p108=>G.cI .i64 p108 w102.drew fun n109=>G.cond (n95==0) (G.cSl (p99.add 1) w102.drew fun l110=>kc23 all_89 (IntKind.i64.wrap (n_90+((l110.n:Nat):Int))) (if n105<n105 then n105 else n105) (if n109<n109 then n109 else n109) l93 n94 (IntKind.i64.wrap (n95+1)) w102.drew) (G.cSl (p99.add 1) w102.drew fun l111=>kc23 all_89 (IntKind.i64.wrap (n_90+((l111.n:Nat):Int))) (if n105<first_91 then n105 else first_91) (if last_92<n109 then n109 else last_92) l93 n94 (IntKind.i64.wrap (n95+1)) w102.drew)) (S20 K all_89 n_90 first_91 last_92 w)
theorem S25_ok (kc23:Cur g23):OkT pr false none 122 g23 (S25 (Kt Kv) kc23) (lp (blk (tl 1 (s1 (tl 6 bd))))) (P24 Kv kc23):=ok_last mixed FOk_ fun v ρ w=>by kernel_rfl
def L23 (K:KT):Cur g23:=loopC g23 (S25 K)
theorem L23_ok:OkT pr false none 122 g23 (L23 (Kt Kv)) (blk (tl 1 (s1 (tl 6 bd)))) (P22 Kv):=ok_loop (B:=S25 (Kt Kv)) (by kernel_rfl) fun kc=>S25_ok Kv kc
theorem L23_ind {K:KT} {all_75:Sl} {n_76:Int} {first_77:Int} {last_78:Int} {l79:Sl} {n80:Int} {n81:Int} {w:World} (h:∀ X:Cur g23,(∀ all_75 n_76 first_77 last_78 l79 n80 n81 w,S25 K X all_75 n_76 first_77 last_78 l79 n80 n81 w→X all_75 n_76 first_77 last_78 l79 n80 n81 w)→X all_75 n_76 first_77 last_78 l79 n80 n81 w):L23 K all_75 n_76 first_77 last_78 l79 n80 n81 w:=fun X hX=>h X fun all_75 n_76 first_77 last_78 l79 n80 n81 w hb=>hX (all_75,n_76,first_77,last_78,l79,n80,n81,()) w hb
theorem B26:OkT pr false none 122 g23 (L23 (Kt Kv)) (tl 1 (s1 (tl 6 bd))) (P21 Kv):=ok_block 0 (by kernel_rfl) (L23_ok Kv)
def S27 (K:KT) (all_112:Sl) (n_113:Int) (first_114:Int) (last_115:Int) (w:World):Prop :=
 L23 K all_112 n_113 first_114 last_115 all_112 ((all_112.n:Nat):Int) 0 w
theorem S27_ok:OkT pr false none 122 g20 (S27 (Kt Kv)) (s1 (tl 6 bd)) (P21 Kv):=ok_group mixed FOk_ 1 (B26 Kv) fun v ρ w=>by kernel_rfl
theorem Q28:OkT pr false none 122 g20 (S27 (Kt Kv)) (tl 6 bd) (P1 Kv):=ok_seq (by kernel_rfl) (S20_ok Kv) (S27_ok Kv)
end block_Build
def block_Build (l_4:Sl) (w:World) (K:block_Build.KT):Prop :=
 G.cond (decide (((l_4.n:Nat):Int) > 1000)) (K nilS 8 0 w) (C.block_wrong l_4 w fun n116 n117 w118=>G.cond (n116 != 0) (K nilS n116 n117 w118) (C.slices_Clone_Series_Series l_4 w118 fun l119 w120=>C.slices_SortFunc_Series_Series l119 (Value.func (.func 71) #[] #[]) w120 fun w121=>block_Build.S27 K l119 0 0 0 w121))
def block_Build.cl:CL:=fun args K w=>match args with
 | [.slice x0_a x0_n x0_c]=>C.block_Build ⟨x0_a,x0_n,x0_c⟩ w (block_Build.Kt K)
 | _=>False
theorem block_Build.clok:OkC pr 33 block_Build.cl:=by
 intro args K w h
 unfold block_Build.cl at h
 split at h
 ·exact calls_group false mixed block_Build.FOk_ block_Build.fn rfl 6 (block_Build.Q28 K) (Eq.mp (by kernel_rfl) h)
 ·exact h.elim
namespace stringslite_HasPrefix
abbrev KT:=Bool→World→Prop
def Kt:KT:=fun b1 w=>Kv (.bool b1) w
noncomputable def bd:Code:=bdy Tryz.f81
theorem fn:FnOk pr 81 18 Tryz.f81:=⟨Tryz.func81,by kernel_rfl,Tryz.ntmps81,by kernel_rfl,by kernel_rfl⟩
def F:Clee:=ofL []
theorem FOk_:FOk pr F:=FOk_nil
def P1:Post:=bodyK false pr 18 Tryz.f81 Kv
end stringslite_HasPrefix
def stringslite_HasPrefix (s_2:ByteArray) (prefix_3:ByteArray) (w:World) (K:stringslite_HasPrefix.KT):Prop :=
 G.cond (decide (((s_2.size:Nat):Int) ≥ ((prefix_3.size:Nat):Int))) (G.slcS s_2 0 ((prefix_3.size:Nat):Int) fun s4=>K (s4.toList==prefix_3.toList) w) (K false w)
def stringslite_HasPrefix.cl:CL:=fun args K w=>match args with
 | [.string x0,.string x1]=>C.stringslite_HasPrefix x0 x1 w (stringslite_HasPrefix.Kt K)
 | _=>False
theorem stringslite_HasPrefix.clok:OkC pr 81 stringslite_HasPrefix.cl:=by
 intro args K w h
 unfold stringslite_HasPrefix.cl at h
 split at h
 ·exact calls_last false mixed stringslite_HasPrefix.FOk_ stringslite_HasPrefix.fn rfl (Eq.mp (by kernel_rfl) h)
 ·exact h.elim
namespace strings_HasPrefix
abbrev KT:=Bool→World→Prop
def Kt:KT:=fun b1 w=>Kv (.bool b1) w
noncomputable def bd:Code:=bdy Tryz.f41
theorem fn:FnOk pr 41 8 Tryz.f41:=⟨Tryz.func41,by kernel_rfl,Tryz.ntmps41,by kernel_rfl,by kernel_rfl⟩
def F:Clee:=ofL [(81,C.stringslite_HasPrefix.cl)]
theorem FOk_:FOk pr F:=FOk_cons C.stringslite_HasPrefix.clok (FOk_nil)
def P1:Post:=bodyK false pr 8 Tryz.f41 Kv
end strings_HasPrefix
def strings_HasPrefix (s_2:ByteArray) (prefix_3:ByteArray) (w:World) (K:strings_HasPrefix.KT):Prop :=
 C.stringslite_HasPrefix s_2 prefix_3 w fun b4 w5=>K b4 w5
def strings_HasPrefix.cl:CL:=fun args K w=>match args with
 | [.string x0,.string x1]=>C.strings_HasPrefix x0 x1 w (strings_HasPrefix.Kt K)
 | _=>False
theorem strings_HasPrefix.clok:OkC pr 41 strings_HasPrefix.cl:=by
 intro args K w h
 unfold strings_HasPrefix.cl at h
 split at h
 ·exact calls_last false mixed strings_HasPrefix.FOk_ strings_HasPrefix.fn rfl (Eq.mp (by kernel_rfl) h)
 ·exact h.elim
namespace vint_U
abbrev KT:=Int→Int→Int→World→Prop
def Kt:KT:=fun n1 n2 n3 w=>Kv (.tuple #[(.int .u64 n1),(.int .i64 n2),(.int .i64 n3)]) w
noncomputable def bd:Code:=bdy Tryz.f84
theorem fn:FnOk pr 84 65 Tryz.f84:=⟨Tryz.func84,by kernel_rfl,Tryz.ntmps84,by kernel_rfl,by kernel_rfl⟩
def F:Clee:=ofL []
theorem FOk_:FOk pr F:=FOk_nil
def P1:Post:=bodyK false pr 65 Tryz.f84 Kv
def P2:Post:=inBlock 0 (P1 Kv)
abbrev g3:List SE:=[.v 0 .sl,.v 1 (.int .i64),.v 7 (.int .u64),.v 8 (.int .i64)]
def P4 (kc3:Cur g3):Post:=next (get g3 kc3) (P2 Kv)
def S5 (K:KT) (kc3:Cur g3) (b_12:Sl) (at_13:Int) (n_14:Int) (i_15:Int) (w:World):Prop :=
 G.cond (decide ((IntKind.i64.wrap (at_13+i_15)) ≥ ((b_12.n:Nat):Int))) (K 0 0 9 w) (G.ix b_12.a b_12.n (IntKind.i64.wrap (at_13+i_15)) 1 fun p16=>G.cI .u8 p16 w fun n17=>G.cond (i_15==9) (G.cond (decide (n17 > 1)) (K 0 0 7 w) (G.cond (decide (n17<128)) (G.cond (n17==0) (G.cond (decide (i_15 > 0)) (K 0 0 3 w) (G.nn (IntKind.i64.wrap (7*i_15))<|G.cond (decide (n17<128)) (K (Go.bits .or .u64 n_14 (shl .u64 (IntKind.u64.wrap (Go.bits .and .u8 n17 127)) (IntKind.i64.wrap (7*i_15)))) (IntKind.i64.wrap ((IntKind.i64.wrap (at_13+i_15))+1)) 0 w) (kc3 b_12 at_13 (Go.bits .or .u64 n_14 (shl .u64 (IntKind.u64.wrap (Go.bits .and .u8 n17 127)) (IntKind.i64.wrap (7*i_15)))) (IntKind.i64.wrap (i_15+1)) w))) (G.nn (IntKind.i64.wrap (7*i_15))<|G.cond (decide (n17<128)) (K (Go.bits .or .u64 n_14 (shl .u64 (IntKind.u64.wrap (Go.bits .and .u8 n17 127)) (IntKind.i64.wrap (7*i_15)))) (IntKind.i64.wrap ((IntKind.i64.wrap (at_13+i_15))+1)) 0 w) (kc3 b_12 at_13 (Go.bits .or .u64 n_14 (shl .u64 (IntKind.u64.wrap (Go.bits .and .u8 n17 127)) (IntKind.i64.wrap (7*i_15)))) (IntKind.i64.wrap (i_15+1)) w))) (G.nn (IntKind.i64.wrap (7*i_15))<|G.cond (decide (n17<128)) (K (Go.bits .or .u64 n_14 (shl .u64 (IntKind.u64.wrap (Go.bits .and .u8 n17 127)) (IntKind.i64.wrap (7*i_15)))) (IntKind.i64.wrap ((IntKind.i64.wrap (at_13+i_15))+1)) 0 w) (kc3 b_12 at_13 (Go.bits .or .u64 n_14 (shl .u64 (IntKind.u64.wrap (Go.bits .and .u8 n17 127)) (IntKind.i64.wrap (7*i_15)))) (IntKind.i64.wrap (i_15+1)) w)))) (G.cond (decide (n17<128)) (G.cond (n17==0) (G.cond (decide (i_15 > 0)) (K 0 0 3 w) (G.nn (IntKind.i64.wrap (7*i_15))<|G.cond (decide (n17<128)) (K (Go.bits .or .u64 n_14 (shl .u64 (IntKind.u64.wrap (Go.bits .and .u8 n17 127)) (IntKind.i64.wrap (7*i_15)))) (IntKind.i64.wrap ((IntKind.i64.wrap (at_13+i_15))+1)) 0 w) (kc3 b_12 at_13 (Go.bits .or .u64 n_14 (shl .u64 (IntKind.u64.wrap (Go.bits .and .u8 n17 127)) (IntKind.i64.wrap (7*i_15)))) (IntKind.i64.wrap (i_15+1)) w))) (G.nn (IntKind.i64.wrap (7*i_15))<|G.cond (decide (n17<128)) (K (Go.bits .or .u64 n_14 (shl .u64 (IntKind.u64.wrap (Go.bits .and .u8 n17 127)) (IntKind.i64.wrap (7*i_15)))) (IntKind.i64.wrap ((IntKind.i64.wrap (at_13+i_15))+1)) 0 w) (kc3 b_12 at_13 (Go.bits .or .u64 n_14 (shl .u64 (IntKind.u64.wrap (Go.bits .and .u8 n17 127)) (IntKind.i64.wrap (7*i_15)))) (IntKind.i64.wrap (i_15+1)) w))) (G.nn (IntKind.i64.wrap (7*i_15))<|G.cond (decide (n17<128)) (K (Go.bits .or .u64 n_14 (shl .u64 (IntKind.u64.wrap (Go.bits .and .u8 n17 127)) (IntKind.i64.wrap (7*i_15)))) (IntKind.i64.wrap ((IntKind.i64.wrap (at_13+i_15))+1)) 0 w) (kc3 b_12 at_13 (Go.bits .or .u64 n_14 (shl .u64 (IntKind.u64.wrap (Go.bits .and .u8 n17 127)) (IntKind.i64.wrap (7*i_15)))) (IntKind.i64.wrap (i_15+1)) w))))
theorem S5_ok (kc3:Cur g3):OkT pr false none 65 g3 (S5 (Kt Kv) kc3) (lp (blk (tl 4 bd))) (P4 Kv kc3):=ok_last mixed FOk_ fun v ρ w=>by kernel_rfl
def L3 (K:KT):Cur g3:=loopC g3 (S5 K)
theorem L3_ok:OkT pr false none 65 g3 (L3 (Kt Kv)) (blk (tl 4 bd)) (P2 Kv):=ok_loop (B:=S5 (Kt Kv)) (by kernel_rfl) fun kc=>S5_ok Kv kc
theorem L3_ind {K:KT} {b_8:Sl} {at_9:Int} {n_10:Int} {i_11:Int} {w:World} (h:∀ X:Cur g3,(∀ b_8 at_9 n_10 i_11 w,S5 K X b_8 at_9 n_10 i_11 w→X b_8 at_9 n_10 i_11 w)→X b_8 at_9 n_10 i_11 w):L3 K b_8 at_9 n_10 i_11 w:=fun X hX=>h X fun b_8 at_9 n_10 i_11 w hb=>hX (b_8,at_9,n_10,i_11,()) w hb
theorem B6:OkT pr false none 65 g3 (L3 (Kt Kv)) (tl 4 bd) (P1 Kv):=ok_block 0 (by kernel_rfl) (L3_ok Kv)
end vint_U
def vint_U (b_4:Sl) (at_5:Int) (w:World) (K:vint_U.KT):Prop :=
 G.cond (decide (at_5<0)) (K 0 0 1 w) (G.cond (decide (at_5 > ((b_4.n:Nat):Int))) (K 0 0 1 w) (vint_U.L3 K b_4 at_5 0 0 w))
def vint_U.cl:CL:=fun args K w=>match args with
 | [.slice x0_a x0_n x0_c,.int .i64 x1]=>C.vint_U ⟨x0_a,x0_n,x0_c⟩ x1 w (vint_U.Kt K)
 | _=>False
theorem vint_U.clok:OkC pr 84 vint_U.cl:=by
 intro args K w h
 unfold vint_U.cl at h
 split at h
 ·exact calls_group false mixed vint_U.FOk_ vint_U.fn rfl 4 (vint_U.B6 K) (Eq.mp (by kernel_rfl) h)
 ·exact h.elim
namespace vint_Frame
abbrev KT:=Sl→Int→Int→World→Prop
def Kt:KT:=fun l1 n2 n3 w=>Kv (.tuple #[l1.v,(.int .i64 n2),(.int .i64 n3)]) w
noncomputable def bd:Code:=bdy Tryz.f82
theorem fn:FnOk pr 82 91 Tryz.f82:=⟨Tryz.func82,by kernel_rfl,Tryz.ntmps82,by kernel_rfl,by kernel_rfl⟩
def F:Clee:=ofL [(84,C.vint_U.cl),(106,C.vint_joined.cl),(107,C.vint_Sum.cl)]
theorem FOk_:FOk pr F:=FOk_cons C.vint_U.clok (FOk_cons C.vint_joined.clok (FOk_cons C.vint_Sum.clok (FOk_nil)))
def P1:Post:=bodyK false pr 91 Tryz.f82 Kv
end vint_Frame
def vint_Frame (b_4:Sl) (at_5:Int) (w:World) (K:vint_Frame.KT):Prop :=
 C.vint_U b_4 at_5 w fun n12 n13 n14 w15=>G.cond (n14 != 0) (K nilS 0 n14 w15) (G.cond (decide (n12 > 65536)) (K nilS 0 4 w15) (G.cond (decide ((IntKind.i64.wrap (((b_4.n:Nat):Int)-n13))<(IntKind.i64.wrap (4+(IntKind.i64.wrap n12))))) (K nilS 0 9 w15) (G.ix b_4.a b_4.n (IntKind.i64.wrap (n13+3)) 1 fun p16=>G.cI .u8 p16 w15 fun n17=>G.nn 24<|G.ix b_4.a b_4.n n13 1 fun p18=>G.cI .u8 p18 w15.drew fun n19=>G.ix b_4.a b_4.n (IntKind.i64.wrap (n13+1)) 1 fun p20=>G.cI .u8 p20 w15.drew fun n21=>G.nn 8<|G.ix b_4.a b_4.n (IntKind.i64.wrap (n13+2)) 1 fun p22=>G.cI .u8 p22 w15.drew fun n23=>G.nn 16<|G.slc b_4 (IntKind.i64.wrap (n13+4)) (IntKind.i64.wrap ((IntKind.i64.wrap (n13+4))+(IntKind.i64.wrap n12))) 1 fun l24=>C.vint_joined nilS l24 w15.drew fun l25 w26=>C.vint_Sum l25 w26 fun n27 w28=>G.cond (n27 != (Go.bits .or .u32 (Go.bits .or .u32 0 (shl .u32 (IntKind.u32.wrap n17) 24)) (Go.bits .or .u32 (Go.bits .or .u32 (IntKind.u32.wrap n19) (shl .u32 (IntKind.u32.wrap n21) 8)) (shl .u32 (IntKind.u32.wrap n23) 16)))) (K nilS 0 11 w28) (K l25 (IntKind.i64.wrap ((IntKind.i64.wrap (n13+4))+(IntKind.i64.wrap n12))) 0 w28))))
def vint_Frame.cl:CL:=fun args K w=>match args with
 | [.slice x0_a x0_n x0_c,.int .i64 x1]=>C.vint_Frame ⟨x0_a,x0_n,x0_c⟩ x1 w (vint_Frame.Kt K)
 | _=>False
theorem vint_Frame.clok:OkC pr 82 vint_Frame.cl:=by
 intro args K w h
 unfold vint_Frame.cl at h
 split at h
 ·exact calls_last false mixed vint_Frame.FOk_ vint_Frame.fn rfl (Eq.mp (by kernel_rfl) h)
 ·exact h.elim
namespace vint_Frames
abbrev KT:=Sl→Int→Int→World→Prop
def Kt:KT:=fun l1 n2 n3 w=>Kv (.tuple #[l1.v,(.int .i64 n2),(.int .i64 n3)]) w
noncomputable def bd:Code:=bdy Tryz.f42
theorem fn:FnOk pr 42 33 Tryz.f42:=⟨Tryz.func42,by kernel_rfl,Tryz.ntmps42,by kernel_rfl,by kernel_rfl⟩
def F:Clee:=ofL [(82,C.vint_Frame.cl)]
theorem FOk_:FOk pr F:=FOk_cons C.vint_Frame.clok (FOk_nil)
def P1:Post:=bodyK false pr 33 Tryz.f42 Kv
def P2:Post:=noG (P1 Kv)
abbrev g3:List SE:=[.v 5 .sl,.v 6 (.int .i64),.v 7 (.int .i64)]
def S3 (K:KT) (l_5:Sl) (at_6:Int) (e_7:Int) (w:World):Prop :=
 K l_5 at_6 e_7 w
theorem S3_ok:OkT pr false none 33 g3 (S3 (Kt Kv)) (s2 (tl 3 (scp (tl 1 bd)))) (P2 Kv):=ok_last mixed FOk_ fun v ρ w=>by kernel_rfl
def P4:Post:=next (get g3 (S3 (Kt Kv))) (P2 Kv)
def P5:Post:=inBlock 0 (P4 Kv)
abbrev g6:List SE:=[.v 0 .sl,.v 5 .sl,.v 6 (.int .i64),.v 7 (.int .i64)]
def P7 (kc6:Cur g6):Post:=next (get g6 kc6) (P5 Kv)
def S8 (K:KT) (kc6:Cur g6) (b_16:Sl) (l_17:Sl) (at_18:Int) (e_19:Int) (w:World):Prop :=
 G.cond (decide (at_18<((b_16.n:Nat):Int))) (C.vint_Frame b_16 at_18 w fun l20 n21 n22 w23=>G.cond (n22 != 0) (S3 K l_17 at_18 n22 w23) (G.new (.cells #[l20.v] 22) w23 fun p24 w25=>G.runSl pr (Builtin.append_ #[78,78] 78 #[l_17.v,(Sl.v (⟨some p24,1,1⟩:Sl))]) w25 fun l26 w27=>kc6 b_16 l26 n21 e_19 w27)) (S3 K l_17 at_18 e_19 w)
theorem S8_ok (kc6:Cur g6):OkT pr false none 33 g6 (S8 (Kt Kv) kc6) (lp (blk (s1 (tl 3 (scp (tl 1 bd)))))) (P7 Kv kc6):=ok_last mixed FOk_ fun v ρ w=>by kernel_rfl
def L6 (K:KT):Cur g6:=loopC g6 (S8 K)
theorem L6_ok:OkT pr false none 33 g6 (L6 (Kt Kv)) (blk (s1 (tl 3 (scp (tl 1 bd))))) (P5 Kv):=ok_loop (B:=S8 (Kt Kv)) (by kernel_rfl) fun kc=>S8_ok Kv kc
theorem L6_ind {K:KT} {b_8:Sl} {l_9:Sl} {at_10:Int} {e_11:Int} {w:World} (h:∀ X:Cur g6,(∀ b_8 l_9 at_10 e_11 w,S8 K X b_8 l_9 at_10 e_11 w→X b_8 l_9 at_10 e_11 w)→X b_8 l_9 at_10 e_11 w):L6 K b_8 l_9 at_10 e_11 w:=fun X hX=>h X fun b_8 l_9 at_10 e_11 w hb=>hX (b_8,l_9,at_10,e_11,()) w hb
theorem B9:OkT pr false none 33 g6 (L6 (Kt Kv)) (s1 (tl 3 (scp (tl 1 bd)))) (P4 Kv):=ok_block 0 (by kernel_rfl) (L6_ok Kv)
theorem Q10:OkT pr false none 33 g6 (L6 (Kt Kv)) (tl 3 (scp (tl 1 bd))) (P2 Kv):=ok_seq (by kernel_rfl) (S3_ok Kv) (B9 Kv)
abbrev g11:List SE:=[.v 0 .sl]
def S11 (K:KT) (b_28:Sl) (w:World):Prop :=
 L6 K b_28 nilS 0 0 w
theorem S11_ok:OkT pr false none 33 g11 (S11 (Kt Kv)) (scp (tl 1 bd)) (P2 Kv):=ok_group mixed FOk_ 3 (Q10 Kv) fun v ρ w=>by kernel_rfl
theorem B12:OkT pr false none 33 g11 (S11 (Kt Kv)) (tl 1 bd) (P1 Kv):=ok_scope (by kernel_rfl) (S11_ok Kv)
end vint_Frames
def vint_Frames (b_4:Sl) (w:World) (K:vint_Frames.KT):Prop :=
 vint_Frames.S11 K b_4 w
def vint_Frames.cl:CL:=fun args K w=>match args with
 | [.slice x0_a x0_n x0_c]=>C.vint_Frames ⟨x0_a,x0_n,x0_c⟩ w (vint_Frames.Kt K)
 | _=>False
theorem vint_Frames.clok:OkC pr 42 vint_Frames.cl:=by
 intro args K w h
 unfold vint_Frames.cl at h
 split at h
 ·exact calls_group false mixed vint_Frames.FOk_ vint_Frames.fn rfl 1 (vint_Frames.B12 K) (Eq.mp (by kernel_rfl) h)
 ·exact h.elim
namespace slices_Clone_byte_byte
abbrev KT:=Sl→World→Prop
def Kt:KT:=fun l1 w=>Kv l1.v w
noncomputable def bd:Code:=bdy Tryz.f43
theorem fn:FnOk pr 43 8 Tryz.f43:=⟨Tryz.func43,by kernel_rfl,Tryz.ntmps43,by kernel_rfl,by kernel_rfl⟩
def F:Clee:=ofL []
theorem FOk_:FOk pr F:=FOk_nil
def P1:Post:=bodyK false pr 8 Tryz.f43 Kv
end slices_Clone_byte_byte
def slices_Clone_byte_byte (s_2:Sl) (w:World) (K:slices_Clone_byte_byte.KT):Prop :=
 G.cond s_2.a.isNone (K nilS w) (G.new (.cells #[] 5) w fun p3 w4=>G.runSl pr (Builtin.append_ #[22,22] 22 #[(Sl.v (⟨some p3,0,0⟩:Sl)),s_2.v]) w4 fun l5 w6=>K l5 w6)
def slices_Clone_byte_byte.cl:CL:=fun args K w=>match args with
 | [.slice x0_a x0_n x0_c]=>C.slices_Clone_byte_byte ⟨x0_a,x0_n,x0_c⟩ w (slices_Clone_byte_byte.Kt K)
 | _=>False
theorem slices_Clone_byte_byte.clok:OkC pr 43 slices_Clone_byte_byte.cl:=by
 intro args K w h
 unfold slices_Clone_byte_byte.cl at h
 split at h
 ·exact calls_last false mixed slices_Clone_byte_byte.FOk_ slices_Clone_byte_byte.fn rfl (Eq.mp (by kernel_rfl) h)
 ·exact h.elim
namespace vint_Text
abbrev KT:=ByteArray→Int→Int→World→Prop
def Kt:KT:=fun s1 n2 n3 w=>Kv (.tuple #[(.string s1),(.int .i64 n2),(.int .i64 n3)]) w
noncomputable def bd:Code:=bdy Tryz.f113
theorem fn:FnOk pr 113 65 Tryz.f113:=⟨Tryz.func113,by kernel_rfl,Tryz.ntmps113,by kernel_rfl,by kernel_rfl⟩
def F:Clee:=ofL [(84,C.vint_U.cl),(139,C.utf8_ValidString.cl)]
theorem FOk_:FOk pr F:=FOk_cons C.vint_U.clok (FOk_cons C.utf8_ValidString.clok (FOk_nil))
def P1:Post:=bodyK false pr 65 Tryz.f113 Kv
end vint_Text
def vint_Text (b_4:Sl) (at_5:Int) (most_6:Int) (w:World) (K:vint_Text.KT):Prop :=
 G.cond (decide (at_5<0)) (K (⟨#[]⟩:ByteArray) 0 1 w) (G.cond (decide (at_5 > ((b_4.n:Nat):Int))) (K (⟨#[]⟩:ByteArray) 0 1 w) (G.cond (decide (most_6<0)) (K (⟨#[]⟩:ByteArray) 0 1 w) (C.vint_U b_4 at_5 w fun n16 n17 n18 w19=>G.cond (n18 != 0) (K (⟨#[]⟩:ByteArray) 0 n18 w19) (G.cond (decide (n16 > (IntKind.u64.wrap most_6))) (K (⟨#[]⟩:ByteArray) 0 4 w19) (G.cond (decide (n16 > (IntKind.u64.wrap (IntKind.i64.wrap (((b_4.n:Nat):Int)-n17))))) (K (⟨#[]⟩:ByteArray) 0 9 w19) (G.slc b_4 n17 (IntKind.i64.wrap (n17+(IntKind.i64.wrap n16))) 1 fun l20=>G.rdS pr (Conv.bytesToString l20.v) w19 fun s21=>C.utf8_ValidString s21 w19 fun b22 w23=>G.cond (!b22) (K (⟨#[]⟩:ByteArray) 0 12 w23) (K s21 (IntKind.i64.wrap (n17+(IntKind.i64.wrap n16))) 0 w23)))))))
def vint_Text.cl:CL:=fun args K w=>match args with
 | [.slice x0_a x0_n x0_c,.int .i64 x1,.int .i64 x2]=>C.vint_Text ⟨x0_a,x0_n,x0_c⟩ x1 x2 w (vint_Text.Kt K)
 | _=>False
theorem vint_Text.clok:OkC pr 113 vint_Text.cl:=by
 intro args K w h
 unfold vint_Text.cl at h
 split at h
 ·exact calls_last false mixed vint_Text.FOk_ vint_Text.fn rfl (Eq.mp (by kernel_rfl) h)
 ·exact h.elim
namespace labels_Read
abbrev KT:=Sl→Int→Int→World→Prop
def Kt:KT:=fun l1 n2 n3 w=>Kv (.tuple #[l1.v,(.int .i64 n2),(.int .i64 n3)]) w
noncomputable def bd:Code:=bdy Tryz.f83
theorem fn:FnOk pr 83 60 Tryz.f83:=⟨Tryz.func83,by kernel_rfl,Tryz.ntmps83,by kernel_rfl,by kernel_rfl⟩
def F:Clee:=ofL [(84,C.vint_U.cl),(111,C.labels_right.cl),(113,C.vint_Text.cl)]
theorem FOk_:FOk pr F:=FOk_cons C.vint_U.clok (FOk_cons C.labels_right.clok (FOk_cons C.vint_Text.clok (FOk_nil)))
def P1:Post:=bodyK false pr 60 Tryz.f83 Kv
abbrev g2:List SE:=[.v 1 (.int .i64),.v 9 .sl]
def S2 (K:KT) (at_10:Int) (l_11:Sl) (w:World):Prop :=
 C.labels_right l_11 w fun n12 w13=>G.cond (n12 != 0) (K nilS 0 n12 w13) (K l_11 at_10 0 w13)
theorem S2_ok:OkT pr false none 60 g2 (S2 (Kt Kv)) (s2 (tl 5 bd)) (P1 Kv):=ok_last mixed FOk_ fun v ρ w=>by kernel_rfl
def P3:Post:=next (get g2 (S2 (Kt Kv))) (P1 Kv)
def P4:Post:=inBlock 0 (P3 Kv)
abbrev g5:List SE:=[.v 0 .sl,.v 1 (.int .i64),.v 9 .sl,.v 23 (.int .u64),.v 24 (.int .u64)]
def P6 (kc5:Cur g5):Post:=next (get g5 kc5) (P4 Kv)
def S7 (K:KT) (kc5:Cur g5) (b_24:Sl) (at_25:Int) (l_26:Sl) (n27:Int) (n28:Int) (w:World):Prop :=
 G.cond (decide (n28<n27)) (G.new (.cells #[(.string (⟨#[]⟩:ByteArray)),(.string (⟨#[]⟩:ByteArray))] 93) w fun p29 w30=>C.vint_Text b_24 at_25 64 w30 fun s31 n32 n33 w34=>G.st p29 (.string s31) w34 fun w35=>G.cond (n33 != 0) (K nilS 0 n33 w35) (C.vint_Text b_24 n32 256 w35 fun s36 n37 n38 w39=>G.st (p29.add 1) (.string s36) w39 fun w40=>G.cond (n38 != 0) (K nilS 0 n38 w40) (G.cS p29 w40 fun s41=>G.cS (p29.add 1) w40 fun s42=>G.new (.cells #[(.string s41),(.string s42)] 93) w40 fun p43 w44=>G.runSl pr (Builtin.append_ #[49,49] 49 #[l_26.v,(Sl.v (⟨some p43,1,1⟩:Sl))]) w44 fun l45 w46=>kc5 b_24 n37 l45 n27 (IntKind.u64.wrap (n28+1)) w46))) (S2 K at_25 l_26 w)
theorem S7_ok (kc5:Cur g5):OkT pr false none 60 g5 (S7 (Kt Kv) kc5) (lp (blk (tl 1 (s1 (tl 5 bd))))) (P6 Kv kc5):=ok_last mixed FOk_ fun v ρ w=>by kernel_rfl
def L5 (K:KT):Cur g5:=loopC g5 (S7 K)
theorem L5_ok:OkT pr false none 60 g5 (L5 (Kt Kv)) (blk (tl 1 (s1 (tl 5 bd)))) (P4 Kv):=ok_loop (B:=S7 (Kt Kv)) (by kernel_rfl) fun kc=>S7_ok Kv kc
theorem L5_ind {K:KT} {b_14:Sl} {at_15:Int} {l_16:Sl} {n17:Int} {n18:Int} {w:World} (h:∀ X:Cur g5,(∀ b_14 at_15 l_16 n17 n18 w,S7 K X b_14 at_15 l_16 n17 n18 w→X b_14 at_15 l_16 n17 n18 w)→X b_14 at_15 l_16 n17 n18 w):L5 K b_14 at_15 l_16 n17 n18 w:=fun X hX=>h X fun b_14 at_15 l_16 n17 n18 w hb=>hX (b_14,at_15,l_16,n17,n18,()) w hb
theorem B8:OkT pr false none 60 g5 (L5 (Kt Kv)) (tl 1 (s1 (tl 5 bd))) (P3 Kv):=ok_block 0 (by kernel_rfl) (L5_ok Kv)
abbrev g9:List SE:=[.v 0 .sl,.v 1 (.int .i64),.v 7 (.int .u64),.v 9 .sl]
def S9 (K:KT) (b_47:Sl) (at_48:Int) (n_49:Int) (l_50:Sl) (w:World):Prop :=
 L5 K b_47 at_48 l_50 n_49 0 w
theorem S9_ok:OkT pr false none 60 g9 (S9 (Kt Kv)) (s1 (tl 5 bd)) (P3 Kv):=ok_group mixed FOk_ 1 (B8 Kv) fun v ρ w=>by kernel_rfl
theorem Q10:OkT pr false none 60 g9 (S9 (Kt Kv)) (tl 5 bd) (P1 Kv):=ok_seq (by kernel_rfl) (S2_ok Kv) (S9_ok Kv)
end labels_Read
def labels_Read (b_4:Sl) (at_5:Int) (w:World) (K:labels_Read.KT):Prop :=
 C.vint_U b_4 at_5 w fun n51 n52 n53 w54=>G.cond (n53 != 0) (K nilS 0 n53 w54) (G.cond (decide (n51 > 16)) (K nilS 0 8 w54) (labels_Read.S9 K b_4 n52 n51 nilS w54))
def labels_Read.cl:CL:=fun args K w=>match args with
 | [.slice x0_a x0_n x0_c,.int .i64 x1]=>C.labels_Read ⟨x0_a,x0_n,x0_c⟩ x1 w (labels_Read.Kt K)
 | _=>False
theorem labels_Read.clok:OkC pr 83 labels_Read.cl:=by
 intro args K w h
 unfold labels_Read.cl at h
 split at h
 ·exact calls_group false mixed labels_Read.FOk_ labels_Read.fn rfl 5 (labels_Read.Q10 K) (Eq.mp (by kernel_rfl) h)
 ·exact h.elim
namespace bits_NewReader
abbrev KT:=Option Addr→World→Prop
def Kt:KT:=fun p1 w=>Kv (.pointer p1) w
noncomputable def bd:Code:=bdy Tryz.f140
theorem fn:FnOk pr 140 23 Tryz.f140:=⟨Tryz.func140,by kernel_rfl,Tryz.ntmps140,by kernel_rfl,by kernel_rfl⟩
def F:Clee:=ofL []
theorem FOk_:FOk pr F:=FOk_nil
def P1:Post:=bodyK false pr 23 Tryz.f140 Kv
end bits_NewReader
def bits_NewReader (b_2:Sl) (bits_3:Int) (w:World) (K:bits_NewReader.KT):Prop :=
 G.cond (decide (bits_3<0)) (K none w) (G.cond (decide (bits_3 > 8388608)) (K none w) (G.cond (decide (bits_3 > (IntKind.i64.wrap (8*((b_2.n:Nat):Int))))) (K none w) (G.runSl pr (Builtin.append_ #[22,22] 22 #[nilS.v,b_2.v]) w fun l4 w5=>G.new (.cells #[l4.v,(.int .i64 bits_3),(.int .i64 0)] 224) w5 fun p6 w7=>K (some p6) w7)))
def bits_NewReader.cl:CL:=fun args K w=>match args with
 | [.slice x0_a x0_n x0_c,.int .i64 x1]=>C.bits_NewReader ⟨x0_a,x0_n,x0_c⟩ x1 w (bits_NewReader.Kt K)
 | _=>False
theorem bits_NewReader.clok:OkC pr 140 bits_NewReader.cl:=by
 intro args K w h
 unfold bits_NewReader.cl at h
 split at h
 ·exact calls_last false mixed bits_NewReader.FOk_ bits_NewReader.fn rfl (Eq.mp (by kernel_rfl) h)
 ·exact h.elim
abbrev math_Float64frombits.KT:=Nat→World→Prop
def math_Float64frombits.Kt:math_Float64frombits.KT:=fun r0 w=>Kv (.float .f64 r0) w
def math_Float64frombits (x0:Int) (w:World) (K:math_Float64frombits.KT):Prop:=K x0.toNat w
def math_Float64frombits.cl:CL:=fun args K w=>match args with
 | [.int .u64 x0]=>C.math_Float64frombits x0 w (math_Float64frombits.Kt K)
 | _=>False
theorem math_Float64frombits.clok:OkX pr 149 math_Float64frombits.cl:=by
 intro args K w h
 unfold math_Float64frombits.cl at h
 split at h
 ·exact ⟨_,w,by kernel_rfl,h⟩
 ·exact h.elim
namespace bits_Reader_at
abbrev KT:=Int→World→Prop
def Kt:KT:=fun n1 w=>Kv (.int .u64 n1) w
noncomputable def bd:Code:=bdy Tryz.f217
theorem fn:FnOk pr 217 20 Tryz.f217:=⟨Tryz.func217,by kernel_rfl,Tryz.ntmps217,by kernel_rfl,by kernel_rfl⟩
def F:Clee:=ofL []
theorem FOk_:FOk pr F:=FOk_nil
def P1:Post:=bodyK false pr 20 Tryz.f217 Kv
end bits_Reader_at
def bits_Reader_at (r_2:Option Addr) (i_3:Int) (w:World) (K:bits_Reader_at.KT):Prop :=
 G.ptr r_2 fun p4=>G.cSl p4 w fun l5=>G.nz 8<|G.ix l5.a l5.n (IntKind.i64.wrap (Int.tdiv i_3 8)) 1 fun p6=>G.cI .u8 p6 w fun n7=>G.nz 8<|G.nn (IntKind.u64.wrap (IntKind.i64.wrap (7-(Int.tmod i_3 8))))<|K (Go.bits .and .u64 (IntKind.u64.wrap (shr .u8 n7 (IntKind.u64.wrap (IntKind.i64.wrap (7-(Int.tmod i_3 8)))))) 1) w
def bits_Reader_at.cl:CL:=fun args K w=>match args with
 | [.pointer x0,.int .i64 x1]=>C.bits_Reader_at x0 x1 w (bits_Reader_at.Kt K)
 | _=>False
theorem bits_Reader_at.clok:OkC pr 217 bits_Reader_at.cl:=by
 intro args K w h
 unfold bits_Reader_at.cl at h
 split at h
 ·exact calls_last false mixed bits_Reader_at.FOk_ bits_Reader_at.fn rfl (Eq.mp (by kernel_rfl) h)
 ·exact h.elim
namespace bits_Reader_look
abbrev KT:=Int→World→Prop
def Kt:KT:=fun n1 w=>Kv (.int .u64 n1) w
noncomputable def bd:Code:=bdy Tryz.f212
theorem fn:FnOk pr 212 23 Tryz.f212:=⟨Tryz.func212,by kernel_rfl,Tryz.ntmps212,by kernel_rfl,by kernel_rfl⟩
def F:Clee:=ofL [(217,C.bits_Reader_at.cl)]
theorem FOk_:FOk pr F:=FOk_cons C.bits_Reader_at.clok (FOk_nil)
def P1:Post:=bodyK false pr 23 Tryz.f212 Kv
abbrev g2:List SE:=[.v 7 (.int .u64)]
def S2 (K:KT) (v_5:Int) (w:World):Prop :=
 K v_5 w
theorem S2_ok:OkT pr false none 23 g2 (S2 (Kt Kv)) (s2 (tl 2 bd)) (P1 Kv):=ok_last mixed FOk_ fun v ρ w=>by kernel_rfl
def P3:Post:=next (get g2 (S2 (Kt Kv))) (P1 Kv)
def P4:Post:=inBlock 0 (P3 Kv)
abbrev g5:List SE:=[.v 0 .ptr,.v 1 (.int .i64),.v 7 (.int .u64),.v 9 (.int .i64),.v 10 (.int .i64)]
def P6 (kc5:Cur g5):Post:=next (get g5 kc5) (P4 Kv)
def S7 (K:KT) (kc5:Cur g5) (r_16:Option Addr) (from_17:Int) (v_18:Int) (n19:Int) (n20:Int) (w:World):Prop :=
 G.cond (decide (n20<n19)) (G.nn 1<|C.bits_Reader_at r_16 (IntKind.i64.wrap (from_17+n20)) w fun n21 w22=>kc5 r_16 from_17 (Go.bits .or .u64 (shl .u64 v_18 1) n21) n19 (IntKind.i64.wrap (n20+1)) w22) (S2 K v_18 w)
theorem S7_ok (kc5:Cur g5):OkT pr false none 23 g5 (S7 (Kt Kv) kc5) (lp (blk (tl 1 (s1 (tl 2 bd))))) (P6 Kv kc5):=ok_last mixed FOk_ fun v ρ w=>by kernel_rfl
def L5 (K:KT):Cur g5:=loopC g5 (S7 K)
theorem L5_ok:OkT pr false none 23 g5 (L5 (Kt Kv)) (blk (tl 1 (s1 (tl 2 bd)))) (P4 Kv):=ok_loop (B:=S7 (Kt Kv)) (by kernel_rfl) fun kc=>S7_ok Kv kc
theorem L5_ind {K:KT} {r_6:Option Addr} {from_7:Int} {v_8:Int} {n9:Int} {n10:Int} {w:World} (h:∀ X:Cur g5,(∀ r_6 from_7 v_8 n9 n10 w,S7 K X r_6 from_7 v_8 n9 n10 w→X r_6 from_7 v_8 n9 n10 w)→X r_6 from_7 v_8 n9 n10 w):L5 K r_6 from_7 v_8 n9 n10 w:=fun X hX=>h X fun r_6 from_7 v_8 n9 n10 w hb=>hX (r_6,from_7,v_8,n9,n10,()) w hb
theorem B8:OkT pr false none 23 g5 (L5 (Kt Kv)) (tl 1 (s1 (tl 2 bd))) (P3 Kv):=ok_block 0 (by kernel_rfl) (L5_ok Kv)
abbrev g9:List SE:=[.v 0 .ptr,.v 1 (.int .i64),.v 2 (.int .i64),.v 7 (.int .u64)]
def S9 (K:KT) (r_23:Option Addr) (from_24:Int) (n_25:Int) (v_26:Int) (w:World):Prop :=
 L5 K r_23 from_24 v_26 n_25 0 w
theorem S9_ok:OkT pr false none 23 g9 (S9 (Kt Kv)) (s1 (tl 2 bd)) (P3 Kv):=ok_group mixed FOk_ 1 (B8 Kv) fun v ρ w=>by kernel_rfl
theorem Q10:OkT pr false none 23 g9 (S9 (Kt Kv)) (tl 2 bd) (P1 Kv):=ok_seq (by kernel_rfl) (S2_ok Kv) (S9_ok Kv)
end bits_Reader_look
def bits_Reader_look (r_2:Option Addr) (from_3:Int) (n_4:Int) (w:World) (K:bits_Reader_look.KT):Prop :=
 bits_Reader_look.S9 K r_2 from_3 n_4 0 w
def bits_Reader_look.cl:CL:=fun args K w=>match args with
 | [.pointer x0,.int .i64 x1,.int .i64 x2]=>C.bits_Reader_look x0 x1 x2 w (bits_Reader_look.Kt K)
 | _=>False
theorem bits_Reader_look.clok:OkC pr 212 bits_Reader_look.cl:=by
 intro args K w h
 unfold bits_Reader_look.cl at h
 split at h
 ·exact calls_group false mixed bits_Reader_look.FOk_ bits_Reader_look.fn rfl 2 (bits_Reader_look.Q10 K) (Eq.mp (by kernel_rfl) h)
 ·exact h.elim
namespace bits_Reader_Bits
abbrev KT:=Int→Int→World→Prop
def Kt:KT:=fun n1 n2 w=>Kv (.tuple #[(.int .u64 n1),(.int .i64 n2)]) w
noncomputable def bd:Code:=bdy Tryz.f199
theorem fn:FnOk pr 199 45 Tryz.f199:=⟨Tryz.func199,by kernel_rfl,Tryz.ntmps199,by kernel_rfl,by kernel_rfl⟩
def F:Clee:=ofL [(212,C.bits_Reader_look.cl)]
theorem FOk_:FOk pr F:=FOk_cons C.bits_Reader_look.clok (FOk_nil)
def P1:Post:=bodyK false pr 45 Tryz.f199 Kv
end bits_Reader_Bits
def bits_Reader_Bits (r_3:Option Addr) (n_4:Int) (w:World) (K:bits_Reader_Bits.KT):Prop :=
 G.cond r_3.isNone (K 0 2 w) (G.cond (decide (n_4<0)) (K 0 1 w) (G.cond (decide (n_4 > 64)) (K 0 1 w) (G.ptr r_3 fun p7=>G.cI .i64 (p7.add 1) w.drew fun n8=>G.ptr r_3 fun p9=>G.cI .i64 (p9.add 2) w.drew fun n10=>G.cond (decide (n_4 > (IntKind.i64.wrap (n8-n10)))) (K 0 9 w.drew) (G.ptr r_3 fun p11=>G.cI .i64 (p11.add 2) w.drew fun n12=>C.bits_Reader_look r_3 n12 n_4 w.drew fun n13 w14=>G.ptr r_3 fun p15=>G.cI .i64 (p15.add 2) w14 fun n16=>G.ptr r_3 fun p17=>G.st (p17.add 2) (.int .i64 (IntKind.i64.wrap (n16+n_4))) w14 fun w18=>K n13 0 w18))))
def bits_Reader_Bits.cl:CL:=fun args K w=>match args with
 | [.pointer x0,.int .i64 x1]=>C.bits_Reader_Bits x0 x1 w (bits_Reader_Bits.Kt K)
 | _=>False
theorem bits_Reader_Bits.clok:OkC pr 199 bits_Reader_Bits.cl:=by
 intro args K w h
 unfold bits_Reader_Bits.cl at h
 split at h
 ·exact calls_last false mixed bits_Reader_Bits.FOk_ bits_Reader_Bits.fn rfl (Eq.mp (by kernel_rfl) h)
 ·exact h.elim
namespace chunk_reader_bits
abbrev KT:=Int→World→Prop
def Kt:KT:=fun n1 w=>Kv (.int .u64 n1) w
noncomputable def bd:Code:=bdy Tryz.f175
theorem fn:FnOk pr 175 28 Tryz.f175:=⟨Tryz.func175,by kernel_rfl,Tryz.ntmps175,by kernel_rfl,by kernel_rfl⟩
def F:Clee:=ofL [(199,C.bits_Reader_Bits.cl)]
theorem FOk_:FOk pr F:=FOk_cons C.bits_Reader_Bits.clok (FOk_nil)
def P1:Post:=bodyK false pr 28 Tryz.f175 Kv
end chunk_reader_bits
def chunk_reader_bits (d_2:Option Addr) (n_3:Int) (w:World) (K:chunk_reader_bits.KT):Prop :=
 G.ptr d_2 fun p4=>G.cP p4 w fun p5=>C.bits_Reader_Bits p5 n_3 w fun n6 n7 w8=>G.ptr d_2 fun p9=>G.cB (p9.add 4) w8 fun b10=>G.cond b10 (G.ptr d_2 fun p11=>G.st (p11.add 4) (.bool true) w8 fun w12=>K n6 w12) (G.ptr d_2 fun p13=>G.st (p13.add 4) (.bool (n7 != 0)) w8 fun w14=>K n6 w14)
def chunk_reader_bits.cl:CL:=fun args K w=>match args with
 | [.pointer x0,.int .i64 x1]=>C.chunk_reader_bits x0 x1 w (chunk_reader_bits.Kt K)
 | _=>False
theorem chunk_reader_bits.clok:OkC pr 175 chunk_reader_bits.cl:=by
 intro args K w h
 unfold chunk_reader_bits.cl at h
 split at h
 ·exact calls_last false mixed chunk_reader_bits.FOk_ chunk_reader_bits.fn rfl (Eq.mp (by kernel_rfl) h)
 ·exact h.elim
namespace chunk_reader_uvarint
abbrev KT:=Int→World→Prop
def Kt:KT:=fun n1 w=>Kv (.int .u64 n1) w
noncomputable def bd:Code:=bdy Tryz.f174
theorem fn:FnOk pr 174 23 Tryz.f174:=⟨Tryz.func174,by kernel_rfl,Tryz.ntmps174,by kernel_rfl,by kernel_rfl⟩
def F:Clee:=ofL [(175,C.chunk_reader_bits.cl)]
theorem FOk_:FOk pr F:=FOk_cons C.chunk_reader_bits.clok (FOk_nil)
def P1:Post:=bodyK false pr 23 Tryz.f174 Kv
abbrev g2:List SE:=[.v 3 (.int .u64)]
def S2 (K:KT) (v_3:Int) (w:World):Prop :=
 K v_3 w
theorem S2_ok:OkT pr false none 23 g2 (S2 (Kt Kv)) (s2 (tl 2 bd)) (P1 Kv):=ok_last mixed FOk_ fun v ρ w=>by kernel_rfl
def P3:Post:=next (get g2 (S2 (Kt Kv))) (P1 Kv)
def P4:Post:=inBlock 0 (P3 Kv)
abbrev g5:List SE:=[.v 0 .ptr,.v 3 (.int .u64),.v 6 (.int .i64)]
def P6 (kc5:Cur g5):Post:=next (get g5 kc5) (P4 Kv)
def S7 (K:KT) (kc5:Cur g5) (d_10:Option Addr) (v_11:Int) (n12:Int) (w:World):Prop :=
 G.cond (decide (n12<10)) (C.chunk_reader_bits d_10 8 w fun n13 w14=>G.nn (IntKind.u64.wrap (IntKind.i64.wrap (7*n12)))<|G.cond (decide (n13<128)) (S2 K (Go.bits .or .u64 v_11 (shl .u64 (Go.bits .and .u64 n13 127) (IntKind.u64.wrap (IntKind.i64.wrap (7*n12))))) w14) (kc5 d_10 (Go.bits .or .u64 v_11 (shl .u64 (Go.bits .and .u64 n13 127) (IntKind.u64.wrap (IntKind.i64.wrap (7*n12))))) (IntKind.i64.wrap (n12+1)) w14)) (S2 K v_11 w)
theorem S7_ok (kc5:Cur g5):OkT pr false none 23 g5 (S7 (Kt Kv) kc5) (lp (blk (tl 1 (s1 (tl 2 bd))))) (P6 Kv kc5):=ok_last mixed FOk_ fun v ρ w=>by kernel_rfl
def L5 (K:KT):Cur g5:=loopC g5 (S7 K)
theorem L5_ok:OkT pr false none 23 g5 (L5 (Kt Kv)) (blk (tl 1 (s1 (tl 2 bd)))) (P4 Kv):=ok_loop (B:=S7 (Kt Kv)) (by kernel_rfl) fun kc=>S7_ok Kv kc
theorem L5_ind {K:KT} {d_4:Option Addr} {v_5:Int} {n6:Int} {w:World} (h:∀ X:Cur g5,(∀ d_4 v_5 n6 w,S7 K X d_4 v_5 n6 w→X d_4 v_5 n6 w)→X d_4 v_5 n6 w):L5 K d_4 v_5 n6 w:=fun X hX=>h X fun d_4 v_5 n6 w hb=>hX (d_4,v_5,n6,()) w hb
theorem B8:OkT pr false none 23 g5 (L5 (Kt Kv)) (tl 1 (s1 (tl 2 bd))) (P3 Kv):=ok_block 0 (by kernel_rfl) (L5_ok Kv)
abbrev g9:List SE:=[.v 0 .ptr,.v 3 (.int .u64)]
def S9 (K:KT) (d_15:Option Addr) (v_16:Int) (w:World):Prop :=
 L5 K d_15 v_16 0 w
theorem S9_ok:OkT pr false none 23 g9 (S9 (Kt Kv)) (s1 (tl 2 bd)) (P3 Kv):=ok_group mixed FOk_ 1 (B8 Kv) fun v ρ w=>by kernel_rfl
theorem Q10:OkT pr false none 23 g9 (S9 (Kt Kv)) (tl 2 bd) (P1 Kv):=ok_seq (by kernel_rfl) (S2_ok Kv) (S9_ok Kv)
end chunk_reader_uvarint
def chunk_reader_uvarint (d_2:Option Addr) (w:World) (K:chunk_reader_uvarint.KT):Prop :=
 chunk_reader_uvarint.S9 K d_2 0 w
def chunk_reader_uvarint.cl:CL:=fun args K w=>match args with
 | [.pointer x0]=>C.chunk_reader_uvarint x0 w (chunk_reader_uvarint.Kt K)
 | _=>False
theorem chunk_reader_uvarint.clok:OkC pr 174 chunk_reader_uvarint.cl:=by
 intro args K w h
 unfold chunk_reader_uvarint.cl at h
 split at h
 ·exact calls_group false mixed chunk_reader_uvarint.FOk_ chunk_reader_uvarint.fn rfl 2 (chunk_reader_uvarint.Q10 K) (Eq.mp (by kernel_rfl) h)
 ·exact h.elim
namespace chunk_reader_value
abbrev KT:=Int→World→Prop
def Kt:KT:=fun n1 w=>Kv (.int .u64 n1) w
noncomputable def bd:Code:=bdy Tryz.f176
theorem fn:FnOk pr 176 68 Tryz.f176:=⟨Tryz.func176,by kernel_rfl,Tryz.ntmps176,by kernel_rfl,by kernel_rfl⟩
def F:Clee:=ofL [(175,C.chunk_reader_bits.cl)]
theorem FOk_:FOk pr F:=FOk_cons C.chunk_reader_bits.clok (FOk_nil)
def P1:Post:=bodyK false pr 68 Tryz.f176 Kv
abbrev g2:List SE:=[.v 0 .ptr]
def S2 (K:KT) (d_6:Option Addr) (w:World):Prop :=
 G.ptr d_6 fun p7=>G.cB (p7.add 3) w fun b8=>G.cond (!b8) (G.ptr d_6 fun p9=>G.st (p9.add 4) (.bool true) w fun w10=>K 0 w10) (G.ptr d_6 fun p11=>G.cI .i64 ((p11.add 1).add 1) w fun n12=>G.cond (decide (n12<0)) (G.ptr d_6 fun p13=>G.st (p13.add 4) (.bool true) w fun w14=>K 0 w14) (G.ptr d_6 fun p15=>G.cI .i64 (p15.add 1) w.drew fun n16=>G.ptr d_6 fun p17=>G.cI .i64 ((p17.add 1).add 1) w.drew fun n18=>G.ptr d_6 fun p19=>G.cI .i64 ((p19.add 1).add 1) w.drew fun n20=>C.chunk_reader_bits d_6 (IntKind.i64.wrap ((IntKind.i64.wrap (64-n16))-n18)) w.drew fun n21 w22=>sameAt ((p19.add 1).add 1) 1 w.drew w22∧(G.nn (IntKind.u64.wrap n20)<|K (shl .u64 n21 (IntKind.u64.wrap n20)) w22)))
theorem S2_ok:OkT pr false none 68 g2 (S2 (Kt Kv)) (tl 3 bd) (P1 Kv):=ok_last mixed FOk_ fun v ρ w=>by kernel_rfl
end chunk_reader_value
def chunk_reader_value (d_2:Option Addr) (w:World) (K:chunk_reader_value.KT):Prop :=
 C.chunk_reader_bits d_2 1 w fun n23 w24=>G.cond (n23==0) (K 0 w24) (C.chunk_reader_bits d_2 1 w24 fun n25 w26=>G.cond (n25==1) (C.chunk_reader_bits d_2 5 w26 fun n27 w28=>C.chunk_reader_bits d_2 6 w28 fun n29 w30=>G.cond ((IntKind.i64.wrap n29)==0) (G.ptr d_2 fun p31=>G.st (p31.add 1) (.int .i64 (IntKind.i64.wrap n27)) w30 fun w32=>G.st ((p31.add 1).add 1) (.int .i64 (IntKind.i64.wrap ((IntKind.i64.wrap (64-(IntKind.i64.wrap n27)))-64))) w32 fun w33=>G.ptr d_2 fun p34=>G.st (p34.add 3) (.bool true) w33 fun w35=>chunk_reader_value.S2 K d_2 w35) (G.ptr d_2 fun p36=>G.st (p36.add 1) (.int .i64 (IntKind.i64.wrap n27)) w30 fun w37=>G.st ((p36.add 1).add 1) (.int .i64 (IntKind.i64.wrap ((IntKind.i64.wrap (64-(IntKind.i64.wrap n27)))-(IntKind.i64.wrap n29)))) w37 fun w38=>G.ptr d_2 fun p39=>G.st (p39.add 3) (.bool true) w38 fun w40=>chunk_reader_value.S2 K d_2 w40)) (chunk_reader_value.S2 K d_2 w26))
def chunk_reader_value.cl:CL:=fun args K w=>match args with
 | [.pointer x0]=>C.chunk_reader_value x0 w (chunk_reader_value.Kt K)
 | _=>False
theorem chunk_reader_value.clok:OkC pr 176 chunk_reader_value.cl:=by
 intro args K w h
 unfold chunk_reader_value.cl at h
 split at h
 ·exact calls_group false mixed chunk_reader_value.FOk_ chunk_reader_value.fn rfl 3 (chunk_reader_value.S2_ok K) (Eq.mp (by kernel_rfl) h)
 ·exact h.elim
namespace chunk_reader_time
abbrev KT:=Int→World→Prop
def Kt:KT:=fun n1 w=>Kv (.int .i64 n1) w
noncomputable def bd:Code:=bdy Tryz.f177
theorem fn:FnOk pr 177 46 Tryz.f177:=⟨Tryz.func177,by kernel_rfl,Tryz.ntmps177,by kernel_rfl,by kernel_rfl⟩
def F:Clee:=ofL [(175,C.chunk_reader_bits.cl)]
theorem FOk_:FOk pr F:=FOk_cons C.chunk_reader_bits.clok (FOk_nil)
def P1:Post:=bodyK false pr 46 Tryz.f177 Kv
abbrev g2:List SE:=[.v 0 .ptr,.v 4 (.int .i64)]
def S2 (K:KT) (d_5:Option Addr) (width_6:Int) (w:World):Prop :=
 C.chunk_reader_bits d_5 width_6 w fun n7 w8=>G.nn (IntKind.u64.wrap (IntKind.i64.wrap (width_6-1)))<|G.cond (decide (n7 > (shl .u64 1 (IntKind.u64.wrap (IntKind.i64.wrap (width_6-1)))))) (G.nn (IntKind.u64.wrap width_6)<|K (IntKind.i64.wrap ((IntKind.i64.wrap n7)-(shl .i64 1 (IntKind.u64.wrap width_6)))) w8) (K (IntKind.i64.wrap n7) w8)
theorem S2_ok:OkT pr false none 46 g2 (S2 (Kt Kv)) (tl 2 (s2 (tl 2 bd))) (P1 Kv):=ok_last mixed FOk_ fun v ρ w=>by kernel_rfl
abbrev g3:List SE:=[.v 0 .ptr,.v 3 (.int .i64)]
def S3 (K:KT) (d_9:Option Addr) (ones_10:Int) (w:World):Prop :=
 G.cond (ones_10==0) (K 0 w) (G.cond (ones_10==1) (S2 K d_9 14 w) (G.cond (ones_10==2) (S2 K d_9 17 w) (G.cond (ones_10==3) (S2 K d_9 20 w) (G.cond (ones_10==4) (C.chunk_reader_bits d_9 64 w fun n11 w12=>K (IntKind.i64.wrap n11) w12) (S2 K d_9 0 w)))))
theorem S3_ok:OkT pr false none 46 g3 (S3 (Kt Kv)) (s2 (tl 2 bd)) (P1 Kv):=ok_group mixed FOk_ 2 (S2_ok Kv) fun v ρ w=>by kernel_rfl
def P4:Post:=next (get g3 (S3 (Kt Kv))) (P1 Kv)
def P5:Post:=inBlock 0 (P4 Kv)
def P7 (kc6:Cur g3):Post:=next (get g3 kc6) (P5 Kv)
def S8 (K:KT) (kc6:Cur g3) (d_15:Option Addr) (ones_16:Int) (w:World):Prop :=
 G.cond (decide (ones_16<4)) (C.chunk_reader_bits d_15 1 w fun n17 w18=>G.cond (n17==1) (kc6 d_15 (IntKind.i64.wrap (ones_16+1)) w18) (S3 K d_15 ones_16 w18)) (S3 K d_15 ones_16 w)
theorem S8_ok (kc6:Cur g3):OkT pr false none 46 g3 (S8 (Kt Kv) kc6) (lp (blk (s1 (tl 2 bd)))) (P7 Kv kc6):=ok_last mixed FOk_ fun v ρ w=>by kernel_rfl
def L6 (K:KT):Cur g3:=loopC g3 (S8 K)
theorem L6_ok:OkT pr false none 46 g3 (L6 (Kt Kv)) (blk (s1 (tl 2 bd))) (P5 Kv):=ok_loop (B:=S8 (Kt Kv)) (by kernel_rfl) fun kc=>S8_ok Kv kc
theorem L6_ind {K:KT} {d_13:Option Addr} {ones_14:Int} {w:World} (h:∀ X:Cur g3,(∀ d_13 ones_14 w,S8 K X d_13 ones_14 w→X d_13 ones_14 w)→X d_13 ones_14 w):L6 K d_13 ones_14 w:=fun X hX=>h X fun d_13 ones_14 w hb=>hX (d_13,ones_14,()) w hb
theorem B9:OkT pr false none 46 g3 (L6 (Kt Kv)) (s1 (tl 2 bd)) (P4 Kv):=ok_block 0 (by kernel_rfl) (L6_ok Kv)
theorem Q10:OkT pr false none 46 g3 (L6 (Kt Kv)) (tl 2 bd) (P1 Kv):=ok_seq (by kernel_rfl) (S3_ok Kv) (B9 Kv)
end chunk_reader_time
def chunk_reader_time (d_2:Option Addr) (w:World) (K:chunk_reader_time.KT):Prop :=
 chunk_reader_time.L6 K d_2 0 w
def chunk_reader_time.cl:CL:=fun args K w=>match args with
 | [.pointer x0]=>C.chunk_reader_time x0 w (chunk_reader_time.Kt K)
 | _=>False
theorem chunk_reader_time.clok:OkC pr 177 chunk_reader_time.cl:=by
 intro args K w h
 unfold chunk_reader_time.cl at h
 split at h
 ·exact calls_group false mixed chunk_reader_time.FOk_ chunk_reader_time.fn rfl 2 (chunk_reader_time.Q10 K) (Eq.mp (by kernel_rfl) h)
 ·exact h.elim
namespace chunk_reader_samples
abbrev KT:=Sl→World→Prop
def Kt:KT:=fun l1 w=>Kv l1.v w
noncomputable def bd:Code:=bdy Tryz.f141
theorem fn:FnOk pr 141 97 Tryz.f141:=⟨Tryz.func141,by kernel_rfl,Tryz.ntmps141,by kernel_rfl,by kernel_rfl⟩
def F:Clee:=ofL [(100,C.math_Float64bits.cl),(149,C.math_Float64frombits.cl),(174,C.chunk_reader_uvarint.cl),(175,C.chunk_reader_bits.cl),(176,C.chunk_reader_value.cl),(177,C.chunk_reader_time.cl)]
theorem FOk_:FOk pr F:=FOk_consX C.math_Float64bits.clok (FOk_consX C.math_Float64frombits.clok (FOk_cons C.chunk_reader_uvarint.clok (FOk_cons C.chunk_reader_bits.clok (FOk_cons C.chunk_reader_value.clok (FOk_cons C.chunk_reader_time.clok (FOk_nil))))))
def P1:Post:=bodyK false pr 97 Tryz.f141 Kv
abbrev g2:List SE:=[.v 5 .sl]
def S2 (K:KT) (l_4:Sl) (w:World):Prop :=
 K l_4 w
theorem S2_ok:OkT pr false none 97 g2 (S2 (Kt Kv)) (s2 (tl 2 bd)) (P1 Kv):=ok_last mixed FOk_ fun v ρ w=>by kernel_rfl
def P3:Post:=next (get g2 (S2 (Kt Kv))) (P1 Kv)
def P4:Post:=inBlock 0 (P3 Kv)
abbrev g5:List SE:=[.v 0 .ptr,.v 1 (.int .i64),.v 5 .sl,.v 6 (.int .i64)]
def P6 (kc5:Cur g5):Post:=next (get g5 kc5) (P4 Kv)
def S7 (K:KT) (kc5:Cur g5) (d_13:Option Addr) (n_14:Int) (l_15:Sl) (i_16:Int) (w:World):Prop :=
 G.cond (decide (i_16<n_14)) (G.ptr d_13 fun p17=>G.cB (p17.add 4) w fun b18=>G.cond (!b18) (G.new (.cells #[(.int .i64 0),(.float .f64 0)] 96) w fun p19 w20=>G.cond (i_16==0) (C.chunk_reader_uvarint d_13 w20 fun n21 w22=>G.nn 1<|G.st p19 (.int .i64 (Go.bits .xor .i64 (IntKind.i64.wrap (shr .u64 n21 1)) (IntKind.i64.wrap (0-(IntKind.i64.wrap (Go.bits .and .u64 n21 1)))))) w22 fun w23=>C.chunk_reader_bits d_13 64 w23 fun n24 w25=>C.math_Float64frombits n24 w25 fun f26 w27=>G.st (p19.add 1) (.float .f64 f26) w27 fun w28=>G.cI .i64 p19 w28 fun n29=>G.cF .f64 (p19.add 1) w28 fun f30=>G.new (.cells #[(.int .i64 n29),(.float .f64 f30)] 96) w28 fun p31 w32=>G.runSl pr (Builtin.append_ #[52,52] 52 #[l_15.v,(Sl.v (⟨some p31,1,1⟩:Sl))]) w32 fun l33 w34=>kc5 d_13 n_14 l33 (IntKind.i64.wrap (i_16+1)) w34) (G.cond (i_16==1) (G.ix l_15.a l_15.n 0 2 fun p35=>G.cI .i64 p35 w20.drew fun n36=>C.chunk_reader_uvarint d_13 w20.drew fun n37 w38=>sameAt p35 1 w20.drew w38∧(G.st p19 (.int .i64 (IntKind.i64.wrap (n36+(IntKind.i64.wrap n37)))) w38 fun w39=>G.ix l_15.a l_15.n 0 2 fun p40=>G.cF .f64 (p40.add 1) w39 fun f41=>C.math_Float64bits f41 w39 fun n42 w43=>C.chunk_reader_value d_13 w43 fun n44 w45=>C.math_Float64frombits (Go.bits .xor .u64 n42 n44) w45 fun f46 w47=>G.st (p19.add 1) (.float .f64 f46) w47 fun w48=>G.cI .i64 p19 w48 fun n49=>G.cF .f64 (p19.add 1) w48 fun f50=>G.new (.cells #[(.int .i64 n49),(.float .f64 f50)] 96) w48 fun p51 w52=>G.runSl pr (Builtin.append_ #[52,52] 52 #[l_15.v,(Sl.v (⟨some p51,1,1⟩:Sl))]) w52 fun l53 w54=>kc5 d_13 n_14 l53 (IntKind.i64.wrap (i_16+1)) w54)) (G.ix l_15.a l_15.n (IntKind.i64.wrap (i_16-2)) 2 fun p55=>G.cI .i64 p55 w20.drew fun n56=>G.cF .f64 (p55.add 1) w20.drew fun f57=>G.ix l_15.a l_15.n (IntKind.i64.wrap (i_16-1)) 2 fun p58=>G.cI .i64 p58 w20.drew fun n59=>G.cF .f64 (p58.add 1) w20.drew fun f60=>(G.new (.cells #[(.int .i64 0),(.float .f64 0)] 96) w20.drew fun p61 w62=>sameAt p55 2 w20.drew w62∧sameAt p58 2 w20.drew w62∧(G.new (.cells #[(.int .i64 0),(.float .f64 0)] 96) w62 fun p63 w64=>sameAt p55 2 w20.drew w64∧sameAt p58 2 w20.drew w64∧(G.st p61 (.int .i64 n56) w64 fun w65=>G.st (p61.add 1) (.float .f64 f57) w65 fun w66=>sameAt p58 2 w20.drew w66∧(G.st p63 (.int .i64 n59) w66 fun w67=>G.st (p63.add 1) (.float .f64 f60) w67 fun w68=>G.cI .i64 p63 w68.drew fun n69=>G.cI .i64 p63 w68.drew fun n70=>G.cI .i64 p61 w68.drew fun n71=>C.chunk_reader_time d_13 w68.drew fun n72 w73=>sameAt p63 1 w68.drew w73∧sameAt p63 1 w68.drew w73∧sameAt p61 1 w68.drew w73∧(G.st p19 (.int .i64 (IntKind.i64.wrap ((IntKind.i64.wrap (n69+(IntKind.i64.wrap (n70-n71))))+n72))) w73 fun w74=>G.cF .f64 (p63.add 1) w74 fun f75=>C.math_Float64bits f75 w74 fun n76 w77=>C.chunk_reader_value d_13 w77 fun n78 w79=>C.math_Float64frombits (Go.bits .xor .u64 n76 n78) w79 fun f80 w81=>G.st (p19.add 1) (.float .f64 f80) w81 fun w82=>G.cI .i64 p19 w82 fun n83=>G.cF .f64 (p19.add 1) w82 fun f84=>G.new (.cells #[(.int .i64 n83),(.float .f64 f84)] 96) w82 fun p85 w86=>G.runSl pr (Builtin.append_ #[52,52] 52 #[l_15.v,(Sl.v (⟨some p85,1,1⟩:Sl))]) w86 fun l87 w88=>kc5 d_13 n_14 l87 (IntKind.i64.wrap (i_16+1)) w88)))))∧(G.new (.cells #[(.int .i64 0),(.float .f64 0)] 96) w20.drew fun p89 w90=>sameAt p55 2 w20.drew w90∧sameAt p58 2 w20.drew w90∧(G.new (.cells #[(.int .i64 0),(.float .f64 0)] 96) w90 fun p91 w92=>sameAt p55 2 w20.drew w92∧sameAt p58 2 w20.drew w92∧(G.st p91 (.int .i64 n56) w92 fun w93=>G.st (p91.add 1) (.float .f64 f57) w93 fun w94=>sameAt p58 2 w20.drew w94∧(G.st p89 (.int .i64 n59) w94 fun w95=>G.st (p89.add 1) (.float .f64 f60) w95 fun w96=>G.cI .i64 p89 w96.drew fun n97=>G.cI .i64 p89 w96.drew fun n98=>G.cI .i64 p91 w96.drew fun n99=>C.chunk_reader_time d_13 w96.drew fun n100 w101=>sameAt p89 1 w96.drew w101∧sameAt p89 1 w96.drew w101∧sameAt p91 1 w96.drew w101∧(G.st p19 (.int .i64 (IntKind.i64.wrap ((IntKind.i64.wrap (n97+(IntKind.i64.wrap (n98-n99))))+n100))) w101 fun w102=>G.cF .f64 (p89.add 1) w102 fun f103=>C.math_Float64bits f103 w102 fun n104 w105=>C.chunk_reader_value d_13 w105 fun n106 w107=>C.math_Float64frombits (Go.bits .xor .u64 n104 n106) w107 fun f108 w109=>G.st (p19.add 1) (.float .f64 f108) w109 fun w110=>G.cI .i64 p19 w110 fun n111=>G.cF .f64 (p19.add 1) w110 fun f112=>G.new (.cells #[(.int .i64 n111),(.float .f64 f112)] 96) w110 fun p113 w114=>G.runSl pr (Builtin.append_ #[52,52] 52 #[l_15.v,(Sl.v (⟨some p113,1,1⟩:Sl))]) w114 fun l115 w116=>kc5 d_13 n_14 l115 (IntKind.i64.wrap (i_16+1)) w116)))))))) (S2 K l_15 w)) (S2 K l_15 w)
theorem S7_ok (kc5:Cur g5):OkT pr false none 97 g5 (S7 (Kt Kv) kc5) (lp (blk (tl 1 (s1 (tl 2 bd))))) (P6 Kv kc5):=ok_last mixed FOk_ fun v ρ w=>by kernel_rfl
def L5 (K:KT):Cur g5:=loopC g5 (S7 K)
theorem L5_ok:OkT pr false none 97 g5 (L5 (Kt Kv)) (blk (tl 1 (s1 (tl 2 bd)))) (P4 Kv):=ok_loop (B:=S7 (Kt Kv)) (by kernel_rfl) fun kc=>S7_ok Kv kc
theorem L5_ind {K:KT} {d_5:Option Addr} {n_6:Int} {l_7:Sl} {i_8:Int} {w:World} (h:∀ X:Cur g5,(∀ d_5 n_6 l_7 i_8 w,S7 K X d_5 n_6 l_7 i_8 w→X d_5 n_6 l_7 i_8 w)→X d_5 n_6 l_7 i_8 w):L5 K d_5 n_6 l_7 i_8 w:=fun X hX=>h X fun d_5 n_6 l_7 i_8 w hb=>hX (d_5,n_6,l_7,i_8,()) w hb
theorem B8:OkT pr false none 97 g5 (L5 (Kt Kv)) (tl 1 (s1 (tl 2 bd))) (P3 Kv):=ok_block 0 (by kernel_rfl) (L5_ok Kv)
abbrev g9:List SE:=[.v 0 .ptr,.v 1 (.int .i64),.v 5 .sl]
def S9 (K:KT) (d_117:Option Addr) (n_118:Int) (l_119:Sl) (w:World):Prop :=
 L5 K d_117 n_118 l_119 0 w
theorem S9_ok:OkT pr false none 97 g9 (S9 (Kt Kv)) (s1 (tl 2 bd)) (P3 Kv):=ok_group mixed FOk_ 1 (B8 Kv) fun v ρ w=>by kernel_rfl
theorem Q10:OkT pr false none 97 g9 (S9 (Kt Kv)) (tl 2 bd) (P1 Kv):=ok_seq (by kernel_rfl) (S2_ok Kv) (S9_ok Kv)
end chunk_reader_samples
def chunk_reader_samples (d_2:Option Addr) (n_3:Int) (w:World) (K:chunk_reader_samples.KT):Prop :=
 chunk_reader_samples.S9 K d_2 n_3 nilS w
def chunk_reader_samples.cl:CL:=fun args K w=>match args with
 | [.pointer x0,.int .i64 x1]=>C.chunk_reader_samples x0 x1 w (chunk_reader_samples.Kt K)
 | _=>False
theorem chunk_reader_samples.clok:OkC pr 141 chunk_reader_samples.cl:=by
 intro args K w h
 unfold chunk_reader_samples.cl at h
 split at h
 ·exact calls_group false mixed chunk_reader_samples.FOk_ chunk_reader_samples.fn rfl 2 (chunk_reader_samples.Q10 K) (Eq.mp (by kernel_rfl) h)
 ·exact h.elim
end C
end Go.Proofs.YtmfgmcajelmgbaaGreatDoor
