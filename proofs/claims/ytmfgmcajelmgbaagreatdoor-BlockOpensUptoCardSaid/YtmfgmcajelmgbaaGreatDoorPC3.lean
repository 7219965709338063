/- (several texts in one: Cw1) Own work. -/
import Derived.Test.YtmfgmcajelmgbaaGreatDoorPC2
set_option linter.unusedVariables false
set_option maxRecDepth 100000
namespace Go.Proofs.YtmfgmcajelmgbaaGreatDoor
open Go Vm
namespace C
variable (Kv : VW)
namespace chunk_Join
abbrev KT:=Sl→Int→Int→World→Prop
def Kt:KT:=fun l1 n2 n3 w=>Kv (.tuple #[l1.v,(.int .i64 n2),(.int .i64 n3)]) w
noncomputable def bd:Code:=bdy Tryz.f85
theorem fn:FnOk pr 85 54 Tryz.f85:=⟨Tryz.func85,by kernel_rfl,Tryz.ntmps85,by kernel_rfl,by kernel_rfl⟩
def F:Clee:=ofL [(114,C.chunk_Decode.cl)]
theorem FOk_:FOk pr F:=FOk_cons C.chunk_Decode.clok (FOk_nil)
def P1:Post:=bodyK false pr 54 Tryz.f85 Kv
abbrev g2:List SE:=[.v 5 .sl]
def S2 (K:KT) (out_5:Sl) (w:World):Prop :=
 K out_5 0 0 w
theorem S2_ok:OkT pr false none 54 g2 (S2 (Kt Kv)) (s2 (tl 2 bd)) (P1 Kv):=ok_last mixed FOk_ fun v ρ w=>by kernel_rfl
def P3:Post:=next (get g2 (S2 (Kt Kv))) (P1 Kv)
def P4:Post:=inBlock 0 (P3 Kv)
abbrev g5:List SE:=[.v 5 .sl,.v 10 .sl,.v 11 (.int .i64),.v 12 (.int .i64)]
def P6 (kc5:Cur g5):Post:=next (get g5 kc5) (P4 Kv)
def S7 (K:KT) (kc5:Cur g5) (out_14:Sl) (l15:Sl) (n16:Int) (n17:Int) (w:World):Prop :=
 G.cond (decide (n17<n16)) (G.ix l15.a l15.n n17 1 fun p18=>G.cSl p18 w fun l19=>C.chunk_Decode l19 w fun l20 n21 w22=>G.cond (n21 != 0) (K nilS n21 n17 w22) (G.cond (decide (((l20.n:Nat):Int) > 0)) (G.cond (decide (((out_14.n:Nat):Int) > 0)) (G.ix l20.a l20.n 0 2 fun p23=>G.cI .i64 p23 w22.drew fun n24=>G.ix out_14.a out_14.n (IntKind.i64.wrap (((out_14.n:Nat):Int)-1)) 2 fun p25=>G.cI .i64 p25 w22.drew fun n26=>G.cond (decide (n24≤n26)) (K nilS 90 n17 w22.drew) (G.runSl pr (Builtin.append_ #[52,52] 52 #[out_14.v,l20.v]) w22.drew fun l27 w28=>kc5 l27 l15 n16 (IntKind.i64.wrap (n17+1)) w28)) (G.runSl pr (Builtin.append_ #[52,52] 52 #[out_14.v,l20.v]) w22.drew fun l29 w30=>kc5 l29 l15 n16 (IntKind.i64.wrap (n17+1)) w30)) (G.runSl pr (Builtin.append_ #[52,52] 52 #[out_14.v,l20.v]) w22.drew fun l31 w32=>kc5 l31 l15 n16 (IntKind.i64.wrap (n17+1)) w32))) (S2 K out_14 w)
theorem S7_ok (kc5:Cur g5):OkT pr false none 54 g5 (S7 (Kt Kv) kc5) (lp (blk (tl 1 (s1 (tl 2 bd))))) (P6 Kv kc5):=ok_last mixed FOk_ fun v ρ w=>by kernel_rfl
def L5 (K:KT):Cur g5:=loopC g5 (S7 K)
theorem L5_ok:OkT pr false none 54 g5 (L5 (Kt Kv)) (blk (tl 1 (s1 (tl 2 bd)))) (P4 Kv):=ok_loop (B:=S7 (Kt Kv)) (by kernel_rfl) fun kc=>S7_ok Kv kc
theorem L5_ind {K:KT} {out_6:Sl} {l7:Sl} {n8:Int} {n9:Int} {w:World} (h:∀ X:Cur g5,(∀ out_6 l7 n8 n9 w,S7 K X out_6 l7 n8 n9 w→X out_6 l7 n8 n9 w)→X out_6 l7 n8 n9 w):L5 K out_6 l7 n8 n9 w:=fun X hX=>h X fun out_6 l7 n8 n9 w hb=>hX (out_6,l7,n8,n9,()) w hb
theorem B8:OkT pr false none 54 g5 (L5 (Kt Kv)) (tl 1 (s1 (tl 2 bd))) (P3 Kv):=ok_block 0 (by kernel_rfl) (L5_ok Kv)
abbrev g9:List SE:=[.v 0 .sl,.v 5 .sl]
def S9 (K:KT) (l_33:Sl) (out_34:Sl) (w:World):Prop :=
 L5 K out_34 l_33 ((l_33.n:Nat):Int) 0 w
theorem S9_ok:OkT pr false none 54 g9 (S9 (Kt Kv)) (s1 (tl 2 bd)) (P3 Kv):=ok_group mixed FOk_ 1 (B8 Kv) fun v ρ w=>by kernel_rfl
theorem Q10:OkT pr false none 54 g9 (S9 (Kt Kv)) (tl 2 bd) (P1 Kv):=ok_seq (by kernel_rfl) (S2_ok Kv) (S9_ok Kv)
end chunk_Join
def chunk_Join (l_4:Sl) (w:World) (K:chunk_Join.KT):Prop :=
 chunk_Join.S9 K l_4 nilS w
def chunk_Join.cl:CL:=fun args K w=>match args with
 | [.slice x0_a x0_n x0_c]=>C.chunk_Join ⟨x0_a,x0_n,x0_c⟩ w (chunk_Join.Kt K)
 | _=>False
theorem chunk_Join.clok:OkC pr 85 chunk_Join.cl:=by
 intro args K w h
 unfold chunk_Join.cl at h
 split at h
 ·exact calls_group false mixed chunk_Join.FOk_ chunk_Join.fn rfl 2 (chunk_Join.Q10 K) (Eq.mp (by kernel_rfl) h)
 ·exact h.elim
namespace block_series
abbrev KT:=Sl→Sl→Bool→World→Prop
def Kt:KT:=fun l1 l2 b3 w=>Kv (.tuple #[(.agg #[l1.v,l2.v]),(.bool b3)]) w
noncomputable def bd:Code:=bdy Tryz.f44
theorem fn:FnOk pr 44 85 Tryz.f44:=⟨Tryz.func44,by kernel_rfl,Tryz.ntmps44,by kernel_rfl,by kernel_rfl⟩
def F:Clee:=ofL [(83,C.labels_Read.cl),(84,C.vint_U.cl),(85,C.chunk_Join.cl)]
theorem FOk_:FOk pr F:=FOk_cons C.labels_Read.clok (FOk_cons C.vint_U.clok (FOk_cons C.chunk_Join.clok (FOk_nil)))
def P1:Post:=bodyK false pr 85 Tryz.f44 Kv
abbrev g2:List SE:=[.v 2 .ptr,.v 4 .sl,.v 8 .sl]
def S2 (K:KT) (p7:Option Addr) (l_8:Sl) (chunks_9:Sl) (w:World):Prop :=
 C.chunk_Join chunks_9 w fun l10 n11 n12 w13=>G.ptr p7 fun p14=>G.st p14 l_8.v w13 fun w15=>G.st (p14.add 1) l10.v w15 fun w16=>G.ptr p7 fun p17=>G.cSl p17 w16 fun l18=>G.cSl (p17.add 1) w16 fun l19=>K l18 l19 (n11==0) w16
theorem S2_ok:OkT pr false none 85 g2 (S2 (Kt Kv)) (s2 (tl 6 bd)) (P1 Kv):=ok_last mixed FOk_ fun v ρ w=>by kernel_rfl
def P3:Post:=next (get g2 (S2 (Kt Kv))) (P1 Kv)
def P4:Post:=inBlock 0 (P3 Kv)
abbrev g5:List SE:=[.v 0 .sl,.v 2 .ptr,.v 4 .sl,.v 5 (.int .i64),.v 8 .sl,.v 40 (.int .u64),.v 41 (.int .u64)]
def P6 (kc5:Cur g5):Post:=next (get g5 kc5) (P4 Kv)
def S7 (K:KT) (kc5:Cur g5) (p_34:Sl) (p35:Option Addr) (l_36:Sl) (at_37:Int) (chunks_38:Sl) (n39:Int) (n40:Int) (w:World):Prop :=
 G.cond (decide (n40<n39)) (C.vint_U p_34 at_37 w fun n41 n42 n43 w44=>G.cond (n43 != 0) (G.ptr p35 fun p45=>G.st p45 nilS.v w44 fun w46=>G.st (p45.add 1) nilS.v w46 fun w47=>G.ptr p35 fun p48=>G.cSl p48 w47 fun l49=>G.cSl (p48.add 1) w47 fun l50=>K l49 l50 false w47) (G.cond (decide (n41 > (IntKind.u64.wrap (IntKind.i64.wrap (((p_34.n:Nat):Int)-n42))))) (G.ptr p35 fun p51=>G.st p51 nilS.v w44 fun w52=>G.st (p51.add 1) nilS.v w52 fun w53=>G.ptr p35 fun p54=>G.cSl p54 w53 fun l55=>G.cSl (p54.add 1) w53 fun l56=>K l55 l56 false w53) (G.slc p_34 n42 (IntKind.i64.wrap (n42+(IntKind.i64.wrap n41))) 1 fun l57=>G.new (.cells #[l57.v] 22) w44 fun p58 w59=>G.runSl pr (Builtin.append_ #[78,78] 78 #[chunks_38.v,(Sl.v (⟨some p58,1,1⟩:Sl))]) w59 fun l60 w61=>kc5 p_34 p35 l_36 (IntKind.i64.wrap (n42+(IntKind.i64.wrap n41))) l60 n39 (IntKind.u64.wrap (n40+1)) w61))) (S2 K p35 l_36 chunks_38 w)
theorem S7_ok (kc5:Cur g5):OkT pr false none 85 g5 (S7 (Kt Kv) kc5) (lp (blk (tl 1 (s1 (tl 6 bd))))) (P6 Kv kc5):=ok_last mixed FOk_ fun v ρ w=>by kernel_rfl
def L5 (K:KT):Cur g5:=loopC g5 (S7 K)
theorem L5_ok:OkT pr false none 85 g5 (L5 (Kt Kv)) (blk (tl 1 (s1 (tl 6 bd)))) (P4 Kv):=ok_loop (B:=S7 (Kt Kv)) (by kernel_rfl) fun kc=>S7_ok Kv kc
theorem L5_ind {K:KT} {p_20:Sl} {p21:Option Addr} {l_22:Sl} {at_23:Int} {chunks_24:Sl} {n25:Int} {n26:Int} {w:World} (h:∀ X:Cur g5,(∀ p_20 p21 l_22 at_23 chunks_24 n25 n26 w,S7 K X p_20 p21 l_22 at_23 chunks_24 n25 n26 w→X p_20 p21 l_22 at_23 chunks_24 n25 n26 w)→X p_20 p21 l_22 at_23 chunks_24 n25 n26 w):L5 K p_20 p21 l_22 at_23 chunks_24 n25 n26 w:=fun X hX=>h X fun p_20 p21 l_22 at_23 chunks_24 n25 n26 w hb=>hX (p_20,p21,l_22,at_23,chunks_24,n25,n26,()) w hb
theorem B8:OkT pr false none 85 g5 (L5 (Kt Kv)) (tl 1 (s1 (tl 6 bd))) (P3 Kv):=ok_block 0 (by kernel_rfl) (L5_ok Kv)
abbrev g9:List SE:=[.v 0 .sl,.v 2 .ptr,.v 4 .sl,.v 5 (.int .i64),.v 7 (.int .u64),.v 8 .sl]
def S9 (K:KT) (p_62:Sl) (p63:Option Addr) (l_64:Sl) (at_65:Int) (n_66:Int) (chunks_67:Sl) (w:World):Prop :=
 L5 K p_62 p63 l_64 at_65 chunks_67 n_66 0 w
theorem S9_ok:OkT pr false none 85 g9 (S9 (Kt Kv)) (s1 (tl 6 bd)) (P3 Kv):=ok_group mixed FOk_ 1 (B8 Kv) fun v ρ w=>by kernel_rfl
theorem Q10:OkT pr false none 85 g9 (S9 (Kt Kv)) (tl 6 bd) (P1 Kv):=ok_seq (by kernel_rfl) (S2_ok Kv) (S9_ok Kv)
end block_series
def block_series (p_4:Sl) (w:World) (K:block_series.KT):Prop :=
 G.new (.cells #[nilS.v,nilS.v] 57) w fun p68 w69=>C.labels_Read p_4 0 w69 fun l70 n71 n72 w73=>G.cond (n72 != 0) (G.st p68 nilS.v w73 fun w74=>G.st (p68.add 1) nilS.v w74 fun w75=>G.cSl p68 w75 fun l76=>G.cSl (p68.add 1) w75 fun l77=>K l76 l77 false w75) (C.vint_U p_4 n71 w73 fun n78 n79 n80 w81=>G.cond (n80 != 0) (G.st p68 nilS.v w81 fun w82=>G.st (p68.add 1) nilS.v w82 fun w83=>G.cSl p68 w83 fun l84=>G.cSl (p68.add 1) w83 fun l85=>K l84 l85 false w83) (G.cond (decide (n78 > (IntKind.u64.wrap ((p_4.n:Nat):Int)))) (G.st p68 nilS.v w81 fun w86=>G.st (p68.add 1) nilS.v w86 fun w87=>G.cSl p68 w87 fun l88=>G.cSl (p68.add 1) w87 fun l89=>K l88 l89 false w87) (block_series.S9 K p_4 (some p68) l70 n79 n78 nilS w81)))
def block_series.cl:CL:=fun args K w=>match args with
 | [.slice x0_a x0_n x0_c]=>C.block_series ⟨x0_a,x0_n,x0_c⟩ w (block_series.Kt K)
 | _=>False
theorem block_series.clok:OkC pr 44 block_series.cl:=by
 intro args K w h
 unfold block_series.cl at h
 split at h
 ·exact calls_group false mixed block_series.FOk_ block_series.fn rfl 6 (block_series.Q10 K) (Eq.mp (by kernel_rfl) h)
 ·exact h.elim
namespace block_Open
abbrev KT:=Option Addr→Int→World→Prop
def Kt:KT:=fun p1 n2 w=>Kv (.tuple #[(.pointer p1),(.int .i64 n2)]) w
noncomputable def bd:Code:=bdy Tryz.f11
theorem fn:FnOk pr 11 108 Tryz.f11:=⟨Tryz.func11,by kernel_rfl,Tryz.ntmps11,by kernel_rfl,by kernel_rfl⟩
def F:Clee:=ofL [(33,C.block_Build.cl),(41,C.strings_HasPrefix.cl),(42,C.vint_Frames.cl),(43,C.slices_Clone_byte_byte.cl),(44,C.block_series.cl)]
theorem FOk_:FOk pr F:=FOk_cons C.block_Build.clok (FOk_cons C.strings_HasPrefix.clok (FOk_cons C.vint_Frames.clok (FOk_cons C.slices_Clone_byte_byte.clok (FOk_cons C.block_series.clok (FOk_nil)))))
def P1:Post:=bodyK false pr 108 Tryz.f11 Kv
abbrev g2:List SE:=[.v 0 .sl,.v 7 .ptr]
def S2 (K:KT) (b_6:Sl) (x_7:Option Addr) (w:World):Prop :=
 G.ptr x_7 fun p8=>G.cSl (p8.add 1) w fun l9=>C.block_Build l9 w fun l10 n11 n12 w13=>G.cond (n11 != 0) (K none 3 w13) (G.rdS pr (Conv.bytesToString l10.v) w13 fun s14=>G.rdS pr (Conv.bytesToString b_6.v) w13 fun s15=>G.cond (!(s14.toList==s15.toList)) (K none 3 w13) (K x_7 0 w13))
theorem S2_ok:OkT pr false none 108 g2 (S2 (Kt Kv)) (s2 (tl 5 bd)) (P1 Kv):=ok_last mixed FOk_ fun v ρ w=>by kernel_rfl
def P3:Post:=next (get g2 (S2 (Kt Kv))) (P1 Kv)
def P4:Post:=inBlock 0 (P3 Kv)
abbrev g5:List SE:=[.v 0 .sl,.v 7 .ptr,.v 45 .sl,.v 46 (.int .i64),.v 47 (.int .i64)]
def P6 (kc5:Cur g5):Post:=next (get g5 kc5) (P4 Kv)
def S7 (K:KT) (kc5:Cur g5) (b_21:Sl) (x_22:Option Addr) (l23:Sl) (n24:Int) (n25:Int) (w:World):Prop :=
 kc5 b_21 x_22 l23 n24 (IntKind.i64.wrap (n25+1)) w
theorem S7_ok (kc5:Cur g5):OkT pr false none 108 g5 (S7 (Kt Kv) kc5) (s2 (tl 2 (lp (blk (tl 1 (s1 (tl 5 bd))))))) (P6 Kv kc5):=ok_last mixed FOk_ fun v ρ w=>by kernel_rfl
def P8 (kc5:Cur g5):Post:=next (get g5 (S7 (Kt Kv) kc5)) (P6 Kv kc5)
def P9 (kc5:Cur g5):Post:=inBlock 1 (P8 Kv kc5)
def P10 (kc5:Cur g5):Post:=inBlock 2 (P9 Kv kc5)
abbrev g11:List SE:=[.v 0 .sl,.v 7 .ptr,.v 8 (.int .i64),.v 45 .sl,.v 46 (.int .i64),.v 47 (.int .i64),.v 70 .sl,.v 71 (.int .i64),.v 72 (.int .i64)]
def P12 (kc5:Cur g5) (kc11:Cur g11):Post:=next (get g11 kc11) (P10 Kv kc5)
def S13 (K:KT) (kc5:Cur g5) (kc11:Cur g11) (b_49:Sl) (x_50:Option Addr) (i_51:Int) (l52:Sl) (n53:Int) (n54:Int) (l55:Sl) (n56:Int) (n57:Int) (w:World):Prop :=
 G.cond (decide (n57<n56)) (G.ix l55.a l55.n n57 2 fun p58=>G.cS p58 w fun s59=>G.cS (p58.add 1) w fun s60=>G.new (.cells #[(.string (⟨#[]⟩:ByteArray)),(.string (⟨#[]⟩:ByteArray))] 93) w fun p61 w62=>G.st p61 (.string s59) w62 fun w63=>G.st (p61.add 1) (.string s60) w63 fun w64=>G.ptr x_50 fun p65=>G.cM (p65.add 2) w64.drew fun m66=>G.cS p61 w64.drew fun s67=>G.cS (p61.add 1) w64.drew fun s68=>G.new (.cells #[(.int .i64 i_51)] 3) w64.drew fun p69 w70=>sameAt (p65.add 2) 1 w64.drew w70∧sameAt p61 2 w64.drew w70∧(G.runE pr (Instr.mapEntry 82 (.map m66) (.agg #[(.string s67),(.string s68)])) w70 fun l71 n72 w73=>G.runSl pr (Builtin.append_ #[46,46] 46 #[l71.v,(Sl.v (⟨some p69,1,1⟩:Sl))]) w73 fun l74 w75=>G.runU pr (Instr.entryStore 82 (.map m66) (.int .i64 n72) l74.v) w75 fun w76=>kc11 b_49 x_50 i_51 l52 n53 n54 l55 n56 (IntKind.i64.wrap (n57+1)) w76)) (S7 K kc5 b_49 x_50 l52 n53 n54 w)
theorem S13_ok (kc5:Cur g5) (kc11:Cur g11):OkT pr false none 108 g11 (S13 (Kt Kv) kc5 kc11) (lp (blk (tl 5 (blk (s1 (tl 2 (lp (blk (tl 1 (s1 (tl 5 bd))))))))))) (P12 Kv kc5 kc11):=ok_last mixed FOk_ fun v ρ w=>by kernel_rfl
def L11 (K:KT) (kc5:Cur g5):Cur g11:=loopC g11 (S13 K kc5)
theorem L11_ok (kc5:Cur g5):OkT pr false none 108 g11 (L11 (Kt Kv) kc5) (blk (tl 5 (blk (s1 (tl 2 (lp (blk (tl 1 (s1 (tl 5 bd)))))))))) (P10 Kv kc5):=ok_loop (B:=S13 (Kt Kv) kc5) (by kernel_rfl) fun kc=>S13_ok Kv kc5 kc
theorem L11_ind {K:KT} {kc5:Cur g5} {b_31:Sl} {x_32:Option Addr} {i_33:Int} {l34:Sl} {n35:Int} {n36:Int} {l37:Sl} {n38:Int} {n39:Int} {w:World} (h:∀ X:Cur g11,(∀ b_31 x_32 i_33 l34 n35 n36 l37 n38 n39 w,S13 K kc5 X b_31 x_32 i_33 l34 n35 n36 l37 n38 n39 w→X b_31 x_32 i_33 l34 n35 n36 l37 n38 n39 w)→X b_31 x_32 i_33 l34 n35 n36 l37 n38 n39 w):L11 K kc5 b_31 x_32 i_33 l34 n35 n36 l37 n38 n39 w:=fun X hX=>h X fun b_31 x_32 i_33 l34 n35 n36 l37 n38 n39 w hb=>hX (b_31,x_32,i_33,l34,n35,n36,l37,n38,n39,()) w hb
theorem B14 (kc5:Cur g5):OkT pr false none 108 g11 (L11 (Kt Kv) kc5) (tl 5 (blk (s1 (tl 2 (lp (blk (tl 1 (s1 (tl 5 bd))))))))) (P9 Kv kc5):=ok_block 2 (by kernel_rfl) (L11_ok Kv kc5)
def S15 (K:KT) (kc5:Cur g5) (b_77:Sl) (x_78:Option Addr) (l79:Sl) (n80:Int) (n81:Int) (w:World):Prop :=
 G.ix l79.a l79.n n81 1 fun p82=>G.cSl p82 w fun l83=>C.block_series l83 w fun l84 l85 b86 w87=>G.new (.cells #[nilS.v,nilS.v] 57) w87 fun p88 w89=>G.st p88 l84.v w89 fun w90=>G.st (p88.add 1) l85.v w90 fun w91=>G.cond (!b86) (K none 3 w91) (G.ptr x_78 fun p92=>G.cSl (p92.add 1) w91.drew fun l93=>G.cSl p88 w91.drew fun l94=>G.cSl (p88.add 1) w91.drew fun l95=>G.new (.cells #[l94.v,l95.v] 57) w91.drew fun p96 w97=>sameAt (p92.add 1) 1 w91.drew w97∧(G.runSl pr (Builtin.append_ #[27,27] 27 #[l93.v,(Sl.v (⟨some p96,1,1⟩:Sl))]) w97 fun l98 w99=>G.ptr x_78 fun p100=>G.st (p100.add 1) l98.v w99 fun w101=>G.cSl p88 w101 fun l102=>L11 K kc5 b_77 x_78 n81 l79 n80 n81 l102 ((l102.n:Nat):Int) 0 w101))
theorem S15_ok (kc5:Cur g5):OkT pr false none 108 g5 (S15 (Kt Kv) kc5) (blk (s1 (tl 2 (lp (blk (tl 1 (s1 (tl 5 bd)))))))) (P9 Kv kc5):=ok_group mixed FOk_ 5 (B14 Kv kc5) fun v ρ w=>by kernel_rfl
theorem B16 (kc5:Cur g5):OkT pr false none 108 g5 (S15 (Kt Kv) kc5) (s1 (tl 2 (lp (blk (tl 1 (s1 (tl 5 bd))))))) (P8 Kv kc5):=ok_block 1 (by kernel_rfl) (S15_ok Kv kc5)
theorem Q17 (kc5:Cur g5):OkT pr false none 108 g5 (S15 (Kt Kv) kc5) (tl 2 (lp (blk (tl 1 (s1 (tl 5 bd)))))) (P6 Kv kc5):=ok_seq (by kernel_rfl) (S7_ok Kv kc5) (B16 Kv kc5)
def S18 (K:KT) (kc5:Cur g5) (b_103:Sl) (x_104:Option Addr) (l105:Sl) (n106:Int) (n107:Int) (w:World):Prop :=
 G.cond (decide (n107<n106)) (S15 K kc5 b_103 x_104 l105 n106 n107 w) (S2 K b_103 x_104 w)
theorem S18_ok (kc5:Cur g5):OkT pr false none 108 g5 (S18 (Kt Kv) kc5) (lp (blk (tl 1 (s1 (tl 5 bd))))) (P6 Kv kc5):=ok_group mixed FOk_ 2 (Q17 Kv kc5) fun v ρ w=>by kernel_rfl
def L5 (K:KT):Cur g5:=loopC g5 (S18 K)
theorem L5_ok:OkT pr false none 108 g5 (L5 (Kt Kv)) (blk (tl 1 (s1 (tl 5 bd)))) (P4 Kv):=ok_loop (B:=S18 (Kt Kv)) (by kernel_rfl) fun kc=>S18_ok Kv kc
theorem L5_ind {K:KT} {b_16:Sl} {x_17:Option Addr} {l18:Sl} {n19:Int} {n20:Int} {w:World} (h:∀ X:Cur g5,(∀ b_16 x_17 l18 n19 n20 w,S18 K X b_16 x_17 l18 n19 n20 w→X b_16 x_17 l18 n19 n20 w)→X b_16 x_17 l18 n19 n20 w):L5 K b_16 x_17 l18 n19 n20 w:=fun X hX=>h X fun b_16 x_17 l18 n19 n20 w hb=>hX (b_16,x_17,l18,n19,n20,()) w hb
theorem B19:OkT pr false none 108 g5 (L5 (Kt Kv)) (tl 1 (s1 (tl 5 bd))) (P3 Kv):=ok_block 0 (by kernel_rfl) (L5_ok Kv)
abbrev g20:List SE:=[.v 0 .sl,.v 4 .sl,.v 7 .ptr]
def S20 (K:KT) (b_108:Sl) (frames_109:Sl) (x_110:Option Addr) (w:World):Prop :=
 G.slc frames_109 1 ((frames_109.n:Nat):Int) 1 fun l111=>L5 K b_108 x_110 l111 ((l111.n:Nat):Int) 0 w
theorem S20_ok:OkT pr false none 108 g20 (S20 (Kt Kv)) (s1 (tl 5 bd)) (P3 Kv):=ok_group mixed FOk_ 1 (B19 Kv) fun v ρ w=>by kernel_rfl
theorem Q21:OkT pr false none 108 g20 (S20 (Kt Kv)) (tl 5 bd) (P1 Kv):=ok_seq (by kernel_rfl) (S2_ok Kv) (S20_ok Kv)
end block_Open
def block_Open (b_3:Sl) (w:World) (K:block_Open.KT):Prop :=
 G.cond (decide (((b_3.n:Nat):Int) > 1048576)) (K none 3 w) (G.rdS pr (Conv.bytesToString b_3.v) w fun s112=>C.strings_HasPrefix s112 (⟨#[84,79,67,66,76,75,48,49]⟩:ByteArray) w fun b113 w114=>G.cond (!b113) (K none 3 w114) (G.slc b_3 8 ((b_3.n:Nat):Int) 1 fun l115=>C.vint_Frames l115 w114 fun l116 n117 n118 w119=>G.cond (n118 != 0) (K none 3 w119) (G.cond (((l116.n:Nat):Int)==0) (K none 3 w119) (C.slices_Clone_byte_byte b_3 w119 fun l120 w121=>G.runM pr (Instr.makeMap 82 none) w121 fun m122 w123=>G.new (.cells #[l120.v,nilS.v,(.map m122),(.int .i64 0)] 89) w123 fun p124 w125=>block_Open.S20 K b_3 l116 (some p124) w125))))
def block_Open.cl:CL:=fun args K w=>match args with
 | [.slice x0_a x0_n x0_c]=>C.block_Open ⟨x0_a,x0_n,x0_c⟩ w (block_Open.Kt K)
 | _=>False
theorem block_Open.clok:OkC pr 11 block_Open.cl:=by
 intro args K w h
 unfold block_Open.cl at h
 split at h
 ·exact calls_group false mixed block_Open.FOk_ block_Open.fn rfl 5 (block_Open.Q21 K) (Eq.mp (by kernel_rfl) h)
 ·exact h.elim
namespace tocsinref04_side
abbrev KT:=Int→World→Prop
def Kt:KT:=fun n1 w=>Kv (.int .i64 n1) w
noncomputable def bd:Code:=bdy Tryz.f96
theorem fn:FnOk pr 96 11 Tryz.f96:=⟨Tryz.func96,by kernel_rfl,Tryz.ntmps96,by kernel_rfl,by kernel_rfl⟩
def F:Clee:=ofL []
theorem FOk_:FOk pr F:=FOk_nil
def P1:Post:=bodyK false pr 11 Tryz.f96 Kv
end tocsinref04_side
def tocsinref04_side (a_2:ByteArray) (b_3:ByteArray) (w:World) (K:tocsinref04_side.KT):Prop :=
 G.cond (Op.bytesLess a_2.toList b_3.toList) (K (-1:Int) w) (G.cond (!((Op.bytesLess a_2.toList b_3.toList) || (a_2.toList==b_3.toList))) (K 1 w) (K 0 w))
def tocsinref04_side.cl:CL:=fun args K w=>match args with
 | [.string x0,.string x1]=>C.tocsinref04_side x0 x1 w (tocsinref04_side.Kt K)
 | _=>False
theorem tocsinref04_side.clok:OkC pr 96 tocsinref04_side.cl:=by
 intro args K w h
 unfold tocsinref04_side.cl at h
 split at h
 ·exact calls_last false mixed tocsinref04_side.FOk_ tocsinref04_side.fn rfl (Eq.mp (by kernel_rfl) h)
 ·exact h.elim
namespace tocsinref04_Compare
abbrev KT:=Int→World→Prop
def Kt:KT:=fun n1 w=>Kv (.int .i64 n1) w
noncomputable def bd:Code:=bdy Tryz.f58
theorem fn:FnOk pr 58 58 Tryz.f58:=⟨Tryz.func58,by kernel_rfl,Tryz.ntmps58,by kernel_rfl,by kernel_rfl⟩
def F:Clee:=ofL [(96,C.tocsinref04_side.cl)]
theorem FOk_:FOk pr F:=FOk_cons C.tocsinref04_side.clok (FOk_nil)
def P1:Post:=bodyK false pr 58 Tryz.f58 Kv
abbrev g2:List SE:=[.v 0 .sl,.v 1 .sl]
def S2 (K:KT) (a_4:Sl) (b_5:Sl) (w:World):Prop :=
 G.cond (decide (((a_4.n:Nat):Int)<((b_5.n:Nat):Int))) (K (-1:Int) w) (G.cond (decide (((a_4.n:Nat):Int) > ((b_5.n:Nat):Int))) (K 1 w) (K 0 w))
theorem S2_ok:OkT pr false none 58 g2 (S2 (Kt Kv)) (s2 (tl 1 bd)) (P1 Kv):=ok_last mixed FOk_ fun v ρ w=>by kernel_rfl
def P3:Post:=next (get g2 (S2 (Kt Kv))) (P1 Kv)
def P4:Post:=inBlock 0 (P3 Kv)
abbrev g5:List SE:=[.v 0 .sl,.v 1 .sl,.v 5 (.int .i64)]
def P6 (kc5:Cur g5):Post:=next (get g5 kc5) (P4 Kv)
def S7 (K:KT) (kc5:Cur g5) (a_12:Sl) (b_13:Sl) (i_14:Int) (w:World):Prop :=
 G.cond (decide (i_14<((a_12.n:Nat):Int))) (G.cond (decide (i_14<((b_13.n:Nat):Int))) (G.ix a_12.a a_12.n i_14 2 fun p15=>G.cS p15 w.drew fun s16=>G.ix b_13.a b_13.n i_14 2 fun p17=>G.cS p17 w.drew fun s18=>C.tocsinref04_side s16 s18 w.drew fun n19 w20=>G.cond (n19 != 0) (K n19 w20) (G.ix a_12.a a_12.n i_14 2 fun p21=>G.cS (p21.add 1) w20.drew fun s22=>G.ix b_13.a b_13.n i_14 2 fun p23=>G.cS (p23.add 1) w20.drew fun s24=>C.tocsinref04_side s22 s24 w20.drew fun n25 w26=>G.cond (n25 != 0) (K n25 w26) (kc5 a_12 b_13 (IntKind.i64.wrap (i_14+1)) w26))) (S2 K a_12 b_13 w)) (S2 K a_12 b_13 w)
theorem S7_ok (kc5:Cur g5):OkT pr false none 58 g5 (S7 (Kt Kv) kc5) (lp (blk (tl 1 (s1 (tl 1 bd))))) (P6 Kv kc5):=ok_last mixed FOk_ fun v ρ w=>by kernel_rfl
def L5 (K:KT):Cur g5:=loopC g5 (S7 K)
theorem L5_ok:OkT pr false none 58 g5 (L5 (Kt Kv)) (blk (tl 1 (s1 (tl 1 bd)))) (P4 Kv):=ok_loop (B:=S7 (Kt Kv)) (by kernel_rfl) fun kc=>S7_ok Kv kc
theorem L5_ind {K:KT} {a_6:Sl} {b_7:Sl} {i_8:Int} {w:World} (h:∀ X:Cur g5,(∀ a_6 b_7 i_8 w,S7 K X a_6 b_7 i_8 w→X a_6 b_7 i_8 w)→X a_6 b_7 i_8 w):L5 K a_6 b_7 i_8 w:=fun X hX=>h X fun a_6 b_7 i_8 w hb=>hX (a_6,b_7,i_8,()) w hb
theorem B8:OkT pr false none 58 g5 (L5 (Kt Kv)) (tl 1 (s1 (tl 1 bd))) (P3 Kv):=ok_block 0 (by kernel_rfl) (L5_ok Kv)
def S9 (K:KT) (a_27:Sl) (b_28:Sl) (w:World):Prop :=
 L5 K a_27 b_28 0 w
theorem S9_ok:OkT pr false none 58 g2 (S9 (Kt Kv)) (s1 (tl 1 bd)) (P3 Kv):=ok_group mixed FOk_ 1 (B8 Kv) fun v ρ w=>by kernel_rfl
theorem Q10:OkT pr false none 58 g2 (S9 (Kt Kv)) (tl 1 bd) (P1 Kv):=ok_seq (by kernel_rfl) (S2_ok Kv) (S9_ok Kv)
end tocsinref04_Compare
def tocsinref04_Compare (a_2:Sl) (b_3:Sl) (w:World) (K:tocsinref04_Compare.KT):Prop :=
 tocsinref04_Compare.S9 K a_2 b_3 w
def tocsinref04_Compare.cl:CL:=fun args K w=>match args with
 | [.slice x0_a x0_n x0_c,.slice x1_a x1_n x1_c]=>C.tocsinref04_Compare ⟨x0_a,x0_n,x0_c⟩ ⟨x1_a,x1_n,x1_c⟩ w (tocsinref04_Compare.Kt K)
 | _=>False
theorem tocsinref04_Compare.clok:OkC pr 58 tocsinref04_Compare.cl:=by
 intro args K w h
 unfold tocsinref04_Compare.cl at h
 split at h
 ·exact calls_group false mixed tocsinref04_Compare.FOk_ tocsinref04_Compare.fn rfl 1 (tocsinref04_Compare.Q10 K) (Eq.mp (by kernel_rfl) h)
 ·exact h.elim
namespace tocsinref10_Sorted
abbrev KT:=Sl→World→Prop
def Kt:KT:=fun l1 w=>Kv l1.v w
noncomputable def bd:Code:=bdy Tryz.f19
theorem fn:FnOk pr 19 49 Tryz.f19:=⟨Tryz.func19,by kernel_rfl,Tryz.ntmps19,by kernel_rfl,by kernel_rfl⟩
def F:Clee:=ofL [(58,C.tocsinref04_Compare.cl)]
theorem FOk_:FOk pr F:=FOk_cons C.tocsinref04_Compare.clok (FOk_nil)
def P1:Post:=bodyK false pr 49 Tryz.f19 Kv
abbrev g2:List SE:=[.v 3 .sl]
def S2 (K:KT) (out_3:Sl) (w:World):Prop :=
 K out_3 w
theorem S2_ok:OkT pr false none 49 g2 (S2 (Kt Kv)) (s2 (tl 2 bd)) (P1 Kv):=ok_last mixed FOk_ fun v ρ w=>by kernel_rfl
def P3:Post:=next (get g2 (S2 (Kt Kv))) (P1 Kv)
def P4:Post:=inBlock 0 (P3 Kv)
abbrev g5:List SE:=[.v 3 .sl,.v 7 .sl,.v 8 (.int .i64),.v 9 (.int .i64)]
def P6 (kc5:Cur g5):Post:=next (get g5 kc5) (P4 Kv)
def S7 (K:KT) (kc5:Cur g5) (out_8:Sl) (l9:Sl) (n10:Int) (n11:Int) (w:World):Prop :=
 kc5 out_8 l9 n10 (IntKind.i64.wrap (n11+1)) w
theorem S7_ok (kc5:Cur g5):OkT pr false none 49 g5 (S7 (Kt Kv) kc5) (s2 (tl 2 (lp (blk (tl 1 (s1 (tl 2 bd))))))) (P6 Kv kc5):=ok_last mixed FOk_ fun v ρ w=>by kernel_rfl
def P8 (kc5:Cur g5):Post:=next (get g5 (S7 (Kt Kv) kc5)) (P6 Kv kc5)
def P9 (kc5:Cur g5):Post:=inBlock 1 (P8 Kv kc5)
abbrev g10:List SE:=[.v 3 .sl,.v 5 .ptr,.v 6 (.int .i64),.v 7 .sl,.v 8 (.int .i64),.v 9 (.int .i64)]
def S10 (K:KT) (kc5:Cur g5) (out_12:Sl) (x_13:Option Addr) (k_14:Int) (l15:Sl) (n16:Int) (n17:Int) (w:World):Prop :=
 G.ptr x_13 fun p18=>G.cSl p18 w fun l19=>G.cSl (p18.add 1) w fun l20=>G.ix out_12.a out_12.n k_14 2 fun p21=>G.st p21 l19.v w fun w22=>G.st (p21.add 1) l20.v w22 fun w23=>S7 K kc5 out_12 l15 n16 n17 w23
theorem S10_ok (kc5:Cur g5):OkT pr false none 49 g10 (S10 (Kt Kv) kc5) (s2 (tl 3 (blk (s1 (tl 2 (lp (blk (tl 1 (s1 (tl 2 bd)))))))))) (P9 Kv kc5):=ok_last mixed FOk_ fun v ρ w=>by kernel_rfl
def P11 (kc5:Cur g5):Post:=next (get g10 (S10 (Kt Kv) kc5)) (P9 Kv kc5)
def P12 (kc5:Cur g5):Post:=inBlock 2 (P11 Kv kc5)
def P14 (kc5:Cur g5) (kc13:Cur g10):Post:=next (get g10 kc13) (P12 Kv kc5)
def S15 (K:KT) (kc5:Cur g5) (kc13:Cur g10) (out_36:Sl) (x_37:Option Addr) (k_38:Int) (l39:Sl) (n40:Int) (n41:Int) (w:World):Prop :=
 G.cond (decide (k_38 > 0)) (G.ix out_36.a out_36.n (IntKind.i64.wrap (k_38-1)) 2 fun p42=>G.cSl p42 w.drew fun l43=>G.ptr x_37 fun p44=>G.cSl p44 w.drew fun l45=>C.tocsinref04_Compare l43 l45 w.drew fun n46 w47=>G.cond (decide (n46 > 0)) (G.ix out_36.a out_36.n (IntKind.i64.wrap (k_38-1)) 2 fun p48=>G.cSl p48 w47 fun l49=>G.cSl (p48.add 1) w47 fun l50=>G.ix out_36.a out_36.n k_38 2 fun p51=>G.st p51 l49.v w47 fun w52=>G.st (p51.add 1) l50.v w52 fun w53=>kc13 out_36 x_37 (IntKind.i64.wrap (k_38-1)) l39 n40 n41 w53) (S10 K kc5 out_36 x_37 k_38 l39 n40 n41 w47)) (S10 K kc5 out_36 x_37 k_38 l39 n40 n41 w.drew)
theorem S15_ok (kc5:Cur g5) (kc13:Cur g10):OkT pr false none 49 g10 (S15 (Kt Kv) kc5 kc13) (lp (blk (s1 (tl 3 (blk (s1 (tl 2 (lp (blk (tl 1 (s1 (tl 2 bd)))))))))))) (P14 Kv kc5 kc13):=ok_last mixed FOk_ fun v ρ w=>by kernel_rfl
def L13 (K:KT) (kc5:Cur g5):Cur g10:=loopC g10 (S15 K kc5)
theorem L13_ok (kc5:Cur g5):OkT pr false none 49 g10 (L13 (Kt Kv) kc5) (blk (s1 (tl 3 (blk (s1 (tl 2 (lp (blk (tl 1 (s1 (tl 2 bd))))))))))) (P12 Kv kc5):=ok_loop (B:=S15 (Kt Kv) kc5) (by kernel_rfl) fun kc=>S15_ok Kv kc5 kc
theorem L13_ind {K:KT} {kc5:Cur g5} {out_24:Sl} {x_25:Option Addr} {k_26:Int} {l27:Sl} {n28:Int} {n29:Int} {w:World} (h:∀ X:Cur g10,(∀ out_24 x_25 k_26 l27 n28 n29 w,S15 K kc5 X out_24 x_25 k_26 l27 n28 n29 w→X out_24 x_25 k_26 l27 n28 n29 w)→X out_24 x_25 k_26 l27 n28 n29 w):L13 K kc5 out_24 x_25 k_26 l27 n28 n29 w:=fun X hX=>h X fun out_24 x_25 k_26 l27 n28 n29 w hb=>hX (out_24,x_25,k_26,l27,n28,n29,()) w hb
theorem B16 (kc5:Cur g5):OkT pr false none 49 g10 (L13 (Kt Kv) kc5) (s1 (tl 3 (blk (s1 (tl 2 (lp (blk (tl 1 (s1 (tl 2 bd)))))))))) (P11 Kv kc5):=ok_block 2 (by kernel_rfl) (L13_ok Kv kc5)
theorem Q17 (kc5:Cur g5):OkT pr false none 49 g10 (L13 (Kt Kv) kc5) (tl 3 (blk (s1 (tl 2 (lp (blk (tl 1 (s1 (tl 2 bd))))))))) (P9 Kv kc5):=ok_seq (by kernel_rfl) (S10_ok Kv kc5) (B16 Kv kc5)
def S18 (K:KT) (kc5:Cur g5) (out_54:Sl) (l55:Sl) (n56:Int) (n57:Int) (w:World):Prop :=
 G.ix l55.a l55.n n57 2 fun p58=>G.cSl p58 w fun l59=>G.cSl (p58.add 1) w fun l60=>G.new (.cells #[nilS.v,nilS.v] 57) w fun p61 w62=>G.st p61 l59.v w62 fun w63=>G.st (p61.add 1) l60.v w63 fun w64=>G.cSl p61 w64 fun l65=>G.cSl (p61.add 1) w64 fun l66=>G.new (.cells #[l65.v,l66.v] 57) w64 fun p67 w68=>G.runSl pr (Builtin.append_ #[27,27] 27 #[out_54.v,(Sl.v (⟨some p67,1,1⟩:Sl))]) w68 fun l69 w70=>L13 K kc5 l69 (some p61) ((out_54.n:Nat):Int) l55 n56 n57 w70
theorem S18_ok (kc5:Cur g5):OkT pr false none 49 g5 (S18 (Kt Kv) kc5) (blk (s1 (tl 2 (lp (blk (tl 1 (s1 (tl 2 bd)))))))) (P9 Kv kc5):=ok_group mixed FOk_ 3 (Q17 Kv kc5) fun v ρ w=>by kernel_rfl
theorem B19 (kc5:Cur g5):OkT pr false none 49 g5 (S18 (Kt Kv) kc5) (s1 (tl 2 (lp (blk (tl 1 (s1 (tl 2 bd))))))) (P8 Kv kc5):=ok_block 1 (by kernel_rfl) (S18_ok Kv kc5)
theorem Q20 (kc5:Cur g5):OkT pr false none 49 g5 (S18 (Kt Kv) kc5) (tl 2 (lp (blk (tl 1 (s1 (tl 2 bd)))))) (P6 Kv kc5):=ok_seq (by kernel_rfl) (S7_ok Kv kc5) (B19 Kv kc5)
def S21 (K:KT) (kc5:Cur g5) (out_71:Sl) (l72:Sl) (n73:Int) (n74:Int) (w:World):Prop :=
 G.cond (decide (n74<n73)) (S18 K kc5 out_71 l72 n73 n74 w) (S2 K out_71 w)
theorem S21_ok (kc5:Cur g5):OkT pr false none 49 g5 (S21 (Kt Kv) kc5) (lp (blk (tl 1 (s1 (tl 2 bd))))) (P6 Kv kc5):=ok_group mixed FOk_ 2 (Q20 Kv kc5) fun v ρ w=>by kernel_rfl
def L5 (K:KT):Cur g5:=loopC g5 (S21 K)
theorem L5_ok:OkT pr false none 49 g5 (L5 (Kt Kv)) (blk (tl 1 (s1 (tl 2 bd)))) (P4 Kv):=ok_loop (B:=S21 (Kt Kv)) (by kernel_rfl) fun kc=>S21_ok Kv kc
theorem L5_ind {K:KT} {out_4:Sl} {l5:Sl} {n6:Int} {n7:Int} {w:World} (h:∀ X:Cur g5,(∀ out_4 l5 n6 n7 w,S21 K X out_4 l5 n6 n7 w→X out_4 l5 n6 n7 w)→X out_4 l5 n6 n7 w):L5 K out_4 l5 n6 n7 w:=fun X hX=>h X fun out_4 l5 n6 n7 w hb=>hX (out_4,l5,n6,n7,()) w hb
theorem B22:OkT pr false none 49 g5 (L5 (Kt Kv)) (tl 1 (s1 (tl 2 bd))) (P3 Kv):=ok_block 0 (by kernel_rfl) (L5_ok Kv)
abbrev g23:List SE:=[.v 0 .sl,.v 3 .sl]
def S23 (K:KT) (l_75:Sl) (out_76:Sl) (w:World):Prop :=
 L5 K out_76 l_75 ((l_75.n:Nat):Int) 0 w
theorem S23_ok:OkT pr false none 49 g23 (S23 (Kt Kv)) (s1 (tl 2 bd)) (P3 Kv):=ok_group mixed FOk_ 1 (B22 Kv) fun v ρ w=>by kernel_rfl
theorem Q24:OkT pr false none 49 g23 (S23 (Kt Kv)) (tl 2 bd) (P1 Kv):=ok_seq (by kernel_rfl) (S2_ok Kv) (S23_ok Kv)
end tocsinref10_Sorted
def tocsinref10_Sorted (l_2:Sl) (w:World) (K:tocsinref10_Sorted.KT):Prop :=
 tocsinref10_Sorted.S23 K l_2 nilS w
def tocsinref10_Sorted.cl:CL:=fun args K w=>match args with
 | [.slice x0_a x0_n x0_c]=>C.tocsinref10_Sorted ⟨x0_a,x0_n,x0_c⟩ w (tocsinref10_Sorted.Kt K)
 | _=>False
theorem tocsinref10_Sorted.clok:OkC pr 19 tocsinref10_Sorted.cl:=by
 intro args K w h
 unfold tocsinref10_Sorted.cl at h
 split at h
 ·exact calls_group false mixed tocsinref10_Sorted.FOk_ tocsinref10_Sorted.fn rfl 2 (tocsinref10_Sorted.Q24 K) (Eq.mp (by kernel_rfl) h)
 ·exact h.elim
namespace tocsinref04_Same
abbrev KT:=Bool→World→Prop
def Kt:KT:=fun b1 w=>Kv (.bool b1) w
noncomputable def bd:Code:=bdy Tryz.f28
theorem fn:FnOk pr 28 9 Tryz.f28:=⟨Tryz.func28,by kernel_rfl,Tryz.ntmps28,by kernel_rfl,by kernel_rfl⟩
def F:Clee:=ofL [(58,C.tocsinref04_Compare.cl)]
theorem FOk_:FOk pr F:=FOk_cons C.tocsinref04_Compare.clok (FOk_nil)
def P1:Post:=bodyK false pr 9 Tryz.f28 Kv
end tocsinref04_Same
def tocsinref04_Same (a_2:Sl) (b_3:Sl) (w:World) (K:tocsinref04_Same.KT):Prop :=
 C.tocsinref04_Compare a_2 b_3 w fun n4 w5=>K (n4==0) w5
def tocsinref04_Same.cl:CL:=fun args K w=>match args with
 | [.slice x0_a x0_n x0_c,.slice x1_a x1_n x1_c]=>C.tocsinref04_Same ⟨x0_a,x0_n,x0_c⟩ ⟨x1_a,x1_n,x1_c⟩ w (tocsinref04_Same.Kt K)
 | _=>False
theorem tocsinref04_Same.clok:OkC pr 28 tocsinref04_Same.cl:=by
 intro args K w h
 unfold tocsinref04_Same.cl at h
 split at h
 ·exact calls_last false mixed tocsinref04_Same.FOk_ tocsinref04_Same.fn rfl (Eq.mp (by kernel_rfl) h)
 ·exact h.elim
namespace tocsinref01_joined
abbrev KT:=Sl→World→Prop
def Kt:KT:=fun l1 w=>Kv l1.v w
noncomputable def bd:Code:=bdy Tryz.f92
theorem fn:FnOk pr 92 13 Tryz.f92:=⟨Tryz.func92,by kernel_rfl,Tryz.ntmps92,by kernel_rfl,by kernel_rfl⟩
def F:Clee:=ofL []
theorem FOk_:FOk pr F:=FOk_nil
def P1:Post:=bodyK false pr 13 Tryz.f92 Kv
end tocsinref01_joined
def tocsinref01_joined (b_2:Sl) (c_3:Sl) (w:World) (K:tocsinref01_joined.KT):Prop :=
 G.runSl pr (Builtin.append_ #[22,22] 22 #[nilS.v,b_2.v]) w fun l4 w5=>G.runSl pr (Builtin.append_ #[22,22] 22 #[l4.v,c_3.v]) w5 fun l6 w7=>K l6 w7
def tocsinref01_joined.cl:CL:=fun args K w=>match args with
 | [.slice x0_a x0_n x0_c,.slice x1_a x1_n x1_c]=>C.tocsinref01_joined ⟨x0_a,x0_n,x0_c⟩ ⟨x1_a,x1_n,x1_c⟩ w (tocsinref01_joined.Kt K)
 | _=>False
theorem tocsinref01_joined.clok:OkC pr 92 tocsinref01_joined.cl:=by
 intro args K w h
 unfold tocsinref01_joined.cl at h
 split at h
 ·exact calls_last false mixed tocsinref01_joined.FOk_ tocsinref01_joined.fn rfl (Eq.mp (by kernel_rfl) h)
 ·exact h.elim
namespace tocsinref01_PutU
abbrev KT:=Sl→World→Prop
def Kt:KT:=fun l1 w=>Kv l1.v w
noncomputable def bd:Code:=bdy Tryz.f55
theorem fn:FnOk pr 55 25 Tryz.f55:=⟨Tryz.func55,by kernel_rfl,Tryz.ntmps55,by kernel_rfl,by kernel_rfl⟩
def F:Clee:=ofL [(92,C.tocsinref01_joined.cl)]
theorem FOk_:FOk pr F:=FOk_cons C.tocsinref01_joined.clok (FOk_nil)
def P1:Post:=bodyK false pr 25 Tryz.f55 Kv
abbrev g2:List SE:=[.v 0 .sl,.v 1 (.int .u64),.v 5 .sl]
def S2 (K:KT) (b_4:Sl) (n_5:Int) (d_6:Sl) (w:World):Prop :=
 G.new (.cells #[(.int .u8 (IntKind.u8.wrap n_5))] 5) w fun p7 w8=>G.runSl pr (Builtin.append_ #[22,22] 22 #[d_6.v,(Sl.v (⟨some p7,1,1⟩:Sl))]) w8 fun l9 w10=>C.tocsinref01_joined b_4 l9 w10 fun l11 w12=>K l11 w12
theorem S2_ok:OkT pr false none 25 g2 (S2 (Kt Kv)) (s2 (tl 2 bd)) (P1 Kv):=ok_last mixed FOk_ fun v ρ w=>by kernel_rfl
def P3:Post:=next (get g2 (S2 (Kt Kv))) (P1 Kv)
def P4:Post:=inBlock 0 (P3 Kv)
def P6 (kc5:Cur g2):Post:=next (get g2 kc5) (P4 Kv)
def S7 (K:KT) (kc5:Cur g2) (b_19:Sl) (n_20:Int) (d_21:Sl) (w:World):Prop :=
 G.cond (decide (n_20 ≥ 128)) (G.nz 128<|G.new (.cells #[(.int .u8 (IntKind.u8.wrap ((IntKind.u8.wrap (Int.tmod n_20 128))+128)))] 5) w fun p22 w23=>G.runSl pr (Builtin.append_ #[22,22] 22 #[d_21.v,(Sl.v (⟨some p22,1,1⟩:Sl))]) w23 fun l24 w25=>G.nz 128<|kc5 b_19 (IntKind.u64.wrap (Int.tdiv n_20 128)) l24 w25) (S2 K b_19 n_20 d_21 w)
theorem S7_ok (kc5:Cur g2):OkT pr false none 25 g2 (S7 (Kt Kv) kc5) (lp (blk (s1 (tl 2 bd)))) (P6 Kv kc5):=ok_last mixed FOk_ fun v ρ w=>by kernel_rfl
def L5 (K:KT):Cur g2:=loopC g2 (S7 K)
theorem L5_ok:OkT pr false none 25 g2 (L5 (Kt Kv)) (blk (s1 (tl 2 bd))) (P4 Kv):=ok_loop (B:=S7 (Kt Kv)) (by kernel_rfl) fun kc=>S7_ok Kv kc
theorem L5_ind {K:KT} {b_13:Sl} {n_14:Int} {d_15:Sl} {w:World} (h:∀ X:Cur g2,(∀ b_13 n_14 d_15 w,S7 K X b_13 n_14 d_15 w→X b_13 n_14 d_15 w)→X b_13 n_14 d_15 w):L5 K b_13 n_14 d_15 w:=fun X hX=>h X fun b_13 n_14 d_15 w hb=>hX (b_13,n_14,d_15,()) w hb
theorem B8:OkT pr false none 25 g2 (L5 (Kt Kv)) (s1 (tl 2 bd)) (P3 Kv):=ok_block 0 (by kernel_rfl) (L5_ok Kv)
theorem Q9:OkT pr false none 25 g2 (L5 (Kt Kv)) (tl 2 bd) (P1 Kv):=ok_seq (by kernel_rfl) (S2_ok Kv) (B8 Kv)
end tocsinref01_PutU
def tocsinref01_PutU (b_2:Sl) (n_3:Int) (w:World) (K:tocsinref01_PutU.KT):Prop :=
 tocsinref01_PutU.L5 K b_2 n_3 nilS w
def tocsinref01_PutU.cl:CL:=fun args K w=>match args with
 | [.slice x0_a x0_n x0_c,.int .u64 x1]=>C.tocsinref01_PutU ⟨x0_a,x0_n,x0_c⟩ x1 w (tocsinref01_PutU.Kt K)
 | _=>False
theorem tocsinref01_PutU.clok:OkC pr 55 tocsinref01_PutU.cl:=by
 intro args K w h
 unfold tocsinref01_PutU.cl at h
 split at h
 ·exact calls_group false mixed tocsinref01_PutU.FOk_ tocsinref01_PutU.fn rfl 2 (tocsinref01_PutU.Q9 K) (Eq.mp (by kernel_rfl) h)
 ·exact h.elim
namespace tocsinref08_New
abbrev KT:=Option Addr→World→Prop
def Kt:KT:=fun p1 w=>Kv (.pointer p1) w
noncomputable def bd:Code:=bdy Tryz.f144
theorem fn:FnOk pr 144 3 Tryz.f144:=⟨Tryz.func144,by kernel_rfl,Tryz.ntmps144,by kernel_rfl,by kernel_rfl⟩
def F:Clee:=ofL []
theorem FOk_:FOk pr F:=FOk_nil
def P1:Post:=bodyK false pr 3 Tryz.f144 Kv
end tocsinref08_New
def tocsinref08_New (w:World) (K:tocsinref08_New.KT):Prop :=
 G.new (.cells #[(.int .i64 0),(.int .i64 0),(.int .u64 0),(.int .i64 64),(.int .i64 0)] 196) w fun p2 w3=>K (some p2) w3
def tocsinref08_New.cl:CL:=fun args K w=>match args with
 | []=>C.tocsinref08_New w (tocsinref08_New.Kt K)
 | _=>False
theorem tocsinref08_New.clok:OkC pr 144 tocsinref08_New.cl:=by
 intro args K w h
 unfold tocsinref08_New.cl at h
 split at h
 ·exact calls_last false mixed tocsinref08_New.FOk_ tocsinref08_New.fn rfl (Eq.mp (by kernel_rfl) h)
 ·exact h.elim
namespace tocsinref08_Bits
abbrev KT:=Int→World→Prop
def Kt:KT:=fun n1 w=>Kv (.int .u64 n1) w
noncomputable def bd:Code:=bdy Tryz.f66
theorem fn:FnOk pr 66 5 Tryz.f66:=⟨Tryz.func66,by kernel_rfl,Tryz.ntmps66,by kernel_rfl,by kernel_rfl⟩
def F:Clee:=ofL [(100,C.math_Float64bits.cl)]
theorem FOk_:FOk pr F:=FOk_consX C.math_Float64bits.clok (FOk_nil)
def P1:Post:=bodyK false pr 5 Tryz.f66 Kv
end tocsinref08_Bits
def tocsinref08_Bits (v_2:Nat) (w:World) (K:tocsinref08_Bits.KT):Prop :=
 C.math_Float64bits v_2 w fun n3 w4=>K n3 w4
def tocsinref08_Bits.cl:CL:=fun args K w=>match args with
 | [.float .f64 x0]=>C.tocsinref08_Bits x0 w (tocsinref08_Bits.Kt K)
 | _=>False
theorem tocsinref08_Bits.clok:OkC pr 66 tocsinref08_Bits.cl:=by
 intro args K w h
 unfold tocsinref08_Bits.cl at h
 split at h
 ·exact calls_last false mixed tocsinref08_Bits.FOk_ tocsinref08_Bits.fn rfl (Eq.mp (by kernel_rfl) h)
 ·exact h.elim
namespace tocsinref02_Stream_Write
abbrev KT:=World→Prop
def Kt:KT:=fun  w=>Kv (.tuple #[]) w
noncomputable def bd:Code:=bdy Tryz.f185
theorem fn:FnOk pr 185 28 Tryz.f185:=⟨Tryz.func185,by kernel_rfl,Tryz.ntmps185,by kernel_rfl,by kernel_rfl⟩
def F:Clee:=ofL []
theorem FOk_:FOk pr F:=FOk_nil
def P1:Post:=bodyK false pr 28 Tryz.f185 Kv
def P2:Post:=inBlock 0 (P1 Kv)
abbrev g3:List SE:=[.v 0 .ptr,.v 1 (.int .u64),.v 6 (.int .i64)]
def P4 (kc3:Cur g3):Post:=next (get g3 kc3) (P2 Kv)
def S5 (K:KT) (kc3:Cur g3) (s_10:Option Addr) (v_11:Int) (i_12:Int) (w:World):Prop :=
 G.cond (decide (i_12 ≥ 0)) (G.ptr s_10 fun p13=>G.cSl p13 w fun l14=>G.nn (IntKind.u64.wrap i_12)<|G.new (.cells #[(.bool ((Go.bits .and .u64 (shr .u64 v_11 (IntKind.u64.wrap i_12)) 1)==1))] 4) w fun p15 w16=>G.runSl pr (Builtin.append_ #[199,199] 199 #[l14.v,(Sl.v (⟨some p15,1,1⟩:Sl))]) w16 fun l17 w18=>G.ptr s_10 fun p19=>G.st p19 l17.v w18 fun w20=>kc3 s_10 v_11 (IntKind.i64.wrap (i_12-1)) w20) (K w)
theorem S5_ok (kc3:Cur g3):OkT pr false none 28 g3 (S5 (Kt Kv) kc3) (lp (blk (tl 1 bd))) (P4 Kv kc3):=ok_last mixed FOk_ fun v ρ w=>by kernel_rfl
def L3 (K:KT):Cur g3:=loopC g3 (S5 K)
theorem L3_ok:OkT pr false none 28 g3 (L3 (Kt Kv)) (blk (tl 1 bd)) (P2 Kv):=ok_loop (B:=S5 (Kt Kv)) (by kernel_rfl) fun kc=>S5_ok Kv kc
theorem L3_ind {K:KT} {s_4:Option Addr} {v_5:Int} {i_6:Int} {w:World} (h:∀ X:Cur g3,(∀ s_4 v_5 i_6 w,S5 K X s_4 v_5 i_6 w→X s_4 v_5 i_6 w)→X s_4 v_5 i_6 w):L3 K s_4 v_5 i_6 w:=fun X hX=>h X fun s_4 v_5 i_6 w hb=>hX (s_4,v_5,i_6,()) w hb
theorem B6:OkT pr false none 28 g3 (L3 (Kt Kv)) (tl 1 bd) (P1 Kv):=ok_block 0 (by kernel_rfl) (L3_ok Kv)
end tocsinref02_Stream_Write
def tocsinref02_Stream_Write (s_1:Option Addr) (v_2:Int) (n_3:Int) (w:World) (K:tocsinref02_Stream_Write.KT):Prop :=
 tocsinref02_Stream_Write.L3 K s_1 v_2 (IntKind.i64.wrap (n_3-1)) w
def tocsinref02_Stream_Write.cl:CL:=fun args K w=>match args with
 | [.pointer x0,.int .u64 x1,.int .i64 x2]=>C.tocsinref02_Stream_Write x0 x1 x2 w (tocsinref02_Stream_Write.Kt K)
 | _=>False
theorem tocsinref02_Stream_Write.clok:OkC pr 185 tocsinref02_Stream_Write.cl:=by
 intro args K w h
 unfold tocsinref02_Stream_Write.cl at h
 split at h
 ·exact calls_group false mixed tocsinref02_Stream_Write.FOk_ tocsinref02_Stream_Write.fn rfl 1 (tocsinref02_Stream_Write.B6 K) (Eq.mp (by kernel_rfl) h)
 ·exact h.elim
namespace tocsinref08_whole
abbrev KT:=World→Prop
def Kt:KT:=fun  w=>Kv (.tuple #[]) w
noncomputable def bd:Code:=bdy Tryz.f183
theorem fn:FnOk pr 183 17 Tryz.f183:=⟨Tryz.func183,by kernel_rfl,Tryz.ntmps183,by kernel_rfl,by kernel_rfl⟩
def F:Clee:=ofL [(185,C.tocsinref02_Stream_Write.cl)]
theorem FOk_:FOk pr F:=FOk_cons C.tocsinref02_Stream_Write.clok (FOk_nil)
def P1:Post:=bodyK false pr 17 Tryz.f183 Kv
def P2:Post:=inBlock 0 (P1 Kv)
abbrev g3:List SE:=[.v 0 .ptr,.v 6 .sl,.v 7 (.int .i64),.v 8 (.int .i64)]
def P4 (kc3:Cur g3):Post:=next (get g3 kc3) (P2 Kv)
def S5 (K:KT) (kc3:Cur g3) (s_11:Option Addr) (l12:Sl) (n13:Int) (n14:Int) (w:World):Prop :=
 G.cond (decide (n14<n13)) (G.ix l12.a l12.n n14 1 fun p15=>G.cI .u8 p15 w fun n16=>C.tocsinref02_Stream_Write s_11 (IntKind.u64.wrap n16) 8 w fun w17=>kc3 s_11 l12 n13 (IntKind.i64.wrap (n14+1)) w17) (K w)
theorem S5_ok (kc3:Cur g3):OkT pr false none 17 g3 (S5 (Kt Kv) kc3) (lp (blk (tl 1 bd))) (P4 Kv kc3):=ok_last mixed FOk_ fun v ρ w=>by kernel_rfl
def L3 (K:KT):Cur g3:=loopC g3 (S5 K)
theorem L3_ok:OkT pr false none 17 g3 (L3 (Kt Kv)) (blk (tl 1 bd)) (P2 Kv):=ok_loop (B:=S5 (Kt Kv)) (by kernel_rfl) fun kc=>S5_ok Kv kc
theorem L3_ind {K:KT} {s_3:Option Addr} {l4:Sl} {n5:Int} {n6:Int} {w:World} (h:∀ X:Cur g3,(∀ s_3 l4 n5 n6 w,S5 K X s_3 l4 n5 n6 w→X s_3 l4 n5 n6 w)→X s_3 l4 n5 n6 w):L3 K s_3 l4 n5 n6 w:=fun X hX=>h X fun s_3 l4 n5 n6 w hb=>hX (s_3,l4,n5,n6,()) w hb
theorem B6:OkT pr false none 17 g3 (L3 (Kt Kv)) (tl 1 bd) (P1 Kv):=ok_block 0 (by kernel_rfl) (L3_ok Kv)
end tocsinref08_whole
def tocsinref08_whole (s_1:Option Addr) (b_2:Sl) (w:World) (K:tocsinref08_whole.KT):Prop :=
 tocsinref08_whole.L3 K s_1 b_2 ((b_2.n:Nat):Int) 0 w
def tocsinref08_whole.cl:CL:=fun args K w=>match args with
 | [.pointer x0,.slice x1_a x1_n x1_c]=>C.tocsinref08_whole x0 ⟨x1_a,x1_n,x1_c⟩ w (tocsinref08_whole.Kt K)
 | _=>False
theorem tocsinref08_whole.clok:OkC pr 183 tocsinref08_whole.cl:=by
 intro args K w h
 unfold tocsinref08_whole.cl at h
 split at h
 ·exact calls_group false mixed tocsinref08_whole.FOk_ tocsinref08_whole.fn rfl 1 (tocsinref08_whole.B6 K) (Eq.mp (by kernel_rfl) h)
 ·exact h.elim
namespace tocsinref01_turn
abbrev KT:=Int→World→Prop
def Kt:KT:=fun n1 w=>Kv (.int .u64 n1) w
noncomputable def bd:Code:=bdy Tryz.f201
theorem fn:FnOk pr 201 14 Tryz.f201:=⟨Tryz.func201,by kernel_rfl,Tryz.ntmps201,by kernel_rfl,by kernel_rfl⟩
def F:Clee:=ofL []
theorem FOk_:FOk pr F:=FOk_nil
def P1:Post:=bodyK false pr 14 Tryz.f201 Kv
end tocsinref01_turn
def tocsinref01_turn (n_2:Int) (w:World) (K:tocsinref01_turn.KT):Prop :=
 G.cond (decide (n_2 ≥ 0)) (K (IntKind.u64.wrap (2*(IntKind.u64.wrap n_2))) w) (K (IntKind.u64.wrap ((IntKind.u64.wrap (2*(IntKind.u64.wrap (IntKind.i64.wrap (0-(IntKind.i64.wrap (n_2+1)))))))+1)) w)
def tocsinref01_turn.cl:CL:=fun args K w=>match args with
 | [.int .i64 x0]=>C.tocsinref01_turn x0 w (tocsinref01_turn.Kt K)
 | _=>False
theorem tocsinref01_turn.clok:OkC pr 201 tocsinref01_turn.cl:=by
 intro args K w h
 unfold tocsinref01_turn.cl at h
 split at h
 ·exact calls_last false mixed tocsinref01_turn.FOk_ tocsinref01_turn.fn rfl (Eq.mp (by kernel_rfl) h)
 ·exact h.elim
namespace tocsinref01_PutI
abbrev KT:=Sl→World→Prop
def Kt:KT:=fun l1 w=>Kv l1.v w
noncomputable def bd:Code:=bdy Tryz.f184
theorem fn:FnOk pr 184 9 Tryz.f184:=⟨Tryz.func184,by kernel_rfl,Tryz.ntmps184,by kernel_rfl,by kernel_rfl⟩
def F:Clee:=ofL [(55,C.tocsinref01_PutU.cl),(201,C.tocsinref01_turn.cl)]
theorem FOk_:FOk pr F:=FOk_cons C.tocsinref01_PutU.clok (FOk_cons C.tocsinref01_turn.clok (FOk_nil))
def P1:Post:=bodyK false pr 9 Tryz.f184 Kv
end tocsinref01_PutI
def tocsinref01_PutI (b_2:Sl) (n_3:Int) (w:World) (K:tocsinref01_PutI.KT):Prop :=
 C.tocsinref01_turn n_3 w fun n4 w5=>C.tocsinref01_PutU b_2 n4 w5 fun l6 w7=>K l6 w7
def tocsinref01_PutI.cl:CL:=fun args K w=>match args with
 | [.slice x0_a x0_n x0_c,.int .i64 x1]=>C.tocsinref01_PutI ⟨x0_a,x0_n,x0_c⟩ x1 w (tocsinref01_PutI.Kt K)
 | _=>False
theorem tocsinref01_PutI.clok:OkC pr 184 tocsinref01_PutI.cl:=by
 intro args K w h
 unfold tocsinref01_PutI.cl at h
 split at h
 ·exact calls_last false mixed tocsinref01_PutI.FOk_ tocsinref01_PutI.fn rfl (Eq.mp (by kernel_rfl) h)
 ·exact h.elim
namespace tocsinref08_lead
abbrev KT:=Int→World→Prop
def Kt:KT:=fun n1 w=>Kv (.int .i64 n1) w
noncomputable def bd:Code:=bdy Tryz.f202
theorem fn:FnOk pr 202 18 Tryz.f202:=⟨Tryz.func202,by kernel_rfl,Tryz.ntmps202,by kernel_rfl,by kernel_rfl⟩
def F:Clee:=ofL []
theorem FOk_:FOk pr F:=FOk_nil
def P1:Post:=bodyK false pr 18 Tryz.f202 Kv
abbrev g2:List SE:=[.v 3 (.int .i64)]
def S2 (K:KT) (n_3:Int) (w:World):Prop :=
 K n_3 w
theorem S2_ok:OkT pr false none 18 g2 (S2 (Kt Kv)) (s2 (tl 2 bd)) (P1 Kv):=ok_last mixed FOk_ fun v ρ w=>by kernel_rfl
def P3:Post:=next (get g2 (S2 (Kt Kv))) (P1 Kv)
def P4:Post:=inBlock 0 (P3 Kv)
abbrev g5:List SE:=[.v 0 (.int .u64),.v 3 (.int .i64)]
def P6 (kc5:Cur g5):Post:=next (get g5 kc5) (P4 Kv)
def S7 (K:KT) (kc5:Cur g5) (x_6:Int) (n_7:Int) (w:World):Prop :=
 G.cond (decide (n_7<31)) (G.nn (IntKind.u64.wrap (IntKind.i64.wrap (63-n_7)))<|G.cond ((Go.bits .and .u64 (shr .u64 x_6 (IntKind.u64.wrap (IntKind.i64.wrap (63-n_7)))) 1)==0) (kc5 x_6 (IntKind.i64.wrap (n_7+1)) w) (S2 K n_7 w)) (S2 K n_7 w)
theorem S7_ok (kc5:Cur g5):OkT pr false none 18 g5 (S7 (Kt Kv) kc5) (lp (blk (s1 (tl 2 bd)))) (P6 Kv kc5):=ok_last mixed FOk_ fun v ρ w=>by kernel_rfl
def L5 (K:KT):Cur g5:=loopC g5 (S7 K)
theorem L5_ok:OkT pr false none 18 g5 (L5 (Kt Kv)) (blk (s1 (tl 2 bd))) (P4 Kv):=ok_loop (B:=S7 (Kt Kv)) (by kernel_rfl) fun kc=>S7_ok Kv kc
theorem L5_ind {K:KT} {x_4:Int} {n_5:Int} {w:World} (h:∀ X:Cur g5,(∀ x_4 n_5 w,S7 K X x_4 n_5 w→X x_4 n_5 w)→X x_4 n_5 w):L5 K x_4 n_5 w:=fun X hX=>h X fun x_4 n_5 w hb=>hX (x_4,n_5,()) w hb
theorem B8:OkT pr false none 18 g5 (L5 (Kt Kv)) (s1 (tl 2 bd)) (P3 Kv):=ok_block 0 (by kernel_rfl) (L5_ok Kv)
theorem Q9:OkT pr false none 18 g5 (L5 (Kt Kv)) (tl 2 bd) (P1 Kv):=ok_seq (by kernel_rfl) (S2_ok Kv) (B8 Kv)
end tocsinref08_lead
def tocsinref08_lead (x_2:Int) (w:World) (K:tocsinref08_lead.KT):Prop :=
 tocsinref08_lead.L5 K x_2 0 w
def tocsinref08_lead.cl:CL:=fun args K w=>match args with
 | [.int .u64 x0]=>C.tocsinref08_lead x0 w (tocsinref08_lead.Kt K)
 | _=>False
theorem tocsinref08_lead.clok:OkC pr 202 tocsinref08_lead.cl:=by
 intro args K w h
 unfold tocsinref08_lead.cl at h
 split at h
 ·exact calls_group false mixed tocsinref08_lead.FOk_ tocsinref08_lead.fn rfl 2 (tocsinref08_lead.Q9 K) (Eq.mp (by kernel_rfl) h)
 ·exact h.elim
namespace tocsinref08_trail
abbrev KT:=Int→World→Prop
def Kt:KT:=fun n1 w=>Kv (.int .i64 n1) w
noncomputable def bd:Code:=bdy Tryz.f203
theorem fn:FnOk pr 203 13 Tryz.f203:=⟨Tryz.func203,by kernel_rfl,Tryz.ntmps203,by kernel_rfl,by kernel_rfl⟩
def F:Clee:=ofL []
theorem FOk_:FOk pr F:=FOk_nil
def P1:Post:=bodyK false pr 13 Tryz.f203 Kv
abbrev g2:List SE:=[.v 3 (.int .i64)]
def S2 (K:KT) (n_3:Int) (w:World):Prop :=
 K n_3 w
theorem S2_ok:OkT pr false none 13 g2 (S2 (Kt Kv)) (s2 (tl 2 bd)) (P1 Kv):=ok_last mixed FOk_ fun v ρ w=>by kernel_rfl
def P3:Post:=next (get g2 (S2 (Kt Kv))) (P1 Kv)
def P4:Post:=inBlock 0 (P3 Kv)
abbrev g5:List SE:=[.v 0 (.int .u64),.v 3 (.int .i64)]
def P6 (kc5:Cur g5):Post:=next (get g5 kc5) (P4 Kv)
def S7 (K:KT) (kc5:Cur g5) (x_6:Int) (n_7:Int) (w:World):Prop :=
 G.nn (IntKind.u64.wrap n_7)<|G.cond ((Go.bits .and .u64 (shr .u64 x_6 (IntKind.u64.wrap n_7)) 1)==0) (kc5 x_6 (IntKind.i64.wrap (n_7+1)) w) (S2 K n_7 w)
theorem S7_ok (kc5:Cur g5):OkT pr false none 13 g5 (S7 (Kt Kv) kc5) (lp (blk (s1 (tl 2 bd)))) (P6 Kv kc5):=ok_last mixed FOk_ fun v ρ w=>by kernel_rfl
def L5 (K:KT):Cur g5:=loopC g5 (S7 K)
theorem L5_ok:OkT pr false none 13 g5 (L5 (Kt Kv)) (blk (s1 (tl 2 bd))) (P4 Kv):=ok_loop (B:=S7 (Kt Kv)) (by kernel_rfl) fun kc=>S7_ok Kv kc
theorem L5_ind {K:KT} {x_4:Int} {n_5:Int} {w:World} (h:∀ X:Cur g5,(∀ x_4 n_5 w,S7 K X x_4 n_5 w→X x_4 n_5 w)→X x_4 n_5 w):L5 K x_4 n_5 w:=fun X hX=>h X fun x_4 n_5 w hb=>hX (x_4,n_5,()) w hb
theorem B8:OkT pr false none 13 g5 (L5 (Kt Kv)) (s1 (tl 2 bd)) (P3 Kv):=ok_block 0 (by kernel_rfl) (L5_ok Kv)
theorem Q9:OkT pr false none 13 g5 (L5 (Kt Kv)) (tl 2 bd) (P1 Kv):=ok_seq (by kernel_rfl) (S2_ok Kv) (B8 Kv)
end tocsinref08_trail
def tocsinref08_trail (x_2:Int) (w:World) (K:tocsinref08_trail.KT):Prop :=
 tocsinref08_trail.L5 K x_2 0 w
def tocsinref08_trail.cl:CL:=fun args K w=>match args with
 | [.int .u64 x0]=>C.tocsinref08_trail x0 w (tocsinref08_trail.Kt K)
 | _=>False
theorem tocsinref08_trail.clok:OkC pr 203 tocsinref08_trail.cl:=by
 intro args K w h
 unfold tocsinref08_trail.cl at h
 split at h
 ·exact calls_group false mixed tocsinref08_trail.FOk_ tocsinref08_trail.fn rfl 2 (tocsinref08_trail.Q9 K) (Eq.mp (by kernel_rfl) h)
 ·exact h.elim
namespace tocsinref02_Low
abbrev KT:=Int→World→Prop
def Kt:KT:=fun n1 w=>Kv (.int .u64 n1) w
noncomputable def bd:Code:=bdy Tryz.f204
theorem fn:FnOk pr 204 16 Tryz.f204:=⟨Tryz.func204,by kernel_rfl,Tryz.ntmps204,by kernel_rfl,by kernel_rfl⟩
def F:Clee:=ofL []
theorem FOk_:FOk pr F:=FOk_nil
def P1:Post:=bodyK false pr 16 Tryz.f204 Kv
end tocsinref02_Low
def tocsinref02_Low (n_2:Int) (k_3:Int) (w:World) (K:tocsinref02_Low.KT):Prop :=
 G.cond (decide (k_3 ≥ 64)) (K (IntKind.u64.wrap n_2) w) (G.nn (IntKind.u64.wrap k_3)<|K (Go.bits .and .u64 (IntKind.u64.wrap n_2) (IntKind.u64.wrap ((shl .u64 1 (IntKind.u64.wrap k_3))-1))) w)
def tocsinref02_Low.cl:CL:=fun args K w=>match args with
 | [.int .i64 x0,.int .i64 x1]=>C.tocsinref02_Low x0 x1 w (tocsinref02_Low.Kt K)
 | _=>False
theorem tocsinref02_Low.clok:OkC pr 204 tocsinref02_Low.cl:=by
 intro args K w h
 unfold tocsinref02_Low.cl at h
 split at h
 ·exact calls_last false mixed tocsinref02_Low.FOk_ tocsinref02_Low.fn rfl (Eq.mp (by kernel_rfl) h)
 ·exact h.elim
namespace tocsinref08_State_value
abbrev KT:=World→Prop
def Kt:KT:=fun  w=>Kv (.tuple #[]) w
noncomputable def bd:Code:=bdy Tryz.f186
theorem fn:FnOk pr 186 107 Tryz.f186:=⟨Tryz.func186,by kernel_rfl,Tryz.ntmps186,by kernel_rfl,by kernel_rfl⟩
def F:Clee:=ofL [(185,C.tocsinref02_Stream_Write.cl),(202,C.tocsinref08_lead.cl),(203,C.tocsinref08_trail.cl),(204,C.tocsinref02_Low.cl)]
theorem FOk_:FOk pr F:=FOk_cons C.tocsinref02_Stream_Write.clok (FOk_cons C.tocsinref08_lead.clok (FOk_cons C.tocsinref08_trail.clok (FOk_cons C.tocsinref02_Low.clok (FOk_nil))))
def P1:Post:=bodyK false pr 107 Tryz.f186 Kv
abbrev g2:List SE:=[.v 0 .ptr,.v 1 .ptr,.v 6 (.int .u64),.v 7 (.int .i64),.v 8 (.int .i64)]
def S2 (K:KT) (p_10:Option Addr) (s_11:Option Addr) (x_12:Int) (l_13:Int) (t_14:Int) (w:World):Prop :=
 C.tocsinref02_Stream_Write s_11 1 1 w fun w15=>C.tocsinref02_Stream_Write s_11 (IntKind.u64.wrap l_13) 5 w15 fun w16=>G.nz 64<|C.tocsinref02_Stream_Write s_11 (IntKind.u64.wrap (Int.tmod (IntKind.i64.wrap ((IntKind.i64.wrap (64-l_13))-t_14)) 64)) 6 w16 fun w17=>G.nn (IntKind.u64.wrap t_14)<|C.tocsinref02_Stream_Write s_11 (shr .u64 x_12 (IntKind.u64.wrap t_14)) (IntKind.i64.wrap ((IntKind.i64.wrap (64-l_13))-t_14)) w17 fun w18=>G.ptr p_10 fun p19=>G.st (p19.add 3) (.int .i64 l_13) w18 fun w20=>G.ptr p_10 fun p21=>G.st (p21.add 4) (.int .i64 t_14) w20 fun w22=>K w22
theorem S2_ok:OkT pr false none 107 g2 (S2 (Kt Kv)) (tl 6 bd) (P1 Kv):=ok_last mixed FOk_ fun v ρ w=>by kernel_rfl
end tocsinref08_State_value
def tocsinref08_State_value (p_1:Option Addr) (s_2:Option Addr) (v_3:Int) (w:World) (K:tocsinref08_State_value.KT):Prop :=
 G.ptr p_1 fun p23=>G.cI .u64 (p23.add 2) w fun n24=>G.ptr p_1 fun p25=>G.st (p25.add 2) (.int .u64 v_3) w fun w26=>G.cond ((Go.bits .xor .u64 v_3 n24)==0) (C.tocsinref02_Stream_Write s_2 0 1 w26 fun w27=>K w27) (C.tocsinref02_Stream_Write s_2 1 1 w26 fun w28=>C.tocsinref08_lead (Go.bits .xor .u64 v_3 n24) w28 fun n29 w30=>C.tocsinref08_trail (Go.bits .xor .u64 v_3 n24) w30 fun n31 w32=>G.ptr p_1 fun p33=>G.cI .i64 (p33.add 3) w32 fun n34=>G.cond (decide (n34<64)) (G.ptr p_1 fun p35=>G.cI .i64 (p35.add 3) w32 fun n36=>G.cond (decide (n29 ≥ n36)) (G.ptr p_1 fun p37=>G.cI .i64 (p37.add 4) w32 fun n38=>G.cond (decide (n31 ≥ n38)) (G.ptr p_1 fun p39=>G.cI .i64 (p39.add 3) w32.drew fun n40=>G.ptr p_1 fun p41=>G.cI .i64 (p41.add 4) w32.drew fun n42=>C.tocsinref02_Stream_Write s_2 0 1 w32.drew fun w43=>G.ptr p_1 fun p44=>G.cI .i64 (p44.add 4) w43 fun n45=>G.nn (IntKind.u64.wrap n45)<|C.tocsinref02_Low (IntKind.i64.wrap (shr .u64 (Go.bits .xor .u64 v_3 n24) (IntKind.u64.wrap n45))) (IntKind.i64.wrap ((IntKind.i64.wrap (64-n40))-n42)) w43 fun n46 w47=>C.tocsinref02_Stream_Write s_2 n46 (IntKind.i64.wrap ((IntKind.i64.wrap (64-n40))-n42)) w47 fun w48=>K w48) (tocsinref08_State_value.S2 K p_1 s_2 (Go.bits .xor .u64 v_3 n24) n29 n31 w32)) (tocsinref08_State_value.S2 K p_1 s_2 (Go.bits .xor .u64 v_3 n24) n29 n31 w32)) (tocsinref08_State_value.S2 K p_1 s_2 (Go.bits .xor .u64 v_3 n24) n29 n31 w32))
def tocsinref08_State_value.cl:CL:=fun args K w=>match args with
 | [.pointer x0,.pointer x1,.int .u64 x2]=>C.tocsinref08_State_value x0 x1 x2 w (tocsinref08_State_value.Kt K)
 | _=>False
theorem tocsinref08_State_value.clok:OkC pr 186 tocsinref08_State_value.cl:=by
 intro args K w h
 unfold tocsinref08_State_value.cl at h
 split at h
 ·exact calls_group false mixed tocsinref08_State_value.FOk_ tocsinref08_State_value.fn rfl 6 (tocsinref08_State_value.S2_ok K) (Eq.mp (by kernel_rfl) h)
 ·exact h.elim
namespace tocsinref02_In
abbrev KT:=Bool→World→Prop
def Kt:KT:=fun b1 w=>Kv (.bool b1) w
noncomputable def bd:Code:=bdy Tryz.f205
theorem fn:FnOk pr 205 20 Tryz.f205:=⟨Tryz.func205,by kernel_rfl,Tryz.ntmps205,by kernel_rfl,by kernel_rfl⟩
def F:Clee:=ofL []
theorem FOk_:FOk pr F:=FOk_nil
def P1:Post:=bodyK false pr 20 Tryz.f205 Kv
end tocsinref02_In
def tocsinref02_In (n_2:Int) (k_3:Int) (w:World) (K:tocsinref02_In.KT):Prop :=
 G.nn (IntKind.u64.wrap (IntKind.i64.wrap (k_3-1)))<|G.cond (decide (n_2 ≥ (IntKind.i64.wrap (0-(IntKind.i64.wrap ((shl .i64 1 (IntKind.u64.wrap (IntKind.i64.wrap (k_3-1))))-1)))))) (K (decide (n_2≤(shl .i64 1 (IntKind.u64.wrap (IntKind.i64.wrap (k_3-1)))))) w) (K false w)
def tocsinref02_In.cl:CL:=fun args K w=>match args with
 | [.int .i64 x0,.int .i64 x1]=>C.tocsinref02_In x0 x1 w (tocsinref02_In.Kt K)
 | _=>False
theorem tocsinref02_In.clok:OkC pr 205 tocsinref02_In.cl:=by
 intro args K w h
 unfold tocsinref02_In.cl at h
 split at h
 ·exact calls_last false mixed tocsinref02_In.FOk_ tocsinref02_In.fn rfl (Eq.mp (by kernel_rfl) h)
 ·exact h.elim
namespace tocsinref08_time
abbrev KT:=World→Prop
def Kt:KT:=fun  w=>Kv (.tuple #[]) w
noncomputable def bd:Code:=bdy Tryz.f187
theorem fn:FnOk pr 187 42 Tryz.f187:=⟨Tryz.func187,by kernel_rfl,Tryz.ntmps187,by kernel_rfl,by kernel_rfl⟩
def F:Clee:=ofL [(185,C.tocsinref02_Stream_Write.cl),(204,C.tocsinref02_Low.cl),(205,C.tocsinref02_In.cl)]
theorem FOk_:FOk pr F:=FOk_cons C.tocsinref02_Stream_Write.clok (FOk_cons C.tocsinref02_Low.clok (FOk_cons C.tocsinref02_In.clok (FOk_nil)))
def P1:Post:=bodyK false pr 42 Tryz.f187 Kv
end tocsinref08_time
def tocsinref08_time (s_1:Option Addr) (d_2:Int) (w:World) (K:tocsinref08_time.KT):Prop :=
 G.cond (d_2==0) (C.tocsinref02_Stream_Write s_1 0 1 w fun w3=>K w3) (C.tocsinref02_In d_2 14 w fun b4 w5=>G.cond b4 (C.tocsinref02_Stream_Write s_1 2 2 w5 fun w6=>C.tocsinref02_Low d_2 14 w6 fun n7 w8=>C.tocsinref02_Stream_Write s_1 n7 14 w8 fun w9=>K w9) (C.tocsinref02_In d_2 17 w5 fun b10 w11=>G.cond b10 (C.tocsinref02_Stream_Write s_1 6 3 w11 fun w12=>C.tocsinref02_Low d_2 17 w12 fun n13 w14=>C.tocsinref02_Stream_Write s_1 n13 17 w14 fun w15=>K w15) (C.tocsinref02_In d_2 20 w11 fun b16 w17=>G.cond b16 (C.tocsinref02_Stream_Write s_1 14 4 w17 fun w18=>C.tocsinref02_Low d_2 20 w18 fun n19 w20=>C.tocsinref02_Stream_Write s_1 n19 20 w20 fun w21=>K w21) (C.tocsinref02_Stream_Write s_1 15 4 w17 fun w22=>C.tocsinref02_Stream_Write s_1 (IntKind.u64.wrap d_2) 64 w22 fun w23=>K w23))))
def tocsinref08_time.cl:CL:=fun args K w=>match args with
 | [.pointer x0,.int .i64 x1]=>C.tocsinref08_time x0 x1 w (tocsinref08_time.Kt K)
 | _=>False
theorem tocsinref08_time.clok:OkC pr 187 tocsinref08_time.cl:=by
 intro args K w h
 unfold tocsinref08_time.cl at h
 split at h
 ·exact calls_last false mixed tocsinref08_time.FOk_ tocsinref08_time.fn rfl (Eq.mp (by kernel_rfl) h)
 ·exact h.elim
namespace tocsinref08_State_Put
abbrev KT:=World→Prop
def Kt:KT:=fun  w=>Kv (.tuple #[]) w
noncomputable def bd:Code:=bdy Tryz.f152
theorem fn:FnOk pr 152 80 Tryz.f152:=⟨Tryz.func152,by kernel_rfl,Tryz.ntmps152,by kernel_rfl,by kernel_rfl⟩
def F:Clee:=ofL [(55,C.tocsinref01_PutU.cl),(66,C.tocsinref08_Bits.cl),(183,C.tocsinref08_whole.cl),(184,C.tocsinref01_PutI.cl),(185,C.tocsinref02_Stream_Write.cl),(186,C.tocsinref08_State_value.cl),(187,C.tocsinref08_time.cl)]
theorem FOk_:FOk pr F:=FOk_cons C.tocsinref01_PutU.clok (FOk_cons C.tocsinref08_Bits.clok (FOk_cons C.tocsinref08_whole.clok (FOk_cons C.tocsinref01_PutI.clok (FOk_cons C.tocsinref02_Stream_Write.clok (FOk_cons C.tocsinref08_State_value.clok (FOk_cons C.tocsinref08_time.clok (FOk_nil)))))))
def P1:Post:=bodyK false pr 80 Tryz.f152 Kv
end tocsinref08_State_Put
def tocsinref08_State_Put (p_1:Option Addr) (s_2:Option Addr) (n_3:Int) (x_4:Int) (x_5:Nat) (w:World) (K:tocsinref08_State_Put.KT):Prop :=
 G.new (.cells #[(.int .i64 x_4),(.float .f64 x_5)] 96) w fun p6 w7=>G.cF .f64 (p6.add 1) w7 fun f8=>C.tocsinref08_Bits f8 w7 fun n9 w10=>G.cond (n_3==0) (G.cI .i64 p6 w10 fun n11=>C.tocsinref01_PutI nilS n11 w10 fun l12 w13=>C.tocsinref08_whole s_2 l12 w13 fun w14=>C.tocsinref02_Stream_Write s_2 n9 64 w14 fun w15=>G.ptr p_1 fun p16=>G.st (p16.add 2) (.int .u64 n9) w15 fun w17=>G.cI .i64 p6 w17 fun n18=>G.ptr p_1 fun p19=>G.st p19 (.int .i64 n18) w17 fun w20=>K w20) (G.cond (n_3==1) (G.cI .i64 p6 w10.drew fun n21=>G.ptr p_1 fun p22=>G.cI .i64 p22 w10.drew fun n23=>G.ptr p_1 fun p24=>G.st (p24.add 1) (.int .i64 (IntKind.i64.wrap (n21-n23))) w10.drew fun w25=>G.ptr p_1 fun p26=>G.cI .i64 (p26.add 1) w25 fun n27=>C.tocsinref01_PutU nilS (IntKind.u64.wrap n27) w25 fun l28 w29=>C.tocsinref08_whole s_2 l28 w29 fun w30=>C.tocsinref08_State_value p_1 s_2 n9 w30 fun w31=>G.cI .i64 p6 w31 fun n32=>G.ptr p_1 fun p33=>G.st p33 (.int .i64 n32) w31 fun w34=>K w34) (G.cI .i64 p6 w10.drew fun n35=>G.ptr p_1 fun p36=>G.cI .i64 p36 w10.drew fun n37=>G.ptr p_1 fun p38=>G.cI .i64 (p38.add 1) w10.drew fun n39=>C.tocsinref08_time s_2 (IntKind.i64.wrap ((IntKind.i64.wrap (n35-n37))-n39)) w10.drew fun w40=>G.ptr p_1 fun p41=>G.st (p41.add 1) (.int .i64 (IntKind.i64.wrap (n35-n37))) w40 fun w42=>C.tocsinref08_State_value p_1 s_2 n9 w42 fun w43=>G.cI .i64 p6 w43 fun n44=>G.ptr p_1 fun p45=>G.st p45 (.int .i64 n44) w43 fun w46=>K w46))
def tocsinref08_State_Put.cl:CL:=fun args K w=>match args with
 | [.pointer x0,.pointer x1,.int .i64 x2,.agg ⟨[.int .i64 x3_0,.float .f64 x3_1]⟩]=>C.tocsinref08_State_Put x0 x1 x2 x3_0 x3_1 w (tocsinref08_State_Put.Kt K)
 | _=>False
theorem tocsinref08_State_Put.clok:OkC pr 152 tocsinref08_State_Put.cl:=by
 intro args K w h
 unfold tocsinref08_State_Put.cl at h
 split at h
 ·exact calls_last false mixed tocsinref08_State_Put.FOk_ tocsinref08_State_Put.fn rfl (Eq.mp (by kernel_rfl) h)
 ·exact h.elim
namespace tocsinref02_Stream_Bytes
abbrev KT:=Sl→World→Prop
def Kt:KT:=fun l1 w=>Kv l1.v w
noncomputable def bd:Code:=bdy Tryz.f153
theorem fn:FnOk pr 153 41 Tryz.f153:=⟨Tryz.func153,by kernel_rfl,Tryz.ntmps153,by kernel_rfl,by kernel_rfl⟩
def F:Clee:=ofL []
theorem FOk_:FOk pr F:=FOk_nil
def P1:Post:=bodyK false pr 41 Tryz.f153 Kv
abbrev g2:List SE:=[.v 3 .sl]
def S2 (K:KT) (out_3:Sl) (w:World):Prop :=
 K out_3 w
theorem S2_ok:OkT pr false none 41 g2 (S2 (Kt Kv)) (s2 (tl 2 bd)) (P1 Kv):=ok_last mixed FOk_ fun v ρ w=>by kernel_rfl
def P3:Post:=next (get g2 (S2 (Kt Kv))) (P1 Kv)
def P4:Post:=inBlock 0 (P3 Kv)
abbrev g5:List SE:=[.v 3 .sl,.v 17 .sl,.v 18 (.int .i64),.v 19 (.int .i64)]
def P6 (kc5:Cur g5):Post:=next (get g5 kc5) (P4 Kv)
def S7 (K:KT) (kc5:Cur g5) (out_12:Sl) (l13:Sl) (n14:Int) (n15:Int) (w:World):Prop :=
 G.cond (decide (n15<n14)) (G.ix l13.a l13.n n15 1 fun p16=>G.cB p16 w fun b17=>G.cond b17 (G.nz 8<|G.nz 8<|G.ix out_12.a out_12.n (IntKind.i64.wrap (Int.tdiv n15 8)) 1 fun p18=>G.cI .u8 p18 w fun n19=>G.nz 8<|G.nn (IntKind.u64.wrap (Int.tmod n15 8))<|G.ix out_12.a out_12.n (IntKind.i64.wrap (Int.tdiv n15 8)) 1 fun p20=>G.st p20 (.int .u8 (Go.bits .or .u8 n19 (shr .u8 128 (IntKind.u64.wrap (Int.tmod n15 8))))) w fun w21=>kc5 out_12 l13 n14 (IntKind.i64.wrap (n15+1)) w21) (kc5 out_12 l13 n14 (IntKind.i64.wrap (n15+1)) w)) (S2 K out_12 w)
theorem S7_ok (kc5:Cur g5):OkT pr false none 41 g5 (S7 (Kt Kv) kc5) (lp (blk (tl 1 (s1 (tl 2 bd))))) (P6 Kv kc5):=ok_last mixed FOk_ fun v ρ w=>by kernel_rfl
def L5 (K:KT):Cur g5:=loopC g5 (S7 K)
theorem L5_ok:OkT pr false none 41 g5 (L5 (Kt Kv)) (blk (tl 1 (s1 (tl 2 bd)))) (P4 Kv):=ok_loop (B:=S7 (Kt Kv)) (by kernel_rfl) fun kc=>S7_ok Kv kc
theorem L5_ind {K:KT} {out_4:Sl} {l5:Sl} {n6:Int} {n7:Int} {w:World} (h:∀ X:Cur g5,(∀ out_4 l5 n6 n7 w,S7 K X out_4 l5 n6 n7 w→X out_4 l5 n6 n7 w)→X out_4 l5 n6 n7 w):L5 K out_4 l5 n6 n7 w:=fun X hX=>h X fun out_4 l5 n6 n7 w hb=>hX (out_4,l5,n6,n7,()) w hb
theorem B8:OkT pr false none 41 g5 (L5 (Kt Kv)) (tl 1 (s1 (tl 2 bd))) (P3 Kv):=ok_block 0 (by kernel_rfl) (L5_ok Kv)
abbrev g9:List SE:=[.v 0 .ptr,.v 3 .sl]
def S9 (K:KT) (s_22:Option Addr) (out_23:Sl) (w:World):Prop :=
 G.ptr s_22 fun p24=>G.cSl p24 w fun l25=>L5 K out_23 l25 ((l25.n:Nat):Int) 0 w
theorem S9_ok:OkT pr false none 41 g9 (S9 (Kt Kv)) (s1 (tl 2 bd)) (P3 Kv):=ok_group mixed FOk_ 1 (B8 Kv) fun v ρ w=>by kernel_rfl
theorem Q10:OkT pr false none 41 g9 (S9 (Kt Kv)) (tl 2 bd) (P1 Kv):=ok_seq (by kernel_rfl) (S2_ok Kv) (S9_ok Kv)
end tocsinref02_Stream_Bytes
def tocsinref02_Stream_Bytes (s_2:Option Addr) (w:World) (K:tocsinref02_Stream_Bytes.KT):Prop :=
 G.ptr s_2 fun p26=>G.cSl p26 w fun l27=>G.nz 8<|G.runSl pr (Instr.makeSlice 22 (.int .i64 (IntKind.i64.wrap (Int.tdiv (IntKind.i64.wrap (((l27.n:Nat):Int)+7)) 8))) (.int .i64 (IntKind.i64.wrap (Int.tdiv (IntKind.i64.wrap (((l27.n:Nat):Int)+7)) 8)))) w fun l28 w29=>tocsinref02_Stream_Bytes.S9 K s_2 l28 w29
def tocsinref02_Stream_Bytes.cl:CL:=fun args K w=>match args with
 | [.pointer x0]=>C.tocsinref02_Stream_Bytes x0 w (tocsinref02_Stream_Bytes.Kt K)
 | _=>False
theorem tocsinref02_Stream_Bytes.clok:OkC pr 153 tocsinref02_Stream_Bytes.cl:=by
 intro args K w h
 unfold tocsinref02_Stream_Bytes.cl at h
 split at h
 ·exact calls_group false mixed tocsinref02_Stream_Bytes.FOk_ tocsinref02_Stream_Bytes.fn rfl 2 (tocsinref02_Stream_Bytes.Q10 K) (Eq.mp (by kernel_rfl) h)
 ·exact h.elim
namespace tocsinref08_Bytes
abbrev KT:=Sl→World→Prop
def Kt:KT:=fun l1 w=>Kv l1.v w
noncomputable def bd:Code:=bdy Tryz.f119
theorem fn:FnOk pr 119 37 Tryz.f119:=⟨Tryz.func119,by kernel_rfl,Tryz.ntmps119,by kernel_rfl,by kernel_rfl⟩
def F:Clee:=ofL [(144,C.tocsinref08_New.cl),(152,C.tocsinref08_State_Put.cl),(153,C.tocsinref02_Stream_Bytes.cl)]
theorem FOk_:FOk pr F:=FOk_cons C.tocsinref08_New.clok (FOk_cons C.tocsinref08_State_Put.clok (FOk_cons C.tocsinref02_Stream_Bytes.clok (FOk_nil)))
def P1:Post:=bodyK false pr 37 Tryz.f119 Kv
abbrev g2:List SE:=[.v 0 .sl,.v 3 .ptr]
def S2 (K:KT) (l_3:Sl) (s_4:Option Addr) (w:World):Prop :=
 G.nn 8<|G.new (.cells #[(.int .u8 (IntKind.u8.wrap (shr .i64 ((l_3.n:Nat):Int) 8))),(.int .u8 (IntKind.u8.wrap ((l_3.n:Nat):Int)))] 5) w fun p5 w6=>C.tocsinref02_Stream_Bytes s_4 w6 fun l7 w8=>G.runSl pr (Builtin.append_ #[22,22] 22 #[(Sl.v (⟨some p5,2,2⟩:Sl)),l7.v]) w8 fun l9 w10=>K l9 w10
theorem S2_ok:OkT pr false none 37 g2 (S2 (Kt Kv)) (s2 (tl 2 bd)) (P1 Kv):=ok_last mixed FOk_ fun v ρ w=>by kernel_rfl
def P3:Post:=next (get g2 (S2 (Kt Kv))) (P1 Kv)
def P4:Post:=inBlock 0 (P3 Kv)
abbrev g5:List SE:=[.v 0 .sl,.v 3 .ptr,.v 4 .ptr,.v 11 .sl,.v 12 (.int .i64),.v 13 (.int .i64)]
def P6 (kc5:Cur g5):Post:=next (get g5 kc5) (P4 Kv)
def S7 (K:KT) (kc5:Cur g5) (l_23:Sl) (s_24:Option Addr) (p_25:Option Addr) (l26:Sl) (n27:Int) (n28:Int) (w:World):Prop :=
 G.cond (decide (n28<n27)) (G.ix l26.a l26.n n28 2 fun p29=>G.cI .i64 p29 w fun n30=>G.cF .f64 (p29.add 1) w fun f31=>G.new (.cells #[(.int .i64 0),(.float .f64 0)] 96) w fun p32 w33=>G.st p32 (.int .i64 n30) w33 fun w34=>G.st (p32.add 1) (.float .f64 f31) w34 fun w35=>G.cI .i64 p32 w35 fun n36=>G.cF .f64 (p32.add 1) w35 fun f37=>C.tocsinref08_State_Put p_25 s_24 n28 n36 f37 w35 fun w38=>kc5 l_23 s_24 p_25 l26 n27 (IntKind.i64.wrap (n28+1)) w38) (S2 K l_23 s_24 w)
theorem S7_ok (kc5:Cur g5):OkT pr false none 37 g5 (S7 (Kt Kv) kc5) (lp (blk (tl 1 (s1 (tl 2 bd))))) (P6 Kv kc5):=ok_last mixed FOk_ fun v ρ w=>by kernel_rfl
def L5 (K:KT):Cur g5:=loopC g5 (S7 K)
theorem L5_ok:OkT pr false none 37 g5 (L5 (Kt Kv)) (blk (tl 1 (s1 (tl 2 bd)))) (P4 Kv):=ok_loop (B:=S7 (Kt Kv)) (by kernel_rfl) fun kc=>S7_ok Kv kc
theorem L5_ind {K:KT} {l_11:Sl} {s_12:Option Addr} {p_13:Option Addr} {l14:Sl} {n15:Int} {n16:Int} {w:World} (h:∀ X:Cur g5,(∀ l_11 s_12 p_13 l14 n15 n16 w,S7 K X l_11 s_12 p_13 l14 n15 n16 w→X l_11 s_12 p_13 l14 n15 n16 w)→X l_11 s_12 p_13 l14 n15 n16 w):L5 K l_11 s_12 p_13 l14 n15 n16 w:=fun X hX=>h X fun l_11 s_12 p_13 l14 n15 n16 w hb=>hX (l_11,s_12,p_13,l14,n15,n16,()) w hb
theorem B8:OkT pr false none 37 g5 (L5 (Kt Kv)) (tl 1 (s1 (tl 2 bd))) (P3 Kv):=ok_block 0 (by kernel_rfl) (L5_ok Kv)
abbrev g9:List SE:=[.v 0 .sl,.v 3 .ptr,.v 4 .ptr]
def S9 (K:KT) (l_39:Sl) (s_40:Option Addr) (p_41:Option Addr) (w:World):Prop :=
 L5 K l_39 s_40 p_41 l_39 ((l_39.n:Nat):Int) 0 w
theorem S9_ok:OkT pr false none 37 g9 (S9 (Kt Kv)) (s1 (tl 2 bd)) (P3 Kv):=ok_group mixed FOk_ 1 (B8 Kv) fun v ρ w=>by kernel_rfl
theorem Q10:OkT pr false none 37 g9 (S9 (Kt Kv)) (tl 2 bd) (P1 Kv):=ok_seq (by kernel_rfl) (S2_ok Kv) (S9_ok Kv)
end tocsinref08_Bytes
def tocsinref08_Bytes (l_2:Sl) (w:World) (K:tocsinref08_Bytes.KT):Prop :=
 G.new (.cells #[nilS.v,(.int .i64 0)] 201) w fun p42 w43=>C.tocsinref08_New w43 fun p44 w45=>tocsinref08_Bytes.S9 K l_2 (some p42) p44 w45
def tocsinref08_Bytes.cl:CL:=fun args K w=>match args with
 | [.slice x0_a x0_n x0_c]=>C.tocsinref08_Bytes ⟨x0_a,x0_n,x0_c⟩ w (tocsinref08_Bytes.Kt K)
 | _=>False
theorem tocsinref08_Bytes.clok:OkC pr 119 tocsinref08_Bytes.cl:=by
 intro args K w h
 unfold tocsinref08_Bytes.cl at h
 split at h
 ·exact calls_group false mixed tocsinref08_Bytes.FOk_ tocsinref08_Bytes.fn rfl 2 (tocsinref08_Bytes.Q10 K) (Eq.mp (by kernel_rfl) h)
 ·exact h.elim
namespace tocsinref08_Split
abbrev KT:=Sl→Int→Int→World→Prop
def Kt:KT:=fun l1 n2 n3 w=>Kv (.tuple #[l1.v,(.int .i64 n2),(.int .i64 n3)]) w
noncomputable def bd:Code:=bdy Tryz.f94
theorem fn:FnOk pr 94 64 Tryz.f94:=⟨Tryz.func94,by kernel_rfl,Tryz.ntmps94,by kernel_rfl,by kernel_rfl⟩
def F:Clee:=ofL [(119,C.tocsinref08_Bytes.cl)]
theorem FOk_:FOk pr F:=FOk_cons C.tocsinref08_Bytes.clok (FOk_nil)
def P1:Post:=bodyK false pr 64 Tryz.f94 Kv
abbrev g2:List SE:=[.v 7 .sl]
def S2 (K:KT) (out_5:Sl) (w:World):Prop :=
 K out_5 0 0 w
theorem S2_ok:OkT pr false none 64 g2 (S2 (Kt Kv)) (s2 (tl 1 (s2 (tl 1 bd)))) (P1 Kv):=ok_last mixed FOk_ fun v ρ w=>by kernel_rfl
def P3:Post:=next (get g2 (S2 (Kt Kv))) (P1 Kv)
def P4:Post:=inBlock 2 (P3 Kv)
abbrev g5:List SE:=[.v 0 .sl,.v 7 .sl,.v 8 (.int .i64)]
def P6 (kc5:Cur g5):Post:=next (get g5 kc5) (P4 Kv)
def S7 (K:KT) (kc5:Cur g5) (l_12:Sl) (out_13:Sl) (from_14:Int) (w:World):Prop :=
 G.cond (decide (from_14<((l_12.n:Nat):Int))) (G.cond (decide ((IntKind.i64.wrap (from_14+120)) > ((l_12.n:Nat):Int))) (G.slc l_12 from_14 ((l_12.n:Nat):Int) 2 fun l15=>C.tocsinref08_Bytes l15 w fun l16 w17=>G.new (.cells #[l16.v] 22) w17 fun p18 w19=>G.runSl pr (Builtin.append_ #[78,78] 78 #[out_13.v,(Sl.v (⟨some p18,1,1⟩:Sl))]) w19 fun l20 w21=>kc5 l_12 l20 (IntKind.i64.wrap (from_14+120)) w21) (G.slc l_12 from_14 (IntKind.i64.wrap (from_14+120)) 2 fun l22=>C.tocsinref08_Bytes l22 w fun l23 w24=>G.new (.cells #[l23.v] 22) w24 fun p25 w26=>G.runSl pr (Builtin.append_ #[78,78] 78 #[out_13.v,(Sl.v (⟨some p25,1,1⟩:Sl))]) w26 fun l27 w28=>kc5 l_12 l27 (IntKind.i64.wrap (from_14+120)) w28)) (S2 K out_13 w)
theorem S7_ok (kc5:Cur g5):OkT pr false none 64 g5 (S7 (Kt Kv) kc5) (lp (blk (tl 1 (s1 (tl 1 (s2 (tl 1 bd))))))) (P6 Kv kc5):=ok_last mixed FOk_ fun v ρ w=>by kernel_rfl
def L5 (K:KT):Cur g5:=loopC g5 (S7 K)
theorem L5_ok:OkT pr false none 64 g5 (L5 (Kt Kv)) (blk (tl 1 (s1 (tl 1 (s2 (tl 1 bd)))))) (P4 Kv):=ok_loop (B:=S7 (Kt Kv)) (by kernel_rfl) fun kc=>S7_ok Kv kc
theorem L5_ind {K:KT} {l_6:Sl} {out_7:Sl} {from_8:Int} {w:World} (h:∀ X:Cur g5,(∀ l_6 out_7 from_8 w,S7 K X l_6 out_7 from_8 w→X l_6 out_7 from_8 w)→X l_6 out_7 from_8 w):L5 K l_6 out_7 from_8 w:=fun X hX=>h X fun l_6 out_7 from_8 w hb=>hX (l_6,out_7,from_8,()) w hb
theorem B8:OkT pr false none 64 g5 (L5 (Kt Kv)) (tl 1 (s1 (tl 1 (s2 (tl 1 bd))))) (P3 Kv):=ok_block 2 (by kernel_rfl) (L5_ok Kv)
abbrev g9:List SE:=[.v 0 .sl,.v 7 .sl]
def S9 (K:KT) (l_29:Sl) (out_30:Sl) (w:World):Prop :=
 L5 K l_29 out_30 0 w
theorem S9_ok:OkT pr false none 64 g9 (S9 (Kt Kv)) (s1 (tl 1 (s2 (tl 1 bd)))) (P3 Kv):=ok_group mixed FOk_ 1 (B8 Kv) fun v ρ w=>by kernel_rfl
theorem Q10:OkT pr false none 64 g9 (S9 (Kt Kv)) (tl 1 (s2 (tl 1 bd))) (P1 Kv):=ok_seq (by kernel_rfl) (S2_ok Kv) (S9_ok Kv)
abbrev g11:List SE:=[.v 0 .sl]
def S11 (K:KT) (l_31:Sl) (w:World):Prop :=
 S9 K l_31 nilS w
theorem S11_ok:OkT pr false none 64 g11 (S11 (Kt Kv)) (s2 (tl 1 bd)) (P1 Kv):=ok_group mixed FOk_ 1 (Q10 Kv) fun v ρ w=>by kernel_rfl
def P12:Post:=next (get g11 (S11 (Kt Kv))) (P1 Kv)
def P13:Post:=inBlock 0 (P12 Kv)
abbrev g14:List SE:=[.v 0 .sl,.v 10 .sl,.v 11 (.int .i64),.v 12 (.int .i64)]
def P15 (kc14:Cur g14):Post:=next (get g14 kc14) (P13 Kv)
def S16 (K:KT) (kc14:Cur g14) (l_40:Sl) (l41:Sl) (n42:Int) (n43:Int) (w:World):Prop :=
 G.cond (decide (n43<n42)) (G.ix l41.a l41.n n43 2 fun p44=>G.cI .i64 p44 w fun n45=>G.cF .f64 (p44.add 1) w fun f46=>G.new (.cells #[(.int .i64 0),(.float .f64 0)] 96) w fun p47 w48=>G.st p47 (.int .i64 n45) w48 fun w49=>G.st (p47.add 1) (.float .f64 f46) w49 fun w50=>G.cI .i64 p47 w50 fun n51=>G.cond (decide (n51<0)) (K nilS 1 n43 w50) (G.cI .i64 p47 w50 fun n52=>G.cond (decide (n52 > 1125899906842624)) (K nilS 1 n43 w50) (G.cond (decide (n43 > 0)) (G.cI .i64 p47 w50.drew fun n53=>G.ix l_40.a l_40.n (IntKind.i64.wrap (n43-1)) 2 fun p54=>G.cI .i64 p54 w50.drew fun n55=>G.cond (decide (n53≤n55)) (K nilS 90 n43 w50.drew) (kc14 l_40 l41 n42 (IntKind.i64.wrap (n43+1)) w50.drew)) (kc14 l_40 l41 n42 (IntKind.i64.wrap (n43+1)) w50.drew)))) (S11 K l_40 w)
theorem S16_ok (kc14:Cur g14):OkT pr false none 64 g14 (S16 (Kt Kv) kc14) (lp (blk (tl 1 (s1 (tl 1 bd))))) (P15 Kv kc14):=ok_last mixed FOk_ fun v ρ w=>by kernel_rfl
def L14 (K:KT):Cur g14:=loopC g14 (S16 K)
theorem L14_ok:OkT pr false none 64 g14 (L14 (Kt Kv)) (blk (tl 1 (s1 (tl 1 bd)))) (P13 Kv):=ok_loop (B:=S16 (Kt Kv)) (by kernel_rfl) fun kc=>S16_ok Kv kc
theorem L14_ind {K:KT} {l_32:Sl} {l33:Sl} {n34:Int} {n35:Int} {w:World} (h:∀ X:Cur g14,(∀ l_32 l33 n34 n35 w,S16 K X l_32 l33 n34 n35 w→X l_32 l33 n34 n35 w)→X l_32 l33 n34 n35 w):L14 K l_32 l33 n34 n35 w:=fun X hX=>h X fun l_32 l33 n34 n35 w hb=>hX (l_32,l33,n34,n35,()) w hb
theorem B17:OkT pr false none 64 g14 (L14 (Kt Kv)) (tl 1 (s1 (tl 1 bd))) (P12 Kv):=ok_block 0 (by kernel_rfl) (L14_ok Kv)
def S18 (K:KT) (l_56:Sl) (w:World):Prop :=
 L14 K l_56 l_56 ((l_56.n:Nat):Int) 0 w
theorem S18_ok:OkT pr false none 64 g11 (S18 (Kt Kv)) (s1 (tl 1 bd)) (P12 Kv):=ok_group mixed FOk_ 1 (B17 Kv) fun v ρ w=>by kernel_rfl
theorem Q19:OkT pr false none 64 g11 (S18 (Kt Kv)) (tl 1 bd) (P1 Kv):=ok_seq (by kernel_rfl) (S11_ok Kv) (S18_ok Kv)
end tocsinref08_Split
def tocsinref08_Split (l_4:Sl) (w:World) (K:tocsinref08_Split.KT):Prop :=
 tocsinref08_Split.S18 K l_4 w
def tocsinref08_Split.cl:CL:=fun args K w=>match args with
 | [.slice x0_a x0_n x0_c]=>C.tocsinref08_Split ⟨x0_a,x0_n,x0_c⟩ w (tocsinref08_Split.Kt K)
 | _=>False
theorem tocsinref08_Split.clok:OkC pr 94 tocsinref08_Split.cl:=by
 intro args K w h
 unfold tocsinref08_Split.cl at h
 split at h
 ·exact calls_group false mixed tocsinref08_Split.FOk_ tocsinref08_Split.fn rfl 1 (tocsinref08_Split.Q19 K) (Eq.mp (by kernel_rfl) h)
 ·exact h.elim
namespace tocsinref01_Utf8
abbrev KT:=Bool→World→Prop
def Kt:KT:=fun b1 w=>Kv (.bool b1) w
noncomputable def bd:Code:=bdy Tryz.f142
theorem fn:FnOk pr 142 98 Tryz.f142:=⟨Tryz.func142,by kernel_rfl,Tryz.ntmps142,by kernel_rfl,by kernel_rfl⟩
def F:Clee:=ofL []
theorem FOk_:FOk pr F:=FOk_nil
def P1:Post:=bodyK false pr 98 Tryz.f142 Kv
abbrev g2:List SE:=[]
def S2 (K:KT) (w:World):Prop :=
 K true w
theorem S2_ok:OkT pr false none 98 g2 (S2 (Kt Kv)) (s2 (tl 1 bd)) (P1 Kv):=ok_last mixed FOk_ fun v ρ w=>by kernel_rfl
def P3:Post:=next (get g2 (S2 (Kt Kv))) (P1 Kv)
def P4:Post:=inBlock 0 (P3 Kv)
abbrev g5:List SE:=[.v 0 .str,.v 3 (.int .i64)]
def P6 (kc5:Cur g5):Post:=next (get g5 kc5) (P4 Kv)
def P7 (kc5:Cur g5):Post:=inBlock 1 (P6 Kv kc5)
abbrev g8:List SE:=[.v 0 .str,.v 3 (.int .i64),.v 5 (.int .i64),.v 6 (.int .i64),.v 7 (.int .i64)]
def S8 (K:KT) (kc5:Cur g5) (s_5:ByteArray) (i_6:Int) (n_7:Int) (least_8:Int) (r_9:Int) (w:World):Prop :=
 G.cond (decide (r_9<least_8)) (K false w) (G.cond (decide (r_9 > 1114111)) (K false w) (G.cond (decide (r_9 ≥ 55296)) (G.cond (decide (r_9<57344)) (K false w) (kc5 s_5 (IntKind.i64.wrap ((IntKind.i64.wrap (i_6+n_7))+1)) w)) (kc5 s_5 (IntKind.i64.wrap ((IntKind.i64.wrap (i_6+n_7))+1)) w)))
theorem S8_ok (kc5:Cur g5):OkT pr false none 98 g8 (S8 (Kt Kv) kc5) (s2 (tl 5 (blk (tl 1 (lp (blk (tl 1 (s1 (tl 1 bd))))))))) (P7 Kv kc5):=ok_last mixed FOk_ fun v ρ w=>by kernel_rfl
def P9 (kc5:Cur g5):Post:=next (get g8 (S8 (Kt Kv) kc5)) (P7 Kv kc5)
def P10 (kc5:Cur g5):Post:=inBlock 3 (P9 Kv kc5)
abbrev g11:List SE:=[.v 0 .str,.v 3 (.int .i64),.v 5 (.int .i64),.v 6 (.int .i64),.v 7 (.int .i64),.v 8 (.int .i64)]
def P12 (kc5:Cur g5) (kc11:Cur g11):Post:=next (get g11 kc11) (P10 Kv kc5)
def S13 (K:KT) (kc5:Cur g5) (kc11:Cur g11) (s_22:ByteArray) (i_23:Int) (n_24:Int) (least_25:Int) (r_26:Int) (k_27:Int) (w:World):Prop :=
 G.cond (decide (k_27≤n_24)) (G.cond (decide ((IntKind.i64.wrap (i_23+k_27)) ≥ ((s_22.size:Nat):Int))) (K false w) (G.ixS s_22 (IntKind.i64.wrap (i_23+k_27)) fun n28=>G.cond ((Go.bits .and .u8 n28 192) != 128) (K false w) (G.ixS s_22 (IntKind.i64.wrap (i_23+k_27)) fun n29=>kc11 s_22 i_23 n_24 least_25 (IntKind.i64.wrap ((IntKind.i64.wrap (r_26*64))+(IntKind.i64.wrap (Go.bits .and .u8 n29 63)))) (IntKind.i64.wrap (k_27+1)) w))) (S8 K kc5 s_22 i_23 n_24 least_25 r_26 w)
theorem S13_ok (kc5:Cur g5) (kc11:Cur g11):OkT pr false none 98 g11 (S13 (Kt Kv) kc5 kc11) (lp (blk (tl 1 (s1 (tl 5 (blk (tl 1 (lp (blk (tl 1 (s1 (tl 1 bd)))))))))))) (P12 Kv kc5 kc11):=ok_last mixed FOk_ fun v ρ w=>by kernel_rfl
def L11 (K:KT) (kc5:Cur g5):Cur g11:=loopC g11 (S13 K kc5)
theorem L11_ok (kc5:Cur g5):OkT pr false none 98 g11 (L11 (Kt Kv) kc5) (blk (tl 1 (s1 (tl 5 (blk (tl 1 (lp (blk (tl 1 (s1 (tl 1 bd))))))))))) (P10 Kv kc5):=ok_loop (B:=S13 (Kt Kv) kc5) (by kernel_rfl) fun kc=>S13_ok Kv kc5 kc
theorem L11_ind {K:KT} {kc5:Cur g5} {s_10:ByteArray} {i_11:Int} {n_12:Int} {least_13:Int} {r_14:Int} {k_15:Int} {w:World} (h:∀ X:Cur g11,(∀ s_10 i_11 n_12 least_13 r_14 k_15 w,S13 K kc5 X s_10 i_11 n_12 least_13 r_14 k_15 w→X s_10 i_11 n_12 least_13 r_14 k_15 w)→X s_10 i_11 n_12 least_13 r_14 k_15 w):L11 K kc5 s_10 i_11 n_12 least_13 r_14 k_15 w:=fun X hX=>h X fun s_10 i_11 n_12 least_13 r_14 k_15 w hb=>hX (s_10,i_11,n_12,least_13,r_14,k_15,()) w hb
theorem B14 (kc5:Cur g5):OkT pr false none 98 g11 (L11 (Kt Kv) kc5) (tl 1 (s1 (tl 5 (blk (tl 1 (lp (blk (tl 1 (s1 (tl 1 bd)))))))))) (P9 Kv kc5):=ok_block 3 (by kernel_rfl) (L11_ok Kv kc5)
def S15 (K:KT) (kc5:Cur g5) (s_30:ByteArray) (i_31:Int) (n_32:Int) (least_33:Int) (r_34:Int) (w:World):Prop :=
 L11 K kc5 s_30 i_31 n_32 least_33 r_34 1 w
theorem S15_ok (kc5:Cur g5):OkT pr false none 98 g8 (S15 (Kt Kv) kc5) (s1 (tl 5 (blk (tl 1 (lp (blk (tl 1 (s1 (tl 1 bd))))))))) (P9 Kv kc5):=ok_group mixed FOk_ 1 (B14 Kv kc5) fun v ρ w=>by kernel_rfl
theorem Q16 (kc5:Cur g5):OkT pr false none 98 g8 (S15 (Kt Kv) kc5) (tl 5 (blk (tl 1 (lp (blk (tl 1 (s1 (tl 1 bd)))))))) (P7 Kv kc5):=ok_seq (by kernel_rfl) (S8_ok Kv kc5) (S15_ok Kv kc5)
def S17 (K:KT) (kc5:Cur g5) (s_35:ByteArray) (i_36:Int) (w:World):Prop :=
 G.ixS s_35 i_36 fun n37=>G.cond (decide ((IntKind.i64.wrap n37)<128)) (kc5 s_35 (IntKind.i64.wrap (i_36+1)) w) (G.cond (decide ((IntKind.i64.wrap n37) ≥ 194)) (G.cond (decide ((IntKind.i64.wrap n37)<224)) (S15 K kc5 s_35 i_36 1 128 (Go.bits .and .i64 (IntKind.i64.wrap n37) 31) w) (G.cond (decide ((IntKind.i64.wrap n37) ≥ 224)) (G.cond (decide ((IntKind.i64.wrap n37)<240)) (S15 K kc5 s_35 i_36 2 2048 (Go.bits .and .i64 (IntKind.i64.wrap n37) 15) w) (G.cond (decide ((IntKind.i64.wrap n37) ≥ 240)) (G.cond (decide ((IntKind.i64.wrap n37)<245)) (S15 K kc5 s_35 i_36 3 65536 (Go.bits .and .i64 (IntKind.i64.wrap n37) 7) w) (K false w)) (K false w))) (G.cond (decide ((IntKind.i64.wrap n37) ≥ 240)) (G.cond (decide ((IntKind.i64.wrap n37)<245)) (S15 K kc5 s_35 i_36 3 65536 (Go.bits .and .i64 (IntKind.i64.wrap n37) 7) w) (K false w)) (K false w)))) (G.cond (decide ((IntKind.i64.wrap n37) ≥ 224)) (G.cond (decide ((IntKind.i64.wrap n37)<240)) (S15 K kc5 s_35 i_36 2 2048 (Go.bits .and .i64 (IntKind.i64.wrap n37) 15) w) (G.cond (decide ((IntKind.i64.wrap n37) ≥ 240)) (G.cond (decide ((IntKind.i64.wrap n37)<245)) (S15 K kc5 s_35 i_36 3 65536 (Go.bits .and .i64 (IntKind.i64.wrap n37) 7) w) (K false w)) (K false w))) (G.cond (decide ((IntKind.i64.wrap n37) ≥ 240)) (G.cond (decide ((IntKind.i64.wrap n37)<245)) (S15 K kc5 s_35 i_36 3 65536 (Go.bits .and .i64 (IntKind.i64.wrap n37) 7) w) (K false w)) (K false w))))
theorem S17_ok (kc5:Cur g5):OkT pr false none 98 g5 (S17 (Kt Kv) kc5) (blk (tl 1 (lp (blk (tl 1 (s1 (tl 1 bd))))))) (P7 Kv kc5):=ok_group mixed FOk_ 5 (Q16 Kv kc5) fun v ρ w=>by kernel_rfl
theorem B18 (kc5:Cur g5):OkT pr false none 98 g5 (S17 (Kt Kv) kc5) (tl 1 (lp (blk (tl 1 (s1 (tl 1 bd)))))) (P6 Kv kc5):=ok_block 1 (by kernel_rfl) (S17_ok Kv kc5)
def S19 (K:KT) (kc5:Cur g5) (s_38:ByteArray) (i_39:Int) (w:World):Prop :=
 G.cond (decide (i_39<((s_38.size:Nat):Int))) (S17 K kc5 s_38 i_39 w) (S2 K w)
theorem S19_ok (kc5:Cur g5):OkT pr false none 98 g5 (S19 (Kt Kv) kc5) (lp (blk (tl 1 (s1 (tl 1 bd))))) (P6 Kv kc5):=ok_group mixed FOk_ 1 (B18 Kv kc5) fun v ρ w=>by kernel_rfl
def L5 (K:KT):Cur g5:=loopC g5 (S19 K)
theorem L5_ok:OkT pr false none 98 g5 (L5 (Kt Kv)) (blk (tl 1 (s1 (tl 1 bd)))) (P4 Kv):=ok_loop (B:=S19 (Kt Kv)) (by kernel_rfl) fun kc=>S19_ok Kv kc
theorem L5_ind {K:KT} {s_3:ByteArray} {i_4:Int} {w:World} (h:∀ X:Cur g5,(∀ s_3 i_4 w,S19 K X s_3 i_4 w→X s_3 i_4 w)→X s_3 i_4 w):L5 K s_3 i_4 w:=fun X hX=>h X fun s_3 i_4 w hb=>hX (s_3,i_4,()) w hb
theorem B20:OkT pr false none 98 g5 (L5 (Kt Kv)) (tl 1 (s1 (tl 1 bd))) (P3 Kv):=ok_block 0 (by kernel_rfl) (L5_ok Kv)
abbrev g21:List SE:=[.v 0 .str]
def S21 (K:KT) (s_40:ByteArray) (w:World):Prop :=
 L5 K s_40 0 w
theorem S21_ok:OkT pr false none 98 g21 (S21 (Kt Kv)) (s1 (tl 1 bd)) (P3 Kv):=ok_group mixed FOk_ 1 (B20 Kv) fun v ρ w=>by kernel_rfl
theorem Q22:OkT pr false none 98 g21 (S21 (Kt Kv)) (tl 1 bd) (P1 Kv):=ok_seq (by kernel_rfl) (S2_ok Kv) (S21_ok Kv)
end tocsinref01_Utf8
def tocsinref01_Utf8 (s_2:ByteArray) (w:World) (K:tocsinref01_Utf8.KT):Prop :=
 tocsinref01_Utf8.S21 K s_2 w
def tocsinref01_Utf8.cl:CL:=fun args K w=>match args with
 | [.string x0]=>C.tocsinref01_Utf8 x0 w (tocsinref01_Utf8.Kt K)
 | _=>False
theorem tocsinref01_Utf8.clok:OkC pr 142 tocsinref01_Utf8.cl:=by
 intro args K w h
 unfold tocsinref01_Utf8.cl at h
 split at h
 ·exact calls_group false mixed tocsinref01_Utf8.FOk_ tocsinref01_Utf8.fn rfl 1 (tocsinref01_Utf8.Q22 K) (Eq.mp (by kernel_rfl) h)
 ·exact h.elim
namespace tocsinref04_letter
abbrev KT:=Bool→World→Prop
def Kt:KT:=fun b1 w=>Kv (.bool b1) w
noncomputable def bd:Code:=bdy Tryz.f181
theorem fn:FnOk pr 181 21 Tryz.f181:=⟨Tryz.func181,by kernel_rfl,Tryz.ntmps181,by kernel_rfl,by kernel_rfl⟩
def F:Clee:=ofL []
theorem FOk_:FOk pr F:=FOk_nil
def P1:Post:=bodyK false pr 21 Tryz.f181 Kv
end tocsinref04_letter
def tocsinref04_letter (c_2:Int) (w:World) (K:tocsinref04_letter.KT):Prop :=
 G.cond (decide (c_2 ≥ 97)) (G.cond (decide (c_2≤122)) (K true w) (G.cond (decide (c_2 ≥ 65)) (G.cond (decide (c_2≤90)) (K true w) (K (c_2==95) w)) (K (c_2==95) w))) (G.cond (decide (c_2 ≥ 65)) (G.cond (decide (c_2≤90)) (K true w) (K (c_2==95) w)) (K (c_2==95) w))
def tocsinref04_letter.cl:CL:=fun args K w=>match args with
 | [.int .u8 x0]=>C.tocsinref04_letter x0 w (tocsinref04_letter.Kt K)
 | _=>False
theorem tocsinref04_letter.clok:OkC pr 181 tocsinref04_letter.cl:=by
 intro args K w h
 unfold tocsinref04_letter.cl at h
 split at h
 ·exact calls_last false mixed tocsinref04_letter.FOk_ tocsinref04_letter.fn rfl (Eq.mp (by kernel_rfl) h)
 ·exact h.elim
namespace tocsinref04_digit
abbrev KT:=Bool→World→Prop
def Kt:KT:=fun b1 w=>Kv (.bool b1) w
noncomputable def bd:Code:=bdy Tryz.f182
theorem fn:FnOk pr 182 9 Tryz.f182:=⟨Tryz.func182,by kernel_rfl,Tryz.ntmps182,by kernel_rfl,by kernel_rfl⟩
def F:Clee:=ofL []
theorem FOk_:FOk pr F:=FOk_nil
def P1:Post:=bodyK false pr 9 Tryz.f182 Kv
end tocsinref04_digit
def tocsinref04_digit (c_2:Int) (w:World) (K:tocsinref04_digit.KT):Prop :=
 G.cond (decide (c_2 ≥ 48)) (K (decide (c_2≤57)) w) (K false w)
def tocsinref04_digit.cl:CL:=fun args K w=>match args with
 | [.int .u8 x0]=>C.tocsinref04_digit x0 w (tocsinref04_digit.Kt K)
 | _=>False
theorem tocsinref04_digit.clok:OkC pr 182 tocsinref04_digit.cl:=by
 intro args K w h
 unfold tocsinref04_digit.cl at h
 split at h
 ·exact calls_last false mixed tocsinref04_digit.FOk_ tocsinref04_digit.fn rfl (Eq.mp (by kernel_rfl) h)
 ·exact h.elim
namespace tocsinref04_Name
abbrev KT:=Bool→World→Prop
def Kt:KT:=fun b1 w=>Kv (.bool b1) w
noncomputable def bd:Code:=bdy Tryz.f151
theorem fn:FnOk pr 151 33 Tryz.f151:=⟨Tryz.func151,by kernel_rfl,Tryz.ntmps151,by kernel_rfl,by kernel_rfl⟩
def F:Clee:=ofL [(181,C.tocsinref04_letter.cl),(182,C.tocsinref04_digit.cl)]
theorem FOk_:FOk pr F:=FOk_cons C.tocsinref04_letter.clok (FOk_cons C.tocsinref04_digit.clok (FOk_nil))
def P1:Post:=bodyK false pr 33 Tryz.f151 Kv
abbrev g2:List SE:=[]
def S2 (K:KT) (w:World):Prop :=
 K true w
theorem S2_ok:OkT pr false none 33 g2 (S2 (Kt Kv)) (s2 (tl 2 bd)) (P1 Kv):=ok_last mixed FOk_ fun v ρ w=>by kernel_rfl
def P3:Post:=next (get g2 (S2 (Kt Kv))) (P1 Kv)
def P4:Post:=inBlock 0 (P3 Kv)
abbrev g5:List SE:=[.v 0 .str,.v 12 (.int .i64),.v 13 (.int .i64)]
def P6 (kc5:Cur g5):Post:=next (get g5 kc5) (P4 Kv)
def S7 (K:KT) (kc5:Cur g5) (s_9:ByteArray) (n10:Int) (n11:Int) (w:World):Prop :=
 G.cond (decide (n11<n10)) (G.ixS s_9 n11 fun n12=>C.tocsinref04_letter n12 w fun b13 w14=>G.cond (!b13) (G.cond (n11==0) (K false w14) (G.ixS s_9 n11 fun n15=>C.tocsinref04_digit n15 w14 fun b16 w17=>G.cond (!b16) (K false w17) (kc5 s_9 n10 (IntKind.i64.wrap (n11+1)) w17))) (kc5 s_9 n10 (IntKind.i64.wrap (n11+1)) w14)) (S2 K w)
theorem S7_ok (kc5:Cur g5):OkT pr false none 33 g5 (S7 (Kt Kv) kc5) (lp (blk (tl 1 (s1 (tl 2 bd))))) (P6 Kv kc5):=ok_last mixed FOk_ fun v ρ w=>by kernel_rfl
def L5 (K:KT):Cur g5:=loopC g5 (S7 K)
theorem L5_ok:OkT pr false none 33 g5 (L5 (Kt Kv)) (blk (tl 1 (s1 (tl 2 bd)))) (P4 Kv):=ok_loop (B:=S7 (Kt Kv)) (by kernel_rfl) fun kc=>S7_ok Kv kc
theorem L5_ind {K:KT} {s_3:ByteArray} {n4:Int} {n5:Int} {w:World} (h:∀ X:Cur g5,(∀ s_3 n4 n5 w,S7 K X s_3 n4 n5 w→X s_3 n4 n5 w)→X s_3 n4 n5 w):L5 K s_3 n4 n5 w:=fun X hX=>h X fun s_3 n4 n5 w hb=>hX (s_3,n4,n5,()) w hb
theorem B8:OkT pr false none 33 g5 (L5 (Kt Kv)) (tl 1 (s1 (tl 2 bd))) (P3 Kv):=ok_block 0 (by kernel_rfl) (L5_ok Kv)
abbrev g9:List SE:=[.v 0 .str]
def S9 (K:KT) (s_18:ByteArray) (w:World):Prop :=
 L5 K s_18 ((s_18.size:Nat):Int) 0 w
theorem S9_ok:OkT pr false none 33 g9 (S9 (Kt Kv)) (s1 (tl 2 bd)) (P3 Kv):=ok_group mixed FOk_ 1 (B8 Kv) fun v ρ w=>by kernel_rfl
theorem Q10:OkT pr false none 33 g9 (S9 (Kt Kv)) (tl 2 bd) (P1 Kv):=ok_seq (by kernel_rfl) (S2_ok Kv) (S9_ok Kv)
end tocsinref04_Name
def tocsinref04_Name (s_2:ByteArray) (w:World) (K:tocsinref04_Name.KT):Prop :=
 G.cond (s_2.toList==(⟨#[]⟩:ByteArray).toList) (K false w) (G.cond (decide (((s_2.size:Nat):Int) > 64)) (K false w) (tocsinref04_Name.S9 K s_2 w))
def tocsinref04_Name.cl:CL:=fun args K w=>match args with
 | [.string x0]=>C.tocsinref04_Name x0 w (tocsinref04_Name.Kt K)
 | _=>False
theorem tocsinref04_Name.clok:OkC pr 151 tocsinref04_Name.cl:=by
 intro args K w h
 unfold tocsinref04_Name.cl at h
 split at h
 ·exact calls_group false mixed tocsinref04_Name.FOk_ tocsinref04_Name.fn rfl 2 (tocsinref04_Name.Q10 K) (Eq.mp (by kernel_rfl) h)
 ·exact h.elim
namespace tocsinref04_one
abbrev KT:=Int→World→Prop
def Kt:KT:=fun n1 w=>Kv (.int .i64 n1) w
noncomputable def bd:Code:=bdy Tryz.f117
theorem fn:FnOk pr 117 22 Tryz.f117:=⟨Tryz.func117,by kernel_rfl,Tryz.ntmps117,by kernel_rfl,by kernel_rfl⟩
def F:Clee:=ofL [(142,C.tocsinref01_Utf8.cl),(151,C.tocsinref04_Name.cl)]
theorem FOk_:FOk pr F:=FOk_cons C.tocsinref01_Utf8.clok (FOk_cons C.tocsinref04_Name.clok (FOk_nil))
def P1:Post:=bodyK false pr 22 Tryz.f117 Kv
end tocsinref04_one
def tocsinref04_one (x_2:ByteArray) (x_3:ByteArray) (w:World) (K:tocsinref04_one.KT):Prop :=
 G.new (.cells #[(.string x_2),(.string x_3)] 93) w fun p4 w5=>G.cS p4 w5 fun s6=>C.tocsinref04_Name s6 w5 fun b7 w8=>G.cond (!b7) (K 40 w8) (G.cS (p4.add 1) w8 fun s9=>G.cond (s9.toList==(⟨#[]⟩:ByteArray).toList) (K 41 w8) (G.cS (p4.add 1) w8 fun s10=>G.cond (decide (((s10.size:Nat):Int) > 256)) (K 4 w8) (G.cS (p4.add 1) w8 fun s11=>C.tocsinref01_Utf8 s11 w8 fun b12 w13=>G.cond (!b12) (K 12 w13) (K 0 w13))))
def tocsinref04_one.cl:CL:=fun args K w=>match args with
 | [.agg ⟨[.string x0_0,.string x0_1]⟩]=>C.tocsinref04_one x0_0 x0_1 w (tocsinref04_one.Kt K)
 | _=>False
theorem tocsinref04_one.clok:OkC pr 117 tocsinref04_one.cl:=by
 intro args K w h
 unfold tocsinref04_one.cl at h
 split at h
 ·exact calls_last false mixed tocsinref04_one.FOk_ tocsinref04_one.fn rfl (Eq.mp (by kernel_rfl) h)
 ·exact h.elim
namespace tocsinref04_Right
abbrev KT:=Int→Int→World→Prop
def Kt:KT:=fun n1 n2 w=>Kv (.tuple #[(.int .i64 n1),(.int .i64 n2)]) w
noncomputable def bd:Code:=bdy Tryz.f91
theorem fn:FnOk pr 91 38 Tryz.f91:=⟨Tryz.func91,by kernel_rfl,Tryz.ntmps91,by kernel_rfl,by kernel_rfl⟩
def F:Clee:=ofL [(117,C.tocsinref04_one.cl)]
theorem FOk_:FOk pr F:=FOk_cons C.tocsinref04_one.clok (FOk_nil)
def P1:Post:=bodyK false pr 38 Tryz.f91 Kv
abbrev g2:List SE:=[]
def S2 (K:KT) (w:World):Prop :=
 K 0 0 w
theorem S2_ok:OkT pr false none 38 g2 (S2 (Kt Kv)) (s2 (tl 2 bd)) (P1 Kv):=ok_last mixed FOk_ fun v ρ w=>by kernel_rfl
def P3:Post:=next (get g2 (S2 (Kt Kv))) (P1 Kv)
def P4:Post:=inBlock 0 (P3 Kv)
abbrev g5:List SE:=[.v 0 .sl,.v 10 .sl,.v 11 (.int .i64),.v 12 (.int .i64)]
def P6 (kc5:Cur g5):Post:=next (get g5 kc5) (P4 Kv)
def S7 (K:KT) (kc5:Cur g5) (l_12:Sl) (l13:Sl) (n14:Int) (n15:Int) (w:World):Prop :=
 G.cond (decide (n15<n14)) (G.ix l13.a l13.n n15 2 fun p16=>G.cS p16 w fun s17=>G.cS (p16.add 1) w fun s18=>G.new (.cells #[(.string (⟨#[]⟩:ByteArray)),(.string (⟨#[]⟩:ByteArray))] 93) w fun p19 w20=>G.st p19 (.string s17) w20 fun w21=>G.st (p19.add 1) (.string s18) w21 fun w22=>G.cS p19 w22 fun s23=>G.cS (p19.add 1) w22 fun s24=>C.tocsinref04_one s23 s24 w22 fun n25 w26=>G.cond (n25 != 0) (K n25 n15 w26) (G.cond (decide (n15 > 0)) (G.ix l_12.a l_12.n (IntKind.i64.wrap (n15-1)) 2 fun p27=>G.cS p27 w26.drew fun s28=>G.cS p19 w26.drew fun s29=>G.cond (!(Op.bytesLess s28.toList s29.toList)) (K 3 n15 w26.drew) (kc5 l_12 l13 n14 (IntKind.i64.wrap (n15+1)) w26.drew)) (kc5 l_12 l13 n14 (IntKind.i64.wrap (n15+1)) w26.drew))) (S2 K w)
theorem S7_ok (kc5:Cur g5):OkT pr false none 38 g5 (S7 (Kt Kv) kc5) (lp (blk (tl 1 (s1 (tl 2 bd))))) (P6 Kv kc5):=ok_last mixed FOk_ fun v ρ w=>by kernel_rfl
def L5 (K:KT):Cur g5:=loopC g5 (S7 K)
theorem L5_ok:OkT pr false none 38 g5 (L5 (Kt Kv)) (blk (tl 1 (s1 (tl 2 bd)))) (P4 Kv):=ok_loop (B:=S7 (Kt Kv)) (by kernel_rfl) fun kc=>S7_ok Kv kc
theorem L5_ind {K:KT} {l_4:Sl} {l5:Sl} {n6:Int} {n7:Int} {w:World} (h:∀ X:Cur g5,(∀ l_4 l5 n6 n7 w,S7 K X l_4 l5 n6 n7 w→X l_4 l5 n6 n7 w)→X l_4 l5 n6 n7 w):L5 K l_4 l5 n6 n7 w:=fun X hX=>h X fun l_4 l5 n6 n7 w hb=>hX (l_4,l5,n6,n7,()) w hb
theorem B8:OkT pr false none 38 g5 (L5 (Kt Kv)) (tl 1 (s1 (tl 2 bd))) (P3 Kv):=ok_block 0 (by kernel_rfl) (L5_ok Kv)
abbrev g9:List SE:=[.v 0 .sl]
def S9 (K:KT) (l_30:Sl) (w:World):Prop :=
 L5 K l_30 l_30 ((l_30.n:Nat):Int) 0 w
theorem S9_ok:OkT pr false none 38 g9 (S9 (Kt Kv)) (s1 (tl 2 bd)) (P3 Kv):=ok_group mixed FOk_ 1 (B8 Kv) fun v ρ w=>by kernel_rfl
theorem Q10:OkT pr false none 38 g9 (S9 (Kt Kv)) (tl 2 bd) (P1 Kv):=ok_seq (by kernel_rfl) (S2_ok Kv) (S9_ok Kv)
end tocsinref04_Right
def tocsinref04_Right (l_3:Sl) (w:World) (K:tocsinref04_Right.KT):Prop :=
 G.cond (decide (((l_3.n:Nat):Int) > 16)) (K 8 0 w) (tocsinref04_Right.S9 K l_3 w)
def tocsinref04_Right.cl:CL:=fun args K w=>match args with
 | [.slice x0_a x0_n x0_c]=>C.tocsinref04_Right ⟨x0_a,x0_n,x0_c⟩ w (tocsinref04_Right.Kt K)
 | _=>False
theorem tocsinref04_Right.clok:OkC pr 91 tocsinref04_Right.cl:=by
 intro args K w h
 unfold tocsinref04_Right.cl at h
 split at h
 ·exact calls_group false mixed tocsinref04_Right.FOk_ tocsinref04_Right.fn rfl 2 (tocsinref04_Right.Q10 K) (Eq.mp (by kernel_rfl) h)
 ·exact h.elim
namespace tocsinref01_PutText
abbrev KT:=Sl→World→Prop
def Kt:KT:=fun l1 w=>Kv l1.v w
noncomputable def bd:Code:=bdy Tryz.f120
theorem fn:FnOk pr 120 13 Tryz.f120:=⟨Tryz.func120,by kernel_rfl,Tryz.ntmps120,by kernel_rfl,by kernel_rfl⟩
def F:Clee:=ofL [(55,C.tocsinref01_PutU.cl),(92,C.tocsinref01_joined.cl)]
theorem FOk_:FOk pr F:=FOk_cons C.tocsinref01_PutU.clok (FOk_cons C.tocsinref01_joined.clok (FOk_nil))
def P1:Post:=bodyK false pr 13 Tryz.f120 Kv
end tocsinref01_PutText
def tocsinref01_PutText (b_2:Sl) (s_3:ByteArray) (w:World) (K:tocsinref01_PutText.KT):Prop :=
 C.tocsinref01_PutU b_2 (IntKind.u64.wrap ((s_3.size:Nat):Int)) w fun l4 w5=>G.runSl pr (Go.convert 9 22 (.string s_3)) w5 fun l6 w7=>C.tocsinref01_joined l4 l6 w7 fun l8 w9=>K l8 w9
def tocsinref01_PutText.cl:CL:=fun args K w=>match args with
 | [.slice x0_a x0_n x0_c,.string x1]=>C.tocsinref01_PutText ⟨x0_a,x0_n,x0_c⟩ x1 w (tocsinref01_PutText.Kt K)
 | _=>False
theorem tocsinref01_PutText.clok:OkC pr 120 tocsinref01_PutText.cl:=by
 intro args K w h
 unfold tocsinref01_PutText.cl at h
 split at h
 ·exact calls_last false mixed tocsinref01_PutText.FOk_ tocsinref01_PutText.fn rfl (Eq.mp (by kernel_rfl) h)
 ·exact h.elim
namespace tocsinref04_Put
abbrev KT:=Sl→Int→World→Prop
def Kt:KT:=fun l1 n2 w=>Kv (.tuple #[l1.v,(.int .i64 n2)]) w
noncomputable def bd:Code:=bdy Tryz.f95
theorem fn:FnOk pr 95 39 Tryz.f95:=⟨Tryz.func95,by kernel_rfl,Tryz.ntmps95,by kernel_rfl,by kernel_rfl⟩
def F:Clee:=ofL [(55,C.tocsinref01_PutU.cl),(91,C.tocsinref04_Right.cl),(120,C.tocsinref01_PutText.cl)]
theorem FOk_:FOk pr F:=FOk_cons C.tocsinref01_PutU.clok (FOk_cons C.tocsinref04_Right.clok (FOk_cons C.tocsinref01_PutText.clok (FOk_nil)))
def P1:Post:=bodyK false pr 39 Tryz.f95 Kv
abbrev g2:List SE:=[.v 8 .sl]
def S2 (K:KT) (out_7:Sl) (w:World):Prop :=
 K out_7 0 w
theorem S2_ok:OkT pr false none 39 g2 (S2 (Kt Kv)) (s2 (tl 3 bd)) (P1 Kv):=ok_last mixed FOk_ fun v ρ w=>by kernel_rfl
def P3:Post:=next (get g2 (S2 (Kt Kv))) (P1 Kv)
def P4:Post:=inBlock 0 (P3 Kv)
abbrev g5:List SE:=[.v 8 .sl,.v 24 .sl,.v 25 (.int .i64),.v 26 (.int .i64)]
def P6 (kc5:Cur g5):Post:=next (get g5 kc5) (P4 Kv)
def S7 (K:KT) (kc5:Cur g5) (out_16:Sl) (l17:Sl) (n18:Int) (n19:Int) (w:World):Prop :=
 G.cond (decide (n19<n18)) (G.ix l17.a l17.n n19 2 fun p20=>G.cS p20 w fun s21=>G.cS (p20.add 1) w fun s22=>G.new (.cells #[(.string (⟨#[]⟩:ByteArray)),(.string (⟨#[]⟩:ByteArray))] 93) w fun p23 w24=>G.st p23 (.string s21) w24 fun w25=>G.st (p23.add 1) (.string s22) w25 fun w26=>G.cS p23 w26.drew fun s27=>G.cS (p23.add 1) w26.drew fun s28=>C.tocsinref01_PutText out_16 s27 w26.drew fun l29 w30=>sameAt (p23.add 1) 1 w26.drew w30∧(C.tocsinref01_PutText l29 s28 w30 fun l31 w32=>kc5 l31 l17 n18 (IntKind.i64.wrap (n19+1)) w32)) (S2 K out_16 w)
theorem S7_ok (kc5:Cur g5):OkT pr false none 39 g5 (S7 (Kt Kv) kc5) (lp (blk (tl 1 (s1 (tl 3 bd))))) (P6 Kv kc5):=ok_last mixed FOk_ fun v ρ w=>by kernel_rfl
def L5 (K:KT):Cur g5:=loopC g5 (S7 K)
theorem L5_ok:OkT pr false none 39 g5 (L5 (Kt Kv)) (blk (tl 1 (s1 (tl 3 bd)))) (P4 Kv):=ok_loop (B:=S7 (Kt Kv)) (by kernel_rfl) fun kc=>S7_ok Kv kc
theorem L5_ind {K:KT} {out_8:Sl} {l9:Sl} {n10:Int} {n11:Int} {w:World} (h:∀ X:Cur g5,(∀ out_8 l9 n10 n11 w,S7 K X out_8 l9 n10 n11 w→X out_8 l9 n10 n11 w)→X out_8 l9 n10 n11 w):L5 K out_8 l9 n10 n11 w:=fun X hX=>h X fun out_8 l9 n10 n11 w hb=>hX (out_8,l9,n10,n11,()) w hb
theorem B8:OkT pr false none 39 g5 (L5 (Kt Kv)) (tl 1 (s1 (tl 3 bd))) (P3 Kv):=ok_block 0 (by kernel_rfl) (L5_ok Kv)
abbrev g9:List SE:=[.v 1 .sl,.v 8 .sl]
def S9 (K:KT) (l_33:Sl) (out_34:Sl) (w:World):Prop :=
 L5 K out_34 l_33 ((l_33.n:Nat):Int) 0 w
theorem S9_ok:OkT pr false none 39 g9 (S9 (Kt Kv)) (s1 (tl 3 bd)) (P3 Kv):=ok_group mixed FOk_ 1 (B8 Kv) fun v ρ w=>by kernel_rfl
theorem Q10:OkT pr false none 39 g9 (S9 (Kt Kv)) (tl 3 bd) (P1 Kv):=ok_seq (by kernel_rfl) (S2_ok Kv) (S9_ok Kv)
end tocsinref04_Put
def tocsinref04_Put (b_3:Sl) (l_4:Sl) (w:World) (K:tocsinref04_Put.KT):Prop :=
 C.tocsinref04_Right l_4 w fun n35 n36 w37=>G.cond (n35 != 0) (K nilS n35 w37) (C.tocsinref01_PutU b_3 (IntKind.u64.wrap ((l_4.n:Nat):Int)) w37 fun l38 w39=>tocsinref04_Put.S9 K l_4 l38 w39)
def tocsinref04_Put.cl:CL:=fun args K w=>match args with
 | [.slice x0_a x0_n x0_c,.slice x1_a x1_n x1_c]=>C.tocsinref04_Put ⟨x0_a,x0_n,x0_c⟩ ⟨x1_a,x1_n,x1_c⟩ w (tocsinref04_Put.Kt K)
 | _=>False
theorem tocsinref04_Put.clok:OkC pr 95 tocsinref04_Put.cl:=by
 intro args K w h
 unfold tocsinref04_Put.cl at h
 split at h
 ·exact calls_group false mixed tocsinref04_Put.FOk_ tocsinref04_Put.fn rfl 3 (tocsinref04_Put.Q10 K) (Eq.mp (by kernel_rfl) h)
 ·exact h.elim
namespace tocsinref10_frame
abbrev KT:=Sl→Int→World→Prop
def Kt:KT:=fun l1 n2 w=>Kv (.tuple #[l1.v,(.int .i64 n2)]) w
noncomputable def bd:Code:=bdy Tryz.f57
theorem fn:FnOk pr 57 54 Tryz.f57:=⟨Tryz.func57,by kernel_rfl,Tryz.ntmps57,by kernel_rfl,by kernel_rfl⟩
def F:Clee:=ofL [(55,C.tocsinref01_PutU.cl),(94,C.tocsinref08_Split.cl),(95,C.tocsinref04_Put.cl)]
theorem FOk_:FOk pr F:=FOk_cons C.tocsinref01_PutU.clok (FOk_cons C.tocsinref08_Split.clok (FOk_cons C.tocsinref04_Put.clok (FOk_nil)))
def P1:Post:=bodyK false pr 54 Tryz.f57 Kv
abbrev g2:List SE:=[.v 7 .sl]
def S2 (K:KT) (b_9:Sl) (w:World):Prop :=
 G.cond (decide (((b_9.n:Nat):Int) > 65536)) (K nilS 4 w) (K b_9 0 w)
theorem S2_ok:OkT pr false none 54 g2 (S2 (Kt Kv)) (s2 (tl 6 bd)) (P1 Kv):=ok_last mixed FOk_ fun v ρ w=>by kernel_rfl
def P3:Post:=next (get g2 (S2 (Kt Kv))) (P1 Kv)
def P4:Post:=inBlock 0 (P3 Kv)
abbrev g5:List SE:=[.v 7 .sl,.v 35 .sl,.v 36 (.int .i64),.v 37 (.int .i64)]
def P6 (kc5:Cur g5):Post:=next (get g5 kc5) (P4 Kv)
def S7 (K:KT) (kc5:Cur g5) (b_18:Sl) (l19:Sl) (n20:Int) (n21:Int) (w:World):Prop :=
 G.cond (decide (n21<n20)) (G.ix l19.a l19.n n21 1 fun p22=>G.cSl p22 w fun l23=>C.tocsinref01_PutU b_18 (IntKind.u64.wrap ((l23.n:Nat):Int)) w fun l24 w25=>G.runSl pr (Builtin.append_ #[22,22] 22 #[l24.v,l23.v]) w25 fun l26 w27=>kc5 l26 l19 n20 (IntKind.i64.wrap (n21+1)) w27) (S2 K b_18 w)
theorem S7_ok (kc5:Cur g5):OkT pr false none 54 g5 (S7 (Kt Kv) kc5) (lp (blk (tl 1 (s1 (tl 6 bd))))) (P6 Kv kc5):=ok_last mixed FOk_ fun v ρ w=>by kernel_rfl
def L5 (K:KT):Cur g5:=loopC g5 (S7 K)
theorem L5_ok:OkT pr false none 54 g5 (L5 (Kt Kv)) (blk (tl 1 (s1 (tl 6 bd)))) (P4 Kv):=ok_loop (B:=S7 (Kt Kv)) (by kernel_rfl) fun kc=>S7_ok Kv kc
theorem L5_ind {K:KT} {b_10:Sl} {l11:Sl} {n12:Int} {n13:Int} {w:World} (h:∀ X:Cur g5,(∀ b_10 l11 n12 n13 w,S7 K X b_10 l11 n12 n13 w→X b_10 l11 n12 n13 w)→X b_10 l11 n12 n13 w):L5 K b_10 l11 n12 n13 w:=fun X hX=>h X fun b_10 l11 n12 n13 w hb=>hX (b_10,l11,n12,n13,()) w hb
theorem B8:OkT pr false none 54 g5 (L5 (Kt Kv)) (tl 1 (s1 (tl 6 bd))) (P3 Kv):=ok_block 0 (by kernel_rfl) (L5_ok Kv)
abbrev g9:List SE:=[.v 4 .sl,.v 7 .sl]
def S9 (K:KT) (chunks_28:Sl) (b_29:Sl) (w:World):Prop :=
 L5 K b_29 chunks_28 ((chunks_28.n:Nat):Int) 0 w
theorem S9_ok:OkT pr false none 54 g9 (S9 (Kt Kv)) (s1 (tl 6 bd)) (P3 Kv):=ok_group mixed FOk_ 1 (B8 Kv) fun v ρ w=>by kernel_rfl
theorem Q10:OkT pr false none 54 g9 (S9 (Kt Kv)) (tl 6 bd) (P1 Kv):=ok_seq (by kernel_rfl) (S2_ok Kv) (S9_ok Kv)
end tocsinref10_frame
def tocsinref10_frame (s_3:Sl) (s_4:Sl) (w:World) (K:tocsinref10_frame.KT):Prop :=
 G.new (.cells #[s_3.v,s_4.v] 57) w fun p30 w31=>G.cSl (p30.add 1) w31 fun l32=>C.tocsinref08_Split l32 w31 fun l33 n34 n35 w36=>G.cond (n34 != 0) (K nilS n34 w36) (G.cSl p30 w36 fun l37=>C.tocsinref04_Put nilS l37 w36 fun l38 n39 w40=>G.cond (n39 != 0) (K nilS n39 w40) (C.tocsinref01_PutU l38 (IntKind.u64.wrap ((l33.n:Nat):Int)) w40 fun l41 w42=>tocsinref10_frame.S9 K l33 l41 w42))
def tocsinref10_frame.cl:CL:=fun args K w=>match args with
 | [.agg ⟨[.slice x0_0_a x0_0_n x0_0_c,.slice x0_1_a x0_1_n x0_1_c]⟩]=>C.tocsinref10_frame ⟨x0_0_a,x0_0_n,x0_0_c⟩ ⟨x0_1_a,x0_1_n,x0_1_c⟩ w (tocsinref10_frame.Kt K)
 | _=>False
theorem tocsinref10_frame.clok:OkC pr 57 tocsinref10_frame.cl:=by
 intro args K w h
 unfold tocsinref10_frame.cl at h
 split at h
 ·exact calls_group false mixed tocsinref10_frame.FOk_ tocsinref10_frame.fn rfl 6 (tocsinref10_frame.Q10 K) (Eq.mp (by kernel_rfl) h)
 ·exact h.elim
namespace tocsinref10_wrong
abbrev KT:=Int→World→Prop
def Kt:KT:=fun n1 w=>Kv (.int .i64 n1) w
noncomputable def bd:Code:=bdy Tryz.f54
theorem fn:FnOk pr 54 42 Tryz.f54:=⟨Tryz.func54,by kernel_rfl,Tryz.ntmps54,by kernel_rfl,by kernel_rfl⟩
def F:Clee:=ofL [(28,C.tocsinref04_Same.cl),(57,C.tocsinref10_frame.cl),(91,C.tocsinref04_Right.cl)]
theorem FOk_:FOk pr F:=FOk_cons C.tocsinref04_Same.clok (FOk_cons C.tocsinref10_frame.clok (FOk_cons C.tocsinref04_Right.clok (FOk_nil)))
def P1:Post:=bodyK false pr 42 Tryz.f54 Kv
abbrev g2:List SE:=[.v 3 .ptr]
def S2 (K:KT) (s_6:Option Addr) (w:World):Prop :=
 G.ptr s_6 fun p7=>G.cSl (p7.add 1) w fun l8=>G.cond (((l8.n:Nat):Int)==0) (K 5 w) (G.ptr s_6 fun p9=>G.cSl p9 w fun l10=>G.cSl (p9.add 1) w fun l11=>C.tocsinref10_frame l10 l11 w fun l12 n13 w14=>K n13 w14)
theorem S2_ok:OkT pr false none 42 g2 (S2 (Kt Kv)) (s2 (tl 2 bd)) (P1 Kv):=ok_last mixed FOk_ fun v ρ w=>by kernel_rfl
def P3:Post:=next (get g2 (S2 (Kt Kv))) (P1 Kv)
def P4:Post:=inBlock 0 (P3 Kv)
abbrev g5:List SE:=[.v 3 .ptr,.v 20 .sl,.v 21 (.int .i64),.v 22 (.int .i64)]
def P6 (kc5:Cur g5):Post:=next (get g5 kc5) (P4 Kv)
def S7 (K:KT) (kc5:Cur g5) (s_23:Option Addr) (l24:Sl) (n25:Int) (n26:Int) (w:World):Prop :=
 G.cond (decide (n26<n25)) (G.ix l24.a l24.n n26 2 fun p27=>G.cSl p27 w fun l28=>G.cSl (p27.add 1) w fun l29=>G.new (.cells #[nilS.v,nilS.v] 57) w fun p30 w31=>G.st p30 l28.v w31 fun w32=>G.st (p30.add 1) l29.v w32 fun w33=>G.cSl p30 w33 fun l34=>G.ptr s_23 fun p35=>G.cSl p35 w33 fun l36=>C.tocsinref04_Same l34 l36 w33 fun b37 w38=>G.cond b37 (K 6 w38) (kc5 s_23 l24 n25 (IntKind.i64.wrap (n26+1)) w38)) (S2 K s_23 w)
theorem S7_ok (kc5:Cur g5):OkT pr false none 42 g5 (S7 (Kt Kv) kc5) (lp (blk (tl 1 (s1 (tl 2 bd))))) (P6 Kv kc5):=ok_last mixed FOk_ fun v ρ w=>by kernel_rfl
def L5 (K:KT):Cur g5:=loopC g5 (S7 K)
theorem L5_ok:OkT pr false none 42 g5 (L5 (Kt Kv)) (blk (tl 1 (s1 (tl 2 bd)))) (P4 Kv):=ok_loop (B:=S7 (Kt Kv)) (by kernel_rfl) fun kc=>S7_ok Kv kc
theorem L5_ind {K:KT} {s_15:Option Addr} {l16:Sl} {n17:Int} {n18:Int} {w:World} (h:∀ X:Cur g5,(∀ s_15 l16 n17 n18 w,S7 K X s_15 l16 n17 n18 w→X s_15 l16 n17 n18 w)→X s_15 l16 n17 n18 w):L5 K s_15 l16 n17 n18 w:=fun X hX=>h X fun s_15 l16 n17 n18 w hb=>hX (s_15,l16,n17,n18,()) w hb
theorem B8:OkT pr false none 42 g5 (L5 (Kt Kv)) (tl 1 (s1 (tl 2 bd))) (P3 Kv):=ok_block 0 (by kernel_rfl) (L5_ok Kv)
abbrev g9:List SE:=[.v 0 .sl,.v 3 .ptr]
def S9 (K:KT) (l_39:Sl) (s_40:Option Addr) (w:World):Prop :=
 L5 K s_40 l_39 ((l_39.n:Nat):Int) 0 w
theorem S9_ok:OkT pr false none 42 g9 (S9 (Kt Kv)) (s1 (tl 2 bd)) (P3 Kv):=ok_group mixed FOk_ 1 (B8 Kv) fun v ρ w=>by kernel_rfl
theorem Q10:OkT pr false none 42 g9 (S9 (Kt Kv)) (tl 2 bd) (P1 Kv):=ok_seq (by kernel_rfl) (S2_ok Kv) (S9_ok Kv)
end tocsinref10_wrong
def tocsinref10_wrong (l_2:Sl) (s_3:Sl) (s_4:Sl) (w:World) (K:tocsinref10_wrong.KT):Prop :=
 G.new (.cells #[s_3.v,s_4.v] 57) w fun p41 w42=>G.cSl p41 w42 fun l43=>C.tocsinref04_Right l43 w42 fun n44 n45 w46=>G.cond (n44 != 0) (K n44 w46) (tocsinref10_wrong.S9 K l_2 (some p41) w46)
def tocsinref10_wrong.cl:CL:=fun args K w=>match args with
 | [.slice x0_a x0_n x0_c,.agg ⟨[.slice x1_0_a x1_0_n x1_0_c,.slice x1_1_a x1_1_n x1_1_c]⟩]=>C.tocsinref10_wrong ⟨x0_a,x0_n,x0_c⟩ ⟨x1_0_a,x1_0_n,x1_0_c⟩ ⟨x1_1_a,x1_1_n,x1_1_c⟩ w (tocsinref10_wrong.Kt K)
 | _=>False
theorem tocsinref10_wrong.clok:OkC pr 54 tocsinref10_wrong.cl:=by
 intro args K w h
 unfold tocsinref10_wrong.cl at h
 split at h
 ·exact calls_group false mixed tocsinref10_wrong.FOk_ tocsinref10_wrong.fn rfl 2 (tocsinref10_wrong.Q10 K) (Eq.mp (by kernel_rfl) h)
 ·exact h.elim
namespace tocsinref01_On
abbrev KT:=Int→World→Prop
def Kt:KT:=fun n1 w=>Kv (.int .u32 n1) w
noncomputable def bd:Code:=bdy Tryz.f118
theorem fn:FnOk pr 118 37 Tryz.f118:=⟨Tryz.func118,by kernel_rfl,Tryz.ntmps118,by kernel_rfl,by kernel_rfl⟩
def F:Clee:=ofL []
theorem FOk_:FOk pr F:=FOk_nil
def P1:Post:=bodyK false pr 37 Tryz.f118 Kv
abbrev g2:List SE:=[.v 5 (.int .u32)]
def S2 (K:KT) (r_4:Int) (w:World):Prop :=
 K (Go.bits .xor .u32 (notK .u32) r_4) w
theorem S2_ok:OkT pr false none 37 g2 (S2 (Kt Kv)) (s2 (tl 2 bd)) (P1 Kv):=ok_last mixed FOk_ fun v ρ w=>by kernel_rfl
def P3:Post:=next (get g2 (S2 (Kt Kv))) (P1 Kv)
def P4:Post:=inBlock 0 (P3 Kv)
abbrev g5:List SE:=[.v 1 .sl,.v 5 (.int .u32),.v 6 (.int .i64)]
def P6 (kc5:Cur g5):Post:=next (get g5 kc5) (P4 Kv)
def S7 (K:KT) (kc5:Cur g5) (b_8:Sl) (r_9:Int) (i_10:Int) (w:World):Prop :=
 kc5 b_8 r_9 (IntKind.i64.wrap (i_10+1)) w
theorem S7_ok (kc5:Cur g5):OkT pr false none 37 g5 (S7 (Kt Kv) kc5) (s2 (tl 1 (lp (blk (tl 1 (s1 (tl 2 bd))))))) (P6 Kv kc5):=ok_last mixed FOk_ fun v ρ w=>by kernel_rfl
def P8 (kc5:Cur g5):Post:=next (get g5 (S7 (Kt Kv) kc5)) (P6 Kv kc5)
def P9 (kc5:Cur g5):Post:=inBlock 1 (P8 Kv kc5)
def P10 (kc5:Cur g5):Post:=inBlock 2 (P9 Kv kc5)
abbrev g11:List SE:=[.v 1 .sl,.v 5 (.int .u32),.v 6 (.int .i64),.v 7 (.int .i64)]
def P12 (kc5:Cur g5) (kc11:Cur g11):Post:=next (get g11 kc11) (P10 Kv kc5)
def S13 (K:KT) (kc5:Cur g5) (kc11:Cur g11) (b_19:Sl) (r_20:Int) (i_21:Int) (k_22:Int) (w:World):Prop :=
 G.cond (decide (k_22<8)) (G.cond ((Go.bits .and .u32 r_20 1)==1) (G.nn 1<|kc11 b_19 (Go.bits .xor .u32 (shr .u32 r_20 1) 2197175160) i_21 (IntKind.i64.wrap (k_22+1)) w) (G.nn 1<|kc11 b_19 (shr .u32 r_20 1) i_21 (IntKind.i64.wrap (k_22+1)) w)) (S7 K kc5 b_19 r_20 i_21 w)
theorem S13_ok (kc5:Cur g5) (kc11:Cur g11):OkT pr false none 37 g11 (S13 (Kt Kv) kc5 kc11) (lp (blk (tl 2 (blk (s1 (tl 1 (lp (blk (tl 1 (s1 (tl 2 bd))))))))))) (P12 Kv kc5 kc11):=ok_last mixed FOk_ fun v ρ w=>by kernel_rfl
def L11 (K:KT) (kc5:Cur g5):Cur g11:=loopC g11 (S13 K kc5)
theorem L11_ok (kc5:Cur g5):OkT pr false none 37 g11 (L11 (Kt Kv) kc5) (blk (tl 2 (blk (s1 (tl 1 (lp (blk (tl 1 (s1 (tl 2 bd)))))))))) (P10 Kv kc5):=ok_loop (B:=S13 (Kt Kv) kc5) (by kernel_rfl) fun kc=>S13_ok Kv kc5 kc
theorem L11_ind {K:KT} {kc5:Cur g5} {b_11:Sl} {r_12:Int} {i_13:Int} {k_14:Int} {w:World} (h:∀ X:Cur g11,(∀ b_11 r_12 i_13 k_14 w,S13 K kc5 X b_11 r_12 i_13 k_14 w→X b_11 r_12 i_13 k_14 w)→X b_11 r_12 i_13 k_14 w):L11 K kc5 b_11 r_12 i_13 k_14 w:=fun X hX=>h X fun b_11 r_12 i_13 k_14 w hb=>hX (b_11,r_12,i_13,k_14,()) w hb
theorem B14 (kc5:Cur g5):OkT pr false none 37 g11 (L11 (Kt Kv) kc5) (tl 2 (blk (s1 (tl 1 (lp (blk (tl 1 (s1 (tl 2 bd))))))))) (P9 Kv kc5):=ok_block 2 (by kernel_rfl) (L11_ok Kv kc5)
def S15 (K:KT) (kc5:Cur g5) (b_23:Sl) (r_24:Int) (i_25:Int) (w:World):Prop :=
 G.ix b_23.a b_23.n i_25 1 fun p26=>G.cI .u8 p26 w fun n27=>L11 K kc5 b_23 (Go.bits .xor .u32 r_24 (IntKind.u32.wrap n27)) i_25 0 w
theorem S15_ok (kc5:Cur g5):OkT pr false none 37 g5 (S15 (Kt Kv) kc5) (blk (s1 (tl 1 (lp (blk (tl 1 (s1 (tl 2 bd)))))))) (P9 Kv kc5):=ok_group mixed FOk_ 2 (B14 Kv kc5) fun v ρ w=>by kernel_rfl
theorem B16 (kc5:Cur g5):OkT pr false none 37 g5 (S15 (Kt Kv) kc5) (s1 (tl 1 (lp (blk (tl 1 (s1 (tl 2 bd))))))) (P8 Kv kc5):=ok_block 1 (by kernel_rfl) (S15_ok Kv kc5)
theorem Q17 (kc5:Cur g5):OkT pr false none 37 g5 (S15 (Kt Kv) kc5) (tl 1 (lp (blk (tl 1 (s1 (tl 2 bd)))))) (P6 Kv kc5):=ok_seq (by kernel_rfl) (S7_ok Kv kc5) (B16 Kv kc5)
def S18 (K:KT) (kc5:Cur g5) (b_28:Sl) (r_29:Int) (i_30:Int) (w:World):Prop :=
 G.cond (decide (i_30<((b_28.n:Nat):Int))) (S15 K kc5 b_28 r_29 i_30 w) (S2 K r_29 w)
theorem S18_ok (kc5:Cur g5):OkT pr false none 37 g5 (S18 (Kt Kv) kc5) (lp (blk (tl 1 (s1 (tl 2 bd))))) (P6 Kv kc5):=ok_group mixed FOk_ 1 (Q17 Kv kc5) fun v ρ w=>by kernel_rfl
def L5 (K:KT):Cur g5:=loopC g5 (S18 K)
theorem L5_ok:OkT pr false none 37 g5 (L5 (Kt Kv)) (blk (tl 1 (s1 (tl 2 bd)))) (P4 Kv):=ok_loop (B:=S18 (Kt Kv)) (by kernel_rfl) fun kc=>S18_ok Kv kc
theorem L5_ind {K:KT} {b_5:Sl} {r_6:Int} {i_7:Int} {w:World} (h:∀ X:Cur g5,(∀ b_5 r_6 i_7 w,S18 K X b_5 r_6 i_7 w→X b_5 r_6 i_7 w)→X b_5 r_6 i_7 w):L5 K b_5 r_6 i_7 w:=fun X hX=>h X fun b_5 r_6 i_7 w hb=>hX (b_5,r_6,i_7,()) w hb
theorem B19:OkT pr false none 37 g5 (L5 (Kt Kv)) (tl 1 (s1 (tl 2 bd))) (P3 Kv):=ok_block 0 (by kernel_rfl) (L5_ok Kv)
abbrev g20:List SE:=[.v 1 .sl,.v 5 (.int .u32)]
def S20 (K:KT) (b_31:Sl) (r_32:Int) (w:World):Prop :=
 L5 K b_31 r_32 0 w
theorem S20_ok:OkT pr false none 37 g20 (S20 (Kt Kv)) (s1 (tl 2 bd)) (P3 Kv):=ok_group mixed FOk_ 1 (B19 Kv) fun v ρ w=>by kernel_rfl
theorem Q21:OkT pr false none 37 g20 (S20 (Kt Kv)) (tl 2 bd) (P1 Kv):=ok_seq (by kernel_rfl) (S2_ok Kv) (S20_ok Kv)
end tocsinref01_On
def tocsinref01_On (sum_2:Int) (b_3:Sl) (w:World) (K:tocsinref01_On.KT):Prop :=
 tocsinref01_On.S20 K b_3 (Go.bits .xor .u32 (notK .u32) sum_2) w
def tocsinref01_On.cl:CL:=fun args K w=>match args with
 | [.int .u32 x0,.slice x1_a x1_n x1_c]=>C.tocsinref01_On x0 ⟨x1_a,x1_n,x1_c⟩ w (tocsinref01_On.Kt K)
 | _=>False
theorem tocsinref01_On.clok:OkC pr 118 tocsinref01_On.cl:=by
 intro args K w h
 unfold tocsinref01_On.cl at h
 split at h
 ·exact calls_group false mixed tocsinref01_On.FOk_ tocsinref01_On.fn rfl 2 (tocsinref01_On.Q21 K) (Eq.mp (by kernel_rfl) h)
 ·exact h.elim
namespace tocsinref01_Sum
abbrev KT:=Int→World→Prop
def Kt:KT:=fun n1 w=>Kv (.int .u32 n1) w
noncomputable def bd:Code:=bdy Tryz.f93
theorem fn:FnOk pr 93 5 Tryz.f93:=⟨Tryz.func93,by kernel_rfl,Tryz.ntmps93,by kernel_rfl,by kernel_rfl⟩
def F:Clee:=ofL [(118,C.tocsinref01_On.cl)]
theorem FOk_:FOk pr F:=FOk_cons C.tocsinref01_On.clok (FOk_nil)
def P1:Post:=bodyK false pr 5 Tryz.f93 Kv
end tocsinref01_Sum
def tocsinref01_Sum (b_2:Sl) (w:World) (K:tocsinref01_Sum.KT):Prop :=
 C.tocsinref01_On 0 b_2 w fun n3 w4=>K n3 w4
def tocsinref01_Sum.cl:CL:=fun args K w=>match args with
 | [.slice x0_a x0_n x0_c]=>C.tocsinref01_Sum ⟨x0_a,x0_n,x0_c⟩ w (tocsinref01_Sum.Kt K)
 | _=>False
theorem tocsinref01_Sum.clok:OkC pr 93 tocsinref01_Sum.cl:=by
 intro args K w h
 unfold tocsinref01_Sum.cl at h
 split at h
 ·exact calls_last false mixed tocsinref01_Sum.FOk_ tocsinref01_Sum.fn rfl (Eq.mp (by kernel_rfl) h)
 ·exact h.elim
namespace tocsinref01_PutFrame
abbrev KT:=Sl→Int→World→Prop
def Kt:KT:=fun l1 n2 w=>Kv (.tuple #[l1.v,(.int .i64 n2)]) w
noncomputable def bd:Code:=bdy Tryz.f56
theorem fn:FnOk pr 56 35 Tryz.f56:=⟨Tryz.func56,by kernel_rfl,Tryz.ntmps56,by kernel_rfl,by kernel_rfl⟩
def F:Clee:=ofL [(55,C.tocsinref01_PutU.cl),(92,C.tocsinref01_joined.cl),(93,C.tocsinref01_Sum.cl)]
theorem FOk_:FOk pr F:=FOk_cons C.tocsinref01_PutU.clok (FOk_cons C.tocsinref01_joined.clok (FOk_cons C.tocsinref01_Sum.clok (FOk_nil)))
def P1:Post:=bodyK false pr 35 Tryz.f56 Kv
end tocsinref01_PutFrame
def tocsinref01_PutFrame (b_3:Sl) (p_4:Sl) (w:World) (K:tocsinref01_PutFrame.KT):Prop :=
 G.cond (decide (((p_4.n:Nat):Int) > 65536)) (K nilS 4 w) (C.tocsinref01_Sum p_4 w fun n7 w8=>C.tocsinref01_PutU b_3 (IntKind.u64.wrap ((p_4.n:Nat):Int)) w8 fun l9 w10=>G.nn 8<|G.nn 16<|G.nn 24<|G.new (.cells #[(.int .u8 (IntKind.u8.wrap n7)),(.int .u8 (IntKind.u8.wrap (shr .u32 n7 8))),(.int .u8 (IntKind.u8.wrap (shr .u32 n7 16))),(.int .u8 (IntKind.u8.wrap (shr .u32 n7 24)))] 5) w10 fun p11 w12=>G.runSl pr (Builtin.append_ #[22,22] 22 #[l9.v,(Sl.v (⟨some p11,4,4⟩:Sl))]) w12 fun l13 w14=>C.tocsinref01_joined l13 p_4 w14 fun l15 w16=>K l15 0 w16)
def tocsinref01_PutFrame.cl:CL:=fun args K w=>match args with
 | [.slice x0_a x0_n x0_c,.slice x1_a x1_n x1_c]=>C.tocsinref01_PutFrame ⟨x0_a,x0_n,x0_c⟩ ⟨x1_a,x1_n,x1_c⟩ w (tocsinref01_PutFrame.Kt K)
 | _=>False
theorem tocsinref01_PutFrame.clok:OkC pr 56 tocsinref01_PutFrame.cl:=by
 intro args K w h
 unfold tocsinref01_PutFrame.cl at h
 split at h
 ·exact calls_last false mixed tocsinref01_PutFrame.FOk_ tocsinref01_PutFrame.fn rfl (Eq.mp (by kernel_rfl) h)
 ·exact h.elim
namespace tocsinref10_Build
abbrev KT:=Sl→Int→Int→World→Prop
def Kt:KT:=fun l1 n2 n3 w=>Kv (.tuple #[l1.v,(.int .i64 n2),(.int .i64 n3)]) w
noncomputable def bd:Code:=bdy Tryz.f18
theorem fn:FnOk pr 18 132 Tryz.f18:=⟨Tryz.func18,by kernel_rfl,Tryz.ntmps18,by kernel_rfl,by kernel_rfl⟩
def F:Clee:=ofL [(19,C.tocsinref10_Sorted.cl),(54,C.tocsinref10_wrong.cl),(55,C.tocsinref01_PutU.cl),(56,C.tocsinref01_PutFrame.cl),(57,C.tocsinref10_frame.cl)]
theorem FOk_:FOk pr F:=FOk_cons C.tocsinref10_Sorted.clok (FOk_cons C.tocsinref10_wrong.clok (FOk_cons C.tocsinref01_PutU.clok (FOk_cons C.tocsinref01_PutFrame.clok (FOk_cons C.tocsinref10_frame.clok (FOk_nil)))))
def P1:Post:=bodyK false pr 132 Tryz.f18 Kv
abbrev g2:List SE:=[.v 15 .sl]
def S2 (K:KT) (b_6:Sl) (w:World):Prop :=
 K b_6 0 0 w
theorem S2_ok:OkT pr false none 132 g2 (S2 (Kt Kv)) (s2 (tl 1 (s2 (tl 1 (s2 (tl 4 bd)))))) (P1 Kv):=ok_last mixed FOk_ fun v ρ w=>by kernel_rfl
def P3:Post:=next (get g2 (S2 (Kt Kv))) (P1 Kv)
def P4:Post:=inBlock 4 (P3 Kv)
abbrev g5:List SE:=[.v 15 .sl,.v 110 .sl,.v 111 (.int .i64),.v 112 (.int .i64)]
def P6 (kc5:Cur g5):Post:=next (get g5 kc5) (P4 Kv)
def S7 (K:KT) (kc5:Cur g5) (b_15:Sl) (l16:Sl) (n17:Int) (n18:Int) (w:World):Prop :=
 G.cond (decide (n18<n17)) (G.ix l16.a l16.n n18 2 fun p19=>G.cSl p19 w fun l20=>G.cSl (p19.add 1) w fun l21=>G.new (.cells #[nilS.v,nilS.v] 57) w fun p22 w23=>G.st p22 l20.v w23 fun w24=>G.st (p22.add 1) l21.v w24 fun w25=>G.cSl p22 w25 fun l26=>G.cSl (p22.add 1) w25 fun l27=>C.tocsinref10_frame l26 l27 w25 fun l28 n29 w30=>C.tocsinref01_PutFrame b_15 l28 w30 fun l31 n32 w33=>G.cond (decide (((l31.n:Nat):Int) > 1048576)) (K nilS 4 0 w33) (kc5 l31 l16 n17 (IntKind.i64.wrap (n18+1)) w33)) (S2 K b_15 w)
theorem S7_ok (kc5:Cur g5):OkT pr false none 132 g5 (S7 (Kt Kv) kc5) (lp (blk (tl 1 (s1 (tl 1 (s2 (tl 1 (s2 (tl 4 bd))))))))) (P6 Kv kc5):=ok_last mixed FOk_ fun v ρ w=>by kernel_rfl
def L5 (K:KT):Cur g5:=loopC g5 (S7 K)
theorem L5_ok:OkT pr false none 132 g5 (L5 (Kt Kv)) (blk (tl 1 (s1 (tl 1 (s2 (tl 1 (s2 (tl 4 bd)))))))) (P4 Kv):=ok_loop (B:=S7 (Kt Kv)) (by kernel_rfl) fun kc=>S7_ok Kv kc
theorem L5_ind {K:KT} {b_7:Sl} {l8:Sl} {n9:Int} {n10:Int} {w:World} (h:∀ X:Cur g5,(∀ b_7 l8 n9 n10 w,S7 K X b_7 l8 n9 n10 w→X b_7 l8 n9 n10 w)→X b_7 l8 n9 n10 w):L5 K b_7 l8 n9 n10 w:=fun X hX=>h X fun b_7 l8 n9 n10 w hb=>hX (b_7,l8,n9,n10,()) w hb
theorem B8:OkT pr false none 132 g5 (L5 (Kt Kv)) (tl 1 (s1 (tl 1 (s2 (tl 1 (s2 (tl 4 bd))))))) (P3 Kv):=ok_block 4 (by kernel_rfl) (L5_ok Kv)
abbrev g9:List SE:=[.v 0 .sl,.v 15 .sl]
def S9 (K:KT) (l_34:Sl) (b_35:Sl) (w:World):Prop :=
 C.tocsinref10_Sorted l_34 w fun l36 w37=>L5 K b_35 l36 ((l36.n:Nat):Int) 0 w37
theorem S9_ok:OkT pr false none 132 g9 (S9 (Kt Kv)) (s1 (tl 1 (s2 (tl 1 (s2 (tl 4 bd)))))) (P3 Kv):=ok_group mixed FOk_ 1 (B8 Kv) fun v ρ w=>by kernel_rfl
theorem Q10:OkT pr false none 132 g9 (S9 (Kt Kv)) (tl 1 (s2 (tl 1 (s2 (tl 4 bd))))) (P1 Kv):=ok_seq (by kernel_rfl) (S2_ok Kv) (S9_ok Kv)
abbrev g11:List SE:=[.v 0 .sl,.v 12 .sl]
def S11 (K:KT) (l_38:Sl) (head_39:Sl) (w:World):Prop :=
 G.new (.cells #[(.int .u8 84),(.int .u8 79),(.int .u8 67),(.int .u8 66),(.int .u8 76),(.int .u8 75),(.int .u8 48),(.int .u8 49)] 5) w fun p40 w41=>G.runSl pr (Go.convert 22 22 (Sl.v (⟨some p40,8,8⟩:Sl))) w41 fun l42 w43=>C.tocsinref01_PutFrame l42 head_39 w43 fun l44 n45 w46=>S9 K l_38 l44 w46
theorem S11_ok:OkT pr false none 132 g11 (S11 (Kt Kv)) (s2 (tl 1 (s2 (tl 4 bd)))) (P1 Kv):=ok_group mixed FOk_ 1 (Q10 Kv) fun v ρ w=>by kernel_rfl
def P12:Post:=next (get g11 (S11 (Kt Kv))) (P1 Kv)
def P13:Post:=inBlock 2 (P12 Kv)
abbrev g14:List SE:=[.v 0 .sl,.v 12 .sl,.v 92 .sl,.v 93 (.int .i64),.v 94 (.int .i64)]
def P15 (kc14:Cur g14):Post:=next (get g14 kc14) (P13 Kv)
def S16 (K:KT) (kc14:Cur g14) (l_57:Sl) (head_58:Sl) (l59:Sl) (n60:Int) (n61:Int) (w:World):Prop :=
 G.cond (decide (n61<n60)) (G.ix l59.a l59.n n61 1 fun p62=>G.cI .u64 p62 w fun n63=>C.tocsinref01_PutU head_58 n63 w fun l64 w65=>kc14 l_57 l64 l59 n60 (IntKind.i64.wrap (n61+1)) w65) (S11 K l_57 head_58 w)
theorem S16_ok (kc14:Cur g14):OkT pr false none 132 g14 (S16 (Kt Kv) kc14) (lp (blk (tl 1 (s1 (tl 1 (s2 (tl 4 bd))))))) (P15 Kv kc14):=ok_last mixed FOk_ fun v ρ w=>by kernel_rfl
def L14 (K:KT):Cur g14:=loopC g14 (S16 K)
theorem L14_ok:OkT pr false none 132 g14 (L14 (Kt Kv)) (blk (tl 1 (s1 (tl 1 (s2 (tl 4 bd)))))) (P13 Kv):=ok_loop (B:=S16 (Kt Kv)) (by kernel_rfl) fun kc=>S16_ok Kv kc
theorem L14_ind {K:KT} {l_47:Sl} {head_48:Sl} {l49:Sl} {n50:Int} {n51:Int} {w:World} (h:∀ X:Cur g14,(∀ l_47 head_48 l49 n50 n51 w,S16 K X l_47 head_48 l49 n50 n51 w→X l_47 head_48 l49 n50 n51 w)→X l_47 head_48 l49 n50 n51 w):L14 K l_47 head_48 l49 n50 n51 w:=fun X hX=>h X fun l_47 head_48 l49 n50 n51 w hb=>hX (l_47,head_48,l49,n50,n51,()) w hb
theorem B17:OkT pr false none 132 g14 (L14 (Kt Kv)) (tl 1 (s1 (tl 1 (s2 (tl 4 bd))))) (P12 Kv):=ok_block 2 (by kernel_rfl) (L14_ok Kv)
abbrev g18:List SE:=[.v 0 .sl,.v 5 (.int .i64),.v 6 (.int .i64),.v 7 (.int .i64),.v 12 .sl]
def S18 (K:KT) (l_66:Sl) (count_67:Int) (lo_68:Int) (hi_69:Int) (head_70:Sl) (w:World):Prop :=
 G.new (.cells #[(.int .u64 (IntKind.u64.wrap ((l_66.n:Nat):Int))),(.int .u64 (IntKind.u64.wrap count_67)),(.int .u64 (IntKind.u64.wrap lo_68)),(.int .u64 (IntKind.u64.wrap hi_69))] 105) w fun p71 w72=>L14 K l_66 head_70 (⟨some p71,4,4⟩:Sl) (((⟨some p71,4,4⟩:Sl).n:Nat):Int) 0 w72
theorem S18_ok:OkT pr false none 132 g18 (S18 (Kt Kv)) (s1 (tl 1 (s2 (tl 4 bd)))) (P12 Kv):=ok_group mixed FOk_ 1 (B17 Kv) fun v ρ w=>by kernel_rfl
theorem Q19:OkT pr false none 132 g18 (S18 (Kt Kv)) (tl 1 (s2 (tl 4 bd))) (P1 Kv):=ok_seq (by kernel_rfl) (S11_ok Kv) (S18_ok Kv)
abbrev g20:List SE:=[.v 0 .sl,.v 5 (.int .i64),.v 6 (.int .i64),.v 7 (.int .i64)]
def S20 (K:KT) (l_73:Sl) (count_74:Int) (lo_75:Int) (hi_76:Int) (w:World):Prop :=
 S18 K l_73 count_74 lo_75 hi_76 nilS w
theorem S20_ok:OkT pr false none 132 g20 (S20 (Kt Kv)) (s2 (tl 4 bd)) (P1 Kv):=ok_group mixed FOk_ 1 (Q19 Kv) fun v ρ w=>by kernel_rfl
def P21:Post:=next (get g20 (S20 (Kt Kv))) (P1 Kv)
def P22:Post:=inBlock 0 (P21 Kv)
abbrev g23:List SE:=[.v 0 .sl,.v 5 (.int .i64),.v 6 (.int .i64),.v 7 (.int .i64),.v 24 .sl,.v 25 (.int .i64),.v 26 (.int .i64)]
def P24 (kc23:Cur g23):Post:=next (get g23 kc23) (P22 Kv)
def S25 (K:KT) (kc23:Cur g23) (l_91:Sl) (count_92:Int) (lo_93:Int) (hi_94:Int) (l95:Sl) (n96:Int) (n97:Int) (w:World):Prop :=
 G.cond (decide (n97<n96)) (G.ix l95.a l95.n n97 2 fun p98=>G.cSl p98 w fun l99=>G.cSl (p98.add 1) w fun l100=>G.new (.cells #[nilS.v,nilS.v] 57) w fun p101 w102=>G.st p101 l99.v w102 fun w103=>G.st (p101.add 1) l100.v w103 fun w104=>G.slc l_91 0 n97 2 fun l105=>G.cSl p101 w104.drew fun l106=>G.cSl (p101.add 1) w104.drew fun l107=>C.tocsinref10_wrong l105 l106 l107 w104.drew fun n108 w109=>G.cond (n108 != 0) (K nilS n108 n97 w109) (G.cSl (p101.add 1) w109 fun l110=>G.cond (n97==0) (G.cSl (p101.add 1) w109 fun l111=>G.ix l111.a l111.n 0 2 fun p112=>G.cI .i64 p112 w109 fun n113=>G.cond (n97==0) (G.cSl (p101.add 1) w109 fun l114=>G.ix l114.a l114.n (IntKind.i64.wrap (((l110.n:Nat):Int)-1)) 2 fun p115=>G.cI .i64 p115 w109 fun n116=>kc23 l_91 (IntKind.i64.wrap (count_92+((l110.n:Nat):Int))) n113 n116 l95 n96 (IntKind.i64.wrap (n97+1)) w109) (G.cSl (p101.add 1) w109 fun l117=>G.ix l117.a l117.n (IntKind.i64.wrap (((l110.n:Nat):Int)-1)) 2 fun p118=>G.cI .i64 p118 w109 fun n119=>G.cond (decide (n119 > hi_94)) (G.cSl (p101.add 1) w109 fun l120=>G.ix l120.a l120.n (IntKind.i64.wrap (((l110.n:Nat):Int)-1)) 2 fun p121=>G.cI .i64 p121 w109 fun n122=>kc23 l_91 (IntKind.i64.wrap (count_92+((l110.n:Nat):Int))) n113 n122 l95 n96 (IntKind.i64.wrap (n97+1)) w109) (kc23 l_91 (IntKind.i64.wrap (count_92+((l110.n:Nat):Int))) n113 hi_94 l95 n96 (IntKind.i64.wrap (n97+1)) w109))) (G.cSl (p101.add 1) w109 fun l123=>G.ix l123.a l123.n 0 2 fun p124=>G.cI .i64 p124 w109 fun n125=>G.cond (decide (n125<lo_93)) (G.cSl (p101.add 1) w109 fun l126=>G.ix l126.a l126.n 0 2 fun p127=>G.cI .i64 p127 w109 fun n128=>G.cond (n97==0) (G.cSl (p101.add 1) w109 fun l129=>G.ix l129.a l129.n (IntKind.i64.wrap (((l110.n:Nat):Int)-1)) 2 fun p130=>G.cI .i64 p130 w109 fun n131=>kc23 l_91 (IntKind.i64.wrap (count_92+((l110.n:Nat):Int))) n128 n131 l95 n96 (IntKind.i64.wrap (n97+1)) w109) (G.cSl (p101.add 1) w109 fun l132=>G.ix l132.a l132.n (IntKind.i64.wrap (((l110.n:Nat):Int)-1)) 2 fun p133=>G.cI .i64 p133 w109 fun n134=>G.cond (decide (n134 > hi_94)) (G.cSl (p101.add 1) w109 fun l135=>G.ix l135.a l135.n (IntKind.i64.wrap (((l110.n:Nat):Int)-1)) 2 fun p136=>G.cI .i64 p136 w109 fun n137=>kc23 l_91 (IntKind.i64.wrap (count_92+((l110.n:Nat):Int))) n128 n137 l95 n96 (IntKind.i64.wrap (n97+1)) w109) (kc23 l_91 (IntKind.i64.wrap (count_92+((l110.n:Nat):Int))) n128 hi_94 l95 n96 (IntKind.i64.wrap (n97+1)) w109))) (G.cond (n97==0) (G.cSl (p101.add 1) w109 fun l138=>G.ix l138.a l138.n (IntKind.i64.wrap (((l110.n:Nat):Int)-1)) 2 fun p139=>G.cI .i64 p139 w109 fun n140=>kc23 l_91 (IntKind.i64.wrap (count_92+((l110.n:Nat):Int))) lo_93 n140 l95 n96 (IntKind.i64.wrap (n97+1)) w109) (G.cSl (p101.add 1) w109 fun l141=>G.ix l141.a l141.n (IntKind.i64.wrap (((l110.n:Nat):Int)-1)) 2 fun p142=>G.cI .i64 p142 w109 fun n143=>G.cond (decide (n143 > hi_94)) (G.cSl (p101.add 1) w109 fun l144=>G.ix l144.a l144.n (IntKind.i64.wrap (((l110.n:Nat):Int)-1)) 2 fun p145=>G.cI .i64 p145 w109 fun n146=>kc23 l_91 (IntKind.i64.wrap (count_92+((l110.n:Nat):Int))) lo_93 n146 l95 n96 (IntKind.i64.wrap (n97+1)) w109) (kc23 l_91 (IntKind.i64.wrap (count_92+((l110.n:Nat):Int))) lo_93 hi_94 l95 n96 (IntKind.i64.wrap (n97+1)) w109)))))) (S20 K l_91 count_92 lo_93 hi_94 w)
theorem S25_ok (kc23:Cur g23):OkT pr false none 132 g23 (S25 (Kt Kv) kc23) (lp (blk (tl 1 (s1 (tl 4 bd))))) (P24 Kv kc23):=ok_last mixed FOk_ fun v ρ w=>by kernel_rfl
def L23 (K:KT):Cur g23:=loopC g23 (S25 K)
theorem L23_ok:OkT pr false none 132 g23 (L23 (Kt Kv)) (blk (tl 1 (s1 (tl 4 bd)))) (P22 Kv):=ok_loop (B:=S25 (Kt Kv)) (by kernel_rfl) fun kc=>S25_ok Kv kc
theorem L23_ind {K:KT} {l_77:Sl} {count_78:Int} {lo_79:Int} {hi_80:Int} {l81:Sl} {n82:Int} {n83:Int} {w:World} (h:∀ X:Cur g23,(∀ l_77 count_78 lo_79 hi_80 l81 n82 n83 w,S25 K X l_77 count_78 lo_79 hi_80 l81 n82 n83 w→X l_77 count_78 lo_79 hi_80 l81 n82 n83 w)→X l_77 count_78 lo_79 hi_80 l81 n82 n83 w):L23 K l_77 count_78 lo_79 hi_80 l81 n82 n83 w:=fun X hX=>h X fun l_77 count_78 lo_79 hi_80 l81 n82 n83 w hb=>hX (l_77,count_78,lo_79,hi_80,l81,n82,n83,()) w hb
theorem B26:OkT pr false none 132 g23 (L23 (Kt Kv)) (tl 1 (s1 (tl 4 bd))) (P21 Kv):=ok_block 0 (by kernel_rfl) (L23_ok Kv)
def S27 (K:KT) (l_147:Sl) (count_148:Int) (lo_149:Int) (hi_150:Int) (w:World):Prop :=
 L23 K l_147 count_148 lo_149 hi_150 l_147 ((l_147.n:Nat):Int) 0 w
theorem S27_ok:OkT pr false none 132 g20 (S27 (Kt Kv)) (s1 (tl 4 bd)) (P21 Kv):=ok_group mixed FOk_ 1 (B26 Kv) fun v ρ w=>by kernel_rfl
theorem Q28:OkT pr false none 132 g20 (S27 (Kt Kv)) (tl 4 bd) (P1 Kv):=ok_seq (by kernel_rfl) (S20_ok Kv) (S27_ok Kv)
end tocsinref10_Build
def tocsinref10_Build (l_4:Sl) (w:World) (K:tocsinref10_Build.KT):Prop :=
 G.cond (decide (((l_4.n:Nat):Int) > 1000)) (K nilS 8 0 w) (tocsinref10_Build.S27 K l_4 0 0 0 w)
def tocsinref10_Build.cl:CL:=fun args K w=>match args with
 | [.slice x0_a x0_n x0_c]=>C.tocsinref10_Build ⟨x0_a,x0_n,x0_c⟩ w (tocsinref10_Build.Kt K)
 | _=>False
theorem tocsinref10_Build.clok:OkC pr 18 tocsinref10_Build.cl:=by
 intro args K w h
 unfold tocsinref10_Build.cl at h
 split at h
 ·exact calls_group false mixed tocsinref10_Build.FOk_ tocsinref10_Build.fn rfl 4 (tocsinref10_Build.Q28 K) (Eq.mp (by kernel_rfl) h)
 ·exact h.elim
namespace tocsinref01_U
abbrev KT:=Int→Int→Int→World→Prop
def Kt:KT:=fun n1 n2 n3 w=>Kv (.tuple #[(.int .u64 n1),(.int .i64 n2),(.int .i64 n3)]) w
noncomputable def bd:Code:=bdy Tryz.f88
theorem fn:FnOk pr 88 62 Tryz.f88:=⟨Tryz.func88,by kernel_rfl,Tryz.ntmps88,by kernel_rfl,by kernel_rfl⟩
def F:Clee:=ofL []
theorem FOk_:FOk pr F:=FOk_nil
def P1:Post:=bodyK false pr 62 Tryz.f88 Kv
abbrev g2:List SE:=[]
def S2 (K:KT) (w:World):Prop :=
 K 0 0 7 w
theorem S2_ok:OkT pr false none 62 g2 (S2 (Kt Kv)) (s2 (tl 3 bd)) (P1 Kv):=ok_last mixed FOk_ fun v ρ w=>by kernel_rfl
def P3:Post:=next (get g2 (S2 (Kt Kv))) (P1 Kv)
def P4:Post:=inBlock 0 (P3 Kv)
abbrev g5:List SE:=[.v 0 .sl,.v 1 (.int .i64),.v 7 (.int .u64),.v 8 (.int .i64)]
def P6 (kc5:Cur g5):Post:=next (get g5 kc5) (P4 Kv)
def S7 (K:KT) (kc5:Cur g5) (b_16:Sl) (at_17:Int) (n_18:Int) (i_19:Int) (w:World):Prop :=
 G.cond (decide (i_19<10)) (G.cond (decide (i_19 ≥ (IntKind.i64.wrap (((b_16.n:Nat):Int)-at_17)))) (K 0 0 9 w) (G.ix b_16.a b_16.n (IntKind.i64.wrap (at_17+i_19)) 1 fun p20=>G.cI .u8 p20 w fun n21=>G.cond (i_19==9) (G.cond (decide (n21 > 1)) (K 0 0 7 w) (G.nz 128<|G.nn (IntKind.u64.wrap (IntKind.i64.wrap (7*i_19)))<|G.cond (decide (n21<128)) (G.cond (n21==0) (G.cond (decide (i_19 > 0)) (K 0 0 3 w) (K (Go.bits .or .u64 n_18 (shl .u64 (IntKind.u64.wrap (Int.tmod n21 128)) (IntKind.u64.wrap (IntKind.i64.wrap (7*i_19))))) (IntKind.i64.wrap ((IntKind.i64.wrap (at_17+i_19))+1)) 0 w)) (K (Go.bits .or .u64 n_18 (shl .u64 (IntKind.u64.wrap (Int.tmod n21 128)) (IntKind.u64.wrap (IntKind.i64.wrap (7*i_19))))) (IntKind.i64.wrap ((IntKind.i64.wrap (at_17+i_19))+1)) 0 w)) (kc5 b_16 at_17 (Go.bits .or .u64 n_18 (shl .u64 (IntKind.u64.wrap (Int.tmod n21 128)) (IntKind.u64.wrap (IntKind.i64.wrap (7*i_19))))) (IntKind.i64.wrap (i_19+1)) w))) (G.nz 128<|G.nn (IntKind.u64.wrap (IntKind.i64.wrap (7*i_19)))<|G.cond (decide (n21<128)) (G.cond (n21==0) (G.cond (decide (i_19 > 0)) (K 0 0 3 w) (K (Go.bits .or .u64 n_18 (shl .u64 (IntKind.u64.wrap (Int.tmod n21 128)) (IntKind.u64.wrap (IntKind.i64.wrap (7*i_19))))) (IntKind.i64.wrap ((IntKind.i64.wrap (at_17+i_19))+1)) 0 w)) (K (Go.bits .or .u64 n_18 (shl .u64 (IntKind.u64.wrap (Int.tmod n21 128)) (IntKind.u64.wrap (IntKind.i64.wrap (7*i_19))))) (IntKind.i64.wrap ((IntKind.i64.wrap (at_17+i_19))+1)) 0 w)) (kc5 b_16 at_17 (Go.bits .or .u64 n_18 (shl .u64 (IntKind.u64.wrap (Int.tmod n21 128)) (IntKind.u64.wrap (IntKind.i64.wrap (7*i_19))))) (IntKind.i64.wrap (i_19+1)) w)))) (S2 K w)
theorem S7_ok (kc5:Cur g5):OkT pr false none 62 g5 (S7 (Kt Kv) kc5) (lp (blk (tl 1 (s1 (tl 3 bd))))) (P6 Kv kc5):=ok_last mixed FOk_ fun v ρ w=>by kernel_rfl
def L5 (K:KT):Cur g5:=loopC g5 (S7 K)
theorem L5_ok:OkT pr false none 62 g5 (L5 (Kt Kv)) (blk (tl 1 (s1 (tl 3 bd)))) (P4 Kv):=ok_loop (B:=S7 (Kt Kv)) (by kernel_rfl) fun kc=>S7_ok Kv kc
theorem L5_ind {K:KT} {b_8:Sl} {at_9:Int} {n_10:Int} {i_11:Int} {w:World} (h:∀ X:Cur g5,(∀ b_8 at_9 n_10 i_11 w,S7 K X b_8 at_9 n_10 i_11 w→X b_8 at_9 n_10 i_11 w)→X b_8 at_9 n_10 i_11 w):L5 K b_8 at_9 n_10 i_11 w:=fun X hX=>h X fun b_8 at_9 n_10 i_11 w hb=>hX (b_8,at_9,n_10,i_11,()) w hb
theorem B8:OkT pr false none 62 g5 (L5 (Kt Kv)) (tl 1 (s1 (tl 3 bd))) (P3 Kv):=ok_block 0 (by kernel_rfl) (L5_ok Kv)
abbrev g9:List SE:=[.v 0 .sl,.v 1 (.int .i64),.v 7 (.int .u64)]
def S9 (K:KT) (b_22:Sl) (at_23:Int) (n_24:Int) (w:World):Prop :=
 L5 K b_22 at_23 n_24 0 w
theorem S9_ok:OkT pr false none 62 g9 (S9 (Kt Kv)) (s1 (tl 3 bd)) (P3 Kv):=ok_group mixed FOk_ 1 (B8 Kv) fun v ρ w=>by kernel_rfl
theorem Q10:OkT pr false none 62 g9 (S9 (Kt Kv)) (tl 3 bd) (P1 Kv):=ok_seq (by kernel_rfl) (S2_ok Kv) (S9_ok Kv)
end tocsinref01_U
def tocsinref01_U (b_4:Sl) (at_5:Int) (w:World) (K:tocsinref01_U.KT):Prop :=
 G.cond (decide (at_5<0)) (K 0 0 1 w) (G.cond (decide (at_5 > ((b_4.n:Nat):Int))) (K 0 0 1 w) (tocsinref01_U.S9 K b_4 at_5 0 w))
def tocsinref01_U.cl:CL:=fun args K w=>match args with
 | [.slice x0_a x0_n x0_c,.int .i64 x1]=>C.tocsinref01_U ⟨x0_a,x0_n,x0_c⟩ x1 w (tocsinref01_U.Kt K)
 | _=>False
theorem tocsinref01_U.clok:OkC pr 88 tocsinref01_U.cl:=by
 intro args K w h
 unfold tocsinref01_U.cl at h
 split at h
 ·exact calls_group false mixed tocsinref01_U.FOk_ tocsinref01_U.fn rfl 3 (tocsinref01_U.Q10 K) (Eq.mp (by kernel_rfl) h)
 ·exact h.elim
namespace tocsinref01_Frame
abbrev KT:=Sl→Int→Int→World→Prop
def Kt:KT:=fun l1 n2 n3 w=>Kv (.tuple #[l1.v,(.int .i64 n2),(.int .i64 n3)]) w
noncomputable def bd:Code:=bdy Tryz.f86
theorem fn:FnOk pr 86 81 Tryz.f86:=⟨Tryz.func86,by kernel_rfl,Tryz.ntmps86,by kernel_rfl,by kernel_rfl⟩
def F:Clee:=ofL [(88,C.tocsinref01_U.cl),(92,C.tocsinref01_joined.cl),(93,C.tocsinref01_Sum.cl)]
theorem FOk_:FOk pr F:=FOk_cons C.tocsinref01_U.clok (FOk_cons C.tocsinref01_joined.clok (FOk_cons C.tocsinref01_Sum.clok (FOk_nil)))
def P1:Post:=bodyK false pr 81 Tryz.f86 Kv
end tocsinref01_Frame
def tocsinref01_Frame (b_4:Sl) (at_5:Int) (w:World) (K:tocsinref01_Frame.KT):Prop :=
 C.tocsinref01_U b_4 at_5 w fun n14 n15 n16 w17=>G.cond (n16 != 0) (K nilS 0 n16 w17) (G.cond (decide (n14 > 65536)) (K nilS 0 4 w17) (G.cond (decide ((IntKind.u64.wrap (n14+4)) > (IntKind.u64.wrap (IntKind.i64.wrap (((b_4.n:Nat):Int)-n15))))) (K nilS 0 9 w17) (G.ix b_4.a b_4.n n15 1 fun p18=>G.cI .u8 p18 w17.drew fun n19=>G.ix b_4.a b_4.n (IntKind.i64.wrap (n15+1)) 1 fun p20=>G.cI .u8 p20 w17.drew fun n21=>G.nn 8<|G.ix b_4.a b_4.n (IntKind.i64.wrap (n15+2)) 1 fun p22=>G.cI .u8 p22 w17.drew fun n23=>G.nn 16<|G.ix b_4.a b_4.n (IntKind.i64.wrap (n15+3)) 1 fun p24=>G.cI .u8 p24 w17.drew fun n25=>G.nn 24<|G.slc b_4 (IntKind.i64.wrap (n15+4)) (IntKind.i64.wrap ((IntKind.i64.wrap (n15+4))+(IntKind.i64.wrap n14))) 1 fun l26=>C.tocsinref01_joined nilS l26 w17.drew fun l27 w28=>C.tocsinref01_Sum l27 w28 fun n29 w30=>G.cond (n29 != (Go.bits .or .u32 (Go.bits .or .u32 (Go.bits .or .u32 (IntKind.u32.wrap n19) (shl .u32 (IntKind.u32.wrap n21) 8)) (shl .u32 (IntKind.u32.wrap n23) 16)) (shl .u32 (IntKind.u32.wrap n25) 24))) (K nilS 0 11 w30) (K l27 (IntKind.i64.wrap ((IntKind.i64.wrap (n15+4))+(IntKind.i64.wrap n14))) 0 w30))))
def tocsinref01_Frame.cl:CL:=fun args K w=>match args with
 | [.slice x0_a x0_n x0_c,.int .i64 x1]=>C.tocsinref01_Frame ⟨x0_a,x0_n,x0_c⟩ x1 w (tocsinref01_Frame.Kt K)
 | _=>False
theorem tocsinref01_Frame.clok:OkC pr 86 tocsinref01_Frame.cl:=by
 intro args K w h
 unfold tocsinref01_Frame.cl at h
 split at h
 ·exact calls_last false mixed tocsinref01_Frame.FOk_ tocsinref01_Frame.fn rfl (Eq.mp (by kernel_rfl) h)
 ·exact h.elim
namespace tocsinref01_Frames
abbrev KT:=Sl→Int→Int→World→Prop
def Kt:KT:=fun l1 n2 n3 w=>Kv (.tuple #[l1.v,(.int .i64 n2),(.int .i64 n3)]) w
noncomputable def bd:Code:=bdy Tryz.f45
theorem fn:FnOk pr 45 33 Tryz.f45:=⟨Tryz.func45,by kernel_rfl,Tryz.ntmps45,by kernel_rfl,by kernel_rfl⟩
def F:Clee:=ofL [(86,C.tocsinref01_Frame.cl)]
theorem FOk_:FOk pr F:=FOk_cons C.tocsinref01_Frame.clok (FOk_nil)
def P1:Post:=bodyK false pr 33 Tryz.f45 Kv
abbrev g2:List SE:=[.v 5 .sl,.v 6 (.int .i64)]
def S2 (K:KT) (l_5:Sl) (at_6:Int) (w:World):Prop :=
 K l_5 at_6 0 w
theorem S2_ok:OkT pr false none 33 g2 (S2 (Kt Kv)) (s2 (tl 3 bd)) (P1 Kv):=ok_last mixed FOk_ fun v ρ w=>by kernel_rfl
def P3:Post:=next (get g2 (S2 (Kt Kv))) (P1 Kv)
def P4:Post:=inBlock 0 (P3 Kv)
abbrev g5:List SE:=[.v 0 .sl,.v 5 .sl,.v 6 (.int .i64)]
def P6 (kc5:Cur g5):Post:=next (get g5 kc5) (P4 Kv)
def S7 (K:KT) (kc5:Cur g5) (b_13:Sl) (l_14:Sl) (at_15:Int) (w:World):Prop :=
 G.cond (decide (at_15<((b_13.n:Nat):Int))) (C.tocsinref01_Frame b_13 at_15 w fun l16 n17 n18 w19=>G.cond (n18 != 0) (K l_14 at_15 n18 w19) (G.new (.cells #[l16.v] 22) w19 fun p20 w21=>G.runSl pr (Builtin.append_ #[78,78] 78 #[l_14.v,(Sl.v (⟨some p20,1,1⟩:Sl))]) w21 fun l22 w23=>kc5 b_13 l22 n17 w23)) (S2 K l_14 at_15 w)
theorem S7_ok (kc5:Cur g5):OkT pr false none 33 g5 (S7 (Kt Kv) kc5) (lp (blk (s1 (tl 3 bd)))) (P6 Kv kc5):=ok_last mixed FOk_ fun v ρ w=>by kernel_rfl
def L5 (K:KT):Cur g5:=loopC g5 (S7 K)
theorem L5_ok:OkT pr false none 33 g5 (L5 (Kt Kv)) (blk (s1 (tl 3 bd))) (P4 Kv):=ok_loop (B:=S7 (Kt Kv)) (by kernel_rfl) fun kc=>S7_ok Kv kc
theorem L5_ind {K:KT} {b_7:Sl} {l_8:Sl} {at_9:Int} {w:World} (h:∀ X:Cur g5,(∀ b_7 l_8 at_9 w,S7 K X b_7 l_8 at_9 w→X b_7 l_8 at_9 w)→X b_7 l_8 at_9 w):L5 K b_7 l_8 at_9 w:=fun X hX=>h X fun b_7 l_8 at_9 w hb=>hX (b_7,l_8,at_9,()) w hb
theorem B8:OkT pr false none 33 g5 (L5 (Kt Kv)) (s1 (tl 3 bd)) (P3 Kv):=ok_block 0 (by kernel_rfl) (L5_ok Kv)
theorem Q9:OkT pr false none 33 g5 (L5 (Kt Kv)) (tl 3 bd) (P1 Kv):=ok_seq (by kernel_rfl) (S2_ok Kv) (B8 Kv)
end tocsinref01_Frames
def tocsinref01_Frames (b_4:Sl) (w:World) (K:tocsinref01_Frames.KT):Prop :=
 tocsinref01_Frames.L5 K b_4 nilS 0 w
def tocsinref01_Frames.cl:CL:=fun args K w=>match args with
 | [.slice x0_a x0_n x0_c]=>C.tocsinref01_Frames ⟨x0_a,x0_n,x0_c⟩ w (tocsinref01_Frames.Kt K)
 | _=>False
theorem tocsinref01_Frames.clok:OkC pr 45 tocsinref01_Frames.cl:=by
 intro args K w h
 unfold tocsinref01_Frames.cl at h
 split at h
 ·exact calls_group false mixed tocsinref01_Frames.FOk_ tocsinref01_Frames.fn rfl 3 (tocsinref01_Frames.Q9 K) (Eq.mp (by kernel_rfl) h)
 ·exact h.elim
namespace tocsinref01_Text
abbrev KT:=ByteArray→Int→Int→World→Prop
def Kt:KT:=fun s1 n2 n3 w=>Kv (.tuple #[(.string s1),(.int .i64 n2),(.int .i64 n3)]) w
noncomputable def bd:Code:=bdy Tryz.f115
theorem fn:FnOk pr 115 62 Tryz.f115:=⟨Tryz.func115,by kernel_rfl,Tryz.ntmps115,by kernel_rfl,by kernel_rfl⟩
def F:Clee:=ofL [(88,C.tocsinref01_U.cl),(142,C.tocsinref01_Utf8.cl)]
theorem FOk_:FOk pr F:=FOk_cons C.tocsinref01_U.clok (FOk_cons C.tocsinref01_Utf8.clok (FOk_nil))
def P1:Post:=bodyK false pr 62 Tryz.f115 Kv
end tocsinref01_Text
def tocsinref01_Text (b_4:Sl) (at_5:Int) (most_6:Int) (w:World) (K:tocsinref01_Text.KT):Prop :=
 G.cond (decide (at_5<0)) (K (⟨#[]⟩:ByteArray) 0 1 w) (G.cond (decide (at_5 > ((b_4.n:Nat):Int))) (K (⟨#[]⟩:ByteArray) 0 1 w) (G.cond (decide (most_6<0)) (K (⟨#[]⟩:ByteArray) 0 1 w) (C.tocsinref01_U b_4 at_5 w fun n22 n23 n24 w25=>G.cond (n24 != 0) (K (⟨#[]⟩:ByteArray) 0 n24 w25) (G.cond (decide (n22 > (IntKind.u64.wrap most_6))) (K (⟨#[]⟩:ByteArray) 0 4 w25) (G.cond (decide (n22 > (IntKind.u64.wrap (IntKind.i64.wrap (((b_4.n:Nat):Int)-n23))))) (K (⟨#[]⟩:ByteArray) 0 9 w25) (G.slc b_4 n23 (IntKind.i64.wrap (n23+(IntKind.i64.wrap n22))) 1 fun l26=>G.rdS pr (Conv.bytesToString l26.v) w25 fun s27=>C.tocsinref01_Utf8 s27 w25 fun b28 w29=>G.cond (!b28) (K (⟨#[]⟩:ByteArray) 0 12 w29) (K s27 (IntKind.i64.wrap (n23+(IntKind.i64.wrap n22))) 0 w29)))))))
def tocsinref01_Text.cl:CL:=fun args K w=>match args with
 | [.slice x0_a x0_n x0_c,.int .i64 x1,.int .i64 x2]=>C.tocsinref01_Text ⟨x0_a,x0_n,x0_c⟩ x1 x2 w (tocsinref01_Text.Kt K)
 | _=>False
theorem tocsinref01_Text.clok:OkC pr 115 tocsinref01_Text.cl:=by
 intro args K w h
 unfold tocsinref01_Text.cl at h
 split at h
 ·exact calls_last false mixed tocsinref01_Text.FOk_ tocsinref01_Text.fn rfl (Eq.mp (by kernel_rfl) h)
 ·exact h.elim
namespace tocsinref04_Read
abbrev KT:=Sl→Int→Int→World→Prop
def Kt:KT:=fun l1 n2 n3 w=>Kv (.tuple #[l1.v,(.int .i64 n2),(.int .i64 n3)]) w
noncomputable def bd:Code:=bdy Tryz.f87
theorem fn:FnOk pr 87 76 Tryz.f87:=⟨Tryz.func87,by kernel_rfl,Tryz.ntmps87,by kernel_rfl,by kernel_rfl⟩
def F:Clee:=ofL [(88,C.tocsinref01_U.cl),(91,C.tocsinref04_Right.cl),(115,C.tocsinref01_Text.cl)]
theorem FOk_:FOk pr F:=FOk_cons C.tocsinref01_U.clok (FOk_cons C.tocsinref04_Right.clok (FOk_cons C.tocsinref01_Text.clok (FOk_nil)))
def P1:Post:=bodyK false pr 76 Tryz.f87 Kv
abbrev g2:List SE:=[.v 1 (.int .i64),.v 9 .sl]
def S2 (K:KT) (at_10:Int) (l_11:Sl) (w:World):Prop :=
 C.tocsinref04_Right l_11 w fun n12 n13 w14=>G.cond (n12 != 0) (K nilS 0 n12 w14) (K l_11 at_10 0 w14)
theorem S2_ok:OkT pr false none 76 g2 (S2 (Kt Kv)) (s2 (tl 5 bd)) (P1 Kv):=ok_last mixed FOk_ fun v ρ w=>by kernel_rfl
def P3:Post:=next (get g2 (S2 (Kt Kv))) (P1 Kv)
def P4:Post:=inBlock 0 (P3 Kv)
abbrev g5:List SE:=[.v 0 .sl,.v 1 (.int .i64),.v 7 (.int .u64),.v 9 .sl,.v 10 (.int .u64)]
def P6 (kc5:Cur g5):Post:=next (get g5 kc5) (P4 Kv)
def S7 (K:KT) (kc5:Cur g5) (b_25:Sl) (at_26:Int) (n_27:Int) (l_28:Sl) (i_29:Int) (w:World):Prop :=
 G.cond (decide (i_29<n_27)) (G.new (.cells #[(.string (⟨#[]⟩:ByteArray)),(.string (⟨#[]⟩:ByteArray))] 93) w fun p30 w31=>C.tocsinref01_Text b_25 at_26 64 w31 fun s32 n33 n34 w35=>G.cond (n34 != 0) (K nilS 0 n34 w35) (G.st p30 (.string s32) w35 fun w36=>C.tocsinref01_Text b_25 n33 256 w36 fun s37 n38 n39 w40=>G.cond (n39 != 0) (K nilS 0 n39 w40) (G.st (p30.add 1) (.string s37) w40 fun w41=>G.cS p30 w41 fun s42=>G.cS (p30.add 1) w41 fun s43=>G.new (.cells #[(.string s42),(.string s43)] 93) w41 fun p44 w45=>G.runSl pr (Builtin.append_ #[49,49] 49 #[l_28.v,(Sl.v (⟨some p44,1,1⟩:Sl))]) w45 fun l46 w47=>kc5 b_25 n38 n_27 l46 (IntKind.u64.wrap (i_29+1)) w47))) (S2 K at_26 l_28 w)
theorem S7_ok (kc5:Cur g5):OkT pr false none 76 g5 (S7 (Kt Kv) kc5) (lp (blk (tl 1 (s1 (tl 5 bd))))) (P6 Kv kc5):=ok_last mixed FOk_ fun v ρ w=>by kernel_rfl
def L5 (K:KT):Cur g5:=loopC g5 (S7 K)
theorem L5_ok:OkT pr false none 76 g5 (L5 (Kt Kv)) (blk (tl 1 (s1 (tl 5 bd)))) (P4 Kv):=ok_loop (B:=S7 (Kt Kv)) (by kernel_rfl) fun kc=>S7_ok Kv kc
theorem L5_ind {K:KT} {b_15:Sl} {at_16:Int} {n_17:Int} {l_18:Sl} {i_19:Int} {w:World} (h:∀ X:Cur g5,(∀ b_15 at_16 n_17 l_18 i_19 w,S7 K X b_15 at_16 n_17 l_18 i_19 w→X b_15 at_16 n_17 l_18 i_19 w)→X b_15 at_16 n_17 l_18 i_19 w):L5 K b_15 at_16 n_17 l_18 i_19 w:=fun X hX=>h X fun b_15 at_16 n_17 l_18 i_19 w hb=>hX (b_15,at_16,n_17,l_18,i_19,()) w hb
theorem B8:OkT pr false none 76 g5 (L5 (Kt Kv)) (tl 1 (s1 (tl 5 bd))) (P3 Kv):=ok_block 0 (by kernel_rfl) (L5_ok Kv)
abbrev g9:List SE:=[.v 0 .sl,.v 1 (.int .i64),.v 7 (.int .u64),.v 9 .sl]
def S9 (K:KT) (b_48:Sl) (at_49:Int) (n_50:Int) (l_51:Sl) (w:World):Prop :=
 L5 K b_48 at_49 n_50 l_51 0 w
theorem S9_ok:OkT pr false none 76 g9 (S9 (Kt Kv)) (s1 (tl 5 bd)) (P3 Kv):=ok_group mixed FOk_ 1 (B8 Kv) fun v ρ w=>by kernel_rfl
theorem Q10:OkT pr false none 76 g9 (S9 (Kt Kv)) (tl 5 bd) (P1 Kv):=ok_seq (by kernel_rfl) (S2_ok Kv) (S9_ok Kv)
end tocsinref04_Read
def tocsinref04_Read (b_4:Sl) (at_5:Int) (w:World) (K:tocsinref04_Read.KT):Prop :=
 C.tocsinref01_U b_4 at_5 w fun n52 n53 n54 w55=>G.cond (n54 != 0) (K nilS 0 n54 w55) (G.cond (decide (n52 > 16)) (K nilS 0 8 w55) (tocsinref04_Read.S9 K b_4 n53 n52 nilS w55))
def tocsinref04_Read.cl:CL:=fun args K w=>match args with
 | [.slice x0_a x0_n x0_c,.int .i64 x1]=>C.tocsinref04_Read ⟨x0_a,x0_n,x0_c⟩ x1 w (tocsinref04_Read.Kt K)
 | _=>False
theorem tocsinref04_Read.clok:OkC pr 87 tocsinref04_Read.cl:=by
 intro args K w h
 unfold tocsinref04_Read.cl at h
 split at h
 ·exact calls_group false mixed tocsinref04_Read.FOk_ tocsinref04_Read.fn rfl 5 (tocsinref04_Read.Q10 K) (Eq.mp (by kernel_rfl) h)
 ·exact h.elim
namespace tocsinref02_New
abbrev KT:=Option Addr→World→Prop
def Kt:KT:=fun p1 w=>Kv (.pointer p1) w
noncomputable def bd:Code:=bdy Tryz.f143
theorem fn:FnOk pr 143 49 Tryz.f143:=⟨Tryz.func143,by kernel_rfl,Tryz.ntmps143,by kernel_rfl,by kernel_rfl⟩
def F:Clee:=ofL []
theorem FOk_:FOk pr F:=FOk_nil
def P1:Post:=bodyK false pr 49 Tryz.f143 Kv
abbrev g2:List SE:=[.v 5 .ptr]
def S2 (K:KT) (s_6:Option Addr) (w:World):Prop :=
 K s_6 w
theorem S2_ok:OkT pr false none 49 g2 (S2 (Kt Kv)) (s2 (tl 3 bd)) (P1 Kv):=ok_last mixed FOk_ fun v ρ w=>by kernel_rfl
def P3:Post:=next (get g2 (S2 (Kt Kv))) (P1 Kv)
def P4:Post:=inBlock 0 (P3 Kv)
abbrev g5:List SE:=[.v 0 .sl,.v 1 (.int .i64),.v 5 .ptr,.v 6 (.int .i64)]
def P6 (kc5:Cur g5):Post:=next (get g5 kc5) (P4 Kv)
def S7 (K:KT) (kc5:Cur g5) (b_15:Sl) (bits_16:Int) (s_17:Option Addr) (i_18:Int) (w:World):Prop :=
 G.cond (decide (i_18<bits_16)) (G.ptr s_17 fun p19=>G.cSl p19 w.drew fun l20=>G.nz 8<|G.ix b_15.a b_15.n (IntKind.i64.wrap (Int.tdiv i_18 8)) 1 fun p21=>G.cI .u8 p21 w.drew fun n22=>G.nz 8<|G.nn (IntKind.u64.wrap (IntKind.i64.wrap (7-(Int.tmod i_18 8))))<|G.new (.cells #[(.bool ((Go.bits .and .u8 (shr .u8 n22 (IntKind.u64.wrap (IntKind.i64.wrap (7-(Int.tmod i_18 8))))) 1)==1))] 4) w.drew fun p23 w24=>sameAt p19 1 w.drew w24∧(G.runSl pr (Builtin.append_ #[199,199] 199 #[l20.v,(Sl.v (⟨some p23,1,1⟩:Sl))]) w24 fun l25 w26=>G.ptr s_17 fun p27=>G.st p27 l25.v w26 fun w28=>kc5 b_15 bits_16 s_17 (IntKind.i64.wrap (i_18+1)) w28)) (S2 K s_17 w)
theorem S7_ok (kc5:Cur g5):OkT pr false none 49 g5 (S7 (Kt Kv) kc5) (lp (blk (tl 1 (s1 (tl 3 bd))))) (P6 Kv kc5):=ok_last mixed FOk_ fun v ρ w=>by kernel_rfl
def L5 (K:KT):Cur g5:=loopC g5 (S7 K)
theorem L5_ok:OkT pr false none 49 g5 (L5 (Kt Kv)) (blk (tl 1 (s1 (tl 3 bd)))) (P4 Kv):=ok_loop (B:=S7 (Kt Kv)) (by kernel_rfl) fun kc=>S7_ok Kv kc
theorem L5_ind {K:KT} {b_7:Sl} {bits_8:Int} {s_9:Option Addr} {i_10:Int} {w:World} (h:∀ X:Cur g5,(∀ b_7 bits_8 s_9 i_10 w,S7 K X b_7 bits_8 s_9 i_10 w→X b_7 bits_8 s_9 i_10 w)→X b_7 bits_8 s_9 i_10 w):L5 K b_7 bits_8 s_9 i_10 w:=fun X hX=>h X fun b_7 bits_8 s_9 i_10 w hb=>hX (b_7,bits_8,s_9,i_10,()) w hb
theorem B8:OkT pr false none 49 g5 (L5 (Kt Kv)) (tl 1 (s1 (tl 3 bd))) (P3 Kv):=ok_block 0 (by kernel_rfl) (L5_ok Kv)
abbrev g9:List SE:=[.v 0 .sl,.v 1 (.int .i64),.v 5 .ptr]
def S9 (K:KT) (b_29:Sl) (bits_30:Int) (s_31:Option Addr) (w:World):Prop :=
 L5 K b_29 bits_30 s_31 0 w
theorem S9_ok:OkT pr false none 49 g9 (S9 (Kt Kv)) (s1 (tl 3 bd)) (P3 Kv):=ok_group mixed FOk_ 1 (B8 Kv) fun v ρ w=>by kernel_rfl
theorem Q10:OkT pr false none 49 g9 (S9 (Kt Kv)) (tl 3 bd) (P1 Kv):=ok_seq (by kernel_rfl) (S2_ok Kv) (S9_ok Kv)
end tocsinref02_New
def tocsinref02_New (b_2:Sl) (bits_3:Int) (w:World) (K:tocsinref02_New.KT):Prop :=
 G.cond (decide (bits_3<0)) (K none w) (G.cond (decide (bits_3 > 8388608)) (K none w) (G.cond (decide (bits_3 > (IntKind.i64.wrap (8*((b_2.n:Nat):Int))))) (K none w) (G.new (.cells #[nilS.v,(.int .i64 0)] 201) w fun p32 w33=>tocsinref02_New.S9 K b_2 bits_3 (some p32) w33)))
def tocsinref02_New.cl:CL:=fun args K w=>match args with
 | [.slice x0_a x0_n x0_c,.int .i64 x1]=>C.tocsinref02_New ⟨x0_a,x0_n,x0_c⟩ x1 w (tocsinref02_New.Kt K)
 | _=>False
theorem tocsinref02_New.clok:OkC pr 143 tocsinref02_New.cl:=by
 intro args K w h
 unfold tocsinref02_New.cl at h
 split at h
 ·exact calls_group false mixed tocsinref02_New.FOk_ tocsinref02_New.fn rfl 3 (tocsinref02_New.Q10 K) (Eq.mp (by kernel_rfl) h)
 ·exact h.elim
namespace tocsinref02_Stream_Left
abbrev KT:=Int→World→Prop
def Kt:KT:=fun n1 w=>Kv (.int .i64 n1) w
noncomputable def bd:Code:=bdy Tryz.f200
theorem fn:FnOk pr 200 13 Tryz.f200:=⟨Tryz.func200,by kernel_rfl,Tryz.ntmps200,by kernel_rfl,by kernel_rfl⟩
def F:Clee:=ofL []
theorem FOk_:FOk pr F:=FOk_nil
def P1:Post:=bodyK false pr 13 Tryz.f200 Kv
end tocsinref02_Stream_Left
def tocsinref02_Stream_Left (s_2:Option Addr) (w:World) (K:tocsinref02_Stream_Left.KT):Prop :=
 G.ptr s_2 fun p3=>G.cSl p3 w.drew fun l4=>G.ptr s_2 fun p5=>G.cI .i64 (p5.add 1) w.drew fun n6=>K (IntKind.i64.wrap (((l4.n:Nat):Int)-n6)) w.drew
def tocsinref02_Stream_Left.cl:CL:=fun args K w=>match args with
 | [.pointer x0]=>C.tocsinref02_Stream_Left x0 w (tocsinref02_Stream_Left.Kt K)
 | _=>False
theorem tocsinref02_Stream_Left.clok:OkC pr 200 tocsinref02_Stream_Left.cl:=by
 intro args K w h
 unfold tocsinref02_Stream_Left.cl at h
 split at h
 ·exact calls_last false mixed tocsinref02_Stream_Left.FOk_ tocsinref02_Stream_Left.fn rfl (Eq.mp (by kernel_rfl) h)
 ·exact h.elim
namespace tocsinref02_Stream_ReadBits
abbrev KT:=Int→Int→World→Prop
def Kt:KT:=fun n1 n2 w=>Kv (.tuple #[(.int .u64 n1),(.int .i64 n2)]) w
noncomputable def bd:Code:=bdy Tryz.f178
theorem fn:FnOk pr 178 49 Tryz.f178:=⟨Tryz.func178,by kernel_rfl,Tryz.ntmps178,by kernel_rfl,by kernel_rfl⟩
def F:Clee:=ofL [(200,C.tocsinref02_Stream_Left.cl)]
theorem FOk_:FOk pr F:=FOk_cons C.tocsinref02_Stream_Left.clok (FOk_nil)
def P1:Post:=bodyK false pr 49 Tryz.f178 Kv
abbrev g2:List SE:=[.v 0 .ptr,.v 1 (.int .i64),.v 6 (.int .u64)]
def S2 (K:KT) (s_9:Option Addr) (n_10:Int) (v_11:Int) (w:World):Prop :=
 G.ptr s_9 fun p12=>G.cI .i64 (p12.add 1) w fun n13=>G.ptr s_9 fun p14=>G.st (p14.add 1) (.int .i64 (IntKind.i64.wrap (n13+n_10))) w fun w15=>K v_11 0 w15
theorem S2_ok:OkT pr false none 49 g2 (S2 (Kt Kv)) (s2 (tl 4 bd)) (P1 Kv):=ok_last mixed FOk_ fun v ρ w=>by kernel_rfl
def P3:Post:=next (get g2 (S2 (Kt Kv))) (P1 Kv)
def P4:Post:=inBlock 0 (P3 Kv)
abbrev g5:List SE:=[.v 0 .ptr,.v 1 (.int .i64),.v 6 (.int .u64),.v 7 (.int .i64)]
def P6 (kc5:Cur g5):Post:=next (get g5 kc5) (P4 Kv)
def S7 (K:KT) (kc5:Cur g5) (s_24:Option Addr) (n_25:Int) (v_26:Int) (i_27:Int) (w:World):Prop :=
 G.cond (decide (i_27<n_25)) (G.nn 1<|G.ptr s_24 fun p28=>G.cSl p28 w.drew fun l29=>G.ptr s_24 fun p30=>G.cI .i64 (p30.add 1) w.drew fun n31=>G.ix l29.a l29.n (IntKind.i64.wrap (n31+i_27)) 1 fun p32=>G.cB p32 w.drew fun b33=>G.cond b33 (kc5 s_24 n_25 (IntKind.u64.wrap ((shl .u64 v_26 1)+1)) (IntKind.i64.wrap (i_27+1)) w.drew) (kc5 s_24 n_25 (shl .u64 v_26 1) (IntKind.i64.wrap (i_27+1)) w.drew)) (S2 K s_24 n_25 v_26 w)
theorem S7_ok (kc5:Cur g5):OkT pr false none 49 g5 (S7 (Kt Kv) kc5) (lp (blk (tl 1 (s1 (tl 4 bd))))) (P6 Kv kc5):=ok_last mixed FOk_ fun v ρ w=>by kernel_rfl
def L5 (K:KT):Cur g5:=loopC g5 (S7 K)
theorem L5_ok:OkT pr false none 49 g5 (L5 (Kt Kv)) (blk (tl 1 (s1 (tl 4 bd)))) (P4 Kv):=ok_loop (B:=S7 (Kt Kv)) (by kernel_rfl) fun kc=>S7_ok Kv kc
theorem L5_ind {K:KT} {s_16:Option Addr} {n_17:Int} {v_18:Int} {i_19:Int} {w:World} (h:∀ X:Cur g5,(∀ s_16 n_17 v_18 i_19 w,S7 K X s_16 n_17 v_18 i_19 w→X s_16 n_17 v_18 i_19 w)→X s_16 n_17 v_18 i_19 w):L5 K s_16 n_17 v_18 i_19 w:=fun X hX=>h X fun s_16 n_17 v_18 i_19 w hb=>hX (s_16,n_17,v_18,i_19,()) w hb
theorem B8:OkT pr false none 49 g5 (L5 (Kt Kv)) (tl 1 (s1 (tl 4 bd))) (P3 Kv):=ok_block 0 (by kernel_rfl) (L5_ok Kv)
def S9 (K:KT) (s_34:Option Addr) (n_35:Int) (v_36:Int) (w:World):Prop :=
 L5 K s_34 n_35 v_36 0 w
theorem S9_ok:OkT pr false none 49 g2 (S9 (Kt Kv)) (s1 (tl 4 bd)) (P3 Kv):=ok_group mixed FOk_ 1 (B8 Kv) fun v ρ w=>by kernel_rfl
theorem Q10:OkT pr false none 49 g2 (S9 (Kt Kv)) (tl 4 bd) (P1 Kv):=ok_seq (by kernel_rfl) (S2_ok Kv) (S9_ok Kv)
end tocsinref02_Stream_ReadBits
def tocsinref02_Stream_ReadBits (s_3:Option Addr) (n_4:Int) (w:World) (K:tocsinref02_Stream_ReadBits.KT):Prop :=
 G.cond (decide (n_4<0)) (K 0 1 w) (G.cond (decide (n_4 > 64)) (K 0 1 w) (C.tocsinref02_Stream_Left s_3 w fun n37 w38=>G.cond (decide (n37<n_4)) (K 0 9 w38) (tocsinref02_Stream_ReadBits.S9 K s_3 n_4 0 w38)))
def tocsinref02_Stream_ReadBits.cl:CL:=fun args K w=>match args with
 | [.pointer x0,.int .i64 x1]=>C.tocsinref02_Stream_ReadBits x0 x1 w (tocsinref02_Stream_ReadBits.Kt K)
 | _=>False
theorem tocsinref02_Stream_ReadBits.clok:OkC pr 178 tocsinref02_Stream_ReadBits.cl:=by
 intro args K w h
 unfold tocsinref02_Stream_ReadBits.cl at h
 split at h
 ·exact calls_group false mixed tocsinref02_Stream_ReadBits.FOk_ tocsinref02_Stream_ReadBits.fn rfl 4 (tocsinref02_Stream_ReadBits.Q10 K) (Eq.mp (by kernel_rfl) h)
 ·exact h.elim
namespace tocsinref08_Reader_bits
abbrev KT:=Int→World→Prop
def Kt:KT:=fun n1 w=>Kv (.int .u64 n1) w
noncomputable def bd:Code:=bdy Tryz.f146
theorem fn:FnOk pr 146 28 Tryz.f146:=⟨Tryz.func146,by kernel_rfl,Tryz.ntmps146,by kernel_rfl,by kernel_rfl⟩
def F:Clee:=ofL [(178,C.tocsinref02_Stream_ReadBits.cl)]
theorem FOk_:FOk pr F:=FOk_cons C.tocsinref02_Stream_ReadBits.clok (FOk_nil)
def P1:Post:=bodyK false pr 28 Tryz.f146 Kv
end tocsinref08_Reader_bits
def tocsinref08_Reader_bits (r_2:Option Addr) (n_3:Int) (w:World) (K:tocsinref08_Reader_bits.KT):Prop :=
 G.ptr r_2 fun p4=>G.cP p4 w fun p5=>C.tocsinref02_Stream_ReadBits p5 n_3 w fun n6 n7 w8=>G.ptr r_2 fun p9=>G.cB (p9.add 2) w8 fun b10=>G.cond b10 (G.ptr r_2 fun p11=>G.st (p11.add 2) (.bool true) w8 fun w12=>K n6 w12) (G.ptr r_2 fun p13=>G.st (p13.add 2) (.bool (n7 != 0)) w8 fun w14=>K n6 w14)
def tocsinref08_Reader_bits.cl:CL:=fun args K w=>match args with
 | [.pointer x0,.int .i64 x1]=>C.tocsinref08_Reader_bits x0 x1 w (tocsinref08_Reader_bits.Kt K)
 | _=>False
theorem tocsinref08_Reader_bits.clok:OkC pr 146 tocsinref08_Reader_bits.cl:=by
 intro args K w h
 unfold tocsinref08_Reader_bits.cl at h
 split at h
 ·exact calls_last false mixed tocsinref08_Reader_bits.FOk_ tocsinref08_Reader_bits.fn rfl (Eq.mp (by kernel_rfl) h)
 ·exact h.elim
namespace tocsinref08_Reader_number
abbrev KT:=Int→World→Prop
def Kt:KT:=fun n1 w=>Kv (.int .u64 n1) w
noncomputable def bd:Code:=bdy Tryz.f145
theorem fn:FnOk pr 145 48 Tryz.f145:=⟨Tryz.func145,by kernel_rfl,Tryz.ntmps145,by kernel_rfl,by kernel_rfl⟩
def F:Clee:=ofL [(88,C.tocsinref01_U.cl),(146,C.tocsinref08_Reader_bits.cl)]
theorem FOk_:FOk pr F:=FOk_cons C.tocsinref01_U.clok (FOk_cons C.tocsinref08_Reader_bits.clok (FOk_nil))
def P1:Post:=bodyK false pr 48 Tryz.f145 Kv
abbrev g2:List SE:=[.v 0 .ptr,.v 3 .sl]
def S2 (K:KT) (r_3:Option Addr) (b_4:Sl) (w:World):Prop :=
 C.tocsinref01_U b_4 0 w fun n5 n6 n7 w8=>G.ptr r_3 fun p9=>G.cB (p9.add 2) w8 fun b10=>G.cond b10 (G.ptr r_3 fun p11=>G.st (p11.add 2) (.bool true) w8 fun w12=>K n5 w12) (G.ptr r_3 fun p13=>G.st (p13.add 2) (.bool (n7 != 0)) w8 fun w14=>K n5 w14)
theorem S2_ok:OkT pr false none 48 g2 (S2 (Kt Kv)) (s2 (tl 2 bd)) (P1 Kv):=ok_last mixed FOk_ fun v ρ w=>by kernel_rfl
def P3:Post:=next (get g2 (S2 (Kt Kv))) (P1 Kv)
def P4:Post:=inBlock 0 (P3 Kv)
abbrev g5:List SE:=[.v 0 .ptr,.v 3 .sl,.v 4 (.int .i64)]
def P6 (kc5:Cur g5):Post:=next (get g5 kc5) (P4 Kv)
def S7 (K:KT) (kc5:Cur g5) (r_21:Option Addr) (b_22:Sl) (i_23:Int) (w:World):Prop :=
 G.cond (decide (i_23<11)) (G.ptr r_21 fun p24=>G.cB (p24.add 2) w fun b25=>G.cond (!b25) (C.tocsinref08_Reader_bits r_21 8 w fun n26 w27=>G.new (.cells #[(.int .u8 (IntKind.u8.wrap n26))] 5) w27 fun p28 w29=>G.runSl pr (Builtin.append_ #[22,22] 22 #[b_22.v,(Sl.v (⟨some p28,1,1⟩:Sl))]) w29 fun l30 w31=>G.ix l30.a l30.n i_23 1 fun p32=>G.cI .u8 p32 w31 fun n33=>G.cond (decide (n33<128)) (S2 K r_21 l30 w31) (kc5 r_21 l30 (IntKind.i64.wrap (i_23+1)) w31)) (S2 K r_21 b_22 w)) (S2 K r_21 b_22 w)
theorem S7_ok (kc5:Cur g5):OkT pr false none 48 g5 (S7 (Kt Kv) kc5) (lp (blk (tl 1 (s1 (tl 2 bd))))) (P6 Kv kc5):=ok_last mixed FOk_ fun v ρ w=>by kernel_rfl
def L5 (K:KT):Cur g5:=loopC g5 (S7 K)
theorem L5_ok:OkT pr false none 48 g5 (L5 (Kt Kv)) (blk (tl 1 (s1 (tl 2 bd)))) (P4 Kv):=ok_loop (B:=S7 (Kt Kv)) (by kernel_rfl) fun kc=>S7_ok Kv kc
theorem L5_ind {K:KT} {r_15:Option Addr} {b_16:Sl} {i_17:Int} {w:World} (h:∀ X:Cur g5,(∀ r_15 b_16 i_17 w,S7 K X r_15 b_16 i_17 w→X r_15 b_16 i_17 w)→X r_15 b_16 i_17 w):L5 K r_15 b_16 i_17 w:=fun X hX=>h X fun r_15 b_16 i_17 w hb=>hX (r_15,b_16,i_17,()) w hb
theorem B8:OkT pr false none 48 g5 (L5 (Kt Kv)) (tl 1 (s1 (tl 2 bd))) (P3 Kv):=ok_block 0 (by kernel_rfl) (L5_ok Kv)
def S9 (K:KT) (r_34:Option Addr) (b_35:Sl) (w:World):Prop :=
 L5 K r_34 b_35 0 w
theorem S9_ok:OkT pr false none 48 g2 (S9 (Kt Kv)) (s1 (tl 2 bd)) (P3 Kv):=ok_group mixed FOk_ 1 (B8 Kv) fun v ρ w=>by kernel_rfl
theorem Q10:OkT pr false none 48 g2 (S9 (Kt Kv)) (tl 2 bd) (P1 Kv):=ok_seq (by kernel_rfl) (S2_ok Kv) (S9_ok Kv)
end tocsinref08_Reader_number
def tocsinref08_Reader_number (r_2:Option Addr) (w:World) (K:tocsinref08_Reader_number.KT):Prop :=
 tocsinref08_Reader_number.S9 K r_2 nilS w
def tocsinref08_Reader_number.cl:CL:=fun args K w=>match args with
 | [.pointer x0]=>C.tocsinref08_Reader_number x0 w (tocsinref08_Reader_number.Kt K)
 | _=>False
theorem tocsinref08_Reader_number.clok:OkC pr 145 tocsinref08_Reader_number.cl:=by
 intro args K w h
 unfold tocsinref08_Reader_number.cl at h
 split at h
 ·exact calls_group false mixed tocsinref08_Reader_number.FOk_ tocsinref08_Reader_number.fn rfl 2 (tocsinref08_Reader_number.Q10 K) (Eq.mp (by kernel_rfl) h)
 ·exact h.elim
namespace tocsinref08_Reader_value
abbrev KT:=Int→World→Prop
def Kt:KT:=fun n1 w=>Kv (.int .u64 n1) w
noncomputable def bd:Code:=bdy Tryz.f147
theorem fn:FnOk pr 147 103 Tryz.f147:=⟨Tryz.func147,by kernel_rfl,Tryz.ntmps147,by kernel_rfl,by kernel_rfl⟩
def F:Clee:=ofL [(146,C.tocsinref08_Reader_bits.cl)]
theorem FOk_:FOk pr F:=FOk_cons C.tocsinref08_Reader_bits.clok (FOk_nil)
def P1:Post:=bodyK false pr 103 Tryz.f147 Kv
abbrev g2:List SE:=[.v 0 .ptr]
def S2 (K:KT) (r_6:Option Addr) (w:World):Prop :=
 G.ptr r_6 fun p7=>G.cP (p7.add 1) w fun p8=>G.ptr p8 fun p9=>G.cI .i64 (p9.add 3) w fun n10=>G.cond (decide (n10 ≥ 64)) (G.ptr r_6 fun p11=>G.st (p11.add 2) (.bool true) w fun w12=>K 0 w12) (G.ptr r_6 fun p13=>G.cP (p13.add 1) w fun p14=>G.ptr p14 fun p15=>G.cI .i64 (p15.add 4) w fun n16=>G.cond (decide (n16<0)) (G.ptr r_6 fun p17=>G.st (p17.add 2) (.bool true) w fun w18=>K 0 w18) (G.ptr r_6 fun p19=>G.cP (p19.add 1) w.drew fun p20=>G.ptr p20 fun p21=>G.cI .u64 (p21.add 2) w.drew fun n22=>G.ptr r_6 fun p23=>G.cP (p23.add 1) w.drew fun p24=>G.ptr p24 fun p25=>G.cI .i64 (p25.add 3) w.drew fun n26=>G.ptr r_6 fun p27=>G.cP (p27.add 1) w.drew fun p28=>G.ptr p28 fun p29=>G.cI .i64 (p29.add 4) w.drew fun n30=>G.ptr r_6 fun p31=>G.cP (p31.add 1) w.drew fun p32=>G.ptr p32 fun p33=>G.cI .i64 (p33.add 4) w.drew fun n34=>C.tocsinref08_Reader_bits r_6 (IntKind.i64.wrap ((IntKind.i64.wrap (64-n26))-n30)) w.drew fun n35 w36=>sameAt (p19.add 1) 1 w.drew w36∧sameAt (p21.add 2) 1 w.drew w36∧sameAt (p31.add 1) 1 w.drew w36∧sameAt (p33.add 4) 1 w.drew w36∧(G.nn (IntKind.u64.wrap n34)<|K (Go.bits .xor .u64 n22 (shl .u64 n35 (IntKind.u64.wrap n34))) w36)))
theorem S2_ok:OkT pr false none 103 g2 (S2 (Kt Kv)) (tl 3 bd) (P1 Kv):=ok_last mixed FOk_ fun v ρ w=>by kernel_rfl
end tocsinref08_Reader_value
def tocsinref08_Reader_value (r_2:Option Addr) (w:World) (K:tocsinref08_Reader_value.KT):Prop :=
 C.tocsinref08_Reader_bits r_2 1 w fun n37 w38=>G.cond (n37==0) (G.ptr r_2 fun p39=>G.cP (p39.add 1) w38 fun p40=>G.ptr p40 fun p41=>G.cI .u64 (p41.add 2) w38 fun n42=>K n42 w38) (C.tocsinref08_Reader_bits r_2 1 w38 fun n43 w44=>G.cond (n43==1) (G.ptr r_2 fun p45=>G.cP (p45.add 1) w44.drew fun p46=>C.tocsinref08_Reader_bits r_2 5 w44.drew fun n47 w48=>sameAt (p45.add 1) 1 w44.drew w48∧(G.ptr p46 fun p49=>G.st (p49.add 3) (.int .i64 (IntKind.i64.wrap n47)) w48 fun w50=>C.tocsinref08_Reader_bits r_2 6 w50 fun n51 w52=>G.cond ((IntKind.i64.wrap n51)==0) (G.ptr r_2 fun p53=>G.cP (p53.add 1) w52.drew fun p54=>G.ptr r_2 fun p55=>G.cP (p55.add 1) w52.drew fun p56=>G.ptr p56 fun p57=>G.cI .i64 (p57.add 3) w52.drew fun n58=>G.ptr p54 fun p59=>G.st (p59.add 4) (.int .i64 (IntKind.i64.wrap ((IntKind.i64.wrap (64-n58))-64))) w52.drew fun w60=>tocsinref08_Reader_value.S2 K r_2 w60) (G.ptr r_2 fun p61=>G.cP (p61.add 1) w52.drew fun p62=>G.ptr r_2 fun p63=>G.cP (p63.add 1) w52.drew fun p64=>G.ptr p64 fun p65=>G.cI .i64 (p65.add 3) w52.drew fun n66=>G.ptr p62 fun p67=>G.st (p67.add 4) (.int .i64 (IntKind.i64.wrap ((IntKind.i64.wrap (64-n66))-(IntKind.i64.wrap n51)))) w52.drew fun w68=>tocsinref08_Reader_value.S2 K r_2 w68))) (tocsinref08_Reader_value.S2 K r_2 w44))
def tocsinref08_Reader_value.cl:CL:=fun args K w=>match args with
 | [.pointer x0]=>C.tocsinref08_Reader_value x0 w (tocsinref08_Reader_value.Kt K)
 | _=>False
theorem tocsinref08_Reader_value.clok:OkC pr 147 tocsinref08_Reader_value.cl:=by
 intro args K w h
 unfold tocsinref08_Reader_value.cl at h
 split at h
 ·exact calls_group false mixed tocsinref08_Reader_value.FOk_ tocsinref08_Reader_value.fn rfl 3 (tocsinref08_Reader_value.S2_ok K) (Eq.mp (by kernel_rfl) h)
 ·exact h.elim
namespace tocsinref02_Says
abbrev KT:=Int→World→Prop
def Kt:KT:=fun n1 w=>Kv (.int .i64 n1) w
noncomputable def bd:Code:=bdy Tryz.f179
theorem fn:FnOk pr 179 23 Tryz.f179:=⟨Tryz.func179,by kernel_rfl,Tryz.ntmps179,by kernel_rfl,by kernel_rfl⟩
def F:Clee:=ofL []
theorem FOk_:FOk pr F:=FOk_nil
def P1:Post:=bodyK false pr 23 Tryz.f179 Kv
end tocsinref02_Says
def tocsinref02_Says (v_2:Int) (k_3:Int) (w:World) (K:tocsinref02_Says.KT):Prop :=
 G.cond (decide (k_3 ≥ 64)) (K (IntKind.i64.wrap v_2) w) (G.nn (IntKind.u64.wrap (IntKind.i64.wrap (k_3-1)))<|G.cond (decide (v_2≤(shl .u64 1 (IntKind.u64.wrap (IntKind.i64.wrap (k_3-1)))))) (K (IntKind.i64.wrap v_2) w) (G.nn (IntKind.u64.wrap k_3)<|K (IntKind.i64.wrap ((IntKind.i64.wrap v_2)-(shl .i64 1 (IntKind.u64.wrap k_3)))) w))
def tocsinref02_Says.cl:CL:=fun args K w=>match args with
 | [.int .u64 x0,.int .i64 x1]=>C.tocsinref02_Says x0 x1 w (tocsinref02_Says.Kt K)
 | _=>False
theorem tocsinref02_Says.clok:OkC pr 179 tocsinref02_Says.cl:=by
 intro args K w h
 unfold tocsinref02_Says.cl at h
 split at h
 ·exact calls_last false mixed tocsinref02_Says.FOk_ tocsinref02_Says.fn rfl (Eq.mp (by kernel_rfl) h)
 ·exact h.elim
namespace tocsinref08_Reader_time
abbrev KT:=Int→World→Prop
def Kt:KT:=fun n1 w=>Kv (.int .i64 n1) w
noncomputable def bd:Code:=bdy Tryz.f148
theorem fn:FnOk pr 148 28 Tryz.f148:=⟨Tryz.func148,by kernel_rfl,Tryz.ntmps148,by kernel_rfl,by kernel_rfl⟩
def F:Clee:=ofL [(146,C.tocsinref08_Reader_bits.cl),(179,C.tocsinref02_Says.cl)]
theorem FOk_:FOk pr F:=FOk_cons C.tocsinref08_Reader_bits.clok (FOk_cons C.tocsinref02_Says.clok (FOk_nil))
def P1:Post:=bodyK false pr 28 Tryz.f148 Kv
abbrev g2:List SE:=[.v 0 .ptr,.v 3 .sl,.v 4 (.int .i64)]
def S2 (K:KT) (r_6:Option Addr) (k_7:Sl) (n_8:Int) (w:World):Prop :=
 G.cond (n_8==0) (K 0 w) (G.ix k_7.a k_7.n n_8 1 fun p9=>G.cI .i64 p9 w.drew fun n10=>G.ix k_7.a k_7.n n_8 1 fun p11=>G.cI .i64 p11 w.drew fun n12=>C.tocsinref08_Reader_bits r_6 n10 w.drew fun n13 w14=>sameAt p11 1 w.drew w14∧(C.tocsinref02_Says n13 n12 w14 fun n15 w16=>K n15 w16))
theorem S2_ok:OkT pr false none 28 g2 (S2 (Kt Kv)) (s2 (tl 3 bd)) (P1 Kv):=ok_last mixed FOk_ fun v ρ w=>by kernel_rfl
def P3:Post:=next (get g2 (S2 (Kt Kv))) (P1 Kv)
def P4:Post:=inBlock 0 (P3 Kv)
def P6 (kc5:Cur g2):Post:=next (get g2 kc5) (P4 Kv)
def S7 (K:KT) (kc5:Cur g2) (r_20:Option Addr) (k_21:Sl) (n_22:Int) (w:World):Prop :=
 G.cond (decide (n_22<4)) (C.tocsinref08_Reader_bits r_20 1 w fun n23 w24=>G.cond (n23==1) (kc5 r_20 k_21 (IntKind.i64.wrap (n_22+1)) w24) (S2 K r_20 k_21 n_22 w24)) (S2 K r_20 k_21 n_22 w)
theorem S7_ok (kc5:Cur g2):OkT pr false none 28 g2 (S7 (Kt Kv) kc5) (lp (blk (s1 (tl 3 bd)))) (P6 Kv kc5):=ok_last mixed FOk_ fun v ρ w=>by kernel_rfl
def L5 (K:KT):Cur g2:=loopC g2 (S7 K)
theorem L5_ok:OkT pr false none 28 g2 (L5 (Kt Kv)) (blk (s1 (tl 3 bd))) (P4 Kv):=ok_loop (B:=S7 (Kt Kv)) (by kernel_rfl) fun kc=>S7_ok Kv kc
theorem L5_ind {K:KT} {r_17:Option Addr} {k_18:Sl} {n_19:Int} {w:World} (h:∀ X:Cur g2,(∀ r_17 k_18 n_19 w,S7 K X r_17 k_18 n_19 w→X r_17 k_18 n_19 w)→X r_17 k_18 n_19 w):L5 K r_17 k_18 n_19 w:=fun X hX=>h X fun r_17 k_18 n_19 w hb=>hX (r_17,k_18,n_19,()) w hb
theorem B8:OkT pr false none 28 g2 (L5 (Kt Kv)) (s1 (tl 3 bd)) (P3 Kv):=ok_block 0 (by kernel_rfl) (L5_ok Kv)
theorem Q9:OkT pr false none 28 g2 (L5 (Kt Kv)) (tl 3 bd) (P1 Kv):=ok_seq (by kernel_rfl) (S2_ok Kv) (B8 Kv)
end tocsinref08_Reader_time
def tocsinref08_Reader_time (r_2:Option Addr) (w:World) (K:tocsinref08_Reader_time.KT):Prop :=
 G.new (.cells #[(.int .i64 0),(.int .i64 14),(.int .i64 17),(.int .i64 20),(.int .i64 64)] 3) w fun p25 w26=>tocsinref08_Reader_time.L5 K r_2 (⟨some p25,5,5⟩:Sl) 0 w26
def tocsinref08_Reader_time.cl:CL:=fun args K w=>match args with
 | [.pointer x0]=>C.tocsinref08_Reader_time x0 w (tocsinref08_Reader_time.Kt K)
 | _=>False
theorem tocsinref08_Reader_time.clok:OkC pr 148 tocsinref08_Reader_time.cl:=by
 intro args K w h
 unfold tocsinref08_Reader_time.cl at h
 split at h
 ·exact calls_group false mixed tocsinref08_Reader_time.FOk_ tocsinref08_Reader_time.fn rfl 3 (tocsinref08_Reader_time.Q9 K) (Eq.mp (by kernel_rfl) h)
 ·exact h.elim
namespace tocsinref08_Wrong
abbrev KT:=Int→World→Prop
def Kt:KT:=fun n1 w=>Kv (.int .i64 n1) w
noncomputable def bd:Code:=bdy Tryz.f180
theorem fn:FnOk pr 180 31 Tryz.f180:=⟨Tryz.func180,by kernel_rfl,Tryz.ntmps180,by kernel_rfl,by kernel_rfl⟩
def F:Clee:=ofL []
theorem FOk_:FOk pr F:=FOk_nil
def P1:Post:=bodyK false pr 31 Tryz.f180 Kv
end tocsinref08_Wrong
def tocsinref08_Wrong (l_2:Sl) (t_3:Int) (w:World) (K:tocsinref08_Wrong.KT):Prop :=
 G.cond (decide (t_3<0)) (K 1 w) (G.cond (decide (t_3 > 1125899906842624)) (K 1 w) (G.cond (decide (((l_2.n:Nat):Int) > 0)) (G.ix l_2.a l_2.n (IntKind.i64.wrap (((l_2.n:Nat):Int)-1)) 2 fun p4=>G.cI .i64 p4 w fun n5=>G.cond (decide (t_3≤n5)) (K 90 w) (G.cond (decide (((l_2.n:Nat):Int) ≥ 120)) (K 8 w) (K 0 w))) (G.cond (decide (((l_2.n:Nat):Int) ≥ 120)) (K 8 w) (K 0 w))))
def tocsinref08_Wrong.cl:CL:=fun args K w=>match args with
 | [.slice x0_a x0_n x0_c,.int .i64 x1]=>C.tocsinref08_Wrong ⟨x0_a,x0_n,x0_c⟩ x1 w (tocsinref08_Wrong.Kt K)
 | _=>False
theorem tocsinref08_Wrong.clok:OkC pr 180 tocsinref08_Wrong.cl:=by
 intro args K w h
 unfold tocsinref08_Wrong.cl at h
 split at h
 ·exact calls_last false mixed tocsinref08_Wrong.FOk_ tocsinref08_Wrong.fn rfl (Eq.mp (by kernel_rfl) h)
 ·exact h.elim
namespace tocsinref08_Encode
abbrev KT:=Sl→Int→Int→World→Prop
def Kt:KT:=fun l1 n2 n3 w=>Kv (.tuple #[l1.v,(.int .i64 n2),(.int .i64 n3)]) w
noncomputable def bd:Code:=bdy Tryz.f150
theorem fn:FnOk pr 150 28 Tryz.f150:=⟨Tryz.func150,by kernel_rfl,Tryz.ntmps150,by kernel_rfl,by kernel_rfl⟩
def F:Clee:=ofL [(119,C.tocsinref08_Bytes.cl),(180,C.tocsinref08_Wrong.cl)]
theorem FOk_:FOk pr F:=FOk_cons C.tocsinref08_Bytes.clok (FOk_cons C.tocsinref08_Wrong.clok (FOk_nil))
def P1:Post:=bodyK false pr 28 Tryz.f150 Kv
abbrev g2:List SE:=[.v 0 .sl]
def S2 (K:KT) (l_5:Sl) (w:World):Prop :=
 C.tocsinref08_Bytes l_5 w fun l6 w7=>K l6 0 0 w7
theorem S2_ok:OkT pr false none 28 g2 (S2 (Kt Kv)) (s2 (tl 1 bd)) (P1 Kv):=ok_last mixed FOk_ fun v ρ w=>by kernel_rfl
def P3:Post:=next (get g2 (S2 (Kt Kv))) (P1 Kv)
def P4:Post:=inBlock 0 (P3 Kv)
abbrev g5:List SE:=[.v 0 .sl,.v 8 .sl,.v 9 (.int .i64),.v 10 (.int .i64)]
def P6 (kc5:Cur g5):Post:=next (get g5 kc5) (P4 Kv)
def S7 (K:KT) (kc5:Cur g5) (l_16:Sl) (l17:Sl) (n18:Int) (n19:Int) (w:World):Prop :=
 G.cond (decide (n19<n18)) (G.ix l17.a l17.n n19 2 fun p20=>G.cI .i64 p20 w fun n21=>G.cF .f64 (p20.add 1) w fun f22=>G.new (.cells #[(.int .i64 0),(.float .f64 0)] 96) w fun p23 w24=>G.st p23 (.int .i64 n21) w24 fun w25=>G.st (p23.add 1) (.float .f64 f22) w25 fun w26=>G.slc l_16 0 n19 2 fun l27=>G.cI .i64 p23 w26.drew fun n28=>C.tocsinref08_Wrong l27 n28 w26.drew fun n29 w30=>G.cond (n29 != 0) (K nilS n29 n19 w30) (kc5 l_16 l17 n18 (IntKind.i64.wrap (n19+1)) w30)) (S2 K l_16 w)
theorem S7_ok (kc5:Cur g5):OkT pr false none 28 g5 (S7 (Kt Kv) kc5) (lp (blk (tl 1 (s1 (tl 1 bd))))) (P6 Kv kc5):=ok_last mixed FOk_ fun v ρ w=>by kernel_rfl
def L5 (K:KT):Cur g5:=loopC g5 (S7 K)
theorem L5_ok:OkT pr false none 28 g5 (L5 (Kt Kv)) (blk (tl 1 (s1 (tl 1 bd)))) (P4 Kv):=ok_loop (B:=S7 (Kt Kv)) (by kernel_rfl) fun kc=>S7_ok Kv kc
theorem L5_ind {K:KT} {l_8:Sl} {l9:Sl} {n10:Int} {n11:Int} {w:World} (h:∀ X:Cur g5,(∀ l_8 l9 n10 n11 w,S7 K X l_8 l9 n10 n11 w→X l_8 l9 n10 n11 w)→X l_8 l9 n10 n11 w):L5 K l_8 l9 n10 n11 w:=fun X hX=>h X fun l_8 l9 n10 n11 w hb=>hX (l_8,l9,n10,n11,()) w hb
theorem B8:OkT pr false none 28 g5 (L5 (Kt Kv)) (tl 1 (s1 (tl 1 bd))) (P3 Kv):=ok_block 0 (by kernel_rfl) (L5_ok Kv)
def S9 (K:KT) (l_31:Sl) (w:World):Prop :=
 L5 K l_31 l_31 ((l_31.n:Nat):Int) 0 w
theorem S9_ok:OkT pr false none 28 g2 (S9 (Kt Kv)) (s1 (tl 1 bd)) (P3 Kv):=ok_group mixed FOk_ 1 (B8 Kv) fun v ρ w=>by kernel_rfl
theorem Q10:OkT pr false none 28 g2 (S9 (Kt Kv)) (tl 1 bd) (P1 Kv):=ok_seq (by kernel_rfl) (S2_ok Kv) (S9_ok Kv)
end tocsinref08_Encode
def tocsinref08_Encode (l_4:Sl) (w:World) (K:tocsinref08_Encode.KT):Prop :=
 tocsinref08_Encode.S9 K l_4 w
def tocsinref08_Encode.cl:CL:=fun args K w=>match args with
 | [.slice x0_a x0_n x0_c]=>C.tocsinref08_Encode ⟨x0_a,x0_n,x0_c⟩ w (tocsinref08_Encode.Kt K)
 | _=>False
theorem tocsinref08_Encode.clok:OkC pr 150 tocsinref08_Encode.cl:=by
 intro args K w h
 unfold tocsinref08_Encode.cl at h
 split at h
 ·exact calls_group false mixed tocsinref08_Encode.FOk_ tocsinref08_Encode.fn rfl 1 (tocsinref08_Encode.Q10 K) (Eq.mp (by kernel_rfl) h)
 ·exact h.elim
end C
end Go.Proofs.YtmfgmcajelmgbaaGreatDoor
