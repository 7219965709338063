/- (several texts in one: Cx1,Cx2,StrB,UtfB,ConvB,Lab,Tag,LabR) Own work. -/
import Derived.Lib.ValidAsc
import Derived.Lib.LaidU8
import Derived.Laws.BytesString
import Derived.Lib.ConvBytes
import Derived.Test.YtmfgmcajelmgbaaGreatDoorPD2
set_option linter.unusedVariables false
set_option maxRecDepth 100000
namespace Go.Proofs.YtmfgmcajelmgbaaGreatDoor
open Go Vm
namespace C
variable (Kv : VW)
namespace chunk_Decode
abbrev KT:=Sl→Int→World→Prop
def Kt:KT:=fun l1 n2 w=>Kv (.tuple #[l1.v,(.int .i64 n2)]) w
noncomputable def bd:Code:=bdy Tryz.f114
theorem fn:FnOk pr 114 65 Tryz.f114:=⟨Tryz.func114,by kernel_rfl,Tryz.ntmps114,by kernel_rfl,by kernel_rfl⟩
def F:Clee:=ofL [(138,C.chunk_Encode.cl),(140,C.bits_NewReader.cl),(141,C.chunk_reader_samples.cl)]
theorem FOk_:FOk pr F:=FOk_cons C.chunk_Encode.clok (FOk_cons C.bits_NewReader.clok (FOk_cons C.chunk_reader_samples.clok (FOk_nil)))
def P1:Post:=bodyK false pr 65 Tryz.f114 Kv
end chunk_Decode
def chunk_Decode (b_3:Sl) (w:World) (K:chunk_Decode.KT):Prop :=
 G.cond (decide (((b_3.n:Nat):Int)<2)) (K nilS 3 w) (G.ix b_3.a b_3.n 0 1 fun p6=>G.cI .u8 p6 w.drew fun n7=>G.nn 8<|G.ix b_3.a b_3.n 1 1 fun p8=>G.cI .u8 p8 w.drew fun n9=>G.slc b_3 2 ((b_3.n:Nat):Int) 1 fun l10=>G.cond (decide ((Go.bits .or .i64 (shl .i64 (IntKind.i64.wrap n7) 8) (IntKind.i64.wrap n9)) > 120)) (K nilS 3 w.drew) (G.cond (decide (((l10.n:Nat):Int) > 1048576)) (K nilS 3 w.drew) (C.bits_NewReader l10 (IntKind.i64.wrap (8*((l10.n:Nat):Int))) w.drew fun p11 w12=>G.new (.cells #[(.pointer p11),(.int .i64 0),(.int .i64 0),(.bool false),(.bool false)] 185) w12 fun p13 w14=>C.chunk_reader_samples (some p13) (Go.bits .or .i64 (shl .i64 (IntKind.i64.wrap n7) 8) (IntKind.i64.wrap n9)) w14 fun l15 w16=>C.chunk_Encode l15 w16 fun l17 n18 n19 w20=>G.cB (p13.add 4) w20 fun b21=>G.cond b21 (K nilS 3 w20) (G.cond (n18 != 0) (K nilS 3 w20) (G.rdS pr (Conv.bytesToString l17.v) w20 fun s22=>G.rdS pr (Conv.bytesToString b_3.v) w20 fun s23=>G.cond (!(s22.toList==s23.toList)) (K nilS 3 w20) (K l15 0 w20))))))
def chunk_Decode.cl:CL:=fun args K w=>match args with
 | [.slice x0_a x0_n x0_c]=>C.chunk_Decode ⟨x0_a,x0_n,x0_c⟩ w (chunk_Decode.Kt K)
 | _=>False
theorem chunk_Decode.clok:OkC pr 114 chunk_Decode.cl:=by
 intro args K w h
 unfold chunk_Decode.cl at h
 split at h
 ·exact calls_last false mixed chunk_Decode.FOk_ chunk_Decode.fn rfl (Eq.mp (by kernel_rfl) h)
 ·exact h.elim
namespace chunk_Join
abbrev KT:=Sl→Int→Int→World→Prop
def Kt:KT:=fun l1 n2 n3 w=>Kv (.tuple #[l1.v,(.int .i64 n2),(.int .i64 n3)]) w
noncomputable def bd:Code:=bdy Tryz.f85
theorem fn:FnOk pr 85 54 Tryz.f85:=⟨Tryz.func85,by kernel_rfl,Tryz.ntmps85,by kernel_rfl,by kernel_rfl⟩
def F:Clee:=ofL [(114,C.chunk_Decode.cl)]
theorem FOk_:FOk pr F:=FOk_cons C.chunk_Decode.clok (FOk_nil)
def P1:Post:=bodyK false pr 54 Tryz.f85 Kv
abbrev g2:List SE:=[.v 5 .sl]
def S2 (K:KT) (out_5:Sl) (w:World):Prop :=
 K out_5 0 0 w
theorem S2_ok:OkT pr false none 54 g2 (S2 (Kt Kv)) (s2 (tl 2 bd)) (P1 Kv):=ok_last mixed FOk_ fun v ρ w=>by kernel_rfl
def P3:Post:=next (get g2 (S2 (Kt Kv))) (P1 Kv)
def P4:Post:=inBlock 0 (P3 Kv)
abbrev g5:List SE:=[.v 5 .sl,.v 10 .sl,.v 11 (.int .i64),.v 12 (.int .i64)]
def P6 (kc5:Cur g5):Post:=next (get g5 kc5) (P4 Kv)
def S7 (K:KT) (kc5:Cur g5) (out_14:Sl) (l15:Sl) (n16:Int) (n17:Int) (w:World):Prop :=
 G.cond (decide (n17<n16)) (G.ix l15.a l15.n n17 1 fun p18=>G.cSl p18 w fun l19=>C.chunk_Decode l19 w fun l20 n21 w22=>G.cond (n21 != 0) (K nilS n21 n17 w22) (G.cond (decide (((l20.n:Nat):Int) > 0)) (G.cond (decide (((out_14.n:Nat):Int) > 0)) (G.ix l20.a l20.n 0 2 fun p23=>G.cI .i64 p23 w22.drew fun n24=>G.ix out_14.a out_14.n (IntKind.i64.wrap (((out_14.n:Nat):Int)-1)) 2 fun p25=>G.cI .i64 p25 w22.drew fun n26=>G.cond (decide (n24≤n26)) (K nilS 90 n17 w22.drew) (G.runSl pr (Builtin.append_ #[52,52] 52 #[out_14.v,l20.v]) w22.drew fun l27 w28=>kc5 l27 l15 n16 (IntKind.i64.wrap (n17+1)) w28)) (G.runSl pr (Builtin.append_ #[52,52] 52 #[out_14.v,l20.v]) w22.drew fun l29 w30=>kc5 l29 l15 n16 (IntKind.i64.wrap (n17+1)) w30)) (G.runSl pr (Builtin.append_ #[52,52] 52 #[out_14.v,l20.v]) w22.drew fun l31 w32=>kc5 l31 l15 n16 (IntKind.i64.wrap (n17+1)) w32))) (S2 K out_14 w)
theorem S7_ok (kc5:Cur g5):OkT pr false none 54 g5 (S7 (Kt Kv) kc5) (lp (blk (tl 1 (s1 (tl 2 bd))))) (P6 Kv kc5):=ok_last mixed FOk_ fun v ρ w=>by kernel_rfl
def L5 (K:KT):Cur g5:=loopC g5 (S7 K)
theorem L5_ok:OkT pr false none 54 g5 (L5 (Kt Kv)) (blk (tl 1 (s1 (tl 2 bd)))) (P4 Kv):=ok_loop (B:=S7 (Kt Kv)) (by kernel_rfl) fun kc=>S7_ok Kv kc
theorem L5_ind {K:KT} {out_6:Sl} {l7:Sl} {n8:Int} {n9:Int} {w:World} (h:∀ X:Cur g5,(∀ out_6 l7 n8 n9 w,S7 K X out_6 l7 n8 n9 w→X out_6 l7 n8 n9 w)→X out_6 l7 n8 n9 w):L5 K out_6 l7 n8 n9 w:=fun X hX=>h X fun out_6 l7 n8 n9 w hb=>hX (out_6,l7,n8,n9,()) w hb
theorem B8:OkT pr false none 54 g5 (L5 (Kt Kv)) (tl 1 (s1 (tl 2 bd))) (P3 Kv):=ok_block 0 (by kernel_rfl) (L5_ok Kv)
abbrev g9:List SE:=[.v 0 .sl,.v 5 .sl]
def S9 (K:KT) (l_33:Sl) (out_34:Sl) (w:World):Prop :=
 L5 K out_34 l_33 ((l_33.n:Nat):Int) 0 w
theorem S9_ok:OkT pr false none 54 g9 (S9 (Kt Kv)) (s1 (tl 2 bd)) (P3 Kv):=ok_group mixed FOk_ 1 (B8 Kv) fun v ρ w=>by kernel_rfl
theorem Q10:OkT pr false none 54 g9 (S9 (Kt Kv)) (tl 2 bd) (P1 Kv):=ok_seq (by kernel_rfl) (S2_ok Kv) (S9_ok Kv)
end chunk_Join
def chunk_Join (l_4:Sl) (w:World) (K:chunk_Join.KT):Prop :=
 chunk_Join.S9 K l_4 nilS w
def chunk_Join.cl:CL:=fun args K w=>match args with
 | [.slice x0_a x0_n x0_c]=>C.chunk_Join ⟨x0_a,x0_n,x0_c⟩ w (chunk_Join.Kt K)
 | _=>False
theorem chunk_Join.clok:OkC pr 85 chunk_Join.cl:=by
 intro args K w h
 unfold chunk_Join.cl at h
 split at h
 ·exact calls_group false mixed chunk_Join.FOk_ chunk_Join.fn rfl 2 (chunk_Join.Q10 K) (Eq.mp (by kernel_rfl) h)
 ·exact h.elim
namespace block_series
abbrev KT:=Sl→Sl→Bool→World→Prop
def Kt:KT:=fun l1 l2 b3 w=>Kv (.tuple #[(.agg #[l1.v,l2.v]),(.bool b3)]) w
noncomputable def bd:Code:=bdy Tryz.f44
theorem fn:FnOk pr 44 85 Tryz.f44:=⟨Tryz.func44,by kernel_rfl,Tryz.ntmps44,by kernel_rfl,by kernel_rfl⟩
def F:Clee:=ofL [(83,C.labels_Read.cl),(84,C.vint_U.cl),(85,C.chunk_Join.cl)]
theorem FOk_:FOk pr F:=FOk_cons C.labels_Read.clok (FOk_cons C.vint_U.clok (FOk_cons C.chunk_Join.clok (FOk_nil)))
def P1:Post:=bodyK false pr 85 Tryz.f44 Kv
abbrev g2:List SE:=[.v 2 .ptr,.v 4 .sl,.v 8 .sl]
def S2 (K:KT) (p7:Option Addr) (l_8:Sl) (chunks_9:Sl) (w:World):Prop :=
 C.chunk_Join chunks_9 w fun l10 n11 n12 w13=>G.ptr p7 fun p14=>G.st p14 l_8.v w13 fun w15=>G.st (p14.add 1) l10.v w15 fun w16=>G.ptr p7 fun p17=>G.cSl p17 w16 fun l18=>G.cSl (p17.add 1) w16 fun l19=>K l18 l19 (n11==0) w16
theorem S2_ok:OkT pr false none 85 g2 (S2 (Kt Kv)) (s2 (tl 6 bd)) (P1 Kv):=ok_last mixed FOk_ fun v ρ w=>by kernel_rfl
def P3:Post:=next (get g2 (S2 (Kt Kv))) (P1 Kv)
def P4:Post:=inBlock 0 (P3 Kv)
abbrev g5:List SE:=[.v 0 .sl,.v 2 .ptr,.v 4 .sl,.v 5 (.int .i64),.v 8 .sl,.v 40 (.int .u64),.v 41 (.int .u64)]
def P6 (kc5:Cur g5):Post:=next (get g5 kc5) (P4 Kv)
def S7 (K:KT) (kc5:Cur g5) (p_34:Sl) (p35:Option Addr) (l_36:Sl) (at_37:Int) (chunks_38:Sl) (n39:Int) (n40:Int) (w:World):Prop :=
 G.cond (decide (n40<n39)) (C.vint_U p_34 at_37 w fun n41 n42 n43 w44=>G.cond (n43 != 0) (G.ptr p35 fun p45=>G.st p45 nilS.v w44 fun w46=>G.st (p45.add 1) nilS.v w46 fun w47=>G.ptr p35 fun p48=>G.cSl p48 w47 fun l49=>G.cSl (p48.add 1) w47 fun l50=>K l49 l50 false w47) (G.cond (decide (n41 > (IntKind.u64.wrap (IntKind.i64.wrap (((p_34.n:Nat):Int)-n42))))) (G.ptr p35 fun p51=>G.st p51 nilS.v w44 fun w52=>G.st (p51.add 1) nilS.v w52 fun w53=>G.ptr p35 fun p54=>G.cSl p54 w53 fun l55=>G.cSl (p54.add 1) w53 fun l56=>K l55 l56 false w53) (G.slc p_34 n42 (IntKind.i64.wrap (n42+(IntKind.i64.wrap n41))) 1 fun l57=>G.new (.cells #[l57.v] 22) w44 fun p58 w59=>G.runSl pr (Builtin.append_ #[78,78] 78 #[chunks_38.v,(Sl.v (⟨some p58,1,1⟩:Sl))]) w59 fun l60 w61=>kc5 p_34 p35 l_36 (IntKind.i64.wrap (n42+(IntKind.i64.wrap n41))) l60 n39 (IntKind.u64.wrap (n40+1)) w61))) (S2 K p35 l_36 chunks_38 w)
theorem S7_ok (kc5:Cur g5):OkT pr false none 85 g5 (S7 (Kt Kv) kc5) (lp (blk (tl 1 (s1 (tl 6 bd))))) (P6 Kv kc5):=ok_last mixed FOk_ fun v ρ w=>by kernel_rfl
def L5 (K:KT):Cur g5:=loopC g5 (S7 K)
theorem L5_ok:OkT pr false none 85 g5 (L5 (Kt Kv)) (blk (tl 1 (s1 (tl 6 bd)))) (P4 Kv):=ok_loop (B:=S7 (Kt Kv)) (by kernel_rfl) fun kc=>S7_ok Kv kc
theorem L5_ind {K:KT} {p_20:Sl} {p21:Option Addr} {l_22:Sl} {at_23:Int} {chunks_24:Sl} {n25:Int} {n26:Int} {w:World} (h:∀ X:Cur g5,(∀ p_20 p21 l_22 at_23 chunks_24 n25 n26 w,S7 K X p_20 p21 l_22 at_23 chunks_24 n25 n26 w→X p_20 p21 l_22 at_23 chunks_24 n25 n26 w)→X p_20 p21 l_22 at_23 chunks_24 n25 n26 w):L5 K p_20 p21 l_22 at_23 chunks_24 n25 n26 w:=fun X hX=>h X fun p_20 p21 l_22 at_23 chunks_24 n25 n26 w hb=>hX (p_20,p21,l_22,at_23,chunks_24,n25,n26,()) w hb
theorem B8:OkT pr false none 85 g5 (L5 (Kt Kv)) (tl 1 (s1 (tl 6 bd))) (P3 Kv):=ok_block 0 (by kernel_rfl) (L5_ok Kv)
abbrev g9:List SE:=[.v 0 .sl,.v 2 .ptr,.v 4 .sl,.v 5 (.int .i64),.v 7 (.int .u64),.v 8 .sl]
def S9 (K:KT) (p_62:Sl) (p63:Option Addr) (l_64:Sl) (at_65:Int) (n_66:Int) (chunks_67:Sl) (w:World):Prop :=
 L5 K p_62 p63 l_64 at_65 chunks_67 n_66 0 w
theorem S9_ok:OkT pr false none 85 g9 (S9 (Kt Kv)) (s1 (tl 6 bd)) (P3 Kv):=ok_group mixed FOk_ 1 (B8 Kv) fun v ρ w=>by kernel_rfl
theorem Q10:OkT pr false none 85 g9 (S9 (Kt Kv)) (tl 6 bd) (P1 Kv):=ok_seq (by kernel_rfl) (S2_ok Kv) (S9_ok Kv)
end block_series
def block_series (p_4:Sl) (w:World) (K:block_series.KT):Prop :=
 G.new (.cells #[nilS.v,nilS.v] 57) w fun p68 w69=>C.labels_Read p_4 0 w69 fun l70 n71 n72 w73=>G.cond (n72 != 0) (G.st p68 nilS.v w73 fun w74=>G.st (p68.add 1) nilS.v w74 fun w75=>G.cSl p68 w75 fun l76=>G.cSl (p68.add 1) w75 fun l77=>K l76 l77 false w75) (C.vint_U p_4 n71 w73 fun n78 n79 n80 w81=>G.cond (n80 != 0) (G.st p68 nilS.v w81 fun w82=>G.st (p68.add 1) nilS.v w82 fun w83=>G.cSl p68 w83 fun l84=>G.cSl (p68.add 1) w83 fun l85=>K l84 l85 false w83) (G.cond (decide (n78 > (IntKind.u64.wrap ((p_4.n:Nat):Int)))) (G.st p68 nilS.v w81 fun w86=>G.st (p68.add 1) nilS.v w86 fun w87=>G.cSl p68 w87 fun l88=>G.cSl (p68.add 1) w87 fun l89=>K l88 l89 false w87) (block_series.S9 K p_4 (some p68) l70 n79 n78 nilS w81)))
def block_series.cl:CL:=fun args K w=>match args with
 | [.slice x0_a x0_n x0_c]=>C.block_series ⟨x0_a,x0_n,x0_c⟩ w (block_series.Kt K)
 | _=>False
theorem block_series.clok:OkC pr 44 block_series.cl:=by
 intro args K w h
 unfold block_series.cl at h
 split at h
 ·exact calls_group false mixed block_series.FOk_ block_series.fn rfl 6 (block_series.Q10 K) (Eq.mp (by kernel_rfl) h)
 ·exact h.elim
namespace block_Open
abbrev KT:=Option Addr→Int→World→Prop
def Kt:KT:=fun p1 n2 w=>Kv (.tuple #[(.pointer p1),(.int .i64 n2)]) w
noncomputable def bd:Code:=bdy Tryz.f11
theorem fn:FnOk pr 11 108 Tryz.f11:=⟨Tryz.func11,by kernel_rfl,Tryz.ntmps11,by kernel_rfl,by kernel_rfl⟩
def F:Clee:=ofL [(33,C.block_Build.cl),(41,C.strings_HasPrefix.cl),(42,C.vint_Frames.cl),(43,C.slices_Clone_byte_byte.cl),(44,C.block_series.cl)]
theorem FOk_:FOk pr F:=FOk_cons C.block_Build.clok (FOk_cons C.strings_HasPrefix.clok (FOk_cons C.vint_Frames.clok (FOk_cons C.slices_Clone_byte_byte.clok (FOk_cons C.block_series.clok (FOk_nil)))))
def P1:Post:=bodyK false pr 108 Tryz.f11 Kv
abbrev g2:List SE:=[.v 0 .sl,.v 7 .ptr]
def S2 (K:KT) (b_6:Sl) (x_7:Option Addr) (w:World):Prop :=
 G.ptr x_7 fun p8=>G.cSl (p8.add 1) w fun l9=>C.block_Build l9 w fun l10 n11 n12 w13=>G.cond (n11 != 0) (K none 3 w13) (G.rdS pr (Conv.bytesToString l10.v) w13 fun s14=>G.rdS pr (Conv.bytesToString b_6.v) w13 fun s15=>G.cond (!(s14.toList==s15.toList)) (K none 3 w13) (K x_7 0 w13))
theorem S2_ok:OkT pr false none 108 g2 (S2 (Kt Kv)) (s2 (tl 5 bd)) (P1 Kv):=ok_last mixed FOk_ fun v ρ w=>by kernel_rfl
def P3:Post:=next (get g2 (S2 (Kt Kv))) (P1 Kv)
def P4:Post:=inBlock 0 (P3 Kv)
abbrev g5:List SE:=[.v 0 .sl,.v 7 .ptr,.v 45 .sl,.v 46 (.int .i64),.v 47 (.int .i64)]
def P6 (kc5:Cur g5):Post:=next (get g5 kc5) (P4 Kv)
def S7 (K:KT) (kc5:Cur g5) (b_21:Sl) (x_22:Option Addr) (l23:Sl) (n24:Int) (n25:Int) (w:World):Prop :=
 kc5 b_21 x_22 l23 n24 (IntKind.i64.wrap (n25+1)) w
theorem S7_ok (kc5:Cur g5):OkT pr false none 108 g5 (S7 (Kt Kv) kc5) (s2 (tl 2 (lp (blk (tl 1 (s1 (tl 5 bd))))))) (P6 Kv kc5):=ok_last mixed FOk_ fun v ρ w=>by kernel_rfl
def P8 (kc5:Cur g5):Post:=next (get g5 (S7 (Kt Kv) kc5)) (P6 Kv kc5)
def P9 (kc5:Cur g5):Post:=inBlock 1 (P8 Kv kc5)
def P10 (kc5:Cur g5):Post:=inBlock 2 (P9 Kv kc5)
abbrev g11:List SE:=[.v 0 .sl,.v 7 .ptr,.v 8 (.int .i64),.v 45 .sl,.v 46 (.int .i64),.v 47 (.int .i64),.v 70 .sl,.v 71 (.int .i64),.v 72 (.int .i64)]
def P12 (kc5:Cur g5) (kc11:Cur g11):Post:=next (get g11 kc11) (P10 Kv kc5)
def S13 (K:KT) (kc5:Cur g5) (kc11:Cur g11) (b_49:Sl) (x_50:Option Addr) (i_51:Int) (l52:Sl) (n53:Int) (n54:Int) (l55:Sl) (n56:Int) (n57:Int) (w:World):Prop :=
 G.cond (decide (n57<n56)) (G.ix l55.a l55.n n57 2 fun p58=>G.cS p58 w fun s59=>G.cS (p58.add 1) w fun s60=>G.new (.cells #[(.string (⟨#[]⟩:ByteArray)),(.string (⟨#[]⟩:ByteArray))] 93) w fun p61 w62=>G.st p61 (.string s59) w62 fun w63=>G.st (p61.add 1) (.string s60) w63 fun w64=>G.ptr x_50 fun p65=>G.cM (p65.add 2) w64.drew fun m66=>G.cS p61 w64.drew fun s67=>G.cS (p61.add 1) w64.drew fun s68=>G.new (.cells #[(.int .i64 i_51)] 3) w64.drew fun p69 w70=>sameAt (p65.add 2) 1 w64.drew w70∧sameAt p61 2 w64.drew w70∧(G.runE pr (Instr.mapEntry 82 (.map m66) (.agg #[(.string s67),(.string s68)])) w70 fun l71 n72 w73=>G.runSl pr (Builtin.append_ #[46,46] 46 #[l71.v,(Sl.v (⟨some p69,1,1⟩:Sl))]) w73 fun l74 w75=>G.runU pr (Instr.entryStore 82 (.map m66) (.int .i64 n72) l74.v) w75 fun w76=>kc11 b_49 x_50 i_51 l52 n53 n54 l55 n56 (IntKind.i64.wrap (n57+1)) w76)) (S7 K kc5 b_49 x_50 l52 n53 n54 w)
theorem S13_ok (kc5:Cur g5) (kc11:Cur g11):OkT pr false none 108 g11 (S13 (Kt Kv) kc5 kc11) (lp (blk (tl 5 (blk (s1 (tl 2 (lp (blk (tl 1 (s1 (tl 5 bd))))))))))) (P12 Kv kc5 kc11):=ok_last mixed FOk_ fun v ρ w=>by kernel_rfl
def L11 (K:KT) (kc5:Cur g5):Cur g11:=loopC g11 (S13 K kc5)
theorem L11_ok (kc5:Cur g5):OkT pr false none 108 g11 (L11 (Kt Kv) kc5) (blk (tl 5 (blk (s1 (tl 2 (lp (blk (tl 1 (s1 (tl 5 bd)))))))))) (P10 Kv kc5):=ok_loop (B:=S13 (Kt Kv) kc5) (by kernel_rfl) fun kc=>S13_ok Kv kc5 kc
theorem L11_ind {K:KT} {kc5:Cur g5} {b_31:Sl} {x_32:Option Addr} {i_33:Int} {l34:Sl} {n35:Int} {n36:Int} {l37:Sl} {n38:Int} {n39:Int} {w:World} (h:∀ X:Cur g11,(∀ b_31 x_32 i_33 l34 n35 n36 l37 n38 n39 w,S13 K kc5 X b_31 x_32 i_33 l34 n35 n36 l37 n38 n39 w→X b_31 x_32 i_33 l34 n35 n36 l37 n38 n39 w)→X b_31 x_32 i_33 l34 n35 n36 l37 n38 n39 w):L11 K kc5 b_31 x_32 i_33 l34 n35 n36 l37 n38 n39 w:=fun X hX=>h X fun b_31 x_32 i_33 l34 n35 n36 l37 n38 n39 w hb=>hX (b_31,x_32,i_33,l34,n35,n36,l37,n38,n39,()) w hb
theorem B14 (kc5:Cur g5):OkT pr false none 108 g11 (L11 (Kt Kv) kc5) (tl 5 (blk (s1 (tl 2 (lp (blk (tl 1 (s1 (tl 5 bd))))))))) (P9 Kv kc5):=ok_block 2 (by kernel_rfl) (L11_ok Kv kc5)
def S15 (K:KT) (kc5:Cur g5) (b_77:Sl) (x_78:Option Addr) (l79:Sl) (n80:Int) (n81:Int) (w:World):Prop :=
 G.ix l79.a l79.n n81 1 fun p82=>G.cSl p82 w fun l83=>C.block_series l83 w fun l84 l85 b86 w87=>G.new (.cells #[nilS.v,nilS.v] 57) w87 fun p88 w89=>G.st p88 l84.v w89 fun w90=>G.st (p88.add 1) l85.v w90 fun w91=>G.cond (!b86) (K none 3 w91) (G.ptr x_78 fun p92=>G.cSl (p92.add 1) w91.drew fun l93=>G.cSl p88 w91.drew fun l94=>G.cSl (p88.add 1) w91.drew fun l95=>G.new (.cells #[l94.v,l95.v] 57) w91.drew fun p96 w97=>sameAt (p92.add 1) 1 w91.drew w97∧(G.runSl pr (Builtin.append_ #[27,27] 27 #[l93.v,(Sl.v (⟨some p96,1,1⟩:Sl))]) w97 fun l98 w99=>G.ptr x_78 fun p100=>G.st (p100.add 1) l98.v w99 fun w101=>G.cSl p88 w101 fun l102=>L11 K kc5 b_77 x_78 n81 l79 n80 n81 l102 ((l102.n:Nat):Int) 0 w101))
theorem S15_ok (kc5:Cur g5):OkT pr false none 108 g5 (S15 (Kt Kv) kc5) (blk (s1 (tl 2 (lp (blk (tl 1 (s1 (tl 5 bd)))))))) (P9 Kv kc5):=ok_group mixed FOk_ 5 (B14 Kv kc5) fun v ρ w=>by kernel_rfl
theorem B16 (kc5:Cur g5):OkT pr false none 108 g5 (S15 (Kt Kv) kc5) (s1 (tl 2 (lp (blk (tl 1 (s1 (tl 5 bd))))))) (P8 Kv kc5):=ok_block 1 (by kernel_rfl) (S15_ok Kv kc5)
theorem Q17 (kc5:Cur g5):OkT pr false none 108 g5 (S15 (Kt Kv) kc5) (tl 2 (lp (blk (tl 1 (s1 (tl 5 bd)))))) (P6 Kv kc5):=ok_seq (by kernel_rfl) (S7_ok Kv kc5) (B16 Kv kc5)
def S18 (K:KT) (kc5:Cur g5) (b_103:Sl) (x_104:Option Addr) (l105:Sl) (n106:Int) (n107:Int) (w:World):Prop :=
 G.cond (decide (n107<n106)) (S15 K kc5 b_103 x_104 l105 n106 n107 w) (S2 K b_103 x_104 w)
theorem S18_ok (kc5:Cur g5):OkT pr false none 108 g5 (S18 (Kt Kv) kc5) (lp (blk (tl 1 (s1 (tl 5 bd))))) (P6 Kv kc5):=ok_group mixed FOk_ 2 (Q17 Kv kc5) fun v ρ w=>by kernel_rfl
def L5 (K:KT):Cur g5:=loopC g5 (S18 K)
theorem L5_ok:OkT pr false none 108 g5 (L5 (Kt Kv)) (blk (tl 1 (s1 (tl 5 bd)))) (P4 Kv):=ok_loop (B:=S18 (Kt Kv)) (by kernel_rfl) fun kc=>S18_ok Kv kc
theorem L5_ind {K:KT} {b_16:Sl} {x_17:Option Addr} {l18:Sl} {n19:Int} {n20:Int} {w:World} (h:∀ X:Cur g5,(∀ b_16 x_17 l18 n19 n20 w,S18 K X b_16 x_17 l18 n19 n20 w→X b_16 x_17 l18 n19 n20 w)→X b_16 x_17 l18 n19 n20 w):L5 K b_16 x_17 l18 n19 n20 w:=fun X hX=>h X fun b_16 x_17 l18 n19 n20 w hb=>hX (b_16,x_17,l18,n19,n20,()) w hb
theorem B19:OkT pr false none 108 g5 (L5 (Kt Kv)) (tl 1 (s1 (tl 5 bd))) (P3 Kv):=ok_block 0 (by kernel_rfl) (L5_ok Kv)
abbrev g20:List SE:=[.v 0 .sl,.v 4 .sl,.v 7 .ptr]
def S20 (K:KT) (b_108:Sl) (frames_109:Sl) (x_110:Option Addr) (w:World):Prop :=
 G.slc frames_109 1 ((frames_109.n:Nat):Int) 1 fun l111=>L5 K b_108 x_110 l111 ((l111.n:Nat):Int) 0 w
theorem S20_ok:OkT pr false none 108 g20 (S20 (Kt Kv)) (s1 (tl 5 bd)) (P3 Kv):=ok_group mixed FOk_ 1 (B19 Kv) fun v ρ w=>by kernel_rfl
theorem Q21:OkT pr false none 108 g20 (S20 (Kt Kv)) (tl 5 bd) (P1 Kv):=ok_seq (by kernel_rfl) (S2_ok Kv) (S20_ok Kv)
end block_Open
def block_Open (b_3:Sl) (w:World) (K:block_Open.KT):Prop :=
 G.cond (decide (((b_3.n:Nat):Int) > 1048576)) (K none 3 w) (G.rdS pr (Conv.bytesToString b_3.v) w fun s112=>C.strings_HasPrefix s112 (⟨#[84,79,67,66,76,75,48,49]⟩:ByteArray) w fun b113 w114=>G.cond (!b113) (K none 3 w114) (G.slc b_3 8 ((b_3.n:Nat):Int) 1 fun l115=>C.vint_Frames l115 w114 fun l116 n117 n118 w119=>G.cond (n118 != 0) (K none 3 w119) (G.cond (((l116.n:Nat):Int)==0) (K none 3 w119) (C.slices_Clone_byte_byte b_3 w119 fun l120 w121=>G.runM pr (Instr.makeMap 82 none) w121 fun m122 w123=>G.new (.cells #[l120.v,nilS.v,(.map m122),(.int .i64 0)] 89) w123 fun p124 w125=>block_Open.S20 K b_3 l116 (some p124) w125))))
def block_Open.cl:CL:=fun args K w=>match args with
 | [.slice x0_a x0_n x0_c]=>C.block_Open ⟨x0_a,x0_n,x0_c⟩ w (block_Open.Kt K)
 | _=>False
theorem block_Open.clok:OkC pr 11 block_Open.cl:=by
 intro args K w h
 unfold block_Open.cl at h
 split at h
 ·exact calls_group false mixed block_Open.FOk_ block_Open.fn rfl 5 (block_Open.Q21 K) (Eq.mp (by kernel_rfl) h)
 ·exact h.elim
abbrev atomic_AddInt64.KT:=Int→World→Prop
def atomic_AddInt64.Kt:atomic_AddInt64.KT:=fun r0 w=>Kv (.int .i64 r0) w
def atomic_AddInt64 (x0:Option Addr) (x1:Int) (w:World) (K:atomic_AddInt64.KT):Prop:=G.ptr x0 fun p=>G.cI .i64 p w fun n=>G.st p (.int .i64 (IntKind.i64.wrap (n+x1))) w fun w1=>K (IntKind.i64.wrap (n+x1)) w1
def atomic_AddInt64.cl:CL:=fun args K w=>match args with
 | [.pointer x0,.int .i64 x1]=>C.atomic_AddInt64 x0 x1 w (atomic_AddInt64.Kt K)
 | _=>False
theorem atomic_AddInt64.clok:OkX pr 99 atomic_AddInt64.cl:=by
 intro args K w h
 unfold atomic_AddInt64.cl at h
 split at h
 ·rename_i x0 x1
  cases x0 with
  | none=>exact h.elim
  | some a =>
   obtain ⟨n,hc,⟨u,hu⟩,hf,hk⟩:=h
   exact ⟨_,_,run_call_add Tryz.func99 (by kernel_rfl) (by kernel_rfl) (by kernel_rfl) .i64 (by kernel_rfl) hc hf rfl,hk⟩
 ·exact h.elim
namespace atomic_Int64_Add
abbrev KT:=Int→World→Prop
def Kt:KT:=fun n1 w=>Kv (.int .i64 n1) w
noncomputable def bd:Code:=bdy Tryz.f62
theorem fn:FnOk pr 62 10 Tryz.f62:=⟨Tryz.func62,by kernel_rfl,Tryz.ntmps62,by kernel_rfl,by kernel_rfl⟩
def F:Clee:=ofL [(99,C.atomic_AddInt64.cl)]
theorem FOk_:FOk pr F:=FOk_consX C.atomic_AddInt64.clok (FOk_nil)
def P1:Post:=bodyK false pr 10 Tryz.f62 Kv
end atomic_Int64_Add
def atomic_Int64_Add (x_2:Option Addr) (delta_3:Int) (w:World) (K:atomic_Int64_Add.KT):Prop :=
 G.ptr x_2 fun p4=>C.atomic_AddInt64 (some p4) delta_3 w fun n5 w6=>K n5 w6
def atomic_Int64_Add.cl:CL:=fun args K w=>match args with
 | [.pointer x0,.int .i64 x1]=>C.atomic_Int64_Add x0 x1 w (atomic_Int64_Add.Kt K)
 | _=>False
theorem atomic_Int64_Add.clok:OkC pr 62 atomic_Int64_Add.cl:=by
 intro args K w h
 unfold atomic_Int64_Add.cl at h
 split at h
 ·exact calls_last false mixed atomic_Int64_Add.FOk_ atomic_Int64_Add.fn rfl (Eq.mp (by kernel_rfl) h)
 ·exact h.elim
namespace slices_Clone_int_int
abbrev KT:=Sl→World→Prop
def Kt:KT:=fun l1 w=>Kv l1.v w
noncomputable def bd:Code:=bdy Tryz.f63
theorem fn:FnOk pr 63 8 Tryz.f63:=⟨Tryz.func63,by kernel_rfl,Tryz.ntmps63,by kernel_rfl,by kernel_rfl⟩
def F:Clee:=ofL []
theorem FOk_:FOk pr F:=FOk_nil
def P1:Post:=bodyK false pr 8 Tryz.f63 Kv
end slices_Clone_int_int
def slices_Clone_int_int (s_2:Sl) (w:World) (K:slices_Clone_int_int.KT):Prop :=
 G.cond s_2.a.isNone (K nilS w) (G.new (.cells #[] 3) w fun p3 w4=>G.runSl pr (Builtin.append_ #[46,46] 46 #[(Sl.v (⟨some p3,0,0⟩:Sl)),s_2.v]) w4 fun l5 w6=>K l5 w6)
def slices_Clone_int_int.cl:CL:=fun args K w=>match args with
 | [.slice x0_a x0_n x0_c]=>C.slices_Clone_int_int ⟨x0_a,x0_n,x0_c⟩ w (slices_Clone_int_int.Kt K)
 | _=>False
theorem slices_Clone_int_int.clok:OkC pr 63 slices_Clone_int_int.cl:=by
 intro args K w h
 unfold slices_Clone_int_int.cl at h
 split at h
 ·exact calls_last false mixed slices_Clone_int_int.FOk_ slices_Clone_int_int.fn rfl (Eq.mp (by kernel_rfl) h)
 ·exact h.elim
namespace labels_Get
abbrev KT:=ByteArray→World→Prop
def Kt:KT:=fun s1 w=>Kv (.string s1) w
noncomputable def bd:Code:=bdy Tryz.f64
theorem fn:FnOk pr 64 20 Tryz.f64:=⟨Tryz.func64,by kernel_rfl,Tryz.ntmps64,by kernel_rfl,by kernel_rfl⟩
def F:Clee:=ofL []
theorem FOk_:FOk pr F:=FOk_nil
def P1:Post:=bodyK false pr 20 Tryz.f64 Kv
abbrev g2:List SE:=[]
def S2 (K:KT) (w:World):Prop :=
 K (⟨#[]⟩:ByteArray) w
theorem S2_ok:OkT pr false none 20 g2 (S2 (Kt Kv)) (s2 (tl 1 bd)) (P1 Kv):=ok_last mixed FOk_ fun v ρ w=>by kernel_rfl
def P3:Post:=next (get g2 (S2 (Kt Kv))) (P1 Kv)
def P4:Post:=inBlock 0 (P3 Kv)
abbrev g5:List SE:=[.v 1 .str,.v 7 .sl,.v 8 (.int .i64),.v 9 (.int .i64)]
def P6 (kc5:Cur g5):Post:=next (get g5 kc5) (P4 Kv)
def S7 (K:KT) (kc5:Cur g5) (name_12:ByteArray) (l13:Sl) (n14:Int) (n15:Int) (w:World):Prop :=
 G.cond (decide (n15<n14)) (G.ix l13.a l13.n n15 2 fun p16=>G.cS p16 w fun s17=>G.cS (p16.add 1) w fun s18=>G.new (.cells #[(.string (⟨#[]⟩:ByteArray)),(.string (⟨#[]⟩:ByteArray))] 93) w fun p19 w20=>G.st p19 (.string s17) w20 fun w21=>G.st (p19.add 1) (.string s18) w21 fun w22=>G.cS p19 w22 fun s23=>G.cond (s23.toList==name_12.toList) (G.cS (p19.add 1) w22 fun s24=>K s24 w22) (kc5 name_12 l13 n14 (IntKind.i64.wrap (n15+1)) w22)) (S2 K w)
theorem S7_ok (kc5:Cur g5):OkT pr false none 20 g5 (S7 (Kt Kv) kc5) (lp (blk (tl 1 (s1 (tl 1 bd))))) (P6 Kv kc5):=ok_last mixed FOk_ fun v ρ w=>by kernel_rfl
def L5 (K:KT):Cur g5:=loopC g5 (S7 K)
theorem L5_ok:OkT pr false none 20 g5 (L5 (Kt Kv)) (blk (tl 1 (s1 (tl 1 bd)))) (P4 Kv):=ok_loop (B:=S7 (Kt Kv)) (by kernel_rfl) fun kc=>S7_ok Kv kc
theorem L5_ind {K:KT} {name_4:ByteArray} {l5:Sl} {n6:Int} {n7:Int} {w:World} (h:∀ X:Cur g5,(∀ name_4 l5 n6 n7 w,S7 K X name_4 l5 n6 n7 w→X name_4 l5 n6 n7 w)→X name_4 l5 n6 n7 w):L5 K name_4 l5 n6 n7 w:=fun X hX=>h X fun name_4 l5 n6 n7 w hb=>hX (name_4,l5,n6,n7,()) w hb
theorem B8:OkT pr false none 20 g5 (L5 (Kt Kv)) (tl 1 (s1 (tl 1 bd))) (P3 Kv):=ok_block 0 (by kernel_rfl) (L5_ok Kv)
abbrev g9:List SE:=[.v 0 .sl,.v 1 .str]
def S9 (K:KT) (l_25:Sl) (name_26:ByteArray) (w:World):Prop :=
 L5 K name_26 l_25 ((l_25.n:Nat):Int) 0 w
theorem S9_ok:OkT pr false none 20 g9 (S9 (Kt Kv)) (s1 (tl 1 bd)) (P3 Kv):=ok_group mixed FOk_ 1 (B8 Kv) fun v ρ w=>by kernel_rfl
theorem Q10:OkT pr false none 20 g9 (S9 (Kt Kv)) (tl 1 bd) (P1 Kv):=ok_seq (by kernel_rfl) (S2_ok Kv) (S9_ok Kv)
end labels_Get
def labels_Get (l_2:Sl) (name_3:ByteArray) (w:World) (K:labels_Get.KT):Prop :=
 labels_Get.S9 K l_2 name_3 w
def labels_Get.cl:CL:=fun args K w=>match args with
 | [.slice x0_a x0_n x0_c,.string x1]=>C.labels_Get ⟨x0_a,x0_n,x0_c⟩ x1 w (labels_Get.Kt K)
 | _=>False
theorem labels_Get.clok:OkC pr 64 labels_Get.cl:=by
 intro args K w h
 unfold labels_Get.cl at h
 split at h
 ·exact calls_group false mixed labels_Get.FOk_ labels_Get.fn rfl 1 (labels_Get.Q10 K) (Eq.mp (by kernel_rfl) h)
 ·exact h.elim
namespace block_Block_Postings
abbrev KT:=Sl→World→Prop
def Kt:KT:=fun l1 w=>Kv l1.v w
noncomputable def bd:Code:=bdy Tryz.f24
theorem fn:FnOk pr 24 48 Tryz.f24:=⟨Tryz.func24,by kernel_rfl,Tryz.ntmps24,by kernel_rfl,by kernel_rfl⟩
def F:Clee:=ofL [(62,C.atomic_Int64_Add.cl),(63,C.slices_Clone_int_int.cl),(64,C.labels_Get.cl)]
theorem FOk_:FOk pr F:=FOk_cons C.atomic_Int64_Add.clok (FOk_cons C.slices_Clone_int_int.clok (FOk_cons C.labels_Get.clok (FOk_nil)))
def P1:Post:=bodyK false pr 48 Tryz.f24 Kv
abbrev g2:List SE:=[.v 7 .sl]
def S2 (K:KT) (l_11:Sl) (w:World):Prop :=
 K l_11 w
theorem S2_ok:OkT pr false none 48 g2 (S2 (Kt Kv)) (s2 (tl 5 bd)) (P1 Kv):=ok_last mixed FOk_ fun v ρ w=>by kernel_rfl
def P3:Post:=next (get g2 (S2 (Kt Kv))) (P1 Kv)
def P4:Post:=inBlock 0 (P3 Kv)
abbrev g5:List SE:=[.v 1 .str,.v 7 .sl,.v 30 .sl,.v 31 (.int .i64),.v 32 (.int .i64)]
def P6 (kc5:Cur g5):Post:=next (get g5 kc5) (P4 Kv)
def S7 (K:KT) (kc5:Cur g5) (name_22:ByteArray) (l_23:Sl) (l24:Sl) (n25:Int) (n26:Int) (w:World):Prop :=
 G.cond (decide (n26<n25)) (G.ix l24.a l24.n n26 2 fun p27=>G.cSl p27 w fun l28=>G.cSl (p27.add 1) w fun l29=>G.new (.cells #[nilS.v,nilS.v] 57) w fun p30 w31=>G.st p30 l28.v w31 fun w32=>G.st (p30.add 1) l29.v w32 fun w33=>G.cSl p30 w33 fun l34=>C.labels_Get l34 name_22 w33 fun s35 w36=>G.cond (s35.toList==(⟨#[]⟩:ByteArray).toList) (G.new (.cells #[(.int .i64 n26)] 3) w36 fun p37 w38=>G.runSl pr (Builtin.append_ #[46,46] 46 #[l_23.v,(Sl.v (⟨some p37,1,1⟩:Sl))]) w38 fun l39 w40=>kc5 name_22 l39 l24 n25 (IntKind.i64.wrap (n26+1)) w40) (kc5 name_22 l_23 l24 n25 (IntKind.i64.wrap (n26+1)) w36)) (S2 K l_23 w)
theorem S7_ok (kc5:Cur g5):OkT pr false none 48 g5 (S7 (Kt Kv) kc5) (lp (blk (tl 1 (s1 (tl 5 bd))))) (P6 Kv kc5):=ok_last mixed FOk_ fun v ρ w=>by kernel_rfl
def L5 (K:KT):Cur g5:=loopC g5 (S7 K)
theorem L5_ok:OkT pr false none 48 g5 (L5 (Kt Kv)) (blk (tl 1 (s1 (tl 5 bd)))) (P4 Kv):=ok_loop (B:=S7 (Kt Kv)) (by kernel_rfl) fun kc=>S7_ok Kv kc
theorem L5_ind {K:KT} {name_12:ByteArray} {l_13:Sl} {l14:Sl} {n15:Int} {n16:Int} {w:World} (h:∀ X:Cur g5,(∀ name_12 l_13 l14 n15 n16 w,S7 K X name_12 l_13 l14 n15 n16 w→X name_12 l_13 l14 n15 n16 w)→X name_12 l_13 l14 n15 n16 w):L5 K name_12 l_13 l14 n15 n16 w:=fun X hX=>h X fun name_12 l_13 l14 n15 n16 w hb=>hX (name_12,l_13,l14,n15,n16,()) w hb
theorem B8:OkT pr false none 48 g5 (L5 (Kt Kv)) (tl 1 (s1 (tl 5 bd))) (P3 Kv):=ok_block 0 (by kernel_rfl) (L5_ok Kv)
abbrev g9:List SE:=[.v 0 .ptr,.v 1 .str,.v 7 .sl]
def S9 (K:KT) (b_41:Option Addr) (name_42:ByteArray) (l_43:Sl) (w:World):Prop :=
 G.ptr b_41 fun p44=>G.cSl (p44.add 1) w fun l45=>L5 K name_42 l_43 l45 ((l45.n:Nat):Int) 0 w
theorem S9_ok:OkT pr false none 48 g9 (S9 (Kt Kv)) (s1 (tl 5 bd)) (P3 Kv):=ok_group mixed FOk_ 1 (B8 Kv) fun v ρ w=>by kernel_rfl
theorem Q10:OkT pr false none 48 g9 (S9 (Kt Kv)) (tl 5 bd) (P1 Kv):=ok_seq (by kernel_rfl) (S2_ok Kv) (S9_ok Kv)
end block_Block_Postings
def block_Block_Postings (b_2:Option Addr) (name_3:ByteArray) (value_4:ByteArray) (w:World) (K:block_Block_Postings.KT):Prop :=
 G.cond b_2.isNone (K nilS w) (G.ptr b_2 fun p46=>C.atomic_Int64_Add (some (p46.add 3)) 1 w fun n47 w48=>G.cond (!(value_4.toList==(⟨#[]⟩:ByteArray).toList)) (G.ptr b_2 fun p49=>G.cM (p49.add 2) w48 fun m50=>G.rd1 pr (Instr.lookup 82 (.map m50) (.agg #[(.string name_3),(.string value_4)]) false) Sl.v w48 fun l51=>C.slices_Clone_int_int l51 w48 fun l52 w53=>K l52 w53) (block_Block_Postings.S9 K b_2 name_3 nilS w48))
def block_Block_Postings.cl:CL:=fun args K w=>match args with
 | [.pointer x0,.string x1,.string x2]=>C.block_Block_Postings x0 x1 x2 w (block_Block_Postings.Kt K)
 | _=>False
theorem block_Block_Postings.clok:OkC pr 24 block_Block_Postings.cl:=by
 intro args K w h
 unfold block_Block_Postings.cl at h
 split at h
 ·exact calls_group false mixed block_Block_Postings.FOk_ block_Block_Postings.fn rfl 5 (block_Block_Postings.Q10 K) (Eq.mp (by kernel_rfl) h)
 ·exact h.elim
namespace block_Block_Len
abbrev KT:=Int→World→Prop
def Kt:KT:=fun n1 w=>Kv (.int .i64 n1) w
noncomputable def bd:Code:=bdy Tryz.f40
theorem fn:FnOk pr 40 10 Tryz.f40:=⟨Tryz.func40,by kernel_rfl,Tryz.ntmps40,by kernel_rfl,by kernel_rfl⟩
def F:Clee:=ofL []
theorem FOk_:FOk pr F:=FOk_nil
def P1:Post:=bodyK false pr 10 Tryz.f40 Kv
end block_Block_Len
def block_Block_Len (b_2:Option Addr) (w:World) (K:block_Block_Len.KT):Prop :=
 G.cond b_2.isNone (K 0 w) (G.ptr b_2 fun p3=>G.cSl (p3.add 1) w fun l4=>K ((l4.n:Nat):Int) w)
def block_Block_Len.cl:CL:=fun args K w=>match args with
 | [.pointer x0]=>C.block_Block_Len x0 w (block_Block_Len.Kt K)
 | _=>False
theorem block_Block_Len.clok:OkC pr 40 block_Block_Len.cl:=by
 intro args K w h
 unfold block_Block_Len.cl at h
 split at h
 ·exact calls_last false mixed block_Block_Len.FOk_ block_Block_Len.fn rfl (Eq.mp (by kernel_rfl) h)
 ·exact h.elim
namespace block_Block_All
abbrev KT:=Value→World→Prop
def Kt:KT:=fun v1 w=>Kv v1 w
noncomputable def bd:Code:=bdy Tryz.f14
theorem fn:FnOk pr 14 4 Tryz.f14:=⟨Tryz.func14,by kernel_rfl,Tryz.ntmps14,by kernel_rfl,by kernel_rfl⟩
def F:Clee:=ofL []
theorem FOk_:FOk pr F:=FOk_nil
def P1:Post:=bodyK false pr 4 Tryz.f14 Kv
end block_Block_All
def block_Block_All (b_2:Option Addr) (w:World) (K:block_Block_All.KT):Prop :=
 G.new (.cells #[(.pointer b_2)] 23) w fun p3 w4=>K (Value.func (.func 48) #[] #[(.pointer (some p3))]) w4
def block_Block_All.cl:CL:=fun args K w=>match args with
 | [.pointer x0]=>C.block_Block_All x0 w (block_Block_All.Kt K)
 | _=>False
theorem block_Block_All.clok:OkC pr 14 block_Block_All.cl:=by
 intro args K w h
 unfold block_Block_All.cl at h
 split at h
 ·exact calls_last false mixed block_Block_All.FOk_ block_Block_All.fn rfl (Eq.mp (by kernel_rfl) h)
 ·exact h.elim
namespace block_Block_Samples
abbrev KT:=Int→World→Prop
def Kt:KT:=fun n1 w=>Kv (.int .i64 n1) w
noncomputable def bd:Code:=bdy Tryz.f47
theorem fn:FnOk pr 47 14 Tryz.f47:=⟨Tryz.func47,by kernel_rfl,Tryz.ntmps47,by kernel_rfl,by kernel_rfl⟩
def F:Clee:=ofL [(14,C.block_Block_All.cl)]
theorem FOk_:FOk pr F:=FOk_cons C.block_Block_All.clok (FOk_nil)
def Fc:Clee:=ofL [(48,C.block_Block_All_1.cl),(71,C.block_compare.cl),(76,C.block_Trim_1.cl),(135,C.labels_Compare_1.cl)]
theorem FcOk:FOkB pr Fc:=FOkB_cons C.block_Block_All_1.clok (FOkB_cons C.block_compare.clok (FOkB_cons C.block_Trim_1.clok (FOkB_cons C.labels_Compare_1.clok (FOkB_nil))))
def P1:Post:=bodyK true pr 14 Tryz.f47 Kv
abbrev g2:List SE:=[.v 3 .ptr,.v 14 .raw]
def S2 (K:KT) (n_3:Option Addr) (v4:Value) (w:World):Prop :=
 G.ptr n_3 fun p5=>G.cI .i64 p5 w fun n6=>G.marks v4 w fun w7=>K n6 w7
theorem S2_ok:OkT pr true none 14 g2 (S2 (Kt Kv)) (s2 (tl 2 bd)) (P1 Kv):=ok_last mixed FOk_ fun v ρ w=>by kernel_rfl
def P3:Post:=next (get g2 (S2 (Kt Kv))) (P1 Kv)
def P4:Post:=inBlock 0 (P3 Kv)
abbrev g5:List SE:=[.v 3 .ptr,.v 6 .raw,.v 14 .raw]
def P6 (Rr:Exit→World→Prop):Post:=RP Rr
abbrev g7:List SE:=[.v 3 .ptr,.v 4 .ptr]
def S7 (Rr:Exit→World→Prop) (n_11:Option Addr) (s_12:Option Addr) (w:World):Prop :=
 G.ptr n_11 fun p13=>G.cI .i64 p13 w fun n14=>G.ptr s_12 fun p15=>G.cSl (p15.add 1) w fun l16=>G.ptr n_11 fun p17=>G.st p17 (.int .i64 (IntKind.i64.wrap (n14+((l16.n:Nat):Int)))) w fun w18=>Rr .normal w18
theorem S7_ok (Rr:Exit→World→Prop) {ro:Option Nat}:OkT pr false ro 14 g7 (S7 Rr) (rbd (blk (tl 1 (s1 (tl 2 bd))))) (P6 Rr):=ok_last mixed FOk_ fun v ρ w=>by kernel_rfl
def B_R5 (n_8:Option Addr) (v9:Value) (v10:Value) (args:List Value) (wb:World) (bz:(World→Prop)→World→Prop) (Rr:Exit→World→Prop):Prop:=match args with
 | [.agg ⟨[.slice y_19_a y_19_n y_19_c,.slice y_20_a y_20_n y_20_c]⟩]=>G.new (.cells #[nilS.v,nilS.v] 57) wb fun p21 w22=>G.st p21 (⟨y_19_a,y_19_n,y_19_c⟩:Sl).v w22 fun w23=>G.st (p21.add 1) (⟨y_20_a,y_20_n,y_20_c⟩:Sl).v w23 fun w24=>bz (S7 Rr n_8 (some p21)) w24
 | _=>False
def O_R5 (K:KT) (n_8:Option Addr) (v9:Value) (v10:Value) (e:Exit) (D:Nat) (w:World):Prop:=match e with
 | .normal=>S2 K n_8 (pushMark v10 D) w
 | _=>False
def R5 (K:KT) (n_8:Option Addr) (v9:Value) (v10:Value) (w:World):Prop :=
 G.rangeW Fc v9 pr (B_R5 n_8 v9 v10) w (O_R5 K n_8 v9 v10)
theorem R5_ok:OkT pr true none 14 g5 (R5 (Kt Kv)) (blk (tl 1 (s1 (tl 2 bd)))) (P4 Kv):=by
 refine ok_rangeW mixed FOk_ FcOk (s:=6) (ps:=#[7]) (Bt:=fun v=>B_R5 v.1 v.2.1 v.2.2.1) (kB:=fun Rr=>S7 Rr) (sgB:=g7) (out:=fun v=>O_R5 (Kt Kv) v.1 v.2.1 v.2.2.1) (by kernel_rfl) (fun v ρ w=>by kernel_rfl) ?_ (fun Rr l=>S7_ok Rr) ?_
 ·intro v ρ args w bz Rr h
  have h':B_R5 v.1 v.2.1 v.2.2.1 args w bz Rr:=h
  unfold B_R5 at h'
  split at h'
  ·exact ⟨rfl,Eq.mp (by kernel_rfl) h'⟩
  ·exact h'.elim
 ·intro v ρ e D w h
  cases e with
  | normal=>exact Eq.mp (by kernel_rfl) h
  | _=>exact h.elim
theorem B8:OkT pr true none 14 g5 (R5 (Kt Kv)) (tl 1 (s1 (tl 2 bd))) (P3 Kv):=ok_block 0 (by kernel_rfl) (R5_ok Kv)
abbrev g9:List SE:=[.v 0 .ptr,.v 3 .ptr,.v 14 .raw]
def S9 (K:KT) (b_25:Option Addr) (n_26:Option Addr) (v27:Value) (w:World):Prop :=
 C.block_Block_All b_25 w fun v28 w29=>R5 K n_26 v28 v27 w29
theorem S9_ok:OkT pr true none 14 g9 (S9 (Kt Kv)) (s1 (tl 2 bd)) (P3 Kv):=ok_group mixed FOk_ 1 (B8 Kv) fun v ρ w=>by kernel_rfl
theorem Q10:OkT pr true none 14 g9 (S9 (Kt Kv)) (tl 2 bd) (P1 Kv):=ok_seq (by kernel_rfl) (S2_ok Kv) (S9_ok Kv)
end block_Block_Samples
def block_Block_Samples (b_2:Option Addr) (w:World) (K:block_Block_Samples.KT):Prop :=
 G.new (.cells #[(.int .i64 0)] 3) w fun p30 w31=>G.st p30 (.int .i64 0) w31 fun w32=>block_Block_Samples.S9 K b_2 (some p30) undef w32
def block_Block_Samples.cl:CL:=fun args K w=>match args with
 | [.pointer x0]=>C.block_Block_Samples x0 w (block_Block_Samples.Kt K)
 | _=>False
theorem block_Block_Samples.clok:OkC pr 47 block_Block_Samples.cl:=by
 intro args K w h
 unfold block_Block_Samples.cl at h
 split at h
 ·exact calls_group true mixed block_Block_Samples.FOk_ block_Block_Samples.fn rfl 2 (block_Block_Samples.Q10 K) (Eq.mp (by kernel_rfl) h)
 ·exact h.elim
namespace tocsinlaw10_awake
abbrev KT:=Bool→World→Prop
def Kt:KT:=fun b1 w=>Kv (.bool b1) w
noncomputable def bd:Code:=bdy Tryz.f13
theorem fn:FnOk pr 13 60 Tryz.f13:=⟨Tryz.func13,by kernel_rfl,Tryz.ntmps13,by kernel_rfl,by kernel_rfl⟩
def F:Clee:=ofL [(11,C.block_Open.cl),(24,C.block_Block_Postings.cl),(33,C.block_Build.cl),(40,C.block_Block_Len.cl),(47,C.block_Block_Samples.cl)]
theorem FOk_:FOk pr F:=FOk_cons C.block_Open.clok (FOk_cons C.block_Block_Postings.clok (FOk_cons C.block_Build.clok (FOk_cons C.block_Block_Len.clok (FOk_cons C.block_Block_Samples.clok (FOk_nil)))))
def P1:Post:=bodyK false pr 60 Tryz.f13 Kv
end tocsinlaw10_awake
def tocsinlaw10_awake (w:World) (K:tocsinlaw10_awake.KT):Prop :=
 G.new (.cells #[(.int .i64 5),(.float .f64 4607182418800017408)] 96) w fun p2 w3=>G.new (.cells #[(.string (⟨#[97]⟩:ByteArray)),(.string (⟨#[50]⟩:ByteArray))] 93) w3 fun p4 w5=>G.new (.cells #[(.string (⟨#[97]⟩:ByteArray)),(.string (⟨#[49]⟩:ByteArray))] 93) w5 fun p6 w7=>G.new (.cells #[(Sl.v (⟨some p4,1,1⟩:Sl)),(Sl.v (⟨some p2,1,1⟩:Sl)),(Sl.v (⟨some p6,1,1⟩:Sl)),(Sl.v (⟨some p2,1,1⟩:Sl))] 57) w7 fun p8 w9=>C.block_Build (⟨some p8,2,2⟩:Sl) w9 fun l10 n11 n12 w13=>C.block_Open l10 w13 fun p14 n15 w16=>G.cond (n11 != 0) (K false w16) (G.cond (n15 != 0) (K false w16) (G.cond p14.isNone (K false w16) (C.block_Block_Postings p14 (⟨#[97]⟩:ByteArray) (⟨#[50]⟩:ByteArray) w16 fun l17 w18=>G.cond (((l17.n:Nat):Int)==1) (G.ix l17.a l17.n 0 1 fun p19=>G.cI .i64 p19 w18 fun n20=>G.cond (n20==1) (C.block_Block_Len p14 w18 fun n21 w22=>G.cond (n21==2) (C.block_Block_Samples p14 w22 fun n23 w24=>K (n23==2) w24) (K false w22)) (K false w18)) (K false w18))))
def tocsinlaw10_awake.cl:CL:=fun args K w=>match args with
 | []=>C.tocsinlaw10_awake w (tocsinlaw10_awake.Kt K)
 | _=>False
theorem tocsinlaw10_awake.clok:OkC pr 13 tocsinlaw10_awake.cl:=by
 intro args K w h
 unfold tocsinlaw10_awake.cl at h
 split at h
 ·exact calls_last false mixed tocsinlaw10_awake.FOk_ tocsinlaw10_awake.fn rfl (Eq.mp (by kernel_rfl) h)
 ·exact h.elim
namespace block_Block_Bytes
abbrev KT:=Sl→World→Prop
def Kt:KT:=fun l1 w=>Kv l1.v w
noncomputable def bd:Code:=bdy Tryz.f15
theorem fn:FnOk pr 15 10 Tryz.f15:=⟨Tryz.func15,by kernel_rfl,Tryz.ntmps15,by kernel_rfl,by kernel_rfl⟩
def F:Clee:=ofL [(43,C.slices_Clone_byte_byte.cl)]
theorem FOk_:FOk pr F:=FOk_cons C.slices_Clone_byte_byte.clok (FOk_nil)
def P1:Post:=bodyK false pr 10 Tryz.f15 Kv
end block_Block_Bytes
def block_Block_Bytes (b_2:Option Addr) (w:World) (K:block_Block_Bytes.KT):Prop :=
 G.cond b_2.isNone (K nilS w) (G.ptr b_2 fun p3=>G.cSl p3 w fun l4=>C.slices_Clone_byte_byte l4 w fun l5 w6=>K l5 w6)
def block_Block_Bytes.cl:CL:=fun args K w=>match args with
 | [.pointer x0]=>C.block_Block_Bytes x0 w (block_Block_Bytes.Kt K)
 | _=>False
theorem block_Block_Bytes.clok:OkC pr 15 block_Block_Bytes.cl:=by
 intro args K w h
 unfold block_Block_Bytes.cl at h
 split at h
 ·exact calls_last false mixed block_Block_Bytes.FOk_ block_Block_Bytes.fn rfl (Eq.mp (by kernel_rfl) h)
 ·exact h.elim
namespace tocsinlaw10_built
abbrev KT:=Option Addr→World→Prop
def Kt:KT:=fun p1 w=>Kv (.pointer p1) w
noncomputable def bd:Code:=bdy Tryz.f17
theorem fn:FnOk pr 17 24 Tryz.f17:=⟨Tryz.func17,by kernel_rfl,Tryz.ntmps17,by kernel_rfl,by kernel_rfl⟩
def F:Clee:=ofL [(11,C.block_Open.cl),(33,C.block_Build.cl)]
theorem FOk_:FOk pr F:=FOk_cons C.block_Open.clok (FOk_cons C.block_Build.clok (FOk_nil))
def P1:Post:=bodyK false pr 24 Tryz.f17 Kv
end tocsinlaw10_built
def tocsinlaw10_built (l_2:Sl) (w:World) (K:tocsinlaw10_built.KT):Prop :=
 C.block_Build l_2 w fun l4 n5 n6 w7=>G.cond (n5 != 0) (K none w7) (C.block_Open l4 w7 fun p8 n9 w10=>G.cond (n9 != 0) (K none w10) (K p8 w10))
def tocsinlaw10_built.cl:CL:=fun args K w=>match args with
 | [.slice x0_a x0_n x0_c]=>C.tocsinlaw10_built ⟨x0_a,x0_n,x0_c⟩ w (tocsinlaw10_built.Kt K)
 | _=>False
theorem tocsinlaw10_built.clok:OkC pr 17 tocsinlaw10_built.cl:=by
 intro args K w h
 unfold tocsinlaw10_built.cl at h
 split at h
 ·exact calls_last false mixed tocsinlaw10_built.FOk_ tocsinlaw10_built.fn rfl (Eq.mp (by kernel_rfl) h)
 ·exact h.elim
namespace tocsinref04_side
abbrev KT:=Int→World→Prop
def Kt:KT:=fun n1 w=>Kv (.int .i64 n1) w
noncomputable def bd:Code:=bdy Tryz.f96
theorem fn:FnOk pr 96 11 Tryz.f96:=⟨Tryz.func96,by kernel_rfl,Tryz.ntmps96,by kernel_rfl,by kernel_rfl⟩
def F:Clee:=ofL []
theorem FOk_:FOk pr F:=FOk_nil
def P1:Post:=bodyK false pr 11 Tryz.f96 Kv
end tocsinref04_side
def tocsinref04_side (a_2:ByteArray) (b_3:ByteArray) (w:World) (K:tocsinref04_side.KT):Prop :=
 G.cond (Op.bytesLess a_2.toList b_3.toList) (K (-1:Int) w) (G.cond (!((Op.bytesLess a_2.toList b_3.toList) || (a_2.toList==b_3.toList))) (K 1 w) (K 0 w))
def tocsinref04_side.cl:CL:=fun args K w=>match args with
 | [.string x0,.string x1]=>C.tocsinref04_side x0 x1 w (tocsinref04_side.Kt K)
 | _=>False
theorem tocsinref04_side.clok:OkC pr 96 tocsinref04_side.cl:=by
 intro args K w h
 unfold tocsinref04_side.cl at h
 split at h
 ·exact calls_last false mixed tocsinref04_side.FOk_ tocsinref04_side.fn rfl (Eq.mp (by kernel_rfl) h)
 ·exact h.elim
namespace tocsinref04_Compare
abbrev KT:=Int→World→Prop
def Kt:KT:=fun n1 w=>Kv (.int .i64 n1) w
noncomputable def bd:Code:=bdy Tryz.f58
theorem fn:FnOk pr 58 58 Tryz.f58:=⟨Tryz.func58,by kernel_rfl,Tryz.ntmps58,by kernel_rfl,by kernel_rfl⟩
def F:Clee:=ofL [(96,C.tocsinref04_side.cl)]
theorem FOk_:FOk pr F:=FOk_cons C.tocsinref04_side.clok (FOk_nil)
def P1:Post:=bodyK false pr 58 Tryz.f58 Kv
abbrev g2:List SE:=[.v 0 .sl,.v 1 .sl]
def S2 (K:KT) (a_4:Sl) (b_5:Sl) (w:World):Prop :=
 G.cond (decide (((a_4.n:Nat):Int)<((b_5.n:Nat):Int))) (K (-1:Int) w) (G.cond (decide (((a_4.n:Nat):Int) > ((b_5.n:Nat):Int))) (K 1 w) (K 0 w))
theorem S2_ok:OkT pr false none 58 g2 (S2 (Kt Kv)) (s2 (tl 1 bd)) (P1 Kv):=ok_last mixed FOk_ fun v ρ w=>by kernel_rfl
def P3:Post:=next (get g2 (S2 (Kt Kv))) (P1 Kv)
def P4:Post:=inBlock 0 (P3 Kv)
abbrev g5:List SE:=[.v 0 .sl,.v 1 .sl,.v 5 (.int .i64)]
def P6 (kc5:Cur g5):Post:=next (get g5 kc5) (P4 Kv)
def S7 (K:KT) (kc5:Cur g5) (a_12:Sl) (b_13:Sl) (i_14:Int) (w:World):Prop :=
 G.cond (decide (i_14<((a_12.n:Nat):Int))) (G.cond (decide (i_14<((b_13.n:Nat):Int))) (G.ix a_12.a a_12.n i_14 2 fun p15=>G.cS p15 w.drew fun s16=>G.ix b_13.a b_13.n i_14 2 fun p17=>G.cS p17 w.drew fun s18=>C.tocsinref04_side s16 s18 w.drew fun n19 w20=>G.cond (n19 != 0) (K n19 w20) (G.ix a_12.a a_12.n i_14 2 fun p21=>G.cS (p21.add 1) w20.drew fun s22=>G.ix b_13.a b_13.n i_14 2 fun p23=>G.cS (p23.add 1) w20.drew fun s24=>C.tocsinref04_side s22 s24 w20.drew fun n25 w26=>G.cond (n25 != 0) (K n25 w26) (kc5 a_12 b_13 (IntKind.i64.wrap (i_14+1)) w26))) (S2 K a_12 b_13 w)) (S2 K a_12 b_13 w)
theorem S7_ok (kc5:Cur g5):OkT pr false none 58 g5 (S7 (Kt Kv) kc5) (lp (blk (tl 1 (s1 (tl 1 bd))))) (P6 Kv kc5):=ok_last mixed FOk_ fun v ρ w=>by kernel_rfl
def L5 (K:KT):Cur g5:=loopC g5 (S7 K)
theorem L5_ok:OkT pr false none 58 g5 (L5 (Kt Kv)) (blk (tl 1 (s1 (tl 1 bd)))) (P4 Kv):=ok_loop (B:=S7 (Kt Kv)) (by kernel_rfl) fun kc=>S7_ok Kv kc
theorem L5_ind {K:KT} {a_6:Sl} {b_7:Sl} {i_8:Int} {w:World} (h:∀ X:Cur g5,(∀ a_6 b_7 i_8 w,S7 K X a_6 b_7 i_8 w→X a_6 b_7 i_8 w)→X a_6 b_7 i_8 w):L5 K a_6 b_7 i_8 w:=fun X hX=>h X fun a_6 b_7 i_8 w hb=>hX (a_6,b_7,i_8,()) w hb
theorem B8:OkT pr false none 58 g5 (L5 (Kt Kv)) (tl 1 (s1 (tl 1 bd))) (P3 Kv):=ok_block 0 (by kernel_rfl) (L5_ok Kv)
def S9 (K:KT) (a_27:Sl) (b_28:Sl) (w:World):Prop :=
 L5 K a_27 b_28 0 w
theorem S9_ok:OkT pr false none 58 g2 (S9 (Kt Kv)) (s1 (tl 1 bd)) (P3 Kv):=ok_group mixed FOk_ 1 (B8 Kv) fun v ρ w=>by kernel_rfl
theorem Q10:OkT pr false none 58 g2 (S9 (Kt Kv)) (tl 1 bd) (P1 Kv):=ok_seq (by kernel_rfl) (S2_ok Kv) (S9_ok Kv)
end tocsinref04_Compare
def tocsinref04_Compare (a_2:Sl) (b_3:Sl) (w:World) (K:tocsinref04_Compare.KT):Prop :=
 tocsinref04_Compare.S9 K a_2 b_3 w
def tocsinref04_Compare.cl:CL:=fun args K w=>match args with
 | [.slice x0_a x0_n x0_c,.slice x1_a x1_n x1_c]=>C.tocsinref04_Compare ⟨x0_a,x0_n,x0_c⟩ ⟨x1_a,x1_n,x1_c⟩ w (tocsinref04_Compare.Kt K)
 | _=>False
theorem tocsinref04_Compare.clok:OkC pr 58 tocsinref04_Compare.cl:=by
 intro args K w h
 unfold tocsinref04_Compare.cl at h
 split at h
 ·exact calls_group false mixed tocsinref04_Compare.FOk_ tocsinref04_Compare.fn rfl 1 (tocsinref04_Compare.Q10 K) (Eq.mp (by kernel_rfl) h)
 ·exact h.elim
namespace tocsinref10_Sorted
abbrev KT:=Sl→World→Prop
def Kt:KT:=fun l1 w=>Kv l1.v w
noncomputable def bd:Code:=bdy Tryz.f19
theorem fn:FnOk pr 19 49 Tryz.f19:=⟨Tryz.func19,by kernel_rfl,Tryz.ntmps19,by kernel_rfl,by kernel_rfl⟩
def F:Clee:=ofL [(58,C.tocsinref04_Compare.cl)]
theorem FOk_:FOk pr F:=FOk_cons C.tocsinref04_Compare.clok (FOk_nil)
def P1:Post:=bodyK false pr 49 Tryz.f19 Kv
abbrev g2:List SE:=[.v 3 .sl]
def S2 (K:KT) (out_3:Sl) (w:World):Prop :=
 K out_3 w
theorem S2_ok:OkT pr false none 49 g2 (S2 (Kt Kv)) (s2 (tl 2 bd)) (P1 Kv):=ok_last mixed FOk_ fun v ρ w=>by kernel_rfl
def P3:Post:=next (get g2 (S2 (Kt Kv))) (P1 Kv)
def P4:Post:=inBlock 0 (P3 Kv)
abbrev g5:List SE:=[.v 3 .sl,.v 7 .sl,.v 8 (.int .i64),.v 9 (.int .i64)]
def P6 (kc5:Cur g5):Post:=next (get g5 kc5) (P4 Kv)
def S7 (K:KT) (kc5:Cur g5) (out_8:Sl) (l9:Sl) (n10:Int) (n11:Int) (w:World):Prop :=
 kc5 out_8 l9 n10 (IntKind.i64.wrap (n11+1)) w
theorem S7_ok (kc5:Cur g5):OkT pr false none 49 g5 (S7 (Kt Kv) kc5) (s2 (tl 2 (lp (blk (tl 1 (s1 (tl 2 bd))))))) (P6 Kv kc5):=ok_last mixed FOk_ fun v ρ w=>by kernel_rfl
def P8 (kc5:Cur g5):Post:=next (get g5 (S7 (Kt Kv) kc5)) (P6 Kv kc5)
def P9 (kc5:Cur g5):Post:=inBlock 1 (P8 Kv kc5)
abbrev g10:List SE:=[.v 3 .sl,.v 5 .ptr,.v 6 (.int .i64),.v 7 .sl,.v 8 (.int .i64),.v 9 (.int .i64)]
def S10 (K:KT) (kc5:Cur g5) (out_12:Sl) (x_13:Option Addr) (k_14:Int) (l15:Sl) (n16:Int) (n17:Int) (w:World):Prop :=
 G.ptr x_13 fun p18=>G.cSl p18 w fun l19=>G.cSl (p18.add 1) w fun l20=>G.ix out_12.a out_12.n k_14 2 fun p21=>G.st p21 l19.v w fun w22=>G.st (p21.add 1) l20.v w22 fun w23=>S7 K kc5 out_12 l15 n16 n17 w23
theorem S10_ok (kc5:Cur g5):OkT pr false none 49 g10 (S10 (Kt Kv) kc5) (s2 (tl 3 (blk (s1 (tl 2 (lp (blk (tl 1 (s1 (tl 2 bd)))))))))) (P9 Kv kc5):=ok_last mixed FOk_ fun v ρ w=>by kernel_rfl
def P11 (kc5:Cur g5):Post:=next (get g10 (S10 (Kt Kv) kc5)) (P9 Kv kc5)
def P12 (kc5:Cur g5):Post:=inBlock 2 (P11 Kv kc5)
def P14 (kc5:Cur g5) (kc13:Cur g10):Post:=next (get g10 kc13) (P12 Kv kc5)
def S15 (K:KT) (kc5:Cur g5) (kc13:Cur g10) (out_36:Sl) (x_37:Option Addr) (k_38:Int) (l39:Sl) (n40:Int) (n41:Int) (w:World):Prop :=
 G.cond (decide (k_38 > 0)) (G.ix out_36.a out_36.n (IntKind.i64.wrap (k_38-1)) 2 fun p42=>G.cSl p42 w.drew fun l43=>G.ptr x_37 fun p44=>G.cSl p44 w.drew fun l45=>C.tocsinref04_Compare l43 l45 w.drew fun n46 w47=>G.cond (decide (n46 > 0)) (G.ix out_36.a out_36.n (IntKind.i64.wrap (k_38-1)) 2 fun p48=>G.cSl p48 w47 fun l49=>G.cSl (p48.add 1) w47 fun l50=>G.ix out_36.a out_36.n k_38 2 fun p51=>G.st p51 l49.v w47 fun w52=>G.st (p51.add 1) l50.v w52 fun w53=>kc13 out_36 x_37 (IntKind.i64.wrap (k_38-1)) l39 n40 n41 w53) (S10 K kc5 out_36 x_37 k_38 l39 n40 n41 w47)) (S10 K kc5 out_36 x_37 k_38 l39 n40 n41 w.drew)
theorem S15_ok (kc5:Cur g5) (kc13:Cur g10):OkT pr false none 49 g10 (S15 (Kt Kv) kc5 kc13) (lp (blk (s1 (tl 3 (blk (s1 (tl 2 (lp (blk (tl 1 (s1 (tl 2 bd)))))))))))) (P14 Kv kc5 kc13):=ok_last mixed FOk_ fun v ρ w=>by kernel_rfl
def L13 (K:KT) (kc5:Cur g5):Cur g10:=loopC g10 (S15 K kc5)
theorem L13_ok (kc5:Cur g5):OkT pr false none 49 g10 (L13 (Kt Kv) kc5) (blk (s1 (tl 3 (blk (s1 (tl 2 (lp (blk (tl 1 (s1 (tl 2 bd))))))))))) (P12 Kv kc5):=ok_loop (B:=S15 (Kt Kv) kc5) (by kernel_rfl) fun kc=>S15_ok Kv kc5 kc
theorem L13_ind {K:KT} {kc5:Cur g5} {out_24:Sl} {x_25:Option Addr} {k_26:Int} {l27:Sl} {n28:Int} {n29:Int} {w:World} (h:∀ X:Cur g10,(∀ out_24 x_25 k_26 l27 n28 n29 w,S15 K kc5 X out_24 x_25 k_26 l27 n28 n29 w→X out_24 x_25 k_26 l27 n28 n29 w)→X out_24 x_25 k_26 l27 n28 n29 w):L13 K kc5 out_24 x_25 k_26 l27 n28 n29 w:=fun X hX=>h X fun out_24 x_25 k_26 l27 n28 n29 w hb=>hX (out_24,x_25,k_26,l27,n28,n29,()) w hb
theorem B16 (kc5:Cur g5):OkT pr false none 49 g10 (L13 (Kt Kv) kc5) (s1 (tl 3 (blk (s1 (tl 2 (lp (blk (tl 1 (s1 (tl 2 bd)))))))))) (P11 Kv kc5):=ok_block 2 (by kernel_rfl) (L13_ok Kv kc5)
theorem Q17 (kc5:Cur g5):OkT pr false none 49 g10 (L13 (Kt Kv) kc5) (tl 3 (blk (s1 (tl 2 (lp (blk (tl 1 (s1 (tl 2 bd))))))))) (P9 Kv kc5):=ok_seq (by kernel_rfl) (S10_ok Kv kc5) (B16 Kv kc5)
def S18 (K:KT) (kc5:Cur g5) (out_54:Sl) (l55:Sl) (n56:Int) (n57:Int) (w:World):Prop :=
 G.ix l55.a l55.n n57 2 fun p58=>G.cSl p58 w fun l59=>G.cSl (p58.add 1) w fun l60=>G.new (.cells #[nilS.v,nilS.v] 57) w fun p61 w62=>G.st p61 l59.v w62 fun w63=>G.st (p61.add 1) l60.v w63 fun w64=>G.cSl p61 w64 fun l65=>G.cSl (p61.add 1) w64 fun l66=>G.new (.cells #[l65.v,l66.v] 57) w64 fun p67 w68=>G.runSl pr (Builtin.append_ #[27,27] 27 #[out_54.v,(Sl.v (⟨some p67,1,1⟩:Sl))]) w68 fun l69 w70=>L13 K kc5 l69 (some p61) ((out_54.n:Nat):Int) l55 n56 n57 w70
theorem S18_ok (kc5:Cur g5):OkT pr false none 49 g5 (S18 (Kt Kv) kc5) (blk (s1 (tl 2 (lp (blk (tl 1 (s1 (tl 2 bd)))))))) (P9 Kv kc5):=ok_group mixed FOk_ 3 (Q17 Kv kc5) fun v ρ w=>by kernel_rfl
theorem B19 (kc5:Cur g5):OkT pr false none 49 g5 (S18 (Kt Kv) kc5) (s1 (tl 2 (lp (blk (tl 1 (s1 (tl 2 bd))))))) (P8 Kv kc5):=ok_block 1 (by kernel_rfl) (S18_ok Kv kc5)
theorem Q20 (kc5:Cur g5):OkT pr false none 49 g5 (S18 (Kt Kv) kc5) (tl 2 (lp (blk (tl 1 (s1 (tl 2 bd)))))) (P6 Kv kc5):=ok_seq (by kernel_rfl) (S7_ok Kv kc5) (B19 Kv kc5)
def S21 (K:KT) (kc5:Cur g5) (out_71:Sl) (l72:Sl) (n73:Int) (n74:Int) (w:World):Prop :=
 G.cond (decide (n74<n73)) (S18 K kc5 out_71 l72 n73 n74 w) (S2 K out_71 w)
theorem S21_ok (kc5:Cur g5):OkT pr false none 49 g5 (S21 (Kt Kv) kc5) (lp (blk (tl 1 (s1 (tl 2 bd))))) (P6 Kv kc5):=ok_group mixed FOk_ 2 (Q20 Kv kc5) fun v ρ w=>by kernel_rfl
def L5 (K:KT):Cur g5:=loopC g5 (S21 K)
theorem L5_ok:OkT pr false none 49 g5 (L5 (Kt Kv)) (blk (tl 1 (s1 (tl 2 bd)))) (P4 Kv):=ok_loop (B:=S21 (Kt Kv)) (by kernel_rfl) fun kc=>S21_ok Kv kc
theorem L5_ind {K:KT} {out_4:Sl} {l5:Sl} {n6:Int} {n7:Int} {w:World} (h:∀ X:Cur g5,(∀ out_4 l5 n6 n7 w,S21 K X out_4 l5 n6 n7 w→X out_4 l5 n6 n7 w)→X out_4 l5 n6 n7 w):L5 K out_4 l5 n6 n7 w:=fun X hX=>h X fun out_4 l5 n6 n7 w hb=>hX (out_4,l5,n6,n7,()) w hb
theorem B22:OkT pr false none 49 g5 (L5 (Kt Kv)) (tl 1 (s1 (tl 2 bd))) (P3 Kv):=ok_block 0 (by kernel_rfl) (L5_ok Kv)
abbrev g23:List SE:=[.v 0 .sl,.v 3 .sl]
def S23 (K:KT) (l_75:Sl) (out_76:Sl) (w:World):Prop :=
 L5 K out_76 l_75 ((l_75.n:Nat):Int) 0 w
theorem S23_ok:OkT pr false none 49 g23 (S23 (Kt Kv)) (s1 (tl 2 bd)) (P3 Kv):=ok_group mixed FOk_ 1 (B22 Kv) fun v ρ w=>by kernel_rfl
theorem Q24:OkT pr false none 49 g23 (S23 (Kt Kv)) (tl 2 bd) (P1 Kv):=ok_seq (by kernel_rfl) (S2_ok Kv) (S23_ok Kv)
end tocsinref10_Sorted
def tocsinref10_Sorted (l_2:Sl) (w:World) (K:tocsinref10_Sorted.KT):Prop :=
 tocsinref10_Sorted.S23 K l_2 nilS w
def tocsinref10_Sorted.cl:CL:=fun args K w=>match args with
 | [.slice x0_a x0_n x0_c]=>C.tocsinref10_Sorted ⟨x0_a,x0_n,x0_c⟩ w (tocsinref10_Sorted.Kt K)
 | _=>False
theorem tocsinref10_Sorted.clok:OkC pr 19 tocsinref10_Sorted.cl:=by
 intro args K w h
 unfold tocsinref10_Sorted.cl at h
 split at h
 ·exact calls_group false mixed tocsinref10_Sorted.FOk_ tocsinref10_Sorted.fn rfl 2 (tocsinref10_Sorted.Q24 K) (Eq.mp (by kernel_rfl) h)
 ·exact h.elim
namespace tocsinref04_Same
abbrev KT:=Bool→World→Prop
def Kt:KT:=fun b1 w=>Kv (.bool b1) w
noncomputable def bd:Code:=bdy Tryz.f28
theorem fn:FnOk pr 28 9 Tryz.f28:=⟨Tryz.func28,by kernel_rfl,Tryz.ntmps28,by kernel_rfl,by kernel_rfl⟩
def F:Clee:=ofL [(58,C.tocsinref04_Compare.cl)]
theorem FOk_:FOk pr F:=FOk_cons C.tocsinref04_Compare.clok (FOk_nil)
def P1:Post:=bodyK false pr 9 Tryz.f28 Kv
end tocsinref04_Same
def tocsinref04_Same (a_2:Sl) (b_3:Sl) (w:World) (K:tocsinref04_Same.KT):Prop :=
 C.tocsinref04_Compare a_2 b_3 w fun n4 w5=>K (n4==0) w5
def tocsinref04_Same.cl:CL:=fun args K w=>match args with
 | [.slice x0_a x0_n x0_c,.slice x1_a x1_n x1_c]=>C.tocsinref04_Same ⟨x0_a,x0_n,x0_c⟩ ⟨x1_a,x1_n,x1_c⟩ w (tocsinref04_Same.Kt K)
 | _=>False
theorem tocsinref04_Same.clok:OkC pr 28 tocsinref04_Same.cl:=by
 intro args K w h
 unfold tocsinref04_Same.cl at h
 split at h
 ·exact calls_last false mixed tocsinref04_Same.FOk_ tocsinref04_Same.fn rfl (Eq.mp (by kernel_rfl) h)
 ·exact h.elim
namespace tocsinref01_joined
abbrev KT:=Sl→World→Prop
def Kt:KT:=fun l1 w=>Kv l1.v w
noncomputable def bd:Code:=bdy Tryz.f92
theorem fn:FnOk pr 92 13 Tryz.f92:=⟨Tryz.func92,by kernel_rfl,Tryz.ntmps92,by kernel_rfl,by kernel_rfl⟩
def F:Clee:=ofL []
theorem FOk_:FOk pr F:=FOk_nil
def P1:Post:=bodyK false pr 13 Tryz.f92 Kv
end tocsinref01_joined
def tocsinref01_joined (b_2:Sl) (c_3:Sl) (w:World) (K:tocsinref01_joined.KT):Prop :=
 G.runSl pr (Builtin.append_ #[22,22] 22 #[nilS.v,b_2.v]) w fun l4 w5=>G.runSl pr (Builtin.append_ #[22,22] 22 #[l4.v,c_3.v]) w5 fun l6 w7=>K l6 w7
def tocsinref01_joined.cl:CL:=fun args K w=>match args with
 | [.slice x0_a x0_n x0_c,.slice x1_a x1_n x1_c]=>C.tocsinref01_joined ⟨x0_a,x0_n,x0_c⟩ ⟨x1_a,x1_n,x1_c⟩ w (tocsinref01_joined.Kt K)
 | _=>False
theorem tocsinref01_joined.clok:OkC pr 92 tocsinref01_joined.cl:=by
 intro args K w h
 unfold tocsinref01_joined.cl at h
 split at h
 ·exact calls_last false mixed tocsinref01_joined.FOk_ tocsinref01_joined.fn rfl (Eq.mp (by kernel_rfl) h)
 ·exact h.elim
namespace tocsinref01_PutU
abbrev KT:=Sl→World→Prop
def Kt:KT:=fun l1 w=>Kv l1.v w
noncomputable def bd:Code:=bdy Tryz.f55
theorem fn:FnOk pr 55 25 Tryz.f55:=⟨Tryz.func55,by kernel_rfl,Tryz.ntmps55,by kernel_rfl,by kernel_rfl⟩
def F:Clee:=ofL [(92,C.tocsinref01_joined.cl)]
theorem FOk_:FOk pr F:=FOk_cons C.tocsinref01_joined.clok (FOk_nil)
def P1:Post:=bodyK false pr 25 Tryz.f55 Kv
abbrev g2:List SE:=[.v 0 .sl,.v 1 (.int .u64),.v 5 .sl]
def S2 (K:KT) (b_4:Sl) (n_5:Int) (d_6:Sl) (w:World):Prop :=
 G.new (.cells #[(.int .u8 (IntKind.u8.wrap n_5))] 5) w fun p7 w8=>G.runSl pr (Builtin.append_ #[22,22] 22 #[d_6.v,(Sl.v (⟨some p7,1,1⟩:Sl))]) w8 fun l9 w10=>C.tocsinref01_joined b_4 l9 w10 fun l11 w12=>K l11 w12
theorem S2_ok:OkT pr false none 25 g2 (S2 (Kt Kv)) (s2 (tl 2 bd)) (P1 Kv):=ok_last mixed FOk_ fun v ρ w=>by kernel_rfl
def P3:Post:=next (get g2 (S2 (Kt Kv))) (P1 Kv)
def P4:Post:=inBlock 0 (P3 Kv)
def P6 (kc5:Cur g2):Post:=next (get g2 kc5) (P4 Kv)
def S7 (K:KT) (kc5:Cur g2) (b_19:Sl) (n_20:Int) (d_21:Sl) (w:World):Prop :=
 G.cond (decide (n_20 ≥ 128)) (G.nz 128<|G.new (.cells #[(.int .u8 (IntKind.u8.wrap ((IntKind.u8.wrap (Int.tmod n_20 128))+128)))] 5) w fun p22 w23=>G.runSl pr (Builtin.append_ #[22,22] 22 #[d_21.v,(Sl.v (⟨some p22,1,1⟩:Sl))]) w23 fun l24 w25=>G.nz 128<|kc5 b_19 (IntKind.u64.wrap (Int.tdiv n_20 128)) l24 w25) (S2 K b_19 n_20 d_21 w)
theorem S7_ok (kc5:Cur g2):OkT pr false none 25 g2 (S7 (Kt Kv) kc5) (lp (blk (s1 (tl 2 bd)))) (P6 Kv kc5):=ok_last mixed FOk_ fun v ρ w=>by kernel_rfl
def L5 (K:KT):Cur g2:=loopC g2 (S7 K)
theorem L5_ok:OkT pr false none 25 g2 (L5 (Kt Kv)) (blk (s1 (tl 2 bd))) (P4 Kv):=ok_loop (B:=S7 (Kt Kv)) (by kernel_rfl) fun kc=>S7_ok Kv kc
theorem L5_ind {K:KT} {b_13:Sl} {n_14:Int} {d_15:Sl} {w:World} (h:∀ X:Cur g2,(∀ b_13 n_14 d_15 w,S7 K X b_13 n_14 d_15 w→X b_13 n_14 d_15 w)→X b_13 n_14 d_15 w):L5 K b_13 n_14 d_15 w:=fun X hX=>h X fun b_13 n_14 d_15 w hb=>hX (b_13,n_14,d_15,()) w hb
theorem B8:OkT pr false none 25 g2 (L5 (Kt Kv)) (s1 (tl 2 bd)) (P3 Kv):=ok_block 0 (by kernel_rfl) (L5_ok Kv)
theorem Q9:OkT pr false none 25 g2 (L5 (Kt Kv)) (tl 2 bd) (P1 Kv):=ok_seq (by kernel_rfl) (S2_ok Kv) (B8 Kv)
end tocsinref01_PutU
def tocsinref01_PutU (b_2:Sl) (n_3:Int) (w:World) (K:tocsinref01_PutU.KT):Prop :=
 tocsinref01_PutU.L5 K b_2 n_3 nilS w
def tocsinref01_PutU.cl:CL:=fun args K w=>match args with
 | [.slice x0_a x0_n x0_c,.int .u64 x1]=>C.tocsinref01_PutU ⟨x0_a,x0_n,x0_c⟩ x1 w (tocsinref01_PutU.Kt K)
 | _=>False
theorem tocsinref01_PutU.clok:OkC pr 55 tocsinref01_PutU.cl:=by
 intro args K w h
 unfold tocsinref01_PutU.cl at h
 split at h
 ·exact calls_group false mixed tocsinref01_PutU.FOk_ tocsinref01_PutU.fn rfl 2 (tocsinref01_PutU.Q9 K) (Eq.mp (by kernel_rfl) h)
 ·exact h.elim
namespace tocsinref08_New
abbrev KT:=Option Addr→World→Prop
def Kt:KT:=fun p1 w=>Kv (.pointer p1) w
noncomputable def bd:Code:=bdy Tryz.f144
theorem fn:FnOk pr 144 3 Tryz.f144:=⟨Tryz.func144,by kernel_rfl,Tryz.ntmps144,by kernel_rfl,by kernel_rfl⟩
def F:Clee:=ofL []
theorem FOk_:FOk pr F:=FOk_nil
def P1:Post:=bodyK false pr 3 Tryz.f144 Kv
end tocsinref08_New
def tocsinref08_New (w:World) (K:tocsinref08_New.KT):Prop :=
 G.new (.cells #[(.int .i64 0),(.int .i64 0),(.int .u64 0),(.int .i64 64),(.int .i64 0)] 196) w fun p2 w3=>K (some p2) w3
def tocsinref08_New.cl:CL:=fun args K w=>match args with
 | []=>C.tocsinref08_New w (tocsinref08_New.Kt K)
 | _=>False
theorem tocsinref08_New.clok:OkC pr 144 tocsinref08_New.cl:=by
 intro args K w h
 unfold tocsinref08_New.cl at h
 split at h
 ·exact calls_last false mixed tocsinref08_New.FOk_ tocsinref08_New.fn rfl (Eq.mp (by kernel_rfl) h)
 ·exact h.elim
namespace tocsinref08_Bits
abbrev KT:=Int→World→Prop
def Kt:KT:=fun n1 w=>Kv (.int .u64 n1) w
noncomputable def bd:Code:=bdy Tryz.f66
theorem fn:FnOk pr 66 5 Tryz.f66:=⟨Tryz.func66,by kernel_rfl,Tryz.ntmps66,by kernel_rfl,by kernel_rfl⟩
def F:Clee:=ofL [(100,C.math_Float64bits.cl)]
theorem FOk_:FOk pr F:=FOk_consX C.math_Float64bits.clok (FOk_nil)
def P1:Post:=bodyK false pr 5 Tryz.f66 Kv
end tocsinref08_Bits
def tocsinref08_Bits (v_2:Nat) (w:World) (K:tocsinref08_Bits.KT):Prop :=
 C.math_Float64bits v_2 w fun n3 w4=>K n3 w4
def tocsinref08_Bits.cl:CL:=fun args K w=>match args with
 | [.float .f64 x0]=>C.tocsinref08_Bits x0 w (tocsinref08_Bits.Kt K)
 | _=>False
theorem tocsinref08_Bits.clok:OkC pr 66 tocsinref08_Bits.cl:=by
 intro args K w h
 unfold tocsinref08_Bits.cl at h
 split at h
 ·exact calls_last false mixed tocsinref08_Bits.FOk_ tocsinref08_Bits.fn rfl (Eq.mp (by kernel_rfl) h)
 ·exact h.elim
namespace tocsinref02_Stream_Write
abbrev KT:=World→Prop
def Kt:KT:=fun  w=>Kv (.tuple #[]) w
noncomputable def bd:Code:=bdy Tryz.f185
theorem fn:FnOk pr 185 28 Tryz.f185:=⟨Tryz.func185,by kernel_rfl,Tryz.ntmps185,by kernel_rfl,by kernel_rfl⟩
def F:Clee:=ofL []
theorem FOk_:FOk pr F:=FOk_nil
def P1:Post:=bodyK false pr 28 Tryz.f185 Kv
def P2:Post:=inBlock 0 (P1 Kv)
abbrev g3:List SE:=[.v 0 .ptr,.v 1 (.int .u64),.v 6 (.int .i64)]
def P4 (kc3:Cur g3):Post:=next (get g3 kc3) (P2 Kv)
def S5 (K:KT) (kc3:Cur g3) (s_10:Option Addr) (v_11:Int) (i_12:Int) (w:World):Prop :=
 G.cond (decide (i_12 ≥ 0)) (G.ptr s_10 fun p13=>G.cSl p13 w fun l14=>G.nn (IntKind.u64.wrap i_12)<|G.new (.cells #[(.bool ((Go.bits .and .u64 (shr .u64 v_11 (IntKind.u64.wrap i_12)) 1)==1))] 4) w fun p15 w16=>G.runSl pr (Builtin.append_ #[199,199] 199 #[l14.v,(Sl.v (⟨some p15,1,1⟩:Sl))]) w16 fun l17 w18=>G.ptr s_10 fun p19=>G.st p19 l17.v w18 fun w20=>kc3 s_10 v_11 (IntKind.i64.wrap (i_12-1)) w20) (K w)
theorem S5_ok (kc3:Cur g3):OkT pr false none 28 g3 (S5 (Kt Kv) kc3) (lp (blk (tl 1 bd))) (P4 Kv kc3):=ok_last mixed FOk_ fun v ρ w=>by kernel_rfl
def L3 (K:KT):Cur g3:=loopC g3 (S5 K)
theorem L3_ok:OkT pr false none 28 g3 (L3 (Kt Kv)) (blk (tl 1 bd)) (P2 Kv):=ok_loop (B:=S5 (Kt Kv)) (by kernel_rfl) fun kc=>S5_ok Kv kc
theorem L3_ind {K:KT} {s_4:Option Addr} {v_5:Int} {i_6:Int} {w:World} (h:∀ X:Cur g3,(∀ s_4 v_5 i_6 w,S5 K X s_4 v_5 i_6 w→X s_4 v_5 i_6 w)→X s_4 v_5 i_6 w):L3 K s_4 v_5 i_6 w:=fun X hX=>h X fun s_4 v_5 i_6 w hb=>hX (s_4,v_5,i_6,()) w hb
theorem B6:OkT pr false none 28 g3 (L3 (Kt Kv)) (tl 1 bd) (P1 Kv):=ok_block 0 (by kernel_rfl) (L3_ok Kv)
end tocsinref02_Stream_Write
def tocsinref02_Stream_Write (s_1:Option Addr) (v_2:Int) (n_3:Int) (w:World) (K:tocsinref02_Stream_Write.KT):Prop :=
 tocsinref02_Stream_Write.L3 K s_1 v_2 (IntKind.i64.wrap (n_3-1)) w
def tocsinref02_Stream_Write.cl:CL:=fun args K w=>match args with
 | [.pointer x0,.int .u64 x1,.int .i64 x2]=>C.tocsinref02_Stream_Write x0 x1 x2 w (tocsinref02_Stream_Write.Kt K)
 | _=>False
theorem tocsinref02_Stream_Write.clok:OkC pr 185 tocsinref02_Stream_Write.cl:=by
 intro args K w h
 unfold tocsinref02_Stream_Write.cl at h
 split at h
 ·exact calls_group false mixed tocsinref02_Stream_Write.FOk_ tocsinref02_Stream_Write.fn rfl 1 (tocsinref02_Stream_Write.B6 K) (Eq.mp (by kernel_rfl) h)
 ·exact h.elim
namespace tocsinref08_whole
abbrev KT:=World→Prop
def Kt:KT:=fun  w=>Kv (.tuple #[]) w
noncomputable def bd:Code:=bdy Tryz.f183
theorem fn:FnOk pr 183 17 Tryz.f183:=⟨Tryz.func183,by kernel_rfl,Tryz.ntmps183,by kernel_rfl,by kernel_rfl⟩
def F:Clee:=ofL [(185,C.tocsinref02_Stream_Write.cl)]
theorem FOk_:FOk pr F:=FOk_cons C.tocsinref02_Stream_Write.clok (FOk_nil)
def P1:Post:=bodyK false pr 17 Tryz.f183 Kv
def P2:Post:=inBlock 0 (P1 Kv)
abbrev g3:List SE:=[.v 0 .ptr,.v 6 .sl,.v 7 (.int .i64),.v 8 (.int .i64)]
def P4 (kc3:Cur g3):Post:=next (get g3 kc3) (P2 Kv)
def S5 (K:KT) (kc3:Cur g3) (s_11:Option Addr) (l12:Sl) (n13:Int) (n14:Int) (w:World):Prop :=
 G.cond (decide (n14<n13)) (G.ix l12.a l12.n n14 1 fun p15=>G.cI .u8 p15 w fun n16=>C.tocsinref02_Stream_Write s_11 (IntKind.u64.wrap n16) 8 w fun w17=>kc3 s_11 l12 n13 (IntKind.i64.wrap (n14+1)) w17) (K w)
theorem S5_ok (kc3:Cur g3):OkT pr false none 17 g3 (S5 (Kt Kv) kc3) (lp (blk (tl 1 bd))) (P4 Kv kc3):=ok_last mixed FOk_ fun v ρ w=>by kernel_rfl
def L3 (K:KT):Cur g3:=loopC g3 (S5 K)
theorem L3_ok:OkT pr false none 17 g3 (L3 (Kt Kv)) (blk (tl 1 bd)) (P2 Kv):=ok_loop (B:=S5 (Kt Kv)) (by kernel_rfl) fun kc=>S5_ok Kv kc
theorem L3_ind {K:KT} {s_3:Option Addr} {l4:Sl} {n5:Int} {n6:Int} {w:World} (h:∀ X:Cur g3,(∀ s_3 l4 n5 n6 w,S5 K X s_3 l4 n5 n6 w→X s_3 l4 n5 n6 w)→X s_3 l4 n5 n6 w):L3 K s_3 l4 n5 n6 w:=fun X hX=>h X fun s_3 l4 n5 n6 w hb=>hX (s_3,l4,n5,n6,()) w hb
theorem B6:OkT pr false none 17 g3 (L3 (Kt Kv)) (tl 1 bd) (P1 Kv):=ok_block 0 (by kernel_rfl) (L3_ok Kv)
end tocsinref08_whole
def tocsinref08_whole (s_1:Option Addr) (b_2:Sl) (w:World) (K:tocsinref08_whole.KT):Prop :=
 tocsinref08_whole.L3 K s_1 b_2 ((b_2.n:Nat):Int) 0 w
def tocsinref08_whole.cl:CL:=fun args K w=>match args with
 | [.pointer x0,.slice x1_a x1_n x1_c]=>C.tocsinref08_whole x0 ⟨x1_a,x1_n,x1_c⟩ w (tocsinref08_whole.Kt K)
 | _=>False
theorem tocsinref08_whole.clok:OkC pr 183 tocsinref08_whole.cl:=by
 intro args K w h
 unfold tocsinref08_whole.cl at h
 split at h
 ·exact calls_group false mixed tocsinref08_whole.FOk_ tocsinref08_whole.fn rfl 1 (tocsinref08_whole.B6 K) (Eq.mp (by kernel_rfl) h)
 ·exact h.elim
namespace tocsinref01_turn
abbrev KT:=Int→World→Prop
def Kt:KT:=fun n1 w=>Kv (.int .u64 n1) w
noncomputable def bd:Code:=bdy Tryz.f201
theorem fn:FnOk pr 201 14 Tryz.f201:=⟨Tryz.func201,by kernel_rfl,Tryz.ntmps201,by kernel_rfl,by kernel_rfl⟩
def F:Clee:=ofL []
theorem FOk_:FOk pr F:=FOk_nil
def P1:Post:=bodyK false pr 14 Tryz.f201 Kv
end tocsinref01_turn
def tocsinref01_turn (n_2:Int) (w:World) (K:tocsinref01_turn.KT):Prop :=
 G.cond (decide (n_2 ≥ 0)) (K (IntKind.u64.wrap (2*(IntKind.u64.wrap n_2))) w) (K (IntKind.u64.wrap ((IntKind.u64.wrap (2*(IntKind.u64.wrap (IntKind.i64.wrap (0-(IntKind.i64.wrap (n_2+1)))))))+1)) w)
def tocsinref01_turn.cl:CL:=fun args K w=>match args with
 | [.int .i64 x0]=>C.tocsinref01_turn x0 w (tocsinref01_turn.Kt K)
 | _=>False
theorem tocsinref01_turn.clok:OkC pr 201 tocsinref01_turn.cl:=by
 intro args K w h
 unfold tocsinref01_turn.cl at h
 split at h
 ·exact calls_last false mixed tocsinref01_turn.FOk_ tocsinref01_turn.fn rfl (Eq.mp (by kernel_rfl) h)
 ·exact h.elim
namespace tocsinref01_PutI
abbrev KT:=Sl→World→Prop
def Kt:KT:=fun l1 w=>Kv l1.v w
noncomputable def bd:Code:=bdy Tryz.f184
theorem fn:FnOk pr 184 9 Tryz.f184:=⟨Tryz.func184,by kernel_rfl,Tryz.ntmps184,by kernel_rfl,by kernel_rfl⟩
def F:Clee:=ofL [(55,C.tocsinref01_PutU.cl),(201,C.tocsinref01_turn.cl)]
theorem FOk_:FOk pr F:=FOk_cons C.tocsinref01_PutU.clok (FOk_cons C.tocsinref01_turn.clok (FOk_nil))
def P1:Post:=bodyK false pr 9 Tryz.f184 Kv
end tocsinref01_PutI
def tocsinref01_PutI (b_2:Sl) (n_3:Int) (w:World) (K:tocsinref01_PutI.KT):Prop :=
 C.tocsinref01_turn n_3 w fun n4 w5=>C.tocsinref01_PutU b_2 n4 w5 fun l6 w7=>K l6 w7
def tocsinref01_PutI.cl:CL:=fun args K w=>match args with
 | [.slice x0_a x0_n x0_c,.int .i64 x1]=>C.tocsinref01_PutI ⟨x0_a,x0_n,x0_c⟩ x1 w (tocsinref01_PutI.Kt K)
 | _=>False
theorem tocsinref01_PutI.clok:OkC pr 184 tocsinref01_PutI.cl:=by
 intro args K w h
 unfold tocsinref01_PutI.cl at h
 split at h
 ·exact calls_last false mixed tocsinref01_PutI.FOk_ tocsinref01_PutI.fn rfl (Eq.mp (by kernel_rfl) h)
 ·exact h.elim
namespace tocsinref08_lead
abbrev KT:=Int→World→Prop
def Kt:KT:=fun n1 w=>Kv (.int .i64 n1) w
noncomputable def bd:Code:=bdy Tryz.f202
theorem fn:FnOk pr 202 18 Tryz.f202:=⟨Tryz.func202,by kernel_rfl,Tryz.ntmps202,by kernel_rfl,by kernel_rfl⟩
def F:Clee:=ofL []
theorem FOk_:FOk pr F:=FOk_nil
def P1:Post:=bodyK false pr 18 Tryz.f202 Kv
abbrev g2:List SE:=[.v 3 (.int .i64)]
def S2 (K:KT) (n_3:Int) (w:World):Prop :=
 K n_3 w
theorem S2_ok:OkT pr false none 18 g2 (S2 (Kt Kv)) (s2 (tl 2 bd)) (P1 Kv):=ok_last mixed FOk_ fun v ρ w=>by kernel_rfl
def P3:Post:=next (get g2 (S2 (Kt Kv))) (P1 Kv)
def P4:Post:=inBlock 0 (P3 Kv)
abbrev g5:List SE:=[.v 0 (.int .u64),.v 3 (.int .i64)]
def P6 (kc5:Cur g5):Post:=next (get g5 kc5) (P4 Kv)
def S7 (K:KT) (kc5:Cur g5) (x_6:Int) (n_7:Int) (w:World):Prop :=
 G.cond (decide (n_7<31)) (G.nn (IntKind.u64.wrap (IntKind.i64.wrap (63-n_7)))<|G.cond ((Go.bits .and .u64 (shr .u64 x_6 (IntKind.u64.wrap (IntKind.i64.wrap (63-n_7)))) 1)==0) (kc5 x_6 (IntKind.i64.wrap (n_7+1)) w) (S2 K n_7 w)) (S2 K n_7 w)
theorem S7_ok (kc5:Cur g5):OkT pr false none 18 g5 (S7 (Kt Kv) kc5) (lp (blk (s1 (tl 2 bd)))) (P6 Kv kc5):=ok_last mixed FOk_ fun v ρ w=>by kernel_rfl
def L5 (K:KT):Cur g5:=loopC g5 (S7 K)
theorem L5_ok:OkT pr false none 18 g5 (L5 (Kt Kv)) (blk (s1 (tl 2 bd))) (P4 Kv):=ok_loop (B:=S7 (Kt Kv)) (by kernel_rfl) fun kc=>S7_ok Kv kc
theorem L5_ind {K:KT} {x_4:Int} {n_5:Int} {w:World} (h:∀ X:Cur g5,(∀ x_4 n_5 w,S7 K X x_4 n_5 w→X x_4 n_5 w)→X x_4 n_5 w):L5 K x_4 n_5 w:=fun X hX=>h X fun x_4 n_5 w hb=>hX (x_4,n_5,()) w hb
theorem B8:OkT pr false none 18 g5 (L5 (Kt Kv)) (s1 (tl 2 bd)) (P3 Kv):=ok_block 0 (by kernel_rfl) (L5_ok Kv)
theorem Q9:OkT pr false none 18 g5 (L5 (Kt Kv)) (tl 2 bd) (P1 Kv):=ok_seq (by kernel_rfl) (S2_ok Kv) (B8 Kv)
end tocsinref08_lead
def tocsinref08_lead (x_2:Int) (w:World) (K:tocsinref08_lead.KT):Prop :=
 tocsinref08_lead.L5 K x_2 0 w
def tocsinref08_lead.cl:CL:=fun args K w=>match args with
 | [.int .u64 x0]=>C.tocsinref08_lead x0 w (tocsinref08_lead.Kt K)
 | _=>False
theorem tocsinref08_lead.clok:OkC pr 202 tocsinref08_lead.cl:=by
 intro args K w h
 unfold tocsinref08_lead.cl at h
 split at h
 ·exact calls_group false mixed tocsinref08_lead.FOk_ tocsinref08_lead.fn rfl 2 (tocsinref08_lead.Q9 K) (Eq.mp (by kernel_rfl) h)
 ·exact h.elim
namespace tocsinref08_trail
abbrev KT:=Int→World→Prop
def Kt:KT:=fun n1 w=>Kv (.int .i64 n1) w
noncomputable def bd:Code:=bdy Tryz.f203
theorem fn:FnOk pr 203 13 Tryz.f203:=⟨Tryz.func203,by kernel_rfl,Tryz.ntmps203,by kernel_rfl,by kernel_rfl⟩
def F:Clee:=ofL []
theorem FOk_:FOk pr F:=FOk_nil
def P1:Post:=bodyK false pr 13 Tryz.f203 Kv
abbrev g2:List SE:=[.v 3 (.int .i64)]
def S2 (K:KT) (n_3:Int) (w:World):Prop :=
 K n_3 w
theorem S2_ok:OkT pr false none 13 g2 (S2 (Kt Kv)) (s2 (tl 2 bd)) (P1 Kv):=ok_last mixed FOk_ fun v ρ w=>by kernel_rfl
def P3:Post:=next (get g2 (S2 (Kt Kv))) (P1 Kv)
def P4:Post:=inBlock 0 (P3 Kv)
abbrev g5:List SE:=[.v 0 (.int .u64),.v 3 (.int .i64)]
def P6 (kc5:Cur g5):Post:=next (get g5 kc5) (P4 Kv)
def S7 (K:KT) (kc5:Cur g5) (x_6:Int) (n_7:Int) (w:World):Prop :=
 G.nn (IntKind.u64.wrap n_7)<|G.cond ((Go.bits .and .u64 (shr .u64 x_6 (IntKind.u64.wrap n_7)) 1)==0) (kc5 x_6 (IntKind.i64.wrap (n_7+1)) w) (S2 K n_7 w)
theorem S7_ok (kc5:Cur g5):OkT pr false none 13 g5 (S7 (Kt Kv) kc5) (lp (blk (s1 (tl 2 bd)))) (P6 Kv kc5):=ok_last mixed FOk_ fun v ρ w=>by kernel_rfl
def L5 (K:KT):Cur g5:=loopC g5 (S7 K)
theorem L5_ok:OkT pr false none 13 g5 (L5 (Kt Kv)) (blk (s1 (tl 2 bd))) (P4 Kv):=ok_loop (B:=S7 (Kt Kv)) (by kernel_rfl) fun kc=>S7_ok Kv kc
theorem L5_ind {K:KT} {x_4:Int} {n_5:Int} {w:World} (h:∀ X:Cur g5,(∀ x_4 n_5 w,S7 K X x_4 n_5 w→X x_4 n_5 w)→X x_4 n_5 w):L5 K x_4 n_5 w:=fun X hX=>h X fun x_4 n_5 w hb=>hX (x_4,n_5,()) w hb
theorem B8:OkT pr false none 13 g5 (L5 (Kt Kv)) (s1 (tl 2 bd)) (P3 Kv):=ok_block 0 (by kernel_rfl) (L5_ok Kv)
theorem Q9:OkT pr false none 13 g5 (L5 (Kt Kv)) (tl 2 bd) (P1 Kv):=ok_seq (by kernel_rfl) (S2_ok Kv) (B8 Kv)
end tocsinref08_trail
def tocsinref08_trail (x_2:Int) (w:World) (K:tocsinref08_trail.KT):Prop :=
 tocsinref08_trail.L5 K x_2 0 w
def tocsinref08_trail.cl:CL:=fun args K w=>match args with
 | [.int .u64 x0]=>C.tocsinref08_trail x0 w (tocsinref08_trail.Kt K)
 | _=>False
theorem tocsinref08_trail.clok:OkC pr 203 tocsinref08_trail.cl:=by
 intro args K w h
 unfold tocsinref08_trail.cl at h
 split at h
 ·exact calls_group false mixed tocsinref08_trail.FOk_ tocsinref08_trail.fn rfl 2 (tocsinref08_trail.Q9 K) (Eq.mp (by kernel_rfl) h)
 ·exact h.elim
namespace tocsinref02_Low
abbrev KT:=Int→World→Prop
def Kt:KT:=fun n1 w=>Kv (.int .u64 n1) w
noncomputable def bd:Code:=bdy Tryz.f204
theorem fn:FnOk pr 204 16 Tryz.f204:=⟨Tryz.func204,by kernel_rfl,Tryz.ntmps204,by kernel_rfl,by kernel_rfl⟩
def F:Clee:=ofL []
theorem FOk_:FOk pr F:=FOk_nil
def P1:Post:=bodyK false pr 16 Tryz.f204 Kv
end tocsinref02_Low
def tocsinref02_Low (n_2:Int) (k_3:Int) (w:World) (K:tocsinref02_Low.KT):Prop :=
 G.cond (decide (k_3 ≥ 64)) (K (IntKind.u64.wrap n_2) w) (G.nn (IntKind.u64.wrap k_3)<|K (Go.bits .and .u64 (IntKind.u64.wrap n_2) (IntKind.u64.wrap ((shl .u64 1 (IntKind.u64.wrap k_3))-1))) w)
def tocsinref02_Low.cl:CL:=fun args K w=>match args with
 | [.int .i64 x0,.int .i64 x1]=>C.tocsinref02_Low x0 x1 w (tocsinref02_Low.Kt K)
 | _=>False
theorem tocsinref02_Low.clok:OkC pr 204 tocsinref02_Low.cl:=by
 intro args K w h
 unfold tocsinref02_Low.cl at h
 split at h
 ·exact calls_last false mixed tocsinref02_Low.FOk_ tocsinref02_Low.fn rfl (Eq.mp (by kernel_rfl) h)
 ·exact h.elim
namespace tocsinref08_State_value
abbrev KT:=World→Prop
def Kt:KT:=fun  w=>Kv (.tuple #[]) w
noncomputable def bd:Code:=bdy Tryz.f186
theorem fn:FnOk pr 186 107 Tryz.f186:=⟨Tryz.func186,by kernel_rfl,Tryz.ntmps186,by kernel_rfl,by kernel_rfl⟩
def F:Clee:=ofL [(185,C.tocsinref02_Stream_Write.cl),(202,C.tocsinref08_lead.cl),(203,C.tocsinref08_trail.cl),(204,C.tocsinref02_Low.cl)]
theorem FOk_:FOk pr F:=FOk_cons C.tocsinref02_Stream_Write.clok (FOk_cons C.tocsinref08_lead.clok (FOk_cons C.tocsinref08_trail.clok (FOk_cons C.tocsinref02_Low.clok (FOk_nil))))
def P1:Post:=bodyK false pr 107 Tryz.f186 Kv
abbrev g2:List SE:=[.v 0 .ptr,.v 1 .ptr,.v 6 (.int .u64),.v 7 (.int .i64),.v 8 (.int .i64)]
def S2 (K:KT) (p_10:Option Addr) (s_11:Option Addr) (x_12:Int) (l_13:Int) (t_14:Int) (w:World):Prop :=
 C.tocsinref02_Stream_Write s_11 1 1 w fun w15=>C.tocsinref02_Stream_Write s_11 (IntKind.u64.wrap l_13) 5 w15 fun w16=>G.nz 64<|C.tocsinref02_Stream_Write s_11 (IntKind.u64.wrap (Int.tmod (IntKind.i64.wrap ((IntKind.i64.wrap (64-l_13))-t_14)) 64)) 6 w16 fun w17=>G.nn (IntKind.u64.wrap t_14)<|C.tocsinref02_Stream_Write s_11 (shr .u64 x_12 (IntKind.u64.wrap t_14)) (IntKind.i64.wrap ((IntKind.i64.wrap (64-l_13))-t_14)) w17 fun w18=>G.ptr p_10 fun p19=>G.st (p19.add 3) (.int .i64 l_13) w18 fun w20=>G.ptr p_10 fun p21=>G.st (p21.add 4) (.int .i64 t_14) w20 fun w22=>K w22
theorem S2_ok:OkT pr false none 107 g2 (S2 (Kt Kv)) (tl 6 bd) (P1 Kv):=ok_last mixed FOk_ fun v ρ w=>by kernel_rfl
end tocsinref08_State_value
def tocsinref08_State_value (p_1:Option Addr) (s_2:Option Addr) (v_3:Int) (w:World) (K:tocsinref08_State_value.KT):Prop :=
 G.ptr p_1 fun p23=>G.cI .u64 (p23.add 2) w fun n24=>G.ptr p_1 fun p25=>G.st (p25.add 2) (.int .u64 v_3) w fun w26=>G.cond ((Go.bits .xor .u64 v_3 n24)==0) (C.tocsinref02_Stream_Write s_2 0 1 w26 fun w27=>K w27) (C.tocsinref02_Stream_Write s_2 1 1 w26 fun w28=>C.tocsinref08_lead (Go.bits .xor .u64 v_3 n24) w28 fun n29 w30=>C.tocsinref08_trail (Go.bits .xor .u64 v_3 n24) w30 fun n31 w32=>G.ptr p_1 fun p33=>G.cI .i64 (p33.add 3) w32 fun n34=>G.cond (decide (n34<64)) (G.ptr p_1 fun p35=>G.cI .i64 (p35.add 3) w32 fun n36=>G.cond (decide (n29 ≥ n36)) (G.ptr p_1 fun p37=>G.cI .i64 (p37.add 4) w32 fun n38=>G.cond (decide (n31 ≥ n38)) (G.ptr p_1 fun p39=>G.cI .i64 (p39.add 3) w32.drew fun n40=>G.ptr p_1 fun p41=>G.cI .i64 (p41.add 4) w32.drew fun n42=>C.tocsinref02_Stream_Write s_2 0 1 w32.drew fun w43=>G.ptr p_1 fun p44=>G.cI .i64 (p44.add 4) w43 fun n45=>G.nn (IntKind.u64.wrap n45)<|C.tocsinref02_Low (IntKind.i64.wrap (shr .u64 (Go.bits .xor .u64 v_3 n24) (IntKind.u64.wrap n45))) (IntKind.i64.wrap ((IntKind.i64.wrap (64-n40))-n42)) w43 fun n46 w47=>C.tocsinref02_Stream_Write s_2 n46 (IntKind.i64.wrap ((IntKind.i64.wrap (64-n40))-n42)) w47 fun w48=>K w48) (tocsinref08_State_value.S2 K p_1 s_2 (Go.bits .xor .u64 v_3 n24) n29 n31 w32)) (tocsinref08_State_value.S2 K p_1 s_2 (Go.bits .xor .u64 v_3 n24) n29 n31 w32)) (tocsinref08_State_value.S2 K p_1 s_2 (Go.bits .xor .u64 v_3 n24) n29 n31 w32))
def tocsinref08_State_value.cl:CL:=fun args K w=>match args with
 | [.pointer x0,.pointer x1,.int .u64 x2]=>C.tocsinref08_State_value x0 x1 x2 w (tocsinref08_State_value.Kt K)
 | _=>False
theorem tocsinref08_State_value.clok:OkC pr 186 tocsinref08_State_value.cl:=by
 intro args K w h
 unfold tocsinref08_State_value.cl at h
 split at h
 ·exact calls_group false mixed tocsinref08_State_value.FOk_ tocsinref08_State_value.fn rfl 6 (tocsinref08_State_value.S2_ok K) (Eq.mp (by kernel_rfl) h)
 ·exact h.elim
namespace tocsinref02_In
abbrev KT:=Bool→World→Prop
def Kt:KT:=fun b1 w=>Kv (.bool b1) w
noncomputable def bd:Code:=bdy Tryz.f205
theorem fn:FnOk pr 205 20 Tryz.f205:=⟨Tryz.func205,by kernel_rfl,Tryz.ntmps205,by kernel_rfl,by kernel_rfl⟩
def F:Clee:=ofL []
theorem FOk_:FOk pr F:=FOk_nil
def P1:Post:=bodyK false pr 20 Tryz.f205 Kv
end tocsinref02_In
def tocsinref02_In (n_2:Int) (k_3:Int) (w:World) (K:tocsinref02_In.KT):Prop :=
 G.nn (IntKind.u64.wrap (IntKind.i64.wrap (k_3-1)))<|G.cond (decide (n_2 ≥ (IntKind.i64.wrap (0-(IntKind.i64.wrap ((shl .i64 1 (IntKind.u64.wrap (IntKind.i64.wrap (k_3-1))))-1)))))) (K (decide (n_2≤(shl .i64 1 (IntKind.u64.wrap (IntKind.i64.wrap (k_3-1)))))) w) (K false w)
def tocsinref02_In.cl:CL:=fun args K w=>match args with
 | [.int .i64 x0,.int .i64 x1]=>C.tocsinref02_In x0 x1 w (tocsinref02_In.Kt K)
 | _=>False
theorem tocsinref02_In.clok:OkC pr 205 tocsinref02_In.cl:=by
 intro args K w h
 unfold tocsinref02_In.cl at h
 split at h
 ·exact calls_last false mixed tocsinref02_In.FOk_ tocsinref02_In.fn rfl (Eq.mp (by kernel_rfl) h)
 ·exact h.elim
namespace tocsinref08_time
abbrev KT:=World→Prop
def Kt:KT:=fun  w=>Kv (.tuple #[]) w
noncomputable def bd:Code:=bdy Tryz.f187
theorem fn:FnOk pr 187 42 Tryz.f187:=⟨Tryz.func187,by kernel_rfl,Tryz.ntmps187,by kernel_rfl,by kernel_rfl⟩
def F:Clee:=ofL [(185,C.tocsinref02_Stream_Write.cl),(204,C.tocsinref02_Low.cl),(205,C.tocsinref02_In.cl)]
theorem FOk_:FOk pr F:=FOk_cons C.tocsinref02_Stream_Write.clok (FOk_cons C.tocsinref02_Low.clok (FOk_cons C.tocsinref02_In.clok (FOk_nil)))
def P1:Post:=bodyK false pr 42 Tryz.f187 Kv
end tocsinref08_time
def tocsinref08_time (s_1:Option Addr) (d_2:Int) (w:World) (K:tocsinref08_time.KT):Prop :=
 G.cond (d_2==0) (C.tocsinref02_Stream_Write s_1 0 1 w fun w3=>K w3) (C.tocsinref02_In d_2 14 w fun b4 w5=>G.cond b4 (C.tocsinref02_Stream_Write s_1 2 2 w5 fun w6=>C.tocsinref02_Low d_2 14 w6 fun n7 w8=>C.tocsinref02_Stream_Write s_1 n7 14 w8 fun w9=>K w9) (C.tocsinref02_In d_2 17 w5 fun b10 w11=>G.cond b10 (C.tocsinref02_Stream_Write s_1 6 3 w11 fun w12=>C.tocsinref02_Low d_2 17 w12 fun n13 w14=>C.tocsinref02_Stream_Write s_1 n13 17 w14 fun w15=>K w15) (C.tocsinref02_In d_2 20 w11 fun b16 w17=>G.cond b16 (C.tocsinref02_Stream_Write s_1 14 4 w17 fun w18=>C.tocsinref02_Low d_2 20 w18 fun n19 w20=>C.tocsinref02_Stream_Write s_1 n19 20 w20 fun w21=>K w21) (C.tocsinref02_Stream_Write s_1 15 4 w17 fun w22=>C.tocsinref02_Stream_Write s_1 (IntKind.u64.wrap d_2) 64 w22 fun w23=>K w23))))
def tocsinref08_time.cl:CL:=fun args K w=>match args with
 | [.pointer x0,.int .i64 x1]=>C.tocsinref08_time x0 x1 w (tocsinref08_time.Kt K)
 | _=>False
theorem tocsinref08_time.clok:OkC pr 187 tocsinref08_time.cl:=by
 intro args K w h
 unfold tocsinref08_time.cl at h
 split at h
 ·exact calls_last false mixed tocsinref08_time.FOk_ tocsinref08_time.fn rfl (Eq.mp (by kernel_rfl) h)
 ·exact h.elim
namespace tocsinref08_State_Put
abbrev KT:=World→Prop
def Kt:KT:=fun  w=>Kv (.tuple #[]) w
noncomputable def bd:Code:=bdy Tryz.f152
theorem fn:FnOk pr 152 80 Tryz.f152:=⟨Tryz.func152,by kernel_rfl,Tryz.ntmps152,by kernel_rfl,by kernel_rfl⟩
def F:Clee:=ofL [(55,C.tocsinref01_PutU.cl),(66,C.tocsinref08_Bits.cl),(183,C.tocsinref08_whole.cl),(184,C.tocsinref01_PutI.cl),(185,C.tocsinref02_Stream_Write.cl),(186,C.tocsinref08_State_value.cl),(187,C.tocsinref08_time.cl)]
theorem FOk_:FOk pr F:=FOk_cons C.tocsinref01_PutU.clok (FOk_cons C.tocsinref08_Bits.clok (FOk_cons C.tocsinref08_whole.clok (FOk_cons C.tocsinref01_PutI.clok (FOk_cons C.tocsinref02_Stream_Write.clok (FOk_cons C.tocsinref08_State_value.clok (FOk_cons C.tocsinref08_time.clok (FOk_nil)))))))
def P1:Post:=bodyK false pr 80 Tryz.f152 Kv
end tocsinref08_State_Put
def tocsinref08_State_Put (p_1:Option Addr) (s_2:Option Addr) (n_3:Int) (x_4:Int) (x_5:Nat) (w:World) (K:tocsinref08_State_Put.KT):Prop :=
 G.new (.cells #[(.int .i64 x_4),(.float .f64 x_5)] 96) w fun p6 w7=>G.cF .f64 (p6.add 1) w7 fun f8=>C.tocsinref08_Bits f8 w7 fun n9 w10=>G.cond (n_3==0) (G.cI .i64 p6 w10 fun n11=>C.tocsinref01_PutI nilS n11 w10 fun l12 w13=>C.tocsinref08_whole s_2 l12 w13 fun w14=>C.tocsinref02_Stream_Write s_2 n9 64 w14 fun w15=>G.ptr p_1 fun p16=>G.st (p16.add 2) (.int .u64 n9) w15 fun w17=>G.cI .i64 p6 w17 fun n18=>G.ptr p_1 fun p19=>G.st p19 (.int .i64 n18) w17 fun w20=>K w20) (G.cond (n_3==1) (G.cI .i64 p6 w10.drew fun n21=>G.ptr p_1 fun p22=>G.cI .i64 p22 w10.drew fun n23=>G.ptr p_1 fun p24=>G.st (p24.add 1) (.int .i64 (IntKind.i64.wrap (n21-n23))) w10.drew fun w25=>G.ptr p_1 fun p26=>G.cI .i64 (p26.add 1) w25 fun n27=>C.tocsinref01_PutU nilS (IntKind.u64.wrap n27) w25 fun l28 w29=>C.tocsinref08_whole s_2 l28 w29 fun w30=>C.tocsinref08_State_value p_1 s_2 n9 w30 fun w31=>G.cI .i64 p6 w31 fun n32=>G.ptr p_1 fun p33=>G.st p33 (.int .i64 n32) w31 fun w34=>K w34) (G.cI .i64 p6 w10.drew fun n35=>G.ptr p_1 fun p36=>G.cI .i64 p36 w10.drew fun n37=>G.ptr p_1 fun p38=>G.cI .i64 (p38.add 1) w10.drew fun n39=>C.tocsinref08_time s_2 (IntKind.i64.wrap ((IntKind.i64.wrap (n35-n37))-n39)) w10.drew fun w40=>G.ptr p_1 fun p41=>G.st (p41.add 1) (.int .i64 (IntKind.i64.wrap (n35-n37))) w40 fun w42=>C.tocsinref08_State_value p_1 s_2 n9 w42 fun w43=>G.cI .i64 p6 w43 fun n44=>G.ptr p_1 fun p45=>G.st p45 (.int .i64 n44) w43 fun w46=>K w46))
def tocsinref08_State_Put.cl:CL:=fun args K w=>match args with
 | [.pointer x0,.pointer x1,.int .i64 x2,.agg ⟨[.int .i64 x3_0,.float .f64 x3_1]⟩]=>C.tocsinref08_State_Put x0 x1 x2 x3_0 x3_1 w (tocsinref08_State_Put.Kt K)
 | _=>False
theorem tocsinref08_State_Put.clok:OkC pr 152 tocsinref08_State_Put.cl:=by
 intro args K w h
 unfold tocsinref08_State_Put.cl at h
 split at h
 ·exact calls_last false mixed tocsinref08_State_Put.FOk_ tocsinref08_State_Put.fn rfl (Eq.mp (by kernel_rfl) h)
 ·exact h.elim
namespace tocsinref02_Stream_Bytes
abbrev KT:=Sl→World→Prop
def Kt:KT:=fun l1 w=>Kv l1.v w
noncomputable def bd:Code:=bdy Tryz.f153
theorem fn:FnOk pr 153 41 Tryz.f153:=⟨Tryz.func153,by kernel_rfl,Tryz.ntmps153,by kernel_rfl,by kernel_rfl⟩
def F:Clee:=ofL []
theorem FOk_:FOk pr F:=FOk_nil
def P1:Post:=bodyK false pr 41 Tryz.f153 Kv
abbrev g2:List SE:=[.v 3 .sl]
def S2 (K:KT) (out_3:Sl) (w:World):Prop :=
 K out_3 w
theorem S2_ok:OkT pr false none 41 g2 (S2 (Kt Kv)) (s2 (tl 2 bd)) (P1 Kv):=ok_last mixed FOk_ fun v ρ w=>by kernel_rfl
def P3:Post:=next (get g2 (S2 (Kt Kv))) (P1 Kv)
def P4:Post:=inBlock 0 (P3 Kv)
abbrev g5:List SE:=[.v 3 .sl,.v 17 .sl,.v 18 (.int .i64),.v 19 (.int .i64)]
def P6 (kc5:Cur g5):Post:=next (get g5 kc5) (P4 Kv)
def S7 (K:KT) (kc5:Cur g5) (out_12:Sl) (l13:Sl) (n14:Int) (n15:Int) (w:World):Prop :=
 G.cond (decide (n15<n14)) (G.ix l13.a l13.n n15 1 fun p16=>G.cB p16 w fun b17=>G.cond b17 (G.nz 8<|G.nz 8<|G.ix out_12.a out_12.n (IntKind.i64.wrap (Int.tdiv n15 8)) 1 fun p18=>G.cI .u8 p18 w fun n19=>G.nz 8<|G.nn (IntKind.u64.wrap (Int.tmod n15 8))<|G.ix out_12.a out_12.n (IntKind.i64.wrap (Int.tdiv n15 8)) 1 fun p20=>G.st p20 (.int .u8 (Go.bits .or .u8 n19 (shr .u8 128 (IntKind.u64.wrap (Int.tmod n15 8))))) w fun w21=>kc5 out_12 l13 n14 (IntKind.i64.wrap (n15+1)) w21) (kc5 out_12 l13 n14 (IntKind.i64.wrap (n15+1)) w)) (S2 K out_12 w)
theorem S7_ok (kc5:Cur g5):OkT pr false none 41 g5 (S7 (Kt Kv) kc5) (lp (blk (tl 1 (s1 (tl 2 bd))))) (P6 Kv kc5):=ok_last mixed FOk_ fun v ρ w=>by kernel_rfl
def L5 (K:KT):Cur g5:=loopC g5 (S7 K)
theorem L5_ok:OkT pr false none 41 g5 (L5 (Kt Kv)) (blk (tl 1 (s1 (tl 2 bd)))) (P4 Kv):=ok_loop (B:=S7 (Kt Kv)) (by kernel_rfl) fun kc=>S7_ok Kv kc
theorem L5_ind {K:KT} {out_4:Sl} {l5:Sl} {n6:Int} {n7:Int} {w:World} (h:∀ X:Cur g5,(∀ out_4 l5 n6 n7 w,S7 K X out_4 l5 n6 n7 w→X out_4 l5 n6 n7 w)→X out_4 l5 n6 n7 w):L5 K out_4 l5 n6 n7 w:=fun X hX=>h X fun out_4 l5 n6 n7 w hb=>hX (out_4,l5,n6,n7,()) w hb
theorem B8:OkT pr false none 41 g5 (L5 (Kt Kv)) (tl 1 (s1 (tl 2 bd))) (P3 Kv):=ok_block 0 (by kernel_rfl) (L5_ok Kv)
abbrev g9:List SE:=[.v 0 .ptr,.v 3 .sl]
def S9 (K:KT) (s_22:Option Addr) (out_23:Sl) (w:World):Prop :=
 G.ptr s_22 fun p24=>G.cSl p24 w fun l25=>L5 K out_23 l25 ((l25.n:Nat):Int) 0 w
theorem S9_ok:OkT pr false none 41 g9 (S9 (Kt Kv)) (s1 (tl 2 bd)) (P3 Kv):=ok_group mixed FOk_ 1 (B8 Kv) fun v ρ w=>by kernel_rfl
theorem Q10:OkT pr false none 41 g9 (S9 (Kt Kv)) (tl 2 bd) (P1 Kv):=ok_seq (by kernel_rfl) (S2_ok Kv) (S9_ok Kv)
end tocsinref02_Stream_Bytes
def tocsinref02_Stream_Bytes (s_2:Option Addr) (w:World) (K:tocsinref02_Stream_Bytes.KT):Prop :=
 G.ptr s_2 fun p26=>G.cSl p26 w fun l27=>G.nz 8<|G.runSl pr (Instr.makeSlice 22 (.int .i64 (IntKind.i64.wrap (Int.tdiv (IntKind.i64.wrap (((l27.n:Nat):Int)+7)) 8))) (.int .i64 (IntKind.i64.wrap (Int.tdiv (IntKind.i64.wrap (((l27.n:Nat):Int)+7)) 8)))) w fun l28 w29=>tocsinref02_Stream_Bytes.S9 K s_2 l28 w29
def tocsinref02_Stream_Bytes.cl:CL:=fun args K w=>match args with
 | [.pointer x0]=>C.tocsinref02_Stream_Bytes x0 w (tocsinref02_Stream_Bytes.Kt K)
 | _=>False
theorem tocsinref02_Stream_Bytes.clok:OkC pr 153 tocsinref02_Stream_Bytes.cl:=by
 intro args K w h
 unfold tocsinref02_Stream_Bytes.cl at h
 split at h
 ·exact calls_group false mixed tocsinref02_Stream_Bytes.FOk_ tocsinref02_Stream_Bytes.fn rfl 2 (tocsinref02_Stream_Bytes.Q10 K) (Eq.mp (by kernel_rfl) h)
 ·exact h.elim
namespace tocsinref08_Bytes
abbrev KT:=Sl→World→Prop
def Kt:KT:=fun l1 w=>Kv l1.v w
noncomputable def bd:Code:=bdy Tryz.f119
theorem fn:FnOk pr 119 37 Tryz.f119:=⟨Tryz.func119,by kernel_rfl,Tryz.ntmps119,by kernel_rfl,by kernel_rfl⟩
def F:Clee:=ofL [(144,C.tocsinref08_New.cl),(152,C.tocsinref08_State_Put.cl),(153,C.tocsinref02_Stream_Bytes.cl)]
theorem FOk_:FOk pr F:=FOk_cons C.tocsinref08_New.clok (FOk_cons C.tocsinref08_State_Put.clok (FOk_cons C.tocsinref02_Stream_Bytes.clok (FOk_nil)))
def P1:Post:=bodyK false pr 37 Tryz.f119 Kv
abbrev g2:List SE:=[.v 0 .sl,.v 3 .ptr]
def S2 (K:KT) (l_3:Sl) (s_4:Option Addr) (w:World):Prop :=
 G.nn 8<|G.new (.cells #[(.int .u8 (IntKind.u8.wrap (shr .i64 ((l_3.n:Nat):Int) 8))),(.int .u8 (IntKind.u8.wrap ((l_3.n:Nat):Int)))] 5) w fun p5 w6=>C.tocsinref02_Stream_Bytes s_4 w6 fun l7 w8=>G.runSl pr (Builtin.append_ #[22,22] 22 #[(Sl.v (⟨some p5,2,2⟩:Sl)),l7.v]) w8 fun l9 w10=>K l9 w10
theorem S2_ok:OkT pr false none 37 g2 (S2 (Kt Kv)) (s2 (tl 2 bd)) (P1 Kv):=ok_last mixed FOk_ fun v ρ w=>by kernel_rfl
def P3:Post:=next (get g2 (S2 (Kt Kv))) (P1 Kv)
def P4:Post:=inBlock 0 (P3 Kv)
abbrev g5:List SE:=[.v 0 .sl,.v 3 .ptr,.v 4 .ptr,.v 11 .sl,.v 12 (.int .i64),.v 13 (.int .i64)]
def P6 (kc5:Cur g5):Post:=next (get g5 kc5) (P4 Kv)
def S7 (K:KT) (kc5:Cur g5) (l_23:Sl) (s_24:Option Addr) (p_25:Option Addr) (l26:Sl) (n27:Int) (n28:Int) (w:World):Prop :=
 G.cond (decide (n28<n27)) (G.ix l26.a l26.n n28 2 fun p29=>G.cI .i64 p29 w fun n30=>G.cF .f64 (p29.add 1) w fun f31=>G.new (.cells #[(.int .i64 0),(.float .f64 0)] 96) w fun p32 w33=>G.st p32 (.int .i64 n30) w33 fun w34=>G.st (p32.add 1) (.float .f64 f31) w34 fun w35=>G.cI .i64 p32 w35 fun n36=>G.cF .f64 (p32.add 1) w35 fun f37=>C.tocsinref08_State_Put p_25 s_24 n28 n36 f37 w35 fun w38=>kc5 l_23 s_24 p_25 l26 n27 (IntKind.i64.wrap (n28+1)) w38) (S2 K l_23 s_24 w)
theorem S7_ok (kc5:Cur g5):OkT pr false none 37 g5 (S7 (Kt Kv) kc5) (lp (blk (tl 1 (s1 (tl 2 bd))))) (P6 Kv kc5):=ok_last mixed FOk_ fun v ρ w=>by kernel_rfl
def L5 (K:KT):Cur g5:=loopC g5 (S7 K)
theorem L5_ok:OkT pr false none 37 g5 (L5 (Kt Kv)) (blk (tl 1 (s1 (tl 2 bd)))) (P4 Kv):=ok_loop (B:=S7 (Kt Kv)) (by kernel_rfl) fun kc=>S7_ok Kv kc
theorem L5_ind {K:KT} {l_11:Sl} {s_12:Option Addr} {p_13:Option Addr} {l14:Sl} {n15:Int} {n16:Int} {w:World} (h:∀ X:Cur g5,(∀ l_11 s_12 p_13 l14 n15 n16 w,S7 K X l_11 s_12 p_13 l14 n15 n16 w→X l_11 s_12 p_13 l14 n15 n16 w)→X l_11 s_12 p_13 l14 n15 n16 w):L5 K l_11 s_12 p_13 l14 n15 n16 w:=fun X hX=>h X fun l_11 s_12 p_13 l14 n15 n16 w hb=>hX (l_11,s_12,p_13,l14,n15,n16,()) w hb
theorem B8:OkT pr false none 37 g5 (L5 (Kt Kv)) (tl 1 (s1 (tl 2 bd))) (P3 Kv):=ok_block 0 (by kernel_rfl) (L5_ok Kv)
abbrev g9:List SE:=[.v 0 .sl,.v 3 .ptr,.v 4 .ptr]
def S9 (K:KT) (l_39:Sl) (s_40:Option Addr) (p_41:Option Addr) (w:World):Prop :=
 L5 K l_39 s_40 p_41 l_39 ((l_39.n:Nat):Int) 0 w
theorem S9_ok:OkT pr false none 37 g9 (S9 (Kt Kv)) (s1 (tl 2 bd)) (P3 Kv):=ok_group mixed FOk_ 1 (B8 Kv) fun v ρ w=>by kernel_rfl
theorem Q10:OkT pr false none 37 g9 (S9 (Kt Kv)) (tl 2 bd) (P1 Kv):=ok_seq (by kernel_rfl) (S2_ok Kv) (S9_ok Kv)
end tocsinref08_Bytes
def tocsinref08_Bytes (l_2:Sl) (w:World) (K:tocsinref08_Bytes.KT):Prop :=
 G.new (.cells #[nilS.v,(.int .i64 0)] 201) w fun p42 w43=>C.tocsinref08_New w43 fun p44 w45=>tocsinref08_Bytes.S9 K l_2 (some p42) p44 w45
def tocsinref08_Bytes.cl:CL:=fun args K w=>match args with
 | [.slice x0_a x0_n x0_c]=>C.tocsinref08_Bytes ⟨x0_a,x0_n,x0_c⟩ w (tocsinref08_Bytes.Kt K)
 | _=>False
theorem tocsinref08_Bytes.clok:OkC pr 119 tocsinref08_Bytes.cl:=by
 intro args K w h
 unfold tocsinref08_Bytes.cl at h
 split at h
 ·exact calls_group false mixed tocsinref08_Bytes.FOk_ tocsinref08_Bytes.fn rfl 2 (tocsinref08_Bytes.Q10 K) (Eq.mp (by kernel_rfl) h)
 ·exact h.elim
namespace tocsinref08_Split
abbrev KT:=Sl→Int→Int→World→Prop
def Kt:KT:=fun l1 n2 n3 w=>Kv (.tuple #[l1.v,(.int .i64 n2),(.int .i64 n3)]) w
noncomputable def bd:Code:=bdy Tryz.f94
theorem fn:FnOk pr 94 64 Tryz.f94:=⟨Tryz.func94,by kernel_rfl,Tryz.ntmps94,by kernel_rfl,by kernel_rfl⟩
def F:Clee:=ofL [(119,C.tocsinref08_Bytes.cl)]
theorem FOk_:FOk pr F:=FOk_cons C.tocsinref08_Bytes.clok (FOk_nil)
def P1:Post:=bodyK false pr 64 Tryz.f94 Kv
abbrev g2:List SE:=[.v 7 .sl]
def S2 (K:KT) (out_5:Sl) (w:World):Prop :=
 K out_5 0 0 w
theorem S2_ok:OkT pr false none 64 g2 (S2 (Kt Kv)) (s2 (tl 1 (s2 (tl 1 bd)))) (P1 Kv):=ok_last mixed FOk_ fun v ρ w=>by kernel_rfl
def P3:Post:=next (get g2 (S2 (Kt Kv))) (P1 Kv)
def P4:Post:=inBlock 2 (P3 Kv)
abbrev g5:List SE:=[.v 0 .sl,.v 7 .sl,.v 8 (.int .i64)]
def P6 (kc5:Cur g5):Post:=next (get g5 kc5) (P4 Kv)
def S7 (K:KT) (kc5:Cur g5) (l_12:Sl) (out_13:Sl) (from_14:Int) (w:World):Prop :=
 G.cond (decide (from_14<((l_12.n:Nat):Int))) (G.cond (decide ((IntKind.i64.wrap (from_14+120)) > ((l_12.n:Nat):Int))) (G.slc l_12 from_14 ((l_12.n:Nat):Int) 2 fun l15=>C.tocsinref08_Bytes l15 w fun l16 w17=>G.new (.cells #[l16.v] 22) w17 fun p18 w19=>G.runSl pr (Builtin.append_ #[78,78] 78 #[out_13.v,(Sl.v (⟨some p18,1,1⟩:Sl))]) w19 fun l20 w21=>kc5 l_12 l20 (IntKind.i64.wrap (from_14+120)) w21) (G.slc l_12 from_14 (IntKind.i64.wrap (from_14+120)) 2 fun l22=>C.tocsinref08_Bytes l22 w fun l23 w24=>G.new (.cells #[l23.v] 22) w24 fun p25 w26=>G.runSl pr (Builtin.append_ #[78,78] 78 #[out_13.v,(Sl.v (⟨some p25,1,1⟩:Sl))]) w26 fun l27 w28=>kc5 l_12 l27 (IntKind.i64.wrap (from_14+120)) w28)) (S2 K out_13 w)
theorem S7_ok (kc5:Cur g5):OkT pr false none 64 g5 (S7 (Kt Kv) kc5) (lp (blk (tl 1 (s1 (tl 1 (s2 (tl 1 bd))))))) (P6 Kv kc5):=ok_last mixed FOk_ fun v ρ w=>by kernel_rfl
def L5 (K:KT):Cur g5:=loopC g5 (S7 K)
theorem L5_ok:OkT pr false none 64 g5 (L5 (Kt Kv)) (blk (tl 1 (s1 (tl 1 (s2 (tl 1 bd)))))) (P4 Kv):=ok_loop (B:=S7 (Kt Kv)) (by kernel_rfl) fun kc=>S7_ok Kv kc
theorem L5_ind {K:KT} {l_6:Sl} {out_7:Sl} {from_8:Int} {w:World} (h:∀ X:Cur g5,(∀ l_6 out_7 from_8 w,S7 K X l_6 out_7 from_8 w→X l_6 out_7 from_8 w)→X l_6 out_7 from_8 w):L5 K l_6 out_7 from_8 w:=fun X hX=>h X fun l_6 out_7 from_8 w hb=>hX (l_6,out_7,from_8,()) w hb
theorem B8:OkT pr false none 64 g5 (L5 (Kt Kv)) (tl 1 (s1 (tl 1 (s2 (tl 1 bd))))) (P3 Kv):=ok_block 2 (by kernel_rfl) (L5_ok Kv)
abbrev g9:List SE:=[.v 0 .sl,.v 7 .sl]
def S9 (K:KT) (l_29:Sl) (out_30:Sl) (w:World):Prop :=
 L5 K l_29 out_30 0 w
theorem S9_ok:OkT pr false none 64 g9 (S9 (Kt Kv)) (s1 (tl 1 (s2 (tl 1 bd)))) (P3 Kv):=ok_group mixed FOk_ 1 (B8 Kv) fun v ρ w=>by kernel_rfl
theorem Q10:OkT pr false none 64 g9 (S9 (Kt Kv)) (tl 1 (s2 (tl 1 bd))) (P1 Kv):=ok_seq (by kernel_rfl) (S2_ok Kv) (S9_ok Kv)
abbrev g11:List SE:=[.v 0 .sl]
def S11 (K:KT) (l_31:Sl) (w:World):Prop :=
 S9 K l_31 nilS w
theorem S11_ok:OkT pr false none 64 g11 (S11 (Kt Kv)) (s2 (tl 1 bd)) (P1 Kv):=ok_group mixed FOk_ 1 (Q10 Kv) fun v ρ w=>by kernel_rfl
def P12:Post:=next (get g11 (S11 (Kt Kv))) (P1 Kv)
def P13:Post:=inBlock 0 (P12 Kv)
abbrev g14:List SE:=[.v 0 .sl,.v 10 .sl,.v 11 (.int .i64),.v 12 (.int .i64)]
def P15 (kc14:Cur g14):Post:=next (get g14 kc14) (P13 Kv)
def S16 (K:KT) (kc14:Cur g14) (l_40:Sl) (l41:Sl) (n42:Int) (n43:Int) (w:World):Prop :=
 G.cond (decide (n43<n42)) (G.ix l41.a l41.n n43 2 fun p44=>G.cI .i64 p44 w fun n45=>G.cF .f64 (p44.add 1) w fun f46=>G.new (.cells #[(.int .i64 0),(.float .f64 0)] 96) w fun p47 w48=>G.st p47 (.int .i64 n45) w48 fun w49=>G.st (p47.add 1) (.float .f64 f46) w49 fun w50=>G.cI .i64 p47 w50 fun n51=>G.cond (decide (n51<0)) (K nilS 1 n43 w50) (G.cI .i64 p47 w50 fun n52=>G.cond (decide (n52 > 1125899906842624)) (K nilS 1 n43 w50) (G.cond (decide (n43 > 0)) (G.cI .i64 p47 w50.drew fun n53=>G.ix l_40.a l_40.n (IntKind.i64.wrap (n43-1)) 2 fun p54=>G.cI .i64 p54 w50.drew fun n55=>G.cond (decide (n53≤n55)) (K nilS 90 n43 w50.drew) (kc14 l_40 l41 n42 (IntKind.i64.wrap (n43+1)) w50.drew)) (kc14 l_40 l41 n42 (IntKind.i64.wrap (n43+1)) w50.drew)))) (S11 K l_40 w)
theorem S16_ok (kc14:Cur g14):OkT pr false none 64 g14 (S16 (Kt Kv) kc14) (lp (blk (tl 1 (s1 (tl 1 bd))))) (P15 Kv kc14):=ok_last mixed FOk_ fun v ρ w=>by kernel_rfl
def L14 (K:KT):Cur g14:=loopC g14 (S16 K)
theorem L14_ok:OkT pr false none 64 g14 (L14 (Kt Kv)) (blk (tl 1 (s1 (tl 1 bd)))) (P13 Kv):=ok_loop (B:=S16 (Kt Kv)) (by kernel_rfl) fun kc=>S16_ok Kv kc
theorem L14_ind {K:KT} {l_32:Sl} {l33:Sl} {n34:Int} {n35:Int} {w:World} (h:∀ X:Cur g14,(∀ l_32 l33 n34 n35 w,S16 K X l_32 l33 n34 n35 w→X l_32 l33 n34 n35 w)→X l_32 l33 n34 n35 w):L14 K l_32 l33 n34 n35 w:=fun X hX=>h X fun l_32 l33 n34 n35 w hb=>hX (l_32,l33,n34,n35,()) w hb
theorem B17:OkT pr false none 64 g14 (L14 (Kt Kv)) (tl 1 (s1 (tl 1 bd))) (P12 Kv):=ok_block 0 (by kernel_rfl) (L14_ok Kv)
def S18 (K:KT) (l_56:Sl) (w:World):Prop :=
 L14 K l_56 l_56 ((l_56.n:Nat):Int) 0 w
theorem S18_ok:OkT pr false none 64 g11 (S18 (Kt Kv)) (s1 (tl 1 bd)) (P12 Kv):=ok_group mixed FOk_ 1 (B17 Kv) fun v ρ w=>by kernel_rfl
theorem Q19:OkT pr false none 64 g11 (S18 (Kt Kv)) (tl 1 bd) (P1 Kv):=ok_seq (by kernel_rfl) (S11_ok Kv) (S18_ok Kv)
end tocsinref08_Split
def tocsinref08_Split (l_4:Sl) (w:World) (K:tocsinref08_Split.KT):Prop :=
 tocsinref08_Split.S18 K l_4 w
def tocsinref08_Split.cl:CL:=fun args K w=>match args with
 | [.slice x0_a x0_n x0_c]=>C.tocsinref08_Split ⟨x0_a,x0_n,x0_c⟩ w (tocsinref08_Split.Kt K)
 | _=>False
theorem tocsinref08_Split.clok:OkC pr 94 tocsinref08_Split.cl:=by
 intro args K w h
 unfold tocsinref08_Split.cl at h
 split at h
 ·exact calls_group false mixed tocsinref08_Split.FOk_ tocsinref08_Split.fn rfl 1 (tocsinref08_Split.Q19 K) (Eq.mp (by kernel_rfl) h)
 ·exact h.elim
namespace tocsinref01_Utf8
abbrev KT:=Bool→World→Prop
def Kt:KT:=fun b1 w=>Kv (.bool b1) w
noncomputable def bd:Code:=bdy Tryz.f142
theorem fn:FnOk pr 142 98 Tryz.f142:=⟨Tryz.func142,by kernel_rfl,Tryz.ntmps142,by kernel_rfl,by kernel_rfl⟩
def F:Clee:=ofL []
theorem FOk_:FOk pr F:=FOk_nil
def P1:Post:=bodyK false pr 98 Tryz.f142 Kv
abbrev g2:List SE:=[]
def S2 (K:KT) (w:World):Prop :=
 K true w
theorem S2_ok:OkT pr false none 98 g2 (S2 (Kt Kv)) (s2 (tl 1 bd)) (P1 Kv):=ok_last mixed FOk_ fun v ρ w=>by kernel_rfl
def P3:Post:=next (get g2 (S2 (Kt Kv))) (P1 Kv)
def P4:Post:=inBlock 0 (P3 Kv)
abbrev g5:List SE:=[.v 0 .str,.v 3 (.int .i64)]
def P6 (kc5:Cur g5):Post:=next (get g5 kc5) (P4 Kv)
def P7 (kc5:Cur g5):Post:=inBlock 1 (P6 Kv kc5)
abbrev g8:List SE:=[.v 0 .str,.v 3 (.int .i64),.v 5 (.int .i64),.v 6 (.int .i64),.v 7 (.int .i64)]
def S8 (K:KT) (kc5:Cur g5) (s_5:ByteArray) (i_6:Int) (n_7:Int) (least_8:Int) (r_9:Int) (w:World):Prop :=
 G.cond (decide (r_9<least_8)) (K false w) (G.cond (decide (r_9 > 1114111)) (K false w) (G.cond (decide (r_9 ≥ 55296)) (G.cond (decide (r_9<57344)) (K false w) (kc5 s_5 (IntKind.i64.wrap ((IntKind.i64.wrap (i_6+n_7))+1)) w)) (kc5 s_5 (IntKind.i64.wrap ((IntKind.i64.wrap (i_6+n_7))+1)) w)))
theorem S8_ok (kc5:Cur g5):OkT pr false none 98 g8 (S8 (Kt Kv) kc5) (s2 (tl 5 (blk (tl 1 (lp (blk (tl 1 (s1 (tl 1 bd))))))))) (P7 Kv kc5):=ok_last mixed FOk_ fun v ρ w=>by kernel_rfl
def P9 (kc5:Cur g5):Post:=next (get g8 (S8 (Kt Kv) kc5)) (P7 Kv kc5)
def P10 (kc5:Cur g5):Post:=inBlock 3 (P9 Kv kc5)
abbrev g11:List SE:=[.v 0 .str,.v 3 (.int .i64),.v 5 (.int .i64),.v 6 (.int .i64),.v 7 (.int .i64),.v 8 (.int .i64)]
def P12 (kc5:Cur g5) (kc11:Cur g11):Post:=next (get g11 kc11) (P10 Kv kc5)
def S13 (K:KT) (kc5:Cur g5) (kc11:Cur g11) (s_22:ByteArray) (i_23:Int) (n_24:Int) (least_25:Int) (r_26:Int) (k_27:Int) (w:World):Prop :=
 G.cond (decide (k_27≤n_24)) (G.cond (decide ((IntKind.i64.wrap (i_23+k_27)) ≥ ((s_22.size:Nat):Int))) (K false w) (G.ixS s_22 (IntKind.i64.wrap (i_23+k_27)) fun n28=>G.cond ((Go.bits .and .u8 n28 192) != 128) (K false w) (G.ixS s_22 (IntKind.i64.wrap (i_23+k_27)) fun n29=>kc11 s_22 i_23 n_24 least_25 (IntKind.i64.wrap ((IntKind.i64.wrap (r_26*64))+(IntKind.i64.wrap (Go.bits .and .u8 n29 63)))) (IntKind.i64.wrap (k_27+1)) w))) (S8 K kc5 s_22 i_23 n_24 least_25 r_26 w)
theorem S13_ok (kc5:Cur g5) (kc11:Cur g11):OkT pr false none 98 g11 (S13 (Kt Kv) kc5 kc11) (lp (blk (tl 1 (s1 (tl 5 (blk (tl 1 (lp (blk (tl 1 (s1 (tl 1 bd)))))))))))) (P12 Kv kc5 kc11):=ok_last mixed FOk_ fun v ρ w=>by kernel_rfl
def L11 (K:KT) (kc5:Cur g5):Cur g11:=loopC g11 (S13 K kc5)
theorem L11_ok (kc5:Cur g5):OkT pr false none 98 g11 (L11 (Kt Kv) kc5) (blk (tl 1 (s1 (tl 5 (blk (tl 1 (lp (blk (tl 1 (s1 (tl 1 bd))))))))))) (P10 Kv kc5):=ok_loop (B:=S13 (Kt Kv) kc5) (by kernel_rfl) fun kc=>S13_ok Kv kc5 kc
theorem L11_ind {K:KT} {kc5:Cur g5} {s_10:ByteArray} {i_11:Int} {n_12:Int} {least_13:Int} {r_14:Int} {k_15:Int} {w:World} (h:∀ X:Cur g11,(∀ s_10 i_11 n_12 least_13 r_14 k_15 w,S13 K kc5 X s_10 i_11 n_12 least_13 r_14 k_15 w→X s_10 i_11 n_12 least_13 r_14 k_15 w)→X s_10 i_11 n_12 least_13 r_14 k_15 w):L11 K kc5 s_10 i_11 n_12 least_13 r_14 k_15 w:=fun X hX=>h X fun s_10 i_11 n_12 least_13 r_14 k_15 w hb=>hX (s_10,i_11,n_12,least_13,r_14,k_15,()) w hb
theorem B14 (kc5:Cur g5):OkT pr false none 98 g11 (L11 (Kt Kv) kc5) (tl 1 (s1 (tl 5 (blk (tl 1 (lp (blk (tl 1 (s1 (tl 1 bd)))))))))) (P9 Kv kc5):=ok_block 3 (by kernel_rfl) (L11_ok Kv kc5)
def S15 (K:KT) (kc5:Cur g5) (s_30:ByteArray) (i_31:Int) (n_32:Int) (least_33:Int) (r_34:Int) (w:World):Prop :=
 L11 K kc5 s_30 i_31 n_32 least_33 r_34 1 w
theorem S15_ok (kc5:Cur g5):OkT pr false none 98 g8 (S15 (Kt Kv) kc5) (s1 (tl 5 (blk (tl 1 (lp (blk (tl 1 (s1 (tl 1 bd))))))))) (P9 Kv kc5):=ok_group mixed FOk_ 1 (B14 Kv kc5) fun v ρ w=>by kernel_rfl
theorem Q16 (kc5:Cur g5):OkT pr false none 98 g8 (S15 (Kt Kv) kc5) (tl 5 (blk (tl 1 (lp (blk (tl 1 (s1 (tl 1 bd)))))))) (P7 Kv kc5):=ok_seq (by kernel_rfl) (S8_ok Kv kc5) (S15_ok Kv kc5)
def S17 (K:KT) (kc5:Cur g5) (s_35:ByteArray) (i_36:Int) (w:World):Prop :=
 G.ixS s_35 i_36 fun n37=>G.cond (decide ((IntKind.i64.wrap n37)<128)) (kc5 s_35 (IntKind.i64.wrap (i_36+1)) w) (G.cond (decide ((IntKind.i64.wrap n37) ≥ 194)) (G.cond (decide ((IntKind.i64.wrap n37)<224)) (S15 K kc5 s_35 i_36 1 128 (Go.bits .and .i64 (IntKind.i64.wrap n37) 31) w) (G.cond (decide ((IntKind.i64.wrap n37) ≥ 224)) (G.cond (decide ((IntKind.i64.wrap n37)<240)) (S15 K kc5 s_35 i_36 2 2048 (Go.bits .and .i64 (IntKind.i64.wrap n37) 15) w) (G.cond (decide ((IntKind.i64.wrap n37) ≥ 240)) (G.cond (decide ((IntKind.i64.wrap n37)<245)) (S15 K kc5 s_35 i_36 3 65536 (Go.bits .and .i64 (IntKind.i64.wrap n37) 7) w) (K false w)) (K false w))) (G.cond (decide ((IntKind.i64.wrap n37) ≥ 240)) (G.cond (decide ((IntKind.i64.wrap n37)<245)) (S15 K kc5 s_35 i_36 3 65536 (Go.bits .and .i64 (IntKind.i64.wrap n37) 7) w) (K false w)) (K false w)))) (G.cond (decide ((IntKind.i64.wrap n37) ≥ 224)) (G.cond (decide ((IntKind.i64.wrap n37)<240)) (S15 K kc5 s_35 i_36 2 2048 (Go.bits .and .i64 (IntKind.i64.wrap n37) 15) w) (G.cond (decide ((IntKind.i64.wrap n37) ≥ 240)) (G.cond (decide ((IntKind.i64.wrap n37)<245)) (S15 K kc5 s_35 i_36 3 65536 (Go.bits .and .i64 (IntKind.i64.wrap n37) 7) w) (K false w)) (K false w))) (G.cond (decide ((IntKind.i64.wrap n37) ≥ 240)) (G.cond (decide ((IntKind.i64.wrap n37)<245)) (S15 K kc5 s_35 i_36 3 65536 (Go.bits .and .i64 (IntKind.i64.wrap n37) 7) w) (K false w)) (K false w))))
theorem S17_ok (kc5:Cur g5):OkT pr false none 98 g5 (S17 (Kt Kv) kc5) (blk (tl 1 (lp (blk (tl 1 (s1 (tl 1 bd))))))) (P7 Kv kc5):=ok_group mixed FOk_ 5 (Q16 Kv kc5) fun v ρ w=>by kernel_rfl
theorem B18 (kc5:Cur g5):OkT pr false none 98 g5 (S17 (Kt Kv) kc5) (tl 1 (lp (blk (tl 1 (s1 (tl 1 bd)))))) (P6 Kv kc5):=ok_block 1 (by kernel_rfl) (S17_ok Kv kc5)
def S19 (K:KT) (kc5:Cur g5) (s_38:ByteArray) (i_39:Int) (w:World):Prop :=
 G.cond (decide (i_39<((s_38.size:Nat):Int))) (S17 K kc5 s_38 i_39 w) (S2 K w)
theorem S19_ok (kc5:Cur g5):OkT pr false none 98 g5 (S19 (Kt Kv) kc5) (lp (blk (tl 1 (s1 (tl 1 bd))))) (P6 Kv kc5):=ok_group mixed FOk_ 1 (B18 Kv kc5) fun v ρ w=>by kernel_rfl
def L5 (K:KT):Cur g5:=loopC g5 (S19 K)
theorem L5_ok:OkT pr false none 98 g5 (L5 (Kt Kv)) (blk (tl 1 (s1 (tl 1 bd)))) (P4 Kv):=ok_loop (B:=S19 (Kt Kv)) (by kernel_rfl) fun kc=>S19_ok Kv kc
theorem L5_ind {K:KT} {s_3:ByteArray} {i_4:Int} {w:World} (h:∀ X:Cur g5,(∀ s_3 i_4 w,S19 K X s_3 i_4 w→X s_3 i_4 w)→X s_3 i_4 w):L5 K s_3 i_4 w:=fun X hX=>h X fun s_3 i_4 w hb=>hX (s_3,i_4,()) w hb
theorem B20:OkT pr false none 98 g5 (L5 (Kt Kv)) (tl 1 (s1 (tl 1 bd))) (P3 Kv):=ok_block 0 (by kernel_rfl) (L5_ok Kv)
abbrev g21:List SE:=[.v 0 .str]
def S21 (K:KT) (s_40:ByteArray) (w:World):Prop :=
 L5 K s_40 0 w
theorem S21_ok:OkT pr false none 98 g21 (S21 (Kt Kv)) (s1 (tl 1 bd)) (P3 Kv):=ok_group mixed FOk_ 1 (B20 Kv) fun v ρ w=>by kernel_rfl
theorem Q22:OkT pr false none 98 g21 (S21 (Kt Kv)) (tl 1 bd) (P1 Kv):=ok_seq (by kernel_rfl) (S2_ok Kv) (S21_ok Kv)
end tocsinref01_Utf8
def tocsinref01_Utf8 (s_2:ByteArray) (w:World) (K:tocsinref01_Utf8.KT):Prop :=
 tocsinref01_Utf8.S21 K s_2 w
def tocsinref01_Utf8.cl:CL:=fun args K w=>match args with
 | [.string x0]=>C.tocsinref01_Utf8 x0 w (tocsinref01_Utf8.Kt K)
 | _=>False
theorem tocsinref01_Utf8.clok:OkC pr 142 tocsinref01_Utf8.cl:=by
 intro args K w h
 unfold tocsinref01_Utf8.cl at h
 split at h
 ·exact calls_group false mixed tocsinref01_Utf8.FOk_ tocsinref01_Utf8.fn rfl 1 (tocsinref01_Utf8.Q22 K) (Eq.mp (by kernel_rfl) h)
 ·exact h.elim
namespace tocsinref04_letter
abbrev KT:=Bool→World→Prop
def Kt:KT:=fun b1 w=>Kv (.bool b1) w
noncomputable def bd:Code:=bdy Tryz.f181
theorem fn:FnOk pr 181 21 Tryz.f181:=⟨Tryz.func181,by kernel_rfl,Tryz.ntmps181,by kernel_rfl,by kernel_rfl⟩
def F:Clee:=ofL []
theorem FOk_:FOk pr F:=FOk_nil
def P1:Post:=bodyK false pr 21 Tryz.f181 Kv
end tocsinref04_letter
def tocsinref04_letter (c_2:Int) (w:World) (K:tocsinref04_letter.KT):Prop :=
 G.cond (decide (c_2 ≥ 97)) (G.cond (decide (c_2≤122)) (K true w) (G.cond (decide (c_2 ≥ 65)) (G.cond (decide (c_2≤90)) (K true w) (K (c_2==95) w)) (K (c_2==95) w))) (G.cond (decide (c_2 ≥ 65)) (G.cond (decide (c_2≤90)) (K true w) (K (c_2==95) w)) (K (c_2==95) w))
def tocsinref04_letter.cl:CL:=fun args K w=>match args with
 | [.int .u8 x0]=>C.tocsinref04_letter x0 w (tocsinref04_letter.Kt K)
 | _=>False
theorem tocsinref04_letter.clok:OkC pr 181 tocsinref04_letter.cl:=by
 intro args K w h
 unfold tocsinref04_letter.cl at h
 split at h
 ·exact calls_last false mixed tocsinref04_letter.FOk_ tocsinref04_letter.fn rfl (Eq.mp (by kernel_rfl) h)
 ·exact h.elim
namespace tocsinref04_digit
abbrev KT:=Bool→World→Prop
def Kt:KT:=fun b1 w=>Kv (.bool b1) w
noncomputable def bd:Code:=bdy Tryz.f182
theorem fn:FnOk pr 182 9 Tryz.f182:=⟨Tryz.func182,by kernel_rfl,Tryz.ntmps182,by kernel_rfl,by kernel_rfl⟩
def F:Clee:=ofL []
theorem FOk_:FOk pr F:=FOk_nil
def P1:Post:=bodyK false pr 9 Tryz.f182 Kv
end tocsinref04_digit
def tocsinref04_digit (c_2:Int) (w:World) (K:tocsinref04_digit.KT):Prop :=
 G.cond (decide (c_2 ≥ 48)) (K (decide (c_2≤57)) w) (K false w)
def tocsinref04_digit.cl:CL:=fun args K w=>match args with
 | [.int .u8 x0]=>C.tocsinref04_digit x0 w (tocsinref04_digit.Kt K)
 | _=>False
theorem tocsinref04_digit.clok:OkC pr 182 tocsinref04_digit.cl:=by
 intro args K w h
 unfold tocsinref04_digit.cl at h
 split at h
 ·exact calls_last false mixed tocsinref04_digit.FOk_ tocsinref04_digit.fn rfl (Eq.mp (by kernel_rfl) h)
 ·exact h.elim
namespace tocsinref04_Name
abbrev KT:=Bool→World→Prop
def Kt:KT:=fun b1 w=>Kv (.bool b1) w
noncomputable def bd:Code:=bdy Tryz.f151
theorem fn:FnOk pr 151 33 Tryz.f151:=⟨Tryz.func151,by kernel_rfl,Tryz.ntmps151,by kernel_rfl,by kernel_rfl⟩
def F:Clee:=ofL [(181,C.tocsinref04_letter.cl),(182,C.tocsinref04_digit.cl)]
theorem FOk_:FOk pr F:=FOk_cons C.tocsinref04_letter.clok (FOk_cons C.tocsinref04_digit.clok (FOk_nil))
def P1:Post:=bodyK false pr 33 Tryz.f151 Kv
abbrev g2:List SE:=[]
def S2 (K:KT) (w:World):Prop :=
 K true w
theorem S2_ok:OkT pr false none 33 g2 (S2 (Kt Kv)) (s2 (tl 2 bd)) (P1 Kv):=ok_last mixed FOk_ fun v ρ w=>by kernel_rfl
def P3:Post:=next (get g2 (S2 (Kt Kv))) (P1 Kv)
def P4:Post:=inBlock 0 (P3 Kv)
abbrev g5:List SE:=[.v 0 .str,.v 12 (.int .i64),.v 13 (.int .i64)]
def P6 (kc5:Cur g5):Post:=next (get g5 kc5) (P4 Kv)
def S7 (K:KT) (kc5:Cur g5) (s_9:ByteArray) (n10:Int) (n11:Int) (w:World):Prop :=
 G.cond (decide (n11<n10)) (G.ixS s_9 n11 fun n12=>C.tocsinref04_letter n12 w fun b13 w14=>G.cond (!b13) (G.cond (n11==0) (K false w14) (G.ixS s_9 n11 fun n15=>C.tocsinref04_digit n15 w14 fun b16 w17=>G.cond (!b16) (K false w17) (kc5 s_9 n10 (IntKind.i64.wrap (n11+1)) w17))) (kc5 s_9 n10 (IntKind.i64.wrap (n11+1)) w14)) (S2 K w)
theorem S7_ok (kc5:Cur g5):OkT pr false none 33 g5 (S7 (Kt Kv) kc5) (lp (blk (tl 1 (s1 (tl 2 bd))))) (P6 Kv kc5):=ok_last mixed FOk_ fun v ρ w=>by kernel_rfl
def L5 (K:KT):Cur g5:=loopC g5 (S7 K)
theorem L5_ok:OkT pr false none 33 g5 (L5 (Kt Kv)) (blk (tl 1 (s1 (tl 2 bd)))) (P4 Kv):=ok_loop (B:=S7 (Kt Kv)) (by kernel_rfl) fun kc=>S7_ok Kv kc
theorem L5_ind {K:KT} {s_3:ByteArray} {n4:Int} {n5:Int} {w:World} (h:∀ X:Cur g5,(∀ s_3 n4 n5 w,S7 K X s_3 n4 n5 w→X s_3 n4 n5 w)→X s_3 n4 n5 w):L5 K s_3 n4 n5 w:=fun X hX=>h X fun s_3 n4 n5 w hb=>hX (s_3,n4,n5,()) w hb
theorem B8:OkT pr false none 33 g5 (L5 (Kt Kv)) (tl 1 (s1 (tl 2 bd))) (P3 Kv):=ok_block 0 (by kernel_rfl) (L5_ok Kv)
abbrev g9:List SE:=[.v 0 .str]
def S9 (K:KT) (s_18:ByteArray) (w:World):Prop :=
 L5 K s_18 ((s_18.size:Nat):Int) 0 w
theorem S9_ok:OkT pr false none 33 g9 (S9 (Kt Kv)) (s1 (tl 2 bd)) (P3 Kv):=ok_group mixed FOk_ 1 (B8 Kv) fun v ρ w=>by kernel_rfl
theorem Q10:OkT pr false none 33 g9 (S9 (Kt Kv)) (tl 2 bd) (P1 Kv):=ok_seq (by kernel_rfl) (S2_ok Kv) (S9_ok Kv)
end tocsinref04_Name
def tocsinref04_Name (s_2:ByteArray) (w:World) (K:tocsinref04_Name.KT):Prop :=
 G.cond (s_2.toList==(⟨#[]⟩:ByteArray).toList) (K false w) (G.cond (decide (((s_2.size:Nat):Int) > 64)) (K false w) (tocsinref04_Name.S9 K s_2 w))
def tocsinref04_Name.cl:CL:=fun args K w=>match args with
 | [.string x0]=>C.tocsinref04_Name x0 w (tocsinref04_Name.Kt K)
 | _=>False
theorem tocsinref04_Name.clok:OkC pr 151 tocsinref04_Name.cl:=by
 intro args K w h
 unfold tocsinref04_Name.cl at h
 split at h
 ·exact calls_group false mixed tocsinref04_Name.FOk_ tocsinref04_Name.fn rfl 2 (tocsinref04_Name.Q10 K) (Eq.mp (by kernel_rfl) h)
 ·exact h.elim
namespace tocsinref04_one
abbrev KT:=Int→World→Prop
def Kt:KT:=fun n1 w=>Kv (.int .i64 n1) w
noncomputable def bd:Code:=bdy Tryz.f117
theorem fn:FnOk pr 117 22 Tryz.f117:=⟨Tryz.func117,by kernel_rfl,Tryz.ntmps117,by kernel_rfl,by kernel_rfl⟩
def F:Clee:=ofL [(142,C.tocsinref01_Utf8.cl),(151,C.tocsinref04_Name.cl)]
theorem FOk_:FOk pr F:=FOk_cons C.tocsinref01_Utf8.clok (FOk_cons C.tocsinref04_Name.clok (FOk_nil))
def P1:Post:=bodyK false pr 22 Tryz.f117 Kv
end tocsinref04_one
def tocsinref04_one (x_2:ByteArray) (x_3:ByteArray) (w:World) (K:tocsinref04_one.KT):Prop :=
 G.new (.cells #[(.string x_2),(.string x_3)] 93) w fun p4 w5=>G.cS p4 w5 fun s6=>C.tocsinref04_Name s6 w5 fun b7 w8=>G.cond (!b7) (K 40 w8) (G.cS (p4.add 1) w8 fun s9=>G.cond (s9.toList==(⟨#[]⟩:ByteArray).toList) (K 41 w8) (G.cS (p4.add 1) w8 fun s10=>G.cond (decide (((s10.size:Nat):Int) > 256)) (K 4 w8) (G.cS (p4.add 1) w8 fun s11=>C.tocsinref01_Utf8 s11 w8 fun b12 w13=>G.cond (!b12) (K 12 w13) (K 0 w13))))
def tocsinref04_one.cl:CL:=fun args K w=>match args with
 | [.agg ⟨[.string x0_0,.string x0_1]⟩]=>C.tocsinref04_one x0_0 x0_1 w (tocsinref04_one.Kt K)
 | _=>False
theorem tocsinref04_one.clok:OkC pr 117 tocsinref04_one.cl:=by
 intro args K w h
 unfold tocsinref04_one.cl at h
 split at h
 ·exact calls_last false mixed tocsinref04_one.FOk_ tocsinref04_one.fn rfl (Eq.mp (by kernel_rfl) h)
 ·exact h.elim
namespace tocsinref04_Right
abbrev KT:=Int→Int→World→Prop
def Kt:KT:=fun n1 n2 w=>Kv (.tuple #[(.int .i64 n1),(.int .i64 n2)]) w
noncomputable def bd:Code:=bdy Tryz.f91
theorem fn:FnOk pr 91 38 Tryz.f91:=⟨Tryz.func91,by kernel_rfl,Tryz.ntmps91,by kernel_rfl,by kernel_rfl⟩
def F:Clee:=ofL [(117,C.tocsinref04_one.cl)]
theorem FOk_:FOk pr F:=FOk_cons C.tocsinref04_one.clok (FOk_nil)
def P1:Post:=bodyK false pr 38 Tryz.f91 Kv
abbrev g2:List SE:=[]
def S2 (K:KT) (w:World):Prop :=
 K 0 0 w
theorem S2_ok:OkT pr false none 38 g2 (S2 (Kt Kv)) (s2 (tl 2 bd)) (P1 Kv):=ok_last mixed FOk_ fun v ρ w=>by kernel_rfl
def P3:Post:=next (get g2 (S2 (Kt Kv))) (P1 Kv)
def P4:Post:=inBlock 0 (P3 Kv)
abbrev g5:List SE:=[.v 0 .sl,.v 10 .sl,.v 11 (.int .i64),.v 12 (.int .i64)]
def P6 (kc5:Cur g5):Post:=next (get g5 kc5) (P4 Kv)
def S7 (K:KT) (kc5:Cur g5) (l_12:Sl) (l13:Sl) (n14:Int) (n15:Int) (w:World):Prop :=
 G.cond (decide (n15<n14)) (G.ix l13.a l13.n n15 2 fun p16=>G.cS p16 w fun s17=>G.cS (p16.add 1) w fun s18=>G.new (.cells #[(.string (⟨#[]⟩:ByteArray)),(.string (⟨#[]⟩:ByteArray))] 93) w fun p19 w20=>G.st p19 (.string s17) w20 fun w21=>G.st (p19.add 1) (.string s18) w21 fun w22=>G.cS p19 w22 fun s23=>G.cS (p19.add 1) w22 fun s24=>C.tocsinref04_one s23 s24 w22 fun n25 w26=>G.cond (n25 != 0) (K n25 n15 w26) (G.cond (decide (n15 > 0)) (G.ix l_12.a l_12.n (IntKind.i64.wrap (n15-1)) 2 fun p27=>G.cS p27 w26.drew fun s28=>G.cS p19 w26.drew fun s29=>G.cond (!(Op.bytesLess s28.toList s29.toList)) (K 3 n15 w26.drew) (kc5 l_12 l13 n14 (IntKind.i64.wrap (n15+1)) w26.drew)) (kc5 l_12 l13 n14 (IntKind.i64.wrap (n15+1)) w26.drew))) (S2 K w)
theorem S7_ok (kc5:Cur g5):OkT pr false none 38 g5 (S7 (Kt Kv) kc5) (lp (blk (tl 1 (s1 (tl 2 bd))))) (P6 Kv kc5):=ok_last mixed FOk_ fun v ρ w=>by kernel_rfl
def L5 (K:KT):Cur g5:=loopC g5 (S7 K)
theorem L5_ok:OkT pr false none 38 g5 (L5 (Kt Kv)) (blk (tl 1 (s1 (tl 2 bd)))) (P4 Kv):=ok_loop (B:=S7 (Kt Kv)) (by kernel_rfl) fun kc=>S7_ok Kv kc
theorem L5_ind {K:KT} {l_4:Sl} {l5:Sl} {n6:Int} {n7:Int} {w:World} (h:∀ X:Cur g5,(∀ l_4 l5 n6 n7 w,S7 K X l_4 l5 n6 n7 w→X l_4 l5 n6 n7 w)→X l_4 l5 n6 n7 w):L5 K l_4 l5 n6 n7 w:=fun X hX=>h X fun l_4 l5 n6 n7 w hb=>hX (l_4,l5,n6,n7,()) w hb
theorem B8:OkT pr false none 38 g5 (L5 (Kt Kv)) (tl 1 (s1 (tl 2 bd))) (P3 Kv):=ok_block 0 (by kernel_rfl) (L5_ok Kv)
abbrev g9:List SE:=[.v 0 .sl]
def S9 (K:KT) (l_30:Sl) (w:World):Prop :=
 L5 K l_30 l_30 ((l_30.n:Nat):Int) 0 w
theorem S9_ok:OkT pr false none 38 g9 (S9 (Kt Kv)) (s1 (tl 2 bd)) (P3 Kv):=ok_group mixed FOk_ 1 (B8 Kv) fun v ρ w=>by kernel_rfl
theorem Q10:OkT pr false none 38 g9 (S9 (Kt Kv)) (tl 2 bd) (P1 Kv):=ok_seq (by kernel_rfl) (S2_ok Kv) (S9_ok Kv)
end tocsinref04_Right
def tocsinref04_Right (l_3:Sl) (w:World) (K:tocsinref04_Right.KT):Prop :=
 G.cond (decide (((l_3.n:Nat):Int) > 16)) (K 8 0 w) (tocsinref04_Right.S9 K l_3 w)
def tocsinref04_Right.cl:CL:=fun args K w=>match args with
 | [.slice x0_a x0_n x0_c]=>C.tocsinref04_Right ⟨x0_a,x0_n,x0_c⟩ w (tocsinref04_Right.Kt K)
 | _=>False
theorem tocsinref04_Right.clok:OkC pr 91 tocsinref04_Right.cl:=by
 intro args K w h
 unfold tocsinref04_Right.cl at h
 split at h
 ·exact calls_group false mixed tocsinref04_Right.FOk_ tocsinref04_Right.fn rfl 2 (tocsinref04_Right.Q10 K) (Eq.mp (by kernel_rfl) h)
 ·exact h.elim
namespace tocsinref01_PutText
abbrev KT:=Sl→World→Prop
def Kt:KT:=fun l1 w=>Kv l1.v w
noncomputable def bd:Code:=bdy Tryz.f120
theorem fn:FnOk pr 120 13 Tryz.f120:=⟨Tryz.func120,by kernel_rfl,Tryz.ntmps120,by kernel_rfl,by kernel_rfl⟩
def F:Clee:=ofL [(55,C.tocsinref01_PutU.cl),(92,C.tocsinref01_joined.cl)]
theorem FOk_:FOk pr F:=FOk_cons C.tocsinref01_PutU.clok (FOk_cons C.tocsinref01_joined.clok (FOk_nil))
def P1:Post:=bodyK false pr 13 Tryz.f120 Kv
end tocsinref01_PutText
def tocsinref01_PutText (b_2:Sl) (s_3:ByteArray) (w:World) (K:tocsinref01_PutText.KT):Prop :=
 C.tocsinref01_PutU b_2 (IntKind.u64.wrap ((s_3.size:Nat):Int)) w fun l4 w5=>G.runSl pr (Go.convert 9 22 (.string s_3)) w5 fun l6 w7=>C.tocsinref01_joined l4 l6 w7 fun l8 w9=>K l8 w9
def tocsinref01_PutText.cl:CL:=fun args K w=>match args with
 | [.slice x0_a x0_n x0_c,.string x1]=>C.tocsinref01_PutText ⟨x0_a,x0_n,x0_c⟩ x1 w (tocsinref01_PutText.Kt K)
 | _=>False
theorem tocsinref01_PutText.clok:OkC pr 120 tocsinref01_PutText.cl:=by
 intro args K w h
 unfold tocsinref01_PutText.cl at h
 split at h
 ·exact calls_last false mixed tocsinref01_PutText.FOk_ tocsinref01_PutText.fn rfl (Eq.mp (by kernel_rfl) h)
 ·exact h.elim
namespace tocsinref04_Put
abbrev KT:=Sl→Int→World→Prop
def Kt:KT:=fun l1 n2 w=>Kv (.tuple #[l1.v,(.int .i64 n2)]) w
noncomputable def bd:Code:=bdy Tryz.f95
theorem fn:FnOk pr 95 39 Tryz.f95:=⟨Tryz.func95,by kernel_rfl,Tryz.ntmps95,by kernel_rfl,by kernel_rfl⟩
def F:Clee:=ofL [(55,C.tocsinref01_PutU.cl),(91,C.tocsinref04_Right.cl),(120,C.tocsinref01_PutText.cl)]
theorem FOk_:FOk pr F:=FOk_cons C.tocsinref01_PutU.clok (FOk_cons C.tocsinref04_Right.clok (FOk_cons C.tocsinref01_PutText.clok (FOk_nil)))
def P1:Post:=bodyK false pr 39 Tryz.f95 Kv
abbrev g2:List SE:=[.v 8 .sl]
def S2 (K:KT) (out_7:Sl) (w:World):Prop :=
 K out_7 0 w
theorem S2_ok:OkT pr false none 39 g2 (S2 (Kt Kv)) (s2 (tl 3 bd)) (P1 Kv):=ok_last mixed FOk_ fun v ρ w=>by kernel_rfl
def P3:Post:=next (get g2 (S2 (Kt Kv))) (P1 Kv)
def P4:Post:=inBlock 0 (P3 Kv)
abbrev g5:List SE:=[.v 8 .sl,.v 24 .sl,.v 25 (.int .i64),.v 26 (.int .i64)]
def P6 (kc5:Cur g5):Post:=next (get g5 kc5) (P4 Kv)
def S7 (K:KT) (kc5:Cur g5) (out_16:Sl) (l17:Sl) (n18:Int) (n19:Int) (w:World):Prop :=
 G.cond (decide (n19<n18)) (G.ix l17.a l17.n n19 2 fun p20=>G.cS p20 w fun s21=>G.cS (p20.add 1) w fun s22=>G.new (.cells #[(.string (⟨#[]⟩:ByteArray)),(.string (⟨#[]⟩:ByteArray))] 93) w fun p23 w24=>G.st p23 (.string s21) w24 fun w25=>G.st (p23.add 1) (.string s22) w25 fun w26=>G.cS p23 w26.drew fun s27=>G.cS (p23.add 1) w26.drew fun s28=>C.tocsinref01_PutText out_16 s27 w26.drew fun l29 w30=>sameAt (p23.add 1) 1 w26.drew w30∧(C.tocsinref01_PutText l29 s28 w30 fun l31 w32=>kc5 l31 l17 n18 (IntKind.i64.wrap (n19+1)) w32)) (S2 K out_16 w)
theorem S7_ok (kc5:Cur g5):OkT pr false none 39 g5 (S7 (Kt Kv) kc5) (lp (blk (tl 1 (s1 (tl 3 bd))))) (P6 Kv kc5):=ok_last mixed FOk_ fun v ρ w=>by kernel_rfl
def L5 (K:KT):Cur g5:=loopC g5 (S7 K)
theorem L5_ok:OkT pr false none 39 g5 (L5 (Kt Kv)) (blk (tl 1 (s1 (tl 3 bd)))) (P4 Kv):=ok_loop (B:=S7 (Kt Kv)) (by kernel_rfl) fun kc=>S7_ok Kv kc
theorem L5_ind {K:KT} {out_8:Sl} {l9:Sl} {n10:Int} {n11:Int} {w:World} (h:∀ X:Cur g5,(∀ out_8 l9 n10 n11 w,S7 K X out_8 l9 n10 n11 w→X out_8 l9 n10 n11 w)→X out_8 l9 n10 n11 w):L5 K out_8 l9 n10 n11 w:=fun X hX=>h X fun out_8 l9 n10 n11 w hb=>hX (out_8,l9,n10,n11,()) w hb
theorem B8:OkT pr false none 39 g5 (L5 (Kt Kv)) (tl 1 (s1 (tl 3 bd))) (P3 Kv):=ok_block 0 (by kernel_rfl) (L5_ok Kv)
abbrev g9:List SE:=[.v 1 .sl,.v 8 .sl]
def S9 (K:KT) (l_33:Sl) (out_34:Sl) (w:World):Prop :=
 L5 K out_34 l_33 ((l_33.n:Nat):Int) 0 w
theorem S9_ok:OkT pr false none 39 g9 (S9 (Kt Kv)) (s1 (tl 3 bd)) (P3 Kv):=ok_group mixed FOk_ 1 (B8 Kv) fun v ρ w=>by kernel_rfl
theorem Q10:OkT pr false none 39 g9 (S9 (Kt Kv)) (tl 3 bd) (P1 Kv):=ok_seq (by kernel_rfl) (S2_ok Kv) (S9_ok Kv)
end tocsinref04_Put
def tocsinref04_Put (b_3:Sl) (l_4:Sl) (w:World) (K:tocsinref04_Put.KT):Prop :=
 C.tocsinref04_Right l_4 w fun n35 n36 w37=>G.cond (n35 != 0) (K nilS n35 w37) (C.tocsinref01_PutU b_3 (IntKind.u64.wrap ((l_4.n:Nat):Int)) w37 fun l38 w39=>tocsinref04_Put.S9 K l_4 l38 w39)
def tocsinref04_Put.cl:CL:=fun args K w=>match args with
 | [.slice x0_a x0_n x0_c,.slice x1_a x1_n x1_c]=>C.tocsinref04_Put ⟨x0_a,x0_n,x0_c⟩ ⟨x1_a,x1_n,x1_c⟩ w (tocsinref04_Put.Kt K)
 | _=>False
theorem tocsinref04_Put.clok:OkC pr 95 tocsinref04_Put.cl:=by
 intro args K w h
 unfold tocsinref04_Put.cl at h
 split at h
 ·exact calls_group false mixed tocsinref04_Put.FOk_ tocsinref04_Put.fn rfl 3 (tocsinref04_Put.Q10 K) (Eq.mp (by kernel_rfl) h)
 ·exact h.elim
namespace tocsinref10_frame
abbrev KT:=Sl→Int→World→Prop
def Kt:KT:=fun l1 n2 w=>Kv (.tuple #[l1.v,(.int .i64 n2)]) w
noncomputable def bd:Code:=bdy Tryz.f57
theorem fn:FnOk pr 57 54 Tryz.f57:=⟨Tryz.func57,by kernel_rfl,Tryz.ntmps57,by kernel_rfl,by kernel_rfl⟩
def F:Clee:=ofL [(55,C.tocsinref01_PutU.cl),(94,C.tocsinref08_Split.cl),(95,C.tocsinref04_Put.cl)]
theorem FOk_:FOk pr F:=FOk_cons C.tocsinref01_PutU.clok (FOk_cons C.tocsinref08_Split.clok (FOk_cons C.tocsinref04_Put.clok (FOk_nil)))
def P1:Post:=bodyK false pr 54 Tryz.f57 Kv
abbrev g2:List SE:=[.v 7 .sl]
def S2 (K:KT) (b_9:Sl) (w:World):Prop :=
 G.cond (decide (((b_9.n:Nat):Int) > 65536)) (K nilS 4 w) (K b_9 0 w)
theorem S2_ok:OkT pr false none 54 g2 (S2 (Kt Kv)) (s2 (tl 6 bd)) (P1 Kv):=ok_last mixed FOk_ fun v ρ w=>by kernel_rfl
def P3:Post:=next (get g2 (S2 (Kt Kv))) (P1 Kv)
def P4:Post:=inBlock 0 (P3 Kv)
abbrev g5:List SE:=[.v 7 .sl,.v 35 .sl,.v 36 (.int .i64),.v 37 (.int .i64)]
def P6 (kc5:Cur g5):Post:=next (get g5 kc5) (P4 Kv)
def S7 (K:KT) (kc5:Cur g5) (b_18:Sl) (l19:Sl) (n20:Int) (n21:Int) (w:World):Prop :=
 G.cond (decide (n21<n20)) (G.ix l19.a l19.n n21 1 fun p22=>G.cSl p22 w fun l23=>C.tocsinref01_PutU b_18 (IntKind.u64.wrap ((l23.n:Nat):Int)) w fun l24 w25=>G.runSl pr (Builtin.append_ #[22,22] 22 #[l24.v,l23.v]) w25 fun l26 w27=>kc5 l26 l19 n20 (IntKind.i64.wrap (n21+1)) w27) (S2 K b_18 w)
theorem S7_ok (kc5:Cur g5):OkT pr false none 54 g5 (S7 (Kt Kv) kc5) (lp (blk (tl 1 (s1 (tl 6 bd))))) (P6 Kv kc5):=ok_last mixed FOk_ fun v ρ w=>by kernel_rfl
def L5 (K:KT):Cur g5:=loopC g5 (S7 K)
theorem L5_ok:OkT pr false none 54 g5 (L5 (Kt Kv)) (blk (tl 1 (s1 (tl 6 bd)))) (P4 Kv):=ok_loop (B:=S7 (Kt Kv)) (by kernel_rfl) fun kc=>S7_ok Kv kc
theorem L5_ind {K:KT} {b_10:Sl} {l11:Sl} {n12:Int} {n13:Int} {w:World} (h:∀ X:Cur g5,(∀ b_10 l11 n12 n13 w,S7 K X b_10 l11 n12 n13 w→X b_10 l11 n12 n13 w)→X b_10 l11 n12 n13 w):L5 K b_10 l11 n12 n13 w:=fun X hX=>h X fun b_10 l11 n12 n13 w hb=>hX (b_10,l11,n12,n13,()) w hb
theorem B8:OkT pr false none 54 g5 (L5 (Kt Kv)) (tl 1 (s1 (tl 6 bd))) (P3 Kv):=ok_block 0 (by kernel_rfl) (L5_ok Kv)
abbrev g9:List SE:=[.v 4 .sl,.v 7 .sl]
def S9 (K:KT) (chunks_28:Sl) (b_29:Sl) (w:World):Prop :=
 L5 K b_29 chunks_28 ((chunks_28.n:Nat):Int) 0 w
theorem S9_ok:OkT pr false none 54 g9 (S9 (Kt Kv)) (s1 (tl 6 bd)) (P3 Kv):=ok_group mixed FOk_ 1 (B8 Kv) fun v ρ w=>by kernel_rfl
theorem Q10:OkT pr false none 54 g9 (S9 (Kt Kv)) (tl 6 bd) (P1 Kv):=ok_seq (by kernel_rfl) (S2_ok Kv) (S9_ok Kv)
end tocsinref10_frame
def tocsinref10_frame (s_3:Sl) (s_4:Sl) (w:World) (K:tocsinref10_frame.KT):Prop :=
 G.new (.cells #[s_3.v,s_4.v] 57) w fun p30 w31=>G.cSl (p30.add 1) w31 fun l32=>C.tocsinref08_Split l32 w31 fun l33 n34 n35 w36=>G.cond (n34 != 0) (K nilS n34 w36) (G.cSl p30 w36 fun l37=>C.tocsinref04_Put nilS l37 w36 fun l38 n39 w40=>G.cond (n39 != 0) (K nilS n39 w40) (C.tocsinref01_PutU l38 (IntKind.u64.wrap ((l33.n:Nat):Int)) w40 fun l41 w42=>tocsinref10_frame.S9 K l33 l41 w42))
def tocsinref10_frame.cl:CL:=fun args K w=>match args with
 | [.agg ⟨[.slice x0_0_a x0_0_n x0_0_c,.slice x0_1_a x0_1_n x0_1_c]⟩]=>C.tocsinref10_frame ⟨x0_0_a,x0_0_n,x0_0_c⟩ ⟨x0_1_a,x0_1_n,x0_1_c⟩ w (tocsinref10_frame.Kt K)
 | _=>False
theorem tocsinref10_frame.clok:OkC pr 57 tocsinref10_frame.cl:=by
 intro args K w h
 unfold tocsinref10_frame.cl at h
 split at h
 ·exact calls_group false mixed tocsinref10_frame.FOk_ tocsinref10_frame.fn rfl 6 (tocsinref10_frame.Q10 K) (Eq.mp (by kernel_rfl) h)
 ·exact h.elim
namespace tocsinref10_wrong
abbrev KT:=Int→World→Prop
def Kt:KT:=fun n1 w=>Kv (.int .i64 n1) w
noncomputable def bd:Code:=bdy Tryz.f54
theorem fn:FnOk pr 54 42 Tryz.f54:=⟨Tryz.func54,by kernel_rfl,Tryz.ntmps54,by kernel_rfl,by kernel_rfl⟩
def F:Clee:=ofL [(28,C.tocsinref04_Same.cl),(57,C.tocsinref10_frame.cl),(91,C.tocsinref04_Right.cl)]
theorem FOk_:FOk pr F:=FOk_cons C.tocsinref04_Same.clok (FOk_cons C.tocsinref10_frame.clok (FOk_cons C.tocsinref04_Right.clok (FOk_nil)))
def P1:Post:=bodyK false pr 42 Tryz.f54 Kv
abbrev g2:List SE:=[.v 3 .ptr]
def S2 (K:KT) (s_6:Option Addr) (w:World):Prop :=
 G.ptr s_6 fun p7=>G.cSl (p7.add 1) w fun l8=>G.cond (((l8.n:Nat):Int)==0) (K 5 w) (G.ptr s_6 fun p9=>G.cSl p9 w fun l10=>G.cSl (p9.add 1) w fun l11=>C.tocsinref10_frame l10 l11 w fun l12 n13 w14=>K n13 w14)
theorem S2_ok:OkT pr false none 42 g2 (S2 (Kt Kv)) (s2 (tl 2 bd)) (P1 Kv):=ok_last mixed FOk_ fun v ρ w=>by kernel_rfl
def P3:Post:=next (get g2 (S2 (Kt Kv))) (P1 Kv)
def P4:Post:=inBlock 0 (P3 Kv)
abbrev g5:List SE:=[.v 3 .ptr,.v 20 .sl,.v 21 (.int .i64),.v 22 (.int .i64)]
def P6 (kc5:Cur g5):Post:=next (get g5 kc5) (P4 Kv)
def S7 (K:KT) (kc5:Cur g5) (s_23:Option Addr) (l24:Sl) (n25:Int) (n26:Int) (w:World):Prop :=
 G.cond (decide (n26<n25)) (G.ix l24.a l24.n n26 2 fun p27=>G.cSl p27 w fun l28=>G.cSl (p27.add 1) w fun l29=>G.new (.cells #[nilS.v,nilS.v] 57) w fun p30 w31=>G.st p30 l28.v w31 fun w32=>G.st (p30.add 1) l29.v w32 fun w33=>G.cSl p30 w33 fun l34=>G.ptr s_23 fun p35=>G.cSl p35 w33 fun l36=>C.tocsinref04_Same l34 l36 w33 fun b37 w38=>G.cond b37 (K 6 w38) (kc5 s_23 l24 n25 (IntKind.i64.wrap (n26+1)) w38)) (S2 K s_23 w)
theorem S7_ok (kc5:Cur g5):OkT pr false none 42 g5 (S7 (Kt Kv) kc5) (lp (blk (tl 1 (s1 (tl 2 bd))))) (P6 Kv kc5):=ok_last mixed FOk_ fun v ρ w=>by kernel_rfl
def L5 (K:KT):Cur g5:=loopC g5 (S7 K)
theorem L5_ok:OkT pr false none 42 g5 (L5 (Kt Kv)) (blk (tl 1 (s1 (tl 2 bd)))) (P4 Kv):=ok_loop (B:=S7 (Kt Kv)) (by kernel_rfl) fun kc=>S7_ok Kv kc
theorem L5_ind {K:KT} {s_15:Option Addr} {l16:Sl} {n17:Int} {n18:Int} {w:World} (h:∀ X:Cur g5,(∀ s_15 l16 n17 n18 w,S7 K X s_15 l16 n17 n18 w→X s_15 l16 n17 n18 w)→X s_15 l16 n17 n18 w):L5 K s_15 l16 n17 n18 w:=fun X hX=>h X fun s_15 l16 n17 n18 w hb=>hX (s_15,l16,n17,n18,()) w hb
theorem B8:OkT pr false none 42 g5 (L5 (Kt Kv)) (tl 1 (s1 (tl 2 bd))) (P3 Kv):=ok_block 0 (by kernel_rfl) (L5_ok Kv)
abbrev g9:List SE:=[.v 0 .sl,.v 3 .ptr]
def S9 (K:KT) (l_39:Sl) (s_40:Option Addr) (w:World):Prop :=
 L5 K s_40 l_39 ((l_39.n:Nat):Int) 0 w
theorem S9_ok:OkT pr false none 42 g9 (S9 (Kt Kv)) (s1 (tl 2 bd)) (P3 Kv):=ok_group mixed FOk_ 1 (B8 Kv) fun v ρ w=>by kernel_rfl
theorem Q10:OkT pr false none 42 g9 (S9 (Kt Kv)) (tl 2 bd) (P1 Kv):=ok_seq (by kernel_rfl) (S2_ok Kv) (S9_ok Kv)
end tocsinref10_wrong
def tocsinref10_wrong (l_2:Sl) (s_3:Sl) (s_4:Sl) (w:World) (K:tocsinref10_wrong.KT):Prop :=
 G.new (.cells #[s_3.v,s_4.v] 57) w fun p41 w42=>G.cSl p41 w42 fun l43=>C.tocsinref04_Right l43 w42 fun n44 n45 w46=>G.cond (n44 != 0) (K n44 w46) (tocsinref10_wrong.S9 K l_2 (some p41) w46)
def tocsinref10_wrong.cl:CL:=fun args K w=>match args with
 | [.slice x0_a x0_n x0_c,.agg ⟨[.slice x1_0_a x1_0_n x1_0_c,.slice x1_1_a x1_1_n x1_1_c]⟩]=>C.tocsinref10_wrong ⟨x0_a,x0_n,x0_c⟩ ⟨x1_0_a,x1_0_n,x1_0_c⟩ ⟨x1_1_a,x1_1_n,x1_1_c⟩ w (tocsinref10_wrong.Kt K)
 | _=>False
theorem tocsinref10_wrong.clok:OkC pr 54 tocsinref10_wrong.cl:=by
 intro args K w h
 unfold tocsinref10_wrong.cl at h
 split at h
 ·exact calls_group false mixed tocsinref10_wrong.FOk_ tocsinref10_wrong.fn rfl 2 (tocsinref10_wrong.Q10 K) (Eq.mp (by kernel_rfl) h)
 ·exact h.elim
namespace tocsinref01_On
abbrev KT:=Int→World→Prop
def Kt:KT:=fun n1 w=>Kv (.int .u32 n1) w
noncomputable def bd:Code:=bdy Tryz.f118
theorem fn:FnOk pr 118 37 Tryz.f118:=⟨Tryz.func118,by kernel_rfl,Tryz.ntmps118,by kernel_rfl,by kernel_rfl⟩
def F:Clee:=ofL []
theorem FOk_:FOk pr F:=FOk_nil
def P1:Post:=bodyK false pr 37 Tryz.f118 Kv
abbrev g2:List SE:=[.v 5 (.int .u32)]
def S2 (K:KT) (r_4:Int) (w:World):Prop :=
 K (Go.bits .xor .u32 (notK .u32) r_4) w
theorem S2_ok:OkT pr false none 37 g2 (S2 (Kt Kv)) (s2 (tl 2 bd)) (P1 Kv):=ok_last mixed FOk_ fun v ρ w=>by kernel_rfl
def P3:Post:=next (get g2 (S2 (Kt Kv))) (P1 Kv)
def P4:Post:=inBlock 0 (P3 Kv)
abbrev g5:List SE:=[.v 1 .sl,.v 5 (.int .u32),.v 6 (.int .i64)]
def P6 (kc5:Cur g5):Post:=next (get g5 kc5) (P4 Kv)
def S7 (K:KT) (kc5:Cur g5) (b_8:Sl) (r_9:Int) (i_10:Int) (w:World):Prop :=
 kc5 b_8 r_9 (IntKind.i64.wrap (i_10+1)) w
theorem S7_ok (kc5:Cur g5):OkT pr false none 37 g5 (S7 (Kt Kv) kc5) (s2 (tl 1 (lp (blk (tl 1 (s1 (tl 2 bd))))))) (P6 Kv kc5):=ok_last mixed FOk_ fun v ρ w=>by kernel_rfl
def P8 (kc5:Cur g5):Post:=next (get g5 (S7 (Kt Kv) kc5)) (P6 Kv kc5)
def P9 (kc5:Cur g5):Post:=inBlock 1 (P8 Kv kc5)
def P10 (kc5:Cur g5):Post:=inBlock 2 (P9 Kv kc5)
abbrev g11:List SE:=[.v 1 .sl,.v 5 (.int .u32),.v 6 (.int .i64),.v 7 (.int .i64)]
def P12 (kc5:Cur g5) (kc11:Cur g11):Post:=next (get g11 kc11) (P10 Kv kc5)
def S13 (K:KT) (kc5:Cur g5) (kc11:Cur g11) (b_19:Sl) (r_20:Int) (i_21:Int) (k_22:Int) (w:World):Prop :=
 G.cond (decide (k_22<8)) (G.cond ((Go.bits .and .u32 r_20 1)==1) (G.nn 1<|kc11 b_19 (Go.bits .xor .u32 (shr .u32 r_20 1) 2197175160) i_21 (IntKind.i64.wrap (k_22+1)) w) (G.nn 1<|kc11 b_19 (shr .u32 r_20 1) i_21 (IntKind.i64.wrap (k_22+1)) w)) (S7 K kc5 b_19 r_20 i_21 w)
theorem S13_ok (kc5:Cur g5) (kc11:Cur g11):OkT pr false none 37 g11 (S13 (Kt Kv) kc5 kc11) (lp (blk (tl 2 (blk (s1 (tl 1 (lp (blk (tl 1 (s1 (tl 2 bd))))))))))) (P12 Kv kc5 kc11):=ok_last mixed FOk_ fun v ρ w=>by kernel_rfl
def L11 (K:KT) (kc5:Cur g5):Cur g11:=loopC g11 (S13 K kc5)
theorem L11_ok (kc5:Cur g5):OkT pr false none 37 g11 (L11 (Kt Kv) kc5) (blk (tl 2 (blk (s1 (tl 1 (lp (blk (tl 1 (s1 (tl 2 bd)))))))))) (P10 Kv kc5):=ok_loop (B:=S13 (Kt Kv) kc5) (by kernel_rfl) fun kc=>S13_ok Kv kc5 kc
theorem L11_ind {K:KT} {kc5:Cur g5} {b_11:Sl} {r_12:Int} {i_13:Int} {k_14:Int} {w:World} (h:∀ X:Cur g11,(∀ b_11 r_12 i_13 k_14 w,S13 K kc5 X b_11 r_12 i_13 k_14 w→X b_11 r_12 i_13 k_14 w)→X b_11 r_12 i_13 k_14 w):L11 K kc5 b_11 r_12 i_13 k_14 w:=fun X hX=>h X fun b_11 r_12 i_13 k_14 w hb=>hX (b_11,r_12,i_13,k_14,()) w hb
theorem B14 (kc5:Cur g5):OkT pr false none 37 g11 (L11 (Kt Kv) kc5) (tl 2 (blk (s1 (tl 1 (lp (blk (tl 1 (s1 (tl 2 bd))))))))) (P9 Kv kc5):=ok_block 2 (by kernel_rfl) (L11_ok Kv kc5)
def S15 (K:KT) (kc5:Cur g5) (b_23:Sl) (r_24:Int) (i_25:Int) (w:World):Prop :=
 G.ix b_23.a b_23.n i_25 1 fun p26=>G.cI .u8 p26 w fun n27=>L11 K kc5 b_23 (Go.bits .xor .u32 r_24 (IntKind.u32.wrap n27)) i_25 0 w
theorem S15_ok (kc5:Cur g5):OkT pr false none 37 g5 (S15 (Kt Kv) kc5) (blk (s1 (tl 1 (lp (blk (tl 1 (s1 (tl 2 bd)))))))) (P9 Kv kc5):=ok_group mixed FOk_ 2 (B14 Kv kc5) fun v ρ w=>by kernel_rfl
theorem B16 (kc5:Cur g5):OkT pr false none 37 g5 (S15 (Kt Kv) kc5) (s1 (tl 1 (lp (blk (tl 1 (s1 (tl 2 bd))))))) (P8 Kv kc5):=ok_block 1 (by kernel_rfl) (S15_ok Kv kc5)
theorem Q17 (kc5:Cur g5):OkT pr false none 37 g5 (S15 (Kt Kv) kc5) (tl 1 (lp (blk (tl 1 (s1 (tl 2 bd)))))) (P6 Kv kc5):=ok_seq (by kernel_rfl) (S7_ok Kv kc5) (B16 Kv kc5)
def S18 (K:KT) (kc5:Cur g5) (b_28:Sl) (r_29:Int) (i_30:Int) (w:World):Prop :=
 G.cond (decide (i_30<((b_28.n:Nat):Int))) (S15 K kc5 b_28 r_29 i_30 w) (S2 K r_29 w)
theorem S18_ok (kc5:Cur g5):OkT pr false none 37 g5 (S18 (Kt Kv) kc5) (lp (blk (tl 1 (s1 (tl 2 bd))))) (P6 Kv kc5):=ok_group mixed FOk_ 1 (Q17 Kv kc5) fun v ρ w=>by kernel_rfl
def L5 (K:KT):Cur g5:=loopC g5 (S18 K)
theorem L5_ok:OkT pr false none 37 g5 (L5 (Kt Kv)) (blk (tl 1 (s1 (tl 2 bd)))) (P4 Kv):=ok_loop (B:=S18 (Kt Kv)) (by kernel_rfl) fun kc=>S18_ok Kv kc
theorem L5_ind {K:KT} {b_5:Sl} {r_6:Int} {i_7:Int} {w:World} (h:∀ X:Cur g5,(∀ b_5 r_6 i_7 w,S18 K X b_5 r_6 i_7 w→X b_5 r_6 i_7 w)→X b_5 r_6 i_7 w):L5 K b_5 r_6 i_7 w:=fun X hX=>h X fun b_5 r_6 i_7 w hb=>hX (b_5,r_6,i_7,()) w hb
theorem B19:OkT pr false none 37 g5 (L5 (Kt Kv)) (tl 1 (s1 (tl 2 bd))) (P3 Kv):=ok_block 0 (by kernel_rfl) (L5_ok Kv)
abbrev g20:List SE:=[.v 1 .sl,.v 5 (.int .u32)]
def S20 (K:KT) (b_31:Sl) (r_32:Int) (w:World):Prop :=
 L5 K b_31 r_32 0 w
theorem S20_ok:OkT pr false none 37 g20 (S20 (Kt Kv)) (s1 (tl 2 bd)) (P3 Kv):=ok_group mixed FOk_ 1 (B19 Kv) fun v ρ w=>by kernel_rfl
theorem Q21:OkT pr false none 37 g20 (S20 (Kt Kv)) (tl 2 bd) (P1 Kv):=ok_seq (by kernel_rfl) (S2_ok Kv) (S20_ok Kv)
end tocsinref01_On
def tocsinref01_On (sum_2:Int) (b_3:Sl) (w:World) (K:tocsinref01_On.KT):Prop :=
 tocsinref01_On.S20 K b_3 (Go.bits .xor .u32 (notK .u32) sum_2) w
def tocsinref01_On.cl:CL:=fun args K w=>match args with
 | [.int .u32 x0,.slice x1_a x1_n x1_c]=>C.tocsinref01_On x0 ⟨x1_a,x1_n,x1_c⟩ w (tocsinref01_On.Kt K)
 | _=>False
theorem tocsinref01_On.clok:OkC pr 118 tocsinref01_On.cl:=by
 intro args K w h
 unfold tocsinref01_On.cl at h
 split at h
 ·exact calls_group false mixed tocsinref01_On.FOk_ tocsinref01_On.fn rfl 2 (tocsinref01_On.Q21 K) (Eq.mp (by kernel_rfl) h)
 ·exact h.elim
namespace tocsinref01_Sum
abbrev KT:=Int→World→Prop
def Kt:KT:=fun n1 w=>Kv (.int .u32 n1) w
noncomputable def bd:Code:=bdy Tryz.f93
theorem fn:FnOk pr 93 5 Tryz.f93:=⟨Tryz.func93,by kernel_rfl,Tryz.ntmps93,by kernel_rfl,by kernel_rfl⟩
def F:Clee:=ofL [(118,C.tocsinref01_On.cl)]
theorem FOk_:FOk pr F:=FOk_cons C.tocsinref01_On.clok (FOk_nil)
def P1:Post:=bodyK false pr 5 Tryz.f93 Kv
end tocsinref01_Sum
def tocsinref01_Sum (b_2:Sl) (w:World) (K:tocsinref01_Sum.KT):Prop :=
 C.tocsinref01_On 0 b_2 w fun n3 w4=>K n3 w4
def tocsinref01_Sum.cl:CL:=fun args K w=>match args with
 | [.slice x0_a x0_n x0_c]=>C.tocsinref01_Sum ⟨x0_a,x0_n,x0_c⟩ w (tocsinref01_Sum.Kt K)
 | _=>False
theorem tocsinref01_Sum.clok:OkC pr 93 tocsinref01_Sum.cl:=by
 intro args K w h
 unfold tocsinref01_Sum.cl at h
 split at h
 ·exact calls_last false mixed tocsinref01_Sum.FOk_ tocsinref01_Sum.fn rfl (Eq.mp (by kernel_rfl) h)
 ·exact h.elim
namespace tocsinref01_PutFrame
abbrev KT:=Sl→Int→World→Prop
def Kt:KT:=fun l1 n2 w=>Kv (.tuple #[l1.v,(.int .i64 n2)]) w
noncomputable def bd:Code:=bdy Tryz.f56
theorem fn:FnOk pr 56 35 Tryz.f56:=⟨Tryz.func56,by kernel_rfl,Tryz.ntmps56,by kernel_rfl,by kernel_rfl⟩
def F:Clee:=ofL [(55,C.tocsinref01_PutU.cl),(92,C.tocsinref01_joined.cl),(93,C.tocsinref01_Sum.cl)]
theorem FOk_:FOk pr F:=FOk_cons C.tocsinref01_PutU.clok (FOk_cons C.tocsinref01_joined.clok (FOk_cons C.tocsinref01_Sum.clok (FOk_nil)))
def P1:Post:=bodyK false pr 35 Tryz.f56 Kv
end tocsinref01_PutFrame
def tocsinref01_PutFrame (b_3:Sl) (p_4:Sl) (w:World) (K:tocsinref01_PutFrame.KT):Prop :=
 G.cond (decide (((p_4.n:Nat):Int) > 65536)) (K nilS 4 w) (C.tocsinref01_Sum p_4 w fun n7 w8=>C.tocsinref01_PutU b_3 (IntKind.u64.wrap ((p_4.n:Nat):Int)) w8 fun l9 w10=>G.nn 8<|G.nn 16<|G.nn 24<|G.new (.cells #[(.int .u8 (IntKind.u8.wrap n7)),(.int .u8 (IntKind.u8.wrap (shr .u32 n7 8))),(.int .u8 (IntKind.u8.wrap (shr .u32 n7 16))),(.int .u8 (IntKind.u8.wrap (shr .u32 n7 24)))] 5) w10 fun p11 w12=>G.runSl pr (Builtin.append_ #[22,22] 22 #[l9.v,(Sl.v (⟨some p11,4,4⟩:Sl))]) w12 fun l13 w14=>C.tocsinref01_joined l13 p_4 w14 fun l15 w16=>K l15 0 w16)
def tocsinref01_PutFrame.cl:CL:=fun args K w=>match args with
 | [.slice x0_a x0_n x0_c,.slice x1_a x1_n x1_c]=>C.tocsinref01_PutFrame ⟨x0_a,x0_n,x0_c⟩ ⟨x1_a,x1_n,x1_c⟩ w (tocsinref01_PutFrame.Kt K)
 | _=>False
theorem tocsinref01_PutFrame.clok:OkC pr 56 tocsinref01_PutFrame.cl:=by
 intro args K w h
 unfold tocsinref01_PutFrame.cl at h
 split at h
 ·exact calls_last false mixed tocsinref01_PutFrame.FOk_ tocsinref01_PutFrame.fn rfl (Eq.mp (by kernel_rfl) h)
 ·exact h.elim
namespace tocsinref10_Build
abbrev KT:=Sl→Int→Int→World→Prop
def Kt:KT:=fun l1 n2 n3 w=>Kv (.tuple #[l1.v,(.int .i64 n2),(.int .i64 n3)]) w
noncomputable def bd:Code:=bdy Tryz.f18
theorem fn:FnOk pr 18 132 Tryz.f18:=⟨Tryz.func18,by kernel_rfl,Tryz.ntmps18,by kernel_rfl,by kernel_rfl⟩
def F:Clee:=ofL [(19,C.tocsinref10_Sorted.cl),(54,C.tocsinref10_wrong.cl),(55,C.tocsinref01_PutU.cl),(56,C.tocsinref01_PutFrame.cl),(57,C.tocsinref10_frame.cl)]
theorem FOk_:FOk pr F:=FOk_cons C.tocsinref10_Sorted.clok (FOk_cons C.tocsinref10_wrong.clok (FOk_cons C.tocsinref01_PutU.clok (FOk_cons C.tocsinref01_PutFrame.clok (FOk_cons C.tocsinref10_frame.clok (FOk_nil)))))
def P1:Post:=bodyK false pr 132 Tryz.f18 Kv
abbrev g2:List SE:=[.v 15 .sl]
def S2 (K:KT) (b_6:Sl) (w:World):Prop :=
 K b_6 0 0 w
theorem S2_ok:OkT pr false none 132 g2 (S2 (Kt Kv)) (s2 (tl 1 (s2 (tl 1 (s2 (tl 4 bd)))))) (P1 Kv):=ok_last mixed FOk_ fun v ρ w=>by kernel_rfl
def P3:Post:=next (get g2 (S2 (Kt Kv))) (P1 Kv)
def P4:Post:=inBlock 4 (P3 Kv)
abbrev g5:List SE:=[.v 15 .sl,.v 110 .sl,.v 111 (.int .i64),.v 112 (.int .i64)]
def P6 (kc5:Cur g5):Post:=next (get g5 kc5) (P4 Kv)
def S7 (K:KT) (kc5:Cur g5) (b_15:Sl) (l16:Sl) (n17:Int) (n18:Int) (w:World):Prop :=
 G.cond (decide (n18<n17)) (G.ix l16.a l16.n n18 2 fun p19=>G.cSl p19 w fun l20=>G.cSl (p19.add 1) w fun l21=>G.new (.cells #[nilS.v,nilS.v] 57) w fun p22 w23=>G.st p22 l20.v w23 fun w24=>G.st (p22.add 1) l21.v w24 fun w25=>G.cSl p22 w25 fun l26=>G.cSl (p22.add 1) w25 fun l27=>C.tocsinref10_frame l26 l27 w25 fun l28 n29 w30=>C.tocsinref01_PutFrame b_15 l28 w30 fun l31 n32 w33=>G.cond (decide (((l31.n:Nat):Int) > 1048576)) (K nilS 4 0 w33) (kc5 l31 l16 n17 (IntKind.i64.wrap (n18+1)) w33)) (S2 K b_15 w)
theorem S7_ok (kc5:Cur g5):OkT pr false none 132 g5 (S7 (Kt Kv) kc5) (lp (blk (tl 1 (s1 (tl 1 (s2 (tl 1 (s2 (tl 4 bd))))))))) (P6 Kv kc5):=ok_last mixed FOk_ fun v ρ w=>by kernel_rfl
def L5 (K:KT):Cur g5:=loopC g5 (S7 K)
theorem L5_ok:OkT pr false none 132 g5 (L5 (Kt Kv)) (blk (tl 1 (s1 (tl 1 (s2 (tl 1 (s2 (tl 4 bd)))))))) (P4 Kv):=ok_loop (B:=S7 (Kt Kv)) (by kernel_rfl) fun kc=>S7_ok Kv kc
theorem L5_ind {K:KT} {b_7:Sl} {l8:Sl} {n9:Int} {n10:Int} {w:World} (h:∀ X:Cur g5,(∀ b_7 l8 n9 n10 w,S7 K X b_7 l8 n9 n10 w→X b_7 l8 n9 n10 w)→X b_7 l8 n9 n10 w):L5 K b_7 l8 n9 n10 w:=fun X hX=>h X fun b_7 l8 n9 n10 w hb=>hX (b_7,l8,n9,n10,()) w hb
theorem B8:OkT pr false none 132 g5 (L5 (Kt Kv)) (tl 1 (s1 (tl 1 (s2 (tl 1 (s2 (tl 4 bd))))))) (P3 Kv):=ok_block 4 (by kernel_rfl) (L5_ok Kv)
abbrev g9:List SE:=[.v 0 .sl,.v 15 .sl]
def S9 (K:KT) (l_34:Sl) (b_35:Sl) (w:World):Prop :=
 C.tocsinref10_Sorted l_34 w fun l36 w37=>L5 K b_35 l36 ((l36.n:Nat):Int) 0 w37
theorem S9_ok:OkT pr false none 132 g9 (S9 (Kt Kv)) (s1 (tl 1 (s2 (tl 1 (s2 (tl 4 bd)))))) (P3 Kv):=ok_group mixed FOk_ 1 (B8 Kv) fun v ρ w=>by kernel_rfl
theorem Q10:OkT pr false none 132 g9 (S9 (Kt Kv)) (tl 1 (s2 (tl 1 (s2 (tl 4 bd))))) (P1 Kv):=ok_seq (by kernel_rfl) (S2_ok Kv) (S9_ok Kv)
abbrev g11:List SE:=[.v 0 .sl,.v 12 .sl]
def S11 (K:KT) (l_38:Sl) (head_39:Sl) (w:World):Prop :=
 G.new (.cells #[(.int .u8 84),(.int .u8 79),(.int .u8 67),(.int .u8 66),(.int .u8 76),(.int .u8 75),(.int .u8 48),(.int .u8 49)] 5) w fun p40 w41=>G.runSl pr (Go.convert 22 22 (Sl.v (⟨some p40,8,8⟩:Sl))) w41 fun l42 w43=>C.tocsinref01_PutFrame l42 head_39 w43 fun l44 n45 w46=>S9 K l_38 l44 w46
theorem S11_ok:OkT pr false none 132 g11 (S11 (Kt Kv)) (s2 (tl 1 (s2 (tl 4 bd)))) (P1 Kv):=ok_group mixed FOk_ 1 (Q10 Kv) fun v ρ w=>by kernel_rfl
def P12:Post:=next (get g11 (S11 (Kt Kv))) (P1 Kv)
def P13:Post:=inBlock 2 (P12 Kv)
abbrev g14:List SE:=[.v 0 .sl,.v 12 .sl,.v 92 .sl,.v 93 (.int .i64),.v 94 (.int .i64)]
def P15 (kc14:Cur g14):Post:=next (get g14 kc14) (P13 Kv)
def S16 (K:KT) (kc14:Cur g14) (l_57:Sl) (head_58:Sl) (l59:Sl) (n60:Int) (n61:Int) (w:World):Prop :=
 G.cond (decide (n61<n60)) (G.ix l59.a l59.n n61 1 fun p62=>G.cI .u64 p62 w fun n63=>C.tocsinref01_PutU head_58 n63 w fun l64 w65=>kc14 l_57 l64 l59 n60 (IntKind.i64.wrap (n61+1)) w65) (S11 K l_57 head_58 w)
theorem S16_ok (kc14:Cur g14):OkT pr false none 132 g14 (S16 (Kt Kv) kc14) (lp (blk (tl 1 (s1 (tl 1 (s2 (tl 4 bd))))))) (P15 Kv kc14):=ok_last mixed FOk_ fun v ρ w=>by kernel_rfl
def L14 (K:KT):Cur g14:=loopC g14 (S16 K)
theorem L14_ok:OkT pr false none 132 g14 (L14 (Kt Kv)) (blk (tl 1 (s1 (tl 1 (s2 (tl 4 bd)))))) (P13 Kv):=ok_loop (B:=S16 (Kt Kv)) (by kernel_rfl) fun kc=>S16_ok Kv kc
theorem L14_ind {K:KT} {l_47:Sl} {head_48:Sl} {l49:Sl} {n50:Int} {n51:Int} {w:World} (h:∀ X:Cur g14,(∀ l_47 head_48 l49 n50 n51 w,S16 K X l_47 head_48 l49 n50 n51 w→X l_47 head_48 l49 n50 n51 w)→X l_47 head_48 l49 n50 n51 w):L14 K l_47 head_48 l49 n50 n51 w:=fun X hX=>h X fun l_47 head_48 l49 n50 n51 w hb=>hX (l_47,head_48,l49,n50,n51,()) w hb
theorem B17:OkT pr false none 132 g14 (L14 (Kt Kv)) (tl 1 (s1 (tl 1 (s2 (tl 4 bd))))) (P12 Kv):=ok_block 2 (by kernel_rfl) (L14_ok Kv)
abbrev g18:List SE:=[.v 0 .sl,.v 5 (.int .i64),.v 6 (.int .i64),.v 7 (.int .i64),.v 12 .sl]
def S18 (K:KT) (l_66:Sl) (count_67:Int) (lo_68:Int) (hi_69:Int) (head_70:Sl) (w:World):Prop :=
 G.new (.cells #[(.int .u64 (IntKind.u64.wrap ((l_66.n:Nat):Int))),(.int .u64 (IntKind.u64.wrap count_67)),(.int .u64 (IntKind.u64.wrap lo_68)),(.int .u64 (IntKind.u64.wrap hi_69))] 105) w fun p71 w72=>L14 K l_66 head_70 (⟨some p71,4,4⟩:Sl) (((⟨some p71,4,4⟩:Sl).n:Nat):Int) 0 w72
theorem S18_ok:OkT pr false none 132 g18 (S18 (Kt Kv)) (s1 (tl 1 (s2 (tl 4 bd)))) (P12 Kv):=ok_group mixed FOk_ 1 (B17 Kv) fun v ρ w=>by kernel_rfl
theorem Q19:OkT pr false none 132 g18 (S18 (Kt Kv)) (tl 1 (s2 (tl 4 bd))) (P1 Kv):=ok_seq (by kernel_rfl) (S11_ok Kv) (S18_ok Kv)
abbrev g20:List SE:=[.v 0 .sl,.v 5 (.int .i64),.v 6 (.int .i64),.v 7 (.int .i64)]
def S20 (K:KT) (l_73:Sl) (count_74:Int) (lo_75:Int) (hi_76:Int) (w:World):Prop :=
 S18 K l_73 count_74 lo_75 hi_76 nilS w
theorem S20_ok:OkT pr false none 132 g20 (S20 (Kt Kv)) (s2 (tl 4 bd)) (P1 Kv):=ok_group mixed FOk_ 1 (Q19 Kv) fun v ρ w=>by kernel_rfl
def P21:Post:=next (get g20 (S20 (Kt Kv))) (P1 Kv)
def P22:Post:=inBlock 0 (P21 Kv)
abbrev g23:List SE:=[.v 0 .sl,.v 5 (.int .i64),.v 6 (.int .i64),.v 7 (.int .i64),.v 24 .sl,.v 25 (.int .i64),.v 26 (.int .i64)]
def P24 (kc23:Cur g23):Post:=next (get g23 kc23) (P22 Kv)
def S25 (K:KT) (kc23:Cur g23) (l_91:Sl) (count_92:Int) (lo_93:Int) (hi_94:Int) (l95:Sl) (n96:Int) (n97:Int) (w:World):Prop :=
 G.cond (decide (n97<n96)) (G.ix l95.a l95.n n97 2 fun p98=>G.cSl p98 w fun l99=>G.cSl (p98.add 1) w fun l100=>G.new (.cells #[nilS.v,nilS.v] 57) w fun p101 w102=>G.st p101 l99.v w102 fun w103=>G.st (p101.add 1) l100.v w103 fun w104=>G.slc l_91 0 n97 2 fun l105=>G.cSl p101 w104.drew fun l106=>G.cSl (p101.add 1) w104.drew fun l107=>C.tocsinref10_wrong l105 l106 l107 w104.drew fun n108 w109=>G.cond (n108 != 0) (K nilS n108 n97 w109) (G.cSl (p101.add 1) w109 fun l110=>G.cond (n97==0) (G.cSl (p101.add 1) w109 fun l111=>G.ix l111.a l111.n 0 2 fun p112=>G.cI .i64 p112 w109 fun n113=>G.cond (n97==0) (G.cSl (p101.add 1) w109 fun l114=>G.ix l114.a l114.n (IntKind.i64.wrap (((l110.n:Nat):Int)-1)) 2 fun p115=>G.cI .i64 p115 w109 fun n116=>kc23 l_91 (IntKind.i64.wrap (count_92+((l110.n:Nat):Int))) n113 n116 l95 n96 (IntKind.i64.wrap (n97+1)) w109) (G.cSl (p101.add 1) w109 fun l117=>G.ix l117.a l117.n (IntKind.i64.wrap (((l110.n:Nat):Int)-1)) 2 fun p118=>G.cI .i64 p118 w109 fun n119=>G.cond (decide (n119 > hi_94)) (G.cSl (p101.add 1) w109 fun l120=>G.ix l120.a l120.n (IntKind.i64.wrap (((l110.n:Nat):Int)-1)) 2 fun p121=>G.cI .i64 p121 w109 fun n122=>kc23 l_91 (IntKind.i64.wrap (count_92+((l110.n:Nat):Int))) n113 n122 l95 n96 (IntKind.i64.wrap (n97+1)) w109) (kc23 l_91 (IntKind.i64.wrap (count_92+((l110.n:Nat):Int))) n113 hi_94 l95 n96 (IntKind.i64.wrap (n97+1)) w109))) (G.cSl (p101.add 1) w109 fun l123=>G.ix l123.a l123.n 0 2 fun p124=>G.cI .i64 p124 w109 fun n125=>G.cond (decide (n125<lo_93)) (G.cSl (p101.add 1) w109 fun l126=>G.ix l126.a l126.n 0 2 fun p127=>G.cI .i64 p127 w109 fun n128=>G.cond (n97==0) (G.cSl (p101.add 1) w109 fun l129=>G.ix l129.a l129.n (IntKind.i64.wrap (((l110.n:Nat):Int)-1)) 2 fun p130=>G.cI .i64 p130 w109 fun n131=>kc23 l_91 (IntKind.i64.wrap (count_92+((l110.n:Nat):Int))) n128 n131 l95 n96 (IntKind.i64.wrap (n97+1)) w109) (G.cSl (p101.add 1) w109 fun l132=>G.ix l132.a l132.n (IntKind.i64.wrap (((l110.n:Nat):Int)-1)) 2 fun p133=>G.cI .i64 p133 w109 fun n134=>G.cond (decide (n134 > hi_94)) (G.cSl (p101.add 1) w109 fun l135=>G.ix l135.a l135.n (IntKind.i64.wrap (((l110.n:Nat):Int)-1)) 2 fun p136=>G.cI .i64 p136 w109 fun n137=>kc23 l_91 (IntKind.i64.wrap (count_92+((l110.n:Nat):Int))) n128 n137 l95 n96 (IntKind.i64.wrap (n97+1)) w109) (kc23 l_91 (IntKind.i64.wrap (count_92+((l110.n:Nat):Int))) n128 hi_94 l95 n96 (IntKind.i64.wrap (n97+1)) w109))) (G.cond (n97==0) (G.cSl (p101.add 1) w109 fun l138=>G.ix l138.a l138.n (IntKind.i64.wrap (((l110.n:Nat):Int)-1)) 2 fun p139=>G.cI .i64 p139 w109 fun n140=>kc23 l_91 (IntKind.i64.wrap (count_92+((l110.n:Nat):Int))) lo_93 n140 l95 n96 (IntKind.i64.wrap (n97+1)) w109) (G.cSl (p101.add 1) w109 fun l141=>G.ix l141.a l141.n (IntKind.i64.wrap (((l110.n:Nat):Int)-1)) 2 fun p142=>G.cI .i64 p142 w109 fun n143=>G.cond (decide (n143 > hi_94)) (G.cSl (p101.add 1) w109 fun l144=>G.ix l144.a l144.n (IntKind.i64.wrap (((l110.n:Nat):Int)-1)) 2 fun p145=>G.cI .i64 p145 w109 fun n146=>kc23 l_91 (IntKind.i64.wrap (count_92+((l110.n:Nat):Int))) lo_93 n146 l95 n96 (IntKind.i64.wrap (n97+1)) w109) (kc23 l_91 (IntKind.i64.wrap (count_92+((l110.n:Nat):Int))) lo_93 hi_94 l95 n96 (IntKind.i64.wrap (n97+1)) w109)))))) (S20 K l_91 count_92 lo_93 hi_94 w)
theorem S25_ok (kc23:Cur g23):OkT pr false none 132 g23 (S25 (Kt Kv) kc23) (lp (blk (tl 1 (s1 (tl 4 bd))))) (P24 Kv kc23):=ok_last mixed FOk_ fun v ρ w=>by kernel_rfl
def L23 (K:KT):Cur g23:=loopC g23 (S25 K)
theorem L23_ok:OkT pr false none 132 g23 (L23 (Kt Kv)) (blk (tl 1 (s1 (tl 4 bd)))) (P22 Kv):=ok_loop (B:=S25 (Kt Kv)) (by kernel_rfl) fun kc=>S25_ok Kv kc
theorem L23_ind {K:KT} {l_77:Sl} {count_78:Int} {lo_79:Int} {hi_80:Int} {l81:Sl} {n82:Int} {n83:Int} {w:World} (h:∀ X:Cur g23,(∀ l_77 count_78 lo_79 hi_80 l81 n82 n83 w,S25 K X l_77 count_78 lo_79 hi_80 l81 n82 n83 w→X l_77 count_78 lo_79 hi_80 l81 n82 n83 w)→X l_77 count_78 lo_79 hi_80 l81 n82 n83 w):L23 K l_77 count_78 lo_79 hi_80 l81 n82 n83 w:=fun X hX=>h X fun l_77 count_78 lo_79 hi_80 l81 n82 n83 w hb=>hX (l_77,count_78,lo_79,hi_80,l81,n82,n83,()) w hb
theorem B26:OkT pr false none 132 g23 (L23 (Kt Kv)) (tl 1 (s1 (tl 4 bd))) (P21 Kv):=ok_block 0 (by kernel_rfl) (L23_ok Kv)
def S27 (K:KT) (l_147:Sl) (count_148:Int) (lo_149:Int) (hi_150:Int) (w:World):Prop :=
 L23 K l_147 count_148 lo_149 hi_150 l_147 ((l_147.n:Nat):Int) 0 w
theorem S27_ok:OkT pr false none 132 g20 (S27 (Kt Kv)) (s1 (tl 4 bd)) (P21 Kv):=ok_group mixed FOk_ 1 (B26 Kv) fun v ρ w=>by kernel_rfl
theorem Q28:OkT pr false none 132 g20 (S27 (Kt Kv)) (tl 4 bd) (P1 Kv):=ok_seq (by kernel_rfl) (S20_ok Kv) (S27_ok Kv)
end tocsinref10_Build
def tocsinref10_Build (l_4:Sl) (w:World) (K:tocsinref10_Build.KT):Prop :=
 G.cond (decide (((l_4.n:Nat):Int) > 1000)) (K nilS 8 0 w) (tocsinref10_Build.S27 K l_4 0 0 0 w)
def tocsinref10_Build.cl:CL:=fun args K w=>match args with
 | [.slice x0_a x0_n x0_c]=>C.tocsinref10_Build ⟨x0_a,x0_n,x0_c⟩ w (tocsinref10_Build.Kt K)
 | _=>False
theorem tocsinref10_Build.clok:OkC pr 18 tocsinref10_Build.cl:=by
 intro args K w h
 unfold tocsinref10_Build.cl at h
 split at h
 ·exact calls_group false mixed tocsinref10_Build.FOk_ tocsinref10_Build.fn rfl 4 (tocsinref10_Build.Q28 K) (Eq.mp (by kernel_rfl) h)
 ·exact h.elim
namespace slices_IndexFunc_Sample_Sample
abbrev KT:=Int→World→Prop
def Kt:KT:=fun n1 w=>Kv (.int .i64 n1) w
noncomputable def bd:Code:=bdy Tryz.f109
theorem fn:FnOk pr 109 19 Tryz.f109:=⟨Tryz.func109,by kernel_rfl,Tryz.ntmps109,by kernel_rfl,by kernel_rfl⟩
def F:Clee:=ofL [(48,C.block_Block_All_1.cl),(71,C.block_compare.cl),(76,C.block_Trim_1.cl),(135,C.labels_Compare_1.cl)]
theorem FOk_:FOk pr F:=FOk_cons C.block_Block_All_1.clok (FOk_cons C.block_compare.clok (FOk_cons C.block_Trim_1.clok (FOk_cons C.labels_Compare_1.clok (FOk_nil))))
def P1:Post:=bodyK false pr 19 Tryz.f109 Kv
abbrev g2:List SE:=[]
def S2 (K:KT) (w:World):Prop :=
 K (-1:Int) w
theorem S2_ok:OkT pr false none 19 g2 (S2 (Kt Kv)) (s2 (tl 1 bd)) (P1 Kv):=ok_last mixed FOk_ fun v ρ w=>by kernel_rfl
def P3:Post:=next (get g2 (S2 (Kt Kv))) (P1 Kv)
def P4:Post:=inBlock 0 (P3 Kv)
abbrev g5:List SE:=[.v 0 .sl,.v 1 .raw,.v 7 (.int .i64),.v 8 (.int .i64)]
def P6 (kc5:Cur g5):Post:=next (get g5 kc5) (P4 Kv)
def S7 (K:KT) (kc5:Cur g5) (s_12:Sl) (f_13:Value) (n14:Int) (n15:Int) (w:World):Prop :=
 G.cond (decide (n15<n14)) (G.ix s_12.a s_12.n n15 2 fun p16=>G.cI .i64 p16 w fun n17=>G.cF .f64 (p16.add 1) w fun f18=>G.callV pr F f_13 [(.agg #[(.int .i64 n17),(.float .f64 f18)])] w fun v19 w20=>G.isB v19 fun b21=>G.cond b21 (K n15 w20) (kc5 s_12 f_13 n14 (IntKind.i64.wrap (n15+1)) w20)) (S2 K w)
theorem S7_ok (kc5:Cur g5):OkT pr false none 19 g5 (S7 (Kt Kv) kc5) (lp (blk (tl 1 (s1 (tl 1 bd))))) (P6 Kv kc5):=ok_last mixed FOk_ fun v ρ w=>by kernel_rfl
def L5 (K:KT):Cur g5:=loopC g5 (S7 K)
theorem L5_ok:OkT pr false none 19 g5 (L5 (Kt Kv)) (blk (tl 1 (s1 (tl 1 bd)))) (P4 Kv):=ok_loop (B:=S7 (Kt Kv)) (by kernel_rfl) fun kc=>S7_ok Kv kc
theorem L5_ind {K:KT} {s_4:Sl} {f_5:Value} {n6:Int} {n7:Int} {w:World} (h:∀ X:Cur g5,(∀ s_4 f_5 n6 n7 w,S7 K X s_4 f_5 n6 n7 w→X s_4 f_5 n6 n7 w)→X s_4 f_5 n6 n7 w):L5 K s_4 f_5 n6 n7 w:=fun X hX=>h X fun s_4 f_5 n6 n7 w hb=>hX (s_4,f_5,n6,n7,()) w hb
theorem B8:OkT pr false none 19 g5 (L5 (Kt Kv)) (tl 1 (s1 (tl 1 bd))) (P3 Kv):=ok_block 0 (by kernel_rfl) (L5_ok Kv)
abbrev g9:List SE:=[.v 0 .sl,.v 1 .raw]
def S9 (K:KT) (s_22:Sl) (f_23:Value) (w:World):Prop :=
 L5 K s_22 f_23 ((s_22.n:Nat):Int) 0 w
theorem S9_ok:OkT pr false none 19 g9 (S9 (Kt Kv)) (s1 (tl 1 bd)) (P3 Kv):=ok_group mixed FOk_ 1 (B8 Kv) fun v ρ w=>by kernel_rfl
theorem Q10:OkT pr false none 19 g9 (S9 (Kt Kv)) (tl 1 bd) (P1 Kv):=ok_seq (by kernel_rfl) (S2_ok Kv) (S9_ok Kv)
end slices_IndexFunc_Sample_Sample
def slices_IndexFunc_Sample_Sample (s_2:Sl) (f_3:Value) (w:World) (K:slices_IndexFunc_Sample_Sample.KT):Prop :=
 slices_IndexFunc_Sample_Sample.S9 K s_2 f_3 w
def slices_IndexFunc_Sample_Sample.cl:CL:=fun args K w=>match args with
 | [.slice x0_a x0_n x0_c,x1]=>C.slices_IndexFunc_Sample_Sample ⟨x0_a,x0_n,x0_c⟩ x1 w (slices_IndexFunc_Sample_Sample.Kt K)
 | _=>False
theorem slices_IndexFunc_Sample_Sample.clok:OkC pr 109 slices_IndexFunc_Sample_Sample.cl:=by
 intro args K w h
 unfold slices_IndexFunc_Sample_Sample.cl at h
 split at h
 ·exact calls_group false mixed slices_IndexFunc_Sample_Sample.FOk_ slices_IndexFunc_Sample_Sample.fn rfl 1 (slices_IndexFunc_Sample_Sample.Q10 K) (Eq.mp (by kernel_rfl) h)
 ·exact h.elim
namespace slices_DeleteFunc_Sample_Sample
abbrev KT:=Sl→World→Prop
def Kt:KT:=fun l1 w=>Kv l1.v w
noncomputable def bd:Code:=bdy Tryz.f75
theorem fn:FnOk pr 75 42 Tryz.f75:=⟨Tryz.func75,by kernel_rfl,Tryz.ntmps75,by kernel_rfl,by kernel_rfl⟩
def F:Clee:=ofL [(48,C.block_Block_All_1.cl),(71,C.block_compare.cl),(76,C.block_Trim_1.cl),(109,C.slices_IndexFunc_Sample_Sample.cl),(135,C.labels_Compare_1.cl)]
theorem FOk_:FOk pr F:=FOk_cons C.block_Block_All_1.clok (FOk_cons C.block_compare.clok (FOk_cons C.block_Trim_1.clok (FOk_cons C.slices_IndexFunc_Sample_Sample.clok (FOk_cons C.labels_Compare_1.clok (FOk_nil)))))
def P1:Post:=bodyK false pr 42 Tryz.f75 Kv
abbrev g2:List SE:=[.v 0 .sl,.v 5 (.int .i64)]
def S2 (K:KT) (s_4:Sl) (i_5:Int) (w:World):Prop :=
 G.slc s_4 i_5 ((s_4.n:Nat):Int) 2 fun l6=>G.run pr (Builtin.clear_ #[52] 0 #[l6.v]) w fun v7 w8=>G.slc s_4 0 i_5 2 fun l9=>K l9 w8
theorem S2_ok:OkT pr false none 42 g2 (S2 (Kt Kv)) (s2 (tl 3 bd)) (P1 Kv):=ok_last mixed FOk_ fun v ρ w=>by kernel_rfl
def P3:Post:=next (get g2 (S2 (Kt Kv))) (P1 Kv)
def P4:Post:=inBlock 0 (P3 Kv)
abbrev g5:List SE:=[.v 0 .sl,.v 1 .raw,.v 5 (.int .i64),.v 6 (.int .i64)]
def P6 (kc5:Cur g5):Post:=next (get g5 kc5) (P4 Kv)
def S7 (K:KT) (kc5:Cur g5) (s_18:Sl) (del_19:Value) (i_20:Int) (j_21:Int) (w:World):Prop :=
 G.cond (decide (j_21<((s_18.n:Nat):Int))) (G.ix s_18.a s_18.n j_21 2 fun p22=>G.cI .i64 p22 w fun n23=>G.cF .f64 (p22.add 1) w fun f24=>G.new (.cells #[(.int .i64 0),(.float .f64 0)] 96) w fun p25 w26=>G.st p25 (.int .i64 n23) w26 fun w27=>G.st (p25.add 1) (.float .f64 f24) w27 fun w28=>G.cI .i64 p25 w28 fun n29=>G.cF .f64 (p25.add 1) w28 fun f30=>G.callV pr F del_19 [(.agg #[(.int .i64 n29),(.float .f64 f30)])] w28 fun v31 w32=>G.isB v31 fun b33=>G.cond (!b33) (G.cI .i64 p25 w32 fun n34=>G.cF .f64 (p25.add 1) w32 fun f35=>G.ix s_18.a s_18.n i_20 2 fun p36=>G.st p36 (.int .i64 n34) w32 fun w37=>G.st (p36.add 1) (.float .f64 f35) w37 fun w38=>kc5 s_18 del_19 (IntKind.i64.wrap (i_20+1)) (IntKind.i64.wrap (j_21+1)) w38) (kc5 s_18 del_19 i_20 (IntKind.i64.wrap (j_21+1)) w32)) (S2 K s_18 i_20 w)
theorem S7_ok (kc5:Cur g5):OkT pr false none 42 g5 (S7 (Kt Kv) kc5) (lp (blk (tl 1 (s1 (tl 3 bd))))) (P6 Kv kc5):=ok_last mixed FOk_ fun v ρ w=>by kernel_rfl
def L5 (K:KT):Cur g5:=loopC g5 (S7 K)
theorem L5_ok:OkT pr false none 42 g5 (L5 (Kt Kv)) (blk (tl 1 (s1 (tl 3 bd)))) (P4 Kv):=ok_loop (B:=S7 (Kt Kv)) (by kernel_rfl) fun kc=>S7_ok Kv kc
theorem L5_ind {K:KT} {s_10:Sl} {del_11:Value} {i_12:Int} {j_13:Int} {w:World} (h:∀ X:Cur g5,(∀ s_10 del_11 i_12 j_13 w,S7 K X s_10 del_11 i_12 j_13 w→X s_10 del_11 i_12 j_13 w)→X s_10 del_11 i_12 j_13 w):L5 K s_10 del_11 i_12 j_13 w:=fun X hX=>h X fun s_10 del_11 i_12 j_13 w hb=>hX (s_10,del_11,i_12,j_13,()) w hb
theorem B8:OkT pr false none 42 g5 (L5 (Kt Kv)) (tl 1 (s1 (tl 3 bd))) (P3 Kv):=ok_block 0 (by kernel_rfl) (L5_ok Kv)
abbrev g9:List SE:=[.v 0 .sl,.v 1 .raw,.v 5 (.int .i64)]
def S9 (K:KT) (s_39:Sl) (del_40:Value) (i_41:Int) (w:World):Prop :=
 L5 K s_39 del_40 i_41 (IntKind.i64.wrap (i_41+1)) w
theorem S9_ok:OkT pr false none 42 g9 (S9 (Kt Kv)) (s1 (tl 3 bd)) (P3 Kv):=ok_group mixed FOk_ 1 (B8 Kv) fun v ρ w=>by kernel_rfl
theorem Q10:OkT pr false none 42 g9 (S9 (Kt Kv)) (tl 3 bd) (P1 Kv):=ok_seq (by kernel_rfl) (S2_ok Kv) (S9_ok Kv)
end slices_DeleteFunc_Sample_Sample
def slices_DeleteFunc_Sample_Sample (s_2:Sl) (del_3:Value) (w:World) (K:slices_DeleteFunc_Sample_Sample.KT):Prop :=
 C.slices_IndexFunc_Sample_Sample s_2 del_3 w fun n42 w43=>G.cond (n42==(-1:Int)) (K s_2 w43) (slices_DeleteFunc_Sample_Sample.S9 K s_2 del_3 n42 w43)
def slices_DeleteFunc_Sample_Sample.cl:CL:=fun args K w=>match args with
 | [.slice x0_a x0_n x0_c,x1]=>C.slices_DeleteFunc_Sample_Sample ⟨x0_a,x0_n,x0_c⟩ x1 w (slices_DeleteFunc_Sample_Sample.Kt K)
 | _=>False
theorem slices_DeleteFunc_Sample_Sample.clok:OkC pr 75 slices_DeleteFunc_Sample_Sample.cl:=by
 intro args K w h
 unfold slices_DeleteFunc_Sample_Sample.cl at h
 split at h
 ·exact calls_group false mixed slices_DeleteFunc_Sample_Sample.FOk_ slices_DeleteFunc_Sample_Sample.fn rfl 3 (slices_DeleteFunc_Sample_Sample.Q10 K) (Eq.mp (by kernel_rfl) h)
 ·exact h.elim
namespace block_Trim
abbrev KT:=Sl→Int→World→Prop
def Kt:KT:=fun l1 n2 w=>Kv (.tuple #[l1.v,(.int .i64 n2)]) w
noncomputable def bd:Code:=bdy Tryz.f36
theorem fn:FnOk pr 36 37 Tryz.f36:=⟨Tryz.func36,by kernel_rfl,Tryz.ntmps36,by kernel_rfl,by kernel_rfl⟩
def F:Clee:=ofL [(14,C.block_Block_All.cl),(33,C.block_Build.cl),(75,C.slices_DeleteFunc_Sample_Sample.cl)]
theorem FOk_:FOk pr F:=FOk_cons C.block_Block_All.clok (FOk_cons C.block_Build.clok (FOk_cons C.slices_DeleteFunc_Sample_Sample.clok (FOk_nil)))
def Fc:Clee:=ofL [(48,C.block_Block_All_1.cl),(71,C.block_compare.cl),(76,C.block_Trim_1.cl),(135,C.labels_Compare_1.cl)]
theorem FcOk:FOkB pr Fc:=FOkB_cons C.block_Block_All_1.clok (FOkB_cons C.block_compare.clok (FOkB_cons C.block_Trim_1.clok (FOkB_cons C.labels_Compare_1.clok (FOkB_nil))))
def P1:Post:=bodyK true pr 37 Tryz.f36 Kv
abbrev g2:List SE:=[.v 6 .ptr,.v 37 .raw]
def S2 (K:KT) (out_8:Option Addr) (v9:Value) (w:World):Prop :=
 G.ptr out_8 fun p10=>G.cSl p10 w fun l11=>C.block_Build l11 w fun l12 n13 n14 w15=>G.marks v9 w15 fun w16=>K l12 n13 w16
theorem S2_ok:OkT pr true none 37 g2 (S2 (Kt Kv)) (s2 (tl 3 bd)) (P1 Kv):=ok_last mixed FOk_ fun v ρ w=>by kernel_rfl
def P3:Post:=next (get g2 (S2 (Kt Kv))) (P1 Kv)
def P4:Post:=inBlock 0 (P3 Kv)
abbrev g5:List SE:=[.v 3 .ptr,.v 6 .ptr,.v 14 .raw,.v 37 .raw]
def P6 (Rr:Exit→World→Prop):Post:=RP Rr
abbrev g7:List SE:=[.v 3 .ptr,.v 6 .ptr,.v 7 .ptr]
def S7 (Rr:Exit→World→Prop) (from_21:Option Addr) (out_22:Option Addr) (s_23:Option Addr) (w:World):Prop :=
 G.ptr s_23 fun p24=>G.cSl (p24.add 1) w fun l25=>C.slices_DeleteFunc_Sample_Sample l25 (Value.func (.func 76) #[] #[(.pointer from_21)]) w fun l26 w27=>G.ptr s_23 fun p28=>G.st (p28.add 1) l26.v w27 fun w29=>G.ptr s_23 fun p30=>G.cSl (p30.add 1) w29 fun l31=>G.cond (decide (((l31.n:Nat):Int) > 0)) (G.ptr out_22 fun p32=>G.cSl p32 w29 fun l33=>G.ptr s_23 fun p34=>G.cSl p34 w29 fun l35=>G.cSl (p34.add 1) w29 fun l36=>G.new (.cells #[l35.v,l36.v] 57) w29 fun p37 w38=>G.runSl pr (Builtin.append_ #[27,27] 27 #[l33.v,(Sl.v (⟨some p37,1,1⟩:Sl))]) w38 fun l39 w40=>G.ptr out_22 fun p41=>G.st p41 l39.v w40 fun w42=>Rr .normal w42) (Rr .normal w29)
theorem S7_ok (Rr:Exit→World→Prop) {ro:Option Nat}:OkT pr false ro 37 g7 (S7 Rr) (rbd (blk (tl 1 (s1 (tl 3 bd))))) (P6 Rr):=ok_last mixed FOk_ fun v ρ w=>by kernel_rfl
def B_R5 (from_17:Option Addr) (out_18:Option Addr) (v19:Value) (v20:Value) (args:List Value) (wb:World) (bz:(World→Prop)→World→Prop) (Rr:Exit→World→Prop):Prop:=match args with
 | [.agg ⟨[.slice y_43_a y_43_n y_43_c,.slice y_44_a y_44_n y_44_c]⟩]=>G.new (.cells #[nilS.v,nilS.v] 57) wb fun p45 w46=>G.st p45 (⟨y_43_a,y_43_n,y_43_c⟩:Sl).v w46 fun w47=>G.st (p45.add 1) (⟨y_44_a,y_44_n,y_44_c⟩:Sl).v w47 fun w48=>bz (S7 Rr from_17 out_18 (some p45)) w48
 | _=>False
def O_R5 (K:KT) (from_17:Option Addr) (out_18:Option Addr) (v19:Value) (v20:Value) (e:Exit) (D:Nat) (w:World):Prop:=match e with
 | .normal=>S2 K out_18 (pushMark v20 D) w
 | _=>False
def R5 (K:KT) (from_17:Option Addr) (out_18:Option Addr) (v19:Value) (v20:Value) (w:World):Prop :=
 G.rangeW Fc v19 pr (B_R5 from_17 out_18 v19 v20) w (O_R5 K from_17 out_18 v19 v20)
theorem R5_ok:OkT pr true none 37 g5 (R5 (Kt Kv)) (blk (tl 1 (s1 (tl 3 bd)))) (P4 Kv):=by
 refine ok_rangeW mixed FOk_ FcOk (s:=14) (ps:=#[15]) (Bt:=fun v=>B_R5 v.1 v.2.1 v.2.2.1 v.2.2.2.1) (kB:=fun Rr=>S7 Rr) (sgB:=g7) (out:=fun v=>O_R5 (Kt Kv) v.1 v.2.1 v.2.2.1 v.2.2.2.1) (by kernel_rfl) (fun v ρ w=>by kernel_rfl) ?_ (fun Rr l=>S7_ok Rr) ?_
 ·intro v ρ args w bz Rr h
  have h':B_R5 v.1 v.2.1 v.2.2.1 v.2.2.2.1 args w bz Rr:=h
  unfold B_R5 at h'
  split at h'
  ·exact ⟨rfl,Eq.mp (by kernel_rfl) h'⟩
  ·exact h'.elim
 ·intro v ρ e D w h
  cases e with
  | normal=>exact Eq.mp (by kernel_rfl) h
  | _=>exact h.elim
theorem B8:OkT pr true none 37 g5 (R5 (Kt Kv)) (tl 1 (s1 (tl 3 bd))) (P3 Kv):=ok_block 0 (by kernel_rfl) (R5_ok Kv)
abbrev g9:List SE:=[.v 0 .ptr,.v 3 .ptr,.v 6 .ptr,.v 37 .raw]
def S9 (K:KT) (b_49:Option Addr) (from_50:Option Addr) (out_51:Option Addr) (v52:Value) (w:World):Prop :=
 C.block_Block_All b_49 w fun v53 w54=>R5 K from_50 out_51 v53 v52 w54
theorem S9_ok:OkT pr true none 37 g9 (S9 (Kt Kv)) (s1 (tl 3 bd)) (P3 Kv):=ok_group mixed FOk_ 1 (B8 Kv) fun v ρ w=>by kernel_rfl
theorem Q10:OkT pr true none 37 g9 (S9 (Kt Kv)) (tl 3 bd) (P1 Kv):=ok_seq (by kernel_rfl) (S2_ok Kv) (S9_ok Kv)
end block_Trim
def block_Trim (b_3:Option Addr) (from_4:Int) (w:World) (K:block_Trim.KT):Prop :=
 G.new (.cells #[(.int .i64 from_4)] 2) w fun p55 w56=>G.cond b_3.isNone (K nilS 2 w56) (G.new (.cells #[nilS.v] 27) w56 fun p57 w58=>block_Trim.S9 K b_3 (some p55) (some p57) undef w58)
def block_Trim.cl:CL:=fun args K w=>match args with
 | [.pointer x0,.int .i64 x1]=>C.block_Trim x0 x1 w (block_Trim.Kt K)
 | _=>False
theorem block_Trim.clok:OkC pr 36 block_Trim.cl:=by
 intro args K w h
 unfold block_Trim.cl at h
 split at h
 ·exact calls_group true mixed block_Trim.FOk_ block_Trim.fn rfl 3 (block_Trim.Q10 K) (Eq.mp (by kernel_rfl) h)
 ·exact h.elim
namespace tocsinref10_put
abbrev KT:=Sl→World→Prop
def Kt:KT:=fun l1 w=>Kv l1.v w
noncomputable def bd:Code:=bdy Tryz.f77
theorem fn:FnOk pr 77 45 Tryz.f77:=⟨Tryz.func77,by kernel_rfl,Tryz.ntmps77,by kernel_rfl,by kernel_rfl⟩
def F:Clee:=ofL []
theorem FOk_:FOk pr F:=FOk_nil
def P1:Post:=bodyK false pr 45 Tryz.f77 Kv
abbrev g2:List SE:=[.v 3 .ptr,.v 5 .sl,.v 6 .bool]
def S2 (K:KT) (x_5:Option Addr) (out_6:Sl) (done_7:Bool) (w:World):Prop :=
 G.cond (!done_7) (G.ptr x_5 fun p8=>G.cI .i64 p8 w fun n9=>G.cF .f64 (p8.add 1) w fun f10=>G.new (.cells #[(.int .i64 n9),(.float .f64 f10)] 96) w fun p11 w12=>G.runSl pr (Builtin.append_ #[52,52] 52 #[out_6.v,(Sl.v (⟨some p11,1,1⟩:Sl))]) w12 fun l13 w14=>K l13 w14) (K out_6 w)
theorem S2_ok:OkT pr false none 45 g2 (S2 (Kt Kv)) (s2 (tl 3 bd)) (P1 Kv):=ok_last mixed FOk_ fun v ρ w=>by kernel_rfl
def P3:Post:=next (get g2 (S2 (Kt Kv))) (P1 Kv)
def P4:Post:=inBlock 0 (P3 Kv)
abbrev g5:List SE:=[.v 3 .ptr,.v 5 .sl,.v 6 .bool,.v 9 .sl,.v 10 (.int .i64),.v 11 (.int .i64)]
def P6 (kc5:Cur g5):Post:=next (get g5 kc5) (P4 Kv)
def S7 (K:KT) (kc5:Cur g5) (x_27:Option Addr) (out_28:Sl) (done_29:Bool) (l30:Sl) (n31:Int) (n32:Int) (w:World):Prop :=
 G.cond (decide (n32<n31)) (G.ix l30.a l30.n n32 2 fun p33=>G.cI .i64 p33 w fun n34=>G.cF .f64 (p33.add 1) w fun f35=>G.new (.cells #[(.int .i64 0),(.float .f64 0)] 96) w fun p36 w37=>G.st p36 (.int .i64 n34) w37 fun w38=>G.st (p36.add 1) (.float .f64 f35) w38 fun w39=>G.cond (!done_29) (G.cI .i64 p36 w39 fun n40=>G.ptr x_27 fun p41=>G.cI .i64 p41 w39 fun n42=>G.cond (decide (n40 ≥ n42)) (G.ptr x_27 fun p43=>G.cI .i64 p43 w39 fun n44=>G.cF .f64 (p43.add 1) w39 fun f45=>G.new (.cells #[(.int .i64 n44),(.float .f64 f45)] 96) w39 fun p46 w47=>G.runSl pr (Builtin.append_ #[52,52] 52 #[out_28.v,(Sl.v (⟨some p46,1,1⟩:Sl))]) w47 fun l48 w49=>G.cI .i64 p36 w49 fun n50=>G.ptr x_27 fun p51=>G.cI .i64 p51 w49 fun n52=>G.cond (n50 != n52) (G.cI .i64 p36 w49 fun n53=>G.cF .f64 (p36.add 1) w49 fun f54=>G.new (.cells #[(.int .i64 n53),(.float .f64 f54)] 96) w49 fun p55 w56=>G.runSl pr (Builtin.append_ #[52,52] 52 #[l48.v,(Sl.v (⟨some p55,1,1⟩:Sl))]) w56 fun l57 w58=>kc5 x_27 l57 true l30 n31 (IntKind.i64.wrap (n32+1)) w58) (kc5 x_27 l48 true l30 n31 (IntKind.i64.wrap (n32+1)) w49)) (G.cI .i64 p36 w39 fun n59=>G.ptr x_27 fun p60=>G.cI .i64 p60 w39 fun n61=>G.cond (n59 != n61) (G.cI .i64 p36 w39 fun n62=>G.cF .f64 (p36.add 1) w39 fun f63=>G.new (.cells #[(.int .i64 n62),(.float .f64 f63)] 96) w39 fun p64 w65=>G.runSl pr (Builtin.append_ #[52,52] 52 #[out_28.v,(Sl.v (⟨some p64,1,1⟩:Sl))]) w65 fun l66 w67=>kc5 x_27 l66 done_29 l30 n31 (IntKind.i64.wrap (n32+1)) w67) (kc5 x_27 out_28 done_29 l30 n31 (IntKind.i64.wrap (n32+1)) w39))) (G.cI .i64 p36 w39 fun n68=>G.ptr x_27 fun p69=>G.cI .i64 p69 w39 fun n70=>G.cond (n68 != n70) (G.cI .i64 p36 w39 fun n71=>G.cF .f64 (p36.add 1) w39 fun f72=>G.new (.cells #[(.int .i64 n71),(.float .f64 f72)] 96) w39 fun p73 w74=>G.runSl pr (Builtin.append_ #[52,52] 52 #[out_28.v,(Sl.v (⟨some p73,1,1⟩:Sl))]) w74 fun l75 w76=>kc5 x_27 l75 done_29 l30 n31 (IntKind.i64.wrap (n32+1)) w76) (kc5 x_27 out_28 done_29 l30 n31 (IntKind.i64.wrap (n32+1)) w39))) (S2 K x_27 out_28 done_29 w)
theorem S7_ok (kc5:Cur g5):OkT pr false none 45 g5 (S7 (Kt Kv) kc5) (lp (blk (tl 1 (s1 (tl 3 bd))))) (P6 Kv kc5):=ok_last mixed FOk_ fun v ρ w=>by kernel_rfl
def L5 (K:KT):Cur g5:=loopC g5 (S7 K)
theorem L5_ok:OkT pr false none 45 g5 (L5 (Kt Kv)) (blk (tl 1 (s1 (tl 3 bd)))) (P4 Kv):=ok_loop (B:=S7 (Kt Kv)) (by kernel_rfl) fun kc=>S7_ok Kv kc
theorem L5_ind {K:KT} {x_15:Option Addr} {out_16:Sl} {done_17:Bool} {l18:Sl} {n19:Int} {n20:Int} {w:World} (h:∀ X:Cur g5,(∀ x_15 out_16 done_17 l18 n19 n20 w,S7 K X x_15 out_16 done_17 l18 n19 n20 w→X x_15 out_16 done_17 l18 n19 n20 w)→X x_15 out_16 done_17 l18 n19 n20 w):L5 K x_15 out_16 done_17 l18 n19 n20 w:=fun X hX=>h X fun x_15 out_16 done_17 l18 n19 n20 w hb=>hX (x_15,out_16,done_17,l18,n19,n20,()) w hb
theorem B8:OkT pr false none 45 g5 (L5 (Kt Kv)) (tl 1 (s1 (tl 3 bd))) (P3 Kv):=ok_block 0 (by kernel_rfl) (L5_ok Kv)
abbrev g9:List SE:=[.v 0 .sl,.v 3 .ptr,.v 5 .sl,.v 6 .bool]
def S9 (K:KT) (l_77:Sl) (x_78:Option Addr) (out_79:Sl) (done_80:Bool) (w:World):Prop :=
 L5 K x_78 out_79 done_80 l_77 ((l_77.n:Nat):Int) 0 w
theorem S9_ok:OkT pr false none 45 g9 (S9 (Kt Kv)) (s1 (tl 3 bd)) (P3 Kv):=ok_group mixed FOk_ 1 (B8 Kv) fun v ρ w=>by kernel_rfl
theorem Q10:OkT pr false none 45 g9 (S9 (Kt Kv)) (tl 3 bd) (P1 Kv):=ok_seq (by kernel_rfl) (S2_ok Kv) (S9_ok Kv)
end tocsinref10_put
def tocsinref10_put (l_2:Sl) (x_3:Int) (x_4:Nat) (w:World) (K:tocsinref10_put.KT):Prop :=
 G.new (.cells #[(.int .i64 x_3),(.float .f64 x_4)] 96) w fun p81 w82=>tocsinref10_put.S9 K l_2 (some p81) nilS false w82
def tocsinref10_put.cl:CL:=fun args K w=>match args with
 | [.slice x0_a x0_n x0_c,.agg ⟨[.int .i64 x1_0,.float .f64 x1_1]⟩]=>C.tocsinref10_put ⟨x0_a,x0_n,x0_c⟩ x1_0 x1_1 w (tocsinref10_put.Kt K)
 | _=>False
theorem tocsinref10_put.clok:OkC pr 77 tocsinref10_put.cl:=by
 intro args K w h
 unfold tocsinref10_put.cl at h
 split at h
 ·exact calls_group false mixed tocsinref10_put.FOk_ tocsinref10_put.fn rfl 3 (tocsinref10_put.Q10 K) (Eq.mp (by kernel_rfl) h)
 ·exact h.elim
end C
end Go.Proofs.YtmfgmcajelmgbaaGreatDoor

set_option linter.unusedVariables false
set_option maxRecDepth 100000
namespace Go.Proofs.YtmfgmcajelmgbaaGreatDoor
open Go Vm
namespace C
variable (Kv : VW)
namespace tocsinref10_Merged
abbrev KT:=Sl→World→Prop
def Kt:KT:=fun l1 w=>Kv l1.v w
noncomputable def bd:Code:=bdy Tryz.f37
theorem fn:FnOk pr 37 73 Tryz.f37:=⟨Tryz.func37,by kernel_rfl,Tryz.ntmps37,by kernel_rfl,by kernel_rfl⟩
def F:Clee:=ofL [(19,C.tocsinref10_Sorted.cl),(28,C.tocsinref04_Same.cl),(77,C.tocsinref10_put.cl)]
theorem FOk_:FOk pr F:=FOk_cons C.tocsinref10_Sorted.clok (FOk_cons C.tocsinref04_Same.clok (FOk_cons C.tocsinref10_put.clok (FOk_nil)))
def P1:Post:=bodyK false pr 73 Tryz.f37 Kv
abbrev g2:List SE:=[.v 3 .sl]
def S2 (K:KT) (out_3:Sl) (w:World):Prop :=
 C.tocsinref10_Sorted out_3 w fun l4 w5=>K l4 w5
theorem S2_ok:OkT pr false none 73 g2 (S2 (Kt Kv)) (s2 (tl 2 bd)) (P1 Kv):=ok_last mixed FOk_ fun v ρ w=>by kernel_rfl
def P3:Post:=next (get g2 (S2 (Kt Kv))) (P1 Kv)
def P4:Post:=inBlock 0 (P3 Kv)
abbrev g5:List SE:=[.v 3 .sl,.v 13 .sl,.v 14 (.int .i64),.v 15 (.int .i64)]
def P6 (kc5:Cur g5):Post:=next (get g5 kc5) (P4 Kv)
def S7 (K:KT) (kc5:Cur g5) (out_10:Sl) (l11:Sl) (n12:Int) (n13:Int) (w:World):Prop :=
 kc5 out_10 l11 n12 (IntKind.i64.wrap (n13+1)) w
theorem S7_ok (kc5:Cur g5):OkT pr false none 73 g5 (S7 (Kt Kv) kc5) (s2 (tl 2 (lp (blk (tl 1 (s1 (tl 2 bd))))))) (P6 Kv kc5):=ok_last mixed FOk_ fun v ρ w=>by kernel_rfl
def P8 (kc5:Cur g5):Post:=next (get g5 (S7 (Kt Kv) kc5)) (P6 Kv kc5)
def P9 (kc5:Cur g5):Post:=inBlock 1 (P8 Kv kc5)
def P10 (kc5:Cur g5):Post:=inBlock 2 (P9 Kv kc5)
abbrev g11:List SE:=[.v 3 .sl,.v 13 .sl,.v 14 (.int .i64),.v 15 (.int .i64),.v 19 .sl,.v 20 (.int .i64),.v 21 (.int .i64)]
def P12 (kc5:Cur g5) (kc11:Cur g11):Post:=next (get g11 kc11) (P10 Kv kc5)
def S13 (K:KT) (kc5:Cur g5) (kc11:Cur g11) (out_21:Sl) (l22:Sl) (n23:Int) (n24:Int) (l25:Sl) (n26:Int) (n27:Int) (w:World):Prop :=
 kc11 out_21 l22 n23 n24 l25 n26 (IntKind.i64.wrap (n27+1)) w
theorem S13_ok (kc5:Cur g5) (kc11:Cur g11):OkT pr false none 73 g11 (S13 (Kt Kv) kc5 kc11) (s2 (tl 2 (lp (blk (tl 2 (blk (s1 (tl 2 (lp (blk (tl 1 (s1 (tl 2 bd))))))))))))) (P12 Kv kc5 kc11):=ok_last mixed FOk_ fun v ρ w=>by kernel_rfl
def P14 (kc5:Cur g5) (kc11:Cur g11):Post:=next (get g11 (S13 (Kt Kv) kc5 kc11)) (P12 Kv kc5 kc11)
def P15 (kc5:Cur g5) (kc11:Cur g11):Post:=inBlock 3 (P14 Kv kc5 kc11)
def P16 (kc5:Cur g5) (kc11:Cur g11):Post:=inBlock 6 (P15 Kv kc5 kc11)
abbrev g17:List SE:=[.v 3 .sl,.v 8 (.int .i64),.v 13 .sl,.v 14 (.int .i64),.v 15 (.int .i64),.v 19 .sl,.v 20 (.int .i64),.v 21 (.int .i64),.v 51 .sl,.v 52 (.int .i64),.v 53 (.int .i64)]
def P18 (kc5:Cur g5) (kc11:Cur g11) (kc17:Cur g17):Post:=next (get g17 kc17) (P16 Kv kc5 kc11)
def S19 (K:KT) (kc5:Cur g5) (kc11:Cur g11) (kc17:Cur g17) (out_59:Sl) (k_60:Int) (l61:Sl) (n62:Int) (n63:Int) (l64:Sl) (n65:Int) (n66:Int) (l67:Sl) (n68:Int) (n69:Int) (w:World):Prop :=
 G.cond (decide (n69<n68)) (G.ix l67.a l67.n n69 2 fun p70=>G.cI .i64 p70 w fun n71=>G.cF .f64 (p70.add 1) w fun f72=>G.new (.cells #[(.int .i64 0),(.float .f64 0)] 96) w fun p73 w74=>G.st p73 (.int .i64 n71) w74 fun w75=>G.st (p73.add 1) (.float .f64 f72) w75 fun w76=>G.ix out_59.a out_59.n k_60 2 fun p77=>G.cSl (p77.add 1) w76.drew fun l78=>G.cI .i64 p73 w76.drew fun n79=>G.cF .f64 (p73.add 1) w76.drew fun f80=>C.tocsinref10_put l78 n79 f80 w76.drew fun l81 w82=>G.ix out_59.a out_59.n k_60 2 fun p83=>G.st (p83.add 1) l81.v w82 fun w84=>kc17 out_59 k_60 l61 n62 n63 l64 n65 n66 l67 n68 (IntKind.i64.wrap (n69+1)) w84) (S13 K kc5 kc11 out_59 l61 n62 n63 l64 n65 n66 w)
theorem S19_ok (kc5:Cur g5) (kc11:Cur g11) (kc17:Cur g17):OkT pr false none 73 g17 (S19 (Kt Kv) kc5 kc11 kc17) (lp (blk (tl 1 (tl 1 (s2 (tl 2 (blk (s1 (tl 2 (lp (blk (tl 2 (blk (s1 (tl 2 (lp (blk (tl 1 (s1 (tl 2 bd)))))))))))))))))))) (P18 Kv kc5 kc11 kc17):=ok_last mixed FOk_ fun v ρ w=>by kernel_rfl
def L17 (K:KT) (kc5:Cur g5) (kc11:Cur g11):Cur g17:=loopC g17 (S19 K kc5 kc11)
theorem L17_ok (kc5:Cur g5) (kc11:Cur g11):OkT pr false none 73 g17 (L17 (Kt Kv) kc5 kc11) (blk (tl 1 (tl 1 (s2 (tl 2 (blk (s1 (tl 2 (lp (blk (tl 2 (blk (s1 (tl 2 (lp (blk (tl 1 (s1 (tl 2 bd))))))))))))))))))) (P16 Kv kc5 kc11):=ok_loop (B:=S19 (Kt Kv) kc5 kc11) (by kernel_rfl) fun kc=>S19_ok Kv kc5 kc11 kc
theorem L17_ind {K:KT} {kc5:Cur g5} {kc11:Cur g11} {out_37:Sl} {k_38:Int} {l39:Sl} {n40:Int} {n41:Int} {l42:Sl} {n43:Int} {n44:Int} {l45:Sl} {n46:Int} {n47:Int} {w:World} (h:∀ X:Cur g17,(∀ out_37 k_38 l39 n40 n41 l42 n43 n44 l45 n46 n47 w,S19 K kc5 kc11 X out_37 k_38 l39 n40 n41 l42 n43 n44 l45 n46 n47 w→X out_37 k_38 l39 n40 n41 l42 n43 n44 l45 n46 n47 w)→X out_37 k_38 l39 n40 n41 l42 n43 n44 l45 n46 n47 w):L17 K kc5 kc11 out_37 k_38 l39 n40 n41 l42 n43 n44 l45 n46 n47 w:=fun X hX=>h X fun out_37 k_38 l39 n40 n41 l42 n43 n44 l45 n46 n47 w hb=>hX (out_37,k_38,l39,n40,n41,l42,n43,n44,l45,n46,n47,()) w hb
theorem B20 (kc5:Cur g5) (kc11:Cur g11):OkT pr false none 73 g17 (L17 (Kt Kv) kc5 kc11) (tl 1 (tl 1 (s2 (tl 2 (blk (s1 (tl 2 (lp (blk (tl 2 (blk (s1 (tl 2 (lp (blk (tl 1 (s1 (tl 2 bd)))))))))))))))))) (P15 Kv kc5 kc11):=ok_block 6 (by kernel_rfl) (L17_ok Kv kc5 kc11)
abbrev g21:List SE:=[.v 3 .sl,.v 7 .ptr,.v 8 (.int .i64),.v 13 .sl,.v 14 (.int .i64),.v 15 (.int .i64),.v 19 .sl,.v 20 (.int .i64),.v 21 (.int .i64)]
def S21 (K:KT) (kc5:Cur g5) (kc11:Cur g11) (out_85:Sl) (s_86:Option Addr) (k_87:Int) (l88:Sl) (n89:Int) (n90:Int) (l91:Sl) (n92:Int) (n93:Int) (w:World):Prop :=
 G.ptr s_86 fun p94=>G.cSl (p94.add 1) w fun l95=>L17 K kc5 kc11 out_85 k_87 l88 n89 n90 l91 n92 n93 l95 ((l95.n:Nat):Int) 0 w
theorem S21_ok (kc5:Cur g5) (kc11:Cur g11):OkT pr false none 73 g21 (S21 (Kt Kv) kc5 kc11) (tl 1 (s2 (tl 2 (blk (s1 (tl 2 (lp (blk (tl 2 (blk (s1 (tl 2 (lp (blk (tl 1 (s1 (tl 2 bd))))))))))))))))) (P15 Kv kc5 kc11):=ok_group mixed FOk_ 1 (B20 Kv kc5 kc11) fun v ρ w=>by kernel_rfl
def S22 (K:KT) (kc5:Cur g5) (kc11:Cur g11) (out_96:Sl) (s_97:Option Addr) (k_98:Int) (l99:Sl) (n100:Int) (n101:Int) (l102:Sl) (n103:Int) (n104:Int) (w:World):Prop :=
 G.cond (decide (k_98<0)) (G.ptr s_97 fun p105=>G.cSl p105 w fun l106=>G.new (.cells #[l106.v,nilS.v] 57) w fun p107 w108=>G.runSl pr (Builtin.append_ #[27,27] 27 #[out_96.v,(Sl.v (⟨some p107,1,1⟩:Sl))]) w108 fun l109 w110=>S21 K kc5 kc11 l109 s_97 (IntKind.i64.wrap (((l109.n:Nat):Int)-1)) l99 n100 n101 l102 n103 n104 w110) (S21 K kc5 kc11 out_96 s_97 k_98 l99 n100 n101 l102 n103 n104 w)
theorem S22_ok (kc5:Cur g5) (kc11:Cur g11):OkT pr false none 73 g21 (S22 (Kt Kv) kc5 kc11) (s2 (tl 2 (blk (s1 (tl 2 (lp (blk (tl 2 (blk (s1 (tl 2 (lp (blk (tl 1 (s1 (tl 2 bd)))))))))))))))) (P15 Kv kc5 kc11):=ok_group mixed FOk_ 1 (S21_ok Kv kc5 kc11) fun v ρ w=>by kernel_rfl
def P23 (kc5:Cur g5) (kc11:Cur g11):Post:=next (get g21 (S22 (Kt Kv) kc5 kc11)) (P15 Kv kc5 kc11)
def P24 (kc5:Cur g5) (kc11:Cur g11):Post:=inBlock 4 (P23 Kv kc5 kc11)
abbrev g25:List SE:=[.v 3 .sl,.v 7 .ptr,.v 8 (.int .i64),.v 13 .sl,.v 14 (.int .i64),.v 15 (.int .i64),.v 19 .sl,.v 20 (.int .i64),.v 21 (.int .i64),.v 25 .sl,.v 26 (.int .i64),.v 27 (.int .i64)]
def P26 (kc5:Cur g5) (kc11:Cur g11) (kc25:Cur g25):Post:=next (get g25 kc25) (P24 Kv kc5 kc11)
def S27 (K:KT) (kc5:Cur g5) (kc11:Cur g11) (kc25:Cur g25) (out_135:Sl) (s_136:Option Addr) (k_137:Int) (l138:Sl) (n139:Int) (n140:Int) (l141:Sl) (n142:Int) (n143:Int) (l144:Sl) (n145:Int) (n146:Int) (w:World):Prop :=
 G.cond (decide (n146<n145)) (G.ix l144.a l144.n n146 2 fun p147=>G.cSl p147 w fun l148=>G.cSl (p147.add 1) w fun l149=>G.new (.cells #[nilS.v,nilS.v] 57) w fun p150 w151=>G.st p150 l148.v w151 fun w152=>G.st (p150.add 1) l149.v w152 fun w153=>G.cSl p150 w153 fun l154=>G.ptr s_136 fun p155=>G.cSl p155 w153 fun l156=>C.tocsinref04_Same l154 l156 w153 fun b157 w158=>G.cond b157 (kc25 out_135 s_136 n146 l138 n139 n140 l141 n142 n143 l144 n145 (IntKind.i64.wrap (n146+1)) w158) (kc25 out_135 s_136 k_137 l138 n139 n140 l141 n142 n143 l144 n145 (IntKind.i64.wrap (n146+1)) w158)) (S22 K kc5 kc11 out_135 s_136 k_137 l138 n139 n140 l141 n142 n143 w)
theorem S27_ok (kc5:Cur g5) (kc11:Cur g11) (kc25:Cur g25):OkT pr false none 73 g25 (S27 (Kt Kv) kc5 kc11 kc25) (lp (blk (tl 1 (s1 (tl 2 (blk (s1 (tl 2 (lp (blk (tl 2 (blk (s1 (tl 2 (lp (blk (tl 1 (s1 (tl 2 bd))))))))))))))))))) (P26 Kv kc5 kc11 kc25):=ok_last mixed FOk_ fun v ρ w=>by kernel_rfl
def L25 (K:KT) (kc5:Cur g5) (kc11:Cur g11):Cur g25:=loopC g25 (S27 K kc5 kc11)
theorem L25_ok (kc5:Cur g5) (kc11:Cur g11):OkT pr false none 73 g25 (L25 (Kt Kv) kc5 kc11) (blk (tl 1 (s1 (tl 2 (blk (s1 (tl 2 (lp (blk (tl 2 (blk (s1 (tl 2 (lp (blk (tl 1 (s1 (tl 2 bd)))))))))))))))))) (P24 Kv kc5 kc11):=ok_loop (B:=S27 (Kt Kv) kc5 kc11) (by kernel_rfl) fun kc=>S27_ok Kv kc5 kc11 kc
theorem L25_ind {K:KT} {kc5:Cur g5} {kc11:Cur g11} {out_111:Sl} {s_112:Option Addr} {k_113:Int} {l114:Sl} {n115:Int} {n116:Int} {l117:Sl} {n118:Int} {n119:Int} {l120:Sl} {n121:Int} {n122:Int} {w:World} (h:∀ X:Cur g25,(∀ out_111 s_112 k_113 l114 n115 n116 l117 n118 n119 l120 n121 n122 w,S27 K kc5 kc11 X out_111 s_112 k_113 l114 n115 n116 l117 n118 n119 l120 n121 n122 w→X out_111 s_112 k_113 l114 n115 n116 l117 n118 n119 l120 n121 n122 w)→X out_111 s_112 k_113 l114 n115 n116 l117 n118 n119 l120 n121 n122 w):L25 K kc5 kc11 out_111 s_112 k_113 l114 n115 n116 l117 n118 n119 l120 n121 n122 w:=fun X hX=>h X fun out_111 s_112 k_113 l114 n115 n116 l117 n118 n119 l120 n121 n122 w hb=>hX (out_111,s_112,k_113,l114,n115,n116,l117,n118,n119,l120,n121,n122,()) w hb
theorem B28 (kc5:Cur g5) (kc11:Cur g11):OkT pr false none 73 g25 (L25 (Kt Kv) kc5 kc11) (tl 1 (s1 (tl 2 (blk (s1 (tl 2 (lp (blk (tl 2 (blk (s1 (tl 2 (lp (blk (tl 1 (s1 (tl 2 bd))))))))))))))))) (P23 Kv kc5 kc11):=ok_block 4 (by kernel_rfl) (L25_ok Kv kc5 kc11)
def S29 (K:KT) (kc5:Cur g5) (kc11:Cur g11) (out_159:Sl) (s_160:Option Addr) (k_161:Int) (l162:Sl) (n163:Int) (n164:Int) (l165:Sl) (n166:Int) (n167:Int) (w:World):Prop :=
 L25 K kc5 kc11 out_159 s_160 k_161 l162 n163 n164 l165 n166 n167 out_159 ((out_159.n:Nat):Int) 0 w
theorem S29_ok (kc5:Cur g5) (kc11:Cur g11):OkT pr false none 73 g21 (S29 (Kt Kv) kc5 kc11) (s1 (tl 2 (blk (s1 (tl 2 (lp (blk (tl 2 (blk (s1 (tl 2 (lp (blk (tl 1 (s1 (tl 2 bd)))))))))))))))) (P23 Kv kc5 kc11):=ok_group mixed FOk_ 1 (B28 Kv kc5 kc11) fun v ρ w=>by kernel_rfl
theorem Q30 (kc5:Cur g5) (kc11:Cur g11):OkT pr false none 73 g21 (S29 (Kt Kv) kc5 kc11) (tl 2 (blk (s1 (tl 2 (lp (blk (tl 2 (blk (s1 (tl 2 (lp (blk (tl 1 (s1 (tl 2 bd))))))))))))))) (P15 Kv kc5 kc11):=ok_seq (by kernel_rfl) (S22_ok Kv kc5 kc11) (S29_ok Kv kc5 kc11)
def S31 (K:KT) (kc5:Cur g5) (kc11:Cur g11) (out_168:Sl) (l169:Sl) (n170:Int) (n171:Int) (l172:Sl) (n173:Int) (n174:Int) (w:World):Prop :=
 G.ix l172.a l172.n n174 2 fun p175=>G.cSl p175 w fun l176=>G.cSl (p175.add 1) w fun l177=>G.new (.cells #[nilS.v,nilS.v] 57) w fun p178 w179=>G.st p178 l176.v w179 fun w180=>G.st (p178.add 1) l177.v w180 fun w181=>S29 K kc5 kc11 out_168 (some p178) (-1:Int) l169 n170 n171 l172 n173 n174 w181
theorem S31_ok (kc5:Cur g5) (kc11:Cur g11):OkT pr false none 73 g11 (S31 (Kt Kv) kc5 kc11) (blk (s1 (tl 2 (lp (blk (tl 2 (blk (s1 (tl 2 (lp (blk (tl 1 (s1 (tl 2 bd)))))))))))))) (P15 Kv kc5 kc11):=ok_group mixed FOk_ 2 (Q30 Kv kc5 kc11) fun v ρ w=>by kernel_rfl
theorem B32 (kc5:Cur g5) (kc11:Cur g11):OkT pr false none 73 g11 (S31 (Kt Kv) kc5 kc11) (s1 (tl 2 (lp (blk (tl 2 (blk (s1 (tl 2 (lp (blk (tl 1 (s1 (tl 2 bd))))))))))))) (P14 Kv kc5 kc11):=ok_block 3 (by kernel_rfl) (S31_ok Kv kc5 kc11)
theorem Q33 (kc5:Cur g5) (kc11:Cur g11):OkT pr false none 73 g11 (S31 (Kt Kv) kc5 kc11) (tl 2 (lp (blk (tl 2 (blk (s1 (tl 2 (lp (blk (tl 1 (s1 (tl 2 bd)))))))))))) (P12 Kv kc5 kc11):=ok_seq (by kernel_rfl) (S13_ok Kv kc5 kc11) (B32 Kv kc5 kc11)
def S34 (K:KT) (kc5:Cur g5) (kc11:Cur g11) (out_182:Sl) (l183:Sl) (n184:Int) (n185:Int) (l186:Sl) (n187:Int) (n188:Int) (w:World):Prop :=
 G.cond (decide (n188<n187)) (S31 K kc5 kc11 out_182 l183 n184 n185 l186 n187 n188 w) (S7 K kc5 out_182 l183 n184 n185 w)
theorem S34_ok (kc5:Cur g5) (kc11:Cur g11):OkT pr false none 73 g11 (S34 (Kt Kv) kc5 kc11) (lp (blk (tl 2 (blk (s1 (tl 2 (lp (blk (tl 1 (s1 (tl 2 bd))))))))))) (P12 Kv kc5 kc11):=ok_group mixed FOk_ 2 (Q33 Kv kc5 kc11) fun v ρ w=>by kernel_rfl
def L11 (K:KT) (kc5:Cur g5):Cur g11:=loopC g11 (S34 K kc5)
theorem L11_ok (kc5:Cur g5):OkT pr false none 73 g11 (L11 (Kt Kv) kc5) (blk (tl 2 (blk (s1 (tl 2 (lp (blk (tl 1 (s1 (tl 2 bd)))))))))) (P10 Kv kc5):=ok_loop (B:=S34 (Kt Kv) kc5) (by kernel_rfl) fun kc=>S34_ok Kv kc5 kc
theorem L11_ind {K:KT} {kc5:Cur g5} {out_14:Sl} {l15:Sl} {n16:Int} {n17:Int} {l18:Sl} {n19:Int} {n20:Int} {w:World} (h:∀ X:Cur g11,(∀ out_14 l15 n16 n17 l18 n19 n20 w,S34 K kc5 X out_14 l15 n16 n17 l18 n19 n20 w→X out_14 l15 n16 n17 l18 n19 n20 w)→X out_14 l15 n16 n17 l18 n19 n20 w):L11 K kc5 out_14 l15 n16 n17 l18 n19 n20 w:=fun X hX=>h X fun out_14 l15 n16 n17 l18 n19 n20 w hb=>hX (out_14,l15,n16,n17,l18,n19,n20,()) w hb
theorem B35 (kc5:Cur g5):OkT pr false none 73 g11 (L11 (Kt Kv) kc5) (tl 2 (blk (s1 (tl 2 (lp (blk (tl 1 (s1 (tl 2 bd))))))))) (P9 Kv kc5):=ok_block 2 (by kernel_rfl) (L11_ok Kv kc5)
def S36 (K:KT) (kc5:Cur g5) (out_189:Sl) (l190:Sl) (n191:Int) (n192:Int) (w:World):Prop :=
 G.ix l190.a l190.n n192 1 fun p193=>G.cSl p193 w fun l194=>L11 K kc5 out_189 l190 n191 n192 l194 ((l194.n:Nat):Int) 0 w
theorem S36_ok (kc5:Cur g5):OkT pr false none 73 g5 (S36 (Kt Kv) kc5) (blk (s1 (tl 2 (lp (blk (tl 1 (s1 (tl 2 bd)))))))) (P9 Kv kc5):=ok_group mixed FOk_ 2 (B35 Kv kc5) fun v ρ w=>by kernel_rfl
theorem B37 (kc5:Cur g5):OkT pr false none 73 g5 (S36 (Kt Kv) kc5) (s1 (tl 2 (lp (blk (tl 1 (s1 (tl 2 bd))))))) (P8 Kv kc5):=ok_block 1 (by kernel_rfl) (S36_ok Kv kc5)
theorem Q38 (kc5:Cur g5):OkT pr false none 73 g5 (S36 (Kt Kv) kc5) (tl 2 (lp (blk (tl 1 (s1 (tl 2 bd)))))) (P6 Kv kc5):=ok_seq (by kernel_rfl) (S7_ok Kv kc5) (B37 Kv kc5)
def S39 (K:KT) (kc5:Cur g5) (out_195:Sl) (l196:Sl) (n197:Int) (n198:Int) (w:World):Prop :=
 G.cond (decide (n198<n197)) (S36 K kc5 out_195 l196 n197 n198 w) (S2 K out_195 w)
theorem S39_ok (kc5:Cur g5):OkT pr false none 73 g5 (S39 (Kt Kv) kc5) (lp (blk (tl 1 (s1 (tl 2 bd))))) (P6 Kv kc5):=ok_group mixed FOk_ 2 (Q38 Kv kc5) fun v ρ w=>by kernel_rfl
def L5 (K:KT):Cur g5:=loopC g5 (S39 K)
theorem L5_ok:OkT pr false none 73 g5 (L5 (Kt Kv)) (blk (tl 1 (s1 (tl 2 bd)))) (P4 Kv):=ok_loop (B:=S39 (Kt Kv)) (by kernel_rfl) fun kc=>S39_ok Kv kc
theorem L5_ind {K:KT} {out_6:Sl} {l7:Sl} {n8:Int} {n9:Int} {w:World} (h:∀ X:Cur g5,(∀ out_6 l7 n8 n9 w,S39 K X out_6 l7 n8 n9 w→X out_6 l7 n8 n9 w)→X out_6 l7 n8 n9 w):L5 K out_6 l7 n8 n9 w:=fun X hX=>h X fun out_6 l7 n8 n9 w hb=>hX (out_6,l7,n8,n9,()) w hb
theorem B40:OkT pr false none 73 g5 (L5 (Kt Kv)) (tl 1 (s1 (tl 2 bd))) (P3 Kv):=ok_block 0 (by kernel_rfl) (L5_ok Kv)
abbrev g41:List SE:=[.v 0 .sl,.v 3 .sl]
def S41 (K:KT) (l_199:Sl) (out_200:Sl) (w:World):Prop :=
 L5 K out_200 l_199 ((l_199.n:Nat):Int) 0 w
theorem S41_ok:OkT pr false none 73 g41 (S41 (Kt Kv)) (s1 (tl 2 bd)) (P3 Kv):=ok_group mixed FOk_ 1 (B40 Kv) fun v ρ w=>by kernel_rfl
theorem Q42:OkT pr false none 73 g41 (S41 (Kt Kv)) (tl 2 bd) (P1 Kv):=ok_seq (by kernel_rfl) (S2_ok Kv) (S41_ok Kv)
end tocsinref10_Merged
def tocsinref10_Merged (l_2:Sl) (w:World) (K:tocsinref10_Merged.KT):Prop :=
 tocsinref10_Merged.S41 K l_2 nilS w
def tocsinref10_Merged.cl:CL:=fun args K w=>match args with
 | [.slice x0_a x0_n x0_c]=>C.tocsinref10_Merged ⟨x0_a,x0_n,x0_c⟩ w (tocsinref10_Merged.Kt K)
 | _=>False
theorem tocsinref10_Merged.clok:OkC pr 37 tocsinref10_Merged.cl:=by
 intro args K w h
 unfold tocsinref10_Merged.cl at h
 split at h
 ·exact calls_group false mixed tocsinref10_Merged.FOk_ tocsinref10_Merged.fn rfl 2 (tocsinref10_Merged.Q42 K) (Eq.mp (by kernel_rfl) h)
 ·exact h.elim
namespace slices_Index_Block_Block
abbrev KT:=Int→World→Prop
def Kt:KT:=fun n1 w=>Kv (.int .i64 n1) w
noncomputable def bd:Code:=bdy Tryz.f110
theorem fn:FnOk pr 110 19 Tryz.f110:=⟨Tryz.func110,by kernel_rfl,Tryz.ntmps110,by kernel_rfl,by kernel_rfl⟩
def F:Clee:=ofL []
theorem FOk_:FOk pr F:=FOk_nil
def P1:Post:=bodyK false pr 19 Tryz.f110 Kv
abbrev g2:List SE:=[]
def S2 (K:KT) (w:World):Prop :=
 K (-1:Int) w
theorem S2_ok:OkT pr false none 19 g2 (S2 (Kt Kv)) (s2 (tl 1 bd)) (P1 Kv):=ok_last mixed FOk_ fun v ρ w=>by kernel_rfl
def P3:Post:=next (get g2 (S2 (Kt Kv))) (P1 Kv)
def P4:Post:=inBlock 0 (P3 Kv)
abbrev g5:List SE:=[.v 0 .sl,.v 1 .ptr,.v 7 (.int .i64),.v 8 (.int .i64)]
def P6 (kc5:Cur g5):Post:=next (get g5 kc5) (P4 Kv)
def S7 (K:KT) (kc5:Cur g5) (s_12:Sl) (v_13:Option Addr) (n14:Int) (n15:Int) (w:World):Prop :=
 G.cond (decide (n15<n14)) (G.ix s_12.a s_12.n n15 1 fun p16=>G.cP p16 w fun p17=>G.eqN v_13 p17 fun b18=>G.cond b18 (K n15 w) (kc5 s_12 v_13 n14 (IntKind.i64.wrap (n15+1)) w)) (S2 K w)
theorem S7_ok (kc5:Cur g5):OkT pr false none 19 g5 (S7 (Kt Kv) kc5) (lp (blk (tl 1 (s1 (tl 1 bd))))) (P6 Kv kc5):=ok_last mixed FOk_ fun v ρ w=>by kernel_rfl
def L5 (K:KT):Cur g5:=loopC g5 (S7 K)
theorem L5_ok:OkT pr false none 19 g5 (L5 (Kt Kv)) (blk (tl 1 (s1 (tl 1 bd)))) (P4 Kv):=ok_loop (B:=S7 (Kt Kv)) (by kernel_rfl) fun kc=>S7_ok Kv kc
theorem L5_ind {K:KT} {s_4:Sl} {v_5:Option Addr} {n6:Int} {n7:Int} {w:World} (h:∀ X:Cur g5,(∀ s_4 v_5 n6 n7 w,S7 K X s_4 v_5 n6 n7 w→X s_4 v_5 n6 n7 w)→X s_4 v_5 n6 n7 w):L5 K s_4 v_5 n6 n7 w:=fun X hX=>h X fun s_4 v_5 n6 n7 w hb=>hX (s_4,v_5,n6,n7,()) w hb
theorem B8:OkT pr false none 19 g5 (L5 (Kt Kv)) (tl 1 (s1 (tl 1 bd))) (P3 Kv):=ok_block 0 (by kernel_rfl) (L5_ok Kv)
abbrev g9:List SE:=[.v 0 .sl,.v 1 .ptr]
def S9 (K:KT) (s_19:Sl) (v_20:Option Addr) (w:World):Prop :=
 L5 K s_19 v_20 ((s_19.n:Nat):Int) 0 w
theorem S9_ok:OkT pr false none 19 g9 (S9 (Kt Kv)) (s1 (tl 1 bd)) (P3 Kv):=ok_group mixed FOk_ 1 (B8 Kv) fun v ρ w=>by kernel_rfl
theorem Q10:OkT pr false none 19 g9 (S9 (Kt Kv)) (tl 1 bd) (P1 Kv):=ok_seq (by kernel_rfl) (S2_ok Kv) (S9_ok Kv)
end slices_Index_Block_Block
def slices_Index_Block_Block (s_2:Sl) (v_3:Option Addr) (w:World) (K:slices_Index_Block_Block.KT):Prop :=
 slices_Index_Block_Block.S9 K s_2 v_3 w
def slices_Index_Block_Block.cl:CL:=fun args K w=>match args with
 | [.slice x0_a x0_n x0_c,.pointer x1]=>C.slices_Index_Block_Block ⟨x0_a,x0_n,x0_c⟩ x1 w (slices_Index_Block_Block.Kt K)
 | _=>False
theorem slices_Index_Block_Block.clok:OkC pr 110 slices_Index_Block_Block.cl:=by
 intro args K w h
 unfold slices_Index_Block_Block.cl at h
 split at h
 ·exact calls_group false mixed slices_Index_Block_Block.FOk_ slices_Index_Block_Block.fn rfl 1 (slices_Index_Block_Block.Q10 K) (Eq.mp (by kernel_rfl) h)
 ·exact h.elim
namespace slices_Contains_Block_Block
abbrev KT:=Bool→World→Prop
def Kt:KT:=fun b1 w=>Kv (.bool b1) w
noncomputable def bd:Code:=bdy Tryz.f78
theorem fn:FnOk pr 78 9 Tryz.f78:=⟨Tryz.func78,by kernel_rfl,Tryz.ntmps78,by kernel_rfl,by kernel_rfl⟩
def F:Clee:=ofL [(110,C.slices_Index_Block_Block.cl)]
theorem FOk_:FOk pr F:=FOk_cons C.slices_Index_Block_Block.clok (FOk_nil)
def P1:Post:=bodyK false pr 9 Tryz.f78 Kv
end slices_Contains_Block_Block
def slices_Contains_Block_Block (s_2:Sl) (v_3:Option Addr) (w:World) (K:slices_Contains_Block_Block.KT):Prop :=
 C.slices_Index_Block_Block s_2 v_3 w fun n4 w5=>K (decide (n4 ≥ 0)) w5
def slices_Contains_Block_Block.cl:CL:=fun args K w=>match args with
 | [.slice x0_a x0_n x0_c,.pointer x1]=>C.slices_Contains_Block_Block ⟨x0_a,x0_n,x0_c⟩ x1 w (slices_Contains_Block_Block.Kt K)
 | _=>False
theorem slices_Contains_Block_Block.clok:OkC pr 78 slices_Contains_Block_Block.cl:=by
 intro args K w h
 unfold slices_Contains_Block_Block.cl at h
 split at h
 ·exact calls_last false mixed slices_Contains_Block_Block.FOk_ slices_Contains_Block_Block.fn rfl (Eq.mp (by kernel_rfl) h)
 ·exact h.elim
namespace block_samples
abbrev KT:=Sl→World→Prop
def Kt:KT:=fun l1 w=>Kv l1.v w
noncomputable def bd:Code:=bdy Tryz.f80
theorem fn:FnOk pr 80 58 Tryz.f80:=⟨Tryz.func80,by kernel_rfl,Tryz.ntmps80,by kernel_rfl,by kernel_rfl⟩
def F:Clee:=ofL []
theorem FOk_:FOk pr F:=FOk_nil
def P1:Post:=bodyK false pr 58 Tryz.f80 Kv
abbrev g2:List SE:=[.v 0 .sl,.v 1 .sl,.v 5 .sl]
def P3 (kc2:Cur g2):Post:=onG 0 (get g2 kc2) (P1 Kv)
def S4 (K:KT) (kc2:Cur g2) (a_7:Sl) (b_8:Sl) (out_9:Sl) (w:World):Prop :=
 G.cond (((a_7.n:Nat):Int)==0) (G.runSl pr (Builtin.append_ #[52,52] 52 #[out_9.v,b_8.v]) w fun l10 w11=>K l10 w11) (G.cond (((b_8.n:Nat):Int)==0) (G.runSl pr (Builtin.append_ #[52,52] 52 #[out_9.v,a_7.v]) w fun l12 w13=>K l12 w13) (G.ix a_7.a a_7.n 0 2 fun p14=>G.cI .i64 p14 w.drew fun n15=>G.ix b_8.a b_8.n 0 2 fun p16=>G.cI .i64 p16 w.drew fun n17=>G.cond (decide (n15<n17)) (G.ix a_7.a a_7.n 0 2 fun p18=>G.cI .i64 p18 w.drew.drew fun n19=>G.cF .f64 (p18.add 1) w.drew.drew fun f20=>G.slc a_7 1 ((a_7.n:Nat):Int) 2 fun l21=>G.new (.cells #[(.int .i64 n19),(.float .f64 f20)] 96) w.drew.drew fun p22 w23=>G.runSl pr (Builtin.append_ #[52,52] 52 #[out_9.v,(Sl.v (⟨some p22,1,1⟩:Sl))]) w23 fun l24 w25=>kc2 l21 b_8 l24 w25) (G.ix a_7.a a_7.n 0 2 fun p26=>G.cI .i64 p26 w.drew.drew fun n27=>G.ix b_8.a b_8.n 0 2 fun p28=>G.cI .i64 p28 w.drew.drew fun n29=>G.cond (decide (n27 > n29)) (G.ix b_8.a b_8.n 0 2 fun p30=>G.cI .i64 p30 w.drew.drew.drew fun n31=>G.cF .f64 (p30.add 1) w.drew.drew.drew fun f32=>G.slc b_8 1 ((b_8.n:Nat):Int) 2 fun l33=>G.new (.cells #[(.int .i64 n31),(.float .f64 f32)] 96) w.drew.drew.drew fun p34 w35=>G.runSl pr (Builtin.append_ #[52,52] 52 #[out_9.v,(Sl.v (⟨some p34,1,1⟩:Sl))]) w35 fun l36 w37=>kc2 a_7 l33 l36 w37) (G.slc a_7 1 ((a_7.n:Nat):Int) 2 fun l38=>kc2 l38 b_8 out_9 w.drew.drew))))
theorem S4_ok (kc2:Cur g2):OkT pr false none 58 g2 (S4 (Kt Kv) kc2) (jmp 0 (scp (tl 1 bd))) (P3 Kv kc2):=ok_last mixed FOk_ fun v ρ w=>by kernel_rfl
abbrev g5:List SE:=[.v 0 .sl,.v 1 .sl]
def S5 (K:KT) (kc2:Cur g2) (a_39:Sl) (b_40:Sl) (w:World):Prop :=
 G.cond (((a_39.n:Nat):Int)==0) (G.runSl pr (Builtin.append_ #[52,52] 52 #[nilS.v,b_40.v]) w fun l41 w42=>K l41 w42) (G.cond (((b_40.n:Nat):Int)==0) (G.runSl pr (Builtin.append_ #[52,52] 52 #[nilS.v,a_39.v]) w fun l43 w44=>K l43 w44) (G.ix a_39.a a_39.n 0 2 fun p45=>G.cI .i64 p45 w.drew fun n46=>G.ix b_40.a b_40.n 0 2 fun p47=>G.cI .i64 p47 w.drew fun n48=>G.cond (decide (n46<n48)) (G.ix a_39.a a_39.n 0 2 fun p49=>G.cI .i64 p49 w.drew.drew fun n50=>G.cF .f64 (p49.add 1) w.drew.drew fun f51=>G.slc a_39 1 ((a_39.n:Nat):Int) 2 fun l52=>G.new (.cells #[(.int .i64 n50),(.float .f64 f51)] 96) w.drew.drew fun p53 w54=>G.runSl pr (Builtin.append_ #[52,52] 52 #[nilS.v,(Sl.v (⟨some p53,1,1⟩:Sl))]) w54 fun l55 w56=>kc2 l52 b_40 l55 w56) (G.ix a_39.a a_39.n 0 2 fun p57=>G.cI .i64 p57 w.drew.drew fun n58=>G.ix b_40.a b_40.n 0 2 fun p59=>G.cI .i64 p59 w.drew.drew fun n60=>G.cond (decide (n58 > n60)) (G.ix b_40.a b_40.n 0 2 fun p61=>G.cI .i64 p61 w.drew.drew.drew fun n62=>G.cF .f64 (p61.add 1) w.drew.drew.drew fun f63=>G.slc b_40 1 ((b_40.n:Nat):Int) 2 fun l64=>G.new (.cells #[(.int .i64 n62),(.float .f64 f63)] 96) w.drew.drew.drew fun p65 w66=>G.runSl pr (Builtin.append_ #[52,52] 52 #[nilS.v,(Sl.v (⟨some p65,1,1⟩:Sl))]) w66 fun l67 w68=>kc2 a_39 l64 l67 w68) (G.slc a_39 1 ((a_39.n:Nat):Int) 2 fun l69=>kc2 l69 b_40 nilS w.drew.drew))))
theorem S5_ok (kc2:Cur g2):OkT pr false none 58 g5 (S5 (Kt Kv) kc2) (scp (tl 1 bd)) (P3 Kv kc2):=ok_last mixed FOk_ fun v ρ w=>by kernel_rfl
def J6 (K:KT):Cur g5:=jumpC g2 g5 (S4 K) (S5 K)
theorem J6_ok:OkT pr false none 58 g5 (J6 (Kt Kv)) (tl 1 bd) (P1 Kv):=ok_jump (sg:=g2) (sg0:=g5) 0 (B:=S4 (Kt Kv)) (E:=S5 (Kt Kv)) (by kernel_rfl) (by kernel_rfl) (fun kc=>S4_ok Kv kc) (fun kc=>S5_ok Kv kc)
theorem J6_ind {K:KT} {a_70:Sl} {b_71:Sl} {w:World} (h:∀ X:Cur g2,(∀ a_4 b_5 out_6 w,S4 K X a_4 b_5 out_6 w→X a_4 b_5 out_6 w)→S5 K X a_70 b_71 w):J6 K a_70 b_71 w:=fun X hX=>h X fun a_4 b_5 out_6 w hb=>hX (a_4,b_5,out_6,()) w hb
end block_samples
def block_samples (a_2:Sl) (b_3:Sl) (w:World) (K:block_samples.KT):Prop :=
 block_samples.J6 K a_2 b_3 w
def block_samples.cl:CL:=fun args K w=>match args with
 | [.slice x0_a x0_n x0_c,.slice x1_a x1_n x1_c]=>C.block_samples ⟨x0_a,x0_n,x0_c⟩ ⟨x1_a,x1_n,x1_c⟩ w (block_samples.Kt K)
 | _=>False
theorem block_samples.clok:OkC pr 80 block_samples.cl:=by
 intro args K w h
 unfold block_samples.cl at h
 split at h
 ·exact calls_group false mixed block_samples.FOk_ block_samples.fn rfl 1 (block_samples.J6_ok K) (Eq.mp (by kernel_rfl) h)
 ·exact h.elim
namespace block_Merge
abbrev KT:=Sl→Int→World→Prop
def Kt:KT:=fun l1 n2 w=>Kv (.tuple #[l1.v,(.int .i64 n2)]) w
noncomputable def bd:Code:=bdy Tryz.f38
theorem fn:FnOk pr 38 73 Tryz.f38:=⟨Tryz.func38,by kernel_rfl,Tryz.ntmps38,by kernel_rfl,by kernel_rfl⟩
def F:Clee:=ofL [(14,C.block_Block_All.cl),(33,C.block_Build.cl),(78,C.slices_Contains_Block_Block.cl),(79,C.labels_Put.cl),(80,C.block_samples.cl)]
theorem FOk_:FOk pr F:=FOk_cons C.block_Block_All.clok (FOk_cons C.block_Build.clok (FOk_cons C.slices_Contains_Block_Block.clok (FOk_cons C.labels_Put.clok (FOk_cons C.block_samples.clok (FOk_nil)))))
def Fc:Clee:=ofL [(48,C.block_Block_All_1.cl),(71,C.block_compare.cl),(76,C.block_Trim_1.cl),(135,C.labels_Compare_1.cl)]
theorem FcOk:FOkB pr Fc:=FOkB_cons C.block_Block_All_1.clok (FOkB_cons C.block_compare.clok (FOkB_cons C.block_Trim_1.clok (FOkB_cons C.labels_Compare_1.clok (FOkB_nil))))
def P1:Post:=bodyK true pr 73 Tryz.f38 Kv
abbrev g2:List SE:=[.v 4 .ptr,.v 73 .raw]
def S2 (K:KT) (out_6:Option Addr) (v7:Value) (w:World):Prop :=
 G.ptr out_6 fun p8=>G.cSl p8 w fun l9=>C.block_Build l9 w fun l10 n11 n12 w13=>G.marks v7 w13 fun w14=>K l10 n11 w14
theorem S2_ok:OkT pr true none 73 g2 (S2 (Kt Kv)) (s2 (tl 4 bd)) (P1 Kv):=ok_last mixed FOk_ fun v ρ w=>by kernel_rfl
def P3:Post:=next (get g2 (S2 (Kt Kv))) (P1 Kv)
def P4:Post:=inBlock 0 (P3 Kv)
abbrev g5:List SE:=[.v 4 .ptr,.v 5 .ptr,.v 19 .sl,.v 20 (.int .i64),.v 21 (.int .i64),.v 73 .raw]
def P6 (kc5:Cur g5):Post:=next (get g5 kc5) (P4 Kv)
def S7 (K:KT) (kc5:Cur g5) (out_21:Option Addr) (at_22:Option Addr) (l23:Sl) (n24:Int) (n25:Int) (v26:Value) (w:World):Prop :=
 kc5 out_21 at_22 l23 n24 (IntKind.i64.wrap (n25+1)) v26 w
theorem S7_ok (kc5:Cur g5):OkT pr true none 73 g5 (S7 (Kt Kv) kc5) (s2 (tl 2 (lp (blk (tl 1 (s1 (tl 4 bd))))))) (P6 Kv kc5):=ok_last mixed FOk_ fun v ρ w=>by kernel_rfl
def P8 (kc5:Cur g5):Post:=next (get g5 (S7 (Kt Kv) kc5)) (P6 Kv kc5)
def P9 (kc5:Cur g5):Post:=inBlock 1 (P8 Kv kc5)
def P10 (kc5:Cur g5):Post:=inBlock 2 (P9 Kv kc5)
abbrev g11:List SE:=[.v 4 .ptr,.v 5 .ptr,.v 19 .sl,.v 20 (.int .i64),.v 21 (.int .i64),.v 26 .raw,.v 73 .raw]
def P12 (Rr:Exit→World→Prop):Post:=RP Rr
abbrev g13:List SE:=[.v 4 .ptr,.v 5 .ptr,.v 8 .ptr]
def S13 (Rr:Exit→World→Prop) (out_34:Option Addr) (at_35:Option Addr) (s_36:Option Addr) (w:World):Prop :=
 G.ptr s_36 fun p37=>G.cSl p37 w fun l38=>C.labels_Put nilS l38 w fun l39 n40 w41=>G.ptr at_35 fun p42=>G.cM p42 w41 fun m43=>G.rdS pr (Conv.bytesToString l39.v) w41 fun s44=>G.rd2 pr (Instr.lookup 126 (.map m43) (.string s44) true) (fun n:Int=>Value.int .i64 n) w41 fun n45 b46=>G.cond (!b46) (G.ptr at_35 fun p47=>G.cM p47 w41 fun m48=>G.rdS pr (Conv.bytesToString l39.v) w41 fun s49=>G.ptr out_34 fun p50=>G.cSl p50 w41 fun l51=>G.runU pr (Instr.mapUpdate 126 (.map m48) (.string s49) (.int .i64 ((l51.n:Nat):Int))) w41 fun w52=>G.ptr out_34 fun p53=>G.cSl p53 w52 fun l54=>G.ptr s_36 fun p55=>G.cSl p55 w52 fun l56=>G.cSl (p55.add 1) w52 fun l57=>G.new (.cells #[l56.v,l57.v] 57) w52 fun p58 w59=>G.runSl pr (Builtin.append_ #[27,27] 27 #[l54.v,(Sl.v (⟨some p58,1,1⟩:Sl))]) w59 fun l60 w61=>G.ptr out_34 fun p62=>G.st p62 l60.v w61 fun w63=>Rr .normal w63) (G.ptr out_34 fun p64=>G.cSl p64 w41.drew fun l65=>G.ptr out_34 fun p66=>G.cSl p66 w41.drew fun l67=>G.ix l67.a l67.n n45 2 fun p68=>G.cSl (p68.add 1) w41.drew fun l69=>G.ptr s_36 fun p70=>G.cSl (p70.add 1) w41.drew fun l71=>C.block_samples l69 l71 w41.drew fun l72 w73=>sameAt p64 1 w41.drew w73∧(G.ix l65.a l65.n n45 2 fun p74=>G.st (p74.add 1) l72.v w73 fun w75=>Rr .normal w75))
theorem S13_ok (Rr:Exit→World→Prop) {ro:Option Nat}:OkT pr false ro 73 g13 (S13 Rr) (rbd (blk (tl 2 (blk (s1 (tl 2 (lp (blk (tl 1 (s1 (tl 4 bd))))))))))) (P12 Rr):=ok_last mixed FOk_ fun v ρ w=>by kernel_rfl
def B_R11 (out_27:Option Addr) (at_28:Option Addr) (l29:Sl) (n30:Int) (n31:Int) (v32:Value) (v33:Value) (args:List Value) (wb:World) (bz:(World→Prop)→World→Prop) (Rr:Exit→World→Prop):Prop:=match args with
 | [.agg ⟨[.slice y_76_a y_76_n y_76_c,.slice y_77_a y_77_n y_77_c]⟩]=>G.new (.cells #[nilS.v,nilS.v] 57) wb fun p78 w79=>G.st p78 (⟨y_76_a,y_76_n,y_76_c⟩:Sl).v w79 fun w80=>G.st (p78.add 1) (⟨y_77_a,y_77_n,y_77_c⟩:Sl).v w80 fun w81=>bz (S13 Rr out_27 at_28 (some p78)) w81
 | _=>False
def O_R11 (K:KT) (kc5:Cur g5) (out_27:Option Addr) (at_28:Option Addr) (l29:Sl) (n30:Int) (n31:Int) (v32:Value) (v33:Value) (e:Exit) (D:Nat) (w:World):Prop:=match e with
 | .normal=>S7 K kc5 out_27 at_28 l29 n30 n31 (pushMark v33 D) w
 | _=>False
def R11 (K:KT) (kc5:Cur g5) (out_27:Option Addr) (at_28:Option Addr) (l29:Sl) (n30:Int) (n31:Int) (v32:Value) (v33:Value) (w:World):Prop :=
 G.rangeW Fc v32 pr (B_R11 out_27 at_28 l29 n30 n31 v32 v33) w (O_R11 K kc5 out_27 at_28 l29 n30 n31 v32 v33)
theorem R11_ok (kc5:Cur g5):OkT pr true none 73 g11 (R11 (Kt Kv) kc5) (blk (tl 2 (blk (s1 (tl 2 (lp (blk (tl 1 (s1 (tl 4 bd)))))))))) (P10 Kv kc5):=by
 refine ok_rangeW mixed FOk_ FcOk (s:=26) (ps:=#[27]) (Bt:=fun v=>B_R11 v.1 v.2.1 v.2.2.1 v.2.2.2.1 v.2.2.2.2.1 v.2.2.2.2.2.1 v.2.2.2.2.2.2.1) (kB:=fun Rr=>S13 Rr) (sgB:=g13) (out:=fun v=>O_R11 (Kt Kv) kc5 v.1 v.2.1 v.2.2.1 v.2.2.2.1 v.2.2.2.2.1 v.2.2.2.2.2.1 v.2.2.2.2.2.2.1) (by kernel_rfl) (fun v ρ w=>by kernel_rfl) ?_ (fun Rr l=>S13_ok Rr) ?_
 ·intro v ρ args w bz Rr h
  have h':B_R11 v.1 v.2.1 v.2.2.1 v.2.2.2.1 v.2.2.2.2.1 v.2.2.2.2.2.1 v.2.2.2.2.2.2.1 args w bz Rr:=h
  unfold B_R11 at h'
  split at h'
  ·exact ⟨rfl,Eq.mp (by kernel_rfl) h'⟩
  ·exact h'.elim
 ·intro v ρ e D w h
  cases e with
  | normal=>exact Eq.mp (by kernel_rfl) h
  | _=>exact h.elim
theorem B14 (kc5:Cur g5):OkT pr true none 73 g11 (R11 (Kt Kv) kc5) (tl 2 (blk (s1 (tl 2 (lp (blk (tl 1 (s1 (tl 4 bd))))))))) (P9 Kv kc5):=ok_block 2 (by kernel_rfl) (R11_ok Kv kc5)
def S15 (K:KT) (kc5:Cur g5) (out_82:Option Addr) (at_83:Option Addr) (l84:Sl) (n85:Int) (n86:Int) (v87:Value) (w:World):Prop :=
 G.ix l84.a l84.n n86 1 fun p88=>G.cP p88 w fun p89=>C.block_Block_All p89 w fun v90 w91=>R11 K kc5 out_82 at_83 l84 n85 n86 v90 v87 w91
theorem S15_ok (kc5:Cur g5):OkT pr true none 73 g5 (S15 (Kt Kv) kc5) (blk (s1 (tl 2 (lp (blk (tl 1 (s1 (tl 4 bd)))))))) (P9 Kv kc5):=ok_group mixed FOk_ 2 (B14 Kv kc5) fun v ρ w=>by kernel_rfl
theorem B16 (kc5:Cur g5):OkT pr true none 73 g5 (S15 (Kt Kv) kc5) (s1 (tl 2 (lp (blk (tl 1 (s1 (tl 4 bd))))))) (P8 Kv kc5):=ok_block 1 (by kernel_rfl) (S15_ok Kv kc5)
theorem Q17 (kc5:Cur g5):OkT pr true none 73 g5 (S15 (Kt Kv) kc5) (tl 2 (lp (blk (tl 1 (s1 (tl 4 bd)))))) (P6 Kv kc5):=ok_seq (by kernel_rfl) (S7_ok Kv kc5) (B16 Kv kc5)
def S18 (K:KT) (kc5:Cur g5) (out_92:Option Addr) (at_93:Option Addr) (l94:Sl) (n95:Int) (n96:Int) (v97:Value) (w:World):Prop :=
 G.cond (decide (n96<n95)) (S15 K kc5 out_92 at_93 l94 n95 n96 v97 w) (S2 K out_92 v97 w)
theorem S18_ok (kc5:Cur g5):OkT pr true none 73 g5 (S18 (Kt Kv) kc5) (lp (blk (tl 1 (s1 (tl 4 bd))))) (P6 Kv kc5):=ok_group mixed FOk_ 2 (Q17 Kv kc5) fun v ρ w=>by kernel_rfl
def L5 (K:KT):Cur g5:=loopC g5 (S18 K)
theorem L5_ok:OkT pr true none 73 g5 (L5 (Kt Kv)) (blk (tl 1 (s1 (tl 4 bd)))) (P4 Kv):=ok_loop (B:=S18 (Kt Kv)) (by kernel_rfl) fun kc=>S18_ok Kv kc
theorem L5_ind {K:KT} {out_15:Option Addr} {at_16:Option Addr} {l17:Sl} {n18:Int} {n19:Int} {v20:Value} {w:World} (h:∀ X:Cur g5,(∀ out_15 at_16 l17 n18 n19 v20 w,S18 K X out_15 at_16 l17 n18 n19 v20 w→X out_15 at_16 l17 n18 n19 v20 w)→X out_15 at_16 l17 n18 n19 v20 w):L5 K out_15 at_16 l17 n18 n19 v20 w:=fun X hX=>h X fun out_15 at_16 l17 n18 n19 v20 w hb=>hX (out_15,at_16,l17,n18,n19,v20,()) w hb
theorem B19:OkT pr true none 73 g5 (L5 (Kt Kv)) (tl 1 (s1 (tl 4 bd))) (P3 Kv):=ok_block 0 (by kernel_rfl) (L5_ok Kv)
abbrev g20:List SE:=[.v 0 .sl,.v 4 .ptr,.v 5 .ptr,.v 73 .raw]
def S20 (K:KT) (l_98:Sl) (out_99:Option Addr) (at_100:Option Addr) (v101:Value) (w:World):Prop :=
 L5 K out_99 at_100 l_98 ((l_98.n:Nat):Int) 0 v101 w
theorem S20_ok:OkT pr true none 73 g20 (S20 (Kt Kv)) (s1 (tl 4 bd)) (P3 Kv):=ok_group mixed FOk_ 1 (B19 Kv) fun v ρ w=>by kernel_rfl
theorem Q21:OkT pr true none 73 g20 (S20 (Kt Kv)) (tl 4 bd) (P1 Kv):=ok_seq (by kernel_rfl) (S2_ok Kv) (S20_ok Kv)
end block_Merge
def block_Merge (l_3:Sl) (w:World) (K:block_Merge.KT):Prop :=
 C.slices_Contains_Block_Block l_3 none w fun b102 w103=>G.cond b102 (K nilS 2 w103) (G.new (.cells #[nilS.v] 27) w103 fun p104 w105=>G.runM pr (Instr.makeMap 126 none) w105 fun m106 w107=>G.new (.cells #[(.map none)] 126) w107 fun p108 w109=>G.st p108 (.map m106) w109 fun w110=>block_Merge.S20 K l_3 (some p104) (some p108) undef w110)
def block_Merge.cl:CL:=fun args K w=>match args with
 | [.slice x0_a x0_n x0_c]=>C.block_Merge ⟨x0_a,x0_n,x0_c⟩ w (block_Merge.Kt K)
 | _=>False
theorem block_Merge.clok:OkC pr 38 block_Merge.cl:=by
 intro args K w h
 unfold block_Merge.cl at h
 split at h
 ·exact calls_group true mixed block_Merge.FOk_ block_Merge.fn rfl 4 (block_Merge.Q21 K) (Eq.mp (by kernel_rfl) h)
 ·exact h.elim
namespace tocsinref08_Within
abbrev KT:=Sl→World→Prop
def Kt:KT:=fun l1 w=>Kv l1.v w
noncomputable def bd:Code:=bdy Tryz.f30
theorem fn:FnOk pr 30 32 Tryz.f30:=⟨Tryz.func30,by kernel_rfl,Tryz.ntmps30,by kernel_rfl,by kernel_rfl⟩
def F:Clee:=ofL []
theorem FOk_:FOk pr F:=FOk_nil
def P1:Post:=bodyK false pr 32 Tryz.f30 Kv
abbrev g2:List SE:=[.v 7 .sl]
def S2 (K:KT) (out_5:Sl) (w:World):Prop :=
 K out_5 w
theorem S2_ok:OkT pr false none 32 g2 (S2 (Kt Kv)) (s2 (tl 2 bd)) (P1 Kv):=ok_last mixed FOk_ fun v ρ w=>by kernel_rfl
def P3:Post:=next (get g2 (S2 (Kt Kv))) (P1 Kv)
def P4:Post:=inBlock 0 (P3 Kv)
abbrev g5:List SE:=[.v 1 (.int .i64),.v 2 (.int .i64),.v 7 .sl,.v 10 .sl,.v 11 (.int .i64),.v 12 (.int .i64)]
def P6 (kc5:Cur g5):Post:=next (get g5 kc5) (P4 Kv)
def S7 (K:KT) (kc5:Cur g5) (from_18:Int) (to_19:Int) (out_20:Sl) (l21:Sl) (n22:Int) (n23:Int) (w:World):Prop :=
 G.cond (decide (n23<n22)) (G.ix l21.a l21.n n23 2 fun p24=>G.cI .i64 p24 w fun n25=>G.cF .f64 (p24.add 1) w fun f26=>G.new (.cells #[(.int .i64 0),(.float .f64 0)] 96) w fun p27 w28=>G.st p27 (.int .i64 n25) w28 fun w29=>G.st (p27.add 1) (.float .f64 f26) w29 fun w30=>G.cI .i64 p27 w30 fun n31=>G.cond (decide (n31 ≥ from_18)) (G.cI .i64 p27 w30 fun n32=>G.cond (decide (n32≤to_19)) (G.cI .i64 p27 w30 fun n33=>G.cF .f64 (p27.add 1) w30 fun f34=>G.new (.cells #[(.int .i64 n33),(.float .f64 f34)] 96) w30 fun p35 w36=>G.runSl pr (Builtin.append_ #[52,52] 52 #[out_20.v,(Sl.v (⟨some p35,1,1⟩:Sl))]) w36 fun l37 w38=>kc5 from_18 to_19 l37 l21 n22 (IntKind.i64.wrap (n23+1)) w38) (kc5 from_18 to_19 out_20 l21 n22 (IntKind.i64.wrap (n23+1)) w30)) (kc5 from_18 to_19 out_20 l21 n22 (IntKind.i64.wrap (n23+1)) w30)) (S2 K out_20 w)
theorem S7_ok (kc5:Cur g5):OkT pr false none 32 g5 (S7 (Kt Kv) kc5) (lp (blk (tl 1 (s1 (tl 2 bd))))) (P6 Kv kc5):=ok_last mixed FOk_ fun v ρ w=>by kernel_rfl
def L5 (K:KT):Cur g5:=loopC g5 (S7 K)
theorem L5_ok:OkT pr false none 32 g5 (L5 (Kt Kv)) (blk (tl 1 (s1 (tl 2 bd)))) (P4 Kv):=ok_loop (B:=S7 (Kt Kv)) (by kernel_rfl) fun kc=>S7_ok Kv kc
theorem L5_ind {K:KT} {from_6:Int} {to_7:Int} {out_8:Sl} {l9:Sl} {n10:Int} {n11:Int} {w:World} (h:∀ X:Cur g5,(∀ from_6 to_7 out_8 l9 n10 n11 w,S7 K X from_6 to_7 out_8 l9 n10 n11 w→X from_6 to_7 out_8 l9 n10 n11 w)→X from_6 to_7 out_8 l9 n10 n11 w):L5 K from_6 to_7 out_8 l9 n10 n11 w:=fun X hX=>h X fun from_6 to_7 out_8 l9 n10 n11 w hb=>hX (from_6,to_7,out_8,l9,n10,n11,()) w hb
theorem B8:OkT pr false none 32 g5 (L5 (Kt Kv)) (tl 1 (s1 (tl 2 bd))) (P3 Kv):=ok_block 0 (by kernel_rfl) (L5_ok Kv)
abbrev g9:List SE:=[.v 0 .sl,.v 1 (.int .i64),.v 2 (.int .i64),.v 7 .sl]
def S9 (K:KT) (l_39:Sl) (from_40:Int) (to_41:Int) (out_42:Sl) (w:World):Prop :=
 L5 K from_40 to_41 out_42 l_39 ((l_39.n:Nat):Int) 0 w
theorem S9_ok:OkT pr false none 32 g9 (S9 (Kt Kv)) (s1 (tl 2 bd)) (P3 Kv):=ok_group mixed FOk_ 1 (B8 Kv) fun v ρ w=>by kernel_rfl
theorem Q10:OkT pr false none 32 g9 (S9 (Kt Kv)) (tl 2 bd) (P1 Kv):=ok_seq (by kernel_rfl) (S2_ok Kv) (S9_ok Kv)
end tocsinref08_Within
def tocsinref08_Within (l_2:Sl) (from_3:Int) (to_4:Int) (w:World) (K:tocsinref08_Within.KT):Prop :=
 tocsinref08_Within.S9 K l_2 from_3 to_4 nilS w
def tocsinref08_Within.cl:CL:=fun args K w=>match args with
 | [.slice x0_a x0_n x0_c,.int .i64 x1,.int .i64 x2]=>C.tocsinref08_Within ⟨x0_a,x0_n,x0_c⟩ x1 x2 w (tocsinref08_Within.Kt K)
 | _=>False
theorem tocsinref08_Within.clok:OkC pr 30 tocsinref08_Within.cl:=by
 intro args K w h
 unfold tocsinref08_Within.cl at h
 split at h
 ·exact calls_group false mixed tocsinref08_Within.FOk_ tocsinref08_Within.fn rfl 2 (tocsinref08_Within.Q10 K) (Eq.mp (by kernel_rfl) h)
 ·exact h.elim
namespace tocsinref10_Trim
abbrev KT:=Sl→World→Prop
def Kt:KT:=fun l1 w=>Kv l1.v w
noncomputable def bd:Code:=bdy Tryz.f39
theorem fn:FnOk pr 39 31 Tryz.f39:=⟨Tryz.func39,by kernel_rfl,Tryz.ntmps39,by kernel_rfl,by kernel_rfl⟩
def F:Clee:=ofL [(30,C.tocsinref08_Within.cl)]
theorem FOk_:FOk pr F:=FOk_cons C.tocsinref08_Within.clok (FOk_nil)
def P1:Post:=bodyK false pr 31 Tryz.f39 Kv
abbrev g2:List SE:=[.v 5 .sl]
def S2 (K:KT) (out_4:Sl) (w:World):Prop :=
 K out_4 w
theorem S2_ok:OkT pr false none 31 g2 (S2 (Kt Kv)) (s2 (tl 2 bd)) (P1 Kv):=ok_last mixed FOk_ fun v ρ w=>by kernel_rfl
def P3:Post:=next (get g2 (S2 (Kt Kv))) (P1 Kv)
def P4:Post:=inBlock 0 (P3 Kv)
abbrev g5:List SE:=[.v 1 (.int .i64),.v 5 .sl,.v 9 .sl,.v 10 (.int .i64),.v 11 (.int .i64)]
def P6 (kc5:Cur g5):Post:=next (get g5 kc5) (P4 Kv)
def S7 (K:KT) (kc5:Cur g5) (from_15:Int) (out_16:Sl) (l17:Sl) (n18:Int) (n19:Int) (w:World):Prop :=
 G.cond (decide (n19<n18)) (G.ix l17.a l17.n n19 2 fun p20=>G.cSl p20 w fun l21=>G.cSl (p20.add 1) w fun l22=>G.new (.cells #[nilS.v,nilS.v] 57) w fun p23 w24=>G.st p23 l21.v w24 fun w25=>G.st (p23.add 1) l22.v w25 fun w26=>G.cSl (p23.add 1) w26 fun l27=>C.tocsinref08_Within l27 from_15 1125899906842624 w26 fun l28 w29=>G.cond (decide (((l28.n:Nat):Int) > 0)) (G.cSl p23 w29 fun l30=>G.new (.cells #[l30.v,l28.v] 57) w29 fun p31 w32=>G.runSl pr (Builtin.append_ #[27,27] 27 #[out_16.v,(Sl.v (⟨some p31,1,1⟩:Sl))]) w32 fun l33 w34=>kc5 from_15 l33 l17 n18 (IntKind.i64.wrap (n19+1)) w34) (kc5 from_15 out_16 l17 n18 (IntKind.i64.wrap (n19+1)) w29)) (S2 K out_16 w)
theorem S7_ok (kc5:Cur g5):OkT pr false none 31 g5 (S7 (Kt Kv) kc5) (lp (blk (tl 1 (s1 (tl 2 bd))))) (P6 Kv kc5):=ok_last mixed FOk_ fun v ρ w=>by kernel_rfl
def L5 (K:KT):Cur g5:=loopC g5 (S7 K)
theorem L5_ok:OkT pr false none 31 g5 (L5 (Kt Kv)) (blk (tl 1 (s1 (tl 2 bd)))) (P4 Kv):=ok_loop (B:=S7 (Kt Kv)) (by kernel_rfl) fun kc=>S7_ok Kv kc
theorem L5_ind {K:KT} {from_5:Int} {out_6:Sl} {l7:Sl} {n8:Int} {n9:Int} {w:World} (h:∀ X:Cur g5,(∀ from_5 out_6 l7 n8 n9 w,S7 K X from_5 out_6 l7 n8 n9 w→X from_5 out_6 l7 n8 n9 w)→X from_5 out_6 l7 n8 n9 w):L5 K from_5 out_6 l7 n8 n9 w:=fun X hX=>h X fun from_5 out_6 l7 n8 n9 w hb=>hX (from_5,out_6,l7,n8,n9,()) w hb
theorem B8:OkT pr false none 31 g5 (L5 (Kt Kv)) (tl 1 (s1 (tl 2 bd))) (P3 Kv):=ok_block 0 (by kernel_rfl) (L5_ok Kv)
abbrev g9:List SE:=[.v 0 .sl,.v 1 (.int .i64),.v 5 .sl]
def S9 (K:KT) (l_35:Sl) (from_36:Int) (out_37:Sl) (w:World):Prop :=
 L5 K from_36 out_37 l_35 ((l_35.n:Nat):Int) 0 w
theorem S9_ok:OkT pr false none 31 g9 (S9 (Kt Kv)) (s1 (tl 2 bd)) (P3 Kv):=ok_group mixed FOk_ 1 (B8 Kv) fun v ρ w=>by kernel_rfl
theorem Q10:OkT pr false none 31 g9 (S9 (Kt Kv)) (tl 2 bd) (P1 Kv):=ok_seq (by kernel_rfl) (S2_ok Kv) (S9_ok Kv)
end tocsinref10_Trim
def tocsinref10_Trim (l_2:Sl) (from_3:Int) (w:World) (K:tocsinref10_Trim.KT):Prop :=
 tocsinref10_Trim.S9 K l_2 from_3 nilS w
def tocsinref10_Trim.cl:CL:=fun args K w=>match args with
 | [.slice x0_a x0_n x0_c,.int .i64 x1]=>C.tocsinref10_Trim ⟨x0_a,x0_n,x0_c⟩ x1 w (tocsinref10_Trim.Kt K)
 | _=>False
theorem tocsinref10_Trim.clok:OkC pr 39 tocsinref10_Trim.cl:=by
 intro args K w h
 unfold tocsinref10_Trim.cl at h
 split at h
 ·exact calls_group false mixed tocsinref10_Trim.FOk_ tocsinref10_Trim.fn rfl 2 (tocsinref10_Trim.Q10 K) (Eq.mp (by kernel_rfl) h)
 ·exact h.elim
namespace tocsinlaw10_BlockMerges
abbrev KT:=Bool→World→Prop
def Kt:KT:=fun b1 w=>Kv (.bool b1) w
noncomputable def bd:Code:=bdy Tryz.f9
theorem fn:FnOk pr 9 188 Tryz.f9:=⟨Tryz.func9,by kernel_rfl,Tryz.ntmps9,by kernel_rfl,by kernel_rfl⟩
def F:Clee:=ofL [(11,C.block_Open.cl),(13,C.tocsinlaw10_awake.cl),(15,C.block_Block_Bytes.cl),(17,C.tocsinlaw10_built.cl),(18,C.tocsinref10_Build.cl),(19,C.tocsinref10_Sorted.cl),(36,C.block_Trim.cl),(37,C.tocsinref10_Merged.cl),(38,C.block_Merge.cl),(39,C.tocsinref10_Trim.cl)]
theorem FOk_:FOk pr F:=FOk_cons C.block_Open.clok (FOk_cons C.tocsinlaw10_awake.clok (FOk_cons C.block_Block_Bytes.clok (FOk_cons C.tocsinlaw10_built.clok (FOk_cons C.tocsinref10_Build.clok (FOk_cons C.tocsinref10_Sorted.clok (FOk_cons C.block_Trim.clok (FOk_cons C.tocsinref10_Merged.clok (FOk_cons C.block_Merge.clok (FOk_cons C.tocsinref10_Trim.clok (FOk_nil))))))))))
def P1:Post:=bodyK false pr 188 Tryz.f9 Kv
end tocsinlaw10_BlockMerges
def tocsinlaw10_BlockMerges (a_2:Sl) (b_3:Sl) (c_4:Sl) (from_5:Int) (w:World) (K:tocsinlaw10_BlockMerges.KT):Prop :=
 C.tocsinlaw10_built a_2 w fun p30 w31=>C.tocsinlaw10_built b_3 w31 fun p32 w33=>C.tocsinlaw10_built c_4 w33 fun p34 w35=>G.cond p30.isNone (C.tocsinlaw10_awake w35 fun b36 w37=>K b36 w37) (G.cond p32.isNone (C.tocsinlaw10_awake w35 fun b38 w39=>K b38 w39) (G.cond p34.isNone (C.tocsinlaw10_awake w35 fun b40 w41=>K b40 w41) (C.tocsinref10_Sorted a_2 w35 fun l42 w43=>C.tocsinref10_Sorted b_3 w43 fun l44 w45=>C.tocsinref10_Sorted c_4 w45 fun l46 w47=>G.new (.cells #[l42.v,l44.v,l46.v] 27) w47 fun p48 w49=>C.tocsinref10_Merged (⟨some p48,3,3⟩:Sl) w49 fun l50 w51=>C.tocsinref10_Build l50 w51 fun l52 n53 n54 w55=>G.new (.cells #[(.pointer p30),(.pointer p32),(.pointer p34)] 23) w55 fun p56 w57=>C.block_Merge (⟨some p56,3,3⟩:Sl) w57 fun l58 n59 w60=>G.rdS pr (Conv.bytesToString l58.v) w60 fun s61=>G.rdS pr (Conv.bytesToString l52.v) w60 fun s62=>G.cond (!(s61.toList==s62.toList)) (K false w60) (G.cond (n53 != n59) (K false w60) (G.new (.cells #[(.pointer p30)] 23) w60 fun p63 w64=>C.block_Merge (⟨some p63,1,1⟩:Sl) w64 fun l65 n66 w67=>C.block_Merge nilS w67 fun l68 n69 w70=>C.tocsinref10_Build nilS w70 fun l71 n72 n73 w74=>G.cond (n66 != 0) (K false w74.drew) (G.rdS pr (Conv.bytesToString l65.v) w74.drew fun s75=>C.block_Block_Bytes p30 w74.drew fun l76 w77=>isS pr l65 s75 w77∧(G.rdS pr (Conv.bytesToString l76.v) w77 fun s78=>G.cond (!(s75.toList==s78.toList)) (K false w77) (G.cond (n69 != 0) (K false w77) (G.rdS pr (Conv.bytesToString l68.v) w77 fun s79=>G.rdS pr (Conv.bytesToString l71.v) w77 fun s80=>G.cond (!(s79.toList==s80.toList)) (K false w77) (C.block_Trim p30 from_5 w77 fun l81 n82 w83=>C.tocsinref10_Sorted a_2 w83 fun l84 w85=>C.tocsinref10_Trim l84 from_5 w85 fun l86 w87=>C.tocsinref10_Build l86 w87 fun l88 n89 n90 w91=>G.rdS pr (Conv.bytesToString l81.v) w91 fun s92=>G.rdS pr (Conv.bytesToString l88.v) w91 fun s93=>G.cond (!(s92.toList==s93.toList)) (K false w91) (G.cond (n82 != n89) (K false w91) (G.new (.cells #[(.pointer p30),(.pointer p32)] 23) w91 fun p94 w95=>C.block_Merge (⟨some p94,2,2⟩:Sl) w95 fun l96 n97 w98=>G.cond (n97 != 0) (C.tocsinlaw10_awake w98 fun b99 w100=>K b99 w100) (G.cond (n59 != 0) (C.tocsinlaw10_awake w98 fun b101 w102=>K b101 w102) (C.block_Open l96 w98 fun p103 n104 w105=>G.cond (n104 != 0) (K false w105) (G.cond p103.isNone (K false w105) (G.new (.cells #[(.pointer p103),(.pointer p34)] 23) w105 fun p106 w107=>C.block_Merge (⟨some p106,2,2⟩:Sl) w107 fun l108 n109 w110=>G.cond (n109==0) (G.rdS pr (Conv.bytesToString l108.v) w110 fun s111=>G.rdS pr (Conv.bytesToString l58.v) w110 fun s112=>G.cond (s111.toList==s112.toList) (C.tocsinlaw10_awake w110 fun b113 w114=>K b113 w114) (K false w110)) (K false w110)))))))))))))))))
def tocsinlaw10_BlockMerges.cl:CL:=fun args K w=>match args with
 | [.slice x0_a x0_n x0_c,.slice x1_a x1_n x1_c,.slice x2_a x2_n x2_c,.int .i64 x3]=>C.tocsinlaw10_BlockMerges ⟨x0_a,x0_n,x0_c⟩ ⟨x1_a,x1_n,x1_c⟩ ⟨x2_a,x2_n,x2_c⟩ x3 w (tocsinlaw10_BlockMerges.Kt K)
 | _=>False
theorem tocsinlaw10_BlockMerges.clok:OkC pr 9 tocsinlaw10_BlockMerges.cl:=by
 intro args K w h
 unfold tocsinlaw10_BlockMerges.cl at h
 split at h
 ·exact calls_last false mixed tocsinlaw10_BlockMerges.FOk_ tocsinlaw10_BlockMerges.fn rfl (Eq.mp (by kernel_rfl) h)
 ·exact h.elim
end C
end Go.Proofs.YtmfgmcajelmgbaaGreatDoor

namespace Go.Proofs.YtmfgmcajelmgbaaGreatDoor.Utf
open Go Vm Go.RowKit Num Mem Lib
set_option maxRecDepth 10000
abbrev bytes (s:ByteArray):List UInt8:=s.data.toList
theorem ixS_at {s:ByteArray} {i:Int} {k:Nat} (hi:i=(k:Int)) (hk:k<s.size) {K:Int→Prop} (hK:K (((bytes s).getD k 0).toNat:Int)):G.ixS s i K:=by
 subst hi
 refine ⟨(bytes s).getD k 0,by omega,?_,hK⟩
 rw [Int.toNat_natCast,getElem?_pos s k hk]
 have hk':k<s.data.toList.length:=by rw [← size_eq];exact hk
 congr 1
 rw [List.getD_eq_getElem?_getD,List.getElem?_eq_getElem hk',Option.getD_some]
 rfl
theorem slcS_at {s:ByteArray} {i:Int} {k:Nat} (hi:i=(k:Int)) (hk:k≤s.size) {K:ByteArray→Prop} (hK:K (s.extract k s.size)):G.slcS s i ((s.size:Nat):Int) K:=by
 subst hi
 exact ⟨⟨by omega,by omega,by omega⟩,by simpa using hK⟩
end Go.Proofs.YtmfgmcajelmgbaaGreatDoor.Utf

namespace Go.Proofs.YtmfgmcajelmgbaaGreatDoor.Utf
open Go Vm Go.RowKit Num Mem Lib
set_option maxRecDepth 10000
abbrev UTab (w:World):Prop:=Utf8Tabs 2 3 w
theorem UTab.keep {w w':World} (h:UTab w) (k:Keep w w'):UTab w':=⟨fun c hc=>k.cell (h.1 c hc),fun i hi=>⟨k.cell (h.2 i hi).1,k.cell (h.2 i hi).2⟩⟩
theorem orByte {a k m:Nat} {c:UInt8} (hk:k≤56) (hm:m=2 ^ k) (ha:a<m):Go.bits .or .u64 (a:Int) (shl .u64 (IntKind.u64.wrap (c.toNat:Int)) (k:Int))=((a+c.toNat*m:Nat):Int):=by
 have hc:=c.toNat_lt
 subst hm
 have hp:2 ^ k≤2 ^ 56:=Nat.pow_le_pow_right (by decide) hk
 have hx:c.toNat*2 ^ k≤255*2 ^ 56:=Nat.mul_le_mul (by omega) hp
 rw [wU64_id (x:=(c.toNat:Int)) (by omega) (by omega),shl_nat .u64 _ k (by simp only [IntKind.bits];omega),show (c.toNat:Int)*2 ^ k=((c.toNat*2 ^ k:Nat):Int) by simp,wU64_id (by omega) (by omega),
  bits_or rfl (by simp only [IntKind.bits];omega) (by simp only [IntKind.bits];omega),Nat.or_comm,Nat.mul_comm,← Nat.two_pow_add_eq_or_of_lt ha,Nat.add_comm]
abbrev word (s:ByteArray):Nat:=leNat [s.get! 0,s.get! 1,s.get! 2,s.get! 3,s.get! 4,s.get! 5,s.get! 6,s.get! 7]
theorem word_ok {s:ByteArray} (hs:8≤s.size) {w:World} {K:Int→World→Prop} (hK:K ((word s:Nat):Int) w.drew):C.utf8_word_string s w K:=by
 unfold C.utf8_word_string
 have e8:(8:Int)=((8:Nat):Int):=rfl
 have e16:(16:Int)=((16:Nat):Int):=rfl
 have e24:(24:Int)=((24:Nat):Int):=rfl
 have e32:(32:Int)=((32:Nat):Int):=rfl
 have e40:(40:Int)=((40:Nat):Int):=rfl
 have e48:(48:Int)=((48:Nat):Int):=rfl
 have e56:(56:Int)=((56:Nat):Int):=rfl
 have h0:=((bytes s).getD 0 0).toNat_lt
 have h1:=((bytes s).getD 1 0).toNat_lt
 have h2:=((bytes s).getD 2 0).toNat_lt
 have h3:=((bytes s).getD 3 0).toNat_lt
 have h4:=((bytes s).getD 4 0).toNat_lt
 have h5:=((bytes s).getD 5 0).toNat_lt
 have h6:=((bytes s).getD 6 0).toNat_lt
 have h7:=((bytes s).getD 7 0).toNat_lt
 refine ixS_at (k:=0) rfl (by omega) ?_
 refine ixS_at (k:=1) rfl (by omega) ⟨by decide,?_⟩
 refine ixS_at (k:=2) rfl (by omega) ⟨by decide,?_⟩
 refine ixS_at (k:=3) rfl (by omega) ⟨by decide,?_⟩
 refine ixS_at (k:=4) rfl (by omega) ⟨by decide,?_⟩
 refine ixS_at (k:=5) rfl (by omega) ⟨by decide,?_⟩
 refine ixS_at (k:=6) rfl (by omega) ⟨by decide,?_⟩
 refine ixS_at (k:=7) rfl (by omega) ⟨by decide,?_⟩
 unfold word at hK
 simp only [← Lib.getD_get!',leNat] at hK
 rw [wU64_id (x:=(((bytes s).getD 0 0).toNat:Int)) (by omega) (by omega),e8,orByte (m:=256) (by decide) rfl (by omega),e16,orByte (m:=65536) (by decide) rfl (by omega),e24,orByte (m:=16777216) (by decide) rfl (by omega),
  e32,orByte (m:=4294967296) (by decide) rfl (by omega),e40,orByte (m:=1099511627776) (by decide) rfl (by omega),e48,orByte (m:=281474976710656) (by decide) rfl (by omega),e56,orByte (m:=72057594037927936) (by decide) rfl (by omega)]
 refine Eq.mp (congrArg (fun x:Nat=>K (x:Int) w.drew) ?_) hK
 simp only [bytes]
 omega
theorem maskInt {n:Nat} (h:n<18446744073709551616):Go.bits .and .u64 (n:Int) (9259542123273814144:Int)=((n &&& 9259542123273814144:Nat):Int) :=
 bits_and rfl (by simp only [IntKind.bits];omega) (by decide)
theorem or64 {a b:Nat} (ha:a<18446744073709551616) (hb:b<18446744073709551616):Go.bits .or .u64 (a:Int) (b:Int)=((a ||| b:Nat):Int) :=
 bits_or rfl (by simp only [IntKind.bits];omega) (by simp only [IntKind.bits];omega)
theorem or64_lt {a b:Nat} (ha:a<18446744073709551616) (hb:b<18446744073709551616):a ||| b<18446744073709551616:=Nat.or_lt_two_pow (n:=64) ha hb
theorem newPair {w:World} {t:TypeId} {x y a b:Value} (ha:a.oneCell'=true) (hb:b.oneCell'=true) {K:Addr→World→Prop} (hK:∀ p w',Keep w w'→w'.cell? p=some a→w'.cell? (p.add 1)=some b→K p w') :
  G.new (.cells #[x,y] t) w fun p w1=>G.st p a w1 fun w2=>G.st (p.add 1) b w2 fun w3=>K p w3:=by
 have b1:=Blk.new w t #[x,y]
 have b2:=b1.set 0 a
 have b3:=b2.set 1 b
 have k1:Keep w (((w.alloc (.cells #[x,y] t)).setCell ⟨w.heap.size,0,none⟩ a).setCell ⟨w.heap.size,1,none⟩ b) :=
  ((Keep.alloc w _).setCell (p:=⟨w.heap.size,0,none⟩) (Nat.le_refl _) a).setCell (p:=⟨w.heap.size,1,none⟩) (Nat.le_refl _) b
 refine ⟨⟨x,by rw [b1.cell];rfl⟩,b1.frozen 0,⟨y,?_⟩,?_,?_⟩
 ·rw [addr_add,b2.cell];rfl
 ·rw [addr_add];exact b2.frozen _
 ·rw [addr_add]
  exact hK _ _ k1 (by rw [b3.cell];rfl) (by rw [addr_add,b3.cell];rfl)
theorem chk2 {s:ByteArray} {p:Addr} {w:World} {lo hi:Nat} {F N:Prop} (h1:w.cell? p=some (.int .u8 (lo:Int))) (h2:w.cell? (p.add 1)=some (.int .u8 (hi:Int))) (hs:1<s.size)
  (hF:((bytes s).getD 1 0).toNat<lo∨hi<((bytes s).getD 1 0).toNat→F) (hN:¬ (((bytes s).getD 1 0).toNat<lo∨hi<((bytes s).getD 1 0).toNat)→N) :
  G.ixS s (1:Int) fun n=>G.cI .u8 p w fun m=>G.cond (decide (n<m)) F (G.cI .u8 (p.add 1) w fun m'=>G.ixS s (1:Int) fun n'=>G.cond (decide (m'<n')) F N):=by
 refine ixS_at (k:=1) rfl hs ⟨_,h1,?_⟩
 refine cond_d (fun h=>hF (.inl (by omega))) (fun h=>?_)
 refine ⟨_,h2,ixS_at (k:=1) rfl hs ?_⟩
 exact cond_d (fun h'=>hF (.inr (by omega))) (fun h'=>hN (by omega))
theorem chkC {s:ByteArray} {i:Int} {k:Nat} {F N:Prop} (hi:i=(k:Int)) (hs:k<s.size) (hF:((bytes s).getD k 0).toNat<128∨191<((bytes s).getD k 0).toNat→F)
  (hN:¬ (((bytes s).getD k 0).toNat<128∨191<((bytes s).getD k 0).toNat)→N) :
  G.ixS s i fun n=>G.cond (decide (n<(128:Int))) F (G.ixS s i fun n'=>G.cond (decide ((191:Int)<n')) F N):=by
 refine ixS_at hi hs ?_
 refine cond_d (fun h=>hF (.inl (by omega))) (fun h=>?_)
 refine ixS_at hi hs ?_
 exact cond_d (fun h'=>hF (.inr (by omega))) (fun h'=>hN (by omega))
theorem firstT_lt (c:Nat):firstT c<256:=by
 rcases firstT_cases c with h | h | h | h | h | h | h | h | h<;>omega
theorem bits7 {f:Nat} (h:f<256):IntKind.i64.wrap (Go.bits .and .u8 (f:Int) (7:Int))=((f % 8:Nat):Int):=by
 rw [show (7:Int)=((7:Nat):Int) from rfl,bits_and rfl (by simp only [IntKind.bits];omega) (by decide),show f &&& 7=f % 8 from Nat.and_two_pow_sub_one_eq_mod f 3,wI64 (by omega) (by omega)]
theorem shr4 {f:Nat}:shr .u8 (f:Int) (4:Int)=((f / 16:Nat):Int):=by
 have:=shr_nat .u8 (f:Int) 4 (by decide)
 rw [show ((4:Nat):Int)=(4:Int) from rfl] at this
 rw [this];omega
theorem lead_ok {K:C.utf8_ValidString.KT} {kc:Cur C.utf8_ValidString.g5} {s:ByteArray} {w0 w:World} (ht:UTab w) (h0:0<s.size) (hc:128≤((bytes s).getD 0 0).toNat) (k0:Keep w0 w)
  (hF:validD (bytes s)=false→∀ w',Keep w0 w'→K false w') (hN:∀ k w',0<k→k≤s.size→validD (bytes s)=validD (bytes (s.extract k s.size))→Keep w0 w'→kc (s.extract k s.size) w') :
  C.utf8_ValidString.S8 K kc s (((bytes s).getD 0 0).toNat:Int) w:=by
 have hlen:(bytes s).length=s.size:=(size_eq s).symm
 have hv:=validD_lead (bytes s) (fun e=>by rw [e] at hlen;simp at hlen;omega) hc
 rw [hlen] at hv
 have hc':=((bytes s).getD 0 0).toNat_lt
 have hf:=firstT_lt ((bytes s).getD 0 0).toNat
 have hcell:=ht.1 _ (show ((bytes s).getD 0 0).toNat<256 from hc')
 generalize ((bytes s).getD 0 0).toNat=c at *
 generalize firstT c=f at *
 obtain ⟨a1,a2⟩:=ht.2 (f / 16) (by omega)
 generalize accLo (f / 16)=lo at *
 generalize accHi (f / 16)=hi at *
 have drop:∀ k,bytes (s.extract k s.size)=(bytes s).drop k:=fun k=>ext_list s k
 unfold C.utf8_ValidString.S8
 refine ⟨⟨by omega,by omega⟩,(f:Int),?_,by decide,?_⟩
 ·rw [addr_add];simpa using hcell
 rw [shr4]
 refine ⟨⟨by omega,by omega⟩,(lo:Int),?_,(hi:Int),?_,?_⟩
 ·rw [addr_add,Int.toNat_natCast,Nat.zero_add,Nat.mul_comm];exact a1
 ·rw [addr_add,addr_add,Int.toNat_natCast,Nat.zero_add,Nat.mul_comm];exact a2
 refine newPair rfl rfl fun p w1 k1 c1 c2=>?_
 have k2:Keep w0 w1.drew:=Keep.trans (Keep.trans k0 k1) (Keep.drew w1)
 rw [bits7 hf]
 have d1:w1.drew.cell? p=some (.int .u8 (lo:Int)):=c1
 have d2:w1.drew.cell? (p.add 1)=some (.int .u8 (hi:Int)):=c2
 refine cond_eq (fun h2=>?_) (fun h2=>cond_eq (fun h3=>?_) (fun h3=>cond_eq (fun h4=>?_) (fun h4=>?_)))
 ·have hm:f % 8=2:=by omega
  simp only [hm,checkN,if_true] at hv
  refine cond_d (fun h=>?_) (fun h=>?_)
  ·rw [if_pos (by omega)] at hv;exact hF hv _ k2
  refine chk2 d1 d2 (by omega) (fun hb=>?_) (fun hb=>?_)
  ·rw [if_pos (by omega)] at hv;exact hF hv _ k2
  rw [if_neg (by omega)] at hv
  exact slcS_at (k:=2) rfl (by omega) (hN 2 _ (by decide) (by omega) (by rw [drop];exact hv) k2)
 ·have hm:f % 8=3:=by omega
  simp only [hm,checkN,if_true,show ((3:Nat)=2)=False by simp,if_false] at hv
  refine cond_d (fun h=>?_) (fun h=>?_)
  ·rw [if_pos (by omega)] at hv;exact hF hv _ k2
  refine chk2 d1 d2 (by omega) (fun hb=>?_) (fun hb=>?_)
  ·rw [if_pos (by omega)] at hv;exact hF hv _ k2
  refine chkC (k:=2) rfl (by omega) (fun hb'=>?_) (fun hb'=>?_)
  ·rw [if_pos (by omega)] at hv;exact hF hv _ k2
  rw [if_neg (by omega)] at hv
  exact slcS_at (k:=3) rfl (by omega) (hN 3 _ (by decide) (by omega) (by rw [drop];exact hv) k2)
 ·have hm:f % 8=4:=by omega
  simp only [hm,checkN,if_true,show ((4:Nat)=2)=False by simp,show ((4:Nat)=3)=False by simp,if_false] at hv
  refine cond_d (fun h=>?_) (fun h=>?_)
  ·rw [if_pos (by omega)] at hv;exact hF hv _ k2
  refine chk2 d1 d2 (by omega) (fun hb=>?_) (fun hb=>?_)
  ·rw [if_pos (by omega)] at hv;exact hF hv _ k2
  refine chkC (k:=2) rfl (by omega) (fun hb'=>?_) (fun hb'=>?_)
  ·rw [if_pos (by omega)] at hv;exact hF hv _ k2
  refine chkC (k:=3) rfl (by omega) (fun hb''=>?_) (fun hb''=>?_)
  ·rw [if_pos (by omega)] at hv;exact hF hv _ k2
  rw [if_neg (by omega)] at hv
  exact slcS_at (k:=4) rfl (by omega) (hN 4 _ (by decide) (by omega) (by rw [drop];exact hv) k2)
 ·have h2':¬ f % 8=2:=by omega
  have h3':¬ f % 8=3:=by omega
  have h4':¬ f % 8=4:=by omega
  simp only [checkN,if_neg h2',if_neg h3',if_neg h4'] at hv
  exact hF hv _ (Keep.trans k0 k1)
theorem skip {t:ByteArray} {k:Nat} (h:Asc t k) {b:Bool} (hv:validD (bytes t)=b):validD (bytes (t.extract k t.size))=b:=by rw [← hv];exact valid_skip t k h
theorem valid_ok {s:ByteArray} {w0:World} (ht:UTab w0) (hs:s.size≤140737488355328) {K:Bool→World→Prop} (hK:∀ w',Keep w0 w'→K (validD (bytes s)) w'):C.utf8_ValidString s w0 K:=by
 unfold C.utf8_ValidString
 refine C.utf8_ValidString.L5_ind fun X hX=>?_
 have key:∀ (N:Nat) (t:ByteArray) (w:World),t.size<N→Keep w0 w→(∀ w',Keep w0 w'→K (validD (bytes t)) w')→X t w:=by
  intro N
  induction N with
  | zero=>intro t w h;omega
  | succ N ih =>
   intro t w hN k hK
   refine hX _ _ ?_
   unfold C.utf8_ValidString.S32 C.utf8_ValidString.S2
   refine cond_d (fun h0=>?_) (fun h0=>?_)
   ·have hpos:0<t.size:=by omega
    unfold C.utf8_ValidString.S30
    refine ixS_at (k:=0) rfl hpos ?_
    unfold C.utf8_ValidString.S28 C.utf8_ValidString.D27
    refine cond_d (fun hc=>?_) (fun hc=>?_)
    ·have a1:Asc t 1:=asc_one t hpos (by rw [← Lib.getD_get!'];exact_mod_cast hc)
     have next:∀ (u:ByteArray) (w':World),u.size<t.size→validD (bytes u)=validD (bytes t)→Keep w0 w'→X u w':=fun u w' hu hv k'=>ih u w' (by omega) k' (by rw [hv];exact hK)
     unfold C.utf8_ValidString.S25
     refine slcS_at (k:=1) rfl (by omega) ?_
     have e1:=ext_size t 1
     have v1:=skip a1 rfl
     generalize t.extract 1 t.size=t1 at *
     have out:∀ w',Keep w0 w'→X t1 w':=fun w' k'=>next t1 w' (by omega) v1 k'
     unfold C.utf8_ValidString.S23 C.utf8_ValidString.D22 C.utf8_ValidString.S21 C.utf8_ValidString.S10
     refine cond_d (fun h8=>?_) (fun _=>cond_f rfl (out w k))
     refine word_ok (by omega) ?_
     have kd:Keep w0 w.drew:=Keep.trans k (Keep.drew w)
     rw [maskInt (word_lt t1)]
     refine cond_eq (fun hm=>?_) (fun _=>out _ kd)
     have a8:Asc t1 8:=(word_asc t1 (by omega)).1 (by exact_mod_cast hm)
     unfold C.utf8_ValidString.S20
     refine slcS_at (k:=8) rfl (by omega) ?_
     have e2:=ext_size t1 8
     have v2:=skip a8 v1
     generalize t1.extract 8 t1.size=t2 at *
     have out2:∀ w',Keep w0 w'→X t2 w':=fun w' k'=>next t2 w' (by omega) v2 k'
     have kd2:Keep w0 w.drew.drew:=Keep.trans kd (Keep.drew _)
     unfold C.utf8_ValidString.D19 C.utf8_ValidString.S18 C.utf8_ValidString.S10
     refine cond_d (fun h16=>?_) (fun _=>cond_f rfl (out2 _ kd2))
     refine slcS_at (k:=8) rfl (by omega) ?_
     have e3:=ext_size t2 8
     refine word_ok (by omega) ?_
     refine word_ok (by omega) ?_
     have kd4:Keep w0 w.drew.drew.drew.drew:=Keep.trans (Keep.trans kd2 (Keep.drew _)) (Keep.drew _)
     rw [or64 (word_lt _) (word_lt _),maskInt (or64_lt (word_lt _) (word_lt _))]
     refine cond_eq (fun hm=>?_) (fun _=>out2 _ kd4)
     have hm':(word t2 ||| word (t2.extract 8 t2.size)) &&& 9259542123273814144=0:=by exact_mod_cast hm
     rw [or_mask] at hm'
     have b1:Asc t2 8:=(word_asc t2 (by omega)).1 hm'.1
     have b2:Asc (t2.extract 8 t2.size) 8:=(word_asc _ (by omega)).1 hm'.2
     have a16:Asc t2 16:=asc_add t2 8 8 b1 b2
     unfold C.utf8_ValidString.S17
     refine slcS_at (k:=16) rfl (by omega) ?_
     have e4:=ext_size t2 16
     have v3:=skip a16 v2
     generalize t2.extract 16 t2.size=t3 at *
     refine C.utf8_ValidString.L13_ind fun Y hY=>?_
     have inner:∀ (M:Nat) (u:ByteArray) (w':World),u.size<M→u.size<t.size→validD (bytes u)=validD (bytes t)→Keep w0 w'→Y u w':=by
      intro M
      induction M with
      | zero=>intro u w' h;omega
      | succ M ihm =>
       intro u w' hM hu hv kk
       refine hY _ _ ?_
       have kk1:Keep w0 w'.drew:=Keep.trans kk (Keep.drew _)
       unfold C.utf8_ValidString.S15 C.utf8_ValidString.S10
       refine cond_d (fun h32=>?_) (fun _=>next u _ hu hv kk1)
       have f1:=ext_size u 8
       have f2:=ext_size u 16
       have f3:=ext_size u 24
       refine slcS_at (k:=8) rfl (by omega) ?_
       refine slcS_at (k:=16) rfl (by omega) ?_
       refine slcS_at (k:=24) rfl (by omega) ?_
       refine word_ok (by omega)<|word_ok (by omega)<|word_ok (by omega)<|word_ok (by omega) ?_
       have kk5:Keep w0 w'.drew.drew.drew.drew.drew:=Keep.trans (Keep.trans (Keep.trans (Keep.trans kk1 (Keep.drew _)) (Keep.drew _)) (Keep.drew _)) (Keep.drew _)
       rw [or64 (word_lt _) (word_lt _),or64 (word_lt _) (word_lt _),or64 (or64_lt (word_lt _) (word_lt _)) (or64_lt (word_lt _) (word_lt _)),maskInt (or64_lt (or64_lt (word_lt _) (word_lt _)) (or64_lt (word_lt _) (word_lt _)))]
       refine cond_eq (fun hm=>?_) (fun _=>next u _ hu hv kk5)
       have hm':((word u ||| word (u.extract 8 u.size)) ||| (word (u.extract 16 u.size) ||| word (u.extract 24 u.size))) &&& 9259542123273814144=0:=by exact_mod_cast hm
       rw [or_mask,or_mask,or_mask] at hm'
       have q1:Asc u 8:=(word_asc u (by omega)).1 hm'.1.1
       have q2:Asc u 16:=asc_add u 8 8 q1 ((word_asc _ (by omega)).1 hm'.1.2)
       have q3:Asc u 24:=asc_add u 16 8 q2 ((word_asc _ (by omega)).1 hm'.2.1)
       have q4:Asc u 32:=asc_add u 24 8 q3 ((word_asc _ (by omega)).1 hm'.2.2)
       refine slcS_at (k:=32) rfl (by omega) ?_
       have f4:=ext_size u 32
       exact ihm _ _ (by omega) (by omega) (skip q4 hv) kk5
     exact inner (t3.size+1) t3 _ (by omega) (by omega) v3 kd4
    ·unfold C.utf8_ValidString.S26
     refine lead_ok (UTab.keep ht k) hpos (by omega) k (fun hv w' k'=>by rw [hv] at hK;exact hK w' k') fun n w' h1 h2 hv k'=>?_
     have:=ext_size t n
     exact ih _ w' (by omega) k' (by rw [← hv];exact hK)
   ·have hz:bytes t=[]:=List.eq_nil_of_length_eq_zero (by rw [← size_eq];omega)
    rw [hz,validD_nil] at hK
    exact hK w k
 exact key (s.size+1) s w0 (by omega) (Keep.refl _) hK
end Go.Proofs.YtmfgmcajelmgbaaGreatDoor.Utf

namespace Go.Proofs.YtmfgmcajelmgbaaGreatDoor.Utf
open Go Vm Go.RowKit Num Mem Lib
theorem convSB {w:World} {s:ByteArray} {K:Sl→World→Prop} (hK:∀ r w',Keep w w'→RdB w' r (bytes s)→K r w') :
  G.runSl Tryz.prog (Go.convert 9 22 (.string s)) w K:=by
 refine ⟨⟨some ⟨w.heap.size,0,none⟩,s.size,grownCap w s.size 0 5⟩,_,Go.Lib.run_convert_string_bytes (P:=Tryz.prog) w 9 22 5 s (u:=.string) (by kernel_rfl) (by kernel_rfl) (by kernel_rfl),hK _ _ ?_ ?_⟩
 ·refine ⟨?_,?_,?_,?_,fun k hk=>bytesWorld_at_old w _ s k hk⟩
  ·simp [bytesWorld,World.freeze,World.alloc,World.drew,-World.alloc_eq,-World.drew_eq]
  ·simp [bytesWorld,World.freeze,World.alloc,World.drew,-World.alloc_eq,-World.drew_eq]
  ·simp [bytesWorld,World.freeze,World.alloc,World.drew,-World.alloc_eq,-World.drew_eq]
  ·rw [bytesWorld_size];omega
 ·refine ⟨grownCap_ge w s.size 0 _,by rw [vBs_length,Nat.mul_one,size_eq],fun _=>⟨_,0,rfl,fun j v hv=>?_⟩⟩
  rw [Nat.zero_add]
  obtain ⟨hj,he⟩:=List.getElem?_eq_some_iff.1 hv
  rw [vBs_length,← size_eq] at hj
  rw [bytesWorld_cell w _ s j hj,← he]
  simp only [vBs,List.getElem_map,vB]
  rw [List.getD_eq_getElem?_getD,List.getElem?_eq_getElem (by rw [← size_eq];exact hj),Option.getD_some]
theorem fold_push:∀ (l m:List UInt8),(l.map fun b=>(b.toNat:Int)).foldl (fun r n=>r.push (UInt8.ofNat n.toNat)) (⟨m.toArray⟩:ByteArray)=⟨(m++l).toArray⟩
 | [],m=>by rw [List.append_nil];rfl
 | b::l,m=>by
  simp only [List.map_cons,List.foldl_cons]
  have e:(⟨m.toArray⟩:ByteArray).push (UInt8.ofNat ((b.toNat:Int)).toNat)=⟨(m++[b]).toArray⟩:=by
   simp [ByteArray.push]
  rw [e,fold_push l (m++[b])]
  simp
abbrev str (l:List UInt8):ByteArray:=⟨l.toArray⟩
theorem bytes_str (l:List UInt8):bytes (str l)=l:=by simp [bytes,str]
theorem str_size (l:List UInt8):(str l).size=l.length:=by rw [size_eq]
theorem convBS {P:Program} {w:World} {b:Sl} {l:List UInt8} (h:RdB w b l) {K:ByteArray→Prop} (hK:K (str l)):G.rdS P (Conv.bytesToString b.v) w K:=by
 refine ⟨_,fun d=>?_,hK⟩
 have hd:=Rd.drewN h d
 have hn:=RdB.len h
 cases b with
 | mk a n c =>
  simp only at hn
  subst hn
  have go:∀ x:Addr,(∀ j v,(vBs l)[j]?=some v→(w.drewN d).cell? (x.add j)=some v)→(Conv.bytesToString (.slice (some x) l.length c)).run P (w.drewN d)=.ok (.string (str l)) (w.drewN d):=by
   intro x hx
   have e:vBs l=(l.map fun b=>(b.toNat:Int)).map (Value.int .u8):=by
    rw [List.map_map];rfl
   have hl:(loadCells x l.length).run P (w.drewN d)=.ok ((l.map fun b=>(b.toNat:Int)).map (Value.int .u8)).toArray (w.drewN d):=by
    rw [← e]
    have:=run_loadCells_list (P:=P) (w.drewN d) x (vBs l) hx
    rw [vBs_length] at this
    exact this
   rw [run_bytesToString (w.drewN d) x l.length c _ hl]
   have:=fold_push l []
   simp only [List.nil_append] at this
   exact congrArg (fun s=>Result.ok (Value.string s) (w.drewN d)) this
  by_cases h0:vBs l=[]
  ·have hl0:l=[]:=by cases l with | nil=>rfl | cons=>simp [vBs] at h0
   subst hl0
   cases a with
   | none=>rfl
   | some x=>exact go x (by intro j v hv;simp [vBs] at hv)
  ·obtain ⟨g,o,ha,hc⟩:=hd.2.2 h0
   simp only at ha
   subst ha
   exact go _ fun j v hv=>by rw [addr_add];exact hc j v hv
end Go.Proofs.YtmfgmcajelmgbaaGreatDoor.Utf

namespace Go.Proofs.YtmfgmcajelmgbaaGreatDoor.Lab
open Go Vm Num Mem Utf Lib
variable {w w' w0 : World}
def letterB (c:Nat):Bool:=(decide (97≤c)&&decide (c≤122)) || (decide (65≤c)&&decide (c≤90)) || c==95
def digitB (c:Nat):Bool:=decide (48≤c)&&decide (c≤57)
theorem letter_ok {c:Nat} {K:Bool→World→Prop} (hK:K (letterB c) w):C.labels_letter (c:Int) w K:=by
 unfold C.labels_letter
 have e95:∀ b:Bool,letterB c=b→(((c:Int)==(95:Int))=(c==95)):=fun _ _=>by
  cases h:(c==95) with
  | true=>simp at h;subst h;rfl
  | false=>simp at h;simp;omega
 have e:=e95 _ rfl
 have yes:letterB c=true→K true w:=fun h=>by rw [h] at hK;exact hK
 have els:(letterB c=(c==95))→K ((c:Int)==(95:Int)) w:=fun h=>by rw [e,← h];exact hK
 refine cond_d (fun h1=>cond_d (fun h2=>yes ?_) (fun h2=>cond_d (fun h3=>cond_d (fun h4=>by omega) (fun h4=>els ?_)) (fun h3=>by omega))) (fun h1=>cond_d (fun h3=>cond_d (fun h4=>yes ?_) (fun h4=>els ?_)) (fun h3=>els ?_))
 all_goals (unfold letterB;simp;try omega)
theorem digit_ok {c:Nat} {K:Bool→World→Prop} (hK:K (digitB c) w):C.labels_digit (c:Int) w K:=by
 unfold C.labels_digit
 unfold digitB at hK
 refine cond_d (fun h=>?_) (fun h=>?_)
 ·have e:decide ((c:Int)≤57)=decide (c≤57):=by simp only [decide_eq_decide];omega
  rw [e]
  rw [decide_eq_true (by omega:48≤c)] at hK
  exact hK
 ·rw [decide_eq_false (by omega:¬ 48≤c)] at hK
  exact hK
def okB (colon:Bool) (c:Nat):Bool:=letterB c || (digitB c || (colon&&c==58))
def namedB (l:List UInt8) (most:Nat) (colon:Bool):Bool:=!l.isEmpty&&(decide (l.length≤most)&&(!digitB (l.getD 0 0).toNat&&l.all fun c=>okB colon c.toNat))
theorem named_ok {s:ByteArray} {most:Nat} {m:Int} (hm:m=(most:Int)) (hmm:most≤100000) {colon:Bool} {K:Bool→World→Prop} (hK:∀ w',Keep w0 w'→K (namedB (Utf.bytes s) most colon) w'):C.labels_named s m colon w0 K:=by
 subst hm
 have hsz:=size_eq s
 have hl:(Utf.bytes s).length=s.size:=hsz.symm
 unfold C.labels_named
 have no:namedB (Utf.bytes s) most colon=false→∀ w',Keep w0 w'→K false w':=fun h w' k=>by have:=hK w' k;rwa [h] at this
 have etl:s.toList=Utf.bytes s:=ByteArray.toList_eq s
 have e0:(⟨#[]⟩:ByteArray).toList=[]:=by rw [ByteArray.toList_eq]
 rw [etl,e0]
 refine cond_of (fun h=>no ?_ w0 (Keep.refl w0)) (fun h=>?_)
 ·have:Utf.bytes s=[]:=by simpa using h
  unfold namedB;rw [this];rfl
 have hne:Utf.bytes s≠[]:=by intro e;rw [e] at h;simp at h
 have hpos:0<s.size:=by rw [← hl];exact List.length_pos_iff.2 hne
 refine cond_d (fun h=>no ?_ w0 (Keep.refl w0)) (fun h=>?_)
 ·unfold namedB;rw [decide_eq_false (by omega)];simp
 refine ixS_at (k:=0) rfl hpos (digit_ok ?_)
 have hemp:(Utf.bytes s).isEmpty=false:=by cases hb:Utf.bytes s with | nil=>exact absurd hb hne | cons _ _=>rfl
 have hle:decide ((Utf.bytes s).length≤most)=true:=decide_eq_true (by omega)
 refine cond_of (fun h=>no ?_ w0 (Keep.refl w0)) (fun hd=>?_)
 ·unfold namedB;rw [h];simp
 have hn:namedB (Utf.bytes s) most colon=(Utf.bytes s).all fun c=>okB colon c.toNat:=by unfold namedB;rw [hemp,hle,hd];simp
 rw [hn] at hK no
 unfold C.labels_named.S9
 refine convSB fun r w1 k1 o1=>?_
 have hr:=o1.len
 clear hn hd hle hemp hne etl hsz
 generalize Utf.bytes s=l at *
 refine C.labels_named.L5_ind fun X hX=>?_
 have key:∀ (d i:Nat),i+d=l.length→(l.take i).all (fun c=>okB colon c.toNat)=true→X colon r ((r.n:Nat):Int) (i:Int) w1:=by
  intro d
  induction d with
  | zero =>
   intro i hi ha
   refine hX _ _ _ _ _ ?_
   unfold C.labels_named.S7 C.labels_named.S2
   refine cond_d (fun h=>by omega) (fun _=>?_)
   rw [List.take_of_length_le (by omega)] at ha
   have:=hK w1 k1
   rwa [ha] at this
  | succ d ih =>
   intro i hi ha
   refine hX _ _ _ _ _ ?_
   unfold C.labels_named.S7
   have hil:i<l.length:=by omega
   refine cond_d (fun _=>?_) (fun h=>by omega)
   refine RdB.at_ o1 hil ?_
   have next:okB colon l[i].toNat=true→X colon r ((r.n:Nat):Int) (IntKind.i64.wrap ((i:Int)+1)) w1:=fun hok=>by
    rw [wI64 (by omega) (by omega),show (i:Int)+1=((i+1:Nat):Int) by omega]
    refine ih (i+1) (by omega) ?_
    rw [List.take_add_one,List.getElem?_eq_getElem hil,List.all_append,ha]
    simp [hok]
   have stop:okB colon l[i].toNat=false→K false w1:=fun hok=>no (by
    rw [List.all_eq_false]
    exact ⟨l[i],List.getElem_mem hil,by simp [hok]⟩) w1 k1
   refine letter_ok (cond_of (fun hlt=>?_) (fun hlt=>next (by unfold okB;simp at hlt;simp [hlt])))
   refine digit_ok (cond_of (fun hdt=>?_) (fun hdt=>next (by unfold okB;simp at hdt;simp [hdt])))
   simp only [Bool.not_eq_true'] at hlt hdt
   refine cond_of (fun hc=>?_) (fun hc=>stop (by unfold okB;simp [hlt,hdt,hc]))
   have e58:((l[i].toNat:Int)==(58:Int))=(l[i].toNat==58):=by
    cases h:(l[i].toNat==58) with
    | true=>simp at h;simp [h]
    | false=>simp at h;simp;omega
   rw [e58]
   refine cond_of (fun h5=>stop (by unfold okB;simp at h5;simp [hlt,hdt,h5])) (fun h5=>next (by unfold okB;simp at h5;simp [hc,h5]))
 exact key l.length 0 (by omega) rfl
end Go.Proofs.YtmfgmcajelmgbaaGreatDoor.Lab

namespace Go.Proofs.YtmfgmcajelmgbaaGreatDoor.Mem
open Go Vm Go.RowKit Num
abbrev Tg:=Nat→Nat
def ext (ω:Tg) (n t:Nat):Tg:=fun k=>if k<n then ω k else t
theorem ext_old {ω:Tg} {n t k:Nat} (h:k<n):ext ω n t k=ω k:=if_pos h
theorem ext_new {ω:Tg} {n t k:Nat} (h:n≤k):ext ω n t k=t:=if_neg (by omega)
structure Stp (T:Nat→Bool) (ω ω':Tg) (w w':World):Prop where
 os:w'.os=w.os
 tape:w'.tape=w.tape
 output:w'.output=w.output
 size:w.heap.size≤w'.heap.size
 same:∀ k,k<w.heap.size→ω' k=ω k
 block:∀ k,k<w.heap.size→T (ω k)=false→w'.heap[k]?=w.heap[k]?
abbrev Non:Nat→Bool:=fun _=>false
abbrev One (t:Nat):Nat→Bool:=fun u=>Nat.beq u t
abbrev Duo (t s:Nat):Nat→Bool:=fun u=>Nat.beq u t || Nat.beq u s
theorem beq_no {a b:Nat} (h:a≠b):Nat.beq a b=false:=beq_ff h
theorem one_self (t:Nat):One t t=true:=by simp [One]
variable {T T' : Nat → Bool} {ω ω' ω'' : Tg} {w w' w'' w0 : World}
theorem Stp.refl (T:Nat→Bool) (ω:Tg) (w:World):Stp T ω ω w w:=⟨rfl,rfl,rfl,Nat.le_refl _,fun _ _=>rfl,fun _ _ _=>rfl⟩
theorem Stp.trans (h:Stp T ω ω' w w') (k:Stp T ω' ω'' w' w''):Stp T ω ω'' w w'' :=
 ⟨k.os.trans h.os,k.tape.trans h.tape,k.output.trans h.output,Nat.le_trans h.size k.size,fun i hi=>(k.same i (Nat.lt_of_lt_of_le hi h.size)).trans (h.same i hi),fun i hi hT =>
  (k.block i (Nat.lt_of_lt_of_le hi h.size) (by rw [h.same i hi];exact hT)).trans (h.block i hi hT)⟩
theorem Stp.mono (h:Stp T ω ω' w w') (hT:∀ u,T' u=false→T u=false):Stp T' ω ω' w w':=⟨h.os,h.tape,h.output,h.size,h.same,fun k hk hn=>h.block k hk (hT _ hn)⟩
theorem Stp.non (h:Stp Non ω ω' w w') (T:Nat→Bool):Stp T ω ω' w w':=h.mono fun _ _=>rfl
theorem Stp.one {t s:Nat} (h:Stp (One t) ω ω' w w'):Stp (Duo t s) ω ω' w w':=h.mono fun u hu=>by simp only [Duo,Bool.or_eq_false_iff] at hu;exact hu.1
theorem Stp.two {t s:Nat} (h:Stp (One s) ω ω' w w'):Stp (Duo t s) ω ω' w w':=h.mono fun u hu=>by simp only [Duo,Bool.or_eq_false_iff] at hu;exact hu.2
theorem Keep.stp (k:Keep w w') (ω:Tg) (t:Nat):Stp Non ω (ext ω w.heap.size t) w w':=⟨k.os,k.tape,k.output,k.size,fun _ hi=>ext_old hi,fun i hi _=>k.block i hi⟩
theorem Keep.stp0 (k:Keep w w') (ω:Tg):Stp Non ω ω w w':=⟨k.os,k.tape,k.output,k.size,fun _ _=>rfl,fun i hi _=>k.block i hi⟩
theorem Stp.keep (h:Stp Non ω ω' w w'):Keep w w':=⟨h.os,h.tape,h.output,h.size,fun k hk=>h.block k hk rfl⟩
theorem Chg.stp {X:Nat→Prop} {t:Nat} (h:Chg X w w') (hX:∀ k,X k→ω k=t):Stp (One t) ω (ext ω w.heap.size t) w w' :=
 ⟨h.os,h.tape,h.output,h.size,fun _ hi=>ext_old hi,fun k hk hT=>h.block k hk fun hx=>by rw [hX k hx,one_self] at hT;cases hT⟩
theorem drew_stp (ω:Tg) (w:World):Stp Non ω ω w w.drew:=(Keep.drew w).stp0 ω
structure Top (w0:World) (ω:Tg) (w:World):Prop where
 k:Keep w0 w
 z:∀ k,k<w0.heap.size→ω k=0
theorem Top.init (w:World):Top w (fun _=>0) w:=⟨Keep.refl w,fun _ _=>rfl⟩
theorem Top.stp (h:Top w0 ω w) (s:Stp T ω ω' w w') (h0:T 0=false:=by rfl):Top w0 ω' w' :=
 ⟨Below.trans h.k ⟨s.os,s.tape,s.output,s.size,fun i hi=>s.block i (Nat.lt_of_lt_of_le hi h.k.size) (by rw [h.z i hi];exact h0)⟩,fun i hi=>(s.same i (Nat.lt_of_lt_of_le hi h.k.size)).trans (h.z i hi)⟩
structure BT (ω:Tg) (w:World) (t g:Nat) (e:TypeId) (cs:List Value):Prop where
 blk:Blk w g e cs
 tag:ω g=t
variable {t u g : Nat} {e : TypeId} {cs : List Value}
theorem BT.stp (h:BT ω w t g e cs) (s:Stp T ω ω' w w') (ne:T t=false:=by rfl):BT ω' w' t g e cs :=
 ⟨by unfold Blk;rw [s.block g h.blk.lt (by rw [h.tag];exact ne)];exact h.blk,(s.same g h.blk.lt).trans h.tag⟩
theorem BT.cell (h:BT ω w t g e cs) (j:Nat):w.cell? ⟨g,j,none⟩=cs[j]?:=h.blk.cell j
theorem BT.same (h:BT ω w t g e cs) (s:Stp T ω ω' w w') (ne:T t=false) (j n:Nat):sameAt ⟨g,j,none⟩ n w w':=by
 have hb:w'.heap[g]?=w.heap[g]?:=s.block g h.blk.lt (by rw [h.tag];exact ne)
 refine ⟨World.cell?_of_block hb,fun i _=>World.cell?_of_block ?_⟩
 rw [add_block];exact hb
theorem BT.sameT (h:BT ω w t g e cs) (s:Stp T ω ω' w w') {j n:Nat} (ne:T t=false:=by rfl):sameAt ⟨g,j,none⟩ n w w':=h.same s ne j n
theorem BT.sameA (h:BT ω w t g e cs) (s:Stp T ω ω' w w') {i j n:Nat} (ne:T t=false:=by rfl):sameAt (Addr.add ⟨g,i,none⟩ j) n w w':=by rw [addr_add];exact h.same s ne _ n
theorem new_T (t:Nat) {o:Array Value} {K:Addr→World→Prop} (hK:∀ g ω' w',Stp Non ω ω' w w'→BT ω' w' t g e o.toList→K ⟨g,0,none⟩ w'):G.new (.cells o e) w K :=
 hK w.heap.size (ext ω w.heap.size t) _ ((Keep.alloc w _).stp ω t) ⟨Blk.new w e o,ext_new (Nat.le_refl _)⟩
theorem st_T {j:Nat} {v:Value} (h:BT ω w t g e cs) (hj:j<cs.length) {K:World→Prop} (hK:∀ ω' w',Stp (One t) ω ω' w w'→BT ω' w' t g e (cs.set j v)→K w'):G.st ⟨g,j,none⟩ v w K:=by
 refine st_at (by rw [h.cell,List.getElem?_eq_getElem hj]) (h.blk.frozen j) (hK (ext ω w.heap.size t) _ (Chg.stp (setCell_chg w g j v) fun k hk=>by rw [hk];exact h.tag) ⟨h.blk.set j v,?_⟩)
 rw [ext_old h.blk.lt];exact h.tag
theorem st_TA {i j:Nat} {v:Value} (h:BT ω w t g e cs) (hj:i+j<cs.length) {K:World→Prop} (hK:∀ ω' w',Stp (One t) ω ω' w w'→BT ω' w' t g e (cs.set (i+j) v)→K w'):G.st (Addr.add ⟨g,i,none⟩ j) v w K:=by
 rw [addr_add];exact st_T h hj hK
structure OT (ω:Tg) (w:World) (t:Nat) (e:TypeId) (sz:Nat) (s:Sl) (xs:List Value):Prop where
 own:Own w 0 e sz s xs
 tag:∀ k,s.v.ownBlock=some k→ω k=t
variable {sz : Nat} {s : Sl} {xs : List Value}
theorem OT.lt (h:OT ω w t e sz s xs) {k:Nat} (hk:s.v.ownBlock=some k):k<w.heap.size:=(Own.geC h.own hk).2
theorem OT.nil (ω:Tg) (w:World) (t:Nat) (e:TypeId) (sz:Nat):OT ω w t e sz nilS []:=⟨Own.nil w 0 e sz,fun k hk=>by simp [Value.ownBlock] at hk⟩
theorem OT.stp (h:OT ω w t e sz s xs) (k:Stp T ω ω' w w') (ne:T t=false:=by rfl):OT ω' w' t e sz s xs:=by
 refine ⟨?_,fun g hg=>(k.same g (h.lt hg)).trans (h.tag g hg)⟩
 obtain ⟨hl,ho⟩:=h.own
 refine ⟨hl,?_⟩
 rcases ho with ho | ⟨g,cap,cur,hv,hg,hh,r⟩
 ·exact .inl ho
 ·have hb:s.v.ownBlock=some g:=by rw [hv];rfl
  refine .inr ⟨g,cap,cur,hv,hg,?_,r⟩
  rw [k.block g (h.lt hb) (by rw [h.tag g hb];exact ne)];exact hh
theorem Own.tag {B:Nat} (h:Own w' B e sz s xs) (hB:w.heap.size≤B) (ω:Tg) (t:Nat):OT (ext ω w.heap.size t) w' t e sz s xs :=
 ⟨Own.mono h (Nat.zero_le _),fun _ hk=>ext_new (Nat.le_trans hB (Own.geC h hk).1)⟩
theorem OT.rd (h:OT ω w t e sz s xs):Rd w s sz xs:=Own.rd h.own
theorem OT.ix (h:OT ω w t e sz s xs) (_:0<sz) {i:Int} (h0:0≤i) (h1:i<s.n) {K:Addr→Prop}
  (hK:∀ a:Addr,a.block<w.heap.size→ω a.block=t→(∀ j v,j<sz→xs[i.toNat*sz+j]?=some v→w.cell? (a.add j)=some v)→K a):G.ix s.a s.n i sz K:=by
 rcases h.own.cases with ⟨rfl,rfl⟩ | ⟨g,cur,ha,hg,hb,hn,hm,hl,ht⟩
 ·simp at h1;omega
 ·rw [ha]
  have hbk:s.v.ownBlock=some g:=by show (Value.slice s.a s.n s.c).ownBlock=_;rw [ha];rfl
  refine ⟨⟨h0,h1⟩,hK _ (by rw [add_block];exact hb.lt) (by rw [add_block];exact h.tag g hbk) fun j v hj hv=>?_⟩
  rw [addr_add,addr_add,Nat.zero_add,hb.cell]
  rw [← ht,List.getElem?_take] at hv
  split at hv
  ·exact hv
  ·cases hv
theorem same_stp {a:Addr} {n:Nat} (s:Stp T ω ω' w w') (hb:a.block<w.heap.size) (hT:T (ω a.block)=false):sameAt a n w w' :=
 ⟨World.cell?_of_block (s.block _ hb hT),fun i _=>World.cell?_of_block (s.block _ (by rw [add_block];exact hb) (by rw [add_block];exact hT))⟩
theorem app_T {P:Program} {ty tt:TypeId} {bytes:Nat} (ti:TI P tt e sz bytes) {x:Sl} {ys:List Value} (h:OT ω w t e sz s xs) (hx:Rd w x sz ys) (h1:∀ v∈ys,v.oneCell'=true) (hm:s.n+x.n≤maxLen) (hy:(s.n+x.n)*bytes≤140737488355328)
  {K:Sl→World→Prop} (hK:∀ r ω' w',Stp (One t) ω ω' w w'→OT ω' w' t e sz r (xs++ys)→r.n=s.n+x.n→K r w'):G.runSl P (Builtin.append_ #[tt,tt] ty #[s.v,x.v]) w K :=
 appC ti (Nat.zero_le _) h.own hx h1 hm hy fun r w' c o hn hf=>hK r (ext ω w.heap.size t) w' (Chg.stp c h.tag) ⟨o,fun k hk=>by
  rcases hf with hf | hf
  ·rw [hf] at hk;rw [ext_old (h.lt hk)];exact h.tag k hk
  ·exact ext_new (hf k hk)⟩ hn
theorem push_T {P:Program} {ty tt:TypeId} {bytes n:Nat} (ti:TI P tt e sz bytes) {ds:Array Value} (h:OT ω w t e sz s xs) (hl:ds.size=n*sz) (h1:∀ v∈ds.toList,v.oneCell'=true) (hm:s.n+n≤maxLen) (hy:(s.n+n)*bytes≤140737488355328)
  {K:Sl→World→Prop} (hK:∀ r ω' w',Stp (One t) ω ω' w w'→OT ω' w' t e sz r (xs++ds.toList)→r.n=s.n+n→K r w') :
  G.new (.cells ds e) w fun p w1=>G.runSl P (Builtin.append_ #[tt,tt] ty #[s.v,(⟨some p,n,n⟩:Sl).v]) w1 K :=
 pushC ti (Nat.zero_le _) h.own hl h1 hm hy fun r w' c o hn hf=>hK r (ext ω w.heap.size t) w' (Chg.stp c h.tag) ⟨o,fun k hk=>by
  rcases hf with hf | hf
  ·rw [hf] at hk;rw [ext_old (h.lt hk)];exact h.tag k hk
  ·exact ext_new (hf k hk)⟩ hn
theorem OT.cases (h:OT ω w t e sz s xs):(s=nilS∧xs=[])∨∃ g cur,s.a=some ⟨g,0,none⟩∧BT ω w t g e cur∧s.n≤s.c∧s.c≤maxLen∧cur.length=s.c*sz∧cur.take (s.n*sz)=xs:=by
 rcases h.own.cases with h' | ⟨g,cur,ha,hg,hb,hn,hm,hl,ht⟩
 ·exact .inl h'
 ·exact .inr ⟨g,cur,ha,⟨hb,h.tag g (by show (Value.slice s.a s.n s.c).ownBlock=_;rw [ha];rfl)⟩,hn,hm,hl,ht⟩
theorem OT.st (h:OT ω w t e sz s xs) {i j:Nat} (hi:i<s.n) (hj:j<sz) (v:Value) {a:Addr} (ha:s.a.map (fun a=>a.add (i*sz))=some a) {K:World→Prop}
  (hK:∀ ω' w',Stp (One t) ω ω' w w'→OT ω' w' t e sz s (xs.set (i*sz+j) v)→K w'):G.st (a.add j) v w K:=by
 rcases h.cases with ⟨rfl,rfl⟩ | ⟨g,cur,ha',hb,hn,hm,hl,ht⟩
 ·exact absurd hi (Nat.not_lt_zero _)
 ·rw [ha'] at ha
  simp only [Option.map_some,Option.some.injEq] at ha
  subst ha
  have hlt:i*sz+j<cur.length:=by
   rw [hl]
   have:(i+1)*sz≤s.c*sz:=Nat.mul_le_mul_right _ (by omega)
   rw [Nat.add_mul] at this;omega
  rw [addr_add,Nat.zero_add]
  refine st_TA hb hlt fun ω' w' k b=>hK ω' w' k ⟨?_,fun k' hk'=>?_⟩
  ·have hs:s=⟨some ⟨g,0,none⟩,s.n,s.c⟩:=by rw [← ha']
   rw [hs]
   refine Own.mk' (Nat.zero_le _) b.blk hn hm (by rw [List.length_set];exact hl) ?_
   rw [← ht,List.take_set]
  ·exact (k.same k' (h.lt hk')).trans (h.tag k' hk')
theorem OT.at_ (h:OT ω w t e sz s xs) {i:Int} {k:Nat} (ei:i=k) (hi:k<s.n) {K:Addr→Prop} (hK:∀ a:Addr,s.a.map (fun a=>a.add (k*sz))=some a→a.block<w.heap.size→ω a.block=t→(∀ j v,j<sz→xs[k*sz+j]?=some v→w.cell? (a.add j)=some v)→K a):G.ix s.a s.n i sz K:=by
 subst ei
 rcases h.cases with ⟨rfl,rfl⟩ | ⟨g,cur,ha,hb,hn,hm,hl,ht⟩
 ·exact absurd hi (Nat.not_lt_zero _)
 ·rw [ha]
  refine ⟨⟨by omega,by omega⟩,?_⟩
  rw [Int.toNat_natCast]
  refine hK _ (by rw [ha];rfl) (by rw [add_block];exact hb.blk.lt) (by rw [add_block];exact hb.tag) fun j v hj hv=>?_
  rw [addr_add,addr_add,Nat.zero_add,hb.cell]
  rw [← ht,List.getElem?_take] at hv
  split at hv
  ·exact hv
  ·cases hv
theorem cB_at {a:Addr} {b:Bool} (h:w.cell? a=some (.bool b)) {K:Bool→Prop} (hK:K b):G.cB a w K:=⟨b,h,hK⟩
theorem cP_at {a:Addr} {b:Option Addr} (h:w.cell? a=some (.pointer b)) {K:Option Addr→Prop} (hK:K b):G.cP a w K:=⟨b,h,hK⟩
theorem cF_at {k:FloatKind} {a:Addr} {b:Nat} (h:w.cell? a=some (.float k b)) {K:Nat→Prop} (hK:K b):G.cF k a w K:=⟨b,h,hK⟩
theorem cS_at {a:Addr} {b:ByteArray} (h:w.cell? a=some (.string b)) {K:ByteArray→Prop} (hK:K b):G.cS a w K:=⟨b,h,hK⟩
end Go.Proofs.YtmfgmcajelmgbaaGreatDoor.Mem

namespace Go.Proofs.YtmfgmcajelmgbaaGreatDoor.Lab
open Go Vm Num Mem Utf Lib
variable {ω ω' : Tg} {w w' w0 : World}
abbrev Lb:=ByteArray × ByteArray
def labC (x:Lb):List Value:=[.string x.1,.string x.2]
def labs (l:List Lb):List Value:=l.flatMap labC
theorem labs_app (a b:List Lb):labs (a++b)=labs a++labs b:=List.flatMap_append
theorem labs_len (l:List Lb):(labs l).length=l.length*2:=by
 induction l with
 | nil=>rfl
 | cons s l ih=>simp only [labs,List.flatMap_cons,List.length_append,List.length_cons] at *;simp [labC] at *;omega
theorem labs_at:∀ (l:List Lb) (i:Nat) (s:Lb),l[i]?=some s→(labs l)[i*2+0]?=some (.string s.1)∧(labs l)[i*2+1]?=some (.string s.2)
 | [],i,s,h=>by simp at h
 | x::l,0,s,h=>by
  simp only [List.getElem?_cons_zero,Option.some.injEq] at h
  subst h
  exact ⟨rfl,rfl⟩
 | x::l,i+1,s,h=>by
  have ih:=labs_at l i s (by simpa using h)
  have e:labs (x::l)=.string x.1::.string x.2::labs l:=rfl
  rw [e,show (i+1)*2+0=(i*2+0)+1+1 by omega,show (i+1)*2+1=(i*2+1)+1+1 by omega]
  simpa using ih
theorem rdL_at {s:Sl} {m:List Lb} (h:Rd w s 2 (labs m)) {i:Int} {k:Nat} {x:Lb} (ei:i=(k:Int)) (hx:m[k]?=some x) {K:Addr→Prop}
  (hK:∀ a:Addr,w.cell? a=some (.string x.1)→w.cell? (a.add 1)=some (.string x.2)→K a):G.ix s.a s.n i 2 K:=by
 have hk:k<m.length:=(List.getElem?_eq_some_iff.1 hx).1
 have hn:s.n=m.length:=by have:=h.2.1;rw [labs_len] at this;omega
 subst ei
 obtain ⟨e0,e1⟩:=labs_at m k x hx
 refine Rd.ix h (by decide) (by omega) (by omega) fun a hc=>hK a ?_ ?_
 ·have:=hc 0 _ (by decide) (by rw [Int.toNat_natCast];exact e0)
  rwa [show a.add 0=a by simp [Addr.add]] at this
 ·exact hc 1 _ (by decide) (by rw [Int.toNat_natCast];exact e1)
def valE (l:List UInt8):Int:=if l=[] then 41 else if l.length > 256 then 4 else if validD l=true then 0 else 12
theorem value_ok {s:ByteArray} (ht:UTab w0) {K:Int→World→Prop} (hK:∀ w',Keep w0 w'→K (valE (Utf.bytes s)) w'):C.labels_value s w0 K:=by
 have hsz:=size_eq s
 have hl:(Utf.bytes s).length=s.size:=hsz.symm
 have etl:s.toList=Utf.bytes s:=ByteArray.toList_eq s
 have e0:(⟨#[]⟩:ByteArray).toList=[]:=by rw [ByteArray.toList_eq]
 unfold C.labels_value
 unfold valE at hK
 rw [etl,e0]
 refine cond_of (fun h=>?_) (fun h=>?_)
 ·rw [if_pos (by simpa using h)] at hK;exact hK w0 (Keep.refl w0)
 rw [if_neg (by intro e;rw [e] at h;simp at h)] at hK
 refine cond_d (fun h=>?_) (fun h=>?_)
 ·rw [if_pos (by omega)] at hK;exact hK w0 (Keep.refl w0)
 rw [if_neg (by omega)] at hK
 refine valid_ok ht (by omega) fun w1 k1=>?_
 refine cond_of (fun h=>?_) (fun h=>?_)
 ·rw [if_neg (by simpa using h)] at hK;exact hK w1 k1
 ·rw [if_pos (by simpa using h)] at hK;exact hK w1 k1
def backB (p:Option ByteArray) (x:ByteArray):Bool:=match p with | some q=>(Op.bytesLess x.toList q.toList) || (x.toList==q.toList) | none=>false
def rtGo:Option ByteArray→List Lb→Nat→Int × Nat
 | _,[],_=>(0,0)
 | p,x::r,i=>if namedB (Utf.bytes x.1) 64 false=false then (40,i) else if valE (Utf.bytes x.2)≠0 then (valE (Utf.bytes x.2),i) else if backB p x.1=true then (3,i) else rtGo (some x.1) r (i+1)
def rt (l:List Lb):Int × Nat:=if l.length > 16 then (8,0) else rtGo none l 0
theorem right_ok {s:Sl} {m:List Lb} (ht:UTab w0) (hs:Rd w0 s 2 (labs m)) {K:Int→Int→World→Prop} (hK:∀ w',Keep w0 w'→K (rt m).1 ((rt m).2:Int) w'):C.labels_Right s w0 K:=by
 have hsn:s.n=m.length:=by have:=hs.2.1;rw [labs_len] at this;omega
 unfold C.labels_Right
 unfold rt at hK
 refine cond_d (fun h=>?_) (fun h=>?_)
 ·rw [if_pos (by omega)] at hK;exact hK w0 (Keep.refl w0)
 rw [if_neg (by omega)] at hK
 unfold C.labels_Right.S9
 refine C.labels_Right.L5_ind fun X hX=>?_
 have key:∀ (d i:Nat) (w:World),i+d=m.length→Keep w0 w→rtGo (if i=0 then none else (m[i-1]?).map (·.1)) (m.drop i) i=rtGo none m 0→X s s ((s.n:Nat):Int) (i:Int) w:=by
  intro d
  induction d with
  | zero =>
   intro i w hi k e
   refine hX _ _ _ _ _ ?_
   unfold C.labels_Right.S7 C.labels_Right.S2
   refine cond_d (fun h=>by omega) (fun _=>?_)
   rw [List.drop_of_length_le (by omega)] at e
   have:=hK w k
   rwa [← e] at this
  | succ d ih =>
   intro i w hi k e
   have him:i<m.length:=by omega
   refine hX _ _ _ _ _ ?_
   unfold C.labels_Right.S7
   refine cond_d (fun _=>?_) (fun h=>by omega)
   have hx:m[i]?=some m[i]:=List.getElem?_eq_getElem him
   refine rdL_at (hs.keep k) (k:=i) rfl hx fun a hc0 hc1=>cS_at hc0<|cS_at hc1 ?_
   refine new_T (ω:=fun _=>0) 7 fun g ω2 w2 k2 b2=>?_
   refine st_T b2 (by simp) fun ω3 w3 k3 b3=>?_
   refine st_TA b3 (by simp) fun ω4 w4 k4 b4=>?_
   have k04:=Keep.trans k ((Top.init w).stp ((k2.non (Mem.One 7)).trans (k3.trans k4))).k
   rw [List.drop_eq_getElem_cons him,rtGo] at e
   have out:∀ (c:Int) w',(c,i)=rtGo none m 0→Keep w0 w'→K c (i:Int) w':=fun c w' ec kk=>by
    have:=hK w' kk
    rwa [← ec] at this
   refine cS_at (b:=m[i].1) (by rw [b4.cell];rfl) ?_
   unfold C.labels_Name
   refine named_ok (most:=64) rfl (by decide) fun w5 k5=>?_
   have k05:=Keep.trans k04 k5
   have b5:=b4.stp (k5.stp0 ω4)
   refine cond_of (fun hn=>?_) (fun hn=>?_)
   ·rw [if_pos (by simpa using hn)] at e;exact out 40 w5 e k05
   rw [if_neg (by simpa using hn)] at e
   refine cS_at (b:=m[i].2) (by rw [addr_add,b5.cell];rfl) ?_
   refine value_ok (ht.keep k05) fun w6 k6=>?_
   have k06:=Keep.trans k05 k6
   have b6:=b5.stp (k6.stp0 ω4)
   refine cond_ne (fun hv=>?_) (fun hv=>?_)
   ·rw [if_pos hv] at e;exact out _ w6 e k06
   rw [if_neg (by simpa using hv)] at e
   have k07:=Keep.trans k06 (Keep.drew w6)
   have next:backB (if i=0 then none else (m[i-1]?).map (·.1)) m[i].1=false→∀ w',Keep w0 w'→X s s ((s.n:Nat):Int) (IntKind.i64.wrap ((i:Int)+1)) w':=fun hb w' kk=>by
    rw [hb,if_neg (by decide)] at e
    rw [wI64 (by omega) (by omega),show (i:Int)+1=((i+1:Nat):Int) by omega]
    refine ih (i+1) w' (by omega) kk ?_
    rw [if_neg (by omega),Nat.add_sub_cancel,hx];exact e
   refine cond_d (fun hi0=>?_) (fun hi0=>next ?_ _ k07)
   ·have hy:m[i-1]?=some m[i-1]:=List.getElem?_eq_getElem (by omega)
    refine cS_at (b:=m[i].1) (by rw [(b6.stp (drew_stp ω4 w6)).cell];rfl) ?_
    refine rdL_at (hs.keep k07) (k:=i-1) (by rw [wI64 (by omega) (by omega)];omega) hy fun p hp0 _=>cS_at hp0 ?_
    have eb:backB (if i=0 then none else (m[i-1]?).map (·.1)) m[i].1=((Op.bytesLess m[i].1.toList m[i-1].1.toList) || (m[i].1.toList==m[i-1].1.toList)):=by
     rw [if_neg (by omega),hy];rfl
    refine cond_of (fun hb=>?_) (fun hb=>next (by rw [eb];exact hb) _ k07)
    rw [eb,hb,if_pos rfl] at e
    exact out 3 _ e k07
   ·rw [if_pos (by omega)];rfl
 exact key m.length 0 w0 (by omega) (Keep.refl w0) rfl
end Go.Proofs.YtmfgmcajelmgbaaGreatDoor.Lab
