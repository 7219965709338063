/- (several texts in one: Cw2,StrB,UtfB,ConvB,Lab,Tag,LabR,Vint,VintO,LabP,Lbc,UtfRB,Lbr,Smp,LabK,BitsW,BitsB,BitN) Own work. -/
import Derived.Lib.ValidAsc
import Derived.Lib.LaidU8
import Derived.Laws.BytesString
import Derived.Lib.ConvBytes
import Derived.Lib.Bytealg
import Derived.Lib.BitFns
import Derived.Lib.TrailingZeros
import Derived.Test.YtmfgmcajelmgbaaGreatDoorPC3
set_option linter.unusedVariables false
set_option maxRecDepth 100000
namespace Go.Proofs.YtmfgmcajelmgbaaGreatDoor
open Go Vm
namespace C
variable (Kv : VW)
namespace tocsinref08_Decode
abbrev KT:=Sl→Int→World→Prop
def Kt:KT:=fun l1 n2 w=>Kv (.tuple #[l1.v,(.int .i64 n2)]) w
noncomputable def bd:Code:=bdy Tryz.f116
theorem fn:FnOk pr 116 245 Tryz.f116:=⟨Tryz.func116,by kernel_rfl,Tryz.ntmps116,by kernel_rfl,by kernel_rfl⟩
def F:Clee:=ofL [(143,C.tocsinref02_New.cl),(144,C.tocsinref08_New.cl),(145,C.tocsinref08_Reader_number.cl),(146,C.tocsinref08_Reader_bits.cl),(147,C.tocsinref08_Reader_value.cl),(148,C.tocsinref08_Reader_time.cl),(149,C.math_Float64frombits.cl),(150,C.tocsinref08_Encode.cl)]
theorem FOk_:FOk pr F:=FOk_cons C.tocsinref02_New.clok (FOk_cons C.tocsinref08_New.clok (FOk_cons C.tocsinref08_Reader_number.clok (FOk_cons C.tocsinref08_Reader_bits.clok (FOk_cons C.tocsinref08_Reader_value.clok (FOk_cons C.tocsinref08_Reader_time.clok (FOk_consX C.math_Float64frombits.clok (FOk_cons C.tocsinref08_Encode.clok (FOk_nil))))))))
def P1:Post:=bodyK false pr 245 Tryz.f116 Kv
abbrev g2:List SE:=[.v 0 .sl,.v 5 .ptr,.v 6 .sl]
def S2 (K:KT) (b_9:Sl) (r_10:Option Addr) (l_11:Sl) (w:World):Prop :=
 G.ptr r_10 fun p12=>G.cB (p12.add 2) w fun b13=>G.cond b13 (K nilS 3 w) (C.tocsinref08_Encode l_11 w fun l14 n15 n16 w17=>G.cond (n15 != 0) (K nilS 3 w17) (G.rdS pr (Conv.bytesToString l14.v) w17 fun s18=>G.rdS pr (Conv.bytesToString b_9.v) w17 fun s19=>G.cond (!(s18.toList==s19.toList)) (K nilS 3 w17) (K l_11 0 w17)))
theorem S2_ok:OkT pr false none 245 g2 (S2 (Kt Kv)) (s2 (tl 6 bd)) (P1 Kv):=ok_last mixed FOk_ fun v ρ w=>by kernel_rfl
def P3:Post:=next (get g2 (S2 (Kt Kv))) (P1 Kv)
def P4:Post:=inBlock 0 (P3 Kv)
abbrev g5:List SE:=[.v 0 .sl,.v 4 (.int .i64),.v 5 .ptr,.v 6 .sl,.v 7 (.int .i64)]
def P6 (kc5:Cur g5):Post:=next (get g5 kc5) (P4 Kv)
def S7 (K:KT) (kc5:Cur g5) (b_30:Sl) (n_31:Int) (r_32:Option Addr) (l_33:Sl) (i_34:Int) (w:World):Prop :=
 G.cond (decide (i_34<n_31)) (G.ptr r_32 fun p35=>G.cB (p35.add 2) w fun b36=>G.cond (!b36) (G.cond (i_34==0) (C.tocsinref08_Reader_number r_32 w fun n37 w38=>G.ptr r_32 fun p39=>G.cP (p39.add 1) w38 fun p40=>G.nn 1<|G.ptr p40 fun p41=>G.st p41 (.int .i64 (IntKind.i64.wrap (shr .u64 n37 1))) w38 fun w42=>G.cond ((Go.bits .and .u64 n37 1)==1) (G.ptr r_32 fun p43=>G.st (p43.add 2) (.bool true) w42 fun w44=>G.ptr r_32 fun p45=>G.cP (p45.add 1) w44.drew fun p46=>C.tocsinref08_Reader_bits r_32 64 w44.drew fun n47 w48=>sameAt (p45.add 1) 1 w44.drew w48∧(G.ptr p46 fun p49=>G.st (p49.add 2) (.int .u64 n47) w48 fun w50=>G.ptr r_32 fun p51=>G.cP (p51.add 1) w50 fun p52=>G.ptr p52 fun p53=>G.cI .i64 p53 w50 fun n54=>G.cond (decide (n54<0)) (G.ptr r_32 fun p55=>G.st (p55.add 2) (.bool true) w50 fun w56=>G.ptr r_32 fun p57=>G.cP (p57.add 1) w56.drew fun p58=>G.ptr p58 fun p59=>G.cI .i64 p59 w56.drew fun n60=>G.ptr r_32 fun p61=>G.cP (p61.add 1) w56.drew fun p62=>G.ptr p62 fun p63=>G.cI .u64 (p63.add 2) w56.drew fun n64=>C.math_Float64frombits n64 w56.drew fun f65 w66=>sameAt (p57.add 1) 1 w56.drew w66∧sameAt p59 1 w56.drew w66∧(G.new (.cells #[(.int .i64 n60),(.float .f64 f65)] 96) w66 fun p67 w68=>G.runSl pr (Builtin.append_ #[52,52] 52 #[l_33.v,(Sl.v (⟨some p67,1,1⟩:Sl))]) w68 fun l69 w70=>kc5 b_30 n_31 r_32 l69 (IntKind.i64.wrap (i_34+1)) w70)) (G.ptr r_32 fun p71=>G.cP (p71.add 1) w50 fun p72=>G.ptr p72 fun p73=>G.cI .i64 p73 w50 fun n74=>G.cond (decide (n74 > 1125899906842624)) (G.ptr r_32 fun p75=>G.st (p75.add 2) (.bool true) w50 fun w76=>G.ptr r_32 fun p77=>G.cP (p77.add 1) w76.drew fun p78=>G.ptr p78 fun p79=>G.cI .i64 p79 w76.drew fun n80=>G.ptr r_32 fun p81=>G.cP (p81.add 1) w76.drew fun p82=>G.ptr p82 fun p83=>G.cI .u64 (p83.add 2) w76.drew fun n84=>C.math_Float64frombits n84 w76.drew fun f85 w86=>sameAt (p77.add 1) 1 w76.drew w86∧sameAt p79 1 w76.drew w86∧(G.new (.cells #[(.int .i64 n80),(.float .f64 f85)] 96) w86 fun p87 w88=>G.runSl pr (Builtin.append_ #[52,52] 52 #[l_33.v,(Sl.v (⟨some p87,1,1⟩:Sl))]) w88 fun l89 w90=>kc5 b_30 n_31 r_32 l89 (IntKind.i64.wrap (i_34+1)) w90)) (G.ptr r_32 fun p91=>G.cP (p91.add 1) w50.drew fun p92=>G.ptr p92 fun p93=>G.cI .i64 p93 w50.drew fun n94=>G.ptr r_32 fun p95=>G.cP (p95.add 1) w50.drew fun p96=>G.ptr p96 fun p97=>G.cI .u64 (p97.add 2) w50.drew fun n98=>C.math_Float64frombits n98 w50.drew fun f99 w100=>sameAt (p91.add 1) 1 w50.drew w100∧sameAt p93 1 w50.drew w100∧(G.new (.cells #[(.int .i64 n94),(.float .f64 f99)] 96) w100 fun p101 w102=>G.runSl pr (Builtin.append_ #[52,52] 52 #[l_33.v,(Sl.v (⟨some p101,1,1⟩:Sl))]) w102 fun l103 w104=>kc5 b_30 n_31 r_32 l103 (IntKind.i64.wrap (i_34+1)) w104))))) (G.ptr r_32 fun p105=>G.cP (p105.add 1) w42.drew fun p106=>C.tocsinref08_Reader_bits r_32 64 w42.drew fun n107 w108=>sameAt (p105.add 1) 1 w42.drew w108∧(G.ptr p106 fun p109=>G.st (p109.add 2) (.int .u64 n107) w108 fun w110=>G.ptr r_32 fun p111=>G.cP (p111.add 1) w110 fun p112=>G.ptr p112 fun p113=>G.cI .i64 p113 w110 fun n114=>G.cond (decide (n114<0)) (G.ptr r_32 fun p115=>G.st (p115.add 2) (.bool true) w110 fun w116=>G.ptr r_32 fun p117=>G.cP (p117.add 1) w116.drew fun p118=>G.ptr p118 fun p119=>G.cI .i64 p119 w116.drew fun n120=>G.ptr r_32 fun p121=>G.cP (p121.add 1) w116.drew fun p122=>G.ptr p122 fun p123=>G.cI .u64 (p123.add 2) w116.drew fun n124=>C.math_Float64frombits n124 w116.drew fun f125 w126=>sameAt (p117.add 1) 1 w116.drew w126∧sameAt p119 1 w116.drew w126∧(G.new (.cells #[(.int .i64 n120),(.float .f64 f125)] 96) w126 fun p127 w128=>G.runSl pr (Builtin.append_ #[52,52] 52 #[l_33.v,(Sl.v (⟨some p127,1,1⟩:Sl))]) w128 fun l129 w130=>kc5 b_30 n_31 r_32 l129 (IntKind.i64.wrap (i_34+1)) w130)) (G.ptr r_32 fun p131=>G.cP (p131.add 1) w110 fun p132=>G.ptr p132 fun p133=>G.cI .i64 p133 w110 fun n134=>G.cond (decide (n134 > 1125899906842624)) (G.ptr r_32 fun p135=>G.st (p135.add 2) (.bool true) w110 fun w136=>G.ptr r_32 fun p137=>G.cP (p137.add 1) w136.drew fun p138=>G.ptr p138 fun p139=>G.cI .i64 p139 w136.drew fun n140=>G.ptr r_32 fun p141=>G.cP (p141.add 1) w136.drew fun p142=>G.ptr p142 fun p143=>G.cI .u64 (p143.add 2) w136.drew fun n144=>C.math_Float64frombits n144 w136.drew fun f145 w146=>sameAt (p137.add 1) 1 w136.drew w146∧sameAt p139 1 w136.drew w146∧(G.new (.cells #[(.int .i64 n140),(.float .f64 f145)] 96) w146 fun p147 w148=>G.runSl pr (Builtin.append_ #[52,52] 52 #[l_33.v,(Sl.v (⟨some p147,1,1⟩:Sl))]) w148 fun l149 w150=>kc5 b_30 n_31 r_32 l149 (IntKind.i64.wrap (i_34+1)) w150)) (G.ptr r_32 fun p151=>G.cP (p151.add 1) w110.drew fun p152=>G.ptr p152 fun p153=>G.cI .i64 p153 w110.drew fun n154=>G.ptr r_32 fun p155=>G.cP (p155.add 1) w110.drew fun p156=>G.ptr p156 fun p157=>G.cI .u64 (p157.add 2) w110.drew fun n158=>C.math_Float64frombits n158 w110.drew fun f159 w160=>sameAt (p151.add 1) 1 w110.drew w160∧sameAt p153 1 w110.drew w160∧(G.new (.cells #[(.int .i64 n154),(.float .f64 f159)] 96) w160 fun p161 w162=>G.runSl pr (Builtin.append_ #[52,52] 52 #[l_33.v,(Sl.v (⟨some p161,1,1⟩:Sl))]) w162 fun l163 w164=>kc5 b_30 n_31 r_32 l163 (IntKind.i64.wrap (i_34+1)) w164)))))) (G.cond (i_34==1) (C.tocsinref08_Reader_number r_32 w fun n165 w166=>G.cond (decide (n165 > 1125899906842624)) (G.ptr r_32 fun p167=>G.st (p167.add 2) (.bool true) w166 fun w168=>G.ptr r_32 fun p169=>G.cP (p169.add 1) w168 fun p170=>G.ptr p170 fun p171=>G.cI .i64 p171 w168 fun n172=>G.cond (decide (n172<0)) (G.ptr r_32 fun p173=>G.st (p173.add 2) (.bool true) w168 fun w174=>G.ptr r_32 fun p175=>G.cP (p175.add 1) w174.drew fun p176=>G.ptr p176 fun p177=>G.cI .i64 p177 w174.drew fun n178=>G.ptr r_32 fun p179=>G.cP (p179.add 1) w174.drew fun p180=>G.ptr p180 fun p181=>G.cI .u64 (p181.add 2) w174.drew fun n182=>C.math_Float64frombits n182 w174.drew fun f183 w184=>sameAt (p175.add 1) 1 w174.drew w184∧sameAt p177 1 w174.drew w184∧(G.new (.cells #[(.int .i64 n178),(.float .f64 f183)] 96) w184 fun p185 w186=>G.runSl pr (Builtin.append_ #[52,52] 52 #[l_33.v,(Sl.v (⟨some p185,1,1⟩:Sl))]) w186 fun l187 w188=>kc5 b_30 n_31 r_32 l187 (IntKind.i64.wrap (i_34+1)) w188)) (G.ptr r_32 fun p189=>G.cP (p189.add 1) w168 fun p190=>G.ptr p190 fun p191=>G.cI .i64 p191 w168 fun n192=>G.cond (decide (n192 > 1125899906842624)) (G.ptr r_32 fun p193=>G.st (p193.add 2) (.bool true) w168 fun w194=>G.ptr r_32 fun p195=>G.cP (p195.add 1) w194.drew fun p196=>G.ptr p196 fun p197=>G.cI .i64 p197 w194.drew fun n198=>G.ptr r_32 fun p199=>G.cP (p199.add 1) w194.drew fun p200=>G.ptr p200 fun p201=>G.cI .u64 (p201.add 2) w194.drew fun n202=>C.math_Float64frombits n202 w194.drew fun f203 w204=>sameAt (p195.add 1) 1 w194.drew w204∧sameAt p197 1 w194.drew w204∧(G.new (.cells #[(.int .i64 n198),(.float .f64 f203)] 96) w204 fun p205 w206=>G.runSl pr (Builtin.append_ #[52,52] 52 #[l_33.v,(Sl.v (⟨some p205,1,1⟩:Sl))]) w206 fun l207 w208=>kc5 b_30 n_31 r_32 l207 (IntKind.i64.wrap (i_34+1)) w208)) (G.ptr r_32 fun p209=>G.cP (p209.add 1) w168.drew fun p210=>G.ptr p210 fun p211=>G.cI .i64 p211 w168.drew fun n212=>G.ptr r_32 fun p213=>G.cP (p213.add 1) w168.drew fun p214=>G.ptr p214 fun p215=>G.cI .u64 (p215.add 2) w168.drew fun n216=>C.math_Float64frombits n216 w168.drew fun f217 w218=>sameAt (p209.add 1) 1 w168.drew w218∧sameAt p211 1 w168.drew w218∧(G.new (.cells #[(.int .i64 n212),(.float .f64 f217)] 96) w218 fun p219 w220=>G.runSl pr (Builtin.append_ #[52,52] 52 #[l_33.v,(Sl.v (⟨some p219,1,1⟩:Sl))]) w220 fun l221 w222=>kc5 b_30 n_31 r_32 l221 (IntKind.i64.wrap (i_34+1)) w222)))) (G.ptr r_32 fun p223=>G.cP (p223.add 1) w166 fun p224=>G.ptr p224 fun p225=>G.st (p225.add 1) (.int .i64 (IntKind.i64.wrap n165)) w166 fun w226=>G.ptr r_32 fun p227=>G.cP (p227.add 1) w226.drew fun p228=>G.ptr r_32 fun p229=>G.cP (p229.add 1) w226.drew fun p230=>G.ptr p230 fun p231=>G.cI .i64 p231 w226.drew fun n232=>G.ptr r_32 fun p233=>G.cP (p233.add 1) w226.drew fun p234=>G.ptr p234 fun p235=>G.cI .i64 (p235.add 1) w226.drew fun n236=>G.ptr p228 fun p237=>G.st p237 (.int .i64 (IntKind.i64.wrap (n232+n236))) w226.drew fun w238=>G.ptr r_32 fun p239=>G.cP (p239.add 1) w238.drew fun p240=>C.tocsinref08_Reader_value r_32 w238.drew fun n241 w242=>sameAt (p239.add 1) 1 w238.drew w242∧(G.ptr p240 fun p243=>G.st (p243.add 2) (.int .u64 n241) w242 fun w244=>G.ptr r_32 fun p245=>G.cP (p245.add 1) w244 fun p246=>G.ptr p246 fun p247=>G.cI .i64 p247 w244 fun n248=>G.cond (decide (n248<0)) (G.ptr r_32 fun p249=>G.st (p249.add 2) (.bool true) w244 fun w250=>G.ptr r_32 fun p251=>G.cP (p251.add 1) w250.drew fun p252=>G.ptr p252 fun p253=>G.cI .i64 p253 w250.drew fun n254=>G.ptr r_32 fun p255=>G.cP (p255.add 1) w250.drew fun p256=>G.ptr p256 fun p257=>G.cI .u64 (p257.add 2) w250.drew fun n258=>C.math_Float64frombits n258 w250.drew fun f259 w260=>sameAt (p251.add 1) 1 w250.drew w260∧sameAt p253 1 w250.drew w260∧(G.new (.cells #[(.int .i64 n254),(.float .f64 f259)] 96) w260 fun p261 w262=>G.runSl pr (Builtin.append_ #[52,52] 52 #[l_33.v,(Sl.v (⟨some p261,1,1⟩:Sl))]) w262 fun l263 w264=>kc5 b_30 n_31 r_32 l263 (IntKind.i64.wrap (i_34+1)) w264)) (G.ptr r_32 fun p265=>G.cP (p265.add 1) w244 fun p266=>G.ptr p266 fun p267=>G.cI .i64 p267 w244 fun n268=>G.cond (decide (n268 > 1125899906842624)) (G.ptr r_32 fun p269=>G.st (p269.add 2) (.bool true) w244 fun w270=>G.ptr r_32 fun p271=>G.cP (p271.add 1) w270.drew fun p272=>G.ptr p272 fun p273=>G.cI .i64 p273 w270.drew fun n274=>G.ptr r_32 fun p275=>G.cP (p275.add 1) w270.drew fun p276=>G.ptr p276 fun p277=>G.cI .u64 (p277.add 2) w270.drew fun n278=>C.math_Float64frombits n278 w270.drew fun f279 w280=>sameAt (p271.add 1) 1 w270.drew w280∧sameAt p273 1 w270.drew w280∧(G.new (.cells #[(.int .i64 n274),(.float .f64 f279)] 96) w280 fun p281 w282=>G.runSl pr (Builtin.append_ #[52,52] 52 #[l_33.v,(Sl.v (⟨some p281,1,1⟩:Sl))]) w282 fun l283 w284=>kc5 b_30 n_31 r_32 l283 (IntKind.i64.wrap (i_34+1)) w284)) (G.ptr r_32 fun p285=>G.cP (p285.add 1) w244.drew fun p286=>G.ptr p286 fun p287=>G.cI .i64 p287 w244.drew fun n288=>G.ptr r_32 fun p289=>G.cP (p289.add 1) w244.drew fun p290=>G.ptr p290 fun p291=>G.cI .u64 (p291.add 2) w244.drew fun n292=>C.math_Float64frombits n292 w244.drew fun f293 w294=>sameAt (p285.add 1) 1 w244.drew w294∧sameAt p287 1 w244.drew w294∧(G.new (.cells #[(.int .i64 n288),(.float .f64 f293)] 96) w294 fun p295 w296=>G.runSl pr (Builtin.append_ #[52,52] 52 #[l_33.v,(Sl.v (⟨some p295,1,1⟩:Sl))]) w296 fun l297 w298=>kc5 b_30 n_31 r_32 l297 (IntKind.i64.wrap (i_34+1)) w298)))))) (C.tocsinref08_Reader_time r_32 w fun n299 w300=>G.cond (decide (n299 > 1125899906842624)) (G.ptr r_32 fun p301=>G.st (p301.add 2) (.bool true) w300 fun w302=>G.ptr r_32 fun p303=>G.cP (p303.add 1) w302 fun p304=>G.ptr p304 fun p305=>G.cI .i64 p305 w302 fun n306=>G.cond (decide (n306<0)) (G.ptr r_32 fun p307=>G.st (p307.add 2) (.bool true) w302 fun w308=>G.ptr r_32 fun p309=>G.cP (p309.add 1) w308.drew fun p310=>G.ptr p310 fun p311=>G.cI .i64 p311 w308.drew fun n312=>G.ptr r_32 fun p313=>G.cP (p313.add 1) w308.drew fun p314=>G.ptr p314 fun p315=>G.cI .u64 (p315.add 2) w308.drew fun n316=>C.math_Float64frombits n316 w308.drew fun f317 w318=>sameAt (p309.add 1) 1 w308.drew w318∧sameAt p311 1 w308.drew w318∧(G.new (.cells #[(.int .i64 n312),(.float .f64 f317)] 96) w318 fun p319 w320=>G.runSl pr (Builtin.append_ #[52,52] 52 #[l_33.v,(Sl.v (⟨some p319,1,1⟩:Sl))]) w320 fun l321 w322=>kc5 b_30 n_31 r_32 l321 (IntKind.i64.wrap (i_34+1)) w322)) (G.ptr r_32 fun p323=>G.cP (p323.add 1) w302 fun p324=>G.ptr p324 fun p325=>G.cI .i64 p325 w302 fun n326=>G.cond (decide (n326 > 1125899906842624)) (G.ptr r_32 fun p327=>G.st (p327.add 2) (.bool true) w302 fun w328=>G.ptr r_32 fun p329=>G.cP (p329.add 1) w328.drew fun p330=>G.ptr p330 fun p331=>G.cI .i64 p331 w328.drew fun n332=>G.ptr r_32 fun p333=>G.cP (p333.add 1) w328.drew fun p334=>G.ptr p334 fun p335=>G.cI .u64 (p335.add 2) w328.drew fun n336=>C.math_Float64frombits n336 w328.drew fun f337 w338=>sameAt (p329.add 1) 1 w328.drew w338∧sameAt p331 1 w328.drew w338∧(G.new (.cells #[(.int .i64 n332),(.float .f64 f337)] 96) w338 fun p339 w340=>G.runSl pr (Builtin.append_ #[52,52] 52 #[l_33.v,(Sl.v (⟨some p339,1,1⟩:Sl))]) w340 fun l341 w342=>kc5 b_30 n_31 r_32 l341 (IntKind.i64.wrap (i_34+1)) w342)) (G.ptr r_32 fun p343=>G.cP (p343.add 1) w302.drew fun p344=>G.ptr p344 fun p345=>G.cI .i64 p345 w302.drew fun n346=>G.ptr r_32 fun p347=>G.cP (p347.add 1) w302.drew fun p348=>G.ptr p348 fun p349=>G.cI .u64 (p349.add 2) w302.drew fun n350=>C.math_Float64frombits n350 w302.drew fun f351 w352=>sameAt (p343.add 1) 1 w302.drew w352∧sameAt p345 1 w302.drew w352∧(G.new (.cells #[(.int .i64 n346),(.float .f64 f351)] 96) w352 fun p353 w354=>G.runSl pr (Builtin.append_ #[52,52] 52 #[l_33.v,(Sl.v (⟨some p353,1,1⟩:Sl))]) w354 fun l355 w356=>kc5 b_30 n_31 r_32 l355 (IntKind.i64.wrap (i_34+1)) w356)))) (G.cond (decide (n299<(-1125899906842624:Int))) (G.ptr r_32 fun p357=>G.st (p357.add 2) (.bool true) w300 fun w358=>G.ptr r_32 fun p359=>G.cP (p359.add 1) w358 fun p360=>G.ptr p360 fun p361=>G.cI .i64 p361 w358 fun n362=>G.cond (decide (n362<0)) (G.ptr r_32 fun p363=>G.st (p363.add 2) (.bool true) w358 fun w364=>G.ptr r_32 fun p365=>G.cP (p365.add 1) w364.drew fun p366=>G.ptr p366 fun p367=>G.cI .i64 p367 w364.drew fun n368=>G.ptr r_32 fun p369=>G.cP (p369.add 1) w364.drew fun p370=>G.ptr p370 fun p371=>G.cI .u64 (p371.add 2) w364.drew fun n372=>C.math_Float64frombits n372 w364.drew fun f373 w374=>sameAt (p365.add 1) 1 w364.drew w374∧sameAt p367 1 w364.drew w374∧(G.new (.cells #[(.int .i64 n368),(.float .f64 f373)] 96) w374 fun p375 w376=>G.runSl pr (Builtin.append_ #[52,52] 52 #[l_33.v,(Sl.v (⟨some p375,1,1⟩:Sl))]) w376 fun l377 w378=>kc5 b_30 n_31 r_32 l377 (IntKind.i64.wrap (i_34+1)) w378)) (G.ptr r_32 fun p379=>G.cP (p379.add 1) w358 fun p380=>G.ptr p380 fun p381=>G.cI .i64 p381 w358 fun n382=>G.cond (decide (n382 > 1125899906842624)) (G.ptr r_32 fun p383=>G.st (p383.add 2) (.bool true) w358 fun w384=>G.ptr r_32 fun p385=>G.cP (p385.add 1) w384.drew fun p386=>G.ptr p386 fun p387=>G.cI .i64 p387 w384.drew fun n388=>G.ptr r_32 fun p389=>G.cP (p389.add 1) w384.drew fun p390=>G.ptr p390 fun p391=>G.cI .u64 (p391.add 2) w384.drew fun n392=>C.math_Float64frombits n392 w384.drew fun f393 w394=>sameAt (p385.add 1) 1 w384.drew w394∧sameAt p387 1 w384.drew w394∧(G.new (.cells #[(.int .i64 n388),(.float .f64 f393)] 96) w394 fun p395 w396=>G.runSl pr (Builtin.append_ #[52,52] 52 #[l_33.v,(Sl.v (⟨some p395,1,1⟩:Sl))]) w396 fun l397 w398=>kc5 b_30 n_31 r_32 l397 (IntKind.i64.wrap (i_34+1)) w398)) (G.ptr r_32 fun p399=>G.cP (p399.add 1) w358.drew fun p400=>G.ptr p400 fun p401=>G.cI .i64 p401 w358.drew fun n402=>G.ptr r_32 fun p403=>G.cP (p403.add 1) w358.drew fun p404=>G.ptr p404 fun p405=>G.cI .u64 (p405.add 2) w358.drew fun n406=>C.math_Float64frombits n406 w358.drew fun f407 w408=>sameAt (p399.add 1) 1 w358.drew w408∧sameAt p401 1 w358.drew w408∧(G.new (.cells #[(.int .i64 n402),(.float .f64 f407)] 96) w408 fun p409 w410=>G.runSl pr (Builtin.append_ #[52,52] 52 #[l_33.v,(Sl.v (⟨some p409,1,1⟩:Sl))]) w410 fun l411 w412=>kc5 b_30 n_31 r_32 l411 (IntKind.i64.wrap (i_34+1)) w412)))) (G.ptr r_32 fun p413=>G.cP (p413.add 1) w300.drew fun p414=>G.ptr r_32 fun p415=>G.cP (p415.add 1) w300.drew fun p416=>G.ptr p416 fun p417=>G.cI .i64 (p417.add 1) w300.drew fun n418=>G.ptr p414 fun p419=>G.st (p419.add 1) (.int .i64 (IntKind.i64.wrap (n418+n299))) w300.drew fun w420=>G.ptr r_32 fun p421=>G.cP (p421.add 1) w420.drew fun p422=>G.ptr r_32 fun p423=>G.cP (p423.add 1) w420.drew fun p424=>G.ptr p424 fun p425=>G.cI .i64 p425 w420.drew fun n426=>G.ptr r_32 fun p427=>G.cP (p427.add 1) w420.drew fun p428=>G.ptr p428 fun p429=>G.cI .i64 (p429.add 1) w420.drew fun n430=>G.ptr p422 fun p431=>G.st p431 (.int .i64 (IntKind.i64.wrap (n426+n430))) w420.drew fun w432=>G.ptr r_32 fun p433=>G.cP (p433.add 1) w432.drew fun p434=>C.tocsinref08_Reader_value r_32 w432.drew fun n435 w436=>sameAt (p433.add 1) 1 w432.drew w436∧(G.ptr p434 fun p437=>G.st (p437.add 2) (.int .u64 n435) w436 fun w438=>G.ptr r_32 fun p439=>G.cP (p439.add 1) w438 fun p440=>G.ptr p440 fun p441=>G.cI .i64 p441 w438 fun n442=>G.cond (decide (n442<0)) (G.ptr r_32 fun p443=>G.st (p443.add 2) (.bool true) w438 fun w444=>G.ptr r_32 fun p445=>G.cP (p445.add 1) w444.drew fun p446=>G.ptr p446 fun p447=>G.cI .i64 p447 w444.drew fun n448=>G.ptr r_32 fun p449=>G.cP (p449.add 1) w444.drew fun p450=>G.ptr p450 fun p451=>G.cI .u64 (p451.add 2) w444.drew fun n452=>C.math_Float64frombits n452 w444.drew fun f453 w454=>sameAt (p445.add 1) 1 w444.drew w454∧sameAt p447 1 w444.drew w454∧(G.new (.cells #[(.int .i64 n448),(.float .f64 f453)] 96) w454 fun p455 w456=>G.runSl pr (Builtin.append_ #[52,52] 52 #[l_33.v,(Sl.v (⟨some p455,1,1⟩:Sl))]) w456 fun l457 w458=>kc5 b_30 n_31 r_32 l457 (IntKind.i64.wrap (i_34+1)) w458)) (G.ptr r_32 fun p459=>G.cP (p459.add 1) w438 fun p460=>G.ptr p460 fun p461=>G.cI .i64 p461 w438 fun n462=>G.cond (decide (n462 > 1125899906842624)) (G.ptr r_32 fun p463=>G.st (p463.add 2) (.bool true) w438 fun w464=>G.ptr r_32 fun p465=>G.cP (p465.add 1) w464.drew fun p466=>G.ptr p466 fun p467=>G.cI .i64 p467 w464.drew fun n468=>G.ptr r_32 fun p469=>G.cP (p469.add 1) w464.drew fun p470=>G.ptr p470 fun p471=>G.cI .u64 (p471.add 2) w464.drew fun n472=>C.math_Float64frombits n472 w464.drew fun f473 w474=>sameAt (p465.add 1) 1 w464.drew w474∧sameAt p467 1 w464.drew w474∧(G.new (.cells #[(.int .i64 n468),(.float .f64 f473)] 96) w474 fun p475 w476=>G.runSl pr (Builtin.append_ #[52,52] 52 #[l_33.v,(Sl.v (⟨some p475,1,1⟩:Sl))]) w476 fun l477 w478=>kc5 b_30 n_31 r_32 l477 (IntKind.i64.wrap (i_34+1)) w478)) (G.ptr r_32 fun p479=>G.cP (p479.add 1) w438.drew fun p480=>G.ptr p480 fun p481=>G.cI .i64 p481 w438.drew fun n482=>G.ptr r_32 fun p483=>G.cP (p483.add 1) w438.drew fun p484=>G.ptr p484 fun p485=>G.cI .u64 (p485.add 2) w438.drew fun n486=>C.math_Float64frombits n486 w438.drew fun f487 w488=>sameAt (p479.add 1) 1 w438.drew w488∧sameAt p481 1 w438.drew w488∧(G.new (.cells #[(.int .i64 n482),(.float .f64 f487)] 96) w488 fun p489 w490=>G.runSl pr (Builtin.append_ #[52,52] 52 #[l_33.v,(Sl.v (⟨some p489,1,1⟩:Sl))]) w490 fun l491 w492=>kc5 b_30 n_31 r_32 l491 (IntKind.i64.wrap (i_34+1)) w492))))))))) (S2 K b_30 r_32 l_33 w)) (S2 K b_30 r_32 l_33 w)
theorem S7_ok (kc5:Cur g5):OkT pr false none 245 g5 (S7 (Kt Kv) kc5) (lp (blk (tl 1 (s1 (tl 6 bd))))) (P6 Kv kc5):=ok_last mixed FOk_ fun v ρ w=>by kernel_rfl
def L5 (K:KT):Cur g5:=loopC g5 (S7 K)
theorem L5_ok:OkT pr false none 245 g5 (L5 (Kt Kv)) (blk (tl 1 (s1 (tl 6 bd)))) (P4 Kv):=ok_loop (B:=S7 (Kt Kv)) (by kernel_rfl) fun kc=>S7_ok Kv kc
theorem L5_ind {K:KT} {b_20:Sl} {n_21:Int} {r_22:Option Addr} {l_23:Sl} {i_24:Int} {w:World} (h:∀ X:Cur g5,(∀ b_20 n_21 r_22 l_23 i_24 w,S7 K X b_20 n_21 r_22 l_23 i_24 w→X b_20 n_21 r_22 l_23 i_24 w)→X b_20 n_21 r_22 l_23 i_24 w):L5 K b_20 n_21 r_22 l_23 i_24 w:=fun X hX=>h X fun b_20 n_21 r_22 l_23 i_24 w hb=>hX (b_20,n_21,r_22,l_23,i_24,()) w hb
theorem B8:OkT pr false none 245 g5 (L5 (Kt Kv)) (tl 1 (s1 (tl 6 bd))) (P3 Kv):=ok_block 0 (by kernel_rfl) (L5_ok Kv)
abbrev g9:List SE:=[.v 0 .sl,.v 4 (.int .i64),.v 5 .ptr,.v 6 .sl]
def S9 (K:KT) (b_493:Sl) (n_494:Int) (r_495:Option Addr) (l_496:Sl) (w:World):Prop :=
 L5 K b_493 n_494 r_495 l_496 0 w
theorem S9_ok:OkT pr false none 245 g9 (S9 (Kt Kv)) (s1 (tl 6 bd)) (P3 Kv):=ok_group mixed FOk_ 1 (B8 Kv) fun v ρ w=>by kernel_rfl
theorem Q10:OkT pr false none 245 g9 (S9 (Kt Kv)) (tl 6 bd) (P1 Kv):=ok_seq (by kernel_rfl) (S2_ok Kv) (S9_ok Kv)
end tocsinref08_Decode
def tocsinref08_Decode (b_3:Sl) (w:World) (K:tocsinref08_Decode.KT):Prop :=
 G.cond (decide (((b_3.n:Nat):Int)<2)) (K nilS 3 w) (G.cond (decide (((b_3.n:Nat):Int) > 4000)) (K nilS 3 w) (G.ix b_3.a b_3.n 0 1 fun p497=>G.cI .u8 p497 w.drew fun n498=>G.ix b_3.a b_3.n 1 1 fun p499=>G.cI .u8 p499 w.drew fun n500=>G.cond (decide ((IntKind.i64.wrap ((IntKind.i64.wrap ((IntKind.i64.wrap n498)*256))+(IntKind.i64.wrap n500))) > 120)) (K nilS 3 w.drew) (G.slc b_3 2 ((b_3.n:Nat):Int) 1 fun l501=>C.tocsinref02_New l501 (IntKind.i64.wrap (8*(IntKind.i64.wrap (((b_3.n:Nat):Int)-2)))) w.drew fun p502 w503=>C.tocsinref08_New w503 fun p504 w505=>G.new (.cells #[(.pointer p502),(.pointer p504),(.bool false)] 193) w505 fun p506 w507=>tocsinref08_Decode.S9 K b_3 (IntKind.i64.wrap ((IntKind.i64.wrap ((IntKind.i64.wrap n498)*256))+(IntKind.i64.wrap n500))) (some p506) nilS w507)))
def tocsinref08_Decode.cl:CL:=fun args K w=>match args with
 | [.slice x0_a x0_n x0_c]=>C.tocsinref08_Decode ⟨x0_a,x0_n,x0_c⟩ w (tocsinref08_Decode.Kt K)
 | _=>False
theorem tocsinref08_Decode.clok:OkC pr 116 tocsinref08_Decode.cl:=by
 intro args K w h
 unfold tocsinref08_Decode.cl at h
 split at h
 ·exact calls_group false mixed tocsinref08_Decode.FOk_ tocsinref08_Decode.fn rfl 6 (tocsinref08_Decode.Q10 K) (Eq.mp (by kernel_rfl) h)
 ·exact h.elim
namespace tocsinref08_Join
abbrev KT:=Sl→Int→Int→World→Prop
def Kt:KT:=fun l1 n2 n3 w=>Kv (.tuple #[l1.v,(.int .i64 n2),(.int .i64 n3)]) w
noncomputable def bd:Code:=bdy Tryz.f89
theorem fn:FnOk pr 89 54 Tryz.f89:=⟨Tryz.func89,by kernel_rfl,Tryz.ntmps89,by kernel_rfl,by kernel_rfl⟩
def F:Clee:=ofL [(116,C.tocsinref08_Decode.cl)]
theorem FOk_:FOk pr F:=FOk_cons C.tocsinref08_Decode.clok (FOk_nil)
def P1:Post:=bodyK false pr 54 Tryz.f89 Kv
abbrev g2:List SE:=[.v 5 .sl]
def S2 (K:KT) (out_5:Sl) (w:World):Prop :=
 K out_5 0 0 w
theorem S2_ok:OkT pr false none 54 g2 (S2 (Kt Kv)) (s2 (tl 2 bd)) (P1 Kv):=ok_last mixed FOk_ fun v ρ w=>by kernel_rfl
def P3:Post:=next (get g2 (S2 (Kt Kv))) (P1 Kv)
def P4:Post:=inBlock 0 (P3 Kv)
abbrev g5:List SE:=[.v 5 .sl,.v 10 .sl,.v 11 (.int .i64),.v 12 (.int .i64)]
def P6 (kc5:Cur g5):Post:=next (get g5 kc5) (P4 Kv)
def S7 (K:KT) (kc5:Cur g5) (out_14:Sl) (l15:Sl) (n16:Int) (n17:Int) (w:World):Prop :=
 G.cond (decide (n17<n16)) (G.ix l15.a l15.n n17 1 fun p18=>G.cSl p18 w fun l19=>C.tocsinref08_Decode l19 w fun l20 n21 w22=>G.cond (n21 != 0) (K nilS n21 n17 w22) (G.cond (decide (((l20.n:Nat):Int) > 0)) (G.cond (decide (((out_14.n:Nat):Int) > 0)) (G.ix l20.a l20.n 0 2 fun p23=>G.cI .i64 p23 w22.drew fun n24=>G.ix out_14.a out_14.n (IntKind.i64.wrap (((out_14.n:Nat):Int)-1)) 2 fun p25=>G.cI .i64 p25 w22.drew fun n26=>G.cond (decide (n24≤n26)) (K nilS 90 n17 w22.drew) (G.runSl pr (Builtin.append_ #[52,52] 52 #[out_14.v,l20.v]) w22.drew fun l27 w28=>kc5 l27 l15 n16 (IntKind.i64.wrap (n17+1)) w28)) (G.runSl pr (Builtin.append_ #[52,52] 52 #[out_14.v,l20.v]) w22.drew fun l29 w30=>kc5 l29 l15 n16 (IntKind.i64.wrap (n17+1)) w30)) (G.runSl pr (Builtin.append_ #[52,52] 52 #[out_14.v,l20.v]) w22.drew fun l31 w32=>kc5 l31 l15 n16 (IntKind.i64.wrap (n17+1)) w32))) (S2 K out_14 w)
theorem S7_ok (kc5:Cur g5):OkT pr false none 54 g5 (S7 (Kt Kv) kc5) (lp (blk (tl 1 (s1 (tl 2 bd))))) (P6 Kv kc5):=ok_last mixed FOk_ fun v ρ w=>by kernel_rfl
def L5 (K:KT):Cur g5:=loopC g5 (S7 K)
theorem L5_ok:OkT pr false none 54 g5 (L5 (Kt Kv)) (blk (tl 1 (s1 (tl 2 bd)))) (P4 Kv):=ok_loop (B:=S7 (Kt Kv)) (by kernel_rfl) fun kc=>S7_ok Kv kc
theorem L5_ind {K:KT} {out_6:Sl} {l7:Sl} {n8:Int} {n9:Int} {w:World} (h:∀ X:Cur g5,(∀ out_6 l7 n8 n9 w,S7 K X out_6 l7 n8 n9 w→X out_6 l7 n8 n9 w)→X out_6 l7 n8 n9 w):L5 K out_6 l7 n8 n9 w:=fun X hX=>h X fun out_6 l7 n8 n9 w hb=>hX (out_6,l7,n8,n9,()) w hb
theorem B8:OkT pr false none 54 g5 (L5 (Kt Kv)) (tl 1 (s1 (tl 2 bd))) (P3 Kv):=ok_block 0 (by kernel_rfl) (L5_ok Kv)
abbrev g9:List SE:=[.v 0 .sl,.v 5 .sl]
def S9 (K:KT) (l_33:Sl) (out_34:Sl) (w:World):Prop :=
 L5 K out_34 l_33 ((l_33.n:Nat):Int) 0 w
theorem S9_ok:OkT pr false none 54 g9 (S9 (Kt Kv)) (s1 (tl 2 bd)) (P3 Kv):=ok_group mixed FOk_ 1 (B8 Kv) fun v ρ w=>by kernel_rfl
theorem Q10:OkT pr false none 54 g9 (S9 (Kt Kv)) (tl 2 bd) (P1 Kv):=ok_seq (by kernel_rfl) (S2_ok Kv) (S9_ok Kv)
end tocsinref08_Join
def tocsinref08_Join (l_4:Sl) (w:World) (K:tocsinref08_Join.KT):Prop :=
 tocsinref08_Join.S9 K l_4 nilS w
def tocsinref08_Join.cl:CL:=fun args K w=>match args with
 | [.slice x0_a x0_n x0_c]=>C.tocsinref08_Join ⟨x0_a,x0_n,x0_c⟩ w (tocsinref08_Join.Kt K)
 | _=>False
theorem tocsinref08_Join.clok:OkC pr 89 tocsinref08_Join.cl:=by
 intro args K w h
 unfold tocsinref08_Join.cl at h
 split at h
 ·exact calls_group false mixed tocsinref08_Join.FOk_ tocsinref08_Join.fn rfl 2 (tocsinref08_Join.Q10 K) (Eq.mp (by kernel_rfl) h)
 ·exact h.elim
namespace tocsinref10_series
abbrev KT:=Sl→Sl→Bool→World→Prop
def Kt:KT:=fun l1 l2 b3 w=>Kv (.tuple #[(.agg #[l1.v,l2.v]),(.bool b3)]) w
noncomputable def bd:Code:=bdy Tryz.f46
theorem fn:FnOk pr 46 97 Tryz.f46:=⟨Tryz.func46,by kernel_rfl,Tryz.ntmps46,by kernel_rfl,by kernel_rfl⟩
def F:Clee:=ofL [(87,C.tocsinref04_Read.cl),(88,C.tocsinref01_U.cl),(89,C.tocsinref08_Join.cl)]
theorem FOk_:FOk pr F:=FOk_cons C.tocsinref04_Read.clok (FOk_cons C.tocsinref01_U.clok (FOk_cons C.tocsinref08_Join.clok (FOk_nil)))
def P1:Post:=bodyK false pr 97 Tryz.f46 Kv
abbrev g2:List SE:=[.v 0 .sl,.v 2 .ptr,.v 4 .ptr,.v 6 (.int .i64),.v 9 .sl]
def S2 (K:KT) (p_7:Sl) (p8:Option Addr) (s_9:Option Addr) (at_10:Int) (chunks_11:Sl) (w:World):Prop :=
 C.tocsinref08_Join chunks_11 w fun l12 n13 n14 w15=>G.ptr s_9 fun p16=>G.st (p16.add 1) l12.v w15 fun w17=>G.ptr s_9 fun p18=>G.cSl p18 w17 fun l19=>G.cSl (p18.add 1) w17 fun l20=>G.cond (n13==0) (G.ptr p8 fun p21=>G.st p21 l19.v w17 fun w22=>G.st (p21.add 1) l20.v w22 fun w23=>G.ptr p8 fun p24=>G.cSl p24 w23 fun l25=>G.cSl (p24.add 1) w23 fun l26=>K l25 l26 (at_10==((p_7.n:Nat):Int)) w23) (G.ptr p8 fun p27=>G.st p27 l19.v w17 fun w28=>G.st (p27.add 1) l20.v w28 fun w29=>G.ptr p8 fun p30=>G.cSl p30 w29 fun l31=>G.cSl (p30.add 1) w29 fun l32=>K l31 l32 false w29)
theorem S2_ok:OkT pr false none 97 g2 (S2 (Kt Kv)) (s2 (tl 8 bd)) (P1 Kv):=ok_last mixed FOk_ fun v ρ w=>by kernel_rfl
def P3:Post:=next (get g2 (S2 (Kt Kv))) (P1 Kv)
def P4:Post:=inBlock 0 (P3 Kv)
abbrev g5:List SE:=[.v 0 .sl,.v 2 .ptr,.v 4 .ptr,.v 6 (.int .i64),.v 8 (.int .u64),.v 9 .sl,.v 10 (.int .u64)]
def P6 (kc5:Cur g5):Post:=next (get g5 kc5) (P4 Kv)
def S7 (K:KT) (kc5:Cur g5) (p_47:Sl) (p48:Option Addr) (s_49:Option Addr) (at_50:Int) (n_51:Int) (chunks_52:Sl) (i_53:Int) (w:World):Prop :=
 G.cond (decide (i_53<n_51)) (C.tocsinref01_U p_47 at_50 w fun n54 n55 n56 w57=>G.cond (n56 != 0) (G.ptr s_49 fun p58=>G.cSl p58 w57 fun l59=>G.cSl (p58.add 1) w57 fun l60=>G.ptr p48 fun p61=>G.st p61 l59.v w57 fun w62=>G.st (p61.add 1) l60.v w62 fun w63=>G.ptr p48 fun p64=>G.cSl p64 w63 fun l65=>G.cSl (p64.add 1) w63 fun l66=>K l65 l66 false w63) (G.cond (decide (n54 > (IntKind.u64.wrap (IntKind.i64.wrap (((p_47.n:Nat):Int)-n55))))) (G.ptr s_49 fun p67=>G.cSl p67 w57 fun l68=>G.cSl (p67.add 1) w57 fun l69=>G.ptr p48 fun p70=>G.st p70 l68.v w57 fun w71=>G.st (p70.add 1) l69.v w71 fun w72=>G.ptr p48 fun p73=>G.cSl p73 w72 fun l74=>G.cSl (p73.add 1) w72 fun l75=>K l74 l75 false w72) (G.slc p_47 n55 (IntKind.i64.wrap (n55+(IntKind.i64.wrap n54))) 1 fun l76=>G.new (.cells #[l76.v] 22) w57 fun p77 w78=>G.runSl pr (Builtin.append_ #[78,78] 78 #[chunks_52.v,(Sl.v (⟨some p77,1,1⟩:Sl))]) w78 fun l79 w80=>kc5 p_47 p48 s_49 (IntKind.i64.wrap (n55+(IntKind.i64.wrap n54))) n_51 l79 (IntKind.u64.wrap (i_53+1)) w80))) (S2 K p_47 p48 s_49 at_50 chunks_52 w)
theorem S7_ok (kc5:Cur g5):OkT pr false none 97 g5 (S7 (Kt Kv) kc5) (lp (blk (tl 1 (s1 (tl 8 bd))))) (P6 Kv kc5):=ok_last mixed FOk_ fun v ρ w=>by kernel_rfl
def L5 (K:KT):Cur g5:=loopC g5 (S7 K)
theorem L5_ok:OkT pr false none 97 g5 (L5 (Kt Kv)) (blk (tl 1 (s1 (tl 8 bd)))) (P4 Kv):=ok_loop (B:=S7 (Kt Kv)) (by kernel_rfl) fun kc=>S7_ok Kv kc
theorem L5_ind {K:KT} {p_33:Sl} {p34:Option Addr} {s_35:Option Addr} {at_36:Int} {n_37:Int} {chunks_38:Sl} {i_39:Int} {w:World} (h:∀ X:Cur g5,(∀ p_33 p34 s_35 at_36 n_37 chunks_38 i_39 w,S7 K X p_33 p34 s_35 at_36 n_37 chunks_38 i_39 w→X p_33 p34 s_35 at_36 n_37 chunks_38 i_39 w)→X p_33 p34 s_35 at_36 n_37 chunks_38 i_39 w):L5 K p_33 p34 s_35 at_36 n_37 chunks_38 i_39 w:=fun X hX=>h X fun p_33 p34 s_35 at_36 n_37 chunks_38 i_39 w hb=>hX (p_33,p34,s_35,at_36,n_37,chunks_38,i_39,()) w hb
theorem B8:OkT pr false none 97 g5 (L5 (Kt Kv)) (tl 1 (s1 (tl 8 bd))) (P3 Kv):=ok_block 0 (by kernel_rfl) (L5_ok Kv)
abbrev g9:List SE:=[.v 0 .sl,.v 2 .ptr,.v 4 .ptr,.v 6 (.int .i64),.v 8 (.int .u64),.v 9 .sl]
def S9 (K:KT) (p_81:Sl) (p82:Option Addr) (s_83:Option Addr) (at_84:Int) (n_85:Int) (chunks_86:Sl) (w:World):Prop :=
 L5 K p_81 p82 s_83 at_84 n_85 chunks_86 0 w
theorem S9_ok:OkT pr false none 97 g9 (S9 (Kt Kv)) (s1 (tl 8 bd)) (P3 Kv):=ok_group mixed FOk_ 1 (B8 Kv) fun v ρ w=>by kernel_rfl
theorem Q10:OkT pr false none 97 g9 (S9 (Kt Kv)) (tl 8 bd) (P1 Kv):=ok_seq (by kernel_rfl) (S2_ok Kv) (S9_ok Kv)
end tocsinref10_series
def tocsinref10_series (p_4:Sl) (w:World) (K:tocsinref10_series.KT):Prop :=
 G.new (.cells #[nilS.v,nilS.v] 57) w fun p87 w88=>G.new (.cells #[nilS.v,nilS.v] 57) w88 fun p89 w90=>C.tocsinref04_Read p_4 0 w90 fun l91 n92 n93 w94=>G.cond (n93 != 0) (G.cSl p89 w94 fun l95=>G.cSl (p89.add 1) w94 fun l96=>G.st p87 l95.v w94 fun w97=>G.st (p87.add 1) l96.v w97 fun w98=>G.cSl p87 w98 fun l99=>G.cSl (p87.add 1) w98 fun l100=>K l99 l100 false w98) (G.st p89 l91.v w94 fun w101=>C.tocsinref01_U p_4 n92 w101 fun n102 n103 n104 w105=>G.cond (n104 != 0) (G.cSl p89 w105 fun l106=>G.cSl (p89.add 1) w105 fun l107=>G.st p87 l106.v w105 fun w108=>G.st (p87.add 1) l107.v w108 fun w109=>G.cSl p87 w109 fun l110=>G.cSl (p87.add 1) w109 fun l111=>K l110 l111 false w109) (G.cond (decide (n102 > (IntKind.u64.wrap ((p_4.n:Nat):Int)))) (G.cSl p89 w105 fun l112=>G.cSl (p89.add 1) w105 fun l113=>G.st p87 l112.v w105 fun w114=>G.st (p87.add 1) l113.v w114 fun w115=>G.cSl p87 w115 fun l116=>G.cSl (p87.add 1) w115 fun l117=>K l116 l117 false w115) (tocsinref10_series.S9 K p_4 (some p87) (some p89) n103 n102 nilS w105)))
def tocsinref10_series.cl:CL:=fun args K w=>match args with
 | [.slice x0_a x0_n x0_c]=>C.tocsinref10_series ⟨x0_a,x0_n,x0_c⟩ w (tocsinref10_series.Kt K)
 | _=>False
theorem tocsinref10_series.clok:OkC pr 46 tocsinref10_series.cl:=by
 intro args K w h
 unfold tocsinref10_series.cl at h
 split at h
 ·exact calls_group false mixed tocsinref10_series.FOk_ tocsinref10_series.fn rfl 8 (tocsinref10_series.Q10 K) (Eq.mp (by kernel_rfl) h)
 ·exact h.elim
namespace tocsinref10_Open
abbrev KT:=Sl→Bool→World→Prop
def Kt:KT:=fun l1 b2 w=>Kv (.tuple #[l1.v,(.bool b2)]) w
noncomputable def bd:Code:=bdy Tryz.f12
theorem fn:FnOk pr 12 78 Tryz.f12:=⟨Tryz.func12,by kernel_rfl,Tryz.ntmps12,by kernel_rfl,by kernel_rfl⟩
def F:Clee:=ofL [(18,C.tocsinref10_Build.cl),(45,C.tocsinref01_Frames.cl),(46,C.tocsinref10_series.cl)]
theorem FOk_:FOk pr F:=FOk_cons C.tocsinref10_Build.clok (FOk_cons C.tocsinref01_Frames.clok (FOk_cons C.tocsinref10_series.clok (FOk_nil)))
def P1:Post:=bodyK false pr 78 Tryz.f12 Kv
abbrev g2:List SE:=[.v 0 .sl,.v 7 .sl]
def S2 (K:KT) (b_6:Sl) (l_7:Sl) (w:World):Prop :=
 C.tocsinref10_Build l_7 w fun l8 n9 n10 w11=>G.cond (n9 != 0) (K nilS false w11) (G.rdS pr (Conv.bytesToString l8.v) w11 fun s12=>G.rdS pr (Conv.bytesToString b_6.v) w11 fun s13=>G.cond (!(s12.toList==s13.toList)) (K nilS false w11) (K l_7 true w11))
theorem S2_ok:OkT pr false none 78 g2 (S2 (Kt Kv)) (s2 (tl 5 bd)) (P1 Kv):=ok_last mixed FOk_ fun v ρ w=>by kernel_rfl
def P3:Post:=next (get g2 (S2 (Kt Kv))) (P1 Kv)
def P4:Post:=inBlock 0 (P3 Kv)
abbrev g5:List SE:=[.v 0 .sl,.v 7 .sl,.v 44 .sl,.v 45 (.int .i64),.v 46 (.int .i64)]
def P6 (kc5:Cur g5):Post:=next (get g5 kc5) (P4 Kv)
def S7 (K:KT) (kc5:Cur g5) (b_24:Sl) (l_25:Sl) (l26:Sl) (n27:Int) (n28:Int) (w:World):Prop :=
 G.cond (decide (n28<n27)) (G.ix l26.a l26.n n28 1 fun p29=>G.cSl p29 w fun l30=>C.tocsinref10_series l30 w fun l31 l32 b33 w34=>G.new (.cells #[nilS.v,nilS.v] 57) w34 fun p35 w36=>G.st p35 l31.v w36 fun w37=>G.st (p35.add 1) l32.v w37 fun w38=>G.cond (!b33) (K nilS false w38) (G.cSl p35 w38 fun l39=>G.cSl (p35.add 1) w38 fun l40=>G.new (.cells #[l39.v,l40.v] 57) w38 fun p41 w42=>G.runSl pr (Builtin.append_ #[27,27] 27 #[l_25.v,(Sl.v (⟨some p41,1,1⟩:Sl))]) w42 fun l43 w44=>kc5 b_24 l43 l26 n27 (IntKind.i64.wrap (n28+1)) w44)) (S2 K b_24 l_25 w)
theorem S7_ok (kc5:Cur g5):OkT pr false none 78 g5 (S7 (Kt Kv) kc5) (lp (blk (tl 1 (s1 (tl 5 bd))))) (P6 Kv kc5):=ok_last mixed FOk_ fun v ρ w=>by kernel_rfl
def L5 (K:KT):Cur g5:=loopC g5 (S7 K)
theorem L5_ok:OkT pr false none 78 g5 (L5 (Kt Kv)) (blk (tl 1 (s1 (tl 5 bd)))) (P4 Kv):=ok_loop (B:=S7 (Kt Kv)) (by kernel_rfl) fun kc=>S7_ok Kv kc
theorem L5_ind {K:KT} {b_14:Sl} {l_15:Sl} {l16:Sl} {n17:Int} {n18:Int} {w:World} (h:∀ X:Cur g5,(∀ b_14 l_15 l16 n17 n18 w,S7 K X b_14 l_15 l16 n17 n18 w→X b_14 l_15 l16 n17 n18 w)→X b_14 l_15 l16 n17 n18 w):L5 K b_14 l_15 l16 n17 n18 w:=fun X hX=>h X fun b_14 l_15 l16 n17 n18 w hb=>hX (b_14,l_15,l16,n17,n18,()) w hb
theorem B8:OkT pr false none 78 g5 (L5 (Kt Kv)) (tl 1 (s1 (tl 5 bd))) (P3 Kv):=ok_block 0 (by kernel_rfl) (L5_ok Kv)
abbrev g9:List SE:=[.v 0 .sl,.v 4 .sl,.v 7 .sl]
def S9 (K:KT) (b_45:Sl) (frames_46:Sl) (l_47:Sl) (w:World):Prop :=
 G.slc frames_46 1 ((frames_46.n:Nat):Int) 1 fun l48=>L5 K b_45 l_47 l48 ((l48.n:Nat):Int) 0 w
theorem S9_ok:OkT pr false none 78 g9 (S9 (Kt Kv)) (s1 (tl 5 bd)) (P3 Kv):=ok_group mixed FOk_ 1 (B8 Kv) fun v ρ w=>by kernel_rfl
theorem Q10:OkT pr false none 78 g9 (S9 (Kt Kv)) (tl 5 bd) (P1 Kv):=ok_seq (by kernel_rfl) (S2_ok Kv) (S9_ok Kv)
end tocsinref10_Open
def tocsinref10_Open (b_3:Sl) (w:World) (K:tocsinref10_Open.KT):Prop :=
 G.cond (decide (((b_3.n:Nat):Int)<8)) (K nilS false w) (G.cond (decide (((b_3.n:Nat):Int) > 1048576)) (K nilS false w) (G.slc b_3 0 8 1 fun l49=>G.rdS pr (Conv.bytesToString l49.v) w fun s50=>G.cond (!(s50.toList==(⟨#[84,79,67,66,76,75,48,49]⟩:ByteArray).toList)) (K nilS false w) (G.slc b_3 8 ((b_3.n:Nat):Int) 1 fun l51=>C.tocsinref01_Frames l51 w fun l52 n53 n54 w55=>G.cond (n54 != 0) (K nilS false w55) (G.cond (((l52.n:Nat):Int)==0) (K nilS false w55) (tocsinref10_Open.S9 K b_3 l52 nilS w55)))))
def tocsinref10_Open.cl:CL:=fun args K w=>match args with
 | [.slice x0_a x0_n x0_c]=>C.tocsinref10_Open ⟨x0_a,x0_n,x0_c⟩ w (tocsinref10_Open.Kt K)
 | _=>False
theorem tocsinref10_Open.clok:OkC pr 12 tocsinref10_Open.cl:=by
 intro args K w h
 unfold tocsinref10_Open.cl at h
 split at h
 ·exact calls_group false mixed tocsinref10_Open.FOk_ tocsinref10_Open.fn rfl 5 (tocsinref10_Open.Q10 K) (Eq.mp (by kernel_rfl) h)
 ·exact h.elim
abbrev atomic_AddInt64.KT:=Int→World→Prop
def atomic_AddInt64.Kt:atomic_AddInt64.KT:=fun r0 w=>Kv (.int .i64 r0) w
def atomic_AddInt64 (x0:Option Addr) (x1:Int) (w:World) (K:atomic_AddInt64.KT):Prop:=G.ptr x0 fun p=>G.cI .i64 p w fun n=>G.st p (.int .i64 (IntKind.i64.wrap (n+x1))) w fun w1=>K (IntKind.i64.wrap (n+x1)) w1
def atomic_AddInt64.cl:CL:=fun args K w=>match args with
 | [.pointer x0,.int .i64 x1]=>C.atomic_AddInt64 x0 x1 w (atomic_AddInt64.Kt K)
 | _=>False
theorem atomic_AddInt64.clok:OkX pr 99 atomic_AddInt64.cl:=by
 intro args K w h
 unfold atomic_AddInt64.cl at h
 split at h
 ·rename_i x0 x1
  cases x0 with
  | none=>exact h.elim
  | some a =>
   obtain ⟨n,hc,⟨u,hu⟩,hf,hk⟩:=h
   exact ⟨_,_,run_call_add Tryz.func99 (by kernel_rfl) (by kernel_rfl) (by kernel_rfl) .i64 (by kernel_rfl) hc hf rfl,hk⟩
 ·exact h.elim
namespace atomic_Int64_Add
abbrev KT:=Int→World→Prop
def Kt:KT:=fun n1 w=>Kv (.int .i64 n1) w
noncomputable def bd:Code:=bdy Tryz.f62
theorem fn:FnOk pr 62 10 Tryz.f62:=⟨Tryz.func62,by kernel_rfl,Tryz.ntmps62,by kernel_rfl,by kernel_rfl⟩
def F:Clee:=ofL [(99,C.atomic_AddInt64.cl)]
theorem FOk_:FOk pr F:=FOk_consX C.atomic_AddInt64.clok (FOk_nil)
def P1:Post:=bodyK false pr 10 Tryz.f62 Kv
end atomic_Int64_Add
def atomic_Int64_Add (x_2:Option Addr) (delta_3:Int) (w:World) (K:atomic_Int64_Add.KT):Prop :=
 G.ptr x_2 fun p4=>C.atomic_AddInt64 (some p4) delta_3 w fun n5 w6=>K n5 w6
def atomic_Int64_Add.cl:CL:=fun args K w=>match args with
 | [.pointer x0,.int .i64 x1]=>C.atomic_Int64_Add x0 x1 w (atomic_Int64_Add.Kt K)
 | _=>False
theorem atomic_Int64_Add.clok:OkC pr 62 atomic_Int64_Add.cl:=by
 intro args K w h
 unfold atomic_Int64_Add.cl at h
 split at h
 ·exact calls_last false mixed atomic_Int64_Add.FOk_ atomic_Int64_Add.fn rfl (Eq.mp (by kernel_rfl) h)
 ·exact h.elim
namespace slices_Clone_int_int
abbrev KT:=Sl→World→Prop
def Kt:KT:=fun l1 w=>Kv l1.v w
noncomputable def bd:Code:=bdy Tryz.f63
theorem fn:FnOk pr 63 8 Tryz.f63:=⟨Tryz.func63,by kernel_rfl,Tryz.ntmps63,by kernel_rfl,by kernel_rfl⟩
def F:Clee:=ofL []
theorem FOk_:FOk pr F:=FOk_nil
def P1:Post:=bodyK false pr 8 Tryz.f63 Kv
end slices_Clone_int_int
def slices_Clone_int_int (s_2:Sl) (w:World) (K:slices_Clone_int_int.KT):Prop :=
 G.cond s_2.a.isNone (K nilS w) (G.new (.cells #[] 3) w fun p3 w4=>G.runSl pr (Builtin.append_ #[46,46] 46 #[(Sl.v (⟨some p3,0,0⟩:Sl)),s_2.v]) w4 fun l5 w6=>K l5 w6)
def slices_Clone_int_int.cl:CL:=fun args K w=>match args with
 | [.slice x0_a x0_n x0_c]=>C.slices_Clone_int_int ⟨x0_a,x0_n,x0_c⟩ w (slices_Clone_int_int.Kt K)
 | _=>False
theorem slices_Clone_int_int.clok:OkC pr 63 slices_Clone_int_int.cl:=by
 intro args K w h
 unfold slices_Clone_int_int.cl at h
 split at h
 ·exact calls_last false mixed slices_Clone_int_int.FOk_ slices_Clone_int_int.fn rfl (Eq.mp (by kernel_rfl) h)
 ·exact h.elim
namespace labels_Get
abbrev KT:=ByteArray→World→Prop
def Kt:KT:=fun s1 w=>Kv (.string s1) w
noncomputable def bd:Code:=bdy Tryz.f64
theorem fn:FnOk pr 64 20 Tryz.f64:=⟨Tryz.func64,by kernel_rfl,Tryz.ntmps64,by kernel_rfl,by kernel_rfl⟩
def F:Clee:=ofL []
theorem FOk_:FOk pr F:=FOk_nil
def P1:Post:=bodyK false pr 20 Tryz.f64 Kv
abbrev g2:List SE:=[]
def S2 (K:KT) (w:World):Prop :=
 K (⟨#[]⟩:ByteArray) w
theorem S2_ok:OkT pr false none 20 g2 (S2 (Kt Kv)) (s2 (tl 1 bd)) (P1 Kv):=ok_last mixed FOk_ fun v ρ w=>by kernel_rfl
def P3:Post:=next (get g2 (S2 (Kt Kv))) (P1 Kv)
def P4:Post:=inBlock 0 (P3 Kv)
abbrev g5:List SE:=[.v 1 .str,.v 7 .sl,.v 8 (.int .i64),.v 9 (.int .i64)]
def P6 (kc5:Cur g5):Post:=next (get g5 kc5) (P4 Kv)
def S7 (K:KT) (kc5:Cur g5) (name_12:ByteArray) (l13:Sl) (n14:Int) (n15:Int) (w:World):Prop :=
 G.cond (decide (n15<n14)) (G.ix l13.a l13.n n15 2 fun p16=>G.cS p16 w fun s17=>G.cS (p16.add 1) w fun s18=>G.new (.cells #[(.string (⟨#[]⟩:ByteArray)),(.string (⟨#[]⟩:ByteArray))] 93) w fun p19 w20=>G.st p19 (.string s17) w20 fun w21=>G.st (p19.add 1) (.string s18) w21 fun w22=>G.cS p19 w22 fun s23=>G.cond (s23.toList==name_12.toList) (G.cS (p19.add 1) w22 fun s24=>K s24 w22) (kc5 name_12 l13 n14 (IntKind.i64.wrap (n15+1)) w22)) (S2 K w)
theorem S7_ok (kc5:Cur g5):OkT pr false none 20 g5 (S7 (Kt Kv) kc5) (lp (blk (tl 1 (s1 (tl 1 bd))))) (P6 Kv kc5):=ok_last mixed FOk_ fun v ρ w=>by kernel_rfl
def L5 (K:KT):Cur g5:=loopC g5 (S7 K)
theorem L5_ok:OkT pr false none 20 g5 (L5 (Kt Kv)) (blk (tl 1 (s1 (tl 1 bd)))) (P4 Kv):=ok_loop (B:=S7 (Kt Kv)) (by kernel_rfl) fun kc=>S7_ok Kv kc
theorem L5_ind {K:KT} {name_4:ByteArray} {l5:Sl} {n6:Int} {n7:Int} {w:World} (h:∀ X:Cur g5,(∀ name_4 l5 n6 n7 w,S7 K X name_4 l5 n6 n7 w→X name_4 l5 n6 n7 w)→X name_4 l5 n6 n7 w):L5 K name_4 l5 n6 n7 w:=fun X hX=>h X fun name_4 l5 n6 n7 w hb=>hX (name_4,l5,n6,n7,()) w hb
theorem B8:OkT pr false none 20 g5 (L5 (Kt Kv)) (tl 1 (s1 (tl 1 bd))) (P3 Kv):=ok_block 0 (by kernel_rfl) (L5_ok Kv)
abbrev g9:List SE:=[.v 0 .sl,.v 1 .str]
def S9 (K:KT) (l_25:Sl) (name_26:ByteArray) (w:World):Prop :=
 L5 K name_26 l_25 ((l_25.n:Nat):Int) 0 w
theorem S9_ok:OkT pr false none 20 g9 (S9 (Kt Kv)) (s1 (tl 1 bd)) (P3 Kv):=ok_group mixed FOk_ 1 (B8 Kv) fun v ρ w=>by kernel_rfl
theorem Q10:OkT pr false none 20 g9 (S9 (Kt Kv)) (tl 1 bd) (P1 Kv):=ok_seq (by kernel_rfl) (S2_ok Kv) (S9_ok Kv)
end labels_Get
def labels_Get (l_2:Sl) (name_3:ByteArray) (w:World) (K:labels_Get.KT):Prop :=
 labels_Get.S9 K l_2 name_3 w
def labels_Get.cl:CL:=fun args K w=>match args with
 | [.slice x0_a x0_n x0_c,.string x1]=>C.labels_Get ⟨x0_a,x0_n,x0_c⟩ x1 w (labels_Get.Kt K)
 | _=>False
theorem labels_Get.clok:OkC pr 64 labels_Get.cl:=by
 intro args K w h
 unfold labels_Get.cl at h
 split at h
 ·exact calls_group false mixed labels_Get.FOk_ labels_Get.fn rfl 1 (labels_Get.Q10 K) (Eq.mp (by kernel_rfl) h)
 ·exact h.elim
namespace block_Block_Postings
abbrev KT:=Sl→World→Prop
def Kt:KT:=fun l1 w=>Kv l1.v w
noncomputable def bd:Code:=bdy Tryz.f24
theorem fn:FnOk pr 24 48 Tryz.f24:=⟨Tryz.func24,by kernel_rfl,Tryz.ntmps24,by kernel_rfl,by kernel_rfl⟩
def F:Clee:=ofL [(62,C.atomic_Int64_Add.cl),(63,C.slices_Clone_int_int.cl),(64,C.labels_Get.cl)]
theorem FOk_:FOk pr F:=FOk_cons C.atomic_Int64_Add.clok (FOk_cons C.slices_Clone_int_int.clok (FOk_cons C.labels_Get.clok (FOk_nil)))
def P1:Post:=bodyK false pr 48 Tryz.f24 Kv
abbrev g2:List SE:=[.v 7 .sl]
def S2 (K:KT) (l_11:Sl) (w:World):Prop :=
 K l_11 w
theorem S2_ok:OkT pr false none 48 g2 (S2 (Kt Kv)) (s2 (tl 5 bd)) (P1 Kv):=ok_last mixed FOk_ fun v ρ w=>by kernel_rfl
def P3:Post:=next (get g2 (S2 (Kt Kv))) (P1 Kv)
def P4:Post:=inBlock 0 (P3 Kv)
abbrev g5:List SE:=[.v 1 .str,.v 7 .sl,.v 30 .sl,.v 31 (.int .i64),.v 32 (.int .i64)]
def P6 (kc5:Cur g5):Post:=next (get g5 kc5) (P4 Kv)
def S7 (K:KT) (kc5:Cur g5) (name_22:ByteArray) (l_23:Sl) (l24:Sl) (n25:Int) (n26:Int) (w:World):Prop :=
 G.cond (decide (n26<n25)) (G.ix l24.a l24.n n26 2 fun p27=>G.cSl p27 w fun l28=>G.cSl (p27.add 1) w fun l29=>G.new (.cells #[nilS.v,nilS.v] 57) w fun p30 w31=>G.st p30 l28.v w31 fun w32=>G.st (p30.add 1) l29.v w32 fun w33=>G.cSl p30 w33 fun l34=>C.labels_Get l34 name_22 w33 fun s35 w36=>G.cond (s35.toList==(⟨#[]⟩:ByteArray).toList) (G.new (.cells #[(.int .i64 n26)] 3) w36 fun p37 w38=>G.runSl pr (Builtin.append_ #[46,46] 46 #[l_23.v,(Sl.v (⟨some p37,1,1⟩:Sl))]) w38 fun l39 w40=>kc5 name_22 l39 l24 n25 (IntKind.i64.wrap (n26+1)) w40) (kc5 name_22 l_23 l24 n25 (IntKind.i64.wrap (n26+1)) w36)) (S2 K l_23 w)
theorem S7_ok (kc5:Cur g5):OkT pr false none 48 g5 (S7 (Kt Kv) kc5) (lp (blk (tl 1 (s1 (tl 5 bd))))) (P6 Kv kc5):=ok_last mixed FOk_ fun v ρ w=>by kernel_rfl
def L5 (K:KT):Cur g5:=loopC g5 (S7 K)
theorem L5_ok:OkT pr false none 48 g5 (L5 (Kt Kv)) (blk (tl 1 (s1 (tl 5 bd)))) (P4 Kv):=ok_loop (B:=S7 (Kt Kv)) (by kernel_rfl) fun kc=>S7_ok Kv kc
theorem L5_ind {K:KT} {name_12:ByteArray} {l_13:Sl} {l14:Sl} {n15:Int} {n16:Int} {w:World} (h:∀ X:Cur g5,(∀ name_12 l_13 l14 n15 n16 w,S7 K X name_12 l_13 l14 n15 n16 w→X name_12 l_13 l14 n15 n16 w)→X name_12 l_13 l14 n15 n16 w):L5 K name_12 l_13 l14 n15 n16 w:=fun X hX=>h X fun name_12 l_13 l14 n15 n16 w hb=>hX (name_12,l_13,l14,n15,n16,()) w hb
theorem B8:OkT pr false none 48 g5 (L5 (Kt Kv)) (tl 1 (s1 (tl 5 bd))) (P3 Kv):=ok_block 0 (by kernel_rfl) (L5_ok Kv)
abbrev g9:List SE:=[.v 0 .ptr,.v 1 .str,.v 7 .sl]
def S9 (K:KT) (b_41:Option Addr) (name_42:ByteArray) (l_43:Sl) (w:World):Prop :=
 G.ptr b_41 fun p44=>G.cSl (p44.add 1) w fun l45=>L5 K name_42 l_43 l45 ((l45.n:Nat):Int) 0 w
theorem S9_ok:OkT pr false none 48 g9 (S9 (Kt Kv)) (s1 (tl 5 bd)) (P3 Kv):=ok_group mixed FOk_ 1 (B8 Kv) fun v ρ w=>by kernel_rfl
theorem Q10:OkT pr false none 48 g9 (S9 (Kt Kv)) (tl 5 bd) (P1 Kv):=ok_seq (by kernel_rfl) (S2_ok Kv) (S9_ok Kv)
end block_Block_Postings
def block_Block_Postings (b_2:Option Addr) (name_3:ByteArray) (value_4:ByteArray) (w:World) (K:block_Block_Postings.KT):Prop :=
 G.cond b_2.isNone (K nilS w) (G.ptr b_2 fun p46=>C.atomic_Int64_Add (some (p46.add 3)) 1 w fun n47 w48=>G.cond (!(value_4.toList==(⟨#[]⟩:ByteArray).toList)) (G.ptr b_2 fun p49=>G.cM (p49.add 2) w48 fun m50=>G.rd1 pr (Instr.lookup 82 (.map m50) (.agg #[(.string name_3),(.string value_4)]) false) Sl.v w48 fun l51=>C.slices_Clone_int_int l51 w48 fun l52 w53=>K l52 w53) (block_Block_Postings.S9 K b_2 name_3 nilS w48))
def block_Block_Postings.cl:CL:=fun args K w=>match args with
 | [.pointer x0,.string x1,.string x2]=>C.block_Block_Postings x0 x1 x2 w (block_Block_Postings.Kt K)
 | _=>False
theorem block_Block_Postings.clok:OkC pr 24 block_Block_Postings.cl:=by
 intro args K w h
 unfold block_Block_Postings.cl at h
 split at h
 ·exact calls_group false mixed block_Block_Postings.FOk_ block_Block_Postings.fn rfl 5 (block_Block_Postings.Q10 K) (Eq.mp (by kernel_rfl) h)
 ·exact h.elim
namespace block_Block_Len
abbrev KT:=Int→World→Prop
def Kt:KT:=fun n1 w=>Kv (.int .i64 n1) w
noncomputable def bd:Code:=bdy Tryz.f40
theorem fn:FnOk pr 40 10 Tryz.f40:=⟨Tryz.func40,by kernel_rfl,Tryz.ntmps40,by kernel_rfl,by kernel_rfl⟩
def F:Clee:=ofL []
theorem FOk_:FOk pr F:=FOk_nil
def P1:Post:=bodyK false pr 10 Tryz.f40 Kv
end block_Block_Len
def block_Block_Len (b_2:Option Addr) (w:World) (K:block_Block_Len.KT):Prop :=
 G.cond b_2.isNone (K 0 w) (G.ptr b_2 fun p3=>G.cSl (p3.add 1) w fun l4=>K ((l4.n:Nat):Int) w)
def block_Block_Len.cl:CL:=fun args K w=>match args with
 | [.pointer x0]=>C.block_Block_Len x0 w (block_Block_Len.Kt K)
 | _=>False
theorem block_Block_Len.clok:OkC pr 40 block_Block_Len.cl:=by
 intro args K w h
 unfold block_Block_Len.cl at h
 split at h
 ·exact calls_last false mixed block_Block_Len.FOk_ block_Block_Len.fn rfl (Eq.mp (by kernel_rfl) h)
 ·exact h.elim
namespace block_Block_All
abbrev KT:=Value→World→Prop
def Kt:KT:=fun v1 w=>Kv v1 w
noncomputable def bd:Code:=bdy Tryz.f14
theorem fn:FnOk pr 14 4 Tryz.f14:=⟨Tryz.func14,by kernel_rfl,Tryz.ntmps14,by kernel_rfl,by kernel_rfl⟩
def F:Clee:=ofL []
theorem FOk_:FOk pr F:=FOk_nil
def P1:Post:=bodyK false pr 4 Tryz.f14 Kv
end block_Block_All
def block_Block_All (b_2:Option Addr) (w:World) (K:block_Block_All.KT):Prop :=
 G.new (.cells #[(.pointer b_2)] 23) w fun p3 w4=>K (Value.func (.func 48) #[] #[(.pointer (some p3))]) w4
def block_Block_All.cl:CL:=fun args K w=>match args with
 | [.pointer x0]=>C.block_Block_All x0 w (block_Block_All.Kt K)
 | _=>False
theorem block_Block_All.clok:OkC pr 14 block_Block_All.cl:=by
 intro args K w h
 unfold block_Block_All.cl at h
 split at h
 ·exact calls_last false mixed block_Block_All.FOk_ block_Block_All.fn rfl (Eq.mp (by kernel_rfl) h)
 ·exact h.elim
namespace block_Block_Samples
abbrev KT:=Int→World→Prop
def Kt:KT:=fun n1 w=>Kv (.int .i64 n1) w
noncomputable def bd:Code:=bdy Tryz.f47
theorem fn:FnOk pr 47 14 Tryz.f47:=⟨Tryz.func47,by kernel_rfl,Tryz.ntmps47,by kernel_rfl,by kernel_rfl⟩
def F:Clee:=ofL [(14,C.block_Block_All.cl)]
theorem FOk_:FOk pr F:=FOk_cons C.block_Block_All.clok (FOk_nil)
def Fc:Clee:=ofL [(48,C.block_Block_All_1.cl),(71,C.block_compare.cl),(135,C.labels_Compare_1.cl)]
theorem FcOk:FOkB pr Fc:=FOkB_cons C.block_Block_All_1.clok (FOkB_cons C.block_compare.clok (FOkB_cons C.labels_Compare_1.clok (FOkB_nil)))
def P1:Post:=bodyK true pr 14 Tryz.f47 Kv
abbrev g2:List SE:=[.v 3 .ptr,.v 14 .raw]
def S2 (K:KT) (n_3:Option Addr) (v4:Value) (w:World):Prop :=
 G.ptr n_3 fun p5=>G.cI .i64 p5 w fun n6=>G.marks v4 w fun w7=>K n6 w7
theorem S2_ok:OkT pr true none 14 g2 (S2 (Kt Kv)) (s2 (tl 2 bd)) (P1 Kv):=ok_last mixed FOk_ fun v ρ w=>by kernel_rfl
def P3:Post:=next (get g2 (S2 (Kt Kv))) (P1 Kv)
def P4:Post:=inBlock 0 (P3 Kv)
abbrev g5:List SE:=[.v 3 .ptr,.v 6 .raw,.v 14 .raw]
def P6 (Rr:Exit→World→Prop):Post:=RP Rr
abbrev g7:List SE:=[.v 3 .ptr,.v 4 .ptr]
def S7 (Rr:Exit→World→Prop) (n_11:Option Addr) (s_12:Option Addr) (w:World):Prop :=
 G.ptr n_11 fun p13=>G.cI .i64 p13 w fun n14=>G.ptr s_12 fun p15=>G.cSl (p15.add 1) w fun l16=>G.ptr n_11 fun p17=>G.st p17 (.int .i64 (IntKind.i64.wrap (n14+((l16.n:Nat):Int)))) w fun w18=>Rr .normal w18
theorem S7_ok (Rr:Exit→World→Prop) {ro:Option Nat}:OkT pr false ro 14 g7 (S7 Rr) (rbd (blk (tl 1 (s1 (tl 2 bd))))) (P6 Rr):=ok_last mixed FOk_ fun v ρ w=>by kernel_rfl
def B_R5 (n_8:Option Addr) (v9:Value) (v10:Value) (args:List Value) (wb:World) (bz:(World→Prop)→World→Prop) (Rr:Exit→World→Prop):Prop:=match args with
 | [.agg ⟨[.slice y_19_a y_19_n y_19_c,.slice y_20_a y_20_n y_20_c]⟩]=>G.new (.cells #[nilS.v,nilS.v] 57) wb fun p21 w22=>G.st p21 (⟨y_19_a,y_19_n,y_19_c⟩:Sl).v w22 fun w23=>G.st (p21.add 1) (⟨y_20_a,y_20_n,y_20_c⟩:Sl).v w23 fun w24=>bz (S7 Rr n_8 (some p21)) w24
 | _=>False
def O_R5 (K:KT) (n_8:Option Addr) (v9:Value) (v10:Value) (e:Exit) (D:Nat) (w:World):Prop:=match e with
 | .normal=>S2 K n_8 (pushMark v10 D) w
 | _=>False
def R5 (K:KT) (n_8:Option Addr) (v9:Value) (v10:Value) (w:World):Prop :=
 G.rangeW Fc v9 pr (B_R5 n_8 v9 v10) w (O_R5 K n_8 v9 v10)
theorem R5_ok:OkT pr true none 14 g5 (R5 (Kt Kv)) (blk (tl 1 (s1 (tl 2 bd)))) (P4 Kv):=by
 refine ok_rangeW mixed FOk_ FcOk (s:=6) (ps:=#[7]) (Bt:=fun v=>B_R5 v.1 v.2.1 v.2.2.1) (kB:=fun Rr=>S7 Rr) (sgB:=g7) (out:=fun v=>O_R5 (Kt Kv) v.1 v.2.1 v.2.2.1) (by kernel_rfl) (fun v ρ w=>by kernel_rfl) ?_ (fun Rr l=>S7_ok Rr) ?_
 ·intro v ρ args w bz Rr h
  have h':B_R5 v.1 v.2.1 v.2.2.1 args w bz Rr:=h
  unfold B_R5 at h'
  split at h'
  ·exact ⟨rfl,Eq.mp (by kernel_rfl) h'⟩
  ·exact h'.elim
 ·intro v ρ e D w h
  cases e with
  | normal=>exact Eq.mp (by kernel_rfl) h
  | _=>exact h.elim
theorem B8:OkT pr true none 14 g5 (R5 (Kt Kv)) (tl 1 (s1 (tl 2 bd))) (P3 Kv):=ok_block 0 (by kernel_rfl) (R5_ok Kv)
abbrev g9:List SE:=[.v 0 .ptr,.v 3 .ptr,.v 14 .raw]
def S9 (K:KT) (b_25:Option Addr) (n_26:Option Addr) (v27:Value) (w:World):Prop :=
 C.block_Block_All b_25 w fun v28 w29=>R5 K n_26 v28 v27 w29
theorem S9_ok:OkT pr true none 14 g9 (S9 (Kt Kv)) (s1 (tl 2 bd)) (P3 Kv):=ok_group mixed FOk_ 1 (B8 Kv) fun v ρ w=>by kernel_rfl
theorem Q10:OkT pr true none 14 g9 (S9 (Kt Kv)) (tl 2 bd) (P1 Kv):=ok_seq (by kernel_rfl) (S2_ok Kv) (S9_ok Kv)
end block_Block_Samples
def block_Block_Samples (b_2:Option Addr) (w:World) (K:block_Block_Samples.KT):Prop :=
 G.new (.cells #[(.int .i64 0)] 3) w fun p30 w31=>G.st p30 (.int .i64 0) w31 fun w32=>block_Block_Samples.S9 K b_2 (some p30) undef w32
def block_Block_Samples.cl:CL:=fun args K w=>match args with
 | [.pointer x0]=>C.block_Block_Samples x0 w (block_Block_Samples.Kt K)
 | _=>False
theorem block_Block_Samples.clok:OkC pr 47 block_Block_Samples.cl:=by
 intro args K w h
 unfold block_Block_Samples.cl at h
 split at h
 ·exact calls_group true mixed block_Block_Samples.FOk_ block_Block_Samples.fn rfl 2 (block_Block_Samples.Q10 K) (Eq.mp (by kernel_rfl) h)
 ·exact h.elim
namespace tocsinlaw10_awake
abbrev KT:=Bool→World→Prop
def Kt:KT:=fun b1 w=>Kv (.bool b1) w
noncomputable def bd:Code:=bdy Tryz.f13
theorem fn:FnOk pr 13 60 Tryz.f13:=⟨Tryz.func13,by kernel_rfl,Tryz.ntmps13,by kernel_rfl,by kernel_rfl⟩
def F:Clee:=ofL [(11,C.block_Open.cl),(24,C.block_Block_Postings.cl),(33,C.block_Build.cl),(40,C.block_Block_Len.cl),(47,C.block_Block_Samples.cl)]
theorem FOk_:FOk pr F:=FOk_cons C.block_Open.clok (FOk_cons C.block_Block_Postings.clok (FOk_cons C.block_Build.clok (FOk_cons C.block_Block_Len.clok (FOk_cons C.block_Block_Samples.clok (FOk_nil)))))
def P1:Post:=bodyK false pr 60 Tryz.f13 Kv
end tocsinlaw10_awake
def tocsinlaw10_awake (w:World) (K:tocsinlaw10_awake.KT):Prop :=
 G.new (.cells #[(.int .i64 5),(.float .f64 4607182418800017408)] 96) w fun p2 w3=>G.new (.cells #[(.string (⟨#[97]⟩:ByteArray)),(.string (⟨#[50]⟩:ByteArray))] 93) w3 fun p4 w5=>G.new (.cells #[(.string (⟨#[97]⟩:ByteArray)),(.string (⟨#[49]⟩:ByteArray))] 93) w5 fun p6 w7=>G.new (.cells #[(Sl.v (⟨some p4,1,1⟩:Sl)),(Sl.v (⟨some p2,1,1⟩:Sl)),(Sl.v (⟨some p6,1,1⟩:Sl)),(Sl.v (⟨some p2,1,1⟩:Sl))] 57) w7 fun p8 w9=>C.block_Build (⟨some p8,2,2⟩:Sl) w9 fun l10 n11 n12 w13=>C.block_Open l10 w13 fun p14 n15 w16=>G.cond (n11 != 0) (K false w16) (G.cond (n15 != 0) (K false w16) (G.cond p14.isNone (K false w16) (C.block_Block_Postings p14 (⟨#[97]⟩:ByteArray) (⟨#[50]⟩:ByteArray) w16 fun l17 w18=>G.cond (((l17.n:Nat):Int)==1) (G.ix l17.a l17.n 0 1 fun p19=>G.cI .i64 p19 w18 fun n20=>G.cond (n20==1) (C.block_Block_Len p14 w18 fun n21 w22=>G.cond (n21==2) (C.block_Block_Samples p14 w22 fun n23 w24=>K (n23==2) w24) (K false w22)) (K false w18)) (K false w18))))
def tocsinlaw10_awake.cl:CL:=fun args K w=>match args with
 | []=>C.tocsinlaw10_awake w (tocsinlaw10_awake.Kt K)
 | _=>False
theorem tocsinlaw10_awake.clok:OkC pr 13 tocsinlaw10_awake.cl:=by
 intro args K w h
 unfold tocsinlaw10_awake.cl at h
 split at h
 ·exact calls_last false mixed tocsinlaw10_awake.FOk_ tocsinlaw10_awake.fn rfl (Eq.mp (by kernel_rfl) h)
 ·exact h.elim
namespace block_Block_Bytes
abbrev KT:=Sl→World→Prop
def Kt:KT:=fun l1 w=>Kv l1.v w
noncomputable def bd:Code:=bdy Tryz.f15
theorem fn:FnOk pr 15 10 Tryz.f15:=⟨Tryz.func15,by kernel_rfl,Tryz.ntmps15,by kernel_rfl,by kernel_rfl⟩
def F:Clee:=ofL [(43,C.slices_Clone_byte_byte.cl)]
theorem FOk_:FOk pr F:=FOk_cons C.slices_Clone_byte_byte.clok (FOk_nil)
def P1:Post:=bodyK false pr 10 Tryz.f15 Kv
end block_Block_Bytes
def block_Block_Bytes (b_2:Option Addr) (w:World) (K:block_Block_Bytes.KT):Prop :=
 G.cond b_2.isNone (K nilS w) (G.ptr b_2 fun p3=>G.cSl p3 w fun l4=>C.slices_Clone_byte_byte l4 w fun l5 w6=>K l5 w6)
def block_Block_Bytes.cl:CL:=fun args K w=>match args with
 | [.pointer x0]=>C.block_Block_Bytes x0 w (block_Block_Bytes.Kt K)
 | _=>False
theorem block_Block_Bytes.clok:OkC pr 15 block_Block_Bytes.cl:=by
 intro args K w h
 unfold block_Block_Bytes.cl at h
 split at h
 ·exact calls_last false mixed block_Block_Bytes.FOk_ block_Block_Bytes.fn rfl (Eq.mp (by kernel_rfl) h)
 ·exact h.elim
namespace tocsinlaw10_texts
abbrev KT:=Bool→World→Prop
def Kt:KT:=fun b1 w=>Kv (.bool b1) w
noncomputable def bd:Code:=bdy Tryz.f20
theorem fn:FnOk pr 20 26 Tryz.f20:=⟨Tryz.func20,by kernel_rfl,Tryz.ntmps20,by kernel_rfl,by kernel_rfl⟩
def F:Clee:=ofL []
theorem FOk_:FOk pr F:=FOk_nil
def P1:Post:=bodyK false pr 26 Tryz.f20 Kv
abbrev g2:List SE:=[]
def S2 (K:KT) (w:World):Prop :=
 K true w
theorem S2_ok:OkT pr false none 26 g2 (S2 (Kt Kv)) (s2 (tl 2 bd)) (P1 Kv):=ok_last mixed FOk_ fun v ρ w=>by kernel_rfl
def P3:Post:=next (get g2 (S2 (Kt Kv))) (P1 Kv)
def P4:Post:=inBlock 0 (P3 Kv)
abbrev g5:List SE:=[.v 0 .sl,.v 1 .sl,.v 12 (.int .i64),.v 13 (.int .i64)]
def P6 (kc5:Cur g5):Post:=next (get g5 kc5) (P4 Kv)
def S7 (K:KT) (kc5:Cur g5) (a_12:Sl) (b_13:Sl) (n14:Int) (n15:Int) (w:World):Prop :=
 G.cond (decide (n15<n14)) (G.ix a_12.a a_12.n n15 1 fun p16=>G.cS p16 w.drew fun s17=>G.ix b_13.a b_13.n n15 1 fun p18=>G.cS p18 w.drew fun s19=>G.cond (!(s17.toList==s19.toList)) (K false w.drew) (kc5 a_12 b_13 n14 (IntKind.i64.wrap (n15+1)) w.drew)) (S2 K w)
theorem S7_ok (kc5:Cur g5):OkT pr false none 26 g5 (S7 (Kt Kv) kc5) (lp (blk (tl 1 (s1 (tl 2 bd))))) (P6 Kv kc5):=ok_last mixed FOk_ fun v ρ w=>by kernel_rfl
def L5 (K:KT):Cur g5:=loopC g5 (S7 K)
theorem L5_ok:OkT pr false none 26 g5 (L5 (Kt Kv)) (blk (tl 1 (s1 (tl 2 bd)))) (P4 Kv):=ok_loop (B:=S7 (Kt Kv)) (by kernel_rfl) fun kc=>S7_ok Kv kc
theorem L5_ind {K:KT} {a_4:Sl} {b_5:Sl} {n6:Int} {n7:Int} {w:World} (h:∀ X:Cur g5,(∀ a_4 b_5 n6 n7 w,S7 K X a_4 b_5 n6 n7 w→X a_4 b_5 n6 n7 w)→X a_4 b_5 n6 n7 w):L5 K a_4 b_5 n6 n7 w:=fun X hX=>h X fun a_4 b_5 n6 n7 w hb=>hX (a_4,b_5,n6,n7,()) w hb
theorem B8:OkT pr false none 26 g5 (L5 (Kt Kv)) (tl 1 (s1 (tl 2 bd))) (P3 Kv):=ok_block 0 (by kernel_rfl) (L5_ok Kv)
abbrev g9:List SE:=[.v 0 .sl,.v 1 .sl]
def S9 (K:KT) (a_20:Sl) (b_21:Sl) (w:World):Prop :=
 L5 K a_20 b_21 ((a_20.n:Nat):Int) 0 w
theorem S9_ok:OkT pr false none 26 g9 (S9 (Kt Kv)) (s1 (tl 2 bd)) (P3 Kv):=ok_group mixed FOk_ 1 (B8 Kv) fun v ρ w=>by kernel_rfl
theorem Q10:OkT pr false none 26 g9 (S9 (Kt Kv)) (tl 2 bd) (P1 Kv):=ok_seq (by kernel_rfl) (S2_ok Kv) (S9_ok Kv)
end tocsinlaw10_texts
def tocsinlaw10_texts (a_2:Sl) (b_3:Sl) (w:World) (K:tocsinlaw10_texts.KT):Prop :=
 G.cond (((a_2.n:Nat):Int) != ((b_3.n:Nat):Int)) (K false w) (tocsinlaw10_texts.S9 K a_2 b_3 w)
def tocsinlaw10_texts.cl:CL:=fun args K w=>match args with
 | [.slice x0_a x0_n x0_c,.slice x1_a x1_n x1_c]=>C.tocsinlaw10_texts ⟨x0_a,x0_n,x0_c⟩ ⟨x1_a,x1_n,x1_c⟩ w (tocsinlaw10_texts.Kt K)
 | _=>False
theorem tocsinlaw10_texts.clok:OkC pr 20 tocsinlaw10_texts.cl:=by
 intro args K w h
 unfold tocsinlaw10_texts.cl at h
 split at h
 ·exact calls_group false mixed tocsinlaw10_texts.FOk_ tocsinlaw10_texts.fn rfl 2 (tocsinlaw10_texts.Q10 K) (Eq.mp (by kernel_rfl) h)
 ·exact h.elim
namespace tocsinref08_Same
abbrev KT:=Bool→World→Prop
def Kt:KT:=fun b1 w=>Kv (.bool b1) w
noncomputable def bd:Code:=bdy Tryz.f29
theorem fn:FnOk pr 29 43 Tryz.f29:=⟨Tryz.func29,by kernel_rfl,Tryz.ntmps29,by kernel_rfl,by kernel_rfl⟩
def F:Clee:=ofL [(66,C.tocsinref08_Bits.cl)]
theorem FOk_:FOk pr F:=FOk_cons C.tocsinref08_Bits.clok (FOk_nil)
def P1:Post:=bodyK false pr 43 Tryz.f29 Kv
abbrev g2:List SE:=[]
def S2 (K:KT) (w:World):Prop :=
 K true w
theorem S2_ok:OkT pr false none 43 g2 (S2 (Kt Kv)) (s2 (tl 2 bd)) (P1 Kv):=ok_last mixed FOk_ fun v ρ w=>by kernel_rfl
def P3:Post:=next (get g2 (S2 (Kt Kv))) (P1 Kv)
def P4:Post:=inBlock 0 (P3 Kv)
abbrev g5:List SE:=[.v 0 .sl,.v 1 .sl,.v 12 (.int .i64),.v 13 (.int .i64)]
def P6 (kc5:Cur g5):Post:=next (get g5 kc5) (P4 Kv)
def S7 (K:KT) (kc5:Cur g5) (a_12:Sl) (b_13:Sl) (n14:Int) (n15:Int) (w:World):Prop :=
 G.cond (decide (n15<n14)) (G.ix a_12.a a_12.n n15 2 fun p16=>G.cI .i64 p16 w.drew fun n17=>G.ix b_13.a b_13.n n15 2 fun p18=>G.cI .i64 p18 w.drew fun n19=>G.cond (n17 != n19) (K false w.drew) (G.ix a_12.a a_12.n n15 2 fun p20=>G.cF .f64 (p20.add 1) w.drew fun f21=>G.ix b_13.a b_13.n n15 2 fun p22=>G.cF .f64 (p22.add 1) w.drew fun f23=>C.tocsinref08_Bits f21 w.drew fun n24 w25=>sameAt (p22.add 1) 1 w.drew w25∧(C.tocsinref08_Bits f23 w25 fun n26 w27=>G.cond (n24 != n26) (K false w27) (kc5 a_12 b_13 n14 (IntKind.i64.wrap (n15+1)) w27)))) (S2 K w)
theorem S7_ok (kc5:Cur g5):OkT pr false none 43 g5 (S7 (Kt Kv) kc5) (lp (blk (tl 1 (s1 (tl 2 bd))))) (P6 Kv kc5):=ok_last mixed FOk_ fun v ρ w=>by kernel_rfl
def L5 (K:KT):Cur g5:=loopC g5 (S7 K)
theorem L5_ok:OkT pr false none 43 g5 (L5 (Kt Kv)) (blk (tl 1 (s1 (tl 2 bd)))) (P4 Kv):=ok_loop (B:=S7 (Kt Kv)) (by kernel_rfl) fun kc=>S7_ok Kv kc
theorem L5_ind {K:KT} {a_4:Sl} {b_5:Sl} {n6:Int} {n7:Int} {w:World} (h:∀ X:Cur g5,(∀ a_4 b_5 n6 n7 w,S7 K X a_4 b_5 n6 n7 w→X a_4 b_5 n6 n7 w)→X a_4 b_5 n6 n7 w):L5 K a_4 b_5 n6 n7 w:=fun X hX=>h X fun a_4 b_5 n6 n7 w hb=>hX (a_4,b_5,n6,n7,()) w hb
theorem B8:OkT pr false none 43 g5 (L5 (Kt Kv)) (tl 1 (s1 (tl 2 bd))) (P3 Kv):=ok_block 0 (by kernel_rfl) (L5_ok Kv)
abbrev g9:List SE:=[.v 0 .sl,.v 1 .sl]
def S9 (K:KT) (a_28:Sl) (b_29:Sl) (w:World):Prop :=
 L5 K a_28 b_29 ((a_28.n:Nat):Int) 0 w
theorem S9_ok:OkT pr false none 43 g9 (S9 (Kt Kv)) (s1 (tl 2 bd)) (P3 Kv):=ok_group mixed FOk_ 1 (B8 Kv) fun v ρ w=>by kernel_rfl
theorem Q10:OkT pr false none 43 g9 (S9 (Kt Kv)) (tl 2 bd) (P1 Kv):=ok_seq (by kernel_rfl) (S2_ok Kv) (S9_ok Kv)
end tocsinref08_Same
def tocsinref08_Same (a_2:Sl) (b_3:Sl) (w:World) (K:tocsinref08_Same.KT):Prop :=
 G.cond (((a_2.n:Nat):Int) != ((b_3.n:Nat):Int)) (K false w) (tocsinref08_Same.S9 K a_2 b_3 w)
def tocsinref08_Same.cl:CL:=fun args K w=>match args with
 | [.slice x0_a x0_n x0_c,.slice x1_a x1_n x1_c]=>C.tocsinref08_Same ⟨x0_a,x0_n,x0_c⟩ ⟨x1_a,x1_n,x1_c⟩ w (tocsinref08_Same.Kt K)
 | _=>False
theorem tocsinref08_Same.clok:OkC pr 29 tocsinref08_Same.cl:=by
 intro args K w h
 unfold tocsinref08_Same.cl at h
 split at h
 ·exact calls_group false mixed tocsinref08_Same.FOk_ tocsinref08_Same.fn rfl 2 (tocsinref08_Same.Q10 K) (Eq.mp (by kernel_rfl) h)
 ·exact h.elim
namespace tocsinref10_Same
abbrev KT:=Bool→World→Prop
def Kt:KT:=fun b1 w=>Kv (.bool b1) w
noncomputable def bd:Code:=bdy Tryz.f34
theorem fn:FnOk pr 34 43 Tryz.f34:=⟨Tryz.func34,by kernel_rfl,Tryz.ntmps34,by kernel_rfl,by kernel_rfl⟩
def F:Clee:=ofL [(28,C.tocsinref04_Same.cl),(29,C.tocsinref08_Same.cl)]
theorem FOk_:FOk pr F:=FOk_cons C.tocsinref04_Same.clok (FOk_cons C.tocsinref08_Same.clok (FOk_nil))
def P1:Post:=bodyK false pr 43 Tryz.f34 Kv
abbrev g2:List SE:=[]
def S2 (K:KT) (w:World):Prop :=
 K true w
theorem S2_ok:OkT pr false none 43 g2 (S2 (Kt Kv)) (s2 (tl 2 bd)) (P1 Kv):=ok_last mixed FOk_ fun v ρ w=>by kernel_rfl
def P3:Post:=next (get g2 (S2 (Kt Kv))) (P1 Kv)
def P4:Post:=inBlock 0 (P3 Kv)
abbrev g5:List SE:=[.v 0 .sl,.v 1 .sl,.v 12 (.int .i64),.v 13 (.int .i64)]
def P6 (kc5:Cur g5):Post:=next (get g5 kc5) (P4 Kv)
def S7 (K:KT) (kc5:Cur g5) (a_12:Sl) (b_13:Sl) (n14:Int) (n15:Int) (w:World):Prop :=
 G.cond (decide (n15<n14)) (G.ix a_12.a a_12.n n15 2 fun p16=>G.cSl p16 w.drew fun l17=>G.ix b_13.a b_13.n n15 2 fun p18=>G.cSl p18 w.drew fun l19=>C.tocsinref04_Same l17 l19 w.drew fun b20 w21=>G.cond (!b20) (K false w21) (G.ix a_12.a a_12.n n15 2 fun p22=>G.cSl (p22.add 1) w21 fun l23=>G.ix b_13.a b_13.n n15 2 fun p24=>G.cSl (p24.add 1) w21 fun l25=>C.tocsinref08_Same l23 l25 w21 fun b26 w27=>G.cond (!b26) (K false w27) (kc5 a_12 b_13 n14 (IntKind.i64.wrap (n15+1)) w27))) (S2 K w)
theorem S7_ok (kc5:Cur g5):OkT pr false none 43 g5 (S7 (Kt Kv) kc5) (lp (blk (tl 1 (s1 (tl 2 bd))))) (P6 Kv kc5):=ok_last mixed FOk_ fun v ρ w=>by kernel_rfl
def L5 (K:KT):Cur g5:=loopC g5 (S7 K)
theorem L5_ok:OkT pr false none 43 g5 (L5 (Kt Kv)) (blk (tl 1 (s1 (tl 2 bd)))) (P4 Kv):=ok_loop (B:=S7 (Kt Kv)) (by kernel_rfl) fun kc=>S7_ok Kv kc
theorem L5_ind {K:KT} {a_4:Sl} {b_5:Sl} {n6:Int} {n7:Int} {w:World} (h:∀ X:Cur g5,(∀ a_4 b_5 n6 n7 w,S7 K X a_4 b_5 n6 n7 w→X a_4 b_5 n6 n7 w)→X a_4 b_5 n6 n7 w):L5 K a_4 b_5 n6 n7 w:=fun X hX=>h X fun a_4 b_5 n6 n7 w hb=>hX (a_4,b_5,n6,n7,()) w hb
theorem B8:OkT pr false none 43 g5 (L5 (Kt Kv)) (tl 1 (s1 (tl 2 bd))) (P3 Kv):=ok_block 0 (by kernel_rfl) (L5_ok Kv)
abbrev g9:List SE:=[.v 0 .sl,.v 1 .sl]
def S9 (K:KT) (a_28:Sl) (b_29:Sl) (w:World):Prop :=
 L5 K a_28 b_29 ((a_28.n:Nat):Int) 0 w
theorem S9_ok:OkT pr false none 43 g9 (S9 (Kt Kv)) (s1 (tl 2 bd)) (P3 Kv):=ok_group mixed FOk_ 1 (B8 Kv) fun v ρ w=>by kernel_rfl
theorem Q10:OkT pr false none 43 g9 (S9 (Kt Kv)) (tl 2 bd) (P1 Kv):=ok_seq (by kernel_rfl) (S2_ok Kv) (S9_ok Kv)
end tocsinref10_Same
def tocsinref10_Same (a_2:Sl) (b_3:Sl) (w:World) (K:tocsinref10_Same.KT):Prop :=
 G.cond (((a_2.n:Nat):Int) != ((b_3.n:Nat):Int)) (K false w) (tocsinref10_Same.S9 K a_2 b_3 w)
def tocsinref10_Same.cl:CL:=fun args K w=>match args with
 | [.slice x0_a x0_n x0_c,.slice x1_a x1_n x1_c]=>C.tocsinref10_Same ⟨x0_a,x0_n,x0_c⟩ ⟨x1_a,x1_n,x1_c⟩ w (tocsinref10_Same.Kt K)
 | _=>False
theorem tocsinref10_Same.clok:OkC pr 34 tocsinref10_Same.cl:=by
 intro args K w h
 unfold tocsinref10_Same.cl at h
 split at h
 ·exact calls_group false mixed tocsinref10_Same.FOk_ tocsinref10_Same.fn rfl 2 (tocsinref10_Same.Q10 K) (Eq.mp (by kernel_rfl) h)
 ·exact h.elim
namespace tocsinlaw10_every
abbrev KT:=Sl→World→Prop
def Kt:KT:=fun l1 w=>Kv l1.v w
noncomputable def bd:Code:=bdy Tryz.f35
theorem fn:FnOk pr 35 23 Tryz.f35:=⟨Tryz.func35,by kernel_rfl,Tryz.ntmps35,by kernel_rfl,by kernel_rfl⟩
def F:Clee:=ofL [(14,C.block_Block_All.cl)]
theorem FOk_:FOk pr F:=FOk_cons C.block_Block_All.clok (FOk_nil)
def Fc:Clee:=ofL [(48,C.block_Block_All_1.cl),(71,C.block_compare.cl),(135,C.labels_Compare_1.cl)]
theorem FcOk:FOkB pr Fc:=FOkB_cons C.block_Block_All_1.clok (FOkB_cons C.block_compare.clok (FOkB_cons C.labels_Compare_1.clok (FOkB_nil)))
def P1:Post:=bodyK true pr 23 Tryz.f35 Kv
abbrev g2:List SE:=[.v 5 .ptr,.v 23 .raw]
def S2 (K:KT) (l_4:Option Addr) (v5:Value) (w:World):Prop :=
 G.ptr l_4 fun p6=>G.cSl p6 w fun l7=>G.marks v5 w fun w8=>K l7 w8
theorem S2_ok:OkT pr true none 23 g2 (S2 (Kt Kv)) (s2 (tl 4 bd)) (P1 Kv):=ok_last mixed FOk_ fun v ρ w=>by kernel_rfl
def P3:Post:=next (get g2 (S2 (Kt Kv))) (P1 Kv)
def P4:Post:=inBlock 0 (P3 Kv)
abbrev g5:List SE:=[.v 3 .ptr,.v 5 .ptr,.v 12 .raw,.v 23 .raw]
def P6 (Rr:Exit→World→Prop):Post:=RP Rr
abbrev g7:List SE:=[.v 3 .ptr,.v 5 .ptr,.v 7 .ptr]
def S7 (Rr:Exit→World→Prop) (most_13:Option Addr) (l_14:Option Addr) (s_15:Option Addr) (w:World):Prop :=
 G.ptr l_14 fun p16=>G.cSl p16 w fun l17=>G.ptr s_15 fun p18=>G.cSl p18 w fun l19=>G.cSl (p18.add 1) w fun l20=>G.new (.cells #[l19.v,l20.v] 57) w fun p21 w22=>G.runSl pr (Builtin.append_ #[27,27] 27 #[l17.v,(Sl.v (⟨some p21,1,1⟩:Sl))]) w22 fun l23 w24=>G.ptr l_14 fun p25=>G.st p25 l23.v w24 fun w26=>G.ptr l_14 fun p27=>G.cSl p27 w26 fun l28=>G.ptr most_13 fun p29=>G.cI .i64 p29 w26 fun n30=>G.cond (decide (((l28.n:Nat):Int) ≥ n30)) (Rr (.exit 0) w26) (Rr .normal w26)
theorem S7_ok (Rr:Exit→World→Prop) {ro:Option Nat}:OkT pr false ro 23 g7 (S7 Rr) (rbd (blk (tl 1 (s1 (tl 4 bd))))) (P6 Rr):=ok_last mixed FOk_ fun v ρ w=>by kernel_rfl
def B_R5 (most_9:Option Addr) (l_10:Option Addr) (v11:Value) (v12:Value) (args:List Value) (wb:World) (bz:(World→Prop)→World→Prop) (Rr:Exit→World→Prop):Prop:=match args with
 | [.agg ⟨[.slice y_31_a y_31_n y_31_c,.slice y_32_a y_32_n y_32_c]⟩]=>G.new (.cells #[nilS.v,nilS.v] 57) wb fun p33 w34=>G.st p33 (⟨y_31_a,y_31_n,y_31_c⟩:Sl).v w34 fun w35=>G.st (p33.add 1) (⟨y_32_a,y_32_n,y_32_c⟩:Sl).v w35 fun w36=>bz (S7 Rr most_9 l_10 (some p33)) w36
 | _=>False
def O_R5 (K:KT) (most_9:Option Addr) (l_10:Option Addr) (v11:Value) (v12:Value) (e:Exit) (D:Nat) (w:World):Prop:=match e with
 | .normal=>S2 K l_10 (pushMark v12 D) w
 | .exit i=>bif Nat.beq i 0 then (S2 K l_10 (pushMark v12 D) w) else False
 | _=>False
def R5 (K:KT) (most_9:Option Addr) (l_10:Option Addr) (v11:Value) (v12:Value) (w:World):Prop :=
 G.rangeW Fc v11 pr (B_R5 most_9 l_10 v11 v12) w (O_R5 K most_9 l_10 v11 v12)
theorem R5_ok:OkT pr true none 23 g5 (R5 (Kt Kv)) (blk (tl 1 (s1 (tl 4 bd)))) (P4 Kv):=by
 refine ok_rangeW mixed FOk_ FcOk (s:=12) (ps:=#[13]) (Bt:=fun v=>B_R5 v.1 v.2.1 v.2.2.1 v.2.2.2.1) (kB:=fun Rr=>S7 Rr) (sgB:=g7) (out:=fun v=>O_R5 (Kt Kv) v.1 v.2.1 v.2.2.1 v.2.2.2.1) (by kernel_rfl) (fun v ρ w=>by kernel_rfl) ?_ (fun Rr l=>S7_ok Rr) ?_
 ·intro v ρ args w bz Rr h
  have h':B_R5 v.1 v.2.1 v.2.2.1 v.2.2.2.1 args w bz Rr:=h
  unfold B_R5 at h'
  split at h'
  ·exact ⟨rfl,Eq.mp (by kernel_rfl) h'⟩
  ·exact h'.elim
 ·intro v ρ e D w h
  cases e with
  | normal=>exact Eq.mp (by kernel_rfl) h
  | exit i =>
   refine (exit_inv h).elim (fun h=>?_) (fun h=>?_)
   ·obtain ⟨rfl,h⟩:=h;exact Eq.mp (by kernel_rfl) h
   ·exact h.elim
  | _=>exact h.elim
theorem B8:OkT pr true none 23 g5 (R5 (Kt Kv)) (tl 1 (s1 (tl 4 bd))) (P3 Kv):=ok_block 0 (by kernel_rfl) (R5_ok Kv)
abbrev g9:List SE:=[.v 3 .ptr,.v 5 .ptr,.v 6 .raw,.v 23 .raw]
def S9 (K:KT) (most_37:Option Addr) (l_38:Option Addr) (seq_39:Value) (v40:Value) (w:World):Prop :=
 R5 K most_37 l_38 seq_39 v40 w
theorem S9_ok:OkT pr true none 23 g9 (S9 (Kt Kv)) (s1 (tl 4 bd)) (P3 Kv):=ok_group mixed FOk_ 1 (B8 Kv) fun v ρ w=>by kernel_rfl
theorem Q10:OkT pr true none 23 g9 (S9 (Kt Kv)) (tl 4 bd) (P1 Kv):=ok_seq (by kernel_rfl) (S2_ok Kv) (S9_ok Kv)
end tocsinlaw10_every
def tocsinlaw10_every (b_2:Option Addr) (most_3:Int) (w:World) (K:tocsinlaw10_every.KT):Prop :=
 G.new (.cells #[(.int .i64 most_3)] 3) w fun p41 w42=>G.new (.cells #[nilS.v] 27) w42 fun p43 w44=>C.block_Block_All b_2 w44 fun v45 w46=>G.isNilF v45 fun b47=>G.cond b47 (K nilS w46) (tocsinlaw10_every.S9 K (some p41) (some p43) v45 undef w46)
def tocsinlaw10_every.cl:CL:=fun args K w=>match args with
 | [.pointer x0,.int .i64 x1]=>C.tocsinlaw10_every x0 x1 w (tocsinlaw10_every.Kt K)
 | _=>False
theorem tocsinlaw10_every.clok:OkC pr 35 tocsinlaw10_every.cl:=by
 intro args K w h
 unfold tocsinlaw10_every.cl at h
 split at h
 ·exact calls_group true mixed tocsinlaw10_every.FOk_ tocsinlaw10_every.fn rfl 4 (tocsinlaw10_every.Q10 K) (Eq.mp (by kernel_rfl) h)
 ·exact h.elim
namespace block_Block_Span
abbrev KT:=Int→Int→World→Prop
def Kt:KT:=fun n1 n2 w=>Kv (.tuple #[(.int .i64 n1),(.int .i64 n2)]) w
noncomputable def bd:Code:=bdy Tryz.f50
theorem fn:FnOk pr 50 39 Tryz.f50:=⟨Tryz.func50,by kernel_rfl,Tryz.ntmps50,by kernel_rfl,by kernel_rfl⟩
def F:Clee:=ofL [(14,C.block_Block_All.cl)]
theorem FOk_:FOk pr F:=FOk_cons C.block_Block_All.clok (FOk_nil)
def Fc:Clee:=ofL [(48,C.block_Block_All_1.cl),(71,C.block_compare.cl),(135,C.labels_Compare_1.cl)]
theorem FcOk:FOkB pr Fc:=FOkB_cons C.block_Block_All_1.clok (FOkB_cons C.block_compare.clok (FOkB_cons C.labels_Compare_1.clok (FOkB_nil)))
def P1:Post:=bodyK true pr 39 Tryz.f50 Kv
abbrev g2:List SE:=[.v 4 .ptr,.v 5 .ptr,.v 39 .raw]
def S2 (K:KT) (first_4:Option Addr) (last_5:Option Addr) (v6:Value) (w:World):Prop :=
 G.ptr first_4 fun p7=>G.cI .i64 p7 w.drew fun n8=>G.ptr last_5 fun p9=>G.cI .i64 p9 w.drew fun n10=>G.marks v6 w.drew fun w11=>K n8 n10 w11
theorem S2_ok:OkT pr true none 39 g2 (S2 (Kt Kv)) (s2 (tl 3 bd)) (P1 Kv):=ok_last mixed FOk_ fun v ρ w=>by kernel_rfl
def P3:Post:=next (get g2 (S2 (Kt Kv))) (P1 Kv)
def P4:Post:=inBlock 0 (P3 Kv)
abbrev g5:List SE:=[.v 4 .ptr,.v 5 .ptr,.v 6 .ptr,.v 11 .raw,.v 39 .raw]
def P6 (Rr:Exit→World→Prop):Post:=RP Rr
abbrev g7:List SE:=[.v 4 .ptr,.v 5 .ptr,.v 6 .ptr,.v 7 .ptr]
def S7 (Rr:Exit→World→Prop) (first_17:Option Addr) (last_18:Option Addr) (any_19:Option Addr) (s_20:Option Addr) (w:World):Prop :=
 G.ptr s_20 fun p21=>G.cSl (p21.add 1) w.drew fun l22=>G.ix l22.a l22.n 0 2 fun p23=>G.cI .i64 p23 w.drew fun n24=>G.ptr s_20 fun p25=>G.cSl (p25.add 1) w.drew fun l26=>G.ptr s_20 fun p27=>G.cSl (p27.add 1) w.drew fun l28=>G.ix l26.a l26.n (IntKind.i64.wrap (((l28.n:Nat):Int)-1)) 2 fun p29=>G.cI .i64 p29 w.drew fun n30=>G.ptr any_19 fun p31=>G.cB p31 w.drew fun b32=>G.cond (!b32) (G.ptr first_17 fun p33=>G.st p33 (.int .i64 n24) w.drew fun w34=>G.ptr last_18 fun p35=>G.st p35 (.int .i64 n30) w34 fun w36=>G.ptr first_17 fun p37=>G.cI .i64 p37 w36.drew fun n38=>G.ptr last_18 fun p39=>G.cI .i64 p39 w36.drew fun n40=>G.ptr first_17 fun p41=>G.st p41 (.int .i64 (if n24<n38 then n24 else n38)) w36.drew fun w42=>sameAt p39 1 w36.drew w42∧(G.ptr last_18 fun p43=>G.st p43 (.int .i64 (if n40<n30 then n30 else n40)) w42 fun w44=>G.ptr any_19 fun p45=>G.st p45 (.bool true) w44 fun w46=>Rr .normal w46)) (G.ptr first_17 fun p47=>G.cI .i64 p47 w.drew.drew fun n48=>G.ptr last_18 fun p49=>G.cI .i64 p49 w.drew.drew fun n50=>G.ptr first_17 fun p51=>G.st p51 (.int .i64 (if n24<n48 then n24 else n48)) w.drew.drew fun w52=>sameAt p49 1 w.drew.drew w52∧(G.ptr last_18 fun p53=>G.st p53 (.int .i64 (if n50<n30 then n30 else n50)) w52 fun w54=>G.ptr any_19 fun p55=>G.st p55 (.bool true) w54 fun w56=>Rr .normal w56))
theorem S7_ok (Rr:Exit→World→Prop) {ro:Option Nat}:OkT pr false ro 39 g7 (S7 Rr) (rbd (blk (tl 1 (s1 (tl 3 bd))))) (P6 Rr):=ok_last mixed FOk_ fun v ρ w=>by kernel_rfl
def B_R5 (first_12:Option Addr) (last_13:Option Addr) (any_14:Option Addr) (v15:Value) (v16:Value) (args:List Value) (wb:World) (bz:(World→Prop)→World→Prop) (Rr:Exit→World→Prop):Prop:=match args with
 | [.agg ⟨[.slice y_57_a y_57_n y_57_c,.slice y_58_a y_58_n y_58_c]⟩]=>G.new (.cells #[nilS.v,nilS.v] 57) wb fun p59 w60=>G.st p59 (⟨y_57_a,y_57_n,y_57_c⟩:Sl).v w60 fun w61=>G.st (p59.add 1) (⟨y_58_a,y_58_n,y_58_c⟩:Sl).v w61 fun w62=>bz (S7 Rr first_12 last_13 any_14 (some p59)) w62
 | _=>False
def O_R5 (K:KT) (first_12:Option Addr) (last_13:Option Addr) (any_14:Option Addr) (v15:Value) (v16:Value) (e:Exit) (D:Nat) (w:World):Prop:=match e with
 | .normal=>S2 K first_12 last_13 (pushMark v16 D) w
 | _=>False
def R5 (K:KT) (first_12:Option Addr) (last_13:Option Addr) (any_14:Option Addr) (v15:Value) (v16:Value) (w:World):Prop :=
 G.rangeW Fc v15 pr (B_R5 first_12 last_13 any_14 v15 v16) w (O_R5 K first_12 last_13 any_14 v15 v16)
theorem R5_ok:OkT pr true none 39 g5 (R5 (Kt Kv)) (blk (tl 1 (s1 (tl 3 bd)))) (P4 Kv):=by
 refine ok_rangeW mixed FOk_ FcOk (s:=11) (ps:=#[12]) (Bt:=fun v=>B_R5 v.1 v.2.1 v.2.2.1 v.2.2.2.1 v.2.2.2.2.1) (kB:=fun Rr=>S7 Rr) (sgB:=g7) (out:=fun v=>O_R5 (Kt Kv) v.1 v.2.1 v.2.2.1 v.2.2.2.1 v.2.2.2.2.1) (by kernel_rfl) (fun v ρ w=>by kernel_rfl) ?_ (fun Rr l=>S7_ok Rr) ?_
 ·intro v ρ args w bz Rr h
  have h':B_R5 v.1 v.2.1 v.2.2.1 v.2.2.2.1 v.2.2.2.2.1 args w bz Rr:=h
  unfold B_R5 at h'
  split at h'
  ·exact ⟨rfl,Eq.mp (by kernel_rfl) h'⟩
  ·exact h'.elim
 ·intro v ρ e D w h
  cases e with
  | normal=>exact Eq.mp (by kernel_rfl) h
  | _=>exact h.elim
theorem B8:OkT pr true none 39 g5 (R5 (Kt Kv)) (tl 1 (s1 (tl 3 bd))) (P3 Kv):=ok_block 0 (by kernel_rfl) (R5_ok Kv)
abbrev g9:List SE:=[.v 0 .ptr,.v 4 .ptr,.v 5 .ptr,.v 6 .ptr,.v 39 .raw]
def S9 (K:KT) (b_63:Option Addr) (first_64:Option Addr) (last_65:Option Addr) (any_66:Option Addr) (v67:Value) (w:World):Prop :=
 C.block_Block_All b_63 w fun v68 w69=>R5 K first_64 last_65 any_66 v68 v67 w69
theorem S9_ok:OkT pr true none 39 g9 (S9 (Kt Kv)) (s1 (tl 3 bd)) (P3 Kv):=ok_group mixed FOk_ 1 (B8 Kv) fun v ρ w=>by kernel_rfl
theorem Q10:OkT pr true none 39 g9 (S9 (Kt Kv)) (tl 3 bd) (P1 Kv):=ok_seq (by kernel_rfl) (S2_ok Kv) (S9_ok Kv)
end block_Block_Span
def block_Block_Span (b_3:Option Addr) (w:World) (K:block_Block_Span.KT):Prop :=
 G.new (.cells #[(.int .i64 0)] 2) w fun p70 w71=>G.new (.cells #[(.int .i64 0)] 2) w71 fun p72 w73=>G.st p70 (.int .i64 0) w73 fun w74=>G.st p72 (.int .i64 0) w74 fun w75=>G.new (.cells #[(.bool false)] 4) w75 fun p76 w77=>G.st p76 (.bool false) w77 fun w78=>block_Block_Span.S9 K b_3 (some p70) (some p72) (some p76) undef w78
def block_Block_Span.cl:CL:=fun args K w=>match args with
 | [.pointer x0]=>C.block_Block_Span x0 w (block_Block_Span.Kt K)
 | _=>False
theorem block_Block_Span.clok:OkC pr 50 block_Block_Span.cl:=by
 intro args K w h
 unfold block_Block_Span.cl at h
 split at h
 ·exact calls_group true mixed block_Block_Span.FOk_ block_Block_Span.fn rfl 3 (block_Block_Span.Q10 K) (Eq.mp (by kernel_rfl) h)
 ·exact h.elim
abbrev slices_Sort_string_string.KT:=World→Prop
def slices_Sort_string_string.Kt:slices_Sort_string_string.KT:=fun w=>Kv (.tuple #[]) w
def slices_Sort_string_string (x0:Sl) (w:World) (K:slices_Sort_string_string.KT):Prop:=Srt.sortS x0 w K
def slices_Sort_string_string.cl:CL:=fun args K w=>match args with
 | [.slice a n c]=>C.slices_Sort_string_string ⟨a,n,c⟩ w (slices_Sort_string_string.Kt K)
 | _=>False
theorem slices_Sort_string_string.clok:OkC pr 97 slices_Sort_string_string.cl:=by
 intro args K w h
 unfold slices_Sort_string_string.cl at h
 split at h
 ·exact Srt.sortS_ok h
 ·exact h.elim
namespace slices_Compact_string_string
abbrev KT:=Sl→World→Prop
def Kt:KT:=fun l1 w=>Kv l1.v w
noncomputable def bd:Code:=bdy Tryz.f98
theorem fn:FnOk pr 98 61 Tryz.f98:=⟨Tryz.func98,by kernel_rfl,Tryz.ntmps98,by kernel_rfl,by kernel_rfl⟩
def F:Clee:=ofL []
theorem FOk_:FOk pr F:=FOk_nil
def P1:Post:=bodyK false pr 61 Tryz.f98 Kv
abbrev g2:List SE:=[.v 0 .sl]
def S2 (K:KT) (s_3:Sl) (w:World):Prop :=
 K s_3 w
theorem S2_ok:OkT pr false none 61 g2 (S2 (Kt Kv)) (s2 (tl 2 bd)) (P1 Kv):=ok_last mixed FOk_ fun v ρ w=>by kernel_rfl
def P3:Post:=next (get g2 (S2 (Kt Kv))) (P1 Kv)
def P4:Post:=inBlock 0 (P3 Kv)
abbrev g5:List SE:=[.v 0 .sl,.v 3 (.int .i64)]
def P6 (kc5:Cur g5):Post:=next (get g5 kc5) (P4 Kv)
def S7 (K:KT) (kc5:Cur g5) (s_6:Sl) (k_7:Int) (w:World):Prop :=
 kc5 s_6 (IntKind.i64.wrap (k_7+1)) w
theorem S7_ok (kc5:Cur g5):OkT pr false none 61 g5 (S7 (Kt Kv) kc5) (s2 (tl 1 (lp (blk (tl 1 (s1 (tl 2 bd))))))) (P6 Kv kc5):=ok_last mixed FOk_ fun v ρ w=>by kernel_rfl
def P8 (kc5:Cur g5):Post:=next (get g5 (S7 (Kt Kv) kc5)) (P6 Kv kc5)
def P9 (kc5:Cur g5):Post:=inBlock 1 (P8 Kv kc5)
def S10 (K:KT) (kc5:Cur g5) (s_8:Sl) (k_9:Int) (w:World):Prop :=
 G.slc s_8 k_9 ((s_8.n:Nat):Int) 1 fun l10=>G.run pr (Builtin.clear_ #[42] 0 #[l10.v]) w fun v11 w12=>G.slc s_8 0 k_9 1 fun l13=>K l13 w12
theorem S10_ok (kc5:Cur g5):OkT pr false none 61 g5 (S10 (Kt Kv) kc5) (s2 (tl 1 (c1 (tl 1 (blk (s1 (tl 1 (lp (blk (tl 1 (s1 (tl 2 bd)))))))))))) (P9 Kv kc5):=ok_last mixed FOk_ fun v ρ w=>by kernel_rfl
def P11 (kc5:Cur g5):Post:=next (get g5 (S10 (Kt Kv) kc5)) (P9 Kv kc5)
def P12 (kc5:Cur g5):Post:=inBlock 2 (P11 Kv kc5)
abbrev g13:List SE:=[.v 0 .sl,.v 3 (.int .i64),.v 4 .sl,.v 5 (.int .i64)]
def P14 (kc5:Cur g5) (kc13:Cur g13):Post:=next (get g13 kc13) (P12 Kv kc5)
def S15 (K:KT) (kc5:Cur g5) (kc13:Cur g13) (s_22:Sl) (k_23:Int) (s2_24:Sl) (k2_25:Int) (w:World):Prop :=
 G.cond (decide (k2_25<((s2_24.n:Nat):Int))) (G.ix s2_24.a s2_24.n k2_25 1 fun p26=>G.cS p26 w.drew fun s27=>G.ix s2_24.a s2_24.n (IntKind.i64.wrap (k2_25-1)) 1 fun p28=>G.cS p28 w.drew fun s29=>G.cond (!(s27.toList==s29.toList)) (G.ix s2_24.a s2_24.n k2_25 1 fun p30=>G.cS p30 w.drew fun s31=>G.ix s_22.a s_22.n k_23 1 fun p32=>G.st p32 (.string s31) w.drew fun w33=>kc13 s_22 (IntKind.i64.wrap (k_23+1)) s2_24 (IntKind.i64.wrap (k2_25+1)) w33) (kc13 s_22 k_23 s2_24 (IntKind.i64.wrap (k2_25+1)) w.drew)) (S10 K kc5 s_22 k_23 w)
theorem S15_ok (kc5:Cur g5) (kc13:Cur g13):OkT pr false none 61 g13 (S15 (Kt Kv) kc5 kc13) (lp (blk (tl 1 (s1 (tl 1 (c1 (tl 1 (blk (s1 (tl 1 (lp (blk (tl 1 (s1 (tl 2 bd))))))))))))))) (P14 Kv kc5 kc13):=ok_last mixed FOk_ fun v ρ w=>by kernel_rfl
def L13 (K:KT) (kc5:Cur g5):Cur g13:=loopC g13 (S15 K kc5)
theorem L13_ok (kc5:Cur g5):OkT pr false none 61 g13 (L13 (Kt Kv) kc5) (blk (tl 1 (s1 (tl 1 (c1 (tl 1 (blk (s1 (tl 1 (lp (blk (tl 1 (s1 (tl 2 bd)))))))))))))) (P12 Kv kc5):=ok_loop (B:=S15 (Kt Kv) kc5) (by kernel_rfl) fun kc=>S15_ok Kv kc5 kc
theorem L13_ind {K:KT} {kc5:Cur g5} {s_14:Sl} {k_15:Int} {s2_16:Sl} {k2_17:Int} {w:World} (h:∀ X:Cur g13,(∀ s_14 k_15 s2_16 k2_17 w,S15 K kc5 X s_14 k_15 s2_16 k2_17 w→X s_14 k_15 s2_16 k2_17 w)→X s_14 k_15 s2_16 k2_17 w):L13 K kc5 s_14 k_15 s2_16 k2_17 w:=fun X hX=>h X fun s_14 k_15 s2_16 k2_17 w hb=>hX (s_14,k_15,s2_16,k2_17,()) w hb
theorem B16 (kc5:Cur g5):OkT pr false none 61 g13 (L13 (Kt Kv) kc5) (tl 1 (s1 (tl 1 (c1 (tl 1 (blk (s1 (tl 1 (lp (blk (tl 1 (s1 (tl 2 bd))))))))))))) (P11 Kv kc5):=ok_block 2 (by kernel_rfl) (L13_ok Kv kc5)
abbrev g17:List SE:=[.v 0 .sl,.v 3 (.int .i64),.v 4 .sl]
def S17 (K:KT) (kc5:Cur g5) (s_34:Sl) (k_35:Int) (s2_36:Sl) (w:World):Prop :=
 L13 K kc5 s_34 k_35 s2_36 1 w
theorem S17_ok (kc5:Cur g5):OkT pr false none 61 g17 (S17 (Kt Kv) kc5) (s1 (tl 1 (c1 (tl 1 (blk (s1 (tl 1 (lp (blk (tl 1 (s1 (tl 2 bd)))))))))))) (P11 Kv kc5):=ok_group mixed FOk_ 1 (B16 Kv kc5) fun v ρ w=>by kernel_rfl
theorem Q18 (kc5:Cur g5):OkT pr false none 61 g17 (S17 (Kt Kv) kc5) (tl 1 (c1 (tl 1 (blk (s1 (tl 1 (lp (blk (tl 1 (s1 (tl 2 bd))))))))))) (P9 Kv kc5):=ok_seq (by kernel_rfl) (S10_ok Kv kc5) (S17_ok Kv kc5)
abbrev g19:List SE:=[.v 0 .sl,.v 3 (.int .i64),.v 25 .bool]
def S19 (K:KT) (kc5:Cur g5) (s_37:Sl) (k_38:Int) (b39:Bool) (w:World):Prop :=
 G.slc s_37 k_38 ((s_37.n:Nat):Int) 1 fun l40=>S17 K kc5 s_37 k_38 l40 w
theorem S19_ok (kc5:Cur g5):OkT pr false none 61 g19 (S19 (Kt Kv) kc5) (c1 (tl 1 (blk (s1 (tl 1 (lp (blk (tl 1 (s1 (tl 2 bd)))))))))) (P9 Kv kc5):=ok_group mixed FOk_ 1 (Q18 Kv kc5) fun v ρ w=>by kernel_rfl
def S20 (K:KT) (kc5:Cur g5) (s_41:Sl) (k_42:Int) (b43:Bool) (w:World):Prop :=
 S7 K kc5 s_41 k_42 w
theorem S20_ok (kc5:Cur g5):OkT pr false none 61 g19 (S20 (Kt Kv) kc5) (c2 (tl 1 (blk (s1 (tl 1 (lp (blk (tl 1 (s1 (tl 2 bd)))))))))) (P9 Kv kc5):=ok_last mixed FOk_ fun v ρ w=>by kernel_rfl
def D21 (K:KT) (kc5:Cur g5) (s_44:Sl) (k_45:Int) (b46:Bool) (w:World):Prop :=
 G.cond b46 (S19 K kc5 s_44 k_45 b46 w) (S20 K kc5 s_44 k_45 b46 w)
theorem D21_ok (kc5:Cur g5):OkT pr false none 61 g19 (D21 (Kt Kv) kc5) (tl 1 (blk (s1 (tl 1 (lp (blk (tl 1 (s1 (tl 2 bd))))))))) (P9 Kv kc5) :=
 ok_cond 25 (fun v=>v.2.2.1) (by kernel_rfl) (fun v ρ=>by kernel_rfl) (fun v w=>by kernel_rfl) (S19_ok Kv kc5) (S20_ok Kv kc5)
def S22 (K:KT) (kc5:Cur g5) (s_47:Sl) (k_48:Int) (w:World):Prop :=
 G.ix s_47.a s_47.n k_48 1 fun p49=>G.cS p49 w.drew fun s50=>G.ix s_47.a s_47.n (IntKind.i64.wrap (k_48-1)) 1 fun p51=>G.cS p51 w.drew fun s52=>D21 K kc5 s_47 k_48 (s50.toList==s52.toList) w.drew
theorem S22_ok (kc5:Cur g5):OkT pr false none 61 g5 (S22 (Kt Kv) kc5) (blk (s1 (tl 1 (lp (blk (tl 1 (s1 (tl 2 bd)))))))) (P9 Kv kc5):=ok_group mixed FOk_ 1 (D21_ok Kv kc5) fun v ρ w=>by kernel_rfl
theorem B23 (kc5:Cur g5):OkT pr false none 61 g5 (S22 (Kt Kv) kc5) (s1 (tl 1 (lp (blk (tl 1 (s1 (tl 2 bd))))))) (P8 Kv kc5):=ok_block 1 (by kernel_rfl) (S22_ok Kv kc5)
theorem Q24 (kc5:Cur g5):OkT pr false none 61 g5 (S22 (Kt Kv) kc5) (tl 1 (lp (blk (tl 1 (s1 (tl 2 bd)))))) (P6 Kv kc5):=ok_seq (by kernel_rfl) (S7_ok Kv kc5) (B23 Kv kc5)
def S25 (K:KT) (kc5:Cur g5) (s_53:Sl) (k_54:Int) (w:World):Prop :=
 G.cond (decide (k_54<((s_53.n:Nat):Int))) (S22 K kc5 s_53 k_54 w) (S2 K s_53 w)
theorem S25_ok (kc5:Cur g5):OkT pr false none 61 g5 (S25 (Kt Kv) kc5) (lp (blk (tl 1 (s1 (tl 2 bd))))) (P6 Kv kc5):=ok_group mixed FOk_ 1 (Q24 Kv kc5) fun v ρ w=>by kernel_rfl
def L5 (K:KT):Cur g5:=loopC g5 (S25 K)
theorem L5_ok:OkT pr false none 61 g5 (L5 (Kt Kv)) (blk (tl 1 (s1 (tl 2 bd)))) (P4 Kv):=ok_loop (B:=S25 (Kt Kv)) (by kernel_rfl) fun kc=>S25_ok Kv kc
theorem L5_ind {K:KT} {s_4:Sl} {k_5:Int} {w:World} (h:∀ X:Cur g5,(∀ s_4 k_5 w,S25 K X s_4 k_5 w→X s_4 k_5 w)→X s_4 k_5 w):L5 K s_4 k_5 w:=fun X hX=>h X fun s_4 k_5 w hb=>hX (s_4,k_5,()) w hb
theorem B26:OkT pr false none 61 g5 (L5 (Kt Kv)) (tl 1 (s1 (tl 2 bd))) (P3 Kv):=ok_block 0 (by kernel_rfl) (L5_ok Kv)
def S27 (K:KT) (s_55:Sl) (w:World):Prop :=
 L5 K s_55 1 w
theorem S27_ok:OkT pr false none 61 g2 (S27 (Kt Kv)) (s1 (tl 2 bd)) (P3 Kv):=ok_group mixed FOk_ 1 (B26 Kv) fun v ρ w=>by kernel_rfl
theorem Q28:OkT pr false none 61 g2 (S27 (Kt Kv)) (tl 2 bd) (P1 Kv):=ok_seq (by kernel_rfl) (S2_ok Kv) (S27_ok Kv)
end slices_Compact_string_string
def slices_Compact_string_string (s_2:Sl) (w:World) (K:slices_Compact_string_string.KT):Prop :=
 G.cond (decide (((s_2.n:Nat):Int)<2)) (K s_2 w) (slices_Compact_string_string.S27 K s_2 w)
def slices_Compact_string_string.cl:CL:=fun args K w=>match args with
 | [.slice x0_a x0_n x0_c]=>C.slices_Compact_string_string ⟨x0_a,x0_n,x0_c⟩ w (slices_Compact_string_string.Kt K)
 | _=>False
theorem slices_Compact_string_string.clok:OkC pr 98 slices_Compact_string_string.cl:=by
 intro args K w h
 unfold slices_Compact_string_string.cl at h
 split at h
 ·exact calls_group false mixed slices_Compact_string_string.FOk_ slices_Compact_string_string.fn rfl 2 (slices_Compact_string_string.Q28 K) (Eq.mp (by kernel_rfl) h)
 ·exact h.elim
namespace block_unique
abbrev KT:=Sl→World→Prop
def Kt:KT:=fun l1 w=>Kv l1.v w
noncomputable def bd:Code:=bdy Tryz.f59
theorem fn:FnOk pr 59 7 Tryz.f59:=⟨Tryz.func59,by kernel_rfl,Tryz.ntmps59,by kernel_rfl,by kernel_rfl⟩
def F:Clee:=ofL [(97,C.slices_Sort_string_string.cl),(98,C.slices_Compact_string_string.cl)]
theorem FOk_:FOk pr F:=FOk_cons C.slices_Sort_string_string.clok (FOk_cons C.slices_Compact_string_string.clok (FOk_nil))
def P1:Post:=bodyK false pr 7 Tryz.f59 Kv
end block_unique
def block_unique (l_2:Sl) (w:World) (K:block_unique.KT):Prop :=
 C.slices_Sort_string_string l_2 w fun w3=>C.slices_Compact_string_string l_2 w3 fun l4 w5=>K l4 w5
def block_unique.cl:CL:=fun args K w=>match args with
 | [.slice x0_a x0_n x0_c]=>C.block_unique ⟨x0_a,x0_n,x0_c⟩ w (block_unique.Kt K)
 | _=>False
theorem block_unique.clok:OkC pr 59 block_unique.cl:=by
 intro args K w h
 unfold block_unique.cl at h
 split at h
 ·exact calls_last false mixed block_unique.FOk_ block_unique.fn rfl (Eq.mp (by kernel_rfl) h)
 ·exact h.elim
namespace block_Block_Names
abbrev KT:=Sl→World→Prop
def Kt:KT:=fun l1 w=>Kv l1.v w
noncomputable def bd:Code:=bdy Tryz.f51
theorem fn:FnOk pr 51 23 Tryz.f51:=⟨Tryz.func51,by kernel_rfl,Tryz.ntmps51,by kernel_rfl,by kernel_rfl⟩
def F:Clee:=ofL [(59,C.block_unique.cl)]
theorem FOk_:FOk pr F:=FOk_cons C.block_unique.clok (FOk_nil)
def P1:Post:=bodyK false pr 23 Tryz.f51 Kv
abbrev g2:List SE:=[.v 3 .sl]
def S2 (K:KT) (l_4:Sl) (w:World):Prop :=
 C.block_unique l_4 w fun l5 w6=>K l5 w6
theorem S2_ok:OkT pr false none 23 g2 (S2 (Kt Kv)) (s2 (tl 3 bd)) (P1 Kv):=ok_last mixed FOk_ fun v ρ w=>by kernel_rfl
def P3:Post:=next (get g2 (S2 (Kt Kv))) (P1 Kv)
def P4:Post:=inBlock 0 (P3 Kv)
abbrev g5:List SE:=[.v 3 .sl,.v 11 .ptr]
def P6 (kc5:Cur g5):Post:=next (get g5 kc5) (P4 Kv)
def S7 (K:KT) (kc5:Cur g5) (l_11:Sl) (p12:Option Addr) (w:World):Prop :=
 G.nxt pr (Instr.next (.pointer p12) false 0) w (fun w13=>S2 K l_11 w13) (fun k15 x16 w14=>G.ent pr (Instr.entry (.pointer p12)) w14 fun k17 x18=>G.ag k17 2 fun c19=>G.vS c19[0+0]? fun s20=>G.vS c19[0+1]? fun s21=>G.new (.cells #[(.string (⟨#[]⟩:ByteArray)),(.string (⟨#[]⟩:ByteArray))] 93) w14 fun p22 w23=>G.st p22 (.string s20) w23 fun w24=>G.st (p22.add 1) (.string s21) w24 fun w25=>G.cS p22 w25 fun s26=>G.new (.cells #[(.string s26)] 9) w25 fun p27 w28=>G.runSl pr (Builtin.append_ #[42,42] 42 #[l_11.v,(Sl.v (⟨some p27,1,1⟩:Sl))]) w28 fun l29 w30=>kc5 l29 p12 w30)
theorem S7_ok (kc5:Cur g5):OkT pr false none 23 g5 (S7 (Kt Kv) kc5) (lp (blk (tl 1 (s1 (tl 3 bd))))) (P6 Kv kc5):=ok_last mixed FOk_ fun v ρ w=>by kernel_rfl
def L5 (K:KT):Cur g5:=loopC g5 (S7 K)
theorem L5_ok:OkT pr false none 23 g5 (L5 (Kt Kv)) (blk (tl 1 (s1 (tl 3 bd)))) (P4 Kv):=ok_loop (B:=S7 (Kt Kv)) (by kernel_rfl) fun kc=>S7_ok Kv kc
theorem L5_ind {K:KT} {l_7:Sl} {p8:Option Addr} {w:World} (h:∀ X:Cur g5,(∀ l_7 p8 w,S7 K X l_7 p8 w→X l_7 p8 w)→X l_7 p8 w):L5 K l_7 p8 w:=fun X hX=>h X fun l_7 p8 w hb=>hX (l_7,p8,()) w hb
theorem B8:OkT pr false none 23 g5 (L5 (Kt Kv)) (tl 1 (s1 (tl 3 bd))) (P3 Kv):=ok_block 0 (by kernel_rfl) (L5_ok Kv)
abbrev g9:List SE:=[.v 0 .ptr,.v 3 .sl]
def S9 (K:KT) (b_31:Option Addr) (l_32:Sl) (w:World):Prop :=
 G.ptr b_31 fun p33=>G.cM (p33.add 2) w fun m34=>G.runP pr (Instr.range 82 (.map m34)) w fun p35 w36=>L5 K l_32 p35 w36
theorem S9_ok:OkT pr false none 23 g9 (S9 (Kt Kv)) (s1 (tl 3 bd)) (P3 Kv):=ok_group mixed FOk_ 1 (B8 Kv) fun v ρ w=>by kernel_rfl
theorem Q10:OkT pr false none 23 g9 (S9 (Kt Kv)) (tl 3 bd) (P1 Kv):=ok_seq (by kernel_rfl) (S2_ok Kv) (S9_ok Kv)
end block_Block_Names
def block_Block_Names (b_2:Option Addr) (w:World) (K:block_Block_Names.KT):Prop :=
 G.cond b_2.isNone (K nilS w) (block_Block_Names.S9 K b_2 nilS w)
def block_Block_Names.cl:CL:=fun args K w=>match args with
 | [.pointer x0]=>C.block_Block_Names x0 w (block_Block_Names.Kt K)
 | _=>False
theorem block_Block_Names.clok:OkC pr 51 block_Block_Names.cl:=by
 intro args K w h
 unfold block_Block_Names.cl at h
 split at h
 ·exact calls_group false mixed block_Block_Names.FOk_ block_Block_Names.fn rfl 3 (block_Block_Names.Q10 K) (Eq.mp (by kernel_rfl) h)
 ·exact h.elim
namespace tocsinref10_set
abbrev KT:=Sl→World→Prop
def Kt:KT:=fun l1 w=>Kv l1.v w
noncomputable def bd:Code:=bdy Tryz.f61
theorem fn:FnOk pr 61 63 Tryz.f61:=⟨Tryz.func61,by kernel_rfl,Tryz.ntmps61,by kernel_rfl,by kernel_rfl⟩
def F:Clee:=ofL []
theorem FOk_:FOk pr F:=FOk_nil
def P1:Post:=bodyK false pr 63 Tryz.f61 Kv
abbrev g2:List SE:=[.v 3 .sl]
def S2 (K:KT) (out_3:Sl) (w:World):Prop :=
 K out_3 w
theorem S2_ok:OkT pr false none 63 g2 (S2 (Kt Kv)) (s2 (tl 2 bd)) (P1 Kv):=ok_last mixed FOk_ fun v ρ w=>by kernel_rfl
def P3:Post:=next (get g2 (S2 (Kt Kv))) (P1 Kv)
def P4:Post:=inBlock 0 (P3 Kv)
abbrev g5:List SE:=[.v 3 .sl,.v 10 .sl,.v 11 (.int .i64),.v 12 (.int .i64)]
def P6 (kc5:Cur g5):Post:=next (get g5 kc5) (P4 Kv)
def S7 (K:KT) (kc5:Cur g5) (out_8:Sl) (l9:Sl) (n10:Int) (n11:Int) (w:World):Prop :=
 kc5 out_8 l9 n10 (IntKind.i64.wrap (n11+1)) w
theorem S7_ok (kc5:Cur g5):OkT pr false none 63 g5 (S7 (Kt Kv) kc5) (s2 (tl 2 (lp (blk (tl 1 (s1 (tl 2 bd))))))) (P6 Kv kc5):=ok_last mixed FOk_ fun v ρ w=>by kernel_rfl
def P8 (kc5:Cur g5):Post:=next (get g5 (S7 (Kt Kv) kc5)) (P6 Kv kc5)
def P9 (kc5:Cur g5):Post:=inBlock 1 (P8 Kv kc5)
abbrev g10:List SE:=[.v 3 .sl,.v 5 .str,.v 6 (.int .i64),.v 10 .sl,.v 11 (.int .i64),.v 12 (.int .i64)]
def S10 (K:KT) (kc5:Cur g5) (out_19:Sl) (s_20:ByteArray) (k_21:Int) (l22:Sl) (n23:Int) (n24:Int) (w:World):Prop :=
 G.ix out_19.a out_19.n k_21 1 fun p25=>G.st p25 (.string s_20) w fun w26=>S7 K kc5 out_19 l22 n23 n24 w26
theorem S10_ok (kc5:Cur g5):OkT pr false none 63 g10 (S10 (Kt Kv) kc5) (s2 (tl 2 (s2 (tl 3 (blk (s1 (tl 2 (lp (blk (tl 1 (s1 (tl 2 bd)))))))))))) (P9 Kv kc5):=ok_last mixed FOk_ fun v ρ w=>by kernel_rfl
def P11 (kc5:Cur g5):Post:=next (get g10 (S10 (Kt Kv) kc5)) (P9 Kv kc5)
def P12 (kc5:Cur g5):Post:=inBlock 4 (P11 Kv kc5)
def P14 (kc5:Cur g5) (kc13:Cur g10):Post:=next (get g10 kc13) (P12 Kv kc5)
def S15 (K:KT) (kc5:Cur g5) (kc13:Cur g10) (out_39:Sl) (s_40:ByteArray) (k_41:Int) (l42:Sl) (n43:Int) (n44:Int) (w:World):Prop :=
 G.cond (decide (k_41 > 0)) (G.ix out_39.a out_39.n (IntKind.i64.wrap (k_41-1)) 1 fun p45=>G.cS p45 w fun s46=>G.cond (!((Op.bytesLess s46.toList s_40.toList) || (s46.toList==s_40.toList))) (G.ix out_39.a out_39.n (IntKind.i64.wrap (k_41-1)) 1 fun p47=>G.cS p47 w fun s48=>G.ix out_39.a out_39.n k_41 1 fun p49=>G.st p49 (.string s48) w fun w50=>kc13 out_39 s_40 (IntKind.i64.wrap (k_41-1)) l42 n43 n44 w50) (S10 K kc5 out_39 s_40 k_41 l42 n43 n44 w)) (S10 K kc5 out_39 s_40 k_41 l42 n43 n44 w)
theorem S15_ok (kc5:Cur g5) (kc13:Cur g10):OkT pr false none 63 g10 (S15 (Kt Kv) kc5 kc13) (lp (blk (s1 (tl 2 (s2 (tl 3 (blk (s1 (tl 2 (lp (blk (tl 1 (s1 (tl 2 bd)))))))))))))) (P14 Kv kc5 kc13):=ok_last mixed FOk_ fun v ρ w=>by kernel_rfl
def L13 (K:KT) (kc5:Cur g5):Cur g10:=loopC g10 (S15 K kc5)
theorem L13_ok (kc5:Cur g5):OkT pr false none 63 g10 (L13 (Kt Kv) kc5) (blk (s1 (tl 2 (s2 (tl 3 (blk (s1 (tl 2 (lp (blk (tl 1 (s1 (tl 2 bd))))))))))))) (P12 Kv kc5):=ok_loop (B:=S15 (Kt Kv) kc5) (by kernel_rfl) fun kc=>S15_ok Kv kc5 kc
theorem L13_ind {K:KT} {kc5:Cur g5} {out_27:Sl} {s_28:ByteArray} {k_29:Int} {l30:Sl} {n31:Int} {n32:Int} {w:World} (h:∀ X:Cur g10,(∀ out_27 s_28 k_29 l30 n31 n32 w,S15 K kc5 X out_27 s_28 k_29 l30 n31 n32 w→X out_27 s_28 k_29 l30 n31 n32 w)→X out_27 s_28 k_29 l30 n31 n32 w):L13 K kc5 out_27 s_28 k_29 l30 n31 n32 w:=fun X hX=>h X fun out_27 s_28 k_29 l30 n31 n32 w hb=>hX (out_27,s_28,k_29,l30,n31,n32,()) w hb
theorem B16 (kc5:Cur g5):OkT pr false none 63 g10 (L13 (Kt Kv) kc5) (s1 (tl 2 (s2 (tl 3 (blk (s1 (tl 2 (lp (blk (tl 1 (s1 (tl 2 bd)))))))))))) (P11 Kv kc5):=ok_block 4 (by kernel_rfl) (L13_ok Kv kc5)
theorem Q17 (kc5:Cur g5):OkT pr false none 63 g10 (L13 (Kt Kv) kc5) (tl 2 (s2 (tl 3 (blk (s1 (tl 2 (lp (blk (tl 1 (s1 (tl 2 bd))))))))))) (P9 Kv kc5):=ok_seq (by kernel_rfl) (S10_ok Kv kc5) (B16 Kv kc5)
abbrev g18:List SE:=[.v 3 .sl,.v 5 .str,.v 6 (.int .i64),.v 7 .bool,.v 10 .sl,.v 11 (.int .i64),.v 12 (.int .i64)]
def S18 (K:KT) (kc5:Cur g5) (out_51:Sl) (s_52:ByteArray) (k_53:Int) (met_54:Bool) (l55:Sl) (n56:Int) (n57:Int) (w:World):Prop :=
 G.cond met_54 (S7 K kc5 out_51 l55 n56 n57 w) (G.new (.cells #[(.string s_52)] 9) w fun p58 w59=>G.runSl pr (Builtin.append_ #[42,42] 42 #[out_51.v,(Sl.v (⟨some p58,1,1⟩:Sl))]) w59 fun l60 w61=>L13 K kc5 l60 s_52 k_53 l55 n56 n57 w61)
theorem S18_ok (kc5:Cur g5):OkT pr false none 63 g18 (S18 (Kt Kv) kc5) (s2 (tl 3 (blk (s1 (tl 2 (lp (blk (tl 1 (s1 (tl 2 bd)))))))))) (P9 Kv kc5):=ok_group mixed FOk_ 2 (Q17 Kv kc5) fun v ρ w=>by kernel_rfl
def P19 (kc5:Cur g5):Post:=next (get g18 (S18 (Kt Kv) kc5)) (P9 Kv kc5)
def P20 (kc5:Cur g5):Post:=inBlock 2 (P19 Kv kc5)
abbrev g21:List SE:=[.v 3 .sl,.v 5 .str,.v 6 (.int .i64),.v 7 .bool,.v 10 .sl,.v 11 (.int .i64),.v 12 (.int .i64),.v 18 .sl,.v 19 (.int .i64),.v 20 (.int .i64)]
def P22 (kc5:Cur g5) (kc21:Cur g21):Post:=next (get g21 kc21) (P20 Kv kc5)
def S23 (K:KT) (kc5:Cur g5) (kc21:Cur g21) (out_82:Sl) (s_83:ByteArray) (k_84:Int) (met_85:Bool) (l86:Sl) (n87:Int) (n88:Int) (l89:Sl) (n90:Int) (n91:Int) (w:World):Prop :=
 G.cond (decide (n91<n90)) (G.ix l89.a l89.n n91 1 fun p92=>G.cS p92 w fun s93=>G.cond met_85 (kc21 out_82 s_83 k_84 true l86 n87 n88 l89 n90 (IntKind.i64.wrap (n91+1)) w) (kc21 out_82 s_83 k_84 (s93.toList==s_83.toList) l86 n87 n88 l89 n90 (IntKind.i64.wrap (n91+1)) w)) (S18 K kc5 out_82 s_83 k_84 met_85 l86 n87 n88 w)
theorem S23_ok (kc5:Cur g5) (kc21:Cur g21):OkT pr false none 63 g21 (S23 (Kt Kv) kc5 kc21) (lp (blk (tl 1 (s1 (tl 3 (blk (s1 (tl 2 (lp (blk (tl 1 (s1 (tl 2 bd))))))))))))) (P22 Kv kc5 kc21):=ok_last mixed FOk_ fun v ρ w=>by kernel_rfl
def L21 (K:KT) (kc5:Cur g5):Cur g21:=loopC g21 (S23 K kc5)
theorem L21_ok (kc5:Cur g5):OkT pr false none 63 g21 (L21 (Kt Kv) kc5) (blk (tl 1 (s1 (tl 3 (blk (s1 (tl 2 (lp (blk (tl 1 (s1 (tl 2 bd)))))))))))) (P20 Kv kc5):=ok_loop (B:=S23 (Kt Kv) kc5) (by kernel_rfl) fun kc=>S23_ok Kv kc5 kc
theorem L21_ind {K:KT} {kc5:Cur g5} {out_62:Sl} {s_63:ByteArray} {k_64:Int} {met_65:Bool} {l66:Sl} {n67:Int} {n68:Int} {l69:Sl} {n70:Int} {n71:Int} {w:World} (h:∀ X:Cur g21,(∀ out_62 s_63 k_64 met_65 l66 n67 n68 l69 n70 n71 w,S23 K kc5 X out_62 s_63 k_64 met_65 l66 n67 n68 l69 n70 n71 w→X out_62 s_63 k_64 met_65 l66 n67 n68 l69 n70 n71 w)→X out_62 s_63 k_64 met_65 l66 n67 n68 l69 n70 n71 w):L21 K kc5 out_62 s_63 k_64 met_65 l66 n67 n68 l69 n70 n71 w:=fun X hX=>h X fun out_62 s_63 k_64 met_65 l66 n67 n68 l69 n70 n71 w hb=>hX (out_62,s_63,k_64,met_65,l66,n67,n68,l69,n70,n71,()) w hb
theorem B24 (kc5:Cur g5):OkT pr false none 63 g21 (L21 (Kt Kv) kc5) (tl 1 (s1 (tl 3 (blk (s1 (tl 2 (lp (blk (tl 1 (s1 (tl 2 bd))))))))))) (P19 Kv kc5):=ok_block 2 (by kernel_rfl) (L21_ok Kv kc5)
def S25 (K:KT) (kc5:Cur g5) (out_94:Sl) (s_95:ByteArray) (k_96:Int) (met_97:Bool) (l98:Sl) (n99:Int) (n100:Int) (w:World):Prop :=
 L21 K kc5 out_94 s_95 k_96 met_97 l98 n99 n100 out_94 ((out_94.n:Nat):Int) 0 w
theorem S25_ok (kc5:Cur g5):OkT pr false none 63 g18 (S25 (Kt Kv) kc5) (s1 (tl 3 (blk (s1 (tl 2 (lp (blk (tl 1 (s1 (tl 2 bd)))))))))) (P19 Kv kc5):=ok_group mixed FOk_ 1 (B24 Kv kc5) fun v ρ w=>by kernel_rfl
theorem Q26 (kc5:Cur g5):OkT pr false none 63 g18 (S25 (Kt Kv) kc5) (tl 3 (blk (s1 (tl 2 (lp (blk (tl 1 (s1 (tl 2 bd))))))))) (P9 Kv kc5):=ok_seq (by kernel_rfl) (S18_ok Kv kc5) (S25_ok Kv kc5)
def S27 (K:KT) (kc5:Cur g5) (out_101:Sl) (l102:Sl) (n103:Int) (n104:Int) (w:World):Prop :=
 G.ix l102.a l102.n n104 1 fun p105=>G.cS p105 w fun s106=>S25 K kc5 out_101 s106 ((out_101.n:Nat):Int) false l102 n103 n104 w
theorem S27_ok (kc5:Cur g5):OkT pr false none 63 g5 (S27 (Kt Kv) kc5) (blk (s1 (tl 2 (lp (blk (tl 1 (s1 (tl 2 bd)))))))) (P9 Kv kc5):=ok_group mixed FOk_ 3 (Q26 Kv kc5) fun v ρ w=>by kernel_rfl
theorem B28 (kc5:Cur g5):OkT pr false none 63 g5 (S27 (Kt Kv) kc5) (s1 (tl 2 (lp (blk (tl 1 (s1 (tl 2 bd))))))) (P8 Kv kc5):=ok_block 1 (by kernel_rfl) (S27_ok Kv kc5)
theorem Q29 (kc5:Cur g5):OkT pr false none 63 g5 (S27 (Kt Kv) kc5) (tl 2 (lp (blk (tl 1 (s1 (tl 2 bd)))))) (P6 Kv kc5):=ok_seq (by kernel_rfl) (S7_ok Kv kc5) (B28 Kv kc5)
def S30 (K:KT) (kc5:Cur g5) (out_107:Sl) (l108:Sl) (n109:Int) (n110:Int) (w:World):Prop :=
 G.cond (decide (n110<n109)) (S27 K kc5 out_107 l108 n109 n110 w) (S2 K out_107 w)
theorem S30_ok (kc5:Cur g5):OkT pr false none 63 g5 (S30 (Kt Kv) kc5) (lp (blk (tl 1 (s1 (tl 2 bd))))) (P6 Kv kc5):=ok_group mixed FOk_ 2 (Q29 Kv kc5) fun v ρ w=>by kernel_rfl
def L5 (K:KT):Cur g5:=loopC g5 (S30 K)
theorem L5_ok:OkT pr false none 63 g5 (L5 (Kt Kv)) (blk (tl 1 (s1 (tl 2 bd)))) (P4 Kv):=ok_loop (B:=S30 (Kt Kv)) (by kernel_rfl) fun kc=>S30_ok Kv kc
theorem L5_ind {K:KT} {out_4:Sl} {l5:Sl} {n6:Int} {n7:Int} {w:World} (h:∀ X:Cur g5,(∀ out_4 l5 n6 n7 w,S30 K X out_4 l5 n6 n7 w→X out_4 l5 n6 n7 w)→X out_4 l5 n6 n7 w):L5 K out_4 l5 n6 n7 w:=fun X hX=>h X fun out_4 l5 n6 n7 w hb=>hX (out_4,l5,n6,n7,()) w hb
theorem B31:OkT pr false none 63 g5 (L5 (Kt Kv)) (tl 1 (s1 (tl 2 bd))) (P3 Kv):=ok_block 0 (by kernel_rfl) (L5_ok Kv)
abbrev g32:List SE:=[.v 0 .sl,.v 3 .sl]
def S32 (K:KT) (l_111:Sl) (out_112:Sl) (w:World):Prop :=
 L5 K out_112 l_111 ((l_111.n:Nat):Int) 0 w
theorem S32_ok:OkT pr false none 63 g32 (S32 (Kt Kv)) (s1 (tl 2 bd)) (P3 Kv):=ok_group mixed FOk_ 1 (B31 Kv) fun v ρ w=>by kernel_rfl
theorem Q33:OkT pr false none 63 g32 (S32 (Kt Kv)) (tl 2 bd) (P1 Kv):=ok_seq (by kernel_rfl) (S2_ok Kv) (S32_ok Kv)
end tocsinref10_set
def tocsinref10_set (l_2:Sl) (w:World) (K:tocsinref10_set.KT):Prop :=
 tocsinref10_set.S32 K l_2 nilS w
def tocsinref10_set.cl:CL:=fun args K w=>match args with
 | [.slice x0_a x0_n x0_c]=>C.tocsinref10_set ⟨x0_a,x0_n,x0_c⟩ w (tocsinref10_set.Kt K)
 | _=>False
theorem tocsinref10_set.clok:OkC pr 61 tocsinref10_set.cl:=by
 intro args K w h
 unfold tocsinref10_set.cl at h
 split at h
 ·exact calls_group false mixed tocsinref10_set.FOk_ tocsinref10_set.fn rfl 2 (tocsinref10_set.Q33 K) (Eq.mp (by kernel_rfl) h)
 ·exact h.elim
namespace tocsinref10_Names
abbrev KT:=Sl→World→Prop
def Kt:KT:=fun l1 w=>Kv l1.v w
noncomputable def bd:Code:=bdy Tryz.f52
theorem fn:FnOk pr 52 30 Tryz.f52:=⟨Tryz.func52,by kernel_rfl,Tryz.ntmps52,by kernel_rfl,by kernel_rfl⟩
def F:Clee:=ofL [(61,C.tocsinref10_set.cl)]
theorem FOk_:FOk pr F:=FOk_cons C.tocsinref10_set.clok (FOk_nil)
def P1:Post:=bodyK false pr 30 Tryz.f52 Kv
abbrev g2:List SE:=[.v 3 .sl]
def S2 (K:KT) (out_3:Sl) (w:World):Prop :=
 C.tocsinref10_set out_3 w fun l4 w5=>K l4 w5
theorem S2_ok:OkT pr false none 30 g2 (S2 (Kt Kv)) (s2 (tl 2 bd)) (P1 Kv):=ok_last mixed FOk_ fun v ρ w=>by kernel_rfl
def P3:Post:=next (get g2 (S2 (Kt Kv))) (P1 Kv)
def P4:Post:=inBlock 0 (P3 Kv)
abbrev g5:List SE:=[.v 3 .sl,.v 8 .sl,.v 9 (.int .i64),.v 10 (.int .i64)]
def P6 (kc5:Cur g5):Post:=next (get g5 kc5) (P4 Kv)
def S7 (K:KT) (kc5:Cur g5) (out_10:Sl) (l11:Sl) (n12:Int) (n13:Int) (w:World):Prop :=
 kc5 out_10 l11 n12 (IntKind.i64.wrap (n13+1)) w
theorem S7_ok (kc5:Cur g5):OkT pr false none 30 g5 (S7 (Kt Kv) kc5) (s2 (tl 2 (lp (blk (tl 1 (s1 (tl 2 bd))))))) (P6 Kv kc5):=ok_last mixed FOk_ fun v ρ w=>by kernel_rfl
def P8 (kc5:Cur g5):Post:=next (get g5 (S7 (Kt Kv) kc5)) (P6 Kv kc5)
def P9 (kc5:Cur g5):Post:=inBlock 1 (P8 Kv kc5)
def P10 (kc5:Cur g5):Post:=inBlock 2 (P9 Kv kc5)
abbrev g11:List SE:=[.v 3 .sl,.v 8 .sl,.v 9 (.int .i64),.v 10 (.int .i64),.v 15 .sl,.v 16 (.int .i64),.v 17 (.int .i64)]
def P12 (kc5:Cur g5) (kc11:Cur g11):Post:=next (get g11 kc11) (P10 Kv kc5)
def S13 (K:KT) (kc5:Cur g5) (kc11:Cur g11) (out_28:Sl) (l29:Sl) (n30:Int) (n31:Int) (l32:Sl) (n33:Int) (n34:Int) (w:World):Prop :=
 G.cond (decide (n34<n33)) (G.ix l32.a l32.n n34 2 fun p35=>G.cS p35 w fun s36=>G.cS (p35.add 1) w fun s37=>G.new (.cells #[(.string (⟨#[]⟩:ByteArray)),(.string (⟨#[]⟩:ByteArray))] 93) w fun p38 w39=>G.st p38 (.string s36) w39 fun w40=>G.st (p38.add 1) (.string s37) w40 fun w41=>G.cS p38 w41 fun s42=>G.new (.cells #[(.string s42)] 9) w41 fun p43 w44=>G.runSl pr (Builtin.append_ #[42,42] 42 #[out_28.v,(Sl.v (⟨some p43,1,1⟩:Sl))]) w44 fun l45 w46=>kc11 l45 l29 n30 n31 l32 n33 (IntKind.i64.wrap (n34+1)) w46) (S7 K kc5 out_28 l29 n30 n31 w)
theorem S13_ok (kc5:Cur g5) (kc11:Cur g11):OkT pr false none 30 g11 (S13 (Kt Kv) kc5 kc11) (lp (blk (tl 2 (blk (s1 (tl 2 (lp (blk (tl 1 (s1 (tl 2 bd))))))))))) (P12 Kv kc5 kc11):=ok_last mixed FOk_ fun v ρ w=>by kernel_rfl
def L11 (K:KT) (kc5:Cur g5):Cur g11:=loopC g11 (S13 K kc5)
theorem L11_ok (kc5:Cur g5):OkT pr false none 30 g11 (L11 (Kt Kv) kc5) (blk (tl 2 (blk (s1 (tl 2 (lp (blk (tl 1 (s1 (tl 2 bd)))))))))) (P10 Kv kc5):=ok_loop (B:=S13 (Kt Kv) kc5) (by kernel_rfl) fun kc=>S13_ok Kv kc5 kc
theorem L11_ind {K:KT} {kc5:Cur g5} {out_14:Sl} {l15:Sl} {n16:Int} {n17:Int} {l18:Sl} {n19:Int} {n20:Int} {w:World} (h:∀ X:Cur g11,(∀ out_14 l15 n16 n17 l18 n19 n20 w,S13 K kc5 X out_14 l15 n16 n17 l18 n19 n20 w→X out_14 l15 n16 n17 l18 n19 n20 w)→X out_14 l15 n16 n17 l18 n19 n20 w):L11 K kc5 out_14 l15 n16 n17 l18 n19 n20 w:=fun X hX=>h X fun out_14 l15 n16 n17 l18 n19 n20 w hb=>hX (out_14,l15,n16,n17,l18,n19,n20,()) w hb
theorem B14 (kc5:Cur g5):OkT pr false none 30 g11 (L11 (Kt Kv) kc5) (tl 2 (blk (s1 (tl 2 (lp (blk (tl 1 (s1 (tl 2 bd))))))))) (P9 Kv kc5):=ok_block 2 (by kernel_rfl) (L11_ok Kv kc5)
def S15 (K:KT) (kc5:Cur g5) (out_47:Sl) (l48:Sl) (n49:Int) (n50:Int) (w:World):Prop :=
 G.ix l48.a l48.n n50 2 fun p51=>G.cSl p51 w fun l52=>G.cSl (p51.add 1) w fun l53=>G.new (.cells #[nilS.v,nilS.v] 57) w fun p54 w55=>G.st p54 l52.v w55 fun w56=>G.st (p54.add 1) l53.v w56 fun w57=>G.cSl p54 w57 fun l58=>L11 K kc5 out_47 l48 n49 n50 l58 ((l58.n:Nat):Int) 0 w57
theorem S15_ok (kc5:Cur g5):OkT pr false none 30 g5 (S15 (Kt Kv) kc5) (blk (s1 (tl 2 (lp (blk (tl 1 (s1 (tl 2 bd)))))))) (P9 Kv kc5):=ok_group mixed FOk_ 2 (B14 Kv kc5) fun v ρ w=>by kernel_rfl
theorem B16 (kc5:Cur g5):OkT pr false none 30 g5 (S15 (Kt Kv) kc5) (s1 (tl 2 (lp (blk (tl 1 (s1 (tl 2 bd))))))) (P8 Kv kc5):=ok_block 1 (by kernel_rfl) (S15_ok Kv kc5)
theorem Q17 (kc5:Cur g5):OkT pr false none 30 g5 (S15 (Kt Kv) kc5) (tl 2 (lp (blk (tl 1 (s1 (tl 2 bd)))))) (P6 Kv kc5):=ok_seq (by kernel_rfl) (S7_ok Kv kc5) (B16 Kv kc5)
def S18 (K:KT) (kc5:Cur g5) (out_59:Sl) (l60:Sl) (n61:Int) (n62:Int) (w:World):Prop :=
 G.cond (decide (n62<n61)) (S15 K kc5 out_59 l60 n61 n62 w) (S2 K out_59 w)
theorem S18_ok (kc5:Cur g5):OkT pr false none 30 g5 (S18 (Kt Kv) kc5) (lp (blk (tl 1 (s1 (tl 2 bd))))) (P6 Kv kc5):=ok_group mixed FOk_ 2 (Q17 Kv kc5) fun v ρ w=>by kernel_rfl
def L5 (K:KT):Cur g5:=loopC g5 (S18 K)
theorem L5_ok:OkT pr false none 30 g5 (L5 (Kt Kv)) (blk (tl 1 (s1 (tl 2 bd)))) (P4 Kv):=ok_loop (B:=S18 (Kt Kv)) (by kernel_rfl) fun kc=>S18_ok Kv kc
theorem L5_ind {K:KT} {out_6:Sl} {l7:Sl} {n8:Int} {n9:Int} {w:World} (h:∀ X:Cur g5,(∀ out_6 l7 n8 n9 w,S18 K X out_6 l7 n8 n9 w→X out_6 l7 n8 n9 w)→X out_6 l7 n8 n9 w):L5 K out_6 l7 n8 n9 w:=fun X hX=>h X fun out_6 l7 n8 n9 w hb=>hX (out_6,l7,n8,n9,()) w hb
theorem B19:OkT pr false none 30 g5 (L5 (Kt Kv)) (tl 1 (s1 (tl 2 bd))) (P3 Kv):=ok_block 0 (by kernel_rfl) (L5_ok Kv)
abbrev g20:List SE:=[.v 0 .sl,.v 3 .sl]
def S20 (K:KT) (l_63:Sl) (out_64:Sl) (w:World):Prop :=
 L5 K out_64 l_63 ((l_63.n:Nat):Int) 0 w
theorem S20_ok:OkT pr false none 30 g20 (S20 (Kt Kv)) (s1 (tl 2 bd)) (P3 Kv):=ok_group mixed FOk_ 1 (B19 Kv) fun v ρ w=>by kernel_rfl
theorem Q21:OkT pr false none 30 g20 (S20 (Kt Kv)) (tl 2 bd) (P1 Kv):=ok_seq (by kernel_rfl) (S2_ok Kv) (S20_ok Kv)
end tocsinref10_Names
def tocsinref10_Names (l_2:Sl) (w:World) (K:tocsinref10_Names.KT):Prop :=
 tocsinref10_Names.S20 K l_2 nilS w
def tocsinref10_Names.cl:CL:=fun args K w=>match args with
 | [.slice x0_a x0_n x0_c]=>C.tocsinref10_Names ⟨x0_a,x0_n,x0_c⟩ w (tocsinref10_Names.Kt K)
 | _=>False
theorem tocsinref10_Names.clok:OkC pr 52 tocsinref10_Names.cl:=by
 intro args K w h
 unfold tocsinref10_Names.cl at h
 split at h
 ·exact calls_group false mixed tocsinref10_Names.FOk_ tocsinref10_Names.fn rfl 2 (tocsinref10_Names.Q21 K) (Eq.mp (by kernel_rfl) h)
 ·exact h.elim
namespace tocsinlaw10_Spoil
abbrev KT:=World→Prop
def Kt:KT:=fun  w=>Kv (.tuple #[]) w
noncomputable def bd:Code:=bdy Tryz.f53
theorem fn:FnOk pr 53 47 Tryz.f53:=⟨Tryz.func53,by kernel_rfl,Tryz.ntmps53,by kernel_rfl,by kernel_rfl⟩
def F:Clee:=ofL []
theorem FOk_:FOk pr F:=FOk_nil
def P1:Post:=bodyK false pr 47 Tryz.f53 Kv
def P2:Post:=inBlock 0 (P1 Kv)
abbrev g3:List SE:=[.v 0 .sl,.v 6 (.int .i64),.v 7 (.int .i64)]
def P4 (kc3:Cur g3):Post:=next (get g3 kc3) (P2 Kv)
def S5 (K:KT) (kc3:Cur g3) (l_5:Sl) (n6:Int) (n7:Int) (w:World):Prop :=
 kc3 l_5 n6 (IntKind.i64.wrap (n7+1)) w
theorem S5_ok (kc3:Cur g3):OkT pr false none 47 g3 (S5 (Kt Kv) kc3) (s2 (tl 2 (lp (blk (tl 1 bd))))) (P4 Kv kc3):=ok_last mixed FOk_ fun v ρ w=>by kernel_rfl
def P6 (kc3:Cur g3):Post:=next (get g3 (S5 (Kt Kv) kc3)) (P4 Kv kc3)
def P7 (kc3:Cur g3):Post:=inBlock 1 (P6 Kv kc3)
def P8 (kc3:Cur g3):Post:=inBlock 4 (P7 Kv kc3)
abbrev g9:List SE:=[.v 0 .sl,.v 2 (.int .i64),.v 6 (.int .i64),.v 7 (.int .i64),.v 33 (.int .i64),.v 34 (.int .i64)]
def P10 (kc3:Cur g3) (kc9:Cur g9):Post:=next (get g9 kc9) (P8 Kv kc3)
def S11 (K:KT) (kc3:Cur g3) (kc9:Cur g9) (l_20:Sl) (i_21:Int) (n22:Int) (n23:Int) (n24:Int) (n25:Int) (w:World):Prop :=
 G.cond (decide (n25<n24)) (G.ix l_20.a l_20.n i_21 2 fun p26=>G.cSl (p26.add 1) w fun l27=>G.ix l27.a l27.n n25 2 fun p28=>G.st p28 (.int .i64 (-1:Int)) w fun w29=>G.st (p28.add 1) (.float .f64 0) w29 fun w30=>kc9 l_20 i_21 n22 n23 n24 (IntKind.i64.wrap (n25+1)) w30) (S5 K kc3 l_20 n22 n23 w)
theorem S11_ok (kc3:Cur g3) (kc9:Cur g9):OkT pr false none 47 g9 (S11 (Kt Kv) kc3 kc9) (lp (blk (tl 1 (s2 (tl 1 (blk (s1 (tl 2 (lp (blk (tl 1 bd))))))))))) (P10 Kv kc3 kc9):=ok_last mixed FOk_ fun v ρ w=>by kernel_rfl
def L9 (K:KT) (kc3:Cur g3):Cur g9:=loopC g9 (S11 K kc3)
theorem L9_ok (kc3:Cur g3):OkT pr false none 47 g9 (L9 (Kt Kv) kc3) (blk (tl 1 (s2 (tl 1 (blk (s1 (tl 2 (lp (blk (tl 1 bd)))))))))) (P8 Kv kc3):=ok_loop (B:=S11 (Kt Kv) kc3) (by kernel_rfl) fun kc=>S11_ok Kv kc3 kc
theorem L9_ind {K:KT} {kc3:Cur g3} {l_8:Sl} {i_9:Int} {n10:Int} {n11:Int} {n12:Int} {n13:Int} {w:World} (h:∀ X:Cur g9,(∀ l_8 i_9 n10 n11 n12 n13 w,S11 K kc3 X l_8 i_9 n10 n11 n12 n13 w→X l_8 i_9 n10 n11 n12 n13 w)→X l_8 i_9 n10 n11 n12 n13 w):L9 K kc3 l_8 i_9 n10 n11 n12 n13 w:=fun X hX=>h X fun l_8 i_9 n10 n11 n12 n13 w hb=>hX (l_8,i_9,n10,n11,n12,n13,()) w hb
theorem B12 (kc3:Cur g3):OkT pr false none 47 g9 (L9 (Kt Kv) kc3) (tl 1 (s2 (tl 1 (blk (s1 (tl 2 (lp (blk (tl 1 bd))))))))) (P7 Kv kc3):=ok_block 4 (by kernel_rfl) (L9_ok Kv kc3)
abbrev g13:List SE:=[.v 0 .sl,.v 2 (.int .i64),.v 6 (.int .i64),.v 7 (.int .i64)]
def S13 (K:KT) (kc3:Cur g3) (l_31:Sl) (i_32:Int) (n33:Int) (n34:Int) (w:World):Prop :=
 G.ix l_31.a l_31.n i_32 2 fun p35=>G.cSl (p35.add 1) w fun l36=>L9 K kc3 l_31 i_32 n33 n34 ((l36.n:Nat):Int) 0 w
theorem S13_ok (kc3:Cur g3):OkT pr false none 47 g13 (S13 (Kt Kv) kc3) (s2 (tl 1 (blk (s1 (tl 2 (lp (blk (tl 1 bd)))))))) (P7 Kv kc3):=ok_group mixed FOk_ 1 (B12 Kv kc3) fun v ρ w=>by kernel_rfl
def P14 (kc3:Cur g3):Post:=next (get g13 (S13 (Kt Kv) kc3)) (P7 Kv kc3)
def P15 (kc3:Cur g3):Post:=inBlock 2 (P14 Kv kc3)
abbrev g16:List SE:=[.v 0 .sl,.v 2 (.int .i64),.v 6 (.int .i64),.v 7 (.int .i64),.v 15 (.int .i64),.v 16 (.int .i64)]
def P17 (kc3:Cur g3) (kc16:Cur g16):Post:=next (get g16 kc16) (P15 Kv kc3)
def S18 (K:KT) (kc3:Cur g3) (kc16:Cur g16) (l_49:Sl) (i_50:Int) (n51:Int) (n52:Int) (n53:Int) (n54:Int) (w:World):Prop :=
 G.cond (decide (n54<n53)) (G.ix l_49.a l_49.n i_50 2 fun p55=>G.cSl p55 w fun l56=>G.ix l56.a l56.n n54 2 fun p57=>G.st p57 (.string (⟨#[115,112,111,105,108,116]⟩:ByteArray)) w fun w58=>G.st (p57.add 1) (.string (⟨#[]⟩:ByteArray)) w58 fun w59=>kc16 l_49 i_50 n51 n52 n53 (IntKind.i64.wrap (n54+1)) w59) (S13 K kc3 l_49 i_50 n51 n52 w)
theorem S18_ok (kc3:Cur g3) (kc16:Cur g16):OkT pr false none 47 g16 (S18 (Kt Kv) kc3 kc16) (lp (blk (tl 1 (s1 (tl 1 (blk (s1 (tl 2 (lp (blk (tl 1 bd))))))))))) (P17 Kv kc3 kc16):=ok_last mixed FOk_ fun v ρ w=>by kernel_rfl
def L16 (K:KT) (kc3:Cur g3):Cur g16:=loopC g16 (S18 K kc3)
theorem L16_ok (kc3:Cur g3):OkT pr false none 47 g16 (L16 (Kt Kv) kc3) (blk (tl 1 (s1 (tl 1 (blk (s1 (tl 2 (lp (blk (tl 1 bd)))))))))) (P15 Kv kc3):=ok_loop (B:=S18 (Kt Kv) kc3) (by kernel_rfl) fun kc=>S18_ok Kv kc3 kc
theorem L16_ind {K:KT} {kc3:Cur g3} {l_37:Sl} {i_38:Int} {n39:Int} {n40:Int} {n41:Int} {n42:Int} {w:World} (h:∀ X:Cur g16,(∀ l_37 i_38 n39 n40 n41 n42 w,S18 K kc3 X l_37 i_38 n39 n40 n41 n42 w→X l_37 i_38 n39 n40 n41 n42 w)→X l_37 i_38 n39 n40 n41 n42 w):L16 K kc3 l_37 i_38 n39 n40 n41 n42 w:=fun X hX=>h X fun l_37 i_38 n39 n40 n41 n42 w hb=>hX (l_37,i_38,n39,n40,n41,n42,()) w hb
theorem B19 (kc3:Cur g3):OkT pr false none 47 g16 (L16 (Kt Kv) kc3) (tl 1 (s1 (tl 1 (blk (s1 (tl 2 (lp (blk (tl 1 bd))))))))) (P14 Kv kc3):=ok_block 2 (by kernel_rfl) (L16_ok Kv kc3)
def S20 (K:KT) (kc3:Cur g3) (l_60:Sl) (i_61:Int) (n62:Int) (n63:Int) (w:World):Prop :=
 G.ix l_60.a l_60.n i_61 2 fun p64=>G.cSl p64 w fun l65=>L16 K kc3 l_60 i_61 n62 n63 ((l65.n:Nat):Int) 0 w
theorem S20_ok (kc3:Cur g3):OkT pr false none 47 g13 (S20 (Kt Kv) kc3) (s1 (tl 1 (blk (s1 (tl 2 (lp (blk (tl 1 bd)))))))) (P14 Kv kc3):=ok_group mixed FOk_ 1 (B19 Kv kc3) fun v ρ w=>by kernel_rfl
theorem Q21 (kc3:Cur g3):OkT pr false none 47 g13 (S20 (Kt Kv) kc3) (tl 1 (blk (s1 (tl 2 (lp (blk (tl 1 bd))))))) (P7 Kv kc3):=ok_seq (by kernel_rfl) (S13_ok Kv kc3) (S20_ok Kv kc3)
def S22 (K:KT) (kc3:Cur g3) (l_66:Sl) (n67:Int) (n68:Int) (w:World):Prop :=
 S20 K kc3 l_66 n68 n67 n68 w
theorem S22_ok (kc3:Cur g3):OkT pr false none 47 g3 (S22 (Kt Kv) kc3) (blk (s1 (tl 2 (lp (blk (tl 1 bd)))))) (P7 Kv kc3):=ok_group mixed FOk_ 1 (Q21 Kv kc3) fun v ρ w=>by kernel_rfl
theorem B23 (kc3:Cur g3):OkT pr false none 47 g3 (S22 (Kt Kv) kc3) (s1 (tl 2 (lp (blk (tl 1 bd))))) (P6 Kv kc3):=ok_block 1 (by kernel_rfl) (S22_ok Kv kc3)
theorem Q24 (kc3:Cur g3):OkT pr false none 47 g3 (S22 (Kt Kv) kc3) (tl 2 (lp (blk (tl 1 bd)))) (P4 Kv kc3):=ok_seq (by kernel_rfl) (S5_ok Kv kc3) (B23 Kv kc3)
def S25 (K:KT) (kc3:Cur g3) (l_69:Sl) (n70:Int) (n71:Int) (w:World):Prop :=
 G.cond (decide (n71<n70)) (S22 K kc3 l_69 n70 n71 w) (K w)
theorem S25_ok (kc3:Cur g3):OkT pr false none 47 g3 (S25 (Kt Kv) kc3) (lp (blk (tl 1 bd))) (P4 Kv kc3):=ok_group mixed FOk_ 2 (Q24 Kv kc3) fun v ρ w=>by kernel_rfl
def L3 (K:KT):Cur g3:=loopC g3 (S25 K)
theorem L3_ok:OkT pr false none 47 g3 (L3 (Kt Kv)) (blk (tl 1 bd)) (P2 Kv):=ok_loop (B:=S25 (Kt Kv)) (by kernel_rfl) fun kc=>S25_ok Kv kc
theorem L3_ind {K:KT} {l_2:Sl} {n3:Int} {n4:Int} {w:World} (h:∀ X:Cur g3,(∀ l_2 n3 n4 w,S25 K X l_2 n3 n4 w→X l_2 n3 n4 w)→X l_2 n3 n4 w):L3 K l_2 n3 n4 w:=fun X hX=>h X fun l_2 n3 n4 w hb=>hX (l_2,n3,n4,()) w hb
theorem B26:OkT pr false none 47 g3 (L3 (Kt Kv)) (tl 1 bd) (P1 Kv):=ok_block 0 (by kernel_rfl) (L3_ok Kv)
end tocsinlaw10_Spoil
def tocsinlaw10_Spoil (l_1:Sl) (w:World) (K:tocsinlaw10_Spoil.KT):Prop :=
 tocsinlaw10_Spoil.L3 K l_1 ((l_1.n:Nat):Int) 0 w
def tocsinlaw10_Spoil.cl:CL:=fun args K w=>match args with
 | [.slice x0_a x0_n x0_c]=>C.tocsinlaw10_Spoil ⟨x0_a,x0_n,x0_c⟩ w (tocsinlaw10_Spoil.Kt K)
 | _=>False
theorem tocsinlaw10_Spoil.clok:OkC pr 53 tocsinlaw10_Spoil.cl:=by
 intro args K w h
 unfold tocsinlaw10_Spoil.cl at h
 split at h
 ·exact calls_group false mixed tocsinlaw10_Spoil.FOk_ tocsinlaw10_Spoil.fn rfl 1 (tocsinlaw10_Spoil.B26 K) (Eq.mp (by kernel_rfl) h)
 ·exact h.elim
namespace tocsinlaw10_whole
abbrev KT:=Bool→World→Prop
def Kt:KT:=fun b1 w=>Kv (.bool b1) w
noncomputable def bd:Code:=bdy Tryz.f16
theorem fn:FnOk pr 16 107 Tryz.f16:=⟨Tryz.func16,by kernel_rfl,Tryz.ntmps16,by kernel_rfl,by kernel_rfl⟩
def F:Clee:=ofL [(20,C.tocsinlaw10_texts.cl),(34,C.tocsinref10_Same.cl),(35,C.tocsinlaw10_every.cl),(40,C.block_Block_Len.cl),(47,C.block_Block_Samples.cl),(50,C.block_Block_Span.cl),(51,C.block_Block_Names.cl),(52,C.tocsinref10_Names.cl),(53,C.tocsinlaw10_Spoil.cl)]
theorem FOk_:FOk pr F:=FOk_cons C.tocsinlaw10_texts.clok (FOk_cons C.tocsinref10_Same.clok (FOk_cons C.tocsinlaw10_every.clok (FOk_cons C.block_Block_Len.clok (FOk_cons C.block_Block_Samples.clok (FOk_cons C.block_Block_Span.clok (FOk_cons C.block_Block_Names.clok (FOk_cons C.tocsinref10_Names.clok (FOk_cons C.tocsinlaw10_Spoil.clok (FOk_nil)))))))))
def P1:Post:=bodyK false pr 107 Tryz.f16 Kv
abbrev g2:List SE:=[.v 0 .ptr,.v 1 .sl,.v 5 (.int .i64),.v 6 (.int .i64),.v 7 (.int .i64)]
def S2 (K:KT) (x_9:Option Addr) (l_10:Sl) (n_11:Int) (lo_12:Int) (hi_13:Int) (w:World):Prop :=
 C.block_Block_Span x_9 w fun n14 n15 w16=>C.block_Block_Len x_9 w16 fun n17 w18=>G.cond (n17 != ((l_10.n:Nat):Int)) (K false w18) (C.block_Block_Samples x_9 w18 fun n19 w20=>G.cond (n19 != n_11) (K false w20) (G.cond (n14 != lo_12) (K false w20) (G.cond (n15 != hi_13) (K false w20) (C.block_Block_Names x_9 w20 fun l21 w22=>C.tocsinref10_Names l_10 w22 fun l23 w24=>C.tocsinlaw10_texts l21 l23 w24 fun b25 w26=>G.cond (!b25) (K false w26) (C.tocsinlaw10_every x_9 2000 w26 fun l27 w28=>C.tocsinref10_Same l27 l_10 w28 fun b29 w30=>C.tocsinlaw10_Spoil l27 w30 fun w31=>G.cond b29 (C.tocsinlaw10_every x_9 2000 w31 fun l32 w33=>C.tocsinref10_Same l32 l_10 w33 fun b34 w35=>K b34 w35) (K false w31))))))
theorem S2_ok:OkT pr false none 107 g2 (S2 (Kt Kv)) (s2 (tl 2 bd)) (P1 Kv):=ok_last mixed FOk_ fun v ρ w=>by kernel_rfl
def P3:Post:=next (get g2 (S2 (Kt Kv))) (P1 Kv)
def P4:Post:=inBlock 0 (P3 Kv)
abbrev g5:List SE:=[.v 0 .ptr,.v 1 .sl,.v 5 (.int .i64),.v 6 (.int .i64),.v 7 (.int .i64),.v 16 .sl,.v 17 (.int .i64),.v 18 (.int .i64)]
def P6 (kc5:Cur g5):Post:=next (get g5 kc5) (P4 Kv)
def S7 (K:KT) (kc5:Cur g5) (x_52:Option Addr) (l_53:Sl) (n_54:Int) (lo_55:Int) (hi_56:Int) (l57:Sl) (n58:Int) (n59:Int) (w:World):Prop :=
 G.cond (decide (n59<n58)) (G.ix l57.a l57.n n59 2 fun p60=>G.cSl p60 w fun l61=>G.cSl (p60.add 1) w fun l62=>G.new (.cells #[nilS.v,nilS.v] 57) w fun p63 w64=>G.st p63 l61.v w64 fun w65=>G.st (p63.add 1) l62.v w65 fun w66=>G.cSl (p63.add 1) w66 fun l67=>G.cSl (p63.add 1) w66.drew fun l68=>G.ix l68.a l68.n 0 2 fun p69=>G.cI .i64 p69 w66.drew fun n70=>G.cSl (p63.add 1) w66.drew fun l71=>G.cSl (p63.add 1) w66.drew fun l72=>G.ix l71.a l71.n (IntKind.i64.wrap (((l72.n:Nat):Int)-1)) 2 fun p73=>G.cI .i64 p73 w66.drew fun n74=>G.cond (n59==0) (G.cond (n59==0) (kc5 x_52 l_53 (IntKind.i64.wrap (n_54+((l67.n:Nat):Int))) n70 n74 l57 n58 (IntKind.i64.wrap (n59+1)) w66.drew) (G.cond (decide (n74 > hi_56)) (kc5 x_52 l_53 (IntKind.i64.wrap (n_54+((l67.n:Nat):Int))) n70 n74 l57 n58 (IntKind.i64.wrap (n59+1)) w66.drew) (kc5 x_52 l_53 (IntKind.i64.wrap (n_54+((l67.n:Nat):Int))) n70 hi_56 l57 n58 (IntKind.i64.wrap (n59+1)) w66.drew))) (G.cond (decide (n70<lo_55)) (G.cond (n59==0) (kc5 x_52 l_53 (IntKind.i64.wrap (n_54+((l67.n:Nat):Int))) n70 n74 l57 n58 (IntKind.i64.wrap (n59+1)) w66.drew) (G.cond (decide (n74 > hi_56)) (kc5 x_52 l_53 (IntKind.i64.wrap (n_54+((l67.n:Nat):Int))) n70 n74 l57 n58 (IntKind.i64.wrap (n59+1)) w66.drew) (kc5 x_52 l_53 (IntKind.i64.wrap (n_54+((l67.n:Nat):Int))) n70 hi_56 l57 n58 (IntKind.i64.wrap (n59+1)) w66.drew))) (G.cond (n59==0) (kc5 x_52 l_53 (IntKind.i64.wrap (n_54+((l67.n:Nat):Int))) lo_55 n74 l57 n58 (IntKind.i64.wrap (n59+1)) w66.drew) (G.cond (decide (n74 > hi_56)) (kc5 x_52 l_53 (IntKind.i64.wrap (n_54+((l67.n:Nat):Int))) lo_55 n74 l57 n58 (IntKind.i64.wrap (n59+1)) w66.drew) (kc5 x_52 l_53 (IntKind.i64.wrap (n_54+((l67.n:Nat):Int))) lo_55 hi_56 l57 n58 (IntKind.i64.wrap (n59+1)) w66.drew))))) (S2 K x_52 l_53 n_54 lo_55 hi_56 w)
theorem S7_ok (kc5:Cur g5):OkT pr false none 107 g5 (S7 (Kt Kv) kc5) (lp (blk (tl 1 (s1 (tl 2 bd))))) (P6 Kv kc5):=ok_last mixed FOk_ fun v ρ w=>by kernel_rfl
def L5 (K:KT):Cur g5:=loopC g5 (S7 K)
theorem L5_ok:OkT pr false none 107 g5 (L5 (Kt Kv)) (blk (tl 1 (s1 (tl 2 bd)))) (P4 Kv):=ok_loop (B:=S7 (Kt Kv)) (by kernel_rfl) fun kc=>S7_ok Kv kc
theorem L5_ind {K:KT} {x_36:Option Addr} {l_37:Sl} {n_38:Int} {lo_39:Int} {hi_40:Int} {l41:Sl} {n42:Int} {n43:Int} {w:World} (h:∀ X:Cur g5,(∀ x_36 l_37 n_38 lo_39 hi_40 l41 n42 n43 w,S7 K X x_36 l_37 n_38 lo_39 hi_40 l41 n42 n43 w→X x_36 l_37 n_38 lo_39 hi_40 l41 n42 n43 w)→X x_36 l_37 n_38 lo_39 hi_40 l41 n42 n43 w):L5 K x_36 l_37 n_38 lo_39 hi_40 l41 n42 n43 w:=fun X hX=>h X fun x_36 l_37 n_38 lo_39 hi_40 l41 n42 n43 w hb=>hX (x_36,l_37,n_38,lo_39,hi_40,l41,n42,n43,()) w hb
theorem B8:OkT pr false none 107 g5 (L5 (Kt Kv)) (tl 1 (s1 (tl 2 bd))) (P3 Kv):=ok_block 0 (by kernel_rfl) (L5_ok Kv)
def S9 (K:KT) (x_75:Option Addr) (l_76:Sl) (n_77:Int) (lo_78:Int) (hi_79:Int) (w:World):Prop :=
 L5 K x_75 l_76 n_77 lo_78 hi_79 l_76 ((l_76.n:Nat):Int) 0 w
theorem S9_ok:OkT pr false none 107 g2 (S9 (Kt Kv)) (s1 (tl 2 bd)) (P3 Kv):=ok_group mixed FOk_ 1 (B8 Kv) fun v ρ w=>by kernel_rfl
theorem Q10:OkT pr false none 107 g2 (S9 (Kt Kv)) (tl 2 bd) (P1 Kv):=ok_seq (by kernel_rfl) (S2_ok Kv) (S9_ok Kv)
end tocsinlaw10_whole
def tocsinlaw10_whole (x_2:Option Addr) (l_3:Sl) (w:World) (K:tocsinlaw10_whole.KT):Prop :=
 tocsinlaw10_whole.S9 K x_2 l_3 0 0 0 w
def tocsinlaw10_whole.cl:CL:=fun args K w=>match args with
 | [.pointer x0,.slice x1_a x1_n x1_c]=>C.tocsinlaw10_whole x0 ⟨x1_a,x1_n,x1_c⟩ w (tocsinlaw10_whole.Kt K)
 | _=>False
theorem tocsinlaw10_whole.clok:OkC pr 16 tocsinlaw10_whole.cl:=by
 intro args K w h
 unfold tocsinlaw10_whole.cl at h
 split at h
 ·exact calls_group false mixed tocsinlaw10_whole.FOk_ tocsinlaw10_whole.fn rfl 2 (tocsinlaw10_whole.Q10 K) (Eq.mp (by kernel_rfl) h)
 ·exact h.elim
namespace tocsinlaw10_BlockOpens
abbrev KT:=Bool→World→Prop
def Kt:KT:=fun b1 w=>Kv (.bool b1) w
noncomputable def bd:Code:=bdy Tryz.f3
theorem fn:FnOk pr 3 94 Tryz.f3:=⟨Tryz.func3,by kernel_rfl,Tryz.ntmps3,by kernel_rfl,by kernel_rfl⟩
def F:Clee:=ofL [(11,C.block_Open.cl),(12,C.tocsinref10_Open.cl),(13,C.tocsinlaw10_awake.cl),(14,C.block_Block_All.cl),(15,C.block_Block_Bytes.cl),(16,C.tocsinlaw10_whole.cl)]
theorem FOk_:FOk pr F:=FOk_cons C.block_Open.clok (FOk_cons C.tocsinref10_Open.clok (FOk_cons C.tocsinlaw10_awake.clok (FOk_cons C.block_Block_All.clok (FOk_cons C.block_Block_Bytes.clok (FOk_cons C.tocsinlaw10_whole.clok (FOk_nil))))))
def P1:Post:=bodyK false pr 94 Tryz.f3 Kv
abbrev g2:List SE:=[.v 0 .sl,.v 4 .ptr,.v 6 .sl]
def S2 (K:KT) (b_11:Sl) (x_12:Option Addr) (l_13:Sl) (w:World):Prop :=
 G.rdS pr (Conv.bytesToString b_11.v) w.drew fun s14=>C.block_Block_Bytes x_12 w.drew fun l15 w16=>isS pr b_11 s14 w16∧(G.rdS pr (Conv.bytesToString l15.v) w16 fun s17=>G.cond (s17.toList==s14.toList) (C.tocsinlaw10_whole x_12 l_13 w16 fun b18 w19=>G.cond b18 (C.tocsinlaw10_awake w19 fun b20 w21=>K b20 w21) (K false w19)) (K false w16))
theorem S2_ok:OkT pr false none 94 g2 (S2 (Kt Kv)) (s2 (tl 4 (s2 (tl 6 bd)))) (P1 Kv):=ok_last mixed FOk_ fun v ρ w=>by kernel_rfl
def P3:Post:=next (get g2 (S2 (Kt Kv))) (P1 Kv)
def P4:Post:=inBlock 2 (P3 Kv)
abbrev g5:List SE:=[.v 0 .sl,.v 4 .ptr,.v 6 .sl,.v 9 .sl,.v 72 (.int .i64),.v 73 (.int .i64)]
def P6 (kc5:Cur g5):Post:=next (get g5 kc5) (P4 Kv)
def S7 (K:KT) (kc5:Cur g5) (b_34:Sl) (x_35:Option Addr) (l_36:Sl) (c_37:Sl) (n38:Int) (n39:Int) (w:World):Prop :=
 G.cond (decide (n39<n38)) (G.ix c_37.a c_37.n n39 1 fun p40=>G.st p40 (.int .u8 99) w fun w41=>kc5 b_34 x_35 l_36 c_37 n38 (IntKind.i64.wrap (n39+1)) w41) (S2 K b_34 x_35 l_36 w)
theorem S7_ok (kc5:Cur g5):OkT pr false none 94 g5 (S7 (Kt Kv) kc5) (lp (blk (tl 1 (s1 (tl 4 (s2 (tl 6 bd))))))) (P6 Kv kc5):=ok_last mixed FOk_ fun v ρ w=>by kernel_rfl
def L5 (K:KT):Cur g5:=loopC g5 (S7 K)
theorem L5_ok:OkT pr false none 94 g5 (L5 (Kt Kv)) (blk (tl 1 (s1 (tl 4 (s2 (tl 6 bd)))))) (P4 Kv):=ok_loop (B:=S7 (Kt Kv)) (by kernel_rfl) fun kc=>S7_ok Kv kc
theorem L5_ind {K:KT} {b_22:Sl} {x_23:Option Addr} {l_24:Sl} {c_25:Sl} {n26:Int} {n27:Int} {w:World} (h:∀ X:Cur g5,(∀ b_22 x_23 l_24 c_25 n26 n27 w,S7 K X b_22 x_23 l_24 c_25 n26 n27 w→X b_22 x_23 l_24 c_25 n26 n27 w)→X b_22 x_23 l_24 c_25 n26 n27 w):L5 K b_22 x_23 l_24 c_25 n26 n27 w:=fun X hX=>h X fun b_22 x_23 l_24 c_25 n26 n27 w hb=>hX (b_22,x_23,l_24,c_25,n26,n27,()) w hb
theorem B8:OkT pr false none 94 g5 (L5 (Kt Kv)) (tl 1 (s1 (tl 4 (s2 (tl 6 bd))))) (P3 Kv):=ok_block 2 (by kernel_rfl) (L5_ok Kv)
abbrev g9:List SE:=[.v 0 .sl,.v 4 .ptr,.v 6 .sl,.v 9 .sl]
def S9 (K:KT) (b_42:Sl) (x_43:Option Addr) (l_44:Sl) (c_45:Sl) (w:World):Prop :=
 L5 K b_42 x_43 l_44 c_45 ((c_45.n:Nat):Int) 0 w
theorem S9_ok:OkT pr false none 94 g9 (S9 (Kt Kv)) (s1 (tl 4 (s2 (tl 6 bd)))) (P3 Kv):=ok_group mixed FOk_ 1 (B8 Kv) fun v ρ w=>by kernel_rfl
theorem Q10:OkT pr false none 94 g9 (S9 (Kt Kv)) (tl 4 (s2 (tl 6 bd))) (P1 Kv):=ok_seq (by kernel_rfl) (S2_ok Kv) (S9_ok Kv)
abbrev g11:List SE:=[.v 0 .sl,.v 4 .ptr,.v 6 .sl,.v 7 .bool]
def S11 (K:KT) (b_46:Sl) (x_47:Option Addr) (l_48:Sl) (ok_49:Bool) (w:World):Prop :=
 G.cond (!ok_49) (C.tocsinlaw10_awake w fun b50 w51=>K b50 w51) (C.block_Block_All x_47 w fun v52 w53=>G.isNilF v52 fun b54=>G.cond b54 (K false w53) (C.block_Block_Bytes x_47 w53 fun l55 w56=>G.rdS pr (Conv.bytesToString l55.v) w56 fun s57=>G.rdS pr (Conv.bytesToString b_46.v) w56 fun s58=>G.cond (!(s57.toList==s58.toList)) (K false w56) (S9 K b_46 x_47 l_48 l55 w56)))
theorem S11_ok:OkT pr false none 94 g11 (S11 (Kt Kv)) (s2 (tl 6 bd)) (P1 Kv):=ok_group mixed FOk_ 4 (Q10 Kv) fun v ρ w=>by kernel_rfl
def P12:Post:=next (get g11 (S11 (Kt Kv))) (P1 Kv)
def P13:Post:=inBlock 0 (P12 Kv)
abbrev g14:List SE:=[.v 0 .sl,.v 3 .sl,.v 4 .ptr,.v 6 .sl,.v 7 .bool,.v 50 (.int .i64),.v 51 (.int .i64)]
def P15 (kc14:Cur g14):Post:=next (get g14 kc14) (P13 Kv)
def S16 (K:KT) (kc14:Cur g14) (b_73:Sl) (own_74:Sl) (x_75:Option Addr) (l_76:Sl) (ok_77:Bool) (n78:Int) (n79:Int) (w:World):Prop :=
 G.cond (decide (n79<n78)) (G.ix own_74.a own_74.n n79 1 fun p80=>G.st p80 (.int .u8 99) w fun w81=>kc14 b_73 own_74 x_75 l_76 ok_77 n78 (IntKind.i64.wrap (n79+1)) w81) (S11 K b_73 x_75 l_76 ok_77 w)
theorem S16_ok (kc14:Cur g14):OkT pr false none 94 g14 (S16 (Kt Kv) kc14) (lp (blk (tl 1 (s1 (tl 6 bd))))) (P15 Kv kc14):=ok_last mixed FOk_ fun v ρ w=>by kernel_rfl
def L14 (K:KT):Cur g14:=loopC g14 (S16 K)
theorem L14_ok:OkT pr false none 94 g14 (L14 (Kt Kv)) (blk (tl 1 (s1 (tl 6 bd)))) (P13 Kv):=ok_loop (B:=S16 (Kt Kv)) (by kernel_rfl) fun kc=>S16_ok Kv kc
theorem L14_ind {K:KT} {b_59:Sl} {own_60:Sl} {x_61:Option Addr} {l_62:Sl} {ok_63:Bool} {n64:Int} {n65:Int} {w:World} (h:∀ X:Cur g14,(∀ b_59 own_60 x_61 l_62 ok_63 n64 n65 w,S16 K X b_59 own_60 x_61 l_62 ok_63 n64 n65 w→X b_59 own_60 x_61 l_62 ok_63 n64 n65 w)→X b_59 own_60 x_61 l_62 ok_63 n64 n65 w):L14 K b_59 own_60 x_61 l_62 ok_63 n64 n65 w:=fun X hX=>h X fun b_59 own_60 x_61 l_62 ok_63 n64 n65 w hb=>hX (b_59,own_60,x_61,l_62,ok_63,n64,n65,()) w hb
theorem B17:OkT pr false none 94 g14 (L14 (Kt Kv)) (tl 1 (s1 (tl 6 bd))) (P12 Kv):=ok_block 0 (by kernel_rfl) (L14_ok Kv)
abbrev g18:List SE:=[.v 0 .sl,.v 3 .sl,.v 4 .ptr,.v 6 .sl,.v 7 .bool]
def S18 (K:KT) (b_82:Sl) (own_83:Sl) (x_84:Option Addr) (l_85:Sl) (ok_86:Bool) (w:World):Prop :=
 L14 K b_82 own_83 x_84 l_85 ok_86 ((own_83.n:Nat):Int) 0 w
theorem S18_ok:OkT pr false none 94 g18 (S18 (Kt Kv)) (s1 (tl 6 bd)) (P12 Kv):=ok_group mixed FOk_ 1 (B17 Kv) fun v ρ w=>by kernel_rfl
theorem Q19:OkT pr false none 94 g18 (S18 (Kt Kv)) (tl 6 bd) (P1 Kv):=ok_seq (by kernel_rfl) (S11_ok Kv) (S18_ok Kv)
end tocsinlaw10_BlockOpens
def tocsinlaw10_BlockOpens (b_2:Sl) (w:World) (K:tocsinlaw10_BlockOpens.KT):Prop :=
 G.runSl pr (Builtin.append_ #[22,22] 22 #[nilS.v,b_2.v]) w fun l87 w88=>C.block_Open l87 w88 fun p89 n90 w91=>C.tocsinref10_Open b_2 w91 fun l92 b93 w94=>G.rdS pr (Conv.bytesToString l87.v) w94 fun s95=>G.rdS pr (Conv.bytesToString b_2.v) w94 fun s96=>G.cond (!(s95.toList==s96.toList)) (K false w94) (G.cond (!((n90==0)==b93)) (K false w94) (G.cond (!((!p89.isNone)==b93)) (K false w94) (G.cond (!b93) (G.cond (n90 != 3) (K false w94) (tocsinlaw10_BlockOpens.S18 K b_2 l87 p89 l92 b93 w94)) (tocsinlaw10_BlockOpens.S18 K b_2 l87 p89 l92 b93 w94))))
def tocsinlaw10_BlockOpens.cl:CL:=fun args K w=>match args with
 | [.slice x0_a x0_n x0_c]=>C.tocsinlaw10_BlockOpens ⟨x0_a,x0_n,x0_c⟩ w (tocsinlaw10_BlockOpens.Kt K)
 | _=>False
theorem tocsinlaw10_BlockOpens.clok:OkC pr 3 tocsinlaw10_BlockOpens.cl:=by
 intro args K w h
 unfold tocsinlaw10_BlockOpens.cl at h
 split at h
 ·exact calls_group false mixed tocsinlaw10_BlockOpens.FOk_ tocsinlaw10_BlockOpens.fn rfl 6 (tocsinlaw10_BlockOpens.Q19 K) (Eq.mp (by kernel_rfl) h)
 ·exact h.elim
end C
end Go.Proofs.YtmfgmcajelmgbaaGreatDoor

namespace Go.Proofs.YtmfgmcajelmgbaaGreatDoor.Utf
open Go Vm Go.RowKit Num Mem Lib
set_option maxRecDepth 10000
abbrev bytes (s:ByteArray):List UInt8:=s.data.toList
theorem ixS_at {s:ByteArray} {i:Int} {k:Nat} (hi:i=(k:Int)) (hk:k<s.size) {K:Int→Prop} (hK:K (((bytes s).getD k 0).toNat:Int)):G.ixS s i K:=by
 subst hi
 refine ⟨(bytes s).getD k 0,by omega,?_,hK⟩
 rw [Int.toNat_natCast,getElem?_pos s k hk]
 have hk':k<s.data.toList.length:=by rw [← size_eq];exact hk
 congr 1
 rw [List.getD_eq_getElem?_getD,List.getElem?_eq_getElem hk',Option.getD_some]
 rfl
theorem slcS_at {s:ByteArray} {i:Int} {k:Nat} (hi:i=(k:Int)) (hk:k≤s.size) {K:ByteArray→Prop} (hK:K (s.extract k s.size)):G.slcS s i ((s.size:Nat):Int) K:=by
 subst hi
 exact ⟨⟨by omega,by omega,by omega⟩,by simpa using hK⟩
end Go.Proofs.YtmfgmcajelmgbaaGreatDoor.Utf

namespace Go.Proofs.YtmfgmcajelmgbaaGreatDoor.Utf
open Go Vm Go.RowKit Num Mem Lib
set_option maxRecDepth 10000
abbrev UTab (w:World):Prop:=Utf8Tabs 2 3 w
theorem UTab.keep {w w':World} (h:UTab w) (k:Keep w w'):UTab w':=⟨fun c hc=>k.cell (h.1 c hc),fun i hi=>⟨k.cell (h.2 i hi).1,k.cell (h.2 i hi).2⟩⟩
theorem orByte {a k m:Nat} {c:UInt8} (hk:k≤56) (hm:m=2 ^ k) (ha:a<m):Go.bits .or .u64 (a:Int) (shl .u64 (IntKind.u64.wrap (c.toNat:Int)) (k:Int))=((a+c.toNat*m:Nat):Int):=by
 have hc:=c.toNat_lt
 subst hm
 have hp:2 ^ k≤2 ^ 56:=Nat.pow_le_pow_right (by decide) hk
 have hx:c.toNat*2 ^ k≤255*2 ^ 56:=Nat.mul_le_mul (by omega) hp
 rw [wU64_id (x:=(c.toNat:Int)) (by omega) (by omega),shl_nat .u64 _ k (by simp only [IntKind.bits];omega),show (c.toNat:Int)*2 ^ k=((c.toNat*2 ^ k:Nat):Int) by simp,wU64_id (by omega) (by omega),
  bits_or rfl (by simp only [IntKind.bits];omega) (by simp only [IntKind.bits];omega),Nat.or_comm,Nat.mul_comm,← Nat.two_pow_add_eq_or_of_lt ha,Nat.add_comm]
abbrev word (s:ByteArray):Nat:=leNat [s.get! 0,s.get! 1,s.get! 2,s.get! 3,s.get! 4,s.get! 5,s.get! 6,s.get! 7]
theorem word_ok {s:ByteArray} (hs:8≤s.size) {w:World} {K:Int→World→Prop} (hK:K ((word s:Nat):Int) w.drew):C.utf8_word_string s w K:=by
 unfold C.utf8_word_string
 have e8:(8:Int)=((8:Nat):Int):=rfl
 have e16:(16:Int)=((16:Nat):Int):=rfl
 have e24:(24:Int)=((24:Nat):Int):=rfl
 have e32:(32:Int)=((32:Nat):Int):=rfl
 have e40:(40:Int)=((40:Nat):Int):=rfl
 have e48:(48:Int)=((48:Nat):Int):=rfl
 have e56:(56:Int)=((56:Nat):Int):=rfl
 have h0:=((bytes s).getD 0 0).toNat_lt
 have h1:=((bytes s).getD 1 0).toNat_lt
 have h2:=((bytes s).getD 2 0).toNat_lt
 have h3:=((bytes s).getD 3 0).toNat_lt
 have h4:=((bytes s).getD 4 0).toNat_lt
 have h5:=((bytes s).getD 5 0).toNat_lt
 have h6:=((bytes s).getD 6 0).toNat_lt
 have h7:=((bytes s).getD 7 0).toNat_lt
 refine ixS_at (k:=0) rfl (by omega) ?_
 refine ixS_at (k:=1) rfl (by omega) ⟨by decide,?_⟩
 refine ixS_at (k:=2) rfl (by omega) ⟨by decide,?_⟩
 refine ixS_at (k:=3) rfl (by omega) ⟨by decide,?_⟩
 refine ixS_at (k:=4) rfl (by omega) ⟨by decide,?_⟩
 refine ixS_at (k:=5) rfl (by omega) ⟨by decide,?_⟩
 refine ixS_at (k:=6) rfl (by omega) ⟨by decide,?_⟩
 refine ixS_at (k:=7) rfl (by omega) ⟨by decide,?_⟩
 unfold word at hK
 simp only [← Lib.getD_get!',leNat] at hK
 rw [wU64_id (x:=(((bytes s).getD 0 0).toNat:Int)) (by omega) (by omega),e8,orByte (m:=256) (by decide) rfl (by omega),e16,orByte (m:=65536) (by decide) rfl (by omega),e24,orByte (m:=16777216) (by decide) rfl (by omega),
  e32,orByte (m:=4294967296) (by decide) rfl (by omega),e40,orByte (m:=1099511627776) (by decide) rfl (by omega),e48,orByte (m:=281474976710656) (by decide) rfl (by omega),e56,orByte (m:=72057594037927936) (by decide) rfl (by omega)]
 refine Eq.mp (congrArg (fun x:Nat=>K (x:Int) w.drew) ?_) hK
 simp only [bytes]
 omega
theorem maskInt {n:Nat} (h:n<18446744073709551616):Go.bits .and .u64 (n:Int) (9259542123273814144:Int)=((n &&& 9259542123273814144:Nat):Int) :=
 bits_and rfl (by simp only [IntKind.bits];omega) (by decide)
theorem or64 {a b:Nat} (ha:a<18446744073709551616) (hb:b<18446744073709551616):Go.bits .or .u64 (a:Int) (b:Int)=((a ||| b:Nat):Int) :=
 bits_or rfl (by simp only [IntKind.bits];omega) (by simp only [IntKind.bits];omega)
theorem or64_lt {a b:Nat} (ha:a<18446744073709551616) (hb:b<18446744073709551616):a ||| b<18446744073709551616:=Nat.or_lt_two_pow (n:=64) ha hb
theorem newPair {w:World} {t:TypeId} {x y a b:Value} (ha:a.oneCell'=true) (hb:b.oneCell'=true) {K:Addr→World→Prop} (hK:∀ p w',Keep w w'→w'.cell? p=some a→w'.cell? (p.add 1)=some b→K p w') :
  G.new (.cells #[x,y] t) w fun p w1=>G.st p a w1 fun w2=>G.st (p.add 1) b w2 fun w3=>K p w3:=by
 have b1:=Blk.new w t #[x,y]
 have b2:=b1.set 0 a
 have b3:=b2.set 1 b
 have k1:Keep w (((w.alloc (.cells #[x,y] t)).setCell ⟨w.heap.size,0,none⟩ a).setCell ⟨w.heap.size,1,none⟩ b) :=
  ((Keep.alloc w _).setCell (p:=⟨w.heap.size,0,none⟩) (Nat.le_refl _) a).setCell (p:=⟨w.heap.size,1,none⟩) (Nat.le_refl _) b
 refine ⟨⟨x,by rw [b1.cell];rfl⟩,b1.frozen 0,⟨y,?_⟩,?_,?_⟩
 ·rw [addr_add,b2.cell];rfl
 ·rw [addr_add];exact b2.frozen _
 ·rw [addr_add]
  exact hK _ _ k1 (by rw [b3.cell];rfl) (by rw [addr_add,b3.cell];rfl)
theorem chk2 {s:ByteArray} {p:Addr} {w:World} {lo hi:Nat} {F N:Prop} (h1:w.cell? p=some (.int .u8 (lo:Int))) (h2:w.cell? (p.add 1)=some (.int .u8 (hi:Int))) (hs:1<s.size)
  (hF:((bytes s).getD 1 0).toNat<lo∨hi<((bytes s).getD 1 0).toNat→F) (hN:¬ (((bytes s).getD 1 0).toNat<lo∨hi<((bytes s).getD 1 0).toNat)→N) :
  G.ixS s (1:Int) fun n=>G.cI .u8 p w fun m=>G.cond (decide (n<m)) F (G.cI .u8 (p.add 1) w fun m'=>G.ixS s (1:Int) fun n'=>G.cond (decide (m'<n')) F N):=by
 refine ixS_at (k:=1) rfl hs ⟨_,h1,?_⟩
 refine cond_d (fun h=>hF (.inl (by omega))) (fun h=>?_)
 refine ⟨_,h2,ixS_at (k:=1) rfl hs ?_⟩
 exact cond_d (fun h'=>hF (.inr (by omega))) (fun h'=>hN (by omega))
theorem chkC {s:ByteArray} {i:Int} {k:Nat} {F N:Prop} (hi:i=(k:Int)) (hs:k<s.size) (hF:((bytes s).getD k 0).toNat<128∨191<((bytes s).getD k 0).toNat→F)
  (hN:¬ (((bytes s).getD k 0).toNat<128∨191<((bytes s).getD k 0).toNat)→N) :
  G.ixS s i fun n=>G.cond (decide (n<(128:Int))) F (G.ixS s i fun n'=>G.cond (decide ((191:Int)<n')) F N):=by
 refine ixS_at hi hs ?_
 refine cond_d (fun h=>hF (.inl (by omega))) (fun h=>?_)
 refine ixS_at hi hs ?_
 exact cond_d (fun h'=>hF (.inr (by omega))) (fun h'=>hN (by omega))
theorem firstT_lt (c:Nat):firstT c<256:=by
 rcases firstT_cases c with h | h | h | h | h | h | h | h | h<;>omega
theorem bits7 {f:Nat} (h:f<256):IntKind.i64.wrap (Go.bits .and .u8 (f:Int) (7:Int))=((f % 8:Nat):Int):=by
 rw [show (7:Int)=((7:Nat):Int) from rfl,bits_and rfl (by simp only [IntKind.bits];omega) (by decide),show f &&& 7=f % 8 from Nat.and_two_pow_sub_one_eq_mod f 3,wI64 (by omega) (by omega)]
theorem shr4 {f:Nat}:shr .u8 (f:Int) (4:Int)=((f / 16:Nat):Int):=by
 have:=shr_nat .u8 (f:Int) 4 (by decide)
 rw [show ((4:Nat):Int)=(4:Int) from rfl] at this
 rw [this];omega
theorem lead_ok {K:C.utf8_ValidString.KT} {kc:Cur C.utf8_ValidString.g5} {s:ByteArray} {w0 w:World} (ht:UTab w) (h0:0<s.size) (hc:128≤((bytes s).getD 0 0).toNat) (k0:Keep w0 w)
  (hF:validD (bytes s)=false→∀ w',Keep w0 w'→K false w') (hN:∀ k w',0<k→k≤s.size→validD (bytes s)=validD (bytes (s.extract k s.size))→Keep w0 w'→kc (s.extract k s.size) w') :
  C.utf8_ValidString.S8 K kc s (((bytes s).getD 0 0).toNat:Int) w:=by
 have hlen:(bytes s).length=s.size:=(size_eq s).symm
 have hv:=validD_lead (bytes s) (fun e=>by rw [e] at hlen;simp at hlen;omega) hc
 rw [hlen] at hv
 have hc':=((bytes s).getD 0 0).toNat_lt
 have hf:=firstT_lt ((bytes s).getD 0 0).toNat
 have hcell:=ht.1 _ (show ((bytes s).getD 0 0).toNat<256 from hc')
 generalize ((bytes s).getD 0 0).toNat=c at *
 generalize firstT c=f at *
 obtain ⟨a1,a2⟩:=ht.2 (f / 16) (by omega)
 generalize accLo (f / 16)=lo at *
 generalize accHi (f / 16)=hi at *
 have drop:∀ k,bytes (s.extract k s.size)=(bytes s).drop k:=fun k=>ext_list s k
 unfold C.utf8_ValidString.S8
 refine ⟨⟨by omega,by omega⟩,(f:Int),?_,by decide,?_⟩
 ·rw [addr_add];simpa using hcell
 rw [shr4]
 refine ⟨⟨by omega,by omega⟩,(lo:Int),?_,(hi:Int),?_,?_⟩
 ·rw [addr_add,Int.toNat_natCast,Nat.zero_add,Nat.mul_comm];exact a1
 ·rw [addr_add,addr_add,Int.toNat_natCast,Nat.zero_add,Nat.mul_comm];exact a2
 refine newPair rfl rfl fun p w1 k1 c1 c2=>?_
 have k2:Keep w0 w1.drew:=Keep.trans (Keep.trans k0 k1) (Keep.drew w1)
 rw [bits7 hf]
 have d1:w1.drew.cell? p=some (.int .u8 (lo:Int)):=c1
 have d2:w1.drew.cell? (p.add 1)=some (.int .u8 (hi:Int)):=c2
 refine cond_eq (fun h2=>?_) (fun h2=>cond_eq (fun h3=>?_) (fun h3=>cond_eq (fun h4=>?_) (fun h4=>?_)))
 ·have hm:f % 8=2:=by omega
  simp only [hm,checkN,if_true] at hv
  refine cond_d (fun h=>?_) (fun h=>?_)
  ·rw [if_pos (by omega)] at hv;exact hF hv _ k2
  refine chk2 d1 d2 (by omega) (fun hb=>?_) (fun hb=>?_)
  ·rw [if_pos (by omega)] at hv;exact hF hv _ k2
  rw [if_neg (by omega)] at hv
  exact slcS_at (k:=2) rfl (by omega) (hN 2 _ (by decide) (by omega) (by rw [drop];exact hv) k2)
 ·have hm:f % 8=3:=by omega
  simp only [hm,checkN,if_true,show ((3:Nat)=2)=False by simp,if_false] at hv
  refine cond_d (fun h=>?_) (fun h=>?_)
  ·rw [if_pos (by omega)] at hv;exact hF hv _ k2
  refine chk2 d1 d2 (by omega) (fun hb=>?_) (fun hb=>?_)
  ·rw [if_pos (by omega)] at hv;exact hF hv _ k2
  refine chkC (k:=2) rfl (by omega) (fun hb'=>?_) (fun hb'=>?_)
  ·rw [if_pos (by omega)] at hv;exact hF hv _ k2
  rw [if_neg (by omega)] at hv
  exact slcS_at (k:=3) rfl (by omega) (hN 3 _ (by decide) (by omega) (by rw [drop];exact hv) k2)
 ·have hm:f % 8=4:=by omega
  simp only [hm,checkN,if_true,show ((4:Nat)=2)=False by simp,show ((4:Nat)=3)=False by simp,if_false] at hv
  refine cond_d (fun h=>?_) (fun h=>?_)
  ·rw [if_pos (by omega)] at hv;exact hF hv _ k2
  refine chk2 d1 d2 (by omega) (fun hb=>?_) (fun hb=>?_)
  ·rw [if_pos (by omega)] at hv;exact hF hv _ k2
  refine chkC (k:=2) rfl (by omega) (fun hb'=>?_) (fun hb'=>?_)
  ·rw [if_pos (by omega)] at hv;exact hF hv _ k2
  refine chkC (k:=3) rfl (by omega) (fun hb''=>?_) (fun hb''=>?_)
  ·rw [if_pos (by omega)] at hv;exact hF hv _ k2
  rw [if_neg (by omega)] at hv
  exact slcS_at (k:=4) rfl (by omega) (hN 4 _ (by decide) (by omega) (by rw [drop];exact hv) k2)
 ·have h2':¬ f % 8=2:=by omega
  have h3':¬ f % 8=3:=by omega
  have h4':¬ f % 8=4:=by omega
  simp only [checkN,if_neg h2',if_neg h3',if_neg h4'] at hv
  exact hF hv _ (Keep.trans k0 k1)
theorem skip {t:ByteArray} {k:Nat} (h:Asc t k) {b:Bool} (hv:validD (bytes t)=b):validD (bytes (t.extract k t.size))=b:=by rw [← hv];exact valid_skip t k h
theorem valid_ok {s:ByteArray} {w0:World} (ht:UTab w0) (hs:s.size≤140737488355328) {K:Bool→World→Prop} (hK:∀ w',Keep w0 w'→K (validD (bytes s)) w'):C.utf8_ValidString s w0 K:=by
 unfold C.utf8_ValidString
 refine C.utf8_ValidString.L5_ind fun X hX=>?_
 have key:∀ (N:Nat) (t:ByteArray) (w:World),t.size<N→Keep w0 w→(∀ w',Keep w0 w'→K (validD (bytes t)) w')→X t w:=by
  intro N
  induction N with
  | zero=>intro t w h;omega
  | succ N ih =>
   intro t w hN k hK
   refine hX _ _ ?_
   unfold C.utf8_ValidString.S32 C.utf8_ValidString.S2
   refine cond_d (fun h0=>?_) (fun h0=>?_)
   ·have hpos:0<t.size:=by omega
    unfold C.utf8_ValidString.S30
    refine ixS_at (k:=0) rfl hpos ?_
    unfold C.utf8_ValidString.S28 C.utf8_ValidString.D27
    refine cond_d (fun hc=>?_) (fun hc=>?_)
    ·have a1:Asc t 1:=asc_one t hpos (by rw [← Lib.getD_get!'];exact_mod_cast hc)
     have next:∀ (u:ByteArray) (w':World),u.size<t.size→validD (bytes u)=validD (bytes t)→Keep w0 w'→X u w':=fun u w' hu hv k'=>ih u w' (by omega) k' (by rw [hv];exact hK)
     unfold C.utf8_ValidString.S25
     refine slcS_at (k:=1) rfl (by omega) ?_
     have e1:=ext_size t 1
     have v1:=skip a1 rfl
     generalize t.extract 1 t.size=t1 at *
     have out:∀ w',Keep w0 w'→X t1 w':=fun w' k'=>next t1 w' (by omega) v1 k'
     unfold C.utf8_ValidString.S23 C.utf8_ValidString.D22 C.utf8_ValidString.S21 C.utf8_ValidString.S10
     refine cond_d (fun h8=>?_) (fun _=>cond_f rfl (out w k))
     refine word_ok (by omega) ?_
     have kd:Keep w0 w.drew:=Keep.trans k (Keep.drew w)
     rw [maskInt (word_lt t1)]
     refine cond_eq (fun hm=>?_) (fun _=>out _ kd)
     have a8:Asc t1 8:=(word_asc t1 (by omega)).1 (by exact_mod_cast hm)
     unfold C.utf8_ValidString.S20
     refine slcS_at (k:=8) rfl (by omega) ?_
     have e2:=ext_size t1 8
     have v2:=skip a8 v1
     generalize t1.extract 8 t1.size=t2 at *
     have out2:∀ w',Keep w0 w'→X t2 w':=fun w' k'=>next t2 w' (by omega) v2 k'
     have kd2:Keep w0 w.drew.drew:=Keep.trans kd (Keep.drew _)
     unfold C.utf8_ValidString.D19 C.utf8_ValidString.S18 C.utf8_ValidString.S10
     refine cond_d (fun h16=>?_) (fun _=>cond_f rfl (out2 _ kd2))
     refine slcS_at (k:=8) rfl (by omega) ?_
     have e3:=ext_size t2 8
     refine word_ok (by omega) ?_
     refine word_ok (by omega) ?_
     have kd4:Keep w0 w.drew.drew.drew.drew:=Keep.trans (Keep.trans kd2 (Keep.drew _)) (Keep.drew _)
     rw [or64 (word_lt _) (word_lt _),maskInt (or64_lt (word_lt _) (word_lt _))]
     refine cond_eq (fun hm=>?_) (fun _=>out2 _ kd4)
     have hm':(word t2 ||| word (t2.extract 8 t2.size)) &&& 9259542123273814144=0:=by exact_mod_cast hm
     rw [or_mask] at hm'
     have b1:Asc t2 8:=(word_asc t2 (by omega)).1 hm'.1
     have b2:Asc (t2.extract 8 t2.size) 8:=(word_asc _ (by omega)).1 hm'.2
     have a16:Asc t2 16:=asc_add t2 8 8 b1 b2
     unfold C.utf8_ValidString.S17
     refine slcS_at (k:=16) rfl (by omega) ?_
     have e4:=ext_size t2 16
     have v3:=skip a16 v2
     generalize t2.extract 16 t2.size=t3 at *
     refine C.utf8_ValidString.L13_ind fun Y hY=>?_
     have inner:∀ (M:Nat) (u:ByteArray) (w':World),u.size<M→u.size<t.size→validD (bytes u)=validD (bytes t)→Keep w0 w'→Y u w':=by
      intro M
      induction M with
      | zero=>intro u w' h;omega
      | succ M ihm =>
       intro u w' hM hu hv kk
       refine hY _ _ ?_
       have kk1:Keep w0 w'.drew:=Keep.trans kk (Keep.drew _)
       unfold C.utf8_ValidString.S15 C.utf8_ValidString.S10
       refine cond_d (fun h32=>?_) (fun _=>next u _ hu hv kk1)
       have f1:=ext_size u 8
       have f2:=ext_size u 16
       have f3:=ext_size u 24
       refine slcS_at (k:=8) rfl (by omega) ?_
       refine slcS_at (k:=16) rfl (by omega) ?_
       refine slcS_at (k:=24) rfl (by omega) ?_
       refine word_ok (by omega)<|word_ok (by omega)<|word_ok (by omega)<|word_ok (by omega) ?_
       have kk5:Keep w0 w'.drew.drew.drew.drew.drew:=Keep.trans (Keep.trans (Keep.trans (Keep.trans kk1 (Keep.drew _)) (Keep.drew _)) (Keep.drew _)) (Keep.drew _)
       rw [or64 (word_lt _) (word_lt _),or64 (word_lt _) (word_lt _),or64 (or64_lt (word_lt _) (word_lt _)) (or64_lt (word_lt _) (word_lt _)),maskInt (or64_lt (or64_lt (word_lt _) (word_lt _)) (or64_lt (word_lt _) (word_lt _)))]
       refine cond_eq (fun hm=>?_) (fun _=>next u _ hu hv kk5)
       have hm':((word u ||| word (u.extract 8 u.size)) ||| (word (u.extract 16 u.size) ||| word (u.extract 24 u.size))) &&& 9259542123273814144=0:=by exact_mod_cast hm
       rw [or_mask,or_mask,or_mask] at hm'
       have q1:Asc u 8:=(word_asc u (by omega)).1 hm'.1.1
       have q2:Asc u 16:=asc_add u 8 8 q1 ((word_asc _ (by omega)).1 hm'.1.2)
       have q3:Asc u 24:=asc_add u 16 8 q2 ((word_asc _ (by omega)).1 hm'.2.1)
       have q4:Asc u 32:=asc_add u 24 8 q3 ((word_asc _ (by omega)).1 hm'.2.2)
       refine slcS_at (k:=32) rfl (by omega) ?_
       have f4:=ext_size u 32
       exact ihm _ _ (by omega) (by omega) (skip q4 hv) kk5
     exact inner (t3.size+1) t3 _ (by omega) (by omega) v3 kd4
    ·unfold C.utf8_ValidString.S26
     refine lead_ok (UTab.keep ht k) hpos (by omega) k (fun hv w' k'=>by rw [hv] at hK;exact hK w' k') fun n w' h1 h2 hv k'=>?_
     have:=ext_size t n
     exact ih _ w' (by omega) k' (by rw [← hv];exact hK)
   ·have hz:bytes t=[]:=List.eq_nil_of_length_eq_zero (by rw [← size_eq];omega)
    rw [hz,validD_nil] at hK
    exact hK w k
 exact key (s.size+1) s w0 (by omega) (Keep.refl _) hK
end Go.Proofs.YtmfgmcajelmgbaaGreatDoor.Utf

namespace Go.Proofs.YtmfgmcajelmgbaaGreatDoor.Utf
open Go Vm Go.RowKit Num Mem Lib
theorem convSB {w:World} {s:ByteArray} {K:Sl→World→Prop} (hK:∀ r w',Keep w w'→RdB w' r (bytes s)→K r w') :
  G.runSl Tryz.prog (Go.convert 9 22 (.string s)) w K:=by
 refine ⟨⟨some ⟨w.heap.size,0,none⟩,s.size,grownCap w s.size 0 5⟩,_,Go.Lib.run_convert_string_bytes (P:=Tryz.prog) w 9 22 5 s (u:=.string) (by kernel_rfl) (by kernel_rfl) (by kernel_rfl),hK _ _ ?_ ?_⟩
 ·refine ⟨?_,?_,?_,?_,fun k hk=>bytesWorld_at_old w _ s k hk⟩
  ·simp [bytesWorld,World.freeze,World.alloc,World.drew,-World.alloc_eq,-World.drew_eq]
  ·simp [bytesWorld,World.freeze,World.alloc,World.drew,-World.alloc_eq,-World.drew_eq]
  ·simp [bytesWorld,World.freeze,World.alloc,World.drew,-World.alloc_eq,-World.drew_eq]
  ·rw [bytesWorld_size];omega
 ·refine ⟨grownCap_ge w s.size 0 _,by rw [vBs_length,Nat.mul_one,size_eq],fun _=>⟨_,0,rfl,fun j v hv=>?_⟩⟩
  rw [Nat.zero_add]
  obtain ⟨hj,he⟩:=List.getElem?_eq_some_iff.1 hv
  rw [vBs_length,← size_eq] at hj
  rw [bytesWorld_cell w _ s j hj,← he]
  simp only [vBs,List.getElem_map,vB]
  rw [List.getD_eq_getElem?_getD,List.getElem?_eq_getElem (by rw [← size_eq];exact hj),Option.getD_some]
theorem fold_push:∀ (l m:List UInt8),(l.map fun b=>(b.toNat:Int)).foldl (fun r n=>r.push (UInt8.ofNat n.toNat)) (⟨m.toArray⟩:ByteArray)=⟨(m++l).toArray⟩
 | [],m=>by rw [List.append_nil];rfl
 | b::l,m=>by
  simp only [List.map_cons,List.foldl_cons]
  have e:(⟨m.toArray⟩:ByteArray).push (UInt8.ofNat ((b.toNat:Int)).toNat)=⟨(m++[b]).toArray⟩:=by
   simp [ByteArray.push]
  rw [e,fold_push l (m++[b])]
  simp
abbrev str (l:List UInt8):ByteArray:=⟨l.toArray⟩
theorem bytes_str (l:List UInt8):bytes (str l)=l:=by simp [bytes,str]
theorem str_size (l:List UInt8):(str l).size=l.length:=by rw [size_eq]
theorem convBS {P:Program} {w:World} {b:Sl} {l:List UInt8} (h:RdB w b l) {K:ByteArray→Prop} (hK:K (str l)):G.rdS P (Conv.bytesToString b.v) w K:=by
 refine ⟨_,fun d=>?_,hK⟩
 have hd:=Rd.drewN h d
 have hn:=RdB.len h
 cases b with
 | mk a n c =>
  simp only at hn
  subst hn
  have go:∀ x:Addr,(∀ j v,(vBs l)[j]?=some v→(w.drewN d).cell? (x.add j)=some v)→(Conv.bytesToString (.slice (some x) l.length c)).run P (w.drewN d)=.ok (.string (str l)) (w.drewN d):=by
   intro x hx
   have e:vBs l=(l.map fun b=>(b.toNat:Int)).map (Value.int .u8):=by
    rw [List.map_map];rfl
   have hl:(loadCells x l.length).run P (w.drewN d)=.ok ((l.map fun b=>(b.toNat:Int)).map (Value.int .u8)).toArray (w.drewN d):=by
    rw [← e]
    have:=run_loadCells_list (P:=P) (w.drewN d) x (vBs l) hx
    rw [vBs_length] at this
    exact this
   rw [run_bytesToString (w.drewN d) x l.length c _ hl]
   have:=fold_push l []
   simp only [List.nil_append] at this
   exact congrArg (fun s=>Result.ok (Value.string s) (w.drewN d)) this
  by_cases h0:vBs l=[]
  ·have hl0:l=[]:=by cases l with | nil=>rfl | cons=>simp [vBs] at h0
   subst hl0
   cases a with
   | none=>rfl
   | some x=>exact go x (by intro j v hv;simp [vBs] at hv)
  ·obtain ⟨g,o,ha,hc⟩:=hd.2.2 h0
   simp only at ha
   subst ha
   exact go _ fun j v hv=>by rw [addr_add];exact hc j v hv
end Go.Proofs.YtmfgmcajelmgbaaGreatDoor.Utf

namespace Go.Proofs.YtmfgmcajelmgbaaGreatDoor.Lab
open Go Vm Num Mem Utf Lib
variable {w w' w0 : World}
def letterB (c:Nat):Bool:=(decide (97≤c)&&decide (c≤122)) || (decide (65≤c)&&decide (c≤90)) || c==95
def digitB (c:Nat):Bool:=decide (48≤c)&&decide (c≤57)
theorem letter_ok {c:Nat} {K:Bool→World→Prop} (hK:K (letterB c) w):C.labels_letter (c:Int) w K:=by
 unfold C.labels_letter
 have e95:∀ b:Bool,letterB c=b→(((c:Int)==(95:Int))=(c==95)):=fun _ _=>by
  cases h:(c==95) with
  | true=>simp at h;subst h;rfl
  | false=>simp at h;simp;omega
 have e:=e95 _ rfl
 have yes:letterB c=true→K true w:=fun h=>by rw [h] at hK;exact hK
 have els:(letterB c=(c==95))→K ((c:Int)==(95:Int)) w:=fun h=>by rw [e,← h];exact hK
 refine cond_d (fun h1=>cond_d (fun h2=>yes ?_) (fun h2=>cond_d (fun h3=>cond_d (fun h4=>by omega) (fun h4=>els ?_)) (fun h3=>by omega))) (fun h1=>cond_d (fun h3=>cond_d (fun h4=>yes ?_) (fun h4=>els ?_)) (fun h3=>els ?_))
 all_goals (unfold letterB;simp;try omega)
theorem digit_ok {c:Nat} {K:Bool→World→Prop} (hK:K (digitB c) w):C.labels_digit (c:Int) w K:=by
 unfold C.labels_digit
 unfold digitB at hK
 refine cond_d (fun h=>?_) (fun h=>?_)
 ·have e:decide ((c:Int)≤57)=decide (c≤57):=by simp only [decide_eq_decide];omega
  rw [e]
  rw [decide_eq_true (by omega:48≤c)] at hK
  exact hK
 ·rw [decide_eq_false (by omega:¬ 48≤c)] at hK
  exact hK
def okB (colon:Bool) (c:Nat):Bool:=letterB c || (digitB c || (colon&&c==58))
def namedB (l:List UInt8) (most:Nat) (colon:Bool):Bool:=!l.isEmpty&&(decide (l.length≤most)&&(!digitB (l.getD 0 0).toNat&&l.all fun c=>okB colon c.toNat))
theorem named_ok {s:ByteArray} {most:Nat} {m:Int} (hm:m=(most:Int)) (hmm:most≤100000) {colon:Bool} {K:Bool→World→Prop} (hK:∀ w',Keep w0 w'→K (namedB (Utf.bytes s) most colon) w'):C.labels_named s m colon w0 K:=by
 subst hm
 have hsz:=size_eq s
 have hl:(Utf.bytes s).length=s.size:=hsz.symm
 unfold C.labels_named
 have no:namedB (Utf.bytes s) most colon=false→∀ w',Keep w0 w'→K false w':=fun h w' k=>by have:=hK w' k;rwa [h] at this
 have etl:s.toList=Utf.bytes s:=ByteArray.toList_eq s
 have e0:(⟨#[]⟩:ByteArray).toList=[]:=by rw [ByteArray.toList_eq]
 rw [etl,e0]
 refine cond_of (fun h=>no ?_ w0 (Keep.refl w0)) (fun h=>?_)
 ·have:Utf.bytes s=[]:=by simpa using h
  unfold namedB;rw [this];rfl
 have hne:Utf.bytes s≠[]:=by intro e;rw [e] at h;simp at h
 have hpos:0<s.size:=by rw [← hl];exact List.length_pos_iff.2 hne
 refine cond_d (fun h=>no ?_ w0 (Keep.refl w0)) (fun h=>?_)
 ·unfold namedB;rw [decide_eq_false (by omega)];simp
 refine ixS_at (k:=0) rfl hpos (digit_ok ?_)
 have hemp:(Utf.bytes s).isEmpty=false:=by cases hb:Utf.bytes s with | nil=>exact absurd hb hne | cons _ _=>rfl
 have hle:decide ((Utf.bytes s).length≤most)=true:=decide_eq_true (by omega)
 refine cond_of (fun h=>no ?_ w0 (Keep.refl w0)) (fun hd=>?_)
 ·unfold namedB;rw [h];simp
 have hn:namedB (Utf.bytes s) most colon=(Utf.bytes s).all fun c=>okB colon c.toNat:=by unfold namedB;rw [hemp,hle,hd];simp
 rw [hn] at hK no
 unfold C.labels_named.S9
 refine convSB fun r w1 k1 o1=>?_
 have hr:=o1.len
 clear hn hd hle hemp hne etl hsz
 generalize Utf.bytes s=l at *
 refine C.labels_named.L5_ind fun X hX=>?_
 have key:∀ (d i:Nat),i+d=l.length→(l.take i).all (fun c=>okB colon c.toNat)=true→X colon r ((r.n:Nat):Int) (i:Int) w1:=by
  intro d
  induction d with
  | zero =>
   intro i hi ha
   refine hX _ _ _ _ _ ?_
   unfold C.labels_named.S7 C.labels_named.S2
   refine cond_d (fun h=>by omega) (fun _=>?_)
   rw [List.take_of_length_le (by omega)] at ha
   have:=hK w1 k1
   rwa [ha] at this
  | succ d ih =>
   intro i hi ha
   refine hX _ _ _ _ _ ?_
   unfold C.labels_named.S7
   have hil:i<l.length:=by omega
   refine cond_d (fun _=>?_) (fun h=>by omega)
   refine RdB.at_ o1 hil ?_
   have next:okB colon l[i].toNat=true→X colon r ((r.n:Nat):Int) (IntKind.i64.wrap ((i:Int)+1)) w1:=fun hok=>by
    rw [wI64 (by omega) (by omega),show (i:Int)+1=((i+1:Nat):Int) by omega]
    refine ih (i+1) (by omega) ?_
    rw [List.take_add_one,List.getElem?_eq_getElem hil,List.all_append,ha]
    simp [hok]
   have stop:okB colon l[i].toNat=false→K false w1:=fun hok=>no (by
    rw [List.all_eq_false]
    exact ⟨l[i],List.getElem_mem hil,by simp [hok]⟩) w1 k1
   refine letter_ok (cond_of (fun hlt=>?_) (fun hlt=>next (by unfold okB;simp at hlt;simp [hlt])))
   refine digit_ok (cond_of (fun hdt=>?_) (fun hdt=>next (by unfold okB;simp at hdt;simp [hdt])))
   simp only [Bool.not_eq_true'] at hlt hdt
   refine cond_of (fun hc=>?_) (fun hc=>stop (by unfold okB;simp [hlt,hdt,hc]))
   have e58:((l[i].toNat:Int)==(58:Int))=(l[i].toNat==58):=by
    cases h:(l[i].toNat==58) with
    | true=>simp at h;simp [h]
    | false=>simp at h;simp;omega
   rw [e58]
   refine cond_of (fun h5=>stop (by unfold okB;simp at h5;simp [hlt,hdt,h5])) (fun h5=>next (by unfold okB;simp at h5;simp [hc,h5]))
 exact key l.length 0 (by omega) rfl
end Go.Proofs.YtmfgmcajelmgbaaGreatDoor.Lab

namespace Go.Proofs.YtmfgmcajelmgbaaGreatDoor.Mem
open Go Vm Go.RowKit Num
abbrev Tg:=Nat→Nat
def ext (ω:Tg) (n t:Nat):Tg:=fun k=>if k<n then ω k else t
theorem ext_old {ω:Tg} {n t k:Nat} (h:k<n):ext ω n t k=ω k:=if_pos h
theorem ext_new {ω:Tg} {n t k:Nat} (h:n≤k):ext ω n t k=t:=if_neg (by omega)
structure Stp (T:Nat→Bool) (ω ω':Tg) (w w':World):Prop where
 os:w'.os=w.os
 tape:w'.tape=w.tape
 output:w'.output=w.output
 size:w.heap.size≤w'.heap.size
 same:∀ k,k<w.heap.size→ω' k=ω k
 block:∀ k,k<w.heap.size→T (ω k)=false→w'.heap[k]?=w.heap[k]?
abbrev Non:Nat→Bool:=fun _=>false
abbrev One (t:Nat):Nat→Bool:=fun u=>Nat.beq u t
abbrev Duo (t s:Nat):Nat→Bool:=fun u=>Nat.beq u t || Nat.beq u s
theorem beq_no {a b:Nat} (h:a≠b):Nat.beq a b=false:=beq_ff h
theorem one_self (t:Nat):One t t=true:=by simp [One]
variable {T T' : Nat → Bool} {ω ω' ω'' : Tg} {w w' w'' w0 : World}
theorem Stp.refl (T:Nat→Bool) (ω:Tg) (w:World):Stp T ω ω w w:=⟨rfl,rfl,rfl,Nat.le_refl _,fun _ _=>rfl,fun _ _ _=>rfl⟩
theorem Stp.trans (h:Stp T ω ω' w w') (k:Stp T ω' ω'' w' w''):Stp T ω ω'' w w'' :=
 ⟨k.os.trans h.os,k.tape.trans h.tape,k.output.trans h.output,Nat.le_trans h.size k.size,fun i hi=>(k.same i (Nat.lt_of_lt_of_le hi h.size)).trans (h.same i hi),fun i hi hT =>
  (k.block i (Nat.lt_of_lt_of_le hi h.size) (by rw [h.same i hi];exact hT)).trans (h.block i hi hT)⟩
theorem Stp.mono (h:Stp T ω ω' w w') (hT:∀ u,T' u=false→T u=false):Stp T' ω ω' w w':=⟨h.os,h.tape,h.output,h.size,h.same,fun k hk hn=>h.block k hk (hT _ hn)⟩
theorem Stp.non (h:Stp Non ω ω' w w') (T:Nat→Bool):Stp T ω ω' w w':=h.mono fun _ _=>rfl
theorem Stp.one {t s:Nat} (h:Stp (One t) ω ω' w w'):Stp (Duo t s) ω ω' w w':=h.mono fun u hu=>by simp only [Duo,Bool.or_eq_false_iff] at hu;exact hu.1
theorem Stp.two {t s:Nat} (h:Stp (One s) ω ω' w w'):Stp (Duo t s) ω ω' w w':=h.mono fun u hu=>by simp only [Duo,Bool.or_eq_false_iff] at hu;exact hu.2
theorem Keep.stp (k:Keep w w') (ω:Tg) (t:Nat):Stp Non ω (ext ω w.heap.size t) w w':=⟨k.os,k.tape,k.output,k.size,fun _ hi=>ext_old hi,fun i hi _=>k.block i hi⟩
theorem Keep.stp0 (k:Keep w w') (ω:Tg):Stp Non ω ω w w':=⟨k.os,k.tape,k.output,k.size,fun _ _=>rfl,fun i hi _=>k.block i hi⟩
theorem Stp.keep (h:Stp Non ω ω' w w'):Keep w w':=⟨h.os,h.tape,h.output,h.size,fun k hk=>h.block k hk rfl⟩
theorem Chg.stp {X:Nat→Prop} {t:Nat} (h:Chg X w w') (hX:∀ k,X k→ω k=t):Stp (One t) ω (ext ω w.heap.size t) w w' :=
 ⟨h.os,h.tape,h.output,h.size,fun _ hi=>ext_old hi,fun k hk hT=>h.block k hk fun hx=>by rw [hX k hx,one_self] at hT;cases hT⟩
theorem drew_stp (ω:Tg) (w:World):Stp Non ω ω w w.drew:=(Keep.drew w).stp0 ω
structure Top (w0:World) (ω:Tg) (w:World):Prop where
 k:Keep w0 w
 z:∀ k,k<w0.heap.size→ω k=0
theorem Top.init (w:World):Top w (fun _=>0) w:=⟨Keep.refl w,fun _ _=>rfl⟩
theorem Top.stp (h:Top w0 ω w) (s:Stp T ω ω' w w') (h0:T 0=false:=by rfl):Top w0 ω' w' :=
 ⟨Below.trans h.k ⟨s.os,s.tape,s.output,s.size,fun i hi=>s.block i (Nat.lt_of_lt_of_le hi h.k.size) (by rw [h.z i hi];exact h0)⟩,fun i hi=>(s.same i (Nat.lt_of_lt_of_le hi h.k.size)).trans (h.z i hi)⟩
structure BT (ω:Tg) (w:World) (t g:Nat) (e:TypeId) (cs:List Value):Prop where
 blk:Blk w g e cs
 tag:ω g=t
variable {t u g : Nat} {e : TypeId} {cs : List Value}
theorem BT.stp (h:BT ω w t g e cs) (s:Stp T ω ω' w w') (ne:T t=false:=by rfl):BT ω' w' t g e cs :=
 ⟨by unfold Blk;rw [s.block g h.blk.lt (by rw [h.tag];exact ne)];exact h.blk,(s.same g h.blk.lt).trans h.tag⟩
theorem BT.cell (h:BT ω w t g e cs) (j:Nat):w.cell? ⟨g,j,none⟩=cs[j]?:=h.blk.cell j
theorem BT.same (h:BT ω w t g e cs) (s:Stp T ω ω' w w') (ne:T t=false) (j n:Nat):sameAt ⟨g,j,none⟩ n w w':=by
 have hb:w'.heap[g]?=w.heap[g]?:=s.block g h.blk.lt (by rw [h.tag];exact ne)
 refine ⟨World.cell?_of_block hb,fun i _=>World.cell?_of_block ?_⟩
 rw [add_block];exact hb
theorem BT.sameT (h:BT ω w t g e cs) (s:Stp T ω ω' w w') {j n:Nat} (ne:T t=false:=by rfl):sameAt ⟨g,j,none⟩ n w w':=h.same s ne j n
theorem BT.sameA (h:BT ω w t g e cs) (s:Stp T ω ω' w w') {i j n:Nat} (ne:T t=false:=by rfl):sameAt (Addr.add ⟨g,i,none⟩ j) n w w':=by rw [addr_add];exact h.same s ne _ n
theorem new_T (t:Nat) {o:Array Value} {K:Addr→World→Prop} (hK:∀ g ω' w',Stp Non ω ω' w w'→BT ω' w' t g e o.toList→K ⟨g,0,none⟩ w'):G.new (.cells o e) w K :=
 hK w.heap.size (ext ω w.heap.size t) _ ((Keep.alloc w _).stp ω t) ⟨Blk.new w e o,ext_new (Nat.le_refl _)⟩
theorem st_T {j:Nat} {v:Value} (h:BT ω w t g e cs) (hj:j<cs.length) {K:World→Prop} (hK:∀ ω' w',Stp (One t) ω ω' w w'→BT ω' w' t g e (cs.set j v)→K w'):G.st ⟨g,j,none⟩ v w K:=by
 refine st_at (by rw [h.cell,List.getElem?_eq_getElem hj]) (h.blk.frozen j) (hK (ext ω w.heap.size t) _ (Chg.stp (setCell_chg w g j v) fun k hk=>by rw [hk];exact h.tag) ⟨h.blk.set j v,?_⟩)
 rw [ext_old h.blk.lt];exact h.tag
theorem st_TA {i j:Nat} {v:Value} (h:BT ω w t g e cs) (hj:i+j<cs.length) {K:World→Prop} (hK:∀ ω' w',Stp (One t) ω ω' w w'→BT ω' w' t g e (cs.set (i+j) v)→K w'):G.st (Addr.add ⟨g,i,none⟩ j) v w K:=by
 rw [addr_add];exact st_T h hj hK
structure OT (ω:Tg) (w:World) (t:Nat) (e:TypeId) (sz:Nat) (s:Sl) (xs:List Value):Prop where
 own:Own w 0 e sz s xs
 tag:∀ k,s.v.ownBlock=some k→ω k=t
variable {sz : Nat} {s : Sl} {xs : List Value}
theorem OT.lt (h:OT ω w t e sz s xs) {k:Nat} (hk:s.v.ownBlock=some k):k<w.heap.size:=(Own.geC h.own hk).2
theorem OT.nil (ω:Tg) (w:World) (t:Nat) (e:TypeId) (sz:Nat):OT ω w t e sz nilS []:=⟨Own.nil w 0 e sz,fun k hk=>by simp [Value.ownBlock] at hk⟩
theorem OT.stp (h:OT ω w t e sz s xs) (k:Stp T ω ω' w w') (ne:T t=false:=by rfl):OT ω' w' t e sz s xs:=by
 refine ⟨?_,fun g hg=>(k.same g (h.lt hg)).trans (h.tag g hg)⟩
 obtain ⟨hl,ho⟩:=h.own
 refine ⟨hl,?_⟩
 rcases ho with ho | ⟨g,cap,cur,hv,hg,hh,r⟩
 ·exact .inl ho
 ·have hb:s.v.ownBlock=some g:=by rw [hv];rfl
  refine .inr ⟨g,cap,cur,hv,hg,?_,r⟩
  rw [k.block g (h.lt hb) (by rw [h.tag g hb];exact ne)];exact hh
theorem Own.tag {B:Nat} (h:Own w' B e sz s xs) (hB:w.heap.size≤B) (ω:Tg) (t:Nat):OT (ext ω w.heap.size t) w' t e sz s xs :=
 ⟨Own.mono h (Nat.zero_le _),fun _ hk=>ext_new (Nat.le_trans hB (Own.geC h hk).1)⟩
theorem OT.rd (h:OT ω w t e sz s xs):Rd w s sz xs:=Own.rd h.own
theorem OT.ix (h:OT ω w t e sz s xs) (_:0<sz) {i:Int} (h0:0≤i) (h1:i<s.n) {K:Addr→Prop}
  (hK:∀ a:Addr,a.block<w.heap.size→ω a.block=t→(∀ j v,j<sz→xs[i.toNat*sz+j]?=some v→w.cell? (a.add j)=some v)→K a):G.ix s.a s.n i sz K:=by
 rcases h.own.cases with ⟨rfl,rfl⟩ | ⟨g,cur,ha,hg,hb,hn,hm,hl,ht⟩
 ·simp at h1;omega
 ·rw [ha]
  have hbk:s.v.ownBlock=some g:=by show (Value.slice s.a s.n s.c).ownBlock=_;rw [ha];rfl
  refine ⟨⟨h0,h1⟩,hK _ (by rw [add_block];exact hb.lt) (by rw [add_block];exact h.tag g hbk) fun j v hj hv=>?_⟩
  rw [addr_add,addr_add,Nat.zero_add,hb.cell]
  rw [← ht,List.getElem?_take] at hv
  split at hv
  ·exact hv
  ·cases hv
theorem same_stp {a:Addr} {n:Nat} (s:Stp T ω ω' w w') (hb:a.block<w.heap.size) (hT:T (ω a.block)=false):sameAt a n w w' :=
 ⟨World.cell?_of_block (s.block _ hb hT),fun i _=>World.cell?_of_block (s.block _ (by rw [add_block];exact hb) (by rw [add_block];exact hT))⟩
theorem app_T {P:Program} {ty tt:TypeId} {bytes:Nat} (ti:TI P tt e sz bytes) {x:Sl} {ys:List Value} (h:OT ω w t e sz s xs) (hx:Rd w x sz ys) (h1:∀ v∈ys,v.oneCell'=true) (hm:s.n+x.n≤maxLen) (hy:(s.n+x.n)*bytes≤140737488355328)
  {K:Sl→World→Prop} (hK:∀ r ω' w',Stp (One t) ω ω' w w'→OT ω' w' t e sz r (xs++ys)→r.n=s.n+x.n→K r w'):G.runSl P (Builtin.append_ #[tt,tt] ty #[s.v,x.v]) w K :=
 appC ti (Nat.zero_le _) h.own hx h1 hm hy fun r w' c o hn hf=>hK r (ext ω w.heap.size t) w' (Chg.stp c h.tag) ⟨o,fun k hk=>by
  rcases hf with hf | hf
  ·rw [hf] at hk;rw [ext_old (h.lt hk)];exact h.tag k hk
  ·exact ext_new (hf k hk)⟩ hn
theorem push_T {P:Program} {ty tt:TypeId} {bytes n:Nat} (ti:TI P tt e sz bytes) {ds:Array Value} (h:OT ω w t e sz s xs) (hl:ds.size=n*sz) (h1:∀ v∈ds.toList,v.oneCell'=true) (hm:s.n+n≤maxLen) (hy:(s.n+n)*bytes≤140737488355328)
  {K:Sl→World→Prop} (hK:∀ r ω' w',Stp (One t) ω ω' w w'→OT ω' w' t e sz r (xs++ds.toList)→r.n=s.n+n→K r w') :
  G.new (.cells ds e) w fun p w1=>G.runSl P (Builtin.append_ #[tt,tt] ty #[s.v,(⟨some p,n,n⟩:Sl).v]) w1 K :=
 pushC ti (Nat.zero_le _) h.own hl h1 hm hy fun r w' c o hn hf=>hK r (ext ω w.heap.size t) w' (Chg.stp c h.tag) ⟨o,fun k hk=>by
  rcases hf with hf | hf
  ·rw [hf] at hk;rw [ext_old (h.lt hk)];exact h.tag k hk
  ·exact ext_new (hf k hk)⟩ hn
theorem OT.cases (h:OT ω w t e sz s xs):(s=nilS∧xs=[])∨∃ g cur,s.a=some ⟨g,0,none⟩∧BT ω w t g e cur∧s.n≤s.c∧s.c≤maxLen∧cur.length=s.c*sz∧cur.take (s.n*sz)=xs:=by
 rcases h.own.cases with h' | ⟨g,cur,ha,hg,hb,hn,hm,hl,ht⟩
 ·exact .inl h'
 ·exact .inr ⟨g,cur,ha,⟨hb,h.tag g (by show (Value.slice s.a s.n s.c).ownBlock=_;rw [ha];rfl)⟩,hn,hm,hl,ht⟩
theorem OT.st (h:OT ω w t e sz s xs) {i j:Nat} (hi:i<s.n) (hj:j<sz) (v:Value) {a:Addr} (ha:s.a.map (fun a=>a.add (i*sz))=some a) {K:World→Prop}
  (hK:∀ ω' w',Stp (One t) ω ω' w w'→OT ω' w' t e sz s (xs.set (i*sz+j) v)→K w'):G.st (a.add j) v w K:=by
 rcases h.cases with ⟨rfl,rfl⟩ | ⟨g,cur,ha',hb,hn,hm,hl,ht⟩
 ·exact absurd hi (Nat.not_lt_zero _)
 ·rw [ha'] at ha
  simp only [Option.map_some,Option.some.injEq] at ha
  subst ha
  have hlt:i*sz+j<cur.length:=by
   rw [hl]
   have:(i+1)*sz≤s.c*sz:=Nat.mul_le_mul_right _ (by omega)
   rw [Nat.add_mul] at this;omega
  rw [addr_add,Nat.zero_add]
  refine st_TA hb hlt fun ω' w' k b=>hK ω' w' k ⟨?_,fun k' hk'=>?_⟩
  ·have hs:s=⟨some ⟨g,0,none⟩,s.n,s.c⟩:=by rw [← ha']
   rw [hs]
   refine Own.mk' (Nat.zero_le _) b.blk hn hm (by rw [List.length_set];exact hl) ?_
   rw [← ht,List.take_set]
  ·exact (k.same k' (h.lt hk')).trans (h.tag k' hk')
theorem OT.at_ (h:OT ω w t e sz s xs) {i:Int} {k:Nat} (ei:i=k) (hi:k<s.n) {K:Addr→Prop} (hK:∀ a:Addr,s.a.map (fun a=>a.add (k*sz))=some a→a.block<w.heap.size→ω a.block=t→(∀ j v,j<sz→xs[k*sz+j]?=some v→w.cell? (a.add j)=some v)→K a):G.ix s.a s.n i sz K:=by
 subst ei
 rcases h.cases with ⟨rfl,rfl⟩ | ⟨g,cur,ha,hb,hn,hm,hl,ht⟩
 ·exact absurd hi (Nat.not_lt_zero _)
 ·rw [ha]
  refine ⟨⟨by omega,by omega⟩,?_⟩
  rw [Int.toNat_natCast]
  refine hK _ (by rw [ha];rfl) (by rw [add_block];exact hb.blk.lt) (by rw [add_block];exact hb.tag) fun j v hj hv=>?_
  rw [addr_add,addr_add,Nat.zero_add,hb.cell]
  rw [← ht,List.getElem?_take] at hv
  split at hv
  ·exact hv
  ·cases hv
theorem cB_at {a:Addr} {b:Bool} (h:w.cell? a=some (.bool b)) {K:Bool→Prop} (hK:K b):G.cB a w K:=⟨b,h,hK⟩
theorem cP_at {a:Addr} {b:Option Addr} (h:w.cell? a=some (.pointer b)) {K:Option Addr→Prop} (hK:K b):G.cP a w K:=⟨b,h,hK⟩
theorem cF_at {k:FloatKind} {a:Addr} {b:Nat} (h:w.cell? a=some (.float k b)) {K:Nat→Prop} (hK:K b):G.cF k a w K:=⟨b,h,hK⟩
theorem cS_at {a:Addr} {b:ByteArray} (h:w.cell? a=some (.string b)) {K:ByteArray→Prop} (hK:K b):G.cS a w K:=⟨b,h,hK⟩
end Go.Proofs.YtmfgmcajelmgbaaGreatDoor.Mem

namespace Go.Proofs.YtmfgmcajelmgbaaGreatDoor.Lab
open Go Vm Num Mem Utf Lib
variable {ω ω' : Tg} {w w' w0 : World}
abbrev Lb:=ByteArray × ByteArray
def labC (x:Lb):List Value:=[.string x.1,.string x.2]
def labs (l:List Lb):List Value:=l.flatMap labC
theorem labs_app (a b:List Lb):labs (a++b)=labs a++labs b:=List.flatMap_append
theorem labs_len (l:List Lb):(labs l).length=l.length*2:=by
 induction l with
 | nil=>rfl
 | cons s l ih=>simp only [labs,List.flatMap_cons,List.length_append,List.length_cons] at *;simp [labC] at *;omega
theorem labs_at:∀ (l:List Lb) (i:Nat) (s:Lb),l[i]?=some s→(labs l)[i*2+0]?=some (.string s.1)∧(labs l)[i*2+1]?=some (.string s.2)
 | [],i,s,h=>by simp at h
 | x::l,0,s,h=>by
  simp only [List.getElem?_cons_zero,Option.some.injEq] at h
  subst h
  exact ⟨rfl,rfl⟩
 | x::l,i+1,s,h=>by
  have ih:=labs_at l i s (by simpa using h)
  have e:labs (x::l)=.string x.1::.string x.2::labs l:=rfl
  rw [e,show (i+1)*2+0=(i*2+0)+1+1 by omega,show (i+1)*2+1=(i*2+1)+1+1 by omega]
  simpa using ih
theorem rdL_at {s:Sl} {m:List Lb} (h:Rd w s 2 (labs m)) {i:Int} {k:Nat} {x:Lb} (ei:i=(k:Int)) (hx:m[k]?=some x) {K:Addr→Prop}
  (hK:∀ a:Addr,w.cell? a=some (.string x.1)→w.cell? (a.add 1)=some (.string x.2)→K a):G.ix s.a s.n i 2 K:=by
 have hk:k<m.length:=(List.getElem?_eq_some_iff.1 hx).1
 have hn:s.n=m.length:=by have:=h.2.1;rw [labs_len] at this;omega
 subst ei
 obtain ⟨e0,e1⟩:=labs_at m k x hx
 refine Rd.ix h (by decide) (by omega) (by omega) fun a hc=>hK a ?_ ?_
 ·have:=hc 0 _ (by decide) (by rw [Int.toNat_natCast];exact e0)
  rwa [show a.add 0=a by simp [Addr.add]] at this
 ·exact hc 1 _ (by decide) (by rw [Int.toNat_natCast];exact e1)
def valE (l:List UInt8):Int:=if l=[] then 41 else if l.length > 256 then 4 else if validD l=true then 0 else 12
theorem value_ok {s:ByteArray} (ht:UTab w0) {K:Int→World→Prop} (hK:∀ w',Keep w0 w'→K (valE (Utf.bytes s)) w'):C.labels_value s w0 K:=by
 have hsz:=size_eq s
 have hl:(Utf.bytes s).length=s.size:=hsz.symm
 have etl:s.toList=Utf.bytes s:=ByteArray.toList_eq s
 have e0:(⟨#[]⟩:ByteArray).toList=[]:=by rw [ByteArray.toList_eq]
 unfold C.labels_value
 unfold valE at hK
 rw [etl,e0]
 refine cond_of (fun h=>?_) (fun h=>?_)
 ·rw [if_pos (by simpa using h)] at hK;exact hK w0 (Keep.refl w0)
 rw [if_neg (by intro e;rw [e] at h;simp at h)] at hK
 refine cond_d (fun h=>?_) (fun h=>?_)
 ·rw [if_pos (by omega)] at hK;exact hK w0 (Keep.refl w0)
 rw [if_neg (by omega)] at hK
 refine valid_ok ht (by omega) fun w1 k1=>?_
 refine cond_of (fun h=>?_) (fun h=>?_)
 ·rw [if_neg (by simpa using h)] at hK;exact hK w1 k1
 ·rw [if_pos (by simpa using h)] at hK;exact hK w1 k1
def backB (p:Option ByteArray) (x:ByteArray):Bool:=match p with | some q=>(Op.bytesLess x.toList q.toList) || (x.toList==q.toList) | none=>false
def rtGo:Option ByteArray→List Lb→Nat→Int × Nat
 | _,[],_=>(0,0)
 | p,x::r,i=>if namedB (Utf.bytes x.1) 64 false=false then (40,i) else if valE (Utf.bytes x.2)≠0 then (valE (Utf.bytes x.2),i) else if backB p x.1=true then (3,i) else rtGo (some x.1) r (i+1)
def rt (l:List Lb):Int × Nat:=if l.length > 16 then (8,0) else rtGo none l 0
theorem right_ok {s:Sl} {m:List Lb} (ht:UTab w0) (hs:Rd w0 s 2 (labs m)) {K:Int→Int→World→Prop} (hK:∀ w',Keep w0 w'→K (rt m).1 ((rt m).2:Int) w'):C.labels_Right s w0 K:=by
 have hsn:s.n=m.length:=by have:=hs.2.1;rw [labs_len] at this;omega
 unfold C.labels_Right
 unfold rt at hK
 refine cond_d (fun h=>?_) (fun h=>?_)
 ·rw [if_pos (by omega)] at hK;exact hK w0 (Keep.refl w0)
 rw [if_neg (by omega)] at hK
 unfold C.labels_Right.S9
 refine C.labels_Right.L5_ind fun X hX=>?_
 have key:∀ (d i:Nat) (w:World),i+d=m.length→Keep w0 w→rtGo (if i=0 then none else (m[i-1]?).map (·.1)) (m.drop i) i=rtGo none m 0→X s s ((s.n:Nat):Int) (i:Int) w:=by
  intro d
  induction d with
  | zero =>
   intro i w hi k e
   refine hX _ _ _ _ _ ?_
   unfold C.labels_Right.S7 C.labels_Right.S2
   refine cond_d (fun h=>by omega) (fun _=>?_)
   rw [List.drop_of_length_le (by omega)] at e
   have:=hK w k
   rwa [← e] at this
  | succ d ih =>
   intro i w hi k e
   have him:i<m.length:=by omega
   refine hX _ _ _ _ _ ?_
   unfold C.labels_Right.S7
   refine cond_d (fun _=>?_) (fun h=>by omega)
   have hx:m[i]?=some m[i]:=List.getElem?_eq_getElem him
   refine rdL_at (hs.keep k) (k:=i) rfl hx fun a hc0 hc1=>cS_at hc0<|cS_at hc1 ?_
   refine new_T (ω:=fun _=>0) 7 fun g ω2 w2 k2 b2=>?_
   refine st_T b2 (by simp) fun ω3 w3 k3 b3=>?_
   refine st_TA b3 (by simp) fun ω4 w4 k4 b4=>?_
   have k04:=Keep.trans k ((Top.init w).stp ((k2.non (Mem.One 7)).trans (k3.trans k4))).k
   rw [List.drop_eq_getElem_cons him,rtGo] at e
   have out:∀ (c:Int) w',(c,i)=rtGo none m 0→Keep w0 w'→K c (i:Int) w':=fun c w' ec kk=>by
    have:=hK w' kk
    rwa [← ec] at this
   refine cS_at (b:=m[i].1) (by rw [b4.cell];rfl) ?_
   unfold C.labels_Name
   refine named_ok (most:=64) rfl (by decide) fun w5 k5=>?_
   have k05:=Keep.trans k04 k5
   have b5:=b4.stp (k5.stp0 ω4)
   refine cond_of (fun hn=>?_) (fun hn=>?_)
   ·rw [if_pos (by simpa using hn)] at e;exact out 40 w5 e k05
   rw [if_neg (by simpa using hn)] at e
   refine cS_at (b:=m[i].2) (by rw [addr_add,b5.cell];rfl) ?_
   refine value_ok (ht.keep k05) fun w6 k6=>?_
   have k06:=Keep.trans k05 k6
   have b6:=b5.stp (k6.stp0 ω4)
   refine cond_ne (fun hv=>?_) (fun hv=>?_)
   ·rw [if_pos hv] at e;exact out _ w6 e k06
   rw [if_neg (by simpa using hv)] at e
   have k07:=Keep.trans k06 (Keep.drew w6)
   have next:backB (if i=0 then none else (m[i-1]?).map (·.1)) m[i].1=false→∀ w',Keep w0 w'→X s s ((s.n:Nat):Int) (IntKind.i64.wrap ((i:Int)+1)) w':=fun hb w' kk=>by
    rw [hb,if_neg (by decide)] at e
    rw [wI64 (by omega) (by omega),show (i:Int)+1=((i+1:Nat):Int) by omega]
    refine ih (i+1) w' (by omega) kk ?_
    rw [if_neg (by omega),Nat.add_sub_cancel,hx];exact e
   refine cond_d (fun hi0=>?_) (fun hi0=>next ?_ _ k07)
   ·have hy:m[i-1]?=some m[i-1]:=List.getElem?_eq_getElem (by omega)
    refine cS_at (b:=m[i].1) (by rw [(b6.stp (drew_stp ω4 w6)).cell];rfl) ?_
    refine rdL_at (hs.keep k07) (k:=i-1) (by rw [wI64 (by omega) (by omega)];omega) hy fun p hp0 _=>cS_at hp0 ?_
    have eb:backB (if i=0 then none else (m[i-1]?).map (·.1)) m[i].1=((Op.bytesLess m[i].1.toList m[i-1].1.toList) || (m[i].1.toList==m[i-1].1.toList)):=by
     rw [if_neg (by omega),hy];rfl
    refine cond_of (fun hb=>?_) (fun hb=>next (by rw [eb];exact hb) _ k07)
    rw [eb,hb,if_pos rfl] at e
    exact out 3 _ e k07
   ·rw [if_pos (by omega)];rfl
 exact key m.length 0 w0 (by omega) (Keep.refl w0) rfl
end Go.Proofs.YtmfgmcajelmgbaaGreatDoor.Lab

namespace Go.Proofs.YtmfgmcajelmgbaaGreatDoor.Vint
open Go Vm Go.RowKit Num Mem
def putU (n:Nat):List UInt8:=if n<128 then [UInt8.ofNat n] else UInt8.ofNat (n % 128+128)::putU (n / 128)
termination_by n
decreasing_by omega
theorem putU_lt {n:Nat} (h:n<128):putU n=[UInt8.ofNat n]:=by rw [putU,if_pos h]
theorem putU_ge {n:Nat} (h:¬ n<128):putU n=UInt8.ofNat (n % 128+128)::putU (n / 128):=by rw [putU,if_neg h]
theorem putU_len:∀ (k n:Nat),n<128 ^ (k+1)→(putU n).length≤k+1
 | 0,n,h=>by rw [putU_lt (by simpa using h)];simp
 | k+1,n,h=>by
  by_cases hn:n<128
  ·rw [putU_lt hn];simp
  ·rw [putU_ge hn]
   have:=putU_len k (n / 128) (Nat.div_lt_of_lt_mul (by rw [Nat.pow_succ] at h;omega))
   simp;omega
theorem p128:(18446744073709551616:Nat)≤128 ^ (9+1):=by decide +kernel
theorem putU_len64 {n:Nat} (h:n<18446744073709551616):(putU n).length≤10:=by
 have h1:=p128
 have:=putU_len 9 n (by generalize 128 ^ (9+1)=q at *;omega)
 omega
theorem or128:∀ m:Fin 256,(m.val ||| 128)=m.val % 128+128:=by decide +kernel
theorem elem_or (n:Nat):Value.int .u8 (Go.bits .or .u8 (IntKind.u8.wrap (n:Int)) (128:Int))=vB (UInt8.ofNat (n % 128+128)):=by
 have e1:IntKind.u8.wrap (n:Int)=((n % 256:Nat):Int):=by rw [wU8];omega
 have e2:(128:Int)=((128:Nat):Int):=rfl
 rw [e1,e2,bits_or rfl (by simp [IntKind.bits];omega) (by simp [IntKind.bits]),← vB_lit (by omega)]
 have:=or128 ⟨n % 256,by omega⟩
 simp only at this
 rw [this]
 congr 1
 omega
theorem elem_low {n:Nat} (h:n<128):Value.int .u8 (IntKind.u8.wrap (n:Int))=vB (UInt8.ofNat n):=by
 rw [wU8_id (by omega) (by omega),vB_lit (by omega)]
theorem elem_mod (n:Nat):Value.int .u8 (IntKind.u8.wrap ((IntKind.u8.wrap (Int.tmod (n:Int) (128:Int)))+(128:Int)))=vB (UInt8.ofNat (n % 128+128)):=by
 have e1:Int.tmod (n:Int) (128:Int)=((n % 128:Nat):Int):=rfl
 rw [e1,wU8_id (x:=((n % 128:Nat):Int)) (by omega) (by omega),wU8_id (by omega) (by omega),← vB_lit (by omega)]
 congr 1
theorem joined_ok {w:World} {b c:Sl} {l m:List UInt8} (hb:RdB w b l) (hc:RdB w c m) (hl:l.length+m.length≤140737488355328) {K:Sl→World→Prop}
  (hK:∀ r w',Keep w w'→OwnB w' w.heap.size r (l++m)→K r w'):C.vint_joined b c w K:=by
 have h1:=hb.len
 have h2:=hc.len
 unfold C.vint_joined
 refine make0B (c:=l.length+m.length) (by rw [wI64 (by omega) (by omega),h1,h2];rfl) (Keep.refl w) (Nat.le_refl _) hl fun r0 w1 k1 o1=>?_
 refine appB k1 k1.size o1 (hb.keep k1) (by simp;omega) fun r1 w2 k2 o2=>?_
 refine appB k2 k2.size o2 (hc.keep k2) (by simp;omega) fun r2 w3 k3 o3=>?_
 exact hK r2 w3 k3 (by simpa using o3)
theorem rjoined_ok {w:World} {b c:Sl} {l m:List UInt8} (hb:RdB w b l) (hc:RdB w c m) (hl:l.length+m.length≤140737488355328) {K:Sl→World→Prop}
  (hK:∀ r w',Keep w w'→OwnB w' w.heap.size r (l++m)→K r w'):C.tocsinref01_joined b c w K:=by
 unfold C.tocsinref01_joined
 refine appB (Keep.refl w) (Nat.le_refl _) (OwnB.nil _ _) hb (by simp;omega) fun r1 w2 k2 o2=>?_
 refine appB k2 k2.size o2 (hc.keep k2) (by simp;omega) fun r2 w3 k3 o3=>?_
 exact hK r2 w3 k3 (by simpa using o3)
theorem putU_ok {w0:World} {b:Sl} {l:List UInt8} {n:Nat} (hn:n<18446744073709551616) (hb:RdB w0 b l) (hl:l.length≤140737488355300) {K:Sl→World→Prop}
  (hK:∀ r w',Keep w0 w'→OwnB w' w0.heap.size r (l++putU n)→K r w'):C.vint_PutU b (n:Int) w0 K:=by
 unfold C.vint_PutU
 refine C.vint_PutU.L5_ind fun X hX=>?_
 have key:∀ (n:Nat) (pre:List UInt8) (c:Sl) (w:World),n<18446744073709551616→(pre++putU n).length≤10→Keep w0 w→OwnB w w0.heap.size c pre →
   (∀ r w',Keep w0 w'→OwnB w' w0.heap.size r (l++(pre++putU n))→K r w')→X b (n:Int) c w:=by
  intro n
  induction n using Nat.strongRecOn with
  | _ n ih =>
   intro pre c w hn hlen hk ho hK
   refine hX _ _ _ _ ?_
   unfold C.vint_PutU.S7
   have hpre:pre.length≤10:=by simp at hlen;omega
   refine cond_d (fun h=>?_) (fun h=>?_)
   ·have h':¬ n<128:=by omega
    rw [putU_ge h'] at hlen hK
    refine pushB (m:=[UInt8.ofNat (n % 128+128)]) hk hk.size ho (by rw [elem_or];rfl) (by rfl) (by omega) fun r w' k1 k2=>?_
    refine ⟨by decide,?_⟩
    have e:shr .u64 (n:Int) (7:Int)=((n / 128:Nat):Int):=by
     have:=shr_nat .u64 (n:Int) 7 (by decide)
     rw [show ((7:Nat):Int)=(7:Int) from rfl] at this
     rw [this];omega
    rw [e]
    refine ih (n / 128) (by omega) _ r w' (by omega) (by simpa using hlen) k1 k2 fun r w' k o=>hK r w' k (by simpa using o)
   ·have h':n<128:=by omega
    rw [putU_lt h'] at hK
    unfold C.vint_PutU.S2
    refine pushB (m:=[UInt8.ofNat n]) hk hk.size ho (by rw [elem_low h'];rfl) (by rfl) (by omega) fun r w' k1 k2=>?_
    refine joined_ok (hb.keep k1) k2.rd (by simp;omega) fun r w2 k3 o3=>?_
    exact hK r w2 (Keep.trans k1 k3) (o3.mono k1.size)
 exact key n [] nilS w0 hn (by simpa using putU_len64 hn) (Keep.refl _) (OwnB.nil _ _) (by simpa using hK)
theorem rputU_ok {w0:World} {b:Sl} {l:List UInt8} {n:Nat} (hn:n<18446744073709551616) (hb:RdB w0 b l) (hl:l.length≤140737488355300) {K:Sl→World→Prop}
  (hK:∀ r w',Keep w0 w'→OwnB w' w0.heap.size r (l++putU n)→K r w'):C.tocsinref01_PutU b (n:Int) w0 K:=by
 unfold C.tocsinref01_PutU
 refine C.tocsinref01_PutU.L5_ind fun X hX=>?_
 have key:∀ (n:Nat) (pre:List UInt8) (c:Sl) (w:World),n<18446744073709551616→(pre++putU n).length≤10→Keep w0 w→OwnB w w0.heap.size c pre →
   (∀ r w',Keep w0 w'→OwnB w' w0.heap.size r (l++(pre++putU n))→K r w')→X b (n:Int) c w:=by
  intro n
  induction n using Nat.strongRecOn with
  | _ n ih =>
   intro pre c w hn hlen hk ho hK
   refine hX _ _ _ _ ?_
   unfold C.tocsinref01_PutU.S7
   have hpre:pre.length≤10:=by simp at hlen;omega
   refine cond_d (fun h=>?_) (fun h=>?_)
   ·have h':¬ n<128:=by omega
    rw [putU_ge h'] at hlen hK
    refine ⟨by decide,?_⟩
    refine pushB (m:=[UInt8.ofNat (n % 128+128)]) hk hk.size ho (by rw [elem_mod];rfl) (by rfl) (by omega) fun r w' k1 k2=>?_
    refine ⟨by decide,?_⟩
    have e:IntKind.u64.wrap (Int.tdiv (n:Int) (128:Int))=((n / 128:Nat):Int):=by
     have e1:Int.tdiv (n:Int) (128:Int)=((n / 128:Nat):Int):=rfl
     rw [e1,wU64_id (by omega) (by omega)]
    rw [e]
    refine ih (n / 128) (by omega) _ r w' (by omega) (by simpa using hlen) k1 k2 fun r w' k o=>hK r w' k (by simpa using o)
   ·have h':n<128:=by omega
    rw [putU_lt h'] at hK
    unfold C.tocsinref01_PutU.S2
    refine pushB (m:=[UInt8.ofNat n]) hk hk.size ho (by rw [elem_low h'];rfl) (by rfl) (by omega) fun r w' k1 k2=>?_
    refine rjoined_ok (hb.keep k1) k2.rd (by simp;omega) fun r w2 k3 o3=>?_
    exact hK r w2 (Keep.trans k1 k3) (o3.mono k1.size)
 exact key n [] nilS w0 hn (by simpa using putU_len64 hn) (Keep.refl _) (OwnB.nil _ _) (by simpa using hK)
end Go.Proofs.YtmfgmcajelmgbaaGreatDoor.Vint



namespace Go.Proofs.YtmfgmcajelmgbaaGreatDoor.Lab
open Go Vm Num Mem Utf Lib Vint
variable {ω ω' : Tg} {w w' w0 : World}
theorem putText_ok {b:Sl} {l:List UInt8} {s:ByteArray} (hb:RdB w b l) (hl:l.length+s.size≤140737488000000) {K:Sl→World→Prop}
  (hK:∀ r w',Keep w w'→OwnB w' w.heap.size r (l++(putU s.size++Utf.bytes s))→K r w'):C.vint_PutText b s w K:=by
 have hz:(Utf.bytes s).length=s.size:=(size_eq s).symm
 have hp:=putU_len64 (n:=s.size) (by omega)
 unfold C.vint_PutText
 rw [wU64_id (by omega) (by omega)]
 refine putU_ok (by omega) hb (by omega) fun r w1 k1 o1=>?_
 refine convSB fun t w2 k2 o2=>?_
 refine joined_ok (Own.keep o1 k2).rd o2 (by simp only [List.length_append];omega) fun r3 w3 k3 o3=>?_
 have k12:=Keep.trans k1 k2
 exact hK r3 w3 (Keep.trans k12 k3) (by have:=o3.mono k12.size;simpa using this)
theorem szB (s:ByteArray):s.size=(Utf.bytes s).length:=size_eq s
def txt (s:ByteArray):List UInt8:=putU s.size++Utf.bytes s
def labB (x:Lb):List UInt8:=txt x.1++txt x.2
def put (l:List Lb):List UInt8:=putU l.length++l.flatMap labB
theorem named_len {l:List UInt8} {m:Nat} {c:Bool} (h:namedB l m c=true):l.length≤m:=by
 unfold namedB at h
 simp only [Bool.and_eq_true,decide_eq_true_eq] at h
 exact h.2.1
theorem valE_len {l:List UInt8} (h:valE l=0):l.length≤256:=by
 unfold valE at h
 split at h
 ·cases h
 ·split at h
  ·cases h
  ·omega
theorem rt_short {l:List Lb} (h:(rt l).1=0):l.length≤16∧∀ x∈l,x.1.size≤64∧x.2.size≤256:=by
 unfold rt at h
 split at h
 ·exact absurd (show (8:Int)=0 from h) (by decide)
 ·refine ⟨by omega,?_⟩
  have key:∀ (r:List Lb) (p:Option ByteArray) (i:Nat),(rtGo p r i).1=0→∀ x∈r,x.1.size≤64∧x.2.size≤256:=by
   intro r
   induction r with
   | nil=>intro p i _ x hx;cases hx
   | cons y r ih =>
    intro p i h x hx
    rw [rtGo] at h
    split at h
    ·exact absurd (show (40:Int)=0 from h) (by decide)
    ·rename_i h1
     split at h
     ·rename_i h2;exact absurd h h2
     ·rename_i h2
      split at h
      ·exact absurd (show (3:Int)=0 from h) (by decide)
      ·rcases List.mem_cons.1 hx with rfl | hx
       ·have a:=named_len (by simpa using h1:namedB (Utf.bytes x.1) 64 false=true)
        have b:=valE_len (by simpa using h2)
        have e1:=szB x.1
        have e2:=szB x.2
        exact ⟨by omega,by omega⟩
       ·exact ih _ _ h x hx
  exact key l none 0 h
theorem labB_len {x:Lb} (h:x.1.size≤64∧x.2.size≤256):(labB x).length≤340:=by
 have e1:=szB x.1
 have e2:=szB x.2
 have p1:=putU_len64 (n:=x.1.size) (by omega)
 have p2:=putU_len64 (n:=x.2.size) (by omega)
 simp only [labB,txt,List.length_append]
 omega
theorem flat_len:∀ (l:List Lb),(∀ x∈l,x.1.size≤64∧x.2.size≤256)→(l.flatMap labB).length≤340*l.length
 | [],_=>by simp
 | x::l,h=>by
  have a:=labB_len (h x (List.mem_cons_self ..))
  have b:=flat_len l fun y hy=>h y (List.mem_cons_of_mem _ hy)
  simp only [List.flatMap_cons,List.length_append,List.length_cons]
  omega
theorem put_ok {s:Sl} {m:List Lb} (ht:UTab w0) (hs:Rd w0 s 2 (labs m)) (hr:(rt m).1=0) {K:Sl→Int→World→Prop} (hK:∀ r w',Keep w0 w'→OwnB w' w0.heap.size r (put m)→K r 0 w'):C.labels_Put nilS s w0 K:=by
 have hsn:s.n=m.length:=by have:=hs.2.1;rw [labs_len] at this;omega
 obtain ⟨h16,hsh⟩:=rt_short hr
 unfold C.labels_Put C.labels_right
 refine right_ok ht hs fun w1 k1=>?_
 refine cond_f (by rw [hr];rfl) ?_
 rw [wU64_id (by omega) (by omega),hsn]
 refine putU_ok (l:=[]) (by omega) (Rd.nil w1 1) (by decide) fun r w2 k2 o2=>?_
 unfold C.labels_Put.S9
 have k02:=Keep.trans k1 k2
 have hp:=putU_len64 (n:=m.length) (by omega)
 refine C.labels_Put.L5_ind fun X hX=>?_
 have key:∀ (d i:Nat) (q:Sl) (w:World),i+d=m.length→Keep w0 w→OwnB w w0.heap.size q (putU m.length++(m.take i).flatMap labB)→X q s ((s.n:Nat):Int) (i:Int) w:=by
  intro d
  induction d with
  | zero =>
   intro i q w hi k o
   refine hX _ _ _ _ _ ?_
   unfold C.labels_Put.S7 C.labels_Put.S2
   rw [List.take_of_length_le (by omega)] at o
   exact cond_d (fun h=>by omega) (fun _=>hK q w k o)
  | succ d ih =>
   intro i q w hi k o
   have him:i<m.length:=by omega
   refine hX _ _ _ _ _ ?_
   unfold C.labels_Put.S7
   refine cond_d (fun _=>?_) (fun h=>by omega)
   have hx:m[i]?=some m[i]:=List.getElem?_eq_getElem him
   refine rdL_at (hs.keep k) (k:=i) rfl hx fun a hc0 hc1=>cS_at hc0<|cS_at hc1 ?_
   refine new_T (ω:=fun _=>0) 7 fun g ω2 w2 k2 b2=>?_
   refine st_T b2 (by simp) fun ω3 w3 k3 b3=>?_
   refine st_TA b3 (by simp) fun ω4 w4 k4 b4=>?_
   have kT:=((Top.init w).stp ((k2.non (Mem.One 7)).trans (k3.trans k4))).k
   have kd:=drew_stp ω4 w4
   have bd:=b4.stp kd
   have k5:=Keep.trans kT kd.keep
   refine cS_at (b:=m[i].1) (by rw [bd.cell];rfl)<|cS_at (b:=m[i].2) (by rw [addr_add,bd.cell];rfl) ?_
   have hsx:=hsh _ (List.getElem_mem him)
   have hfl:=flat_len (m.take i) fun y hy=>hsh y (List.mem_of_mem_take hy)
   rw [List.length_take,Nat.min_eq_left (by omega)] at hfl
   have e1:=szB m[i].1
   have p1:=putU_len64 (n:=m[i].1.size) (by omega)
   refine putText_ok (Own.keep o k5).rd (by rw [List.length_append];omega) fun r1 w5 k6 o5=>⟨bd.sameA (k6.stp0 ω4),?_⟩
   refine putText_ok o5.rd (by simp only [List.length_append];omega) fun r2 w6 k7 o6=>?_
   rw [wI64 (by omega) (by omega),show (i:Int)+1=((i+1:Nat):Int) by omega]
   have k57:=Keep.trans k (Keep.trans k5 (Keep.trans k6 k7))
   refine ih (i+1) r2 w6 (by omega) k57 ?_
   have ef:(m.take (i+1)).flatMap labB=(m.take i).flatMap labB++labB m[i]:=by
    rw [List.take_add_one,hx,List.flatMap_append];simp
   rw [ef]
   have o7:=o6.mono (Keep.trans k (Keep.trans k5 k6)).size
   simpa only [labB,txt,List.append_assoc] using o7
 refine key m.length 0 r w2 (by omega) k02 ?_
 simpa using o2.mono k1.size
end Go.Proofs.YtmfgmcajelmgbaaGreatDoor.Lab

namespace Go.Proofs.YtmfgmcajelmgbaaGreatDoor.Lab
open Go Vm Go.RowKit Num Mem Utf Lib
variable {ω ω' : Tg} {w w' w0 : World}
structure Cmp {α:Type} (c:α→α→Int):Prop where
 vals:∀ x y,c x y = -1∨c x y=0∨c x y=1
 eq:∀ x y,c x y=0↔x=y
 anti:∀ x y,c y x =-c x y
 trans:∀ x y z,c x y<0→c y z<0→c x z<0
def lexL {α:Type} (c:α→α→Int):List α→List α→Int
 | [],[]=>0
 | [],_::_=>-1
 | _::_,[]=>1
 | a::xs,b::bs=>if c a b≠0 then c a b else lexL c xs bs
def pairC {α β:Type} (c:α→α→Int) (d:β→β→Int) (x y:α × β):Int:=if c x.1 y.1≠0 then c x.1 y.1 else d x.2 y.2
section
variable {α β : Type} {c : α → α → Int} {d : β → β → Int}
theorem Cmp.self (h:Cmp c) (x:α):c x x=0:=(h.eq x x).2 rfl
theorem Cmp.lex (h:Cmp c):Cmp (lexL c):=by
 refine ⟨?_,?_,?_,?_⟩
 ·intro x
  induction x with
  | nil=>intro y;cases y<;>simp [lexL]
  | cons a xs ih =>
   intro y
   cases y with
   | nil=>simp [lexL]
   | cons b bs =>
    unfold lexL
    split
    ·exact h.vals a b
    ·exact ih bs
 ·intro x
  induction x with
  | nil=>intro y;cases y<;>simp [lexL]
  | cons a xs ih =>
   intro y
   cases y with
   | nil=>simp [lexL]
   | cons b bs =>
    unfold lexL
    split
    ·rename_i h0
     constructor
     ·intro e;exact absurd e h0
     ·intro e;cases e;exact absurd (h.self a) h0
    ·rename_i h0
     have h0:c a b=0:=by simpa using h0
     have e:=(h.eq a b).1 h0
     subst e
     rw [ih bs];simp
 ·intro x
  induction x with
  | nil=>intro y;cases y<;>simp [lexL]
  | cons a xs ih =>
   intro y
   cases y with
   | nil=>simp [lexL]
   | cons b bs =>
    unfold lexL
    rw [h.anti a b,ih bs]
    split<;>split<;>omega
 ·intro x
  induction x with
  | nil=>intro y z h1 h2;cases y with
   | nil=>simp [lexL] at h1
   | cons b bs=>cases z with
    | nil=>simp [lexL] at h2
    | cons d ds=>simp [lexL]
  | cons a xs ih=>intro y z h1 h2;cases y with
   | nil=>simp [lexL] at h1
   | cons b bs=>cases z with
    | nil=>simp [lexL] at h2
    | cons d ds =>
     unfold lexL at h1 h2 ⊢
     by_cases e1:c a b=0
     ·have:=(h.eq a b).1 e1
      subst this
      rw [if_neg (by simpa using e1)] at h1
      by_cases e2:c a d=0
      ·rw [if_neg (by simpa using e2)] at h2 ⊢
       exact ih bs ds h1 h2
      ·rw [if_pos e2] at h2 ⊢;exact h2
     ·rw [if_pos e1] at h1
      by_cases e2:c b d=0
      ·have:=(h.eq b d).1 e2
       subst this
       rw [if_pos e1];exact h1
      ·rw [if_pos e2] at h2
       have:=h.trans a b d h1 h2
       rw [if_pos (by omega)];exact this
theorem Cmp.pair (h:Cmp c) (k:Cmp d):Cmp (pairC c d):=by
 refine ⟨?_,?_,?_,?_⟩
 ·intro x y
  unfold pairC
  split
  ·exact h.vals _ _
  ·exact k.vals _ _
 ·rintro ⟨x1,x2⟩ ⟨y1,y2⟩
  unfold pairC
  dsimp only
  by_cases e1:c x1 y1=0
  ·have:=(h.eq x1 y1).1 e1
   subst this
   rw [if_neg (by simpa using e1),k.eq];simp
  ·rw [if_pos e1]
   constructor
   ·intro e;exact absurd e e1
   ·intro e;cases e;exact absurd (h.self x1) e1
 ·intro x y
  unfold pairC
  rw [h.anti x.1 y.1,k.anti x.2 y.2]
  split<;>split<;>omega
 ·rintro ⟨x1,x2⟩ ⟨y1,y2⟩ ⟨z1,z2⟩ h1 h2
  unfold pairC at h1 h2 ⊢
  dsimp only at h1 h2 ⊢
  by_cases e1:c x1 y1=0
  ·have:=(h.eq _ _).1 e1
   subst this
   rw [if_neg (by simpa using e1)] at h1
   by_cases e2:c x1 z1=0
   ·rw [if_neg (by simpa using e2)] at h2 ⊢
    exact k.trans _ _ _ h1 h2
   ·rw [if_pos e2] at h2 ⊢;exact h2
  ·rw [if_pos e1] at h1
   by_cases e2:c y1 z1=0
   ·have:=(h.eq _ _).1 e2
    subst this
    rw [if_pos e1];exact h1
   ·rw [if_pos e2] at h2
    have:=h.trans _ _ _ h1 h2
    rw [if_pos (by omega)];exact this
end
def cU (a b:UInt8):Int:=if a<b then -1 else if b<a then 1 else 0
theorem cU_cmp:Cmp cU:=by
 refine ⟨fun x y=>?_,fun x y=>?_,fun x y=>?_,fun x y z h1 h2=>?_⟩
 ·unfold cU;split;· simp
  split<;>simp
 ·unfold cU
  simp only [UInt8.lt_iff_toNat_lt,← UInt8.toNat_inj]
  split
  ·simp;omega
  ·split
   ·simp;omega
   ·simp;omega
 ·unfold cU
  simp only [UInt8.lt_iff_toNat_lt]
  split<;>split<;>first | omega | (split<;>omega) | rfl
 ·unfold cU at *
  simp only [UInt8.lt_iff_toNat_lt] at *
  split at h1
  ·split at h2
   ·rw [if_pos (by omega)];omega
   ·split at h2<;>omega
  ·split at h1<;>omega
theorem cb_lex:∀ a b:List UInt8,compareBytes a b=lexL cU a b
 | [],[]=>rfl
 | [],_::_=>rfl
 | _::_,[]=>rfl
 | a::xs,b::bs=>by
  unfold compareBytes lexL cU
  rw [cb_lex xs bs]
  split
  ·rfl
  ·split
   ·rfl
   ·rfl
def cB (a b:ByteArray):Int:=compareBytes a.data.toList b.data.toList
theorem cB_cmp:Cmp cB:=by
 have h:=cU_cmp.lex
 refine ⟨fun x y=>?_,fun x y=>?_,fun x y=>?_,fun x y z h1 h2=>?_⟩
 ·unfold cB;rw [cb_lex];exact h.vals _ _
 ·unfold cB;rw [cb_lex,h.eq]
  constructor
  ·intro e
   have:=Array.toList_inj.1 e
   cases x;cases y;simp at this;rw [this]
  ·rintro rfl;rfl
 ·unfold cB;rw [cb_lex,cb_lex];exact h.anti _ _
 ·unfold cB at *;rw [cb_lex] at *;exact h.trans _ _ _ h1 h2
def cL:Lb→Lb→Int:=pairC cB cB
def cmpL:List Lb→List Lb→Int:=lexL cL
theorem cL_cmp:Cmp cL:=cB_cmp.pair cB_cmp
theorem cmpL_cmp:Cmp cmpL:=cL_cmp.lex
theorem less_cb:∀ a b:List UInt8,Op.bytesLess a b=decide (compareBytes a b = -1)
 | [],[]=>by simp [Op.bytesLess,compareBytes]
 | [],_::_=>by simp [Op.bytesLess,compareBytes]
 | _::_,[]=>by simp [Op.bytesLess,compareBytes]
 | a::xs,b::bs=>by
  unfold Op.bytesLess compareBytes
  rw [less_cb xs bs]
  simp only [UInt8.lt_iff_toNat_lt]
  by_cases h1:a.toNat<b.toNat
  ·simp [h1]
  ·by_cases h2:b.toNat<a.toNat
   ·have:¬ a=b:=fun e=>by subst e;omega
    simp [h1,h2,this]
   ·have:a=b:=UInt8.toNat_inj.1 (by omega)
    subst this
    simp
theorem lessB (a b:ByteArray):Op.bytesLess a.toList b.toList=decide (cB a b = -1):=by
 rw [ByteArray.toList_eq,ByteArray.toList_eq,less_cb];rfl
theorem eqB (a b:ByteArray):(a.toList==b.toList)=decide (cB a b=0):=by
 rw [ByteArray.toList_eq,ByteArray.toList_eq]
 by_cases h:a=b
 ·subst h;simp [cB_cmp.self]
 ·rw [decide_eq_false (fun e=>h ((cB_cmp.eq a b).1 e)),beq_eq_false_iff_ne]
  intro e
  refine h ?_
  cases a;cases b
  simpa using e
def KD (w w':World):Prop:=Keep w w'∧w'.drawn=w.drawn
theorem KD.refl (w:World):KD w w:=⟨Keep.refl w,rfl⟩
theorem KD.trans {a b c:World} (h:KD a b) (k:KD b c):KD a c:=⟨Keep.trans h.1 k.1,k.2.trans h.2⟩
theorem newD {e:TypeId} {o:Array Value} {Z:Addr→World→Prop} (hK:∀ g w',KD w w'→w.heap.size≤g→Blk w' g e o.toList→Z ⟨g,0,none⟩ w'):G.new (.cells o e) w Z :=
 new_at (hK _ _ ⟨Keep.alloc _ _,rfl⟩ (Nat.le_refl _) (Blk.new w e o))
theorem stD {g j:Nat} {e:TypeId} {cs:List Value} {w1:World} (hg:w.heap.size≤g) (k:KD w w1) (hb:Blk w1 g e cs) {v:Value} (hj:j<cs.length) {Z:World→Prop} (hK:∀ w',KD w w'→Blk w' g e (cs.set j v)→Z w'):G.st ⟨g,j,none⟩ v w1 Z:=by
 refine st_at (by rw [hb.cell,List.getElem?_eq_getElem hj]) (hb.frozen j) (hK _ ⟨⟨k.1.os,k.1.tape,k.1.output,?_,fun i hi=>?_⟩,k.2⟩ (hb.set j v))
 ·have:=k.1.size;simpa [World.setCell] using this
 ·rw [Below.heap_setCell _ _ _ _ (show i≠g by omega)];exact k.1.block i hi
theorem stDA {g i j:Nat} {e:TypeId} {cs:List Value} {w1:World} (hg:w.heap.size≤g) (k:KD w w1) (hb:Blk w1 g e cs) {v:Value} (hj:i+j<cs.length) {Z:World→Prop} (hK:∀ w',KD w w'→Blk w' g e (cs.set (i+j) v)→Z w'):G.st (Addr.add ⟨g,i,none⟩ j) v w1 Z:=by
 rw [addr_add];exact stD hg k hb hj hK
theorem scmp_ok {a b:ByteArray} {K:Int→World→Prop} (hK:K (cB a b) w):C.strings_Compare a b w K:=hK
theorem cmp1_ok {x y:Lb} {K:Int→World→Prop} (hK:∀ w',KD w w'→K (cL x y) w'):C.labels_Compare_1 x.1 x.2 y.1 y.2 w K:=by
 unfold C.labels_Compare_1
 refine newD fun g w1 k1 _ b1=>newD fun g2 w2 k2 _ b2=>?_
 have k12:=k1.trans k2
 have b12:=b1.keep k2.1
 refine cS_at (b:=x.1) (by rw [b12.cell];rfl)<|cS_at (b:=y.1) (by rw [b2.cell];rfl)<|scmp_ok ?_
 have:=hK w2 k12
 unfold cL pairC at this
 refine cond_ne (fun h=>?_) (fun h=>?_)
 ·rw [if_pos h] at this;exact this
 ·rw [if_neg (by simpa using h)] at this
  exact cS_at (b:=x.2) (by rw [addr_add,b12.cell];rfl)<|cS_at (b:=y.2) (by rw [addr_add,b2.cell];rfl)<|scmp_ok this
theorem rdL_n {s:Sl} {m:List Lb} (h:Rd w s 2 (labs m)):s.n=m.length:=by have:=h.2.1;rw [labs_len] at this;omega
theorem lexL_nil_l {α:Type} {c:α→α→Int} (y:List α):lexL c [] y=if y.length=0 then 0 else -1:=by cases y<;>rfl
theorem compare_ok {a b:Sl} {x y:List Lb} (ha:Rd w0 a 2 (labs x)) (hb:Rd w0 b 2 (labs y)) (hx:x.length≤9000000000000000000) {K:Int→World→Prop} (hK:∀ w',KD w0 w'→K (cmpL x y) w'):C.labels_Compare a b w0 K:=by
 have han:=rdL_n ha
 have hbn:=rdL_n hb
 unfold C.labels_Compare C.slices_CompareFunc_Label_Label_Label_Label C.slices_CompareFunc_Label_Label_Label_Label.S9
 refine C.slices_CompareFunc_Label_Label_Label_Label.L5_ind fun X hX=>?_
 have key:∀ (d i:Nat) (w:World),i+d=x.length→i≤y.length→KD w0 w→(∀ w',KD w0 w'→K (lexL cL (x.drop i) (y.drop i)) w')→X a b (.func (.func 135) #[] #[]) a ((a.n:Nat):Int) (i:Int) w:=by
  intro d
  induction d with
  | zero =>
   intro i w hi hy k hK
   refine hX _ _ _ _ _ _ _ ?_
   unfold C.slices_CompareFunc_Label_Label_Label_Label.S7 C.slices_CompareFunc_Label_Label_Label_Label.S2
   have:=hK w k
   rw [List.drop_of_length_le (by omega),lexL_nil_l,List.length_drop] at this
   refine cond_d (fun h=>by omega) (fun _=>cond_d (fun h=>?_) (fun h=>?_))
   ·rw [if_neg (by omega)] at this;exact this
   ·rw [if_pos (by omega)] at this;exact this
  | succ d ih =>
   intro i w hi hy k hK
   refine hX _ _ _ _ _ _ _ ?_
   unfold C.slices_CompareFunc_Label_Label_Label_Label.S7
   have hxi:x[i]?=some x[i]:=List.getElem?_eq_getElem (by omega)
   refine cond_d (fun _=>?_) (fun h=>by omega)
   refine rdL_at (ha.keep k.1) (k:=i) rfl hxi fun p p0 p1=>cS_at p0<|cS_at p1 ?_
   refine newD fun g1 w1 k1 hg1 b1=>stD hg1 k1 b1 (by simp) fun w2 k2 b2=>stDA hg1 k2 b2 (by simp) fun w3 k3 b3=>?_
   refine cond_d (fun h=>?_) (fun h=>?_)
   ·have:=hK w3 (k.trans k3)
    rw [List.drop_eq_getElem_cons (by omega),List.drop_of_length_le (l:=y) (by omega)] at this
    exact this
   have hyi:y[i]?=some y[i]:=List.getElem?_eq_getElem (by omega)
   have k03:=k.trans k3
   refine rdL_at (hb.keep k03.1) (k:=i) rfl hyi fun q q0 q1=>cS_at q0<|cS_at q1 ?_
   refine newD fun g4 w4 k4 hg4 b4=>stD hg4 k4 b4 (by simp) fun w5 k5 b5=>stDA hg4 k5 b5 (by simp) fun w6 k6 b6=>?_
   have b36:=b3.keep k6.1
   have k06:=k03.trans k6
   refine cS_at (b:=x[i].1) (by rw [b36.cell];rfl)<|cS_at (b:=x[i].2) (by rw [addr_add,b36.cell];rfl)<|cS_at (b:=y[i].1) (by rw [b6.cell];rfl)<|cS_at (b:=y[i].2) (by rw [addr_add,b6.cell];rfl) ?_
   show C.labels_Compare_1 x[i].1 x[i].2 y[i].1 y[i].2 w6 _
   refine cmp1_ok fun w7 k7=>?_
   have k07:=k06.trans k7
   rw [List.drop_eq_getElem_cons (by omega),List.drop_eq_getElem_cons (l:=y) (by omega)] at hK
   unfold lexL at hK
   refine show G.cond _ _ _ from cond_ne (fun h=>?_) (fun h=>?_)
   ·have:=hK w7 k07
    rw [if_pos h] at this;exact this
   ·rw [if_neg (by simpa using h)] at hK
    rw [wI64 (by omega) (by omega),show (i:Int)+1=((i+1:Nat):Int) by omega]
    exact ih (i+1) w7 (by omega) (by omega) k07 hK
 exact key x.length 0 w0 (by omega) (by omega) (KD.refl w0) hK
theorem rside_ok {a b:ByteArray} {K:Int→World→Prop} (hK:K (cB a b) w):C.tocsinref04_side a b w K:=by
 unfold C.tocsinref04_side
 rw [lessB,eqB]
 refine cond_d (fun h=>by rw [h] at hK;exact hK) (fun h=>?_)
 rw [decide_eq_false h,Bool.false_or]
 rcases cB_cmp.vals a b with e | e | e
 ·exact absurd e h
 ·rw [e] at hK ⊢
  exact cond_f rfl hK
 ·rw [e] at hK ⊢
  exact cond_t rfl hK
theorem rcmp_ok {a b:Sl} {x y:List Lb} (ha:Rd w0 a 2 (labs x)) (hb:Rd w0 b 2 (labs y)) (hx:x.length≤9000000000000000000) {K:Int→World→Prop} (hK:∀ w',Keep w0 w'→K (cmpL x y) w'):C.tocsinref04_Compare a b w0 K:=by
 have han:=rdL_n ha
 have hbn:=rdL_n hb
 unfold C.tocsinref04_Compare C.tocsinref04_Compare.S9
 refine C.tocsinref04_Compare.L5_ind fun X hX=>?_
 have key:∀ (d i:Nat) (w:World),i+d=x.length→i≤y.length→Keep w0 w→(∀ w',Keep w0 w'→K (lexL cL (x.drop i) (y.drop i)) w')→X a b (i:Int) w:=by
  intro d
  induction d with
  | zero =>
   intro i w hi hy k hK
   refine hX _ _ _ _ ?_
   unfold C.tocsinref04_Compare.S7 C.tocsinref04_Compare.S2
   have:=hK w k
   rw [List.drop_of_length_le (by omega),lexL_nil_l,List.length_drop] at this
   refine cond_d (fun h=>by omega) (fun _=>cond_d (fun h=>?_) (fun h=>cond_d (fun h2=>by omega) fun h2=>?_))
   ·rw [if_neg (by omega)] at this;exact this
   ·rw [if_pos (by omega)] at this;exact this
  | succ d ih =>
   intro i w hi hy k hK
   refine hX _ _ _ _ ?_
   unfold C.tocsinref04_Compare.S7 C.tocsinref04_Compare.S2
   have hxi:x[i]?=some x[i]:=List.getElem?_eq_getElem (by omega)
   refine cond_d (fun _=>?_) (fun h=>by omega)
   refine cond_d (fun h=>?_) (fun h=>?_)
   ·have hyi:y[i]?=some y[i]:=List.getElem?_eq_getElem (by omega)
    have kd:=Keep.trans k (Keep.drew w)
    rw [List.drop_eq_getElem_cons (by omega),List.drop_eq_getElem_cons (l:=y) (by omega)] at hK
    unfold lexL at hK
    have hc:cL x[i] y[i]=if cB x[i].1 y[i].1≠0 then cB x[i].1 y[i].1 else cB x[i].2 y[i].2:=rfl
    refine rdL_at (ha.keep kd) (k:=i) rfl hxi fun p p0 p1=>cS_at p0<|rdL_at (hb.keep kd) (k:=i) rfl hyi fun q q0 q1=>cS_at q0 ?_
    refine rside_ok<|cond_ne (fun h0=>?_) (fun h0=>?_)
    ·have:=hK _ kd
     have hc1:cL x[i] y[i]=cB x[i].1 y[i].1:=by rw [hc,if_pos h0]
     rw [hc1,if_pos h0] at this;exact this
    have kd2:=Keep.trans kd (Keep.drew _)
    have hc2:cL x[i] y[i]=cB x[i].2 y[i].2:=by rw [hc,if_neg (by simpa using h0)]
    rw [hc2] at hK
    refine rdL_at (ha.keep kd2) (k:=i) rfl hxi fun p p0 p1=>cS_at p1<|rdL_at (hb.keep kd2) (k:=i) rfl hyi fun q q0 q1=>cS_at q1 ?_
    refine rside_ok<|cond_ne (fun h1=>?_) (fun h1=>?_)
    ·have:=hK _ kd2
     rw [if_pos h1] at this;exact this
    rw [if_neg (by simpa using h1)] at hK
    rw [wI64 (by omega) (by omega),show (i:Int)+1=((i+1:Nat):Int) by omega]
    exact ih (i+1) _ (by omega) (by omega) kd2 hK
   ·have:=hK w k
    rw [List.drop_eq_getElem_cons (by omega),List.drop_of_length_le (l:=y) (by omega)] at this
    exact cond_d (fun h=>by omega) (fun h=>cond_d (fun h2=>this) (fun h2=>by omega))
 exact key x.length 0 w0 (by omega) (by omega) (Keep.refl w0) hK
theorem rsame_ok {a b:Sl} {x y:List Lb} (ha:Rd w0 a 2 (labs x)) (hb:Rd w0 b 2 (labs y)) (hx:x.length≤9000000000000000000) {K:Bool→World→Prop} (hK:∀ w',Keep w0 w'→K (decide (x=y)) w'):C.tocsinref04_Same a b w0 K:=by
 unfold C.tocsinref04_Same
 refine rcmp_ok ha hb hx fun w' k=>?_
 have e:(cmpL x y==0)=decide (x=y):=by
  by_cases h:x=y
  ·rw [decide_eq_true h,beq_iff_eq];exact (cmpL_cmp.eq x y).2 h
  ·rw [decide_eq_false h,beq_eq_false_iff_ne];exact fun q=>h ((cmpL_cmp.eq x y).1 q)
 rw [e];exact hK w' k
end Go.Proofs.YtmfgmcajelmgbaaGreatDoor.Lab

namespace Go.Proofs.YtmfgmcajelmgbaaGreatDoor.Utf
open Go Vm Go.RowKit Num Mem Lib
set_option maxRecDepth 10000
theorem andc {p q:Prop} [Decidable p] [Decidable q] {T E:Prop} (hT:p→q→T) (hE:¬ (p∧q)→E):G.cond (decide p) (G.cond (decide q) T E) E :=
 cond_d (fun h=>cond_d (hT h) (fun h'=>hE fun x=>h' x.2)) (fun h=>hE fun x=>h x.1)
theorem and_i64 {x y:Nat} (hx:x<9223372036854775808) (hy:y<9223372036854775808):Go.bits .and .i64 (x:Int) (y:Int)=((x &&& y:Nat):Int):=by
 have e:(BitVec.ofNat 64 x &&& BitVec.ofNat 64 y).toNat=x &&& y:=by
  rw [BitVec.toNat_and,BitVec.toNat_ofNat,BitVec.toNat_ofNat,Nat.mod_eq_of_lt (by omega),Nat.mod_eq_of_lt (by omega)]
 have hlt:x &&& y<9223372036854775808:=Nat.and_lt_two_pow (n:=63) x hy
 unfold Go.bits
 simp only [ofInt_nat]
 refine Eq.trans (congrArg (fun t:Nat=>IntKind.i64.wrap (t:Int)) e) ?_
 rw [wI64 (by omega) (by omega)]
theorem and63 {b:Nat} (h:b<256):IntKind.i64.wrap (Go.bits .and .u8 (b:Int) (63:Int))=((b % 64:Nat):Int):=by
 rw [show (63:Int)=((63:Nat):Int) from rfl,bits_and rfl (by simp only [IntKind.bits];omega) (by decide),show b &&& 63=b % 64 from Nat.and_two_pow_sub_one_eq_mod b 6,wI64 (by omega) (by omega)]
theorem top2:∀ b:Fin 256,(b.val &&& 192=128)=(128≤b.val∧b.val≤191):=by decide +kernel
theorem and192 {b:Nat} (h:b<256):Go.bits .and .u8 (b:Int) (192:Int)=((b &&& 192:Nat):Int) :=
 bits_and rfl (by simp only [IntKind.bits];omega) (by decide)
theorem cls1:∀ c:Fin 256,194≤c.val→c.val<224→firstT c.val % 8=2∧accLo (firstT c.val / 16)=128∧accHi (firstT c.val / 16)=191:=by decide +kernel
theorem cls2:∀ c:Fin 256,224≤c.val→c.val<240→firstT c.val % 8=3∧(c.val=224∧accLo (firstT c.val / 16)=160∨c.val≠224∧accLo (firstT c.val / 16)=128)∧(c.val=237∧accHi (firstT c.val / 16)=159∨c.val≠237∧accHi (firstT c.val / 16)=191):=by decide +kernel
theorem cls3:∀ c:Fin 256,240≤c.val→c.val<245→firstT c.val % 8=4∧(c.val=240∧accLo (firstT c.val / 16)=144∨c.val≠240∧accLo (firstT c.val / 16)=128)∧(c.val=244∧accHi (firstT c.val / 16)=143∨c.val≠244∧accHi (firstT c.val / 16)=191):=by decide +kernel
theorem cls0:∀ c:Fin 256,128≤c.val→(c.val<194∨245≤c.val)→firstT c.val % 8=1:=by decide +kernel
theorem ck2 (d b1 b2 b3 lo hi:Nat):checkN d b1 b2 b3 2 lo hi=if d<2∨b1<lo∨hi<b1 then none else some 2:=rfl
theorem ck3 (d b1 b2 b3 lo hi:Nat):checkN d b1 b2 b3 3 lo hi=if d<3∨b1<lo∨hi<b1∨b2<128∨191<b2 then none else some 3:=rfl
theorem ck4 (d b1 b2 b3 lo hi:Nat):checkN d b1 b2 b3 4 lo hi=if d<4∨b1<lo∨hi<b1∨b2<128∨191<b2∨b3<128∨191<b3 then none else some 4:=rfl
theorem rutf_ok {s:ByteArray} {w:World} (hs:s.size≤140737488355300) {K:Bool→World→Prop} (hK:K (validD (bytes s)) w):C.tocsinref01_Utf8 s w K:=by
 have hlen:(bytes s).length=s.size:=(size_eq s).symm
 unfold C.tocsinref01_Utf8 C.tocsinref01_Utf8.S21
 refine C.tocsinref01_Utf8.L5_ind fun X hX=>?_
 have key:∀ (d i:Nat),s.size=i+d→K (validD ((bytes s).drop i)) w→X s (i:Int) w:=by
  intro d
  induction d using Nat.strongRecOn with
  | _ d ih =>
   intro i hi hK
   refine hX _ _ _ ?_
   unfold C.tocsinref01_Utf8.S19 C.tocsinref01_Utf8.S2
   refine cond_d (fun h0=>?_) (fun h0=>?_)
   ·have hpos:i<s.size:=by omega
    have hg:∀ j,((bytes s).drop i).getD j 0=(bytes s).getD (i+j) 0:=fun j=>by simp [List.getD_eq_getElem?_getD,List.getElem?_drop]
    have hdl:((bytes s).drop i).length=d:=by rw [List.length_drop,hlen];omega
    have hne:(bytes s).drop i≠[]:=fun e=>by rw [e] at hdl;simp at hdl;omega
    unfold C.tocsinref01_Utf8.S17
    refine ixS_at (k:=i) rfl hpos ?_
    have hc:=((bytes s).getD i 0).toNat_lt
    have v1:((bytes s).getD i 0).toNat<128→validD ((bytes s).drop i)=validD ((bytes s).drop (i+1)):=fun h=>by
     rw [List.drop_eq_getElem_cons (by omega),validD_cons _ _ (by
      have:(bytes s).getD i 0=(bytes s)[i]'(by omega):=by rw [List.getD_eq_getElem?_getD,List.getElem?_eq_getElem (by omega),Option.getD_some]
      rw [← this];exact h)]
    have v2:=fun h:128≤((bytes s).getD i 0).toNat=>validD_lead _ hne (by rw [hg,Nat.add_zero];exact h)
    simp only [hg,hdl,Nat.add_zero] at v2
    have h1:=((bytes s).getD (i+1) 0).toNat_lt
    have h2:=((bytes s).getD (i+2) 0).toNat_lt
    have h3:=((bytes s).getD (i+3) 0).toNat_lt
    rw [wI64 (x:=(((bytes s).getD i 0).toNat:Int)) (by omega) (by omega)]
    -- one round of the inner loop
    have round:∀ (Y:Cur C.tocsinref01_Utf8.g11),(∀ s_10 i_11 n_12 least_13 r_14 k_15 w,C.tocsinref01_Utf8.S13 K X Y s_10 i_11 n_12 least_13 r_14 k_15 w→Y s_10 i_11 n_12 least_13 r_14 k_15 w) →
      ∀ (n k r:Nat) (least:Int),k≤n→k≤3→r<1000000→(s.size≤i+k∨(((bytes s).getD (i+k) 0).toNat<128∨191<((bytes s).getD (i+k) 0).toNat)→K false w) →
      (¬ (s.size≤i+k)→128≤((bytes s).getD (i+k) 0).toNat→((bytes s).getD (i+k) 0).toNat≤191→Y s (i:Int) (n:Int) least ((r*64+((bytes s).getD (i+k) 0).toNat % 64:Nat):Int) ((k+1:Nat):Int) w) →
      Y s (i:Int) (n:Int) least (r:Int) (k:Int) w:=by
     intro Y hY n k r least hk hk3 hr hF hN
     refine hY _ _ _ _ _ _ _ ?_
     unfold C.tocsinref01_Utf8.S13
     refine cond_d (fun _=>?_) (fun h=>by omega)
     rw [wI64 (x:=(i:Int)+(k:Int)) (by omega) (by omega)]
     refine cond_d (fun h=>hF (.inl (by omega))) (fun h=>?_)
     have hb:=((bytes s).getD (i+k) 0).toNat_lt
     refine ixS_at (k:=i+k) (by omega) (by omega) ?_
     rw [and192 hb]
     have ht2:=top2 ⟨_,hb⟩
     simp only at ht2
     refine cond_ne (fun h'=>?_) (fun h'=>?_)
     ·refine hF (.inr ?_)
      have:¬ (((bytes s).getD (i+k) 0).toNat &&& 192=128):=fun e=>h' (by rw [e];rfl)
      rw [ht2] at this;omega
     ·have h'':((bytes s).getD (i+k) 0).toNat &&& 192=128:=by exact_mod_cast h'
      rw [ht2] at h''
      refine ixS_at (k:=i+k) (by omega) (by omega) ?_
      rw [and63 hb,wI64 (x:=(r:Int)*64) (by omega) (by omega),wI64 (by omega) (by omega),wI64 (by omega) (by omega),
       show (r:Int)*64+((((bytes s).getD (i+k) 0).toNat % 64:Nat):Int)=((r*64+((bytes s).getD (i+k) 0).toNat % 64:Nat):Int) by omega,show (k:Int)+1=((k+1:Nat):Int) by omega]
      exact hN (by omega) h''.1 h''.2
    have done:∀ (Y:Cur C.tocsinref01_Utf8.g11),(∀ s_10 i_11 n_12 least_13 r_14 k_15 w,C.tocsinref01_Utf8.S13 K X Y s_10 i_11 n_12 least_13 r_14 k_15 w→Y s_10 i_11 n_12 least_13 r_14 k_15 w) →
      ∀ (n r:Nat) (least:Nat),n≤3→i+n<s.size→((r<least∨r > 1114111∨(r ≥ 55296∧r<57344))→K false w) →
      (¬ (r<least∨r > 1114111∨(r ≥ 55296∧r<57344))→K (validD ((bytes s).drop (i+(n+1)))) w)→Y s (i:Int) (n:Int) (least:Int) (r:Int) ((n+1:Nat):Int) w:=by
     intro Y hY n r least hn hsz hF hN
     refine hY _ _ _ _ _ _ _ ?_
     unfold C.tocsinref01_Utf8.S13 C.tocsinref01_Utf8.S8
     refine cond_d (fun h=>by omega) (fun _=>?_)
     refine cond_d (fun h=>hF (.inl (by omega))) (fun q1=>?_)
     refine cond_d (fun h=>hF (.inr (.inl (by omega)))) (fun q2=>?_)
     refine andc (fun q3 q4=>hF (.inr (.inr (by omega)))) (fun q3=>?_)
     rw [wI64 (x:=(i:Int)+(n:Int)) (by omega) (by omega),wI64 (by omega) (by omega),show (i:Int)+(n:Int)+1=((i+(n+1):Nat):Int) by omega]
     exact ih (d-(n+1)) (by omega) (i+(n+1)) (by omega) (hN (by omega))
    refine cond_d (fun ha=>?_) (fun ha=>?_)
    ·rw [wI64 (by omega) (by omega),show (i:Int)+1=((i+1:Nat):Int) by omega]
     refine ih (d-1) (by omega) (i+1) (by omega) ?_
     rw [v1 (by omega)] at hK;exact hK
    have hv:=v2 (by omega)
    generalize hcc:((bytes s).getD i 0).toNat=c at *
    clear v1 v2
    refine andc (fun p1 p2=>?_) (fun p1=>andc (fun p3 p4=>?_) (fun p3=>andc (fun p5 p6=>?_) (fun p5=>?_)))
    ·obtain ⟨z1,z2,z3⟩:=cls1 ⟨c,hc⟩ (by simp only;omega) (by simp only;omega)
     simp only at z1 z2 z3
     rw [z1,ck2] at hv
     generalize accLo (firstT c / 16)=lo at *
     generalize accHi (firstT c / 16)=hi' at *
     rw [show Go.bits .and .i64 (c:Int) (31:Int)=((c % 32:Nat):Int) by rw [show (31:Int)=((31:Nat):Int) from rfl,and_i64 (by omega) (by omega),show c &&& 31=c % 32 from Nat.and_two_pow_sub_one_eq_mod c 5]]
     unfold C.tocsinref01_Utf8.S15
     refine C.tocsinref01_Utf8.L11_ind fun Y hY=>?_
     refine round Y hY 1 1 _ _ (by omega) (by omega) (by omega) (fun hF=>?_) (fun q1 q2 q3=>?_)
     ·rw [if_pos (by omega)] at hv
      have hv':validD ((bytes s).drop i)=false:=hv
      rw [hv'] at hK;exact hK
     refine done Y hY 1 _ 128 (by omega) (by omega) (fun hF=>?_) (fun hN=>?_)
     ·omega
     rw [if_neg (by omega)] at hv
     have hv':validD ((bytes s).drop i)=validD (((bytes s).drop i).drop 2):=hv
     rw [hv',List.drop_drop] at hK;exact hK
    ·obtain ⟨z1,z2,z3⟩:=cls2 ⟨c,hc⟩ (by simp only;omega) (by simp only;omega)
     simp only at z1 z2 z3
     rw [z1,ck3] at hv
     generalize accLo (firstT c / 16)=lo at *
     generalize accHi (firstT c / 16)=hi' at *
     rw [show Go.bits .and .i64 (c:Int) (15:Int)=((c % 16:Nat):Int) by rw [show (15:Int)=((15:Nat):Int) from rfl,and_i64 (by omega) (by omega),show c &&& 15=c % 16 from Nat.and_two_pow_sub_one_eq_mod c 4]]
     unfold C.tocsinref01_Utf8.S15
     refine C.tocsinref01_Utf8.L11_ind fun Y hY=>?_
     refine round Y hY 2 1 _ _ (by omega) (by omega) (by omega) (fun hF=>?_) (fun q1 q2 q3=>?_)
     ·rw [if_pos (by omega)] at hv
      have hv':validD ((bytes s).drop i)=false:=hv
      rw [hv'] at hK;exact hK
     refine round Y hY 2 2 _ _ (by omega) (by omega) (by omega) (fun hF=>?_) (fun q4 q5 q6=>?_)
     ·rw [if_pos (by omega)] at hv
      have hv':validD ((bytes s).drop i)=false:=hv
      rw [hv'] at hK;exact hK
     refine done Y hY 2 _ 2048 (by omega) (by omega) (fun hF=>?_) (fun hN=>?_)
     ·rw [if_pos (by omega)] at hv
      have hv':validD ((bytes s).drop i)=false:=hv
      rw [hv'] at hK;exact hK
     rw [if_neg (by omega)] at hv
     have hv':validD ((bytes s).drop i)=validD (((bytes s).drop i).drop 3):=hv
     rw [hv',List.drop_drop] at hK;exact hK
    ·obtain ⟨z1,z2,z3⟩:=cls3 ⟨c,hc⟩ (by simp only;omega) (by simp only;omega)
     simp only at z1 z2 z3
     rw [z1,ck4] at hv
     generalize accLo (firstT c / 16)=lo at *
     generalize accHi (firstT c / 16)=hi' at *
     rw [show Go.bits .and .i64 (c:Int) (7:Int)=((c % 8:Nat):Int) by rw [show (7:Int)=((7:Nat):Int) from rfl,and_i64 (by omega) (by omega),show c &&& 7=c % 8 from Nat.and_two_pow_sub_one_eq_mod c 3]]
     unfold C.tocsinref01_Utf8.S15
     refine C.tocsinref01_Utf8.L11_ind fun Y hY=>?_
     refine round Y hY 3 1 _ _ (by omega) (by omega) (by omega) (fun hF=>?_) (fun q1 q2 q3=>?_)
     ·rw [if_pos (by omega)] at hv
      have hv':validD ((bytes s).drop i)=false:=hv
      rw [hv'] at hK;exact hK
     refine round Y hY 3 2 _ _ (by omega) (by omega) (by omega) (fun hF=>?_) (fun q4 q5 q6=>?_)
     ·rw [if_pos (by omega)] at hv
      have hv':validD ((bytes s).drop i)=false:=hv
      rw [hv'] at hK;exact hK
     refine round Y hY 3 3 _ _ (by omega) (by omega) (by omega) (fun hF=>?_) (fun q7 q8 q9=>?_)
     ·rw [if_pos (by omega)] at hv
      have hv':validD ((bytes s).drop i)=false:=hv
      rw [hv'] at hK;exact hK
     refine done Y hY 3 _ 65536 (by omega) (by omega) (fun hF=>?_) (fun hN=>?_)
     ·rw [if_pos (by omega)] at hv
      have hv':validD ((bytes s).drop i)=false:=hv
      rw [hv'] at hK;exact hK
     rw [if_neg (by omega)] at hv
     have hv':validD ((bytes s).drop i)=validD (((bytes s).drop i).drop 4):=hv
     rw [hv',List.drop_drop] at hK;exact hK
    ·have z:=cls0 ⟨c,hc⟩ (by simp only;omega) (by simp only;omega)
     simp only at z
     rw [z] at hv
     have hv':validD ((bytes s).drop i)=false:=hv
     rw [hv'] at hK;exact hK
   ·rw [List.drop_of_length_le (by omega),validD_nil] at hK
    exact hK
 exact key s.size 0 (by omega) (by simpa using hK)
end Go.Proofs.YtmfgmcajelmgbaaGreatDoor.Utf

namespace Go.Proofs.YtmfgmcajelmgbaaGreatDoor.Lab
open Go Vm Go.RowKit Num Mem Utf Lib
variable {ω ω' : Tg} {w w' w0 : World}
theorem rletter_ok {c:Nat} {K:Bool→World→Prop} (hK:K (letterB c) w):C.tocsinref04_letter (c:Int) w K:=by
 unfold C.tocsinref04_letter
 have e95:∀ b:Bool,letterB c=b→(((c:Int)==(95:Int))=(c==95)):=fun _ _=>by
  cases h:(c==95) with
  | true=>simp at h;subst h;rfl
  | false=>simp at h;simp;omega
 have e:=e95 _ rfl
 have yes:letterB c=true→K true w:=fun h=>by rw [h] at hK;exact hK
 have els:(letterB c=(c==95))→K ((c:Int)==(95:Int)) w:=fun h=>by rw [e,← h];exact hK
 refine cond_d (fun h1=>cond_d (fun h2=>yes ?_) (fun h2=>cond_d (fun h3=>cond_d (fun h4=>by omega) (fun h4=>els ?_)) (fun h3=>by omega))) (fun h1=>cond_d (fun h3=>cond_d (fun h4=>yes ?_) (fun h4=>els ?_)) (fun h3=>els ?_))
 all_goals (unfold letterB;simp;try omega)
theorem rdigit_ok {c:Nat} {K:Bool→World→Prop} (hK:K (digitB c) w):C.tocsinref04_digit (c:Int) w K:=by
 unfold C.tocsinref04_digit
 unfold digitB at hK
 refine cond_d (fun h=>?_) (fun h=>?_)
 ·have e:decide ((c:Int)≤57)=decide (c≤57):=by simp only [decide_eq_decide];omega
  rw [e]
  rw [decide_eq_true (by omega:48≤c)] at hK
  exact hK
 ·rw [decide_eq_false (by omega:¬ 48≤c)] at hK
  exact hK
theorem let_dig {c:Nat} (h:letterB c=true):digitB c=false:=by
 unfold letterB at h
 unfold digitB
 simp at h ⊢
 omega
theorem okB_eq {c:Nat} {a b:Bool} (h1:letterB c=a) (h2:digitB c=b):okB false c=(a || b):=by unfold okB;rw [h1,h2];simp
theorem rname_ok {s:ByteArray} {K:Bool→World→Prop} (hK:K (namedB (Utf.bytes s) 64 false) w0):C.tocsinref04_Name s w0 K:=by
 have hsz:=size_eq s
 have hl:(Utf.bytes s).length=s.size:=hsz.symm
 unfold C.tocsinref04_Name
 have no:namedB (Utf.bytes s) 64 false=false→K false w0:=fun h=>by rwa [h] at hK
 have etl:s.toList=Utf.bytes s:=ByteArray.toList_eq s
 have e0:(⟨#[]⟩:ByteArray).toList=[]:=by rw [ByteArray.toList_eq]
 rw [etl,e0]
 refine cond_of (fun h=>no ?_) (fun h=>?_)
 ·have:Utf.bytes s=[]:=by simpa using h
  unfold namedB;rw [this];rfl
 have hne:Utf.bytes s≠[]:=by intro e;rw [e] at h;simp at h
 have hpos:0<s.size:=by rw [← hl];exact List.length_pos_iff.2 hne
 refine cond_d (fun h=>no ?_) (fun h=>?_)
 ·unfold namedB;rw [decide_eq_false (by omega)];simp
 have hemp:(Utf.bytes s).isEmpty=false:=by cases hb:Utf.bytes s with | nil=>exact absurd hb hne | cons _ _=>rfl
 have hle:decide ((Utf.bytes s).length≤64)=true:=decide_eq_true (by omega)
 have hn:namedB (Utf.bytes s) 64 false=(!digitB ((Utf.bytes s).getD 0 0).toNat&&(Utf.bytes s).all fun c=>okB false c.toNat):=by unfold namedB;rw [hemp,hle];simp
 rw [hn] at hK no
 unfold C.tocsinref04_Name.S9
 refine C.tocsinref04_Name.L5_ind fun X hX=>?_
 have key:∀ (d i:Nat),i+d=s.size→((Utf.bytes s).take i).all (fun c=>okB false c.toNat)=true→(0<i→digitB ((Utf.bytes s).getD 0 0).toNat=false)→X s ((s.size:Nat):Int) (i:Int) w0:=by
  intro d
  induction d with
  | zero =>
   intro i hi ha h0
   refine hX _ _ _ _ ?_
   unfold C.tocsinref04_Name.S7 C.tocsinref04_Name.S2
   refine cond_d (fun h=>by omega) (fun _=>?_)
   rw [List.take_of_length_le (by omega)] at ha
   rw [ha,h0 (by omega)] at hK
   exact hK
  | succ d ih =>
   intro i hi ha h0
   refine hX _ _ _ _ ?_
   unfold C.tocsinref04_Name.S7
   have hil:i<(Utf.bytes s).length:=by omega
   have hg:(Utf.bytes s).getD i 0=(Utf.bytes s)[i]:=by rw [List.getD_eq_getElem?_getD,List.getElem?_eq_getElem hil,Option.getD_some]
   refine cond_d (fun _=>?_) (fun h=>by omega)
   have next:okB false (Utf.bytes s)[i].toNat=true→(i=0→digitB ((Utf.bytes s).getD 0 0).toNat=false)→X s ((s.size:Nat):Int) (IntKind.i64.wrap ((i:Int)+1)) w0:=fun hok hz=>by
    rw [wI64 (by omega) (by omega),show (i:Int)+1=((i+1:Nat):Int) by omega]
    refine ih (i+1) (by omega) ?_ (fun _=>if h:i=0 then hz h else h0 (by omega))
    rw [List.take_add_one,List.getElem?_eq_getElem hil,List.all_append,ha]
    show (true&&(okB false (Utf.bytes s)[i].toNat&&true))=true
    rw [hok];rfl
   have stop:okB false (Utf.bytes s)[i].toNat=false→K false w0:=fun hok=>no (by
    have:(Utf.bytes s).all (fun c=>okB false c.toNat)=false:=by
     rw [List.all_eq_false]
     exact ⟨(Utf.bytes s)[i],List.getElem_mem hil,by rw [hok];decide⟩
    rw [this,Bool.and_false])
   refine ixS_at (k:=i) rfl (by omega) ?_
   rw [hg]
   refine rletter_ok (cond_of (fun hlt=>?_) (fun hlt=>?_))
   ·simp only [Bool.not_eq_true'] at hlt
    refine cond_eq (fun hz=>?_) (fun hz=>?_)
    ·have hz:i=0:=by omega
     subst hz
     by_cases hdg:digitB (Utf.bytes s)[0].toNat=true
     ·exact no (by rw [hg,hdg];rfl)
     ·exact stop (by rw [okB_eq hlt (Bool.eq_false_iff.2 hdg)];rfl)
    ·refine ixS_at (k:=i) rfl (by omega) ?_
     rw [hg]
     refine rdigit_ok (cond_of (fun hdt=>stop ?_) (fun hdt=>next ?_ (fun e=>by omega)))
     ·simp only [Bool.not_eq_true'] at hdt
      rw [okB_eq hlt hdt];rfl
     ·simp only [Bool.not_eq_false'] at hdt
      rw [okB_eq hlt hdt];rfl
   ·have hlt:letterB (Utf.bytes s)[i].toNat=true:=by simpa only [Bool.not_eq_false'] using hlt
    exact next (by rw [okB_eq hlt (let_dig hlt)];rfl) (fun e=>by subst e;rw [hg];exact let_dig hlt)
 exact key s.size 0 (by omega) rfl (fun h=>absurd h (Nat.lt_irrefl _))
def oneE (x:Lb):Int:=if namedB (Utf.bytes x.1) 64 false=false then 40 else valE (Utf.bytes x.2)
theorem rone_ok {x:Lb} (hs:x.2.size≤140737488355300) {K:Int→World→Prop} (hK:∀ w',Keep w0 w'→K (oneE x) w'):C.tocsinref04_one x.1 x.2 w0 K:=by
 unfold C.tocsinref04_one
 refine new_T (ω:=fun _=>0) 7 fun g ω1 w1 k1 b1=>?_
 have hl:(Utf.bytes x.2).length=x.2.size:=(size_eq x.2).symm
 have etl:x.2.toList=Utf.bytes x.2:=ByteArray.toList_eq x.2
 have e0:(⟨#[]⟩:ByteArray).toList=[]:=by rw [ByteArray.toList_eq]
 have key:=hK w1 k1.keep
 unfold oneE valE at key
 refine cS_at (b:=x.1) (by rw [b1.cell];rfl)<|rname_ok<|cond_of (fun h=>?_) (fun h=>?_)
 ·rw [if_pos (by simpa using h)] at key;exact key
 rw [if_neg (by simpa using h)] at key
 refine cS_at (b:=x.2) (by rw [addr_add,b1.cell];rfl) ?_
 rw [etl,e0]
 refine cond_of (fun h=>?_) (fun h=>?_)
 ·rw [if_pos (by simpa using h)] at key;exact key
 rw [if_neg (by intro e;rw [e] at h;simp at h)] at key
 refine cS_at (b:=x.2) (by rw [addr_add,b1.cell];rfl)<|cond_d (fun h=>?_) (fun h=>?_)
 ·rw [if_pos (by omega)] at key;exact key
 rw [if_neg (by omega)] at key
 refine cS_at (b:=x.2) (by rw [addr_add,b1.cell];rfl)<|rutf_ok hs<|cond_of (fun h=>?_) (fun h=>?_)
 ·rw [if_neg (by simpa using h)] at key;exact key
 ·rw [if_pos (by simpa using h)] at key;exact key
theorem back_cb (p x:ByteArray):(!(Op.bytesLess p.toList x.toList))=backB (some p) x:=by
 show _=((Op.bytesLess x.toList p.toList) || (x.toList==p.toList))
 rw [lessB,lessB,eqB]
 have h1:=cB_cmp.vals x p
 have h2:=cB_cmp.anti x p
 rcases h1 with e | e | e<;>rw [e] at h2 ⊢<;>rw [h2]<;>rfl
theorem rright_ok {s:Sl} {m:List Lb} (hs:Rd w0 s 2 (labs m)) (hz:∀ x∈m,x.2.size≤140737488355300) {K:Int→Int→World→Prop} (hK:∀ w',Keep w0 w'→K (rt m).1 ((rt m).2:Int) w'):C.tocsinref04_Right s w0 K:=by
 have hsn:s.n=m.length:=by have:=hs.2.1;rw [labs_len] at this;omega
 unfold C.tocsinref04_Right
 unfold rt at hK
 refine cond_d (fun h=>?_) (fun h=>?_)
 ·rw [if_pos (by omega)] at hK;exact hK w0 (Keep.refl w0)
 rw [if_neg (by omega)] at hK
 unfold C.tocsinref04_Right.S9
 refine C.tocsinref04_Right.L5_ind fun X hX=>?_
 have key:∀ (d i:Nat) (w:World),i+d=m.length→Keep w0 w→rtGo (if i=0 then none else (m[i-1]?).map (·.1)) (m.drop i) i=rtGo none m 0→X s s ((s.n:Nat):Int) (i:Int) w:=by
  intro d
  induction d with
  | zero =>
   intro i w hi k e
   refine hX _ _ _ _ _ ?_
   unfold C.tocsinref04_Right.S7 C.tocsinref04_Right.S2
   refine cond_d (fun h=>by omega) (fun _=>?_)
   rw [List.drop_of_length_le (by omega)] at e
   have:=hK w k
   rwa [← e] at this
  | succ d ih =>
   intro i w hi k e
   have him:i<m.length:=by omega
   refine hX _ _ _ _ _ ?_
   unfold C.tocsinref04_Right.S7
   refine cond_d (fun _=>?_) (fun h=>by omega)
   have hx:m[i]?=some m[i]:=List.getElem?_eq_getElem him
   refine rdL_at (hs.keep k) (k:=i) rfl hx fun a hc0 hc1=>cS_at hc0<|cS_at hc1 ?_
   refine new_T (ω:=fun _=>0) 7 fun g ω2 w2 k2 b2=>?_
   refine st_T b2 (by simp) fun ω3 w3 k3 b3=>?_
   refine st_TA b3 (by simp) fun ω4 w4 k4 b4=>?_
   have k04:=Keep.trans k ((Top.init w).stp ((k2.non (Mem.One 7)).trans (k3.trans k4))).k
   rw [List.drop_eq_getElem_cons him,rtGo] at e
   have out:∀ (c:Int) w',(c,i)=rtGo none m 0→Keep w0 w'→K c (i:Int) w':=fun c w' ec kk=>by
    have:=hK w' kk
    rwa [← ec] at this
   refine cS_at (b:=m[i].1) (by rw [b4.cell];rfl)<|cS_at (b:=m[i].2) (by rw [addr_add,b4.cell];rfl) ?_
   refine rone_ok (hz _ (List.getElem_mem him)) fun w5 k5=>?_
   have k05:=Keep.trans k04 k5
   have b5:=b4.stp (k5.stp0 ω4)
   unfold oneE
   refine cond_ne (fun hn=>?_) (fun hn=>?_)
   ·split at hn
    ·rename_i h1
     rw [if_pos h1] at e ⊢;exact out 40 w5 e k05
    ·rename_i h1
     rw [if_neg h1] at e ⊢
     rw [if_pos hn] at e;exact out _ w5 e k05
   have h1:¬ namedB (Utf.bytes m[i].1) 64 false=false:=fun h=>by rw [if_pos h] at hn;cases hn
   rw [if_neg h1] at hn e
   rw [if_neg (by simpa using hn)] at e
   have next:backB (if i=0 then none else (m[i-1]?).map (·.1)) m[i].1=false→∀ w',Keep w0 w'→X s s ((s.n:Nat):Int) (IntKind.i64.wrap ((i:Int)+1)) w':=fun hb w' kk=>by
    rw [hb,if_neg (by decide)] at e
    rw [wI64 (by omega) (by omega),show (i:Int)+1=((i+1:Nat):Int) by omega]
    refine ih (i+1) w' (by omega) kk ?_
    rw [if_neg (by omega),Nat.add_sub_cancel,hx];exact e
   have k06:=Keep.trans k05 (Keep.drew w5)
   refine cond_d (fun hi0=>?_) (fun hi0=>next ?_ _ k06)
   ·have hy:m[i-1]?=some m[i-1]:=List.getElem?_eq_getElem (by omega)
    refine rdL_at (hs.keep k06) (k:=i-1) (by rw [wI64 (by omega) (by omega)];omega) hy fun p hp0 _=>cS_at hp0<|cS_at (b:=m[i].1) (by rw [(b5.stp (drew_stp ω4 w5)).cell];rfl) ?_
    have eb:backB (if i=0 then none else (m[i-1]?).map (·.1)) m[i].1=backB (some m[i-1].1) m[i].1:=by
     rw [if_neg (by omega),hy];rfl
    rw [back_cb]
    refine cond_of (fun hb=>?_) (fun hb=>next (by rw [eb];exact hb) _ k06)
    rw [eb,hb,if_pos rfl] at e
    exact out 3 _ e k06
   ·rw [if_pos (by omega)];rfl
 exact key m.length 0 w0 (by omega) (Keep.refl w0) rfl
end Go.Proofs.YtmfgmcajelmgbaaGreatDoor.Lab

namespace Go.Proofs.YtmfgmcajelmgbaaGreatDoor.Sm
open Go Vm Go.RowKit Num Mem
variable {ω ω' : Tg} {w w' w0 : World}
abbrev Smp:=Int × Nat
def smpC (s:Smp):List Value:=[.int .i64 s.1,.float .f64 s.2]
def smps (l:List Smp):List Value:=l.flatMap smpC
theorem smps_app (a b:List Smp):smps (a++b)=smps a++smps b:=List.flatMap_append
theorem smps_len (l:List Smp):(smps l).length=l.length*2:=by
 induction l with
 | nil=>rfl
 | cons s l ih=>simp only [smps,List.flatMap_cons,List.length_append,List.length_cons] at *;simp [smpC] at *;omega
theorem smps_at:∀ (l:List Smp) (i:Nat) (s:Smp),l[i]?=some s→(smps l)[i*2+0]?=some (.int .i64 s.1)∧(smps l)[i*2+1]?=some (.float .f64 s.2)
 | [],i,s,h=>by simp at h
 | x::l,0,s,h=>by
  simp only [List.getElem?_cons_zero,Option.some.injEq] at h
  subst h
  exact ⟨rfl,rfl⟩
 | x::l,i+1,s,h=>by
  have ih:=smps_at l i s (by simpa using h)
  have e:smps (x::l)=.int .i64 x.1::.float .f64 x.2::smps l:=rfl
  rw [e,show (i+1)*2+0=(i*2+0)+1+1 by omega,show (i+1)*2+1=(i*2+1)+1+1 by omega]
  simpa using ih
theorem smps_one {l:List Smp}:∀ v∈smps l,v.oneCell'=true:=by
 intro v hv
 obtain ⟨s,_,hs⟩:=List.mem_flatMap.1 hv
 simp only [smpC,List.mem_cons,List.not_mem_nil,or_false] at hs
 rcases hs with rfl | rfl<;>rfl
theorem rdS_len {s:Sl} {m:List Smp} (h:Rd w s 2 (smps m)):s.n=m.length:=by have:=h.2.1;rw [smps_len] at this;omega
theorem rdS_at {s:Sl} {m:List Smp} (h:Rd w s 2 (smps m)) {i:Int} {k:Nat} {x:Smp} (ei:i=(k:Int)) (hx:m[k]?=some x) {K:Addr→Prop}
  (hK:∀ a:Addr,w.cell? a=some (.int .i64 x.1)→w.cell? (a.add 1)=some (.float .f64 x.2)→K a):G.ix s.a s.n i 2 K:=by
 have hk:k<m.length:=(List.getElem?_eq_some_iff.1 hx).1
 have hn:=rdS_len h
 subst ei
 obtain ⟨e0,e1⟩:=smps_at m k x hx
 refine Rd.ix h (by decide) (by omega) (by omega) fun a hc=>hK a ?_ ?_
 ·have:=hc 0 _ (by decide) (by rw [Int.toNat_natCast];exact e0)
  rwa [show a.add 0=a by simp [Addr.add]] at this
 ·exact hc 1 _ (by decide) (by rw [Int.toNat_natCast];exact e1)
theorem rd_none {s:Sl} {sz:Nat} {xs:List Value} (h:Rd w s sz xs) (hs:0<sz) (hn:s.a.isNone=true):xs=[]∧s.n=0:=by
 have e:xs=[]:=by
  by_cases e:xs=[]
  ·exact e
  ·obtain ⟨g,o,ha,_⟩:=h.2.2 e
   rw [ha] at hn;cases hn
 refine ⟨e,?_⟩
 have:=h.2.1
 rw [e] at this
 rcases Nat.mul_eq_zero.1 this.symm with h | h
 ·exact h
 ·omega
theorem clone_ok {P:Program} {t e:TypeId} {sz bytes:Nat} (ti:TI P t e sz bytes) {s:Sl} {xs:List Value} (h:Rd w s sz xs) (h1:∀ v∈xs,v.oneCell'=true) (hm:s.n≤maxLen) (hy:s.n*bytes≤140737488355328)
  {K:Sl→World→Prop} (hK:∀ r w',Keep w w'→Mem.Own w' w.heap.size e sz r xs→r.n=s.n→K r w') :
  G.cond s.a.isNone (K nilS w) (G.new (.cells #[] e) w fun p w4=>G.runSl P (Builtin.append_ #[t,t] t #[(Sl.v (⟨some p,0,0⟩:Sl)),s.v]) w4 fun l w6=>K l w6):=by
 refine cond_of (fun h0=>?_) (fun h0=>new_at ?_)
 ·obtain ⟨rfl,hn⟩:=rd_none h ti.pos h0
  exact hK nilS w (Keep.refl w) (Own.nil w _ _ _) hn.symm
 ·have k:=Keep.alloc w (.cells #[] e)
  have o:Mem.Own (w.alloc (.cells #[] e)) w.heap.size e sz ⟨some ⟨w.heap.size,0,none⟩,0,0⟩ []:=Own.mk' (Nat.le_refl _) (Blk.new w e #[]) (Nat.le_refl _) (Nat.zero_le _) (by simp) (by simp)
  refine append_own ti k k.size o (h.keep k) h1 (by simpa using hm) (by simpa using hy) fun r w' k' o' hr _=>hK r w' k' (by simpa using o') (by simpa using hr)
end Go.Proofs.YtmfgmcajelmgbaaGreatDoor.Sm

namespace Go.Proofs.YtmfgmcajelmgbaaGreatDoor.Lab
open Go Vm Go.RowKit Num Mem Utf Lib Vint
variable {ω ω' : Tg} {w w' w0 : World}
theorem tiL:TI Tryz.prog 49 93 2 32:=TI.of (z:=.agg #[.string ⟨#[]⟩,.string ⟨#[]⟩]) (by kernel_rfl) (by kernel_rfl) rfl (by decide)
theorem labs_one {l:List Lb}:∀ v∈labs l,v.oneCell'=true:=by
 intro v hv
 obtain ⟨s,_,hs⟩:=List.mem_flatMap.1 hv
 simp only [labC,List.mem_cons,List.not_mem_nil,or_false] at hs
 rcases hs with rfl | rfl<;>rfl
def keyOf (m:List Lb):ByteArray:=str (Lab.put m)
theorem u8_inj {a b:Nat} (ha:a<256) (hb:b<256) (h:UInt8.ofNat a=UInt8.ofNat b):a=b:=by
 have:=congrArg UInt8.toNat h
 rw [UInt8.toNat_ofNat',UInt8.toNat_ofNat',Nat.mod_eq_of_lt ha,Nat.mod_eq_of_lt hb] at this
 exact this
theorem putU_inj:∀ (f n n':Nat) (y y':List UInt8),n<f→putU n++y=putU n'++y'→n=n'∧y=y'
 | 0,n,n',y,y',h,_=>absurd h (Nat.not_lt_zero _)
 | f+1,n,n',y,y',h,e=>by
  by_cases h1:n<128<;>by_cases h2:n'<128
  ·rw [putU_lt h1,putU_lt h2] at e
   simp only [List.cons_append,List.nil_append,List.cons.injEq] at e
   exact ⟨u8_inj (by omega) (by omega) e.1,e.2⟩
  ·rw [putU_lt h1,putU_ge h2] at e
   simp only [List.cons_append,List.nil_append,List.cons.injEq] at e
   have:=u8_inj (by omega) (by omega) e.1
   omega
  ·rw [putU_ge h1,putU_lt h2] at e
   simp only [List.cons_append,List.nil_append,List.cons.injEq] at e
   have:=u8_inj (by omega) (by omega) e.1
   omega
  ·rw [putU_ge h1,putU_ge h2] at e
   simp only [List.cons_append,List.cons.injEq] at e
   have e1:=u8_inj (by omega) (by omega) e.1
   obtain ⟨e2,e3⟩:=putU_inj f (n / 128) (n' / 128) y y' (by omega) e.2
   exact ⟨by omega,e3⟩
theorem txt_inj {s s':ByteArray} {y y':List UInt8} (h:txt s++y=txt s'++y'):s=s'∧y=y':=by
 unfold txt at h
 rw [List.append_assoc,List.append_assoc] at h
 obtain ⟨h1,h2⟩:=putU_inj _ _ _ _ _ (Nat.lt_succ_self _) h
 obtain ⟨h3,h4⟩:=List.append_inj h2 (by rw [← szB,← szB,h1])
 refine ⟨?_,h4⟩
 have:s.data=s'.data:=Array.toList_inj.1 h3
 cases s;cases s';simp at this;rw [this]
theorem flat_inj:∀ {a b:List Lb},a.length=b.length→a.flatMap labB=b.flatMap labB→a=b
 | [],[],_,_=>rfl
 | [],y::b,h,_=>by simp at h
 | x::a,[],h,_=>by simp at h
 | x::a,y::b,h,e=>by
  simp only [List.flatMap_cons,labB,List.append_assoc] at e
  obtain ⟨e1,e⟩:=txt_inj e
  obtain ⟨e2,e⟩:=txt_inj e
  rw [Prod.ext e1 e2,flat_inj (by simpa using h) e]
theorem put_inj {a b:List Lb} (h:Lab.put a=Lab.put b):a=b:=by
 unfold Lab.put at h
 obtain ⟨h1,h2⟩:=putU_inj _ _ _ _ _ (Nat.lt_succ_self _) h
 exact flat_inj h1 h2
theorem key_inj {a b:List Lb} (h:keyOf a=keyOf b):a=b:=by
 refine put_inj ?_
 have:=congrArg Utf.bytes h
 rwa [keyOf,keyOf,bytes_str,bytes_str] at this
end Go.Proofs.YtmfgmcajelmgbaaGreatDoor.Lab

namespace Go.Proofs.YtmfgmcajelmgbaaGreatDoor.Bits
open Go Vm Go.RowKit Num Mem
def orBit (c:UInt8) (j:Nat):UInt8:=UInt8.ofNat (c.toNat ||| 128 / 2 ^ j)
theorem orBit_val (c:UInt8) {j:Nat} (hj:j<8):Value.int .u8 (Go.bits .or .u8 (c.toNat:Int) (shr .u8 (128:Int) (j:Int)))=vB (orBit c j):=by
 have hc:=c.toNat_lt
 have e:=shr_nat .u8 (128:Int) j (by simp only [IntKind.bits];omega)
 have e':(128:Int) / 2 ^ j=((128 / 2 ^ j:Nat):Int):=by simp
 have hlt:128 / 2 ^ j<256:=Nat.lt_of_le_of_lt (Nat.div_le_self _ _) (by decide)
 rw [e,e',bits_or rfl (by simp only [IntKind.bits];omega) (by simp only [IntKind.bits];omega)]
 exact vB_lit (Nat.or_lt_two_pow (n:=8) hc hlt)
def grow (l:List UInt8) (n:Nat):List UInt8:=if n % 8=0 then l++[0] else l
def putB (l:List UInt8) (n:Nat) (b:Bool):List UInt8:=if b then (grow l n).set (n / 8) (orBit ((grow l n).getD (n / 8) 0) (n % 8)) else grow l n
theorem grow_len {l:List UInt8} {n:Nat} (h:l.length=(n+7) / 8):(grow l n).length=n / 8+1:=by
 unfold grow;split
 ·simp;omega
 ·omega
theorem putB_len {l:List UInt8} {n:Nat} (b:Bool) (h:l.length=(n+7) / 8):(putB l n b).length=(n+1+7) / 8:=by
 unfold putB;split
 ·rw [List.length_set,grow_len h];omega
 ·rw [grow_len h];omega
structure Wr (w:World) (B g:Nat) (s:Sl) (l:List UInt8) (n:Nat):Prop where
 blk:Blk w g 250 [s.v,.int .i64 (n:Int)]
 own:OwnB w B s l
 ge:B≤g
 ne:s.v.ownBlock≠some g
 len:l.length=(n+7) / 8
abbrev wp (g:Nat):Option Addr:=some ⟨g,0,none⟩
abbrev foot (g:Nat) (s:Sl):Nat→Prop:=fun k=>k=g∨s.v.ownBlock=some k
theorem Wr.keep {w w':World} {B g:Nat} {s:Sl} {l:List UInt8} {n:Nat} (h:Wr w B g s l n) (k:Keep w w'):Wr w' B g s l n:=⟨h.blk.keep k,Own.keep h.own k,h.ge,h.ne,h.len⟩
theorem Wr.lt {w:World} {B g:Nat} {s:Sl} {l:List UInt8} {n:Nat} (h:Wr w B g s l n) {k:Nat} (hk:foot g s k):B≤k∧k<w.heap.size:=by
 rcases hk with rfl | hk
 ·exact ⟨h.ge,h.blk.lt⟩
 ·exact Own.geC h.own hk
theorem Wr.rd0 {w:World} {B g:Nat} {s:Sl} {l:List UInt8} {n:Nat} (h:Wr w B g s l n) {K:Sl→Prop} (hK:K s):G.ptr (wp g) fun p=>G.cSl p w K:=ptr_at (cSl_at (by rw [h.blk.cell];rfl) hK)
theorem Wr.rd1 {w:World} {B g:Nat} {s:Sl} {l:List UInt8} {n:Nat} (h:Wr w B g s l n) {K:Int→Prop} (hK:K (n:Int)):G.ptr (wp g) fun p=>G.cI .i64 (p.add 1) w K:=⟨n,by rw [addr_add,h.blk.cell];rfl,hK⟩
theorem new_ok {w:World} {K:Option Addr→World→Prop} (hK:∀ w',Keep w w'→Wr w' w.heap.size w.heap.size nilS [] 0→w'.heap.size=w.heap.size+1→K (wp w.heap.size) w'):C.bits_NewWriter w K:=by
 unfold C.bits_NewWriter
 refine hK _ (Keep.alloc w _) ⟨Blk.new w _ _,OwnB.nil _ _,Nat.le_refl _,by simp [Value.ownBlock],rfl⟩ (by simp)
theorem idx8 {n:Nat} (h:n<9223372036854775800):IntKind.i64.wrap (Int.tdiv (n:Int) (8:Int))=((n / 8:Nat):Int):=by
 rw [show Int.tdiv (n:Int) (8:Int)=((n / 8:Nat):Int) from rfl,wI64 (by omega) (by omega)]
theorem mod8 {n:Nat}:IntKind.u64.wrap (Int.tmod (n:Int) (8:Int))=((n % 8:Nat):Int):=by
 rw [show Int.tmod (n:Int) (8:Int)=((n % 8:Nat):Int) from rfl,wU64_id (by omega) (by omega)]
theorem up_ok {w:World} {B g:Nat} {s:Sl} {l':List UInt8} {n:Nat} (hb:Blk w g 250 [s.v,.int .i64 (n:Int)]) (ho:OwnB w B s l') (hg:B≤g) (hne:s.v.ownBlock≠some g) (hl:l'.length=(n+1+7) / 8) (hn:n<9000000)
  {K:World→Prop} (hK:∀ w',Chg (fun k=>k=g) w w'→Wr w' B g s l' (n+1)→K w') :
  C.bits_Writer_put.S2 (fun w=>K w) (wp g) w:=by
 unfold C.bits_Writer_put.S2
 refine ptr_at (cI_at (n:=(n:Int)) (by rw [addr_add,hb.cell];rfl) (ptr_at ?_))
 rw [wI64 (by omega) (by omega),addr_add]
 refine st_at (by rw [hb.cell];rfl) (hb.frozen _) ?_
 refine hK _ (setCell_chg w g 1 _) ⟨hb.set 1 _,Own.chg ho (setCell_chg w g 1 _) (fun k hk e=>hne (by rw [hk,e])),hg,hne,hl⟩
theorem tail_ok {w:World} {B g:Nat} {s:Sl} {l:List UInt8} {n:Nat} (hb:Blk w g 250 [s.v,.int .i64 (n:Int)]) (ho:OwnB w B s l) (hg:B≤g) (hne:s.v.ownBlock≠some g) (hl:l.length=n / 8+1) (hn:n<9000000) (b:Bool)
  {K:World→Prop} (hK:∀ w',Chg (foot g s) w w'→Wr w' B g s (if b then l.set (n / 8) (orBit (l.getD (n / 8) 0) (n % 8)) else l) (n+1)→K w') :
  C.bits_Writer_put.S3 (fun w=>K w) (wp g) b w:=by
 unfold C.bits_Writer_put.S3
 cases b
 ·refine cond_f rfl (up_ok hb ho hg hne (by omega) hn fun w' k1 h1=>hK w' (k1.mono fun k hk=>.inl (.inl hk)) h1)
 ·refine cond_t rfl ?_
  have hbd:=Blk.drew hb
  refine ptr_at (cSl_at (s:=s) (by rw [hbd.cell];rfl) ?_)
  refine ptr_at (cI_at (n:=(n:Int)) (by rw [addr_add,hbd.cell];rfl) ⟨by decide,?_⟩)
  rw [idx8 (by omega)]
  have hsn:=ho.len
  have hlt:n / 8<l.length:=by omega
  refine RdB.at_ (w:=w.drew) ho.rd hlt ?_
  refine ptr_at (cI_at (n:=(n:Int)) (by rw [addr_add,hbd.cell];rfl) ⟨by decide,?_⟩)
  rw [mod8]
  refine ⟨by omega,?_⟩
  rw [orBit_val _ (by omega)]
  refine Own.stC (Own.keep ho (Keep.drew w)) (by omega) _ fun w2 k2 o2=>?_
  have e1:l.getD (n / 8) 0=l[n / 8]:=by rw [List.getD_eq_getElem?_getD,List.getElem?_eq_getElem hlt,Option.getD_some]
  have e2:(vBs l).set (n / 8) (vB (orBit l[n / 8] (n % 8)))=vBs (l.set (n / 8) (orBit l[n / 8] (n % 8))):=by simp [vBs,List.map_set]
  rw [e2] at o2
  have hb2:Blk w2 g 250 [s.v,.int .i64 (n:Int)]:=Blk.chg (Blk.drew hb) k2 (fun e=>hne e)
  refine up_ok hb2 o2 hg hne (by rw [List.length_set];omega) hn fun w3 k3 h3=>?_
  refine hK w3 ?_ (by simpa only [if_true,e1] using h3)
  exact Chg.then (Chg.then (Keep.chg (Keep.drew w) (foot g s)) k2 fun k hk=>.inl (.inr hk)) k3 fun k hk=>.inl (.inl hk)
theorem put_ok {w:World} {B g:Nat} {s:Sl} {l:List UInt8} {n:Nat} (h:Wr w B g s l n) (hB:B≤w.heap.size) (hn:n<9000000) (b:Bool) {K:World→Prop}
  (hK:∀ s' w',Chg (foot g s) w w'→Wr w' B g s' (putB l n b) (n+1)→(∀ k,foot g s' k→foot g s k∨w.heap.size≤k)→K w'):C.bits_Writer_put (wp g) b w K:=by
 unfold C.bits_Writer_put
 refine h.rd1 ⟨by decide,?_⟩
 have hlen:=h.len
 rw [show Int.tmod (n:Int) (8:Int)=((n % 8:Nat):Int) from rfl]
 refine cond_eq (fun hz=>?_) (fun hz=>?_)
 ·have hz':n % 8=0:=by omega
  have hg:grow l n=l++[0]:=if_pos hz'
  refine h.rd0 ?_
  have hsn:=h.own.len
  refine pushC tiB (n:=1) hB h.own (by rfl) (by intro v hv;simp at hv;subst hv;rfl) (by simp only [maxLen];omega) (by omega) fun r w1 k1 o1 hr hf=>?_
  have hb1:=h.blk.chg k1 h.ne
  refine ptr_at (st_at (by rw [hb1.cell];rfl) (hb1.frozen 0) ?_)
  have k2:=setCell_chg w1 g 0 r.v
  have hrg:r.v.ownBlock≠some g:=by
   rcases hf with e | e
   ·rw [e];exact h.ne
   ·intro e'
    have:=e g e'
    have:=h.blk.lt
    omega
  have o2:=Own.chg o1 k2 (fun k hk e=>hrg (by rw [hk,e]))
  have hb2:=hb1.set 0 r.v
  have k12:Chg (foot g s) w _:=Chg.then (k1.mono fun k hk=>.inl (.inr hk)) k2 fun k hk=>.inl (.inl hk)
  have fr:∀ k,foot g r k→foot g s k∨w.heap.size≤k:=fun k hk=>by
   rcases hk with hk | hk
   ·exact .inl (.inl hk)
   ·rcases hf with e | e
    ·rw [e] at hk;exact .inl (.inr hk)
    ·exact .inr (e k hk)
  have o2':OwnB (w1.setCell ⟨g,0,none⟩ r.v) B r (grow l n):=by rw [hg,OwnB,vBs_append];exact o2
  refine tail_ok hb2 o2' h.ge hrg (by rw [grow_len hlen]) hn b fun w3 k3 h3=>?_
  exact hK r w3 (Chg.then k12 k3 fr) h3 fr
 ·have hz':¬ n % 8=0:=by omega
  have hg:grow l n=l:=if_neg hz'
  refine tail_ok h.blk h.own h.ge h.ne (by omega) hn b fun w3 k3 h3=>?_
  refine hK s w3 k3 ?_ fun k hk=>.inl hk
  unfold putB
  rw [hg];exact h3
def putBs:List UInt8→Nat→List Bool→List UInt8
 | l,_,[]=>l
 | l,n,b::r=>putBs (putB l n b) (n+1) r
def bitOf (v i:Nat):Bool:=v / 2 ^ i % 2==1
def low (v:Nat):Nat→List Bool
 | 0=>[]
 | k+1=>bitOf v k::low v k
theorem low_len (v:Nat):∀ k,(low v k).length=k
 | 0=>rfl
 | k+1=>by simp [low,low_len v k]
theorem bit_eq {v i:Nat} (hv:v<18446744073709551616) (hi:i<64):((Go.bits .and .u64 (shr .u64 (v:Int) (i:Int)) (1:Int))==(1:Int))=bitOf v i:=by
 have e:=shr_nat .u64 (v:Int) i (by simp only [IntKind.bits];omega)
 have e':(v:Int) / 2 ^ i=((v / 2 ^ i:Nat):Int):=by simp
 have hlt:v / 2 ^ i<18446744073709551616:=Nat.lt_of_le_of_lt (Nat.div_le_self _ _) hv
 rw [e,e',show (1:Int)=((1:Nat):Int) from rfl,bits_and rfl (by simp only [IntKind.bits];omega) (by decide),Nat.and_one_is_mod]
 unfold bitOf
 rcases Nat.mod_two_eq_zero_or_one (v / 2 ^ i) with h | h<;>rw [h]<;>rfl
end Go.Proofs.YtmfgmcajelmgbaaGreatDoor.Bits

namespace Go.Proofs.YtmfgmcajelmgbaaGreatDoor.Bits
open Go Vm Go.RowKit Num Mem
def badB (v:Nat) (m:Int):Prop:=m<0∨m > 64∨(m<64∧v / 2 ^ m.toNat≠0)
theorem shrZ {v:Nat} {m:Int} (h0:0≤m) (h1:m<64):shr .u64 (v:Int) (IntKind.u64.wrap m)=((v / 2 ^ m.toNat:Nat):Int):=by
 rw [wU64_id h0 (by omega)]
 have e:=shr_nat .u64 (v:Int) m.toNat (by simp only [IntKind.bits];omega)
 rw [show ((m.toNat:Nat):Int)=m by omega] at e
 rw [e];simp
theorem loop_ok {w0:World} {B g:Nat} {s0:Sl} {v:Nat} (hv:v<18446744073709551616) {K:C.bits_Writer_Bits.KT} {X:Cur C.bits_Writer_Bits.g5}
  (hX:∀ w_5 v_6 i_7 w,C.bits_Writer_Bits.S7 K X w_5 v_6 i_7 w→X w_5 v_6 i_7 w) :
  ∀ (k:Nat) (l:List UInt8) (n:Nat) (s:Sl) (w:World),k≤64→n+k≤8388608→B≤w.heap.size→Wr w B g s l n→Chg (foot g s0) w0 w→(∀ j,foot g s j→foot g s0 j∨w0.heap.size≤j) →
   (∀ s' w',Chg (foot g s0) w0 w'→Wr w' B g s' (putBs l n (low v k)) (n+k)→(∀ j,foot g s' j→foot g s0 j∨w0.heap.size≤j)→K 0 w')→X (wp g) (v:Int) ((k:Int)-1) w:=by
 intro k
 induction k with
 | zero =>
  intro l n s w _ _ _ h hc hf hK
  refine hX _ _ _ _ ?_
  unfold C.bits_Writer_Bits.S7 C.bits_Writer_Bits.S2
  refine cond_d (fun h=>by omega) (fun _=>hK s w hc h hf)
 | succ k ih =>
  intro l n s w hk hn hB h hc hf hK
  refine hX _ _ _ _ ?_
  unfold C.bits_Writer_Bits.S7
  rw [show ((k+1:Nat):Int)-1=(k:Int) by omega,wU64_id (by omega) (by omega),bit_eq hv (by omega),wI64 (by omega) (by omega)]
  refine cond_d (fun _=>⟨by omega,?_⟩) (fun h=>by omega)
  refine put_ok h hB (by omega) _ fun s' w' k1 h1 f1=>?_
  have f2:∀ j,foot g s' j→foot g s0 j∨w0.heap.size≤j:=fun j hj=>(f1 j hj).elim (hf j) fun e=>.inr (Nat.le_trans hc.size e)
  refine ih _ (n+1) s' w' (by omega) (by omega) (Nat.le_trans hB k1.size) h1 (Chg.then hc k1 hf) f2 fun s'' w'' k2 h2 f3=>hK s'' w'' k2 ?_ f3
  rw [show n+1+k=n+(k+1) by omega] at h2
  exact h2
theorem bits_ok {w:World} {B g:Nat} {s:Sl} {l:List UInt8} {n v:Nat} {m:Int} (h:Wr w B g s l n) (hB:B≤w.heap.size) (hn:n≤8388608) (hv:v<18446744073709551616) {K:Int→World→Prop}
  (hE:badB v m→K 1 w) (hF:¬ badB v m→m > 8388608-(n:Int)→K 8 w)
  (hK:¬ badB v m→m≤8388608-(n:Int)→∀ s' w',Chg (foot g s) w w'→Wr w' B g s' (putBs l n (low v m.toNat)) (n+m.toNat)→(∀ j,foot g s' j→foot g s j∨w.heap.size≤j)→K 0 w') :
  C.bits_Writer_Bits (wp g) (v:Int) m w K:=by
 unfold C.bits_Writer_Bits
 refine cond_f rfl ?_
 refine cond_d (fun h1=>hE (.inl h1)) (fun h1=>cond_d (fun h2=>hE (.inr (.inl h2))) (fun h2=>?_))
 have fin:¬ badB v m→G.ptr (wp g) fun p17=>G.cI .i64 (p17.add 1) w fun n18=>G.cond (decide (m > (IntKind.i64.wrap ((8388608:Int)-n18)))) (K (8:Int) w) (C.bits_Writer_Bits.S9 K (wp g) (v:Int) m w):=by
  intro hb
  refine h.rd1 ?_
  rw [wI64 (by omega) (by omega)]
  refine cond_d (fun h3=>hF hb h3) (fun h3=>?_)
  unfold C.bits_Writer_Bits.S9
  refine C.bits_Writer_Bits.L5_ind fun X hX=>?_
  rw [wI64 (by omega) (by omega)]
  have:=loop_ok hv hX m.toNat l n s w (by omega) (by omega) hB h (Chg.refl _ _) (fun j hj=>.inl hj) (hK hb (by omega))
  rwa [show ((m.toNat:Nat):Int)=m by omega] at this
 refine cond_d (fun h3=>⟨by rw [wU64_id (by omega) (by omega)];omega,?_⟩) (fun h3=>fin fun hb=>?_)
 ·rw [shrZ (by omega) h3]
  refine cond_ne (fun h4=>hE (.inr (.inr ⟨h3,fun e=>h4 (by rw [e];rfl)⟩))) (fun h4=>fin fun hb=>?_)
  rcases hb with hb | hb | hb
  ·omega
  ·omega
  ·exact hb.2 (by exact_mod_cast h4)
 ·rcases hb with hb | hb | hb<;>omega
theorem bytes_ok {w:World} {B g:Nat} {s:Sl} {l:List UInt8} {n:Nat} (h:Wr w B g s l n) (hn:n≤8388608) {K:Sl→World→Prop} (hK:∀ r w',Keep w w'→OwnB w' w.heap.size r l→K r w'):C.bits_Writer_Bytes (wp g) w K:=by
 unfold C.bits_Writer_Bytes
 have:=h.len
 refine cond_f rfl (h.rd0 ?_)
 exact appB (Keep.refl w) (Nat.le_refl _) (OwnB.nil _ _) h.own.rd (by simp only [List.length_nil];omega) fun r w' k o=>hK r w' k o
theorem fold_push:∀ (l m:List UInt8),(l.map fun b=>(b.toNat:Int)).foldl (fun r n=>r.push (UInt8.ofNat n.toNat)) (⟨m.toArray⟩:ByteArray)=⟨(m++l).toArray⟩
 | [],m=>by rw [List.append_nil];rfl
 | b::l,m=>by
  simp only [List.map_cons,List.foldl_cons]
  have e:(⟨m.toArray⟩:ByteArray).push (UInt8.ofNat ((b.toNat:Int)).toNat)=⟨(m++[b]).toArray⟩:=by
   simp [ByteArray.push]
  rw [e,fold_push l (m++[b])]
  simp
abbrev str (l:List UInt8):ByteArray:=⟨l.toArray⟩
theorem convBS {P:Program} {w:World} {b:Sl} {l:List UInt8} (h:RdB w b l) {K:ByteArray→Prop} (hK:K (str l)):G.rdS P (Conv.bytesToString b.v) w K:=by
 refine ⟨_,fun d=>?_,hK⟩
 have hd:=Rd.drewN h d
 have hn:=RdB.len h
 cases b with
 | mk a n c =>
  simp only at hn
  subst hn
  have go:∀ x:Addr,(∀ j v,(vBs l)[j]?=some v→(w.drewN d).cell? (x.add j)=some v)→(Conv.bytesToString (.slice (some x) l.length c)).run P (w.drewN d)=.ok (.string (str l)) (w.drewN d):=by
   intro x hx
   have e:vBs l=(l.map fun b=>(b.toNat:Int)).map (Value.int .u8):=by
    rw [List.map_map];rfl
   have hl:(loadCells x l.length).run P (w.drewN d)=.ok ((l.map fun b=>(b.toNat:Int)).map (Value.int .u8)).toArray (w.drewN d):=by
    rw [← e]
    have:=run_loadCells_list (P:=P) (w.drewN d) x (vBs l) hx
    rw [vBs_length] at this
    exact this
   rw [run_bytesToString (w.drewN d) x l.length c _ hl]
   have:=fold_push l []
   simp only [List.nil_append] at this
   exact congrArg (fun s=>Result.ok (Value.string s) (w.drewN d)) this
  by_cases h0:vBs l=[]
  ·have hl0:l=[]:=by cases l with | nil=>rfl | cons=>simp [vBs] at h0
   subst hl0
   cases a with
   | none=>rfl
   | some x=>exact go x (by intro j v hv;simp [vBs] at hv)
  ·obtain ⟨g,o,ha,hc⟩:=hd.2.2 h0
   simp only at ha
   subst ha
   exact go _ fun j v hv=>by rw [addr_add];exact hc j v hv
theorem putBs_app:∀ (xs ys:List Bool) (l:List UInt8) (n:Nat),putBs l n (xs++ys)=putBs (putBs l n xs) (n+xs.length) ys
 | [],ys,l,n=>rfl
 | x::xs,ys,l,n=>by
  show putBs (putB l n x) (n+1) (xs++ys)=putBs (putBs (putB l n x) (n+1) xs) (n+(xs.length+1)) ys
  rw [putBs_app xs ys,show n+(xs.length+1)=n+1+xs.length by omega]
def pk (bs:List Bool):List UInt8:=putBs [] 0 bs
theorem putBs_len:∀ (bs:List Bool) (l:List UInt8) (n:Nat),l.length=(n+7) / 8→(putBs l n bs).length=(n+bs.length+7) / 8
 | [],l,n,h=>by simpa [putBs] using h
 | b::bs,l,n,h=>by
  rw [putBs,putBs_len bs _ _ (putB_len b h),List.length_cons]
  congr 1;omega
theorem pk_len (bs:List Bool):(pk bs).length=(bs.length+7) / 8:=by
 have:=putBs_len bs [] 0 (by rfl)
 simpa [pk] using this
theorem pk_app (xs ys:List Bool):pk (xs++ys)=putBs (pk xs) xs.length ys:=by
 unfold pk;rw [putBs_app,Nat.zero_add]
structure WrT (ω:Tg) (w:World) (t g:Nat) (bs:List Bool):Prop where
 ex:∃ s,Wr w 0 g s (pk bs) bs.length∧∀ k,foot g s k→ω k=t
theorem WrT.stp {T:Nat→Bool} {ω ω':Tg} {w w':World} {t g:Nat} {bs:List Bool} (h:WrT ω w t g bs) (k:Stp T ω ω' w w') (ne:T t=false:=by rfl):WrT ω' w' t g bs:=by
 obtain ⟨s,h,ht⟩:=h.ex
 have lt:∀ k,foot g s k→k<w.heap.size:=fun k hk=>(h.lt hk).2
 have hb:∀ j,foot g s j→w'.heap[j]?=w.heap[j]?:=fun j hj=>k.block j (lt j hj) (by rw [ht j hj];exact ne)
 refine ⟨s,⟨by unfold Blk;rw [hb g (.inl rfl)];exact h.blk,?_,h.ge,h.ne,h.len⟩,fun j hj=>(k.same j (lt j hj)).trans (ht j hj)⟩
 exact (OT.stp (t:=t) ⟨h.own,fun j hj=>ht j (.inr hj)⟩ k ne).own
theorem new_T' {ω:Tg} {w:World} (t:Nat) {K:Option Addr→World→Prop} (hK:∀ g ω' w',Stp Non ω ω' w w'→WrT ω' w' t g []→K (wp g) w'):C.bits_NewWriter w K :=
 new_ok fun w' k h _=>hK w.heap.size (ext ω w.heap.size t) w' (k.stp ω t) ⟨nilS,⟨h.blk,Own.mono h.own (Nat.zero_le _),Nat.zero_le _,h.ne,h.len⟩,fun j hj=>ext_new (by
  rcases hj with rfl | hj
  ·exact Nat.le_refl _
  ·simp [Value.ownBlock] at hj)⟩
theorem bits_T {ω:Tg} {w:World} {t g:Nat} {bs:List Bool} {v:Nat} {m:Int} {k:Nat} (h:WrT ω w t g bs) (hm:m=(k:Int)) (hk:k≤64) (hv:v<2 ^ k) (hn:bs.length+k≤8388608) {x:Int} (hx:x=(v:Int)) {K:Int→World→Prop}
  (hK:∀ ω' w',Stp (One t) ω ω' w w'→WrT ω' w' t g (bs++low v k)→K 0 w'):C.bits_Writer_Bits (wp g) x m w K:=by
 subst hm hx
 obtain ⟨s,h,ht⟩:=h.ex
 have hv64:v<18446744073709551616:=Nat.lt_of_lt_of_le hv (Nat.pow_le_pow_right (by decide:0<2) hk:2 ^ k≤2 ^ 64)
 refine bits_ok h (Nat.zero_le _) (by omega) hv64 (fun hb=>?_) (fun _ hF=>by omega) fun _ _ s' w' c h' f=>?_
 ·rcases hb with e | e | ⟨e,e'⟩
  ·omega
  ·omega
  ·exact absurd (Nat.div_eq_of_lt (by rw [Int.toNat_natCast];exact hv)) e'
 ·rw [Int.toNat_natCast] at h'
  have e1:(bs++low v k).length=bs.length+k:=by rw [List.length_append,low_len]
  refine hK (ext ω w.heap.size t) w' (Chg.stp c ht) ⟨s',by rw [e1,pk_app];exact h',fun j hj=>?_⟩
  ·rcases f j hj with e | e
   ·rw [ext_old (h.lt e).2];exact ht j e
   ·exact ext_new e
theorem bytes_T {ω:Tg} {w:World} {t g:Nat} {bs:List Bool} (h:WrT ω w t g bs) (hn:bs.length≤8388608) {K:Sl→World→Prop} (hK:∀ r w',Keep w w'→OwnB w' w.heap.size r (pk bs)→K r w'):C.bits_Writer_Bytes (wp g) w K:=by
 obtain ⟨s,h,ht⟩:=h.ex
 exact bytes_ok h hn hK
end Go.Proofs.YtmfgmcajelmgbaaGreatDoor.Bits

namespace Go.Proofs.YtmfgmcajelmgbaaGreatDoor.Bits
open Go Vm Go.RowKit Num Mem
def fitsB (n:Int) (k:Nat):Bool:=decide (-(2 ^ (k-1)-1)≤n)&&decide (n≤2 ^ (k-1))
def uN (n:Int):Nat:=(n % 18446744073709551616).toNat
def lowN (n:Int) (k:Nat):Nat:=if k<64 then uN n % 2 ^ k else uN n
theorem uN_lt (n:Int):uN n<18446744073709551616:=by unfold uN;omega
theorem lowN_lt (n:Int) (k:Nat):lowN n k<18446744073709551616:=by
 have:=uN_lt n
 unfold lowN;split
 ·exact Nat.lt_of_le_of_lt (Nat.mod_le _ _) this
 ·exact this
theorem wrapU (n:Int):IntKind.u64.wrap n=((uN n:Nat):Int):=by rw [wU64];unfold uN;omega
theorem low_and {n:Int} {k:Nat} (hk:k<64):Go.bits .and .u64 (IntKind.u64.wrap n) (IntKind.u64.wrap ((shl .u64 (1:Int) (IntKind.u64.wrap (k:Int)))-(1:Int)))=((lowN n k:Nat):Int):=by
 have hp:2 ^ k≤2 ^ 63:=Nat.pow_le_pow_right (by decide) (by omega)
 have hp0:0<2 ^ k:=Nat.pow_pos (by decide)
 have hu:=uN_lt n
 have e:=shl_nat .u64 (1:Int) k (by simp only [IntKind.bits];omega)
 rw [show (1:Int)*2 ^ k=((2 ^ k:Nat):Int) by simp,wU64_id (by omega) (by omega)] at e
 rw [wU64_id (x:=(k:Int)) (by omega) (by omega),e,show ((2 ^ k:Nat):Int)-1=((2 ^ k-1:Nat):Int) by omega,wU64_id (x:=((2 ^ k-1:Nat):Int)) (by omega) (by omega),wrapU,
  bits_and rfl (by simp only [IntKind.bits];omega) (by simp only [IntKind.bits];omega),Nat.and_two_pow_sub_one_eq_mod]
 unfold lowN
 rw [if_pos hk]
theorem lowN_lt2 (n:Int) {k:Nat} (hk:k≤64):lowN n k<2 ^ k:=by
 unfold lowN
 split
 ·exact Nat.mod_lt _ (Nat.pow_pos (by decide))
 ·rw [show k=64 by omega];exact uN_lt n
theorem fits_cond {n:Int} {k:Nat} (hk:0<k) (hk':k≤56) {X Y:Prop} (h1:fitsB n k=true→X) (h2:fitsB n k=false→Y) :
  G.cond (decide (n ≥ (IntKind.i64.wrap (0-(IntKind.i64.wrap ((shl .i64 (1:Int) (IntKind.u64.wrap (IntKind.i64.wrap ((k:Int)-(1:Int)))))-(1:Int))))))) (G.cond (decide (n≤(shl .i64 (1:Int) (IntKind.u64.wrap (IntKind.i64.wrap ((k:Int)-(1:Int))))))) X Y) Y:=by
 have e1:IntKind.u64.wrap (IntKind.i64.wrap ((k:Int)-(1:Int)))=((k-1:Nat):Int):=by
  rw [wI64 (by omega) (by omega),wU64_id (by omega) (by omega)];omega
 rw [e1]
 have e2:=shl_nat .i64 (1:Int) (k-1) (by simp only [IntKind.bits];omega)
 have hp:2 ^ (k-1)≤2 ^ 55:=Nat.pow_le_pow_right (by decide) (by omega)
 have hp0:0<2 ^ (k-1):=Nat.pow_pos (by decide)
 have e3:(1:Int)*2 ^ (k-1)=((2 ^ (k-1):Nat):Int):=by simp
 rw [e3,wI64 (by omega) (by omega)] at e2
 have e4:(2:Int) ^ (k-1)=((2 ^ (k-1):Nat):Int):=by simp
 unfold fitsB at h1 h2
 rw [e4] at h1 h2
 rw [e2]
 generalize 2 ^ (k-1)=q at *
 rw [wI64 (x:=(q:Int)-1) (by omega) (by omega),wI64 (by omega) (by omega)]
 refine cond_d (fun a=>cond_d (fun b=>h1 ?_) (fun b=>h2 ?_)) (fun a=>h2 ?_)
 ·simp;omega
 ·simp;omega
 ·simp;omega
def lead (x:Nat):Nat:=min (64-Lib.bitLen x) 31
def trail (x:Nat):Nat:=Lib.ctz 64 x
end Go.Proofs.YtmfgmcajelmgbaaGreatDoor.Bits
