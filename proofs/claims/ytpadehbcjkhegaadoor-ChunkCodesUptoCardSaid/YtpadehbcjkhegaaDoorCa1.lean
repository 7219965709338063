/- Clean texts of Go functions, written by a program of this work (gen.py) off the loaded code, each shown to be what the code does. -/
import Derived.Test.YtpadehbcjkhegaaDoorCa
set_option linter.unusedVariables false
set_option maxRecDepth 100000
namespace Go.Proofs.YtpadehbcjkhegaaDoor
open Go Vm
namespace C
/-! (*tocsin/tocsinref08.Reader).time -/
namespace tocsinref08_Reader_time
abbrev KT := Int → World → Prop
def Kt (Kv : Value → World → Prop) : KT := fun n1 w => Kv (.int .i64 n1) w
noncomputable def bd : Code := bdy Tryd.f47
theorem fn : FnOk pr 47 28 Tryd.f47 := ⟨Tryd.func47, by kernel_rfl, Tryd.ntmps47, by kernel_rfl, by kernel_rfl⟩
def F : Clee := ofL [(45, C.tocsinref08_Reader_bits.cl), (70, C.tocsinref02_Says.cl)]
theorem FOk_ : FOk pr F := FOk_cons C.tocsinref08_Reader_bits.clok (FOk_cons C.tocsinref02_Says.clok (FOk_nil))
def P1 (Kv : Value → World → Prop) : Post := bodyK false pr 28 Tryd.f47 Kv
@[reducible] def g2 : List SE := [.v 0 .ptr, .v 3 .sl, .v 4 (.int .i64)]
def S2 (K : KT) (r_6 : Option Addr) (k_7 : Sl) (n_8 : Int) (w : World) : Prop :=
  G.cond (n_8 == (0 : Int)) (K (0 : Int) w) (G.ix k_7.a k_7.n n_8 1 fun p9 => G.cI .i64 p9 w.drew fun n10 => G.ix k_7.a k_7.n n_8 1 fun p11 => G.cI .i64 p11 w.drew fun n12 => C.tocsinref08_Reader_bits r_6 n10 w.drew fun n13 w14 => sameAt p11 1 w.drew w14 ∧ (C.tocsinref02_Says n13 n12 w14 fun n15 w16 => K n15 w16))
theorem S2_ok (Kv : Value → World → Prop) : OkT pr false none 28 g2 (S2 (Kt Kv)) (s2 (tl 3 bd)) (P1 Kv) := ok_last mixed FOk_ fun v ρ w => by kernel_rfl
def P3 (Kv : Value → World → Prop) : Post := next (get g2 (S2 (Kt Kv))) (P1 Kv)
def P4 (Kv : Value → World → Prop) : Post := inBlock 0 (P3 Kv)
def P6 (Kv : Value → World → Prop) (kc5 : Cur g2) : Post := next (get g2 kc5) (P4 Kv)
def S7 (K : KT) (kc5 : Cur g2) (r_20 : Option Addr) (k_21 : Sl) (n_22 : Int) (w : World) : Prop :=
  G.cond (decide (n_22 < (4 : Int))) (C.tocsinref08_Reader_bits r_20 (1 : Int) w fun n23 w24 => G.cond (n23 == (1 : Int)) (kc5 r_20 k_21 (IntKind.i64.wrap (n_22 + (1 : Int))) w24) (S2 K r_20 k_21 n_22 w24)) (S2 K r_20 k_21 n_22 w)
theorem S7_ok (Kv : Value → World → Prop) (kc5 : Cur g2) : OkT pr false none 28 g2 (S7 (Kt Kv) kc5) (lp (blk (s1 (tl 3 bd)))) (P6 Kv kc5) := ok_last mixed FOk_ fun v ρ w => by kernel_rfl
def L5 (K : KT) : Cur g2 := loopC g2 (S7 K)
theorem L5_ok (Kv : Value → World → Prop) : OkT pr false none 28 g2 (L5 (Kt Kv)) (blk (s1 (tl 3 bd))) (P4 Kv) := ok_loop (B := S7 (Kt Kv)) (by kernel_rfl) fun kc => S7_ok Kv kc
theorem L5_ind {K : KT} {r_17 : Option Addr} {k_18 : Sl} {n_19 : Int} {w : World} (h : ∀ X : Cur g2, (∀ r_17 k_18 n_19 w, S7 K X r_17 k_18 n_19 w → X r_17 k_18 n_19 w) → X r_17 k_18 n_19 w) : L5 K r_17 k_18 n_19 w := fun X hX => h X fun r_17 k_18 n_19 w hb => hX (r_17, k_18, n_19, ()) w hb
theorem B8 (Kv : Value → World → Prop) : OkT pr false none 28 g2 (L5 (Kt Kv)) (s1 (tl 3 bd)) (P3 Kv) := ok_block 0 (by kernel_rfl) (L5_ok Kv)
theorem Q9 (Kv : Value → World → Prop) : OkT pr false none 28 g2 (L5 (Kt Kv)) (tl 3 bd) (P1 Kv) := ok_seq (by kernel_rfl) (S2_ok Kv) (B8 Kv)
end tocsinref08_Reader_time
def tocsinref08_Reader_time (r_2 : Option Addr) (w : World) (K : tocsinref08_Reader_time.KT) : Prop :=
  G.new (.cells #[(.int .i64 (0 : Int)), (.int .i64 (14 : Int)), (.int .i64 (17 : Int)), (.int .i64 (20 : Int)), (.int .i64 (64 : Int))] 3) w fun p25 w26 => tocsinref08_Reader_time.L5 K r_2 (⟨some p25, 5, 5⟩ : Sl) (0 : Int) w26
def tocsinref08_Reader_time.cl : CL := fun args K w => match args with
  | [.pointer x0] => C.tocsinref08_Reader_time x0 w (tocsinref08_Reader_time.Kt K)
  | _ => False
theorem tocsinref08_Reader_time.clok : OkC pr 47 tocsinref08_Reader_time.cl := by
  intro args K w h
  unfold tocsinref08_Reader_time.cl at h
  split at h
  · exact calls_group false mixed tocsinref08_Reader_time.FOk_ tocsinref08_Reader_time.fn rfl 3 (tocsinref08_Reader_time.Q9 K) (Eq.mp (by kernel_rfl) h)
  · exact h.elim

/-! tocsin/tocsinref08.Decode -/
namespace tocsinref08_Decode
abbrev KT := Sl → Int → World → Prop
def Kt (Kv : Value → World → Prop) : KT := fun l1 n2 w => Kv (.tuple #[l1.v, (.int .i64 n2)]) w
noncomputable def bd : Code := bdy Tryd.f25
theorem fn : FnOk pr 25 245 Tryd.f25 := ⟨Tryd.func25, by kernel_rfl, Tryd.ntmps25, by kernel_rfl, by kernel_rfl⟩
def F : Clee := ofL [(23, C.tocsinref08_Encode.cl), (38, C.tocsinref08_New.cl), (43, C.tocsinref02_New.cl), (44, C.tocsinref08_Reader_number.cl), (45, C.tocsinref08_Reader_bits.cl), (46, C.tocsinref08_Reader_value.cl), (47, C.tocsinref08_Reader_time.cl), (48, C.math_Float64frombits.cl)]
theorem FOk_ : FOk pr F := FOk_cons C.tocsinref08_Encode.clok (FOk_cons C.tocsinref08_New.clok (FOk_cons C.tocsinref02_New.clok (FOk_cons C.tocsinref08_Reader_number.clok (FOk_cons C.tocsinref08_Reader_bits.clok (FOk_cons C.tocsinref08_Reader_value.clok (FOk_cons C.tocsinref08_Reader_time.clok (FOk_consX C.math_Float64frombits.clok (FOk_nil))))))))
def P1 (Kv : Value → World → Prop) : Post := bodyK false pr 245 Tryd.f25 Kv
@[reducible] def g2 : List SE := [.v 0 .sl, .v 5 .ptr, .v 6 .sl]
def S2 (K : KT) (b_9 : Sl) (r_10 : Option Addr) (l_11 : Sl) (w : World) : Prop :=
  G.ptr r_10 fun p12 => G.cB (p12.add 2) w fun b13 => G.cond b13 (K nilS (3 : Int) w) (C.tocsinref08_Encode l_11 w fun l14 n15 n16 w17 => G.cond (n15 != (0 : Int)) (K nilS (3 : Int) w17) (G.rdS pr (Conv.bytesToString l14.v) w17 fun s18 => G.rdS pr (Conv.bytesToString b_9.v) w17 fun s19 => G.cond (!(s18.toList == s19.toList)) (K nilS (3 : Int) w17) (K l_11 (0 : Int) w17)))
theorem S2_ok (Kv : Value → World → Prop) : OkT pr false none 245 g2 (S2 (Kt Kv)) (s2 (tl 6 bd)) (P1 Kv) := ok_last mixed FOk_ fun v ρ w => by kernel_rfl
def P3 (Kv : Value → World → Prop) : Post := next (get g2 (S2 (Kt Kv))) (P1 Kv)
def P4 (Kv : Value → World → Prop) : Post := inBlock 0 (P3 Kv)
@[reducible] def g5 : List SE := [.v 0 .sl, .v 4 (.int .i64), .v 5 .ptr, .v 6 .sl, .v 7 (.int .i64)]
def P6 (Kv : Value → World → Prop) (kc5 : Cur g5) : Post := next (get g5 kc5) (P4 Kv)
def S7 (K : KT) (kc5 : Cur g5) (b_30 : Sl) (n_31 : Int) (r_32 : Option Addr) (l_33 : Sl) (i_34 : Int) (w : World) : Prop :=
  G.cond (decide (i_34 < n_31)) (G.ptr r_32 fun p35 => G.cB (p35.add 2) w fun b36 => G.cond (!b36) (G.cond (i_34 == (0 : Int)) (C.tocsinref08_Reader_number r_32 w fun n37 w38 => G.ptr r_32 fun p39 => G.cP (p39.add 1) w38 fun p40 => G.nn (1 : Int) <| G.ptr p40 fun p41 => G.st p41 (.int .i64 (IntKind.i64.wrap (shr .u64 n37 (1 : Int)))) w38 fun w42 => G.cond ((Go.bits .and .u64 n37 (1 : Int)) == (1 : Int)) (G.ptr r_32 fun p43 => G.st (p43.add 2) (.bool true) w42 fun w44 => G.ptr r_32 fun p45 => G.cP (p45.add 1) w44.drew fun p46 => C.tocsinref08_Reader_bits r_32 (64 : Int) w44.drew fun n47 w48 => sameAt (p45.add 1) 1 w44.drew w48 ∧ (G.ptr p46 fun p49 => G.st (p49.add 2) (.int .u64 n47) w48 fun w50 => G.ptr r_32 fun p51 => G.cP (p51.add 1) w50 fun p52 => G.ptr p52 fun p53 => G.cI .i64 p53 w50 fun n54 => G.cond (decide (n54 < (0 : Int))) (G.ptr r_32 fun p55 => G.st (p55.add 2) (.bool true) w50 fun w56 => G.ptr r_32 fun p57 => G.cP (p57.add 1) w56.drew fun p58 => G.ptr p58 fun p59 => G.cI .i64 p59 w56.drew fun n60 => G.ptr r_32 fun p61 => G.cP (p61.add 1) w56.drew fun p62 => G.ptr p62 fun p63 => G.cI .u64 (p63.add 2) w56.drew fun n64 => C.math_Float64frombits n64 w56.drew fun f65 w66 => sameAt (p57.add 1) 1 w56.drew w66 ∧ sameAt p59 1 w56.drew w66 ∧ (G.new (.cells #[(.int .i64 n60), (.float .f64 f65)] 26) w66 fun p67 w68 => G.runSl pr (Builtin.append_ #[24, 24] 24 #[l_33.v, (Sl.v (⟨some p67, 1, 1⟩ : Sl))]) w68 fun l69 w70 => kc5 b_30 n_31 r_32 l69 (IntKind.i64.wrap (i_34 + (1 : Int))) w70)) (G.ptr r_32 fun p71 => G.cP (p71.add 1) w50 fun p72 => G.ptr p72 fun p73 => G.cI .i64 p73 w50 fun n74 => G.cond (decide (n74 > (1125899906842624 : Int))) (G.ptr r_32 fun p75 => G.st (p75.add 2) (.bool true) w50 fun w76 => G.ptr r_32 fun p77 => G.cP (p77.add 1) w76.drew fun p78 => G.ptr p78 fun p79 => G.cI .i64 p79 w76.drew fun n80 => G.ptr r_32 fun p81 => G.cP (p81.add 1) w76.drew fun p82 => G.ptr p82 fun p83 => G.cI .u64 (p83.add 2) w76.drew fun n84 => C.math_Float64frombits n84 w76.drew fun f85 w86 => sameAt (p77.add 1) 1 w76.drew w86 ∧ sameAt p79 1 w76.drew w86 ∧ (G.new (.cells #[(.int .i64 n80), (.float .f64 f85)] 26) w86 fun p87 w88 => G.runSl pr (Builtin.append_ #[24, 24] 24 #[l_33.v, (Sl.v (⟨some p87, 1, 1⟩ : Sl))]) w88 fun l89 w90 => kc5 b_30 n_31 r_32 l89 (IntKind.i64.wrap (i_34 + (1 : Int))) w90)) (G.ptr r_32 fun p91 => G.cP (p91.add 1) w50.drew fun p92 => G.ptr p92 fun p93 => G.cI .i64 p93 w50.drew fun n94 => G.ptr r_32 fun p95 => G.cP (p95.add 1) w50.drew fun p96 => G.ptr p96 fun p97 => G.cI .u64 (p97.add 2) w50.drew fun n98 => C.math_Float64frombits n98 w50.drew fun f99 w100 => sameAt (p91.add 1) 1 w50.drew w100 ∧ sameAt p93 1 w50.drew w100 ∧ (G.new (.cells #[(.int .i64 n94), (.float .f64 f99)] 26) w100 fun p101 w102 => G.runSl pr (Builtin.append_ #[24, 24] 24 #[l_33.v, (Sl.v (⟨some p101, 1, 1⟩ : Sl))]) w102 fun l103 w104 => kc5 b_30 n_31 r_32 l103 (IntKind.i64.wrap (i_34 + (1 : Int))) w104))))) (G.ptr r_32 fun p105 => G.cP (p105.add 1) w42.drew fun p106 => C.tocsinref08_Reader_bits r_32 (64 : Int) w42.drew fun n107 w108 => sameAt (p105.add 1) 1 w42.drew w108 ∧ (G.ptr p106 fun p109 => G.st (p109.add 2) (.int .u64 n107) w108 fun w110 => G.ptr r_32 fun p111 => G.cP (p111.add 1) w110 fun p112 => G.ptr p112 fun p113 => G.cI .i64 p113 w110 fun n114 => G.cond (decide (n114 < (0 : Int))) (G.ptr r_32 fun p115 => G.st (p115.add 2) (.bool true) w110 fun w116 => G.ptr r_32 fun p117 => G.cP (p117.add 1) w116.drew fun p118 => G.ptr p118 fun p119 => G.cI .i64 p119 w116.drew fun n120 => G.ptr r_32 fun p121 => G.cP (p121.add 1) w116.drew fun p122 => G.ptr p122 fun p123 => G.cI .u64 (p123.add 2) w116.drew fun n124 => C.math_Float64frombits n124 w116.drew fun f125 w126 => sameAt (p117.add 1) 1 w116.drew w126 ∧ sameAt p119 1 w116.drew w126 ∧ (G.new (.cells #[(.int .i64 n120), (.float .f64 f125)] 26) w126 fun p127 w128 => G.runSl pr (Builtin.append_ #[24, 24] 24 #[l_33.v, (Sl.v (⟨some p127, 1, 1⟩ : Sl))]) w128 fun l129 w130 => kc5 b_30 n_31 r_32 l129 (IntKind.i64.wrap (i_34 + (1 : Int))) w130)) (G.ptr r_32 fun p131 => G.cP (p131.add 1) w110 fun p132 => G.ptr p132 fun p133 => G.cI .i64 p133 w110 fun n134 => G.cond (decide (n134 > (1125899906842624 : Int))) (G.ptr r_32 fun p135 => G.st (p135.add 2) (.bool true) w110 fun w136 => G.ptr r_32 fun p137 => G.cP (p137.add 1) w136.drew fun p138 => G.ptr p138 fun p139 => G.cI .i64 p139 w136.drew fun n140 => G.ptr r_32 fun p141 => G.cP (p141.add 1) w136.drew fun p142 => G.ptr p142 fun p143 => G.cI .u64 (p143.add 2) w136.drew fun n144 => C.math_Float64frombits n144 w136.drew fun f145 w146 => sameAt (p137.add 1) 1 w136.drew w146 ∧ sameAt p139 1 w136.drew w146 ∧ (G.new (.cells #[(.int .i64 n140), (.float .f64 f145)] 26) w146 fun p147 w148 => G.runSl pr (Builtin.append_ #[24, 24] 24 #[l_33.v, (Sl.v (⟨some p147, 1, 1⟩ : Sl))]) w148 fun l149 w150 => kc5 b_30 n_31 r_32 l149 (IntKind.i64.wrap (i_34 + (1 : Int))) w150)) (G.ptr r_32 fun p151 => G.cP (p151.add 1) w110.drew fun p152 => G.ptr p152 fun p153 => G.cI .i64 p153 w110.drew fun n154 => G.ptr r_32 fun p155 => G.cP (p155.add 1) w110.drew fun p156 => G.ptr p156 fun p157 => G.cI .u64 (p157.add 2) w110.drew fun n158 => C.math_Float64frombits n158 w110.drew fun f159 w160 => sameAt (p151.add 1) 1 w110.drew w160 ∧ sameAt p153 1 w110.drew w160 ∧ (G.new (.cells #[(.int .i64 n154), (.float .f64 f159)] 26) w160 fun p161 w162 => G.runSl pr (Builtin.append_ #[24, 24] 24 #[l_33.v, (Sl.v (⟨some p161, 1, 1⟩ : Sl))]) w162 fun l163 w164 => kc5 b_30 n_31 r_32 l163 (IntKind.i64.wrap (i_34 + (1 : Int))) w164)))))) (G.cond (i_34 == (1 : Int)) (C.tocsinref08_Reader_number r_32 w fun n165 w166 => G.cond (decide (n165 > (1125899906842624 : Int))) (G.ptr r_32 fun p167 => G.st (p167.add 2) (.bool true) w166 fun w168 => G.ptr r_32 fun p169 => G.cP (p169.add 1) w168 fun p170 => G.ptr p170 fun p171 => G.cI .i64 p171 w168 fun n172 => G.cond (decide (n172 < (0 : Int))) (G.ptr r_32 fun p173 => G.st (p173.add 2) (.bool true) w168 fun w174 => G.ptr r_32 fun p175 => G.cP (p175.add 1) w174.drew fun p176 => G.ptr p176 fun p177 => G.cI .i64 p177 w174.drew fun n178 => G.ptr r_32 fun p179 => G.cP (p179.add 1) w174.drew fun p180 => G.ptr p180 fun p181 => G.cI .u64 (p181.add 2) w174.drew fun n182 => C.math_Float64frombits n182 w174.drew fun f183 w184 => sameAt (p175.add 1) 1 w174.drew w184 ∧ sameAt p177 1 w174.drew w184 ∧ (G.new (.cells #[(.int .i64 n178), (.float .f64 f183)] 26) w184 fun p185 w186 => G.runSl pr (Builtin.append_ #[24, 24] 24 #[l_33.v, (Sl.v (⟨some p185, 1, 1⟩ : Sl))]) w186 fun l187 w188 => kc5 b_30 n_31 r_32 l187 (IntKind.i64.wrap (i_34 + (1 : Int))) w188)) (G.ptr r_32 fun p189 => G.cP (p189.add 1) w168 fun p190 => G.ptr p190 fun p191 => G.cI .i64 p191 w168 fun n192 => G.cond (decide (n192 > (1125899906842624 : Int))) (G.ptr r_32 fun p193 => G.st (p193.add 2) (.bool true) w168 fun w194 => G.ptr r_32 fun p195 => G.cP (p195.add 1) w194.drew fun p196 => G.ptr p196 fun p197 => G.cI .i64 p197 w194.drew fun n198 => G.ptr r_32 fun p199 => G.cP (p199.add 1) w194.drew fun p200 => G.ptr p200 fun p201 => G.cI .u64 (p201.add 2) w194.drew fun n202 => C.math_Float64frombits n202 w194.drew fun f203 w204 => sameAt (p195.add 1) 1 w194.drew w204 ∧ sameAt p197 1 w194.drew w204 ∧ (G.new (.cells #[(.int .i64 n198), (.float .f64 f203)] 26) w204 fun p205 w206 => G.runSl pr (Builtin.append_ #[24, 24] 24 #[l_33.v, (Sl.v (⟨some p205, 1, 1⟩ : Sl))]) w206 fun l207 w208 => kc5 b_30 n_31 r_32 l207 (IntKind.i64.wrap (i_34 + (1 : Int))) w208)) (G.ptr r_32 fun p209 => G.cP (p209.add 1) w168.drew fun p210 => G.ptr p210 fun p211 => G.cI .i64 p211 w168.drew fun n212 => G.ptr r_32 fun p213 => G.cP (p213.add 1) w168.drew fun p214 => G.ptr p214 fun p215 => G.cI .u64 (p215.add 2) w168.drew fun n216 => C.math_Float64frombits n216 w168.drew fun f217 w218 => sameAt (p209.add 1) 1 w168.drew w218 ∧ sameAt p211 1 w168.drew w218 ∧ (G.new (.cells #[(.int .i64 n212), (.float .f64 f217)] 26) w218 fun p219 w220 => G.runSl pr (Builtin.append_ #[24, 24] 24 #[l_33.v, (Sl.v (⟨some p219, 1, 1⟩ : Sl))]) w220 fun l221 w222 => kc5 b_30 n_31 r_32 l221 (IntKind.i64.wrap (i_34 + (1 : Int))) w222)))) (G.ptr r_32 fun p223 => G.cP (p223.add 1) w166 fun p224 => G.ptr p224 fun p225 => G.st (p225.add 1) (.int .i64 (IntKind.i64.wrap n165)) w166 fun w226 => G.ptr r_32 fun p227 => G.cP (p227.add 1) w226.drew fun p228 => G.ptr r_32 fun p229 => G.cP (p229.add 1) w226.drew fun p230 => G.ptr p230 fun p231 => G.cI .i64 p231 w226.drew fun n232 => G.ptr r_32 fun p233 => G.cP (p233.add 1) w226.drew fun p234 => G.ptr p234 fun p235 => G.cI .i64 (p235.add 1) w226.drew fun n236 => G.ptr p228 fun p237 => G.st p237 (.int .i64 (IntKind.i64.wrap (n232 + n236))) w226.drew fun w238 => G.ptr r_32 fun p239 => G.cP (p239.add 1) w238.drew fun p240 => C.tocsinref08_Reader_value r_32 w238.drew fun n241 w242 => sameAt (p239.add 1) 1 w238.drew w242 ∧ (G.ptr p240 fun p243 => G.st (p243.add 2) (.int .u64 n241) w242 fun w244 => G.ptr r_32 fun p245 => G.cP (p245.add 1) w244 fun p246 => G.ptr p246 fun p247 => G.cI .i64 p247 w244 fun n248 => G.cond (decide (n248 < (0 : Int))) (G.ptr r_32 fun p249 => G.st (p249.add 2) (.bool true) w244 fun w250 => G.ptr r_32 fun p251 => G.cP (p251.add 1) w250.drew fun p252 => G.ptr p252 fun p253 => G.cI .i64 p253 w250.drew fun n254 => G.ptr r_32 fun p255 => G.cP (p255.add 1) w250.drew fun p256 => G.ptr p256 fun p257 => G.cI .u64 (p257.add 2) w250.drew fun n258 => C.math_Float64frombits n258 w250.drew fun f259 w260 => sameAt (p251.add 1) 1 w250.drew w260 ∧ sameAt p253 1 w250.drew w260 ∧ (G.new (.cells #[(.int .i64 n254), (.float .f64 f259)] 26) w260 fun p261 w262 => G.runSl pr (Builtin.append_ #[24, 24] 24 #[l_33.v, (Sl.v (⟨some p261, 1, 1⟩ : Sl))]) w262 fun l263 w264 => kc5 b_30 n_31 r_32 l263 (IntKind.i64.wrap (i_34 + (1 : Int))) w264)) (G.ptr r_32 fun p265 => G.cP (p265.add 1) w244 fun p266 => G.ptr p266 fun p267 => G.cI .i64 p267 w244 fun n268 => G.cond (decide (n268 > (1125899906842624 : Int))) (G.ptr r_32 fun p269 => G.st (p269.add 2) (.bool true) w244 fun w270 => G.ptr r_32 fun p271 => G.cP (p271.add 1) w270.drew fun p272 => G.ptr p272 fun p273 => G.cI .i64 p273 w270.drew fun n274 => G.ptr r_32 fun p275 => G.cP (p275.add 1) w270.drew fun p276 => G.ptr p276 fun p277 => G.cI .u64 (p277.add 2) w270.drew fun n278 => C.math_Float64frombits n278 w270.drew fun f279 w280 => sameAt (p271.add 1) 1 w270.drew w280 ∧ sameAt p273 1 w270.drew w280 ∧ (G.new (.cells #[(.int .i64 n274), (.float .f64 f279)] 26) w280 fun p281 w282 => G.runSl pr (Builtin.append_ #[24, 24] 24 #[l_33.v, (Sl.v (⟨some p281, 1, 1⟩ : Sl))]) w282 fun l283 w284 => kc5 b_30 n_31 r_32 l283 (IntKind.i64.wrap (i_34 + (1 : Int))) w284)) (G.ptr r_32 fun p285 => G.cP (p285.add 1) w244.drew fun p286 => G.ptr p286 fun p287 => G.cI .i64 p287 w244.drew fun n288 => G.ptr r_32 fun p289 => G.cP (p289.add 1) w244.drew fun p290 => G.ptr p290 fun p291 => G.cI .u64 (p291.add 2) w244.drew fun n292 => C.math_Float64frombits n292 w244.drew fun f293 w294 => sameAt (p285.add 1) 1 w244.drew w294 ∧ sameAt p287 1 w244.drew w294 ∧ (G.new (.cells #[(.int .i64 n288), (.float .f64 f293)] 26) w294 fun p295 w296 => G.runSl pr (Builtin.append_ #[24, 24] 24 #[l_33.v, (Sl.v (⟨some p295, 1, 1⟩ : Sl))]) w296 fun l297 w298 => kc5 b_30 n_31 r_32 l297 (IntKind.i64.wrap (i_34 + (1 : Int))) w298)))))) (C.tocsinref08_Reader_time r_32 w fun n299 w300 => G.cond (decide (n299 > (1125899906842624 : Int))) (G.ptr r_32 fun p301 => G.st (p301.add 2) (.bool true) w300 fun w302 => G.ptr r_32 fun p303 => G.cP (p303.add 1) w302 fun p304 => G.ptr p304 fun p305 => G.cI .i64 p305 w302 fun n306 => G.cond (decide (n306 < (0 : Int))) (G.ptr r_32 fun p307 => G.st (p307.add 2) (.bool true) w302 fun w308 => G.ptr r_32 fun p309 => G.cP (p309.add 1) w308.drew fun p310 => G.ptr p310 fun p311 => G.cI .i64 p311 w308.drew fun n312 => G.ptr r_32 fun p313 => G.cP (p313.add 1) w308.drew fun p314 => G.ptr p314 fun p315 => G.cI .u64 (p315.add 2) w308.drew fun n316 => C.math_Float64frombits n316 w308.drew fun f317 w318 => sameAt (p309.add 1) 1 w308.drew w318 ∧ sameAt p311 1 w308.drew w318 ∧ (G.new (.cells #[(.int .i64 n312), (.float .f64 f317)] 26) w318 fun p319 w320 => G.runSl pr (Builtin.append_ #[24, 24] 24 #[l_33.v, (Sl.v (⟨some p319, 1, 1⟩ : Sl))]) w320 fun l321 w322 => kc5 b_30 n_31 r_32 l321 (IntKind.i64.wrap (i_34 + (1 : Int))) w322)) (G.ptr r_32 fun p323 => G.cP (p323.add 1) w302 fun p324 => G.ptr p324 fun p325 => G.cI .i64 p325 w302 fun n326 => G.cond (decide (n326 > (1125899906842624 : Int))) (G.ptr r_32 fun p327 => G.st (p327.add 2) (.bool true) w302 fun w328 => G.ptr r_32 fun p329 => G.cP (p329.add 1) w328.drew fun p330 => G.ptr p330 fun p331 => G.cI .i64 p331 w328.drew fun n332 => G.ptr r_32 fun p333 => G.cP (p333.add 1) w328.drew fun p334 => G.ptr p334 fun p335 => G.cI .u64 (p335.add 2) w328.drew fun n336 => C.math_Float64frombits n336 w328.drew fun f337 w338 => sameAt (p329.add 1) 1 w328.drew w338 ∧ sameAt p331 1 w328.drew w338 ∧ (G.new (.cells #[(.int .i64 n332), (.float .f64 f337)] 26) w338 fun p339 w340 => G.runSl pr (Builtin.append_ #[24, 24] 24 #[l_33.v, (Sl.v (⟨some p339, 1, 1⟩ : Sl))]) w340 fun l341 w342 => kc5 b_30 n_31 r_32 l341 (IntKind.i64.wrap (i_34 + (1 : Int))) w342)) (G.ptr r_32 fun p343 => G.cP (p343.add 1) w302.drew fun p344 => G.ptr p344 fun p345 => G.cI .i64 p345 w302.drew fun n346 => G.ptr r_32 fun p347 => G.cP (p347.add 1) w302.drew fun p348 => G.ptr p348 fun p349 => G.cI .u64 (p349.add 2) w302.drew fun n350 => C.math_Float64frombits n350 w302.drew fun f351 w352 => sameAt (p343.add 1) 1 w302.drew w352 ∧ sameAt p345 1 w302.drew w352 ∧ (G.new (.cells #[(.int .i64 n346), (.float .f64 f351)] 26) w352 fun p353 w354 => G.runSl pr (Builtin.append_ #[24, 24] 24 #[l_33.v, (Sl.v (⟨some p353, 1, 1⟩ : Sl))]) w354 fun l355 w356 => kc5 b_30 n_31 r_32 l355 (IntKind.i64.wrap (i_34 + (1 : Int))) w356)))) (G.cond (decide (n299 < (-1125899906842624 : Int))) (G.ptr r_32 fun p357 => G.st (p357.add 2) (.bool true) w300 fun w358 => G.ptr r_32 fun p359 => G.cP (p359.add 1) w358 fun p360 => G.ptr p360 fun p361 => G.cI .i64 p361 w358 fun n362 => G.cond (decide (n362 < (0 : Int))) (G.ptr r_32 fun p363 => G.st (p363.add 2) (.bool true) w358 fun w364 => G.ptr r_32 fun p365 => G.cP (p365.add 1) w364.drew fun p366 => G.ptr p366 fun p367 => G.cI .i64 p367 w364.drew fun n368 => G.ptr r_32 fun p369 => G.cP (p369.add 1) w364.drew fun p370 => G.ptr p370 fun p371 => G.cI .u64 (p371.add 2) w364.drew fun n372 => C.math_Float64frombits n372 w364.drew fun f373 w374 => sameAt (p365.add 1) 1 w364.drew w374 ∧ sameAt p367 1 w364.drew w374 ∧ (G.new (.cells #[(.int .i64 n368), (.float .f64 f373)] 26) w374 fun p375 w376 => G.runSl pr (Builtin.append_ #[24, 24] 24 #[l_33.v, (Sl.v (⟨some p375, 1, 1⟩ : Sl))]) w376 fun l377 w378 => kc5 b_30 n_31 r_32 l377 (IntKind.i64.wrap (i_34 + (1 : Int))) w378)) (G.ptr r_32 fun p379 => G.cP (p379.add 1) w358 fun p380 => G.ptr p380 fun p381 => G.cI .i64 p381 w358 fun n382 => G.cond (decide (n382 > (1125899906842624 : Int))) (G.ptr r_32 fun p383 => G.st (p383.add 2) (.bool true) w358 fun w384 => G.ptr r_32 fun p385 => G.cP (p385.add 1) w384.drew fun p386 => G.ptr p386 fun p387 => G.cI .i64 p387 w384.drew fun n388 => G.ptr r_32 fun p389 => G.cP (p389.add 1) w384.drew fun p390 => G.ptr p390 fun p391 => G.cI .u64 (p391.add 2) w384.drew fun n392 => C.math_Float64frombits n392 w384.drew fun f393 w394 => sameAt (p385.add 1) 1 w384.drew w394 ∧ sameAt p387 1 w384.drew w394 ∧ (G.new (.cells #[(.int .i64 n388), (.float .f64 f393)] 26) w394 fun p395 w396 => G.runSl pr (Builtin.append_ #[24, 24] 24 #[l_33.v, (Sl.v (⟨some p395, 1, 1⟩ : Sl))]) w396 fun l397 w398 => kc5 b_30 n_31 r_32 l397 (IntKind.i64.wrap (i_34 + (1 : Int))) w398)) (G.ptr r_32 fun p399 => G.cP (p399.add 1) w358.drew fun p400 => G.ptr p400 fun p401 => G.cI .i64 p401 w358.drew fun n402 => G.ptr r_32 fun p403 => G.cP (p403.add 1) w358.drew fun p404 => G.ptr p404 fun p405 => G.cI .u64 (p405.add 2) w358.drew fun n406 => C.math_Float64frombits n406 w358.drew fun f407 w408 => sameAt (p399.add 1) 1 w358.drew w408 ∧ sameAt p401 1 w358.drew w408 ∧ (G.new (.cells #[(.int .i64 n402), (.float .f64 f407)] 26) w408 fun p409 w410 => G.runSl pr (Builtin.append_ #[24, 24] 24 #[l_33.v, (Sl.v (⟨some p409, 1, 1⟩ : Sl))]) w410 fun l411 w412 => kc5 b_30 n_31 r_32 l411 (IntKind.i64.wrap (i_34 + (1 : Int))) w412)))) (G.ptr r_32 fun p413 => G.cP (p413.add 1) w300.drew fun p414 => G.ptr r_32 fun p415 => G.cP (p415.add 1) w300.drew fun p416 => G.ptr p416 fun p417 => G.cI .i64 (p417.add 1) w300.drew fun n418 => G.ptr p414 fun p419 => G.st (p419.add 1) (.int .i64 (IntKind.i64.wrap (n418 + n299))) w300.drew fun w420 => G.ptr r_32 fun p421 => G.cP (p421.add 1) w420.drew fun p422 => G.ptr r_32 fun p423 => G.cP (p423.add 1) w420.drew fun p424 => G.ptr p424 fun p425 => G.cI .i64 p425 w420.drew fun n426 => G.ptr r_32 fun p427 => G.cP (p427.add 1) w420.drew fun p428 => G.ptr p428 fun p429 => G.cI .i64 (p429.add 1) w420.drew fun n430 => G.ptr p422 fun p431 => G.st p431 (.int .i64 (IntKind.i64.wrap (n426 + n430))) w420.drew fun w432 => G.ptr r_32 fun p433 => G.cP (p433.add 1) w432.drew fun p434 => C.tocsinref08_Reader_value r_32 w432.drew fun n435 w436 => sameAt (p433.add 1) 1 w432.drew w436 ∧ (G.ptr p434 fun p437 => G.st (p437.add 2) (.int .u64 n435) w436 fun w438 => G.ptr r_32 fun p439 => G.cP (p439.add 1) w438 fun p440 => G.ptr p440 fun p441 => G.cI .i64 p441 w438 fun n442 => G.cond (decide (n442 < (0 : Int))) (G.ptr r_32 fun p443 => G.st (p443.add 2) (.bool true) w438 fun w444 => G.ptr r_32 fun p445 => G.cP (p445.add 1) w444.drew fun p446 => G.ptr p446 fun p447 => G.cI .i64 p447 w444.drew fun n448 => G.ptr r_32 fun p449 => G.cP (p449.add 1) w444.drew fun p450 => G.ptr p450 fun p451 => G.cI .u64 (p451.add 2) w444.drew fun n452 => C.math_Float64frombits n452 w444.drew fun f453 w454 => sameAt (p445.add 1) 1 w444.drew w454 ∧ sameAt p447 1 w444.drew w454 ∧ (G.new (.cells #[(.int .i64 n448), (.float .f64 f453)] 26) w454 fun p455 w456 => G.runSl pr (Builtin.append_ #[24, 24] 24 #[l_33.v, (Sl.v (⟨some p455, 1, 1⟩ : Sl))]) w456 fun l457 w458 => kc5 b_30 n_31 r_32 l457 (IntKind.i64.wrap (i_34 + (1 : Int))) w458)) (G.ptr r_32 fun p459 => G.cP (p459.add 1) w438 fun p460 => G.ptr p460 fun p461 => G.cI .i64 p461 w438 fun n462 => G.cond (decide (n462 > (1125899906842624 : Int))) (G.ptr r_32 fun p463 => G.st (p463.add 2) (.bool true) w438 fun w464 => G.ptr r_32 fun p465 => G.cP (p465.add 1) w464.drew fun p466 => G.ptr p466 fun p467 => G.cI .i64 p467 w464.drew fun n468 => G.ptr r_32 fun p469 => G.cP (p469.add 1) w464.drew fun p470 => G.ptr p470 fun p471 => G.cI .u64 (p471.add 2) w464.drew fun n472 => C.math_Float64frombits n472 w464.drew fun f473 w474 => sameAt (p465.add 1) 1 w464.drew w474 ∧ sameAt p467 1 w464.drew w474 ∧ (G.new (.cells #[(.int .i64 n468), (.float .f64 f473)] 26) w474 fun p475 w476 => G.runSl pr (Builtin.append_ #[24, 24] 24 #[l_33.v, (Sl.v (⟨some p475, 1, 1⟩ : Sl))]) w476 fun l477 w478 => kc5 b_30 n_31 r_32 l477 (IntKind.i64.wrap (i_34 + (1 : Int))) w478)) (G.ptr r_32 fun p479 => G.cP (p479.add 1) w438.drew fun p480 => G.ptr p480 fun p481 => G.cI .i64 p481 w438.drew fun n482 => G.ptr r_32 fun p483 => G.cP (p483.add 1) w438.drew fun p484 => G.ptr p484 fun p485 => G.cI .u64 (p485.add 2) w438.drew fun n486 => C.math_Float64frombits n486 w438.drew fun f487 w488 => sameAt (p479.add 1) 1 w438.drew w488 ∧ sameAt p481 1 w438.drew w488 ∧ (G.new (.cells #[(.int .i64 n482), (.float .f64 f487)] 26) w488 fun p489 w490 => G.runSl pr (Builtin.append_ #[24, 24] 24 #[l_33.v, (Sl.v (⟨some p489, 1, 1⟩ : Sl))]) w490 fun l491 w492 => kc5 b_30 n_31 r_32 l491 (IntKind.i64.wrap (i_34 + (1 : Int))) w492))))))))) (S2 K b_30 r_32 l_33 w)) (S2 K b_30 r_32 l_33 w)
theorem S7_ok (Kv : Value → World → Prop) (kc5 : Cur g5) : OkT pr false none 245 g5 (S7 (Kt Kv) kc5) (lp (blk (tl 1 (s1 (tl 6 bd))))) (P6 Kv kc5) := ok_last mixed FOk_ fun v ρ w => by kernel_rfl
def L5 (K : KT) : Cur g5 := loopC g5 (S7 K)
theorem L5_ok (Kv : Value → World → Prop) : OkT pr false none 245 g5 (L5 (Kt Kv)) (blk (tl 1 (s1 (tl 6 bd)))) (P4 Kv) := ok_loop (B := S7 (Kt Kv)) (by kernel_rfl) fun kc => S7_ok Kv kc
theorem L5_ind {K : KT} {b_20 : Sl} {n_21 : Int} {r_22 : Option Addr} {l_23 : Sl} {i_24 : Int} {w : World} (h : ∀ X : Cur g5, (∀ b_20 n_21 r_22 l_23 i_24 w, S7 K X b_20 n_21 r_22 l_23 i_24 w → X b_20 n_21 r_22 l_23 i_24 w) → X b_20 n_21 r_22 l_23 i_24 w) : L5 K b_20 n_21 r_22 l_23 i_24 w := fun X hX => h X fun b_20 n_21 r_22 l_23 i_24 w hb => hX (b_20, n_21, r_22, l_23, i_24, ()) w hb
theorem B8 (Kv : Value → World → Prop) : OkT pr false none 245 g5 (L5 (Kt Kv)) (tl 1 (s1 (tl 6 bd))) (P3 Kv) := ok_block 0 (by kernel_rfl) (L5_ok Kv)
@[reducible] def g9 : List SE := [.v 0 .sl, .v 4 (.int .i64), .v 5 .ptr, .v 6 .sl]
def S9 (K : KT) (b_493 : Sl) (n_494 : Int) (r_495 : Option Addr) (l_496 : Sl) (w : World) : Prop :=
  L5 K b_493 n_494 r_495 l_496 (0 : Int) w
theorem S9_ok (Kv : Value → World → Prop) : OkT pr false none 245 g9 (S9 (Kt Kv)) (s1 (tl 6 bd)) (P3 Kv) := ok_group mixed FOk_ 1 (B8 Kv) fun v ρ w => by kernel_rfl
theorem Q10 (Kv : Value → World → Prop) : OkT pr false none 245 g9 (S9 (Kt Kv)) (tl 6 bd) (P1 Kv) := ok_seq (by kernel_rfl) (S2_ok Kv) (S9_ok Kv)
end tocsinref08_Decode
def tocsinref08_Decode (b_3 : Sl) (w : World) (K : tocsinref08_Decode.KT) : Prop :=
  G.cond (decide (((b_3.n : Nat) : Int) < (2 : Int))) (K nilS (3 : Int) w) (G.cond (decide (((b_3.n : Nat) : Int) > (4000 : Int))) (K nilS (3 : Int) w) (G.ix b_3.a b_3.n (0 : Int) 1 fun p497 => G.cI .u8 p497 w.drew fun n498 => G.ix b_3.a b_3.n (1 : Int) 1 fun p499 => G.cI .u8 p499 w.drew fun n500 => G.cond (decide ((IntKind.i64.wrap ((IntKind.i64.wrap ((IntKind.i64.wrap n498) * (256 : Int))) + (IntKind.i64.wrap n500))) > (120 : Int))) (K nilS (3 : Int) w.drew) (G.slc b_3 (2 : Int) ((b_3.n : Nat) : Int) 1 fun l501 => C.tocsinref02_New l501 (IntKind.i64.wrap ((8 : Int) * (IntKind.i64.wrap (((b_3.n : Nat) : Int) - (2 : Int))))) w.drew fun p502 w503 => C.tocsinref08_New w503 fun p504 w505 => G.new (.cells #[(.pointer p502), (.pointer p504), (.bool false)] 91) w505 fun p506 w507 => tocsinref08_Decode.S9 K b_3 (IntKind.i64.wrap ((IntKind.i64.wrap ((IntKind.i64.wrap n498) * (256 : Int))) + (IntKind.i64.wrap n500))) (some p506) nilS w507)))
def tocsinref08_Decode.cl : CL := fun args K w => match args with
  | [.slice x0_a x0_n x0_c] => C.tocsinref08_Decode ⟨x0_a, x0_n, x0_c⟩ w (tocsinref08_Decode.Kt K)
  | _ => False
theorem tocsinref08_Decode.clok : OkC pr 25 tocsinref08_Decode.cl := by
  intro args K w h
  unfold tocsinref08_Decode.cl at h
  split at h
  · exact calls_group false mixed tocsinref08_Decode.FOk_ tocsinref08_Decode.fn rfl 6 (tocsinref08_Decode.Q10 K) (Eq.mp (by kernel_rfl) h)
  · exact h.elim

/-! tocsin/tocsinlaw08.kept -/
namespace tocsinlaw08_kept
abbrev KT := Bool → World → Prop
def Kt (Kv : Value → World → Prop) : KT := fun b1 w => Kv (.bool b1) w
noncomputable def bd : Code := bdy Tryd.f26
theorem fn : FnOk pr 26 22 Tryd.f26 := ⟨Tryd.func26, by kernel_rfl, Tryd.ntmps26, by kernel_rfl, by kernel_rfl⟩
def F : Clee := ofL []
theorem FOk_ : FOk pr F := FOk_nil
def P1 (Kv : Value → World → Prop) : Post := bodyK false pr 22 Tryd.f26 Kv
end tocsinlaw08_kept
def tocsinlaw08_kept (c_2 : Sl) (b_3 : Sl) (w : World) (K : tocsinlaw08_kept.KT) : Prop :=
  G.rdS pr (Conv.bytesToString c_2.v) w fun s4 => G.rdS pr (Conv.bytesToString b_3.v) w fun s5 => G.cond (s4.toList == s5.toList) (G.slc c_2 0 (IntKind.i64.wrap (((b_3.n : Nat) : Int) + (1 : Int))) 1 fun l6 => G.ix l6.a l6.n ((b_3.n : Nat) : Int) 1 fun p7 => G.cI .u8 p7 w fun n8 => K (n8 == (77 : Int)) w) (K false w)
def tocsinlaw08_kept.cl : CL := fun args K w => match args with
  | [.slice x0_a x0_n x0_c, .slice x1_a x1_n x1_c] => C.tocsinlaw08_kept ⟨x0_a, x0_n, x0_c⟩ ⟨x1_a, x1_n, x1_c⟩ w (tocsinlaw08_kept.Kt K)
  | _ => False
theorem tocsinlaw08_kept.clok : OkC pr 26 tocsinlaw08_kept.cl := by
  intro args K w h
  unfold tocsinlaw08_kept.cl at h
  split at h
  · exact calls_last false mixed tocsinlaw08_kept.FOk_ tocsinlaw08_kept.fn rfl (Eq.mp (by kernel_rfl) h)
  · exact h.elim

/-! tocsin/chunk.Range$1 -/
namespace chunk_Range_1
abbrev KT := World → Prop
def Kt (Kv : Value → World → Prop) : KT := fun  w => Kv (.tuple #[]) w
noncomputable def bd : Code := bdy Tryd.f71
theorem fn : FnOk pr 71 26 Tryd.f71 := ⟨Tryd.func71, by kernel_rfl, Tryd.ntmps71, by kernel_rfl, by kernel_rfl⟩
def F : Clee := ofL [(36, C.chunk_Chunk_All.cl), (57, C.chunk_Chunk_All_1.cl)]
theorem FOk_ : FOk pr F := FOk_cons C.chunk_Chunk_All.clok (FOk_cons C.chunk_Chunk_All_1.clok (FOk_nil))
def Fc : Clee := ofL [(57, C.chunk_Chunk_All_1.cl)]
theorem FcOk : FOkB pr Fc := FOkB_cons C.chunk_Chunk_All_1.clok (FOkB_nil)
def P1 (Kv : Value → World → Prop) : Post := bodyK true pr 26 Tryd.f71 Kv
def P2 (Kv : Value → World → Prop) : Post := inBlock 0 (P1 Kv)
@[reducible] def g3 : List SE := [.v 2 .ptr, .v 3 .ptr, .v 4 .ptr, .v 8 .raw, .v 26 .raw]
def P4 (Rr : Exit → World → Prop) : Post := RP Rr
@[reducible] def g5 : List SE := [.v 2 .ptr, .v 3 .ptr, .v 4 .ptr, .v 5 (.int .i64), .v 6 (.fl .f64)]
def S5 (Rr : Exit → World → Prop) (p10 : Option Addr) (p11 : Option Addr) (yield_12 : Option Addr) (t_13 : Int) (v_14 : Nat) (w : World) : Prop :=
  G.ptr p10 fun p15 => G.cI .i64 p15 w fun n16 => G.cond (decide (t_13 ≥ n16)) (G.ptr p11 fun p17 => G.cI .i64 p17 w fun n18 => G.cond (decide (t_13 ≤ n18)) (G.ptr yield_12 fun p19 => G.cV p19 w fun v20 => G.callV pr F v20 [(.int .i64 t_13), (.float .f64 v_14)] w fun v21 w22 => G.isB v21 fun b23 => G.cond (!b23) (Rr .ret w22) (Rr .normal w22)) (Rr .normal w)) (Rr .normal w)
theorem S5_ok (Rr : Exit → World → Prop) {ro : Option Nat} : OkT pr false ro 26 g5 (S5 Rr) (rbd (blk (tl 2 bd))) (P4 Rr) := ok_last mixed FOk_ fun v ρ w => by kernel_rfl
def B_R3 (p5 : Option Addr) (p6 : Option Addr) (yield_7 : Option Addr) (v8 : Value) (v9 : Value) (args : List Value) (wb : World) (Rr : Exit → World → Prop) : Prop := match args with
  | [.int .i64 y_24, .float .f64 y_25] => S5 Rr p5 p6 yield_7 y_24 y_25 wb
  | _ => False
def O_R3 (K : KT) (p5 : Option Addr) (p6 : Option Addr) (yield_7 : Option Addr) (v8 : Value) (v9 : Value) (e : Exit) (D : Nat) (w : World) : Prop := match e with
  | .normal => G.marks (pushMark v9 D) w fun w26 => K w26
  | .ret => G.marks (pushMark v9 D) w fun w27 => K w27
  | _ => False
def R3 (K : KT) (p5 : Option Addr) (p6 : Option Addr) (yield_7 : Option Addr) (v8 : Value) (v9 : Value) (w : World) : Prop :=
  G.rangeF Fc v8 pr (B_R3 p5 p6 yield_7 v8 v9) w (O_R3 K p5 p6 yield_7 v8 v9)
theorem R3_ok (Kv : Value → World → Prop) : OkT pr true none 26 g3 (R3 (Kt Kv)) (blk (tl 2 bd)) (P2 Kv) := by
  refine ok_range mixed FOk_ FcOk (s := 8) (ps := #[9, 10]) (Bt := fun v => B_R3 v.1 v.2.1 v.2.2.1 v.2.2.2.1 v.2.2.2.2.1) (kB := fun Rr => S5 Rr) (sgB := g5) (out := fun v => O_R3 (Kt Kv) v.1 v.2.1 v.2.2.1 v.2.2.2.1 v.2.2.2.2.1) (by kernel_rfl) (fun v ρ w => by kernel_rfl) ?_ (fun Rr l => S5_ok Rr) ?_
  · intro v ρ args w wb Rr h
    have h' : B_R3 v.1 v.2.1 v.2.2.1 v.2.2.2.1 v.2.2.2.2.1 args wb Rr := h
    unfold B_R3 at h'
    split at h'
    · exact ⟨rfl, Eq.mp (by kernel_rfl) (And.intro (Eq.refl w) h')⟩
    · exact h'.elim
  · intro v ρ e D w h
    cases e with
    | normal => exact Eq.mp (by kernel_rfl) h
    | ret => exact Eq.mp (by kernel_rfl) h
    | _ => exact h.elim
theorem B6 (Kv : Value → World → Prop) : OkT pr true none 26 g3 (R3 (Kt Kv)) (tl 2 bd) (P1 Kv) := ok_block 0 (by kernel_rfl) (R3_ok Kv)
end chunk_Range_1
def chunk_Range_1 (yield_1 : Value) (p_2 : Option Addr) (p_3 : Option Addr) (p_4 : Option Addr) (w : World) (K : chunk_Range_1.KT) : Prop :=
  G.new (.cells (Value.cells yield_1) 45) w fun p28 w29 => G.ptr p_2 fun p30 => G.cP p30 w29 fun p31 => C.chunk_Chunk_All p31 w29 fun v32 w33 => chunk_Range_1.R3 K p_3 p_4 (some p28) v32 undef w33
def chunk_Range_1.cl : CL := fun args K w => match args with
  | [x0, .pointer x1, .pointer x2, .pointer x3] => C.chunk_Range_1 x0 x1 x2 x3 w (chunk_Range_1.Kt K)
  | _ => False
theorem chunk_Range_1.clok : OkC pr 71 chunk_Range_1.cl := by
  intro args K w h
  unfold chunk_Range_1.cl at h
  split at h
  · exact calls_group true mixed chunk_Range_1.FOk_ chunk_Range_1.fn rfl 2 (chunk_Range_1.B6 K) (Eq.mp (by kernel_rfl) h)
  · exact h.elim

/-! tocsin/chunk.Range -/
namespace chunk_Range
abbrev KT := Value → Int → World → Prop
def Kt (Kv : Value → World → Prop) : KT := fun v1 n2 w => Kv (.tuple #[v1, (.int .i64 n2)]) w
noncomputable def bd : Code := bdy Tryd.f49
theorem fn : FnOk pr 49 23 Tryd.f49 := ⟨Tryd.func49, by kernel_rfl, Tryd.ntmps49, by kernel_rfl, by kernel_rfl⟩
def F : Clee := ofL [(22, C.chunk_Decode.cl)]
theorem FOk_ : FOk pr F := FOk_cons C.chunk_Decode.clok (FOk_nil)
def P1 (Kv : Value → World → Prop) : Post := bodyK false pr 23 Tryd.f49 Kv
end chunk_Range
def chunk_Range (b_3 : Sl) (from_4 : Int) (to_5 : Int) (w : World) (K : chunk_Range.KT) : Prop :=
  G.new (.cells #[(.int .i64 from_4)] 2) w fun p9 w10 => G.new (.cells #[(.int .i64 to_5)] 2) w10 fun p11 w12 => C.chunk_Decode b_3 w12 fun l13 n14 w15 => G.cond (n14 != (0 : Int)) (K Value.nilFunc n14 w15) (G.new (.cells #[l13.v, (.pointer none), (.int .i64 (0 : Int)), (.int .i64 (0 : Int)), (.bool false)] 67) w15 fun p16 w17 => G.new (.cells #[(.pointer none)] 32) w17 fun p18 w19 => G.st p18 (.pointer (some p16)) w19 fun w20 => K (Value.func (.func 71) #[] #[(.pointer (some p18)), (.pointer (some p9)), (.pointer (some p11))]) (0 : Int) w20)
def chunk_Range.cl : CL := fun args K w => match args with
  | [.slice x0_a x0_n x0_c, .int .i64 x1, .int .i64 x2] => C.chunk_Range ⟨x0_a, x0_n, x0_c⟩ x1 x2 w (chunk_Range.Kt K)
  | _ => False
theorem chunk_Range.clok : OkC pr 49 chunk_Range.cl := by
  intro args K w h
  unfold chunk_Range.cl at h
  split at h
  · exact calls_last false mixed chunk_Range.FOk_ chunk_Range.fn rfl (Eq.mp (by kernel_rfl) h)
  · exact h.elim

/-! tocsin/tocsinlaw08.ranged -/
namespace tocsinlaw08_ranged
abbrev KT := Sl → Int → World → Prop
def Kt (Kv : Value → World → Prop) : KT := fun l1 n2 w => Kv (.tuple #[l1.v, (.int .i64 n2)]) w
noncomputable def bd : Code := bdy Tryd.f27
theorem fn : FnOk pr 27 37 Tryd.f27 := ⟨Tryd.func27, by kernel_rfl, Tryd.ntmps27, by kernel_rfl, by kernel_rfl⟩
def F : Clee := ofL [(49, C.chunk_Range.cl)]
theorem FOk_ : FOk pr F := FOk_cons C.chunk_Range.clok (FOk_nil)
def Fc : Clee := ofL [(57, C.chunk_Chunk_All_1.cl), (71, C.chunk_Range_1.cl)]
theorem FcOk : FOkB pr Fc := FOkB_cons C.chunk_Chunk_All_1.clok (FOkB_cons C.chunk_Range_1.clok (FOkB_nil))
def P1 (Kv : Value → World → Prop) : Post := bodyK true pr 37 Tryd.f27 Kv
@[reducible] def g2 : List SE := [.v 8 .ptr, .v 10 (.int .i64), .v 37 .raw]
def S2 (K : KT) (l_6 : Option Addr) (e_7 : Int) (v8 : Value) (w : World) : Prop :=
  G.ptr l_6 fun p9 => G.cSl p9 w fun l10 => G.marks v8 w fun w11 => K l10 e_7 w11
theorem S2_ok (Kv : Value → World → Prop) : OkT pr true none 37 g2 (S2 (Kt Kv)) (s2 (tl 4 bd)) (P1 Kv) := ok_last mixed FOk_ fun v ρ w => by kernel_rfl
def P3 (Kv : Value → World → Prop) : Post := next (get g2 (S2 (Kt Kv))) (P1 Kv)
def P4 (Kv : Value → World → Prop) : Post := inBlock 0 (P3 Kv)
@[reducible] def g5 : List SE := [.v 8 .ptr, .v 10 (.int .i64), .v 23 .raw, .v 37 .raw]
def P6 (Rr : Exit → World → Prop) : Post := RP Rr
@[reducible] def g7 : List SE := [.v 8 .ptr, .v 11 (.int .i64), .v 12 (.fl .f64)]
def S7 (Rr : Exit → World → Prop) (l_16 : Option Addr) (t_17 : Int) (v_18 : Nat) (w : World) : Prop :=
  G.ptr l_16 fun p19 => G.cSl p19 w fun l20 => G.new (.cells #[(.int .i64 t_17), (.float .f64 v_18)] 26) w fun p21 w22 => G.runSl pr (Builtin.append_ #[24, 24] 24 #[l20.v, (Sl.v (⟨some p21, 1, 1⟩ : Sl))]) w22 fun l23 w24 => G.ptr l_16 fun p25 => G.st p25 l23.v w24 fun w26 => G.ptr l_16 fun p27 => G.cSl p27 w26 fun l28 => G.cond (decide (((l28.n : Nat) : Int) > (240 : Int))) (Rr (.exit 0) w26) (Rr .normal w26)
theorem S7_ok (Rr : Exit → World → Prop) {ro : Option Nat} : OkT pr false ro 37 g7 (S7 Rr) (rbd (blk (tl 1 (s1 (tl 4 bd))))) (P6 Rr) := ok_last mixed FOk_ fun v ρ w => by kernel_rfl
def B_R5 (l_12 : Option Addr) (e_13 : Int) (v14 : Value) (v15 : Value) (args : List Value) (wb : World) (Rr : Exit → World → Prop) : Prop := match args with
  | [.int .i64 y_29, .float .f64 y_30] => S7 Rr l_12 y_29 y_30 wb
  | _ => False
def O_R5 (K : KT) (l_12 : Option Addr) (e_13 : Int) (v14 : Value) (v15 : Value) (e : Exit) (D : Nat) (w : World) : Prop := match e with
  | .normal => S2 K l_12 e_13 (pushMark v15 D) w
  | .exit i => bif Nat.beq i 0 then (S2 K l_12 e_13 (pushMark v15 D) w) else False
  | _ => False
def R5 (K : KT) (l_12 : Option Addr) (e_13 : Int) (v14 : Value) (v15 : Value) (w : World) : Prop :=
  G.rangeF Fc v14 pr (B_R5 l_12 e_13 v14 v15) w (O_R5 K l_12 e_13 v14 v15)
theorem R5_ok (Kv : Value → World → Prop) : OkT pr true none 37 g5 (R5 (Kt Kv)) (blk (tl 1 (s1 (tl 4 bd)))) (P4 Kv) := by
  refine ok_range mixed FOk_ FcOk (s := 23) (ps := #[24, 25]) (Bt := fun v => B_R5 v.1 v.2.1 v.2.2.1 v.2.2.2.1) (kB := fun Rr => S7 Rr) (sgB := g7) (out := fun v => O_R5 (Kt Kv) v.1 v.2.1 v.2.2.1 v.2.2.2.1) (by kernel_rfl) (fun v ρ w => by kernel_rfl) ?_ (fun Rr l => S7_ok Rr) ?_
  · intro v ρ args w wb Rr h
    have h' : B_R5 v.1 v.2.1 v.2.2.1 v.2.2.2.1 args wb Rr := h
    unfold B_R5 at h'
    split at h'
    · exact ⟨rfl, Eq.mp (by kernel_rfl) (And.intro (Eq.refl w) h')⟩
    · exact h'.elim
  · intro v ρ e D w h
    cases e with
    | normal => exact Eq.mp (by kernel_rfl) h
    | exit i =>
      refine (exit_inv h).elim (fun h => ?_) (fun h => ?_)
      · obtain ⟨rfl, h⟩ := h; exact Eq.mp (by kernel_rfl) h
      · exact h.elim
    | _ => exact h.elim
theorem B8 (Kv : Value → World → Prop) : OkT pr true none 37 g5 (R5 (Kt Kv)) (tl 1 (s1 (tl 4 bd))) (P3 Kv) := ok_block 0 (by kernel_rfl) (R5_ok Kv)
@[reducible] def g9 : List SE := [.v 8 .ptr, .v 9 .raw, .v 10 (.int .i64), .v 37 .raw]
def S9 (K : KT) (l_31 : Option Addr) (seq_32 : Value) (e_33 : Int) (v34 : Value) (w : World) : Prop :=
  R5 K l_31 e_33 seq_32 v34 w
theorem S9_ok (Kv : Value → World → Prop) : OkT pr true none 37 g9 (S9 (Kt Kv)) (s1 (tl 4 bd)) (P3 Kv) := ok_group mixed FOk_ 1 (B8 Kv) fun v ρ w => by kernel_rfl
theorem Q10 (Kv : Value → World → Prop) : OkT pr true none 37 g9 (S9 (Kt Kv)) (tl 4 bd) (P1 Kv) := ok_seq (by kernel_rfl) (S2_ok Kv) (S9_ok Kv)
end tocsinlaw08_ranged
def tocsinlaw08_ranged (b_3 : Sl) (from_4 : Int) (to_5 : Int) (w : World) (K : tocsinlaw08_ranged.KT) : Prop :=
  G.new (.cells #[nilS.v] 24) w fun p35 w36 => C.chunk_Range b_3 from_4 to_5 w36 fun v37 n38 w39 => G.isNilF v37 fun b40 => G.cond b40 (K nilS n38 w39) (tocsinlaw08_ranged.S9 K (some p35) v37 n38 undef w39)
def tocsinlaw08_ranged.cl : CL := fun args K w => match args with
  | [.slice x0_a x0_n x0_c, .int .i64 x1, .int .i64 x2] => C.tocsinlaw08_ranged ⟨x0_a, x0_n, x0_c⟩ x1 x2 w (tocsinlaw08_ranged.Kt K)
  | _ => False
theorem tocsinlaw08_ranged.clok : OkC pr 27 tocsinlaw08_ranged.cl := by
  intro args K w h
  unfold tocsinlaw08_ranged.cl at h
  split at h
  · exact calls_group true mixed tocsinlaw08_ranged.FOk_ tocsinlaw08_ranged.fn rfl 4 (tocsinlaw08_ranged.Q10 K) (Eq.mp (by kernel_rfl) h)
  · exact h.elim

/-! tocsin/tocsinref08.Within -/
namespace tocsinref08_Within
abbrev KT := Sl → World → Prop
def Kt (Kv : Value → World → Prop) : KT := fun l1 w => Kv l1.v w
noncomputable def bd : Code := bdy Tryd.f28
theorem fn : FnOk pr 28 32 Tryd.f28 := ⟨Tryd.func28, by kernel_rfl, Tryd.ntmps28, by kernel_rfl, by kernel_rfl⟩
def F : Clee := ofL []
theorem FOk_ : FOk pr F := FOk_nil
def P1 (Kv : Value → World → Prop) : Post := bodyK false pr 32 Tryd.f28 Kv
@[reducible] def g2 : List SE := [.v 7 .sl]
def S2 (K : KT) (out_5 : Sl) (w : World) : Prop :=
  K out_5 w
theorem S2_ok (Kv : Value → World → Prop) : OkT pr false none 32 g2 (S2 (Kt Kv)) (s2 (tl 2 bd)) (P1 Kv) := ok_last mixed FOk_ fun v ρ w => by kernel_rfl
def P3 (Kv : Value → World → Prop) : Post := next (get g2 (S2 (Kt Kv))) (P1 Kv)
def P4 (Kv : Value → World → Prop) : Post := inBlock 0 (P3 Kv)
@[reducible] def g5 : List SE := [.v 1 (.int .i64), .v 2 (.int .i64), .v 7 .sl, .v 10 .sl, .v 11 (.int .i64), .v 12 (.int .i64)]
def P6 (Kv : Value → World → Prop) (kc5 : Cur g5) : Post := next (get g5 kc5) (P4 Kv)
def S7 (K : KT) (kc5 : Cur g5) (from_18 : Int) (to_19 : Int) (out_20 : Sl) (l21 : Sl) (n22 : Int) (n23 : Int) (w : World) : Prop :=
  G.cond (decide (n23 < n22)) (G.ix l21.a l21.n n23 2 fun p24 => G.cI .i64 p24 w fun n25 => G.cF .f64 (p24.add 1) w fun f26 => G.new (.cells #[(.int .i64 (0 : Int)), (.float .f64 0)] 26) w fun p27 w28 => G.st p27 (.int .i64 n25) w28 fun w29 => G.st (p27.add 1) (.float .f64 f26) w29 fun w30 => G.cI .i64 p27 w30 fun n31 => G.cond (decide (n31 ≥ from_18)) (G.cI .i64 p27 w30 fun n32 => G.cond (decide (n32 ≤ to_19)) (G.cI .i64 p27 w30 fun n33 => G.cF .f64 (p27.add 1) w30 fun f34 => G.new (.cells #[(.int .i64 n33), (.float .f64 f34)] 26) w30 fun p35 w36 => G.runSl pr (Builtin.append_ #[24, 24] 24 #[out_20.v, (Sl.v (⟨some p35, 1, 1⟩ : Sl))]) w36 fun l37 w38 => kc5 from_18 to_19 l37 l21 n22 (IntKind.i64.wrap (n23 + (1 : Int))) w38) (kc5 from_18 to_19 out_20 l21 n22 (IntKind.i64.wrap (n23 + (1 : Int))) w30)) (kc5 from_18 to_19 out_20 l21 n22 (IntKind.i64.wrap (n23 + (1 : Int))) w30)) (S2 K out_20 w)
theorem S7_ok (Kv : Value → World → Prop) (kc5 : Cur g5) : OkT pr false none 32 g5 (S7 (Kt Kv) kc5) (lp (blk (tl 1 (s1 (tl 2 bd))))) (P6 Kv kc5) := ok_last mixed FOk_ fun v ρ w => by kernel_rfl
def L5 (K : KT) : Cur g5 := loopC g5 (S7 K)
theorem L5_ok (Kv : Value → World → Prop) : OkT pr false none 32 g5 (L5 (Kt Kv)) (blk (tl 1 (s1 (tl 2 bd)))) (P4 Kv) := ok_loop (B := S7 (Kt Kv)) (by kernel_rfl) fun kc => S7_ok Kv kc
theorem L5_ind {K : KT} {from_6 : Int} {to_7 : Int} {out_8 : Sl} {l9 : Sl} {n10 : Int} {n11 : Int} {w : World} (h : ∀ X : Cur g5, (∀ from_6 to_7 out_8 l9 n10 n11 w, S7 K X from_6 to_7 out_8 l9 n10 n11 w → X from_6 to_7 out_8 l9 n10 n11 w) → X from_6 to_7 out_8 l9 n10 n11 w) : L5 K from_6 to_7 out_8 l9 n10 n11 w := fun X hX => h X fun from_6 to_7 out_8 l9 n10 n11 w hb => hX (from_6, to_7, out_8, l9, n10, n11, ()) w hb
theorem B8 (Kv : Value → World → Prop) : OkT pr false none 32 g5 (L5 (Kt Kv)) (tl 1 (s1 (tl 2 bd))) (P3 Kv) := ok_block 0 (by kernel_rfl) (L5_ok Kv)
@[reducible] def g9 : List SE := [.v 0 .sl, .v 1 (.int .i64), .v 2 (.int .i64), .v 7 .sl]
def S9 (K : KT) (l_39 : Sl) (from_40 : Int) (to_41 : Int) (out_42 : Sl) (w : World) : Prop :=
  L5 K from_40 to_41 out_42 l_39 ((l_39.n : Nat) : Int) (0 : Int) w
theorem S9_ok (Kv : Value → World → Prop) : OkT pr false none 32 g9 (S9 (Kt Kv)) (s1 (tl 2 bd)) (P3 Kv) := ok_group mixed FOk_ 1 (B8 Kv) fun v ρ w => by kernel_rfl
theorem Q10 (Kv : Value → World → Prop) : OkT pr false none 32 g9 (S9 (Kt Kv)) (tl 2 bd) (P1 Kv) := ok_seq (by kernel_rfl) (S2_ok Kv) (S9_ok Kv)
end tocsinref08_Within
def tocsinref08_Within (l_2 : Sl) (from_3 : Int) (to_4 : Int) (w : World) (K : tocsinref08_Within.KT) : Prop :=
  tocsinref08_Within.S9 K l_2 from_3 to_4 nilS w
def tocsinref08_Within.cl : CL := fun args K w => match args with
  | [.slice x0_a x0_n x0_c, .int .i64 x1, .int .i64 x2] => C.tocsinref08_Within ⟨x0_a, x0_n, x0_c⟩ x1 x2 w (tocsinref08_Within.Kt K)
  | _ => False
theorem tocsinref08_Within.clok : OkC pr 28 tocsinref08_Within.cl := by
  intro args K w h
  unfold tocsinref08_Within.cl at h
  split at h
  · exact calls_group false mixed tocsinref08_Within.FOk_ tocsinref08_Within.fn rfl 2 (tocsinref08_Within.Q10 K) (Eq.mp (by kernel_rfl) h)
  · exact h.elim

/-! tocsin/tocsinlaw08.ChunkCodes -/
namespace tocsinlaw08_ChunkCodes
abbrev KT := Bool → World → Prop
def Kt (Kv : Value → World → Prop) : KT := fun b1 w => Kv (.bool b1) w
noncomputable def bd : Code := bdy Tryd.f7
theorem fn : FnOk pr 7 130 Tryd.f7 := ⟨Tryd.func7, by kernel_rfl, Tryd.ntmps7, by kernel_rfl, by kernel_rfl⟩
def F : Clee := ofL [(10, C.tocsinlaw08_awake.cl), (11, C.chunk_Encode.cl), (17, C.tocsinref08_Same.cl), (22, C.chunk_Decode.cl), (23, C.tocsinref08_Encode.cl), (24, C.tocsinlaw08_lent.cl), (25, C.tocsinref08_Decode.cl), (26, C.tocsinlaw08_kept.cl), (27, C.tocsinlaw08_ranged.cl), (28, C.tocsinref08_Within.cl)]
theorem FOk_ : FOk pr F := FOk_cons C.tocsinlaw08_awake.clok (FOk_cons C.chunk_Encode.clok (FOk_cons C.tocsinref08_Same.clok (FOk_cons C.chunk_Decode.clok (FOk_cons C.tocsinref08_Encode.clok (FOk_cons C.tocsinlaw08_lent.clok (FOk_cons C.tocsinref08_Decode.clok (FOk_cons C.tocsinlaw08_kept.clok (FOk_cons C.tocsinlaw08_ranged.clok (FOk_cons C.tocsinref08_Within.clok (FOk_nil))))))))))
def P1 (Kv : Value → World → Prop) : Post := bodyK false pr 130 Tryd.f7 Kv
@[reducible] def g2 : List SE := [.v 2 (.int .i64), .v 3 (.int .i64), .v 16 .sl, .v 19 .sl, .v 21 .sl, .v 22 (.int .i64)]
def S2 (K : KT) (from_10 : Int) (to_11 : Int) (c_12 : Sl) (again_13 : Sl) (n_14 : Sl) (h_15 : Int) (w : World) : Prop :=
  C.tocsinlaw08_ranged c_12 from_10 to_11 w fun l16 n17 w18 => C.tocsinref08_Same again_13 n_14 w18 fun b19 w20 => G.cond b19 (G.cond (n17 == h_15) (C.tocsinref08_Within n_14 from_10 to_11 w20 fun l21 w22 => C.tocsinref08_Same l16 l21 w22 fun b23 w24 => G.cond b23 (C.tocsinlaw08_awake w24 fun b25 w26 => K b25 w26) (K false w24)) (K false w20)) (K false w20)
theorem S2_ok (Kv : Value → World → Prop) : OkT pr false none 130 g2 (S2 (Kt Kv)) (s2 (tl 11 bd)) (P1 Kv) := ok_last mixed FOk_ fun v ρ w => by kernel_rfl
def P3 (Kv : Value → World → Prop) : Post := next (get g2 (S2 (Kt Kv))) (P1 Kv)
def P4 (Kv : Value → World → Prop) : Post := inBlock 0 (P3 Kv)
@[reducible] def g5 : List SE := [.v 2 (.int .i64), .v 3 (.int .i64), .v 16 .sl, .v 17 .sl, .v 19 .sl, .v 21 .sl, .v 22 (.int .i64), .v 95 (.int .i64), .v 96 (.int .i64)]
def P6 (Kv : Value → World → Prop) (kc5 : Cur g5) : Post := next (get g5 kc5) (P4 Kv)
def S7 (K : KT) (kc5 : Cur g5) (from_45 : Int) (to_46 : Int) (c_47 : Sl) (m_48 : Sl) (again_49 : Sl) (n_50 : Sl) (h_51 : Int) (n52 : Int) (n53 : Int) (w : World) : Prop :=
  G.cond (decide (n53 < n52)) (G.ix m_48.a m_48.n n53 2 fun p54 => G.st p54 (.int .i64 (-1 : Int)) w fun w55 => G.st (p54.add 1) (.float .f64 0) w55 fun w56 => kc5 from_45 to_46 c_47 m_48 again_49 n_50 h_51 n52 (IntKind.i64.wrap (n53 + (1 : Int))) w56) (S2 K from_45 to_46 c_47 again_49 n_50 h_51 w)
theorem S7_ok (Kv : Value → World → Prop) (kc5 : Cur g5) : OkT pr false none 130 g5 (S7 (Kt Kv) kc5) (lp (blk (tl 1 (s1 (tl 11 bd))))) (P6 Kv kc5) := ok_last mixed FOk_ fun v ρ w => by kernel_rfl
def L5 (K : KT) : Cur g5 := loopC g5 (S7 K)
theorem L5_ok (Kv : Value → World → Prop) : OkT pr false none 130 g5 (L5 (Kt Kv)) (blk (tl 1 (s1 (tl 11 bd)))) (P4 Kv) := ok_loop (B := S7 (Kt Kv)) (by kernel_rfl) fun kc => S7_ok Kv kc
theorem L5_ind {K : KT} {from_27 : Int} {to_28 : Int} {c_29 : Sl} {m_30 : Sl} {again_31 : Sl} {n_32 : Sl} {h_33 : Int} {n34 : Int} {n35 : Int} {w : World} (h : ∀ X : Cur g5, (∀ from_27 to_28 c_29 m_30 again_31 n_32 h_33 n34 n35 w, S7 K X from_27 to_28 c_29 m_30 again_31 n_32 h_33 n34 n35 w → X from_27 to_28 c_29 m_30 again_31 n_32 h_33 n34 n35 w) → X from_27 to_28 c_29 m_30 again_31 n_32 h_33 n34 n35 w) : L5 K from_27 to_28 c_29 m_30 again_31 n_32 h_33 n34 n35 w := fun X hX => h X fun from_27 to_28 c_29 m_30 again_31 n_32 h_33 n34 n35 w hb => hX (from_27, to_28, c_29, m_30, again_31, n_32, h_33, n34, n35, ()) w hb
theorem B8 (Kv : Value → World → Prop) : OkT pr false none 130 g5 (L5 (Kt Kv)) (tl 1 (s1 (tl 11 bd))) (P3 Kv) := ok_block 0 (by kernel_rfl) (L5_ok Kv)
@[reducible] def g9 : List SE := [.v 2 (.int .i64), .v 3 (.int .i64), .v 16 .sl, .v 17 .sl, .v 19 .sl, .v 21 .sl, .v 22 (.int .i64)]
def S9 (K : KT) (from_57 : Int) (to_58 : Int) (c_59 : Sl) (m_60 : Sl) (again_61 : Sl) (n_62 : Sl) (h_63 : Int) (w : World) : Prop :=
  L5 K from_57 to_58 c_59 m_60 again_61 n_62 h_63 ((m_60.n : Nat) : Int) (0 : Int) w
theorem S9_ok (Kv : Value → World → Prop) : OkT pr false none 130 g9 (S9 (Kt Kv)) (s1 (tl 11 bd)) (P3 Kv) := ok_group mixed FOk_ 1 (B8 Kv) fun v ρ w => by kernel_rfl
theorem Q10 (Kv : Value → World → Prop) : OkT pr false none 130 g9 (S9 (Kt Kv)) (tl 11 bd) (P1 Kv) := ok_seq (by kernel_rfl) (S2_ok Kv) (S9_ok Kv)
end tocsinlaw08_ChunkCodes
def tocsinlaw08_ChunkCodes (l_2 : Sl) (b_3 : Sl) (from_4 : Int) (to_5 : Int) (w : World) (K : tocsinlaw08_ChunkCodes.KT) : Prop :=
  G.runSl pr (Builtin.append_ #[24, 24] 24 #[nilS.v, l_2.v]) w fun l64 w65 => C.chunk_Encode l64 w65 fun l66 n67 n68 w69 => C.tocsinref08_Encode l_2 w69 fun l70 n71 n72 w73 => G.rdS pr (Conv.bytesToString l66.v) w73 fun s74 => G.rdS pr (Conv.bytesToString l70.v) w73 fun s75 => G.cond (!(s74.toList == s75.toList)) (K false w73) (G.cond (n67 != n71) (K false w73) (G.cond (n68 != n72) (K false w73) (C.tocsinref08_Same l64 l_2 w73 fun b76 w77 => G.cond (!b76) (K false w77) (C.tocsinlaw08_lent b_3 w77 fun l78 w79 => C.chunk_Decode l78 w79 fun l80 n81 w82 => C.chunk_Decode l78 w82 fun l83 n84 w85 => C.tocsinref08_Decode b_3 w85 fun l86 n87 w88 => C.tocsinref08_Same l80 l86 w88 fun b89 w90 => G.cond (!b89) (K false w90) (G.cond (n81 != n87) (K false w90) (C.tocsinlaw08_kept l78 b_3 w90 fun b91 w92 => G.cond (!b91) (K false w92) (tocsinlaw08_ChunkCodes.S9 K from_4 to_5 l78 l80 l83 l86 n87 w92)))))))
def tocsinlaw08_ChunkCodes.cl : CL := fun args K w => match args with
  | [.slice x0_a x0_n x0_c, .slice x1_a x1_n x1_c, .int .i64 x2, .int .i64 x3] => C.tocsinlaw08_ChunkCodes ⟨x0_a, x0_n, x0_c⟩ ⟨x1_a, x1_n, x1_c⟩ x2 x3 w (tocsinlaw08_ChunkCodes.Kt K)
  | _ => False
theorem tocsinlaw08_ChunkCodes.clok : OkC pr 7 tocsinlaw08_ChunkCodes.cl := by
  intro args K w h
  unfold tocsinlaw08_ChunkCodes.cl at h
  split at h
  · exact calls_group false mixed tocsinlaw08_ChunkCodes.FOk_ tocsinlaw08_ChunkCodes.fn rfl 11 (tocsinlaw08_ChunkCodes.Q10 K) (Eq.mp (by kernel_rfl) h)
  · exact h.elim

/-! tocsin/chunk.Split -/
namespace chunk_Split
abbrev KT := Sl → Int → Int → World → Prop
def Kt (Kv : Value → World → Prop) : KT := fun l1 n2 n3 w => Kv (.tuple #[l1.v, (.int .i64 n2), (.int .i64 n3)]) w
noncomputable def bd : Code := bdy Tryd.f29
theorem fn : FnOk pr 29 72 Tryd.f29 := ⟨Tryd.func29, by kernel_rfl, Tryd.ntmps29, by kernel_rfl, by kernel_rfl⟩
def F : Clee := ofL [(11, C.chunk_Encode.cl)]
theorem FOk_ : FOk pr F := FOk_cons C.chunk_Encode.clok (FOk_nil)
def P1 (Kv : Value → World → Prop) : Post := bodyK false pr 72 Tryd.f29 Kv
@[reducible] def g2 : List SE := [.v 7 .sl]
def S2 (K : KT) (out_5 : Sl) (w : World) : Prop :=
  K out_5 (0 : Int) (0 : Int) w
theorem S2_ok (Kv : Value → World → Prop) : OkT pr false none 72 g2 (S2 (Kt Kv)) (s2 (tl 1 (s2 (tl 1 bd)))) (P1 Kv) := ok_last mixed FOk_ fun v ρ w => by kernel_rfl
def P3 (Kv : Value → World → Prop) : Post := next (get g2 (S2 (Kt Kv))) (P1 Kv)
def P4 (Kv : Value → World → Prop) : Post := inBlock 3 (P3 Kv)
@[reducible] def g5 : List SE := [.v 0 .sl, .v 7 .sl, .v 8 (.int .i64)]
def P6 (Kv : Value → World → Prop) (kc5 : Cur g5) : Post := next (get g5 kc5) (P4 Kv)
def S7 (K : KT) (kc5 : Cur g5) (l_12 : Sl) (out_13 : Sl) (from_14 : Int) (w : World) : Prop :=
  G.cond (decide (from_14 < ((l_12.n : Nat) : Int))) (G.slc3 l_12 from_14 (if ((l_12.n : Nat) : Int) < (IntKind.i64.wrap (from_14 + (120 : Int))) then ((l_12.n : Nat) : Int) else (IntKind.i64.wrap (from_14 + (120 : Int)))) (if ((l_12.n : Nat) : Int) < (IntKind.i64.wrap (from_14 + (120 : Int))) then ((l_12.n : Nat) : Int) else (IntKind.i64.wrap (from_14 + (120 : Int)))) 2 fun l15 => C.chunk_Encode l15 w fun l16 n17 n18 w19 => G.new (.cells #[l16.v] 27) w19 fun p20 w21 => G.runSl pr (Builtin.append_ #[54, 54] 54 #[out_13.v, (Sl.v (⟨some p20, 1, 1⟩ : Sl))]) w21 fun l22 w23 => kc5 l_12 l22 (IntKind.i64.wrap (from_14 + (120 : Int))) w23) (S2 K out_13 w)
theorem S7_ok (Kv : Value → World → Prop) (kc5 : Cur g5) : OkT pr false none 72 g5 (S7 (Kt Kv) kc5) (lp (blk (tl 1 (s1 (tl 1 (s2 (tl 1 bd))))))) (P6 Kv kc5) := ok_last mixed FOk_ fun v ρ w => by kernel_rfl
def L5 (K : KT) : Cur g5 := loopC g5 (S7 K)
theorem L5_ok (Kv : Value → World → Prop) : OkT pr false none 72 g5 (L5 (Kt Kv)) (blk (tl 1 (s1 (tl 1 (s2 (tl 1 bd)))))) (P4 Kv) := ok_loop (B := S7 (Kt Kv)) (by kernel_rfl) fun kc => S7_ok Kv kc
theorem L5_ind {K : KT} {l_6 : Sl} {out_7 : Sl} {from_8 : Int} {w : World} (h : ∀ X : Cur g5, (∀ l_6 out_7 from_8 w, S7 K X l_6 out_7 from_8 w → X l_6 out_7 from_8 w) → X l_6 out_7 from_8 w) : L5 K l_6 out_7 from_8 w := fun X hX => h X fun l_6 out_7 from_8 w hb => hX (l_6, out_7, from_8, ()) w hb
theorem B8 (Kv : Value → World → Prop) : OkT pr false none 72 g5 (L5 (Kt Kv)) (tl 1 (s1 (tl 1 (s2 (tl 1 bd))))) (P3 Kv) := ok_block 3 (by kernel_rfl) (L5_ok Kv)
@[reducible] def g9 : List SE := [.v 0 .sl, .v 7 .sl]
def S9 (K : KT) (l_24 : Sl) (out_25 : Sl) (w : World) : Prop :=
  L5 K l_24 out_25 (0 : Int) w
theorem S9_ok (Kv : Value → World → Prop) : OkT pr false none 72 g9 (S9 (Kt Kv)) (s1 (tl 1 (s2 (tl 1 bd)))) (P3 Kv) := ok_group mixed FOk_ 1 (B8 Kv) fun v ρ w => by kernel_rfl
theorem Q10 (Kv : Value → World → Prop) : OkT pr false none 72 g9 (S9 (Kt Kv)) (tl 1 (s2 (tl 1 bd))) (P1 Kv) := ok_seq (by kernel_rfl) (S2_ok Kv) (S9_ok Kv)
@[reducible] def g11 : List SE := [.v 0 .sl]
def S11 (K : KT) (l_26 : Sl) (w : World) : Prop :=
  S9 K l_26 nilS w
theorem S11_ok (Kv : Value → World → Prop) : OkT pr false none 72 g11 (S11 (Kt Kv)) (s2 (tl 1 bd)) (P1 Kv) := ok_group mixed FOk_ 1 (Q10 Kv) fun v ρ w => by kernel_rfl
def P12 (Kv : Value → World → Prop) : Post := next (get g11 (S11 (Kt Kv))) (P1 Kv)
def P13 (Kv : Value → World → Prop) : Post := inBlock 0 (P12 Kv)
@[reducible] def g14 : List SE := [.v 0 .sl, .v 13 .sl, .v 14 (.int .i64), .v 15 (.int .i64)]
def P15 (Kv : Value → World → Prop) (kc14 : Cur g14) : Post := next (get g14 kc14) (P13 Kv)
def S16 (K : KT) (kc14 : Cur g14) (l_35 : Sl) (l36 : Sl) (n37 : Int) (n38 : Int) (w : World) : Prop :=
  G.cond (decide (n38 < n37)) (G.ix l36.a l36.n n38 2 fun p39 => G.cI .i64 p39 w fun n40 => G.cF .f64 (p39.add 1) w fun f41 => G.new (.cells #[(.int .i64 (0 : Int)), (.float .f64 0)] 26) w fun p42 w43 => G.st p42 (.int .i64 n40) w43 fun w44 => G.st (p42.add 1) (.float .f64 f41) w44 fun w45 => G.cI .i64 p42 w45 fun n46 => G.cond (decide (n46 < (0 : Int))) (K nilS (1 : Int) n38 w45) (G.cI .i64 p42 w45 fun n47 => G.cond (decide (n47 > (1125899906842624 : Int))) (K nilS (1 : Int) n38 w45) (G.cond (decide (n38 > (0 : Int))) (G.cI .i64 p42 w45.drew fun n48 => G.ix l_35.a l_35.n (IntKind.i64.wrap (n38 - (1 : Int))) 2 fun p49 => G.cI .i64 p49 w45.drew fun n50 => G.cond (decide (n48 ≤ n50)) (K nilS (90 : Int) n38 w45.drew) (kc14 l_35 l36 n37 (IntKind.i64.wrap (n38 + (1 : Int))) w45.drew)) (kc14 l_35 l36 n37 (IntKind.i64.wrap (n38 + (1 : Int))) w45.drew)))) (S11 K l_35 w)
theorem S16_ok (Kv : Value → World → Prop) (kc14 : Cur g14) : OkT pr false none 72 g14 (S16 (Kt Kv) kc14) (lp (blk (tl 1 (s1 (tl 1 bd))))) (P15 Kv kc14) := ok_last mixed FOk_ fun v ρ w => by kernel_rfl
def L14 (K : KT) : Cur g14 := loopC g14 (S16 K)
theorem L14_ok (Kv : Value → World → Prop) : OkT pr false none 72 g14 (L14 (Kt Kv)) (blk (tl 1 (s1 (tl 1 bd)))) (P13 Kv) := ok_loop (B := S16 (Kt Kv)) (by kernel_rfl) fun kc => S16_ok Kv kc
theorem L14_ind {K : KT} {l_27 : Sl} {l28 : Sl} {n29 : Int} {n30 : Int} {w : World} (h : ∀ X : Cur g14, (∀ l_27 l28 n29 n30 w, S16 K X l_27 l28 n29 n30 w → X l_27 l28 n29 n30 w) → X l_27 l28 n29 n30 w) : L14 K l_27 l28 n29 n30 w := fun X hX => h X fun l_27 l28 n29 n30 w hb => hX (l_27, l28, n29, n30, ()) w hb
theorem B17 (Kv : Value → World → Prop) : OkT pr false none 72 g14 (L14 (Kt Kv)) (tl 1 (s1 (tl 1 bd))) (P12 Kv) := ok_block 0 (by kernel_rfl) (L14_ok Kv)
def S18 (K : KT) (l_51 : Sl) (w : World) : Prop :=
  L14 K l_51 l_51 ((l_51.n : Nat) : Int) (0 : Int) w
theorem S18_ok (Kv : Value → World → Prop) : OkT pr false none 72 g11 (S18 (Kt Kv)) (s1 (tl 1 bd)) (P12 Kv) := ok_group mixed FOk_ 1 (B17 Kv) fun v ρ w => by kernel_rfl
theorem Q19 (Kv : Value → World → Prop) : OkT pr false none 72 g11 (S18 (Kt Kv)) (tl 1 bd) (P1 Kv) := ok_seq (by kernel_rfl) (S11_ok Kv) (S18_ok Kv)
end chunk_Split
def chunk_Split (l_4 : Sl) (w : World) (K : chunk_Split.KT) : Prop :=
  chunk_Split.S18 K l_4 w
def chunk_Split.cl : CL := fun args K w => match args with
  | [.slice x0_a x0_n x0_c] => C.chunk_Split ⟨x0_a, x0_n, x0_c⟩ w (chunk_Split.Kt K)
  | _ => False
theorem chunk_Split.clok : OkC pr 29 chunk_Split.cl := by
  intro args K w h
  unfold chunk_Split.cl at h
  split at h
  · exact calls_group false mixed chunk_Split.FOk_ chunk_Split.fn rfl 1 (chunk_Split.Q19 K) (Eq.mp (by kernel_rfl) h)
  · exact h.elim

/-! tocsin/tocsinref08.Split -/
namespace tocsinref08_Split
abbrev KT := Sl → Int → Int → World → Prop
def Kt (Kv : Value → World → Prop) : KT := fun l1 n2 n3 w => Kv (.tuple #[l1.v, (.int .i64 n2), (.int .i64 n3)]) w
noncomputable def bd : Code := bdy Tryd.f30
theorem fn : FnOk pr 30 64 Tryd.f30 := ⟨Tryd.func30, by kernel_rfl, Tryd.ntmps30, by kernel_rfl, by kernel_rfl⟩
def F : Clee := ofL [(20, C.tocsinref08_Bytes.cl)]
theorem FOk_ : FOk pr F := FOk_cons C.tocsinref08_Bytes.clok (FOk_nil)
def P1 (Kv : Value → World → Prop) : Post := bodyK false pr 64 Tryd.f30 Kv
@[reducible] def g2 : List SE := [.v 7 .sl]
def S2 (K : KT) (out_5 : Sl) (w : World) : Prop :=
  K out_5 (0 : Int) (0 : Int) w
theorem S2_ok (Kv : Value → World → Prop) : OkT pr false none 64 g2 (S2 (Kt Kv)) (s2 (tl 1 (s2 (tl 1 bd)))) (P1 Kv) := ok_last mixed FOk_ fun v ρ w => by kernel_rfl
def P3 (Kv : Value → World → Prop) : Post := next (get g2 (S2 (Kt Kv))) (P1 Kv)
def P4 (Kv : Value → World → Prop) : Post := inBlock 2 (P3 Kv)
@[reducible] def g5 : List SE := [.v 0 .sl, .v 7 .sl, .v 8 (.int .i64)]
def P6 (Kv : Value → World → Prop) (kc5 : Cur g5) : Post := next (get g5 kc5) (P4 Kv)
def S7 (K : KT) (kc5 : Cur g5) (l_12 : Sl) (out_13 : Sl) (from_14 : Int) (w : World) : Prop :=
  G.cond (decide (from_14 < ((l_12.n : Nat) : Int))) (G.cond (decide ((IntKind.i64.wrap (from_14 + (120 : Int))) > ((l_12.n : Nat) : Int))) (G.slc l_12 from_14 ((l_12.n : Nat) : Int) 2 fun l15 => C.tocsinref08_Bytes l15 w fun l16 w17 => G.new (.cells #[l16.v] 27) w17 fun p18 w19 => G.runSl pr (Builtin.append_ #[54, 54] 54 #[out_13.v, (Sl.v (⟨some p18, 1, 1⟩ : Sl))]) w19 fun l20 w21 => kc5 l_12 l20 (IntKind.i64.wrap (from_14 + (120 : Int))) w21) (G.slc l_12 from_14 (IntKind.i64.wrap (from_14 + (120 : Int))) 2 fun l22 => C.tocsinref08_Bytes l22 w fun l23 w24 => G.new (.cells #[l23.v] 27) w24 fun p25 w26 => G.runSl pr (Builtin.append_ #[54, 54] 54 #[out_13.v, (Sl.v (⟨some p25, 1, 1⟩ : Sl))]) w26 fun l27 w28 => kc5 l_12 l27 (IntKind.i64.wrap (from_14 + (120 : Int))) w28)) (S2 K out_13 w)
theorem S7_ok (Kv : Value → World → Prop) (kc5 : Cur g5) : OkT pr false none 64 g5 (S7 (Kt Kv) kc5) (lp (blk (tl 1 (s1 (tl 1 (s2 (tl 1 bd))))))) (P6 Kv kc5) := ok_last mixed FOk_ fun v ρ w => by kernel_rfl
def L5 (K : KT) : Cur g5 := loopC g5 (S7 K)
theorem L5_ok (Kv : Value → World → Prop) : OkT pr false none 64 g5 (L5 (Kt Kv)) (blk (tl 1 (s1 (tl 1 (s2 (tl 1 bd)))))) (P4 Kv) := ok_loop (B := S7 (Kt Kv)) (by kernel_rfl) fun kc => S7_ok Kv kc
theorem L5_ind {K : KT} {l_6 : Sl} {out_7 : Sl} {from_8 : Int} {w : World} (h : ∀ X : Cur g5, (∀ l_6 out_7 from_8 w, S7 K X l_6 out_7 from_8 w → X l_6 out_7 from_8 w) → X l_6 out_7 from_8 w) : L5 K l_6 out_7 from_8 w := fun X hX => h X fun l_6 out_7 from_8 w hb => hX (l_6, out_7, from_8, ()) w hb
theorem B8 (Kv : Value → World → Prop) : OkT pr false none 64 g5 (L5 (Kt Kv)) (tl 1 (s1 (tl 1 (s2 (tl 1 bd))))) (P3 Kv) := ok_block 2 (by kernel_rfl) (L5_ok Kv)
@[reducible] def g9 : List SE := [.v 0 .sl, .v 7 .sl]
def S9 (K : KT) (l_29 : Sl) (out_30 : Sl) (w : World) : Prop :=
  L5 K l_29 out_30 (0 : Int) w
theorem S9_ok (Kv : Value → World → Prop) : OkT pr false none 64 g9 (S9 (Kt Kv)) (s1 (tl 1 (s2 (tl 1 bd)))) (P3 Kv) := ok_group mixed FOk_ 1 (B8 Kv) fun v ρ w => by kernel_rfl
theorem Q10 (Kv : Value → World → Prop) : OkT pr false none 64 g9 (S9 (Kt Kv)) (tl 1 (s2 (tl 1 bd))) (P1 Kv) := ok_seq (by kernel_rfl) (S2_ok Kv) (S9_ok Kv)
@[reducible] def g11 : List SE := [.v 0 .sl]
def S11 (K : KT) (l_31 : Sl) (w : World) : Prop :=
  S9 K l_31 nilS w
theorem S11_ok (Kv : Value → World → Prop) : OkT pr false none 64 g11 (S11 (Kt Kv)) (s2 (tl 1 bd)) (P1 Kv) := ok_group mixed FOk_ 1 (Q10 Kv) fun v ρ w => by kernel_rfl
def P12 (Kv : Value → World → Prop) : Post := next (get g11 (S11 (Kt Kv))) (P1 Kv)
def P13 (Kv : Value → World → Prop) : Post := inBlock 0 (P12 Kv)
@[reducible] def g14 : List SE := [.v 0 .sl, .v 10 .sl, .v 11 (.int .i64), .v 12 (.int .i64)]
def P15 (Kv : Value → World → Prop) (kc14 : Cur g14) : Post := next (get g14 kc14) (P13 Kv)
def S16 (K : KT) (kc14 : Cur g14) (l_40 : Sl) (l41 : Sl) (n42 : Int) (n43 : Int) (w : World) : Prop :=
  G.cond (decide (n43 < n42)) (G.ix l41.a l41.n n43 2 fun p44 => G.cI .i64 p44 w fun n45 => G.cF .f64 (p44.add 1) w fun f46 => G.new (.cells #[(.int .i64 (0 : Int)), (.float .f64 0)] 26) w fun p47 w48 => G.st p47 (.int .i64 n45) w48 fun w49 => G.st (p47.add 1) (.float .f64 f46) w49 fun w50 => G.cI .i64 p47 w50 fun n51 => G.cond (decide (n51 < (0 : Int))) (K nilS (1 : Int) n43 w50) (G.cI .i64 p47 w50 fun n52 => G.cond (decide (n52 > (1125899906842624 : Int))) (K nilS (1 : Int) n43 w50) (G.cond (decide (n43 > (0 : Int))) (G.cI .i64 p47 w50.drew fun n53 => G.ix l_40.a l_40.n (IntKind.i64.wrap (n43 - (1 : Int))) 2 fun p54 => G.cI .i64 p54 w50.drew fun n55 => G.cond (decide (n53 ≤ n55)) (K nilS (90 : Int) n43 w50.drew) (kc14 l_40 l41 n42 (IntKind.i64.wrap (n43 + (1 : Int))) w50.drew)) (kc14 l_40 l41 n42 (IntKind.i64.wrap (n43 + (1 : Int))) w50.drew)))) (S11 K l_40 w)
theorem S16_ok (Kv : Value → World → Prop) (kc14 : Cur g14) : OkT pr false none 64 g14 (S16 (Kt Kv) kc14) (lp (blk (tl 1 (s1 (tl 1 bd))))) (P15 Kv kc14) := ok_last mixed FOk_ fun v ρ w => by kernel_rfl
def L14 (K : KT) : Cur g14 := loopC g14 (S16 K)
theorem L14_ok (Kv : Value → World → Prop) : OkT pr false none 64 g14 (L14 (Kt Kv)) (blk (tl 1 (s1 (tl 1 bd)))) (P13 Kv) := ok_loop (B := S16 (Kt Kv)) (by kernel_rfl) fun kc => S16_ok Kv kc
theorem L14_ind {K : KT} {l_32 : Sl} {l33 : Sl} {n34 : Int} {n35 : Int} {w : World} (h : ∀ X : Cur g14, (∀ l_32 l33 n34 n35 w, S16 K X l_32 l33 n34 n35 w → X l_32 l33 n34 n35 w) → X l_32 l33 n34 n35 w) : L14 K l_32 l33 n34 n35 w := fun X hX => h X fun l_32 l33 n34 n35 w hb => hX (l_32, l33, n34, n35, ()) w hb
theorem B17 (Kv : Value → World → Prop) : OkT pr false none 64 g14 (L14 (Kt Kv)) (tl 1 (s1 (tl 1 bd))) (P12 Kv) := ok_block 0 (by kernel_rfl) (L14_ok Kv)
def S18 (K : KT) (l_56 : Sl) (w : World) : Prop :=
  L14 K l_56 l_56 ((l_56.n : Nat) : Int) (0 : Int) w
theorem S18_ok (Kv : Value → World → Prop) : OkT pr false none 64 g11 (S18 (Kt Kv)) (s1 (tl 1 bd)) (P12 Kv) := ok_group mixed FOk_ 1 (B17 Kv) fun v ρ w => by kernel_rfl
theorem Q19 (Kv : Value → World → Prop) : OkT pr false none 64 g11 (S18 (Kt Kv)) (tl 1 bd) (P1 Kv) := ok_seq (by kernel_rfl) (S11_ok Kv) (S18_ok Kv)
end tocsinref08_Split
def tocsinref08_Split (l_4 : Sl) (w : World) (K : tocsinref08_Split.KT) : Prop :=
  tocsinref08_Split.S18 K l_4 w
def tocsinref08_Split.cl : CL := fun args K w => match args with
  | [.slice x0_a x0_n x0_c] => C.tocsinref08_Split ⟨x0_a, x0_n, x0_c⟩ w (tocsinref08_Split.Kt K)
  | _ => False
theorem tocsinref08_Split.clok : OkC pr 30 tocsinref08_Split.cl := by
  intro args K w h
  unfold tocsinref08_Split.cl at h
  split at h
  · exact calls_group false mixed tocsinref08_Split.FOk_ tocsinref08_Split.fn rfl 1 (tocsinref08_Split.Q19 K) (Eq.mp (by kernel_rfl) h)
  · exact h.elim

/-! tocsin/chunk.Join -/
namespace chunk_Join
abbrev KT := Sl → Int → Int → World → Prop
def Kt (Kv : Value → World → Prop) : KT := fun l1 n2 n3 w => Kv (.tuple #[l1.v, (.int .i64 n2), (.int .i64 n3)]) w
noncomputable def bd : Code := bdy Tryd.f31
theorem fn : FnOk pr 31 54 Tryd.f31 := ⟨Tryd.func31, by kernel_rfl, Tryd.ntmps31, by kernel_rfl, by kernel_rfl⟩
def F : Clee := ofL [(22, C.chunk_Decode.cl)]
theorem FOk_ : FOk pr F := FOk_cons C.chunk_Decode.clok (FOk_nil)
def P1 (Kv : Value → World → Prop) : Post := bodyK false pr 54 Tryd.f31 Kv
@[reducible] def g2 : List SE := [.v 5 .sl]
def S2 (K : KT) (out_5 : Sl) (w : World) : Prop :=
  K out_5 (0 : Int) (0 : Int) w
theorem S2_ok (Kv : Value → World → Prop) : OkT pr false none 54 g2 (S2 (Kt Kv)) (s2 (tl 2 bd)) (P1 Kv) := ok_last mixed FOk_ fun v ρ w => by kernel_rfl
def P3 (Kv : Value → World → Prop) : Post := next (get g2 (S2 (Kt Kv))) (P1 Kv)
def P4 (Kv : Value → World → Prop) : Post := inBlock 0 (P3 Kv)
@[reducible] def g5 : List SE := [.v 5 .sl, .v 10 .sl, .v 11 (.int .i64), .v 12 (.int .i64)]
def P6 (Kv : Value → World → Prop) (kc5 : Cur g5) : Post := next (get g5 kc5) (P4 Kv)
def S7 (K : KT) (kc5 : Cur g5) (out_14 : Sl) (l15 : Sl) (n16 : Int) (n17 : Int) (w : World) : Prop :=
  G.cond (decide (n17 < n16)) (G.ix l15.a l15.n n17 1 fun p18 => G.cSl p18 w fun l19 => C.chunk_Decode l19 w fun l20 n21 w22 => G.cond (n21 != (0 : Int)) (K nilS n21 n17 w22) (G.cond (decide (((l20.n : Nat) : Int) > (0 : Int))) (G.cond (decide (((out_14.n : Nat) : Int) > (0 : Int))) (G.ix l20.a l20.n (0 : Int) 2 fun p23 => G.cI .i64 p23 w22.drew fun n24 => G.ix out_14.a out_14.n (IntKind.i64.wrap (((out_14.n : Nat) : Int) - (1 : Int))) 2 fun p25 => G.cI .i64 p25 w22.drew fun n26 => G.cond (decide (n24 ≤ n26)) (K nilS (90 : Int) n17 w22.drew) (G.runSl pr (Builtin.append_ #[24, 24] 24 #[out_14.v, l20.v]) w22.drew fun l27 w28 => kc5 l27 l15 n16 (IntKind.i64.wrap (n17 + (1 : Int))) w28)) (G.runSl pr (Builtin.append_ #[24, 24] 24 #[out_14.v, l20.v]) w22.drew fun l29 w30 => kc5 l29 l15 n16 (IntKind.i64.wrap (n17 + (1 : Int))) w30)) (G.runSl pr (Builtin.append_ #[24, 24] 24 #[out_14.v, l20.v]) w22.drew fun l31 w32 => kc5 l31 l15 n16 (IntKind.i64.wrap (n17 + (1 : Int))) w32))) (S2 K out_14 w)
theorem S7_ok (Kv : Value → World → Prop) (kc5 : Cur g5) : OkT pr false none 54 g5 (S7 (Kt Kv) kc5) (lp (blk (tl 1 (s1 (tl 2 bd))))) (P6 Kv kc5) := ok_last mixed FOk_ fun v ρ w => by kernel_rfl
def L5 (K : KT) : Cur g5 := loopC g5 (S7 K)
theorem L5_ok (Kv : Value → World → Prop) : OkT pr false none 54 g5 (L5 (Kt Kv)) (blk (tl 1 (s1 (tl 2 bd)))) (P4 Kv) := ok_loop (B := S7 (Kt Kv)) (by kernel_rfl) fun kc => S7_ok Kv kc
theorem L5_ind {K : KT} {out_6 : Sl} {l7 : Sl} {n8 : Int} {n9 : Int} {w : World} (h : ∀ X : Cur g5, (∀ out_6 l7 n8 n9 w, S7 K X out_6 l7 n8 n9 w → X out_6 l7 n8 n9 w) → X out_6 l7 n8 n9 w) : L5 K out_6 l7 n8 n9 w := fun X hX => h X fun out_6 l7 n8 n9 w hb => hX (out_6, l7, n8, n9, ()) w hb
theorem B8 (Kv : Value → World → Prop) : OkT pr false none 54 g5 (L5 (Kt Kv)) (tl 1 (s1 (tl 2 bd))) (P3 Kv) := ok_block 0 (by kernel_rfl) (L5_ok Kv)
@[reducible] def g9 : List SE := [.v 0 .sl, .v 5 .sl]
def S9 (K : KT) (l_33 : Sl) (out_34 : Sl) (w : World) : Prop :=
  L5 K out_34 l_33 ((l_33.n : Nat) : Int) (0 : Int) w
theorem S9_ok (Kv : Value → World → Prop) : OkT pr false none 54 g9 (S9 (Kt Kv)) (s1 (tl 2 bd)) (P3 Kv) := ok_group mixed FOk_ 1 (B8 Kv) fun v ρ w => by kernel_rfl
theorem Q10 (Kv : Value → World → Prop) : OkT pr false none 54 g9 (S9 (Kt Kv)) (tl 2 bd) (P1 Kv) := ok_seq (by kernel_rfl) (S2_ok Kv) (S9_ok Kv)
end chunk_Join
def chunk_Join (l_4 : Sl) (w : World) (K : chunk_Join.KT) : Prop :=
  chunk_Join.S9 K l_4 nilS w
def chunk_Join.cl : CL := fun args K w => match args with
  | [.slice x0_a x0_n x0_c] => C.chunk_Join ⟨x0_a, x0_n, x0_c⟩ w (chunk_Join.Kt K)
  | _ => False
theorem chunk_Join.clok : OkC pr 31 chunk_Join.cl := by
  intro args K w h
  unfold chunk_Join.cl at h
  split at h
  · exact calls_group false mixed chunk_Join.FOk_ chunk_Join.fn rfl 2 (chunk_Join.Q10 K) (Eq.mp (by kernel_rfl) h)
  · exact h.elim

/-! tocsin/tocsinref08.Join -/
namespace tocsinref08_Join
abbrev KT := Sl → Int → Int → World → Prop
def Kt (Kv : Value → World → Prop) : KT := fun l1 n2 n3 w => Kv (.tuple #[l1.v, (.int .i64 n2), (.int .i64 n3)]) w
noncomputable def bd : Code := bdy Tryd.f32
theorem fn : FnOk pr 32 54 Tryd.f32 := ⟨Tryd.func32, by kernel_rfl, Tryd.ntmps32, by kernel_rfl, by kernel_rfl⟩
def F : Clee := ofL [(25, C.tocsinref08_Decode.cl)]
theorem FOk_ : FOk pr F := FOk_cons C.tocsinref08_Decode.clok (FOk_nil)
def P1 (Kv : Value → World → Prop) : Post := bodyK false pr 54 Tryd.f32 Kv
@[reducible] def g2 : List SE := [.v 5 .sl]
def S2 (K : KT) (out_5 : Sl) (w : World) : Prop :=
  K out_5 (0 : Int) (0 : Int) w
theorem S2_ok (Kv : Value → World → Prop) : OkT pr false none 54 g2 (S2 (Kt Kv)) (s2 (tl 2 bd)) (P1 Kv) := ok_last mixed FOk_ fun v ρ w => by kernel_rfl
def P3 (Kv : Value → World → Prop) : Post := next (get g2 (S2 (Kt Kv))) (P1 Kv)
def P4 (Kv : Value → World → Prop) : Post := inBlock 0 (P3 Kv)
@[reducible] def g5 : List SE := [.v 5 .sl, .v 10 .sl, .v 11 (.int .i64), .v 12 (.int .i64)]
def P6 (Kv : Value → World → Prop) (kc5 : Cur g5) : Post := next (get g5 kc5) (P4 Kv)
def S7 (K : KT) (kc5 : Cur g5) (out_14 : Sl) (l15 : Sl) (n16 : Int) (n17 : Int) (w : World) : Prop :=
  G.cond (decide (n17 < n16)) (G.ix l15.a l15.n n17 1 fun p18 => G.cSl p18 w fun l19 => C.tocsinref08_Decode l19 w fun l20 n21 w22 => G.cond (n21 != (0 : Int)) (K nilS n21 n17 w22) (G.cond (decide (((l20.n : Nat) : Int) > (0 : Int))) (G.cond (decide (((out_14.n : Nat) : Int) > (0 : Int))) (G.ix l20.a l20.n (0 : Int) 2 fun p23 => G.cI .i64 p23 w22.drew fun n24 => G.ix out_14.a out_14.n (IntKind.i64.wrap (((out_14.n : Nat) : Int) - (1 : Int))) 2 fun p25 => G.cI .i64 p25 w22.drew fun n26 => G.cond (decide (n24 ≤ n26)) (K nilS (90 : Int) n17 w22.drew) (G.runSl pr (Builtin.append_ #[24, 24] 24 #[out_14.v, l20.v]) w22.drew fun l27 w28 => kc5 l27 l15 n16 (IntKind.i64.wrap (n17 + (1 : Int))) w28)) (G.runSl pr (Builtin.append_ #[24, 24] 24 #[out_14.v, l20.v]) w22.drew fun l29 w30 => kc5 l29 l15 n16 (IntKind.i64.wrap (n17 + (1 : Int))) w30)) (G.runSl pr (Builtin.append_ #[24, 24] 24 #[out_14.v, l20.v]) w22.drew fun l31 w32 => kc5 l31 l15 n16 (IntKind.i64.wrap (n17 + (1 : Int))) w32))) (S2 K out_14 w)
theorem S7_ok (Kv : Value → World → Prop) (kc5 : Cur g5) : OkT pr false none 54 g5 (S7 (Kt Kv) kc5) (lp (blk (tl 1 (s1 (tl 2 bd))))) (P6 Kv kc5) := ok_last mixed FOk_ fun v ρ w => by kernel_rfl
def L5 (K : KT) : Cur g5 := loopC g5 (S7 K)
theorem L5_ok (Kv : Value → World → Prop) : OkT pr false none 54 g5 (L5 (Kt Kv)) (blk (tl 1 (s1 (tl 2 bd)))) (P4 Kv) := ok_loop (B := S7 (Kt Kv)) (by kernel_rfl) fun kc => S7_ok Kv kc
theorem L5_ind {K : KT} {out_6 : Sl} {l7 : Sl} {n8 : Int} {n9 : Int} {w : World} (h : ∀ X : Cur g5, (∀ out_6 l7 n8 n9 w, S7 K X out_6 l7 n8 n9 w → X out_6 l7 n8 n9 w) → X out_6 l7 n8 n9 w) : L5 K out_6 l7 n8 n9 w := fun X hX => h X fun out_6 l7 n8 n9 w hb => hX (out_6, l7, n8, n9, ()) w hb
theorem B8 (Kv : Value → World → Prop) : OkT pr false none 54 g5 (L5 (Kt Kv)) (tl 1 (s1 (tl 2 bd))) (P3 Kv) := ok_block 0 (by kernel_rfl) (L5_ok Kv)
@[reducible] def g9 : List SE := [.v 0 .sl, .v 5 .sl]
def S9 (K : KT) (l_33 : Sl) (out_34 : Sl) (w : World) : Prop :=
  L5 K out_34 l_33 ((l_33.n : Nat) : Int) (0 : Int) w
theorem S9_ok (Kv : Value → World → Prop) : OkT pr false none 54 g9 (S9 (Kt Kv)) (s1 (tl 2 bd)) (P3 Kv) := ok_group mixed FOk_ 1 (B8 Kv) fun v ρ w => by kernel_rfl
theorem Q10 (Kv : Value → World → Prop) : OkT pr false none 54 g9 (S9 (Kt Kv)) (tl 2 bd) (P1 Kv) := ok_seq (by kernel_rfl) (S2_ok Kv) (S9_ok Kv)
end tocsinref08_Join
def tocsinref08_Join (l_4 : Sl) (w : World) (K : tocsinref08_Join.KT) : Prop :=
  tocsinref08_Join.S9 K l_4 nilS w
def tocsinref08_Join.cl : CL := fun args K w => match args with
  | [.slice x0_a x0_n x0_c] => C.tocsinref08_Join ⟨x0_a, x0_n, x0_c⟩ w (tocsinref08_Join.Kt K)
  | _ => False
theorem tocsinref08_Join.clok : OkC pr 32 tocsinref08_Join.cl := by
  intro args K w h
  unfold tocsinref08_Join.cl at h
  split at h
  · exact calls_group false mixed tocsinref08_Join.FOk_ tocsinref08_Join.fn rfl 2 (tocsinref08_Join.Q10 K) (Eq.mp (by kernel_rfl) h)
  · exact h.elim

/-! tocsin/tocsinlaw08.ChunkPieces -/
namespace tocsinlaw08_ChunkPieces
abbrev KT := Bool → World → Prop
def Kt (Kv : Value → World → Prop) : KT := fun b1 w => Kv (.bool b1) w
noncomputable def bd : Code := bdy Tryd.f8
theorem fn : FnOk pr 8 100 Tryd.f8 := ⟨Tryd.func8, by kernel_rfl, Tryd.ntmps8, by kernel_rfl, by kernel_rfl⟩
def F : Clee := ofL [(10, C.tocsinlaw08_awake.cl), (17, C.tocsinref08_Same.cl), (29, C.chunk_Split.cl), (30, C.tocsinref08_Split.cl), (31, C.chunk_Join.cl), (32, C.tocsinref08_Join.cl)]
theorem FOk_ : FOk pr F := FOk_cons C.tocsinlaw08_awake.clok (FOk_cons C.tocsinref08_Same.clok (FOk_cons C.chunk_Split.clok (FOk_cons C.tocsinref08_Split.clok (FOk_cons C.chunk_Join.clok (FOk_cons C.tocsinref08_Join.clok (FOk_nil))))))
def P1 (Kv : Value → World → Prop) : Post := bodyK false pr 100 Tryd.f8 Kv
@[reducible] def g2 : List SE := [.v 1 .sl]
def S2 (K : KT) (p_7 : Sl) (w : World) : Prop :=
  C.chunk_Join p_7 w fun l8 n9 n10 w11 => C.tocsinref08_Join p_7 w11 fun l12 n13 n14 w15 => C.tocsinref08_Same l8 l12 w15 fun b16 w17 => G.cond b16 (G.cond (n9 == n13) (G.cond (n10 == n14) (C.tocsinlaw08_awake w17 fun b18 w19 => K b18 w19) (K false w17)) (K false w17)) (K false w17)
theorem S2_ok (Kv : Value → World → Prop) : OkT pr false none 100 g2 (S2 (Kt Kv)) (tl 1 (s2 (tl 3 (tl 2 bd)))) (P1 Kv) := ok_last mixed FOk_ fun v ρ w => by kernel_rfl
def S3 (K : KT) (p_20 : Sl) (w : World) : Prop :=
  G.cond (decide (((p_20.n : Nat) : Int) > (20 : Int))) (G.slc p_20 0 (20 : Int) 1 fun l21 => S2 K l21 w) (S2 K p_20 w)
theorem S3_ok (Kv : Value → World → Prop) : OkT pr false none 100 g2 (S3 (Kt Kv)) (s2 (tl 3 (tl 2 bd))) (P1 Kv) := ok_group mixed FOk_ 1 (S2_ok Kv) fun v ρ w => by kernel_rfl
def P4 (Kv : Value → World → Prop) : Post := next (get g2 (S3 (Kt Kv))) (P1 Kv)
def P5 (Kv : Value → World → Prop) : Post := inBlock 0 (P4 Kv)
@[reducible] def g6 : List SE := [.v 1 .sl, .v 5 .sl, .v 8 .sl, .v 51 (.int .i64), .v 52 (.int .i64)]
def P7 (Kv : Value → World → Prop) (kc6 : Cur g6) : Post := next (get g6 kc6) (P5 Kv)
def S8 (K : KT) (kc6 : Cur g6) (p_32 : Sl) (a_33 : Sl) (b_34 : Sl) (n35 : Int) (n36 : Int) (w : World) : Prop :=
  G.cond (decide (n36 < n35)) (G.ix a_33.a a_33.n n36 1 fun p37 => G.cSl p37 w.drew fun l38 => G.rdS pr (Conv.bytesToString l38.v) w.drew fun s39 => G.ix b_34.a b_34.n n36 1 fun p40 => G.cSl p40 w.drew fun l41 => G.rdS pr (Conv.bytesToString l41.v) w.drew fun s42 => G.cond (!(s39.toList == s42.toList)) (K false w.drew) (kc6 p_32 a_33 b_34 n35 (IntKind.i64.wrap (n36 + (1 : Int))) w.drew)) (S3 K p_32 w)
theorem S8_ok (Kv : Value → World → Prop) (kc6 : Cur g6) : OkT pr false none 100 g6 (S8 (Kt Kv) kc6) (lp (blk (tl 1 (s1 (tl 3 (tl 2 bd)))))) (P7 Kv kc6) := ok_last mixed FOk_ fun v ρ w => by kernel_rfl
def L6 (K : KT) : Cur g6 := loopC g6 (S8 K)
theorem L6_ok (Kv : Value → World → Prop) : OkT pr false none 100 g6 (L6 (Kt Kv)) (blk (tl 1 (s1 (tl 3 (tl 2 bd))))) (P5 Kv) := ok_loop (B := S8 (Kt Kv)) (by kernel_rfl) fun kc => S8_ok Kv kc
theorem L6_ind {K : KT} {p_22 : Sl} {a_23 : Sl} {b_24 : Sl} {n25 : Int} {n26 : Int} {w : World} (h : ∀ X : Cur g6, (∀ p_22 a_23 b_24 n25 n26 w, S8 K X p_22 a_23 b_24 n25 n26 w → X p_22 a_23 b_24 n25 n26 w) → X p_22 a_23 b_24 n25 n26 w) : L6 K p_22 a_23 b_24 n25 n26 w := fun X hX => h X fun p_22 a_23 b_24 n25 n26 w hb => hX (p_22, a_23, b_24, n25, n26, ()) w hb
theorem B9 (Kv : Value → World → Prop) : OkT pr false none 100 g6 (L6 (Kt Kv)) (tl 1 (s1 (tl 3 (tl 2 bd)))) (P4 Kv) := ok_block 0 (by kernel_rfl) (L6_ok Kv)
@[reducible] def g10 : List SE := [.v 1 .sl, .v 5 .sl, .v 8 .sl]
def S10 (K : KT) (p_43 : Sl) (a_44 : Sl) (b_45 : Sl) (w : World) : Prop :=
  L6 K p_43 a_44 b_45 ((a_44.n : Nat) : Int) (0 : Int) w
theorem S10_ok (Kv : Value → World → Prop) : OkT pr false none 100 g10 (S10 (Kt Kv)) (s1 (tl 3 (tl 2 bd))) (P4 Kv) := ok_group mixed FOk_ 1 (B9 Kv) fun v ρ w => by kernel_rfl
theorem Q11 (Kv : Value → World → Prop) : OkT pr false none 100 g10 (S10 (Kt Kv)) (tl 3 (tl 2 bd)) (P1 Kv) := ok_seq (by kernel_rfl) (S3_ok Kv) (S10_ok Kv)
@[reducible] def g12 : List SE := [.v 0 .sl, .v 1 .sl]
def S12 (K : KT) (l_46 : Sl) (p_47 : Sl) (w : World) : Prop :=
  C.chunk_Split l_46 w fun l48 n49 n50 w51 => C.tocsinref08_Split l_46 w51 fun l52 n53 n54 w55 => G.cond (((l48.n : Nat) : Int) != ((l52.n : Nat) : Int)) (K false w55) (G.cond (n49 != n53) (K false w55) (G.cond (n50 != n54) (K false w55) (S10 K p_47 l48 l52 w55)))
theorem S12_ok (Kv : Value → World → Prop) : OkT pr false none 100 g12 (S12 (Kt Kv)) (tl 2 bd) (P1 Kv) := ok_group mixed FOk_ 3 (Q11 Kv) fun v ρ w => by kernel_rfl
end tocsinlaw08_ChunkPieces
def tocsinlaw08_ChunkPieces (l_2 : Sl) (p_3 : Sl) (w : World) (K : tocsinlaw08_ChunkPieces.KT) : Prop :=
  G.cond (decide (((l_2.n : Nat) : Int) > (2000 : Int))) (G.slc l_2 0 (2000 : Int) 2 fun l56 => tocsinlaw08_ChunkPieces.S12 K l56 p_3 w) (tocsinlaw08_ChunkPieces.S12 K l_2 p_3 w)
def tocsinlaw08_ChunkPieces.cl : CL := fun args K w => match args with
  | [.slice x0_a x0_n x0_c, .slice x1_a x1_n x1_c] => C.tocsinlaw08_ChunkPieces ⟨x0_a, x0_n, x0_c⟩ ⟨x1_a, x1_n, x1_c⟩ w (tocsinlaw08_ChunkPieces.Kt K)
  | _ => False
theorem tocsinlaw08_ChunkPieces.clok : OkC pr 8 tocsinlaw08_ChunkPieces.cl := by
  intro args K w h
  unfold tocsinlaw08_ChunkPieces.cl at h
  split at h
  · exact calls_group false mixed tocsinlaw08_ChunkPieces.FOk_ tocsinlaw08_ChunkPieces.fn rfl 2 (tocsinlaw08_ChunkPieces.S12_ok K) (Eq.mp (by kernel_rfl) h)
  · exact h.elim

/-! tocsin/tocsinlaw08.ChunkBack -/
namespace tocsinlaw08_ChunkBack
abbrev KT := Bool → World → Prop
def Kt (Kv : Value → World → Prop) : KT := fun b1 w => Kv (.bool b1) w
noncomputable def bd : Code := bdy Tryd.f9
theorem fn : FnOk pr 9 122 Tryd.f9 := ⟨Tryd.func9, by kernel_rfl, Tryd.ntmps9, by kernel_rfl, by kernel_rfl⟩
def F : Clee := ofL [(10, C.tocsinlaw08_awake.cl), (11, C.chunk_Encode.cl), (17, C.tocsinref08_Same.cl), (22, C.chunk_Decode.cl), (29, C.chunk_Split.cl), (31, C.chunk_Join.cl)]
theorem FOk_ : FOk pr F := FOk_cons C.tocsinlaw08_awake.clok (FOk_cons C.chunk_Encode.clok (FOk_cons C.tocsinref08_Same.clok (FOk_cons C.chunk_Decode.clok (FOk_cons C.chunk_Split.clok (FOk_cons C.chunk_Join.clok (FOk_nil))))))
def P1 (Kv : Value → World → Prop) : Post := bodyK false pr 122 Tryd.f9 Kv
@[reducible] def g2 : List SE := [.v 0 .sl]
def S2 (K : KT) (l_19 : Sl) (w : World) : Prop :=
  C.chunk_Split l_19 w fun l20 n21 n22 w23 => G.cond (n21 != (0 : Int)) (C.tocsinlaw08_awake w23 fun b24 w25 => K b24 w25) (C.chunk_Join l20 w23 fun l26 n27 n28 w29 => G.cond (n27 == (0 : Int)) (C.tocsinref08_Same l26 l_19 w29 fun b30 w31 => G.cond b30 (C.tocsinlaw08_awake w31 fun b32 w33 => K b32 w33) (K false w31)) (K false w29))
theorem S2_ok (Kv : Value → World → Prop) : OkT pr false none 122 g2 (S2 (Kt Kv)) (tl 1 (tl 2 (tl 1 (tl 4 bd)))) (P1 Kv) := ok_last mixed FOk_ fun v ρ w => by kernel_rfl
def S3 (K : KT) (l_34 : Sl) (w : World) : Prop :=
  G.cond (decide (((l_34.n : Nat) : Int) > (2000 : Int))) (G.slc l_34 0 (2000 : Int) 2 fun l35 => S2 K l35 w) (S2 K l_34 w)
theorem S3_ok (Kv : Value → World → Prop) : OkT pr false none 122 g2 (S3 (Kt Kv)) (tl 2 (tl 1 (tl 4 bd))) (P1 Kv) := ok_group mixed FOk_ 1 (S2_ok Kv) fun v ρ w => by kernel_rfl
@[reducible] def g4 : List SE := [.v 0 .sl, .v 2 .sl]
def S4 (K : KT) (l_36 : Sl) (b_37 : Sl) (w : World) : Prop :=
  C.chunk_Decode b_37 w fun l38 n39 w40 => G.cond (n39 == (0 : Int)) (C.chunk_Encode l38 w40 fun l41 n42 n43 w44 => G.cond (n42 != (0 : Int)) (K false w44) (G.rdS pr (Conv.bytesToString l41.v) w44 fun s45 => G.rdS pr (Conv.bytesToString b_37.v) w44 fun s46 => G.cond (!(s45.toList == s46.toList)) (K false w44) (S3 K l_36 w44))) (S3 K l_36 w40)
theorem S4_ok (Kv : Value → World → Prop) : OkT pr false none 122 g4 (S4 (Kt Kv)) (tl 1 (tl 4 bd)) (P1 Kv) := ok_group mixed FOk_ 2 (S3_ok Kv) fun v ρ w => by kernel_rfl
@[reducible] def g5 : List SE := [.v 0 .sl, .v 1 .sl, .v 2 .sl, .v 7 .sl, .v 8 (.int .i64), .v 10 .sl, .v 11 (.int .i64)]
def S5 (K : KT) (l_47 : Sl) (m_48 : Sl) (b_49 : Sl) (x_50 : Sl) (e_51 : Int) (y_52 : Sl) (f_53 : Int) (w : World) : Prop :=
  G.cond (e_51 == (0 : Int)) (G.cond (f_53 == (0 : Int)) (G.rdS pr (Conv.bytesToString x_50.v) w.drew fun s54 => G.rdS pr (Conv.bytesToString y_52.v) w.drew fun s55 => C.tocsinref08_Same l_47 m_48 w.drew fun b56 w57 => isS pr x_50 s54 w57 ∧ isS pr y_52 s55 w57 ∧ (G.cond (!((s54.toList == s55.toList) == b56)) (K false w57) (S4 K l_47 b_49 w57))) (S4 K l_47 b_49 w.drew)) (S4 K l_47 b_49 w.drew)
theorem S5_ok (Kv : Value → World → Prop) : OkT pr false none 122 g5 (S5 (Kt Kv)) (tl 4 bd) (P1 Kv) := ok_group mixed FOk_ 1 (S4_ok Kv) fun v ρ w => by kernel_rfl
end tocsinlaw08_ChunkBack
def tocsinlaw08_ChunkBack (l_2 : Sl) (m_3 : Sl) (b_4 : Sl) (w : World) (K : tocsinlaw08_ChunkBack.KT) : Prop :=
  C.chunk_Encode l_2 w fun l58 n59 n60 w61 => C.chunk_Encode m_3 w61 fun l62 n63 n64 w65 => G.cond (n59 == (0 : Int)) (C.chunk_Decode l58 w65 fun l66 n67 w68 => G.cond (n67 != (0 : Int)) (K false w68) (C.tocsinref08_Same l66 l_2 w68 fun b69 w70 => G.cond (!b69) (K false w70) (tocsinlaw08_ChunkBack.S5 K l_2 m_3 b_4 l58 n59 l62 n63 w70))) (tocsinlaw08_ChunkBack.S5 K l_2 m_3 b_4 l58 n59 l62 n63 w65)
def tocsinlaw08_ChunkBack.cl : CL := fun args K w => match args with
  | [.slice x0_a x0_n x0_c, .slice x1_a x1_n x1_c, .slice x2_a x2_n x2_c] => C.tocsinlaw08_ChunkBack ⟨x0_a, x0_n, x0_c⟩ ⟨x1_a, x1_n, x1_c⟩ ⟨x2_a, x2_n, x2_c⟩ w (tocsinlaw08_ChunkBack.Kt K)
  | _ => False
theorem tocsinlaw08_ChunkBack.clok : OkC pr 9 tocsinlaw08_ChunkBack.cl := by
  intro args K w h
  unfold tocsinlaw08_ChunkBack.cl at h
  split at h
  · exact calls_group false mixed tocsinlaw08_ChunkBack.FOk_ tocsinlaw08_ChunkBack.fn rfl 4 (tocsinlaw08_ChunkBack.S5_ok K) (Eq.mp (by kernel_rfl) h)
  · exact h.elim
end C
end Go.Proofs.YtpadehbcjkhegaaDoor
