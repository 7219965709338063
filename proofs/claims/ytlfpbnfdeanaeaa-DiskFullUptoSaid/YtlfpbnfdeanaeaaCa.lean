/- Clean texts of Go functions, written by a program of this work (gen.py) off the loaded code, each shown to be what the code does. -/
import Derived.Test.YtlfpbnfdeanaeaaProg
import Derived.Test.YtlfpbnfdeanaeaaVmLift
import Derived.Test.YtlfpbnfdeanaeaaSortS
set_option linter.unusedVariables false
set_option maxRecDepth 100000
namespace Go.Proofs.Ytlfpbnfdeanaeaa
open Go Vm
namespace C
noncomputable abbrev pr : Program := Try.prog
theorem mixed : pr.follows .mixedOrders = true := by kernel_rfl
/-! tocsin/disk.New -/
namespace disk_New
abbrev KT := Option Addr → World → Prop
def Kt (Kv : Value → World → Prop) : KT := fun p1 w => Kv (.pointer p1) w
noncomputable def bd : Code := bdy Try.f9
theorem fn : FnOk pr 9 4 Try.f9 := ⟨Try.func9, by kernel_rfl, Try.ntmps9, by kernel_rfl, by kernel_rfl⟩
def F : Clee := ofL []
theorem FOk_ : FOk pr F := FOk_nil
def P1 (Kv : Value → World → Prop) : Post := bodyK false pr 4 Try.f9 Kv
end disk_New
def disk_New (w : World) (K : disk_New.KT) : Prop :=
  G.runM pr (Instr.makeMap 64 none) w fun m2 w3 => G.new (.cells #[(.map m2)] 66) w3 fun p4 w5 => K (some p4) w5
def disk_New.cl : CL := fun args K w => match args with
  | [] => C.disk_New w (disk_New.Kt K)
  | _ => False
theorem disk_New.clok : OkC pr 9 disk_New.cl := by
  intro args K w h
  unfold disk_New.cl at h
  split at h
  · exact calls_last false mixed disk_New.FOk_ disk_New.fn rfl (Eq.mp (by kernel_rfl) h)
  · exact h.elim

/-! tocsin/disk.named -/
namespace disk_named
abbrev KT := Bool → World → Prop
def Kt (Kv : Value → World → Prop) : KT := fun b1 w => Kv (.bool b1) w
noncomputable def bd : Code := bdy Try.f47
theorem fn : FnOk pr 47 61 Try.f47 := ⟨Try.func47, by kernel_rfl, Try.ntmps47, by kernel_rfl, by kernel_rfl⟩
def F : Clee := ofL []
theorem FOk_ : FOk pr F := FOk_nil
def P1 (Kv : Value → World → Prop) : Post := bodyK false pr 61 Try.f47 Kv
@[reducible] def g2 : List SE := [.v 0 .str]
def S2 (K : KT) (s_3 : ByteArray) (w : World) : Prop :=
  G.cond (decide (((s_3.size : Nat) : Int) ≥ (1 : Int))) (K (decide (((s_3.size : Nat) : Int) ≤ (64 : Int))) w) (K false w)
theorem S2_ok (Kv : Value → World → Prop) : OkT pr false none 61 g2 (S2 (Kt Kv)) (s2 (tl 1 bd)) (P1 Kv) := ok_last mixed FOk_ fun v ρ w => by kernel_rfl
def P3 (Kv : Value → World → Prop) : Post := next (get g2 (S2 (Kt Kv))) (P1 Kv)
def P4 (Kv : Value → World → Prop) : Post := inBlock 0 (P3 Kv)
@[reducible] def g5 : List SE := [.v 0 .str, .v 6 (.int .i64), .v 7 (.int .i64)]
def P6 (Kv : Value → World → Prop) (kc5 : Cur g5) : Post := next (get g5 kc5) (P4 Kv)
def S7 (K : KT) (kc5 : Cur g5) (s_10 : ByteArray) (n11 : Int) (n12 : Int) (w : World) : Prop :=
  G.cond (decide (n12 < n11)) (G.ixS s_10 n12 fun n13 => G.cond (decide (n13 ≥ (97 : Int))) (G.cond (decide (n13 ≤ (122 : Int))) (kc5 s_10 n11 (IntKind.i64.wrap (n12 + (1 : Int))) w) (G.cond (decide (n13 ≥ (65 : Int))) (G.cond (decide (n13 ≤ (90 : Int))) (kc5 s_10 n11 (IntKind.i64.wrap (n12 + (1 : Int))) w) (G.cond (decide (n13 ≥ (48 : Int))) (G.cond (decide (n13 ≤ (57 : Int))) (kc5 s_10 n11 (IntKind.i64.wrap (n12 + (1 : Int))) w) (G.cond (n13 == (46 : Int)) (kc5 s_10 n11 (IntKind.i64.wrap (n12 + (1 : Int))) w) (G.cond (n13 == (95 : Int)) (kc5 s_10 n11 (IntKind.i64.wrap (n12 + (1 : Int))) w) (G.cond (n13 == (45 : Int)) (kc5 s_10 n11 (IntKind.i64.wrap (n12 + (1 : Int))) w) (G.cond (!(n13 == (47 : Int))) (K false w) (kc5 s_10 n11 (IntKind.i64.wrap (n12 + (1 : Int))) w)))))) (G.cond (n13 == (46 : Int)) (kc5 s_10 n11 (IntKind.i64.wrap (n12 + (1 : Int))) w) (G.cond (n13 == (95 : Int)) (kc5 s_10 n11 (IntKind.i64.wrap (n12 + (1 : Int))) w) (G.cond (n13 == (45 : Int)) (kc5 s_10 n11 (IntKind.i64.wrap (n12 + (1 : Int))) w) (G.cond (!(n13 == (47 : Int))) (K false w) (kc5 s_10 n11 (IntKind.i64.wrap (n12 + (1 : Int))) w))))))) (G.cond (decide (n13 ≥ (48 : Int))) (G.cond (decide (n13 ≤ (57 : Int))) (kc5 s_10 n11 (IntKind.i64.wrap (n12 + (1 : Int))) w) (G.cond (n13 == (46 : Int)) (kc5 s_10 n11 (IntKind.i64.wrap (n12 + (1 : Int))) w) (G.cond (n13 == (95 : Int)) (kc5 s_10 n11 (IntKind.i64.wrap (n12 + (1 : Int))) w) (G.cond (n13 == (45 : Int)) (kc5 s_10 n11 (IntKind.i64.wrap (n12 + (1 : Int))) w) (G.cond (!(n13 == (47 : Int))) (K false w) (kc5 s_10 n11 (IntKind.i64.wrap (n12 + (1 : Int))) w)))))) (G.cond (n13 == (46 : Int)) (kc5 s_10 n11 (IntKind.i64.wrap (n12 + (1 : Int))) w) (G.cond (n13 == (95 : Int)) (kc5 s_10 n11 (IntKind.i64.wrap (n12 + (1 : Int))) w) (G.cond (n13 == (45 : Int)) (kc5 s_10 n11 (IntKind.i64.wrap (n12 + (1 : Int))) w) (G.cond (!(n13 == (47 : Int))) (K false w) (kc5 s_10 n11 (IntKind.i64.wrap (n12 + (1 : Int))) w)))))))) (G.cond (decide (n13 ≥ (65 : Int))) (G.cond (decide (n13 ≤ (90 : Int))) (kc5 s_10 n11 (IntKind.i64.wrap (n12 + (1 : Int))) w) (G.cond (decide (n13 ≥ (48 : Int))) (G.cond (decide (n13 ≤ (57 : Int))) (kc5 s_10 n11 (IntKind.i64.wrap (n12 + (1 : Int))) w) (G.cond (n13 == (46 : Int)) (kc5 s_10 n11 (IntKind.i64.wrap (n12 + (1 : Int))) w) (G.cond (n13 == (95 : Int)) (kc5 s_10 n11 (IntKind.i64.wrap (n12 + (1 : Int))) w) (G.cond (n13 == (45 : Int)) (kc5 s_10 n11 (IntKind.i64.wrap (n12 + (1 : Int))) w) (G.cond (!(n13 == (47 : Int))) (K false w) (kc5 s_10 n11 (IntKind.i64.wrap (n12 + (1 : Int))) w)))))) (G.cond (n13 == (46 : Int)) (kc5 s_10 n11 (IntKind.i64.wrap (n12 + (1 : Int))) w) (G.cond (n13 == (95 : Int)) (kc5 s_10 n11 (IntKind.i64.wrap (n12 + (1 : Int))) w) (G.cond (n13 == (45 : Int)) (kc5 s_10 n11 (IntKind.i64.wrap (n12 + (1 : Int))) w) (G.cond (!(n13 == (47 : Int))) (K false w) (kc5 s_10 n11 (IntKind.i64.wrap (n12 + (1 : Int))) w))))))) (G.cond (decide (n13 ≥ (48 : Int))) (G.cond (decide (n13 ≤ (57 : Int))) (kc5 s_10 n11 (IntKind.i64.wrap (n12 + (1 : Int))) w) (G.cond (n13 == (46 : Int)) (kc5 s_10 n11 (IntKind.i64.wrap (n12 + (1 : Int))) w) (G.cond (n13 == (95 : Int)) (kc5 s_10 n11 (IntKind.i64.wrap (n12 + (1 : Int))) w) (G.cond (n13 == (45 : Int)) (kc5 s_10 n11 (IntKind.i64.wrap (n12 + (1 : Int))) w) (G.cond (!(n13 == (47 : Int))) (K false w) (kc5 s_10 n11 (IntKind.i64.wrap (n12 + (1 : Int))) w)))))) (G.cond (n13 == (46 : Int)) (kc5 s_10 n11 (IntKind.i64.wrap (n12 + (1 : Int))) w) (G.cond (n13 == (95 : Int)) (kc5 s_10 n11 (IntKind.i64.wrap (n12 + (1 : Int))) w) (G.cond (n13 == (45 : Int)) (kc5 s_10 n11 (IntKind.i64.wrap (n12 + (1 : Int))) w) (G.cond (!(n13 == (47 : Int))) (K false w) (kc5 s_10 n11 (IntKind.i64.wrap (n12 + (1 : Int))) w)))))))) (S2 K s_10 w)
theorem S7_ok (Kv : Value → World → Prop) (kc5 : Cur g5) : OkT pr false none 61 g5 (S7 (Kt Kv) kc5) (lp (blk (tl 1 (s1 (tl 1 bd))))) (P6 Kv kc5) := ok_last mixed FOk_ fun v ρ w => by kernel_rfl
def L5 (K : KT) : Cur g5 := loopC g5 (S7 K)
theorem L5_ok (Kv : Value → World → Prop) : OkT pr false none 61 g5 (L5 (Kt Kv)) (blk (tl 1 (s1 (tl 1 bd)))) (P4 Kv) := ok_loop (B := S7 (Kt Kv)) (by kernel_rfl) fun kc => S7_ok Kv kc
theorem L5_ind {K : KT} {s_4 : ByteArray} {n5 : Int} {n6 : Int} {w : World} (h : ∀ X : Cur g5, (∀ s_4 n5 n6 w, S7 K X s_4 n5 n6 w → X s_4 n5 n6 w) → X s_4 n5 n6 w) : L5 K s_4 n5 n6 w := fun X hX => h X fun s_4 n5 n6 w hb => hX (s_4, n5, n6, ()) w hb
theorem B8 (Kv : Value → World → Prop) : OkT pr false none 61 g5 (L5 (Kt Kv)) (tl 1 (s1 (tl 1 bd))) (P3 Kv) := ok_block 0 (by kernel_rfl) (L5_ok Kv)
def S9 (K : KT) (s_14 : ByteArray) (w : World) : Prop :=
  L5 K s_14 ((s_14.size : Nat) : Int) (0 : Int) w
theorem S9_ok (Kv : Value → World → Prop) : OkT pr false none 61 g2 (S9 (Kt Kv)) (s1 (tl 1 bd)) (P3 Kv) := ok_group mixed FOk_ 1 (B8 Kv) fun v ρ w => by kernel_rfl
theorem Q10 (Kv : Value → World → Prop) : OkT pr false none 61 g2 (S9 (Kt Kv)) (tl 1 bd) (P1 Kv) := ok_seq (by kernel_rfl) (S2_ok Kv) (S9_ok Kv)
end disk_named
def disk_named (s_2 : ByteArray) (w : World) (K : disk_named.KT) : Prop :=
  disk_named.S9 K s_2 w
def disk_named.cl : CL := fun args K w => match args with
  | [.string x0] => C.disk_named x0 w (disk_named.Kt K)
  | _ => False
theorem disk_named.clok : OkC pr 47 disk_named.cl := by
  intro args K w h
  unfold disk_named.cl at h
  split at h
  · exact calls_group false mixed disk_named.FOk_ disk_named.fn rfl 1 (disk_named.Q10 K) (Eq.mp (by kernel_rfl) h)
  · exact h.elim

/-! (*tocsin/disk.Disk).find -/
namespace disk_Disk_find
abbrev KT := Sl → Int → Int → World → Prop
def Kt (Kv : Value → World → Prop) : KT := fun l1 n2 n3 w => Kv (.tuple #[(.agg #[l1.v, (.int .i64 n2)]), (.int .i64 n3)]) w
noncomputable def bd : Code := bdy Try.f31
theorem fn : FnOk pr 31 30 Try.f31 := ⟨Try.func31, by kernel_rfl, Try.ntmps31, by kernel_rfl, by kernel_rfl⟩
def F : Clee := ofL [(47, C.disk_named.cl)]
theorem FOk_ : FOk pr F := FOk_cons C.disk_named.clok (FOk_nil)
def P1 (Kv : Value → World → Prop) : Post := bodyK false pr 30 Try.f31 Kv
end disk_Disk_find
def disk_Disk_find (d_4 : Option Addr) (name_5 : ByteArray) (w : World) (K : disk_Disk_find.KT) : Prop :=
  G.new (.cells #[nilS.v, (.int .i64 (0 : Int))] 68) w fun p8 w9 => G.cond d_4.isNone (G.st p8 nilS.v w9 fun w10 => G.st (p8.add 1) (.int .i64 (0 : Int)) w10 fun w11 => G.cSl p8 w11 fun l12 => G.cI .i64 (p8.add 1) w11 fun n13 => K l12 n13 (2 : Int) w11) (C.disk_named name_5 w9 fun b14 w15 => G.cond (!b14) (G.st p8 nilS.v w15 fun w16 => G.st (p8.add 1) (.int .i64 (0 : Int)) w16 fun w17 => G.cSl p8 w17 fun l18 => G.cI .i64 (p8.add 1) w17 fun n19 => K l18 n19 (40 : Int) w17) (G.ptr d_4 fun p20 => G.cM p20 w15 fun m21 => G.rd2 pr (Instr.lookup 64 (.map m21) (.string name_5) true) (fun v : Value => v) w15 fun v22 b24 => G.ag v22 2 fun c23 => G.vSl c23[0 + 0]? fun l25 => G.vI .i64 c23[0 + 1]? fun n26 => G.new (.cells #[nilS.v, (.int .i64 (0 : Int))] 68) w15 fun p27 w28 => G.st p27 l25.v w28 fun w29 => G.st (p27.add 1) (.int .i64 n26) w29 fun w30 => G.cond (!b24) (G.st p8 nilS.v w30 fun w31 => G.st (p8.add 1) (.int .i64 (0 : Int)) w31 fun w32 => G.cSl p8 w32 fun l33 => G.cI .i64 (p8.add 1) w32 fun n34 => K l33 n34 (5 : Int) w32) (G.cSl p27 w30 fun l35 => G.cI .i64 (p27.add 1) w30 fun n36 => G.st p8 l35.v w30 fun w37 => G.st (p8.add 1) (.int .i64 n36) w37 fun w38 => G.cSl p8 w38 fun l39 => G.cI .i64 (p8.add 1) w38 fun n40 => K l39 n40 (0 : Int) w38)))
def disk_Disk_find.cl : CL := fun args K w => match args with
  | [.pointer x0, .string x1] => C.disk_Disk_find x0 x1 w (disk_Disk_find.Kt K)
  | _ => False
theorem disk_Disk_find.clok : OkC pr 31 disk_Disk_find.cl := by
  intro args K w h
  unfold disk_Disk_find.cl at h
  split at h
  · exact calls_last false mixed disk_Disk_find.FOk_ disk_Disk_find.fn rfl (Eq.mp (by kernel_rfl) h)
  · exact h.elim

/-! (*tocsin/disk.Disk).Append -/
namespace disk_Disk_Append
abbrev KT := Int → World → Prop
def Kt (Kv : Value → World → Prop) : KT := fun n1 w => Kv (.int .i64 n1) w
noncomputable def bd : Code := bdy Try.f10
theorem fn : FnOk pr 10 68 Try.f10 := ⟨Try.func10, by kernel_rfl, Try.ntmps10, by kernel_rfl, by kernel_rfl⟩
def F : Clee := ofL [(31, C.disk_Disk_find.cl)]
theorem FOk_ : FOk pr F := FOk_cons C.disk_Disk_find.clok (FOk_nil)
def P1 (Kv : Value → World → Prop) : Post := bodyK false pr 68 Try.f10 Kv
@[reducible] def g2 : List SE := [.v 0 .ptr, .v 1 .str, .v 2 .sl, .v 7 .ptr]
def S2 (K : KT) (d_8 : Option Addr) (name_9 : ByteArray) (b_10 : Sl) (f_11 : Option Addr) (w : World) : Prop :=
  G.ptr f_11 fun p12 => G.cSl p12 w fun l13 => G.ptr f_11 fun p14 => G.cSl p14 w fun l15 => G.runSl pr (Instr.makeSlice 25 (.int .i64 ((l13.n : Nat) : Int)) (.int .i64 (IntKind.i64.wrap (((l15.n : Nat) : Int) + ((b_10.n : Nat) : Int))))) w fun l16 w17 => G.ptr f_11 fun p18 => G.cSl p18 w17 fun l19 => G.runI pr (Builtin.copy_ #[25, 25] 3 #[l16.v, l19.v]) .i64 w17 fun n20 w21 => G.ptr d_8 fun p22 => G.cM p22 w21.drew fun m23 => G.ptr f_11 fun p24 => G.cI .i64 (p24.add 1) w21.drew fun n25 => G.runSl pr (Builtin.append_ #[25, 25] 25 #[l16.v, b_10.v]) w21.drew fun l26 w27 => sameAt p22 1 w21.drew w27 ∧ sameAt (p24.add 1) 1 w21.drew w27 ∧ (G.runU pr (Instr.mapUpdate 64 (.map m23) (.string name_9) (.agg #[l26.v, (.int .i64 n25)])) w27 fun w28 => K (0 : Int) w28)
theorem S2_ok (Kv : Value → World → Prop) : OkT pr false none 68 g2 (S2 (Kt Kv)) (tl 3 bd) (P1 Kv) := ok_last mixed FOk_ fun v ρ w => by kernel_rfl
end disk_Disk_Append
def disk_Disk_Append (d_2 : Option Addr) (name_3 : ByteArray) (b_4 : Sl) (w : World) (K : disk_Disk_Append.KT) : Prop :=
  C.disk_Disk_find d_2 name_3 w fun l29 n30 n31 w32 => G.new (.cells #[nilS.v, (.int .i64 (0 : Int))] 68) w32 fun p33 w34 => G.st p33 l29.v w34 fun w35 => G.st (p33.add 1) (.int .i64 n30) w35 fun w36 => G.cond (n31 == (5 : Int)) (G.ptr d_2 fun p37 => G.cM p37 w36 fun m38 => G.rdI pr (Builtin.len_ #[64] 3 #[(.map m38)]) .i64 w36 fun n39 => G.cond (decide (n39 ≥ (256 : Int))) (K (8 : Int) w36) (G.cond (n31 != (0 : Int)) (G.cond (n31 != (5 : Int)) (K n31 w36) (G.cSl p33 w36 fun l40 => G.cond (decide ((IntKind.i64.wrap (((l40.n : Nat) : Int) + ((b_4.n : Nat) : Int))) > (1048576 : Int))) (K (4 : Int) w36) (disk_Disk_Append.S2 K d_2 name_3 b_4 (some p33) w36))) (G.cSl p33 w36 fun l41 => G.cond (decide ((IntKind.i64.wrap (((l41.n : Nat) : Int) + ((b_4.n : Nat) : Int))) > (1048576 : Int))) (K (4 : Int) w36) (disk_Disk_Append.S2 K d_2 name_3 b_4 (some p33) w36)))) (G.cond (n31 != (0 : Int)) (G.cond (n31 != (5 : Int)) (K n31 w36) (G.cSl p33 w36 fun l42 => G.cond (decide ((IntKind.i64.wrap (((l42.n : Nat) : Int) + ((b_4.n : Nat) : Int))) > (1048576 : Int))) (K (4 : Int) w36) (disk_Disk_Append.S2 K d_2 name_3 b_4 (some p33) w36))) (G.cSl p33 w36 fun l43 => G.cond (decide ((IntKind.i64.wrap (((l43.n : Nat) : Int) + ((b_4.n : Nat) : Int))) > (1048576 : Int))) (K (4 : Int) w36) (disk_Disk_Append.S2 K d_2 name_3 b_4 (some p33) w36)))
def disk_Disk_Append.cl : CL := fun args K w => match args with
  | [.pointer x0, .string x1, .slice x2_a x2_n x2_c] => C.disk_Disk_Append x0 x1 ⟨x2_a, x2_n, x2_c⟩ w (disk_Disk_Append.Kt K)
  | _ => False
theorem disk_Disk_Append.clok : OkC pr 10 disk_Disk_Append.cl := by
  intro args K w h
  unfold disk_Disk_Append.cl at h
  split at h
  · exact calls_group false mixed disk_Disk_Append.FOk_ disk_Disk_Append.fn rfl 3 (disk_Disk_Append.S2_ok K) (Eq.mp (by kernel_rfl) h)
  · exact h.elim

/-! (tocsin/disk.file).again -/
namespace disk_file_again
abbrev KT := Sl → Int → World → Prop
def Kt (Kv : Value → World → Prop) : KT := fun l1 n2 w => Kv (.agg #[l1.v, (.int .i64 n2)]) w
noncomputable def bd : Code := bdy Try.f32
theorem fn : FnOk pr 32 18 Try.f32 := ⟨Try.func32, by kernel_rfl, Try.ntmps32, by kernel_rfl, by kernel_rfl⟩
def F : Clee := ofL []
theorem FOk_ : FOk pr F := FOk_nil
def P1 (Kv : Value → World → Prop) : Post := bodyK false pr 18 Try.f32 Kv
end disk_file_again
def disk_file_again (f_3 : Sl) (f_4 : Int) (n_5 : Int) (w : World) (K : disk_file_again.KT) : Prop :=
  G.new (.cells #[f_3.v, (.int .i64 f_4)] 68) w fun p6 w7 => G.new (.cells #[nilS.v, (.int .i64 (0 : Int))] 68) w7 fun p8 w9 => G.runSl pr (Instr.makeSlice 25 (.int .i64 n_5) (.int .i64 n_5)) w9 fun l10 w11 => G.cSl p6 w11 fun l12 => G.runI pr (Builtin.copy_ #[25, 25] 3 #[l10.v, l12.v]) .i64 w11 fun n13 w14 => G.cI .i64 (p6.add 1) w14 fun n15 => G.st p8 l10.v w14 fun w16 => G.st (p8.add 1) (.int .i64 (if n_5 < n15 then n_5 else n15)) w16 fun w17 => G.cSl p8 w17 fun l18 => G.cI .i64 (p8.add 1) w17 fun n19 => K l18 n19 w17
def disk_file_again.cl : CL := fun args K w => match args with
  | [.agg ⟨[.slice x0_0_a x0_0_n x0_0_c, .int .i64 x0_1]⟩, .int .i64 x1] => C.disk_file_again ⟨x0_0_a, x0_0_n, x0_0_c⟩ x0_1 x1 w (disk_file_again.Kt K)
  | _ => False
theorem disk_file_again.clok : OkC pr 32 disk_file_again.cl := by
  intro args K w h
  unfold disk_file_again.cl at h
  split at h
  · exact calls_last false mixed disk_file_again.FOk_ disk_file_again.fn rfl (Eq.mp (by kernel_rfl) h)
  · exact h.elim

/-! (*tocsin/disk.Disk).Read -/
namespace disk_Disk_Read
abbrev KT := Sl → Int → World → Prop
def Kt (Kv : Value → World → Prop) : KT := fun l1 n2 w => Kv (.tuple #[l1.v, (.int .i64 n2)]) w
noncomputable def bd : Code := bdy Try.f12
theorem fn : FnOk pr 12 23 Try.f12 := ⟨Try.func12, by kernel_rfl, Try.ntmps12, by kernel_rfl, by kernel_rfl⟩
def F : Clee := ofL [(31, C.disk_Disk_find.cl), (32, C.disk_file_again.cl)]
theorem FOk_ : FOk pr F := FOk_cons C.disk_Disk_find.clok (FOk_cons C.disk_file_again.clok (FOk_nil))
def P1 (Kv : Value → World → Prop) : Post := bodyK false pr 23 Try.f12 Kv
end disk_Disk_Read
def disk_Disk_Read (d_3 : Option Addr) (name_4 : ByteArray) (w : World) (K : disk_Disk_Read.KT) : Prop :=
  C.disk_Disk_find d_3 name_4 w fun l7 n8 n9 w10 => G.new (.cells #[nilS.v, (.int .i64 (0 : Int))] 68) w10 fun p11 w12 => G.st p11 l7.v w12 fun w13 => G.st (p11.add 1) (.int .i64 n8) w13 fun w14 => G.cond (n9 != (0 : Int)) (K nilS n9 w14) (G.cSl p11 w14 fun l15 => G.cI .i64 (p11.add 1) w14 fun n16 => G.cSl p11 w14 fun l17 => C.disk_file_again l15 n16 ((l17.n : Nat) : Int) w14 fun l18 n19 w20 => K l18 (0 : Int) w20)
def disk_Disk_Read.cl : CL := fun args K w => match args with
  | [.pointer x0, .string x1] => C.disk_Disk_Read x0 x1 w (disk_Disk_Read.Kt K)
  | _ => False
theorem disk_Disk_Read.clok : OkC pr 12 disk_Disk_Read.cl := by
  intro args K w h
  unfold disk_Disk_Read.cl at h
  split at h
  · exact calls_last false mixed disk_Disk_Read.FOk_ disk_Disk_Read.fn rfl (Eq.mp (by kernel_rfl) h)
  · exact h.elim

/-! slices.Sort[[]string,string]: by the library's contract -/
abbrev slices_Sort_string_string.KT := World → Prop
def slices_Sort_string_string.Kt (Kv : Value → World → Prop) : slices_Sort_string_string.KT := fun w => Kv (.tuple #[]) w
def slices_Sort_string_string (x0 : Sl) (w : World) (K : slices_Sort_string_string.KT) : Prop := Srt.sortS x0 w K
def slices_Sort_string_string.cl : CL := fun args K w => match args with
  | [.slice a n c] => C.slices_Sort_string_string ⟨a, n, c⟩ w (slices_Sort_string_string.Kt K)
  | _ => False
theorem slices_Sort_string_string.clok : OkC pr 35 slices_Sort_string_string.cl := by
  intro args K w h
  unfold slices_Sort_string_string.cl at h
  split at h
  · exact Srt.sortS_ok h
  · exact h.elim

/-! (*tocsin/disk.Disk).List -/
namespace disk_Disk_List
abbrev KT := Sl → World → Prop
def Kt (Kv : Value → World → Prop) : KT := fun l1 w => Kv l1.v w
noncomputable def bd : Code := bdy Try.f17
theorem fn : FnOk pr 17 23 Try.f17 := ⟨Try.func17, by kernel_rfl, Try.ntmps17, by kernel_rfl, by kernel_rfl⟩
def F : Clee := ofL [(35, C.slices_Sort_string_string.cl)]
theorem FOk_ : FOk pr F := FOk_cons C.slices_Sort_string_string.clok (FOk_nil)
def P1 (Kv : Value → World → Prop) : Post := bodyK false pr 23 Try.f17 Kv
@[reducible] def g2 : List SE := [.v 3 .sl]
def S2 (K : KT) (l_4 : Sl) (w : World) : Prop :=
  C.slices_Sort_string_string l_4 w fun w5 => K l_4 w5
theorem S2_ok (Kv : Value → World → Prop) : OkT pr false none 23 g2 (S2 (Kt Kv)) (s2 (tl 3 bd)) (P1 Kv) := ok_last mixed FOk_ fun v ρ w => by kernel_rfl
def P3 (Kv : Value → World → Prop) : Post := next (get g2 (S2 (Kt Kv))) (P1 Kv)
def P4 (Kv : Value → World → Prop) : Post := inBlock 0 (P3 Kv)
@[reducible] def g5 : List SE := [.v 3 .sl, .v 11 .ptr]
def P6 (Kv : Value → World → Prop) (kc5 : Cur g5) : Post := next (get g5 kc5) (P4 Kv)
def S7 (K : KT) (kc5 : Cur g5) (l_10 : Sl) (p11 : Option Addr) (w : World) : Prop :=
  G.nxt pr (Instr.next (.pointer p11) false 0) w (fun w12 => S2 K l_10 w12) (fun k14 x15 w13 => G.ent pr (Instr.entry (.pointer p11)) w13 fun k16 x17 => G.vS (some k16) fun s18 => G.new (.cells #[(.string s18)] 9) w13 fun p19 w20 => G.runSl pr (Builtin.append_ #[39, 39] 39 #[l_10.v, (Sl.v (⟨some p19, 1, 1⟩ : Sl))]) w20 fun l21 w22 => kc5 l21 p11 w22)
theorem S7_ok (Kv : Value → World → Prop) (kc5 : Cur g5) : OkT pr false none 23 g5 (S7 (Kt Kv) kc5) (lp (blk (tl 1 (s1 (tl 3 bd))))) (P6 Kv kc5) := ok_last mixed FOk_ fun v ρ w => by kernel_rfl
def L5 (K : KT) : Cur g5 := loopC g5 (S7 K)
theorem L5_ok (Kv : Value → World → Prop) : OkT pr false none 23 g5 (L5 (Kt Kv)) (blk (tl 1 (s1 (tl 3 bd)))) (P4 Kv) := ok_loop (B := S7 (Kt Kv)) (by kernel_rfl) fun kc => S7_ok Kv kc
theorem L5_ind {K : KT} {l_6 : Sl} {p7 : Option Addr} {w : World} (h : ∀ X : Cur g5, (∀ l_6 p7 w, S7 K X l_6 p7 w → X l_6 p7 w) → X l_6 p7 w) : L5 K l_6 p7 w := fun X hX => h X fun l_6 p7 w hb => hX (l_6, p7, ()) w hb
theorem B8 (Kv : Value → World → Prop) : OkT pr false none 23 g5 (L5 (Kt Kv)) (tl 1 (s1 (tl 3 bd))) (P3 Kv) := ok_block 0 (by kernel_rfl) (L5_ok Kv)
@[reducible] def g9 : List SE := [.v 0 .ptr, .v 3 .sl]
def S9 (K : KT) (d_23 : Option Addr) (l_24 : Sl) (w : World) : Prop :=
  G.ptr d_23 fun p25 => G.cM p25 w fun m26 => G.runP pr (Instr.range 64 (.map m26)) w fun p27 w28 => L5 K l_24 p27 w28
theorem S9_ok (Kv : Value → World → Prop) : OkT pr false none 23 g9 (S9 (Kt Kv)) (s1 (tl 3 bd)) (P3 Kv) := ok_group mixed FOk_ 1 (B8 Kv) fun v ρ w => by kernel_rfl
theorem Q10 (Kv : Value → World → Prop) : OkT pr false none 23 g9 (S9 (Kt Kv)) (tl 3 bd) (P1 Kv) := ok_seq (by kernel_rfl) (S2_ok Kv) (S9_ok Kv)
end disk_Disk_List
def disk_Disk_List (d_2 : Option Addr) (w : World) (K : disk_Disk_List.KT) : Prop :=
  G.cond d_2.isNone (K nilS w) (disk_Disk_List.S9 K d_2 nilS w)
def disk_Disk_List.cl : CL := fun args K w => match args with
  | [.pointer x0] => C.disk_Disk_List x0 w (disk_Disk_List.Kt K)
  | _ => False
theorem disk_Disk_List.clok : OkC pr 17 disk_Disk_List.cl := by
  intro args K w h
  unfold disk_Disk_List.cl at h
  split at h
  · exact calls_group false mixed disk_Disk_List.FOk_ disk_Disk_List.fn rfl 3 (disk_Disk_List.Q10 K) (Eq.mp (by kernel_rfl) h)
  · exact h.elim

/-! (*tocsin/disk.Disk).Crash -/
namespace disk_Disk_Crash
abbrev KT := Int → World → Prop
def Kt (Kv : Value → World → Prop) : KT := fun n1 w => Kv (.int .i64 n1) w
noncomputable def bd : Code := bdy Try.f26
theorem fn : FnOk pr 26 79 Try.f26 := ⟨Try.func26, by kernel_rfl, Try.ntmps26, by kernel_rfl, by kernel_rfl⟩
def F : Clee := ofL [(17, C.disk_Disk_List.cl), (32, C.disk_file_again.cl)]
theorem FOk_ : FOk pr F := FOk_cons C.disk_Disk_List.clok (FOk_cons C.disk_file_again.clok (FOk_nil))
def P1 (Kv : Value → World → Prop) : Post := bodyK false pr 79 Try.f26 Kv
@[reducible] def g2 : List SE := []
def S2 (K : KT) (w : World) : Prop :=
  K (0 : Int) w
theorem S2_ok (Kv : Value → World → Prop) : OkT pr false none 79 g2 (S2 (Kt Kv)) (s2 (s2 (tl 3 bd))) (P1 Kv) := ok_last mixed FOk_ fun v ρ w => by kernel_rfl
def P3 (Kv : Value → World → Prop) : Post := next (get g2 (S2 (Kt Kv))) (P1 Kv)
def P4 (Kv : Value → World → Prop) : Post := inBlock 2 (P3 Kv)
@[reducible] def g5 : List SE := [.v 0 .ptr, .v 5 .map, .v 43 .sl, .v 44 (.int .i64), .v 45 (.int .i64)]
def P6 (Kv : Value → World → Prop) (kc5 : Cur g5) : Post := next (get g5 kc5) (P4 Kv)
def S7 (K : KT) (kc5 : Cur g5) (d_16 : Option Addr) (keeps_17 : Option Nat) (l18 : Sl) (n19 : Int) (n20 : Int) (w : World) : Prop :=
  G.cond (decide (n20 < n19)) (G.ix l18.a l18.n n20 1 fun p21 => G.cS p21 w fun s22 => G.ptr d_16 fun p23 => G.cM p23 w fun m24 => G.rd1 pr (Instr.lookup 64 (.map m24) (.string s22) false) (fun v : Value => v) w fun v25 => G.ag v25 2 fun c26 => G.vSl c26[0 + 0]? fun l28 => G.vI .i64 c26[0 + 1]? fun n29 => G.new (.cells #[nilS.v, (.int .i64 (0 : Int))] 68) w fun p30 w31 => G.st p30 l28.v w31 fun w32 => G.st (p30.add 1) (.int .i64 n29) w32 fun w33 => G.cI .i64 (p30.add 1) w33 fun n34 => G.rd1 pr (Instr.lookup 81 (.map keeps_17) (.string s22) false) (fun n : Int => Value.int .i64 n) w33 fun n35 => G.cSl p30 w33 fun l36 => G.cI .i64 (p30.add 1) w33 fun n37 => G.st (p30.add 1) (.int .i64 (IntKind.i64.wrap (n34 + (if (IntKind.i64.wrap (((l36.n : Nat) : Int) - n37)) < n35 then (IntKind.i64.wrap (((l36.n : Nat) : Int) - n37)) else n35)))) w33 fun w38 => G.ptr d_16 fun p39 => G.cM p39 w38.drew fun m40 => G.cSl p30 w38.drew fun l41 => G.cI .i64 (p30.add 1) w38.drew fun n42 => C.disk_file_again l41 n42 (IntKind.i64.wrap (n34 + (if (IntKind.i64.wrap (((l36.n : Nat) : Int) - n37)) < n35 then (IntKind.i64.wrap (((l36.n : Nat) : Int) - n37)) else n35))) w38.drew fun l43 n44 w45 => sameAt p39 1 w38.drew w45 ∧ (G.runU pr (Instr.mapUpdate 64 (.map m40) (.string s22) (.agg #[l43.v, (.int .i64 n44)])) w45 fun w46 => kc5 d_16 keeps_17 l18 n19 (IntKind.i64.wrap (n20 + (1 : Int))) w46)) (S2 K w)
theorem S7_ok (Kv : Value → World → Prop) (kc5 : Cur g5) : OkT pr false none 79 g5 (S7 (Kt Kv) kc5) (lp (blk (tl 1 (s1 (s2 (tl 3 bd)))))) (P6 Kv kc5) := ok_last mixed FOk_ fun v ρ w => by kernel_rfl
def L5 (K : KT) : Cur g5 := loopC g5 (S7 K)
theorem L5_ok (Kv : Value → World → Prop) : OkT pr false none 79 g5 (L5 (Kt Kv)) (blk (tl 1 (s1 (s2 (tl 3 bd))))) (P4 Kv) := ok_loop (B := S7 (Kt Kv)) (by kernel_rfl) fun kc => S7_ok Kv kc
theorem L5_ind {K : KT} {d_6 : Option Addr} {keeps_7 : Option Nat} {l8 : Sl} {n9 : Int} {n10 : Int} {w : World} (h : ∀ X : Cur g5, (∀ d_6 keeps_7 l8 n9 n10 w, S7 K X d_6 keeps_7 l8 n9 n10 w → X d_6 keeps_7 l8 n9 n10 w) → X d_6 keeps_7 l8 n9 n10 w) : L5 K d_6 keeps_7 l8 n9 n10 w := fun X hX => h X fun d_6 keeps_7 l8 n9 n10 w hb => hX (d_6, keeps_7, l8, n9, n10, ()) w hb
theorem B8 (Kv : Value → World → Prop) : OkT pr false none 79 g5 (L5 (Kt Kv)) (tl 1 (s1 (s2 (tl 3 bd)))) (P3 Kv) := ok_block 2 (by kernel_rfl) (L5_ok Kv)
@[reducible] def g9 : List SE := [.v 0 .ptr, .v 5 .map]
def S9 (K : KT) (d_47 : Option Addr) (keeps_48 : Option Nat) (w : World) : Prop :=
  C.disk_Disk_List d_47 w fun l49 w50 => L5 K d_47 keeps_48 l49 ((l49.n : Nat) : Int) (0 : Int) w50
theorem S9_ok (Kv : Value → World → Prop) : OkT pr false none 79 g9 (S9 (Kt Kv)) (s1 (s2 (tl 3 bd))) (P3 Kv) := ok_group mixed FOk_ 1 (B8 Kv) fun v ρ w => by kernel_rfl
theorem Q10 (Kv : Value → World → Prop) : OkT pr false none 79 g9 (S9 (Kt Kv)) (s2 (tl 3 bd)) (P1 Kv) := ok_seq (by kernel_rfl) (S2_ok Kv) (S9_ok Kv)
def P11 (Kv : Value → World → Prop) : Post := next (get g9 (S9 (Kt Kv))) (P1 Kv)
def P12 (Kv : Value → World → Prop) : Post := inBlock 0 (P11 Kv)
@[reducible] def g13 : List SE := [.v 0 .ptr, .v 5 .map, .v 17 .sl, .v 18 (.int .i64), .v 19 (.int .i64)]
def P14 (Kv : Value → World → Prop) (kc13 : Cur g13) : Post := next (get g13 kc13) (P12 Kv)
def S15 (K : KT) (kc13 : Cur g13) (d_61 : Option Addr) (keeps_62 : Option Nat) (l63 : Sl) (n64 : Int) (n65 : Int) (w : World) : Prop :=
  G.cond (decide (n65 < n64)) (G.ix l63.a l63.n n65 2 fun p66 => G.cS p66 w fun s67 => G.cI .i64 (p66.add 1) w fun n68 => G.new (.cells #[(.string (⟨#[]⟩ : ByteArray)), (.int .i64 (0 : Int))] 72) w fun p69 w70 => G.st p69 (.string s67) w70 fun w71 => G.st (p69.add 1) (.int .i64 n68) w71 fun w72 => G.cS p69 w72 fun s73 => G.rd2 pr (Instr.lookup 81 (.map keeps_62) (.string s73) true) (fun n : Int => Value.int .i64 n) w72 fun n74 b75 => G.cond b75 (K (1 : Int) w72) (G.cI .i64 (p69.add 1) w72 fun n76 => G.cond (decide (n76 < (0 : Int))) (K (1 : Int) w72) (G.cS p69 w72 fun s77 => G.cI .i64 (p69.add 1) w72 fun n78 => G.runU pr (Instr.mapUpdate 81 (.map keeps_62) (.string s77) (.int .i64 n78)) w72 fun w79 => kc13 d_61 keeps_62 l63 n64 (IntKind.i64.wrap (n65 + (1 : Int))) w79))) (S9 K d_61 keeps_62 w)
theorem S15_ok (Kv : Value → World → Prop) (kc13 : Cur g13) : OkT pr false none 79 g13 (S15 (Kt Kv) kc13) (lp (blk (tl 1 (s1 (tl 3 bd))))) (P14 Kv kc13) := ok_last mixed FOk_ fun v ρ w => by kernel_rfl
def L13 (K : KT) : Cur g13 := loopC g13 (S15 K)
theorem L13_ok (Kv : Value → World → Prop) : OkT pr false none 79 g13 (L13 (Kt Kv)) (blk (tl 1 (s1 (tl 3 bd)))) (P12 Kv) := ok_loop (B := S15 (Kt Kv)) (by kernel_rfl) fun kc => S15_ok Kv kc
theorem L13_ind {K : KT} {d_51 : Option Addr} {keeps_52 : Option Nat} {l53 : Sl} {n54 : Int} {n55 : Int} {w : World} (h : ∀ X : Cur g13, (∀ d_51 keeps_52 l53 n54 n55 w, S15 K X d_51 keeps_52 l53 n54 n55 w → X d_51 keeps_52 l53 n54 n55 w) → X d_51 keeps_52 l53 n54 n55 w) : L13 K d_51 keeps_52 l53 n54 n55 w := fun X hX => h X fun d_51 keeps_52 l53 n54 n55 w hb => hX (d_51, keeps_52, l53, n54, n55, ()) w hb
theorem B16 (Kv : Value → World → Prop) : OkT pr false none 79 g13 (L13 (Kt Kv)) (tl 1 (s1 (tl 3 bd))) (P11 Kv) := ok_block 0 (by kernel_rfl) (L13_ok Kv)
@[reducible] def g17 : List SE := [.v 0 .ptr, .v 1 .sl, .v 5 .map]
def S17 (K : KT) (d_80 : Option Addr) (l_81 : Sl) (keeps_82 : Option Nat) (w : World) : Prop :=
  L13 K d_80 keeps_82 l_81 ((l_81.n : Nat) : Int) (0 : Int) w
theorem S17_ok (Kv : Value → World → Prop) : OkT pr false none 79 g17 (S17 (Kt Kv)) (s1 (tl 3 bd)) (P11 Kv) := ok_group mixed FOk_ 1 (B16 Kv) fun v ρ w => by kernel_rfl
theorem Q18 (Kv : Value → World → Prop) : OkT pr false none 79 g17 (S17 (Kt Kv)) (tl 3 bd) (P1 Kv) := ok_seq (by kernel_rfl) (Q10 Kv) (S17_ok Kv)
end disk_Disk_Crash
def disk_Disk_Crash (d_2 : Option Addr) (l_3 : Sl) (w : World) (K : disk_Disk_Crash.KT) : Prop :=
  G.cond d_2.isNone (K (2 : Int) w) (G.runM pr (Instr.makeMap 81 none) w fun m83 w84 => disk_Disk_Crash.S17 K d_2 l_3 m83 w84)
def disk_Disk_Crash.cl : CL := fun args K w => match args with
  | [.pointer x0, .slice x1_a x1_n x1_c] => C.disk_Disk_Crash x0 ⟨x1_a, x1_n, x1_c⟩ w (disk_Disk_Crash.Kt K)
  | _ => False
theorem disk_Disk_Crash.clok : OkC pr 26 disk_Disk_Crash.cl := by
  intro args K w h
  unfold disk_Disk_Crash.cl at h
  split at h
  · exact calls_group false mixed disk_Disk_Crash.FOk_ disk_Disk_Crash.fn rfl 3 (disk_Disk_Crash.Q18 K) (Eq.mp (by kernel_rfl) h)
  · exact h.elim

/-! (*tocsin/disk.Disk).Sync -/
namespace disk_Disk_Sync
abbrev KT := Int → World → Prop
def Kt (Kv : Value → World → Prop) : KT := fun n1 w => Kv (.int .i64 n1) w
noncomputable def bd : Code := bdy Try.f27
theorem fn : FnOk pr 27 27 Try.f27 := ⟨Try.func27, by kernel_rfl, Try.ntmps27, by kernel_rfl, by kernel_rfl⟩
def F : Clee := ofL [(31, C.disk_Disk_find.cl)]
theorem FOk_ : FOk pr F := FOk_cons C.disk_Disk_find.clok (FOk_nil)
def P1 (Kv : Value → World → Prop) : Post := bodyK false pr 27 Try.f27 Kv
end disk_Disk_Sync
def disk_Disk_Sync (d_2 : Option Addr) (name_3 : ByteArray) (w : World) (K : disk_Disk_Sync.KT) : Prop :=
  C.disk_Disk_find d_2 name_3 w fun l4 n5 n6 w7 => G.new (.cells #[nilS.v, (.int .i64 (0 : Int))] 68) w7 fun p8 w9 => G.st p8 l4.v w9 fun w10 => G.st (p8.add 1) (.int .i64 n5) w10 fun w11 => G.cond (n6 == (0 : Int)) (G.ptr d_2 fun p12 => G.cM p12 w11.drew fun m13 => G.cSl p8 w11.drew fun l14 => G.cSl p8 w11.drew fun l15 => G.runU pr (Instr.mapUpdate 64 (.map m13) (.string name_3) (.agg #[l14.v, (.int .i64 ((l15.n : Nat) : Int))])) w11.drew fun w16 => K n6 w16) (K n6 w11)
def disk_Disk_Sync.cl : CL := fun args K w => match args with
  | [.pointer x0, .string x1] => C.disk_Disk_Sync x0 x1 w (disk_Disk_Sync.Kt K)
  | _ => False
theorem disk_Disk_Sync.clok : OkC pr 27 disk_Disk_Sync.cl := by
  intro args K w h
  unfold disk_Disk_Sync.cl at h
  split at h
  · exact calls_last false mixed disk_Disk_Sync.FOk_ disk_Disk_Sync.fn rfl (Eq.mp (by kernel_rfl) h)
  · exact h.elim

/-! tocsin/tocsinlaw03.known -/
namespace tocsinlaw03_known
abbrev KT := Bool → World → Prop
def Kt (Kv : Value → World → Prop) : KT := fun b1 w => Kv (.bool b1) w
noncomputable def bd : Code := bdy Try.f11
theorem fn : FnOk pr 11 53 Try.f11 := ⟨Try.func11, by kernel_rfl, Try.ntmps11, by kernel_rfl, by kernel_rfl⟩
def F : Clee := ofL [(9, C.disk_New.cl), (10, C.disk_Disk_Append.cl), (12, C.disk_Disk_Read.cl), (26, C.disk_Disk_Crash.cl), (27, C.disk_Disk_Sync.cl)]
theorem FOk_ : FOk pr F := FOk_cons C.disk_New.clok (FOk_cons C.disk_Disk_Append.clok (FOk_cons C.disk_Disk_Read.clok (FOk_cons C.disk_Disk_Crash.clok (FOk_cons C.disk_Disk_Sync.clok (FOk_nil)))))
def P1 (Kv : Value → World → Prop) : Post := bodyK false pr 53 Try.f11 Kv
end tocsinlaw03_known
def tocsinlaw03_known (w : World) (K : tocsinlaw03_known.KT) : Prop :=
  C.disk_New w fun p2 w3 => G.cond p2.isNone (K false w3) (G.new (.cells #[(.int .u8 (49 : Int)), (.int .u8 (50 : Int))] 5) w3 fun p4 w5 => G.runSl pr (Go.convert 25 25 (Sl.v (⟨some p4, 2, 2⟩ : Sl))) w5 fun l6 w7 => C.disk_Disk_Append p2 (⟨#[97]⟩ : ByteArray) l6 w7 fun n8 w9 => C.disk_Disk_Sync p2 (⟨#[97]⟩ : ByteArray) w9 fun n10 w11 => G.new (.cells #[(.int .u8 (51 : Int)), (.int .u8 (52 : Int)), (.int .u8 (53 : Int))] 5) w11 fun p12 w13 => G.runSl pr (Go.convert 25 25 (Sl.v (⟨some p12, 3, 3⟩ : Sl))) w13 fun l14 w15 => C.disk_Disk_Append p2 (⟨#[97]⟩ : ByteArray) l14 w15 fun n16 w17 => G.new (.cells #[(.string (⟨#[97]⟩ : ByteArray)), (.int .i64 (1 : Int))] 72) w17 fun p18 w19 => C.disk_Disk_Crash p2 (⟨some p18, 1, 1⟩ : Sl) w19 fun n20 w21 => C.disk_Disk_Read p2 (⟨#[97]⟩ : ByteArray) w21 fun l22 n23 w24 => G.cond (n8 == (0 : Int)) (G.cond (n10 == (0 : Int)) (G.cond (n16 == (0 : Int)) (G.cond (n20 == (0 : Int)) (G.cond (n23 == (0 : Int)) (G.rdS pr (Conv.bytesToString l22.v) w24 fun s25 => K (s25.toList == (⟨#[49, 50, 51]⟩ : ByteArray).toList) w24) (K false w24)) (K false w24)) (K false w24)) (K false w24)) (K false w24))
def tocsinlaw03_known.cl : CL := fun args K w => match args with
  | [] => C.tocsinlaw03_known w (tocsinlaw03_known.Kt K)
  | _ => False
theorem tocsinlaw03_known.clok : OkC pr 11 tocsinlaw03_known.cl := by
  intro args K w h
  unfold tocsinlaw03_known.cl at h
  split at h
  · exact calls_last false mixed tocsinlaw03_known.FOk_ tocsinlaw03_known.fn rfl (Eq.mp (by kernel_rfl) h)
  · exact h.elim

/-! tocsin/tocsinref03.Name -/
namespace tocsinref03_Name
abbrev KT := Bool → World → Prop
def Kt (Kv : Value → World → Prop) : KT := fun b1 w => Kv (.bool b1) w
noncomputable def bd : Code := bdy Try.f13
theorem fn : FnOk pr 13 61 Try.f13 := ⟨Try.func13, by kernel_rfl, Try.ntmps13, by kernel_rfl, by kernel_rfl⟩
def F : Clee := ofL []
theorem FOk_ : FOk pr F := FOk_nil
def P1 (Kv : Value → World → Prop) : Post := bodyK false pr 61 Try.f13 Kv
@[reducible] def g2 : List SE := []
def S2 (K : KT) (w : World) : Prop :=
  K true w
theorem S2_ok (Kv : Value → World → Prop) : OkT pr false none 61 g2 (S2 (Kt Kv)) (s2 (tl 2 bd)) (P1 Kv) := ok_last mixed FOk_ fun v ρ w => by kernel_rfl
def P3 (Kv : Value → World → Prop) : Post := next (get g2 (S2 (Kt Kv))) (P1 Kv)
def P4 (Kv : Value → World → Prop) : Post := inBlock 0 (P3 Kv)
@[reducible] def g5 : List SE := [.v 0 .str, .v 3 (.int .i64)]
def P6 (Kv : Value → World → Prop) (kc5 : Cur g5) : Post := next (get g5 kc5) (P4 Kv)
def S7 (K : KT) (kc5 : Cur g5) (s_7 : ByteArray) (i_8 : Int) (w : World) : Prop :=
  G.cond (decide (i_8 < ((s_7.size : Nat) : Int))) (G.ixS s_7 i_8 fun n9 => G.cond (decide (n9 ≥ (97 : Int))) (G.cond (decide (n9 ≤ (122 : Int))) (kc5 s_7 (IntKind.i64.wrap (i_8 + (1 : Int))) w) (G.cond (decide (n9 ≥ (65 : Int))) (G.cond (decide (n9 ≤ (90 : Int))) (kc5 s_7 (IntKind.i64.wrap (i_8 + (1 : Int))) w) (G.cond (decide (n9 ≥ (48 : Int))) (G.cond (decide (n9 ≤ (57 : Int))) (kc5 s_7 (IntKind.i64.wrap (i_8 + (1 : Int))) w) (G.cond (n9 == (46 : Int)) (kc5 s_7 (IntKind.i64.wrap (i_8 + (1 : Int))) w) (G.cond (n9 == (95 : Int)) (kc5 s_7 (IntKind.i64.wrap (i_8 + (1 : Int))) w) (G.cond (n9 == (45 : Int)) (kc5 s_7 (IntKind.i64.wrap (i_8 + (1 : Int))) w) (G.cond (!(n9 == (47 : Int))) (K false w) (kc5 s_7 (IntKind.i64.wrap (i_8 + (1 : Int))) w)))))) (G.cond (n9 == (46 : Int)) (kc5 s_7 (IntKind.i64.wrap (i_8 + (1 : Int))) w) (G.cond (n9 == (95 : Int)) (kc5 s_7 (IntKind.i64.wrap (i_8 + (1 : Int))) w) (G.cond (n9 == (45 : Int)) (kc5 s_7 (IntKind.i64.wrap (i_8 + (1 : Int))) w) (G.cond (!(n9 == (47 : Int))) (K false w) (kc5 s_7 (IntKind.i64.wrap (i_8 + (1 : Int))) w))))))) (G.cond (decide (n9 ≥ (48 : Int))) (G.cond (decide (n9 ≤ (57 : Int))) (kc5 s_7 (IntKind.i64.wrap (i_8 + (1 : Int))) w) (G.cond (n9 == (46 : Int)) (kc5 s_7 (IntKind.i64.wrap (i_8 + (1 : Int))) w) (G.cond (n9 == (95 : Int)) (kc5 s_7 (IntKind.i64.wrap (i_8 + (1 : Int))) w) (G.cond (n9 == (45 : Int)) (kc5 s_7 (IntKind.i64.wrap (i_8 + (1 : Int))) w) (G.cond (!(n9 == (47 : Int))) (K false w) (kc5 s_7 (IntKind.i64.wrap (i_8 + (1 : Int))) w)))))) (G.cond (n9 == (46 : Int)) (kc5 s_7 (IntKind.i64.wrap (i_8 + (1 : Int))) w) (G.cond (n9 == (95 : Int)) (kc5 s_7 (IntKind.i64.wrap (i_8 + (1 : Int))) w) (G.cond (n9 == (45 : Int)) (kc5 s_7 (IntKind.i64.wrap (i_8 + (1 : Int))) w) (G.cond (!(n9 == (47 : Int))) (K false w) (kc5 s_7 (IntKind.i64.wrap (i_8 + (1 : Int))) w)))))))) (G.cond (decide (n9 ≥ (65 : Int))) (G.cond (decide (n9 ≤ (90 : Int))) (kc5 s_7 (IntKind.i64.wrap (i_8 + (1 : Int))) w) (G.cond (decide (n9 ≥ (48 : Int))) (G.cond (decide (n9 ≤ (57 : Int))) (kc5 s_7 (IntKind.i64.wrap (i_8 + (1 : Int))) w) (G.cond (n9 == (46 : Int)) (kc5 s_7 (IntKind.i64.wrap (i_8 + (1 : Int))) w) (G.cond (n9 == (95 : Int)) (kc5 s_7 (IntKind.i64.wrap (i_8 + (1 : Int))) w) (G.cond (n9 == (45 : Int)) (kc5 s_7 (IntKind.i64.wrap (i_8 + (1 : Int))) w) (G.cond (!(n9 == (47 : Int))) (K false w) (kc5 s_7 (IntKind.i64.wrap (i_8 + (1 : Int))) w)))))) (G.cond (n9 == (46 : Int)) (kc5 s_7 (IntKind.i64.wrap (i_8 + (1 : Int))) w) (G.cond (n9 == (95 : Int)) (kc5 s_7 (IntKind.i64.wrap (i_8 + (1 : Int))) w) (G.cond (n9 == (45 : Int)) (kc5 s_7 (IntKind.i64.wrap (i_8 + (1 : Int))) w) (G.cond (!(n9 == (47 : Int))) (K false w) (kc5 s_7 (IntKind.i64.wrap (i_8 + (1 : Int))) w))))))) (G.cond (decide (n9 ≥ (48 : Int))) (G.cond (decide (n9 ≤ (57 : Int))) (kc5 s_7 (IntKind.i64.wrap (i_8 + (1 : Int))) w) (G.cond (n9 == (46 : Int)) (kc5 s_7 (IntKind.i64.wrap (i_8 + (1 : Int))) w) (G.cond (n9 == (95 : Int)) (kc5 s_7 (IntKind.i64.wrap (i_8 + (1 : Int))) w) (G.cond (n9 == (45 : Int)) (kc5 s_7 (IntKind.i64.wrap (i_8 + (1 : Int))) w) (G.cond (!(n9 == (47 : Int))) (K false w) (kc5 s_7 (IntKind.i64.wrap (i_8 + (1 : Int))) w)))))) (G.cond (n9 == (46 : Int)) (kc5 s_7 (IntKind.i64.wrap (i_8 + (1 : Int))) w) (G.cond (n9 == (95 : Int)) (kc5 s_7 (IntKind.i64.wrap (i_8 + (1 : Int))) w) (G.cond (n9 == (45 : Int)) (kc5 s_7 (IntKind.i64.wrap (i_8 + (1 : Int))) w) (G.cond (!(n9 == (47 : Int))) (K false w) (kc5 s_7 (IntKind.i64.wrap (i_8 + (1 : Int))) w)))))))) (S2 K w)
theorem S7_ok (Kv : Value → World → Prop) (kc5 : Cur g5) : OkT pr false none 61 g5 (S7 (Kt Kv) kc5) (lp (blk (tl 1 (s1 (tl 2 bd))))) (P6 Kv kc5) := ok_last mixed FOk_ fun v ρ w => by kernel_rfl
def L5 (K : KT) : Cur g5 := loopC g5 (S7 K)
theorem L5_ok (Kv : Value → World → Prop) : OkT pr false none 61 g5 (L5 (Kt Kv)) (blk (tl 1 (s1 (tl 2 bd)))) (P4 Kv) := ok_loop (B := S7 (Kt Kv)) (by kernel_rfl) fun kc => S7_ok Kv kc
theorem L5_ind {K : KT} {s_3 : ByteArray} {i_4 : Int} {w : World} (h : ∀ X : Cur g5, (∀ s_3 i_4 w, S7 K X s_3 i_4 w → X s_3 i_4 w) → X s_3 i_4 w) : L5 K s_3 i_4 w := fun X hX => h X fun s_3 i_4 w hb => hX (s_3, i_4, ()) w hb
theorem B8 (Kv : Value → World → Prop) : OkT pr false none 61 g5 (L5 (Kt Kv)) (tl 1 (s1 (tl 2 bd))) (P3 Kv) := ok_block 0 (by kernel_rfl) (L5_ok Kv)
@[reducible] def g9 : List SE := [.v 0 .str]
def S9 (K : KT) (s_10 : ByteArray) (w : World) : Prop :=
  L5 K s_10 (0 : Int) w
theorem S9_ok (Kv : Value → World → Prop) : OkT pr false none 61 g9 (S9 (Kt Kv)) (s1 (tl 2 bd)) (P3 Kv) := ok_group mixed FOk_ 1 (B8 Kv) fun v ρ w => by kernel_rfl
theorem Q10 (Kv : Value → World → Prop) : OkT pr false none 61 g9 (S9 (Kt Kv)) (tl 2 bd) (P1 Kv) := ok_seq (by kernel_rfl) (S2_ok Kv) (S9_ok Kv)
end tocsinref03_Name
def tocsinref03_Name (s_2 : ByteArray) (w : World) (K : tocsinref03_Name.KT) : Prop :=
  G.cond (decide (((s_2.size : Nat) : Int) < (1 : Int))) (K false w) (G.cond (decide (((s_2.size : Nat) : Int) > (64 : Int))) (K false w) (tocsinref03_Name.S9 K s_2 w))
def tocsinref03_Name.cl : CL := fun args K w => match args with
  | [.string x0] => C.tocsinref03_Name x0 w (tocsinref03_Name.Kt K)
  | _ => False
theorem tocsinref03_Name.clok : OkC pr 13 tocsinref03_Name.cl := by
  intro args K w h
  unfold tocsinref03_Name.cl at h
  split at h
  · exact calls_group false mixed tocsinref03_Name.FOk_ tocsinref03_Name.fn rfl 2 (tocsinref03_Name.Q10 K) (Eq.mp (by kernel_rfl) h)
  · exact h.elim

/-! tocsin/tocsinref01.Same -/
namespace tocsinref01_Same
abbrev KT := Bool → World → Prop
def Kt (Kv : Value → World → Prop) : KT := fun b1 w => Kv (.bool b1) w
noncomputable def bd : Code := bdy Try.f14
theorem fn : FnOk pr 14 26 Try.f14 := ⟨Try.func14, by kernel_rfl, Try.ntmps14, by kernel_rfl, by kernel_rfl⟩
def F : Clee := ofL []
theorem FOk_ : FOk pr F := FOk_nil
def P1 (Kv : Value → World → Prop) : Post := bodyK false pr 26 Try.f14 Kv
@[reducible] def g2 : List SE := []
def S2 (K : KT) (w : World) : Prop :=
  K true w
theorem S2_ok (Kv : Value → World → Prop) : OkT pr false none 26 g2 (S2 (Kt Kv)) (s2 (tl 2 bd)) (P1 Kv) := ok_last mixed FOk_ fun v ρ w => by kernel_rfl
def P3 (Kv : Value → World → Prop) : Post := next (get g2 (S2 (Kt Kv))) (P1 Kv)
def P4 (Kv : Value → World → Prop) : Post := inBlock 0 (P3 Kv)
@[reducible] def g5 : List SE := [.v 0 .sl, .v 1 .sl, .v 5 (.int .i64)]
def P6 (Kv : Value → World → Prop) (kc5 : Cur g5) : Post := next (get g5 kc5) (P4 Kv)
def S7 (K : KT) (kc5 : Cur g5) (a_10 : Sl) (b_11 : Sl) (i_12 : Int) (w : World) : Prop :=
  G.cond (decide (i_12 < ((a_10.n : Nat) : Int))) (G.ix a_10.a a_10.n i_12 1 fun p13 => G.cI .u8 p13 w.drew fun n14 => G.ix b_11.a b_11.n i_12 1 fun p15 => G.cI .u8 p15 w.drew fun n16 => G.cond (n14 != n16) (K false w.drew) (kc5 a_10 b_11 (IntKind.i64.wrap (i_12 + (1 : Int))) w.drew)) (S2 K w)
theorem S7_ok (Kv : Value → World → Prop) (kc5 : Cur g5) : OkT pr false none 26 g5 (S7 (Kt Kv) kc5) (lp (blk (tl 1 (s1 (tl 2 bd))))) (P6 Kv kc5) := ok_last mixed FOk_ fun v ρ w => by kernel_rfl
def L5 (K : KT) : Cur g5 := loopC g5 (S7 K)
theorem L5_ok (Kv : Value → World → Prop) : OkT pr false none 26 g5 (L5 (Kt Kv)) (blk (tl 1 (s1 (tl 2 bd)))) (P4 Kv) := ok_loop (B := S7 (Kt Kv)) (by kernel_rfl) fun kc => S7_ok Kv kc
theorem L5_ind {K : KT} {a_4 : Sl} {b_5 : Sl} {i_6 : Int} {w : World} (h : ∀ X : Cur g5, (∀ a_4 b_5 i_6 w, S7 K X a_4 b_5 i_6 w → X a_4 b_5 i_6 w) → X a_4 b_5 i_6 w) : L5 K a_4 b_5 i_6 w := fun X hX => h X fun a_4 b_5 i_6 w hb => hX (a_4, b_5, i_6, ()) w hb
theorem B8 (Kv : Value → World → Prop) : OkT pr false none 26 g5 (L5 (Kt Kv)) (tl 1 (s1 (tl 2 bd))) (P3 Kv) := ok_block 0 (by kernel_rfl) (L5_ok Kv)
@[reducible] def g9 : List SE := [.v 0 .sl, .v 1 .sl]
def S9 (K : KT) (a_17 : Sl) (b_18 : Sl) (w : World) : Prop :=
  L5 K a_17 b_18 (0 : Int) w
theorem S9_ok (Kv : Value → World → Prop) : OkT pr false none 26 g9 (S9 (Kt Kv)) (s1 (tl 2 bd)) (P3 Kv) := ok_group mixed FOk_ 1 (B8 Kv) fun v ρ w => by kernel_rfl
theorem Q10 (Kv : Value → World → Prop) : OkT pr false none 26 g9 (S9 (Kt Kv)) (tl 2 bd) (P1 Kv) := ok_seq (by kernel_rfl) (S2_ok Kv) (S9_ok Kv)
end tocsinref01_Same
def tocsinref01_Same (a_2 : Sl) (b_3 : Sl) (w : World) (K : tocsinref01_Same.KT) : Prop :=
  G.cond (((a_2.n : Nat) : Int) != ((b_3.n : Nat) : Int)) (K false w) (tocsinref01_Same.S9 K a_2 b_3 w)
def tocsinref01_Same.cl : CL := fun args K w => match args with
  | [.slice x0_a x0_n x0_c, .slice x1_a x1_n x1_c] => C.tocsinref01_Same ⟨x0_a, x0_n, x0_c⟩ ⟨x1_a, x1_n, x1_c⟩ w (tocsinref01_Same.Kt K)
  | _ => False
theorem tocsinref01_Same.clok : OkC pr 14 tocsinref01_Same.cl := by
  intro args K w h
  unfold tocsinref01_Same.cl at h
  split at h
  · exact calls_group false mixed tocsinref01_Same.FOk_ tocsinref01_Same.fn rfl 2 (tocsinref01_Same.Q10 K) (Eq.mp (by kernel_rfl) h)
  · exact h.elim

/-! tocsin/tocsinlaw03.DiskAppends -/
namespace tocsinlaw03_DiskAppends
abbrev KT := Bool → World → Prop
def Kt (Kv : Value → World → Prop) : KT := fun b1 w => Kv (.bool b1) w
noncomputable def bd : Code := bdy Try.f3
theorem fn : FnOk pr 3 105 Try.f3 := ⟨Try.func3, by kernel_rfl, Try.ntmps3, by kernel_rfl, by kernel_rfl⟩
def F : Clee := ofL [(9, C.disk_New.cl), (10, C.disk_Disk_Append.cl), (11, C.tocsinlaw03_known.cl), (12, C.disk_Disk_Read.cl), (13, C.tocsinref03_Name.cl), (14, C.tocsinref01_Same.cl)]
theorem FOk_ : FOk pr F := FOk_cons C.disk_New.clok (FOk_cons C.disk_Disk_Append.clok (FOk_cons C.tocsinlaw03_known.clok (FOk_cons C.disk_Disk_Read.clok (FOk_cons C.tocsinref03_Name.clok (FOk_cons C.tocsinref01_Same.clok (FOk_nil))))))
def P1 (Kv : Value → World → Prop) : Post := bodyK false pr 105 Try.f3 Kv
@[reducible] def g2 : List SE := [.v 0 .str, .v 1 .sl, .v 5 .ptr, .v 6 .ptr, .v 7 .sl]
def S2 (K : KT) (name_16 : ByteArray) (l_17 : Sl) (a_18 : Option Addr) (b_19 : Option Addr) (all_20 : Sl) (w : World) : Prop :=
  G.cond (decide (((all_20.n : Nat) : Int) > (1048576 : Int))) (C.tocsinlaw03_known w fun b21 w22 => K b21 w22) (G.cond (((l_17.n : Nat) : Int) == (0 : Int)) (C.tocsinlaw03_known w fun b23 w24 => K b23 w24) (C.disk_Disk_Append b_19 name_16 all_20 w fun n25 w26 => C.disk_Disk_Read a_18 name_16 w26 fun l27 n28 w29 => C.disk_Disk_Read b_19 name_16 w29 fun l30 n31 w32 => C.tocsinref03_Name name_16 w32 fun b33 w34 => G.cond (!b33) (G.cond (n25 == (40 : Int)) (G.cond (n28 == (40 : Int)) (G.cond (n31 == (40 : Int)) (C.tocsinlaw03_known w34 fun b35 w36 => K b35 w36) (K false w34)) (K false w34)) (K false w34)) (G.cond (n25 == (0 : Int)) (G.cond (n28 == (0 : Int)) (G.cond (n31 == (0 : Int)) (C.tocsinref01_Same l27 l30 w34 fun b37 w38 => G.cond b37 (C.tocsinref01_Same l27 all_20 w38 fun b39 w40 => G.cond b39 (C.tocsinlaw03_known w40 fun b41 w42 => K b41 w42) (K false w40)) (K false w38)) (K false w34)) (K false w34)) (K false w34))))
theorem S2_ok (Kv : Value → World → Prop) : OkT pr false none 105 g2 (S2 (Kt Kv)) (s2 (tl 5 bd)) (P1 Kv) := ok_last mixed FOk_ fun v ρ w => by kernel_rfl
def P3 (Kv : Value → World → Prop) : Post := next (get g2 (S2 (Kt Kv))) (P1 Kv)
def P4 (Kv : Value → World → Prop) : Post := inBlock 0 (P3 Kv)
@[reducible] def g5 : List SE := [.v 0 .str, .v 1 .sl, .v 5 .ptr, .v 6 .ptr, .v 7 .sl, .v 8 (.int .i64)]
def P6 (Kv : Value → World → Prop) (kc5 : Cur g5) : Post := next (get g5 kc5) (P4 Kv)
def S7 (K : KT) (kc5 : Cur g5) (name_55 : ByteArray) (l_56 : Sl) (a_57 : Option Addr) (b_58 : Option Addr) (all_59 : Sl) (i_60 : Int) (w : World) : Prop :=
  G.cond (decide (i_60 < ((l_56.n : Nat) : Int))) (G.ix l_56.a l_56.n i_60 1 fun p61 => G.cSl p61 w fun l62 => G.runSl pr (Builtin.append_ #[25, 25] 25 #[all_59.v, l62.v]) w fun l63 w64 => G.ix l_56.a l_56.n i_60 1 fun p65 => G.cSl p65 w64 fun l66 => C.disk_Disk_Append a_57 name_55 l66 w64 fun n67 w68 => kc5 name_55 l_56 a_57 b_58 l63 (IntKind.i64.wrap (i_60 + (1 : Int))) w68) (S2 K name_55 l_56 a_57 b_58 all_59 w)
theorem S7_ok (Kv : Value → World → Prop) (kc5 : Cur g5) : OkT pr false none 105 g5 (S7 (Kt Kv) kc5) (lp (blk (tl 1 (s1 (tl 5 bd))))) (P6 Kv kc5) := ok_last mixed FOk_ fun v ρ w => by kernel_rfl
def L5 (K : KT) : Cur g5 := loopC g5 (S7 K)
theorem L5_ok (Kv : Value → World → Prop) : OkT pr false none 105 g5 (L5 (Kt Kv)) (blk (tl 1 (s1 (tl 5 bd)))) (P4 Kv) := ok_loop (B := S7 (Kt Kv)) (by kernel_rfl) fun kc => S7_ok Kv kc
theorem L5_ind {K : KT} {name_43 : ByteArray} {l_44 : Sl} {a_45 : Option Addr} {b_46 : Option Addr} {all_47 : Sl} {i_48 : Int} {w : World} (h : ∀ X : Cur g5, (∀ name_43 l_44 a_45 b_46 all_47 i_48 w, S7 K X name_43 l_44 a_45 b_46 all_47 i_48 w → X name_43 l_44 a_45 b_46 all_47 i_48 w) → X name_43 l_44 a_45 b_46 all_47 i_48 w) : L5 K name_43 l_44 a_45 b_46 all_47 i_48 w := fun X hX => h X fun name_43 l_44 a_45 b_46 all_47 i_48 w hb => hX (name_43, l_44, a_45, b_46, all_47, i_48, ()) w hb
theorem B8 (Kv : Value → World → Prop) : OkT pr false none 105 g5 (L5 (Kt Kv)) (tl 1 (s1 (tl 5 bd))) (P3 Kv) := ok_block 0 (by kernel_rfl) (L5_ok Kv)
def S9 (K : KT) (name_69 : ByteArray) (l_70 : Sl) (a_71 : Option Addr) (b_72 : Option Addr) (all_73 : Sl) (w : World) : Prop :=
  L5 K name_69 l_70 a_71 b_72 all_73 (0 : Int) w
theorem S9_ok (Kv : Value → World → Prop) : OkT pr false none 105 g2 (S9 (Kt Kv)) (s1 (tl 5 bd)) (P3 Kv) := ok_group mixed FOk_ 1 (B8 Kv) fun v ρ w => by kernel_rfl
theorem Q10 (Kv : Value → World → Prop) : OkT pr false none 105 g2 (S9 (Kt Kv)) (tl 5 bd) (P1 Kv) := ok_seq (by kernel_rfl) (S2_ok Kv) (S9_ok Kv)
end tocsinlaw03_DiskAppends
def tocsinlaw03_DiskAppends (name_2 : ByteArray) (l_3 : Sl) (w : World) (K : tocsinlaw03_DiskAppends.KT) : Prop :=
  C.disk_New w fun p74 w75 => C.disk_New w75 fun p76 w77 => G.cond p74.isNone (K false w77) (G.cond p76.isNone (K false w77) (tocsinlaw03_DiskAppends.S9 K name_2 l_3 p74 p76 nilS w77))
def tocsinlaw03_DiskAppends.cl : CL := fun args K w => match args with
  | [.string x0, .slice x1_a x1_n x1_c] => C.tocsinlaw03_DiskAppends x0 ⟨x1_a, x1_n, x1_c⟩ w (tocsinlaw03_DiskAppends.Kt K)
  | _ => False
theorem tocsinlaw03_DiskAppends.clok : OkC pr 3 tocsinlaw03_DiskAppends.cl := by
  intro args K w h
  unfold tocsinlaw03_DiskAppends.cl at h
  split at h
  · exact calls_group false mixed tocsinlaw03_DiskAppends.FOk_ tocsinlaw03_DiskAppends.fn rfl 5 (tocsinlaw03_DiskAppends.Q10 K) (Eq.mp (by kernel_rfl) h)
  · exact h.elim

/-! tocsin/tocsinref01.Count -/
namespace tocsinref01_Count
abbrev KT := Int → World → Prop
def Kt (Kv : Value → World → Prop) : KT := fun n1 w => Kv (.int .i64 n1) w
noncomputable def bd : Code := bdy Try.f15
theorem fn : FnOk pr 15 14 Try.f15 := ⟨Try.func15, by kernel_rfl, Try.ntmps15, by kernel_rfl, by kernel_rfl⟩
def F : Clee := ofL []
theorem FOk_ : FOk pr F := FOk_nil
def P1 (Kv : Value → World → Prop) : Post := bodyK false pr 14 Try.f15 Kv
end tocsinref01_Count
def tocsinref01_Count (n_2 : Int) (most_3 : Int) (w : World) (K : tocsinref01_Count.KT) : Prop :=
  G.nz most_3 <| G.cond (decide ((Int.tmod n_2 most_3) < (0 : Int))) (K (IntKind.i64.wrap ((Int.tmod n_2 most_3) + most_3)) w) (K (Int.tmod n_2 most_3) w)
def tocsinref01_Count.cl : CL := fun args K w => match args with
  | [.int .i64 x0, .int .i64 x1] => C.tocsinref01_Count x0 x1 w (tocsinref01_Count.Kt K)
  | _ => False
theorem tocsinref01_Count.clok : OkC pr 15 tocsinref01_Count.cl := by
  intro args K w h
  unfold tocsinref01_Count.cl at h
  split at h
  · exact calls_last false mixed tocsinref01_Count.FOk_ tocsinref01_Count.fn rfl (Eq.mp (by kernel_rfl) h)
  · exact h.elim

/-! (*tocsin/tocsinref03.Disk).At -/
namespace tocsinref03_Disk_At
abbrev KT := Int → World → Prop
def Kt (Kv : Value → World → Prop) : KT := fun n1 w => Kv (.int .i64 n1) w
noncomputable def bd : Code := bdy Try.f33
theorem fn : FnOk pr 33 26 Try.f33 := ⟨Try.func33, by kernel_rfl, Try.ntmps33, by kernel_rfl, by kernel_rfl⟩
def F : Clee := ofL []
theorem FOk_ : FOk pr F := FOk_nil
def P1 (Kv : Value → World → Prop) : Post := bodyK false pr 26 Try.f33 Kv
@[reducible] def g2 : List SE := []
def S2 (K : KT) (w : World) : Prop :=
  K (-1 : Int) w
theorem S2_ok (Kv : Value → World → Prop) : OkT pr false none 26 g2 (S2 (Kt Kv)) (s2 (tl 1 bd)) (P1 Kv) := ok_last mixed FOk_ fun v ρ w => by kernel_rfl
def P3 (Kv : Value → World → Prop) : Post := next (get g2 (S2 (Kt Kv))) (P1 Kv)
def P4 (Kv : Value → World → Prop) : Post := inBlock 0 (P3 Kv)
@[reducible] def g5 : List SE := [.v 0 .ptr, .v 1 .str, .v 5 (.int .i64)]
def P6 (Kv : Value → World → Prop) (kc5 : Cur g5) : Post := next (get g5 kc5) (P4 Kv)
def S7 (K : KT) (kc5 : Cur g5) (d_10 : Option Addr) (name_11 : ByteArray) (i_12 : Int) (w : World) : Prop :=
  G.ptr d_10 fun p13 => G.cSl p13 w fun l14 => G.cond (decide (i_12 < ((l14.n : Nat) : Int))) (G.ptr d_10 fun p15 => G.cSl p15 w fun l16 => G.ix l16.a l16.n i_12 3 fun p17 => G.cS p17 w fun s18 => G.cond (s18.toList == name_11.toList) (K i_12 w) (kc5 d_10 name_11 (IntKind.i64.wrap (i_12 + (1 : Int))) w)) (S2 K w)
theorem S7_ok (Kv : Value → World → Prop) (kc5 : Cur g5) : OkT pr false none 26 g5 (S7 (Kt Kv) kc5) (lp (blk (tl 1 (s1 (tl 1 bd))))) (P6 Kv kc5) := ok_last mixed FOk_ fun v ρ w => by kernel_rfl
def L5 (K : KT) : Cur g5 := loopC g5 (S7 K)
theorem L5_ok (Kv : Value → World → Prop) : OkT pr false none 26 g5 (L5 (Kt Kv)) (blk (tl 1 (s1 (tl 1 bd)))) (P4 Kv) := ok_loop (B := S7 (Kt Kv)) (by kernel_rfl) fun kc => S7_ok Kv kc
theorem L5_ind {K : KT} {d_4 : Option Addr} {name_5 : ByteArray} {i_6 : Int} {w : World} (h : ∀ X : Cur g5, (∀ d_4 name_5 i_6 w, S7 K X d_4 name_5 i_6 w → X d_4 name_5 i_6 w) → X d_4 name_5 i_6 w) : L5 K d_4 name_5 i_6 w := fun X hX => h X fun d_4 name_5 i_6 w hb => hX (d_4, name_5, i_6, ()) w hb
theorem B8 (Kv : Value → World → Prop) : OkT pr false none 26 g5 (L5 (Kt Kv)) (tl 1 (s1 (tl 1 bd))) (P3 Kv) := ok_block 0 (by kernel_rfl) (L5_ok Kv)
@[reducible] def g9 : List SE := [.v 0 .ptr, .v 1 .str]
def S9 (K : KT) (d_19 : Option Addr) (name_20 : ByteArray) (w : World) : Prop :=
  L5 K d_19 name_20 (0 : Int) w
theorem S9_ok (Kv : Value → World → Prop) : OkT pr false none 26 g9 (S9 (Kt Kv)) (s1 (tl 1 bd)) (P3 Kv) := ok_group mixed FOk_ 1 (B8 Kv) fun v ρ w => by kernel_rfl
theorem Q10 (Kv : Value → World → Prop) : OkT pr false none 26 g9 (S9 (Kt Kv)) (tl 1 bd) (P1 Kv) := ok_seq (by kernel_rfl) (S2_ok Kv) (S9_ok Kv)
end tocsinref03_Disk_At
def tocsinref03_Disk_At (d_2 : Option Addr) (name_3 : ByteArray) (w : World) (K : tocsinref03_Disk_At.KT) : Prop :=
  tocsinref03_Disk_At.S9 K d_2 name_3 w
def tocsinref03_Disk_At.cl : CL := fun args K w => match args with
  | [.pointer x0, .string x1] => C.tocsinref03_Disk_At x0 x1 w (tocsinref03_Disk_At.Kt K)
  | _ => False
theorem tocsinref03_Disk_At.clok : OkC pr 33 tocsinref03_Disk_At.cl := by
  intro args K w h
  unfold tocsinref03_Disk_At.cl at h
  split at h
  · exact calls_group false mixed tocsinref03_Disk_At.FOk_ tocsinref03_Disk_At.fn rfl 1 (tocsinref03_Disk_At.Q10 K) (Eq.mp (by kernel_rfl) h)
  · exact h.elim

/-! (*tocsin/tocsinref03.Disk).put -/
namespace tocsinref03_Disk_put
abbrev KT := World → Prop
def Kt (Kv : Value → World → Prop) : KT := fun  w => Kv (.tuple #[]) w
noncomputable def bd : Code := bdy Try.f34
theorem fn : FnOk pr 34 53 Try.f34 := ⟨Try.func34, by kernel_rfl, Try.ntmps34, by kernel_rfl, by kernel_rfl⟩
def F : Clee := ofL []
theorem FOk_ : FOk pr F := FOk_nil
def P1 (Kv : Value → World → Prop) : Post := bodyK false pr 53 Try.f34 Kv
@[reducible] def g2 : List SE := [.v 0 .ptr, .v 3 .ptr, .v 4 (.int .i64)]
def S2 (K : KT) (d_5 : Option Addr) (f_6 : Option Addr) (k_7 : Int) (w : World) : Prop :=
  G.ptr d_5 fun p8 => G.cSl p8 w fun l9 => G.slc l9 0 k_7 3 fun l10 => G.runSl pr (Builtin.append_ #[35, 35] 35 #[nilS.v, l10.v]) w fun l11 w12 => G.ptr f_6 fun p13 => G.cS p13 w12 fun s14 => G.cSl (p13.add 1) w12 fun l15 => G.cI .i64 (p13.add 2) w12 fun n16 => G.new (.cells #[(.string s14), l15.v, (.int .i64 n16)] 51) w12 fun p17 w18 => G.runSl pr (Builtin.append_ #[35, 35] 35 #[l11.v, (Sl.v (⟨some p17, 1, 1⟩ : Sl))]) w18 fun l19 w20 => G.ptr d_5 fun p21 => G.cSl p21 w20 fun l22 => G.slc l22 k_7 ((l22.n : Nat) : Int) 3 fun l23 => G.runSl pr (Builtin.append_ #[35, 35] 35 #[l19.v, l23.v]) w20 fun l24 w25 => G.ptr d_5 fun p26 => G.st p26 l24.v w25 fun w27 => K w27
theorem S2_ok (Kv : Value → World → Prop) : OkT pr false none 53 g2 (S2 (Kt Kv)) (s2 (tl 2 bd)) (P1 Kv) := ok_last mixed FOk_ fun v ρ w => by kernel_rfl
def P3 (Kv : Value → World → Prop) : Post := next (get g2 (S2 (Kt Kv))) (P1 Kv)
def P4 (Kv : Value → World → Prop) : Post := inBlock 0 (P3 Kv)
def P6 (Kv : Value → World → Prop) (kc5 : Cur g2) : Post := next (get g2 kc5) (P4 Kv)
def S7 (K : KT) (kc5 : Cur g2) (d_31 : Option Addr) (f_32 : Option Addr) (k_33 : Int) (w : World) : Prop :=
  G.cond (decide (k_33 > (0 : Int))) (G.ptr d_31 fun p34 => G.cSl p34 w.drew fun l35 => G.ix l35.a l35.n (IntKind.i64.wrap (k_33 - (1 : Int))) 3 fun p36 => G.cS p36 w.drew fun s37 => G.ptr f_32 fun p38 => G.cS p38 w.drew fun s39 => G.cond (!((Op.bytesLess s37.toList s39.toList) || (s37.toList == s39.toList))) (kc5 d_31 f_32 (IntKind.i64.wrap (k_33 - (1 : Int))) w.drew) (S2 K d_31 f_32 k_33 w.drew)) (S2 K d_31 f_32 k_33 w.drew)
theorem S7_ok (Kv : Value → World → Prop) (kc5 : Cur g2) : OkT pr false none 53 g2 (S7 (Kt Kv) kc5) (lp (blk (s1 (tl 2 bd)))) (P6 Kv kc5) := ok_last mixed FOk_ fun v ρ w => by kernel_rfl
def L5 (K : KT) : Cur g2 := loopC g2 (S7 K)
theorem L5_ok (Kv : Value → World → Prop) : OkT pr false none 53 g2 (L5 (Kt Kv)) (blk (s1 (tl 2 bd))) (P4 Kv) := ok_loop (B := S7 (Kt Kv)) (by kernel_rfl) fun kc => S7_ok Kv kc
theorem L5_ind {K : KT} {d_28 : Option Addr} {f_29 : Option Addr} {k_30 : Int} {w : World} (h : ∀ X : Cur g2, (∀ d_28 f_29 k_30 w, S7 K X d_28 f_29 k_30 w → X d_28 f_29 k_30 w) → X d_28 f_29 k_30 w) : L5 K d_28 f_29 k_30 w := fun X hX => h X fun d_28 f_29 k_30 w hb => hX (d_28, f_29, k_30, ()) w hb
theorem B8 (Kv : Value → World → Prop) : OkT pr false none 53 g2 (L5 (Kt Kv)) (s1 (tl 2 bd)) (P3 Kv) := ok_block 0 (by kernel_rfl) (L5_ok Kv)
theorem Q9 (Kv : Value → World → Prop) : OkT pr false none 53 g2 (L5 (Kt Kv)) (tl 2 bd) (P1 Kv) := ok_seq (by kernel_rfl) (S2_ok Kv) (B8 Kv)
end tocsinref03_Disk_put
def tocsinref03_Disk_put (d_1 : Option Addr) (f_2 : ByteArray) (f_3 : Sl) (f_4 : Int) (w : World) (K : tocsinref03_Disk_put.KT) : Prop :=
  G.new (.cells #[(.string f_2), f_3.v, (.int .i64 f_4)] 51) w fun p40 w41 => G.ptr d_1 fun p42 => G.cSl p42 w41 fun l43 => tocsinref03_Disk_put.L5 K d_1 (some p40) ((l43.n : Nat) : Int) w41
def tocsinref03_Disk_put.cl : CL := fun args K w => match args with
  | [.pointer x0, .agg ⟨[.string x1_0, .slice x1_1_a x1_1_n x1_1_c, .int .i64 x1_2]⟩] => C.tocsinref03_Disk_put x0 x1_0 ⟨x1_1_a, x1_1_n, x1_1_c⟩ x1_2 w (tocsinref03_Disk_put.Kt K)
  | _ => False
theorem tocsinref03_Disk_put.clok : OkC pr 34 tocsinref03_Disk_put.cl := by
  intro args K w h
  unfold tocsinref03_Disk_put.cl at h
  split at h
  · exact calls_group false mixed tocsinref03_Disk_put.FOk_ tocsinref03_Disk_put.fn rfl 2 (tocsinref03_Disk_put.Q9 K) (Eq.mp (by kernel_rfl) h)
  · exact h.elim

/-! (*tocsin/tocsinref03.Disk).Append -/
namespace tocsinref03_Disk_Append
abbrev KT := Int → World → Prop
def Kt (Kv : Value → World → Prop) : KT := fun n1 w => Kv (.int .i64 n1) w
noncomputable def bd : Code := bdy Try.f16
theorem fn : FnOk pr 16 72 Try.f16 := ⟨Try.func16, by kernel_rfl, Try.ntmps16, by kernel_rfl, by kernel_rfl⟩
def F : Clee := ofL [(13, C.tocsinref03_Name.cl), (33, C.tocsinref03_Disk_At.cl), (34, C.tocsinref03_Disk_put.cl)]
theorem FOk_ : FOk pr F := FOk_cons C.tocsinref03_Name.clok (FOk_cons C.tocsinref03_Disk_At.clok (FOk_cons C.tocsinref03_Disk_put.clok (FOk_nil)))
def P1 (Kv : Value → World → Prop) : Post := bodyK false pr 72 Try.f16 Kv
@[reducible] def g2 : List SE := [.v 0 .ptr, .v 2 .sl, .v 7 (.int .i64)]
def S2 (K : KT) (d_25 : Option Addr) (b_26 : Sl) (k_27 : Int) (w : World) : Prop :=
  G.ptr d_25 fun p28 => G.cSl p28 w fun l29 => G.ix l29.a l29.n k_27 3 fun p30 => G.cSl (p30.add 1) w fun l31 => G.runSl pr (Builtin.append_ #[25, 25] 25 #[nilS.v, l31.v]) w fun l32 w33 => G.runSl pr (Builtin.append_ #[25, 25] 25 #[l32.v, b_26.v]) w33 fun l34 w35 => G.ptr d_25 fun p36 => G.cSl p36 w35 fun l37 => G.ix l37.a l37.n k_27 3 fun p38 => G.st (p38.add 1) l34.v w35 fun w39 => K (0 : Int) w39
theorem S2_ok (Kv : Value → World → Prop) : OkT pr false none 72 g2 (S2 (Kt Kv)) (tl 2 (tl 2 (tl 4 bd))) (P1 Kv) := ok_last mixed FOk_ fun v ρ w => by kernel_rfl
@[reducible] def g3 : List SE := [.v 0 .ptr, .v 1 .str, .v 2 .sl, .v 7 (.int .i64), .v 8 (.int .i64)]
def S3 (K : KT) (d_40 : Option Addr) (name_41 : ByteArray) (b_42 : Sl) (k_43 : Int) (n_44 : Int) (w : World) : Prop :=
  G.cond (decide (((b_42.n : Nat) : Int) > (IntKind.i64.wrap ((1048576 : Int) - n_44)))) (K (4 : Int) w) (G.cond (decide (k_43 < (0 : Int))) (C.tocsinref03_Disk_put d_40 name_41 nilS (0 : Int) w fun w45 => C.tocsinref03_Disk_At d_40 name_41 w45 fun n46 w47 => S2 K d_40 b_42 n46 w47) (S2 K d_40 b_42 k_43 w))
theorem S3_ok (Kv : Value → World → Prop) : OkT pr false none 72 g3 (S3 (Kt Kv)) (tl 2 (tl 4 bd)) (P1 Kv) := ok_group mixed FOk_ 2 (S2_ok Kv) fun v ρ w => by kernel_rfl
@[reducible] def g4 : List SE := [.v 0 .ptr, .v 1 .str, .v 2 .sl, .v 7 (.int .i64)]
def S4 (K : KT) (d_48 : Option Addr) (name_49 : ByteArray) (b_50 : Sl) (k_51 : Int) (w : World) : Prop :=
  G.cond (decide (k_51 ≥ (0 : Int))) (G.ptr d_48 fun p52 => G.cSl p52 w fun l53 => G.ix l53.a l53.n k_51 3 fun p54 => G.cSl (p54.add 1) w fun l55 => S3 K d_48 name_49 b_50 k_51 ((l55.n : Nat) : Int) w) (S3 K d_48 name_49 b_50 k_51 (0 : Int) w)
theorem S4_ok (Kv : Value → World → Prop) : OkT pr false none 72 g4 (S4 (Kt Kv)) (tl 4 bd) (P1 Kv) := ok_group mixed FOk_ 2 (S3_ok Kv) fun v ρ w => by kernel_rfl
end tocsinref03_Disk_Append
def tocsinref03_Disk_Append (d_2 : Option Addr) (name_3 : ByteArray) (b_4 : Sl) (w : World) (K : tocsinref03_Disk_Append.KT) : Prop :=
  C.tocsinref03_Name name_3 w fun b56 w57 => G.cond (!b56) (K (40 : Int) w57) (C.tocsinref03_Disk_At d_2 name_3 w57 fun n58 w59 => G.cond (decide (n58 < (0 : Int))) (G.ptr d_2 fun p60 => G.cSl p60 w59 fun l61 => G.cond (decide (((l61.n : Nat) : Int) ≥ (256 : Int))) (K (8 : Int) w59) (tocsinref03_Disk_Append.S4 K d_2 name_3 b_4 n58 w59)) (tocsinref03_Disk_Append.S4 K d_2 name_3 b_4 n58 w59))
def tocsinref03_Disk_Append.cl : CL := fun args K w => match args with
  | [.pointer x0, .string x1, .slice x2_a x2_n x2_c] => C.tocsinref03_Disk_Append x0 x1 ⟨x2_a, x2_n, x2_c⟩ w (tocsinref03_Disk_Append.Kt K)
  | _ => False
theorem tocsinref03_Disk_Append.clok : OkC pr 16 tocsinref03_Disk_Append.cl := by
  intro args K w h
  unfold tocsinref03_Disk_Append.cl at h
  split at h
  · exact calls_group false mixed tocsinref03_Disk_Append.FOk_ tocsinref03_Disk_Append.fn rfl 4 (tocsinref03_Disk_Append.S4_ok K) (Eq.mp (by kernel_rfl) h)
  · exact h.elim

/-! tocsin/tocsinlaw03.DiskFull -/
namespace tocsinlaw03_DiskFull
abbrev KT := Bool → World → Prop
def Kt (Kv : Value → World → Prop) : KT := fun b1 w => Kv (.bool b1) w
noncomputable def bd : Code := bdy Try.f4
theorem fn : FnOk pr 4 65 Try.f4 := ⟨Try.func4, by kernel_rfl, Try.ntmps4, by kernel_rfl, by kernel_rfl⟩
def F : Clee := ofL [(9, C.disk_New.cl), (10, C.disk_Disk_Append.cl), (11, C.tocsinlaw03_known.cl), (15, C.tocsinref01_Count.cl), (16, C.tocsinref03_Disk_Append.cl), (17, C.disk_Disk_List.cl)]
theorem FOk_ : FOk pr F := FOk_cons C.disk_New.clok (FOk_cons C.disk_Disk_Append.clok (FOk_cons C.tocsinlaw03_known.clok (FOk_cons C.tocsinref01_Count.clok (FOk_cons C.tocsinref03_Disk_Append.clok (FOk_cons C.disk_Disk_List.clok (FOk_nil))))))
def P1 (Kv : Value → World → Prop) : Post := bodyK false pr 65 Try.f4 Kv
@[reducible] def g2 : List SE := [.v 1 .str, .v 5 .ptr, .v 6 .ptr]
def S2 (K : KT) (name_6 : ByteArray) (d_7 : Option Addr) (r_8 : Option Addr) (w : World) : Prop :=
  (G.new (.cells #[(.int .u8 (120 : Int))] 5) w.drew fun p9 w10 => (G.runSl pr (Go.convert 25 25 (Sl.v (⟨some p9, 1, 1⟩ : Sl))) w10 fun l11 w12 => (C.disk_Disk_Append d_7 name_6 l11 w12 fun n13 w14 => G.new (.cells #[(.int .u8 (120 : Int))] 5) w14 fun p15 w16 => G.runSl pr (Go.convert 25 25 (Sl.v (⟨some p15, 1, 1⟩ : Sl))) w16 fun l17 w18 => C.tocsinref03_Disk_Append r_8 name_6 l17 w18 fun n19 w20 => G.cond (n13 == n19) (G.ptr r_8 fun p21 => G.cSl p21 w20 fun l22 => C.disk_Disk_List d_7 w20 fun l23 w24 => sameAt p21 1 w20 w24 ∧ (G.cond (((l23.n : Nat) : Int) == ((l22.n : Nat) : Int)) (C.tocsinlaw03_known w24 fun b25 w26 => K b25 w26) (K false w24))) (K false w20)) ∧ (G.new (.cells #[(.int .u8 (120 : Int))] 5) w12 fun p27 w28 => (C.disk_Disk_Append d_7 name_6 l11 w28 fun n29 w30 => G.runSl pr (Go.convert 25 25 (Sl.v (⟨some p27, 1, 1⟩ : Sl))) w30 fun l31 w32 => C.tocsinref03_Disk_Append r_8 name_6 l31 w32 fun n33 w34 => G.cond (n29 == n33) (G.ptr r_8 fun p35 => G.cSl p35 w34 fun l36 => C.disk_Disk_List d_7 w34 fun l37 w38 => sameAt p35 1 w34 w38 ∧ (G.cond (((l37.n : Nat) : Int) == ((l36.n : Nat) : Int)) (C.tocsinlaw03_known w38 fun b39 w40 => K b39 w40) (K false w38))) (K false w34)) ∧ (G.runSl pr (Go.convert 25 25 (Sl.v (⟨some p27, 1, 1⟩ : Sl))) w28 fun l41 w42 => C.disk_Disk_Append d_7 name_6 l11 w42 fun n43 w44 => C.tocsinref03_Disk_Append r_8 name_6 l41 w44 fun n45 w46 => G.cond (n43 == n45) (G.ptr r_8 fun p47 => G.cSl p47 w46 fun l48 => C.disk_Disk_List d_7 w46 fun l49 w50 => sameAt p47 1 w46 w50 ∧ (G.cond (((l49.n : Nat) : Int) == ((l48.n : Nat) : Int)) (C.tocsinlaw03_known w50 fun b51 w52 => K b51 w52) (K false w50))) (K false w46)))) ∧ (G.new (.cells #[(.int .u8 (120 : Int))] 5) w10 fun p53 w54 => (G.runSl pr (Go.convert 25 25 (Sl.v (⟨some p9, 1, 1⟩ : Sl))) w54 fun l55 w56 => (C.disk_Disk_Append d_7 name_6 l55 w56 fun n57 w58 => G.runSl pr (Go.convert 25 25 (Sl.v (⟨some p53, 1, 1⟩ : Sl))) w58 fun l59 w60 => C.tocsinref03_Disk_Append r_8 name_6 l59 w60 fun n61 w62 => G.cond (n57 == n61) (G.ptr r_8 fun p63 => G.cSl p63 w62 fun l64 => C.disk_Disk_List d_7 w62 fun l65 w66 => sameAt p63 1 w62 w66 ∧ (G.cond (((l65.n : Nat) : Int) == ((l64.n : Nat) : Int)) (C.tocsinlaw03_known w66 fun b67 w68 => K b67 w68) (K false w66))) (K false w62)) ∧ (G.runSl pr (Go.convert 25 25 (Sl.v (⟨some p53, 1, 1⟩ : Sl))) w56 fun l69 w70 => C.disk_Disk_Append d_7 name_6 l55 w70 fun n71 w72 => C.tocsinref03_Disk_Append r_8 name_6 l69 w72 fun n73 w74 => G.cond (n71 == n73) (G.ptr r_8 fun p75 => G.cSl p75 w74 fun l76 => C.disk_Disk_List d_7 w74 fun l77 w78 => sameAt p75 1 w74 w78 ∧ (G.cond (((l77.n : Nat) : Int) == ((l76.n : Nat) : Int)) (C.tocsinlaw03_known w78 fun b79 w80 => K b79 w80) (K false w78))) (K false w74))) ∧ (G.runSl pr (Go.convert 25 25 (Sl.v (⟨some p53, 1, 1⟩ : Sl))) w54 fun l81 w82 => G.runSl pr (Go.convert 25 25 (Sl.v (⟨some p9, 1, 1⟩ : Sl))) w82 fun l83 w84 => C.disk_Disk_Append d_7 name_6 l83 w84 fun n85 w86 => C.tocsinref03_Disk_Append r_8 name_6 l81 w86 fun n87 w88 => G.cond (n85 == n87) (G.ptr r_8 fun p89 => G.cSl p89 w88 fun l90 => C.disk_Disk_List d_7 w88 fun l91 w92 => sameAt p89 1 w88 w92 ∧ (G.cond (((l91.n : Nat) : Int) == ((l90.n : Nat) : Int)) (C.tocsinlaw03_known w92 fun b93 w94 => K b93 w94) (K false w92))) (K false w88)))) ∧ (G.new (.cells #[(.int .u8 (120 : Int))] 5) w.drew fun p95 w96 => (G.new (.cells #[(.int .u8 (120 : Int))] 5) w96 fun p97 w98 => (G.runSl pr (Go.convert 25 25 (Sl.v (⟨some p97, 1, 1⟩ : Sl))) w98 fun l99 w100 => (C.disk_Disk_Append d_7 name_6 l99 w100 fun n101 w102 => G.runSl pr (Go.convert 25 25 (Sl.v (⟨some p95, 1, 1⟩ : Sl))) w102 fun l103 w104 => C.tocsinref03_Disk_Append r_8 name_6 l103 w104 fun n105 w106 => G.cond (n101 == n105) (G.ptr r_8 fun p107 => G.cSl p107 w106 fun l108 => C.disk_Disk_List d_7 w106 fun l109 w110 => sameAt p107 1 w106 w110 ∧ (G.cond (((l109.n : Nat) : Int) == ((l108.n : Nat) : Int)) (C.tocsinlaw03_known w110 fun b111 w112 => K b111 w112) (K false w110))) (K false w106)) ∧ (G.runSl pr (Go.convert 25 25 (Sl.v (⟨some p95, 1, 1⟩ : Sl))) w100 fun l113 w114 => C.disk_Disk_Append d_7 name_6 l99 w114 fun n115 w116 => C.tocsinref03_Disk_Append r_8 name_6 l113 w116 fun n117 w118 => G.cond (n115 == n117) (G.ptr r_8 fun p119 => G.cSl p119 w118 fun l120 => C.disk_Disk_List d_7 w118 fun l121 w122 => sameAt p119 1 w118 w122 ∧ (G.cond (((l121.n : Nat) : Int) == ((l120.n : Nat) : Int)) (C.tocsinlaw03_known w122 fun b123 w124 => K b123 w124) (K false w122))) (K false w118))) ∧ (G.runSl pr (Go.convert 25 25 (Sl.v (⟨some p95, 1, 1⟩ : Sl))) w98 fun l125 w126 => G.runSl pr (Go.convert 25 25 (Sl.v (⟨some p97, 1, 1⟩ : Sl))) w126 fun l127 w128 => C.disk_Disk_Append d_7 name_6 l127 w128 fun n129 w130 => C.tocsinref03_Disk_Append r_8 name_6 l125 w130 fun n131 w132 => G.cond (n129 == n131) (G.ptr r_8 fun p133 => G.cSl p133 w132 fun l134 => C.disk_Disk_List d_7 w132 fun l135 w136 => sameAt p133 1 w132 w136 ∧ (G.cond (((l135.n : Nat) : Int) == ((l134.n : Nat) : Int)) (C.tocsinlaw03_known w136 fun b137 w138 => K b137 w138) (K false w136))) (K false w132))) ∧ (G.runSl pr (Go.convert 25 25 (Sl.v (⟨some p95, 1, 1⟩ : Sl))) w96 fun l139 w140 => G.new (.cells #[(.int .u8 (120 : Int))] 5) w140 fun p141 w142 => G.runSl pr (Go.convert 25 25 (Sl.v (⟨some p141, 1, 1⟩ : Sl))) w142 fun l143 w144 => C.disk_Disk_Append d_7 name_6 l143 w144 fun n145 w146 => C.tocsinref03_Disk_Append r_8 name_6 l139 w146 fun n147 w148 => G.cond (n145 == n147) (G.ptr r_8 fun p149 => G.cSl p149 w148 fun l150 => C.disk_Disk_List d_7 w148 fun l151 w152 => sameAt p149 1 w148 w152 ∧ (G.cond (((l151.n : Nat) : Int) == ((l150.n : Nat) : Int)) (C.tocsinlaw03_known w152 fun b153 w154 => K b153 w154) (K false w152))) (K false w148)))
theorem S2_ok (Kv : Value → World → Prop) : OkT pr false none 65 g2 (S2 (Kt Kv)) (s2 (tl 5 bd)) (P1 Kv) := ok_last mixed FOk_ fun v ρ w => by kernel_rfl
def P3 (Kv : Value → World → Prop) : Post := next (get g2 (S2 (Kt Kv))) (P1 Kv)
def P4 (Kv : Value → World → Prop) : Post := inBlock 0 (P3 Kv)
@[reducible] def g5 : List SE := [.v 0 (.int .i64), .v 1 .str, .v 5 .ptr, .v 6 .ptr, .v 7 (.int .i64)]
def P6 (Kv : Value → World → Prop) (kc5 : Cur g5) : Post := next (get g5 kc5) (P4 Kv)
def S7 (K : KT) (kc5 : Cur g5) (n_165 : Int) (name_166 : ByteArray) (d_167 : Option Addr) (r_168 : Option Addr) (i_169 : Int) (w : World) : Prop :=
  G.cond (decide (i_169 < n_165)) (G.nz (16 : Int) <| G.nz (16 : Int) <| G.new (.cells #[(.int .u8 (IntKind.u8.wrap (IntKind.i64.wrap ((97 : Int) + (IntKind.i64.wrap (Int.tdiv i_169 (16 : Int))))))), (.int .u8 (IntKind.u8.wrap (IntKind.i64.wrap ((97 : Int) + (Int.tmod i_169 (16 : Int))))))] 5) w fun p170 w171 => G.rdS pr (Conv.bytesToString (Sl.v (⟨some p170, 2, 2⟩ : Sl))) w171 fun s172 => G.cat (⟨#[102]⟩ : ByteArray) s172 fun s173 => C.disk_Disk_Append d_167 s173 nilS w171 fun n174 w175 => C.tocsinref03_Disk_Append r_168 s173 nilS w175 fun n176 w177 => G.cond (n174 != n176) (K false w177) (kc5 n_165 name_166 d_167 r_168 (IntKind.i64.wrap (i_169 + (1 : Int))) w177)) (S2 K name_166 d_167 r_168 w)
theorem S7_ok (Kv : Value → World → Prop) (kc5 : Cur g5) : OkT pr false none 65 g5 (S7 (Kt Kv) kc5) (lp (blk (tl 1 (s1 (tl 5 bd))))) (P6 Kv kc5) := ok_last mixed FOk_ fun v ρ w => by kernel_rfl
def L5 (K : KT) : Cur g5 := loopC g5 (S7 K)
theorem L5_ok (Kv : Value → World → Prop) : OkT pr false none 65 g5 (L5 (Kt Kv)) (blk (tl 1 (s1 (tl 5 bd)))) (P4 Kv) := ok_loop (B := S7 (Kt Kv)) (by kernel_rfl) fun kc => S7_ok Kv kc
theorem L5_ind {K : KT} {n_155 : Int} {name_156 : ByteArray} {d_157 : Option Addr} {r_158 : Option Addr} {i_159 : Int} {w : World} (h : ∀ X : Cur g5, (∀ n_155 name_156 d_157 r_158 i_159 w, S7 K X n_155 name_156 d_157 r_158 i_159 w → X n_155 name_156 d_157 r_158 i_159 w) → X n_155 name_156 d_157 r_158 i_159 w) : L5 K n_155 name_156 d_157 r_158 i_159 w := fun X hX => h X fun n_155 name_156 d_157 r_158 i_159 w hb => hX (n_155, name_156, d_157, r_158, i_159, ()) w hb
theorem B8 (Kv : Value → World → Prop) : OkT pr false none 65 g5 (L5 (Kt Kv)) (tl 1 (s1 (tl 5 bd))) (P3 Kv) := ok_block 0 (by kernel_rfl) (L5_ok Kv)
@[reducible] def g9 : List SE := [.v 0 (.int .i64), .v 1 .str, .v 5 .ptr, .v 6 .ptr]
def S9 (K : KT) (n_178 : Int) (name_179 : ByteArray) (d_180 : Option Addr) (r_181 : Option Addr) (w : World) : Prop :=
  L5 K n_178 name_179 d_180 r_181 (0 : Int) w
theorem S9_ok (Kv : Value → World → Prop) : OkT pr false none 65 g9 (S9 (Kt Kv)) (s1 (tl 5 bd)) (P3 Kv) := ok_group mixed FOk_ 1 (B8 Kv) fun v ρ w => by kernel_rfl
theorem Q10 (Kv : Value → World → Prop) : OkT pr false none 65 g9 (S9 (Kt Kv)) (tl 5 bd) (P1 Kv) := ok_seq (by kernel_rfl) (S2_ok Kv) (S9_ok Kv)
end tocsinlaw03_DiskFull
def tocsinlaw03_DiskFull (n_2 : Int) (name_3 : ByteArray) (w : World) (K : tocsinlaw03_DiskFull.KT) : Prop :=
  C.disk_New w fun p182 w183 => G.cond p182.isNone (K false w183) (G.new (.cells #[nilS.v] 37) w183 fun p184 w185 => C.tocsinref01_Count n_2 (10 : Int) w185 fun n186 w187 => tocsinlaw03_DiskFull.S9 K (IntKind.i64.wrap ((250 : Int) + n186)) name_3 p182 (some p184) w187)
def tocsinlaw03_DiskFull.cl : CL := fun args K w => match args with
  | [.int .i64 x0, .string x1] => C.tocsinlaw03_DiskFull x0 x1 w (tocsinlaw03_DiskFull.Kt K)
  | _ => False
theorem tocsinlaw03_DiskFull.clok : OkC pr 4 tocsinlaw03_DiskFull.cl := by
  intro args K w h
  unfold tocsinlaw03_DiskFull.cl at h
  split at h
  · exact calls_group false mixed tocsinlaw03_DiskFull.FOk_ tocsinlaw03_DiskFull.fn rfl 5 (tocsinlaw03_DiskFull.Q10 K) (Eq.mp (by kernel_rfl) h)
  · exact h.elim

/-! (*tocsin/disk.Disk).Size -/
namespace disk_Disk_Size
abbrev KT := Int → Int → Int → World → Prop
def Kt (Kv : Value → World → Prop) : KT := fun n1 n2 n3 w => Kv (.tuple #[(.int .i64 n1), (.int .i64 n2), (.int .i64 n3)]) w
noncomputable def bd : Code := bdy Try.f21
theorem fn : FnOk pr 21 21 Try.f21 := ⟨Try.func21, by kernel_rfl, Try.ntmps21, by kernel_rfl, by kernel_rfl⟩
def F : Clee := ofL [(31, C.disk_Disk_find.cl)]
theorem FOk_ : FOk pr F := FOk_cons C.disk_Disk_find.clok (FOk_nil)
def P1 (Kv : Value → World → Prop) : Post := bodyK false pr 21 Try.f21 Kv
end disk_Disk_Size
def disk_Disk_Size (d_4 : Option Addr) (name_5 : ByteArray) (w : World) (K : disk_Disk_Size.KT) : Prop :=
  C.disk_Disk_find d_4 name_5 w fun l6 n7 n8 w9 => G.new (.cells #[nilS.v, (.int .i64 (0 : Int))] 68) w9 fun p10 w11 => G.st p10 l6.v w11 fun w12 => G.st (p10.add 1) (.int .i64 n7) w12 fun w13 => G.cSl p10 w13.drew fun l14 => G.cI .i64 (p10.add 1) w13.drew fun n15 => K ((l14.n : Nat) : Int) n15 n8 w13.drew
def disk_Disk_Size.cl : CL := fun args K w => match args with
  | [.pointer x0, .string x1] => C.disk_Disk_Size x0 x1 w (disk_Disk_Size.Kt K)
  | _ => False
theorem disk_Disk_Size.clok : OkC pr 21 disk_Disk_Size.cl := by
  intro args K w h
  unfold disk_Disk_Size.cl at h
  split at h
  · exact calls_last false mixed disk_Disk_Size.FOk_ disk_Disk_Size.fn rfl (Eq.mp (by kernel_rfl) h)
  · exact h.elim

/-! (*tocsin/disk.Disk).Cut -/
namespace disk_Disk_Cut
abbrev KT := Int → World → Prop
def Kt (Kv : Value → World → Prop) : KT := fun n1 w => Kv (.int .i64 n1) w
noncomputable def bd : Code := bdy Try.f28
theorem fn : FnOk pr 28 37 Try.f28 := ⟨Try.func28, by kernel_rfl, Try.ntmps28, by kernel_rfl, by kernel_rfl⟩
def F : Clee := ofL [(31, C.disk_Disk_find.cl), (32, C.disk_file_again.cl)]
theorem FOk_ : FOk pr F := FOk_cons C.disk_Disk_find.clok (FOk_cons C.disk_file_again.clok (FOk_nil))
def P1 (Kv : Value → World → Prop) : Post := bodyK false pr 37 Try.f28 Kv
end disk_Disk_Cut
def disk_Disk_Cut (d_2 : Option Addr) (name_3 : ByteArray) (n_4 : Int) (w : World) (K : disk_Disk_Cut.KT) : Prop :=
  C.disk_Disk_find d_2 name_3 w fun l8 n9 n10 w11 => G.new (.cells #[nilS.v, (.int .i64 (0 : Int))] 68) w11 fun p12 w13 => G.st p12 l8.v w13 fun w14 => G.st (p12.add 1) (.int .i64 n9) w14 fun w15 => G.cond (n10 != (0 : Int)) (K n10 w15) (G.cond (decide (n_4 < (0 : Int))) (K (1 : Int) w15) (G.cSl p12 w15 fun l16 => G.cond (decide (n_4 > ((l16.n : Nat) : Int))) (K (1 : Int) w15) (G.ptr d_2 fun p17 => G.cM p17 w15.drew fun m18 => G.cSl p12 w15.drew fun l19 => G.cI .i64 (p12.add 1) w15.drew fun n20 => C.disk_file_again l19 n20 n_4 w15.drew fun l21 n22 w23 => sameAt p17 1 w15.drew w23 ∧ (G.runU pr (Instr.mapUpdate 64 (.map m18) (.string name_3) (.agg #[l21.v, (.int .i64 n22)])) w23 fun w24 => K (0 : Int) w24))))
def disk_Disk_Cut.cl : CL := fun args K w => match args with
  | [.pointer x0, .string x1, .int .i64 x2] => C.disk_Disk_Cut x0 x1 x2 w (disk_Disk_Cut.Kt K)
  | _ => False
theorem disk_Disk_Cut.clok : OkC pr 28 disk_Disk_Cut.cl := by
  intro args K w h
  unfold disk_Disk_Cut.cl at h
  split at h
  · exact calls_last false mixed disk_Disk_Cut.FOk_ disk_Disk_Cut.fn rfl (Eq.mp (by kernel_rfl) h)
  · exact h.elim

/-! (*tocsin/disk.Disk).Rename -/
namespace disk_Disk_Rename
abbrev KT := Int → World → Prop
def Kt (Kv : Value → World → Prop) : KT := fun n1 w => Kv (.int .i64 n1) w
noncomputable def bd : Code := bdy Try.f29
theorem fn : FnOk pr 29 39 Try.f29 := ⟨Try.func29, by kernel_rfl, Try.ntmps29, by kernel_rfl, by kernel_rfl⟩
def F : Clee := ofL [(31, C.disk_Disk_find.cl), (47, C.disk_named.cl)]
theorem FOk_ : FOk pr F := FOk_cons C.disk_Disk_find.clok (FOk_cons C.disk_named.clok (FOk_nil))
def P1 (Kv : Value → World → Prop) : Post := bodyK false pr 39 Try.f29 Kv
end disk_Disk_Rename
def disk_Disk_Rename (d_2 : Option Addr) (from_3 : ByteArray) (to_4 : ByteArray) (w : World) (K : disk_Disk_Rename.KT) : Prop :=
  G.cond d_2.isNone (K (2 : Int) w) (C.disk_named from_3 w fun b14 w15 => G.cond (!b14) (K (40 : Int) w15) (C.disk_named to_4 w15 fun b16 w17 => G.cond (!b16) (K (40 : Int) w17) (C.disk_Disk_find d_2 from_3 w17 fun l18 n19 n20 w21 => G.new (.cells #[nilS.v, (.int .i64 (0 : Int))] 68) w21 fun p22 w23 => G.st p22 l18.v w23 fun w24 => G.st (p22.add 1) (.int .i64 n19) w24 fun w25 => G.cond (n20 != (0 : Int)) (K n20 w25) (G.ptr d_2 fun p26 => G.cM p26 w25 fun m27 => G.run pr (Builtin.delete_ #[64, 9] 0 #[(.map m27), (.string from_3)]) w25 fun v28 w29 => G.ptr d_2 fun p30 => G.cM p30 w29.drew fun m31 => G.cSl p22 w29.drew fun l32 => G.cI .i64 (p22.add 1) w29.drew fun n33 => G.runU pr (Instr.mapUpdate 64 (.map m31) (.string to_4) (.agg #[l32.v, (.int .i64 n33)])) w29.drew fun w34 => K (0 : Int) w34))))
def disk_Disk_Rename.cl : CL := fun args K w => match args with
  | [.pointer x0, .string x1, .string x2] => C.disk_Disk_Rename x0 x1 x2 w (disk_Disk_Rename.Kt K)
  | _ => False
theorem disk_Disk_Rename.clok : OkC pr 29 disk_Disk_Rename.cl := by
  intro args K w h
  unfold disk_Disk_Rename.cl at h
  split at h
  · exact calls_last false mixed disk_Disk_Rename.FOk_ disk_Disk_Rename.fn rfl (Eq.mp (by kernel_rfl) h)
  · exact h.elim

/-! (*tocsin/disk.Disk).Remove -/
namespace disk_Disk_Remove
abbrev KT := Int → World → Prop
def Kt (Kv : Value → World → Prop) : KT := fun n1 w => Kv (.int .i64 n1) w
noncomputable def bd : Code := bdy Try.f30
theorem fn : FnOk pr 30 21 Try.f30 := ⟨Try.func30, by kernel_rfl, Try.ntmps30, by kernel_rfl, by kernel_rfl⟩
def F : Clee := ofL [(31, C.disk_Disk_find.cl)]
theorem FOk_ : FOk pr F := FOk_cons C.disk_Disk_find.clok (FOk_nil)
def P1 (Kv : Value → World → Prop) : Post := bodyK false pr 21 Try.f30 Kv
end disk_Disk_Remove
def disk_Disk_Remove (d_2 : Option Addr) (name_3 : ByteArray) (w : World) (K : disk_Disk_Remove.KT) : Prop :=
  C.disk_Disk_find d_2 name_3 w fun l4 n5 n6 w7 => G.new (.cells #[nilS.v, (.int .i64 (0 : Int))] 68) w7 fun p8 w9 => G.st p8 l4.v w9 fun w10 => G.st (p8.add 1) (.int .i64 n5) w10 fun w11 => G.cond (n6 == (0 : Int)) (G.ptr d_2 fun p12 => G.cM p12 w11 fun m13 => G.run pr (Builtin.delete_ #[64, 9] 0 #[(.map m13), (.string name_3)]) w11 fun v14 w15 => K n6 w15) (K n6 w11)
def disk_Disk_Remove.cl : CL := fun args K w => match args with
  | [.pointer x0, .string x1] => C.disk_Disk_Remove x0 x1 w (disk_Disk_Remove.Kt K)
  | _ => False
theorem disk_Disk_Remove.clok : OkC pr 30 disk_Disk_Remove.cl := by
  intro args K w h
  unfold disk_Disk_Remove.cl at h
  split at h
  · exact calls_last false mixed disk_Disk_Remove.FOk_ disk_Disk_Remove.fn rfl (Eq.mp (by kernel_rfl) h)
  · exact h.elim

/-! tocsin/tocsinref01.Lent -/
namespace tocsinref01_Lent
abbrev KT := Sl → World → Prop
def Kt (Kv : Value → World → Prop) : KT := fun l1 w => Kv l1.v w
noncomputable def bd : Code := bdy Try.f36
theorem fn : FnOk pr 36 14 Try.f36 := ⟨Try.func36, by kernel_rfl, Try.ntmps36, by kernel_rfl, by kernel_rfl⟩
def F : Clee := ofL []
theorem FOk_ : FOk pr F := FOk_nil
def P1 (Kv : Value → World → Prop) : Post := bodyK false pr 14 Try.f36 Kv
end tocsinref01_Lent
def tocsinref01_Lent (b_2 : Sl) (w : World) (K : tocsinref01_Lent.KT) : Prop :=
  G.runSl pr (Builtin.append_ #[25, 25] 25 #[nilS.v, b_2.v]) w fun l3 w4 => G.new (.cells #[(.int .u8 (77 : Int))] 5) w4 fun p5 w6 => G.runSl pr (Builtin.append_ #[25, 25] 25 #[l3.v, (Sl.v (⟨some p5, 1, 1⟩ : Sl))]) w6 fun l7 w8 => G.slc l7 0 ((b_2.n : Nat) : Int) 1 fun l9 => K l9 w8
def tocsinref01_Lent.cl : CL := fun args K w => match args with
  | [.slice x0_a x0_n x0_c] => C.tocsinref01_Lent ⟨x0_a, x0_n, x0_c⟩ w (tocsinref01_Lent.Kt K)
  | _ => False
theorem tocsinref01_Lent.clok : OkC pr 36 tocsinref01_Lent.cl := by
  intro args K w h
  unfold tocsinref01_Lent.cl at h
  split at h
  · exact calls_last false mixed tocsinref01_Lent.FOk_ tocsinref01_Lent.fn rfl (Eq.mp (by kernel_rfl) h)
  · exact h.elim

/-! tocsin/tocsinref01.Kept -/
namespace tocsinref01_Kept
abbrev KT := Bool → World → Prop
def Kt (Kv : Value → World → Prop) : KT := fun b1 w => Kv (.bool b1) w
noncomputable def bd : Code := bdy Try.f37
theorem fn : FnOk pr 37 20 Try.f37 := ⟨Try.func37, by kernel_rfl, Try.ntmps37, by kernel_rfl, by kernel_rfl⟩
def F : Clee := ofL [(14, C.tocsinref01_Same.cl)]
theorem FOk_ : FOk pr F := FOk_cons C.tocsinref01_Same.clok (FOk_nil)
def P1 (Kv : Value → World → Prop) : Post := bodyK false pr 20 Try.f37 Kv
end tocsinref01_Kept
def tocsinref01_Kept (c_2 : Sl) (b_3 : Sl) (w : World) (K : tocsinref01_Kept.KT) : Prop :=
  C.tocsinref01_Same c_2 b_3 w fun b4 w5 => G.cond b4 (G.slc c_2 0 (IntKind.i64.wrap (((b_3.n : Nat) : Int) + (1 : Int))) 1 fun l6 => G.ix l6.a l6.n ((b_3.n : Nat) : Int) 1 fun p7 => G.cI .u8 p7 w5 fun n8 => K (n8 == (77 : Int)) w5) (K false w5)
def tocsinref01_Kept.cl : CL := fun args K w => match args with
  | [.slice x0_a x0_n x0_c, .slice x1_a x1_n x1_c] => C.tocsinref01_Kept ⟨x0_a, x0_n, x0_c⟩ ⟨x1_a, x1_n, x1_c⟩ w (tocsinref01_Kept.Kt K)
  | _ => False
theorem tocsinref01_Kept.clok : OkC pr 37 tocsinref01_Kept.cl := by
  intro args K w h
  unfold tocsinref01_Kept.cl at h
  split at h
  · exact calls_last false mixed tocsinref01_Kept.FOk_ tocsinref01_Kept.fn rfl (Eq.mp (by kernel_rfl) h)
  · exact h.elim

/-! tocsin/tocsinref01.Spoil -/
namespace tocsinref01_Spoil
abbrev KT := World → Prop
def Kt (Kv : Value → World → Prop) : KT := fun  w => Kv (.tuple #[]) w
noncomputable def bd : Code := bdy Try.f38
theorem fn : FnOk pr 38 25 Try.f38 := ⟨Try.func38, by kernel_rfl, Try.ntmps38, by kernel_rfl, by kernel_rfl⟩
def F : Clee := ofL []
theorem FOk_ : FOk pr F := FOk_nil
def P1 (Kv : Value → World → Prop) : Post := bodyK false pr 25 Try.f38 Kv
@[reducible] def g2 : List SE := [.v 0 .sl]
def S2 (K : KT) (b_2 : Sl) (w : World) : Prop :=
  G.new (.cells #[(.int .u8 (99 : Int))] 5) w fun p3 w4 => G.runSl pr (Builtin.append_ #[25, 25] 25 #[b_2.v, (Sl.v (⟨some p3, 1, 1⟩ : Sl))]) w4 fun l5 w6 => G.ix l5.a l5.n (IntKind.i64.wrap (((l5.n : Nat) : Int) - (1 : Int))) 1 fun p7 => G.st p7 (.int .u8 (98 : Int)) w6 fun w8 => K w8
theorem S2_ok (Kv : Value → World → Prop) : OkT pr false none 25 g2 (S2 (Kt Kv)) (s2 (tl 0 bd)) (P1 Kv) := ok_last mixed FOk_ fun v ρ w => by kernel_rfl
def P3 (Kv : Value → World → Prop) : Post := next (get g2 (S2 (Kt Kv))) (P1 Kv)
def P4 (Kv : Value → World → Prop) : Post := inBlock 0 (P3 Kv)
@[reducible] def g5 : List SE := [.v 0 .sl, .v 2 (.int .i64)]
def P6 (Kv : Value → World → Prop) (kc5 : Cur g5) : Post := next (get g5 kc5) (P4 Kv)
def S7 (K : KT) (kc5 : Cur g5) (b_13 : Sl) (i_14 : Int) (w : World) : Prop :=
  G.cond (decide (i_14 < ((b_13.n : Nat) : Int))) (G.ix b_13.a b_13.n i_14 1 fun p15 => G.cI .u8 p15 w fun n16 => G.ix b_13.a b_13.n i_14 1 fun p17 => G.st p17 (.int .u8 (Go.bits .xor .u8 n16 (90 : Int))) w fun w18 => kc5 b_13 (IntKind.i64.wrap (i_14 + (1 : Int))) w18) (S2 K b_13 w)
theorem S7_ok (Kv : Value → World → Prop) (kc5 : Cur g5) : OkT pr false none 25 g5 (S7 (Kt Kv) kc5) (lp (blk (tl 1 (s1 (tl 0 bd))))) (P6 Kv kc5) := ok_last mixed FOk_ fun v ρ w => by kernel_rfl
def L5 (K : KT) : Cur g5 := loopC g5 (S7 K)
theorem L5_ok (Kv : Value → World → Prop) : OkT pr false none 25 g5 (L5 (Kt Kv)) (blk (tl 1 (s1 (tl 0 bd)))) (P4 Kv) := ok_loop (B := S7 (Kt Kv)) (by kernel_rfl) fun kc => S7_ok Kv kc
theorem L5_ind {K : KT} {b_9 : Sl} {i_10 : Int} {w : World} (h : ∀ X : Cur g5, (∀ b_9 i_10 w, S7 K X b_9 i_10 w → X b_9 i_10 w) → X b_9 i_10 w) : L5 K b_9 i_10 w := fun X hX => h X fun b_9 i_10 w hb => hX (b_9, i_10, ()) w hb
theorem B8 (Kv : Value → World → Prop) : OkT pr false none 25 g5 (L5 (Kt Kv)) (tl 1 (s1 (tl 0 bd))) (P3 Kv) := ok_block 0 (by kernel_rfl) (L5_ok Kv)
def S9 (K : KT) (b_19 : Sl) (w : World) : Prop :=
  L5 K b_19 (0 : Int) w
theorem S9_ok (Kv : Value → World → Prop) : OkT pr false none 25 g2 (S9 (Kt Kv)) (s1 (tl 0 bd)) (P3 Kv) := ok_group mixed FOk_ 1 (B8 Kv) fun v ρ w => by kernel_rfl
theorem Q10 (Kv : Value → World → Prop) : OkT pr false none 25 g2 (S9 (Kt Kv)) (tl 0 bd) (P1 Kv) := ok_seq (by kernel_rfl) (S2_ok Kv) (S9_ok Kv)
end tocsinref01_Spoil
def tocsinref01_Spoil (b_1 : Sl) (w : World) (K : tocsinref01_Spoil.KT) : Prop :=
  tocsinref01_Spoil.S9 K b_1 w
def tocsinref01_Spoil.cl : CL := fun args K w => match args with
  | [.slice x0_a x0_n x0_c] => C.tocsinref01_Spoil ⟨x0_a, x0_n, x0_c⟩ w (tocsinref01_Spoil.Kt K)
  | _ => False
theorem tocsinref01_Spoil.clok : OkC pr 38 tocsinref01_Spoil.cl := by
  intro args K w h
  unfold tocsinref01_Spoil.cl at h
  split at h
  · exact calls_group false mixed tocsinref01_Spoil.FOk_ tocsinref01_Spoil.fn rfl 0 (tocsinref01_Spoil.Q10 K) (Eq.mp (by kernel_rfl) h)
  · exact h.elim

/-! (*tocsin/tocsinref03.Disk).find -/
namespace tocsinref03_Disk_find
abbrev KT := Int → Int → World → Prop
def Kt (Kv : Value → World → Prop) : KT := fun n1 n2 w => Kv (.tuple #[(.int .i64 n1), (.int .i64 n2)]) w
noncomputable def bd : Code := bdy Try.f50
theorem fn : FnOk pr 50 16 Try.f50 := ⟨Try.func50, by kernel_rfl, Try.ntmps50, by kernel_rfl, by kernel_rfl⟩
def F : Clee := ofL [(13, C.tocsinref03_Name.cl), (33, C.tocsinref03_Disk_At.cl)]
theorem FOk_ : FOk pr F := FOk_cons C.tocsinref03_Name.clok (FOk_cons C.tocsinref03_Disk_At.clok (FOk_nil))
def P1 (Kv : Value → World → Prop) : Post := bodyK false pr 16 Try.f50 Kv
end tocsinref03_Disk_find
def tocsinref03_Disk_find (d_3 : Option Addr) (name_4 : ByteArray) (w : World) (K : tocsinref03_Disk_find.KT) : Prop :=
  C.tocsinref03_Name name_4 w fun b7 w8 => G.cond (!b7) (K (0 : Int) (40 : Int) w8) (C.tocsinref03_Disk_At d_3 name_4 w8 fun n9 w10 => G.cond (decide (n9 < (0 : Int))) (K (0 : Int) (5 : Int) w10) (K n9 (0 : Int) w10))
def tocsinref03_Disk_find.cl : CL := fun args K w => match args with
  | [.pointer x0, .string x1] => C.tocsinref03_Disk_find x0 x1 w (tocsinref03_Disk_find.Kt K)
  | _ => False
theorem tocsinref03_Disk_find.clok : OkC pr 50 tocsinref03_Disk_find.cl := by
  intro args K w h
  unfold tocsinref03_Disk_find.cl at h
  split at h
  · exact calls_last false mixed tocsinref03_Disk_find.FOk_ tocsinref03_Disk_find.fn rfl (Eq.mp (by kernel_rfl) h)
  · exact h.elim

/-! (*tocsin/tocsinref03.Disk).Sync -/
namespace tocsinref03_Disk_Sync
abbrev KT := Int → World → Prop
def Kt (Kv : Value → World → Prop) : KT := fun n1 w => Kv (.int .i64 n1) w
noncomputable def bd : Code := bdy Try.f39
theorem fn : FnOk pr 39 32 Try.f39 := ⟨Try.func39, by kernel_rfl, Try.ntmps39, by kernel_rfl, by kernel_rfl⟩
def F : Clee := ofL [(50, C.tocsinref03_Disk_find.cl)]
theorem FOk_ : FOk pr F := FOk_cons C.tocsinref03_Disk_find.clok (FOk_nil)
def P1 (Kv : Value → World → Prop) : Post := bodyK false pr 32 Try.f39 Kv
end tocsinref03_Disk_Sync
def tocsinref03_Disk_Sync (d_2 : Option Addr) (name_3 : ByteArray) (w : World) (K : tocsinref03_Disk_Sync.KT) : Prop :=
  C.tocsinref03_Disk_find d_2 name_3 w fun n4 n5 w6 => G.cond (n5 == (0 : Int)) (G.ptr d_2 fun p7 => G.cSl p7 w6.drew fun l8 => G.ptr d_2 fun p9 => G.cSl p9 w6.drew fun l10 => G.ix l10.a l10.n n4 3 fun p11 => G.cSl (p11.add 1) w6.drew fun l12 => G.ix l8.a l8.n n4 3 fun p13 => G.st (p13.add 2) (.int .i64 ((l12.n : Nat) : Int)) w6.drew fun w14 => K n5 w14) (K n5 w6)
def tocsinref03_Disk_Sync.cl : CL := fun args K w => match args with
  | [.pointer x0, .string x1] => C.tocsinref03_Disk_Sync x0 x1 w (tocsinref03_Disk_Sync.Kt K)
  | _ => False
theorem tocsinref03_Disk_Sync.clok : OkC pr 39 tocsinref03_Disk_Sync.cl := by
  intro args K w h
  unfold tocsinref03_Disk_Sync.cl at h
  split at h
  · exact calls_last false mixed tocsinref03_Disk_Sync.FOk_ tocsinref03_Disk_Sync.fn rfl (Eq.mp (by kernel_rfl) h)
  · exact h.elim

/-! (*tocsin/tocsinref03.Disk).Cut -/
namespace tocsinref03_Disk_Cut
abbrev KT := Int → World → Prop
def Kt (Kv : Value → World → Prop) : KT := fun n1 w => Kv (.int .i64 n1) w
noncomputable def bd : Code := bdy Try.f40
theorem fn : FnOk pr 40 68 Try.f40 := ⟨Try.func40, by kernel_rfl, Try.ntmps40, by kernel_rfl, by kernel_rfl⟩
def F : Clee := ofL [(50, C.tocsinref03_Disk_find.cl)]
theorem FOk_ : FOk pr F := FOk_cons C.tocsinref03_Disk_find.clok (FOk_nil)
def P1 (Kv : Value → World → Prop) : Post := bodyK false pr 68 Try.f40 Kv
end tocsinref03_Disk_Cut
def tocsinref03_Disk_Cut (d_2 : Option Addr) (name_3 : ByteArray) (n_4 : Int) (w : World) (K : tocsinref03_Disk_Cut.KT) : Prop :=
  C.tocsinref03_Disk_find d_2 name_3 w fun n11 n12 w13 => G.cond (n12 != (0 : Int)) (K n12 w13) (G.cond (decide (n_4 < (0 : Int))) (K (1 : Int) w13) (G.ptr d_2 fun p14 => G.cSl p14 w13 fun l15 => G.ix l15.a l15.n n11 3 fun p16 => G.cSl (p16.add 1) w13 fun l17 => G.cond (decide (n_4 > ((l17.n : Nat) : Int))) (K (1 : Int) w13) (G.ptr d_2 fun p18 => G.cSl p18 w13.drew fun l19 => G.ptr d_2 fun p20 => G.cSl p20 w13.drew fun l21 => G.ix l21.a l21.n n11 3 fun p22 => G.cSl (p22.add 1) w13.drew fun l23 => G.slc l23 0 n_4 1 fun l24 => G.ix l19.a l19.n n11 3 fun p25 => G.st (p25.add 1) l24.v w13.drew fun w26 => G.ptr d_2 fun p27 => G.cSl p27 w26 fun l28 => G.ix l28.a l28.n n11 3 fun p29 => G.cI .i64 (p29.add 2) w26 fun n30 => G.cond (decide (n30 > n_4)) (G.ptr d_2 fun p31 => G.cSl p31 w26 fun l32 => G.ix l32.a l32.n n11 3 fun p33 => G.st (p33.add 2) (.int .i64 n_4) w26 fun w34 => K (0 : Int) w34) (K (0 : Int) w26))))
def tocsinref03_Disk_Cut.cl : CL := fun args K w => match args with
  | [.pointer x0, .string x1, .int .i64 x2] => C.tocsinref03_Disk_Cut x0 x1 x2 w (tocsinref03_Disk_Cut.Kt K)
  | _ => False
theorem tocsinref03_Disk_Cut.clok : OkC pr 40 tocsinref03_Disk_Cut.cl := by
  intro args K w h
  unfold tocsinref03_Disk_Cut.cl at h
  split at h
  · exact calls_last false mixed tocsinref03_Disk_Cut.FOk_ tocsinref03_Disk_Cut.fn rfl (Eq.mp (by kernel_rfl) h)
  · exact h.elim

/-! (*tocsin/tocsinref03.Disk).out -/
namespace tocsinref03_Disk_out
abbrev KT := ByteArray → Sl → Int → World → Prop
def Kt (Kv : Value → World → Prop) : KT := fun s1 l2 n3 w => Kv (.agg #[(.string s1), l2.v, (.int .i64 n3)]) w
noncomputable def bd : Code := bdy Try.f51
theorem fn : FnOk pr 51 36 Try.f51 := ⟨Try.func51, by kernel_rfl, Try.ntmps51, by kernel_rfl, by kernel_rfl⟩
def F : Clee := ofL []
theorem FOk_ : FOk pr F := FOk_nil
def P1 (Kv : Value → World → Prop) : Post := bodyK false pr 36 Try.f51 Kv
end tocsinref03_Disk_out
def tocsinref03_Disk_out (d_4 : Option Addr) (k_5 : Int) (w : World) (K : tocsinref03_Disk_out.KT) : Prop :=
  G.new (.cells #[(.string (⟨#[]⟩ : ByteArray)), nilS.v, (.int .i64 (0 : Int))] 51) w fun p6 w7 => G.ptr d_4 fun p8 => G.cSl p8 w7 fun l9 => G.ix l9.a l9.n k_5 3 fun p10 => G.cS p10 w7 fun s11 => G.cSl (p10.add 1) w7 fun l12 => G.cI .i64 (p10.add 2) w7 fun n13 => G.new (.cells #[(.string (⟨#[]⟩ : ByteArray)), nilS.v, (.int .i64 (0 : Int))] 51) w7 fun p14 w15 => G.st p14 (.string s11) w15 fun w16 => G.st (p14.add 1) l12.v w16 fun w17 => G.st (p14.add 2) (.int .i64 n13) w17 fun w18 => G.ptr d_4 fun p19 => G.cSl p19 w18 fun l20 => G.slc l20 0 k_5 3 fun l21 => G.runSl pr (Builtin.append_ #[35, 35] 35 #[nilS.v, l21.v]) w18 fun l22 w23 => G.ptr d_4 fun p24 => G.cSl p24 w23 fun l25 => G.slc l25 (IntKind.i64.wrap (k_5 + (1 : Int))) ((l25.n : Nat) : Int) 3 fun l26 => G.runSl pr (Builtin.append_ #[35, 35] 35 #[l22.v, l26.v]) w23 fun l27 w28 => G.ptr d_4 fun p29 => G.st p29 l27.v w28 fun w30 => G.cS p14 w30 fun s31 => G.cSl (p14.add 1) w30 fun l32 => G.cI .i64 (p14.add 2) w30 fun n33 => G.st p6 (.string s31) w30 fun w34 => G.st (p6.add 1) l32.v w34 fun w35 => G.st (p6.add 2) (.int .i64 n33) w35 fun w36 => G.cS p6 w36 fun s37 => G.cSl (p6.add 1) w36 fun l38 => G.cI .i64 (p6.add 2) w36 fun n39 => K s37 l38 n39 w36
def tocsinref03_Disk_out.cl : CL := fun args K w => match args with
  | [.pointer x0, .int .i64 x1] => C.tocsinref03_Disk_out x0 x1 w (tocsinref03_Disk_out.Kt K)
  | _ => False
theorem tocsinref03_Disk_out.clok : OkC pr 51 tocsinref03_Disk_out.cl := by
  intro args K w h
  unfold tocsinref03_Disk_out.cl at h
  split at h
  · exact calls_last false mixed tocsinref03_Disk_out.FOk_ tocsinref03_Disk_out.fn rfl (Eq.mp (by kernel_rfl) h)
  · exact h.elim

/-! (*tocsin/tocsinref03.Disk).Rename -/
namespace tocsinref03_Disk_Rename
abbrev KT := Int → World → Prop
def Kt (Kv : Value → World → Prop) : KT := fun n1 w => Kv (.int .i64 n1) w
noncomputable def bd : Code := bdy Try.f41
theorem fn : FnOk pr 41 48 Try.f41 := ⟨Try.func41, by kernel_rfl, Try.ntmps41, by kernel_rfl, by kernel_rfl⟩
def F : Clee := ofL [(13, C.tocsinref03_Name.cl), (33, C.tocsinref03_Disk_At.cl), (34, C.tocsinref03_Disk_put.cl), (50, C.tocsinref03_Disk_find.cl), (51, C.tocsinref03_Disk_out.cl)]
theorem FOk_ : FOk pr F := FOk_cons C.tocsinref03_Name.clok (FOk_cons C.tocsinref03_Disk_At.clok (FOk_cons C.tocsinref03_Disk_put.clok (FOk_cons C.tocsinref03_Disk_find.clok (FOk_cons C.tocsinref03_Disk_out.clok (FOk_nil)))))
def P1 (Kv : Value → World → Prop) : Post := bodyK false pr 48 Try.f41 Kv
end tocsinref03_Disk_Rename
def tocsinref03_Disk_Rename (d_2 : Option Addr) (from_3 : ByteArray) (to_4 : ByteArray) (w : World) (K : tocsinref03_Disk_Rename.KT) : Prop :=
  C.tocsinref03_Name from_3 w fun b11 w12 => G.cond (!b11) (K (40 : Int) w12) (C.tocsinref03_Name to_4 w12 fun b13 w14 => G.cond (!b13) (K (40 : Int) w14) (C.tocsinref03_Disk_find d_2 from_3 w14 fun n15 n16 w17 => G.cond (n16 != (0 : Int)) (K n16 w17) (G.cond (from_3.toList == to_4.toList) (K n16 w17) (C.tocsinref03_Disk_out d_2 n15 w17 fun s18 l19 n20 w21 => G.new (.cells #[(.string (⟨#[]⟩ : ByteArray)), nilS.v, (.int .i64 (0 : Int))] 51) w21 fun p22 w23 => G.st p22 (.string s18) w23 fun w24 => G.st (p22.add 1) l19.v w24 fun w25 => G.st (p22.add 2) (.int .i64 n20) w25 fun w26 => G.st p22 (.string to_4) w26 fun w27 => C.tocsinref03_Disk_At d_2 to_4 w27 fun n28 w29 => G.cond (decide (n28 ≥ (0 : Int))) (C.tocsinref03_Disk_out d_2 n28 w29 fun s30 l31 n32 w33 => G.cS p22 w33 fun s34 => G.cSl (p22.add 1) w33 fun l35 => G.cI .i64 (p22.add 2) w33 fun n36 => C.tocsinref03_Disk_put d_2 s34 l35 n36 w33 fun w37 => K (0 : Int) w37) (G.cS p22 w29 fun s38 => G.cSl (p22.add 1) w29 fun l39 => G.cI .i64 (p22.add 2) w29 fun n40 => C.tocsinref03_Disk_put d_2 s38 l39 n40 w29 fun w41 => K (0 : Int) w41)))))
def tocsinref03_Disk_Rename.cl : CL := fun args K w => match args with
  | [.pointer x0, .string x1, .string x2] => C.tocsinref03_Disk_Rename x0 x1 x2 w (tocsinref03_Disk_Rename.Kt K)
  | _ => False
theorem tocsinref03_Disk_Rename.clok : OkC pr 41 tocsinref03_Disk_Rename.cl := by
  intro args K w h
  unfold tocsinref03_Disk_Rename.cl at h
  split at h
  · exact calls_last false mixed tocsinref03_Disk_Rename.FOk_ tocsinref03_Disk_Rename.fn rfl (Eq.mp (by kernel_rfl) h)
  · exact h.elim

/-! (*tocsin/tocsinref03.Disk).Remove -/
namespace tocsinref03_Disk_Remove
abbrev KT := Int → World → Prop
def Kt (Kv : Value → World → Prop) : KT := fun n1 w => Kv (.int .i64 n1) w
noncomputable def bd : Code := bdy Try.f42
theorem fn : FnOk pr 42 19 Try.f42 := ⟨Try.func42, by kernel_rfl, Try.ntmps42, by kernel_rfl, by kernel_rfl⟩
def F : Clee := ofL [(50, C.tocsinref03_Disk_find.cl), (51, C.tocsinref03_Disk_out.cl)]
theorem FOk_ : FOk pr F := FOk_cons C.tocsinref03_Disk_find.clok (FOk_cons C.tocsinref03_Disk_out.clok (FOk_nil))
def P1 (Kv : Value → World → Prop) : Post := bodyK false pr 19 Try.f42 Kv
end tocsinref03_Disk_Remove
def tocsinref03_Disk_Remove (d_2 : Option Addr) (name_3 : ByteArray) (w : World) (K : tocsinref03_Disk_Remove.KT) : Prop :=
  C.tocsinref03_Disk_find d_2 name_3 w fun n4 n5 w6 => G.cond (n5 == (0 : Int)) (C.tocsinref03_Disk_out d_2 n4 w6 fun s7 l8 n9 w10 => K n5 w10) (K n5 w6)
def tocsinref03_Disk_Remove.cl : CL := fun args K w => match args with
  | [.pointer x0, .string x1] => C.tocsinref03_Disk_Remove x0 x1 w (tocsinref03_Disk_Remove.Kt K)
  | _ => False
theorem tocsinref03_Disk_Remove.clok : OkC pr 42 tocsinref03_Disk_Remove.cl := by
  intro args K w h
  unfold tocsinref03_Disk_Remove.cl at h
  split at h
  · exact calls_last false mixed tocsinref03_Disk_Remove.FOk_ tocsinref03_Disk_Remove.fn rfl (Eq.mp (by kernel_rfl) h)
  · exact h.elim

/-! tocsin/tocsinlaw03.crash -/
namespace tocsinlaw03_crash
abbrev KT := Int → Bool → World → Prop
def Kt (Kv : Value → World → Prop) : KT := fun n1 b2 w => Kv (.tuple #[(.int .i64 n1), (.bool b2)]) w
noncomputable def bd : Code := bdy Try.f43
theorem fn : FnOk pr 43 50 Try.f43 := ⟨Try.func43, by kernel_rfl, Try.ntmps43, by kernel_rfl, by kernel_rfl⟩
def F : Clee := ofL [(26, C.disk_Disk_Crash.cl)]
theorem FOk_ : FOk pr F := FOk_cons C.disk_Disk_Crash.clok (FOk_nil)
def P1 (Kv : Value → World → Prop) : Post := bodyK false pr 50 Try.f43 Kv
@[reducible] def g2 : List SE := [.v 7 (.int .i64), .v 8 .bool]
def S2 (K : KT) (e_5 : Int) (ok_6 : Bool) (w : World) : Prop :=
  K e_5 ok_6 w
theorem S2_ok (Kv : Value → World → Prop) : OkT pr false none 50 g2 (S2 (Kt Kv)) (s2 (tl 6 bd)) (P1 Kv) := ok_last mixed FOk_ fun v ρ w => by kernel_rfl
def P3 (Kv : Value → World → Prop) : Post := next (get g2 (S2 (Kt Kv))) (P1 Kv)
def P4 (Kv : Value → World → Prop) : Post := inBlock 0 (P3 Kv)
@[reducible] def g5 : List SE := [.v 1 .sl, .v 6 .sl, .v 7 (.int .i64), .v 8 .bool, .v 9 (.int .i64)]
def P6 (Kv : Value → World → Prop) (kc5 : Cur g5) : Post := next (get g5 kc5) (P4 Kv)
def S7 (K : KT) (kc5 : Cur g5) (l_17 : Sl) (own_18 : Sl) (e_19 : Int) (ok_20 : Bool) (i_21 : Int) (w : World) : Prop :=
  G.cond (decide (i_21 < ((l_17.n : Nat) : Int))) (G.cond ok_20 (G.ix own_18.a own_18.n i_21 2 fun p22 => G.cS p22 w.drew fun s23 => G.cI .i64 (p22.add 1) w.drew fun n24 => G.ix l_17.a l_17.n i_21 2 fun p25 => G.cS p25 w.drew fun s26 => G.cI .i64 (p25.add 1) w.drew fun n27 => kc5 l_17 own_18 e_19 ((s23.toList == s26.toList) && ((n24 == n27) && true)) (IntKind.i64.wrap (i_21 + (1 : Int))) w.drew) (kc5 l_17 own_18 e_19 false (IntKind.i64.wrap (i_21 + (1 : Int))) w.drew)) (S2 K e_19 ok_20 w)
theorem S7_ok (Kv : Value → World → Prop) (kc5 : Cur g5) : OkT pr false none 50 g5 (S7 (Kt Kv) kc5) (lp (blk (tl 1 (s1 (tl 6 bd))))) (P6 Kv kc5) := ok_last mixed FOk_ fun v ρ w => by kernel_rfl
def L5 (K : KT) : Cur g5 := loopC g5 (S7 K)
theorem L5_ok (Kv : Value → World → Prop) : OkT pr false none 50 g5 (L5 (Kt Kv)) (blk (tl 1 (s1 (tl 6 bd)))) (P4 Kv) := ok_loop (B := S7 (Kt Kv)) (by kernel_rfl) fun kc => S7_ok Kv kc
theorem L5_ind {K : KT} {l_7 : Sl} {own_8 : Sl} {e_9 : Int} {ok_10 : Bool} {i_11 : Int} {w : World} (h : ∀ X : Cur g5, (∀ l_7 own_8 e_9 ok_10 i_11 w, S7 K X l_7 own_8 e_9 ok_10 i_11 w → X l_7 own_8 e_9 ok_10 i_11 w) → X l_7 own_8 e_9 ok_10 i_11 w) : L5 K l_7 own_8 e_9 ok_10 i_11 w := fun X hX => h X fun l_7 own_8 e_9 ok_10 i_11 w hb => hX (l_7, own_8, e_9, ok_10, i_11, ()) w hb
theorem B8 (Kv : Value → World → Prop) : OkT pr false none 50 g5 (L5 (Kt Kv)) (tl 1 (s1 (tl 6 bd))) (P3 Kv) := ok_block 0 (by kernel_rfl) (L5_ok Kv)
@[reducible] def g9 : List SE := [.v 1 .sl, .v 6 .sl, .v 7 (.int .i64), .v 8 .bool]
def S9 (K : KT) (l_28 : Sl) (own_29 : Sl) (e_30 : Int) (ok_31 : Bool) (w : World) : Prop :=
  L5 K l_28 own_29 e_30 ok_31 (0 : Int) w
theorem S9_ok (Kv : Value → World → Prop) : OkT pr false none 50 g9 (S9 (Kt Kv)) (s1 (tl 6 bd)) (P3 Kv) := ok_group mixed FOk_ 1 (B8 Kv) fun v ρ w => by kernel_rfl
theorem Q10 (Kv : Value → World → Prop) : OkT pr false none 50 g9 (S9 (Kt Kv)) (tl 6 bd) (P1 Kv) := ok_seq (by kernel_rfl) (S2_ok Kv) (S9_ok Kv)
end tocsinlaw03_crash
def tocsinlaw03_crash (d_3 : Option Addr) (l_4 : Sl) (w : World) (K : tocsinlaw03_crash.KT) : Prop :=
  G.runSl pr (Builtin.append_ #[43, 43] 43 #[nilS.v, l_4.v]) w fun l32 w33 => G.new (.cells #[(.string (⟨#[98, 101, 104, 105, 110, 100]⟩ : ByteArray)), (.int .i64 (0 : Int))] 72) w33 fun p34 w35 => G.runSl pr (Builtin.append_ #[43, 43] 43 #[l32.v, (Sl.v (⟨some p34, 1, 1⟩ : Sl))]) w35 fun l36 w37 => G.slc l36 0 ((l_4.n : Nat) : Int) 2 fun l38 => C.disk_Disk_Crash d_3 l38 w37 fun n39 w40 => G.ix l36.a l36.n ((l_4.n : Nat) : Int) 2 fun p41 => G.cS p41 w40 fun s42 => tocsinlaw03_crash.S9 K l_4 l36 n39 (s42.toList == (⟨#[98, 101, 104, 105, 110, 100]⟩ : ByteArray).toList) w40
def tocsinlaw03_crash.cl : CL := fun args K w => match args with
  | [.pointer x0, .slice x1_a x1_n x1_c] => C.tocsinlaw03_crash x0 ⟨x1_a, x1_n, x1_c⟩ w (tocsinlaw03_crash.Kt K)
  | _ => False
theorem tocsinlaw03_crash.clok : OkC pr 43 tocsinlaw03_crash.cl := by
  intro args K w h
  unfold tocsinlaw03_crash.cl at h
  split at h
  · exact calls_group false mixed tocsinlaw03_crash.FOk_ tocsinlaw03_crash.fn rfl 6 (tocsinlaw03_crash.Q10 K) (Eq.mp (by kernel_rfl) h)
  · exact h.elim

/-! (*tocsin/tocsinref03.Disk).Crash -/
namespace tocsinref03_Disk_Crash
abbrev KT := Int → World → Prop
def Kt (Kv : Value → World → Prop) : KT := fun n1 w => Kv (.int .i64 n1) w
noncomputable def bd : Code := bdy Try.f44
theorem fn : FnOk pr 44 136 Try.f44 := ⟨Try.func44, by kernel_rfl, Try.ntmps44, by kernel_rfl, by kernel_rfl⟩
def F : Clee := ofL []
theorem FOk_ : FOk pr F := FOk_nil
def P1 (Kv : Value → World → Prop) : Post := bodyK false pr 136 Try.f44 Kv
@[reducible] def g2 : List SE := []
def S2 (K : KT) (w : World) : Prop :=
  K (0 : Int) w
theorem S2_ok (Kv : Value → World → Prop) : OkT pr false none 136 g2 (S2 (Kt Kv)) (s2 (s2 (tl 1 bd))) (P1 Kv) := ok_last mixed FOk_ fun v ρ w => by kernel_rfl
def P3 (Kv : Value → World → Prop) : Post := next (get g2 (S2 (Kt Kv))) (P1 Kv)
def P4 (Kv : Value → World → Prop) : Post := inBlock 4 (P3 Kv)
@[reducible] def g5 : List SE := [.v 0 .ptr, .v 1 .sl, .v 7 (.int .i64)]
def P6 (Kv : Value → World → Prop) (kc5 : Cur g5) : Post := next (get g5 kc5) (P4 Kv)
def S7 (K : KT) (kc5 : Cur g5) (d_7 : Option Addr) (l_8 : Sl) (i_9 : Int) (w : World) : Prop :=
  kc5 d_7 l_8 (IntKind.i64.wrap (i_9 + (1 : Int))) w
theorem S7_ok (Kv : Value → World → Prop) (kc5 : Cur g5) : OkT pr false none 136 g5 (S7 (Kt Kv) kc5) (s2 (tl 1 (lp (blk (tl 1 (s1 (s2 (tl 1 bd)))))))) (P6 Kv kc5) := ok_last mixed FOk_ fun v ρ w => by kernel_rfl
def P8 (Kv : Value → World → Prop) (kc5 : Cur g5) : Post := next (get g5 (S7 (Kt Kv) kc5)) (P6 Kv kc5)
def P9 (Kv : Value → World → Prop) (kc5 : Cur g5) : Post := inBlock 5 (P8 Kv kc5)
@[reducible] def g10 : List SE := [.v 0 .ptr, .v 1 .sl, .v 7 (.int .i64), .v 8 (.int .i64)]
def S10 (K : KT) (kc5 : Cur g5) (d_14 : Option Addr) (l_15 : Sl) (i_16 : Int) (n_17 : Int) (w : World) : Prop :=
  G.ptr d_14 fun p18 => G.cSl p18 w.drew fun l19 => G.ptr d_14 fun p20 => G.cSl p20 w.drew fun l21 => G.ix l21.a l21.n i_16 3 fun p22 => G.cI .i64 (p22.add 2) w.drew fun n23 => G.ix l19.a l19.n i_16 3 fun p24 => G.st (p24.add 2) (.int .i64 (IntKind.i64.wrap (n23 + n_17))) w.drew fun w25 => G.ptr d_14 fun p26 => G.cSl p26 w25.drew fun l27 => G.ptr d_14 fun p28 => G.cSl p28 w25.drew fun l29 => G.ix l29.a l29.n i_16 3 fun p30 => G.cSl (p30.add 1) w25.drew fun l31 => G.ptr d_14 fun p32 => G.cSl p32 w25.drew fun l33 => G.ix l33.a l33.n i_16 3 fun p34 => G.cI .i64 (p34.add 2) w25.drew fun n35 => G.slc l31 0 n35 1 fun l36 => G.ix l27.a l27.n i_16 3 fun p37 => G.st (p37.add 1) l36.v w25.drew fun w38 => S7 K kc5 d_14 l_15 i_16 w38
theorem S10_ok (Kv : Value → World → Prop) (kc5 : Cur g5) : OkT pr false none 136 g10 (S10 (Kt Kv) kc5) (tl 2 (s2 (tl 1 (blk (s1 (tl 1 (lp (blk (tl 1 (s1 (s2 (tl 1 bd)))))))))))) (P9 Kv kc5) := ok_last mixed FOk_ fun v ρ w => by kernel_rfl
def S11 (K : KT) (kc5 : Cur g5) (d_39 : Option Addr) (l_40 : Sl) (i_41 : Int) (n_42 : Int) (w : World) : Prop :=
  G.ptr d_39 fun p43 => G.cSl p43 w.drew fun l44 => G.ix l44.a l44.n i_41 3 fun p45 => G.cSl (p45.add 1) w.drew fun l46 => G.ptr d_39 fun p47 => G.cSl p47 w.drew fun l48 => G.ix l48.a l48.n i_41 3 fun p49 => G.cI .i64 (p49.add 2) w.drew fun n50 => G.cond (decide (n_42 > (IntKind.i64.wrap (((l46.n : Nat) : Int) - n50)))) (S10 K kc5 d_39 l_40 i_41 (IntKind.i64.wrap (((l46.n : Nat) : Int) - n50)) w.drew) (S10 K kc5 d_39 l_40 i_41 n_42 w.drew)
theorem S11_ok (Kv : Value → World → Prop) (kc5 : Cur g5) : OkT pr false none 136 g10 (S11 (Kt Kv) kc5) (s2 (tl 1 (blk (s1 (tl 1 (lp (blk (tl 1 (s1 (s2 (tl 1 bd))))))))))) (P9 Kv kc5) := ok_group mixed FOk_ 2 (S10_ok Kv kc5) fun v ρ w => by kernel_rfl
def P12 (Kv : Value → World → Prop) (kc5 : Cur g5) : Post := next (get g10 (S11 (Kt Kv) kc5)) (P9 Kv kc5)
def P13 (Kv : Value → World → Prop) (kc5 : Cur g5) : Post := inBlock 6 (P12 Kv kc5)
@[reducible] def g14 : List SE := [.v 0 .ptr, .v 1 .sl, .v 7 (.int .i64), .v 8 (.int .i64), .v 9 (.int .i64)]
def P15 (Kv : Value → World → Prop) (kc5 : Cur g5) (kc14 : Cur g14) : Post := next (get g14 kc14) (P13 Kv kc5)
def S16 (K : KT) (kc5 : Cur g5) (kc14 : Cur g14) (d_61 : Option Addr) (l_62 : Sl) (i_63 : Int) (n_64 : Int) (k_65 : Int) (w : World) : Prop :=
  G.cond (decide (k_65 < ((l_62.n : Nat) : Int))) (G.ix l_62.a l_62.n k_65 2 fun p66 => G.cS p66 w.drew fun s67 => G.ptr d_61 fun p68 => G.cSl p68 w.drew fun l69 => G.ix l69.a l69.n i_63 3 fun p70 => G.cS p70 w.drew fun s71 => G.cond (s67.toList == s71.toList) (G.ix l_62.a l_62.n k_65 2 fun p72 => G.cI .i64 (p72.add 1) w.drew fun n73 => kc14 d_61 l_62 i_63 n73 (IntKind.i64.wrap (k_65 + (1 : Int))) w.drew) (kc14 d_61 l_62 i_63 n_64 (IntKind.i64.wrap (k_65 + (1 : Int))) w.drew)) (S11 K kc5 d_61 l_62 i_63 n_64 w)
theorem S16_ok (Kv : Value → World → Prop) (kc5 : Cur g5) (kc14 : Cur g14) : OkT pr false none 136 g14 (S16 (Kt Kv) kc5 kc14) (lp (blk (tl 1 (s1 (tl 1 (blk (s1 (tl 1 (lp (blk (tl 1 (s1 (s2 (tl 1 bd)))))))))))))) (P15 Kv kc5 kc14) := ok_last mixed FOk_ fun v ρ w => by kernel_rfl
def L14 (K : KT) (kc5 : Cur g5) : Cur g14 := loopC g14 (S16 K kc5)
theorem L14_ok (Kv : Value → World → Prop) (kc5 : Cur g5) : OkT pr false none 136 g14 (L14 (Kt Kv) kc5) (blk (tl 1 (s1 (tl 1 (blk (s1 (tl 1 (lp (blk (tl 1 (s1 (s2 (tl 1 bd))))))))))))) (P13 Kv kc5) := ok_loop (B := S16 (Kt Kv) kc5) (by kernel_rfl) fun kc => S16_ok Kv kc5 kc
theorem L14_ind {K : KT} {kc5 : Cur g5} {d_51 : Option Addr} {l_52 : Sl} {i_53 : Int} {n_54 : Int} {k_55 : Int} {w : World} (h : ∀ X : Cur g14, (∀ d_51 l_52 i_53 n_54 k_55 w, S16 K kc5 X d_51 l_52 i_53 n_54 k_55 w → X d_51 l_52 i_53 n_54 k_55 w) → X d_51 l_52 i_53 n_54 k_55 w) : L14 K kc5 d_51 l_52 i_53 n_54 k_55 w := fun X hX => h X fun d_51 l_52 i_53 n_54 k_55 w hb => hX (d_51, l_52, i_53, n_54, k_55, ()) w hb
theorem B17 (Kv : Value → World → Prop) (kc5 : Cur g5) : OkT pr false none 136 g14 (L14 (Kt Kv) kc5) (tl 1 (s1 (tl 1 (blk (s1 (tl 1 (lp (blk (tl 1 (s1 (s2 (tl 1 bd)))))))))))) (P12 Kv kc5) := ok_block 6 (by kernel_rfl) (L14_ok Kv kc5)
def S18 (K : KT) (kc5 : Cur g5) (d_74 : Option Addr) (l_75 : Sl) (i_76 : Int) (n_77 : Int) (w : World) : Prop :=
  L14 K kc5 d_74 l_75 i_76 n_77 (0 : Int) w
theorem S18_ok (Kv : Value → World → Prop) (kc5 : Cur g5) : OkT pr false none 136 g10 (S18 (Kt Kv) kc5) (s1 (tl 1 (blk (s1 (tl 1 (lp (blk (tl 1 (s1 (s2 (tl 1 bd))))))))))) (P12 Kv kc5) := ok_group mixed FOk_ 1 (B17 Kv kc5) fun v ρ w => by kernel_rfl
theorem Q19 (Kv : Value → World → Prop) (kc5 : Cur g5) : OkT pr false none 136 g10 (S18 (Kt Kv) kc5) (tl 1 (blk (s1 (tl 1 (lp (blk (tl 1 (s1 (s2 (tl 1 bd)))))))))) (P9 Kv kc5) := ok_seq (by kernel_rfl) (S11_ok Kv kc5) (S18_ok Kv kc5)
def S20 (K : KT) (kc5 : Cur g5) (d_78 : Option Addr) (l_79 : Sl) (i_80 : Int) (w : World) : Prop :=
  S18 K kc5 d_78 l_79 i_80 (0 : Int) w
theorem S20_ok (Kv : Value → World → Prop) (kc5 : Cur g5) : OkT pr false none 136 g5 (S20 (Kt Kv) kc5) (blk (s1 (tl 1 (lp (blk (tl 1 (s1 (s2 (tl 1 bd))))))))) (P9 Kv kc5) := ok_group mixed FOk_ 1 (Q19 Kv kc5) fun v ρ w => by kernel_rfl
theorem B21 (Kv : Value → World → Prop) (kc5 : Cur g5) : OkT pr false none 136 g5 (S20 (Kt Kv) kc5) (s1 (tl 1 (lp (blk (tl 1 (s1 (s2 (tl 1 bd)))))))) (P8 Kv kc5) := ok_block 5 (by kernel_rfl) (S20_ok Kv kc5)
theorem Q22 (Kv : Value → World → Prop) (kc5 : Cur g5) : OkT pr false none 136 g5 (S20 (Kt Kv) kc5) (tl 1 (lp (blk (tl 1 (s1 (s2 (tl 1 bd))))))) (P6 Kv kc5) := ok_seq (by kernel_rfl) (S7_ok Kv kc5) (B21 Kv kc5)
def S23 (K : KT) (kc5 : Cur g5) (d_81 : Option Addr) (l_82 : Sl) (i_83 : Int) (w : World) : Prop :=
  G.ptr d_81 fun p84 => G.cSl p84 w fun l85 => G.cond (decide (i_83 < ((l85.n : Nat) : Int))) (S20 K kc5 d_81 l_82 i_83 w) (S2 K w)
theorem S23_ok (Kv : Value → World → Prop) (kc5 : Cur g5) : OkT pr false none 136 g5 (S23 (Kt Kv) kc5) (lp (blk (tl 1 (s1 (s2 (tl 1 bd)))))) (P6 Kv kc5) := ok_group mixed FOk_ 1 (Q22 Kv kc5) fun v ρ w => by kernel_rfl
def L5 (K : KT) : Cur g5 := loopC g5 (S23 K)
theorem L5_ok (Kv : Value → World → Prop) : OkT pr false none 136 g5 (L5 (Kt Kv)) (blk (tl 1 (s1 (s2 (tl 1 bd))))) (P4 Kv) := ok_loop (B := S23 (Kt Kv)) (by kernel_rfl) fun kc => S23_ok Kv kc
theorem L5_ind {K : KT} {d_4 : Option Addr} {l_5 : Sl} {i_6 : Int} {w : World} (h : ∀ X : Cur g5, (∀ d_4 l_5 i_6 w, S23 K X d_4 l_5 i_6 w → X d_4 l_5 i_6 w) → X d_4 l_5 i_6 w) : L5 K d_4 l_5 i_6 w := fun X hX => h X fun d_4 l_5 i_6 w hb => hX (d_4, l_5, i_6, ()) w hb
theorem B24 (Kv : Value → World → Prop) : OkT pr false none 136 g5 (L5 (Kt Kv)) (tl 1 (s1 (s2 (tl 1 bd)))) (P3 Kv) := ok_block 4 (by kernel_rfl) (L5_ok Kv)
@[reducible] def g25 : List SE := [.v 0 .ptr, .v 1 .sl]
def S25 (K : KT) (d_86 : Option Addr) (l_87 : Sl) (w : World) : Prop :=
  L5 K d_86 l_87 (0 : Int) w
theorem S25_ok (Kv : Value → World → Prop) : OkT pr false none 136 g25 (S25 (Kt Kv)) (s1 (s2 (tl 1 bd))) (P3 Kv) := ok_group mixed FOk_ 1 (B24 Kv) fun v ρ w => by kernel_rfl
theorem Q26 (Kv : Value → World → Prop) : OkT pr false none 136 g25 (S25 (Kt Kv)) (s2 (tl 1 bd)) (P1 Kv) := ok_seq (by kernel_rfl) (S2_ok Kv) (S25_ok Kv)
def P27 (Kv : Value → World → Prop) : Post := next (get g25 (S25 (Kt Kv))) (P1 Kv)
def P28 (Kv : Value → World → Prop) : Post := inBlock 0 (P27 Kv)
@[reducible] def g29 : List SE := [.v 0 .ptr, .v 1 .sl, .v 5 (.int .i64)]
def P30 (Kv : Value → World → Prop) (kc29 : Cur g29) : Post := next (get g29 kc29) (P28 Kv)
def S31 (K : KT) (kc29 : Cur g29) (d_91 : Option Addr) (l_92 : Sl) (i_93 : Int) (w : World) : Prop :=
  kc29 d_91 l_92 (IntKind.i64.wrap (i_93 + (1 : Int))) w
theorem S31_ok (Kv : Value → World → Prop) (kc29 : Cur g29) : OkT pr false none 136 g29 (S31 (Kt Kv) kc29) (s2 (tl 1 (lp (blk (tl 1 (s1 (tl 1 bd))))))) (P30 Kv kc29) := ok_last mixed FOk_ fun v ρ w => by kernel_rfl
def P32 (Kv : Value → World → Prop) (kc29 : Cur g29) : Post := next (get g29 (S31 (Kt Kv) kc29)) (P30 Kv kc29)
def P33 (Kv : Value → World → Prop) (kc29 : Cur g29) : Post := inBlock 1 (P32 Kv kc29)
def P34 (Kv : Value → World → Prop) (kc29 : Cur g29) : Post := inBlock 2 (P33 Kv kc29)
@[reducible] def g35 : List SE := [.v 0 .ptr, .v 1 .sl, .v 5 (.int .i64), .v 6 (.int .i64)]
def P36 (Kv : Value → World → Prop) (kc29 : Cur g29) (kc35 : Cur g35) : Post := next (get g35 kc35) (P34 Kv kc29)
def S37 (K : KT) (kc29 : Cur g29) (kc35 : Cur g35) (d_105 : Option Addr) (l_106 : Sl) (i_107 : Int) (k_108 : Int) (w : World) : Prop :=
  G.cond (decide (k_108 < i_107)) (G.ix l_106.a l_106.n k_108 2 fun p109 => G.cS p109 w.drew fun s110 => G.ix l_106.a l_106.n i_107 2 fun p111 => G.cS p111 w.drew fun s112 => G.cond (s110.toList == s112.toList) (K (1 : Int) w.drew) (kc35 d_105 l_106 i_107 (IntKind.i64.wrap (k_108 + (1 : Int))) w.drew)) (S31 K kc29 d_105 l_106 i_107 w)
theorem S37_ok (Kv : Value → World → Prop) (kc29 : Cur g29) (kc35 : Cur g35) : OkT pr false none 136 g35 (S37 (Kt Kv) kc29 kc35) (lp (blk (tl 2 (blk (s1 (tl 1 (lp (blk (tl 1 (s1 (tl 1 bd))))))))))) (P36 Kv kc29 kc35) := ok_last mixed FOk_ fun v ρ w => by kernel_rfl
def L35 (K : KT) (kc29 : Cur g29) : Cur g35 := loopC g35 (S37 K kc29)
theorem L35_ok (Kv : Value → World → Prop) (kc29 : Cur g29) : OkT pr false none 136 g35 (L35 (Kt Kv) kc29) (blk (tl 2 (blk (s1 (tl 1 (lp (blk (tl 1 (s1 (tl 1 bd)))))))))) (P34 Kv kc29) := ok_loop (B := S37 (Kt Kv) kc29) (by kernel_rfl) fun kc => S37_ok Kv kc29 kc
theorem L35_ind {K : KT} {kc29 : Cur g29} {d_97 : Option Addr} {l_98 : Sl} {i_99 : Int} {k_100 : Int} {w : World} (h : ∀ X : Cur g35, (∀ d_97 l_98 i_99 k_100 w, S37 K kc29 X d_97 l_98 i_99 k_100 w → X d_97 l_98 i_99 k_100 w) → X d_97 l_98 i_99 k_100 w) : L35 K kc29 d_97 l_98 i_99 k_100 w := fun X hX => h X fun d_97 l_98 i_99 k_100 w hb => hX (d_97, l_98, i_99, k_100, ()) w hb
theorem B38 (Kv : Value → World → Prop) (kc29 : Cur g29) : OkT pr false none 136 g35 (L35 (Kt Kv) kc29) (tl 2 (blk (s1 (tl 1 (lp (blk (tl 1 (s1 (tl 1 bd))))))))) (P33 Kv kc29) := ok_block 2 (by kernel_rfl) (L35_ok Kv kc29)
def S39 (K : KT) (kc29 : Cur g29) (d_113 : Option Addr) (l_114 : Sl) (i_115 : Int) (w : World) : Prop :=
  G.ix l_114.a l_114.n i_115 2 fun p116 => G.cI .i64 (p116.add 1) w fun n117 => G.cond (decide (n117 < (0 : Int))) (K (1 : Int) w) (L35 K kc29 d_113 l_114 i_115 (0 : Int) w)
theorem S39_ok (Kv : Value → World → Prop) (kc29 : Cur g29) : OkT pr false none 136 g29 (S39 (Kt Kv) kc29) (blk (s1 (tl 1 (lp (blk (tl 1 (s1 (tl 1 bd)))))))) (P33 Kv kc29) := ok_group mixed FOk_ 2 (B38 Kv kc29) fun v ρ w => by kernel_rfl
theorem B40 (Kv : Value → World → Prop) (kc29 : Cur g29) : OkT pr false none 136 g29 (S39 (Kt Kv) kc29) (s1 (tl 1 (lp (blk (tl 1 (s1 (tl 1 bd))))))) (P32 Kv kc29) := ok_block 1 (by kernel_rfl) (S39_ok Kv kc29)
theorem Q41 (Kv : Value → World → Prop) (kc29 : Cur g29) : OkT pr false none 136 g29 (S39 (Kt Kv) kc29) (tl 1 (lp (blk (tl 1 (s1 (tl 1 bd)))))) (P30 Kv kc29) := ok_seq (by kernel_rfl) (S31_ok Kv kc29) (B40 Kv kc29)
def S42 (K : KT) (kc29 : Cur g29) (d_118 : Option Addr) (l_119 : Sl) (i_120 : Int) (w : World) : Prop :=
  G.cond (decide (i_120 < ((l_119.n : Nat) : Int))) (S39 K kc29 d_118 l_119 i_120 w) (S25 K d_118 l_119 w)
theorem S42_ok (Kv : Value → World → Prop) (kc29 : Cur g29) : OkT pr false none 136 g29 (S42 (Kt Kv) kc29) (lp (blk (tl 1 (s1 (tl 1 bd))))) (P30 Kv kc29) := ok_group mixed FOk_ 1 (Q41 Kv kc29) fun v ρ w => by kernel_rfl
def L29 (K : KT) : Cur g29 := loopC g29 (S42 K)
theorem L29_ok (Kv : Value → World → Prop) : OkT pr false none 136 g29 (L29 (Kt Kv)) (blk (tl 1 (s1 (tl 1 bd)))) (P28 Kv) := ok_loop (B := S42 (Kt Kv)) (by kernel_rfl) fun kc => S42_ok Kv kc
theorem L29_ind {K : KT} {d_88 : Option Addr} {l_89 : Sl} {i_90 : Int} {w : World} (h : ∀ X : Cur g29, (∀ d_88 l_89 i_90 w, S42 K X d_88 l_89 i_90 w → X d_88 l_89 i_90 w) → X d_88 l_89 i_90 w) : L29 K d_88 l_89 i_90 w := fun X hX => h X fun d_88 l_89 i_90 w hb => hX (d_88, l_89, i_90, ()) w hb
theorem B43 (Kv : Value → World → Prop) : OkT pr false none 136 g29 (L29 (Kt Kv)) (tl 1 (s1 (tl 1 bd))) (P27 Kv) := ok_block 0 (by kernel_rfl) (L29_ok Kv)
def S44 (K : KT) (d_121 : Option Addr) (l_122 : Sl) (w : World) : Prop :=
  L29 K d_121 l_122 (0 : Int) w
theorem S44_ok (Kv : Value → World → Prop) : OkT pr false none 136 g25 (S44 (Kt Kv)) (s1 (tl 1 bd)) (P27 Kv) := ok_group mixed FOk_ 1 (B43 Kv) fun v ρ w => by kernel_rfl
theorem Q45 (Kv : Value → World → Prop) : OkT pr false none 136 g25 (S44 (Kt Kv)) (tl 1 bd) (P1 Kv) := ok_seq (by kernel_rfl) (Q26 Kv) (S44_ok Kv)
end tocsinref03_Disk_Crash
def tocsinref03_Disk_Crash (d_2 : Option Addr) (l_3 : Sl) (w : World) (K : tocsinref03_Disk_Crash.KT) : Prop :=
  tocsinref03_Disk_Crash.S44 K d_2 l_3 w
def tocsinref03_Disk_Crash.cl : CL := fun args K w => match args with
  | [.pointer x0, .slice x1_a x1_n x1_c] => C.tocsinref03_Disk_Crash x0 ⟨x1_a, x1_n, x1_c⟩ w (tocsinref03_Disk_Crash.Kt K)
  | _ => False
theorem tocsinref03_Disk_Crash.clok : OkC pr 44 tocsinref03_Disk_Crash.cl := by
  intro args K w h
  unfold tocsinref03_Disk_Crash.cl at h
  split at h
  · exact calls_group false mixed tocsinref03_Disk_Crash.FOk_ tocsinref03_Disk_Crash.fn rfl 1 (tocsinref03_Disk_Crash.Q45 K) (Eq.mp (by kernel_rfl) h)
  · exact h.elim

/-! (*tocsin/tocsinref03.Disk).Read -/
namespace tocsinref03_Disk_Read
abbrev KT := Sl → Int → World → Prop
def Kt (Kv : Value → World → Prop) : KT := fun l1 n2 w => Kv (.tuple #[l1.v, (.int .i64 n2)]) w
noncomputable def bd : Code := bdy Try.f45
theorem fn : FnOk pr 45 29 Try.f45 := ⟨Try.func45, by kernel_rfl, Try.ntmps45, by kernel_rfl, by kernel_rfl⟩
def F : Clee := ofL [(50, C.tocsinref03_Disk_find.cl)]
theorem FOk_ : FOk pr F := FOk_cons C.tocsinref03_Disk_find.clok (FOk_nil)
def P1 (Kv : Value → World → Prop) : Post := bodyK false pr 29 Try.f45 Kv
end tocsinref03_Disk_Read
def tocsinref03_Disk_Read (d_3 : Option Addr) (name_4 : ByteArray) (w : World) (K : tocsinref03_Disk_Read.KT) : Prop :=
  C.tocsinref03_Disk_find d_3 name_4 w fun n7 n8 w9 => G.cond (n8 != (0 : Int)) (K nilS n8 w9) (G.ptr d_3 fun p10 => G.cSl p10 w9 fun l11 => G.ix l11.a l11.n n7 3 fun p12 => G.cSl (p12.add 1) w9 fun l13 => G.runSl pr (Builtin.append_ #[25, 25] 25 #[nilS.v, l13.v]) w9 fun l14 w15 => K l14 (0 : Int) w15)
def tocsinref03_Disk_Read.cl : CL := fun args K w => match args with
  | [.pointer x0, .string x1] => C.tocsinref03_Disk_Read x0 x1 w (tocsinref03_Disk_Read.Kt K)
  | _ => False
theorem tocsinref03_Disk_Read.clok : OkC pr 45 tocsinref03_Disk_Read.cl := by
  intro args K w h
  unfold tocsinref03_Disk_Read.cl at h
  split at h
  · exact calls_last false mixed tocsinref03_Disk_Read.FOk_ tocsinref03_Disk_Read.fn rfl (Eq.mp (by kernel_rfl) h)
  · exact h.elim

/-! (*tocsin/tocsinref03.Disk).Size -/
namespace tocsinref03_Disk_Size
abbrev KT := Int → Int → Int → World → Prop
def Kt (Kv : Value → World → Prop) : KT := fun n1 n2 n3 w => Kv (.tuple #[(.int .i64 n1), (.int .i64 n2), (.int .i64 n3)]) w
noncomputable def bd : Code := bdy Try.f46
theorem fn : FnOk pr 46 35 Try.f46 := ⟨Try.func46, by kernel_rfl, Try.ntmps46, by kernel_rfl, by kernel_rfl⟩
def F : Clee := ofL [(50, C.tocsinref03_Disk_find.cl)]
theorem FOk_ : FOk pr F := FOk_cons C.tocsinref03_Disk_find.clok (FOk_nil)
def P1 (Kv : Value → World → Prop) : Post := bodyK false pr 35 Try.f46 Kv
end tocsinref03_Disk_Size
def tocsinref03_Disk_Size (d_4 : Option Addr) (name_5 : ByteArray) (w : World) (K : tocsinref03_Disk_Size.KT) : Prop :=
  C.tocsinref03_Disk_find d_4 name_5 w fun n8 n9 w10 => G.cond (n9 != (0 : Int)) (K (0 : Int) (0 : Int) n9 w10) (G.ptr d_4 fun p11 => G.cSl p11 w10.drew fun l12 => G.ix l12.a l12.n n8 3 fun p13 => G.cSl (p13.add 1) w10.drew fun l14 => G.ptr d_4 fun p15 => G.cSl p15 w10.drew fun l16 => G.ix l16.a l16.n n8 3 fun p17 => G.cI .i64 (p17.add 2) w10.drew fun n18 => K ((l14.n : Nat) : Int) n18 (0 : Int) w10.drew)
def tocsinref03_Disk_Size.cl : CL := fun args K w => match args with
  | [.pointer x0, .string x1] => C.tocsinref03_Disk_Size x0 x1 w (tocsinref03_Disk_Size.Kt K)
  | _ => False
theorem tocsinref03_Disk_Size.clok : OkC pr 46 tocsinref03_Disk_Size.cl := by
  intro args K w h
  unfold tocsinref03_Disk_Size.cl at h
  split at h
  · exact calls_last false mixed tocsinref03_Disk_Size.FOk_ tocsinref03_Disk_Size.fn rfl (Eq.mp (by kernel_rfl) h)
  · exact h.elim

/-! tocsin/tocsinlaw03.step -/
namespace tocsinlaw03_step
abbrev KT := Bool → World → Prop
def Kt (Kv : Value → World → Prop) : KT := fun b1 w => Kv (.bool b1) w
noncomputable def bd : Code := bdy Try.f20
theorem fn : FnOk pr 20 178 Try.f20 := ⟨Try.func20, by kernel_rfl, Try.ntmps20, by kernel_rfl, by kernel_rfl⟩
def F : Clee := ofL [(10, C.disk_Disk_Append.cl), (12, C.disk_Disk_Read.cl), (14, C.tocsinref01_Same.cl), (16, C.tocsinref03_Disk_Append.cl), (21, C.disk_Disk_Size.cl), (27, C.disk_Disk_Sync.cl), (28, C.disk_Disk_Cut.cl), (29, C.disk_Disk_Rename.cl), (30, C.disk_Disk_Remove.cl), (36, C.tocsinref01_Lent.cl), (37, C.tocsinref01_Kept.cl), (38, C.tocsinref01_Spoil.cl), (39, C.tocsinref03_Disk_Sync.cl), (40, C.tocsinref03_Disk_Cut.cl), (41, C.tocsinref03_Disk_Rename.cl), (42, C.tocsinref03_Disk_Remove.cl), (43, C.tocsinlaw03_crash.cl), (44, C.tocsinref03_Disk_Crash.cl), (45, C.tocsinref03_Disk_Read.cl), (46, C.tocsinref03_Disk_Size.cl)]
theorem FOk_ : FOk pr F := FOk_cons C.disk_Disk_Append.clok (FOk_cons C.disk_Disk_Read.clok (FOk_cons C.tocsinref01_Same.clok (FOk_cons C.tocsinref03_Disk_Append.clok (FOk_cons C.disk_Disk_Size.clok (FOk_cons C.disk_Disk_Sync.clok (FOk_cons C.disk_Disk_Cut.clok (FOk_cons C.disk_Disk_Rename.clok (FOk_cons C.disk_Disk_Remove.clok (FOk_cons C.tocsinref01_Lent.clok (FOk_cons C.tocsinref01_Kept.clok (FOk_cons C.tocsinref01_Spoil.clok (FOk_cons C.tocsinref03_Disk_Sync.clok (FOk_cons C.tocsinref03_Disk_Cut.clok (FOk_cons C.tocsinref03_Disk_Rename.clok (FOk_cons C.tocsinref03_Disk_Remove.clok (FOk_cons C.tocsinlaw03_crash.clok (FOk_cons C.tocsinref03_Disk_Crash.clok (FOk_cons C.tocsinref03_Disk_Read.clok (FOk_cons C.tocsinref03_Disk_Size.clok (FOk_nil))))))))))))))))))))
def P1 (Kv : Value → World → Prop) : Post := bodyK false pr 178 Try.f20 Kv
end tocsinlaw03_step
def tocsinlaw03_step (d_2 : Option Addr) (r_3 : Option Addr) (o_4 : Int) (o_5 : ByteArray) (o_6 : ByteArray) (o_7 : Sl) (o_8 : Int) (o_9 : Sl) (w : World) (K : tocsinlaw03_step.KT) : Prop :=
  G.new (.cells #[(.int .i64 o_4), (.string o_5), (.string o_6), o_7.v, (.int .i64 o_8), o_9.v] 45) w fun p18 w19 => G.cI .i64 p18 w19 fun n20 => G.cond (n20 == (0 : Int)) (G.cSl (p18.add 3) w19 fun l21 => C.tocsinref01_Lent l21 w19 fun l22 w23 => G.cS (p18.add 1) w23 fun s24 => C.disk_Disk_Append d_2 s24 l22 w23 fun n25 w26 => G.cS (p18.add 1) w26 fun s27 => G.cSl (p18.add 3) w26 fun l28 => C.tocsinref03_Disk_Append r_3 s27 l28 w26 fun n29 w30 => G.cond (n25 == n29) (G.cSl (p18.add 3) w30 fun l31 => C.tocsinref01_Kept l22 l31 w30 fun b32 w33 => C.tocsinref01_Spoil l22 w33 fun w34 => K b32 w34) (C.tocsinref01_Spoil l22 w30 fun w35 => K false w35)) (G.cond (n20 == (1 : Int)) (G.cS (p18.add 1) w19.drew fun s36 => G.cS (p18.add 1) w19.drew fun s37 => C.disk_Disk_Sync d_2 s36 w19.drew fun n38 w39 => sameAt (p18.add 1) 1 w19.drew w39 ∧ (C.tocsinref03_Disk_Sync r_3 s37 w39 fun n40 w41 => K (n38 == n40) w41)) (G.cond (n20 == (2 : Int)) (G.cS (p18.add 1) w19.drew fun s42 => G.cI .i64 (p18.add 4) w19.drew fun n43 => G.cS (p18.add 1) w19.drew fun s44 => G.cI .i64 (p18.add 4) w19.drew fun n45 => C.disk_Disk_Cut d_2 s42 n43 w19.drew fun n46 w47 => sameAt (p18.add 1) 1 w19.drew w47 ∧ sameAt (p18.add 4) 1 w19.drew w47 ∧ (C.tocsinref03_Disk_Cut r_3 s44 n45 w47 fun n48 w49 => K (n46 == n48) w49)) (G.cond (n20 == (3 : Int)) (G.cS (p18.add 1) w19.drew fun s50 => G.cS (p18.add 2) w19.drew fun s51 => G.cS (p18.add 1) w19.drew fun s52 => G.cS (p18.add 2) w19.drew fun s53 => C.disk_Disk_Rename d_2 s50 s51 w19.drew fun n54 w55 => sameAt (p18.add 1) 1 w19.drew w55 ∧ sameAt (p18.add 2) 1 w19.drew w55 ∧ (C.tocsinref03_Disk_Rename r_3 s52 s53 w55 fun n56 w57 => K (n54 == n56) w57)) (G.cond (n20 == (4 : Int)) (G.cS (p18.add 1) w19.drew fun s58 => G.cS (p18.add 1) w19.drew fun s59 => C.disk_Disk_Remove d_2 s58 w19.drew fun n60 w61 => sameAt (p18.add 1) 1 w19.drew w61 ∧ (C.tocsinref03_Disk_Remove r_3 s59 w61 fun n62 w63 => K (n60 == n62) w63)) (G.cond (n20 == (5 : Int)) (G.cSl (p18.add 5) w19 fun l64 => C.tocsinlaw03_crash d_2 l64 w19 fun n65 b66 w67 => G.cond b66 (G.cSl (p18.add 5) w67 fun l68 => C.tocsinref03_Disk_Crash r_3 l68 w67 fun n69 w70 => K (n65 == n69) w70) (K false w67)) (G.cS (p18.add 1) w19 fun s71 => C.disk_Disk_Read d_2 s71 w19 fun l72 n73 w74 => G.cS (p18.add 1) w74 fun s75 => C.tocsinref03_Disk_Read r_3 s75 w74 fun l76 n77 w78 => G.cS (p18.add 1) w78 fun s79 => C.disk_Disk_Size d_2 s79 w78 fun n80 n81 n82 w83 => G.cS (p18.add 1) w83 fun s84 => C.tocsinref03_Disk_Size r_3 s84 w83 fun n85 n86 n87 w88 => C.tocsinref01_Same l72 l76 w88 fun b89 w90 => G.cond b89 (G.cond (n73 == n77) (G.cond (n80 == n85) (G.cond (n81 == n86) (C.tocsinref01_Spoil l72 w90 fun w91 => K (n82 == n87) w91) (C.tocsinref01_Spoil l72 w90 fun w92 => K false w92)) (C.tocsinref01_Spoil l72 w90 fun w93 => K false w93)) (C.tocsinref01_Spoil l72 w90 fun w94 => K false w94)) (C.tocsinref01_Spoil l72 w90 fun w95 => K false w95)))))))
def tocsinlaw03_step.cl : CL := fun args K w => match args with
  | [.pointer x0, .pointer x1, .agg ⟨[.int .i64 x2_0, .string x2_1, .string x2_2, .slice x2_3_a x2_3_n x2_3_c, .int .i64 x2_4, .slice x2_5_a x2_5_n x2_5_c]⟩] => C.tocsinlaw03_step x0 x1 x2_0 x2_1 x2_2 ⟨x2_3_a, x2_3_n, x2_3_c⟩ x2_4 ⟨x2_5_a, x2_5_n, x2_5_c⟩ w (tocsinlaw03_step.Kt K)
  | _ => False
theorem tocsinlaw03_step.clok : OkC pr 20 tocsinlaw03_step.cl := by
  intro args K w h
  unfold tocsinlaw03_step.cl at h
  split at h
  · exact calls_last false mixed tocsinlaw03_step.FOk_ tocsinlaw03_step.fn rfl (Eq.mp (by kernel_rfl) h)
  · exact h.elim

/-! tocsin/tocsinlaw03.files -/
namespace tocsinlaw03_files
abbrev KT := Option Addr → Option Addr → World → Prop
def Kt (Kv : Value → World → Prop) : KT := fun p1 p2 w => Kv (.tuple #[(.pointer p1), (.pointer p2)]) w
noncomputable def bd : Code := bdy Try.f18
theorem fn : FnOk pr 18 28 Try.f18 := ⟨Try.func18, by kernel_rfl, Try.ntmps18, by kernel_rfl, by kernel_rfl⟩
def F : Clee := ofL [(9, C.disk_New.cl), (20, C.tocsinlaw03_step.cl)]
theorem FOk_ : FOk pr F := FOk_cons C.disk_New.clok (FOk_cons C.tocsinlaw03_step.clok (FOk_nil))
def P1 (Kv : Value → World → Prop) : Post := bodyK false pr 28 Try.f18 Kv
@[reducible] def g2 : List SE := [.v 4 .ptr, .v 5 .ptr]
def S2 (K : KT) (d_4 : Option Addr) (r_5 : Option Addr) (w : World) : Prop :=
  K d_4 r_5 w
theorem S2_ok (Kv : Value → World → Prop) : OkT pr false none 28 g2 (S2 (Kt Kv)) (s2 (tl 4 bd)) (P1 Kv) := ok_last mixed FOk_ fun v ρ w => by kernel_rfl
def P3 (Kv : Value → World → Prop) : Post := next (get g2 (S2 (Kt Kv))) (P1 Kv)
def P4 (Kv : Value → World → Prop) : Post := inBlock 0 (P3 Kv)
@[reducible] def g5 : List SE := [.v 0 .sl, .v 4 .ptr, .v 5 .ptr, .v 6 (.int .i64)]
def P6 (Kv : Value → World → Prop) (kc5 : Cur g5) : Post := next (get g5 kc5) (P4 Kv)
def S7 (K : KT) (kc5 : Cur g5) (script_14 : Sl) (d_15 : Option Addr) (r_16 : Option Addr) (i_17 : Int) (w : World) : Prop :=
  G.cond (decide (i_17 < ((script_14.n : Nat) : Int))) (G.ix script_14.a script_14.n i_17 6 fun p18 => G.cI .i64 p18 w fun n19 => G.cS (p18.add 1) w fun s20 => G.cS (p18.add 2) w fun s21 => G.cSl (p18.add 3) w fun l22 => G.cI .i64 (p18.add 4) w fun n23 => G.cSl (p18.add 5) w fun l24 => C.tocsinlaw03_step d_15 r_16 n19 s20 s21 l22 n23 l24 w fun b25 w26 => kc5 script_14 d_15 r_16 (IntKind.i64.wrap (i_17 + (1 : Int))) w26) (S2 K d_15 r_16 w)
theorem S7_ok (Kv : Value → World → Prop) (kc5 : Cur g5) : OkT pr false none 28 g5 (S7 (Kt Kv) kc5) (lp (blk (tl 1 (s1 (tl 4 bd))))) (P6 Kv kc5) := ok_last mixed FOk_ fun v ρ w => by kernel_rfl
def L5 (K : KT) : Cur g5 := loopC g5 (S7 K)
theorem L5_ok (Kv : Value → World → Prop) : OkT pr false none 28 g5 (L5 (Kt Kv)) (blk (tl 1 (s1 (tl 4 bd)))) (P4 Kv) := ok_loop (B := S7 (Kt Kv)) (by kernel_rfl) fun kc => S7_ok Kv kc
theorem L5_ind {K : KT} {script_6 : Sl} {d_7 : Option Addr} {r_8 : Option Addr} {i_9 : Int} {w : World} (h : ∀ X : Cur g5, (∀ script_6 d_7 r_8 i_9 w, S7 K X script_6 d_7 r_8 i_9 w → X script_6 d_7 r_8 i_9 w) → X script_6 d_7 r_8 i_9 w) : L5 K script_6 d_7 r_8 i_9 w := fun X hX => h X fun script_6 d_7 r_8 i_9 w hb => hX (script_6, d_7, r_8, i_9, ()) w hb
theorem B8 (Kv : Value → World → Prop) : OkT pr false none 28 g5 (L5 (Kt Kv)) (tl 1 (s1 (tl 4 bd))) (P3 Kv) := ok_block 0 (by kernel_rfl) (L5_ok Kv)
@[reducible] def g9 : List SE := [.v 0 .sl, .v 4 .ptr, .v 5 .ptr]
def S9 (K : KT) (script_27 : Sl) (d_28 : Option Addr) (r_29 : Option Addr) (w : World) : Prop :=
  L5 K script_27 d_28 r_29 (0 : Int) w
theorem S9_ok (Kv : Value → World → Prop) : OkT pr false none 28 g9 (S9 (Kt Kv)) (s1 (tl 4 bd)) (P3 Kv) := ok_group mixed FOk_ 1 (B8 Kv) fun v ρ w => by kernel_rfl
theorem Q10 (Kv : Value → World → Prop) : OkT pr false none 28 g9 (S9 (Kt Kv)) (tl 4 bd) (P1 Kv) := ok_seq (by kernel_rfl) (S2_ok Kv) (S9_ok Kv)
end tocsinlaw03_files
def tocsinlaw03_files (script_3 : Sl) (w : World) (K : tocsinlaw03_files.KT) : Prop :=
  C.disk_New w fun p30 w31 => G.new (.cells #[nilS.v] 37) w31 fun p32 w33 => G.cond p30.isNone (K none (some p32) w33) (tocsinlaw03_files.S9 K script_3 p30 (some p32) w33)
def tocsinlaw03_files.cl : CL := fun args K w => match args with
  | [.slice x0_a x0_n x0_c] => C.tocsinlaw03_files ⟨x0_a, x0_n, x0_c⟩ w (tocsinlaw03_files.Kt K)
  | _ => False
theorem tocsinlaw03_files.clok : OkC pr 18 tocsinlaw03_files.cl := by
  intro args K w h
  unfold tocsinlaw03_files.cl at h
  split at h
  · exact calls_group false mixed tocsinlaw03_files.FOk_ tocsinlaw03_files.fn rfl 4 (tocsinlaw03_files.Q10 K) (Eq.mp (by kernel_rfl) h)
  · exact h.elim

/-! (*tocsin/tocsinref03.Disk).Copy -/
namespace tocsinref03_Disk_Copy
abbrev KT := Option Addr → World → Prop
def Kt (Kv : Value → World → Prop) : KT := fun p1 w => Kv (.pointer p1) w
noncomputable def bd : Code := bdy Try.f19
theorem fn : FnOk pr 19 48 Try.f19 := ⟨Try.func19, by kernel_rfl, Try.ntmps19, by kernel_rfl, by kernel_rfl⟩
def F : Clee := ofL []
theorem FOk_ : FOk pr F := FOk_nil
def P1 (Kv : Value → World → Prop) : Post := bodyK false pr 48 Try.f19 Kv
@[reducible] def g2 : List SE := [.v 3 .ptr]
def S2 (K : KT) (c_3 : Option Addr) (w : World) : Prop :=
  K c_3 w
theorem S2_ok (Kv : Value → World → Prop) : OkT pr false none 48 g2 (S2 (Kt Kv)) (s2 (tl 2 bd)) (P1 Kv) := ok_last mixed FOk_ fun v ρ w => by kernel_rfl
def P3 (Kv : Value → World → Prop) : Post := next (get g2 (S2 (Kt Kv))) (P1 Kv)
def P4 (Kv : Value → World → Prop) : Post := inBlock 0 (P3 Kv)
@[reducible] def g5 : List SE := [.v 0 .ptr, .v 3 .ptr, .v 4 (.int .i64)]
def P6 (Kv : Value → World → Prop) (kc5 : Cur g5) : Post := next (get g5 kc5) (P4 Kv)
def S7 (K : KT) (kc5 : Cur g5) (d_10 : Option Addr) (c_11 : Option Addr) (i_12 : Int) (w : World) : Prop :=
  G.ptr d_10 fun p13 => G.cSl p13 w fun l14 => G.cond (decide (i_12 < ((l14.n : Nat) : Int))) (G.ptr d_10 fun p15 => G.cSl p15 w fun l16 => G.ix l16.a l16.n i_12 3 fun p17 => G.cS p17 w fun s18 => G.cSl (p17.add 1) w fun l19 => G.cI .i64 (p17.add 2) w fun n20 => G.new (.cells #[(.string (⟨#[]⟩ : ByteArray)), nilS.v, (.int .i64 (0 : Int))] 51) w fun p21 w22 => G.st p21 (.string s18) w22 fun w23 => G.st (p21.add 1) l19.v w23 fun w24 => G.st (p21.add 2) (.int .i64 n20) w24 fun w25 => G.st (p21.add 1) nilS.v w25 fun w26 => G.cSl (p21.add 1) w26.drew fun l27 => G.ptr d_10 fun p28 => G.cSl p28 w26.drew fun l29 => G.ix l29.a l29.n i_12 3 fun p30 => G.cSl (p30.add 1) w26.drew fun l31 => G.runSl pr (Builtin.append_ #[25, 25] 25 #[l27.v, l31.v]) w26.drew fun l32 w33 => G.st (p21.add 1) l32.v w33 fun w34 => G.ptr c_11 fun p35 => G.cSl p35 w34.drew fun l36 => G.cS p21 w34.drew fun s37 => G.cSl (p21.add 1) w34.drew fun l38 => G.cI .i64 (p21.add 2) w34.drew fun n39 => G.new (.cells #[(.string s37), l38.v, (.int .i64 n39)] 51) w34.drew fun p40 w41 => sameAt p35 1 w34.drew w41 ∧ (G.runSl pr (Builtin.append_ #[35, 35] 35 #[l36.v, (Sl.v (⟨some p40, 1, 1⟩ : Sl))]) w41 fun l42 w43 => G.ptr c_11 fun p44 => G.st p44 l42.v w43 fun w45 => kc5 d_10 c_11 (IntKind.i64.wrap (i_12 + (1 : Int))) w45)) (S2 K c_11 w)
theorem S7_ok (Kv : Value → World → Prop) (kc5 : Cur g5) : OkT pr false none 48 g5 (S7 (Kt Kv) kc5) (lp (blk (tl 1 (s1 (tl 2 bd))))) (P6 Kv kc5) := ok_last mixed FOk_ fun v ρ w => by kernel_rfl
def L5 (K : KT) : Cur g5 := loopC g5 (S7 K)
theorem L5_ok (Kv : Value → World → Prop) : OkT pr false none 48 g5 (L5 (Kt Kv)) (blk (tl 1 (s1 (tl 2 bd)))) (P4 Kv) := ok_loop (B := S7 (Kt Kv)) (by kernel_rfl) fun kc => S7_ok Kv kc
theorem L5_ind {K : KT} {d_4 : Option Addr} {c_5 : Option Addr} {i_6 : Int} {w : World} (h : ∀ X : Cur g5, (∀ d_4 c_5 i_6 w, S7 K X d_4 c_5 i_6 w → X d_4 c_5 i_6 w) → X d_4 c_5 i_6 w) : L5 K d_4 c_5 i_6 w := fun X hX => h X fun d_4 c_5 i_6 w hb => hX (d_4, c_5, i_6, ()) w hb
theorem B8 (Kv : Value → World → Prop) : OkT pr false none 48 g5 (L5 (Kt Kv)) (tl 1 (s1 (tl 2 bd))) (P3 Kv) := ok_block 0 (by kernel_rfl) (L5_ok Kv)
@[reducible] def g9 : List SE := [.v 0 .ptr, .v 3 .ptr]
def S9 (K : KT) (d_46 : Option Addr) (c_47 : Option Addr) (w : World) : Prop :=
  L5 K d_46 c_47 (0 : Int) w
theorem S9_ok (Kv : Value → World → Prop) : OkT pr false none 48 g9 (S9 (Kt Kv)) (s1 (tl 2 bd)) (P3 Kv) := ok_group mixed FOk_ 1 (B8 Kv) fun v ρ w => by kernel_rfl
theorem Q10 (Kv : Value → World → Prop) : OkT pr false none 48 g9 (S9 (Kt Kv)) (tl 2 bd) (P1 Kv) := ok_seq (by kernel_rfl) (S2_ok Kv) (S9_ok Kv)
end tocsinref03_Disk_Copy
def tocsinref03_Disk_Copy (d_2 : Option Addr) (w : World) (K : tocsinref03_Disk_Copy.KT) : Prop :=
  G.new (.cells #[nilS.v] 37) w fun p48 w49 => tocsinref03_Disk_Copy.S9 K d_2 (some p48) w49
def tocsinref03_Disk_Copy.cl : CL := fun args K w => match args with
  | [.pointer x0] => C.tocsinref03_Disk_Copy x0 w (tocsinref03_Disk_Copy.Kt K)
  | _ => False
theorem tocsinref03_Disk_Copy.clok : OkC pr 19 tocsinref03_Disk_Copy.cl := by
  intro args K w h
  unfold tocsinref03_Disk_Copy.cl at h
  split at h
  · exact calls_group false mixed tocsinref03_Disk_Copy.FOk_ tocsinref03_Disk_Copy.fn rfl 2 (tocsinref03_Disk_Copy.Q10 K) (Eq.mp (by kernel_rfl) h)
  · exact h.elim

/-! tocsin/tocsinlaw03.DiskApart -/
namespace tocsinlaw03_DiskApart
abbrev KT := Bool → World → Prop
def Kt (Kv : Value → World → Prop) : KT := fun b1 w => Kv (.bool b1) w
noncomputable def bd : Code := bdy Try.f5
theorem fn : FnOk pr 5 102 Try.f5 := ⟨Try.func5, by kernel_rfl, Try.ntmps5, by kernel_rfl, by kernel_rfl⟩
def F : Clee := ofL [(11, C.tocsinlaw03_known.cl), (12, C.disk_Disk_Read.cl), (14, C.tocsinref01_Same.cl), (18, C.tocsinlaw03_files.cl), (19, C.tocsinref03_Disk_Copy.cl), (20, C.tocsinlaw03_step.cl), (21, C.disk_Disk_Size.cl)]
theorem FOk_ : FOk pr F := FOk_cons C.tocsinlaw03_known.clok (FOk_cons C.disk_Disk_Read.clok (FOk_cons C.tocsinref01_Same.clok (FOk_cons C.tocsinlaw03_files.clok (FOk_cons C.tocsinref03_Disk_Copy.clok (FOk_cons C.tocsinlaw03_step.clok (FOk_cons C.disk_Disk_Size.clok (FOk_nil)))))))
def P1 (Kv : Value → World → Prop) : Post := bodyK false pr 102 Try.f5 Kv
@[reducible] def g2 : List SE := []
def S2 (K : KT) (w : World) : Prop :=
  C.tocsinlaw03_known w fun b23 w24 => K b23 w24
theorem S2_ok (Kv : Value → World → Prop) : OkT pr false none 102 g2 (S2 (Kt Kv)) (s2 (tl 2 (tl 4 bd))) (P1 Kv) := ok_last mixed FOk_ fun v ρ w => by kernel_rfl
def P3 (Kv : Value → World → Prop) : Post := next (get g2 (S2 (Kt Kv))) (P1 Kv)
def P4 (Kv : Value → World → Prop) : Post := inBlock 0 (P3 Kv)
@[reducible] def g5 : List SE := [.v 3 .ptr, .v 5 .ptr, .v 7 .ptr, .v 8 (.int .i64)]
def P6 (Kv : Value → World → Prop) (kc5 : Cur g5) : Post := next (get g5 kc5) (P4 Kv)
def S7 (K : KT) (kc5 : Cur g5) (o_33 : Option Addr) (d_34 : Option Addr) (was_35 : Option Addr) (i_36 : Int) (w : World) : Prop :=
  G.ptr was_35 fun p37 => G.cSl p37 w fun l38 => G.cond (decide (i_36 < ((l38.n : Nat) : Int))) (G.ptr was_35 fun p39 => G.cSl p39 w fun l40 => G.ix l40.a l40.n i_36 3 fun p41 => G.cS p41 w fun s42 => G.cSl (p41.add 1) w fun l43 => G.cI .i64 (p41.add 2) w fun n44 => G.new (.cells #[(.string (⟨#[]⟩ : ByteArray)), nilS.v, (.int .i64 (0 : Int))] 51) w fun p45 w46 => G.st p45 (.string s42) w46 fun w47 => G.st (p45.add 1) l43.v w47 fun w48 => G.st (p45.add 2) (.int .i64 n44) w48 fun w49 => G.cS p45 w49 fun s50 => G.ptr o_33 fun p51 => G.cS (p51.add 1) w49 fun s52 => G.cond (s50.toList == s52.toList) (kc5 o_33 d_34 was_35 (IntKind.i64.wrap (i_36 + (1 : Int))) w49) (G.ptr o_33 fun p53 => G.cI .i64 p53 w49 fun n54 => G.cond (n54 == (3 : Int)) (G.cS p45 w49 fun s55 => G.ptr o_33 fun p56 => G.cS (p56.add 2) w49 fun s57 => G.cond (s55.toList == s57.toList) (kc5 o_33 d_34 was_35 (IntKind.i64.wrap (i_36 + (1 : Int))) w49) (G.cS p45 w49 fun s58 => C.disk_Disk_Read d_34 s58 w49 fun l59 n60 w61 => G.cS p45 w61 fun s62 => C.disk_Disk_Size d_34 s62 w61 fun n63 n64 n65 w66 => G.cond (n60 != (0 : Int)) (K false w66) (G.cSl (p45.add 1) w66 fun l67 => C.tocsinref01_Same l59 l67 w66 fun b68 w69 => G.cond (!b68) (K false w69) (G.cI .i64 (p45.add 2) w69 fun n70 => G.cond (n64 != n70) (K false w69) (kc5 o_33 d_34 was_35 (IntKind.i64.wrap (i_36 + (1 : Int))) w69))))) (G.cS p45 w49 fun s71 => C.disk_Disk_Read d_34 s71 w49 fun l72 n73 w74 => G.cS p45 w74 fun s75 => C.disk_Disk_Size d_34 s75 w74 fun n76 n77 n78 w79 => G.cond (n73 != (0 : Int)) (K false w79) (G.cSl (p45.add 1) w79 fun l80 => C.tocsinref01_Same l72 l80 w79 fun b81 w82 => G.cond (!b81) (K false w82) (G.cI .i64 (p45.add 2) w82 fun n83 => G.cond (n77 != n83) (K false w82) (kc5 o_33 d_34 was_35 (IntKind.i64.wrap (i_36 + (1 : Int))) w82)))))) (S2 K w)
theorem S7_ok (Kv : Value → World → Prop) (kc5 : Cur g5) : OkT pr false none 102 g5 (S7 (Kt Kv) kc5) (lp (blk (tl 1 (s1 (tl 2 (tl 4 bd)))))) (P6 Kv kc5) := ok_last mixed FOk_ fun v ρ w => by kernel_rfl
def L5 (K : KT) : Cur g5 := loopC g5 (S7 K)
theorem L5_ok (Kv : Value → World → Prop) : OkT pr false none 102 g5 (L5 (Kt Kv)) (blk (tl 1 (s1 (tl 2 (tl 4 bd))))) (P4 Kv) := ok_loop (B := S7 (Kt Kv)) (by kernel_rfl) fun kc => S7_ok Kv kc
theorem L5_ind {K : KT} {o_25 : Option Addr} {d_26 : Option Addr} {was_27 : Option Addr} {i_28 : Int} {w : World} (h : ∀ X : Cur g5, (∀ o_25 d_26 was_27 i_28 w, S7 K X o_25 d_26 was_27 i_28 w → X o_25 d_26 was_27 i_28 w) → X o_25 d_26 was_27 i_28 w) : L5 K o_25 d_26 was_27 i_28 w := fun X hX => h X fun o_25 d_26 was_27 i_28 w hb => hX (o_25, d_26, was_27, i_28, ()) w hb
theorem B8 (Kv : Value → World → Prop) : OkT pr false none 102 g5 (L5 (Kt Kv)) (tl 1 (s1 (tl 2 (tl 4 bd)))) (P3 Kv) := ok_block 0 (by kernel_rfl) (L5_ok Kv)
@[reducible] def g9 : List SE := [.v 3 .ptr, .v 5 .ptr, .v 7 .ptr]
def S9 (K : KT) (o_84 : Option Addr) (d_85 : Option Addr) (was_86 : Option Addr) (w : World) : Prop :=
  L5 K o_84 d_85 was_86 (0 : Int) w
theorem S9_ok (Kv : Value → World → Prop) : OkT pr false none 102 g9 (S9 (Kt Kv)) (s1 (tl 2 (tl 4 bd))) (P3 Kv) := ok_group mixed FOk_ 1 (B8 Kv) fun v ρ w => by kernel_rfl
theorem Q10 (Kv : Value → World → Prop) : OkT pr false none 102 g9 (S9 (Kt Kv)) (tl 2 (tl 4 bd)) (P1 Kv) := ok_seq (by kernel_rfl) (S2_ok Kv) (S9_ok Kv)
@[reducible] def g11 : List SE := [.v 3 .ptr, .v 5 .ptr, .v 6 .ptr]
def S11 (K : KT) (o_87 : Option Addr) (d_88 : Option Addr) (r_89 : Option Addr) (w : World) : Prop :=
  C.tocsinref03_Disk_Copy r_89 w fun p90 w91 => G.ptr o_87 fun p92 => G.cI .i64 p92 w91 fun n93 => G.cS (p92.add 1) w91 fun s94 => G.cS (p92.add 2) w91 fun s95 => G.cSl (p92.add 3) w91 fun l96 => G.cI .i64 (p92.add 4) w91 fun n97 => G.cSl (p92.add 5) w91 fun l98 => C.tocsinlaw03_step d_88 r_89 n93 s94 s95 l96 n97 l98 w91 fun b99 w100 => G.cond (!b99) (K false w100) (S9 K o_87 d_88 p90 w100)
theorem S11_ok (Kv : Value → World → Prop) : OkT pr false none 102 g11 (S11 (Kt Kv)) (tl 4 bd) (P1 Kv) := ok_group mixed FOk_ 2 (Q10 Kv) fun v ρ w => by kernel_rfl
end tocsinlaw03_DiskApart
def tocsinlaw03_DiskApart (script_2 : Sl) (o_3 : Int) (o_4 : ByteArray) (o_5 : ByteArray) (o_6 : Sl) (o_7 : Int) (o_8 : Sl) (w : World) (K : tocsinlaw03_DiskApart.KT) : Prop :=
  G.new (.cells #[(.int .i64 o_3), (.string o_4), (.string o_5), o_6.v, (.int .i64 o_7), o_8.v] 45) w fun p101 w102 => C.tocsinlaw03_files script_2 w102 fun p103 p104 w105 => G.cond p103.isNone (K false w105) (G.cI .i64 p101 w105 fun n106 => G.cond (decide (n106 < (0 : Int))) (G.st p101 (.int .i64 (0 : Int)) w105 fun w107 => tocsinlaw03_DiskApart.S11 K (some p101) p103 p104 w107) (G.cI .i64 p101 w105 fun n108 => G.cond (decide (n108 > (4 : Int))) (G.st p101 (.int .i64 (0 : Int)) w105 fun w109 => tocsinlaw03_DiskApart.S11 K (some p101) p103 p104 w109) (tocsinlaw03_DiskApart.S11 K (some p101) p103 p104 w105)))
def tocsinlaw03_DiskApart.cl : CL := fun args K w => match args with
  | [.slice x0_a x0_n x0_c, .agg ⟨[.int .i64 x1_0, .string x1_1, .string x1_2, .slice x1_3_a x1_3_n x1_3_c, .int .i64 x1_4, .slice x1_5_a x1_5_n x1_5_c]⟩] => C.tocsinlaw03_DiskApart ⟨x0_a, x0_n, x0_c⟩ x1_0 x1_1 x1_2 ⟨x1_3_a, x1_3_n, x1_3_c⟩ x1_4 ⟨x1_5_a, x1_5_n, x1_5_c⟩ w (tocsinlaw03_DiskApart.Kt K)
  | _ => False
theorem tocsinlaw03_DiskApart.clok : OkC pr 5 tocsinlaw03_DiskApart.cl := by
  intro args K w h
  unfold tocsinlaw03_DiskApart.cl at h
  split at h
  · exact calls_group false mixed tocsinlaw03_DiskApart.FOk_ tocsinlaw03_DiskApart.fn rfl 4 (tocsinlaw03_DiskApart.S11_ok K) (Eq.mp (by kernel_rfl) h)
  · exact h.elim

/-! (*tocsin/disk.Disk).Copy -/
namespace disk_Disk_Copy
abbrev KT := Option Addr → World → Prop
def Kt (Kv : Value → World → Prop) : KT := fun p1 w => Kv (.pointer p1) w
noncomputable def bd : Code := bdy Try.f22
theorem fn : FnOk pr 22 30 Try.f22 := ⟨Try.func22, by kernel_rfl, Try.ntmps22, by kernel_rfl, by kernel_rfl⟩
def F : Clee := ofL [(9, C.disk_New.cl), (32, C.disk_file_again.cl)]
theorem FOk_ : FOk pr F := FOk_cons C.disk_New.clok (FOk_cons C.disk_file_again.clok (FOk_nil))
def P1 (Kv : Value → World → Prop) : Post := bodyK false pr 30 Try.f22 Kv
@[reducible] def g2 : List SE := [.v 3 .ptr]
def S2 (K : KT) (c_4 : Option Addr) (w : World) : Prop :=
  K c_4 w
theorem S2_ok (Kv : Value → World → Prop) : OkT pr false none 30 g2 (S2 (Kt Kv)) (s2 (tl 3 bd)) (P1 Kv) := ok_last mixed FOk_ fun v ρ w => by kernel_rfl
def P3 (Kv : Value → World → Prop) : Post := next (get g2 (S2 (Kt Kv))) (P1 Kv)
def P4 (Kv : Value → World → Prop) : Post := inBlock 0 (P3 Kv)
@[reducible] def g5 : List SE := [.v 3 .ptr, .v 13 .ptr]
def P6 (Kv : Value → World → Prop) (kc5 : Cur g5) : Post := next (get g5 kc5) (P4 Kv)
def S7 (K : KT) (kc5 : Cur g5) (c_9 : Option Addr) (p10 : Option Addr) (w : World) : Prop :=
  G.nxt pr (Instr.next (.pointer p10) false 0) w (fun w11 => S2 K c_9 w11) (fun k13 x14 w12 => G.ent pr (Instr.entry (.pointer p10)) w12 fun k15 x16 => G.vS (some k15) fun s17 => G.ag x16 2 fun c18 => G.vSl c18[0 + 0]? fun l19 => G.vI .i64 c18[0 + 1]? fun n20 => G.new (.cells #[nilS.v, (.int .i64 (0 : Int))] 68) w12 fun p21 w22 => G.st p21 l19.v w22 fun w23 => G.st (p21.add 1) (.int .i64 n20) w23 fun w24 => G.ptr c_9 fun p25 => G.cM p25 w24.drew fun m26 => G.cSl p21 w24.drew fun l27 => G.cI .i64 (p21.add 1) w24.drew fun n28 => G.cSl p21 w24.drew fun l29 => C.disk_file_again l27 n28 ((l29.n : Nat) : Int) w24.drew fun l30 n31 w32 => sameAt p25 1 w24.drew w32 ∧ (G.runU pr (Instr.mapUpdate 64 (.map m26) (.string s17) (.agg #[l30.v, (.int .i64 n31)])) w32 fun w33 => kc5 c_9 p10 w33))
theorem S7_ok (Kv : Value → World → Prop) (kc5 : Cur g5) : OkT pr false none 30 g5 (S7 (Kt Kv) kc5) (lp (blk (tl 1 (s1 (tl 3 bd))))) (P6 Kv kc5) := ok_last mixed FOk_ fun v ρ w => by kernel_rfl
def L5 (K : KT) : Cur g5 := loopC g5 (S7 K)
theorem L5_ok (Kv : Value → World → Prop) : OkT pr false none 30 g5 (L5 (Kt Kv)) (blk (tl 1 (s1 (tl 3 bd)))) (P4 Kv) := ok_loop (B := S7 (Kt Kv)) (by kernel_rfl) fun kc => S7_ok Kv kc
theorem L5_ind {K : KT} {c_5 : Option Addr} {p6 : Option Addr} {w : World} (h : ∀ X : Cur g5, (∀ c_5 p6 w, S7 K X c_5 p6 w → X c_5 p6 w) → X c_5 p6 w) : L5 K c_5 p6 w := fun X hX => h X fun c_5 p6 w hb => hX (c_5, p6, ()) w hb
theorem B8 (Kv : Value → World → Prop) : OkT pr false none 30 g5 (L5 (Kt Kv)) (tl 1 (s1 (tl 3 bd))) (P3 Kv) := ok_block 0 (by kernel_rfl) (L5_ok Kv)
@[reducible] def g9 : List SE := [.v 0 .ptr, .v 3 .ptr]
def S9 (K : KT) (d_34 : Option Addr) (c_35 : Option Addr) (w : World) : Prop :=
  G.ptr d_34 fun p36 => G.cM p36 w fun m37 => G.runP pr (Instr.range 64 (.map m37)) w fun p38 w39 => L5 K c_35 p38 w39
theorem S9_ok (Kv : Value → World → Prop) : OkT pr false none 30 g9 (S9 (Kt Kv)) (s1 (tl 3 bd)) (P3 Kv) := ok_group mixed FOk_ 1 (B8 Kv) fun v ρ w => by kernel_rfl
theorem Q10 (Kv : Value → World → Prop) : OkT pr false none 30 g9 (S9 (Kt Kv)) (tl 3 bd) (P1 Kv) := ok_seq (by kernel_rfl) (S2_ok Kv) (S9_ok Kv)
end disk_Disk_Copy
def disk_Disk_Copy (d_2 : Option Addr) (w : World) (K : disk_Disk_Copy.KT) : Prop :=
  G.cond d_2.isNone (K none w) (C.disk_New w fun p40 w41 => disk_Disk_Copy.S9 K d_2 p40 w41)
def disk_Disk_Copy.cl : CL := fun args K w => match args with
  | [.pointer x0] => C.disk_Disk_Copy x0 w (disk_Disk_Copy.Kt K)
  | _ => False
theorem disk_Disk_Copy.clok : OkC pr 22 disk_Disk_Copy.cl := by
  intro args K w h
  unfold disk_Disk_Copy.cl at h
  split at h
  · exact calls_group false mixed disk_Disk_Copy.FOk_ disk_Disk_Copy.fn rfl 3 (disk_Disk_Copy.Q10 K) (Eq.mp (by kernel_rfl) h)
  · exact h.elim

/-! tocsin/tocsinref01.Texts -/
namespace tocsinref01_Texts
abbrev KT := Bool → World → Prop
def Kt (Kv : Value → World → Prop) : KT := fun b1 w => Kv (.bool b1) w
noncomputable def bd : Code := bdy Try.f23
theorem fn : FnOk pr 23 26 Try.f23 := ⟨Try.func23, by kernel_rfl, Try.ntmps23, by kernel_rfl, by kernel_rfl⟩
def F : Clee := ofL []
theorem FOk_ : FOk pr F := FOk_nil
def P1 (Kv : Value → World → Prop) : Post := bodyK false pr 26 Try.f23 Kv
@[reducible] def g2 : List SE := []
def S2 (K : KT) (w : World) : Prop :=
  K true w
theorem S2_ok (Kv : Value → World → Prop) : OkT pr false none 26 g2 (S2 (Kt Kv)) (s2 (tl 2 bd)) (P1 Kv) := ok_last mixed FOk_ fun v ρ w => by kernel_rfl
def P3 (Kv : Value → World → Prop) : Post := next (get g2 (S2 (Kt Kv))) (P1 Kv)
def P4 (Kv : Value → World → Prop) : Post := inBlock 0 (P3 Kv)
@[reducible] def g5 : List SE := [.v 0 .sl, .v 1 .sl, .v 5 (.int .i64)]
def P6 (Kv : Value → World → Prop) (kc5 : Cur g5) : Post := next (get g5 kc5) (P4 Kv)
def S7 (K : KT) (kc5 : Cur g5) (a_10 : Sl) (b_11 : Sl) (i_12 : Int) (w : World) : Prop :=
  G.cond (decide (i_12 < ((a_10.n : Nat) : Int))) (G.ix a_10.a a_10.n i_12 1 fun p13 => G.cS p13 w.drew fun s14 => G.ix b_11.a b_11.n i_12 1 fun p15 => G.cS p15 w.drew fun s16 => G.cond (!(s14.toList == s16.toList)) (K false w.drew) (kc5 a_10 b_11 (IntKind.i64.wrap (i_12 + (1 : Int))) w.drew)) (S2 K w)
theorem S7_ok (Kv : Value → World → Prop) (kc5 : Cur g5) : OkT pr false none 26 g5 (S7 (Kt Kv) kc5) (lp (blk (tl 1 (s1 (tl 2 bd))))) (P6 Kv kc5) := ok_last mixed FOk_ fun v ρ w => by kernel_rfl
def L5 (K : KT) : Cur g5 := loopC g5 (S7 K)
theorem L5_ok (Kv : Value → World → Prop) : OkT pr false none 26 g5 (L5 (Kt Kv)) (blk (tl 1 (s1 (tl 2 bd)))) (P4 Kv) := ok_loop (B := S7 (Kt Kv)) (by kernel_rfl) fun kc => S7_ok Kv kc
theorem L5_ind {K : KT} {a_4 : Sl} {b_5 : Sl} {i_6 : Int} {w : World} (h : ∀ X : Cur g5, (∀ a_4 b_5 i_6 w, S7 K X a_4 b_5 i_6 w → X a_4 b_5 i_6 w) → X a_4 b_5 i_6 w) : L5 K a_4 b_5 i_6 w := fun X hX => h X fun a_4 b_5 i_6 w hb => hX (a_4, b_5, i_6, ()) w hb
theorem B8 (Kv : Value → World → Prop) : OkT pr false none 26 g5 (L5 (Kt Kv)) (tl 1 (s1 (tl 2 bd))) (P3 Kv) := ok_block 0 (by kernel_rfl) (L5_ok Kv)
@[reducible] def g9 : List SE := [.v 0 .sl, .v 1 .sl]
def S9 (K : KT) (a_17 : Sl) (b_18 : Sl) (w : World) : Prop :=
  L5 K a_17 b_18 (0 : Int) w
theorem S9_ok (Kv : Value → World → Prop) : OkT pr false none 26 g9 (S9 (Kt Kv)) (s1 (tl 2 bd)) (P3 Kv) := ok_group mixed FOk_ 1 (B8 Kv) fun v ρ w => by kernel_rfl
theorem Q10 (Kv : Value → World → Prop) : OkT pr false none 26 g9 (S9 (Kt Kv)) (tl 2 bd) (P1 Kv) := ok_seq (by kernel_rfl) (S2_ok Kv) (S9_ok Kv)
end tocsinref01_Texts
def tocsinref01_Texts (a_2 : Sl) (b_3 : Sl) (w : World) (K : tocsinref01_Texts.KT) : Prop :=
  G.cond (((a_2.n : Nat) : Int) != ((b_3.n : Nat) : Int)) (K false w) (tocsinref01_Texts.S9 K a_2 b_3 w)
def tocsinref01_Texts.cl : CL := fun args K w => match args with
  | [.slice x0_a x0_n x0_c, .slice x1_a x1_n x1_c] => C.tocsinref01_Texts ⟨x0_a, x0_n, x0_c⟩ ⟨x1_a, x1_n, x1_c⟩ w (tocsinref01_Texts.Kt K)
  | _ => False
theorem tocsinref01_Texts.clok : OkC pr 23 tocsinref01_Texts.cl := by
  intro args K w h
  unfold tocsinref01_Texts.cl at h
  split at h
  · exact calls_group false mixed tocsinref01_Texts.FOk_ tocsinref01_Texts.fn rfl 2 (tocsinref01_Texts.Q10 K) (Eq.mp (by kernel_rfl) h)
  · exact h.elim

/-! (*tocsin/tocsinref03.Disk).List -/
namespace tocsinref03_Disk_List
abbrev KT := Sl → World → Prop
def Kt (Kv : Value → World → Prop) : KT := fun l1 w => Kv l1.v w
noncomputable def bd : Code := bdy Try.f24
theorem fn : FnOk pr 24 26 Try.f24 := ⟨Try.func24, by kernel_rfl, Try.ntmps24, by kernel_rfl, by kernel_rfl⟩
def F : Clee := ofL []
theorem FOk_ : FOk pr F := FOk_nil
def P1 (Kv : Value → World → Prop) : Post := bodyK false pr 26 Try.f24 Kv
@[reducible] def g2 : List SE := [.v 3 .sl]
def S2 (K : KT) (l_3 : Sl) (w : World) : Prop :=
  K l_3 w
theorem S2_ok (Kv : Value → World → Prop) : OkT pr false none 26 g2 (S2 (Kt Kv)) (s2 (tl 2 bd)) (P1 Kv) := ok_last mixed FOk_ fun v ρ w => by kernel_rfl
def P3 (Kv : Value → World → Prop) : Post := next (get g2 (S2 (Kt Kv))) (P1 Kv)
def P4 (Kv : Value → World → Prop) : Post := inBlock 0 (P3 Kv)
@[reducible] def g5 : List SE := [.v 0 .ptr, .v 3 .sl, .v 4 (.int .i64)]
def P6 (Kv : Value → World → Prop) (kc5 : Cur g5) : Post := next (get g5 kc5) (P4 Kv)
def S7 (K : KT) (kc5 : Cur g5) (d_10 : Option Addr) (l_11 : Sl) (i_12 : Int) (w : World) : Prop :=
  G.ptr d_10 fun p13 => G.cSl p13 w fun l14 => G.cond (decide (i_12 < ((l14.n : Nat) : Int))) (G.ptr d_10 fun p15 => G.cSl p15 w fun l16 => G.ix l16.a l16.n i_12 3 fun p17 => G.cS p17 w fun s18 => G.new (.cells #[(.string s18)] 9) w fun p19 w20 => G.runSl pr (Builtin.append_ #[39, 39] 39 #[l_11.v, (Sl.v (⟨some p19, 1, 1⟩ : Sl))]) w20 fun l21 w22 => kc5 d_10 l21 (IntKind.i64.wrap (i_12 + (1 : Int))) w22) (S2 K l_11 w)
theorem S7_ok (Kv : Value → World → Prop) (kc5 : Cur g5) : OkT pr false none 26 g5 (S7 (Kt Kv) kc5) (lp (blk (tl 1 (s1 (tl 2 bd))))) (P6 Kv kc5) := ok_last mixed FOk_ fun v ρ w => by kernel_rfl
def L5 (K : KT) : Cur g5 := loopC g5 (S7 K)
theorem L5_ok (Kv : Value → World → Prop) : OkT pr false none 26 g5 (L5 (Kt Kv)) (blk (tl 1 (s1 (tl 2 bd)))) (P4 Kv) := ok_loop (B := S7 (Kt Kv)) (by kernel_rfl) fun kc => S7_ok Kv kc
theorem L5_ind {K : KT} {d_4 : Option Addr} {l_5 : Sl} {i_6 : Int} {w : World} (h : ∀ X : Cur g5, (∀ d_4 l_5 i_6 w, S7 K X d_4 l_5 i_6 w → X d_4 l_5 i_6 w) → X d_4 l_5 i_6 w) : L5 K d_4 l_5 i_6 w := fun X hX => h X fun d_4 l_5 i_6 w hb => hX (d_4, l_5, i_6, ()) w hb
theorem B8 (Kv : Value → World → Prop) : OkT pr false none 26 g5 (L5 (Kt Kv)) (tl 1 (s1 (tl 2 bd))) (P3 Kv) := ok_block 0 (by kernel_rfl) (L5_ok Kv)
@[reducible] def g9 : List SE := [.v 0 .ptr, .v 3 .sl]
def S9 (K : KT) (d_23 : Option Addr) (l_24 : Sl) (w : World) : Prop :=
  L5 K d_23 l_24 (0 : Int) w
theorem S9_ok (Kv : Value → World → Prop) : OkT pr false none 26 g9 (S9 (Kt Kv)) (s1 (tl 2 bd)) (P3 Kv) := ok_group mixed FOk_ 1 (B8 Kv) fun v ρ w => by kernel_rfl
theorem Q10 (Kv : Value → World → Prop) : OkT pr false none 26 g9 (S9 (Kt Kv)) (tl 2 bd) (P1 Kv) := ok_seq (by kernel_rfl) (S2_ok Kv) (S9_ok Kv)
end tocsinref03_Disk_List
def tocsinref03_Disk_List (d_2 : Option Addr) (w : World) (K : tocsinref03_Disk_List.KT) : Prop :=
  tocsinref03_Disk_List.S9 K d_2 nilS w
def tocsinref03_Disk_List.cl : CL := fun args K w => match args with
  | [.pointer x0] => C.tocsinref03_Disk_List x0 w (tocsinref03_Disk_List.Kt K)
  | _ => False
theorem tocsinref03_Disk_List.clok : OkC pr 24 tocsinref03_Disk_List.cl := by
  intro args K w h
  unfold tocsinref03_Disk_List.cl at h
  split at h
  · exact calls_group false mixed tocsinref03_Disk_List.FOk_ tocsinref03_Disk_List.fn rfl 2 (tocsinref03_Disk_List.Q10 K) (Eq.mp (by kernel_rfl) h)
  · exact h.elim

/-! tocsin/tocsinlaw03.alike -/
namespace tocsinlaw03_alike
abbrev KT := Bool → World → Prop
def Kt (Kv : Value → World → Prop) : KT := fun b1 w => Kv (.bool b1) w
noncomputable def bd : Code := bdy Try.f25
theorem fn : FnOk pr 25 81 Try.f25 := ⟨Try.func25, by kernel_rfl, Try.ntmps25, by kernel_rfl, by kernel_rfl⟩
def F : Clee := ofL [(12, C.disk_Disk_Read.cl), (14, C.tocsinref01_Same.cl), (17, C.disk_Disk_List.cl), (21, C.disk_Disk_Size.cl), (23, C.tocsinref01_Texts.cl), (24, C.tocsinref03_Disk_List.cl)]
theorem FOk_ : FOk pr F := FOk_cons C.disk_Disk_Read.clok (FOk_cons C.tocsinref01_Same.clok (FOk_cons C.disk_Disk_List.clok (FOk_cons C.disk_Disk_Size.clok (FOk_cons C.tocsinref01_Texts.clok (FOk_cons C.tocsinref03_Disk_List.clok (FOk_nil))))))
def P1 (Kv : Value → World → Prop) : Post := bodyK false pr 81 Try.f25 Kv
@[reducible] def g2 : List SE := []
def S2 (K : KT) (w : World) : Prop :=
  K true w
theorem S2_ok (Kv : Value → World → Prop) : OkT pr false none 81 g2 (S2 (Kt Kv)) (s2 (tl 3 bd)) (P1 Kv) := ok_last mixed FOk_ fun v ρ w => by kernel_rfl
def P3 (Kv : Value → World → Prop) : Post := next (get g2 (S2 (Kt Kv))) (P1 Kv)
def P4 (Kv : Value → World → Prop) : Post := inBlock 0 (P3 Kv)
@[reducible] def g5 : List SE := [.v 0 .ptr, .v 1 .ptr, .v 5 .sl, .v 6 (.int .i64)]
def P6 (Kv : Value → World → Prop) (kc5 : Cur g5) : Post := next (get g5 kc5) (P4 Kv)
def S7 (K : KT) (kc5 : Cur g5) (d_12 : Option Addr) (r_13 : Option Addr) (l_14 : Sl) (i_15 : Int) (w : World) : Prop :=
  G.cond (decide (i_15 < ((l_14.n : Nat) : Int))) (G.ix l_14.a l_14.n i_15 1 fun p16 => G.cS p16 w fun s17 => C.disk_Disk_Read d_12 s17 w fun l18 n19 w20 => G.ix l_14.a l_14.n i_15 1 fun p21 => G.cS p21 w20 fun s22 => C.disk_Disk_Size d_12 s22 w20 fun n23 n24 n25 w26 => G.cond (n19 != (0 : Int)) (K false w26) (G.cond (n25 != (0 : Int)) (K false w26) (G.ptr r_13 fun p27 => G.cSl p27 w26 fun l28 => G.ix l28.a l28.n i_15 3 fun p29 => G.cSl (p29.add 1) w26 fun l30 => C.tocsinref01_Same l18 l30 w26 fun b31 w32 => G.cond (!b31) (K false w32) (G.cond (n23 != ((l18.n : Nat) : Int)) (K false w32) (G.ptr r_13 fun p33 => G.cSl p33 w32 fun l34 => G.ix l34.a l34.n i_15 3 fun p35 => G.cI .i64 (p35.add 2) w32 fun n36 => G.cond (n24 != n36) (K false w32) (kc5 d_12 r_13 l_14 (IntKind.i64.wrap (i_15 + (1 : Int))) w32)))))) (S2 K w)
theorem S7_ok (Kv : Value → World → Prop) (kc5 : Cur g5) : OkT pr false none 81 g5 (S7 (Kt Kv) kc5) (lp (blk (tl 1 (s1 (tl 3 bd))))) (P6 Kv kc5) := ok_last mixed FOk_ fun v ρ w => by kernel_rfl
def L5 (K : KT) : Cur g5 := loopC g5 (S7 K)
theorem L5_ok (Kv : Value → World → Prop) : OkT pr false none 81 g5 (L5 (Kt Kv)) (blk (tl 1 (s1 (tl 3 bd)))) (P4 Kv) := ok_loop (B := S7 (Kt Kv)) (by kernel_rfl) fun kc => S7_ok Kv kc
theorem L5_ind {K : KT} {d_4 : Option Addr} {r_5 : Option Addr} {l_6 : Sl} {i_7 : Int} {w : World} (h : ∀ X : Cur g5, (∀ d_4 r_5 l_6 i_7 w, S7 K X d_4 r_5 l_6 i_7 w → X d_4 r_5 l_6 i_7 w) → X d_4 r_5 l_6 i_7 w) : L5 K d_4 r_5 l_6 i_7 w := fun X hX => h X fun d_4 r_5 l_6 i_7 w hb => hX (d_4, r_5, l_6, i_7, ()) w hb
theorem B8 (Kv : Value → World → Prop) : OkT pr false none 81 g5 (L5 (Kt Kv)) (tl 1 (s1 (tl 3 bd))) (P3 Kv) := ok_block 0 (by kernel_rfl) (L5_ok Kv)
@[reducible] def g9 : List SE := [.v 0 .ptr, .v 1 .ptr, .v 5 .sl]
def S9 (K : KT) (d_37 : Option Addr) (r_38 : Option Addr) (l_39 : Sl) (w : World) : Prop :=
  L5 K d_37 r_38 l_39 (0 : Int) w
theorem S9_ok (Kv : Value → World → Prop) : OkT pr false none 81 g9 (S9 (Kt Kv)) (s1 (tl 3 bd)) (P3 Kv) := ok_group mixed FOk_ 1 (B8 Kv) fun v ρ w => by kernel_rfl
theorem Q10 (Kv : Value → World → Prop) : OkT pr false none 81 g9 (S9 (Kt Kv)) (tl 3 bd) (P1 Kv) := ok_seq (by kernel_rfl) (S2_ok Kv) (S9_ok Kv)
end tocsinlaw03_alike
def tocsinlaw03_alike (d_2 : Option Addr) (r_3 : Option Addr) (w : World) (K : tocsinlaw03_alike.KT) : Prop :=
  C.disk_Disk_List d_2 w fun l40 w41 => C.tocsinref03_Disk_List r_3 w41 fun l42 w43 => C.tocsinref01_Texts l40 l42 w43 fun b44 w45 => G.cond (!b44) (K false w45) (tocsinlaw03_alike.S9 K d_2 r_3 l40 w45)
def tocsinlaw03_alike.cl : CL := fun args K w => match args with
  | [.pointer x0, .pointer x1] => C.tocsinlaw03_alike x0 x1 w (tocsinlaw03_alike.Kt K)
  | _ => False
theorem tocsinlaw03_alike.clok : OkC pr 25 tocsinlaw03_alike.cl := by
  intro args K w h
  unfold tocsinlaw03_alike.cl at h
  split at h
  · exact calls_group false mixed tocsinlaw03_alike.FOk_ tocsinlaw03_alike.fn rfl 3 (tocsinlaw03_alike.Q10 K) (Eq.mp (by kernel_rfl) h)
  · exact h.elim

/-! tocsin/tocsinlaw03.DiskPlays -/
namespace tocsinlaw03_DiskPlays
abbrev KT := Bool → World → Prop
def Kt (Kv : Value → World → Prop) : KT := fun b1 w => Kv (.bool b1) w
noncomputable def bd : Code := bdy Try.f6
theorem fn : FnOk pr 6 72 Try.f6 := ⟨Try.func6, by kernel_rfl, Try.ntmps6, by kernel_rfl, by kernel_rfl⟩
def F : Clee := ofL [(9, C.disk_New.cl), (10, C.disk_Disk_Append.cl), (11, C.tocsinlaw03_known.cl), (17, C.disk_Disk_List.cl), (19, C.tocsinref03_Disk_Copy.cl), (20, C.tocsinlaw03_step.cl), (22, C.disk_Disk_Copy.cl), (23, C.tocsinref01_Texts.cl), (24, C.tocsinref03_Disk_List.cl), (25, C.tocsinlaw03_alike.cl)]
theorem FOk_ : FOk pr F := FOk_cons C.disk_New.clok (FOk_cons C.disk_Disk_Append.clok (FOk_cons C.tocsinlaw03_known.clok (FOk_cons C.disk_Disk_List.clok (FOk_cons C.tocsinref03_Disk_Copy.clok (FOk_cons C.tocsinlaw03_step.clok (FOk_cons C.disk_Disk_Copy.clok (FOk_cons C.tocsinref01_Texts.clok (FOk_cons C.tocsinref03_Disk_List.clok (FOk_cons C.tocsinlaw03_alike.clok (FOk_nil))))))))))
def P1 (Kv : Value → World → Prop) : Post := bodyK false pr 72 Try.f6 Kv
@[reducible] def g2 : List SE := [.v 0 .sl, .v 1 (.int .i64), .v 5 .ptr, .v 6 .ptr, .v 7 .ptr, .v 8 .ptr]
def S2 (K : KT) (script_6 : Sl) (cut_7 : Int) (d_8 : Option Addr) (r_9 : Option Addr) (c_10 : Option Addr) (was_11 : Option Addr) (w : World) : Prop :=
  G.cond (decide (cut_7 ≥ (0 : Int))) (G.cond (decide (cut_7 < ((script_6.n : Nat) : Int))) (G.cond c_10.isNone (K false w) (C.tocsinlaw03_alike c_10 was_11 w fun b12 w13 => G.cond (!b12) (K false w13) (G.new (.cells #[(.int .u8 (120 : Int))] 5) w13 fun p14 w15 => G.runSl pr (Go.convert 25 25 (Sl.v (⟨some p14, 1, 1⟩ : Sl))) w15 fun l16 w17 => C.disk_Disk_Append c_10 (⟨#[111, 116, 104, 101, 114]⟩ : ByteArray) l16 w17 fun n18 w19 => C.tocsinlaw03_alike d_8 r_9 w19 fun b20 w21 => G.cond b20 (C.tocsinlaw03_known w21 fun b22 w23 => K b22 w23) (K false w21)))) (C.tocsinlaw03_alike d_8 r_9 w fun b24 w25 => G.cond b24 (C.tocsinlaw03_known w25 fun b26 w27 => K b26 w27) (K false w25))) (C.tocsinlaw03_alike d_8 r_9 w fun b28 w29 => G.cond b28 (C.tocsinlaw03_known w29 fun b30 w31 => K b30 w31) (K false w29))
theorem S2_ok (Kv : Value → World → Prop) : OkT pr false none 72 g2 (S2 (Kt Kv)) (s2 (tl 6 bd)) (P1 Kv) := ok_last mixed FOk_ fun v ρ w => by kernel_rfl
def P3 (Kv : Value → World → Prop) : Post := next (get g2 (S2 (Kt Kv))) (P1 Kv)
def P4 (Kv : Value → World → Prop) : Post := inBlock 0 (P3 Kv)
@[reducible] def g5 : List SE := [.v 0 .sl, .v 1 (.int .i64), .v 5 .ptr, .v 6 .ptr, .v 7 .ptr, .v 8 .ptr, .v 9 (.int .i64)]
def P6 (Kv : Value → World → Prop) (kc5 : Cur g5) : Post := next (get g5 kc5) (P4 Kv)
def S7 (K : KT) (kc5 : Cur g5) (script_46 : Sl) (cut_47 : Int) (d_48 : Option Addr) (r_49 : Option Addr) (c_50 : Option Addr) (was_51 : Option Addr) (i_52 : Int) (w : World) : Prop :=
  G.cond (decide (i_52 < ((script_46.n : Nat) : Int))) (G.cond (i_52 == cut_47) (C.disk_Disk_Copy d_48 w fun p53 w54 => C.tocsinref03_Disk_Copy r_49 w54 fun p55 w56 => G.ix script_46.a script_46.n i_52 6 fun p57 => G.cI .i64 p57 w56 fun n58 => G.cS (p57.add 1) w56 fun s59 => G.cS (p57.add 2) w56 fun s60 => G.cSl (p57.add 3) w56 fun l61 => G.cI .i64 (p57.add 4) w56 fun n62 => G.cSl (p57.add 5) w56 fun l63 => C.tocsinlaw03_step d_48 r_49 n58 s59 s60 l61 n62 l63 w56 fun b64 w65 => G.cond (!b64) (K false w65) (C.disk_Disk_List d_48 w65 fun l66 w67 => C.tocsinref03_Disk_List r_49 w67 fun l68 w69 => C.tocsinref01_Texts l66 l68 w69 fun b70 w71 => G.cond (!b70) (K false w71) (kc5 script_46 cut_47 d_48 r_49 p53 p55 (IntKind.i64.wrap (i_52 + (1 : Int))) w71))) (G.ix script_46.a script_46.n i_52 6 fun p72 => G.cI .i64 p72 w fun n73 => G.cS (p72.add 1) w fun s74 => G.cS (p72.add 2) w fun s75 => G.cSl (p72.add 3) w fun l76 => G.cI .i64 (p72.add 4) w fun n77 => G.cSl (p72.add 5) w fun l78 => C.tocsinlaw03_step d_48 r_49 n73 s74 s75 l76 n77 l78 w fun b79 w80 => G.cond (!b79) (K false w80) (C.disk_Disk_List d_48 w80 fun l81 w82 => C.tocsinref03_Disk_List r_49 w82 fun l83 w84 => C.tocsinref01_Texts l81 l83 w84 fun b85 w86 => G.cond (!b85) (K false w86) (kc5 script_46 cut_47 d_48 r_49 c_50 was_51 (IntKind.i64.wrap (i_52 + (1 : Int))) w86)))) (S2 K script_46 cut_47 d_48 r_49 c_50 was_51 w)
theorem S7_ok (Kv : Value → World → Prop) (kc5 : Cur g5) : OkT pr false none 72 g5 (S7 (Kt Kv) kc5) (lp (blk (tl 1 (s1 (tl 6 bd))))) (P6 Kv kc5) := ok_last mixed FOk_ fun v ρ w => by kernel_rfl
def L5 (K : KT) : Cur g5 := loopC g5 (S7 K)
theorem L5_ok (Kv : Value → World → Prop) : OkT pr false none 72 g5 (L5 (Kt Kv)) (blk (tl 1 (s1 (tl 6 bd)))) (P4 Kv) := ok_loop (B := S7 (Kt Kv)) (by kernel_rfl) fun kc => S7_ok Kv kc
theorem L5_ind {K : KT} {script_32 : Sl} {cut_33 : Int} {d_34 : Option Addr} {r_35 : Option Addr} {c_36 : Option Addr} {was_37 : Option Addr} {i_38 : Int} {w : World} (h : ∀ X : Cur g5, (∀ script_32 cut_33 d_34 r_35 c_36 was_37 i_38 w, S7 K X script_32 cut_33 d_34 r_35 c_36 was_37 i_38 w → X script_32 cut_33 d_34 r_35 c_36 was_37 i_38 w) → X script_32 cut_33 d_34 r_35 c_36 was_37 i_38 w) : L5 K script_32 cut_33 d_34 r_35 c_36 was_37 i_38 w := fun X hX => h X fun script_32 cut_33 d_34 r_35 c_36 was_37 i_38 w hb => hX (script_32, cut_33, d_34, r_35, c_36, was_37, i_38, ()) w hb
theorem B8 (Kv : Value → World → Prop) : OkT pr false none 72 g5 (L5 (Kt Kv)) (tl 1 (s1 (tl 6 bd))) (P3 Kv) := ok_block 0 (by kernel_rfl) (L5_ok Kv)
def S9 (K : KT) (script_87 : Sl) (cut_88 : Int) (d_89 : Option Addr) (r_90 : Option Addr) (c_91 : Option Addr) (was_92 : Option Addr) (w : World) : Prop :=
  L5 K script_87 cut_88 d_89 r_90 c_91 was_92 (0 : Int) w
theorem S9_ok (Kv : Value → World → Prop) : OkT pr false none 72 g2 (S9 (Kt Kv)) (s1 (tl 6 bd)) (P3 Kv) := ok_group mixed FOk_ 1 (B8 Kv) fun v ρ w => by kernel_rfl
theorem Q10 (Kv : Value → World → Prop) : OkT pr false none 72 g2 (S9 (Kt Kv)) (tl 6 bd) (P1 Kv) := ok_seq (by kernel_rfl) (S2_ok Kv) (S9_ok Kv)
end tocsinlaw03_DiskPlays
def tocsinlaw03_DiskPlays (script_2 : Sl) (cut_3 : Int) (w : World) (K : tocsinlaw03_DiskPlays.KT) : Prop :=
  C.disk_New w fun p93 w94 => G.cond p93.isNone (K false w94) (G.new (.cells #[nilS.v] 37) w94 fun p95 w96 => G.new (.cells #[nilS.v] 37) w96 fun p97 w98 => tocsinlaw03_DiskPlays.S9 K script_2 cut_3 p93 (some p95) none (some p97) w98)
def tocsinlaw03_DiskPlays.cl : CL := fun args K w => match args with
  | [.slice x0_a x0_n x0_c, .int .i64 x1] => C.tocsinlaw03_DiskPlays ⟨x0_a, x0_n, x0_c⟩ x1 w (tocsinlaw03_DiskPlays.Kt K)
  | _ => False
theorem tocsinlaw03_DiskPlays.clok : OkC pr 6 tocsinlaw03_DiskPlays.cl := by
  intro args K w h
  unfold tocsinlaw03_DiskPlays.cl at h
  split at h
  · exact calls_group false mixed tocsinlaw03_DiskPlays.FOk_ tocsinlaw03_DiskPlays.fn rfl 6 (tocsinlaw03_DiskPlays.Q10 K) (Eq.mp (by kernel_rfl) h)
  · exact h.elim

/-! tocsin/tocsinlaw03.DiskKeeps -/
namespace tocsinlaw03_DiskKeeps
abbrev KT := Bool → World → Prop
def Kt (Kv : Value → World → Prop) : KT := fun b1 w => Kv (.bool b1) w
noncomputable def bd : Code := bdy Try.f7
theorem fn : FnOk pr 7 170 Try.f7 := ⟨Try.func7, by kernel_rfl, Try.ntmps7, by kernel_rfl, by kernel_rfl⟩
def F : Clee := ofL [(11, C.tocsinlaw03_known.cl), (12, C.disk_Disk_Read.cl), (14, C.tocsinref01_Same.cl), (17, C.disk_Disk_List.cl), (18, C.tocsinlaw03_files.cl), (21, C.disk_Disk_Size.cl), (22, C.disk_Disk_Copy.cl), (23, C.tocsinref01_Texts.cl), (26, C.disk_Disk_Crash.cl)]
theorem FOk_ : FOk pr F := FOk_cons C.tocsinlaw03_known.clok (FOk_cons C.disk_Disk_Read.clok (FOk_cons C.tocsinref01_Same.clok (FOk_cons C.disk_Disk_List.clok (FOk_cons C.tocsinlaw03_files.clok (FOk_cons C.disk_Disk_Size.clok (FOk_cons C.disk_Disk_Copy.clok (FOk_cons C.tocsinref01_Texts.clok (FOk_cons C.disk_Disk_Crash.clok (FOk_nil)))))))))
def P1 (Kv : Value → World → Prop) : Post := bodyK false pr 170 Try.f7 Kv
@[reducible] def g2 : List SE := []
def S2 (K : KT) (w : World) : Prop :=
  C.tocsinlaw03_known w fun b19 w20 => K b19 w20
theorem S2_ok (Kv : Value → World → Prop) : OkT pr false none 170 g2 (S2 (Kt Kv)) (s2 (tl 4 (s2 (tl 8 bd)))) (P1 Kv) := ok_last mixed FOk_ fun v ρ w => by kernel_rfl
def P3 (Kv : Value → World → Prop) : Post := next (get g2 (S2 (Kt Kv))) (P1 Kv)
def P4 (Kv : Value → World → Prop) : Post := inBlock 2 (P3 Kv)
@[reducible] def g5 : List SE := [.v 7 .ptr, .v 11 .sl, .v 23 .ptr, .v 24 (.int .i64)]
def P6 (Kv : Value → World → Prop) (kc5 : Cur g5) : Post := next (get g5 kc5) (P4 Kv)
def S7 (K : KT) (kc5 : Cur g5) (d_29 : Option Addr) (names_30 : Sl) (again_31 : Option Addr) (i_32 : Int) (w : World) : Prop :=
  G.cond (decide (i_32 < ((names_30.n : Nat) : Int))) (G.ix names_30.a names_30.n i_32 1 fun p33 => G.cS p33 w fun s34 => C.disk_Disk_Read d_29 s34 w fun l35 n36 w37 => G.ix names_30.a names_30.n i_32 1 fun p38 => G.cS p38 w37 fun s39 => C.disk_Disk_Read again_31 s39 w37 fun l40 n41 w42 => C.tocsinref01_Same l35 l40 w42 fun b43 w44 => G.cond (!b43) (K false w44) (kc5 d_29 names_30 again_31 (IntKind.i64.wrap (i_32 + (1 : Int))) w44)) (S2 K w)
theorem S7_ok (Kv : Value → World → Prop) (kc5 : Cur g5) : OkT pr false none 170 g5 (S7 (Kt Kv) kc5) (lp (blk (tl 1 (s1 (tl 4 (s2 (tl 8 bd))))))) (P6 Kv kc5) := ok_last mixed FOk_ fun v ρ w => by kernel_rfl
def L5 (K : KT) : Cur g5 := loopC g5 (S7 K)
theorem L5_ok (Kv : Value → World → Prop) : OkT pr false none 170 g5 (L5 (Kt Kv)) (blk (tl 1 (s1 (tl 4 (s2 (tl 8 bd)))))) (P4 Kv) := ok_loop (B := S7 (Kt Kv)) (by kernel_rfl) fun kc => S7_ok Kv kc
theorem L5_ind {K : KT} {d_21 : Option Addr} {names_22 : Sl} {again_23 : Option Addr} {i_24 : Int} {w : World} (h : ∀ X : Cur g5, (∀ d_21 names_22 again_23 i_24 w, S7 K X d_21 names_22 again_23 i_24 w → X d_21 names_22 again_23 i_24 w) → X d_21 names_22 again_23 i_24 w) : L5 K d_21 names_22 again_23 i_24 w := fun X hX => h X fun d_21 names_22 again_23 i_24 w hb => hX (d_21, names_22, again_23, i_24, ()) w hb
theorem B8 (Kv : Value → World → Prop) : OkT pr false none 170 g5 (L5 (Kt Kv)) (tl 1 (s1 (tl 4 (s2 (tl 8 bd))))) (P3 Kv) := ok_block 2 (by kernel_rfl) (L5_ok Kv)
@[reducible] def g9 : List SE := [.v 7 .ptr, .v 11 .sl, .v 23 .ptr]
def S9 (K : KT) (d_45 : Option Addr) (names_46 : Sl) (again_47 : Option Addr) (w : World) : Prop :=
  L5 K d_45 names_46 again_47 (0 : Int) w
theorem S9_ok (Kv : Value → World → Prop) : OkT pr false none 170 g9 (S9 (Kt Kv)) (s1 (tl 4 (s2 (tl 8 bd)))) (P3 Kv) := ok_group mixed FOk_ 1 (B8 Kv) fun v ρ w => by kernel_rfl
theorem Q10 (Kv : Value → World → Prop) : OkT pr false none 170 g9 (S9 (Kt Kv)) (tl 4 (s2 (tl 8 bd))) (P1 Kv) := ok_seq (by kernel_rfl) (S2_ok Kv) (S9_ok Kv)
@[reducible] def g11 : List SE := [.v 2 .sl, .v 7 .ptr, .v 10 (.int .i64), .v 11 .sl]
def S11 (K : KT) (m_48 : Sl) (d_49 : Option Addr) (e_50 : Int) (names_51 : Sl) (w : World) : Prop :=
  G.cond (e_50 != (0 : Int)) (G.cond (e_50 == (1 : Int)) (C.tocsinlaw03_known w fun b52 w53 => K b52 w53) (K false w)) (C.disk_Disk_Copy d_49 w fun p54 w55 => G.cond p54.isNone (K false w55) (C.disk_Disk_Crash p54 m_48 w55 fun n56 w57 => S9 K d_49 names_51 p54 w57))
theorem S11_ok (Kv : Value → World → Prop) : OkT pr false none 170 g11 (S11 (Kt Kv)) (s2 (tl 8 bd)) (P1 Kv) := ok_group mixed FOk_ 4 (Q10 Kv) fun v ρ w => by kernel_rfl
def P12 (Kv : Value → World → Prop) : Post := next (get g11 (S11 (Kt Kv))) (P1 Kv)
def P13 (Kv : Value → World → Prop) : Post := inBlock 0 (P12 Kv)
@[reducible] def g14 : List SE := [.v 2 .sl, .v 7 .ptr, .v 9 .ptr, .v 10 (.int .i64), .v 11 .sl, .v 12 (.int .i64)]
def P15 (Kv : Value → World → Prop) (kc14 : Cur g14) : Post := next (get g14 kc14) (P13 Kv)
def S16 (K : KT) (kc14 : Cur g14) (m_70 : Sl) (d_71 : Option Addr) (c_72 : Option Addr) (e_73 : Int) (names_74 : Sl) (i_75 : Int) (w : World) : Prop :=
  G.cond (decide (i_75 < ((names_74.n : Nat) : Int))) (G.ix names_74.a names_74.n i_75 1 fun p76 => G.cS p76 w fun s77 => C.disk_Disk_Read c_72 s77 w fun l78 n79 w80 => G.ix names_74.a names_74.n i_75 1 fun p81 => G.cS p81 w80 fun s82 => C.disk_Disk_Size c_72 s82 w80 fun n83 n84 n85 w86 => G.ix names_74.a names_74.n i_75 1 fun p87 => G.cS p87 w86 fun s88 => C.disk_Disk_Read d_71 s88 w86 fun l89 n90 w91 => G.ix names_74.a names_74.n i_75 1 fun p92 => G.cS p92 w91 fun s93 => C.disk_Disk_Size d_71 s93 w91 fun n94 n95 n96 w97 => G.cond (n90 != (0 : Int)) (K false w97) (G.cond (decide (((l89.n : Nat) : Int) > ((l78.n : Nat) : Int))) (K false w97) (G.cond (decide (((l89.n : Nat) : Int) < n84)) (K false w97) (G.slc l78 0 ((l89.n : Nat) : Int) 1 fun l98 => C.tocsinref01_Same l89 l98 w97 fun b99 w100 => G.cond (!b99) (K false w100) (G.cond (e_73 == (0 : Int)) (G.cond (n94 != n95) (K false w100) (kc14 m_70 d_71 c_72 e_73 names_74 (IntKind.i64.wrap (i_75 + (1 : Int))) w100)) (kc14 m_70 d_71 c_72 e_73 names_74 (IntKind.i64.wrap (i_75 + (1 : Int))) w100)))))) (S11 K m_70 d_71 e_73 names_74 w)
theorem S16_ok (Kv : Value → World → Prop) (kc14 : Cur g14) : OkT pr false none 170 g14 (S16 (Kt Kv) kc14) (lp (blk (tl 1 (s1 (tl 8 bd))))) (P15 Kv kc14) := ok_last mixed FOk_ fun v ρ w => by kernel_rfl
def L14 (K : KT) : Cur g14 := loopC g14 (S16 K)
theorem L14_ok (Kv : Value → World → Prop) : OkT pr false none 170 g14 (L14 (Kt Kv)) (blk (tl 1 (s1 (tl 8 bd)))) (P13 Kv) := ok_loop (B := S16 (Kt Kv)) (by kernel_rfl) fun kc => S16_ok Kv kc
theorem L14_ind {K : KT} {m_58 : Sl} {d_59 : Option Addr} {c_60 : Option Addr} {e_61 : Int} {names_62 : Sl} {i_63 : Int} {w : World} (h : ∀ X : Cur g14, (∀ m_58 d_59 c_60 e_61 names_62 i_63 w, S16 K X m_58 d_59 c_60 e_61 names_62 i_63 w → X m_58 d_59 c_60 e_61 names_62 i_63 w) → X m_58 d_59 c_60 e_61 names_62 i_63 w) : L14 K m_58 d_59 c_60 e_61 names_62 i_63 w := fun X hX => h X fun m_58 d_59 c_60 e_61 names_62 i_63 w hb => hX (m_58, d_59, c_60, e_61, names_62, i_63, ()) w hb
theorem B17 (Kv : Value → World → Prop) : OkT pr false none 170 g14 (L14 (Kt Kv)) (tl 1 (s1 (tl 8 bd))) (P12 Kv) := ok_block 0 (by kernel_rfl) (L14_ok Kv)
@[reducible] def g18 : List SE := [.v 2 .sl, .v 7 .ptr, .v 9 .ptr, .v 10 (.int .i64), .v 11 .sl]
def S18 (K : KT) (m_101 : Sl) (d_102 : Option Addr) (c_103 : Option Addr) (e_104 : Int) (names_105 : Sl) (w : World) : Prop :=
  L14 K m_101 d_102 c_103 e_104 names_105 (0 : Int) w
theorem S18_ok (Kv : Value → World → Prop) : OkT pr false none 170 g18 (S18 (Kt Kv)) (s1 (tl 8 bd)) (P12 Kv) := ok_group mixed FOk_ 1 (B17 Kv) fun v ρ w => by kernel_rfl
theorem Q19 (Kv : Value → World → Prop) : OkT pr false none 170 g18 (S18 (Kt Kv)) (tl 8 bd) (P1 Kv) := ok_seq (by kernel_rfl) (S11_ok Kv) (S18_ok Kv)
end tocsinlaw03_DiskKeeps
def tocsinlaw03_DiskKeeps (script_2 : Sl) (l_3 : Sl) (m_4 : Sl) (w : World) (K : tocsinlaw03_DiskKeeps.KT) : Prop :=
  C.tocsinlaw03_files script_2 w fun p106 p107 w108 => G.cond p106.isNone (K false w108) (C.disk_Disk_Copy p106 w108 fun p109 w110 => G.cond p109.isNone (K false w110) (C.disk_Disk_Crash p106 l_3 w110 fun n111 w112 => C.disk_Disk_List p109 w112 fun l113 w114 => C.disk_Disk_List p106 w114 fun l115 w116 => C.tocsinref01_Texts l115 l113 w116 fun b117 w118 => G.cond (!b117) (K false w118) (tocsinlaw03_DiskKeeps.S18 K m_4 p106 p109 n111 l113 w118)))
def tocsinlaw03_DiskKeeps.cl : CL := fun args K w => match args with
  | [.slice x0_a x0_n x0_c, .slice x1_a x1_n x1_c, .slice x2_a x2_n x2_c] => C.tocsinlaw03_DiskKeeps ⟨x0_a, x0_n, x0_c⟩ ⟨x1_a, x1_n, x1_c⟩ ⟨x2_a, x2_n, x2_c⟩ w (tocsinlaw03_DiskKeeps.Kt K)
  | _ => False
theorem tocsinlaw03_DiskKeeps.clok : OkC pr 7 tocsinlaw03_DiskKeeps.cl := by
  intro args K w h
  unfold tocsinlaw03_DiskKeeps.cl at h
  split at h
  · exact calls_group false mixed tocsinlaw03_DiskKeeps.FOk_ tocsinlaw03_DiskKeeps.fn rfl 8 (tocsinlaw03_DiskKeeps.Q19 K) (Eq.mp (by kernel_rfl) h)
  · exact h.elim

/-! tocsin/tocsinlaw03.DiskNil -/
namespace tocsinlaw03_DiskNil
abbrev KT := Bool → World → Prop
def Kt (Kv : Value → World → Prop) : KT := fun b1 w => Kv (.bool b1) w
noncomputable def bd : Code := bdy Try.f8
theorem fn : FnOk pr 8 97 Try.f8 := ⟨Try.func8, by kernel_rfl, Try.ntmps8, by kernel_rfl, by kernel_rfl⟩
def F : Clee := ofL [(10, C.disk_Disk_Append.cl), (11, C.tocsinlaw03_known.cl), (12, C.disk_Disk_Read.cl), (17, C.disk_Disk_List.cl), (21, C.disk_Disk_Size.cl), (22, C.disk_Disk_Copy.cl), (26, C.disk_Disk_Crash.cl), (27, C.disk_Disk_Sync.cl), (28, C.disk_Disk_Cut.cl), (29, C.disk_Disk_Rename.cl), (30, C.disk_Disk_Remove.cl)]
theorem FOk_ : FOk pr F := FOk_cons C.disk_Disk_Append.clok (FOk_cons C.tocsinlaw03_known.clok (FOk_cons C.disk_Disk_Read.clok (FOk_cons C.disk_Disk_List.clok (FOk_cons C.disk_Disk_Size.clok (FOk_cons C.disk_Disk_Copy.clok (FOk_cons C.disk_Disk_Crash.clok (FOk_cons C.disk_Disk_Sync.clok (FOk_cons C.disk_Disk_Cut.clok (FOk_cons C.disk_Disk_Rename.clok (FOk_cons C.disk_Disk_Remove.clok (FOk_nil)))))))))))
def P1 (Kv : Value → World → Prop) : Post := bodyK false pr 97 Try.f8 Kv
end tocsinlaw03_DiskNil
def tocsinlaw03_DiskNil (name_2 : ByteArray) (b_3 : Sl) (n_4 : Int) (w : World) (K : tocsinlaw03_DiskNil.KT) : Prop :=
  C.disk_Disk_Read none name_2 w fun l5 n6 w7 => C.disk_Disk_Size none name_2 w7 fun n8 n9 n10 w11 => C.disk_Disk_Append none name_2 b_3 w11 fun n12 w13 => G.cond (n12 == (2 : Int)) (C.disk_Disk_Sync none name_2 w13 fun n14 w15 => G.cond (n14 == (2 : Int)) (C.disk_Disk_Cut none name_2 n_4 w15 fun n16 w17 => G.cond (n16 == (2 : Int)) (C.disk_Disk_Rename none name_2 name_2 w17 fun n18 w19 => G.cond (n18 == (2 : Int)) (C.disk_Disk_Remove none name_2 w19 fun n20 w21 => G.cond (n20 == (2 : Int)) (C.disk_Disk_Crash none nilS w21 fun n22 w23 => G.cond (n22 == (2 : Int)) (G.cond (((l5.n : Nat) : Int) == (0 : Int)) (G.cond (n6 == (2 : Int)) (G.cond (n8 == (0 : Int)) (G.cond (n9 == (0 : Int)) (G.cond (n10 == (2 : Int)) (C.disk_Disk_Copy none w23 fun p24 w25 => G.cond p24.isNone (C.disk_Disk_List none w25 fun l26 w27 => G.cond (((l26.n : Nat) : Int) == (0 : Int)) (C.tocsinlaw03_known w27 fun b28 w29 => K b28 w29) (K false w27)) (K false w25)) (K false w23)) (K false w23)) (K false w23)) (K false w23)) (K false w23)) (K false w23)) (K false w21)) (K false w19)) (K false w17)) (K false w15)) (K false w13)
def tocsinlaw03_DiskNil.cl : CL := fun args K w => match args with
  | [.string x0, .slice x1_a x1_n x1_c, .int .i64 x2] => C.tocsinlaw03_DiskNil x0 ⟨x1_a, x1_n, x1_c⟩ x2 w (tocsinlaw03_DiskNil.Kt K)
  | _ => False
theorem tocsinlaw03_DiskNil.clok : OkC pr 8 tocsinlaw03_DiskNil.cl := by
  intro args K w h
  unfold tocsinlaw03_DiskNil.cl at h
  split at h
  · exact calls_last false mixed tocsinlaw03_DiskNil.FOk_ tocsinlaw03_DiskNil.fn rfl (Eq.mp (by kernel_rfl) h)
  · exact h.elim
end C
end Go.Proofs.Ytlfpbnfdeanaeaa
