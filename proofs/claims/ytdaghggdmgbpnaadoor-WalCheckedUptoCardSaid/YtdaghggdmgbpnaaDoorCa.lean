/- Clean texts of Go functions, written by a program of this work (gen.py) off the loaded code, each shown to be what the code does. -/
import Derived.Test.YtdaghggdmgbpnaaDoorProg
import Derived.Test.YtdaghggdmgbpnaaDoorVmLift
import Derived.Test.YtdaghggdmgbpnaaDoorSortS
set_option linter.unusedVariables false
set_option maxRecDepth 100000
namespace Go.Proofs.YtdaghggdmgbpnaaDoor
open Go Vm
namespace C
noncomputable abbrev pr : Program := Tryd.prog
theorem mixed : pr.follows .mixedOrders = true := by kernel_rfl
/-! tocsin/tocsinref01.Count -/
namespace tocsinref01_Count
abbrev KT := Int → World → Prop
def Kt (Kv : Value → World → Prop) : KT := fun n1 w => Kv (.int .i64 n1) w
noncomputable def bd : Code := bdy Tryd.f7
theorem fn : FnOk pr 7 14 Tryd.f7 := ⟨Tryd.func7, by kernel_rfl, Tryd.ntmps7, by kernel_rfl, by kernel_rfl⟩
def F : Clee := ofL []
theorem FOk_ : FOk pr F := FOk_nil
def P1 (Kv : Value → World → Prop) : Post := bodyK false pr 14 Tryd.f7 Kv
end tocsinref01_Count
def tocsinref01_Count (n_2 : Int) (most_3 : Int) (w : World) (K : tocsinref01_Count.KT) : Prop :=
  G.nz most_3 <| G.cond (decide ((Int.tmod n_2 most_3) < (0 : Int))) (K (IntKind.i64.wrap ((Int.tmod n_2 most_3) + most_3)) w) (K (Int.tmod n_2 most_3) w)
def tocsinref01_Count.cl : CL := fun args K w => match args with
  | [.int .i64 x0, .int .i64 x1] => C.tocsinref01_Count x0 x1 w (tocsinref01_Count.Kt K)
  | _ => False
theorem tocsinref01_Count.clok : OkC pr 7 tocsinref01_Count.cl := by
  intro args K w h
  unfold tocsinref01_Count.cl at h
  split at h
  · exact calls_last false mixed tocsinref01_Count.FOk_ tocsinref01_Count.fn rfl (Eq.mp (by kernel_rfl) h)
  · exact h.elim

/-! tocsin/disk.New -/
namespace disk_New
abbrev KT := Option Addr → World → Prop
def Kt (Kv : Value → World → Prop) : KT := fun p1 w => Kv (.pointer p1) w
noncomputable def bd : Code := bdy Tryd.f8
theorem fn : FnOk pr 8 4 Tryd.f8 := ⟨Tryd.func8, by kernel_rfl, Tryd.ntmps8, by kernel_rfl, by kernel_rfl⟩
def F : Clee := ofL []
theorem FOk_ : FOk pr F := FOk_nil
def P1 (Kv : Value → World → Prop) : Post := bodyK false pr 4 Tryd.f8 Kv
end disk_New
def disk_New (w : World) (K : disk_New.KT) : Prop :=
  G.runM pr (Instr.makeMap 46 none) w fun m2 w3 => G.new (.cells #[(.map m2)] 48) w3 fun p4 w5 => K (some p4) w5
def disk_New.cl : CL := fun args K w => match args with
  | [] => C.disk_New w (disk_New.Kt K)
  | _ => False
theorem disk_New.clok : OkC pr 8 disk_New.cl := by
  intro args K w h
  unfold disk_New.cl at h
  split at h
  · exact calls_last false mixed disk_New.FOk_ disk_New.fn rfl (Eq.mp (by kernel_rfl) h)
  · exact h.elim

/-! tocsin/wal.named -/
namespace wal_named
abbrev KT := Bool → World → Prop
def Kt (Kv : Value → World → Prop) : KT := fun b1 w => Kv (.bool b1) w
noncomputable def bd : Code := bdy Tryd.f19
theorem fn : FnOk pr 19 53 Tryd.f19 := ⟨Tryd.func19, by kernel_rfl, Tryd.ntmps19, by kernel_rfl, by kernel_rfl⟩
def F : Clee := ofL []
theorem FOk_ : FOk pr F := FOk_nil
def P1 (Kv : Value → World → Prop) : Post := bodyK false pr 53 Tryd.f19 Kv
@[reducible] def g2 : List SE := [.v 0 .str]
def S2 (K : KT) (s_3 : ByteArray) (w : World) : Prop :=
  G.cond (decide (((s_3.size : Nat) : Int) ≥ (1 : Int))) (K (decide (((s_3.size : Nat) : Int) ≤ (40 : Int))) w) (K false w)
theorem S2_ok (Kv : Value → World → Prop) : OkT pr false none 53 g2 (S2 (Kt Kv)) (s2 (tl 1 bd)) (P1 Kv) := ok_last mixed FOk_ fun v ρ w => by kernel_rfl
def P3 (Kv : Value → World → Prop) : Post := next (get g2 (S2 (Kt Kv))) (P1 Kv)
def P4 (Kv : Value → World → Prop) : Post := inBlock 0 (P3 Kv)
@[reducible] def g5 : List SE := [.v 0 .str, .v 6 (.int .i64), .v 7 (.int .i64)]
def P6 (Kv : Value → World → Prop) (kc5 : Cur g5) : Post := next (get g5 kc5) (P4 Kv)
def S7 (K : KT) (kc5 : Cur g5) (s_10 : ByteArray) (n11 : Int) (n12 : Int) (w : World) : Prop :=
  G.cond (decide (n12 < n11)) (G.ixS s_10 n12 fun n13 => G.cond (decide (n13 ≥ (97 : Int))) (G.cond (decide (n13 ≤ (122 : Int))) (kc5 s_10 n11 (IntKind.i64.wrap (n12 + (1 : Int))) w) (G.cond (decide (n13 ≥ (65 : Int))) (G.cond (decide (n13 ≤ (90 : Int))) (kc5 s_10 n11 (IntKind.i64.wrap (n12 + (1 : Int))) w) (G.cond (decide (n13 ≥ (48 : Int))) (G.cond (decide (n13 ≤ (57 : Int))) (kc5 s_10 n11 (IntKind.i64.wrap (n12 + (1 : Int))) w) (G.cond (n13 == (95 : Int)) (kc5 s_10 n11 (IntKind.i64.wrap (n12 + (1 : Int))) w) (G.cond (!(n13 == (45 : Int))) (K false w) (kc5 s_10 n11 (IntKind.i64.wrap (n12 + (1 : Int))) w)))) (G.cond (n13 == (95 : Int)) (kc5 s_10 n11 (IntKind.i64.wrap (n12 + (1 : Int))) w) (G.cond (!(n13 == (45 : Int))) (K false w) (kc5 s_10 n11 (IntKind.i64.wrap (n12 + (1 : Int))) w))))) (G.cond (decide (n13 ≥ (48 : Int))) (G.cond (decide (n13 ≤ (57 : Int))) (kc5 s_10 n11 (IntKind.i64.wrap (n12 + (1 : Int))) w) (G.cond (n13 == (95 : Int)) (kc5 s_10 n11 (IntKind.i64.wrap (n12 + (1 : Int))) w) (G.cond (!(n13 == (45 : Int))) (K false w) (kc5 s_10 n11 (IntKind.i64.wrap (n12 + (1 : Int))) w)))) (G.cond (n13 == (95 : Int)) (kc5 s_10 n11 (IntKind.i64.wrap (n12 + (1 : Int))) w) (G.cond (!(n13 == (45 : Int))) (K false w) (kc5 s_10 n11 (IntKind.i64.wrap (n12 + (1 : Int))) w)))))) (G.cond (decide (n13 ≥ (65 : Int))) (G.cond (decide (n13 ≤ (90 : Int))) (kc5 s_10 n11 (IntKind.i64.wrap (n12 + (1 : Int))) w) (G.cond (decide (n13 ≥ (48 : Int))) (G.cond (decide (n13 ≤ (57 : Int))) (kc5 s_10 n11 (IntKind.i64.wrap (n12 + (1 : Int))) w) (G.cond (n13 == (95 : Int)) (kc5 s_10 n11 (IntKind.i64.wrap (n12 + (1 : Int))) w) (G.cond (!(n13 == (45 : Int))) (K false w) (kc5 s_10 n11 (IntKind.i64.wrap (n12 + (1 : Int))) w)))) (G.cond (n13 == (95 : Int)) (kc5 s_10 n11 (IntKind.i64.wrap (n12 + (1 : Int))) w) (G.cond (!(n13 == (45 : Int))) (K false w) (kc5 s_10 n11 (IntKind.i64.wrap (n12 + (1 : Int))) w))))) (G.cond (decide (n13 ≥ (48 : Int))) (G.cond (decide (n13 ≤ (57 : Int))) (kc5 s_10 n11 (IntKind.i64.wrap (n12 + (1 : Int))) w) (G.cond (n13 == (95 : Int)) (kc5 s_10 n11 (IntKind.i64.wrap (n12 + (1 : Int))) w) (G.cond (!(n13 == (45 : Int))) (K false w) (kc5 s_10 n11 (IntKind.i64.wrap (n12 + (1 : Int))) w)))) (G.cond (n13 == (95 : Int)) (kc5 s_10 n11 (IntKind.i64.wrap (n12 + (1 : Int))) w) (G.cond (!(n13 == (45 : Int))) (K false w) (kc5 s_10 n11 (IntKind.i64.wrap (n12 + (1 : Int))) w)))))) (S2 K s_10 w)
theorem S7_ok (Kv : Value → World → Prop) (kc5 : Cur g5) : OkT pr false none 53 g5 (S7 (Kt Kv) kc5) (lp (blk (tl 1 (s1 (tl 1 bd))))) (P6 Kv kc5) := ok_last mixed FOk_ fun v ρ w => by kernel_rfl
def L5 (K : KT) : Cur g5 := loopC g5 (S7 K)
theorem L5_ok (Kv : Value → World → Prop) : OkT pr false none 53 g5 (L5 (Kt Kv)) (blk (tl 1 (s1 (tl 1 bd)))) (P4 Kv) := ok_loop (B := S7 (Kt Kv)) (by kernel_rfl) fun kc => S7_ok Kv kc
theorem L5_ind {K : KT} {s_4 : ByteArray} {n5 : Int} {n6 : Int} {w : World} (h : ∀ X : Cur g5, (∀ s_4 n5 n6 w, S7 K X s_4 n5 n6 w → X s_4 n5 n6 w) → X s_4 n5 n6 w) : L5 K s_4 n5 n6 w := fun X hX => h X fun s_4 n5 n6 w hb => hX (s_4, n5, n6, ()) w hb
theorem B8 (Kv : Value → World → Prop) : OkT pr false none 53 g5 (L5 (Kt Kv)) (tl 1 (s1 (tl 1 bd))) (P3 Kv) := ok_block 0 (by kernel_rfl) (L5_ok Kv)
def S9 (K : KT) (s_14 : ByteArray) (w : World) : Prop :=
  L5 K s_14 ((s_14.size : Nat) : Int) (0 : Int) w
theorem S9_ok (Kv : Value → World → Prop) : OkT pr false none 53 g2 (S9 (Kt Kv)) (s1 (tl 1 bd)) (P3 Kv) := ok_group mixed FOk_ 1 (B8 Kv) fun v ρ w => by kernel_rfl
theorem Q10 (Kv : Value → World → Prop) : OkT pr false none 53 g2 (S9 (Kt Kv)) (tl 1 bd) (P1 Kv) := ok_seq (by kernel_rfl) (S2_ok Kv) (S9_ok Kv)
end wal_named
def wal_named (s_2 : ByteArray) (w : World) (K : wal_named.KT) : Prop :=
  wal_named.S9 K s_2 w
def wal_named.cl : CL := fun args K w => match args with
  | [.string x0] => C.wal_named x0 w (wal_named.Kt K)
  | _ => False
theorem wal_named.clok : OkC pr 19 wal_named.cl := by
  intro args K w h
  unfold wal_named.cl at h
  split at h
  · exact calls_group false mixed wal_named.FOk_ wal_named.fn rfl 1 (wal_named.Q10 K) (Eq.mp (by kernel_rfl) h)
  · exact h.elim

/-! tocsin/disk.named -/
namespace disk_named
abbrev KT := Bool → World → Prop
def Kt (Kv : Value → World → Prop) : KT := fun b1 w => Kv (.bool b1) w
noncomputable def bd : Code := bdy Tryd.f45
theorem fn : FnOk pr 45 61 Tryd.f45 := ⟨Tryd.func45, by kernel_rfl, Tryd.ntmps45, by kernel_rfl, by kernel_rfl⟩
def F : Clee := ofL []
theorem FOk_ : FOk pr F := FOk_nil
def P1 (Kv : Value → World → Prop) : Post := bodyK false pr 61 Tryd.f45 Kv
@[reducible] def g2 : List SE := [.v 0 .str]
def S2 (K : KT) (s_3 : ByteArray) (w : World) : Prop :=
  G.cond (decide (((s_3.size : Nat) : Int) ≥ (1 : Int))) (K (decide (((s_3.size : Nat) : Int) ≤ (64 : Int))) w) (K false w)
theorem S2_ok (Kv : Value → World → Prop) : OkT pr false none 61 g2 (S2 (Kt Kv)) (s2 (tl 1 bd)) (P1 Kv) := ok_last mixed FOk_ fun v ρ w => by kernel_rfl
def P3 (Kv : Value → World → Prop) : Post := next (get g2 (S2 (Kt Kv))) (P1 Kv)
def P4 (Kv : Value → World → Prop) : Post := inBlock 0 (P3 Kv)
@[reducible] def g5 : List SE := [.v 0 .str, .v 6 (.int .i64), .v 7 (.int .i64)]
def P6 (Kv : Value → World → Prop) (kc5 : Cur g5) : Post := next (get g5 kc5) (P4 Kv)
def S7 (K : KT) (kc5 : Cur g5) (s_10 : ByteArray) (n11 : Int) (n12 : Int) (w : World) : Prop :=
  G.cond (decide (n12 < n11)) (G.ixS s_10 n12 fun n13 => G.cond (decide (n13 ≥ (97 : Int))) (G.cond (decide (n13 ≤ (122 : Int))) (kc5 s_10 n11 (IntKind.i64.wrap (n12 + (1 : Int))) w) (G.cond (decide (n13 ≥ (65 : Int))) (G.cond (decide (n13 ≤ (90 : Int))) (kc5 s_10 n11 (IntKind.i64.wrap (n12 + (1 : Int))) w) (G.cond (decide (n13 ≥ (48 : Int))) (G.cond (decide (n13 ≤ (57 : Int))) (kc5 s_10 n11 (IntKind.i64.wrap (n12 + (1 : Int))) w) (G.cond (n13 == (46 : Int)) (kc5 s_10 n11 (IntKind.i64.wrap (n12 + (1 : Int))) w) (G.cond (n13 == (95 : Int)) (kc5 s_10 n11 (IntKind.i64.wrap (n12 + (1 : Int))) w) (G.cond (n13 == (45 : Int)) (kc5 s_10 n11 (IntKind.i64.wrap (n12 + (1 : Int))) w) (G.cond (!(n13 == (47 : Int))) (K false w) (kc5 s_10 n11 (IntKind.i64.wrap (n12 + (1 : Int))) w)))))) (G.cond (n13 == (46 : Int)) (kc5 s_10 n11 (IntKind.i64.wrap (n12 + (1 : Int))) w) (G.cond (n13 == (95 : Int)) (kc5 s_10 n11 (IntKind.i64.wrap (n12 + (1 : Int))) w) (G.cond (n13 == (45 : Int)) (kc5 s_10 n11 (IntKind.i64.wrap (n12 + (1 : Int))) w) (G.cond (!(n13 == (47 : Int))) (K false w) (kc5 s_10 n11 (IntKind.i64.wrap (n12 + (1 : Int))) w))))))) (G.cond (decide (n13 ≥ (48 : Int))) (G.cond (decide (n13 ≤ (57 : Int))) (kc5 s_10 n11 (IntKind.i64.wrap (n12 + (1 : Int))) w) (G.cond (n13 == (46 : Int)) (kc5 s_10 n11 (IntKind.i64.wrap (n12 + (1 : Int))) w) (G.cond (n13 == (95 : Int)) (kc5 s_10 n11 (IntKind.i64.wrap (n12 + (1 : Int))) w) (G.cond (n13 == (45 : Int)) (kc5 s_10 n11 (IntKind.i64.wrap (n12 + (1 : Int))) w) (G.cond (!(n13 == (47 : Int))) (K false w) (kc5 s_10 n11 (IntKind.i64.wrap (n12 + (1 : Int))) w)))))) (G.cond (n13 == (46 : Int)) (kc5 s_10 n11 (IntKind.i64.wrap (n12 + (1 : Int))) w) (G.cond (n13 == (95 : Int)) (kc5 s_10 n11 (IntKind.i64.wrap (n12 + (1 : Int))) w) (G.cond (n13 == (45 : Int)) (kc5 s_10 n11 (IntKind.i64.wrap (n12 + (1 : Int))) w) (G.cond (!(n13 == (47 : Int))) (K false w) (kc5 s_10 n11 (IntKind.i64.wrap (n12 + (1 : Int))) w)))))))) (G.cond (decide (n13 ≥ (65 : Int))) (G.cond (decide (n13 ≤ (90 : Int))) (kc5 s_10 n11 (IntKind.i64.wrap (n12 + (1 : Int))) w) (G.cond (decide (n13 ≥ (48 : Int))) (G.cond (decide (n13 ≤ (57 : Int))) (kc5 s_10 n11 (IntKind.i64.wrap (n12 + (1 : Int))) w) (G.cond (n13 == (46 : Int)) (kc5 s_10 n11 (IntKind.i64.wrap (n12 + (1 : Int))) w) (G.cond (n13 == (95 : Int)) (kc5 s_10 n11 (IntKind.i64.wrap (n12 + (1 : Int))) w) (G.cond (n13 == (45 : Int)) (kc5 s_10 n11 (IntKind.i64.wrap (n12 + (1 : Int))) w) (G.cond (!(n13 == (47 : Int))) (K false w) (kc5 s_10 n11 (IntKind.i64.wrap (n12 + (1 : Int))) w)))))) (G.cond (n13 == (46 : Int)) (kc5 s_10 n11 (IntKind.i64.wrap (n12 + (1 : Int))) w) (G.cond (n13 == (95 : Int)) (kc5 s_10 n11 (IntKind.i64.wrap (n12 + (1 : Int))) w) (G.cond (n13 == (45 : Int)) (kc5 s_10 n11 (IntKind.i64.wrap (n12 + (1 : Int))) w) (G.cond (!(n13 == (47 : Int))) (K false w) (kc5 s_10 n11 (IntKind.i64.wrap (n12 + (1 : Int))) w))))))) (G.cond (decide (n13 ≥ (48 : Int))) (G.cond (decide (n13 ≤ (57 : Int))) (kc5 s_10 n11 (IntKind.i64.wrap (n12 + (1 : Int))) w) (G.cond (n13 == (46 : Int)) (kc5 s_10 n11 (IntKind.i64.wrap (n12 + (1 : Int))) w) (G.cond (n13 == (95 : Int)) (kc5 s_10 n11 (IntKind.i64.wrap (n12 + (1 : Int))) w) (G.cond (n13 == (45 : Int)) (kc5 s_10 n11 (IntKind.i64.wrap (n12 + (1 : Int))) w) (G.cond (!(n13 == (47 : Int))) (K false w) (kc5 s_10 n11 (IntKind.i64.wrap (n12 + (1 : Int))) w)))))) (G.cond (n13 == (46 : Int)) (kc5 s_10 n11 (IntKind.i64.wrap (n12 + (1 : Int))) w) (G.cond (n13 == (95 : Int)) (kc5 s_10 n11 (IntKind.i64.wrap (n12 + (1 : Int))) w) (G.cond (n13 == (45 : Int)) (kc5 s_10 n11 (IntKind.i64.wrap (n12 + (1 : Int))) w) (G.cond (!(n13 == (47 : Int))) (K false w) (kc5 s_10 n11 (IntKind.i64.wrap (n12 + (1 : Int))) w)))))))) (S2 K s_10 w)
theorem S7_ok (Kv : Value → World → Prop) (kc5 : Cur g5) : OkT pr false none 61 g5 (S7 (Kt Kv) kc5) (lp (blk (tl 1 (s1 (tl 1 bd))))) (P6 Kv kc5) := ok_last mixed FOk_ fun v ρ w => by kernel_rfl
def L5 (K : KT) : Cur g5 := loopC g5 (S7 K)
theorem L5_ok (Kv : Value → World → Prop) : OkT pr false none 61 g5 (L5 (Kt Kv)) (blk (tl 1 (s1 (tl 1 bd)))) (P4 Kv) := ok_loop (B := S7 (Kt Kv)) (by kernel_rfl) fun kc => S7_ok Kv kc
theorem L5_ind {K : KT} {s_4 : ByteArray} {n5 : Int} {n6 : Int} {w : World} (h : ∀ X : Cur g5, (∀ s_4 n5 n6 w, S7 K X s_4 n5 n6 w → X s_4 n5 n6 w) → X s_4 n5 n6 w) : L5 K s_4 n5 n6 w := fun X hX => h X fun s_4 n5 n6 w hb => hX (s_4, n5, n6, ()) w hb
theorem B8 (Kv : Value → World → Prop) : OkT pr false none 61 g5 (L5 (Kt Kv)) (tl 1 (s1 (tl 1 bd))) (P3 Kv) := ok_block 0 (by kernel_rfl) (L5_ok Kv)
def S9 (K : KT) (s_14 : ByteArray) (w : World) : Prop :=
  L5 K s_14 ((s_14.size : Nat) : Int) (0 : Int) w
theorem S9_ok (Kv : Value → World → Prop) : OkT pr false none 61 g2 (S9 (Kt Kv)) (s1 (tl 1 bd)) (P3 Kv) := ok_group mixed FOk_ 1 (B8 Kv) fun v ρ w => by kernel_rfl
theorem Q10 (Kv : Value → World → Prop) : OkT pr false none 61 g2 (S9 (Kt Kv)) (tl 1 bd) (P1 Kv) := ok_seq (by kernel_rfl) (S2_ok Kv) (S9_ok Kv)
end disk_named
def disk_named (s_2 : ByteArray) (w : World) (K : disk_named.KT) : Prop :=
  disk_named.S9 K s_2 w
def disk_named.cl : CL := fun args K w => match args with
  | [.string x0] => C.disk_named x0 w (disk_named.Kt K)
  | _ => False
theorem disk_named.clok : OkC pr 45 disk_named.cl := by
  intro args K w h
  unfold disk_named.cl at h
  split at h
  · exact calls_group false mixed disk_named.FOk_ disk_named.fn rfl 1 (disk_named.Q10 K) (Eq.mp (by kernel_rfl) h)
  · exact h.elim

/-! (*tocsin/disk.Disk).find -/
namespace disk_Disk_find
abbrev KT := Sl → Int → Int → World → Prop
def Kt (Kv : Value → World → Prop) : KT := fun l1 n2 n3 w => Kv (.tuple #[(.agg #[l1.v, (.int .i64 n2)]), (.int .i64 n3)]) w
noncomputable def bd : Code := bdy Tryd.f37
theorem fn : FnOk pr 37 30 Tryd.f37 := ⟨Tryd.func37, by kernel_rfl, Tryd.ntmps37, by kernel_rfl, by kernel_rfl⟩
def F : Clee := ofL [(45, C.disk_named.cl)]
theorem FOk_ : FOk pr F := FOk_cons C.disk_named.clok (FOk_nil)
def P1 (Kv : Value → World → Prop) : Post := bodyK false pr 30 Tryd.f37 Kv
end disk_Disk_find
def disk_Disk_find (d_4 : Option Addr) (name_5 : ByteArray) (w : World) (K : disk_Disk_find.KT) : Prop :=
  G.new (.cells #[nilS.v, (.int .i64 (0 : Int))] 77) w fun p8 w9 => G.cond d_4.isNone (G.st p8 nilS.v w9 fun w10 => G.st (p8.add 1) (.int .i64 (0 : Int)) w10 fun w11 => G.cSl p8 w11 fun l12 => G.cI .i64 (p8.add 1) w11 fun n13 => K l12 n13 (2 : Int) w11) (C.disk_named name_5 w9 fun b14 w15 => G.cond (!b14) (G.st p8 nilS.v w15 fun w16 => G.st (p8.add 1) (.int .i64 (0 : Int)) w16 fun w17 => G.cSl p8 w17 fun l18 => G.cI .i64 (p8.add 1) w17 fun n19 => K l18 n19 (40 : Int) w17) (G.ptr d_4 fun p20 => G.cM p20 w15 fun m21 => G.rd2 pr (Instr.lookup 46 (.map m21) (.string name_5) true) (fun v : Value => v) w15 fun v22 b24 => G.ag v22 2 fun c23 => G.vSl c23[0 + 0]? fun l25 => G.vI .i64 c23[0 + 1]? fun n26 => G.new (.cells #[nilS.v, (.int .i64 (0 : Int))] 77) w15 fun p27 w28 => G.st p27 l25.v w28 fun w29 => G.st (p27.add 1) (.int .i64 n26) w29 fun w30 => G.cond (!b24) (G.st p8 nilS.v w30 fun w31 => G.st (p8.add 1) (.int .i64 (0 : Int)) w31 fun w32 => G.cSl p8 w32 fun l33 => G.cI .i64 (p8.add 1) w32 fun n34 => K l33 n34 (5 : Int) w32) (G.cSl p27 w30 fun l35 => G.cI .i64 (p27.add 1) w30 fun n36 => G.st p8 l35.v w30 fun w37 => G.st (p8.add 1) (.int .i64 n36) w37 fun w38 => G.cSl p8 w38 fun l39 => G.cI .i64 (p8.add 1) w38 fun n40 => K l39 n40 (0 : Int) w38)))
def disk_Disk_find.cl : CL := fun args K w => match args with
  | [.pointer x0, .string x1] => C.disk_Disk_find x0 x1 w (disk_Disk_find.Kt K)
  | _ => False
theorem disk_Disk_find.clok : OkC pr 37 disk_Disk_find.cl := by
  intro args K w h
  unfold disk_Disk_find.cl at h
  split at h
  · exact calls_last false mixed disk_Disk_find.FOk_ disk_Disk_find.fn rfl (Eq.mp (by kernel_rfl) h)
  · exact h.elim

/-! (*tocsin/disk.Disk).Remove -/
namespace disk_Disk_Remove
abbrev KT := Int → World → Prop
def Kt (Kv : Value → World → Prop) : KT := fun n1 w => Kv (.int .i64 n1) w
noncomputable def bd : Code := bdy Tryd.f20
theorem fn : FnOk pr 20 21 Tryd.f20 := ⟨Tryd.func20, by kernel_rfl, Tryd.ntmps20, by kernel_rfl, by kernel_rfl⟩
def F : Clee := ofL [(37, C.disk_Disk_find.cl)]
theorem FOk_ : FOk pr F := FOk_cons C.disk_Disk_find.clok (FOk_nil)
def P1 (Kv : Value → World → Prop) : Post := bodyK false pr 21 Tryd.f20 Kv
end disk_Disk_Remove
def disk_Disk_Remove (d_2 : Option Addr) (name_3 : ByteArray) (w : World) (K : disk_Disk_Remove.KT) : Prop :=
  C.disk_Disk_find d_2 name_3 w fun l4 n5 n6 w7 => G.new (.cells #[nilS.v, (.int .i64 (0 : Int))] 77) w7 fun p8 w9 => G.st p8 l4.v w9 fun w10 => G.st (p8.add 1) (.int .i64 n5) w10 fun w11 => G.cond (n6 == (0 : Int)) (G.ptr d_2 fun p12 => G.cM p12 w11 fun m13 => G.run pr (Builtin.delete_ #[46, 9] 0 #[(.map m13), (.string name_3)]) w11 fun v14 w15 => K n6 w15) (K n6 w11)
def disk_Disk_Remove.cl : CL := fun args K w => match args with
  | [.pointer x0, .string x1] => C.disk_Disk_Remove x0 x1 w (disk_Disk_Remove.Kt K)
  | _ => False
theorem disk_Disk_Remove.clok : OkC pr 20 disk_Disk_Remove.cl := by
  intro args K w h
  unfold disk_Disk_Remove.cl at h
  split at h
  · exact calls_last false mixed disk_Disk_Remove.FOk_ disk_Disk_Remove.fn rfl (Eq.mp (by kernel_rfl) h)
  · exact h.elim

/-! (tocsin/disk.file).again -/
namespace disk_file_again
abbrev KT := Sl → Int → World → Prop
def Kt (Kv : Value → World → Prop) : KT := fun l1 n2 w => Kv (.agg #[l1.v, (.int .i64 n2)]) w
noncomputable def bd : Code := bdy Tryd.f35
theorem fn : FnOk pr 35 18 Tryd.f35 := ⟨Tryd.func35, by kernel_rfl, Tryd.ntmps35, by kernel_rfl, by kernel_rfl⟩
def F : Clee := ofL []
theorem FOk_ : FOk pr F := FOk_nil
def P1 (Kv : Value → World → Prop) : Post := bodyK false pr 18 Tryd.f35 Kv
end disk_file_again
def disk_file_again (f_3 : Sl) (f_4 : Int) (n_5 : Int) (w : World) (K : disk_file_again.KT) : Prop :=
  G.new (.cells #[f_3.v, (.int .i64 f_4)] 77) w fun p6 w7 => G.new (.cells #[nilS.v, (.int .i64 (0 : Int))] 77) w7 fun p8 w9 => G.runSl pr (Instr.makeSlice 31 (.int .i64 n_5) (.int .i64 n_5)) w9 fun l10 w11 => G.cSl p6 w11 fun l12 => G.runI pr (Builtin.copy_ #[31, 31] 3 #[l10.v, l12.v]) .i64 w11 fun n13 w14 => G.cI .i64 (p6.add 1) w14 fun n15 => G.st p8 l10.v w14 fun w16 => G.st (p8.add 1) (.int .i64 (if n_5 < n15 then n_5 else n15)) w16 fun w17 => G.cSl p8 w17 fun l18 => G.cI .i64 (p8.add 1) w17 fun n19 => K l18 n19 w17
def disk_file_again.cl : CL := fun args K w => match args with
  | [.agg ⟨[.slice x0_0_a x0_0_n x0_0_c, .int .i64 x0_1]⟩, .int .i64 x1] => C.disk_file_again ⟨x0_0_a, x0_0_n, x0_0_c⟩ x0_1 x1 w (disk_file_again.Kt K)
  | _ => False
theorem disk_file_again.clok : OkC pr 35 disk_file_again.cl := by
  intro args K w h
  unfold disk_file_again.cl at h
  split at h
  · exact calls_last false mixed disk_file_again.FOk_ disk_file_again.fn rfl (Eq.mp (by kernel_rfl) h)
  · exact h.elim

/-! (*tocsin/disk.Disk).Read -/
namespace disk_Disk_Read
abbrev KT := Sl → Int → World → Prop
def Kt (Kv : Value → World → Prop) : KT := fun l1 n2 w => Kv (.tuple #[l1.v, (.int .i64 n2)]) w
noncomputable def bd : Code := bdy Tryd.f21
theorem fn : FnOk pr 21 23 Tryd.f21 := ⟨Tryd.func21, by kernel_rfl, Tryd.ntmps21, by kernel_rfl, by kernel_rfl⟩
def F : Clee := ofL [(35, C.disk_file_again.cl), (37, C.disk_Disk_find.cl)]
theorem FOk_ : FOk pr F := FOk_cons C.disk_file_again.clok (FOk_cons C.disk_Disk_find.clok (FOk_nil))
def P1 (Kv : Value → World → Prop) : Post := bodyK false pr 23 Tryd.f21 Kv
end disk_Disk_Read
def disk_Disk_Read (d_3 : Option Addr) (name_4 : ByteArray) (w : World) (K : disk_Disk_Read.KT) : Prop :=
  C.disk_Disk_find d_3 name_4 w fun l7 n8 n9 w10 => G.new (.cells #[nilS.v, (.int .i64 (0 : Int))] 77) w10 fun p11 w12 => G.st p11 l7.v w12 fun w13 => G.st (p11.add 1) (.int .i64 n8) w13 fun w14 => G.cond (n9 != (0 : Int)) (K nilS n9 w14) (G.cSl p11 w14 fun l15 => G.cI .i64 (p11.add 1) w14 fun n16 => G.cSl p11 w14 fun l17 => C.disk_file_again l15 n16 ((l17.n : Nat) : Int) w14 fun l18 n19 w20 => K l18 (0 : Int) w20)
def disk_Disk_Read.cl : CL := fun args K w => match args with
  | [.pointer x0, .string x1] => C.disk_Disk_Read x0 x1 w (disk_Disk_Read.Kt K)
  | _ => False
theorem disk_Disk_Read.clok : OkC pr 21 disk_Disk_Read.cl := by
  intro args K w h
  unfold disk_Disk_Read.cl at h
  split at h
  · exact calls_last false mixed disk_Disk_Read.FOk_ disk_Disk_Read.fn rfl (Eq.mp (by kernel_rfl) h)
  · exact h.elim

/-! tocsin/wal.again -/
namespace wal_again
abbrev KT := Sl → World → Prop
def Kt (Kv : Value → World → Prop) : KT := fun l1 w => Kv l1.v w
noncomputable def bd : Code := bdy Tryd.f24
theorem fn : FnOk pr 24 16 Tryd.f24 := ⟨Tryd.func24, by kernel_rfl, Tryd.ntmps24, by kernel_rfl, by kernel_rfl⟩
def F : Clee := ofL []
theorem FOk_ : FOk pr F := FOk_nil
def P1 (Kv : Value → World → Prop) : Post := bodyK false pr 16 Tryd.f24 Kv
end wal_again
def wal_again (r_2 : Sl) (w : World) (K : wal_again.KT) : Prop :=
  G.runSl pr (Instr.makeSlice 31 (.int .i64 (0 : Int)) (.int .i64 (IntKind.i64.wrap (((r_2.n : Nat) : Int) + (1 : Int))))) w fun l3 w4 => G.runSl pr (Builtin.append_ #[31, 31] 31 #[l3.v, r_2.v]) w4 fun l5 w6 => G.slc3 l5 (0 : Int) ((r_2.n : Nat) : Int) ((r_2.n : Nat) : Int) 1 fun l7 => K l7 w6
def wal_again.cl : CL := fun args K w => match args with
  | [.slice x0_a x0_n x0_c] => C.wal_again ⟨x0_a, x0_n, x0_c⟩ w (wal_again.Kt K)
  | _ => False
theorem wal_again.clok : OkC pr 24 wal_again.cl := by
  intro args K w h
  unfold wal_again.cl at h
  split at h
  · exact calls_last false mixed wal_again.FOk_ wal_again.fn rfl (Eq.mp (by kernel_rfl) h)
  · exact h.elim

/-! tocsin/vint.U -/
namespace vint_U
abbrev KT := Int → Int → Int → World → Prop
def Kt (Kv : Value → World → Prop) : KT := fun n1 n2 n3 w => Kv (.tuple #[(.int .u64 n1), (.int .i64 n2), (.int .i64 n3)]) w
noncomputable def bd : Code := bdy Tryd.f39
theorem fn : FnOk pr 39 65 Tryd.f39 := ⟨Tryd.func39, by kernel_rfl, Tryd.ntmps39, by kernel_rfl, by kernel_rfl⟩
def F : Clee := ofL []
theorem FOk_ : FOk pr F := FOk_nil
def P1 (Kv : Value → World → Prop) : Post := bodyK false pr 65 Tryd.f39 Kv
def P2 (Kv : Value → World → Prop) : Post := inBlock 0 (P1 Kv)
@[reducible] def g3 : List SE := [.v 0 .sl, .v 1 (.int .i64), .v 7 (.int .u64), .v 8 (.int .i64)]
def P4 (Kv : Value → World → Prop) (kc3 : Cur g3) : Post := next (get g3 kc3) (P2 Kv)
def S5 (K : KT) (kc3 : Cur g3) (b_12 : Sl) (at_13 : Int) (n_14 : Int) (i_15 : Int) (w : World) : Prop :=
  G.cond (decide ((IntKind.i64.wrap (at_13 + i_15)) ≥ ((b_12.n : Nat) : Int))) (K (0 : Int) (0 : Int) (9 : Int) w) (G.ix b_12.a b_12.n (IntKind.i64.wrap (at_13 + i_15)) 1 fun p16 => G.cI .u8 p16 w fun n17 => G.cond (i_15 == (9 : Int)) (G.cond (decide (n17 > (1 : Int))) (K (0 : Int) (0 : Int) (7 : Int) w) (G.cond (decide (n17 < (128 : Int))) (G.cond (n17 == (0 : Int)) (G.cond (decide (i_15 > (0 : Int))) (K (0 : Int) (0 : Int) (3 : Int) w) (G.nn (IntKind.i64.wrap ((7 : Int) * i_15)) <| G.cond (decide (n17 < (128 : Int))) (K (Go.bits .or .u64 n_14 (shl .u64 (IntKind.u64.wrap (Go.bits .and .u8 n17 (127 : Int))) (IntKind.i64.wrap ((7 : Int) * i_15)))) (IntKind.i64.wrap ((IntKind.i64.wrap (at_13 + i_15)) + (1 : Int))) (0 : Int) w) (kc3 b_12 at_13 (Go.bits .or .u64 n_14 (shl .u64 (IntKind.u64.wrap (Go.bits .and .u8 n17 (127 : Int))) (IntKind.i64.wrap ((7 : Int) * i_15)))) (IntKind.i64.wrap (i_15 + (1 : Int))) w))) (G.nn (IntKind.i64.wrap ((7 : Int) * i_15)) <| G.cond (decide (n17 < (128 : Int))) (K (Go.bits .or .u64 n_14 (shl .u64 (IntKind.u64.wrap (Go.bits .and .u8 n17 (127 : Int))) (IntKind.i64.wrap ((7 : Int) * i_15)))) (IntKind.i64.wrap ((IntKind.i64.wrap (at_13 + i_15)) + (1 : Int))) (0 : Int) w) (kc3 b_12 at_13 (Go.bits .or .u64 n_14 (shl .u64 (IntKind.u64.wrap (Go.bits .and .u8 n17 (127 : Int))) (IntKind.i64.wrap ((7 : Int) * i_15)))) (IntKind.i64.wrap (i_15 + (1 : Int))) w))) (G.nn (IntKind.i64.wrap ((7 : Int) * i_15)) <| G.cond (decide (n17 < (128 : Int))) (K (Go.bits .or .u64 n_14 (shl .u64 (IntKind.u64.wrap (Go.bits .and .u8 n17 (127 : Int))) (IntKind.i64.wrap ((7 : Int) * i_15)))) (IntKind.i64.wrap ((IntKind.i64.wrap (at_13 + i_15)) + (1 : Int))) (0 : Int) w) (kc3 b_12 at_13 (Go.bits .or .u64 n_14 (shl .u64 (IntKind.u64.wrap (Go.bits .and .u8 n17 (127 : Int))) (IntKind.i64.wrap ((7 : Int) * i_15)))) (IntKind.i64.wrap (i_15 + (1 : Int))) w)))) (G.cond (decide (n17 < (128 : Int))) (G.cond (n17 == (0 : Int)) (G.cond (decide (i_15 > (0 : Int))) (K (0 : Int) (0 : Int) (3 : Int) w) (G.nn (IntKind.i64.wrap ((7 : Int) * i_15)) <| G.cond (decide (n17 < (128 : Int))) (K (Go.bits .or .u64 n_14 (shl .u64 (IntKind.u64.wrap (Go.bits .and .u8 n17 (127 : Int))) (IntKind.i64.wrap ((7 : Int) * i_15)))) (IntKind.i64.wrap ((IntKind.i64.wrap (at_13 + i_15)) + (1 : Int))) (0 : Int) w) (kc3 b_12 at_13 (Go.bits .or .u64 n_14 (shl .u64 (IntKind.u64.wrap (Go.bits .and .u8 n17 (127 : Int))) (IntKind.i64.wrap ((7 : Int) * i_15)))) (IntKind.i64.wrap (i_15 + (1 : Int))) w))) (G.nn (IntKind.i64.wrap ((7 : Int) * i_15)) <| G.cond (decide (n17 < (128 : Int))) (K (Go.bits .or .u64 n_14 (shl .u64 (IntKind.u64.wrap (Go.bits .and .u8 n17 (127 : Int))) (IntKind.i64.wrap ((7 : Int) * i_15)))) (IntKind.i64.wrap ((IntKind.i64.wrap (at_13 + i_15)) + (1 : Int))) (0 : Int) w) (kc3 b_12 at_13 (Go.bits .or .u64 n_14 (shl .u64 (IntKind.u64.wrap (Go.bits .and .u8 n17 (127 : Int))) (IntKind.i64.wrap ((7 : Int) * i_15)))) (IntKind.i64.wrap (i_15 + (1 : Int))) w))) (G.nn (IntKind.i64.wrap ((7 : Int) * i_15)) <| G.cond (decide (n17 < (128 : Int))) (K (Go.bits .or .u64 n_14 (shl .u64 (IntKind.u64.wrap (Go.bits .and .u8 n17 (127 : Int))) (IntKind.i64.wrap ((7 : Int) * i_15)))) (IntKind.i64.wrap ((IntKind.i64.wrap (at_13 + i_15)) + (1 : Int))) (0 : Int) w) (kc3 b_12 at_13 (Go.bits .or .u64 n_14 (shl .u64 (IntKind.u64.wrap (Go.bits .and .u8 n17 (127 : Int))) (IntKind.i64.wrap ((7 : Int) * i_15)))) (IntKind.i64.wrap (i_15 + (1 : Int))) w))))
theorem S5_ok (Kv : Value → World → Prop) (kc3 : Cur g3) : OkT pr false none 65 g3 (S5 (Kt Kv) kc3) (lp (blk (tl 4 bd))) (P4 Kv kc3) := ok_last mixed FOk_ fun v ρ w => by kernel_rfl
def L3 (K : KT) : Cur g3 := loopC g3 (S5 K)
theorem L3_ok (Kv : Value → World → Prop) : OkT pr false none 65 g3 (L3 (Kt Kv)) (blk (tl 4 bd)) (P2 Kv) := ok_loop (B := S5 (Kt Kv)) (by kernel_rfl) fun kc => S5_ok Kv kc
theorem L3_ind {K : KT} {b_8 : Sl} {at_9 : Int} {n_10 : Int} {i_11 : Int} {w : World} (h : ∀ X : Cur g3, (∀ b_8 at_9 n_10 i_11 w, S5 K X b_8 at_9 n_10 i_11 w → X b_8 at_9 n_10 i_11 w) → X b_8 at_9 n_10 i_11 w) : L3 K b_8 at_9 n_10 i_11 w := fun X hX => h X fun b_8 at_9 n_10 i_11 w hb => hX (b_8, at_9, n_10, i_11, ()) w hb
theorem B6 (Kv : Value → World → Prop) : OkT pr false none 65 g3 (L3 (Kt Kv)) (tl 4 bd) (P1 Kv) := ok_block 0 (by kernel_rfl) (L3_ok Kv)
end vint_U
def vint_U (b_4 : Sl) (at_5 : Int) (w : World) (K : vint_U.KT) : Prop :=
  G.cond (decide (at_5 < (0 : Int))) (K (0 : Int) (0 : Int) (1 : Int) w) (G.cond (decide (at_5 > ((b_4.n : Nat) : Int))) (K (0 : Int) (0 : Int) (1 : Int) w) (vint_U.L3 K b_4 at_5 (0 : Int) (0 : Int) w))
def vint_U.cl : CL := fun args K w => match args with
  | [.slice x0_a x0_n x0_c, .int .i64 x1] => C.vint_U ⟨x0_a, x0_n, x0_c⟩ x1 w (vint_U.Kt K)
  | _ => False
theorem vint_U.clok : OkC pr 39 vint_U.cl := by
  intro args K w h
  unfold vint_U.cl at h
  split at h
  · exact calls_group false mixed vint_U.FOk_ vint_U.fn rfl 4 (vint_U.B6 K) (Eq.mp (by kernel_rfl) h)
  · exact h.elim

/-! tocsin/vint.On -/
namespace vint_On
abbrev KT := Int → World → Prop
def Kt (Kv : Value → World → Prop) : KT := fun n1 w => Kv (.int .u32 n1) w
noncomputable def bd : Code := bdy Tryd.f48
theorem fn : FnOk pr 48 37 Tryd.f48 := ⟨Tryd.func48, by kernel_rfl, Tryd.ntmps48, by kernel_rfl, by kernel_rfl⟩
def F : Clee := ofL []
theorem FOk_ : FOk pr F := FOk_nil
def P1 (Kv : Value → World → Prop) : Post := bodyK false pr 37 Tryd.f48 Kv
@[reducible] def g2 : List SE := [.v 5 (.int .u32)]
def S2 (K : KT) (r_4 : Int) (w : World) : Prop :=
  K (Go.bits .xor .u32 (notK .u32) r_4) w
theorem S2_ok (Kv : Value → World → Prop) : OkT pr false none 37 g2 (S2 (Kt Kv)) (s2 (tl 2 bd)) (P1 Kv) := ok_last mixed FOk_ fun v ρ w => by kernel_rfl
def P3 (Kv : Value → World → Prop) : Post := next (get g2 (S2 (Kt Kv))) (P1 Kv)
def P4 (Kv : Value → World → Prop) : Post := inBlock 0 (P3 Kv)
@[reducible] def g5 : List SE := [.v 5 (.int .u32), .v 10 .sl, .v 11 (.int .i64), .v 12 (.int .i64)]
def P6 (Kv : Value → World → Prop) (kc5 : Cur g5) : Post := next (get g5 kc5) (P4 Kv)
def S7 (K : KT) (kc5 : Cur g5) (r_13 : Int) (l14 : Sl) (n15 : Int) (n16 : Int) (w : World) : Prop :=
  G.cond (decide (n16 < n15)) (G.ix l14.a l14.n n16 1 fun p17 => G.cI .u8 p17 w fun n18 => G.nn (4 : Int) <| G.ix (some ⟨0, 0, none⟩) 16 (Go.bits .and .u32 (Go.bits .xor .u32 r_13 (IntKind.u32.wrap n18)) (15 : Int)) 1 fun p19 => G.cI .u32 p19 w fun n20 => G.nn (4 : Int) <| G.ix (some ⟨0, 0, none⟩) 16 (Go.bits .and .u32 (Go.bits .xor .u32 (shr .u32 (Go.bits .xor .u32 r_13 (IntKind.u32.wrap n18)) (4 : Int)) n20) (15 : Int)) 1 fun p21 => G.cI .u32 p21 w fun n22 => kc5 (Go.bits .xor .u32 (shr .u32 (Go.bits .xor .u32 (shr .u32 (Go.bits .xor .u32 r_13 (IntKind.u32.wrap n18)) (4 : Int)) n20) (4 : Int)) n22) l14 n15 (IntKind.i64.wrap (n16 + (1 : Int))) w) (S2 K r_13 w)
theorem S7_ok (Kv : Value → World → Prop) (kc5 : Cur g5) : OkT pr false none 37 g5 (S7 (Kt Kv) kc5) (lp (blk (tl 1 (s1 (tl 2 bd))))) (P6 Kv kc5) := ok_last mixed FOk_ fun v ρ w => by kernel_rfl
def L5 (K : KT) : Cur g5 := loopC g5 (S7 K)
theorem L5_ok (Kv : Value → World → Prop) : OkT pr false none 37 g5 (L5 (Kt Kv)) (blk (tl 1 (s1 (tl 2 bd)))) (P4 Kv) := ok_loop (B := S7 (Kt Kv)) (by kernel_rfl) fun kc => S7_ok Kv kc
theorem L5_ind {K : KT} {r_5 : Int} {l6 : Sl} {n7 : Int} {n8 : Int} {w : World} (h : ∀ X : Cur g5, (∀ r_5 l6 n7 n8 w, S7 K X r_5 l6 n7 n8 w → X r_5 l6 n7 n8 w) → X r_5 l6 n7 n8 w) : L5 K r_5 l6 n7 n8 w := fun X hX => h X fun r_5 l6 n7 n8 w hb => hX (r_5, l6, n7, n8, ()) w hb
theorem B8 (Kv : Value → World → Prop) : OkT pr false none 37 g5 (L5 (Kt Kv)) (tl 1 (s1 (tl 2 bd))) (P3 Kv) := ok_block 0 (by kernel_rfl) (L5_ok Kv)
@[reducible] def g9 : List SE := [.v 1 .sl, .v 5 (.int .u32)]
def S9 (K : KT) (b_23 : Sl) (r_24 : Int) (w : World) : Prop :=
  L5 K r_24 b_23 ((b_23.n : Nat) : Int) (0 : Int) w
theorem S9_ok (Kv : Value → World → Prop) : OkT pr false none 37 g9 (S9 (Kt Kv)) (s1 (tl 2 bd)) (P3 Kv) := ok_group mixed FOk_ 1 (B8 Kv) fun v ρ w => by kernel_rfl
theorem Q10 (Kv : Value → World → Prop) : OkT pr false none 37 g9 (S9 (Kt Kv)) (tl 2 bd) (P1 Kv) := ok_seq (by kernel_rfl) (S2_ok Kv) (S9_ok Kv)
end vint_On
def vint_On (sum_2 : Int) (b_3 : Sl) (w : World) (K : vint_On.KT) : Prop :=
  vint_On.S9 K b_3 (Go.bits .xor .u32 (notK .u32) sum_2) w
def vint_On.cl : CL := fun args K w => match args with
  | [.int .u32 x0, .slice x1_a x1_n x1_c] => C.vint_On x0 ⟨x1_a, x1_n, x1_c⟩ w (vint_On.Kt K)
  | _ => False
theorem vint_On.clok : OkC pr 48 vint_On.cl := by
  intro args K w h
  unfold vint_On.cl at h
  split at h
  · exact calls_group false mixed vint_On.FOk_ vint_On.fn rfl 2 (vint_On.Q10 K) (Eq.mp (by kernel_rfl) h)
  · exact h.elim

/-! tocsin/vint.Sum -/
namespace vint_Sum
abbrev KT := Int → World → Prop
def Kt (Kv : Value → World → Prop) : KT := fun n1 w => Kv (.int .u32 n1) w
noncomputable def bd : Code := bdy Tryd.f42
theorem fn : FnOk pr 42 5 Tryd.f42 := ⟨Tryd.func42, by kernel_rfl, Tryd.ntmps42, by kernel_rfl, by kernel_rfl⟩
def F : Clee := ofL [(48, C.vint_On.cl)]
theorem FOk_ : FOk pr F := FOk_cons C.vint_On.clok (FOk_nil)
def P1 (Kv : Value → World → Prop) : Post := bodyK false pr 5 Tryd.f42 Kv
end vint_Sum
def vint_Sum (b_2 : Sl) (w : World) (K : vint_Sum.KT) : Prop :=
  C.vint_On (0 : Int) b_2 w fun n3 w4 => K n3 w4
def vint_Sum.cl : CL := fun args K w => match args with
  | [.slice x0_a x0_n x0_c] => C.vint_Sum ⟨x0_a, x0_n, x0_c⟩ w (vint_Sum.Kt K)
  | _ => False
theorem vint_Sum.clok : OkC pr 42 vint_Sum.cl := by
  intro args K w h
  unfold vint_Sum.cl at h
  split at h
  · exact calls_last false mixed vint_Sum.FOk_ vint_Sum.fn rfl (Eq.mp (by kernel_rfl) h)
  · exact h.elim

/-! tocsin/vint.joined -/
namespace vint_joined
abbrev KT := Sl → World → Prop
def Kt (Kv : Value → World → Prop) : KT := fun l1 w => Kv l1.v w
noncomputable def bd : Code := bdy Tryd.f44
theorem fn : FnOk pr 44 17 Tryd.f44 := ⟨Tryd.func44, by kernel_rfl, Tryd.ntmps44, by kernel_rfl, by kernel_rfl⟩
def F : Clee := ofL []
theorem FOk_ : FOk pr F := FOk_nil
def P1 (Kv : Value → World → Prop) : Post := bodyK false pr 17 Tryd.f44 Kv
end vint_joined
def vint_joined (b_2 : Sl) (c_3 : Sl) (w : World) (K : vint_joined.KT) : Prop :=
  G.runSl pr (Instr.makeSlice 31 (.int .i64 (0 : Int)) (.int .i64 (IntKind.i64.wrap (((b_2.n : Nat) : Int) + ((c_3.n : Nat) : Int))))) w fun l4 w5 => G.runSl pr (Builtin.append_ #[31, 31] 31 #[l4.v, b_2.v]) w5 fun l6 w7 => G.runSl pr (Builtin.append_ #[31, 31] 31 #[l6.v, c_3.v]) w7 fun l8 w9 => K l8 w9
def vint_joined.cl : CL := fun args K w => match args with
  | [.slice x0_a x0_n x0_c, .slice x1_a x1_n x1_c] => C.vint_joined ⟨x0_a, x0_n, x0_c⟩ ⟨x1_a, x1_n, x1_c⟩ w (vint_joined.Kt K)
  | _ => False
theorem vint_joined.clok : OkC pr 44 vint_joined.cl := by
  intro args K w h
  unfold vint_joined.cl at h
  split at h
  · exact calls_last false mixed vint_joined.FOk_ vint_joined.fn rfl (Eq.mp (by kernel_rfl) h)
  · exact h.elim

/-! tocsin/vint.Frame -/
namespace vint_Frame
abbrev KT := Sl → Int → Int → World → Prop
def Kt (Kv : Value → World → Prop) : KT := fun l1 n2 n3 w => Kv (.tuple #[l1.v, (.int .i64 n2), (.int .i64 n3)]) w
noncomputable def bd : Code := bdy Tryd.f38
theorem fn : FnOk pr 38 91 Tryd.f38 := ⟨Tryd.func38, by kernel_rfl, Tryd.ntmps38, by kernel_rfl, by kernel_rfl⟩
def F : Clee := ofL [(39, C.vint_U.cl), (42, C.vint_Sum.cl), (44, C.vint_joined.cl)]
theorem FOk_ : FOk pr F := FOk_cons C.vint_U.clok (FOk_cons C.vint_Sum.clok (FOk_cons C.vint_joined.clok (FOk_nil)))
def P1 (Kv : Value → World → Prop) : Post := bodyK false pr 91 Tryd.f38 Kv
end vint_Frame
def vint_Frame (b_4 : Sl) (at_5 : Int) (w : World) (K : vint_Frame.KT) : Prop :=
  C.vint_U b_4 at_5 w fun n12 n13 n14 w15 => G.cond (n14 != (0 : Int)) (K nilS (0 : Int) n14 w15) (G.cond (decide (n12 > (65536 : Int))) (K nilS (0 : Int) (4 : Int) w15) (G.cond (decide ((IntKind.i64.wrap (((b_4.n : Nat) : Int) - n13)) < (IntKind.i64.wrap ((4 : Int) + (IntKind.i64.wrap n12))))) (K nilS (0 : Int) (9 : Int) w15) (G.ix b_4.a b_4.n (IntKind.i64.wrap (n13 + (3 : Int))) 1 fun p16 => G.cI .u8 p16 w15 fun n17 => G.nn (24 : Int) <| G.ix b_4.a b_4.n n13 1 fun p18 => G.cI .u8 p18 w15.drew fun n19 => G.ix b_4.a b_4.n (IntKind.i64.wrap (n13 + (1 : Int))) 1 fun p20 => G.cI .u8 p20 w15.drew fun n21 => G.nn (8 : Int) <| G.ix b_4.a b_4.n (IntKind.i64.wrap (n13 + (2 : Int))) 1 fun p22 => G.cI .u8 p22 w15.drew fun n23 => G.nn (16 : Int) <| G.slc b_4 (IntKind.i64.wrap (n13 + (4 : Int))) (IntKind.i64.wrap ((IntKind.i64.wrap (n13 + (4 : Int))) + (IntKind.i64.wrap n12))) 1 fun l24 => C.vint_joined nilS l24 w15.drew fun l25 w26 => C.vint_Sum l25 w26 fun n27 w28 => G.cond (n27 != (Go.bits .or .u32 (Go.bits .or .u32 (0 : Int) (shl .u32 (IntKind.u32.wrap n17) (24 : Int))) (Go.bits .or .u32 (Go.bits .or .u32 (IntKind.u32.wrap n19) (shl .u32 (IntKind.u32.wrap n21) (8 : Int))) (shl .u32 (IntKind.u32.wrap n23) (16 : Int))))) (K nilS (0 : Int) (11 : Int) w28) (K l25 (IntKind.i64.wrap ((IntKind.i64.wrap (n13 + (4 : Int))) + (IntKind.i64.wrap n12))) (0 : Int) w28))))
def vint_Frame.cl : CL := fun args K w => match args with
  | [.slice x0_a x0_n x0_c, .int .i64 x1] => C.vint_Frame ⟨x0_a, x0_n, x0_c⟩ x1 w (vint_Frame.Kt K)
  | _ => False
theorem vint_Frame.clok : OkC pr 38 vint_Frame.cl := by
  intro args K w h
  unfold vint_Frame.cl at h
  split at h
  · exact calls_last false mixed vint_Frame.FOk_ vint_Frame.fn rfl (Eq.mp (by kernel_rfl) h)
  · exact h.elim

/-! tocsin/wal.checkpoint -/
namespace wal_checkpoint
abbrev KT := Int → Sl → Bool → World → Prop
def Kt (Kv : Value → World → Prop) : KT := fun n1 l2 b3 w => Kv (.tuple #[(.int .i64 n1), l2.v, (.bool b3)]) w
noncomputable def bd : Code := bdy Tryd.f22
theorem fn : FnOk pr 22 99 Tryd.f22 := ⟨Tryd.func22, by kernel_rfl, Tryd.ntmps22, by kernel_rfl, by kernel_rfl⟩
def F : Clee := ofL [(24, C.wal_again.cl), (38, C.vint_Frame.cl), (39, C.vint_U.cl)]
theorem FOk_ : FOk pr F := FOk_cons C.wal_again.clok (FOk_cons C.vint_Frame.clok (FOk_cons C.vint_U.clok (FOk_nil)))
def P1 (Kv : Value → World → Prop) : Post := bodyK false pr 99 Tryd.f22 Kv
@[reducible] def g2 : List SE := [.v 5 .sl, .v 8 (.int .u64), .v 9 (.int .i64), .v 11 .sl]
def S2 (K : KT) (p_8 : Sl) (first_9 : Int) (at_10 : Int) (l_11 : Sl) (w : World) : Prop :=
  K (IntKind.i64.wrap first_9) l_11 (at_10 == ((p_8.n : Nat) : Int)) w
theorem S2_ok (Kv : Value → World → Prop) : OkT pr false none 99 g2 (S2 (Kt Kv)) (s2 (tl 8 bd)) (P1 Kv) := ok_last mixed FOk_ fun v ρ w => by kernel_rfl
def P3 (Kv : Value → World → Prop) : Post := next (get g2 (S2 (Kt Kv))) (P1 Kv)
def P4 (Kv : Value → World → Prop) : Post := inBlock 0 (P3 Kv)
@[reducible] def g5 : List SE := [.v 5 .sl, .v 8 (.int .u64), .v 9 (.int .i64), .v 11 .sl, .v 54 (.int .u64), .v 55 (.int .u64)]
def P6 (Kv : Value → World → Prop) (kc5 : Cur g5) : Post := next (get g5 kc5) (P4 Kv)
def S7 (K : KT) (kc5 : Cur g5) (p_24 : Sl) (first_25 : Int) (at_26 : Int) (l_27 : Sl) (n28 : Int) (n29 : Int) (w : World) : Prop :=
  G.cond (decide (n29 < n28)) (C.vint_U p_24 at_26 w fun n30 n31 n32 w33 => G.cond (n32 != (0 : Int)) (K (0 : Int) nilS false w33) (G.cond (decide (n30 > (65536 : Int))) (K (0 : Int) nilS false w33) (G.cond (decide (n30 > (IntKind.u64.wrap (IntKind.i64.wrap (((p_24.n : Nat) : Int) - n31))))) (K (0 : Int) nilS false w33) (G.slc p_24 n31 (IntKind.i64.wrap (n31 + (IntKind.i64.wrap n30))) 1 fun l34 => C.wal_again l34 w33 fun l35 w36 => G.new (.cells #[l35.v] 31) w36 fun p37 w38 => G.runSl pr (Builtin.append_ #[22, 22] 22 #[l_27.v, (Sl.v (⟨some p37, 1, 1⟩ : Sl))]) w38 fun l39 w40 => kc5 p_24 first_25 (IntKind.i64.wrap (n31 + (IntKind.i64.wrap n30))) l39 n28 (IntKind.u64.wrap (n29 + (1 : Int))) w40)))) (S2 K p_24 first_25 at_26 l_27 w)
theorem S7_ok (Kv : Value → World → Prop) (kc5 : Cur g5) : OkT pr false none 99 g5 (S7 (Kt Kv) kc5) (lp (blk (tl 1 (s1 (tl 8 bd))))) (P6 Kv kc5) := ok_last mixed FOk_ fun v ρ w => by kernel_rfl
def L5 (K : KT) : Cur g5 := loopC g5 (S7 K)
theorem L5_ok (Kv : Value → World → Prop) : OkT pr false none 99 g5 (L5 (Kt Kv)) (blk (tl 1 (s1 (tl 8 bd)))) (P4 Kv) := ok_loop (B := S7 (Kt Kv)) (by kernel_rfl) fun kc => S7_ok Kv kc
theorem L5_ind {K : KT} {p_12 : Sl} {first_13 : Int} {at_14 : Int} {l_15 : Sl} {n16 : Int} {n17 : Int} {w : World} (h : ∀ X : Cur g5, (∀ p_12 first_13 at_14 l_15 n16 n17 w, S7 K X p_12 first_13 at_14 l_15 n16 n17 w → X p_12 first_13 at_14 l_15 n16 n17 w) → X p_12 first_13 at_14 l_15 n16 n17 w) : L5 K p_12 first_13 at_14 l_15 n16 n17 w := fun X hX => h X fun p_12 first_13 at_14 l_15 n16 n17 w hb => hX (p_12, first_13, at_14, l_15, n16, n17, ()) w hb
theorem B8 (Kv : Value → World → Prop) : OkT pr false none 99 g5 (L5 (Kt Kv)) (tl 1 (s1 (tl 8 bd))) (P3 Kv) := ok_block 0 (by kernel_rfl) (L5_ok Kv)
@[reducible] def g9 : List SE := [.v 5 .sl, .v 8 (.int .u64), .v 9 (.int .i64), .v 10 (.int .u64), .v 11 .sl]
def S9 (K : KT) (p_41 : Sl) (first_42 : Int) (at_43 : Int) (n_44 : Int) (l_45 : Sl) (w : World) : Prop :=
  L5 K p_41 first_42 at_43 l_45 n_44 (0 : Int) w
theorem S9_ok (Kv : Value → World → Prop) : OkT pr false none 99 g9 (S9 (Kt Kv)) (s1 (tl 8 bd)) (P3 Kv) := ok_group mixed FOk_ 1 (B8 Kv) fun v ρ w => by kernel_rfl
theorem Q10 (Kv : Value → World → Prop) : OkT pr false none 99 g9 (S9 (Kt Kv)) (tl 8 bd) (P1 Kv) := ok_seq (by kernel_rfl) (S2_ok Kv) (S9_ok Kv)
end wal_checkpoint
def wal_checkpoint (b_4 : Sl) (w : World) (K : wal_checkpoint.KT) : Prop :=
  C.vint_Frame b_4 (0 : Int) w fun l46 n47 n48 w49 => G.cond (n48 != (0 : Int)) (K (0 : Int) nilS false w49) (G.cond (n47 != ((b_4.n : Nat) : Int)) (K (0 : Int) nilS false w49) (C.vint_U l46 (0 : Int) w49 fun n50 n51 n52 w53 => G.cond (n52 != (0 : Int)) (K (0 : Int) nilS false w53) (G.cond (decide (n50 < (1 : Int))) (K (0 : Int) nilS false w53) (G.cond (decide (n50 > (99999999 : Int))) (K (0 : Int) nilS false w53) (C.vint_U l46 n51 w53 fun n54 n55 n56 w57 => G.cond (n56 != (0 : Int)) (K (0 : Int) nilS false w57) (wal_checkpoint.S9 K l46 n50 n55 n54 nilS w57))))))
def wal_checkpoint.cl : CL := fun args K w => match args with
  | [.slice x0_a x0_n x0_c] => C.wal_checkpoint ⟨x0_a, x0_n, x0_c⟩ w (wal_checkpoint.Kt K)
  | _ => False
theorem wal_checkpoint.clok : OkC pr 22 wal_checkpoint.cl := by
  intro args K w h
  unfold wal_checkpoint.cl at h
  split at h
  · exact calls_group false mixed wal_checkpoint.FOk_ wal_checkpoint.fn rfl 8 (wal_checkpoint.Q10 K) (Eq.mp (by kernel_rfl) h)
  · exact h.elim

/-! slices.Sort[[]string,string]: by the library's contract -/
abbrev slices_Sort_string_string.KT := World → Prop
def slices_Sort_string_string.Kt (Kv : Value → World → Prop) : slices_Sort_string_string.KT := fun w => Kv (.tuple #[]) w
def slices_Sort_string_string (x0 : Sl) (w : World) (K : slices_Sort_string_string.KT) : Prop := Srt.sortS x0 w K
def slices_Sort_string_string.cl : CL := fun args K w => match args with
  | [.slice a n c] => C.slices_Sort_string_string ⟨a, n, c⟩ w (slices_Sort_string_string.Kt K)
  | _ => False
theorem slices_Sort_string_string.clok : OkC pr 46 slices_Sort_string_string.cl := by
  intro args K w h
  unfold slices_Sort_string_string.cl at h
  split at h
  · exact Srt.sortS_ok h
  · exact h.elim

/-! (*tocsin/disk.Disk).List -/
namespace disk_Disk_List
abbrev KT := Sl → World → Prop
def Kt (Kv : Value → World → Prop) : KT := fun l1 w => Kv l1.v w
noncomputable def bd : Code := bdy Tryd.f34
theorem fn : FnOk pr 34 23 Tryd.f34 := ⟨Tryd.func34, by kernel_rfl, Tryd.ntmps34, by kernel_rfl, by kernel_rfl⟩
def F : Clee := ofL [(46, C.slices_Sort_string_string.cl)]
theorem FOk_ : FOk pr F := FOk_cons C.slices_Sort_string_string.clok (FOk_nil)
def P1 (Kv : Value → World → Prop) : Post := bodyK false pr 23 Tryd.f34 Kv
@[reducible] def g2 : List SE := [.v 3 .sl]
def S2 (K : KT) (l_4 : Sl) (w : World) : Prop :=
  C.slices_Sort_string_string l_4 w fun w5 => K l_4 w5
theorem S2_ok (Kv : Value → World → Prop) : OkT pr false none 23 g2 (S2 (Kt Kv)) (s2 (tl 3 bd)) (P1 Kv) := ok_last mixed FOk_ fun v ρ w => by kernel_rfl
def P3 (Kv : Value → World → Prop) : Post := next (get g2 (S2 (Kt Kv))) (P1 Kv)
def P4 (Kv : Value → World → Prop) : Post := inBlock 0 (P3 Kv)
@[reducible] def g5 : List SE := [.v 3 .sl, .v 11 .ptr]
def P6 (Kv : Value → World → Prop) (kc5 : Cur g5) : Post := next (get g5 kc5) (P4 Kv)
def S7 (K : KT) (kc5 : Cur g5) (l_10 : Sl) (p11 : Option Addr) (w : World) : Prop :=
  G.nxt pr (Instr.next (.pointer p11) false 0) w (fun w12 => S2 K l_10 w12) (fun k14 x15 w13 => G.ent pr (Instr.entry (.pointer p11)) w13 fun k16 x17 => G.vS (some k16) fun s18 => G.new (.cells #[(.string s18)] 9) w13 fun p19 w20 => G.runSl pr (Builtin.append_ #[74, 74] 74 #[l_10.v, (Sl.v (⟨some p19, 1, 1⟩ : Sl))]) w20 fun l21 w22 => kc5 l21 p11 w22)
theorem S7_ok (Kv : Value → World → Prop) (kc5 : Cur g5) : OkT pr false none 23 g5 (S7 (Kt Kv) kc5) (lp (blk (tl 1 (s1 (tl 3 bd))))) (P6 Kv kc5) := ok_last mixed FOk_ fun v ρ w => by kernel_rfl
def L5 (K : KT) : Cur g5 := loopC g5 (S7 K)
theorem L5_ok (Kv : Value → World → Prop) : OkT pr false none 23 g5 (L5 (Kt Kv)) (blk (tl 1 (s1 (tl 3 bd)))) (P4 Kv) := ok_loop (B := S7 (Kt Kv)) (by kernel_rfl) fun kc => S7_ok Kv kc
theorem L5_ind {K : KT} {l_6 : Sl} {p7 : Option Addr} {w : World} (h : ∀ X : Cur g5, (∀ l_6 p7 w, S7 K X l_6 p7 w → X l_6 p7 w) → X l_6 p7 w) : L5 K l_6 p7 w := fun X hX => h X fun l_6 p7 w hb => hX (l_6, p7, ()) w hb
theorem B8 (Kv : Value → World → Prop) : OkT pr false none 23 g5 (L5 (Kt Kv)) (tl 1 (s1 (tl 3 bd))) (P3 Kv) := ok_block 0 (by kernel_rfl) (L5_ok Kv)
@[reducible] def g9 : List SE := [.v 0 .ptr, .v 3 .sl]
def S9 (K : KT) (d_23 : Option Addr) (l_24 : Sl) (w : World) : Prop :=
  G.ptr d_23 fun p25 => G.cM p25 w fun m26 => G.runP pr (Instr.range 46 (.map m26)) w fun p27 w28 => L5 K l_24 p27 w28
theorem S9_ok (Kv : Value → World → Prop) : OkT pr false none 23 g9 (S9 (Kt Kv)) (s1 (tl 3 bd)) (P3 Kv) := ok_group mixed FOk_ 1 (B8 Kv) fun v ρ w => by kernel_rfl
theorem Q10 (Kv : Value → World → Prop) : OkT pr false none 23 g9 (S9 (Kt Kv)) (tl 3 bd) (P1 Kv) := ok_seq (by kernel_rfl) (S2_ok Kv) (S9_ok Kv)
end disk_Disk_List
def disk_Disk_List (d_2 : Option Addr) (w : World) (K : disk_Disk_List.KT) : Prop :=
  G.cond d_2.isNone (K nilS w) (disk_Disk_List.S9 K d_2 nilS w)
def disk_Disk_List.cl : CL := fun args K w => match args with
  | [.pointer x0] => C.disk_Disk_List x0 w (disk_Disk_List.Kt K)
  | _ => False
theorem disk_Disk_List.clok : OkC pr 34 disk_Disk_List.cl := by
  intro args K w h
  unfold disk_Disk_List.cl at h
  split at h
  · exact calls_group false mixed disk_Disk_List.FOk_ disk_Disk_List.fn rfl 3 (disk_Disk_List.Q10 K) (Eq.mp (by kernel_rfl) h)
  · exact h.elim

/-! internal/stringslite.HasPrefix -/
namespace stringslite_HasPrefix
abbrev KT := Bool → World → Prop
def Kt (Kv : Value → World → Prop) : KT := fun b1 w => Kv (.bool b1) w
noncomputable def bd : Code := bdy Tryd.f63
theorem fn : FnOk pr 63 18 Tryd.f63 := ⟨Tryd.func63, by kernel_rfl, Tryd.ntmps63, by kernel_rfl, by kernel_rfl⟩
def F : Clee := ofL []
theorem FOk_ : FOk pr F := FOk_nil
def P1 (Kv : Value → World → Prop) : Post := bodyK false pr 18 Tryd.f63 Kv
end stringslite_HasPrefix
def stringslite_HasPrefix (s_2 : ByteArray) (prefix_3 : ByteArray) (w : World) (K : stringslite_HasPrefix.KT) : Prop :=
  G.cond (decide (((s_2.size : Nat) : Int) ≥ ((prefix_3.size : Nat) : Int))) (G.slcS s_2 0 ((prefix_3.size : Nat) : Int) fun s4 => K (s4.toList == prefix_3.toList) w) (K false w)
def stringslite_HasPrefix.cl : CL := fun args K w => match args with
  | [.string x0, .string x1] => C.stringslite_HasPrefix x0 x1 w (stringslite_HasPrefix.Kt K)
  | _ => False
theorem stringslite_HasPrefix.clok : OkC pr 63 stringslite_HasPrefix.cl := by
  intro args K w h
  unfold stringslite_HasPrefix.cl at h
  split at h
  · exact calls_last false mixed stringslite_HasPrefix.FOk_ stringslite_HasPrefix.fn rfl (Eq.mp (by kernel_rfl) h)
  · exact h.elim

/-! internal/stringslite.CutPrefix -/
namespace stringslite_CutPrefix
abbrev KT := ByteArray → Bool → World → Prop
def Kt (Kv : Value → World → Prop) : KT := fun s1 b2 w => Kv (.tuple #[(.string s1), (.bool b2)]) w
noncomputable def bd : Code := bdy Tryd.f51
theorem fn : FnOk pr 51 15 Tryd.f51 := ⟨Tryd.func51, by kernel_rfl, Tryd.ntmps51, by kernel_rfl, by kernel_rfl⟩
def F : Clee := ofL [(63, C.stringslite_HasPrefix.cl)]
theorem FOk_ : FOk pr F := FOk_cons C.stringslite_HasPrefix.clok (FOk_nil)
def P1 (Kv : Value → World → Prop) : Post := bodyK false pr 15 Tryd.f51 Kv
end stringslite_CutPrefix
def stringslite_CutPrefix (s_3 : ByteArray) (prefix_4 : ByteArray) (w : World) (K : stringslite_CutPrefix.KT) : Prop :=
  C.stringslite_HasPrefix s_3 prefix_4 w fun b5 w6 => G.cond (!b5) (K s_3 false w6) (G.slcS s_3 ((prefix_4.size : Nat) : Int) ((s_3.size : Nat) : Int) fun s7 => K s7 true w6)
def stringslite_CutPrefix.cl : CL := fun args K w => match args with
  | [.string x0, .string x1] => C.stringslite_CutPrefix x0 x1 w (stringslite_CutPrefix.Kt K)
  | _ => False
theorem stringslite_CutPrefix.clok : OkC pr 51 stringslite_CutPrefix.cl := by
  intro args K w h
  unfold stringslite_CutPrefix.cl at h
  split at h
  · exact calls_last false mixed stringslite_CutPrefix.FOk_ stringslite_CutPrefix.fn rfl (Eq.mp (by kernel_rfl) h)
  · exact h.elim

/-! strings.CutPrefix -/
namespace strings_CutPrefix
abbrev KT := ByteArray → Bool → World → Prop
def Kt (Kv : Value → World → Prop) : KT := fun s1 b2 w => Kv (.tuple #[(.string s1), (.bool b2)]) w
noncomputable def bd : Code := bdy Tryd.f47
theorem fn : FnOk pr 47 11 Tryd.f47 := ⟨Tryd.func47, by kernel_rfl, Tryd.ntmps47, by kernel_rfl, by kernel_rfl⟩
def F : Clee := ofL [(51, C.stringslite_CutPrefix.cl)]
theorem FOk_ : FOk pr F := FOk_cons C.stringslite_CutPrefix.clok (FOk_nil)
def P1 (Kv : Value → World → Prop) : Post := bodyK false pr 11 Tryd.f47 Kv
end strings_CutPrefix
def strings_CutPrefix (s_3 : ByteArray) (prefix_4 : ByteArray) (w : World) (K : strings_CutPrefix.KT) : Prop :=
  C.stringslite_CutPrefix s_3 prefix_4 w fun s5 b6 w7 => K s5 b6 w7
def strings_CutPrefix.cl : CL := fun args K w => match args with
  | [.string x0, .string x1] => C.strings_CutPrefix x0 x1 w (strings_CutPrefix.Kt K)
  | _ => False
theorem strings_CutPrefix.clok : OkC pr 47 strings_CutPrefix.cl := by
  intro args K w h
  unfold strings_CutPrefix.cl at h
  split at h
  · exact calls_last false mixed strings_CutPrefix.FOk_ strings_CutPrefix.fn rfl (Eq.mp (by kernel_rfl) h)
  · exact h.elim

/-! (*tocsin/wal.Log).number -/
namespace wal_Log_number
abbrev KT := Int → World → Prop
def Kt (Kv : Value → World → Prop) : KT := fun n1 w => Kv (.int .i64 n1) w
noncomputable def bd : Code := bdy Tryd.f36
theorem fn : FnOk pr 36 51 Tryd.f36 := ⟨Tryd.func36, by kernel_rfl, Tryd.ntmps36, by kernel_rfl, by kernel_rfl⟩
def F : Clee := ofL [(47, C.strings_CutPrefix.cl)]
theorem FOk_ : FOk pr F := FOk_cons C.strings_CutPrefix.clok (FOk_nil)
def P1 (Kv : Value → World → Prop) : Post := bodyK false pr 51 Tryd.f36 Kv
@[reducible] def g2 : List SE := [.v 7 (.int .i64)]
def S2 (K : KT) (n_6 : Int) (w : World) : Prop :=
  K n_6 w
theorem S2_ok (Kv : Value → World → Prop) : OkT pr false none 51 g2 (S2 (Kt Kv)) (s2 (tl 4 bd)) (P1 Kv) := ok_last mixed FOk_ fun v ρ w => by kernel_rfl
def P3 (Kv : Value → World → Prop) : Post := next (get g2 (S2 (Kt Kv))) (P1 Kv)
def P4 (Kv : Value → World → Prop) : Post := inBlock 0 (P3 Kv)
@[reducible] def g5 : List SE := [.v 5 .str, .v 7 (.int .i64), .v 27 (.int .i64), .v 28 (.int .i64)]
def P6 (Kv : Value → World → Prop) (kc5 : Cur g5) : Post := next (get g5 kc5) (P4 Kv)
def S7 (K : KT) (kc5 : Cur g5) (s_15 : ByteArray) (n_16 : Int) (n17 : Int) (n18 : Int) (w : World) : Prop :=
  G.cond (decide (n18 < n17)) (G.ixS s_15 n18 fun n19 => G.cond (decide (n19 < (48 : Int))) (K (0 : Int) w) (G.ixS s_15 n18 fun n20 => G.cond (decide (n20 > (57 : Int))) (K (0 : Int) w) (G.ixS s_15 n18 fun n21 => kc5 s_15 (IntKind.i64.wrap ((IntKind.i64.wrap (n_16 * (10 : Int))) + (IntKind.i64.wrap (IntKind.u8.wrap (n21 - (48 : Int)))))) n17 (IntKind.i64.wrap (n18 + (1 : Int))) w))) (S2 K n_16 w)
theorem S7_ok (Kv : Value → World → Prop) (kc5 : Cur g5) : OkT pr false none 51 g5 (S7 (Kt Kv) kc5) (lp (blk (tl 1 (s1 (tl 4 bd))))) (P6 Kv kc5) := ok_last mixed FOk_ fun v ρ w => by kernel_rfl
def L5 (K : KT) : Cur g5 := loopC g5 (S7 K)
theorem L5_ok (Kv : Value → World → Prop) : OkT pr false none 51 g5 (L5 (Kt Kv)) (blk (tl 1 (s1 (tl 4 bd)))) (P4 Kv) := ok_loop (B := S7 (Kt Kv)) (by kernel_rfl) fun kc => S7_ok Kv kc
theorem L5_ind {K : KT} {s_7 : ByteArray} {n_8 : Int} {n9 : Int} {n10 : Int} {w : World} (h : ∀ X : Cur g5, (∀ s_7 n_8 n9 n10 w, S7 K X s_7 n_8 n9 n10 w → X s_7 n_8 n9 n10 w) → X s_7 n_8 n9 n10 w) : L5 K s_7 n_8 n9 n10 w := fun X hX => h X fun s_7 n_8 n9 n10 w hb => hX (s_7, n_8, n9, n10, ()) w hb
theorem B8 (Kv : Value → World → Prop) : OkT pr false none 51 g5 (L5 (Kt Kv)) (tl 1 (s1 (tl 4 bd))) (P3 Kv) := ok_block 0 (by kernel_rfl) (L5_ok Kv)
@[reducible] def g9 : List SE := [.v 5 .str, .v 7 (.int .i64)]
def S9 (K : KT) (s_22 : ByteArray) (n_23 : Int) (w : World) : Prop :=
  L5 K s_22 n_23 ((s_22.size : Nat) : Int) (0 : Int) w
theorem S9_ok (Kv : Value → World → Prop) : OkT pr false none 51 g9 (S9 (Kt Kv)) (s1 (tl 4 bd)) (P3 Kv) := ok_group mixed FOk_ 1 (B8 Kv) fun v ρ w => by kernel_rfl
theorem Q10 (Kv : Value → World → Prop) : OkT pr false none 51 g9 (S9 (Kt Kv)) (tl 4 bd) (P1 Kv) := ok_seq (by kernel_rfl) (S2_ok Kv) (S9_ok Kv)
end wal_Log_number
def wal_Log_number (l_2 : Option Addr) (file_3 : ByteArray) (w : World) (K : wal_Log_number.KT) : Prop :=
  G.ptr l_2 fun p24 => G.cS (p24.add 1) w fun s25 => G.cat s25 (⟨#[46]⟩ : ByteArray) fun s26 => C.strings_CutPrefix file_3 s26 w fun s27 b28 w29 => G.cond (!b28) (K (0 : Int) w29) (G.cond (((s27.size : Nat) : Int) != (8 : Int)) (K (0 : Int) w29) (wal_Log_number.S9 K s27 (0 : Int) w29))
def wal_Log_number.cl : CL := fun args K w => match args with
  | [.pointer x0, .string x1] => C.wal_Log_number x0 x1 w (wal_Log_number.Kt K)
  | _ => False
theorem wal_Log_number.clok : OkC pr 36 wal_Log_number.cl := by
  intro args K w h
  unfold wal_Log_number.cl at h
  split at h
  · exact calls_group false mixed wal_Log_number.FOk_ wal_Log_number.fn rfl 4 (wal_Log_number.Q10 K) (Eq.mp (by kernel_rfl) h)
  · exact h.elim

/-! (*tocsin/wal.Log).Segments -/
namespace wal_Log_Segments
abbrev KT := Sl → World → Prop
def Kt (Kv : Value → World → Prop) : KT := fun l1 w => Kv l1.v w
noncomputable def bd : Code := bdy Tryd.f18
theorem fn : FnOk pr 18 30 Tryd.f18 := ⟨Tryd.func18, by kernel_rfl, Tryd.ntmps18, by kernel_rfl, by kernel_rfl⟩
def F : Clee := ofL [(34, C.disk_Disk_List.cl), (36, C.wal_Log_number.cl)]
theorem FOk_ : FOk pr F := FOk_cons C.disk_Disk_List.clok (FOk_cons C.wal_Log_number.clok (FOk_nil))
def P1 (Kv : Value → World → Prop) : Post := bodyK false pr 30 Tryd.f18 Kv
@[reducible] def g2 : List SE := [.v 3 .sl]
def S2 (K : KT) (out_4 : Sl) (w : World) : Prop :=
  K out_4 w
theorem S2_ok (Kv : Value → World → Prop) : OkT pr false none 30 g2 (S2 (Kt Kv)) (s2 (tl 3 bd)) (P1 Kv) := ok_last mixed FOk_ fun v ρ w => by kernel_rfl
def P3 (Kv : Value → World → Prop) : Post := next (get g2 (S2 (Kt Kv))) (P1 Kv)
def P4 (Kv : Value → World → Prop) : Post := inBlock 0 (P3 Kv)
@[reducible] def g5 : List SE := [.v 0 .ptr, .v 3 .sl, .v 13 .sl, .v 14 (.int .i64), .v 15 (.int .i64)]
def P6 (Kv : Value → World → Prop) (kc5 : Cur g5) : Post := next (get g5 kc5) (P4 Kv)
def S7 (K : KT) (kc5 : Cur g5) (l_15 : Option Addr) (out_16 : Sl) (l17 : Sl) (n18 : Int) (n19 : Int) (w : World) : Prop :=
  G.cond (decide (n19 < n18)) (G.ix l17.a l17.n n19 1 fun p20 => G.cS p20 w fun s21 => C.wal_Log_number l_15 s21 w fun n22 w23 => G.cond (decide (n22 > (0 : Int))) (G.new (.cells #[(.int .i64 n22)] 3) w23 fun p24 w25 => G.runSl pr (Builtin.append_ #[43, 43] 43 #[out_16.v, (Sl.v (⟨some p24, 1, 1⟩ : Sl))]) w25 fun l26 w27 => kc5 l_15 l26 l17 n18 (IntKind.i64.wrap (n19 + (1 : Int))) w27) (kc5 l_15 out_16 l17 n18 (IntKind.i64.wrap (n19 + (1 : Int))) w23)) (S2 K out_16 w)
theorem S7_ok (Kv : Value → World → Prop) (kc5 : Cur g5) : OkT pr false none 30 g5 (S7 (Kt Kv) kc5) (lp (blk (tl 1 (s1 (tl 3 bd))))) (P6 Kv kc5) := ok_last mixed FOk_ fun v ρ w => by kernel_rfl
def L5 (K : KT) : Cur g5 := loopC g5 (S7 K)
theorem L5_ok (Kv : Value → World → Prop) : OkT pr false none 30 g5 (L5 (Kt Kv)) (blk (tl 1 (s1 (tl 3 bd)))) (P4 Kv) := ok_loop (B := S7 (Kt Kv)) (by kernel_rfl) fun kc => S7_ok Kv kc
theorem L5_ind {K : KT} {l_5 : Option Addr} {out_6 : Sl} {l7 : Sl} {n8 : Int} {n9 : Int} {w : World} (h : ∀ X : Cur g5, (∀ l_5 out_6 l7 n8 n9 w, S7 K X l_5 out_6 l7 n8 n9 w → X l_5 out_6 l7 n8 n9 w) → X l_5 out_6 l7 n8 n9 w) : L5 K l_5 out_6 l7 n8 n9 w := fun X hX => h X fun l_5 out_6 l7 n8 n9 w hb => hX (l_5, out_6, l7, n8, n9, ()) w hb
theorem B8 (Kv : Value → World → Prop) : OkT pr false none 30 g5 (L5 (Kt Kv)) (tl 1 (s1 (tl 3 bd))) (P3 Kv) := ok_block 0 (by kernel_rfl) (L5_ok Kv)
@[reducible] def g9 : List SE := [.v 0 .ptr, .v 3 .sl]
def S9 (K : KT) (l_28 : Option Addr) (out_29 : Sl) (w : World) : Prop :=
  G.ptr l_28 fun p30 => G.cP p30 w fun p31 => C.disk_Disk_List p31 w fun l32 w33 => L5 K l_28 out_29 l32 ((l32.n : Nat) : Int) (0 : Int) w33
theorem S9_ok (Kv : Value → World → Prop) : OkT pr false none 30 g9 (S9 (Kt Kv)) (s1 (tl 3 bd)) (P3 Kv) := ok_group mixed FOk_ 1 (B8 Kv) fun v ρ w => by kernel_rfl
theorem Q10 (Kv : Value → World → Prop) : OkT pr false none 30 g9 (S9 (Kt Kv)) (tl 3 bd) (P1 Kv) := ok_seq (by kernel_rfl) (S2_ok Kv) (S9_ok Kv)
end wal_Log_Segments
def wal_Log_Segments (l_2 : Option Addr) (w : World) (K : wal_Log_Segments.KT) : Prop :=
  G.cond l_2.isNone (K nilS w) (wal_Log_Segments.S9 K l_2 nilS w)
def wal_Log_Segments.cl : CL := fun args K w => match args with
  | [.pointer x0] => C.wal_Log_Segments x0 w (wal_Log_Segments.Kt K)
  | _ => False
theorem wal_Log_Segments.clok : OkC pr 18 wal_Log_Segments.cl := by
  intro args K w h
  unfold wal_Log_Segments.cl at h
  split at h
  · exact calls_group false mixed wal_Log_Segments.FOk_ wal_Log_Segments.fn rfl 3 (wal_Log_Segments.Q10 K) (Eq.mp (by kernel_rfl) h)
  · exact h.elim

/-! (*tocsin/wal.Log).segment -/
namespace wal_Log_segment
abbrev KT := ByteArray → World → Prop
def Kt (Kv : Value → World → Prop) : KT := fun s1 w => Kv (.string s1) w
noncomputable def bd : Code := bdy Tryd.f27
theorem fn : FnOk pr 27 30 Tryd.f27 := ⟨Tryd.func27, by kernel_rfl, Tryd.ntmps27, by kernel_rfl, by kernel_rfl⟩
def F : Clee := ofL []
theorem FOk_ : FOk pr F := FOk_nil
def P1 (Kv : Value → World → Prop) : Post := bodyK false pr 30 Tryd.f27 Kv
@[reducible] def g2 : List SE := [.v 0 .ptr, .v 5 .sl]
def S2 (K : KT) (l_4 : Option Addr) (b_5 : Sl) (w : World) : Prop :=
  G.ptr l_4 fun p6 => G.cS (p6.add 1) w.drew fun s7 => G.cat s7 (⟨#[46]⟩ : ByteArray) fun s8 => G.rdS pr (Conv.bytesToString b_5.v) w.drew fun s9 => G.cat s8 s9 fun s10 => K s10 w.drew
theorem S2_ok (Kv : Value → World → Prop) : OkT pr false none 30 g2 (S2 (Kt Kv)) (s2 (tl 2 bd)) (P1 Kv) := ok_last mixed FOk_ fun v ρ w => by kernel_rfl
def P3 (Kv : Value → World → Prop) : Post := next (get g2 (S2 (Kt Kv))) (P1 Kv)
def P4 (Kv : Value → World → Prop) : Post := inBlock 0 (P3 Kv)
@[reducible] def g5 : List SE := [.v 0 .ptr, .v 1 (.int .i64), .v 5 .sl, .v 6 (.int .i64)]
def P6 (Kv : Value → World → Prop) (kc5 : Cur g5) : Post := next (get g5 kc5) (P4 Kv)
def S7 (K : KT) (kc5 : Cur g5) (l_19 : Option Addr) (n_20 : Int) (b_21 : Sl) (i_22 : Int) (w : World) : Prop :=
  G.cond (decide (i_22 ≥ (0 : Int))) (G.nz (10 : Int) <| G.ix b_21.a b_21.n i_22 1 fun p23 => G.st p23 (.int .u8 (IntKind.u8.wrap (IntKind.i64.wrap ((48 : Int) + (Int.tmod n_20 (10 : Int)))))) w fun w24 => G.nz (10 : Int) <| kc5 l_19 (IntKind.i64.wrap (Int.tdiv n_20 (10 : Int))) b_21 (IntKind.i64.wrap (i_22 - (1 : Int))) w24) (S2 K l_19 b_21 w)
theorem S7_ok (Kv : Value → World → Prop) (kc5 : Cur g5) : OkT pr false none 30 g5 (S7 (Kt Kv) kc5) (lp (blk (tl 1 (s1 (tl 2 bd))))) (P6 Kv kc5) := ok_last mixed FOk_ fun v ρ w => by kernel_rfl
def L5 (K : KT) : Cur g5 := loopC g5 (S7 K)
theorem L5_ok (Kv : Value → World → Prop) : OkT pr false none 30 g5 (L5 (Kt Kv)) (blk (tl 1 (s1 (tl 2 bd)))) (P4 Kv) := ok_loop (B := S7 (Kt Kv)) (by kernel_rfl) fun kc => S7_ok Kv kc
theorem L5_ind {K : KT} {l_11 : Option Addr} {n_12 : Int} {b_13 : Sl} {i_14 : Int} {w : World} (h : ∀ X : Cur g5, (∀ l_11 n_12 b_13 i_14 w, S7 K X l_11 n_12 b_13 i_14 w → X l_11 n_12 b_13 i_14 w) → X l_11 n_12 b_13 i_14 w) : L5 K l_11 n_12 b_13 i_14 w := fun X hX => h X fun l_11 n_12 b_13 i_14 w hb => hX (l_11, n_12, b_13, i_14, ()) w hb
theorem B8 (Kv : Value → World → Prop) : OkT pr false none 30 g5 (L5 (Kt Kv)) (tl 1 (s1 (tl 2 bd))) (P3 Kv) := ok_block 0 (by kernel_rfl) (L5_ok Kv)
@[reducible] def g9 : List SE := [.v 0 .ptr, .v 1 (.int .i64), .v 5 .sl]
def S9 (K : KT) (l_25 : Option Addr) (n_26 : Int) (b_27 : Sl) (w : World) : Prop :=
  L5 K l_25 n_26 b_27 (7 : Int) w
theorem S9_ok (Kv : Value → World → Prop) : OkT pr false none 30 g9 (S9 (Kt Kv)) (s1 (tl 2 bd)) (P3 Kv) := ok_group mixed FOk_ 1 (B8 Kv) fun v ρ w => by kernel_rfl
theorem Q10 (Kv : Value → World → Prop) : OkT pr false none 30 g9 (S9 (Kt Kv)) (tl 2 bd) (P1 Kv) := ok_seq (by kernel_rfl) (S2_ok Kv) (S9_ok Kv)
end wal_Log_segment
def wal_Log_segment (l_2 : Option Addr) (n_3 : Int) (w : World) (K : wal_Log_segment.KT) : Prop :=
  G.new (.cells #[(.int .u8 (48 : Int)), (.int .u8 (48 : Int)), (.int .u8 (48 : Int)), (.int .u8 (48 : Int)), (.int .u8 (48 : Int)), (.int .u8 (48 : Int)), (.int .u8 (48 : Int)), (.int .u8 (48 : Int))] 5) w fun p28 w29 => G.runSl pr (Go.convert 31 31 (Sl.v (⟨some p28, 8, 8⟩ : Sl))) w29 fun l30 w31 => wal_Log_segment.S9 K l_2 n_3 l30 w31
def wal_Log_segment.cl : CL := fun args K w => match args with
  | [.pointer x0, .int .i64 x1] => C.wal_Log_segment x0 x1 w (wal_Log_segment.Kt K)
  | _ => False
theorem wal_Log_segment.clok : OkC pr 27 wal_Log_segment.cl := by
  intro args K w h
  unfold wal_Log_segment.cl at h
  split at h
  · exact calls_group false mixed wal_Log_segment.FOk_ wal_Log_segment.fn rfl 2 (wal_Log_segment.Q10 K) (Eq.mp (by kernel_rfl) h)
  · exact h.elim

/-! tocsin/vint.Frames -/
namespace vint_Frames
abbrev KT := Sl → Int → Int → World → Prop
def Kt (Kv : Value → World → Prop) : KT := fun l1 n2 n3 w => Kv (.tuple #[l1.v, (.int .i64 n2), (.int .i64 n3)]) w
noncomputable def bd : Code := bdy Tryd.f40
theorem fn : FnOk pr 40 33 Tryd.f40 := ⟨Tryd.func40, by kernel_rfl, Tryd.ntmps40, by kernel_rfl, by kernel_rfl⟩
def F : Clee := ofL [(38, C.vint_Frame.cl)]
theorem FOk_ : FOk pr F := FOk_cons C.vint_Frame.clok (FOk_nil)
def P1 (Kv : Value → World → Prop) : Post := bodyK false pr 33 Tryd.f40 Kv
def P2 (Kv : Value → World → Prop) : Post := noG (P1 Kv)
@[reducible] def g3 : List SE := [.v 5 .sl, .v 6 (.int .i64), .v 7 (.int .i64)]
def S3 (K : KT) (l_5 : Sl) (at_6 : Int) (e_7 : Int) (w : World) : Prop :=
  K l_5 at_6 e_7 w
theorem S3_ok (Kv : Value → World → Prop) : OkT pr false none 33 g3 (S3 (Kt Kv)) (s2 (tl 3 (scp (tl 1 bd)))) (P2 Kv) := ok_last mixed FOk_ fun v ρ w => by kernel_rfl
def P4 (Kv : Value → World → Prop) : Post := next (get g3 (S3 (Kt Kv))) (P2 Kv)
def P5 (Kv : Value → World → Prop) : Post := inBlock 0 (P4 Kv)
@[reducible] def g6 : List SE := [.v 0 .sl, .v 5 .sl, .v 6 (.int .i64), .v 7 (.int .i64)]
def P7 (Kv : Value → World → Prop) (kc6 : Cur g6) : Post := next (get g6 kc6) (P5 Kv)
def S8 (K : KT) (kc6 : Cur g6) (b_16 : Sl) (l_17 : Sl) (at_18 : Int) (e_19 : Int) (w : World) : Prop :=
  G.cond (decide (at_18 < ((b_16.n : Nat) : Int))) (C.vint_Frame b_16 at_18 w fun l20 n21 n22 w23 => G.cond (n22 != (0 : Int)) (S3 K l_17 at_18 n22 w23) (G.new (.cells #[l20.v] 31) w23 fun p24 w25 => G.runSl pr (Builtin.append_ #[22, 22] 22 #[l_17.v, (Sl.v (⟨some p24, 1, 1⟩ : Sl))]) w25 fun l26 w27 => kc6 b_16 l26 n21 e_19 w27)) (S3 K l_17 at_18 e_19 w)
theorem S8_ok (Kv : Value → World → Prop) (kc6 : Cur g6) : OkT pr false none 33 g6 (S8 (Kt Kv) kc6) (lp (blk (s1 (tl 3 (scp (tl 1 bd)))))) (P7 Kv kc6) := ok_last mixed FOk_ fun v ρ w => by kernel_rfl
def L6 (K : KT) : Cur g6 := loopC g6 (S8 K)
theorem L6_ok (Kv : Value → World → Prop) : OkT pr false none 33 g6 (L6 (Kt Kv)) (blk (s1 (tl 3 (scp (tl 1 bd))))) (P5 Kv) := ok_loop (B := S8 (Kt Kv)) (by kernel_rfl) fun kc => S8_ok Kv kc
theorem L6_ind {K : KT} {b_8 : Sl} {l_9 : Sl} {at_10 : Int} {e_11 : Int} {w : World} (h : ∀ X : Cur g6, (∀ b_8 l_9 at_10 e_11 w, S8 K X b_8 l_9 at_10 e_11 w → X b_8 l_9 at_10 e_11 w) → X b_8 l_9 at_10 e_11 w) : L6 K b_8 l_9 at_10 e_11 w := fun X hX => h X fun b_8 l_9 at_10 e_11 w hb => hX (b_8, l_9, at_10, e_11, ()) w hb
theorem B9 (Kv : Value → World → Prop) : OkT pr false none 33 g6 (L6 (Kt Kv)) (s1 (tl 3 (scp (tl 1 bd)))) (P4 Kv) := ok_block 0 (by kernel_rfl) (L6_ok Kv)
theorem Q10 (Kv : Value → World → Prop) : OkT pr false none 33 g6 (L6 (Kt Kv)) (tl 3 (scp (tl 1 bd))) (P2 Kv) := ok_seq (by kernel_rfl) (S3_ok Kv) (B9 Kv)
@[reducible] def g11 : List SE := [.v 0 .sl]
def S11 (K : KT) (b_28 : Sl) (w : World) : Prop :=
  L6 K b_28 nilS (0 : Int) (0 : Int) w
theorem S11_ok (Kv : Value → World → Prop) : OkT pr false none 33 g11 (S11 (Kt Kv)) (scp (tl 1 bd)) (P2 Kv) := ok_group mixed FOk_ 3 (Q10 Kv) fun v ρ w => by kernel_rfl
theorem B12 (Kv : Value → World → Prop) : OkT pr false none 33 g11 (S11 (Kt Kv)) (tl 1 bd) (P1 Kv) := ok_scope (by kernel_rfl) (S11_ok Kv)
end vint_Frames
def vint_Frames (b_4 : Sl) (w : World) (K : vint_Frames.KT) : Prop :=
  vint_Frames.S11 K b_4 w
def vint_Frames.cl : CL := fun args K w => match args with
  | [.slice x0_a x0_n x0_c] => C.vint_Frames ⟨x0_a, x0_n, x0_c⟩ w (vint_Frames.Kt K)
  | _ => False
theorem vint_Frames.clok : OkC pr 40 vint_Frames.cl := by
  intro args K w h
  unfold vint_Frames.cl at h
  split at h
  · exact calls_group false mixed vint_Frames.FOk_ vint_Frames.fn rfl 1 (vint_Frames.B12 K) (Eq.mp (by kernel_rfl) h)
  · exact h.elim

/-! (*tocsin/disk.Disk).Cut -/
namespace disk_Disk_Cut
abbrev KT := Int → World → Prop
def Kt (Kv : Value → World → Prop) : KT := fun n1 w => Kv (.int .i64 n1) w
noncomputable def bd : Code := bdy Tryd.f41
theorem fn : FnOk pr 41 37 Tryd.f41 := ⟨Tryd.func41, by kernel_rfl, Tryd.ntmps41, by kernel_rfl, by kernel_rfl⟩
def F : Clee := ofL [(35, C.disk_file_again.cl), (37, C.disk_Disk_find.cl)]
theorem FOk_ : FOk pr F := FOk_cons C.disk_file_again.clok (FOk_cons C.disk_Disk_find.clok (FOk_nil))
def P1 (Kv : Value → World → Prop) : Post := bodyK false pr 37 Tryd.f41 Kv
end disk_Disk_Cut
def disk_Disk_Cut (d_2 : Option Addr) (name_3 : ByteArray) (n_4 : Int) (w : World) (K : disk_Disk_Cut.KT) : Prop :=
  C.disk_Disk_find d_2 name_3 w fun l8 n9 n10 w11 => G.new (.cells #[nilS.v, (.int .i64 (0 : Int))] 77) w11 fun p12 w13 => G.st p12 l8.v w13 fun w14 => G.st (p12.add 1) (.int .i64 n9) w14 fun w15 => G.cond (n10 != (0 : Int)) (K n10 w15) (G.cond (decide (n_4 < (0 : Int))) (K (1 : Int) w15) (G.cSl p12 w15 fun l16 => G.cond (decide (n_4 > ((l16.n : Nat) : Int))) (K (1 : Int) w15) (G.ptr d_2 fun p17 => G.cM p17 w15.drew fun m18 => G.cSl p12 w15.drew fun l19 => G.cI .i64 (p12.add 1) w15.drew fun n20 => C.disk_file_again l19 n20 n_4 w15.drew fun l21 n22 w23 => sameAt p17 1 w15.drew w23 ∧ (G.runU pr (Instr.mapUpdate 46 (.map m18) (.string name_3) (.agg #[l21.v, (.int .i64 n22)])) w23 fun w24 => K (0 : Int) w24))))
def disk_Disk_Cut.cl : CL := fun args K w => match args with
  | [.pointer x0, .string x1, .int .i64 x2] => C.disk_Disk_Cut x0 x1 x2 w (disk_Disk_Cut.Kt K)
  | _ => False
theorem disk_Disk_Cut.clok : OkC pr 41 disk_Disk_Cut.cl := by
  intro args K w h
  unfold disk_Disk_Cut.cl at h
  split at h
  · exact calls_last false mixed disk_Disk_Cut.FOk_ disk_Disk_Cut.fn rfl (Eq.mp (by kernel_rfl) h)
  · exact h.elim

/-! (*tocsin/wal.Log).replay -/
namespace wal_Log_replay
abbrev KT := World → Prop
def Kt (Kv : Value → World → Prop) : KT := fun  w => Kv (.tuple #[]) w
noncomputable def bd : Code := bdy Tryd.f23
theorem fn : FnOk pr 23 78 Tryd.f23 := ⟨Tryd.func23, by kernel_rfl, Tryd.ntmps23, by kernel_rfl, by kernel_rfl⟩
def F : Clee := ofL [(18, C.wal_Log_Segments.cl), (20, C.disk_Disk_Remove.cl), (21, C.disk_Disk_Read.cl), (27, C.wal_Log_segment.cl), (40, C.vint_Frames.cl), (41, C.disk_Disk_Cut.cl)]
theorem FOk_ : FOk pr F := FOk_cons C.wal_Log_Segments.clok (FOk_cons C.disk_Disk_Remove.clok (FOk_cons C.disk_Disk_Read.clok (FOk_cons C.wal_Log_segment.clok (FOk_cons C.vint_Frames.clok (FOk_cons C.disk_Disk_Cut.clok (FOk_nil))))))
def P1 (Kv : Value → World → Prop) : Post := bodyK false pr 78 Tryd.f23 Kv
def P2 (Kv : Value → World → Prop) : Post := noG (P1 Kv)
def P3 (Kv : Value → World → Prop) : Post := inBlock 0 (P2 Kv)
@[reducible] def g4 : List SE := [.v 0 .ptr, .v 2 (.int .i64), .v 3 .bool, .v 17 .sl, .v 18 (.int .i64), .v 19 (.int .i64)]
def P5 (Kv : Value → World → Prop) (kc4 : Cur g4) : Post := next (get g4 kc4) (P3 Kv)
def S6 (K : KT) (kc4 : Cur g4) (l_14 : Option Addr) (next_15 : Int) (torn_16 : Bool) (l17 : Sl) (n18 : Int) (n19 : Int) (w : World) : Prop :=
  G.cond (decide (n19 < n18)) (G.ix l17.a l17.n n19 1 fun p20 => G.cI .i64 p20 w fun n21 => C.wal_Log_segment l_14 n21 w fun s22 w23 => G.cond (n21 != next_15) (G.ptr l_14 fun p24 => G.cP p24 w23 fun p25 => C.disk_Disk_Remove p25 s22 w23 fun n26 w27 => kc4 l_14 next_15 torn_16 l17 n18 (IntKind.i64.wrap (n19 + (1 : Int))) w27) (G.cond torn_16 (G.ptr l_14 fun p28 => G.cP p28 w23 fun p29 => C.disk_Disk_Remove p29 s22 w23 fun n30 w31 => kc4 l_14 next_15 torn_16 l17 n18 (IntKind.i64.wrap (n19 + (1 : Int))) w31) (G.ptr l_14 fun p32 => G.cP p32 w23 fun p33 => C.disk_Disk_Read p33 s22 w23 fun l34 n35 w36 => C.vint_Frames l34 w36 fun l37 n38 n39 w40 => G.ptr l_14 fun p41 => G.cSl (p41.add 4) w40 fun l42 => G.runSl pr (Builtin.append_ #[22, 22] 22 #[l42.v, l37.v]) w40 fun l43 w44 => G.ptr l_14 fun p45 => G.st (p45.add 4) l43.v w44 fun w46 => G.cond (n39 != (0 : Int)) (G.ptr l_14 fun p47 => G.cP p47 w46 fun p48 => C.disk_Disk_Cut p48 s22 n38 w46 fun n49 w50 => G.ptr l_14 fun p51 => G.st (p51.add 3) (.int .i64 n21) w50 fun w52 => kc4 l_14 (IntKind.i64.wrap (n21 + (1 : Int))) true l17 n18 (IntKind.i64.wrap (n19 + (1 : Int))) w52) (G.ptr l_14 fun p53 => G.st (p53.add 3) (.int .i64 n21) w46 fun w54 => kc4 l_14 (IntKind.i64.wrap (n21 + (1 : Int))) torn_16 l17 n18 (IntKind.i64.wrap (n19 + (1 : Int))) w54)))) (K w)
theorem S6_ok (Kv : Value → World → Prop) (kc4 : Cur g4) : OkT pr false none 78 g4 (S6 (Kt Kv) kc4) (lp (blk (tl 3 (scp (tl 0 bd))))) (P5 Kv kc4) := ok_last mixed FOk_ fun v ρ w => by kernel_rfl
def L4 (K : KT) : Cur g4 := loopC g4 (S6 K)
theorem L4_ok (Kv : Value → World → Prop) : OkT pr false none 78 g4 (L4 (Kt Kv)) (blk (tl 3 (scp (tl 0 bd)))) (P3 Kv) := ok_loop (B := S6 (Kt Kv)) (by kernel_rfl) fun kc => S6_ok Kv kc
theorem L4_ind {K : KT} {l_2 : Option Addr} {next_3 : Int} {torn_4 : Bool} {l5 : Sl} {n6 : Int} {n7 : Int} {w : World} (h : ∀ X : Cur g4, (∀ l_2 next_3 torn_4 l5 n6 n7 w, S6 K X l_2 next_3 torn_4 l5 n6 n7 w → X l_2 next_3 torn_4 l5 n6 n7 w) → X l_2 next_3 torn_4 l5 n6 n7 w) : L4 K l_2 next_3 torn_4 l5 n6 n7 w := fun X hX => h X fun l_2 next_3 torn_4 l5 n6 n7 w hb => hX (l_2, next_3, torn_4, l5, n6, n7, ()) w hb
theorem B7 (Kv : Value → World → Prop) : OkT pr false none 78 g4 (L4 (Kt Kv)) (tl 3 (scp (tl 0 bd))) (P2 Kv) := ok_block 0 (by kernel_rfl) (L4_ok Kv)
@[reducible] def g8 : List SE := [.v 0 .ptr]
def S8 (K : KT) (l_55 : Option Addr) (w : World) : Prop :=
  G.ptr l_55 fun p56 => G.cI .i64 (p56.add 3) w fun n57 => C.wal_Log_Segments l_55 w fun l58 w59 => L4 K l_55 n57 false l58 ((l58.n : Nat) : Int) (0 : Int) w59
theorem S8_ok (Kv : Value → World → Prop) : OkT pr false none 78 g8 (S8 (Kt Kv)) (scp (tl 0 bd)) (P2 Kv) := ok_group mixed FOk_ 3 (B7 Kv) fun v ρ w => by kernel_rfl
theorem B9 (Kv : Value → World → Prop) : OkT pr false none 78 g8 (S8 (Kt Kv)) (tl 0 bd) (P1 Kv) := ok_scope (by kernel_rfl) (S8_ok Kv)
end wal_Log_replay
def wal_Log_replay (l_1 : Option Addr) (w : World) (K : wal_Log_replay.KT) : Prop :=
  wal_Log_replay.S8 K l_1 w
def wal_Log_replay.cl : CL := fun args K w => match args with
  | [.pointer x0] => C.wal_Log_replay x0 w (wal_Log_replay.Kt K)
  | _ => False
theorem wal_Log_replay.clok : OkC pr 23 wal_Log_replay.cl := by
  intro args K w h
  unfold wal_Log_replay.cl at h
  split at h
  · exact calls_group false mixed wal_Log_replay.FOk_ wal_Log_replay.fn rfl 0 (wal_Log_replay.B9 K) (Eq.mp (by kernel_rfl) h)
  · exact h.elim

/-! tocsin/wal.Open -/
namespace wal_Open
abbrev KT := Option Addr → Sl → Int → World → Prop
def Kt (Kv : Value → World → Prop) : KT := fun p1 l2 n3 w => Kv (.tuple #[(.pointer p1), l2.v, (.int .i64 n3)]) w
noncomputable def bd : Code := bdy Tryd.f9
theorem fn : FnOk pr 9 85 Tryd.f9 := ⟨Tryd.func9, by kernel_rfl, Tryd.ntmps9, by kernel_rfl, by kernel_rfl⟩
def F : Clee := ofL [(19, C.wal_named.cl), (20, C.disk_Disk_Remove.cl), (21, C.disk_Disk_Read.cl), (22, C.wal_checkpoint.cl), (23, C.wal_Log_replay.cl), (24, C.wal_again.cl)]
theorem FOk_ : FOk pr F := FOk_cons C.wal_named.clok (FOk_cons C.disk_Disk_Remove.clok (FOk_cons C.disk_Disk_Read.clok (FOk_cons C.wal_checkpoint.clok (FOk_cons C.wal_Log_replay.clok (FOk_cons C.wal_again.clok (FOk_nil))))))
def P1 (Kv : Value → World → Prop) : Post := bodyK false pr 85 Tryd.f9 Kv
@[reducible] def g2 : List SE := [.v 9 .ptr, .v 15 .sl]
def S2 (K : KT) (l_13 : Option Addr) (out_14 : Sl) (w : World) : Prop :=
  K l_13 out_14 (0 : Int) w
theorem S2_ok (Kv : Value → World → Prop) : OkT pr false none 85 g2 (S2 (Kt Kv)) (s2 (tl 2 (tl 5 bd))) (P1 Kv) := ok_last mixed FOk_ fun v ρ w => by kernel_rfl
def P3 (Kv : Value → World → Prop) : Post := next (get g2 (S2 (Kt Kv))) (P1 Kv)
def P4 (Kv : Value → World → Prop) : Post := inBlock 1 (P3 Kv)
@[reducible] def g5 : List SE := [.v 9 .ptr, .v 15 .sl, .v 71 .sl, .v 72 (.int .i64), .v 73 (.int .i64)]
def P6 (Kv : Value → World → Prop) (kc5 : Cur g5) : Post := next (get g5 kc5) (P4 Kv)
def S7 (K : KT) (kc5 : Cur g5) (l_25 : Option Addr) (out_26 : Sl) (l27 : Sl) (n28 : Int) (n29 : Int) (w : World) : Prop :=
  G.cond (decide (n29 < n28)) (G.ix l27.a l27.n n29 1 fun p30 => G.cSl p30 w fun l31 => C.wal_again l31 w fun l32 w33 => G.new (.cells #[l32.v] 31) w33 fun p34 w35 => G.runSl pr (Builtin.append_ #[22, 22] 22 #[out_26.v, (Sl.v (⟨some p34, 1, 1⟩ : Sl))]) w35 fun l36 w37 => kc5 l_25 l36 l27 n28 (IntKind.i64.wrap (n29 + (1 : Int))) w37) (S2 K l_25 out_26 w)
theorem S7_ok (Kv : Value → World → Prop) (kc5 : Cur g5) : OkT pr false none 85 g5 (S7 (Kt Kv) kc5) (lp (blk (tl 1 (s1 (tl 2 (tl 5 bd)))))) (P6 Kv kc5) := ok_last mixed FOk_ fun v ρ w => by kernel_rfl
def L5 (K : KT) : Cur g5 := loopC g5 (S7 K)
theorem L5_ok (Kv : Value → World → Prop) : OkT pr false none 85 g5 (L5 (Kt Kv)) (blk (tl 1 (s1 (tl 2 (tl 5 bd))))) (P4 Kv) := ok_loop (B := S7 (Kt Kv)) (by kernel_rfl) fun kc => S7_ok Kv kc
theorem L5_ind {K : KT} {l_15 : Option Addr} {out_16 : Sl} {l17 : Sl} {n18 : Int} {n19 : Int} {w : World} (h : ∀ X : Cur g5, (∀ l_15 out_16 l17 n18 n19 w, S7 K X l_15 out_16 l17 n18 n19 w → X l_15 out_16 l17 n18 n19 w) → X l_15 out_16 l17 n18 n19 w) : L5 K l_15 out_16 l17 n18 n19 w := fun X hX => h X fun l_15 out_16 l17 n18 n19 w hb => hX (l_15, out_16, l17, n18, n19, ()) w hb
theorem B8 (Kv : Value → World → Prop) : OkT pr false none 85 g5 (L5 (Kt Kv)) (tl 1 (s1 (tl 2 (tl 5 bd)))) (P3 Kv) := ok_block 1 (by kernel_rfl) (L5_ok Kv)
def S9 (K : KT) (l_38 : Option Addr) (out_39 : Sl) (w : World) : Prop :=
  G.ptr l_38 fun p40 => G.cSl (p40.add 4) w fun l41 => L5 K l_38 out_39 l41 ((l41.n : Nat) : Int) (0 : Int) w
theorem S9_ok (Kv : Value → World → Prop) : OkT pr false none 85 g2 (S9 (Kt Kv)) (s1 (tl 2 (tl 5 bd))) (P3 Kv) := ok_group mixed FOk_ 1 (B8 Kv) fun v ρ w => by kernel_rfl
theorem Q10 (Kv : Value → World → Prop) : OkT pr false none 85 g2 (S9 (Kt Kv)) (tl 2 (tl 5 bd)) (P1 Kv) := ok_seq (by kernel_rfl) (S2_ok Kv) (S9_ok Kv)
@[reducible] def g11 : List SE := [.v 9 .ptr]
def S11 (K : KT) (l_42 : Option Addr) (w : World) : Prop :=
  C.wal_Log_replay l_42 w fun w43 => S9 K l_42 nilS w43
theorem S11_ok (Kv : Value → World → Prop) : OkT pr false none 85 g11 (S11 (Kt Kv)) (tl 5 bd) (P1 Kv) := ok_group mixed FOk_ 2 (Q10 Kv) fun v ρ w => by kernel_rfl
end wal_Open
def wal_Open (d_4 : Option Addr) (name_5 : ByteArray) (room_6 : Int) (w : World) (K : wal_Open.KT) : Prop :=
  G.cond d_4.isNone (K none nilS (2 : Int) w) (C.wal_named name_5 w fun b44 w45 => G.cond (!b44) (K none nilS (40 : Int) w45) (G.cond (decide (room_6 < (16 : Int))) (K none nilS (1 : Int) w45) (G.cond (decide (room_6 > (1048576 : Int))) (K none nilS (1 : Int) w45) (G.new (.cells #[(.pointer d_4), (.string name_5), (.int .i64 room_6), (.int .i64 (1 : Int)), nilS.v] 51) w45 fun p46 w47 => G.cat name_5 (⟨#[46, 110, 101, 119]⟩ : ByteArray) fun s48 => C.disk_Disk_Remove d_4 s48 w47 fun n49 w50 => G.cat name_5 (⟨#[46, 99, 104, 101, 99, 107]⟩ : ByteArray) fun s51 => C.disk_Disk_Read d_4 s51 w50 fun l52 n53 w54 => G.cond (n53 == (0 : Int)) (C.wal_checkpoint l52 w54 fun n55 l56 b57 w58 => G.cond (!b57) (K none nilS (3 : Int) w58) (G.st (p46.add 3) (.int .i64 n55) w58 fun w59 => G.st (p46.add 4) l56.v w59 fun w60 => wal_Open.S11 K (some p46) w60)) (wal_Open.S11 K (some p46) w54)))))
def wal_Open.cl : CL := fun args K w => match args with
  | [.pointer x0, .string x1, .int .i64 x2] => C.wal_Open x0 x1 x2 w (wal_Open.Kt K)
  | _ => False
theorem wal_Open.clok : OkC pr 9 wal_Open.cl := by
  intro args K w h
  unfold wal_Open.cl at h
  split at h
  · exact calls_group false mixed wal_Open.FOk_ wal_Open.fn rfl 5 (wal_Open.S11_ok K) (Eq.mp (by kernel_rfl) h)
  · exact h.elim

/-! tocsin/vint.PutU -/
namespace vint_PutU
abbrev KT := Sl → World → Prop
def Kt (Kv : Value → World → Prop) : KT := fun l1 w => Kv l1.v w
noncomputable def bd : Code := bdy Tryd.f32
theorem fn : FnOk pr 32 23 Tryd.f32 := ⟨Tryd.func32, by kernel_rfl, Tryd.ntmps32, by kernel_rfl, by kernel_rfl⟩
def F : Clee := ofL [(44, C.vint_joined.cl)]
theorem FOk_ : FOk pr F := FOk_cons C.vint_joined.clok (FOk_nil)
def P1 (Kv : Value → World → Prop) : Post := bodyK false pr 23 Tryd.f32 Kv
@[reducible] def g2 : List SE := [.v 0 .sl, .v 1 (.int .u64), .v 5 .sl]
def S2 (K : KT) (b_4 : Sl) (n_5 : Int) (c_6 : Sl) (w : World) : Prop :=
  G.new (.cells #[(.int .u8 (IntKind.u8.wrap n_5))] 5) w fun p7 w8 => G.runSl pr (Builtin.append_ #[31, 31] 31 #[c_6.v, (Sl.v (⟨some p7, 1, 1⟩ : Sl))]) w8 fun l9 w10 => C.vint_joined b_4 l9 w10 fun l11 w12 => K l11 w12
theorem S2_ok (Kv : Value → World → Prop) : OkT pr false none 23 g2 (S2 (Kt Kv)) (s2 (tl 2 bd)) (P1 Kv) := ok_last mixed FOk_ fun v ρ w => by kernel_rfl
def P3 (Kv : Value → World → Prop) : Post := next (get g2 (S2 (Kt Kv))) (P1 Kv)
def P4 (Kv : Value → World → Prop) : Post := inBlock 0 (P3 Kv)
def P6 (Kv : Value → World → Prop) (kc5 : Cur g2) : Post := next (get g2 kc5) (P4 Kv)
def S7 (K : KT) (kc5 : Cur g2) (b_19 : Sl) (n_20 : Int) (c_21 : Sl) (w : World) : Prop :=
  G.cond (decide (n_20 ≥ (128 : Int))) (G.new (.cells #[(.int .u8 (Go.bits .or .u8 (IntKind.u8.wrap n_20) (128 : Int)))] 5) w fun p22 w23 => G.runSl pr (Builtin.append_ #[31, 31] 31 #[c_21.v, (Sl.v (⟨some p22, 1, 1⟩ : Sl))]) w23 fun l24 w25 => G.nn (7 : Int) <| kc5 b_19 (shr .u64 n_20 (7 : Int)) l24 w25) (S2 K b_19 n_20 c_21 w)
theorem S7_ok (Kv : Value → World → Prop) (kc5 : Cur g2) : OkT pr false none 23 g2 (S7 (Kt Kv) kc5) (lp (blk (s1 (tl 2 bd)))) (P6 Kv kc5) := ok_last mixed FOk_ fun v ρ w => by kernel_rfl
def L5 (K : KT) : Cur g2 := loopC g2 (S7 K)
theorem L5_ok (Kv : Value → World → Prop) : OkT pr false none 23 g2 (L5 (Kt Kv)) (blk (s1 (tl 2 bd))) (P4 Kv) := ok_loop (B := S7 (Kt Kv)) (by kernel_rfl) fun kc => S7_ok Kv kc
theorem L5_ind {K : KT} {b_13 : Sl} {n_14 : Int} {c_15 : Sl} {w : World} (h : ∀ X : Cur g2, (∀ b_13 n_14 c_15 w, S7 K X b_13 n_14 c_15 w → X b_13 n_14 c_15 w) → X b_13 n_14 c_15 w) : L5 K b_13 n_14 c_15 w := fun X hX => h X fun b_13 n_14 c_15 w hb => hX (b_13, n_14, c_15, ()) w hb
theorem B8 (Kv : Value → World → Prop) : OkT pr false none 23 g2 (L5 (Kt Kv)) (s1 (tl 2 bd)) (P3 Kv) := ok_block 0 (by kernel_rfl) (L5_ok Kv)
theorem Q9 (Kv : Value → World → Prop) : OkT pr false none 23 g2 (L5 (Kt Kv)) (tl 2 bd) (P1 Kv) := ok_seq (by kernel_rfl) (S2_ok Kv) (B8 Kv)
end vint_PutU
def vint_PutU (b_2 : Sl) (n_3 : Int) (w : World) (K : vint_PutU.KT) : Prop :=
  vint_PutU.L5 K b_2 n_3 nilS w
def vint_PutU.cl : CL := fun args K w => match args with
  | [.slice x0_a x0_n x0_c, .int .u64 x1] => C.vint_PutU ⟨x0_a, x0_n, x0_c⟩ x1 w (vint_PutU.Kt K)
  | _ => False
theorem vint_PutU.clok : OkC pr 32 vint_PutU.cl := by
  intro args K w h
  unfold vint_PutU.cl at h
  split at h
  · exact calls_group false mixed vint_PutU.FOk_ vint_PutU.fn rfl 2 (vint_PutU.Q9 K) (Eq.mp (by kernel_rfl) h)
  · exact h.elim

/-! tocsin/vint.PutFrame -/
namespace vint_PutFrame
abbrev KT := Sl → Int → World → Prop
def Kt (Kv : Value → World → Prop) : KT := fun l1 n2 w => Kv (.tuple #[l1.v, (.int .i64 n2)]) w
noncomputable def bd : Code := bdy Tryd.f25
theorem fn : FnOk pr 25 34 Tryd.f25 := ⟨Tryd.func25, by kernel_rfl, Tryd.ntmps25, by kernel_rfl, by kernel_rfl⟩
def F : Clee := ofL [(32, C.vint_PutU.cl), (42, C.vint_Sum.cl)]
theorem FOk_ : FOk pr F := FOk_cons C.vint_PutU.clok (FOk_cons C.vint_Sum.clok (FOk_nil))
def P1 (Kv : Value → World → Prop) : Post := bodyK false pr 34 Tryd.f25 Kv
end vint_PutFrame
def vint_PutFrame (b_3 : Sl) (p_4 : Sl) (w : World) (K : vint_PutFrame.KT) : Prop :=
  G.cond (decide (((p_4.n : Nat) : Int) > (65536 : Int))) (K nilS (4 : Int) w) (C.vint_Sum p_4 w fun n7 w8 => C.vint_PutU b_3 (IntKind.u64.wrap ((p_4.n : Nat) : Int)) w8 fun l9 w10 => G.nn (8 : Int) <| G.nn (16 : Int) <| G.nn (24 : Int) <| G.new (.cells #[(.int .u8 (IntKind.u8.wrap n7)), (.int .u8 (IntKind.u8.wrap (shr .u32 n7 (8 : Int)))), (.int .u8 (IntKind.u8.wrap (shr .u32 n7 (16 : Int)))), (.int .u8 (IntKind.u8.wrap (shr .u32 n7 (24 : Int))))] 5) w10 fun p11 w12 => G.runSl pr (Builtin.append_ #[31, 31] 31 #[l9.v, (Sl.v (⟨some p11, 4, 4⟩ : Sl))]) w12 fun l13 w14 => G.runSl pr (Builtin.append_ #[31, 31] 31 #[l13.v, p_4.v]) w14 fun l15 w16 => K l15 (0 : Int) w16)
def vint_PutFrame.cl : CL := fun args K w => match args with
  | [.slice x0_a x0_n x0_c, .slice x1_a x1_n x1_c] => C.vint_PutFrame ⟨x0_a, x0_n, x0_c⟩ ⟨x1_a, x1_n, x1_c⟩ w (vint_PutFrame.Kt K)
  | _ => False
theorem vint_PutFrame.clok : OkC pr 25 vint_PutFrame.cl := by
  intro args K w h
  unfold vint_PutFrame.cl at h
  split at h
  · exact calls_last false mixed vint_PutFrame.FOk_ vint_PutFrame.fn rfl (Eq.mp (by kernel_rfl) h)
  · exact h.elim

/-! (*tocsin/disk.Disk).Size -/
namespace disk_Disk_Size
abbrev KT := Int → Int → Int → World → Prop
def Kt (Kv : Value → World → Prop) : KT := fun n1 n2 n3 w => Kv (.tuple #[(.int .i64 n1), (.int .i64 n2), (.int .i64 n3)]) w
noncomputable def bd : Code := bdy Tryd.f26
theorem fn : FnOk pr 26 21 Tryd.f26 := ⟨Tryd.func26, by kernel_rfl, Tryd.ntmps26, by kernel_rfl, by kernel_rfl⟩
def F : Clee := ofL [(37, C.disk_Disk_find.cl)]
theorem FOk_ : FOk pr F := FOk_cons C.disk_Disk_find.clok (FOk_nil)
def P1 (Kv : Value → World → Prop) : Post := bodyK false pr 21 Tryd.f26 Kv
end disk_Disk_Size
def disk_Disk_Size (d_4 : Option Addr) (name_5 : ByteArray) (w : World) (K : disk_Disk_Size.KT) : Prop :=
  C.disk_Disk_find d_4 name_5 w fun l6 n7 n8 w9 => G.new (.cells #[nilS.v, (.int .i64 (0 : Int))] 77) w9 fun p10 w11 => G.st p10 l6.v w11 fun w12 => G.st (p10.add 1) (.int .i64 n7) w12 fun w13 => G.cSl p10 w13.drew fun l14 => G.cI .i64 (p10.add 1) w13.drew fun n15 => K ((l14.n : Nat) : Int) n15 n8 w13.drew
def disk_Disk_Size.cl : CL := fun args K w => match args with
  | [.pointer x0, .string x1] => C.disk_Disk_Size x0 x1 w (disk_Disk_Size.Kt K)
  | _ => False
theorem disk_Disk_Size.clok : OkC pr 26 disk_Disk_Size.cl := by
  intro args K w h
  unfold disk_Disk_Size.cl at h
  split at h
  · exact calls_last false mixed disk_Disk_Size.FOk_ disk_Disk_Size.fn rfl (Eq.mp (by kernel_rfl) h)
  · exact h.elim

/-! (*tocsin/disk.Disk).Sync -/
namespace disk_Disk_Sync
abbrev KT := Int → World → Prop
def Kt (Kv : Value → World → Prop) : KT := fun n1 w => Kv (.int .i64 n1) w
noncomputable def bd : Code := bdy Tryd.f28
theorem fn : FnOk pr 28 27 Tryd.f28 := ⟨Tryd.func28, by kernel_rfl, Tryd.ntmps28, by kernel_rfl, by kernel_rfl⟩
def F : Clee := ofL [(37, C.disk_Disk_find.cl)]
theorem FOk_ : FOk pr F := FOk_cons C.disk_Disk_find.clok (FOk_nil)
def P1 (Kv : Value → World → Prop) : Post := bodyK false pr 27 Tryd.f28 Kv
end disk_Disk_Sync
def disk_Disk_Sync (d_2 : Option Addr) (name_3 : ByteArray) (w : World) (K : disk_Disk_Sync.KT) : Prop :=
  C.disk_Disk_find d_2 name_3 w fun l4 n5 n6 w7 => G.new (.cells #[nilS.v, (.int .i64 (0 : Int))] 77) w7 fun p8 w9 => G.st p8 l4.v w9 fun w10 => G.st (p8.add 1) (.int .i64 n5) w10 fun w11 => G.cond (n6 == (0 : Int)) (G.ptr d_2 fun p12 => G.cM p12 w11.drew fun m13 => G.cSl p8 w11.drew fun l14 => G.cSl p8 w11.drew fun l15 => G.runU pr (Instr.mapUpdate 46 (.map m13) (.string name_3) (.agg #[l14.v, (.int .i64 ((l15.n : Nat) : Int))])) w11.drew fun w16 => K n6 w16) (K n6 w11)
def disk_Disk_Sync.cl : CL := fun args K w => match args with
  | [.pointer x0, .string x1] => C.disk_Disk_Sync x0 x1 w (disk_Disk_Sync.Kt K)
  | _ => False
theorem disk_Disk_Sync.clok : OkC pr 28 disk_Disk_Sync.cl := by
  intro args K w h
  unfold disk_Disk_Sync.cl at h
  split at h
  · exact calls_last false mixed disk_Disk_Sync.FOk_ disk_Disk_Sync.fn rfl (Eq.mp (by kernel_rfl) h)
  · exact h.elim

/-! (*tocsin/disk.Disk).Append -/
namespace disk_Disk_Append
abbrev KT := Int → World → Prop
def Kt (Kv : Value → World → Prop) : KT := fun n1 w => Kv (.int .i64 n1) w
noncomputable def bd : Code := bdy Tryd.f29
theorem fn : FnOk pr 29 68 Tryd.f29 := ⟨Tryd.func29, by kernel_rfl, Tryd.ntmps29, by kernel_rfl, by kernel_rfl⟩
def F : Clee := ofL [(37, C.disk_Disk_find.cl)]
theorem FOk_ : FOk pr F := FOk_cons C.disk_Disk_find.clok (FOk_nil)
def P1 (Kv : Value → World → Prop) : Post := bodyK false pr 68 Tryd.f29 Kv
@[reducible] def g2 : List SE := [.v 0 .ptr, .v 1 .str, .v 2 .sl, .v 7 .ptr]
def S2 (K : KT) (d_8 : Option Addr) (name_9 : ByteArray) (b_10 : Sl) (f_11 : Option Addr) (w : World) : Prop :=
  G.ptr f_11 fun p12 => G.cSl p12 w fun l13 => G.ptr f_11 fun p14 => G.cSl p14 w fun l15 => G.runSl pr (Instr.makeSlice 31 (.int .i64 ((l13.n : Nat) : Int)) (.int .i64 (IntKind.i64.wrap (((l15.n : Nat) : Int) + ((b_10.n : Nat) : Int))))) w fun l16 w17 => G.ptr f_11 fun p18 => G.cSl p18 w17 fun l19 => G.runI pr (Builtin.copy_ #[31, 31] 3 #[l16.v, l19.v]) .i64 w17 fun n20 w21 => G.ptr d_8 fun p22 => G.cM p22 w21.drew fun m23 => G.ptr f_11 fun p24 => G.cI .i64 (p24.add 1) w21.drew fun n25 => G.runSl pr (Builtin.append_ #[31, 31] 31 #[l16.v, b_10.v]) w21.drew fun l26 w27 => sameAt p22 1 w21.drew w27 ∧ sameAt (p24.add 1) 1 w21.drew w27 ∧ (G.runU pr (Instr.mapUpdate 46 (.map m23) (.string name_9) (.agg #[l26.v, (.int .i64 n25)])) w27 fun w28 => K (0 : Int) w28)
theorem S2_ok (Kv : Value → World → Prop) : OkT pr false none 68 g2 (S2 (Kt Kv)) (tl 3 bd) (P1 Kv) := ok_last mixed FOk_ fun v ρ w => by kernel_rfl
end disk_Disk_Append
def disk_Disk_Append (d_2 : Option Addr) (name_3 : ByteArray) (b_4 : Sl) (w : World) (K : disk_Disk_Append.KT) : Prop :=
  C.disk_Disk_find d_2 name_3 w fun l29 n30 n31 w32 => G.new (.cells #[nilS.v, (.int .i64 (0 : Int))] 77) w32 fun p33 w34 => G.st p33 l29.v w34 fun w35 => G.st (p33.add 1) (.int .i64 n30) w35 fun w36 => G.cond (n31 == (5 : Int)) (G.ptr d_2 fun p37 => G.cM p37 w36 fun m38 => G.rdI pr (Builtin.len_ #[46] 3 #[(.map m38)]) .i64 w36 fun n39 => G.cond (decide (n39 ≥ (256 : Int))) (K (8 : Int) w36) (G.cond (n31 != (0 : Int)) (G.cond (n31 != (5 : Int)) (K n31 w36) (G.cSl p33 w36 fun l40 => G.cond (decide ((IntKind.i64.wrap (((l40.n : Nat) : Int) + ((b_4.n : Nat) : Int))) > (1048576 : Int))) (K (4 : Int) w36) (disk_Disk_Append.S2 K d_2 name_3 b_4 (some p33) w36))) (G.cSl p33 w36 fun l41 => G.cond (decide ((IntKind.i64.wrap (((l41.n : Nat) : Int) + ((b_4.n : Nat) : Int))) > (1048576 : Int))) (K (4 : Int) w36) (disk_Disk_Append.S2 K d_2 name_3 b_4 (some p33) w36)))) (G.cond (n31 != (0 : Int)) (G.cond (n31 != (5 : Int)) (K n31 w36) (G.cSl p33 w36 fun l42 => G.cond (decide ((IntKind.i64.wrap (((l42.n : Nat) : Int) + ((b_4.n : Nat) : Int))) > (1048576 : Int))) (K (4 : Int) w36) (disk_Disk_Append.S2 K d_2 name_3 b_4 (some p33) w36))) (G.cSl p33 w36 fun l43 => G.cond (decide ((IntKind.i64.wrap (((l43.n : Nat) : Int) + ((b_4.n : Nat) : Int))) > (1048576 : Int))) (K (4 : Int) w36) (disk_Disk_Append.S2 K d_2 name_3 b_4 (some p33) w36)))
def disk_Disk_Append.cl : CL := fun args K w => match args with
  | [.pointer x0, .string x1, .slice x2_a x2_n x2_c] => C.disk_Disk_Append x0 x1 ⟨x2_a, x2_n, x2_c⟩ w (disk_Disk_Append.Kt K)
  | _ => False
theorem disk_Disk_Append.clok : OkC pr 29 disk_Disk_Append.cl := by
  intro args K w h
  unfold disk_Disk_Append.cl at h
  split at h
  · exact calls_group false mixed disk_Disk_Append.FOk_ disk_Disk_Append.fn rfl 3 (disk_Disk_Append.S2_ok K) (Eq.mp (by kernel_rfl) h)
  · exact h.elim

/-! (*tocsin/wal.Log).Append -/
namespace wal_Log_Append
abbrev KT := Int → World → Prop
def Kt (Kv : Value → World → Prop) : KT := fun n1 w => Kv (.int .i64 n1) w
noncomputable def bd : Code := bdy Tryd.f10
theorem fn : FnOk pr 10 102 Tryd.f10 := ⟨Tryd.func10, by kernel_rfl, Tryd.ntmps10, by kernel_rfl, by kernel_rfl⟩
def F : Clee := ofL [(24, C.wal_again.cl), (25, C.vint_PutFrame.cl), (26, C.disk_Disk_Size.cl), (27, C.wal_Log_segment.cl), (28, C.disk_Disk_Sync.cl), (29, C.disk_Disk_Append.cl)]
theorem FOk_ : FOk pr F := FOk_cons C.wal_again.clok (FOk_cons C.vint_PutFrame.clok (FOk_cons C.disk_Disk_Size.clok (FOk_cons C.wal_Log_segment.clok (FOk_cons C.disk_Disk_Sync.clok (FOk_cons C.disk_Disk_Append.clok (FOk_nil))))))
def P1 (Kv : Value → World → Prop) : Post := bodyK false pr 102 Tryd.f10 Kv
@[reducible] def g2 : List SE := [.v 0 .ptr, .v 1 .sl, .v 5 .sl]
def S2 (K : KT) (l_13 : Option Addr) (r_14 : Sl) (f_15 : Sl) (w : World) : Prop :=
  G.ptr l_13 fun p16 => G.cP p16 w.drew fun p17 => G.ptr l_13 fun p18 => G.cI .i64 (p18.add 3) w.drew fun n19 => C.wal_Log_segment l_13 n19 w.drew fun s20 w21 => sameAt p16 1 w.drew w21 ∧ (C.disk_Disk_Append p17 s20 f_15 w21 fun n22 w23 => G.cond (n22 != (0 : Int)) (K n22 w23) (G.ptr l_13 fun p24 => G.cSl (p24.add 4) w23.drew fun l25 => C.wal_again r_14 w23.drew fun l26 w27 => sameAt (p24.add 4) 1 w23.drew w27 ∧ (G.new (.cells #[l26.v] 31) w27 fun p28 w29 => sameAt (p24.add 4) 1 w23.drew w29 ∧ (G.runSl pr (Builtin.append_ #[22, 22] 22 #[l25.v, (Sl.v (⟨some p28, 1, 1⟩ : Sl))]) w29 fun l30 w31 => G.ptr l_13 fun p32 => G.st (p32.add 4) l30.v w31 fun w33 => K (0 : Int) w33))))
theorem S2_ok (Kv : Value → World → Prop) : OkT pr false none 102 g2 (S2 (Kt Kv)) (tl 5 bd) (P1 Kv) := ok_last mixed FOk_ fun v ρ w => by kernel_rfl
end wal_Log_Append
def wal_Log_Append (l_2 : Option Addr) (r_3 : Sl) (w : World) (K : wal_Log_Append.KT) : Prop :=
  G.cond l_2.isNone (K (2 : Int) w) (C.vint_PutFrame nilS r_3 w fun l34 n35 w36 => G.cond (n35 != (0 : Int)) (K n35 w36) (G.ptr l_2 fun p37 => G.cP p37 w36.drew fun p38 => G.ptr l_2 fun p39 => G.cI .i64 (p39.add 3) w36.drew fun n40 => C.wal_Log_segment l_2 n40 w36.drew fun s41 w42 => sameAt p37 1 w36.drew w42 ∧ (C.disk_Disk_Size p38 s41 w42 fun n43 n44 n45 w46 => G.cond (n45 == (0 : Int)) (G.cond (decide (n43 > (0 : Int))) (G.ptr l_2 fun p47 => G.cI .i64 (p47.add 2) w46 fun n48 => G.cond (decide ((IntKind.i64.wrap (n43 + ((l34.n : Nat) : Int))) > n48)) (G.ptr l_2 fun p49 => G.cP p49 w46.drew fun p50 => G.ptr l_2 fun p51 => G.cI .i64 (p51.add 3) w46.drew fun n52 => C.wal_Log_segment l_2 n52 w46.drew fun s53 w54 => sameAt p49 1 w46.drew w54 ∧ (C.disk_Disk_Sync p50 s53 w54 fun n55 w56 => G.ptr l_2 fun p57 => G.cI .i64 (p57.add 3) w56 fun n58 => G.cond (decide (n58 ≥ (99999999 : Int))) (K (8 : Int) w56) (G.ptr l_2 fun p59 => G.cI .i64 (p59.add 3) w56 fun n60 => G.ptr l_2 fun p61 => G.st (p61.add 3) (.int .i64 (IntKind.i64.wrap (n60 + (1 : Int)))) w56 fun w62 => wal_Log_Append.S2 K l_2 r_3 l34 w62))) (wal_Log_Append.S2 K l_2 r_3 l34 w46)) (wal_Log_Append.S2 K l_2 r_3 l34 w46)) (wal_Log_Append.S2 K l_2 r_3 l34 w46))))
def wal_Log_Append.cl : CL := fun args K w => match args with
  | [.pointer x0, .slice x1_a x1_n x1_c] => C.wal_Log_Append x0 ⟨x1_a, x1_n, x1_c⟩ w (wal_Log_Append.Kt K)
  | _ => False
theorem wal_Log_Append.clok : OkC pr 10 wal_Log_Append.cl := by
  intro args K w h
  unfold wal_Log_Append.cl at h
  split at h
  · exact calls_group false mixed wal_Log_Append.FOk_ wal_Log_Append.fn rfl 5 (wal_Log_Append.S2_ok K) (Eq.mp (by kernel_rfl) h)
  · exact h.elim

/-! tocsin/tocsinref01.Same -/
namespace tocsinref01_Same
abbrev KT := Bool → World → Prop
def Kt (Kv : Value → World → Prop) : KT := fun b1 w => Kv (.bool b1) w
noncomputable def bd : Code := bdy Tryd.f30
theorem fn : FnOk pr 30 26 Tryd.f30 := ⟨Tryd.func30, by kernel_rfl, Tryd.ntmps30, by kernel_rfl, by kernel_rfl⟩
def F : Clee := ofL []
theorem FOk_ : FOk pr F := FOk_nil
def P1 (Kv : Value → World → Prop) : Post := bodyK false pr 26 Tryd.f30 Kv
@[reducible] def g2 : List SE := []
def S2 (K : KT) (w : World) : Prop :=
  K true w
theorem S2_ok (Kv : Value → World → Prop) : OkT pr false none 26 g2 (S2 (Kt Kv)) (s2 (tl 2 bd)) (P1 Kv) := ok_last mixed FOk_ fun v ρ w => by kernel_rfl
def P3 (Kv : Value → World → Prop) : Post := next (get g2 (S2 (Kt Kv))) (P1 Kv)
def P4 (Kv : Value → World → Prop) : Post := inBlock 0 (P3 Kv)
@[reducible] def g5 : List SE := [.v 0 .sl, .v 1 .sl, .v 5 (.int .i64)]
def P6 (Kv : Value → World → Prop) (kc5 : Cur g5) : Post := next (get g5 kc5) (P4 Kv)
def S7 (K : KT) (kc5 : Cur g5) (a_10 : Sl) (b_11 : Sl) (i_12 : Int) (w : World) : Prop :=
  G.cond (decide (i_12 < ((a_10.n : Nat) : Int))) (G.ix a_10.a a_10.n i_12 1 fun p13 => G.cI .u8 p13 w.drew fun n14 => G.ix b_11.a b_11.n i_12 1 fun p15 => G.cI .u8 p15 w.drew fun n16 => G.cond (n14 != n16) (K false w.drew) (kc5 a_10 b_11 (IntKind.i64.wrap (i_12 + (1 : Int))) w.drew)) (S2 K w)
theorem S7_ok (Kv : Value → World → Prop) (kc5 : Cur g5) : OkT pr false none 26 g5 (S7 (Kt Kv) kc5) (lp (blk (tl 1 (s1 (tl 2 bd))))) (P6 Kv kc5) := ok_last mixed FOk_ fun v ρ w => by kernel_rfl
def L5 (K : KT) : Cur g5 := loopC g5 (S7 K)
theorem L5_ok (Kv : Value → World → Prop) : OkT pr false none 26 g5 (L5 (Kt Kv)) (blk (tl 1 (s1 (tl 2 bd)))) (P4 Kv) := ok_loop (B := S7 (Kt Kv)) (by kernel_rfl) fun kc => S7_ok Kv kc
theorem L5_ind {K : KT} {a_4 : Sl} {b_5 : Sl} {i_6 : Int} {w : World} (h : ∀ X : Cur g5, (∀ a_4 b_5 i_6 w, S7 K X a_4 b_5 i_6 w → X a_4 b_5 i_6 w) → X a_4 b_5 i_6 w) : L5 K a_4 b_5 i_6 w := fun X hX => h X fun a_4 b_5 i_6 w hb => hX (a_4, b_5, i_6, ()) w hb
theorem B8 (Kv : Value → World → Prop) : OkT pr false none 26 g5 (L5 (Kt Kv)) (tl 1 (s1 (tl 2 bd))) (P3 Kv) := ok_block 0 (by kernel_rfl) (L5_ok Kv)
@[reducible] def g9 : List SE := [.v 0 .sl, .v 1 .sl]
def S9 (K : KT) (a_17 : Sl) (b_18 : Sl) (w : World) : Prop :=
  L5 K a_17 b_18 (0 : Int) w
theorem S9_ok (Kv : Value → World → Prop) : OkT pr false none 26 g9 (S9 (Kt Kv)) (s1 (tl 2 bd)) (P3 Kv) := ok_group mixed FOk_ 1 (B8 Kv) fun v ρ w => by kernel_rfl
theorem Q10 (Kv : Value → World → Prop) : OkT pr false none 26 g9 (S9 (Kt Kv)) (tl 2 bd) (P1 Kv) := ok_seq (by kernel_rfl) (S2_ok Kv) (S9_ok Kv)
end tocsinref01_Same
def tocsinref01_Same (a_2 : Sl) (b_3 : Sl) (w : World) (K : tocsinref01_Same.KT) : Prop :=
  G.cond (((a_2.n : Nat) : Int) != ((b_3.n : Nat) : Int)) (K false w) (tocsinref01_Same.S9 K a_2 b_3 w)
def tocsinref01_Same.cl : CL := fun args K w => match args with
  | [.slice x0_a x0_n x0_c, .slice x1_a x1_n x1_c] => C.tocsinref01_Same ⟨x0_a, x0_n, x0_c⟩ ⟨x1_a, x1_n, x1_c⟩ w (tocsinref01_Same.Kt K)
  | _ => False
theorem tocsinref01_Same.clok : OkC pr 30 tocsinref01_Same.cl := by
  intro args K w h
  unfold tocsinref01_Same.cl at h
  split at h
  · exact calls_group false mixed tocsinref01_Same.FOk_ tocsinref01_Same.fn rfl 2 (tocsinref01_Same.Q10 K) (Eq.mp (by kernel_rfl) h)
  · exact h.elim

/-! tocsin/tocsinref01.SameAll -/
namespace tocsinref01_SameAll
abbrev KT := Bool → World → Prop
def Kt (Kv : Value → World → Prop) : KT := fun b1 w => Kv (.bool b1) w
noncomputable def bd : Code := bdy Tryd.f11
theorem fn : FnOk pr 11 27 Tryd.f11 := ⟨Tryd.func11, by kernel_rfl, Tryd.ntmps11, by kernel_rfl, by kernel_rfl⟩
def F : Clee := ofL [(30, C.tocsinref01_Same.cl)]
theorem FOk_ : FOk pr F := FOk_cons C.tocsinref01_Same.clok (FOk_nil)
def P1 (Kv : Value → World → Prop) : Post := bodyK false pr 27 Tryd.f11 Kv
@[reducible] def g2 : List SE := []
def S2 (K : KT) (w : World) : Prop :=
  K true w
theorem S2_ok (Kv : Value → World → Prop) : OkT pr false none 27 g2 (S2 (Kt Kv)) (s2 (tl 2 bd)) (P1 Kv) := ok_last mixed FOk_ fun v ρ w => by kernel_rfl
def P3 (Kv : Value → World → Prop) : Post := next (get g2 (S2 (Kt Kv))) (P1 Kv)
def P4 (Kv : Value → World → Prop) : Post := inBlock 0 (P3 Kv)
@[reducible] def g5 : List SE := [.v 0 .sl, .v 1 .sl, .v 5 (.int .i64)]
def P6 (Kv : Value → World → Prop) (kc5 : Cur g5) : Post := next (get g5 kc5) (P4 Kv)
def S7 (K : KT) (kc5 : Cur g5) (a_10 : Sl) (b_11 : Sl) (i_12 : Int) (w : World) : Prop :=
  G.cond (decide (i_12 < ((a_10.n : Nat) : Int))) (G.ix a_10.a a_10.n i_12 1 fun p13 => G.cSl p13 w.drew fun l14 => G.ix b_11.a b_11.n i_12 1 fun p15 => G.cSl p15 w.drew fun l16 => C.tocsinref01_Same l14 l16 w.drew fun b17 w18 => G.cond (!b17) (K false w18) (kc5 a_10 b_11 (IntKind.i64.wrap (i_12 + (1 : Int))) w18)) (S2 K w)
theorem S7_ok (Kv : Value → World → Prop) (kc5 : Cur g5) : OkT pr false none 27 g5 (S7 (Kt Kv) kc5) (lp (blk (tl 1 (s1 (tl 2 bd))))) (P6 Kv kc5) := ok_last mixed FOk_ fun v ρ w => by kernel_rfl
def L5 (K : KT) : Cur g5 := loopC g5 (S7 K)
theorem L5_ok (Kv : Value → World → Prop) : OkT pr false none 27 g5 (L5 (Kt Kv)) (blk (tl 1 (s1 (tl 2 bd)))) (P4 Kv) := ok_loop (B := S7 (Kt Kv)) (by kernel_rfl) fun kc => S7_ok Kv kc
theorem L5_ind {K : KT} {a_4 : Sl} {b_5 : Sl} {i_6 : Int} {w : World} (h : ∀ X : Cur g5, (∀ a_4 b_5 i_6 w, S7 K X a_4 b_5 i_6 w → X a_4 b_5 i_6 w) → X a_4 b_5 i_6 w) : L5 K a_4 b_5 i_6 w := fun X hX => h X fun a_4 b_5 i_6 w hb => hX (a_4, b_5, i_6, ()) w hb
theorem B8 (Kv : Value → World → Prop) : OkT pr false none 27 g5 (L5 (Kt Kv)) (tl 1 (s1 (tl 2 bd))) (P3 Kv) := ok_block 0 (by kernel_rfl) (L5_ok Kv)
@[reducible] def g9 : List SE := [.v 0 .sl, .v 1 .sl]
def S9 (K : KT) (a_19 : Sl) (b_20 : Sl) (w : World) : Prop :=
  L5 K a_19 b_20 (0 : Int) w
theorem S9_ok (Kv : Value → World → Prop) : OkT pr false none 27 g9 (S9 (Kt Kv)) (s1 (tl 2 bd)) (P3 Kv) := ok_group mixed FOk_ 1 (B8 Kv) fun v ρ w => by kernel_rfl
theorem Q10 (Kv : Value → World → Prop) : OkT pr false none 27 g9 (S9 (Kt Kv)) (tl 2 bd) (P1 Kv) := ok_seq (by kernel_rfl) (S2_ok Kv) (S9_ok Kv)
end tocsinref01_SameAll
def tocsinref01_SameAll (a_2 : Sl) (b_3 : Sl) (w : World) (K : tocsinref01_SameAll.KT) : Prop :=
  G.cond (((a_2.n : Nat) : Int) != ((b_3.n : Nat) : Int)) (K false w) (tocsinref01_SameAll.S9 K a_2 b_3 w)
def tocsinref01_SameAll.cl : CL := fun args K w => match args with
  | [.slice x0_a x0_n x0_c, .slice x1_a x1_n x1_c] => C.tocsinref01_SameAll ⟨x0_a, x0_n, x0_c⟩ ⟨x1_a, x1_n, x1_c⟩ w (tocsinref01_SameAll.Kt K)
  | _ => False
theorem tocsinref01_SameAll.clok : OkC pr 11 tocsinref01_SameAll.cl := by
  intro args K w h
  unfold tocsinref01_SameAll.cl at h
  split at h
  · exact calls_group false mixed tocsinref01_SameAll.FOk_ tocsinref01_SameAll.fn rfl 2 (tocsinref01_SameAll.Q10 K) (Eq.mp (by kernel_rfl) h)
  · exact h.elim

/-! (*tocsin/wal.Log).All$1 -/
namespace wal_Log_All_1
abbrev KT := World → Prop
def Kt (Kv : Value → World → Prop) : KT := fun  w => Kv (.tuple #[]) w
noncomputable def bd : Code := bdy Tryd.f43
theorem fn : FnOk pr 43 22 Tryd.f43 := ⟨Tryd.func43, by kernel_rfl, Tryd.ntmps43, by kernel_rfl, by kernel_rfl⟩
def F : Clee := ofL [(24, C.wal_again.cl)]
theorem FOk_ : FOk pr F := FOk_cons C.wal_again.clok (FOk_nil)
def P1 (Kv : Value → World → Prop) : Post := bodyK false pr 22 Tryd.f43 Kv
def P2 (Kv : Value → World → Prop) : Post := inBlock 0 (P1 Kv)
@[reducible] def g3 : List SE := [.v 0 .raw, .v 10 .sl, .v 11 (.int .i64), .v 12 (.int .i64)]
def P4 (Kv : Value → World → Prop) (kc3 : Cur g3) : Post := next (get g3 kc3) (P2 Kv)
def S5 (K : KT) (kc3 : Cur g3) (yield_13 : Value) (l14 : Sl) (n15 : Int) (n16 : Int) (w : World) : Prop :=
  G.cond (decide (n16 < n15)) (G.ix l14.a l14.n n16 1 fun p17 => G.cSl p17 w fun l18 => C.wal_again l18 w fun l19 w20 => G.callV pr F yield_13 [l19.v] w20 fun v21 w22 => G.isB v21 fun b23 => G.cond (!b23) (K w22) (kc3 yield_13 l14 n15 (IntKind.i64.wrap (n16 + (1 : Int))) w22)) (K w)
theorem S5_ok (Kv : Value → World → Prop) (kc3 : Cur g3) : OkT pr false none 22 g3 (S5 (Kt Kv) kc3) (lp (blk (tl 2 bd))) (P4 Kv kc3) := ok_last mixed FOk_ fun v ρ w => by kernel_rfl
def L3 (K : KT) : Cur g3 := loopC g3 (S5 K)
theorem L3_ok (Kv : Value → World → Prop) : OkT pr false none 22 g3 (L3 (Kt Kv)) (blk (tl 2 bd)) (P2 Kv) := ok_loop (B := S5 (Kt Kv)) (by kernel_rfl) fun kc => S5_ok Kv kc
theorem L3_ind {K : KT} {yield_5 : Value} {l6 : Sl} {n7 : Int} {n8 : Int} {w : World} (h : ∀ X : Cur g3, (∀ yield_5 l6 n7 n8 w, S5 K X yield_5 l6 n7 n8 w → X yield_5 l6 n7 n8 w) → X yield_5 l6 n7 n8 w) : L3 K yield_5 l6 n7 n8 w := fun X hX => h X fun yield_5 l6 n7 n8 w hb => hX (yield_5, l6, n7, n8, ()) w hb
theorem B6 (Kv : Value → World → Prop) : OkT pr false none 22 g3 (L3 (Kt Kv)) (tl 2 bd) (P1 Kv) := ok_block 0 (by kernel_rfl) (L3_ok Kv)
end wal_Log_All_1
def wal_Log_All_1 (yield_1 : Value) (p_2 : Option Addr) (w : World) (K : wal_Log_All_1.KT) : Prop :=
  G.ptr p_2 fun p24 => G.cP p24 w fun p25 => G.cond p25.isNone (K w) (G.ptr p_2 fun p26 => G.cP p26 w fun p27 => G.ptr p27 fun p28 => G.cSl (p28.add 4) w fun l29 => wal_Log_All_1.L3 K yield_1 l29 ((l29.n : Nat) : Int) (0 : Int) w)
def wal_Log_All_1.cl : CL := fun args K w => match args with
  | [x0, .pointer x1] => C.wal_Log_All_1 x0 x1 w (wal_Log_All_1.Kt K)
  | _ => False
theorem wal_Log_All_1.clok : OkC pr 43 wal_Log_All_1.cl := by
  intro args K w h
  unfold wal_Log_All_1.cl at h
  split at h
  · exact calls_group false mixed wal_Log_All_1.FOk_ wal_Log_All_1.fn rfl 2 (wal_Log_All_1.B6 K) (Eq.mp (by kernel_rfl) h)
  · exact h.elim

/-! (*tocsin/wal.Log).All -/
namespace wal_Log_All
abbrev KT := Value → World → Prop
def Kt (Kv : Value → World → Prop) : KT := fun v1 w => Kv v1 w
noncomputable def bd : Code := bdy Tryd.f31
theorem fn : FnOk pr 31 4 Tryd.f31 := ⟨Tryd.func31, by kernel_rfl, Tryd.ntmps31, by kernel_rfl, by kernel_rfl⟩
def F : Clee := ofL []
theorem FOk_ : FOk pr F := FOk_nil
def P1 (Kv : Value → World → Prop) : Post := bodyK false pr 4 Tryd.f31 Kv
end wal_Log_All
def wal_Log_All (l_2 : Option Addr) (w : World) (K : wal_Log_All.KT) : Prop :=
  G.new (.cells #[(.pointer l_2)] 26) w fun p3 w4 => K (Value.func (.func 43) #[] #[(.pointer (some p3))]) w4
def wal_Log_All.cl : CL := fun args K w => match args with
  | [.pointer x0] => C.wal_Log_All x0 w (wal_Log_All.Kt K)
  | _ => False
theorem wal_Log_All.clok : OkC pr 31 wal_Log_All.cl := by
  intro args K w h
  unfold wal_Log_All.cl at h
  split at h
  · exact calls_last false mixed wal_Log_All.FOk_ wal_Log_All.fn rfl (Eq.mp (by kernel_rfl) h)
  · exact h.elim

/-! tocsin/tocsinlaw07.all -/
namespace tocsinlaw07_all
abbrev KT := Sl → World → Prop
def Kt (Kv : Value → World → Prop) : KT := fun l1 w => Kv l1.v w
noncomputable def bd : Code := bdy Tryd.f12
theorem fn : FnOk pr 12 23 Tryd.f12 := ⟨Tryd.func12, by kernel_rfl, Tryd.ntmps12, by kernel_rfl, by kernel_rfl⟩
def F : Clee := ofL [(31, C.wal_Log_All.cl)]
theorem FOk_ : FOk pr F := FOk_cons C.wal_Log_All.clok (FOk_nil)
def Fc : Clee := ofL [(43, C.wal_Log_All_1.cl)]
theorem FcOk : FOkB pr Fc := FOkB_cons C.wal_Log_All_1.clok (FOkB_nil)
def P1 (Kv : Value → World → Prop) : Post := bodyK true pr 23 Tryd.f12 Kv
@[reducible] def g2 : List SE := [.v 5 .ptr, .v 23 .raw]
def S2 (K : KT) (out_4 : Option Addr) (v5 : Value) (w : World) : Prop :=
  G.ptr out_4 fun p6 => G.cSl p6 w fun l7 => G.marks v5 w fun w8 => K l7 w8
theorem S2_ok (Kv : Value → World → Prop) : OkT pr true none 23 g2 (S2 (Kt Kv)) (s2 (tl 4 bd)) (P1 Kv) := ok_last mixed FOk_ fun v ρ w => by kernel_rfl
def P3 (Kv : Value → World → Prop) : Post := next (get g2 (S2 (Kt Kv))) (P1 Kv)
def P4 (Kv : Value → World → Prop) : Post := inBlock 0 (P3 Kv)
@[reducible] def g5 : List SE := [.v 3 .ptr, .v 5 .ptr, .v 12 .raw, .v 23 .raw]
def P6 (Rr : Exit → World → Prop) : Post := RP Rr
@[reducible] def g7 : List SE := [.v 3 .ptr, .v 5 .ptr, .v 7 .sl]
def S7 (Rr : Exit → World → Prop) (most_13 : Option Addr) (out_14 : Option Addr) (r_15 : Sl) (w : World) : Prop :=
  G.ptr out_14 fun p16 => G.cSl p16 w fun l17 => G.new (.cells #[r_15.v] 31) w fun p18 w19 => G.runSl pr (Builtin.append_ #[22, 22] 22 #[l17.v, (Sl.v (⟨some p18, 1, 1⟩ : Sl))]) w19 fun l20 w21 => G.ptr out_14 fun p22 => G.st p22 l20.v w21 fun w23 => G.ptr out_14 fun p24 => G.cSl p24 w23 fun l25 => G.ptr most_13 fun p26 => G.cI .i64 p26 w23 fun n27 => G.cond (((l25.n : Nat) : Int) == n27) (Rr (.exit 0) w23) (Rr .normal w23)
theorem S7_ok (Rr : Exit → World → Prop) {ro : Option Nat} : OkT pr false ro 23 g7 (S7 Rr) (rbd (blk (tl 1 (s1 (tl 4 bd))))) (P6 Rr) := ok_last mixed FOk_ fun v ρ w => by kernel_rfl
def B_R5 (most_9 : Option Addr) (out_10 : Option Addr) (v11 : Value) (v12 : Value) (args : List Value) (wb : World) (Rr : Exit → World → Prop) : Prop := match args with
  | [.slice y_28_a y_28_n y_28_c] => S7 Rr most_9 out_10 (⟨y_28_a, y_28_n, y_28_c⟩ : Sl) wb
  | _ => False
def O_R5 (K : KT) (most_9 : Option Addr) (out_10 : Option Addr) (v11 : Value) (v12 : Value) (e : Exit) (D : Nat) (w : World) : Prop := match e with
  | .normal => S2 K out_10 (pushMark v12 D) w
  | .exit i => bif Nat.beq i 0 then (S2 K out_10 (pushMark v12 D) w) else False
  | _ => False
def R5 (K : KT) (most_9 : Option Addr) (out_10 : Option Addr) (v11 : Value) (v12 : Value) (w : World) : Prop :=
  G.rangeF Fc v11 pr (B_R5 most_9 out_10 v11 v12) w (O_R5 K most_9 out_10 v11 v12)
theorem R5_ok (Kv : Value → World → Prop) : OkT pr true none 23 g5 (R5 (Kt Kv)) (blk (tl 1 (s1 (tl 4 bd)))) (P4 Kv) := by
  refine ok_range mixed FOk_ FcOk (s := 12) (ps := #[13]) (Bt := fun v => B_R5 v.1 v.2.1 v.2.2.1 v.2.2.2.1) (kB := fun Rr => S7 Rr) (sgB := g7) (out := fun v => O_R5 (Kt Kv) v.1 v.2.1 v.2.2.1 v.2.2.2.1) (by kernel_rfl) (fun v ρ w => by kernel_rfl) ?_ (fun Rr l => S7_ok Rr) ?_
  · intro v ρ args w wb Rr h
    have h' : B_R5 v.1 v.2.1 v.2.2.1 v.2.2.2.1 args wb Rr := h
    unfold B_R5 at h'
    split at h'
    · exact ⟨rfl, Eq.mp (by kernel_rfl) (And.intro (Eq.refl w) h')⟩
    · exact h'.elim
  · intro v ρ e D w h
    cases e with
    | normal => exact Eq.mp (by kernel_rfl) h
    | exit i =>
      refine (exit_inv h).elim (fun h => ?_) (fun h => ?_)
      · obtain ⟨rfl, h⟩ := h; exact Eq.mp (by kernel_rfl) h
      · exact h.elim
    | _ => exact h.elim
theorem B8 (Kv : Value → World → Prop) : OkT pr true none 23 g5 (R5 (Kt Kv)) (tl 1 (s1 (tl 4 bd))) (P3 Kv) := ok_block 0 (by kernel_rfl) (R5_ok Kv)
@[reducible] def g9 : List SE := [.v 3 .ptr, .v 5 .ptr, .v 6 .raw, .v 23 .raw]
def S9 (K : KT) (most_29 : Option Addr) (out_30 : Option Addr) (seq_31 : Value) (v32 : Value) (w : World) : Prop :=
  R5 K most_29 out_30 seq_31 v32 w
theorem S9_ok (Kv : Value → World → Prop) : OkT pr true none 23 g9 (S9 (Kt Kv)) (s1 (tl 4 bd)) (P3 Kv) := ok_group mixed FOk_ 1 (B8 Kv) fun v ρ w => by kernel_rfl
theorem Q10 (Kv : Value → World → Prop) : OkT pr true none 23 g9 (S9 (Kt Kv)) (tl 4 bd) (P1 Kv) := ok_seq (by kernel_rfl) (S2_ok Kv) (S9_ok Kv)
end tocsinlaw07_all
def tocsinlaw07_all (l_2 : Option Addr) (most_3 : Int) (w : World) (K : tocsinlaw07_all.KT) : Prop :=
  G.new (.cells #[(.int .i64 most_3)] 3) w fun p33 w34 => G.new (.cells #[nilS.v] 22) w34 fun p35 w36 => C.wal_Log_All l_2 w36 fun v37 w38 => G.isNilF v37 fun b39 => G.cond b39 (K nilS w38) (tocsinlaw07_all.S9 K (some p33) (some p35) v37 undef w38)
def tocsinlaw07_all.cl : CL := fun args K w => match args with
  | [.pointer x0, .int .i64 x1] => C.tocsinlaw07_all x0 x1 w (tocsinlaw07_all.Kt K)
  | _ => False
theorem tocsinlaw07_all.clok : OkC pr 12 tocsinlaw07_all.cl := by
  intro args K w h
  unfold tocsinlaw07_all.cl at h
  split at h
  · exact calls_group true mixed tocsinlaw07_all.FOk_ tocsinlaw07_all.fn rfl 4 (tocsinlaw07_all.Q10 K) (Eq.mp (by kernel_rfl) h)
  · exact h.elim

/-! (*tocsin/wal.Log).Len -/
namespace wal_Log_Len
abbrev KT := Int → World → Prop
def Kt (Kv : Value → World → Prop) : KT := fun n1 w => Kv (.int .i64 n1) w
noncomputable def bd : Code := bdy Tryd.f13
theorem fn : FnOk pr 13 10 Tryd.f13 := ⟨Tryd.func13, by kernel_rfl, Tryd.ntmps13, by kernel_rfl, by kernel_rfl⟩
def F : Clee := ofL []
theorem FOk_ : FOk pr F := FOk_nil
def P1 (Kv : Value → World → Prop) : Post := bodyK false pr 10 Tryd.f13 Kv
end wal_Log_Len
def wal_Log_Len (l_2 : Option Addr) (w : World) (K : wal_Log_Len.KT) : Prop :=
  G.cond l_2.isNone (K (0 : Int) w) (G.ptr l_2 fun p3 => G.cSl (p3.add 4) w fun l4 => K ((l4.n : Nat) : Int) w)
def wal_Log_Len.cl : CL := fun args K w => match args with
  | [.pointer x0] => C.wal_Log_Len x0 w (wal_Log_Len.Kt K)
  | _ => False
theorem wal_Log_Len.clok : OkC pr 13 wal_Log_Len.cl := by
  intro args K w h
  unfold wal_Log_Len.cl at h
  split at h
  · exact calls_last false mixed wal_Log_Len.FOk_ wal_Log_Len.fn rfl (Eq.mp (by kernel_rfl) h)
  · exact h.elim

/-! (*tocsin/disk.Disk).Crash -/
namespace disk_Disk_Crash
abbrev KT := Int → World → Prop
def Kt (Kv : Value → World → Prop) : KT := fun n1 w => Kv (.int .i64 n1) w
noncomputable def bd : Code := bdy Tryd.f17
theorem fn : FnOk pr 17 79 Tryd.f17 := ⟨Tryd.func17, by kernel_rfl, Tryd.ntmps17, by kernel_rfl, by kernel_rfl⟩
def F : Clee := ofL [(34, C.disk_Disk_List.cl), (35, C.disk_file_again.cl)]
theorem FOk_ : FOk pr F := FOk_cons C.disk_Disk_List.clok (FOk_cons C.disk_file_again.clok (FOk_nil))
def P1 (Kv : Value → World → Prop) : Post := bodyK false pr 79 Tryd.f17 Kv
@[reducible] def g2 : List SE := []
def S2 (K : KT) (w : World) : Prop :=
  K (0 : Int) w
theorem S2_ok (Kv : Value → World → Prop) : OkT pr false none 79 g2 (S2 (Kt Kv)) (s2 (s2 (tl 3 bd))) (P1 Kv) := ok_last mixed FOk_ fun v ρ w => by kernel_rfl
def P3 (Kv : Value → World → Prop) : Post := next (get g2 (S2 (Kt Kv))) (P1 Kv)
def P4 (Kv : Value → World → Prop) : Post := inBlock 2 (P3 Kv)
@[reducible] def g5 : List SE := [.v 0 .ptr, .v 5 .map, .v 43 .sl, .v 44 (.int .i64), .v 45 (.int .i64)]
def P6 (Kv : Value → World → Prop) (kc5 : Cur g5) : Post := next (get g5 kc5) (P4 Kv)
def S7 (K : KT) (kc5 : Cur g5) (d_16 : Option Addr) (keeps_17 : Option Nat) (l18 : Sl) (n19 : Int) (n20 : Int) (w : World) : Prop :=
  G.cond (decide (n20 < n19)) (G.ix l18.a l18.n n20 1 fun p21 => G.cS p21 w fun s22 => G.ptr d_16 fun p23 => G.cM p23 w fun m24 => G.rd1 pr (Instr.lookup 46 (.map m24) (.string s22) false) (fun v : Value => v) w fun v25 => G.ag v25 2 fun c26 => G.vSl c26[0 + 0]? fun l28 => G.vI .i64 c26[0 + 1]? fun n29 => G.new (.cells #[nilS.v, (.int .i64 (0 : Int))] 77) w fun p30 w31 => G.st p30 l28.v w31 fun w32 => G.st (p30.add 1) (.int .i64 n29) w32 fun w33 => G.cI .i64 (p30.add 1) w33 fun n34 => G.rd1 pr (Instr.lookup 72 (.map keeps_17) (.string s22) false) (fun n : Int => Value.int .i64 n) w33 fun n35 => G.cSl p30 w33 fun l36 => G.cI .i64 (p30.add 1) w33 fun n37 => G.st (p30.add 1) (.int .i64 (IntKind.i64.wrap (n34 + (if (IntKind.i64.wrap (((l36.n : Nat) : Int) - n37)) < n35 then (IntKind.i64.wrap (((l36.n : Nat) : Int) - n37)) else n35)))) w33 fun w38 => G.ptr d_16 fun p39 => G.cM p39 w38.drew fun m40 => G.cSl p30 w38.drew fun l41 => G.cI .i64 (p30.add 1) w38.drew fun n42 => C.disk_file_again l41 n42 (IntKind.i64.wrap (n34 + (if (IntKind.i64.wrap (((l36.n : Nat) : Int) - n37)) < n35 then (IntKind.i64.wrap (((l36.n : Nat) : Int) - n37)) else n35))) w38.drew fun l43 n44 w45 => sameAt p39 1 w38.drew w45 ∧ (G.runU pr (Instr.mapUpdate 46 (.map m40) (.string s22) (.agg #[l43.v, (.int .i64 n44)])) w45 fun w46 => kc5 d_16 keeps_17 l18 n19 (IntKind.i64.wrap (n20 + (1 : Int))) w46)) (S2 K w)
theorem S7_ok (Kv : Value → World → Prop) (kc5 : Cur g5) : OkT pr false none 79 g5 (S7 (Kt Kv) kc5) (lp (blk (tl 1 (s1 (s2 (tl 3 bd)))))) (P6 Kv kc5) := ok_last mixed FOk_ fun v ρ w => by kernel_rfl
def L5 (K : KT) : Cur g5 := loopC g5 (S7 K)
theorem L5_ok (Kv : Value → World → Prop) : OkT pr false none 79 g5 (L5 (Kt Kv)) (blk (tl 1 (s1 (s2 (tl 3 bd))))) (P4 Kv) := ok_loop (B := S7 (Kt Kv)) (by kernel_rfl) fun kc => S7_ok Kv kc
theorem L5_ind {K : KT} {d_6 : Option Addr} {keeps_7 : Option Nat} {l8 : Sl} {n9 : Int} {n10 : Int} {w : World} (h : ∀ X : Cur g5, (∀ d_6 keeps_7 l8 n9 n10 w, S7 K X d_6 keeps_7 l8 n9 n10 w → X d_6 keeps_7 l8 n9 n10 w) → X d_6 keeps_7 l8 n9 n10 w) : L5 K d_6 keeps_7 l8 n9 n10 w := fun X hX => h X fun d_6 keeps_7 l8 n9 n10 w hb => hX (d_6, keeps_7, l8, n9, n10, ()) w hb
theorem B8 (Kv : Value → World → Prop) : OkT pr false none 79 g5 (L5 (Kt Kv)) (tl 1 (s1 (s2 (tl 3 bd)))) (P3 Kv) := ok_block 2 (by kernel_rfl) (L5_ok Kv)
@[reducible] def g9 : List SE := [.v 0 .ptr, .v 5 .map]
def S9 (K : KT) (d_47 : Option Addr) (keeps_48 : Option Nat) (w : World) : Prop :=
  C.disk_Disk_List d_47 w fun l49 w50 => L5 K d_47 keeps_48 l49 ((l49.n : Nat) : Int) (0 : Int) w50
theorem S9_ok (Kv : Value → World → Prop) : OkT pr false none 79 g9 (S9 (Kt Kv)) (s1 (s2 (tl 3 bd))) (P3 Kv) := ok_group mixed FOk_ 1 (B8 Kv) fun v ρ w => by kernel_rfl
theorem Q10 (Kv : Value → World → Prop) : OkT pr false none 79 g9 (S9 (Kt Kv)) (s2 (tl 3 bd)) (P1 Kv) := ok_seq (by kernel_rfl) (S2_ok Kv) (S9_ok Kv)
def P11 (Kv : Value → World → Prop) : Post := next (get g9 (S9 (Kt Kv))) (P1 Kv)
def P12 (Kv : Value → World → Prop) : Post := inBlock 0 (P11 Kv)
@[reducible] def g13 : List SE := [.v 0 .ptr, .v 5 .map, .v 17 .sl, .v 18 (.int .i64), .v 19 (.int .i64)]
def P14 (Kv : Value → World → Prop) (kc13 : Cur g13) : Post := next (get g13 kc13) (P12 Kv)
def S15 (K : KT) (kc13 : Cur g13) (d_61 : Option Addr) (keeps_62 : Option Nat) (l63 : Sl) (n64 : Int) (n65 : Int) (w : World) : Prop :=
  G.cond (decide (n65 < n64)) (G.ix l63.a l63.n n65 2 fun p66 => G.cS p66 w fun s67 => G.cI .i64 (p66.add 1) w fun n68 => G.new (.cells #[(.string (⟨#[]⟩ : ByteArray)), (.int .i64 (0 : Int))] 68) w fun p69 w70 => G.st p69 (.string s67) w70 fun w71 => G.st (p69.add 1) (.int .i64 n68) w71 fun w72 => G.cS p69 w72 fun s73 => G.rd2 pr (Instr.lookup 72 (.map keeps_62) (.string s73) true) (fun n : Int => Value.int .i64 n) w72 fun n74 b75 => G.cond b75 (K (1 : Int) w72) (G.cI .i64 (p69.add 1) w72 fun n76 => G.cond (decide (n76 < (0 : Int))) (K (1 : Int) w72) (G.cS p69 w72 fun s77 => G.cI .i64 (p69.add 1) w72 fun n78 => G.runU pr (Instr.mapUpdate 72 (.map keeps_62) (.string s77) (.int .i64 n78)) w72 fun w79 => kc13 d_61 keeps_62 l63 n64 (IntKind.i64.wrap (n65 + (1 : Int))) w79))) (S9 K d_61 keeps_62 w)
theorem S15_ok (Kv : Value → World → Prop) (kc13 : Cur g13) : OkT pr false none 79 g13 (S15 (Kt Kv) kc13) (lp (blk (tl 1 (s1 (tl 3 bd))))) (P14 Kv kc13) := ok_last mixed FOk_ fun v ρ w => by kernel_rfl
def L13 (K : KT) : Cur g13 := loopC g13 (S15 K)
theorem L13_ok (Kv : Value → World → Prop) : OkT pr false none 79 g13 (L13 (Kt Kv)) (blk (tl 1 (s1 (tl 3 bd)))) (P12 Kv) := ok_loop (B := S15 (Kt Kv)) (by kernel_rfl) fun kc => S15_ok Kv kc
theorem L13_ind {K : KT} {d_51 : Option Addr} {keeps_52 : Option Nat} {l53 : Sl} {n54 : Int} {n55 : Int} {w : World} (h : ∀ X : Cur g13, (∀ d_51 keeps_52 l53 n54 n55 w, S15 K X d_51 keeps_52 l53 n54 n55 w → X d_51 keeps_52 l53 n54 n55 w) → X d_51 keeps_52 l53 n54 n55 w) : L13 K d_51 keeps_52 l53 n54 n55 w := fun X hX => h X fun d_51 keeps_52 l53 n54 n55 w hb => hX (d_51, keeps_52, l53, n54, n55, ()) w hb
theorem B16 (Kv : Value → World → Prop) : OkT pr false none 79 g13 (L13 (Kt Kv)) (tl 1 (s1 (tl 3 bd))) (P11 Kv) := ok_block 0 (by kernel_rfl) (L13_ok Kv)
@[reducible] def g17 : List SE := [.v 0 .ptr, .v 1 .sl, .v 5 .map]
def S17 (K : KT) (d_80 : Option Addr) (l_81 : Sl) (keeps_82 : Option Nat) (w : World) : Prop :=
  L13 K d_80 keeps_82 l_81 ((l_81.n : Nat) : Int) (0 : Int) w
theorem S17_ok (Kv : Value → World → Prop) : OkT pr false none 79 g17 (S17 (Kt Kv)) (s1 (tl 3 bd)) (P11 Kv) := ok_group mixed FOk_ 1 (B16 Kv) fun v ρ w => by kernel_rfl
theorem Q18 (Kv : Value → World → Prop) : OkT pr false none 79 g17 (S17 (Kt Kv)) (tl 3 bd) (P1 Kv) := ok_seq (by kernel_rfl) (Q10 Kv) (S17_ok Kv)
end disk_Disk_Crash
def disk_Disk_Crash (d_2 : Option Addr) (l_3 : Sl) (w : World) (K : disk_Disk_Crash.KT) : Prop :=
  G.cond d_2.isNone (K (2 : Int) w) (G.runM pr (Instr.makeMap 72 none) w fun m83 w84 => disk_Disk_Crash.S17 K d_2 l_3 m83 w84)
def disk_Disk_Crash.cl : CL := fun args K w => match args with
  | [.pointer x0, .slice x1_a x1_n x1_c] => C.disk_Disk_Crash x0 ⟨x1_a, x1_n, x1_c⟩ w (disk_Disk_Crash.Kt K)
  | _ => False
theorem disk_Disk_Crash.clok : OkC pr 17 disk_Disk_Crash.cl := by
  intro args K w h
  unfold disk_Disk_Crash.cl at h
  split at h
  · exact calls_group false mixed disk_Disk_Crash.FOk_ disk_Disk_Crash.fn rfl 3 (disk_Disk_Crash.Q18 K) (Eq.mp (by kernel_rfl) h)
  · exact h.elim

/-! tocsin/tocsinlaw07.known -/
namespace tocsinlaw07_known
abbrev KT := Bool → World → Prop
def Kt (Kv : Value → World → Prop) : KT := fun b1 w => Kv (.bool b1) w
noncomputable def bd : Code := bdy Tryd.f14
theorem fn : FnOk pr 14 59 Tryd.f14 := ⟨Tryd.func14, by kernel_rfl, Tryd.ntmps14, by kernel_rfl, by kernel_rfl⟩
def F : Clee := ofL [(8, C.disk_New.cl), (9, C.wal_Open.cl), (10, C.wal_Log_Append.cl), (17, C.disk_Disk_Crash.cl)]
theorem FOk_ : FOk pr F := FOk_cons C.disk_New.clok (FOk_cons C.wal_Open.clok (FOk_cons C.wal_Log_Append.clok (FOk_cons C.disk_Disk_Crash.clok (FOk_nil))))
def P1 (Kv : Value → World → Prop) : Post := bodyK false pr 59 Tryd.f14 Kv
end tocsinlaw07_known
def tocsinlaw07_known (w : World) (K : tocsinlaw07_known.KT) : Prop :=
  C.disk_New w fun p2 w3 => C.wal_Open p2 (⟨#[119]⟩ : ByteArray) (16 : Int) w3 fun p4 l5 n6 w7 => G.cond (n6 != (0 : Int)) (K false w7) (G.cond p4.isNone (K false w7) (G.cond (((l5.n : Nat) : Int) != (0 : Int)) (K false w7) (G.new (.cells #[(.int .u8 (97 : Int))] 5) w7 fun p8 w9 => G.runSl pr (Go.convert 31 31 (Sl.v (⟨some p8, 1, 1⟩ : Sl))) w9 fun l10 w11 => C.wal_Log_Append p4 l10 w11 fun n12 w13 => G.new (.cells #[(.int .u8 (97 : Int))] 5) w13 fun p14 w15 => G.runSl pr (Go.convert 31 31 (Sl.v (⟨some p14, 1, 1⟩ : Sl))) w15 fun l16 w17 => C.wal_Log_Append p4 l16 w17 fun n18 w19 => G.new (.cells #[(.int .u8 (98 : Int))] 5) w19 fun p20 w21 => G.runSl pr (Go.convert 31 31 (Sl.v (⟨some p20, 1, 1⟩ : Sl))) w21 fun l22 w23 => C.wal_Log_Append p4 l22 w23 fun n24 w25 => G.new (.cells #[(.string (⟨#[119, 46, 48, 48, 48, 48, 48, 48, 48, 50]⟩ : ByteArray)), (.int .i64 (3 : Int))] 68) w25 fun p26 w27 => C.disk_Disk_Crash p2 (⟨some p26, 1, 1⟩ : Sl) w27 fun n28 w29 => C.wal_Open p2 (⟨#[119]⟩ : ByteArray) (16 : Int) w29 fun p30 l31 n32 w33 => G.cond (n32 == (0 : Int)) (G.cond (((l31.n : Nat) : Int) == (2 : Int)) (G.ix l31.a l31.n (1 : Int) 1 fun p34 => G.cSl p34 w33 fun l35 => G.rdS pr (Conv.bytesToString l35.v) w33 fun s36 => K (s36.toList == (⟨#[97]⟩ : ByteArray).toList) w33) (K false w33)) (K false w33))))
def tocsinlaw07_known.cl : CL := fun args K w => match args with
  | [] => C.tocsinlaw07_known w (tocsinlaw07_known.Kt K)
  | _ => False
theorem tocsinlaw07_known.clok : OkC pr 14 tocsinlaw07_known.cl := by
  intro args K w h
  unfold tocsinlaw07_known.cl at h
  split at h
  · exact calls_last false mixed tocsinlaw07_known.FOk_ tocsinlaw07_known.fn rfl (Eq.mp (by kernel_rfl) h)
  · exact h.elim

/-! tocsin/tocsinlaw07.WalBack -/
namespace tocsinlaw07_WalBack
abbrev KT := Bool → World → Prop
def Kt (Kv : Value → World → Prop) : KT := fun b1 w => Kv (.bool b1) w
noncomputable def bd : Code := bdy Tryd.f3
theorem fn : FnOk pr 3 120 Tryd.f3 := ⟨Tryd.func3, by kernel_rfl, Tryd.ntmps3, by kernel_rfl, by kernel_rfl⟩
def F : Clee := ofL [(7, C.tocsinref01_Count.cl), (8, C.disk_New.cl), (9, C.wal_Open.cl), (10, C.wal_Log_Append.cl), (11, C.tocsinref01_SameAll.cl), (12, C.tocsinlaw07_all.cl), (13, C.wal_Log_Len.cl), (14, C.tocsinlaw07_known.cl)]
theorem FOk_ : FOk pr F := FOk_cons C.tocsinref01_Count.clok (FOk_cons C.disk_New.clok (FOk_cons C.wal_Open.clok (FOk_cons C.wal_Log_Append.clok (FOk_cons C.tocsinref01_SameAll.clok (FOk_cons C.tocsinlaw07_all.clok (FOk_cons C.wal_Log_Len.clok (FOk_cons C.tocsinlaw07_known.clok (FOk_nil))))))))
def P1 (Kv : Value → World → Prop) : Post := bodyK false pr 120 Tryd.f3 Kv
@[reducible] def g2 : List SE := [.v 0 (.int .i64), .v 5 .ptr, .v 6 .ptr, .v 9 .sl]
def S2 (K : KT) (room_6 : Int) (d_7 : Option Addr) (a_8 : Option Addr) (want_9 : Sl) (w : World) : Prop :=
  C.wal_Open d_7 (⟨#[108, 111, 103]⟩ : ByteArray) room_6 w fun p10 l11 n12 w13 => C.wal_Open d_7 (⟨#[108, 111, 103]⟩ : ByteArray) (16 : Int) w13 fun p14 l15 n16 w17 => G.cond (n12 == (0 : Int)) (G.cond (n16 == (0 : Int)) (G.cond (!p10.isNone) (G.cond (!p14.isNone) (C.tocsinref01_SameAll l11 want_9 w17 fun b18 w19 => G.cond b18 (C.tocsinref01_SameAll l15 want_9 w19 fun b20 w21 => G.cond b20 (C.tocsinlaw07_all a_8 (0 : Int) w21 fun l22 w23 => C.tocsinref01_SameAll l22 want_9 w23 fun b24 w25 => G.cond b24 (C.wal_Log_Len p10 w25 fun n26 w27 => G.cond (n26 == ((want_9.n : Nat) : Int)) (C.tocsinlaw07_known w27 fun b28 w29 => K b28 w29) (K false w27)) (K false w25)) (K false w21)) (K false w19)) (K false w17)) (K false w17)) (K false w17)) (K false w17)
theorem S2_ok (Kv : Value → World → Prop) : OkT pr false none 120 g2 (S2 (Kt Kv)) (s2 (tl 6 bd)) (P1 Kv) := ok_last mixed FOk_ fun v ρ w => by kernel_rfl
def P3 (Kv : Value → World → Prop) : Post := next (get g2 (S2 (Kt Kv))) (P1 Kv)
def P4 (Kv : Value → World → Prop) : Post := inBlock 0 (P3 Kv)
@[reducible] def g5 : List SE := [.v 0 (.int .i64), .v 1 .sl, .v 5 .ptr, .v 6 .ptr, .v 9 .sl, .v 10 (.int .i64)]
def P6 (Kv : Value → World → Prop) (kc5 : Cur g5) : Post := next (get g5 kc5) (P4 Kv)
def S7 (K : KT) (kc5 : Cur g5) (room_42 : Int) (l_43 : Sl) (d_44 : Option Addr) (a_45 : Option Addr) (want_46 : Sl) (i_47 : Int) (w : World) : Prop :=
  G.cond (decide (i_47 < ((l_43.n : Nat) : Int))) (G.cond (decide (i_47 < (100 : Int))) (G.ix l_43.a l_43.n i_47 1 fun p48 => G.cSl p48 w fun l49 => C.wal_Log_Append a_45 l49 w fun n50 w51 => G.cond (n50 == (0 : Int)) (G.ix l_43.a l_43.n i_47 1 fun p52 => G.cSl p52 w51 fun l53 => G.new (.cells #[l53.v] 31) w51 fun p54 w55 => G.runSl pr (Builtin.append_ #[22, 22] 22 #[want_46.v, (Sl.v (⟨some p54, 1, 1⟩ : Sl))]) w55 fun l56 w57 => kc5 room_42 l_43 d_44 a_45 l56 (IntKind.i64.wrap (i_47 + (1 : Int))) w57) (G.ix l_43.a l_43.n i_47 1 fun p58 => G.cSl p58 w51 fun l59 => G.cond (decide (((l59.n : Nat) : Int) ≤ (65536 : Int))) (K false w51) (kc5 room_42 l_43 d_44 a_45 want_46 (IntKind.i64.wrap (i_47 + (1 : Int))) w51))) (S2 K room_42 d_44 a_45 want_46 w)) (S2 K room_42 d_44 a_45 want_46 w)
theorem S7_ok (Kv : Value → World → Prop) (kc5 : Cur g5) : OkT pr false none 120 g5 (S7 (Kt Kv) kc5) (lp (blk (tl 1 (s1 (tl 6 bd))))) (P6 Kv kc5) := ok_last mixed FOk_ fun v ρ w => by kernel_rfl
def L5 (K : KT) : Cur g5 := loopC g5 (S7 K)
theorem L5_ok (Kv : Value → World → Prop) : OkT pr false none 120 g5 (L5 (Kt Kv)) (blk (tl 1 (s1 (tl 6 bd)))) (P4 Kv) := ok_loop (B := S7 (Kt Kv)) (by kernel_rfl) fun kc => S7_ok Kv kc
theorem L5_ind {K : KT} {room_30 : Int} {l_31 : Sl} {d_32 : Option Addr} {a_33 : Option Addr} {want_34 : Sl} {i_35 : Int} {w : World} (h : ∀ X : Cur g5, (∀ room_30 l_31 d_32 a_33 want_34 i_35 w, S7 K X room_30 l_31 d_32 a_33 want_34 i_35 w → X room_30 l_31 d_32 a_33 want_34 i_35 w) → X room_30 l_31 d_32 a_33 want_34 i_35 w) : L5 K room_30 l_31 d_32 a_33 want_34 i_35 w := fun X hX => h X fun room_30 l_31 d_32 a_33 want_34 i_35 w hb => hX (room_30, l_31, d_32, a_33, want_34, i_35, ()) w hb
theorem B8 (Kv : Value → World → Prop) : OkT pr false none 120 g5 (L5 (Kt Kv)) (tl 1 (s1 (tl 6 bd))) (P3 Kv) := ok_block 0 (by kernel_rfl) (L5_ok Kv)
@[reducible] def g9 : List SE := [.v 0 (.int .i64), .v 1 .sl, .v 5 .ptr, .v 6 .ptr, .v 9 .sl]
def S9 (K : KT) (room_60 : Int) (l_61 : Sl) (d_62 : Option Addr) (a_63 : Option Addr) (want_64 : Sl) (w : World) : Prop :=
  L5 K room_60 l_61 d_62 a_63 want_64 (0 : Int) w
theorem S9_ok (Kv : Value → World → Prop) : OkT pr false none 120 g9 (S9 (Kt Kv)) (s1 (tl 6 bd)) (P3 Kv) := ok_group mixed FOk_ 1 (B8 Kv) fun v ρ w => by kernel_rfl
theorem Q10 (Kv : Value → World → Prop) : OkT pr false none 120 g9 (S9 (Kt Kv)) (tl 6 bd) (P1 Kv) := ok_seq (by kernel_rfl) (S2_ok Kv) (S9_ok Kv)
end tocsinlaw07_WalBack
def tocsinlaw07_WalBack (room_2 : Int) (l_3 : Sl) (w : World) (K : tocsinlaw07_WalBack.KT) : Prop :=
  C.tocsinref01_Count room_2 (300 : Int) w fun n65 w66 => C.disk_New w66 fun p67 w68 => C.wal_Open p67 (⟨#[108, 111, 103]⟩ : ByteArray) (IntKind.i64.wrap ((16 : Int) + n65)) w68 fun p69 l70 n71 w72 => G.cond (n71 != (0 : Int)) (K false w72) (G.cond p69.isNone (K false w72) (G.cond (((l70.n : Nat) : Int) != (0 : Int)) (K false w72) (tocsinlaw07_WalBack.S9 K (IntKind.i64.wrap ((16 : Int) + n65)) l_3 p67 p69 nilS w72)))
def tocsinlaw07_WalBack.cl : CL := fun args K w => match args with
  | [.int .i64 x0, .slice x1_a x1_n x1_c] => C.tocsinlaw07_WalBack x0 ⟨x1_a, x1_n, x1_c⟩ w (tocsinlaw07_WalBack.Kt K)
  | _ => False
theorem tocsinlaw07_WalBack.clok : OkC pr 3 tocsinlaw07_WalBack.cl := by
  intro args K w h
  unfold tocsinlaw07_WalBack.cl at h
  split at h
  · exact calls_group false mixed tocsinlaw07_WalBack.FOk_ tocsinlaw07_WalBack.fn rfl 6 (tocsinlaw07_WalBack.Q10 K) (Eq.mp (by kernel_rfl) h)
  · exact h.elim

/-! (*tocsin/disk.Disk).Rename -/
namespace disk_Disk_Rename
abbrev KT := Int → World → Prop
def Kt (Kv : Value → World → Prop) : KT := fun n1 w => Kv (.int .i64 n1) w
noncomputable def bd : Code := bdy Tryd.f33
theorem fn : FnOk pr 33 39 Tryd.f33 := ⟨Tryd.func33, by kernel_rfl, Tryd.ntmps33, by kernel_rfl, by kernel_rfl⟩
def F : Clee := ofL [(37, C.disk_Disk_find.cl), (45, C.disk_named.cl)]
theorem FOk_ : FOk pr F := FOk_cons C.disk_Disk_find.clok (FOk_cons C.disk_named.clok (FOk_nil))
def P1 (Kv : Value → World → Prop) : Post := bodyK false pr 39 Tryd.f33 Kv
end disk_Disk_Rename
def disk_Disk_Rename (d_2 : Option Addr) (from_3 : ByteArray) (to_4 : ByteArray) (w : World) (K : disk_Disk_Rename.KT) : Prop :=
  G.cond d_2.isNone (K (2 : Int) w) (C.disk_named from_3 w fun b14 w15 => G.cond (!b14) (K (40 : Int) w15) (C.disk_named to_4 w15 fun b16 w17 => G.cond (!b16) (K (40 : Int) w17) (C.disk_Disk_find d_2 from_3 w17 fun l18 n19 n20 w21 => G.new (.cells #[nilS.v, (.int .i64 (0 : Int))] 77) w21 fun p22 w23 => G.st p22 l18.v w23 fun w24 => G.st (p22.add 1) (.int .i64 n19) w24 fun w25 => G.cond (n20 != (0 : Int)) (K n20 w25) (G.ptr d_2 fun p26 => G.cM p26 w25 fun m27 => G.run pr (Builtin.delete_ #[46, 9] 0 #[(.map m27), (.string from_3)]) w25 fun v28 w29 => G.ptr d_2 fun p30 => G.cM p30 w29.drew fun m31 => G.cSl p22 w29.drew fun l32 => G.cI .i64 (p22.add 1) w29.drew fun n33 => G.runU pr (Instr.mapUpdate 46 (.map m31) (.string to_4) (.agg #[l32.v, (.int .i64 n33)])) w29.drew fun w34 => K (0 : Int) w34))))
def disk_Disk_Rename.cl : CL := fun args K w => match args with
  | [.pointer x0, .string x1, .string x2] => C.disk_Disk_Rename x0 x1 x2 w (disk_Disk_Rename.Kt K)
  | _ => False
theorem disk_Disk_Rename.clok : OkC pr 33 disk_Disk_Rename.cl := by
  intro args K w h
  unfold disk_Disk_Rename.cl at h
  split at h
  · exact calls_last false mixed disk_Disk_Rename.FOk_ disk_Disk_Rename.fn rfl (Eq.mp (by kernel_rfl) h)
  · exact h.elim

/-! (*tocsin/wal.Log).Checkpoint -/
namespace wal_Log_Checkpoint
abbrev KT := Int → World → Prop
def Kt (Kv : Value → World → Prop) : KT := fun n1 w => Kv (.int .i64 n1) w
noncomputable def bd : Code := bdy Tryd.f15
theorem fn : FnOk pr 15 175 Tryd.f15 := ⟨Tryd.func15, by kernel_rfl, Tryd.ntmps15, by kernel_rfl, by kernel_rfl⟩
def F : Clee := ofL [(18, C.wal_Log_Segments.cl), (20, C.disk_Disk_Remove.cl), (24, C.wal_again.cl), (25, C.vint_PutFrame.cl), (27, C.wal_Log_segment.cl), (28, C.disk_Disk_Sync.cl), (29, C.disk_Disk_Append.cl), (32, C.vint_PutU.cl), (33, C.disk_Disk_Rename.cl)]
theorem FOk_ : FOk pr F := FOk_cons C.wal_Log_Segments.clok (FOk_cons C.disk_Disk_Remove.clok (FOk_cons C.wal_again.clok (FOk_cons C.vint_PutFrame.clok (FOk_cons C.wal_Log_segment.clok (FOk_cons C.disk_Disk_Sync.clok (FOk_cons C.disk_Disk_Append.clok (FOk_cons C.vint_PutU.clok (FOk_cons C.disk_Disk_Rename.clok (FOk_nil)))))))))
def P1 (Kv : Value → World → Prop) : Post := bodyK false pr 175 Tryd.f15 Kv
@[reducible] def g2 : List SE := []
def S2 (K : KT) (w : World) : Prop :=
  K (0 : Int) w
theorem S2_ok (Kv : Value → World → Prop) : OkT pr false none 175 g2 (S2 (Kt Kv)) (s2 (tl 2 (s2 (tl 6 (s2 (s2 (tl 3 bd))))))) (P1 Kv) := ok_last mixed FOk_ fun v ρ w => by kernel_rfl
def P3 (Kv : Value → World → Prop) : Post := next (get g2 (S2 (Kt Kv))) (P1 Kv)
def P4 (Kv : Value → World → Prop) : Post := inBlock 7 (P3 Kv)
@[reducible] def g5 : List SE := [.v 0 .ptr, .v 157 .sl, .v 158 (.int .i64), .v 159 (.int .i64)]
def P6 (Kv : Value → World → Prop) (kc5 : Cur g5) : Post := next (get g5 kc5) (P4 Kv)
def S7 (K : KT) (kc5 : Cur g5) (l_20 : Option Addr) (l21 : Sl) (n22 : Int) (n23 : Int) (w : World) : Prop :=
  G.cond (decide (n23 < n22)) (G.ix l21.a l21.n n23 1 fun p24 => G.cSl p24 w fun l25 => G.ptr l_20 fun p26 => G.cSl (p26.add 4) w.drew fun l27 => C.wal_again l25 w.drew fun l28 w29 => sameAt (p26.add 4) 1 w.drew w29 ∧ (G.new (.cells #[l28.v] 31) w29 fun p30 w31 => sameAt (p26.add 4) 1 w.drew w31 ∧ (G.runSl pr (Builtin.append_ #[22, 22] 22 #[l27.v, (Sl.v (⟨some p30, 1, 1⟩ : Sl))]) w31 fun l32 w33 => G.ptr l_20 fun p34 => G.st (p34.add 4) l32.v w33 fun w35 => kc5 l_20 l21 n22 (IntKind.i64.wrap (n23 + (1 : Int))) w35))) (S2 K w)
theorem S7_ok (Kv : Value → World → Prop) (kc5 : Cur g5) : OkT pr false none 175 g5 (S7 (Kt Kv) kc5) (lp (blk (tl 1 (s1 (tl 2 (s2 (tl 6 (s2 (s2 (tl 3 bd)))))))))) (P6 Kv kc5) := ok_last mixed FOk_ fun v ρ w => by kernel_rfl
def L5 (K : KT) : Cur g5 := loopC g5 (S7 K)
theorem L5_ok (Kv : Value → World → Prop) : OkT pr false none 175 g5 (L5 (Kt Kv)) (blk (tl 1 (s1 (tl 2 (s2 (tl 6 (s2 (s2 (tl 3 bd))))))))) (P4 Kv) := ok_loop (B := S7 (Kt Kv)) (by kernel_rfl) fun kc => S7_ok Kv kc
theorem L5_ind {K : KT} {l_12 : Option Addr} {l13 : Sl} {n14 : Int} {n15 : Int} {w : World} (h : ∀ X : Cur g5, (∀ l_12 l13 n14 n15 w, S7 K X l_12 l13 n14 n15 w → X l_12 l13 n14 n15 w) → X l_12 l13 n14 n15 w) : L5 K l_12 l13 n14 n15 w := fun X hX => h X fun l_12 l13 n14 n15 w hb => hX (l_12, l13, n14, n15, ()) w hb
theorem B8 (Kv : Value → World → Prop) : OkT pr false none 175 g5 (L5 (Kt Kv)) (tl 1 (s1 (tl 2 (s2 (tl 6 (s2 (s2 (tl 3 bd)))))))) (P3 Kv) := ok_block 7 (by kernel_rfl) (L5_ok Kv)
@[reducible] def g9 : List SE := [.v 0 .ptr, .v 1 .sl]
def S9 (K : KT) (l_36 : Option Addr) (r_37 : Sl) (w : World) : Prop :=
  L5 K l_36 r_37 ((r_37.n : Nat) : Int) (0 : Int) w
theorem S9_ok (Kv : Value → World → Prop) : OkT pr false none 175 g9 (S9 (Kt Kv)) (s1 (tl 2 (s2 (tl 6 (s2 (s2 (tl 3 bd))))))) (P3 Kv) := ok_group mixed FOk_ 1 (B8 Kv) fun v ρ w => by kernel_rfl
theorem Q10 (Kv : Value → World → Prop) : OkT pr false none 175 g9 (S9 (Kt Kv)) (tl 2 (s2 (tl 6 (s2 (s2 (tl 3 bd)))))) (P1 Kv) := ok_seq (by kernel_rfl) (S2_ok Kv) (S9_ok Kv)
def S11 (K : KT) (l_38 : Option Addr) (r_39 : Sl) (w : World) : Prop :=
  G.ptr l_38 fun p40 => G.cI .i64 (p40.add 3) w fun n41 => G.ptr l_38 fun p42 => G.st (p42.add 3) (.int .i64 (IntKind.i64.wrap (n41 + (1 : Int)))) w fun w43 => G.ptr l_38 fun p44 => G.st (p44.add 4) nilS.v w43 fun w45 => S9 K l_38 r_39 w45
theorem S11_ok (Kv : Value → World → Prop) : OkT pr false none 175 g9 (S11 (Kt Kv)) (s2 (tl 6 (s2 (s2 (tl 3 bd))))) (P1 Kv) := ok_group mixed FOk_ 2 (Q10 Kv) fun v ρ w => by kernel_rfl
def P12 (Kv : Value → World → Prop) : Post := next (get g9 (S11 (Kt Kv))) (P1 Kv)
def P13 (Kv : Value → World → Prop) : Post := inBlock 5 (P12 Kv)
@[reducible] def g14 : List SE := [.v 0 .ptr, .v 1 .sl, .v 132 .sl, .v 133 (.int .i64), .v 134 (.int .i64)]
def P15 (Kv : Value → World → Prop) (kc14 : Cur g14) : Post := next (get g14 kc14) (P13 Kv)
def S16 (K : KT) (kc14 : Cur g14) (l_56 : Option Addr) (r_57 : Sl) (l58 : Sl) (n59 : Int) (n60 : Int) (w : World) : Prop :=
  G.cond (decide (n60 < n59)) (G.ix l58.a l58.n n60 1 fun p61 => G.cI .i64 p61 w fun n62 => G.ptr l_56 fun p63 => G.cP p63 w.drew fun p64 => C.wal_Log_segment l_56 n62 w.drew fun s65 w66 => sameAt p63 1 w.drew w66 ∧ (C.disk_Disk_Remove p64 s65 w66 fun n67 w68 => kc14 l_56 r_57 l58 n59 (IntKind.i64.wrap (n60 + (1 : Int))) w68)) (S11 K l_56 r_57 w)
theorem S16_ok (Kv : Value → World → Prop) (kc14 : Cur g14) : OkT pr false none 175 g14 (S16 (Kt Kv) kc14) (lp (blk (tl 1 (s1 (tl 6 (s2 (s2 (tl 3 bd)))))))) (P15 Kv kc14) := ok_last mixed FOk_ fun v ρ w => by kernel_rfl
def L14 (K : KT) : Cur g14 := loopC g14 (S16 K)
theorem L14_ok (Kv : Value → World → Prop) : OkT pr false none 175 g14 (L14 (Kt Kv)) (blk (tl 1 (s1 (tl 6 (s2 (s2 (tl 3 bd))))))) (P13 Kv) := ok_loop (B := S16 (Kt Kv)) (by kernel_rfl) fun kc => S16_ok Kv kc
theorem L14_ind {K : KT} {l_46 : Option Addr} {r_47 : Sl} {l48 : Sl} {n49 : Int} {n50 : Int} {w : World} (h : ∀ X : Cur g14, (∀ l_46 r_47 l48 n49 n50 w, S16 K X l_46 r_47 l48 n49 n50 w → X l_46 r_47 l48 n49 n50 w) → X l_46 r_47 l48 n49 n50 w) : L14 K l_46 r_47 l48 n49 n50 w := fun X hX => h X fun l_46 r_47 l48 n49 n50 w hb => hX (l_46, r_47, l48, n49, n50, ()) w hb
theorem B17 (Kv : Value → World → Prop) : OkT pr false none 175 g14 (L14 (Kt Kv)) (tl 1 (s1 (tl 6 (s2 (s2 (tl 3 bd)))))) (P12 Kv) := ok_block 5 (by kernel_rfl) (L14_ok Kv)
def S18 (K : KT) (l_69 : Option Addr) (r_70 : Sl) (w : World) : Prop :=
  C.wal_Log_Segments l_69 w fun l71 w72 => L14 K l_69 r_70 l71 ((l71.n : Nat) : Int) (0 : Int) w72
theorem S18_ok (Kv : Value → World → Prop) : OkT pr false none 175 g9 (S18 (Kt Kv)) (s1 (tl 6 (s2 (s2 (tl 3 bd))))) (P12 Kv) := ok_group mixed FOk_ 1 (B17 Kv) fun v ρ w => by kernel_rfl
theorem Q19 (Kv : Value → World → Prop) : OkT pr false none 175 g9 (S18 (Kt Kv)) (tl 6 (s2 (s2 (tl 3 bd)))) (P1 Kv) := ok_seq (by kernel_rfl) (S11_ok Kv) (S18_ok Kv)
@[reducible] def g20 : List SE := [.v 0 .ptr, .v 1 .sl, .v 5 .sl]
def S20 (K : KT) (l_73 : Option Addr) (r_74 : Sl) (p_75 : Sl) (w : World) : Prop :=
  C.vint_PutFrame nilS p_75 w fun l76 n77 w78 => G.cond (n77 != (0 : Int)) (K n77 w78) (G.ptr l_73 fun p79 => G.cI .i64 (p79.add 3) w78 fun n80 => G.cond (decide (n80 ≥ (99999999 : Int))) (K (8 : Int) w78) (G.ptr l_73 fun p81 => G.cP p81 w78.drew fun p82 => G.ptr l_73 fun p83 => G.cS (p83.add 1) w78.drew fun s84 => G.cat s84 (⟨#[46, 110, 101, 119]⟩ : ByteArray) fun s85 => C.disk_Disk_Remove p82 s85 w78.drew fun n86 w87 => G.ptr l_73 fun p88 => G.cP p88 w87.drew fun p89 => G.ptr l_73 fun p90 => G.cS (p90.add 1) w87.drew fun s91 => G.cat s91 (⟨#[46, 110, 101, 119]⟩ : ByteArray) fun s92 => C.disk_Disk_Append p89 s92 l76 w87.drew fun n93 w94 => G.cond (n93 != (0 : Int)) (G.ptr l_73 fun p95 => G.cP p95 w94.drew fun p96 => G.ptr l_73 fun p97 => G.cS (p97.add 1) w94.drew fun s98 => G.cat s98 (⟨#[46, 110, 101, 119]⟩ : ByteArray) fun s99 => C.disk_Disk_Remove p96 s99 w94.drew fun n100 w101 => K n93 w101) (G.ptr l_73 fun p102 => G.cP p102 w94.drew fun p103 => G.ptr l_73 fun p104 => G.cS (p104.add 1) w94.drew fun s105 => G.cat s105 (⟨#[46, 110, 101, 119]⟩ : ByteArray) fun s106 => C.disk_Disk_Sync p103 s106 w94.drew fun n107 w108 => G.ptr l_73 fun p109 => G.cP p109 w108.drew fun p110 => G.ptr l_73 fun p111 => G.cS (p111.add 1) w108.drew fun s112 => G.cat s112 (⟨#[46, 110, 101, 119]⟩ : ByteArray) fun s113 => G.ptr l_73 fun p114 => G.cS (p114.add 1) w108.drew fun s115 => G.cat s115 (⟨#[46, 99, 104, 101, 99, 107]⟩ : ByteArray) fun s116 => C.disk_Disk_Rename p110 s113 s116 w108.drew fun n117 w118 => S18 K l_73 r_74 w118)))
theorem S20_ok (Kv : Value → World → Prop) : OkT pr false none 175 g20 (S20 (Kt Kv)) (s2 (s2 (tl 3 bd))) (P1 Kv) := ok_group mixed FOk_ 6 (Q19 Kv) fun v ρ w => by kernel_rfl
def P21 (Kv : Value → World → Prop) : Post := next (get g20 (S20 (Kt Kv))) (P1 Kv)
def P22 (Kv : Value → World → Prop) : Post := inBlock 2 (P21 Kv)
@[reducible] def g23 : List SE := [.v 0 .ptr, .v 1 .sl, .v 5 .sl, .v 40 .sl, .v 41 (.int .i64), .v 42 (.int .i64)]
def P24 (Kv : Value → World → Prop) (kc23 : Cur g23) : Post := next (get g23 kc23) (P22 Kv)
def S25 (K : KT) (kc23 : Cur g23) (l_131 : Option Addr) (r_132 : Sl) (p_133 : Sl) (l134 : Sl) (n135 : Int) (n136 : Int) (w : World) : Prop :=
  G.cond (decide (n136 < n135)) (G.ix l134.a l134.n n136 1 fun p137 => G.cSl p137 w fun l138 => C.vint_PutU p_133 (IntKind.u64.wrap ((l138.n : Nat) : Int)) w fun l139 w140 => G.runSl pr (Builtin.append_ #[31, 31] 31 #[l139.v, l138.v]) w140 fun l141 w142 => G.cond (decide (((l141.n : Nat) : Int) > (65536 : Int))) (K (4 : Int) w142) (kc23 l_131 r_132 l141 l134 n135 (IntKind.i64.wrap (n136 + (1 : Int))) w142)) (S20 K l_131 r_132 p_133 w)
theorem S25_ok (Kv : Value → World → Prop) (kc23 : Cur g23) : OkT pr false none 175 g23 (S25 (Kt Kv) kc23) (lp (blk (tl 1 (s1 (s2 (tl 3 bd)))))) (P24 Kv kc23) := ok_last mixed FOk_ fun v ρ w => by kernel_rfl
def L23 (K : KT) : Cur g23 := loopC g23 (S25 K)
theorem L23_ok (Kv : Value → World → Prop) : OkT pr false none 175 g23 (L23 (Kt Kv)) (blk (tl 1 (s1 (s2 (tl 3 bd))))) (P22 Kv) := ok_loop (B := S25 (Kt Kv)) (by kernel_rfl) fun kc => S25_ok Kv kc
theorem L23_ind {K : KT} {l_119 : Option Addr} {r_120 : Sl} {p_121 : Sl} {l122 : Sl} {n123 : Int} {n124 : Int} {w : World} (h : ∀ X : Cur g23, (∀ l_119 r_120 p_121 l122 n123 n124 w, S25 K X l_119 r_120 p_121 l122 n123 n124 w → X l_119 r_120 p_121 l122 n123 n124 w) → X l_119 r_120 p_121 l122 n123 n124 w) : L23 K l_119 r_120 p_121 l122 n123 n124 w := fun X hX => h X fun l_119 r_120 p_121 l122 n123 n124 w hb => hX (l_119, r_120, p_121, l122, n123, n124, ()) w hb
theorem B26 (Kv : Value → World → Prop) : OkT pr false none 175 g23 (L23 (Kt Kv)) (tl 1 (s1 (s2 (tl 3 bd)))) (P21 Kv) := ok_block 2 (by kernel_rfl) (L23_ok Kv)
def S27 (K : KT) (l_143 : Option Addr) (r_144 : Sl) (p_145 : Sl) (w : World) : Prop :=
  L23 K l_143 r_144 p_145 r_144 ((r_144.n : Nat) : Int) (0 : Int) w
theorem S27_ok (Kv : Value → World → Prop) : OkT pr false none 175 g20 (S27 (Kt Kv)) (s1 (s2 (tl 3 bd))) (P21 Kv) := ok_group mixed FOk_ 1 (B26 Kv) fun v ρ w => by kernel_rfl
theorem Q28 (Kv : Value → World → Prop) : OkT pr false none 175 g20 (S27 (Kt Kv)) (s2 (tl 3 bd)) (P1 Kv) := ok_seq (by kernel_rfl) (S20_ok Kv) (S27_ok Kv)
def P29 (Kv : Value → World → Prop) : Post := next (get g20 (S27 (Kt Kv))) (P1 Kv)
def P30 (Kv : Value → World → Prop) : Post := inBlock 0 (P29 Kv)
@[reducible] def g31 : List SE := [.v 0 .ptr, .v 1 .sl, .v 5 .sl, .v 30 .sl, .v 31 (.int .i64), .v 32 (.int .i64)]
def P32 (Kv : Value → World → Prop) (kc31 : Cur g31) : Post := next (get g31 kc31) (P30 Kv)
def S33 (K : KT) (kc31 : Cur g31) (l_158 : Option Addr) (r_159 : Sl) (p_160 : Sl) (l161 : Sl) (n162 : Int) (n163 : Int) (w : World) : Prop :=
  G.cond (decide (n163 < n162)) (G.ix l161.a l161.n n163 1 fun p164 => G.cSl p164 w fun l165 => G.cond (decide (((l165.n : Nat) : Int) > (65536 : Int))) (K (4 : Int) w) (kc31 l_158 r_159 p_160 l161 n162 (IntKind.i64.wrap (n163 + (1 : Int))) w)) (S27 K l_158 r_159 p_160 w)
theorem S33_ok (Kv : Value → World → Prop) (kc31 : Cur g31) : OkT pr false none 175 g31 (S33 (Kt Kv) kc31) (lp (blk (tl 1 (s1 (tl 3 bd))))) (P32 Kv kc31) := ok_last mixed FOk_ fun v ρ w => by kernel_rfl
def L31 (K : KT) : Cur g31 := loopC g31 (S33 K)
theorem L31_ok (Kv : Value → World → Prop) : OkT pr false none 175 g31 (L31 (Kt Kv)) (blk (tl 1 (s1 (tl 3 bd)))) (P30 Kv) := ok_loop (B := S33 (Kt Kv)) (by kernel_rfl) fun kc => S33_ok Kv kc
theorem L31_ind {K : KT} {l_146 : Option Addr} {r_147 : Sl} {p_148 : Sl} {l149 : Sl} {n150 : Int} {n151 : Int} {w : World} (h : ∀ X : Cur g31, (∀ l_146 r_147 p_148 l149 n150 n151 w, S33 K X l_146 r_147 p_148 l149 n150 n151 w → X l_146 r_147 p_148 l149 n150 n151 w) → X l_146 r_147 p_148 l149 n150 n151 w) : L31 K l_146 r_147 p_148 l149 n150 n151 w := fun X hX => h X fun l_146 r_147 p_148 l149 n150 n151 w hb => hX (l_146, r_147, p_148, l149, n150, n151, ()) w hb
theorem B34 (Kv : Value → World → Prop) : OkT pr false none 175 g31 (L31 (Kt Kv)) (tl 1 (s1 (tl 3 bd))) (P29 Kv) := ok_block 0 (by kernel_rfl) (L31_ok Kv)
def S35 (K : KT) (l_166 : Option Addr) (r_167 : Sl) (p_168 : Sl) (w : World) : Prop :=
  L31 K l_166 r_167 p_168 r_167 ((r_167.n : Nat) : Int) (0 : Int) w
theorem S35_ok (Kv : Value → World → Prop) : OkT pr false none 175 g20 (S35 (Kt Kv)) (s1 (tl 3 bd)) (P29 Kv) := ok_group mixed FOk_ 1 (B34 Kv) fun v ρ w => by kernel_rfl
theorem Q36 (Kv : Value → World → Prop) : OkT pr false none 175 g20 (S35 (Kt Kv)) (tl 3 bd) (P1 Kv) := ok_seq (by kernel_rfl) (Q28 Kv) (S35_ok Kv)
end wal_Log_Checkpoint
def wal_Log_Checkpoint (l_2 : Option Addr) (r_3 : Sl) (w : World) (K : wal_Log_Checkpoint.KT) : Prop :=
  G.cond l_2.isNone (K (2 : Int) w) (G.ptr l_2 fun p169 => G.cI .i64 (p169.add 3) w fun n170 => C.vint_PutU nilS (IntKind.u64.wrap (IntKind.i64.wrap (n170 + (1 : Int)))) w fun l171 w172 => C.vint_PutU l171 (IntKind.u64.wrap ((r_3.n : Nat) : Int)) w172 fun l173 w174 => wal_Log_Checkpoint.S35 K l_2 r_3 l173 w174)
def wal_Log_Checkpoint.cl : CL := fun args K w => match args with
  | [.pointer x0, .slice x1_a x1_n x1_c] => C.wal_Log_Checkpoint x0 ⟨x1_a, x1_n, x1_c⟩ w (wal_Log_Checkpoint.Kt K)
  | _ => False
theorem wal_Log_Checkpoint.clok : OkC pr 15 wal_Log_Checkpoint.cl := by
  intro args K w h
  unfold wal_Log_Checkpoint.cl at h
  split at h
  · exact calls_group false mixed wal_Log_Checkpoint.FOk_ wal_Log_Checkpoint.fn rfl 3 (wal_Log_Checkpoint.Q36 K) (Eq.mp (by kernel_rfl) h)
  · exact h.elim

/-! (*tocsin/wal.Log).Sync -/
namespace wal_Log_Sync
abbrev KT := Int → World → Prop
def Kt (Kv : Value → World → Prop) : KT := fun n1 w => Kv (.int .i64 n1) w
noncomputable def bd : Code := bdy Tryd.f16
theorem fn : FnOk pr 16 16 Tryd.f16 := ⟨Tryd.func16, by kernel_rfl, Tryd.ntmps16, by kernel_rfl, by kernel_rfl⟩
def F : Clee := ofL [(27, C.wal_Log_segment.cl), (28, C.disk_Disk_Sync.cl)]
theorem FOk_ : FOk pr F := FOk_cons C.wal_Log_segment.clok (FOk_cons C.disk_Disk_Sync.clok (FOk_nil))
def P1 (Kv : Value → World → Prop) : Post := bodyK false pr 16 Tryd.f16 Kv
end wal_Log_Sync
def wal_Log_Sync (l_2 : Option Addr) (w : World) (K : wal_Log_Sync.KT) : Prop :=
  G.cond l_2.isNone (K (2 : Int) w) (G.ptr l_2 fun p4 => G.cP p4 w.drew fun p5 => G.ptr l_2 fun p6 => G.cI .i64 (p6.add 3) w.drew fun n7 => C.wal_Log_segment l_2 n7 w.drew fun s8 w9 => sameAt p4 1 w.drew w9 ∧ (C.disk_Disk_Sync p5 s8 w9 fun n10 w11 => K (0 : Int) w11))
def wal_Log_Sync.cl : CL := fun args K w => match args with
  | [.pointer x0] => C.wal_Log_Sync x0 w (wal_Log_Sync.Kt K)
  | _ => False
theorem wal_Log_Sync.clok : OkC pr 16 wal_Log_Sync.cl := by
  intro args K w h
  unfold wal_Log_Sync.cl at h
  split at h
  · exact calls_last false mixed wal_Log_Sync.FOk_ wal_Log_Sync.fn rfl (Eq.mp (by kernel_rfl) h)
  · exact h.elim

/-! tocsin/tocsinlaw07.WalCrash -/
namespace tocsinlaw07_WalCrash
abbrev KT := Bool → World → Prop
def Kt (Kv : Value → World → Prop) : KT := fun b1 w => Kv (.bool b1) w
noncomputable def bd : Code := bdy Tryd.f4
theorem fn : FnOk pr 4 152 Tryd.f4 := ⟨Tryd.func4, by kernel_rfl, Tryd.ntmps4, by kernel_rfl, by kernel_rfl⟩
def F : Clee := ofL [(7, C.tocsinref01_Count.cl), (8, C.disk_New.cl), (9, C.wal_Open.cl), (10, C.wal_Log_Append.cl), (11, C.tocsinref01_SameAll.cl), (14, C.tocsinlaw07_known.cl), (15, C.wal_Log_Checkpoint.cl), (16, C.wal_Log_Sync.cl), (17, C.disk_Disk_Crash.cl)]
theorem FOk_ : FOk pr F := FOk_cons C.tocsinref01_Count.clok (FOk_cons C.disk_New.clok (FOk_cons C.wal_Open.clok (FOk_cons C.wal_Log_Append.clok (FOk_cons C.tocsinref01_SameAll.clok (FOk_cons C.tocsinlaw07_known.clok (FOk_cons C.wal_Log_Checkpoint.clok (FOk_cons C.wal_Log_Sync.clok (FOk_cons C.disk_Disk_Crash.clok (FOk_nil)))))))))
def P1 (Kv : Value → World → Prop) : Post := bodyK false pr 152 Tryd.f4 Kv
@[reducible] def g2 : List SE := [.v 0 (.int .i64), .v 3 .sl, .v 11 .ptr, .v 15 .sl, .v 17 (.int .i64)]
def S2 (K : KT) (room_35 : Int) (keeps_36 : Sl) (d_37 : Option Addr) (want_38 : Sl) (synced_39 : Int) (w : World) : Prop :=
  C.disk_Disk_Crash d_37 keeps_36 w fun n40 w41 => G.cond (n40 != (0 : Int)) (C.tocsinlaw07_known w41 fun b42 w43 => K b42 w43) (C.wal_Open d_37 (⟨#[119]⟩ : ByteArray) room_35 w41 fun p44 l45 n46 w47 => G.cond (n46 != (0 : Int)) (K false w47) (G.cond (decide (((l45.n : Nat) : Int) < synced_39)) (K false w47) (G.cond (decide (((l45.n : Nat) : Int) > ((want_38.n : Nat) : Int))) (K false w47) (G.slc want_38 0 ((l45.n : Nat) : Int) 1 fun l48 => C.tocsinref01_SameAll l45 l48 w47 fun b49 w50 => G.cond (!b49) (K false w50) (C.disk_Disk_Crash d_37 nilS w50 fun n51 w52 => C.wal_Open d_37 (⟨#[119]⟩ : ByteArray) room_35 w52 fun p53 l54 n55 w56 => G.cond (n55 == (0 : Int)) (C.tocsinref01_SameAll l54 l45 w56 fun b57 w58 => G.cond b57 (C.tocsinlaw07_known w58 fun b59 w60 => K b59 w60) (K false w58)) (K false w56))))))
theorem S2_ok (Kv : Value → World → Prop) : OkT pr false none 152 g2 (S2 (Kt Kv)) (s2 (tl 2 (tl 1 (s2 (tl 6 bd))))) (P1 Kv) := ok_last mixed FOk_ fun v ρ w => by kernel_rfl
def P3 (Kv : Value → World → Prop) : Post := next (get g2 (S2 (Kt Kv))) (P1 Kv)
def P4 (Kv : Value → World → Prop) : Post := inBlock 2 (P3 Kv)
@[reducible] def g5 : List SE := [.v 0 (.int .i64), .v 2 .sl, .v 3 .sl, .v 11 .ptr, .v 12 .ptr, .v 15 .sl, .v 17 (.int .i64), .v 18 (.int .i64)]
def P6 (Kv : Value → World → Prop) (kc5 : Cur g5) : Post := next (get g5 kc5) (P4 Kv)
def S7 (K : KT) (kc5 : Cur g5) (room_77 : Int) (more_78 : Sl) (keeps_79 : Sl) (d_80 : Option Addr) (a_81 : Option Addr) (want_82 : Sl) (synced_83 : Int) (i_84 : Int) (w : World) : Prop :=
  G.cond (decide (i_84 < ((more_78.n : Nat) : Int))) (G.cond (decide (i_84 < (50 : Int))) (G.ix more_78.a more_78.n i_84 1 fun p85 => G.cSl p85 w fun l86 => C.wal_Log_Append a_81 l86 w fun n87 w88 => G.cond (n87 == (0 : Int)) (G.ix more_78.a more_78.n i_84 1 fun p89 => G.cSl p89 w88 fun l90 => G.new (.cells #[l90.v] 31) w88 fun p91 w92 => G.runSl pr (Builtin.append_ #[22, 22] 22 #[want_82.v, (Sl.v (⟨some p91, 1, 1⟩ : Sl))]) w92 fun l93 w94 => kc5 room_77 more_78 keeps_79 d_80 a_81 l93 synced_83 (IntKind.i64.wrap (i_84 + (1 : Int))) w94) (kc5 room_77 more_78 keeps_79 d_80 a_81 want_82 synced_83 (IntKind.i64.wrap (i_84 + (1 : Int))) w88)) (S2 K room_77 keeps_79 d_80 want_82 synced_83 w)) (S2 K room_77 keeps_79 d_80 want_82 synced_83 w)
theorem S7_ok (Kv : Value → World → Prop) (kc5 : Cur g5) : OkT pr false none 152 g5 (S7 (Kt Kv) kc5) (lp (blk (tl 1 (s1 (tl 2 (tl 1 (s2 (tl 6 bd)))))))) (P6 Kv kc5) := ok_last mixed FOk_ fun v ρ w => by kernel_rfl
def L5 (K : KT) : Cur g5 := loopC g5 (S7 K)
theorem L5_ok (Kv : Value → World → Prop) : OkT pr false none 152 g5 (L5 (Kt Kv)) (blk (tl 1 (s1 (tl 2 (tl 1 (s2 (tl 6 bd))))))) (P4 Kv) := ok_loop (B := S7 (Kt Kv)) (by kernel_rfl) fun kc => S7_ok Kv kc
theorem L5_ind {K : KT} {room_61 : Int} {more_62 : Sl} {keeps_63 : Sl} {d_64 : Option Addr} {a_65 : Option Addr} {want_66 : Sl} {synced_67 : Int} {i_68 : Int} {w : World} (h : ∀ X : Cur g5, (∀ room_61 more_62 keeps_63 d_64 a_65 want_66 synced_67 i_68 w, S7 K X room_61 more_62 keeps_63 d_64 a_65 want_66 synced_67 i_68 w → X room_61 more_62 keeps_63 d_64 a_65 want_66 synced_67 i_68 w) → X room_61 more_62 keeps_63 d_64 a_65 want_66 synced_67 i_68 w) : L5 K room_61 more_62 keeps_63 d_64 a_65 want_66 synced_67 i_68 w := fun X hX => h X fun room_61 more_62 keeps_63 d_64 a_65 want_66 synced_67 i_68 w hb => hX (room_61, more_62, keeps_63, d_64, a_65, want_66, synced_67, i_68, ()) w hb
theorem B8 (Kv : Value → World → Prop) : OkT pr false none 152 g5 (L5 (Kt Kv)) (tl 1 (s1 (tl 2 (tl 1 (s2 (tl 6 bd)))))) (P3 Kv) := ok_block 2 (by kernel_rfl) (L5_ok Kv)
@[reducible] def g9 : List SE := [.v 0 (.int .i64), .v 2 .sl, .v 3 .sl, .v 11 .ptr, .v 12 .ptr, .v 15 .sl, .v 17 (.int .i64)]
def S9 (K : KT) (room_95 : Int) (more_96 : Sl) (keeps_97 : Sl) (d_98 : Option Addr) (a_99 : Option Addr) (want_100 : Sl) (synced_101 : Int) (w : World) : Prop :=
  L5 K room_95 more_96 keeps_97 d_98 a_99 want_100 synced_101 (0 : Int) w
theorem S9_ok (Kv : Value → World → Prop) : OkT pr false none 152 g9 (S9 (Kt Kv)) (s1 (tl 2 (tl 1 (s2 (tl 6 bd))))) (P3 Kv) := ok_group mixed FOk_ 1 (B8 Kv) fun v ρ w => by kernel_rfl
theorem Q10 (Kv : Value → World → Prop) : OkT pr false none 152 g9 (S9 (Kt Kv)) (tl 2 (tl 1 (s2 (tl 6 bd)))) (P1 Kv) := ok_seq (by kernel_rfl) (S2_ok Kv) (S9_ok Kv)
@[reducible] def g11 : List SE := [.v 0 (.int .i64), .v 2 .sl, .v 3 .sl, .v 11 .ptr, .v 12 .ptr, .v 15 .sl]
def S11 (K : KT) (room_102 : Int) (more_103 : Sl) (keeps_104 : Sl) (d_105 : Option Addr) (a_106 : Option Addr) (want_107 : Sl) (w : World) : Prop :=
  C.wal_Log_Sync a_106 w fun n108 w109 => G.cond (n108 != (0 : Int)) (K false w109) (S9 K room_102 more_103 keeps_104 d_105 a_106 want_107 ((want_107.n : Nat) : Int) w109)
theorem S11_ok (Kv : Value → World → Prop) : OkT pr false none 152 g11 (S11 (Kt Kv)) (tl 1 (s2 (tl 6 bd))) (P1 Kv) := ok_group mixed FOk_ 2 (Q10 Kv) fun v ρ w => by kernel_rfl
@[reducible] def g12 : List SE := [.v 0 (.int .i64), .v 2 .sl, .v 3 .sl, .v 4 .bool, .v 11 .ptr, .v 12 .ptr, .v 15 .sl]
def S12 (K : KT) (room_110 : Int) (more_111 : Sl) (keeps_112 : Sl) (check_113 : Bool) (d_114 : Option Addr) (a_115 : Option Addr) (want_116 : Sl) (w : World) : Prop :=
  G.cond check_113 (C.wal_Log_Checkpoint a_115 want_116 w fun n117 w118 => S11 K room_110 more_111 keeps_112 d_114 a_115 want_116 w118) (S11 K room_110 more_111 keeps_112 d_114 a_115 want_116 w)
theorem S12_ok (Kv : Value → World → Prop) : OkT pr false none 152 g12 (S12 (Kt Kv)) (s2 (tl 6 bd)) (P1 Kv) := ok_group mixed FOk_ 1 (S11_ok Kv) fun v ρ w => by kernel_rfl
def P13 (Kv : Value → World → Prop) : Post := next (get g12 (S12 (Kt Kv))) (P1 Kv)
def P14 (Kv : Value → World → Prop) : Post := inBlock 0 (P13 Kv)
@[reducible] def g15 : List SE := [.v 0 (.int .i64), .v 1 .sl, .v 2 .sl, .v 3 .sl, .v 4 .bool, .v 11 .ptr, .v 12 .ptr, .v 15 .sl, .v 16 (.int .i64)]
def P16 (Kv : Value → World → Prop) (kc15 : Cur g15) : Post := next (get g15 kc15) (P14 Kv)
def S17 (K : KT) (kc15 : Cur g15) (room_137 : Int) (l_138 : Sl) (more_139 : Sl) (keeps_140 : Sl) (check_141 : Bool) (d_142 : Option Addr) (a_143 : Option Addr) (want_144 : Sl) (i_145 : Int) (w : World) : Prop :=
  G.cond (decide (i_145 < ((l_138.n : Nat) : Int))) (G.cond (decide (i_145 < (50 : Int))) (G.ix l_138.a l_138.n i_145 1 fun p146 => G.cSl p146 w fun l147 => C.wal_Log_Append a_143 l147 w fun n148 w149 => G.cond (n148 == (0 : Int)) (G.ix l_138.a l_138.n i_145 1 fun p150 => G.cSl p150 w149 fun l151 => G.new (.cells #[l151.v] 31) w149 fun p152 w153 => G.runSl pr (Builtin.append_ #[22, 22] 22 #[want_144.v, (Sl.v (⟨some p152, 1, 1⟩ : Sl))]) w153 fun l154 w155 => kc15 room_137 l_138 more_139 keeps_140 check_141 d_142 a_143 l154 (IntKind.i64.wrap (i_145 + (1 : Int))) w155) (kc15 room_137 l_138 more_139 keeps_140 check_141 d_142 a_143 want_144 (IntKind.i64.wrap (i_145 + (1 : Int))) w149)) (S12 K room_137 more_139 keeps_140 check_141 d_142 a_143 want_144 w)) (S12 K room_137 more_139 keeps_140 check_141 d_142 a_143 want_144 w)
theorem S17_ok (Kv : Value → World → Prop) (kc15 : Cur g15) : OkT pr false none 152 g15 (S17 (Kt Kv) kc15) (lp (blk (tl 1 (s1 (tl 6 bd))))) (P16 Kv kc15) := ok_last mixed FOk_ fun v ρ w => by kernel_rfl
def L15 (K : KT) : Cur g15 := loopC g15 (S17 K)
theorem L15_ok (Kv : Value → World → Prop) : OkT pr false none 152 g15 (L15 (Kt Kv)) (blk (tl 1 (s1 (tl 6 bd)))) (P14 Kv) := ok_loop (B := S17 (Kt Kv)) (by kernel_rfl) fun kc => S17_ok Kv kc
theorem L15_ind {K : KT} {room_119 : Int} {l_120 : Sl} {more_121 : Sl} {keeps_122 : Sl} {check_123 : Bool} {d_124 : Option Addr} {a_125 : Option Addr} {want_126 : Sl} {i_127 : Int} {w : World} (h : ∀ X : Cur g15, (∀ room_119 l_120 more_121 keeps_122 check_123 d_124 a_125 want_126 i_127 w, S17 K X room_119 l_120 more_121 keeps_122 check_123 d_124 a_125 want_126 i_127 w → X room_119 l_120 more_121 keeps_122 check_123 d_124 a_125 want_126 i_127 w) → X room_119 l_120 more_121 keeps_122 check_123 d_124 a_125 want_126 i_127 w) : L15 K room_119 l_120 more_121 keeps_122 check_123 d_124 a_125 want_126 i_127 w := fun X hX => h X fun room_119 l_120 more_121 keeps_122 check_123 d_124 a_125 want_126 i_127 w hb => hX (room_119, l_120, more_121, keeps_122, check_123, d_124, a_125, want_126, i_127, ()) w hb
theorem B18 (Kv : Value → World → Prop) : OkT pr false none 152 g15 (L15 (Kt Kv)) (tl 1 (s1 (tl 6 bd))) (P13 Kv) := ok_block 0 (by kernel_rfl) (L15_ok Kv)
@[reducible] def g19 : List SE := [.v 0 (.int .i64), .v 1 .sl, .v 2 .sl, .v 3 .sl, .v 4 .bool, .v 11 .ptr, .v 12 .ptr, .v 15 .sl]
def S19 (K : KT) (room_156 : Int) (l_157 : Sl) (more_158 : Sl) (keeps_159 : Sl) (check_160 : Bool) (d_161 : Option Addr) (a_162 : Option Addr) (want_163 : Sl) (w : World) : Prop :=
  L15 K room_156 l_157 more_158 keeps_159 check_160 d_161 a_162 want_163 (0 : Int) w
theorem S19_ok (Kv : Value → World → Prop) : OkT pr false none 152 g19 (S19 (Kt Kv)) (s1 (tl 6 bd)) (P13 Kv) := ok_group mixed FOk_ 1 (B18 Kv) fun v ρ w => by kernel_rfl
theorem Q20 (Kv : Value → World → Prop) : OkT pr false none 152 g19 (S19 (Kt Kv)) (tl 6 bd) (P1 Kv) := ok_seq (by kernel_rfl) (S12_ok Kv) (S19_ok Kv)
end tocsinlaw07_WalCrash
def tocsinlaw07_WalCrash (room_2 : Int) (l_3 : Sl) (more_4 : Sl) (keeps_5 : Sl) (check_6 : Bool) (w : World) (K : tocsinlaw07_WalCrash.KT) : Prop :=
  C.tocsinref01_Count room_2 (100 : Int) w fun n164 w165 => C.disk_New w165 fun p166 w167 => C.wal_Open p166 (⟨#[119]⟩ : ByteArray) (IntKind.i64.wrap ((16 : Int) + n164)) w167 fun p168 l169 n170 w171 => G.cond (n170 != (0 : Int)) (K false w171) (G.cond p168.isNone (K false w171) (tocsinlaw07_WalCrash.S19 K (IntKind.i64.wrap ((16 : Int) + n164)) l_3 more_4 keeps_5 check_6 p166 p168 nilS w171))
def tocsinlaw07_WalCrash.cl : CL := fun args K w => match args with
  | [.int .i64 x0, .slice x1_a x1_n x1_c, .slice x2_a x2_n x2_c, .slice x3_a x3_n x3_c, .bool x4] => C.tocsinlaw07_WalCrash x0 ⟨x1_a, x1_n, x1_c⟩ ⟨x2_a, x2_n, x2_c⟩ ⟨x3_a, x3_n, x3_c⟩ x4 w (tocsinlaw07_WalCrash.Kt K)
  | _ => False
theorem tocsinlaw07_WalCrash.clok : OkC pr 4 tocsinlaw07_WalCrash.cl := by
  intro args K w h
  unfold tocsinlaw07_WalCrash.cl at h
  split at h
  · exact calls_group false mixed tocsinlaw07_WalCrash.FOk_ tocsinlaw07_WalCrash.fn rfl 6 (tocsinlaw07_WalCrash.Q20 K) (Eq.mp (by kernel_rfl) h)
  · exact h.elim

/-! tocsin/tocsinlaw07.WalChecked -/
namespace tocsinlaw07_WalChecked
abbrev KT := Bool → World → Prop
def Kt (Kv : Value → World → Prop) : KT := fun b1 w => Kv (.bool b1) w
noncomputable def bd : Code := bdy Tryd.f5
theorem fn : FnOk pr 5 109 Tryd.f5 := ⟨Tryd.func5, by kernel_rfl, Tryd.ntmps5, by kernel_rfl, by kernel_rfl⟩
def F : Clee := ofL [(8, C.disk_New.cl), (9, C.wal_Open.cl), (10, C.wal_Log_Append.cl), (11, C.tocsinref01_SameAll.cl), (12, C.tocsinlaw07_all.cl), (14, C.tocsinlaw07_known.cl), (15, C.wal_Log_Checkpoint.cl)]
theorem FOk_ : FOk pr F := FOk_cons C.disk_New.clok (FOk_cons C.wal_Open.clok (FOk_cons C.wal_Log_Append.clok (FOk_cons C.tocsinref01_SameAll.clok (FOk_cons C.tocsinlaw07_all.clok (FOk_cons C.tocsinlaw07_known.clok (FOk_cons C.wal_Log_Checkpoint.clok (FOk_nil)))))))
def P1 (Kv : Value → World → Prop) : Post := bodyK false pr 109 Tryd.f5 Kv
@[reducible] def g2 : List SE := [.v 7 .ptr, .v 8 .ptr, .v 13 .sl]
def S2 (K : KT) (d_5 : Option Addr) (a_6 : Option Addr) (want_7 : Sl) (w : World) : Prop :=
  C.wal_Open d_5 (⟨#[119]⟩ : ByteArray) (50 : Int) w fun p8 l9 n10 w11 => G.cond (n10 == (0 : Int)) (C.tocsinref01_SameAll l9 want_7 w11 fun b12 w13 => G.cond b12 (C.tocsinlaw07_all a_6 (0 : Int) w13 fun l14 w15 => C.tocsinref01_SameAll l14 want_7 w15 fun b16 w17 => G.cond b16 (C.tocsinlaw07_known w17 fun b18 w19 => K b18 w19) (K false w17)) (K false w13)) (K false w11)
theorem S2_ok (Kv : Value → World → Prop) : OkT pr false none 109 g2 (S2 (Kt Kv)) (s2 (tl 4 (s2 (tl 4 bd)))) (P1 Kv) := ok_last mixed FOk_ fun v ρ w => by kernel_rfl
def P3 (Kv : Value → World → Prop) : Post := next (get g2 (S2 (Kt Kv))) (P1 Kv)
def P4 (Kv : Value → World → Prop) : Post := inBlock 2 (P3 Kv)
@[reducible] def g5 : List SE := [.v 2 .sl, .v 7 .ptr, .v 8 .ptr, .v 13 .sl, .v 14 (.int .i64)]
def P6 (Kv : Value → World → Prop) (kc5 : Cur g5) : Post := next (get g5 kc5) (P4 Kv)
def S7 (K : KT) (kc5 : Cur g5) (more_30 : Sl) (d_31 : Option Addr) (a_32 : Option Addr) (want_33 : Sl) (i_34 : Int) (w : World) : Prop :=
  G.cond (decide (i_34 < ((more_30.n : Nat) : Int))) (G.cond (decide (i_34 < (40 : Int))) (G.ix more_30.a more_30.n i_34 1 fun p35 => G.cSl p35 w fun l36 => C.wal_Log_Append a_32 l36 w fun n37 w38 => G.cond (n37 == (0 : Int)) (G.ix more_30.a more_30.n i_34 1 fun p39 => G.cSl p39 w38 fun l40 => G.new (.cells #[l40.v] 31) w38 fun p41 w42 => G.runSl pr (Builtin.append_ #[22, 22] 22 #[want_33.v, (Sl.v (⟨some p41, 1, 1⟩ : Sl))]) w42 fun l43 w44 => kc5 more_30 d_31 a_32 l43 (IntKind.i64.wrap (i_34 + (1 : Int))) w44) (kc5 more_30 d_31 a_32 want_33 (IntKind.i64.wrap (i_34 + (1 : Int))) w38)) (S2 K d_31 a_32 want_33 w)) (S2 K d_31 a_32 want_33 w)
theorem S7_ok (Kv : Value → World → Prop) (kc5 : Cur g5) : OkT pr false none 109 g5 (S7 (Kt Kv) kc5) (lp (blk (tl 1 (s1 (tl 4 (s2 (tl 4 bd))))))) (P6 Kv kc5) := ok_last mixed FOk_ fun v ρ w => by kernel_rfl
def L5 (K : KT) : Cur g5 := loopC g5 (S7 K)
theorem L5_ok (Kv : Value → World → Prop) : OkT pr false none 109 g5 (L5 (Kt Kv)) (blk (tl 1 (s1 (tl 4 (s2 (tl 4 bd)))))) (P4 Kv) := ok_loop (B := S7 (Kt Kv)) (by kernel_rfl) fun kc => S7_ok Kv kc
theorem L5_ind {K : KT} {more_20 : Sl} {d_21 : Option Addr} {a_22 : Option Addr} {want_23 : Sl} {i_24 : Int} {w : World} (h : ∀ X : Cur g5, (∀ more_20 d_21 a_22 want_23 i_24 w, S7 K X more_20 d_21 a_22 want_23 i_24 w → X more_20 d_21 a_22 want_23 i_24 w) → X more_20 d_21 a_22 want_23 i_24 w) : L5 K more_20 d_21 a_22 want_23 i_24 w := fun X hX => h X fun more_20 d_21 a_22 want_23 i_24 w hb => hX (more_20, d_21, a_22, want_23, i_24, ()) w hb
theorem B8 (Kv : Value → World → Prop) : OkT pr false none 109 g5 (L5 (Kt Kv)) (tl 1 (s1 (tl 4 (s2 (tl 4 bd))))) (P3 Kv) := ok_block 2 (by kernel_rfl) (L5_ok Kv)
@[reducible] def g9 : List SE := [.v 2 .sl, .v 7 .ptr, .v 8 .ptr, .v 13 .sl]
def S9 (K : KT) (more_45 : Sl) (d_46 : Option Addr) (a_47 : Option Addr) (want_48 : Sl) (w : World) : Prop :=
  L5 K more_45 d_46 a_47 want_48 (0 : Int) w
theorem S9_ok (Kv : Value → World → Prop) : OkT pr false none 109 g9 (S9 (Kt Kv)) (s1 (tl 4 (s2 (tl 4 bd)))) (P3 Kv) := ok_group mixed FOk_ 1 (B8 Kv) fun v ρ w => by kernel_rfl
theorem Q10 (Kv : Value → World → Prop) : OkT pr false none 109 g9 (S9 (Kt Kv)) (tl 4 (s2 (tl 4 bd))) (P1 Kv) := ok_seq (by kernel_rfl) (S2_ok Kv) (S9_ok Kv)
@[reducible] def g11 : List SE := [.v 1 .sl, .v 2 .sl, .v 7 .ptr, .v 8 .ptr]
def S11 (K : KT) (m_49 : Sl) (more_50 : Sl) (d_51 : Option Addr) (a_52 : Option Addr) (w : World) : Prop :=
  C.tocsinlaw07_all a_52 (0 : Int) w fun l53 w54 => C.wal_Log_Checkpoint a_52 m_49 w54 fun n55 w56 => G.cond (n55 == (0 : Int)) (G.runSl pr (Builtin.append_ #[22, 22] 22 #[nilS.v, m_49.v]) w56 fun l57 w58 => S9 K more_50 d_51 a_52 l57 w58) (C.tocsinlaw07_all a_52 (0 : Int) w56 fun l59 w60 => C.tocsinref01_SameAll l59 l53 w60 fun b61 w62 => G.cond (!b61) (K false w62) (S9 K more_50 d_51 a_52 l53 w62))
theorem S11_ok (Kv : Value → World → Prop) : OkT pr false none 109 g11 (S11 (Kt Kv)) (s2 (tl 4 bd)) (P1 Kv) := ok_group mixed FOk_ 4 (Q10 Kv) fun v ρ w => by kernel_rfl
def P12 (Kv : Value → World → Prop) : Post := next (get g11 (S11 (Kt Kv))) (P1 Kv)
def P13 (Kv : Value → World → Prop) : Post := inBlock 0 (P12 Kv)
@[reducible] def g14 : List SE := [.v 0 .sl, .v 1 .sl, .v 2 .sl, .v 7 .ptr, .v 8 .ptr, .v 11 (.int .i64)]
def P15 (Kv : Value → World → Prop) (kc14 : Cur g14) : Post := next (get g14 kc14) (P13 Kv)
def S16 (K : KT) (kc14 : Cur g14) (l_75 : Sl) (m_76 : Sl) (more_77 : Sl) (d_78 : Option Addr) (a_79 : Option Addr) (i_80 : Int) (w : World) : Prop :=
  G.cond (decide (i_80 < ((l_75.n : Nat) : Int))) (G.cond (decide (i_80 < (40 : Int))) (G.ix l_75.a l_75.n i_80 1 fun p81 => G.cSl p81 w fun l82 => C.wal_Log_Append a_79 l82 w fun n83 w84 => kc14 l_75 m_76 more_77 d_78 a_79 (IntKind.i64.wrap (i_80 + (1 : Int))) w84) (S11 K m_76 more_77 d_78 a_79 w)) (S11 K m_76 more_77 d_78 a_79 w)
theorem S16_ok (Kv : Value → World → Prop) (kc14 : Cur g14) : OkT pr false none 109 g14 (S16 (Kt Kv) kc14) (lp (blk (tl 1 (s1 (tl 4 bd))))) (P15 Kv kc14) := ok_last mixed FOk_ fun v ρ w => by kernel_rfl
def L14 (K : KT) : Cur g14 := loopC g14 (S16 K)
theorem L14_ok (Kv : Value → World → Prop) : OkT pr false none 109 g14 (L14 (Kt Kv)) (blk (tl 1 (s1 (tl 4 bd)))) (P13 Kv) := ok_loop (B := S16 (Kt Kv)) (by kernel_rfl) fun kc => S16_ok Kv kc
theorem L14_ind {K : KT} {l_63 : Sl} {m_64 : Sl} {more_65 : Sl} {d_66 : Option Addr} {a_67 : Option Addr} {i_68 : Int} {w : World} (h : ∀ X : Cur g14, (∀ l_63 m_64 more_65 d_66 a_67 i_68 w, S16 K X l_63 m_64 more_65 d_66 a_67 i_68 w → X l_63 m_64 more_65 d_66 a_67 i_68 w) → X l_63 m_64 more_65 d_66 a_67 i_68 w) : L14 K l_63 m_64 more_65 d_66 a_67 i_68 w := fun X hX => h X fun l_63 m_64 more_65 d_66 a_67 i_68 w hb => hX (l_63, m_64, more_65, d_66, a_67, i_68, ()) w hb
theorem B17 (Kv : Value → World → Prop) : OkT pr false none 109 g14 (L14 (Kt Kv)) (tl 1 (s1 (tl 4 bd))) (P12 Kv) := ok_block 0 (by kernel_rfl) (L14_ok Kv)
@[reducible] def g18 : List SE := [.v 0 .sl, .v 1 .sl, .v 2 .sl, .v 7 .ptr, .v 8 .ptr]
def S18 (K : KT) (l_85 : Sl) (m_86 : Sl) (more_87 : Sl) (d_88 : Option Addr) (a_89 : Option Addr) (w : World) : Prop :=
  L14 K l_85 m_86 more_87 d_88 a_89 (0 : Int) w
theorem S18_ok (Kv : Value → World → Prop) : OkT pr false none 109 g18 (S18 (Kt Kv)) (s1 (tl 4 bd)) (P12 Kv) := ok_group mixed FOk_ 1 (B17 Kv) fun v ρ w => by kernel_rfl
theorem Q19 (Kv : Value → World → Prop) : OkT pr false none 109 g18 (S18 (Kt Kv)) (tl 4 bd) (P1 Kv) := ok_seq (by kernel_rfl) (S11_ok Kv) (S18_ok Kv)
end tocsinlaw07_WalChecked
def tocsinlaw07_WalChecked (l_2 : Sl) (m_3 : Sl) (more_4 : Sl) (w : World) (K : tocsinlaw07_WalChecked.KT) : Prop :=
  C.disk_New w fun p90 w91 => C.wal_Open p90 (⟨#[119]⟩ : ByteArray) (50 : Int) w91 fun p92 l93 n94 w95 => G.cond (n94 != (0 : Int)) (K false w95) (G.cond p92.isNone (K false w95) (tocsinlaw07_WalChecked.S18 K l_2 m_3 more_4 p90 p92 w95))
def tocsinlaw07_WalChecked.cl : CL := fun args K w => match args with
  | [.slice x0_a x0_n x0_c, .slice x1_a x1_n x1_c, .slice x2_a x2_n x2_c] => C.tocsinlaw07_WalChecked ⟨x0_a, x0_n, x0_c⟩ ⟨x1_a, x1_n, x1_c⟩ ⟨x2_a, x2_n, x2_c⟩ w (tocsinlaw07_WalChecked.Kt K)
  | _ => False
theorem tocsinlaw07_WalChecked.clok : OkC pr 5 tocsinlaw07_WalChecked.cl := by
  intro args K w h
  unfold tocsinlaw07_WalChecked.cl at h
  split at h
  · exact calls_group false mixed tocsinlaw07_WalChecked.FOk_ tocsinlaw07_WalChecked.fn rfl 4 (tocsinlaw07_WalChecked.Q19 K) (Eq.mp (by kernel_rfl) h)
  · exact h.elim

/-! tocsin/tocsinlaw07.WalNil -/
namespace tocsinlaw07_WalNil
abbrev KT := Bool → World → Prop
def Kt (Kv : Value → World → Prop) : KT := fun b1 w => Kv (.bool b1) w
noncomputable def bd : Code := bdy Tryd.f6
theorem fn : FnOk pr 6 67 Tryd.f6 := ⟨Tryd.func6, by kernel_rfl, Tryd.ntmps6, by kernel_rfl, by kernel_rfl⟩
def F : Clee := ofL [(9, C.wal_Open.cl), (10, C.wal_Log_Append.cl), (12, C.tocsinlaw07_all.cl), (13, C.wal_Log_Len.cl), (14, C.tocsinlaw07_known.cl), (15, C.wal_Log_Checkpoint.cl), (16, C.wal_Log_Sync.cl), (18, C.wal_Log_Segments.cl)]
theorem FOk_ : FOk pr F := FOk_cons C.wal_Open.clok (FOk_cons C.wal_Log_Append.clok (FOk_cons C.tocsinlaw07_all.clok (FOk_cons C.wal_Log_Len.clok (FOk_cons C.tocsinlaw07_known.clok (FOk_cons C.wal_Log_Checkpoint.clok (FOk_cons C.wal_Log_Sync.clok (FOk_cons C.wal_Log_Segments.clok (FOk_nil))))))))
def P1 (Kv : Value → World → Prop) : Post := bodyK false pr 67 Tryd.f6 Kv
end tocsinlaw07_WalNil
def tocsinlaw07_WalNil (b_2 : Sl) (name_3 : ByteArray) (room_4 : Int) (w : World) (K : tocsinlaw07_WalNil.KT) : Prop :=
  C.wal_Open none name_3 room_4 w fun p5 l6 n7 w8 => G.cond p5.isNone (G.cond (((l6.n : Nat) : Int) == (0 : Int)) (G.cond (n7 == (2 : Int)) (C.wal_Log_Append none b_2 w8 fun n9 w10 => G.cond (n9 == (2 : Int)) (C.wal_Log_Sync none w10 fun n11 w12 => G.cond (n11 == (2 : Int)) (G.new (.cells #[b_2.v] 31) w12 fun p13 w14 => C.wal_Log_Checkpoint none (⟨some p13, 1, 1⟩ : Sl) w14 fun n15 w16 => G.cond (n15 == (2 : Int)) (C.wal_Log_Segments none w16 fun l17 w18 => G.cond (((l17.n : Nat) : Int) == (0 : Int)) (C.wal_Log_Len none w18 fun n19 w20 => G.cond (n19 == (0 : Int)) (C.tocsinlaw07_all none (0 : Int) w20 fun l21 w22 => G.cond (((l21.n : Nat) : Int) == (0 : Int)) (C.tocsinlaw07_known w22 fun b23 w24 => K b23 w24) (K false w22)) (K false w20)) (K false w18)) (K false w16)) (K false w12)) (K false w10)) (K false w8)) (K false w8)) (K false w8)
def tocsinlaw07_WalNil.cl : CL := fun args K w => match args with
  | [.slice x0_a x0_n x0_c, .string x1, .int .i64 x2] => C.tocsinlaw07_WalNil ⟨x0_a, x0_n, x0_c⟩ x1 x2 w (tocsinlaw07_WalNil.Kt K)
  | _ => False
theorem tocsinlaw07_WalNil.clok : OkC pr 6 tocsinlaw07_WalNil.cl := by
  intro args K w h
  unfold tocsinlaw07_WalNil.cl at h
  split at h
  · exact calls_last false mixed tocsinlaw07_WalNil.FOk_ tocsinlaw07_WalNil.fn rfl (Eq.mp (by kernel_rfl) h)
  · exact h.elim
end C
end Go.Proofs.YtdaghggdmgbpnaaDoor
