/- Clean texts of Go functions, written by a program of this work (gen.py) off the loaded code, each shown to be what the code does. -/
import Derived.Test.YtfkpehcbijgmnaaGreatDoorCa
set_option linter.unusedVariables false
set_option maxRecDepth 100000
namespace Go.Proofs.YtfkpehcbijgmnaaGreatDoor
open Go Vm
namespace C
/-! tocsin/tocsinlaw21.AlertsPlays -/
namespace tocsinlaw21_AlertsPlays
abbrev KT := Bool → World → Prop
def Kt (Kv : Value → World → Prop) : KT := fun b1 w => Kv (.bool b1) w
noncomputable def bd : Code := bdy Tryz.f3
theorem fn : FnOk pr 3 85 Tryz.f3 := ⟨Tryz.func3, by kernel_rfl, Tryz.ntmps3, by kernel_rfl, by kernel_rfl⟩
def F : Clee := ofL [(4, C.alerts_New.cl), (5, C.tocsinref21_New.cl), (6, C.tocsinlaw21_known.cl), (7, C.alerts_Set_All.cl), (8, C.tocsinlaw21_step.cl), (9, C.alerts_Set_Len.cl), (10, C.tocsinref21_Same.cl), (11, C.tocsinlaw21_all.cl)]
theorem FOk_ : FOk pr F := FOk_cons C.alerts_New.clok (FOk_cons C.tocsinref21_New.clok (FOk_cons C.tocsinlaw21_known.clok (FOk_cons C.alerts_Set_All.clok (FOk_cons C.tocsinlaw21_step.clok (FOk_cons C.alerts_Set_Len.clok (FOk_cons C.tocsinref21_Same.clok (FOk_cons C.tocsinlaw21_all.clok (FOk_nil))))))))
def P1 (Kv : Value → World → Prop) : Post := bodyK false pr 85 Tryz.f3 Kv
@[reducible] def g2 : List SE := [.v 7 .ptr, .v 10 .sl]
def S2 (K : KT) (s_10 : Option Addr) (one_11 : Sl) (w : World) : Prop :=
  C.tocsinlaw21_all s_10 (1 : Int) w fun l12 w13 => C.tocsinref21_Same l12 one_11 w13 fun b14 w15 => G.cond b14 (C.tocsinlaw21_known w15 fun b16 w17 => K b16 w17) (K false w15)
theorem S2_ok (Kv : Value → World → Prop) : OkT pr false none 85 g2 (S2 (Kt Kv)) (tl 2 (s2 (tl 5 bd))) (P1 Kv) := ok_last mixed FOk_ fun v ρ w => by kernel_rfl
@[reducible] def g3 : List SE := [.v 7 .ptr, .v 8 .ptr]
def S3 (K : KT) (s_18 : Option Addr) (r_19 : Option Addr) (w : World) : Prop :=
  G.ptr r_19 fun p20 => G.cSl (p20.add 2) w fun l21 => G.cond (decide (((l21.n : Nat) : Int) > (1 : Int))) (G.slc l21 0 (1 : Int) 3 fun l22 => S2 K s_18 l22 w) (S2 K s_18 l21 w)
theorem S3_ok (Kv : Value → World → Prop) : OkT pr false none 85 g3 (S3 (Kt Kv)) (s2 (tl 5 bd)) (P1 Kv) := ok_group mixed FOk_ 2 (S2_ok Kv) fun v ρ w => by kernel_rfl
def P4 (Kv : Value → World → Prop) : Post := next (get g3 (S3 (Kt Kv))) (P1 Kv)
def P5 (Kv : Value → World → Prop) : Post := inBlock 0 (P4 Kv)
@[reducible] def g6 : List SE := [.v 2 .sl, .v 7 .ptr, .v 8 .ptr, .v 9 (.int .i64)]
def P7 (Kv : Value → World → Prop) (kc6 : Cur g6) : Post := next (get g6 kc6) (P5 Kv)
def S8 (K : KT) (kc6 : Cur g6) (script_31 : Sl) (s_32 : Option Addr) (r_33 : Option Addr) (i_34 : Int) (w : World) : Prop :=
  G.cond (decide (i_34 < ((script_31.n : Nat) : Int))) (G.ix script_31.a script_31.n i_34 6 fun p35 => G.cI .i64 p35 w.drew fun n36 => G.cI .i64 (p35.add 1) w.drew fun n37 => G.cI .i64 (p35.add 2) w.drew fun n38 => G.cSl (p35.add 3) w.drew fun l39 => G.cI .i64 (p35.add 4) w.drew fun n40 => G.cI .i64 (p35.add 5) w.drew fun n41 => C.tocsinlaw21_step s_32 r_33 n36 n37 n38 l39 n40 n41 w.drew fun b42 w43 => G.cond (!b42) (K false w43) (G.ptr r_33 fun p44 => G.cSl (p44.add 2) w43 fun l45 => C.alerts_Set_Len s_32 w43 fun n46 w47 => sameAt (p44.add 2) 1 w43 w47 ∧ (G.cond (n46 != ((l45.n : Nat) : Int)) (K false w47) (G.ptr r_33 fun p48 => G.cSl (p48.add 2) w47 fun l49 => C.tocsinlaw21_all s_32 (0 : Int) w47 fun l50 w51 => sameAt (p48.add 2) 1 w47 w51 ∧ (C.tocsinref21_Same l50 l49 w51 fun b52 w53 => G.cond (!b52) (K false w53) (kc6 script_31 s_32 r_33 (IntKind.i64.wrap (i_34 + (1 : Int))) w53)))))) (S3 K s_32 r_33 w)
theorem S8_ok (Kv : Value → World → Prop) (kc6 : Cur g6) : OkT pr false none 85 g6 (S8 (Kt Kv) kc6) (lp (blk (tl 1 (s1 (tl 5 bd))))) (P7 Kv kc6) := ok_last mixed FOk_ fun v ρ w => by kernel_rfl
def L6 (K : KT) : Cur g6 := loopC g6 (S8 K)
theorem L6_ok (Kv : Value → World → Prop) : OkT pr false none 85 g6 (L6 (Kt Kv)) (blk (tl 1 (s1 (tl 5 bd)))) (P5 Kv) := ok_loop (B := S8 (Kt Kv)) (by kernel_rfl) fun kc => S8_ok Kv kc
theorem L6_ind {K : KT} {script_23 : Sl} {s_24 : Option Addr} {r_25 : Option Addr} {i_26 : Int} {w : World} (h : ∀ X : Cur g6, (∀ script_23 s_24 r_25 i_26 w, S8 K X script_23 s_24 r_25 i_26 w → X script_23 s_24 r_25 i_26 w) → X script_23 s_24 r_25 i_26 w) : L6 K script_23 s_24 r_25 i_26 w := fun X hX => h X fun script_23 s_24 r_25 i_26 w hb => hX (script_23, s_24, r_25, i_26, ()) w hb
theorem B9 (Kv : Value → World → Prop) : OkT pr false none 85 g6 (L6 (Kt Kv)) (tl 1 (s1 (tl 5 bd))) (P4 Kv) := ok_block 0 (by kernel_rfl) (L6_ok Kv)
@[reducible] def g10 : List SE := [.v 2 .sl, .v 7 .ptr, .v 8 .ptr]
def S10 (K : KT) (script_54 : Sl) (s_55 : Option Addr) (r_56 : Option Addr) (w : World) : Prop :=
  L6 K script_54 s_55 r_56 (0 : Int) w
theorem S10_ok (Kv : Value → World → Prop) : OkT pr false none 85 g10 (S10 (Kt Kv)) (s1 (tl 5 bd)) (P4 Kv) := ok_group mixed FOk_ 1 (B9 Kv) fun v ρ w => by kernel_rfl
theorem Q11 (Kv : Value → World → Prop) : OkT pr false none 85 g10 (S10 (Kt Kv)) (tl 5 bd) (P1 Kv) := ok_seq (by kernel_rfl) (S3_ok Kv) (S10_ok Kv)
end tocsinlaw21_AlertsPlays
def tocsinlaw21_AlertsPlays (resolve_2 : Int) (most_3 : Int) (script_4 : Sl) (w : World) (K : tocsinlaw21_AlertsPlays.KT) : Prop :=
  C.alerts_New resolve_2 most_3 w fun p57 w58 => C.tocsinref21_New resolve_2 most_3 w58 fun p59 w60 => G.cond p57.isNone (G.cond p57.isNone (G.cond p59.isNone (C.tocsinlaw21_known w60 fun b61 w62 => K b61 w62) (K false w60)) (K false w60)) (G.cond p59.isNone (G.cond p57.isNone (G.cond p59.isNone (C.tocsinlaw21_known w60 fun b63 w64 => K b63 w64) (K false w60)) (K false w60)) (C.alerts_Set_All p57 w60 fun v65 w66 => G.isNilF v65 fun b67 => G.cond b67 (K false w66) (tocsinlaw21_AlertsPlays.S10 K script_4 p57 p59 w66)))
def tocsinlaw21_AlertsPlays.cl : CL := fun args K w => match args with
  | [.int .i64 x0, .int .i64 x1, .slice x2_a x2_n x2_c] => C.tocsinlaw21_AlertsPlays x0 x1 ⟨x2_a, x2_n, x2_c⟩ w (tocsinlaw21_AlertsPlays.Kt K)
  | _ => False
theorem tocsinlaw21_AlertsPlays.clok : OkC pr 3 tocsinlaw21_AlertsPlays.cl := by
  intro args K w h
  unfold tocsinlaw21_AlertsPlays.cl at h
  split at h
  · exact calls_group false mixed tocsinlaw21_AlertsPlays.FOk_ tocsinlaw21_AlertsPlays.fn rfl 5 (tocsinlaw21_AlertsPlays.Q11 K) (Eq.mp (by kernel_rfl) h)
  · exact h.elim
end C
end Go.Proofs.YtfkpehcbijgmnaaGreatDoor
