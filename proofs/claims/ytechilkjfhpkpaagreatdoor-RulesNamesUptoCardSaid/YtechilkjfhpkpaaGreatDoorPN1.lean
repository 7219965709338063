/- (several texts in one: Vm, VmOk, VmRun, VmLift, Mem, Num, Bytes, Shut, Chg, ErrN, ErrM, ErrL, ErrS, LayP, LayA, SortF, LayS, SortS) Own work. -/
import Derived.Deep.Draws
import Derived.OrdersHeld
import Derived.OrdersIn
import Derived.RangeFuncLeaves
import Derived.RangeFuncSeq
import Derived.RangeFuncOwn
import Derived.LoopN
import Derived.Laws.World
import Derived.Laws.Entries
import Derived.Tactics
import Derived.Laws.FloatArith
import Derived.KernelRfl
import Derived.Laws.StructEq
import Derived.Laws.Cells
import Derived.Scope
import Derived.Laws.Sem
import Derived.Below
import Derived.Laws.OwnMore
import Derived.Laws.MakeOwn
import Derived.Deep.AppendLies
import Derived.Maps.AppendAt
import Derived.Lib.ConvBytes
import Derived.Test.YtechilkjfhpkpaaGreatDoorProg
import Derived.Test.YtechilkjfhpkpaaGreatDoorRows
import Derived.Carry
import Derived.OpenShut
import Derived.ChangeSlices
import Derived.Deep.DeepHandedRow
import Derived.Deep.DeepWitnessRowRef
import Derived.Lib.LaidTab
import Derived.WalkKit
import Derived.LaidEql
import Derived.Stop.Asserts
import Derived.RowKitTokens
import Derived.Shelf.SlSortCmp.NoneTotal
import Derived.Shelf.SlSortCmp.WholeK
import Derived.Shelf.SortM.Plain
import Derived.Shelf.SortM.SortNone
import Derived.Sort.OwnSorted
namespace Go.Proofs.YtechilkjfhpkpaaGreatDoor.Vm
open Go
structure Sl where
  a : Option Addr
  n : Nat
  c : Nat
@[reducible] def Sl.v (s : Sl) : Value := .slice s.a s.n s.c
namespace G
def cond (c : Bool) (X Y : Prop) : Prop := match c with | true => X | false => Y
def ptr (A : Option Addr) (K : Addr → Prop) : Prop := match A with | some a => K a | none => False
def cI (k : IntKind) (a : Addr) (w : World) (K : Int → Prop) : Prop := ∃ n, w.cell? a = some (.int k n) ∧ K n
def cB (a : Addr) (w : World) (K : Bool → Prop) : Prop := ∃ n, w.cell? a = some (.bool n) ∧ K n
def cS (a : Addr) (w : World) (K : ByteArray → Prop) : Prop := ∃ n, w.cell? a = some (.string n) ∧ K n
def cSl (a : Addr) (w : World) (K : Sl → Prop) : Prop := ∃ s : Sl, w.cell? a = some s.v ∧ K s
def cP (a : Addr) (w : World) (K : Option Addr → Prop) : Prop := ∃ n, w.cell? a = some (.pointer n) ∧ K n
def cM (a : Addr) (w : World) (K : Option Nat → Prop) : Prop := ∃ n, w.cell? a = some (.map n) ∧ K n
def cF (k : FloatKind) (a : Addr) (w : World) (K : Nat → Prop) : Prop := ∃ n, w.cell? a = some (.float k n) ∧ K n
def cV (a : Addr) (w : World) (K : Value → Prop) : Prop := ∃ v, w.cell? a = some v ∧ K v
def st (a : Addr) (v : Value) (w : World) (K : World → Prop) : Prop := (∃ u, w.cell? a = some u) ∧ w.frozen? a = false ∧ K (w.setCell a v)
def ix (A : Option Addr) (n : Nat) (i : Int) (size : Nat) (K : Addr → Prop) : Prop :=
  match A with | some a => (0 ≤ i ∧ i < (n : Int)) ∧ K (a.add (i.toNat * size)) | none => False
def nz (b : Int) (X : Prop) : Prop := b ≠ 0 ∧ X
def nn (b : Int) (X : Prop) : Prop := 0 ≤ b ∧ X
def ixS (s : ByteArray) (i : Int) (K : Int → Prop) : Prop := ∃ b : UInt8, 0 ≤ i ∧ s[i.toNat]? = some b ∧ K (b.toNat : Int)
def ixV (cs : Array Value) (i : Int) (len : Nat) (k : IntKind) (K : Int → Prop) : Prop := ∃ n, (0 ≤ i ∧ i < (len : Int)) ∧ cs[i.toNat]? = some (.int k n) ∧ K n
def cat (s t : ByteArray) (K : ByteArray → Prop) : Prop := ((s.size + t.size : Nat) : Int) ≤ IntKind.i64.max ∧ K (s ++ t)
def slc (s : Sl) (lo hi : Int) (size : Nat) (K : Sl → Prop) : Prop :=
  (0 ≤ lo ∧ lo ≤ hi ∧ hi ≤ (s.c : Int)) ∧ K ⟨if s.c = lo.toNat then s.a else s.a.map (·.add (lo.toNat * size)), hi.toNat - lo.toNat, s.c - lo.toNat⟩
def slc3 (s : Sl) (lo hi mx : Int) (size : Nat) (K : Sl → Prop) : Prop :=
  (0 ≤ lo ∧ lo ≤ hi ∧ hi ≤ mx ∧ mx ≤ (s.c : Int)) ∧ K ⟨if mx.toNat = lo.toNat then s.a else s.a.map (·.add (lo.toNat * size)), hi.toNat - lo.toNat, mx.toNat - lo.toNat⟩
def slcS (s : ByteArray) (lo hi : Int) (K : ByteArray → Prop) : Prop := (0 ≤ lo ∧ lo ≤ hi ∧ hi ≤ (s.size : Int)) ∧ K (s.extract lo.toNat hi.toNat)
def run (P : Program) (m : Sem Value) (w : World) (K : Value → World → Prop) : Prop := ∃ v w', m.run P w = .ok v w' ∧ K v w'
def runI (P : Program) (m : Sem Value) (k : IntKind) (w : World) (K : Int → World → Prop) : Prop := ∃ n w', m.run P w = .ok (.int k n) w' ∧ K n w'
def runSl (P : Program) (m : Sem Value) (w : World) (K : Sl → World → Prop) : Prop := ∃ (s : Sl) (w' : World), m.run P w = .ok s.v w' ∧ K s w'
def runM (P : Program) (m : Sem Value) (w : World) (K : Option Nat → World → Prop) : Prop := ∃ n w', m.run P w = .ok (.map n) w' ∧ K n w'
def runP (P : Program) (m : Sem Value) (w : World) (K : Option Addr → World → Prop) : Prop := ∃ n w', m.run P w = .ok (.pointer n) w' ∧ K n w'
def nxt (P : Program) (m : Sem Value) (w : World) (K0 : World → Prop) (K1 : Value → Value → World → Prop) : Prop := ∃ w', (m.run P w = .ok (.tuple #[.bool false]) w' ∧ K0 w') ∨ ∃ k x, m.run P w = .ok (.tuple #[.bool true, k, x]) w' ∧ K1 k x w'
def ent (P : Program) (m : Sem Value) (w : World) (K : Value → Value → Prop) : Prop := ∃ k x, m.run P w = .ok (.tuple #[k, x]) w ∧ K k x
def runE (P : Program) (m : Sem Value) (w : World) (K : Sl → Int → World → Prop) : Prop := ∃ (s : Sl) (n : Int) (w' : World), m.run P w = .ok (.tuple #[s.v, .int .i64 n]) w' ∧ K s n w'
def runU (P : Program) (m : Sem Unit) (w : World) (K : World → Prop) : Prop := ∃ w', m.run P w = .ok () w' ∧ K w'
def rdI (P : Program) (m : Sem Value) (k : IntKind) (w : World) (K : Int → Prop) : Prop := ∃ n, (∀ d, m.run P (w.drewN d) = .ok (.int k n) (w.drewN d)) ∧ K n
def rdS (P : Program) (m : Sem Value) (w : World) (K : ByteArray → Prop) : Prop := ∃ n, (∀ d, m.run P (w.drewN d) = .ok (.string n) (w.drewN d)) ∧ K n
def vI (k : IntKind) (x : Option Value) (K : Int → Prop) : Prop := ∃ n, x = some (.int k n) ∧ K n
def vB (x : Option Value) (K : Bool → Prop) : Prop := ∃ n, x = some (.bool n) ∧ K n
def vS (x : Option Value) (K : ByteArray → Prop) : Prop := ∃ n, x = some (.string n) ∧ K n
def vSl (x : Option Value) (K : Sl → Prop) : Prop := ∃ s : Sl, x = some s.v ∧ K s
def vP (x : Option Value) (K : Option Addr → Prop) : Prop := ∃ n, x = some (.pointer n) ∧ K n
def vM (x : Option Value) (K : Option Nat → Prop) : Prop := ∃ n, x = some (.map n) ∧ K n
def vF (k : FloatKind) (x : Option Value) (K : Nat → Prop) : Prop := ∃ n, x = some (.float k n) ∧ K n
def vV (x : Option Value) (K : Value → Prop) : Prop := ∃ v, x = some v ∧ K v
end G
@[reducible] def Wd (ro : Option Nat) : Fence := { fn := fun _ => True, depth := none, alive := false, round := ro }
abbrev Env := Nat → Value
def upd (ρ : Env) (d : Nat) (v : Value) : Env := fun i => bif Nat.beq i d then v else ρ i
def put (N : Nat) (ρ : Env) (d : Option Nat) (v : Value) : Env := match d with | some d => bif Nat.beq d N then ρ else upd ρ d v | none => ρ
def ev (N : Nat) (ρ : Env) : Operand → Value
  | .tmp t => bif Nat.blt t N then ρ t else undef
  | .const v => v
  | .global g => .pointer (some ⟨g, 0, none⟩)
  | .func f => .func (.func f) #[] #[]
def markD (v : Value) : Deferred := match v with | .int _ d => { target := .collected d.toNat, args := #[] } | _ => { target := .collected 0, args := #[] }
def marksOf (v : Value) : List Deferred := match v with | .agg cs => cs.toList.map markD | _ => []
def pushMark (v : Value) (D : Nat) : Value := match v with | .agg cs => .agg ⟨.int .i64 (D : Int) :: cs.toList⟩ | _ => .agg ⟨[.int .i64 (D : Int)]⟩
def marksL : List Value → World → (World → Prop) → Prop
  | [], w, K => K w
  | v :: r, w, K => match v with
    | .int _ d => w.heap[d.toNat]? = some (.deferred (some [])) ∧ marksL r (w.putObj d.toNat (.deferred none)) K
    | _ => False
def G.marks (v : Value) (w : World) (K : World → Prop) : Prop := match v with | .agg cs => marksL cs.toList w K | _ => K w
theorem marksOf_push (v : Value) (D : Nat) : marksOf (pushMark v D) = { target := .collected D, args := #[] } :: marksOf v := by
  cases v <;> simp [marksOf, pushMark, markD]
structure Rel (M : Bool) (N : Nat) (a : Act) (ρ : Env) : Prop where
  size : a.tmps.size = N
  defers : a.defers = bif M then marksOf (ρ N) else []
  get : ∀ i, i < N → a.tmps.getD i undef = ρ i
theorem Rel.eval {M : Bool} {N : Nat} {a : Act} {ρ : Env} (h : Rel M N a ρ) (x : Operand) : a.eval x = ev N ρ x := by
  cases x with
  | tmp t =>
    simp only [Act.eval, ev]
    by_cases ht : t < N
    · rw [h.get t ht]
      have : Nat.blt t N = true := by simpa [Nat.blt_eq] using ht
      rw [this]; rfl
    · have h1 : Nat.blt t N = false := by
        cases hb : Nat.blt t N
        · rfl
        · exact absurd (Nat.blt_eq.mp hb) ht
      rw [h1]
      have := h.size
      simp [Array.getD, this, ht]
  | const v => rfl
  | global g => rfl
  | func f => rfl
theorem Rel.evals {M : Bool} {N : Nat} {a : Act} {ρ : Env} (h : Rel M N a ρ) : a.eval = ev N ρ := funext h.eval
theorem upd_ne {ρ : Env} {d i : Nat} {v : Value} (h : i ≠ d) : upd ρ d v i = ρ i := by
  have hb : Nat.beq i d = false := by
    cases hb : Nat.beq i d
    · rfl
    · exact absurd (Nat.eq_of_beq_eq_true hb) h
  simp only [upd, hb, cond_false]
theorem upd_eq {ρ : Env} {d : Nat} {v : Value} : upd ρ d v d = v := by
  have hb : Nat.beq d d = true := by simp
  simp only [upd, hb, cond_true]
theorem Rel.put {M : Bool} {N : Nat} {a : Act} {ρ : Env} (h : Rel M N a ρ) (d : Option Nat) (v : Value) : Rel M N (a.put d v) (put N ρ d v) := by
  cases d with
  | none => exact h
  | some d =>
    by_cases hd : d = N
    · subst hd
      have hb : Nat.beq d d = true := by simp
      have hs := h.size
      refine ⟨by simpa [Act.put] using h.size, ?_, fun i hi => ?_⟩
      · simp only [Vm.put, hb, cond_true]; exact h.defers
      · simp only [Vm.put, hb, cond_true, Act.put]
        rw [← h.get i hi, Array.getD_eq_getD_getElem?, Array.getD_eq_getD_getElem?, Array.getElem?_setIfInBounds_ne (by omega)]
    · have hb : Nat.beq d N = false := by
        cases hb : Nat.beq d N
        · rfl
        · exact absurd (Nat.eq_of_beq_eq_true hb) hd
      simp only [Vm.put, hb, cond_false]
      refine ⟨by simpa [Act.put] using h.size, ?_, fun i hi => ?_⟩
      · rw [upd_ne (Ne.symm hd)]; exact h.defers
      · have hs := h.size
        have hg := h.get i hi
        simp only [Act.put]
        by_cases e : i = d
        · subst e
          rw [upd_eq]
          simp [Array.getD, hs, hi]
        · rw [upd_ne e, ← hg, Array.getD_eq_getD_getElem?, Array.getD_eq_getD_getElem?, Array.getElem?_setIfInBounds_ne (Ne.symm e)]
theorem Rel.plain {M : Bool} {N : Nat} {a : Act} {ρ : Env} (h : Rel M N a ρ) : Rel false N { a with defers := [] } ρ := ⟨h.size, rfl, h.get⟩
theorem upd_self {ρ : Env} {d : Nat} {v : Value} (h : ρ d = v) : upd ρ d v = ρ := by
  funext i
  by_cases e : i = d
  · subst e; rw [upd_eq, h]
  · rw [upd_ne e]
inductive LK where
  | int (k : IntKind) | bool | str | sl | ptr | map | fl (k : FloatKind) | raw | bad
def lk (P : Program) (t : TypeId) : LK :=
  match P.underlying t with
  | some (.int k) => .int k
  | some .bool => .bool
  | some .string => .str
  | some (.slice _) => .sl
  | some (.pointer _) => .ptr
  | some (.map _ _) => .map
  | some (.float k) => .fl k
  | some (.func _ _ _) => .raw
  | some (.interface _) => .raw
  | _ => .bad
def leaves (P : Program) : Nat → TypeId → List LK
  | 0, _ => [.bad]
  | d + 1, t =>
    match P.underlying t with
    | some (.struct fs) => fs.toList.flatMap fun f => leaves P d f.type
    | some (.array n e) => (List.replicate n (leaves P d e)).flatten
    | _ => [lk P t]
def rd (l : LK) (a : Addr) (w : World) (K : Value → Prop) : Prop :=
  match l with
  | .int k => G.cI k a w fun n => K (.int k n)
  | .bool => G.cB a w fun n => K (.bool n)
  | .str => G.cS a w fun n => K (.string n)
  | .sl => G.cSl a w fun s => K s.v
  | .ptr => G.cP a w fun n => K (.pointer n)
  | .map => G.cM a w fun n => K (.map n)
  | .fl k => G.cF k a w fun n => K (.float k n)
  | .raw => G.cV a w K
  | .bad => False
def rds (a : Addr) (w : World) : List LK → Nat → List Value → (List Value → Prop) → Prop
  | [], _, acc, K => K acc
  | l :: r, i, acc, K => rd l (a.add i) w fun v => rds a w r (i + 1) (acc ++ [v]) K
def rv (l : LK) (x : Option Value) (K : Value → Prop) : Prop :=
  match l with
  | .int k => G.vI k x fun n => K (.int k n)
  | .bool => G.vB x fun n => K (.bool n)
  | .str => G.vS x fun n => K (.string n)
  | .sl => G.vSl x fun s => K s.v
  | .ptr => G.vP x fun n => K (.pointer n)
  | .map => G.vM x fun n => K (.map n)
  | .fl k => G.vF k x fun n => K (.float k n)
  | .raw => G.vV x K
  | .bad => False
def rvs (cs : Array Value) (o : Nat) : List LK → Nat → List Value → (List Value → Prop) → Prop
  | [], _, acc, K => K acc
  | l :: r, i, acc, K => rv l cs[o + i]? fun v => rvs cs o r (i + 1) (acc ++ [v]) K
def isAggT (P : Program) (t : TypeId) : Bool :=
  match P.underlying t with
  | some (.struct _) => true
  | some (.array _ _) => true
  | some _ => false
  | none => true
def vcLoad (P : Program) (t : TypeId) (x : Value) (w : World) (K : Value → Prop) : Prop :=
  match x with
  | .pointer A => G.ptr A fun a =>
    match P.underlying t with
    | none => False
    | some _ => bif isAggT P t then bif Nat.beq (leaves P 8 t).length (P.cellsOf t) then rds a w (leaves P 8 t) 0 [] fun vs => K (.agg ⟨vs⟩) else False
      else rd (lk P t) a w K
  | _ => False
def G.one (v : Value) (K : Prop) : Prop := match v.oneCell' with | true => K | false => False
def sts (a : Addr) : List Value → Nat → World → (World → Prop) → Prop
  | [], _, w, K => K w
  | v :: r, i, w, K => match v.oneCell' with
    | true => G.st (a.add i) v w fun w' => sts a r (i + 1) w' K
    | false => False
def vcStore (P : Program) (t : TypeId) (x v : Value) (w : World) (K : World → Prop) : Prop :=
  match x with
  | .pointer A => G.ptr A fun a => bif (P.info? t).isSome then bif Nat.beq v.cells.size (P.cellsOf t) then sts a v.cells.toList 0 w K else False else False
  | _ => False
def vcIndexAddr (P : Program) (t : TypeId) (x i : Value) (K : Value → Prop) : Prop :=
  match i with
  | .int _ i =>
    match P.underlying t, x with
    | some (.slice e), .slice A n _ => bif (P.info? e).isSome then G.ix A n i (P.cellsOf e) fun a => K (.pointer (some a)) else False
    | some (.array n e), .pointer A => bif (P.info? e).isSome then G.ix A n i (P.cellsOf e) fun a => K (.pointer (some a)) else False
    | _, _ => False
  | _ => False
def pureOf (P : Program) {α : Type} : Sem α → Option α
  | .pure a => some a
  | .program k => pureOf P (k P)
  | .mark _ k => pureOf P k
  | _ => none
def genK (P : Program) (s : Sem Next) (K : Value → Prop) : Prop := match pureOf P s with | some (.value v) => K v | _ => False
def G.isNilF (v : Value) (K : Bool → Prop) : Prop := match v with | .nilFunc => K true | .func _ _ _ => K false | _ => False
def eqF (P : Program) (xs ys : Array Value) : List Field → Option Bool
  | [] => some true
  | f :: r => bif f.name == "_" then none else match eqF P xs ys r with
    | none => none
    | some b => match P.underlying f.type, xs[f.offset]?, ys[f.offset]? with
      | some (.int _), some (.int k a), some (.int k' c) => bif decide (k = k') then some ((a == c) && b) else none
      | some .bool, some (.bool a), some (.bool c) => some ((a == c) && b)
      | some .string, some (.string a), some (.string c) => some ((a.toList == c.toList) && b)
      | some (.float _), some (.float k a), some (.float k' c) => bif decide (k = k') then some (Op.floatEq k a c && b) else none
      | _, _, _ => none
def vcEqS (P : Program) (t : TypeId) (fs : Array Field) (xs ys : Array Value) (K : Bool → Prop) : Prop :=
  bif P.stoodInHeld t || P.eqGuardType P.depth t then False else match eqF P xs ys fs.toList with | some b => K b | none => False
def isFA (P : Program) (op : BinOp) (t : TypeId) : Bool := match P.underlying t with | some (.float _) => (match op with | .add | .sub | .mul | .quo => true | _ => false) | _ => false
def nanB (r : Nat) : Prop := (FloatKind.f64.decode r).isNaN = true ∧ r < 18446744073709551616
def G.fa (op : BinOp) (a b : Nat) (w : World) (K : Nat → World → Prop) : Prop := match floatBits op .f64 a b with | some r => K r w | none => ∀ r, nanB r → K r w.drew
def G.f2i (b : Nat) (k : IntKind) (K : Int → Prop) : Prop := ∃ n, floatToIntVal .f64 b k = some n ∧ K n
def G.whole (way : Ieee.Toward) (b : Nat) (K : Nat → Prop) : Prop := (FloatKind.f64.decode b).isNaN = false ∧ K (FloatKind.f64.encode ((FloatKind.f64.decode b).integral way))
def G.isNilI (v : Value) (K : Bool → Prop) : Prop := match v with | .nilIface => K true | .iface _ _ => K false | _ => False
def G.eqN (A B : Option Addr) (K : Bool → Prop) : Prop := match B with | none => K A.isNone | some _ => match A with | none => K false | some _ => False
def constY (o : Oper) : Bool := match o.op with | .binOp _ _ _ (.const _) _ => true | _ => false
def vcBin (P : Program) (o : Oper) (ρ : Operand → Value) (op : BinOp) (t : TypeId) (x y : Value) (K : Value → Prop) : Prop :=
  match op with
  | .quo => match x, y with | .int k a, .int k' b => bif decide (k = k') then G.nz b (K (.int k (k.wrap (a.tdiv b)))) else False | _, _ => genK P (execOp ρ o) K
  | .rem => match x, y with | .int k a, .int k' b => bif decide (k = k') then G.nz b (K (.int k (a.tmod b))) else False | _, _ => genK P (execOp ρ o) K
  | .shl => match x, y with | .int k a, .int _ b => G.nn b (K (.int k (k.wrap (a * 2 ^ (min b.toNat k.bits))))) | _, _ => False
  | .shr => match x, y with | .int k a, .int _ b => G.nn b (K (.int k (a.fdiv (2 ^ (min b.toNat k.bits))))) | _, _ => False
  | .add => match x, y with | .string s, .string t => G.cat s t fun r => K (.string r) | _, _ => genK P (execOp ρ o) K
  | .eql => match P.underlying t, x, y with
    | some (.slice _), .slice A _ _, .slice none _ _ => K (.bool A.isNone)
    | some (.pointer _), .pointer A, .pointer B => G.eqN A B fun b => K (.bool b)
    | some (.map _ _), .map A, .map none => K (.bool A.isNone)
    | some (.func _ _ _), f, .nilFunc => G.isNilF f fun b => K (.bool b)
    | some (.interface _), f, .nilIface => bif constY o then G.isNilI f fun b => K (.bool b) else False
    | some (.struct fs), .agg xs, .agg ys => vcEqS P t fs xs ys fun b => K (.bool b)
    | _, _, _ => genK P (execOp ρ o) K
  | .neq => match P.underlying t, x, y with
    | some (.slice _), .slice A _ _, .slice none _ _ => K (.bool !A.isNone)
    | some (.pointer _), .pointer A, .pointer B => G.eqN A B fun b => K (.bool !b)
    | some (.map _ _), .map A, .map none => K (.bool !A.isNone)
    | some (.func _ _ _), f, .nilFunc => G.isNilF f fun b => K (.bool !b)
    | some (.interface _), f, .nilIface => bif constY o then G.isNilI f fun b => K (.bool !b) else False
    | some (.struct fs), .agg xs, .agg ys => vcEqS P t fs xs ys fun b => K (.bool !b)
    | _, _, _ => genK P (execOp ρ o) K
  | _ => genK P (execOp ρ o) K
def boundOf (d : Int) (x : Option Value) : Option Int := match x with | none => some d | some (.int _ n) => some n | _ => none
def vcSlice (P : Program) (t : TypeId) (x : Value) (lo hi mx : Option Value) (K : Value → Prop) : Prop :=
  match P.underlying t, x with
  | some .string, .string s => match mx, boundOf 0 lo, boundOf s.size hi with
    | none, some l, some h => G.slcS s l h fun r => K (.string r)
    | _, _, _ => False
  | some (.slice e), .slice A n c => bif (P.info? e).isSome then (match mx with
    | none => match boundOf 0 lo, boundOf n hi with
      | some l, some h => G.slc ⟨A, n, c⟩ l h (P.cellsOf e) fun r => K r.v
      | _, _ => False
    | some (.int _ m) => match boundOf 0 lo, hi with
      | some l, some (.int _ h) => G.slc3 ⟨A, n, c⟩ l h m (P.cellsOf e) fun r => K r.v
      | _, _ => False
    | _ => False) else False
  | _, _ => False
def G.rd1 {α : Type} (P : Program) (m : Sem Value) (f : α → Value) (w : World) (K : α → Prop) : Prop := ∃ a, (∀ d, m.run P (w.drewN d) = .ok (f a) (w.drewN d)) ∧ K a
def G.rd2 {α : Type} (P : Program) (m : Sem Value) (f : α → Value) (w : World) (K : α → Bool → Prop) : Prop := ∃ a b, (∀ d, m.run P (w.drewN d) = .ok (.tuple #[f a, .bool b]) (w.drewN d)) ∧ K a b
def lkR {α : Type} (P : Program) (m : Sem Value) (f : α → Value) (ok : Bool) (w : World) (K : Value → Prop) : Prop :=
  bif ok then G.rd2 P m f w fun a b => K (.tuple #[f a, .bool b]) else G.rd1 P m f w fun a => K (f a)
def G.ag (v : Value) (n : Nat) (K : Array Value → Prop) : Prop := match v with | .agg cs => bif Nat.beq cs.size n then K cs else False | _ => False
def splitA (P : Program) (e : TypeId) (v : Value) (K : Value → Prop) : Prop := bif isAggT P e then G.ag v (leaves P 8 e).length fun cs => rvs cs 0 (leaves P 8 e) 0 [] fun vs => K (.agg ⟨vs⟩) else False
def vcLk (P : Program) (t : TypeId) (m : Sem Value) (ok : Bool) (w : World) (K : Value → Prop) : Prop :=
  match P.underlying t with
  | some (.map _ e) => (match lk P e with
    | .int k => lkR P m (fun n : Int => .int k n) ok w K
    | .bool => lkR P m (fun b : Bool => .bool b) ok w K
    | .str => lkR P m (fun b : ByteArray => .string b) ok w K
    | .sl => lkR P m Sl.v ok w K
    | .ptr => lkR P m (fun a : Option Addr => .pointer a) ok w K
    | .map => lkR P m (fun n : Option Nat => .map n) ok w K
    | .fl k => lkR P m (fun n : Nat => .float k n) ok w K
    | .bad => bif ok then G.rd2 P m (fun v : Value => v) w fun v b => splitA P e v fun v => K (.tuple #[v, .bool b]) else G.rd1 P m (fun v : Value => v) w fun v => splitA P e v K
    | _ => False)
  | _ => False
def vcR (P : Program) (N : Nat) (o : Oper) (ρ : Env) (w : World) (K : Value → Prop) : Prop :=
  match o.op with
  | .move x => K (ev N ρ x)
  | .assign x => K (ev N ρ x)
  | .pick c a b => match ev N ρ c with | .bool c => G.cond c (K (ev N ρ a)) (K (ev N ρ b)) | _ => False
  | .load t x => vcLoad P t (ev N ρ x) w K
  | .indexAddr t x i => vcIndexAddr P t (ev N ρ x) (ev N ρ i) K
  | .nilCheck x => match ev N ρ x with | .pointer A => G.ptr A fun a => K (.pointer (some a)) | _ => False
  | .binOp op t x y _ => vcBin P o (ev N ρ) op t (ev N ρ x) (ev N ρ y) K
  | .slice t x lo hi mx => vcSlice P t (ev N ρ x) (lo.map (ev N ρ)) (hi.map (ev N ρ)) (mx.map (ev N ρ)) K
  | .index t x i => match P.underlying t, ev N ρ x, ev N ρ i with
    | some .string, .string s, .int _ i => G.ixS s i fun b => K (.int .u8 b)
    | some (.array len e), .agg cs, .int _ i => (match P.underlying e, P.info? e with
      | some (.int k), some inf => bif Nat.beq inf.size 1 then G.ixV cs i len k fun n => K (.int k n) else False
      | some (.struct _), some inf => bif Nat.beq inf.size (leaves P 8 e).length && Nat.beq cs.size (len * inf.size) then (0 ≤ i ∧ i < (len : Int)) ∧ rvs cs (i.toNat * inf.size) (leaves P 8 e) 0 [] fun vs => K (.agg ⟨vs⟩) else False
      | _, _ => False)
    | _, _, _ => False
  | .convert s d x => match P.underlying s, P.underlying d, ev N ρ x with
    | some (.slice e), some .string, .slice A n c => (match P.underlying e with
      | some (.int .u8) => G.rdS P (Conv.bytesToString (.slice A n c)) w fun r => K (.string r)
      | _ => False)
    | some (.int _), some (.int k), .int _ n => K (.int k (k.wrap n))
    | some (.float _), some (.int k), .float .f64 b => G.f2i b k fun n => K (.int k n)
    | _, _, _ => genK P (execOp (ev N ρ) o) K
  | .fieldAddr t x f => match ev N ρ x with | .pointer A => G.ptr A fun a => (match pureOf P (Instr.fieldAt t (.pointer (some a)) f) with | some v => K v | none => False) | _ => False
  | .unOp _ _ _ | .extract _ _ | .field _ _ _ | .build _ _ | .makeInterface _ _ | .makeFunc _ _ _ => genK P (execOp (ev N ρ) o) K
  | .lookup t m k ok => vcLk P t (Instr.lookup t (ev N ρ m) (ev N ρ k) ok) ok w K
  | .call { callee := .builtin .len, args, argTypes } => match (argTypes[0]?).bind P.underlying, (args[0]?).map (ev N ρ) with
    | some .string, some (.string s) => K (.int .i64 s.size)
    | some (.slice _), some (.slice _ n _) => K (.int .i64 n)
    | some (.map _ _), some (.map _) => G.rdI P (Builtin.len_ argTypes o.type (args.map (ev N ρ))) .i64 w fun n => K (.int .i64 n)
    | _, _ => False
  | .call { callee := .builtin .min, .. } => genK P (execOp (ev N ρ) o) K
  | .call { callee := .builtin .max, .. } => genK P (execOp (ev N ρ) o) K
  | .call { callee := .builtin .cap, .. } => genK P (execOp (ev N ρ) o) K
  | _ => False
def sr (P : Program) {α : Type} : Sem α → World → (α → World → Prop) → Prop
  | .pure a, w, K => K a w
  | .program k, w, K => sr P (k P) w K
  | .mark _ k, w, K => sr P k w K
  | .new o k, w, K => sr P (k w.heap.size) (w.alloc o) K
  | _, _, _ => False
abbrev Clee := FuncId → List Value → (Value → World → Prop) → World → Prop
def G.isB (v : Value) (K : Bool → Prop) : Prop := match v with | .bool b => K b | _ => False
def G.isI (k : IntKind) (v : Value) (K : Int → Prop) : Prop := match v with | .int k' n => (match decide (k' = k) with | true => K n | false => False) | _ => False
def G.isF (v : Value) (K : Nat → Prop) : Prop := match v with | .float .f64 n => K n | _ => False
def decR (P : Program) (t : TypeId) (v : Value) (K : Value → Prop) : Prop :=
  match P.underlying t with
  | some .bool => G.isB v fun b => K (.bool b)
  | some (.float .f64) => G.isF v fun b => K (.float .f64 b)
  | some (.int k) => G.isI k v fun n => K (.int k n)
  | _ => K v
def G.yieldAt (P : Program) (l : Nat) (args : List Value) (w : World) (K : Value → World → Prop) : Prop := YieldAt (Wd none) 0 P l args.toArray w fun e w' => ∃ v, e = .returned v ∧ K v w'
def G.callV (P : Program) (F : Clee) (f : Value) (args : List Value) (w : World) (K : Value → World → Prop) : Prop :=
  match f with
  | .func (.func n) first captured => F n (first.toList ++ args ++ captured.toList) K w
  | .func (.yield l) first _ => G.yieldAt P l (first.toList ++ args) w K
  | _ => False
def G.callI (P : Program) (F : Clee) (v : Value) (name : String) (args : List Value) (w : World) (K : Value → World → Prop) : Prop :=
  match v with
  | .iface t x => (match pureOf P (method (P.types.size + Made.depth) t x name) with
    | some (f, r) => F f (r :: args) K w
    | none => False)
  | _ => False
def vcOp (P : Program) (F : Clee) (N : Nat) (o : Oper) (ρ : Env) (w : World) (K : Value → World → Prop) : Prop :=
  match o.op with
  | .store t x v => vcStore P t (ev N ρ x) (ev N ρ v) w (K undef)
  | .alloc _ | .box _ _ | .buildSlice _ _ _ => sr P (execOp (ev N ρ) o) w fun n w' => match n with | .value v => K v w' | _ => False
  | .makeSlice t l c => G.runSl P (Instr.makeSlice t (ev N ρ l) (ev N ρ c)) w fun s w' => K s.v w'
  | .makeMap t r => G.runM P (Instr.makeMap t (r.map (ev N ρ))) w fun n w' => K (.map n) w'
  | .range t x => G.runP P (Instr.range t (ev N ρ x)) w fun n w' => K (.pointer n) w'
  | .next it false => G.nxt P (Instr.next (ev N ρ it) false o.type) w (fun w' => K (.tuple #[.bool false]) w') fun k x w' => K (.tuple #[.bool true, k, x]) w'
  | .entry it => G.ent P (Instr.entry (ev N ρ it)) w fun k x => K (.tuple #[k, x]) w
  | .mapUpdate t m k x => G.runU P (Instr.mapUpdate t (ev N ρ m) (ev N ρ k) (ev N ρ x)) w (K undef)
  | .mapEntry t m k => G.runE P (Instr.mapEntry t (ev N ρ m) (ev N ρ k)) w fun s n w' => K (.tuple #[s.v, .int .i64 n]) w'
  | .entryStore t m s x => G.runU P (Instr.entryStore t (ev N ρ m) (ev N ρ s) (ev N ρ x)) w (K undef)
  | .convert s d x => match P.underlying s, P.underlying d with
    | some .string, some (.slice _) => G.runSl P (Go.convert s d (ev N ρ x)) w fun s w' => K s.v w'
    | some (.slice _), some (.slice _) => G.runSl P (Go.convert s d (ev N ρ x)) w fun s w' => K s.v w'
    | _, _ => vcR P N o ρ w fun v => K v w
  | .call { callee := .value f, args, .. } => G.callV P F (ev N ρ f) (args.toList.map (ev N ρ)) w fun v w' => decR P o.type v fun v => K v w'
  | .call { callee := .invoke r name, args, .. } => G.callI P F (ev N ρ r) name (args.toList.map (ev N ρ)) w fun v w' => decR P o.type v fun v => K v w'
  | .binOp op t x y _ => bif isFA P op t then (match ev N ρ x, ev N ρ y with | .float .f64 a, .float .f64 b => G.fa op a b w fun r w' => K (.float .f64 r) w' | _, _ => False) else vcR P N o ρ w fun v => K v w
  | .call { callee := .builtin .append, args, argTypes } => G.runSl P (Builtin.append_ argTypes o.type (args.map (ev N ρ))) w fun s w' => K s.v w'
  | .call { callee := .builtin .copy, args, argTypes } => G.runI P (Builtin.copy_ argTypes o.type (args.map (ev N ρ))) .i64 w fun n w' => K (.int .i64 n) w'
  | .call { callee := .builtin .delete, args, argTypes } => G.run P (Builtin.delete_ argTypes o.type (args.map (ev N ρ))) w K
  | .call { callee := .builtin .clear, args, argTypes } => G.run P (Builtin.clear_ argTypes o.type (args.map (ev N ρ))) w K
  | _ => vcR P N o ρ w fun v => K v w
def nth {α : Type} : List α → Nat → Option α
  | [], _ => none
  | x :: _, 0 => some x
  | _ :: r, n + 1 => nth r n
def guardK (N : Nat) (all : List Oper) (o : Oper) (ρ : Env) (X : Env → Bool → Prop) : Prop :=
  match o.guard with
  | none => X ρ true
  | some (j, b) => match (nth all j).bind (·.dst) with
    | none => X ρ false
    | some s => match ev N ρ (.tmp s) with
      | .bool c => G.cond c (X (upd ρ s (.bool true)) b) (X (upd ρ s (.bool false)) (!b))
      | _ => X ρ false
def isEntry (o : Oper) : Bool := match o.op with | .entry _ => true | _ => false
def fromEnt (all : List Oper) (o : Oper) : Bool := match o.op with
  | .extract (.tmp s) _ => all.any fun p => isEntry p && (match p.dst with | some d => Nat.beq d s | none => false)
  | _ => false
def vcDec (P : Program) (t : TypeId) (v : Value) (K : Value → Prop) : Prop :=
  match lk P t with
  | .int k => G.vI k (some v) fun n => K (.int k n)
  | .bool => G.vB (some v) fun n => K (.bool n)
  | .str => G.vS (some v) fun n => K (.string n)
  | .sl => G.vSl (some v) fun s => K s.v
  | .ptr => G.vP (some v) fun n => K (.pointer n)
  | .map => G.vM (some v) fun n => K (.map n)
  | .fl k => G.vF k (some v) fun n => K (.float k n)
  | .raw => K v
  | .bad => splitA P t v K
def vcOps (P : Program) (F : Clee) (N : Nat) (all : List Oper) : List Oper → Env → World → (Env → World → Prop) → Prop
  | [], ρ, w, K => K ρ w
  | o :: r, ρ, w, K => guardK N all o ρ fun ρ run =>
    bif run then bif fromEnt all o then genK P (execOp (ev N ρ) o) fun v => vcDec P o.type v fun v => vcOps P F N all r (put N ρ o.dst v) w K
      else vcOp P F N o ρ w fun v w' => vcOps P F N all r (put N ρ o.dst v) w' K else vcOps P F N all r (put N ρ o.dst undef) w K
def isPure (P : Program) (o : Oper) : Bool :=
  match o.op with
  | .move _ | .assign _ | .pick _ _ _ | .indexAddr _ _ _ | .nilCheck _ => true
  | .binOp op t _ _ _ => !isFA P op t
  | .slice _ _ _ _ _ | .index _ _ _ | .unOp _ _ _ | .extract _ _ | .field _ _ _ | .fieldAddr _ _ _ | .build _ _ | .makeInterface _ _ | .makeFunc _ _ _ => true
  | .convert s d _ => match P.underlying s, P.underlying d with | some (.int _), some (.int _) => true | some (.int _), some (.float _) => true | some (.float _), some (.float _) => true | some (.float _), some (.int _) => true | _, _ => false
  | .call { callee := .builtin .len, argTypes, .. } => match (argTypes[0]?).bind P.underlying with | some .string => true | some (.slice _) => true | _ => false
  | .call { callee := .builtin .min, .. } => true
  | .call { callee := .builtin .max, .. } => true
  | .call { callee := .builtin .cap, .. } => true
  | _ => false
def descL (ops : Array Oper) (a : Nat) : Nat → List Bool
  | 0 => []
  | k + 1 => let D := descL ops a k; D ++ [Nat.beq k a || (match ops[k]? with | some o => o.after.any (fun e => Region.binds .any e && D.getD e.on false) | none => false)]
abbrev Held := List (Nat × (World → Prop))
def sameAt (a : Addr) (n : Nat) (w w' : World) : Prop := w'.cell? a = w.cell? a ∧ ∀ i, i < n → w'.cell? (a.add i) = w.cell? (a.add i)
def cut (ops : Array Oper) (C : Held) (k : Nat) : Held := C.filter fun c => !((descL ops c.1 ops.size).getD k false)
def still (w : World) : Held → Prop → Prop
  | [], X => X
  | c :: r, X => c.2 w ∧ still w r X
def vcLoadH (P : Program) (t : TypeId) (x : Value) (w : World) (K : Value → (World → Prop) → Prop) : Prop :=
  match x with
  | .pointer A => G.ptr A fun a =>
    match P.underlying t with
    | none => False
    | some _ => bif isAggT P t then bif Nat.beq (leaves P 8 t).length (P.cellsOf t) then rds a w (leaves P 8 t) 0 [] fun vs => K (.agg ⟨vs⟩) (sameAt a (P.cellsOf t) w) else False
      else rd (lk P t) a w fun v => K v (sameAt a (P.cellsOf t) w)
  | _ => False
inductive Tr where
  | done
  | op (k : Nat) (r : Tr)
  | both (a b : Tr)
def isStrRead (P : Program) (o : Oper) : Bool := match o.op with
  | .convert s d _ => match P.underlying s, P.underlying d with | some (.slice _), some .string => true | _, _ => false
  | _ => false
def isHeld (P : Program) (o : Oper) : Bool := match o.op with | .load _ _ => true | _ => isStrRead P o || isPure P o
def vcHeld (P : Program) (N : Nat) (o : Oper) (ρ : Env) (w : World) (K : Value → Option (World → Prop) → Prop) : Prop :=
  match o.op with
  | .load t x => vcLoadH P t (ev N ρ x) w fun v T => K v (some T)
  | .convert s d x => match P.underlying s, P.underlying d, ev N ρ x with
    | some (.slice e), some .string, .slice A n c => (match P.underlying e with
      | some (.int .u8) => G.rdS P (Conv.bytesToString (.slice A n c)) w fun r => K (.string r) (some fun w' => (Conv.bytesToString (.slice A n c)).run P w' = .ok (.string r) w')
      | _ => False)
    | _, _, _ => bif isPure P o then vcR P N o ρ w fun v => K v none else False
  | _ => bif isPure P o then vcR P N o ρ w fun v => K v none else False
def addH (C : Held) (k : Nat) : Option (World → Prop) → Held | none => C | some T => C ++ [(k, T)]
def alts : List (Option Tr) → Option Tr
  | [] => none
  | [a] => a
  | a :: r => match a, alts r with | some x, some y => some (.both x y) | _, _ => none
def tree (P : Program) (ops : Array Oper) : Nat → Array Bool → Option Tr
  | 0, listed => match Region.ready .any ops listed with | [] => some .done | _ => none
  | f + 1, listed =>
    match Region.ready .any ops listed with
    | [] => some .done
    | r => match r.find? fun i => (match ops[i]? with | some o => isHeld P o | none => false) && Region.free .any ops listed i with
      | some i => (tree P ops f (listed.setIfInBounds i true)).map (Tr.op i)
      | none => alts (r.map fun k => (tree P ops f (listed.setIfInBounds k true)).map (Tr.op k))
def vcTr (P : Program) (F : Clee) (N : Nat) (ops : Array Oper) : Tr → Held → Env → World → (Env → World → Prop) → Prop
  | .done, _, ρ, w, K => K ρ w
  | .both x y, C, ρ, w, K => vcTr P F N ops x C ρ w K ∧ vcTr P F N ops y C ρ w K
  | .op k r, C, ρ, w, K => match nth ops.toList k with
    | none => False
    | some o => guardK N ops.toList o ρ fun ρ run =>
      bif run then bif isHeld P o then vcHeld P N o ρ w fun v T => vcTr P F N ops r (addH C k T) (put N ρ o.dst v) w K
        else vcOp P F N o ρ w fun v w' => still w' (cut ops C k) (vcTr P F N ops r (cut ops C k) (put N ρ o.dst v) w' K)
      else vcTr P F N ops r C (put N ρ o.dst undef) w K
def calm (ops : Array Oper) : Bool := Region.noSelect ops && ops.toList.all fun o => match o.op with | .defer _ => false | _ => true
def treeOf (P : Program) (ops : Array Oper) : Option Tr := bif calm ops then tree P ops ops.size (Array.replicate ops.size false) else none
abbrev Post := Exit → Env → World → Prop
def next (k : Env → World → Prop) (K : Post) : Post := fun e ρ w => match e with | .normal => k ρ w | e => K e ρ w
def inBlock (id : Nat) (K : Post) : Post := fun e ρ w => match e with | .exit i => (bif Nat.beq i id then K .normal ρ w else K (.exit i) ρ w) | e => K e ρ w
def noG (K : Post) : Post := fun e ρ w => match e with | .goto _ => False | e => K e ρ w
def vc (P : Program) (F : Clee) (N : Nat) : Code → Post → Env → World → Prop
  | .skip, K, ρ, w => K .normal ρ w
  | .region _ ops false, K, ρ, w => bif calm ops then vcOps P F N ops.toList ops.toList ρ w (K .normal) else False
  | .region _ ops true, K, ρ, w => match treeOf P ops with
    | some x => vcTr P F N ops x [] ρ w.drew (K .normal)
    | none => False
  | .seq x y, K, ρ, w => vc P F N x (next (vc P F N y K) K) ρ w
  | .cond c x y, K, ρ, w => match ev N ρ c with
    | .bool b => match c with
      | .tmp s => G.cond b (vc P F N x K (upd ρ s (.bool true)) w) (vc P F N y K (upd ρ s (.bool false)) w)
      | _ => G.cond b (vc P F N x K ρ w) (vc P F N y K ρ w)
    | _ => False
  | .block id c, K, ρ, w => vc P F N c (inBlock id K) ρ w
  | .scope c, K, ρ, w => vc P F N c (noG K) ρ w
  | .exit id, K, ρ, w => K (.exit id) ρ w
  | .label _, K, ρ, w => K .normal ρ w
  | .ret, K, ρ, w => K .ret ρ w
  | .goto l, K, ρ, w => K (.goto l) ρ w
  | _, _, _, _ => False
def resL (P : Program) (N : Nat) : List ResultVar → List Value → Env → World → (Value → World → Prop) → Prop
  | [], [v], _, w, K => K v w
  | [], vs, _, w, K => K (.tuple ⟨vs⟩) w
  | .tmp a :: r, vs, ρ, w, K => resL P N r (vs ++ [ev N ρ (.tmp a)]) ρ w K
  | .cell a t :: r, vs, ρ, w, K => vcLoad P t (ev N ρ (.tmp a)) w fun v => resL P N r (vs ++ [v]) ρ w K
def resK (P : Program) (N : Nat) (rs : List ResultVar) (ρ : Env) (w : World) (K : Value → World → Prop) : Prop := resL P N rs [] ρ w K
def bodyK (M : Bool) (P : Program) (N : Nat) (fn : Func) (K : Value → World → Prop) : Post := fun e ρ w =>
  match e with
  | .normal => bif M then G.marks (ρ N) w fun w => resK P N fn.results.toList ρ w K else resK P N fn.results.toList ρ w K
  | .ret => bif M then G.marks (ρ N) w fun w => resK P N fn.results.toList ρ w K else resK P N fn.results.toList ρ w K
  | _ => False
def args0 (args : List Value) : Env := fun i => (nth args i).getD undef
end Go.Proofs.YtechilkjfhpkpaaGreatDoor.Vm

namespace Go.Proofs.YtechilkjfhpkpaaGreatDoor.Vm
open Go
section
variable {P : Program}
theorem pureOf_run {α : Type} {m : Sem α} {a : α} (h : pureOf P m = some a) (w : World) : m.run P w = .ok a w := by
  induction m with
  | pure b => simp only [pureOf, Option.some.injEq] at h; subst h; rfl
  | program k ih => simp only [pureOf] at h; simp only [Sem.run]; exact ih P h
  | mark m k ih => simp only [pureOf] at h; simp only [Sem.run]; exact ih h
  | _ => simp [pureOf] at h
theorem sr_run {α : Type} {m : Sem α} {w : World} {K : α → World → Prop} (h : sr P m w K) : ∃ a w', m.run P w = .ok a w' ∧ K a w' := by
  induction m generalizing w with
  | pure b => exact ⟨b, w, rfl, h⟩
  | program k ih => simp only [sr] at h; simp only [Sem.run]; exact ih P h
  | mark m k ih => simp only [sr] at h; simp only [Sem.run]; exact ih h
  | new o k ih => simp only [sr] at h; simp only [Sem.run]; exact ih _ h
  | _ => simp [sr] at h
theorem ptr_some {A : Option Addr} {K : Addr → Prop} (h : G.ptr A K) : ∃ a, A = some a ∧ K a := by
  cases A with
  | none => exact h.elim
  | some a => exact ⟨a, rfl, h⟩
theorem rd_cell {l : LK} {a : Addr} {w : World} {K : Value → Prop} (h : rd l a w K) : ∃ v, w.cell? a = some v ∧ K v := by
  cases l <;> simp only [rd, G.cI, G.cB, G.cS, G.cSl, G.cP, G.cM, G.cF, G.cV] at h
  all_goals first
    | exact h.elim
    | (obtain ⟨n, hc, hk⟩ := h; exact ⟨_, hc, hk⟩)
theorem rds_cells {a : Addr} {w : World} : ∀ {ls : List LK} {i : Nat} {acc : List Value} {K : List Value → Prop}, rds a w ls i acc K →
    ∃ vs, vs.length = ls.length ∧ (∀ j v, vs[j]? = some v → w.cell? (a.add (i + j)) = some v) ∧ K (acc ++ vs)
  | [], i, acc, K, h => ⟨[], rfl, fun j v hv => by simp at hv, by simpa [rds] using h⟩
  | l :: r, i, acc, K, h => by
    simp only [rds] at h
    obtain ⟨v, hc, hk⟩ := rd_cell h
    obtain ⟨vs, hl, hvs, hK⟩ := rds_cells hk
    refine ⟨v :: vs, by simp [hl], fun j u hu => ?_, by simpa using hK⟩
    cases j with
    | zero => simp only [List.getElem?_cons_zero, Option.some.injEq] at hu; subst hu; simpa using hc
    | succ j => rw [show i + (j + 1) = i + 1 + j by omega]; exact hvs j u (by simpa using hu)
theorem isAgg_run {t : TypeId} {d : TypeDesc} (hd : P.underlying t = some d) (w : World) : (isAgg t).run P w = .ok (isAggT P t) w := by
  unfold isAgg isAggT
  rw [Sem.run_bind, run_underlying hd]
  simp only [Result.andThen_ok, hd]
  cases d <;> rfl
theorem sizeOf_run {t : TypeId} (h : (P.info? t).isSome = true) (w : World) : (sizeOf t).run P w = .ok (P.cellsOf t) w := by
  obtain ⟨i, hi⟩ := Option.isSome_iff_exists.1 h
  simp [sizeOf, typeInfo, hi, Program.cellsOf]
theorem info_of_underlying {t : TypeId} {d : TypeDesc} (hd : P.underlying t = some d) : (P.info? t).isSome = true := by
  unfold Program.underlying at hd
  cases h : P.info? t with
  | none => rw [h] at hd; cases hd
  | some i => rfl
theorem vcLoad_ok {t : TypeId} {x : Value} {w : World} {K : Value → Prop} (h : vcLoad P t x w K) :
    ∃ v, K v ∧ ∀ d, (Instr.loadAt t x).run P (w.drewN d) = .ok v (w.drewN d) := by
  unfold vcLoad at h
  split at h
  · obtain ⟨a, rfl, h⟩ := ptr_some h
    split at h
    · exact h.elim
    · rename_i d hd
      cases hagg : isAggT P t
      · rw [hagg] at h
        simp only [cond_false] at h
        obtain ⟨v, hc, hk⟩ := rd_cell h
        refine ⟨v, hk, fun m => ?_⟩
        simp [Instr.loadAt, Instr.sureAddr, loadVar, isAgg_run hd, hagg, hc]
      · rw [hagg] at h
        simp only [cond_true] at h
        cases hb : Nat.beq (leaves P 8 t).length (P.cellsOf t)
        · rw [hb] at h; exact h.elim
        · rw [hb] at h
          simp only [cond_true] at h
          obtain ⟨vs, hl, hvs, hK⟩ := rds_cells h
          refine ⟨_, hK, fun m => ?_⟩
          have hlen : vs.length = P.cellsOf t := by rw [hl]; exact Nat.eq_of_beq_eq_true hb
          have hrun := run_loadCells_list (P := P) (w.drewN m) a vs (fun j v hv => by have := hvs j v hv; simpa using this)
          rw [hlen] at hrun
          simp [Instr.loadAt, Instr.sureAddr, loadVar, isAgg_run hd, hagg, sizeOf_run (info_of_underlying hd), hrun]
  · exact h.elim
theorem vcLoadH_ok {t : TypeId} {x : Value} {w : World} {K : Value → (World → Prop) → Prop} (h : vcLoadH P t x w K) :
    ∃ v T, K v T ∧ T w ∧ ∀ w', T w' → (Instr.loadAt t x).run P w' = .ok v w' := by
  cases x with
  | pointer A =>
    cases A with
    | none => exact h.elim
    | some a =>
      replace h : (match P.underlying t with
        | none => False
        | some _ => bif isAggT P t then bif Nat.beq (leaves P 8 t).length (P.cellsOf t) then rds a w (leaves P 8 t) 0 [] fun vs => K (.agg ⟨vs⟩) (sameAt a (P.cellsOf t) w) else False
          else rd (lk P t) a w fun v => K v (sameAt a (P.cellsOf t) w)) := h
      cases hd : P.underlying t with
      | none => rw [hd] at h; exact h.elim
      | some d =>
        rw [hd] at h
        simp only [] at h
        cases hagg : isAggT P t
        · rw [hagg, cond_false] at h
          obtain ⟨v, hc, hk⟩ := rd_cell h
          refine ⟨v, _, hk, ⟨rfl, fun _ _ => rfl⟩, fun w' hw => ?_⟩
          have hc' : w'.cell? a = some v := by rw [hw.1]; exact hc
          simp [Instr.loadAt, Instr.sureAddr, loadVar, isAgg_run hd, hagg, hc']
        · rw [hagg, cond_true] at h
          cases hb : Nat.beq (leaves P 8 t).length (P.cellsOf t)
          · rw [hb] at h; exact h.elim
          · rw [hb, cond_true] at h
            obtain ⟨vs, hl, hvs, hK⟩ := rds_cells h
            refine ⟨_, _, hK, ⟨rfl, fun _ _ => rfl⟩, fun w' hw => ?_⟩
            have hlen : vs.length = P.cellsOf t := by rw [hl]; exact Nat.eq_of_beq_eq_true hb
            have hrun := run_loadCells_list (P := P) w' a vs (fun j v hv => by
              have hj : j < P.cellsOf t := by rw [← hlen]; exact (List.getElem?_eq_some_iff.1 hv).1
              rw [hw.2 j hj]
              have := hvs j v hv
              simpa using this)
            rw [hlen] at hrun
            simp [Instr.loadAt, Instr.sureAddr, loadVar, isAgg_run hd, hagg, sizeOf_run (info_of_underlying hd), hrun]
  | _ => exact h.elim
theorem rv_cell {l : LK} {x : Option Value} {K : Value → Prop} (h : rv l x K) : ∃ v, x = some v ∧ K v := by
  cases l <;> simp only [rv, G.vI, G.vB, G.vS, G.vSl, G.vP, G.vM, G.vF, G.vV] at h
  all_goals first
    | exact h.elim
    | (obtain ⟨n, hc, hk⟩ := h; exact ⟨_, hc, hk⟩)
theorem rvs_cells {cs : Array Value} {o : Nat} : ∀ {ls : List LK} {i : Nat} {acc : List Value} {K : List Value → Prop}, rvs cs o ls i acc K →
    ∃ vs, vs.length = ls.length ∧ (∀ j v, vs[j]? = some v → cs[o + (i + j)]? = some v) ∧ K (acc ++ vs)
  | [], i, acc, K, h => ⟨[], rfl, fun j v hv => by simp at hv, by simpa [rvs] using h⟩
  | l :: r, i, acc, K, h => by
    simp only [rvs] at h
    obtain ⟨v, hc, hk⟩ := rv_cell h
    obtain ⟨vs, hl, hvs, hK⟩ := rvs_cells hk
    refine ⟨v :: vs, by simp [hl], fun j u hu => ?_, by simpa using hK⟩
    cases j with
    | zero => simp only [List.getElem?_cons_zero, Option.some.injEq] at hu; subst hu; simpa using hc
    | succ j => rw [show i + (j + 1) = i + 1 + j by omega]; exact hvs j u (by simpa using hu)
theorem part_agg {e : TypeId} {fs : Array Field} {inf : TypeInfo} {cs : Array Value} {o : Nat} {vs : List Value} (he : P.underlying e = some (.struct fs)) (hinf : P.info? e = some inf) (hl : vs.length = inf.size)
    (hvs : ∀ j v, vs[j]? = some v → cs[o + j]? = some v) (w : World) : (part e cs o).run P w = .ok (.agg ⟨vs⟩) w := by
  have hx : cs.extract o (o + inf.size) = ⟨vs⟩ := by
    apply Array.ext_getElem?
    intro j
    rw [Array.getElem?_extract]
    by_cases hj : j < inf.size
    · obtain ⟨v, hv⟩ : ∃ v, vs[j]? = some v := ⟨_, List.getElem?_eq_getElem (by omega)⟩
      have := hvs j v hv
      have hlt : o + j < cs.size := (Array.getElem?_eq_some_iff.1 this).1
      rw [if_pos (by omega), this]
      simpa using hv.symm
    · rw [if_neg (by omega)]
      simp [List.getElem?_eq_none (show vs.length ≤ j by omega)]
  simp [part, isAgg, run_underlying he, sizeOf, typeInfo, hinf, hx]
theorem sts_ok {a : Addr} : ∀ {vs : List Value} {i : Nat} {w : World} {K : World → Prop}, sts a vs i w K → ∃ w', (storeCells a vs i).run P w = .ok () w' ∧ K w'
  | [], i, w, K, h => ⟨w, rfl, h⟩
  | v :: r, i, w, K, h => by
    simp only [sts] at h
    split at h
    · rename_i hv
      obtain ⟨⟨u, hu⟩, hf, h⟩ := h
      obtain ⟨w', hr, hk⟩ := sts_ok h
      refine ⟨w', ?_, hk⟩
      simp only [storeCells, Sem.run_bind]
      rw [run_store P w _ v .plain hv, hu]
      simp only [hf, Bool.false_eq_true, if_false, Result.andThen_ok]
      exact hr
    · exact h.elim
theorem vcStore_ok {t : TypeId} {x v : Value} {w : World} {K : World → Prop} (h : vcStore P t x v w K) : ∃ w', (Instr.storeAt t x v).run P w = .ok () w' ∧ K w' := by
  unfold vcStore at h
  split at h
  · obtain ⟨a, rfl, h⟩ := ptr_some h
    cases hi : (P.info? t).isSome
    · rw [hi] at h; exact h.elim
    · rw [hi] at h
      simp only [cond_true] at h
      cases hb : Nat.beq v.cells.size (P.cellsOf t)
      · rw [hb] at h; exact h.elim
      · rw [hb] at h
        simp only [cond_true] at h
        obtain ⟨w', hr, hk⟩ := sts_ok (P := P) h
        refine ⟨w', ?_, hk⟩
        simp [Instr.storeAt, Instr.sureAddr, storeVar, sizeOf_run hi, Nat.eq_of_beq_eq_true hb, hr]
  · exact h.elim
theorem ix_some {A : Option Addr} {n : Nat} {i : Int} {size : Nat} {K : Addr → Prop} (h : G.ix A n i size K) : ∃ a, A = some a ∧ (0 ≤ i ∧ i < n) ∧ K (a.add (i.toNat * size)) := by
  cases A with
  | none => exact h.elim
  | some a => exact ⟨a, rfl, h.1, h.2⟩
theorem vcIndexAddr_ok {t : TypeId} {x i : Value} {K : Value → Prop} (h : vcIndexAddr P t x i K) : ∃ v, K v ∧ ∀ w, (Instr.indexAt t x i).run P w = .ok v w := by
  unfold vcIndexAddr at h
  split at h
  · split at h
    · rename_i e A n c hu
      cases hi : (P.info? e).isSome
      · rw [hi] at h; exact h.elim
      · rw [hi] at h
        simp only [cond_true] at h
        obtain ⟨a, rfl, hb, hk⟩ := ix_some h
        exact ⟨_, hk, fun w => by simp [Instr.indexAt, asIntOf, run_underlying hu, hb, sizeOf_run hi]⟩
    · rename_i n e A hu
      cases hi : (P.info? e).isSome
      · rw [hi] at h; exact h.elim
      · rw [hi] at h
        simp only [cond_true] at h
        obtain ⟨a, rfl, hb, hk⟩ := ix_some h
        exact ⟨_, hk, fun w => by simp [Instr.indexAt, asIntOf, run_underlying hu, Instr.sureAddr, hb, sizeOf_run hi]⟩
    · exact h.elim
  · exact h.elim
theorem gen_ok {s : Sem Next} {K : Value → Prop} (h : genK P s K) : ∃ v, K v ∧ ∀ w, s.run P w = .ok (.value v) w := by
  unfold genK at h
  split at h
  · rename_i v hv; exact ⟨v, h, fun w => pureOf_run hv w⟩
  · exact h.elim
theorem equalIn_slice_none (d : Nat) {t e : TypeId} (hu : P.underlying t = some (.slice e)) (A : Option Addr) (n c n' c' : Nat) (w : World) :
    (Op.equalIn (d + 1) t (.slice A n c) (.slice none n' c')).run P w = .ok A.isNone w := by
  cases A <;> simp [Op.equalIn, run_underlying hu]
theorem equal_slice_none {t e : TypeId} (hu : P.underlying t = some (.slice e)) (A : Option Addr) (n c n' c' : Nat) (w : World) :
    (Op.equal t (.slice A n c) (.slice none n' c')).run P w = .ok A.isNone w := equalIn_slice_none 9999 hu A n c n' c' w
theorem equalIn_pointer_none (d : Nat) {t e : TypeId} (hu : P.underlying t = some (.pointer e)) (A : Option Addr) (w : World) :
    (Op.equalIn (d + 1) t (.pointer A) (.pointer none)).run P w = .ok A.isNone w := by
  cases A <;> simp [Op.equalIn, run_underlying hu]
theorem equal_pointer_none {t e : TypeId} (hu : P.underlying t = some (.pointer e)) (A : Option Addr) (w : World) :
    (Op.equal t (.pointer A) (.pointer none)).run P w = .ok A.isNone w := equalIn_pointer_none 9999 hu A w
theorem equalIn_none_pointer (d : Nat) {t e : TypeId} (hu : P.underlying t = some (.pointer e)) (A : Option Addr) (w : World) :
    (Op.equalIn (d + 1) t (.pointer none) (.pointer A)).run P w = .ok A.isNone w := by
  cases A <;> simp [Op.equalIn, run_underlying hu]
theorem equal_none_pointer {t e : TypeId} (hu : P.underlying t = some (.pointer e)) (A : Option Addr) (w : World) :
    (Op.equal t (.pointer none) (.pointer A)).run P w = .ok A.isNone w := equalIn_none_pointer 9999 hu A w
theorem equalIn_map_none (d : Nat) {t e f : TypeId} (hu : P.underlying t = some (.map e f)) (A : Option Nat) (w : World) :
    (Op.equalIn (d + 1) t (.map A) (.map none)).run P w = .ok A.isNone w := by
  cases A <;> simp [Op.equalIn, run_underlying hu]
theorem equal_map_none {t e f : TypeId} (hu : P.underlying t = some (.map e f)) (A : Option Nat) (w : World) :
    (Op.equal t (.map A) (.map none)).run P w = .ok A.isNone w := equalIn_map_none 9999 hu A w
theorem equalIn_func_nil (d : Nat) {t : TypeId} {a b : Array TypeId} {c : Bool} (hu : P.underlying t = some (.func a b c)) (w : World) : (Op.equalIn (d + 1) t .nilFunc .nilFunc).run P w = .ok true w := by
  simp [Op.equalIn, run_underlying hu]
theorem equalIn_func_some (d : Nat) {t : TypeId} {a b : Array TypeId} {c : Bool} (hu : P.underlying t = some (.func a b c)) (f : Fn) (x y : Array Value) (w : World) : (Op.equalIn (d + 1) t (.func f x y) .nilFunc).run P w = .ok false w := by
  simp [Op.equalIn, run_underlying hu]
theorem isNilF_ok {v : Value} {K : Bool → Prop} {t : TypeId} {a b : Array TypeId} {c : Bool} (hu : P.underlying t = some (.func a b c)) (h : G.isNilF v K) : ∃ x, K x ∧ ∀ w, (Op.equal t v .nilFunc).run P w = .ok x w := by
  unfold G.isNilF at h
  split at h
  · exact ⟨true, h, fun w => equalIn_func_nil 9999 hu w⟩
  · exact ⟨false, h, fun w => equalIn_func_some 9999 hu _ _ _ w⟩
  · exact h.elim
theorem eqF_ok {xs ys : Array Value} (d : Nat) (w : World) : ∀ (fs : List Field) (b : Bool), eqF P xs ys fs = some b → (Op.eqFields (d + 1) xs ys fs).run P w = .ok b w
  | [], b, h => by cases h; rfl
  | f :: r, b, h => by
    simp only [eqF] at h
    cases hn : (f.name == "_") with
    | true => rw [hn] at h; cases h
    | false =>
      rw [hn, cond_false] at h
      cases hr : eqF P xs ys r with
      | none => rw [hr] at h; cases h
      | some b' =>
        rw [hr] at h
        simp only [] at h
        have hne : f.name ≠ "_" := by simpa using hn
        have ih := eqF_ok d w r b' hr
        have step : ∀ (x y : Value) (q : Bool), (part f.type xs f.offset).run P w = .ok x w → (part f.type ys f.offset).run P w = .ok y w → (Op.equalIn (d + 1) f.type x y).run P w = .ok q w →
            (Op.eqFields (d + 1) xs ys (f :: r)).run P w = .ok (q && b') w := fun x y q h1 h2 h3 => by
          simp only [Op.eqFields, if_pos hne, Sem.run_bind, h1, h2, h3, Result.andThen_ok]
          cases q
          · simp
          · simp [ih]
        split at h
        · rename_i k0 k a k' c hu hx hy
          by_cases hk : k = k'
          · subst hk
            rw [decide_eq_true rfl, cond_true] at h
            cases h
            exact step _ _ _ (by simp [part, isAgg, run_underlying hu, hx]) (by simp [part, isAgg, run_underlying hu, hy]) (run_equalIn_int w d _ k _ a c hu)
          · rw [decide_eq_false hk] at h; cases h
        · rename_i a c hu hx hy
          cases h
          exact step _ _ _ (by simp [part, isAgg, run_underlying hu, hx]) (by simp [part, isAgg, run_underlying hu, hy]) (run_equalIn_bool' w d _ a c hu)
        · rename_i a c hu hx hy
          cases h
          exact step _ _ _ (by simp [part, isAgg, run_underlying hu, hx]) (by simp [part, isAgg, run_underlying hu, hy]) (run_equalIn_string w d _ a c hu)
        · rename_i k0 k a k' c hu hx hy
          by_cases hk : k = k'
          · subst hk
            rw [decide_eq_true rfl, cond_true] at h
            cases h
            exact step (.float k a) (.float k c) _ (by simp [part, isAgg, run_underlying hu, hx]) (by simp [part, isAgg, run_underlying hu, hy]) (by simp [Op.equalIn, run_underlying hu])
          · rw [decide_eq_false hk] at h; cases h
        · cases h
theorem vcEqS_ok {t : TypeId} {fs : Array Field} {xs ys : Array Value} {K : Bool → Prop} (hu : P.underlying t = some (.struct fs)) (h : vcEqS P t fs xs ys K) :
    ∃ b, K b ∧ P.eqGuardType P.depth t = false ∧ ∀ w, (Op.equalIn 10000 t (.agg xs) (.agg ys)).run P w = .ok b w := by
  unfold vcEqS at h
  cases hs : (P.stoodInHeld t || P.eqGuardType P.depth t) with
  | true => rw [hs] at h; exact h.elim
  | false =>
    rw [hs, cond_false] at h
    simp only [Bool.or_eq_false_iff] at hs
    split at h
    · rename_i b hb
      have hf : P.fieldsOf t = fs := by unfold Program.fieldsOf; rw [hu]
      refine ⟨b, h, hs.2, fun w => ?_⟩
      rw [run_equalIn_struct w 9999 t xs ys (by rw [hf]; exact hu) hs.1, hf]
      exact eqF_ok 9998 w fs.toList b hb
    · exact h.elim
theorem equalIn_nil_nil (d : Nat) {t : TypeId} {ms : Array (String × TypeId)} (hu : P.underlying t = some (.interface ms)) (w : World) :
    (Op.equalIn (d + 1) t .nilIface .nilIface).run P w = .ok true w := by simp [Op.equalIn, run_underlying hu]
theorem equalIn_iface_nil (d : Nat) {t : TypeId} {ms : Array (String × TypeId)} (hu : P.underlying t = some (.interface ms)) (a : TypeId) (b : Value) (w : World) :
    (Op.equalIn (d + 1) t (.iface a b) .nilIface).run P w = .ok false w := by simp [Op.equalIn, run_underlying hu]
theorem isNilI_ok {o : Oper} {op : BinOp} {t u : TypeId} {x y : Operand} {ms : Array (String × TypeId)} {v : Value} {K : Bool → Prop} (ho : o.op = .binOp op t x y u) (hu : P.underlying t = some (.interface ms))
    (h : bif constY o then G.isNilI v K else False) : ∃ q, K q ∧ (∀ w, (eqGuard op t x y v .nilIface).run P w = .ok () w) ∧ ∀ w, (Op.equal t v .nilIface).run P w = .ok q w := by
  cases hc : constY o with
  | false => rw [hc] at h; exact h.elim
  | true =>
    rw [hc] at h
    obtain ⟨c, rfl⟩ : ∃ c, y = .const c := by
      unfold constY at hc
      rw [ho] at hc
      cases y <;> first | exact ⟨_, rfl⟩ | cases hc
    simp only [cond_true] at h
    unfold G.isNilI at h
    split at h
    · exact ⟨true, h, fun w => by unfold eqGuard; split <;> simp, fun w => equalIn_nil_nil 9999 hu w⟩
    · exact ⟨false, h, fun w => by unfold eqGuard; split <;> simp, fun w => equalIn_iface_nil 9999 hu _ _ w⟩
    · exact h.elim
theorem vcBin_ok {o : Oper} {ρ : Operand → Value} {op : BinOp} {t u : TypeId} {x y : Operand} {K : Value → Prop} (ho : o.op = .binOp op t x y u) (h : vcBin P o ρ op t (ρ x) (ρ y) K) :
    ∃ v, K v ∧ ∀ w, (execOp ρ o).run P w = .ok (.value v) w := by
  unfold vcBin at h
  split at h
  · split at h
    · rename_i k a k' b hx hy
      by_cases hk : k = k'
      · subst hk
        simp only [decide_true, cond_true] at h
        exact ⟨_, h.2, fun w => by simp [execOp, ho, hx, hy, eqGuard, binOp, Op.intDiv, h.1]⟩
      · rw [decide_eq_false hk] at h; exact h.elim
    · exact gen_ok h
  · split at h
    · rename_i k a k' b hx hy
      by_cases hk : k = k'
      · subst hk
        simp only [decide_true, cond_true] at h
        exact ⟨_, h.2, fun w => by simp [execOp, ho, hx, hy, eqGuard, binOp, Op.intDiv, h.1]⟩
      · rw [decide_eq_false hk] at h; exact h.elim
    · exact gen_ok h
  · split at h
    · rename_i k a k' b hx hy
      have h0 : ¬ b < 0 := by have := h.1; omega
      exact ⟨_, h.2, fun w => by simp [execOp, ho, hx, hy, eqGuard, binOp, Op.shift, h0]⟩
    · exact h.elim
  · split at h
    · rename_i k a k' b hx hy
      have h0 : ¬ b < 0 := by have := h.1; omega
      exact ⟨_, h.2, fun w => by simp [execOp, ho, hx, hy, eqGuard, binOp, Op.shift, h0]⟩
    · exact h.elim
  · split at h
    · rename_i a b hx hy
      have h0 := h.1
      have h1 : ¬ (((a.size + b.size : Nat) : Int) > IntKind.i64.max) := by omega
      exact ⟨_, h.2, fun w => by
        simp only [execOp, ho, hx, hy, eqGuard, binOp, Op.stringOp, if_neg h1]; rfl⟩
    · exact gen_ok h
  · split at h
    · rename_i e A n c n' c' hu hx hy
      exact ⟨_, h, fun w => by simp [execOp, ho, hx, hy, eqGuard, binOp, equal_slice_none hu]⟩
    · rename_i e A B hu hx hy
      cases B with
      | none => exact ⟨_, h, fun w => by simp [execOp, ho, hx, hy, eqGuard, binOp, equal_pointer_none hu]⟩
      | some b =>
        cases A with
        | none => exact ⟨_, h, fun w => by simp [execOp, ho, hx, hy, eqGuard, binOp, equal_none_pointer hu]⟩
        | some a => exact h.elim
    · rename_i e f A hu hx hy
      exact ⟨_, h, fun w => by simp [execOp, ho, hx, hy, eqGuard, binOp, equal_map_none hu]⟩
    · rename_i a b c hu hy
      obtain ⟨q, hk, hrun⟩ := isNilF_ok hu h
      exact ⟨_, hk, fun w => by simp [execOp, ho, hy, eqGuard, binOp, hrun]⟩
    · rename_i a b c hu hy
      obtain ⟨q, hk, hg, hrun⟩ := isNilI_ok ho hu h
      exact ⟨_, hk, fun w => by simp [execOp, ho, hy, hg, binOp, hrun]⟩
    · rename_i fs xs ys hu hx hy
      obtain ⟨q, hk, hg, hrun⟩ := vcEqS_ok hu h
      exact ⟨_, hk, fun w => by simp [execOp, ho, hx, hy, run_eqGuard_agg _ _ _ _ _ _ _ hg, run_eql_struct, hrun]⟩
    · exact gen_ok h
  · split at h
    · rename_i e A n c n' c' hu hx hy
      exact ⟨_, h, fun w => by simp [execOp, ho, hx, hy, eqGuard, binOp, equal_slice_none hu]⟩
    · rename_i e A B hu hx hy
      cases B with
      | none => exact ⟨_, h, fun w => by simp [execOp, ho, hx, hy, eqGuard, binOp, equal_pointer_none hu]⟩
      | some b =>
        cases A with
        | none => exact ⟨_, h, fun w => by simp [execOp, ho, hx, hy, eqGuard, binOp, equal_none_pointer hu]⟩
        | some a => exact h.elim
    · rename_i e f A hu hx hy
      exact ⟨_, h, fun w => by simp [execOp, ho, hx, hy, eqGuard, binOp, equal_map_none hu]⟩
    · rename_i a b c hu hy
      obtain ⟨q, hk, hrun⟩ := isNilF_ok hu h
      exact ⟨_, hk, fun w => by simp [execOp, ho, hy, eqGuard, binOp, hrun]⟩
    · rename_i a b c hu hy
      obtain ⟨q, hk, hg, hrun⟩ := isNilI_ok ho hu h
      exact ⟨_, hk, fun w => by simp [execOp, ho, hy, hg, binOp, hrun]⟩
    · rename_i fs xs ys hu hx hy
      obtain ⟨q, hk, hg, hrun⟩ := vcEqS_ok hu h
      exact ⟨_, hk, fun w => by simp [execOp, ho, hx, hy, run_eqGuard_agg _ _ _ _ _ _ _ hg, run_neq_struct, hrun]⟩
    · exact gen_ok h
  · exact gen_ok h
theorem boundOf_cases {d n : Int} {x : Option Value} (e : boundOf d x = some n) : (x = none ∧ n = d) ∨ ∃ k, x = some (.int k n) := by
  unfold boundOf at e
  split at e
  · simp only [Option.some.injEq] at e; exact .inl ⟨rfl, e.symm⟩
  · rename_i k m
    simp only [Option.some.injEq] at e; subst e
    exact .inr ⟨k, rfl⟩
  · cases e
theorem sliceBound_run {w : World} {k : IntKind} {i : Int} {y : Nat} {code : BoundsCode} (h0 : 0 ≤ i) (h1 : i ≤ y) : (Instr.sliceBound (.int k i) y code).run P w = .ok i.toNat w := by
  simp [Instr.sliceBound, asIntOf, h0, h1]
theorem sliceBounds_two {w : World} {isSlice : Bool} {len cap : Nat} {lo hi : Option Value} {l h : Int} (el : boundOf 0 lo = some l) (eh : boundOf (len : Int) hi = some h) (h0 : 0 ≤ l) (h1 : l ≤ h) (h2 : h ≤ cap) :
    (Instr.sliceBounds isSlice len cap lo hi none).run P w = .ok (l.toNat, h.toNat, cap) w := by
  unfold Instr.sliceBounds
  rcases boundOf_cases el with ⟨rfl, rfl⟩ | ⟨k, rfl⟩ <;> rcases boundOf_cases eh with ⟨rfl, rfl⟩ | ⟨k', rfl⟩
  · simp
  · simp [sliceBound_run (P := P) (w := w) (k := k') (i := h) (y := cap) (by omega) h2]
  · simp [sliceBound_run (P := P) (w := w) (k := k) (i := l) (y := len) h0 h1]
  · simp [sliceBound_run (P := P) (w := w) (k := k') (i := h) (y := cap) (by omega) h2, sliceBound_run (P := P) (w := w) (k := k) (i := l) (y := h.toNat) h0 (by omega)]
theorem sliceBounds_three {w : World} {len cap : Nat} {lo : Option Value} {k k' : IntKind} {l h m : Int} (el : boundOf 0 lo = some l) (h0 : 0 ≤ l) (h1 : l ≤ h) (h2 : h ≤ m) (h3 : m ≤ cap) :
    (Instr.sliceBounds true len cap lo (some (.int k h)) (some (.int k' m))).run P w = .ok (l.toNat, h.toNat, m.toNat) w := by
  unfold Instr.sliceBounds
  rcases boundOf_cases el with ⟨rfl, rfl⟩ | ⟨k2, rfl⟩
  · simp [sliceBound_run (P := P) (w := w) (k := k') (i := m) (y := cap) (by omega) h3, sliceBound_run (P := P) (w := w) (k := k) (i := h) (y := m.toNat) (by omega) (by omega)]
  · simp [sliceBound_run (P := P) (w := w) (k := k') (i := m) (y := cap) (by omega) h3, sliceBound_run (P := P) (w := w) (k := k) (i := h) (y := m.toNat) (by omega) (by omega),
      sliceBound_run (P := P) (w := w) (k := k2) (i := l) (y := h.toNat) h0 (by omega)]
theorem vcSlice_ok {t : TypeId} {x : Value} {lo hi mx : Option Value} {K : Value → Prop} (h : vcSlice P t x lo hi mx K) :
    ∃ v, K v ∧ ∀ w, (Instr.sliceAt t x lo hi mx).run P w = .ok v w := by
  unfold vcSlice at h
  split at h
  · rename_i s hu
    split at h
    · rename_i l hh e1 e2
      obtain ⟨⟨h0, h1, h2⟩, hk⟩ := h
      exact ⟨_, hk, fun w => by
        simp only [Instr.sliceAt, Sem.run_bind, run_underlying hu, Result.andThen_ok, Instr.slice, Option.isSome_none, Bool.false_eq_true, if_false, Sem.run_pure,
          sliceBounds_two (P := P) (w := w) (isSlice := false) e1 e2 h0 h1 h2]⟩
    · exact h.elim
  · rename_i e A n c hu
    cases hi' : (P.info? e).isSome
    · rw [hi'] at h; exact h.elim
    · rw [hi'] at h
      simp only [cond_true] at h
      split at h
      · split at h
        · rename_i l hh e1 e2
          obtain ⟨⟨h0, h1, h2⟩, hk⟩ := h
          exact ⟨_, hk, fun w => by
            simp only [Instr.sliceAt, Sem.run_bind, run_underlying hu, Result.andThen_ok, Instr.slice, sizeOf_run hi', Sem.run_pure,
              sliceBounds_two (P := P) (w := w) (isSlice := true) e1 e2 h0 h1 h2]⟩
        · exact h.elim
      · split at h
        · rename_i l hh e1
          obtain ⟨⟨h0, h1, h2, h3⟩, hk⟩ := h
          exact ⟨_, hk, fun w => by
            simp only [Instr.sliceAt, Sem.run_bind, run_underlying hu, Result.andThen_ok, Instr.slice, sizeOf_run hi', Sem.run_pure,
              sliceBounds_three (P := P) (w := w) e1 h0 h1 h2 h3]⟩
        · exact h.elim
      · exact h.elim
  · exact h.elim
theorem lkR_ok {α : Type} {m : Sem Value} {f : α → Value} {ok : Bool} {w : World} {K : Value → Prop} (h : lkR P m f ok w K) : ∃ v, K v ∧ ∀ d, m.run P (w.drewN d) = .ok v (w.drewN d) := by
  unfold lkR at h
  cases ok with
  | true => obtain ⟨a, b, hr, hk⟩ := h; exact ⟨_, hk, hr⟩
  | false => obtain ⟨a, hr, hk⟩ := h; exact ⟨_, hk, hr⟩
theorem splitA_ok {e : TypeId} {v : Value} {K : Value → Prop} (h : splitA P e v K) : K v := by
  unfold splitA at h
  cases ha : isAggT P e with
  | false => rw [ha] at h; exact h.elim
  | true =>
    rw [ha] at h
    have h : G.ag v (leaves P 8 e).length fun cs => rvs cs 0 (leaves P 8 e) 0 [] fun vs => K (.agg ⟨vs⟩) := h
    cases v with
    | agg cs =>
      have h : (bif Nat.beq cs.size (leaves P 8 e).length then rvs cs 0 (leaves P 8 e) 0 [] fun vs => K (.agg ⟨vs⟩) else False) := h
      cases hs : Nat.beq cs.size (leaves P 8 e).length
      · rw [hs] at h; exact h.elim
      · rw [hs] at h
        have hs' : cs.size = (leaves P 8 e).length := Nat.eq_of_beq_eq_true hs
        obtain ⟨vs, hl, hvs, hk⟩ := rvs_cells (h : rvs cs 0 (leaves P 8 e) 0 [] fun vs => K (.agg ⟨vs⟩))
        have : cs = ⟨vs⟩ := by
          apply Array.ext'
          apply List.ext_getElem?
          intro j
          rcases Nat.lt_or_ge j vs.length with hj | hj
          · have := hvs j vs[j] (by simp [hj])
            simp at this
            rw [Array.getElem?_toList, this]
            simp [hj]
          · rw [List.getElem?_eq_none (by simp; omega), List.getElem?_eq_none (by simpa using hj)]
        rw [this]; exact hk
    | _ => exact h.elim
theorem lkA_ok {e : TypeId} {m : Sem Value} {ok : Bool} {w : World} {K : Value → Prop} (h : bif ok then G.rd2 P m (fun v : Value => v) w fun v b => splitA P e v fun v => K (.tuple #[v, .bool b]) else G.rd1 P m (fun v : Value => v) w fun v => splitA P e v K) :
    ∃ v, K v ∧ ∀ d, m.run P (w.drewN d) = .ok v (w.drewN d) := by
  cases ok with
  | true =>
    obtain ⟨v, b, hr, hk⟩ := (h : G.rd2 P m (fun v : Value => v) w fun v b => splitA P e v fun v => K (.tuple #[v, .bool b]))
    exact ⟨.tuple #[v, .bool b], splitA_ok (K := fun v => K (.tuple #[v, .bool b])) hk, hr⟩
  | false =>
    obtain ⟨v, hr, hk⟩ := (h : G.rd1 P m (fun v : Value => v) w fun v => splitA P e v K)
    exact ⟨v, splitA_ok hk, hr⟩
theorem vcLk_ok {t : TypeId} {m : Sem Value} {ok : Bool} {w : World} {K : Value → Prop} (h : vcLk P t m ok w K) : ∃ v, K v ∧ ∀ d, m.run P (w.drewN d) = .ok v (w.drewN d) := by
  unfold vcLk at h
  split at h
  · split at h
    all_goals first
      | exact lkR_ok h
      | exact lkA_ok h
      | exact h.elim
  · exact h.elim
theorem vcR_ok {N : Nat} {o : Oper} {ρ : Env} {w : World} {K : Value → Prop} (h : vcR P N o ρ w K) :
    ∃ v, K v ∧ ∀ d, (execOp (ev N ρ) o).run P (w.drewN d) = .ok (.value v) (w.drewN d) := by
  have hg : genK P (execOp (ev N ρ) o) K → ∃ v, K v ∧ ∀ d, (execOp (ev N ρ) o).run P (w.drewN d) = .ok (.value v) (w.drewN d) := fun h =>
    let ⟨v, hk, hr⟩ := gen_ok h
    ⟨v, hk, fun d => hr _⟩
  unfold vcR at h
  split at h
  · rename_i x ho; exact ⟨_, h, fun d => by simp [execOp, ho]⟩
  · rename_i x ho; exact ⟨_, h, fun d => by simp [execOp, ho]⟩
  · rename_i c a b ho
    split at h
    · rename_i c' hc
      cases c'
      · exact ⟨_, h, fun d => by simp [execOp, ho, hc, asBool]⟩
      · exact ⟨_, h, fun d => by simp [execOp, ho, hc, asBool]⟩
    · exact h.elim
  · rename_i t x ho
    obtain ⟨v, hk, hr⟩ := vcLoad_ok h
    exact ⟨v, hk, fun d => by simp [execOp, ho, hr]⟩
  · rename_i t x i ho
    obtain ⟨v, hk, hr⟩ := vcIndexAddr_ok h
    exact ⟨v, hk, fun d => by simp [execOp, ho, hr]⟩
  · rename_i x ho
    split at h
    · rename_i A hx
      obtain ⟨a, rfl, hk⟩ := ptr_some h
      exact ⟨_, hk, fun d => by simp [execOp, ho, hx]⟩
    · exact h.elim
  · rename_i op t x y u ho
    obtain ⟨v, hk, hr⟩ := vcBin_ok ho h
    exact ⟨v, hk, fun d => hr _⟩
  · rename_i t x lo hi mx ho
    obtain ⟨v, hk, hr⟩ := vcSlice_ok h
    exact ⟨v, hk, fun d => by simp [execOp, ho, hr]⟩
  · rename_i t x i ho
    split at h
    · rename_i s k n hu hx hi
      obtain ⟨b, h0, hb, hk⟩ := h
      exact ⟨_, hk, fun d => by simp [execOp, ho, hx, hi, Instr.index, asIntOf, run_underlying hu, h0, hb]⟩
    · rename_i len e cs k n hu hx hi
      split at h
      · rename_i k' inf he hinf
        cases hs : Nat.beq inf.size 1
        · rw [hs] at h; exact h.elim
        · rw [hs] at h
          simp only [cond_true] at h
          obtain ⟨m, hb, hc, hk⟩ := h
          have hs' : inf.size = 1 := Nat.eq_of_beq_eq_true hs
          exact ⟨_, hk, fun d => by simp [execOp, ho, hx, hi, Instr.index, asIntOf, run_underlying hu, hb, part, isAgg, run_underlying he, sizeOf, typeInfo, hinf, hs', hc]⟩
      · rename_i fs inf he hinf
        cases hs : (Nat.beq inf.size (leaves P 8 e).length && Nat.beq cs.size (len * inf.size))
        · rw [hs] at h; exact h.elim
        · rw [hs] at h
          simp only [cond_true] at h
          simp only [Bool.and_eq_true] at hs
          obtain ⟨hb, h⟩ := h
          obtain ⟨vs, hl, hvs, hk⟩ := rvs_cells h
          have hpart := fun w => part_agg (P := P) he hinf (by rw [hl]; exact (Nat.eq_of_beq_eq_true hs.1).symm) (fun j v hv => by simpa using hvs j v hv) w
          exact ⟨_, hk, fun d => by simp [execOp, ho, hx, hi, Instr.index, asIntOf, run_underlying hu, hb, sizeOf, typeInfo, hinf, hpart]⟩
      · exact h.elim
    · exact h.elim
  · rename_i s d x ho
    split at h
    · rename_i e A n c hs hd hx
      split at h
      · rename_i he
        obtain ⟨r, hr, hk⟩ := h
        exact ⟨_, hk, fun m => by simp [execOp, ho, hx, Go.convert, run_underlying hs, run_underlying hd, run_underlying he, hr]⟩
      · exact h.elim
    · rename_i k' k n k2 hs hd hx
      exact ⟨_, h, fun m => by simp [execOp, ho, hx, Go.convert, run_underlying hs, run_underlying hd, Conv.intToInt]⟩
    · rename_i k' k b hs hd hx
      obtain ⟨n, hn, hk⟩ := h
      exact ⟨_, hk, fun m => by simp [execOp, ho, hx, run_convert_float_int (P := P) _ s d .f64 k b n (by rw [hs]; rfl) hd hn]⟩
    · exact hg h
  all_goals try (exact hg h)
  · rename_i t x f ho
    split at h
    · rename_i A hx
      obtain ⟨a, rfl, h'⟩ := ptr_some h
      clear h
      split at h'
      · rename_i v hv
        exact ⟨v, h', fun d => by simp [execOp, ho, hx, pureOf_run hv]⟩
      · exact h'.elim
    · exact h.elim
  · rename_i t m k ok ho
    obtain ⟨v, hk, hr⟩ := vcLk_ok h
    exact ⟨v, hk, fun d => by simp [execOp, ho, hr]⟩
  · rename_i args argTypes ho
    have e0 : ∀ (t : TypeId) (x : Value) (w : World), argTypes[0]? = some t → (args[0]?).map (ev N ρ) = some x → (execOp (ev N ρ) o).run P w = ((Builtin.len_ argTypes o.type (args.map (ev N ρ))).run P w).andThen fun v w => .ok (.value v) w := by
      intro t x w h1 h2
      simp [execOp, ho, resolve, invoke, builtin]
    split at h
    · rename_i s hu hx
      cases ht : argTypes[0]? with
      | none => rw [ht] at hu; cases hu
      | some t =>
        rw [ht] at hu
        refine ⟨_, h, fun m => ?_⟩
        rw [e0 t _ _ ht hx]
        have hx' : (args.map (ev N ρ))[0]? = some (.string s) := by rw [Array.getElem?_map]; exact hx
        simp [Builtin.len_, ht, hx', run_underlying (show P.underlying t = _ from hu), goInt]
    · rename_i e A n c hu hx
      cases ht : argTypes[0]? with
      | none => rw [ht] at hu; cases hu
      | some t =>
        rw [ht] at hu
        refine ⟨_, h, fun m => ?_⟩
        rw [e0 t _ _ ht hx]
        have hx' : (args.map (ev N ρ))[0]? = some (.slice A n c) := by rw [Array.getElem?_map]; exact hx
        simp [Builtin.len_, ht, hx', run_underlying (show P.underlying t = _ from hu), goInt]
    · rename_i e f r hu hx
      cases ht : argTypes[0]? with
      | none => rw [ht] at hu; cases hu
      | some t =>
        obtain ⟨n, hr, hk⟩ := h
        refine ⟨_, hk, fun m => ?_⟩
        rw [e0 t _ _ ht hx, hr m]
        rfl
    · exact h.elim
  · exact h.elim
end
end Go.Proofs.YtechilkjfhpkpaaGreatDoor.Vm

namespace Go.Proofs.YtechilkjfhpkpaaGreatDoor.Vm
open Go
section
variable {P : Program} {F : Clee} {N : Nat} {M : Bool}
def FOk (P : Program) (F : Clee) : Prop := ∀ n args K w, F n args K w →
  ((∃ fn, P.funcs[n]? = some fn ∧ (fn.name == "runtime.NumGoroutine") = false ∧ fn.body.isNone = false) ∧ Calls P n args.toArray w (fun e w' => ∃ v, e = .returned v ∧ K v w')) ∨
  (∃ v w', (callFunc n args.toArray).run P w = .ok (.value v) w' ∧ K v w')
theorem callFunc_run {n : FuncId} {args : Array Value} {w : World} (h : ∃ fn, P.funcs[n]? = some fn ∧ (fn.name == "runtime.NumGoroutine") = false ∧ fn.body.isNone = false) :
    (callFunc n args).run P w = .ok (.enter n args) w := by
  obtain ⟨fn, hf, hn, hb⟩ := h
  simp only [callFunc, Sem.run_bind, run_program, Result.andThen_ok, hf]
  rw [if_neg (by rw [hn]; decide), if_neg (by rw [hb]; decide)]
  rfl
theorem call_run {ρ : Env} {o : Oper} {f : Operand} {args : Array Operand} {ts : Array TypeId} {n : FuncId} {first captured : Array Value} {w : World}
    (ho : o.op = .call { callee := .value f, args, argTypes := ts }) (hf : ev N ρ f = .func (.func n) first captured) :
    (execOp (ev N ρ) o).run P w = (callFunc n (first.toList ++ args.toList.map (ev N ρ) ++ captured.toList).toArray).run P w := by
  have e : (first.toList ++ args.toList.map (ev N ρ) ++ captured.toList).toArray = first ++ args.map (ev N ρ) ++ captured := by
    apply Array.ext'
    simp
  rw [e]
  simp only [execOp, ho, resolve, hf, Deferred.ofValue, Sem.run_bind, Sem.run_pure, Result.andThen_ok, invoke]
theorem yield_run {ρ : Env} {o : Oper} {f : Operand} {args : Array Operand} {ts : Array TypeId} {l : Nat} {first captured : Array Value} {w : World}
    (ho : o.op = .call { callee := .value f, args, argTypes := ts }) (hf : ev N ρ f = .func (.yield l) first captured) :
    (execOp (ev N ρ) o).run P w = (Instr.yield l (first.toList ++ args.toList.map (ev N ρ)).toArray).run P w := by
  have e : (first.toList ++ args.toList.map (ev N ρ)).toArray = first ++ args.map (ev N ρ) := by
    apply Array.ext'
    simp
  rw [e]
  simp only [execOp, ho, resolve, hf, Deferred.ofValue, Sem.run_bind, Sem.run_pure, Result.andThen_ok, invoke]
theorem wp_value {o : Oper} {a : Act} {w w' : World} {ρ : Env} {v : Value} {Kn : Act → World → Prop} {Q : Exit → Act → World → Prop} (hr : Rel M N a ρ)
    (h : (execOp (ev N ρ) o).run P w = .ok (.value v) w') (hk : Kn (a.put o.dst v) w') : o.wpIn (Wd none) 0 P a w Kn Q := by
  refine ⟨fun _ _ => trivial, ?_⟩
  rw [Oper.semAt_none, hr.evals, h]
  exact hk
theorem wp_skipped {o : Oper} {a : Act} {w w' : World} {ρ : Env} {Kn : Act → World → Prop} {Q : Exit → Act → World → Prop} (hr : Rel M N a ρ)
    (h : (execOp (ev N ρ) o).run P w = .ok .skip w') (hk : Kn (a.put o.dst undef) w') : o.wpIn (Wd none) 0 P a w Kn Q := by
  refine ⟨fun _ _ => trivial, ?_⟩
  rw [Oper.semAt_none, hr.evals, h]
  exact hk
theorem wp_of_vcR {o : Oper} {a : Act} {w : World} {ρ : Env} {K : Value → World → Prop} {Kn : Act → World → Prop} {Q : Exit → Act → World → Prop} (hr : Rel M N a ρ)
    (hk : ∀ v w', K v w' → Kn (a.put o.dst v) w') (h : vcR P N o ρ w fun v => K v w) : o.wpIn (Wd none) 0 P a w Kn Q := by
  obtain ⟨v, hv, hrun⟩ := vcR_ok h
  exact wp_value hr (hrun 0) (hk _ _ hv)
theorem decR_ok {t : TypeId} {v : Value} {K : Value → Prop} (h : decR P t v K) : K v := by
  unfold decR at h
  split at h
  · unfold G.isB at h
    split at h
    · exact h
    · exact h.elim
  · unfold G.isF at h
    split at h
    · exact h
    · exact h.elim
  · rename_i k _
    unfold G.isI at h
    split at h
    · rename_i k' n
      by_cases e : k' = k
      · subst e; rw [decide_eq_true rfl] at h; exact h
      · rw [decide_eq_false e] at h; exact h.elim
    · exact h.elim
  · exact h
theorem meth_run {ρ : Env} {o : Oper} {r : Operand} {name : String} {args : Array Operand} {ts : Array TypeId} {t : TypeId} {x rc : Value} {f : FuncId} {w : World}
    (ho : o.op = .call { callee := .invoke r name, args, argTypes := ts }) (hr : ev N ρ r = .iface t x) (hm : pureOf P (method (P.types.size + Made.depth) t x name) = some (f, rc)) :
    (execOp (ev N ρ) o).run P w = (callFunc f (rc :: args.toList.map (ev N ρ)).toArray).run P w := by
  have e : (rc :: args.toList.map (ev N ρ)).toArray = #[rc] ++ args.map (ev N ρ) := by
    apply Array.ext'
    simp
  have e2 : (#[Value.iface t x] ++ args.map (ev N ρ))[0]? = some (Value.iface t x) := by rw [Array.getElem?_append_left (by simp)]; rfl
  have e3 : (#[Value.iface t x] ++ args.map (ev N ρ)).extract 1 (#[Value.iface t x] ++ args.map (ev N ρ)).size = args.map (ev N ρ) := by
    apply Array.ext'
    simp
    exact List.take_of_length_le (by simp)
  rw [e]
  simp only [execOp, ho, resolve, Sem.run_bind, Sem.run_pure, Result.andThen_ok, invoke, hr, e2, e3, callMethod, run_program, pureOf_run hm]
theorem nan_cut (n : Nat) : nanB ((n % 2) * 2 ^ 63 + 0x7ff0000000000000 + 1 + (n / 2) % (2 ^ 52 - 1)) := by
  have hs : Ieee.double.signWeight = 9223372036854775808 := rfl
  have hb : Ieee.double.binade = 4503599627370496 := rfl
  have hi : Ieee.double.infRung = 9218868437227405312 := rfl
  have h1 : ((n % 2) * 2 ^ 63 + 0x7ff0000000000000 + 1 + (n / 2) % (2 ^ 52 - 1)) % 9223372036854775808 = 9218868437227405313 + (n / 2) % 4503599627370495 := by omega
  refine ⟨?_, by omega⟩
  show (Ieee.double.read _).isNaN = true
  unfold Ieee.Format.read
  rw [hs, hb, hi]
  simp only [h1]
  rw [if_neg (by omega), if_neg (by omega), if_neg (by omega)]
  rfl
theorem fa_run {op : BinOp} {t : TypeId} {a b : Nat} {w : World} {K : Nat → World → Prop} (hu : isFA P op t = true) (h : G.fa op a b w K) :
    ∃ r w', (binOp op t (.float .f64 a) (.float .f64 b)).run P w = .ok (.float .f64 r) w' ∧ K r w' := by
  unfold G.fa at h
  split at h
  · rename_i r hr
    exact ⟨r, w, run_float_arith w op t .f64 a b r hr, h⟩
  · rename_i hr
    refine ⟨_, _, ?_, h _ (nan_cut (w.tape w.drawn (.nanBits .f64 a b)))⟩
    unfold isFA at hu
    split at hu
    · unfold floatBits at hr
      cases op <;> simp only at hr hu <;> first | (cases hu; done) | skip
      all_goals simp [binOp, Op.floatArith, hr, choose, Sem.run, Question.forced, Question.cut]
    · cases hu
theorem vcOp_ok (hF : FOk P F) {o : Oper} {a : Act} {w : World} {ρ : Env} {K : Value → World → Prop} {Kn : Act → World → Prop} {Q : Exit → Act → World → Prop} (hr : Rel M N a ρ)
    (hk : ∀ v w', K v w' → Kn (a.put o.dst v) w') (h : vcOp P F N o ρ w K) : o.wpIn (Wd none) 0 P a w Kn Q := by
  have hsr : (sr P (execOp (ev N ρ) o) w fun n w' => match n with | .value v => K v w' | _ => False) → o.wpIn (Wd none) 0 P a w Kn Q := fun h => by
    obtain ⟨n, w', hrun, hK⟩ := sr_run h
    cases n with
    | value v => exact wp_value hr hrun (hk _ _ hK)
    | _ => exact hK.elim
  unfold vcOp at h
  split at h
  · rename_i t x v ho
    obtain ⟨w', hrun, hK⟩ := vcStore_ok h
    exact wp_skipped hr (by simp [execOp, ho, hrun]) (hk _ _ hK)
  · exact hsr h
  · exact hsr h
  · exact hsr h
  · rename_i t l c ho
    obtain ⟨s, w', hrun, hK⟩ := h
    exact wp_value hr (by simp [execOp, ho, hrun]) (hk _ _ hK)
  · rename_i t r ho
    obtain ⟨s, w', hrun, hK⟩ := h
    exact wp_value hr (by simp [execOp, ho, hrun]) (hk _ _ hK)
  · rename_i t x ho
    obtain ⟨s, w', hrun, hK⟩ := h
    exact wp_value hr (by simp [execOp, ho, hrun]) (hk _ _ hK)
  · rename_i it ho
    obtain ⟨w', ⟨hrun, hK⟩ | ⟨k, x, hrun, hK⟩⟩ := h
    · exact wp_value hr (by simp [execOp, ho, hrun]) (hk _ _ hK)
    · exact wp_value hr (by simp [execOp, ho, hrun]) (hk _ _ hK)
  · rename_i it ho
    obtain ⟨k, x, hrun, hK⟩ := h
    exact wp_value hr (by simp [execOp, ho, hrun]) (hk _ _ hK)
  · rename_i t m k x ho
    obtain ⟨w', hrun, hK⟩ := h
    exact wp_skipped hr (by simp [execOp, ho, hrun]) (hk _ _ hK)
  · rename_i t m k ho
    obtain ⟨s, n, w', hrun, hK⟩ := h
    exact wp_value hr (by simp [execOp, ho, hrun]) (hk _ _ hK)
  · rename_i t m k x ho
    obtain ⟨w', hrun, hK⟩ := h
    exact wp_skipped hr (by simp [execOp, ho, hrun]) (hk _ _ hK)
  · rename_i s d x ho
    split at h
    · obtain ⟨s, w', hrun, hK⟩ := h
      exact wp_value hr (by simp [execOp, ho, hrun]) (hk _ _ hK)
    · obtain ⟨s, w', hrun, hK⟩ := h
      exact wp_value hr (by simp [execOp, ho, hrun]) (hk _ _ hK)
    · exact wp_of_vcR hr hk h
  · rename_i f args ts ho
    unfold G.callV at h
    split at h
    · rename_i n first captured hf
      rcases hF _ _ _ _ h with ⟨hfn, hc⟩ | ⟨v, w', hrun, hK⟩
      · refine ⟨fun _ _ => trivial, ?_⟩
        rw [Oper.semAt_none, hr.evals, call_run ho hf, callFunc_run hfn, Oper.uponIn_enter]
        refine ⟨fun h => (by cases h), (callsIn_wide.2 hc).mono fun e w' ⟨v, he, hK⟩ => ?_⟩
        subst he
        exact hk _ _ (decR_ok hK)
      · exact wp_value hr (by rw [call_run ho hf, hrun]) (hk _ _ (decR_ok hK))
    · rename_i l first captured hf
      obtain ⟨fn, tmps, assign, body, hy, hround⟩ := h
      refine ⟨fun _ _ => trivial, ?_⟩
      rw [Oper.semAt_none, hr.evals, yield_run ho hf, hy, Oper.uponIn_round]
      refine ⟨fun h => (by cases h), RoundIn.mono hround fun e w' ⟨v, he, hK⟩ => ?_⟩
      subst he
      exact hk _ _ (decR_ok hK)
    · exact h.elim
  · rename_i rv name args ts ho
    unfold G.callI at h
    split at h
    · rename_i t x hrv
      split at h
      · rename_i f rc hm
        rcases hF _ _ _ _ h with ⟨hfn, hc⟩ | ⟨v, w', hrun, hK⟩
        · refine ⟨fun _ _ => trivial, ?_⟩
          rw [Oper.semAt_none, hr.evals, meth_run ho hrv hm, callFunc_run hfn, Oper.uponIn_enter]
          refine ⟨fun h => (by cases h), (callsIn_wide.2 hc).mono fun e w' ⟨v, he, hK⟩ => ?_⟩
          subst he
          exact hk _ _ (decR_ok hK)
        · exact wp_value hr (by rw [meth_run ho hrv hm, hrun]) (hk _ _ (decR_ok hK))
      · exact h.elim
    · exact h.elim
  · rename_i op t x y u ho
    cases hu : isFA P op t with
    | false => rw [hu] at h; exact wp_of_vcR hr hk h
    | true =>
      rw [hu] at h
      simp only [cond_true] at h
      split at h
      · rename_i a b hx hy
        obtain ⟨r, w', hrun, hK⟩ := fa_run hu h
        refine wp_value hr ?_ (hk _ _ hK)
        have hg : (eqGuard op t x y (.float .f64 a) (.float .f64 b)).run P w = .ok () w := by
          unfold isFA at hu
          split at hu
          · cases op <;> simp only at hu <;> first | (cases hu; done) | skip
            all_goals simp [eqGuard]
          · cases hu
        simp [execOp, ho, hx, hy, hg, hrun]
      · exact h.elim
  · rename_i args ts ho
    obtain ⟨s, w', hrun, hK⟩ := h
    exact wp_value hr (by simp [execOp, ho, resolve, invoke, builtin, hrun]) (hk _ _ hK)
  · rename_i args ts ho
    obtain ⟨s, w', hrun, hK⟩ := h
    exact wp_value hr (by simp [execOp, ho, resolve, invoke, builtin, hrun]) (hk _ _ hK)
  · rename_i args ts ho
    obtain ⟨s, w', hrun, hK⟩ := h
    exact wp_value hr (by simp [execOp, ho, resolve, invoke, builtin, hrun]) (hk _ _ hK)
  · rename_i args ts ho
    obtain ⟨s, w', hrun, hK⟩ := h
    exact wp_value hr (by simp [execOp, ho, resolve, invoke, builtin, hrun]) (hk _ _ hK)
  · exact wp_of_vcR hr hk h
theorem vcDec_ok {t : TypeId} {v : Value} {K : Value → Prop} (h : vcDec P t v K) : K v := by
  unfold vcDec at h
  split at h
  any_goals (first | exact h | exact splitA_ok h)
  all_goals (obtain ⟨n, hn, hk⟩ := h; injection hn with hn; subst hn; exact hk)
theorem nth_eq {α : Type} : ∀ (l : List α) (i : Nat), nth l i = l[i]?
  | [], _ => by simp [nth]
  | _ :: _, 0 => rfl
  | _ :: r, i + 1 => by simpa [nth] using nth_eq r i
theorem guardK_ok {all : List Oper} {o : Oper} {ρ : Env} {a : Act} {X : Env → Bool → Prop} (hr : Rel M N a ρ) (h : guardK N all o ρ X) :
    ∃ run, Rel M N a (if run then ρ else ρ) ∧ Region.wanted o (yielded all.toArray a.tmps) = run ∧ ∃ ρ', Rel M N a ρ' ∧ X ρ' run := by
  unfold guardK at h
  unfold Region.wanted
  split at h
  · rename_i hg
    exact ⟨true, by simpa using hr, by simp [hg], ρ, hr, h⟩
  · rename_i j b hg
    simp only [hg]
    rw [nth_eq] at h
    have hy : yielded all.toArray a.tmps j = match ((all[j]?).bind (·.dst)).bind (a.tmps[·]?) with | some (.bool b) => some b | _ => none := by
      simp only [yielded, List.getElem?_toArray]
      rfl
    split at h
    · rename_i hd
      refine ⟨false, by simpa using hr, ?_, ρ, hr, h⟩
      rw [hy, hd]; rfl
    · rename_i s hd
      split at h
      · rename_i c hc
        have hs : a.tmps[s]? = some (.bool c) := by
          have e1 := hr.eval (.tmp s)
          rw [hc] at e1
          simp only [Act.eval, Array.getD_eq_getD_getElem?] at e1
          cases e2 : a.tmps[s]? with
          | none => rw [e2] at e1; cases e1
          | some v => rw [e2] at e1; exact congrArg some e1
        have hρ : Nat.blt s N = true → ρ s = .bool c := fun hb => by simpa [ev, hb] using hc
        have hup : upd ρ s (.bool c) = ρ := by
          by_cases hb : Nat.blt s N = true
          · exact upd_self (hρ hb)
          · simp only [ev, hb] at hc; cases hc
        have hyc : yielded all.toArray a.tmps j = some c := by rw [hy, hd]; simp [hs]
        rw [hyc]
        cases c
        · exact ⟨!b, by simpa using hr, by cases b <;> rfl, upd ρ s (.bool false), by rw [hup]; exact hr, h⟩
        · exact ⟨b, by simpa using hr, by cases b <;> rfl, upd ρ s (.bool true), by rw [hup]; exact hr, h⟩
      · rename_i hne
        refine ⟨false, by simpa using hr, ?_, ρ, hr, h⟩
        have e1 := hr.eval (.tmp s)
        rw [hy, hd]
        cases e2 : a.tmps[s]? with
        | none => simp [e2]
        | some v =>
          simp only [Act.eval, Array.getD_eq_getD_getElem?, e2, Option.getD_some] at e1
          rw [← e1] at hne
          simp only [Option.bind_some, e2]
          split
          · rename_i b' hb'
            simp only [Option.some.injEq] at hb'
            exact absurd hb' (hne b')
          · rfl
theorem opIn_ro {o : Oper} (ho : ∀ c, o.op ≠ .defer c) (ro : Option Nat) {a : Act} {w : World} {K : Act → World → Prop} {Q : Exit → Act → World → Prop} (h : o.wpIn (Wd none) 0 P a w K Q) : o.wpIn (Wd ro) 0 P a w K Q := by
  obtain ⟨_, h⟩ := h
  refine ⟨fun _ _ => trivial, ?_⟩
  rw [Oper.semAt_none] at h
  rw [Oper.semAt_eq _ _ _ ho]
  generalize (execOp a.eval o).run P w = r at *
  cases r with
  | ok x w' => cases x <;> exact h
  | halt x w' => cases x <;> exact h
theorem opsIn_ro {ops : Array Oper} (hc : ∀ (i : Nat) (o : Oper), ops[i]? = some o → ∀ c, o.op ≠ .defer c) (ro : Option Nat) {Q : Exit → Act → World → Prop} :
    ∀ (l : List Nat) (a : Act) (w : World), wpOpsIn (Wd none) 0 P ops Q l a w → wpOpsIn (Wd ro) 0 P ops Q l a w
  | [], _, _, h => h
  | i :: l, a, w, h => by
    rw [wpOpsIn_cons] at h ⊢
    unfold wpOpIn at h ⊢
    split at h
    · exact opsIn_ro hc ro l _ _ h
    · rename_i o ho
      by_cases hw : Region.wanted o (yielded ops a.tmps) = true
      · rw [if_pos hw] at h ⊢
        exact opIn_ro (hc i o ho) ro (Oper.wpIn_mono (fun a w h => opsIn_ro hc ro l a w h) h)
      · rw [if_neg hw] at h ⊢
        exact ⟨fun _ _ => trivial, opsIn_ro hc ro l _ _ h.2⟩
theorem calm_defer {ops : Array Oper} (h : calm ops = true) (i : Nat) (o : Oper) (ho : ops[i]? = some o) (c : Call) : o.op ≠ .defer c := by
  intro e
  unfold calm at h
  simp only [Bool.and_eq_true, List.all_eq_true] at h
  have := h.2 o (List.mem_of_getElem? (l := ops.toList) (i := i) (by simpa using ho))
  rw [e] at this
  cases this
theorem calm_select {ops : Array Oper} (h : calm ops = true) : Region.noSelect ops = true := by
  unfold calm at h
  simp only [Bool.and_eq_true] at h
  exact h.1
theorem vcOps_ok (hF : FOk P F) {ops : Array Oper} {Q : Exit → Act → World → Prop} {K : Env → World → Prop} (hK : ∀ a ρ w, Rel M N a ρ → K ρ w → Q .normal a w) :
    ∀ (l : List Nat) (a : Act) (ρ : Env) (w : World), Rel M N a ρ → vcOps P F N ops.toList (l.filterMap (nth ops.toList)) ρ w K → wpOpsIn (Wd none) 0 P ops Q l a w
  | [], a, ρ, w, hr, h => hK _ _ _ hr h
  | i :: l, a, ρ, w, hr, h => by
    rw [wpOpsIn_cons]
    unfold wpOpIn
    cases ho : ops[i]? with
    | none =>
      have ho' : nth ops.toList i = none := by rw [nth_eq]; simpa using ho
      rw [List.filterMap_cons, ho'] at h
      exact vcOps_ok hF hK l a ρ w hr h
    | some o =>
      have ho' : nth ops.toList i = some o := by rw [nth_eq]; simpa using ho
      rw [List.filterMap_cons, ho'] at h
      simp only [vcOps] at h
      obtain ⟨run, _, hw, ρ', hr', h⟩ := guardK_ok hr h
      have hw' : Region.wanted o (yielded ops a.tmps) = run := by simpa using hw
      simp only [hw']
      cases run
      · simp only [Bool.false_eq_true, if_false]
        exact ⟨fun _ _ => trivial, vcOps_ok hF hK l _ _ _ (hr'.put o.dst undef) h⟩
      · simp only [if_true]
        cases hf : fromEnt ops.toList o with
        | true =>
          rw [hf] at h
          obtain ⟨v, hv, hrun⟩ := gen_ok (h : genK P (execOp (ev N ρ') o) fun v => vcDec P o.type v fun v => vcOps P F N ops.toList (l.filterMap (nth ops.toList)) (put N ρ' o.dst v) w K)
          exact wp_value hr' (hrun w) (vcOps_ok hF hK l _ _ _ (hr'.put o.dst v) (vcDec_ok hv))
        | false =>
          rw [hf] at h
          exact vcOp_ok hF hr' (fun v w' hv => vcOps_ok hF hK l _ _ _ (hr'.put o.dst v) hv) h
def lift (M : Bool) (N : Nat) (K : Post) : Exit → Act → World → Prop := fun e a w => ∃ ρ, Rel M N a ρ ∧ K e ρ w
theorem vcR_pure {o : Oper} {ρ : Env} {w : World} {K : Value → Prop} (hp : isPure P o = true) (h : vcR P N o ρ w K) :
    ∃ v, K v ∧ ∀ w', (execOp (ev N ρ) o).run P w' = .ok (.value v) w' := by
  unfold isPure at hp
  unfold vcR at h
  split at hp <;> rename_i ho
  all_goals first
    | cases hp
    | skip
  · rw [ho] at h; exact ⟨_, h, fun d => by simp [execOp, ho]⟩
  · rw [ho] at h; exact ⟨_, h, fun d => by simp [execOp, ho]⟩
  · rw [ho] at h
    simp only [] at h
    split at h
    · rename_i c' hc
      cases c'
      · exact ⟨_, h, fun d => by simp [execOp, ho, hc, asBool]⟩
      · exact ⟨_, h, fun d => by simp [execOp, ho, hc, asBool]⟩
    · exact h.elim
  · rw [ho] at h
    obtain ⟨v, hk, hr⟩ := vcIndexAddr_ok h
    exact ⟨v, hk, fun d => by simp [execOp, ho, hr]⟩
  · rw [ho] at h
    simp only [] at h
    split at h
    · rename_i A hx
      obtain ⟨a, rfl, hk⟩ := ptr_some h
      exact ⟨_, hk, fun d => by simp [execOp, ho, hx]⟩
    · exact h.elim
  · rw [ho] at h
    exact vcBin_ok ho h
  · rw [ho] at h
    obtain ⟨v, hk, hr⟩ := vcSlice_ok h
    exact ⟨v, hk, fun d => by simp [execOp, ho, hr]⟩
  · rw [ho] at h
    simp only [] at h
    split at h
    · rename_i s k n hu hx hi
      obtain ⟨b, h0, hb, hk⟩ := h
      exact ⟨_, hk, fun d => by simp [execOp, ho, hx, hi, Instr.index, asIntOf, run_underlying hu, h0, hb]⟩
    · rename_i len e cs k n hu hx hi
      split at h
      · rename_i k' inf he hinf
        cases hs : Nat.beq inf.size 1
        · rw [hs] at h; exact h.elim
        · rw [hs] at h
          simp only [cond_true] at h
          obtain ⟨m, hb, hc, hk⟩ := h
          have hs' : inf.size = 1 := Nat.eq_of_beq_eq_true hs
          exact ⟨_, hk, fun d => by simp [execOp, ho, hx, hi, Instr.index, asIntOf, run_underlying hu, hb, part, isAgg, run_underlying he, sizeOf, typeInfo, hinf, hs', hc]⟩
      · rename_i fs inf he hinf
        cases hs : (Nat.beq inf.size (leaves P 8 e).length && Nat.beq cs.size (len * inf.size))
        · rw [hs] at h; exact h.elim
        · rw [hs] at h
          simp only [cond_true] at h
          simp only [Bool.and_eq_true] at hs
          obtain ⟨hb, h⟩ := h
          obtain ⟨vs, hl, hvs, hk⟩ := rvs_cells h
          have hpart := fun w => part_agg (P := P) he hinf (by rw [hl]; exact (Nat.eq_of_beq_eq_true hs.1).symm) (fun j v hv => by simpa using hvs j v hv) w
          exact ⟨_, hk, fun d => by simp [execOp, ho, hx, hi, Instr.index, asIntOf, run_underlying hu, hb, sizeOf, typeInfo, hinf, hpart]⟩
      · exact h.elim
    · exact h.elim
  all_goals try (rw [ho] at h; exact gen_ok h)
  · rw [ho] at h
    simp only [] at h
    split at h
    · rename_i A hx
      obtain ⟨a, rfl, h'⟩ := ptr_some h
      clear h
      split at h'
      · rename_i v hv
        exact ⟨v, h', fun d => by simp [execOp, ho, hx, pureOf_run hv]⟩
      · exact h'.elim
    · exact h.elim
  · split at hp
    · rename_i s d x k1 k2 hs hd
      rw [ho] at h
      simp only [hs, hd] at h
      split at h
      · rename_i e1 e2; cases e1
      · rename_i k' k n e1 e2 hx
        simp only [Option.some.injEq, TypeDesc.int.injEq] at e2
        subst e2
        exact ⟨_, h, fun m => by simp [execOp, ho, hx, Go.convert, run_underlying hs, run_underlying hd, Conv.intToInt]⟩
      · rename_i e1 e2 hx; cases e1
      · exact gen_ok h
    · rename_i s d x k1 k2 hs hd
      rw [ho] at h
      simp only [hs, hd] at h
      exact gen_ok h
    · rename_i s d x k1 k2 hs hd
      rw [ho] at h
      simp only [hs, hd] at h
      exact gen_ok h
    · rename_i s d x _ _ k1 k2 hs hd
      rw [ho] at h
      simp only [hs, hd] at h
      split at h
      · rename_i e1 e2; cases e1
      · rename_i e1 e2 hx; cases e1
      · rename_i k' k b e1 e2 hx
        simp only [Option.some.injEq, TypeDesc.int.injEq] at e2
        subst e2
        obtain ⟨n, hn, hk⟩ := h
        exact ⟨_, hk, fun m => by simp [execOp, ho, hx, run_convert_float_int (P := P) _ s d .f64 k2 b n (by rw [hs]; rfl) hd hn]⟩
      · exact gen_ok h
    · cases hp
  · rw [ho] at h
    rename_i args argTypes
    simp only [] at h
    have e0 : ∀ (t : TypeId) (x : Value) (w : World), argTypes[0]? = some t → (args[0]?).map (ev N ρ) = some x → (execOp (ev N ρ) o).run P w = ((Builtin.len_ argTypes o.type (args.map (ev N ρ))).run P w).andThen fun v w => .ok (.value v) w := by
      intro t x w h1 h2
      simp [execOp, ho, resolve, invoke, builtin]
    split at h
    · rename_i s hu hx
      cases ht : argTypes[0]? with
      | none => rw [ht] at hu; cases hu
      | some t =>
        rw [ht] at hu
        refine ⟨_, h, fun m => ?_⟩
        rw [e0 t _ _ ht hx]
        have hx' : (args.map (ev N ρ))[0]? = some (.string s) := by rw [Array.getElem?_map]; exact hx
        simp [Builtin.len_, ht, hx', run_underlying (show P.underlying t = _ from hu), goInt]
    · rename_i e A n c hu hx
      cases ht : argTypes[0]? with
      | none => rw [ht] at hu; cases hu
      | some t =>
        rw [ht] at hu
        refine ⟨_, h, fun m => ?_⟩
        rw [e0 t _ _ ht hx]
        have hx' : (args.map (ev N ρ))[0]? = some (.slice A n c) := by rw [Array.getElem?_map]; exact hx
        simp [Builtin.len_, ht, hx', run_underlying (show P.underlying t = _ from hu), goInt]
    · rename_i e f r hu hx
      rw [hu] at hp
      cases hp
    · exact h.elim
def onlyN (M : Bool) (N : Nat) (K : Env → World → Prop) : Exit → Act → World → Prop := fun e a w => match e with | .normal => ∃ ρ, Rel M N a ρ ∧ K ρ w | _ => False
def Closed (ops : Array Oper) (listed : Array Bool) : Prop := ∀ j o, ops[j]? = some o → listed.getD j true = true → ∀ e ∈ o.after, Region.binds .any e = true → listed.getD e.on false = true
theorem getD_tf {l : Array Bool} {j : Nat} (h : l.getD j false = true) : l.getD j true = true := by
  rcases Nat.lt_or_ge j l.size with h' | h'
  · simp [h'] at h ⊢; exact h
  · simp [Array.getElem?_eq_none h']
theorem Closed.set {ops : Array Oper} {listed : Array Bool} {i : Nat} (hc : Closed ops listed) (hr : i ∈ Region.ready .any ops listed) : Closed ops (listed.setIfInBounds i true) := by
  intro j o ho hl e he hb
  by_cases hij : i = j
  · subst hij
    obtain ⟨_, o', ho', hall⟩ := mem_ready.1 hr
    obtain rfl := Option.some.inj (ho.symm.trans ho')
    exact getD_set_true (hall e he hb)
  · rw [getD_set_ne true hij] at hl
    exact getD_set_true (hc j o ho hl e he hb)
theorem desc_unlisted {ops : Array Oper} {listed : Array Bool} {a : Nat} (hc : Closed ops listed) (ha : listed.getD a true = false) : ∀ k j, (descL ops a k).getD j false = true → listed.getD j true = false ∧ (j ≠ a → j ∉ Region.ready .any ops listed)
  | 0, j, h => by simp [descL] at h
  | k + 1, j, h => by
    have hlen : ∀ k, (descL ops a k).length = k := by
      intro k
      induction k with
      | zero => rfl
      | succ k ih => simp [descL, ih]
    simp only [descL] at h
    rcases Nat.lt_trichotomy j k with hj | hj | hj
    · rw [List.getD_eq_getElem?_getD, List.getElem?_append_left (by rw [hlen]; exact hj), ← List.getD_eq_getElem?_getD] at h
      exact desc_unlisted hc ha k j h
    · subst hj
      rw [List.getD_eq_getElem?_getD, List.getElem?_append_right (by rw [hlen]; omega), hlen, Nat.sub_self] at h
      simp only [List.getElem?_cons_zero, Option.getD_some, Bool.or_eq_true] at h
      rcases h with h | h
      · have : j = a := Nat.eq_of_beq_eq_true h
        subst this
        exact ⟨ha, fun h => absurd rfl h⟩
      · split at h
        · rename_i o ho
          obtain ⟨e, he, h⟩ := Array.any_eq_true'.1 h
          simp only [Bool.and_eq_true] at h
          have hu := (desc_unlisted hc ha j e.on h.2).1
          constructor
          · cases hl : listed.getD j true with
            | false => rfl
            | true =>
              have := getD_tf (hc j o ho hl e he h.1)
              rw [hu] at this; cases this
          · intro _ hr
            obtain ⟨_, o', ho', hall⟩ := mem_ready.1 hr
            obtain rfl := Option.some.inj (ho.symm.trans ho')
            have := getD_tf (hall e he h.1)
            rw [hu] at this; cases this
        · cases h
    · rw [List.getD_eq_getElem?_getD, List.getElem?_eq_none (by simp [hlen]; omega)] at h
      cases h
def wpT (P : Program) (ops : Array Oper) (Q : Exit → Act → World → Prop) : Nat → Held → Array Bool → Act → World → Prop
  | 0, _, listed, a, w => Region.ready .any ops listed = [] ∧ Q .normal a w
  | f + 1, C, listed, a, w => (Region.ready .any ops listed = [] → Q .normal a w) ∧
    ∀ i ∈ Region.ready .any ops listed, wpOpIn (Wd none) 0 P ops Q i (fun a' w' => (∀ c ∈ cut ops C i, c.2 w') ∧ wpT P ops Q f (cut ops C i) (listed.setIfInBounds i true) a' w') a w
theorem wpAnyIn_of_T {ops : Array Oper} {Q : Exit → Act → World → Prop} : ∀ (f : Nat) (C : Held) (listed : Array Bool) (a : Act) (w : World), wpT P ops Q f C listed a w → wpAnyIn (Wd none) 0 P .any ops Q f listed a w
  | 0, _, _, _, _, h => h
  | f + 1, _, _, _, _, h => ⟨h.1, fun i hi => wpOpIn_mono (fun a' w' h' => wpAnyIn_of_T f _ _ a' w' h'.2) (h.2 i hi)⟩
theorem cut_mem {ops : Array Oper} {C : Held} {k : Nat} {c : Nat × (World → Prop)} : c ∈ cut ops C k ↔ c ∈ C ∧ (descL ops c.1 ops.size).getD k false = false := by
  unfold cut
  rw [List.mem_filter]
  simp
theorem wpT_ext {ops : Array Oper} {Q : Exit → Act → World → Prop} : ∀ (f : Nat) {C D : Held} (_ : ∀ c, c ∈ D → c ∈ C ∨ ∀ w, c.2 w) (listed : Array Bool) (a : Act) (w : World), wpT P ops Q f C listed a w → wpT P ops Q f D listed a w
  | 0, _, _, _, _, _, _, h => h
  | f + 1, C, D, hD, _, _, _, h => ⟨h.1, fun i hi => wpOpIn_mono (fun a' w' h' =>
      have sub : ∀ c, c ∈ cut ops D i → c ∈ cut ops C i ∨ ∀ w, c.2 w := fun c hc => (hD c (cut_mem.1 hc).1).imp (fun h => cut_mem.2 ⟨h, (cut_mem.1 hc).2⟩) id
      ⟨fun c hc => (sub c hc).elim (fun h => h'.1 c h) (fun h => h w'), wpT_ext f sub _ a' w' h'.2⟩) (h.2 i hi)⟩
theorem wpT_mono {ops : Array Oper} {Q : Exit → Act → World → Prop} (f : Nat) {C D : Held} (hD : ∀ c, c ∈ D → c ∈ C) (listed : Array Bool) (a : Act) (w : World) (h : wpT P ops Q f C listed a w) : wpT P ops Q f D listed a w :=
  wpT_ext f (fun c hc => .inl (hD c hc)) listed a w h
theorem wpT_triv {ops : Array Oper} {Q : Exit → Act → World → Prop} {f : Nat} {C : Held} {i : Nat} {listed : Array Bool} {a : Act} {w : World} (h : wpT P ops Q f C listed a w) : wpT P ops Q f (C ++ [(i, fun _ => True)]) listed a w :=
  wpT_ext f (fun c hc => (List.mem_append.1 hc).imp id fun e => by
    simp only [List.mem_singleton] at e
    subst e
    exact fun _ => trivial) listed a w h
theorem wpT_done {ops : Array Oper} {Q : Exit → Act → World → Prop} {C : Held} {listed : Array Bool} {a : Act} {w : World} (hr : Region.ready .any ops listed = []) (h : Q .normal a w) : ∀ f, wpT P ops Q f C listed a w
  | 0 => ⟨hr, h⟩
  | _ + 1 => ⟨fun _ => h, by rw [hr]; simp⟩
theorem wpOpT_put {ops : Array Oper} {Q : Exit → Act → World → Prop} {S : World → Prop} {j : Nat} {oi oj : Oper} {v : Value} (hj : ops[j]? = some oj) (hap : oi.apart ops oj = true)
    (hsi : ∀ cs b, oi.op ≠ .select cs b) (hsj : ∀ cs b, oj.op ≠ .select cs b)
    (hQ : ∀ c a w, Q (.panic c) (a.put oi.dst v) w → Q (.panic c) a w) {K : Act → World → Prop} {a : Act} {w : World}
    (hy : YieldsIf P ops S oi v a) (h : wpOpIn (Wd none) 0 P ops Q j K (a.put oi.dst v) w) :
    wpOpIn (Wd none) 0 P ops Q j (fun a' w' => YieldsIf P ops S oi v a' ∧ K (a'.put oi.dst v) w') a w := by
  obtain ⟨h1, h2, h3⟩ := Oper.apart_spec hap
  have keep : ∀ (a : Act), YieldsIf P ops S oi v a → ∀ u, YieldsIf P ops S oi v (a.put oj.dst u) := fun a hy u =>
    hy.of_same (execOp_put oi hsi a oj.dst u h3) (wanted_put oi a oj.dst u h3)
  have keepD : ∀ d, YieldsIf P ops S oi v { a with defers := d :: a.defers } := fun d => hy.of_same rfl rfl
  unfold wpOpIn at *
  simp only [hj] at *
  rw [wanted_put oj a oi.dst v h1] at h
  split
  · rename_i hw
    simp only [hw, if_true] at h
    refine ⟨fun _ _ => trivial, ?_⟩
    have h := h.2
    rw [Oper.semAt_none, execOp_put oj hsj a oi.dst v h1] at h
    rw [Oper.semAt_none]
    generalize (execOp a.eval oj).run P w = r at *
    cases r with
    | ok x w' =>
      cases x <;> simp only [Oper.uponIn] at h ⊢
      case value u => exact ⟨keep a hy u, by rw [← Act.put_comm a v u h2]; exact h⟩
      case skip => exact ⟨keep a hy _, by rw [← Act.put_comm a v undef h2]; exact h⟩
      case defer d =>
        refine ⟨keep _ (keepD d) _, ?_⟩
        rw [← Act.put_comm _ v undef h2, ← Act.put_defers]
        exact h
      case enter f args =>
        refine ⟨h.1, CallsIn.mono h.2 fun e w'' he => ?_⟩
        cases e with
        | returned u => exact ⟨keep a hy u, by rw [← Act.put_comm a v u h2]; exact he⟩
        | panicked c => exact hQ _ _ _ he
        | outgrown => exact he
      case row row args => exact ⟨h.1, RowsIn.mono h.2 fun u w'' he => ⟨keep a hy u, by rw [← Act.put_comm a v u h2]; exact he⟩⟩
      case round l f tmps assign body =>
        refine ⟨h.1, RoundIn.mono h.2 fun e w'' he => ?_⟩
        cases e with
        | returned u => exact ⟨keep a hy u, by rw [← Act.put_comm a v u h2]; exact he⟩
        | panicked c => exact hQ _ _ _ he
        | outgrown => exact he
    | halt x w' =>
      cases x <;> simp only [Oper.uponIn] at h ⊢
      case panic u => exact hQ _ _ _ h
  · rename_i hw
    simp only [hw] at h
    exact ⟨fun _ _ => trivial, keep a hy _, by rw [← Act.put_comm a v undef h2]; exact h.2⟩
theorem yieldsIf_wpOp {ops : Array Oper} {Q : Exit → Act → World → Prop} {S : World → Prop} {i : Nat} {o : Oper} {v : Value} {a : Act} (hi : ops[i]? = some o) (hy : YieldsIf P ops S o v a)
    {K : Act → World → Prop} {w : World} (hS : S w) (h : K (a.put o.dst v) w) : wpOpIn (Wd none) 0 P ops Q i K a w := by
  unfold wpOpIn
  simp only [hi]
  rcases hy with ⟨hw, hv⟩ | ⟨hw, rfl⟩
  · simp only [hw, if_true]
    refine ⟨fun _ _ => trivial, ?_⟩
    rw [Oper.semAt_none, hv w hS]
    exact h
  · simp only [hw, Bool.false_eq_true, if_false]
    exact ⟨fun _ _ => trivial, h⟩
theorem wpT_take {ops : Array Oper} {Q : Exit → Act → World → Prop} {T : World → Prop} {i : Nat} {oi : Oper} {v : Value} (hi : ops[i]? = some oi) (hsel : ∀ (j : Nat) (o : Oper) cs b, ops[j]? = some o → o.op ≠ .select cs b)
    (hQ : ∀ c a w, Q (.panic c) (a.put oi.dst v) w → Q (.panic c) a w) :
    ∀ (fuel : Nat) (C : Held) (listed : Array Bool) (a : Act) (w : World), Closed ops listed →
      (∀ j oj, ops[j]? = some oj → j ≠ i → listed.getD j true = false → (∀ e ∈ oj.after, Region.binds .any e = true → e.on ≠ i) → oi.apart ops oj = true) →
      i ∈ Region.ready .any ops listed → YieldsIf P ops T oi v a → T w → (∀ c ∈ C, c.2 w) →
      wpT P ops Q fuel (C ++ [(i, T)]) (listed.setIfInBounds i true) (a.put oi.dst v) w → wpT P ops Q (fuel + 1) C listed a w := by
  intro fuel
  induction fuel with
  | zero =>
    intro C listed a w _ _ hr hy hT hC H
    refine ⟨fun h => (by rw [h] at hr; cases hr), fun j hj => ?_⟩
    by_cases hji : j = i
    · subst hji; exact yieldsIf_wpOp hi hy hT ⟨fun c hc => hC c (cut_mem.1 hc).1, H⟩
    · have := ready_mono hj hji
      rw [H.1] at this
      cases this
  | succ fuel ih =>
    intro C listed a w hcl hfree hr hy hT hC H
    refine ⟨fun h => (by rw [h] at hr; cases hr), fun j hj => ?_⟩
    by_cases hji : j = i
    · subst hji
      exact yieldsIf_wpOp hi hy hT ⟨fun c hc => hC c (cut_mem.1 hc).1, wpT_mono _ (fun c hc => List.mem_append_left _ (cut_mem.1 hc).1) _ _ _ H⟩
    · have h1 := H.2 j (ready_mono hj hji)
      obtain ⟨hjun, oj, hoj, hall⟩ := mem_ready.1 hj
      have hiun := (mem_ready.1 hr).1
      have hnot : ∀ e ∈ oj.after, Region.binds .any e = true → e.on ≠ i := fun e he hb heq => by
        have h1 := getD_tf (hall e he hb)
        rw [heq, hiun] at h1
        cases h1
      have hnd : (descL ops i ops.size).getD j false = false := by
        cases hd : (descL ops i ops.size).getD j false with
        | false => rfl
        | true => exact absurd hj ((desc_unlisted hcl hiun _ _ hd).2 hji)
      have h2 := wpOpT_put hoj (hfree j oj hoj hji hjun hnot) (fun cs b => hsel i oi cs b hi) (fun cs b => hsel j oj cs b hoj) hQ hy h1
      have hfree' : ∀ k ok, ops[k]? = some ok → k ≠ i → (listed.setIfInBounds j true).getD k true = false →
          (∀ e ∈ ok.after, Region.binds .any e = true → e.on ≠ i) → oi.apart ops ok = true := fun k ok hk hki hun hno => by
        refine hfree k ok hk hki ?_ hno
        by_cases hjk : j = k
        · subst hjk; exact hjun
        · rw [getD_set_ne true hjk] at hun; exact hun
      have ec : cut ops (C ++ [(i, T)]) j = cut ops C j ++ [(i, T)] := by
        unfold cut
        rw [List.filter_append]
        congr 1
        rw [List.filter_cons_of_pos (by show (!(descL ops i ops.size).getD j false) = true; rw [hnd]; rfl)]
        rfl
      rw [ec] at h2
      refine wpOpIn_mono (fun a' w' h3 => ⟨fun c hc => h3.2.1 c (List.mem_append_left _ hc), ih (cut ops C j) (listed.setIfInBounds j true) a' w' (hcl.set hj) hfree' (ready_mono hr (Ne.symm hji)) h3.1 (h3.2.1 (i, T) (by simp))
        (fun c hc => h3.2.1 c (List.mem_append_left _ hc)) ?_⟩) h2
      rw [Array.setIfInBounds_comm _ _ hji]
      exact h3.2.2
def holds : Option (World → Prop) → World → Prop | none, _ => True | some T, w => T w
theorem vcHeld_ok {o : Oper} {ρ : Env} {w : World} {K : Value → Option (World → Prop) → Prop} (h : vcHeld P N o ρ w K) :
    ∃ v T, K v T ∧ holds T w ∧ ∀ w', holds T w' → (execOp (ev N ρ) o).run P w' = .ok (.value v) w' := by
  have hp : (bif isPure P o then vcR P N o ρ w fun v => K v none else False) → ∃ v T, K v T ∧ holds T w ∧ ∀ w', holds T w' → (execOp (ev N ρ) o).run P w' = .ok (.value v) w' := fun h => by
    cases hq : isPure P o with
    | false => rw [hq] at h; exact h.elim
    | true =>
      rw [hq, cond_true] at h
      obtain ⟨v, hk, hr⟩ := vcR_pure hq h
      exact ⟨v, none, hk, trivial, fun w' _ => hr w'⟩
  unfold vcHeld at h
  split at h
  · rename_i t x ho
    obtain ⟨v, T, hk, hT, hr⟩ := vcLoadH_ok h
    exact ⟨v, some T, hk, hT, fun w' hw => by simp [execOp, ho, hr w' hw]⟩
  · rename_i s d x ho
    split at h
    · rename_i e A n c hs hd hx
      split at h
      · rename_i he
        obtain ⟨r, hr, hk⟩ := h
        exact ⟨_, _, hk, (by have h0 := hr 0; rw [World.drewN_zero] at h0; exact h0), fun w' hw => by simp [execOp, ho, hx, Go.convert, run_underlying hs, run_underlying hd, run_underlying he, show (Conv.bytesToString (.slice A n c)).run P w' = _ from hw]⟩
      · exact h.elim
    · exact hp h
  · exact hp h
theorem still_mem : ∀ {C : Held} {w : World} {X : Prop}, still w C X → (∀ c ∈ C, c.2 w) ∧ X
  | [], _, _, h => ⟨fun _ hc => (by cases hc), h⟩
  | c :: C, w, X, h => by
    obtain ⟨h1, h2⟩ := still_mem h.2
    exact ⟨fun d hd => by
      rcases List.mem_cons.1 hd with rfl | hd
      · exact h.1
      · exact h1 d hd, h2⟩
theorem alts_mem {ops : Array Oper} : ∀ {l : List (Option Tr)} {t : Tr}, alts l = some t → ∀ x ∈ l, ∃ y, x = some y ∧ ∀ {C : Held} {ρ : Env} {w : World} {K : Env → World → Prop}, vcTr P F N ops t C ρ w K → vcTr P F N ops y C ρ w K
  | [], _, h, _, _ => by cases h
  | [a], t, h, x, hx => by
    simp only [List.mem_singleton] at hx
    subst hx
    exact ⟨t, h, fun h => h⟩
  | a :: b :: r, t, h, x, hx => by
    simp only [alts] at h
    split at h
    · rename_i y z hz
      cases h
      rcases List.mem_cons.1 hx with rfl | hx
      · exact ⟨_, rfl, fun h => h.1⟩
      · obtain ⟨u, hu, hi⟩ := alts_mem hz x hx
        exact ⟨u, hu, fun h => hi h.2⟩
    · cases h
theorem tree_ok (hF : FOk P F) {ops : Array Oper} (hs : Region.noSelect ops = true) {K : Env → World → Prop} :
    ∀ (f : Nat) (C : Held) (listed : Array Bool) (t : Tr) (a : Act) (ρ : Env) (w : World), Closed ops listed → (∀ c ∈ C, c.2 w) → tree P ops f listed = some t → Rel M N a ρ → vcTr P F N ops t C ρ w K →
      wpT P ops (onlyN M N K) f C listed a w
  | 0, C, listed, t, a, ρ, w, _, _, h, hr, hv => by
    simp only [tree] at h
    split at h
    · rename_i h0
      cases h
      exact ⟨h0, ρ, hr, hv⟩
    · cases h
  | f + 1, C, listed, t, a, ρ, w, hcl, hC, h, hr, hv => by
    simp only [tree] at h
    split at h
    · rename_i h0
      cases h
      exact wpT_done h0 ⟨ρ, hr, hv⟩ _
    · rename_i hne
      split at h
      · rename_i i hi
        obtain ⟨t', ht', rfl⟩ := Option.map_eq_some_iff.1 h
        have hp := List.find?_some hi
        have hmem := List.mem_of_find?_eq_some hi
        simp only [Bool.and_eq_true] at hp
        obtain ⟨hp, hf⟩ := hp
        have hmem' : i ∈ Region.ready .any ops listed := by simpa using hmem
        split at hp
        · rename_i o ho
          have ho' : nth ops.toList i = some o := by rw [nth_eq]; simpa using ho
          simp only [vcTr, ho'] at hv
          obtain ⟨run, _, hw, ρ', hr', hv⟩ := guardK_ok hr hv
          have hw' : Region.wanted o (yielded ops a.tmps) = run := by simpa using hw
          have take : ∀ {T : World → Prop} {v : Value}, YieldsIf P ops T o v a → T w → wpT P ops (onlyN M N K) f (C ++ [(i, T)]) (listed.setIfInBounds i true) (a.put o.dst v) w → wpT P ops (onlyN M N K) (f + 1) C listed a w := fun hy hT H =>
            wpT_take ho (Region.noSelect_spec hs) (fun c a w h => h) f C listed a w hcl (Region.free_spec ho hf) hmem' hy hT hC H
          cases run
          · simp only [cond_false] at hv
            refine take (T := fun _ => True) (.inr ⟨hw', rfl⟩) trivial ?_
            exact wpT_triv (tree_ok hF hs f C _ t' _ _ w (hcl.set hmem') hC ht' (hr'.put o.dst undef) hv)
          · simp only [cond_true] at hv
            rw [hp, cond_true] at hv
            obtain ⟨v, T, hk, hT, hrun⟩ := vcHeld_ok hv
            refine take (T := holds T) (v := v) (.inl ⟨hw', fun w' hw' => ?_⟩) hT ?_
            · rw [hr'.evals]; exact hrun w' hw'
            · cases T with
              | none => exact wpT_triv (tree_ok hF hs f C _ t' _ _ w (hcl.set hmem') hC ht' (hr'.put o.dst v) hk)
              | some T =>
                refine tree_ok hF hs f _ _ t' _ _ w (hcl.set hmem') (fun c hc => ?_) ht' (hr'.put o.dst v) hk
                rcases List.mem_append.1 hc with hc | hc
                · exact hC c hc
                · simp only [List.mem_singleton] at hc
                  subst hc; exact hT
        · cases hp
      · refine ⟨fun h0 => absurd h0 (fun e => hne e), fun k hk => ?_⟩
        obtain ⟨y, hy, hvy⟩ := alts_mem (P := P) (F := F) (N := N) (ops := ops) h (((tree P ops f (listed.setIfInBounds k true)).map (Tr.op k))) (List.mem_map.2 ⟨k, hk, rfl⟩)
        obtain ⟨t', ht', rfl⟩ := Option.map_eq_some_iff.1 hy
        have hv := hvy hv
        unfold wpOpIn
        cases ho : ops[k]? with
        | none =>
          have ho' : nth ops.toList k = none := by rw [nth_eq]; simpa using ho
          simp only [vcTr, ho'] at hv
        | some o =>
          have ho' : nth ops.toList k = some o := by rw [nth_eq]; simpa using ho
          simp only [vcTr, ho'] at hv
          obtain ⟨run, _, hw, ρ', hr', hv⟩ := guardK_ok hr hv
          have hw' : Region.wanted o (yielded ops a.tmps) = run := by simpa using hw
          simp only [hw']
          have sub : ∀ c, c ∈ cut ops C k → c ∈ C := fun c hc => (cut_mem.1 hc).1
          cases run
          · simp only [Bool.false_eq_true, if_false, cond_false] at hv ⊢
            exact ⟨fun _ _ => trivial, fun c hc => hC c (sub c hc), wpT_mono _ sub _ _ _ (tree_ok hF hs f C _ t' _ _ w (hcl.set hk) hC ht' (hr'.put o.dst undef) hv)⟩
          · simp only [if_true, cond_true] at hv ⊢
            cases hq : isHeld P o with
            | true =>
              rw [hq, cond_true] at hv
              obtain ⟨v, T, hkk, hT, hrun⟩ := vcHeld_ok hv
              refine wp_value hr' (hrun w hT) ⟨fun c hc => hC c (sub c hc), ?_⟩
              cases T with
              | none => exact wpT_mono _ sub _ _ _ (tree_ok hF hs f C _ t' _ _ w (hcl.set hk) hC ht' (hr'.put o.dst v) hkk)
              | some T =>
                refine wpT_mono _ (C := C ++ [(k, T)]) (fun c hc => List.mem_append_left _ (sub c hc)) _ _ _ (tree_ok hF hs f _ _ t' _ _ w (hcl.set hk) (fun c hc => ?_) ht' (hr'.put o.dst v) hkk)
                rcases List.mem_append.1 hc with hc | hc
                · exact hC c hc
                · simp only [List.mem_singleton] at hc
                  subst hc; exact hT
            | false =>
              rw [hq, cond_false] at hv
              refine vcOp_ok hF hr' (fun v w' h1 => ?_) hv
              obtain ⟨h2, h3⟩ := still_mem h1
              exact ⟨h2, tree_ok hF hs f _ _ t' _ _ w' (hcl.set hk) h2 ht' (hr'.put o.dst v) h3⟩
theorem range_filterMap' (l : List Oper) : ∀ n, (List.range n).filterMap (nth l) = l.take n
  | 0 => rfl
  | n + 1 => by
    rw [List.range_succ, List.filterMap_append, range_filterMap' l n, List.take_add_one]
    congr 1
    simp only [List.filterMap_cons, List.filterMap_nil, nth_eq]
    cases l[n]? <;> rfl
theorem range_filterMap (ops : Array Oper) : (List.range ops.size).filterMap (nth ops.toList) = ops.toList := by
  rw [range_filterMap', List.take_of_length_le (by simp)]
section
variable {a : Act} {k : List Item} {cs : List Frame} {w : World} {b : Frame}
theorem stepR_scope {c : Code} : step P (lone (b.atR a (.code (.scope c) :: k)) cs w) = .next (lone (b.atR a (.code c :: .inScope c :: k)) cs w) :=
  step_lone_go (by simp [stepG, stepG.exec, Frame.atR])
theorem stepR_inScope {c : Code} : step P (lone (b.atR a (.inScope c :: k)) cs w) = .next (lone (b.atR a k) cs w) :=
  step_lone_go (by simp [stepG, stepG.exec, Frame.atR])
end
theorem calmW {ro : Option Nat} (m : Machine) : m.fenced P (Wd ro) := by
  intro g _
  refine ⟨fun h => ?_, Or.inl trivial, fun _ _ => trivial, fun _ h => ?_⟩
  · cases h
  · cases h
theorem wpIn_scope_straight {ro : Option Nat} {c : Code} {Q : Exit → Act → World → Prop} {a : Act} {w : World} (h : c.wpIn (Wd ro) 0 P (Exit.noGoto Q) a w) : (Code.scope c).wpIn (Wd ro) 0 P Q a w := by
  intro b k cs hro hb hr
  obtain ⟨e, a₁, w₁, hq, harr⟩ := h b (.inScope c :: k) cs hro hb hr
  have s0 := StepsIn.one (I := Machine.fenced P (Wd ro)) (calmW _) (stepR_scope (P := P) (b := b) (a := a) (k := k) (cs := cs) (w := w) (c := c))
  cases e with
  | normal => exact ⟨.normal, a₁, w₁, hq, s0.trans (StepsIn.trans harr (.one (calmW _) stepR_inScope))⟩
  | exit id =>
    have hx : exitTo id (.inScope c :: k) = exitTo id k := by simp [exitTo]
    exact ⟨.exit id, a₁, w₁, hq, fun k' hk => s0.trans (harr.1 k' (by rw [hx]; exact hk)), fun hr' hk => let ⟨k₁, h1, h2⟩ := harr.2 hr' (by rw [hx]; exact hk); ⟨k₁, h1, s0.trans h2⟩⟩
  | goto l => exact hq.elim
  | ret => exact ⟨_, a₁, w₁, hq, .of_steps s0 harr⟩
  | panic ch => exact ⟨_, a₁, w₁, hq, .of_steps s0 harr⟩
  | outgrown => exact ⟨_, a₁, w₁, hq, .of_steps s0 harr⟩
theorem vc_ok {ro : Option Nat} (hm : P.follows .mixedOrders = true) (hF : FOk P F) : ∀ (c : Code) (K : Post) (a : Act) (ρ : Env) (w : World), Rel M N a ρ → vc P F N c K ρ w → c.wpIn (Wd ro) 0 P (lift M N K) a w
  | .skip, K, a, ρ, w, hr, h => wpIn_skip ⟨ρ, hr, h⟩
  | .region id ops false, K, a, ρ, w, hr, h => by
    simp only [vc] at h
    cases hc : calm ops with
    | false => rw [hc] at h; exact h.elim
    | true =>
      rw [hc, cond_true] at h
      refine wpIn_region (opsIn_ro (calm_defer hc) ro _ _ _ ?_)
      refine vcOps_ok hF (fun a ρ w hr h => ⟨ρ, hr, h⟩) (List.range ops.size) a ρ w hr ?_
      rw [range_filterMap]; exact h
  | .region id ops true, K, a, ρ, w, hr, h => by
    simp only [vc] at h
    split at h
    case h_2 => exact h.elim
    rename_i t ht
    unfold treeOf at ht
    cases hc : calm ops with
    | false => rw [hc] at ht; cases ht
    | true =>
      rw [hc, cond_true] at ht
      have hcl : Closed ops (Array.replicate ops.size false) := by
        intro j o ho hl
        have hj : j < ops.size := (Array.getElem?_eq_some_iff.1 ho).1
        simp [hj] at hl
      refine wpIn_mono (Q := onlyN M N (K .normal)) (wpIn_region_draw fun q => ?_) ?_
      · simp only [Region.schedule, hm, Bool.true_or, if_true]
        refine opsIn_ro (calm_defer hc) ro _ _ _ ?_
        exact wpAnyIn_sound ops.size q _ a _ (wpAnyIn_of_T _ _ _ _ _ (tree_ok hF (calm_select hc) ops.size [] _ t a ρ _ hcl (fun c hc => by cases hc) ht hr h))
      · intro e a' w' hq
        cases e with
        | normal => exact hq
        | _ => exact hq.elim
  | .seq x y, K, a, ρ, w, hr, h => by
    refine wpIn_seq (wpIn_mono (vc_ok hm hF x _ a ρ w hr h) ?_)
    rintro e a' w' ⟨ρ', hr', h'⟩
    cases e with
    | normal => exact vc_ok hm hF y K a' ρ' w' hr' h'
    | _ => exact ⟨ρ', hr', h'⟩
  | .cond c x y, K, a, ρ, w, hr, h => by
    simp only [vc] at h
    split at h
    · rename_i b hb
      have he := hr.eval c
      rw [hb] at he
      refine wpIn_cond he ?_
      split at h
      · rename_i s
        have hup : upd ρ s (.bool b) = ρ := by
          by_cases hlt : Nat.blt s N = true
          · exact upd_self (by simpa [ev, hlt] using hb)
          · simp only [ev, hlt] at hb; cases hb
        cases b
        · exact vc_ok hm hF y K a _ w (by rw [hup]; exact hr) h
        · exact vc_ok hm hF x K a _ w (by rw [hup]; exact hr) h
      · cases b
        · exact vc_ok hm hF y K a ρ w hr h
        · exact vc_ok hm hF x K a ρ w hr h
    · exact h.elim
  | .block id c, K, a, ρ, w, hr, h => by
    refine wpIn_block (wpIn_mono (vc_ok hm hF c _ a ρ w hr h) ?_)
    rintro e a' w' ⟨ρ', hr', h'⟩
    cases e with
    | exit i =>
      simp only [inBlock] at h'
      simp only [Exit.inBlock]
      by_cases hi : i = id
      · subst hi
        rw [if_pos rfl]
        have : Nat.beq i i = true := by simp
        rw [this] at h'
        exact ⟨ρ', hr', h'⟩
      · rw [if_neg hi]
        have : Nat.beq i id = false := by
          cases hb : Nat.beq i id
          · rfl
          · exact absurd (Nat.eq_of_beq_eq_true hb) hi
        rw [this] at h'
        exact ⟨ρ', hr', h'⟩
    | _ => exact ⟨ρ', hr', h'⟩
  | .loop _, K, a, ρ, w, hr, h => h.elim
  | .exit id, K, a, ρ, w, hr, h => wpIn_exit ⟨ρ, hr, h⟩
  | .label l, K, a, ρ, w, hr, h => wpIn_label ⟨ρ, hr, h⟩
  | .ret, K, a, ρ, w, hr, h => wpIn_ret ⟨ρ, hr, h⟩
  | .rangeFunc .., K, a, ρ, w, hr, h => h.elim
  | .scope c, K, a, ρ, w, hr, h => by
    refine wpIn_scope_straight (wpIn_mono (vc_ok hm hF c _ a ρ w hr h) ?_)
    rintro e a' w' ⟨ρ', hr', h'⟩
    cases e with
    | goto l => exact h'
    | _ => exact ⟨ρ', hr', h'⟩
  | .goto l, K, a, ρ, w, hr, h => wpIn_goto ⟨ρ, hr, h⟩
  | .refuse _, K, a, ρ, w, hr, h => h.elim
def resOne (tmps : Array Value) : ResultVar → Sem Value
  | .tmp t => pure (tmps.getD t undef)
  | .cell a t => do loadVar t (← asAddr (tmps.getD a undef))
theorem resOne_ok {ρ : Env} {a : Act} {w : World} (hr : Rel M N a ρ) : ∀ (rs : List ResultVar) (vs : List Value) (K : Value → World → Prop), resL P N rs vs ρ w K →
    ∃ us, (rs.mapM (resOne a.tmps)).run P w = .ok us w ∧ K (if h : (vs ++ us).length = 1 then (vs ++ us)[0] else .tuple ⟨vs ++ us⟩) w
  | [], [], K, h => ⟨[], rfl, by simpa [resL] using h⟩
  | [], [v], K, h => ⟨[], rfl, by simpa [resL] using h⟩
  | [], v :: u :: vs, K, h => ⟨[], rfl, by simpa [resL] using h⟩
  | .tmp t :: r, vs, K, h => by
    have hv : a.tmps.getD t undef = ev N ρ (.tmp t) := hr.eval (.tmp t)
    obtain ⟨us, hu, hK⟩ := resOne_ok hr r (vs ++ [ev N ρ (.tmp t)]) K (by simpa only [resL] using h)
    refine ⟨ev N ρ (.tmp t) :: us, ?_, by simpa using hK⟩
    simp only [List.mapM_cons, Sem.run_bind, resOne, Sem.run_pure, Result.andThen_ok, hu, hv]
  | .cell c t :: r, vs, K, h => by
    have hv : a.tmps.getD c undef = ev N ρ (.tmp c) := hr.eval (.tmp c)
    simp only [resL] at h
    obtain ⟨v, hk, hrun⟩ := vcLoad_ok h
    have hx := hrun 0
    obtain ⟨us, hu, hK⟩ := resOne_ok hr r (vs ++ [v]) K hk
    refine ⟨v :: us, ?_, by simpa using hK⟩
    cases hA : ev N ρ (.tmp c) with
    | pointer A =>
      rw [hA] at hx h
      simp only [vcLoad] at h
      obtain ⟨b, rfl, _⟩ := ptr_some h
      simp only [Instr.loadAt, Instr.sureAddr, Sem.run_bind, Sem.run_pure, Result.andThen_ok, World.drewN_zero] at hx
      simp only [List.mapM_cons, Sem.run_bind, resOne, hv, hA, asAddr, Sem.run_pure, Result.andThen_ok, hx, hu]
    | _ => rw [hA] at h; exact h.elim
theorem resK_ok {fn : Func} {ρ : Env} {a : Act} {w : World} {K : Value → World → Prop} (hr : Rel M N a ρ) (h : resK P N fn.results.toList ρ w K) :
    ∃ v, (results fn a.tmps).run P w = .ok v w ∧ K v w := by
  obtain ⟨us, hu, hK⟩ := resOne_ok hr fn.results.toList [] K h
  simp only [List.nil_append] at hK
  refine ⟨_, ?_, hK⟩
  have e : results fn a.tmps = (do let vs ← fn.results.mapM (resOne a.tmps); pure (if h : vs.size = 1 then vs[0] else .tuple vs)) := by
    unfold results
    congr 1
  rw [e, Array.mapM_eq_mapM_toList]
  simp only [Sem.run_bind, map_eq_pure_bind, hu, Result.andThen_ok, Sem.run_pure]
  rfl
end
end Go.Proofs.YtechilkjfhpkpaaGreatDoor.Vm

namespace Go.Proofs.YtechilkjfhpkpaaGreatDoor.Vm
open Go
@[reducible] def nilS : Sl := ⟨none, 0, 0⟩
def shl (k : IntKind) (a b : Int) : Int := k.wrap (a * 2 ^ (min b.toNat k.bits))
def shr (k : IntKind) (a b : Int) : Int := a.fdiv (2 ^ (min b.toNat k.bits))
def G.new (o : Obj) (w : World) (K : Addr → World → Prop) : Prop := K ⟨w.heap.size, 0, none⟩ (w.alloc o)
theorem beq_ff {n m : Nat} (h : ¬ n = m) : Nat.beq n m = false := by
  cases hb : Nat.beq n m
  · rfl
  · exact absurd (Nat.eq_of_beq_eq_true hb) h
@[reducible] def Ty : LK → Type
  | .int _ => Int
  | .bool => Bool
  | .str => ByteArray
  | .sl => Sl
  | .ptr => Option Addr
  | .map => Option Nat
  | .fl _ => Nat
  | .raw => Value
  | .bad => Unit
def enc : (l : LK) → Ty l → Value
  | .int k, n => .int k n
  | .bool, n => .bool n
  | .str, n => .string n
  | .sl, s => s.v
  | .ptr, n => .pointer n
  | .map, n => .map n
  | .fl k, n => .float k n
  | .raw, v => v
  | .bad, _ => undef
def dec : (l : LK) → Value → (Ty l → Prop) → Prop
  | .int k, v, f => match v with | .int k' n => (match decide (k' = k) with | true => f n | false => False) | _ => False
  | .bool, v, f => match v with | .bool n => f n | _ => False
  | .str, v, f => match v with | .string n => f n | _ => False
  | .sl, v, f => match v with | .slice a n c => f ⟨a, n, c⟩ | _ => False
  | .ptr, v, f => match v with | .pointer n => f n | _ => False
  | .map, v, f => match v with | .map n => f n | _ => False
  | .fl k, v, f => match v with | .float k' n => (match decide (k' = k) with | true => f n | false => False) | _ => False
  | .raw, v, f => f v
  | .bad, _, _ => False
theorem dec_ok {l : LK} {v : Value} {f : Ty l → Prop} (h : dec l v f) : ∃ x, v = enc l x ∧ f x := by
  cases l with
  | int k =>
    simp only [dec] at h
    split at h
    · rename_i k' n
      by_cases e : k' = k
      · subst e; rw [decide_eq_true rfl] at h; exact ⟨n, rfl, h⟩
      · rw [decide_eq_false e] at h; exact h.elim
    · exact h.elim
  | fl k =>
    simp only [dec] at h
    split at h
    · rename_i k' n
      by_cases e : k' = k
      · subst e; rw [decide_eq_true rfl] at h; exact ⟨n, rfl, h⟩
      · rw [decide_eq_false e] at h; exact h.elim
    · exact h.elim
  | raw => exact ⟨v, rfl, h⟩
  | bad => exact h.elim
  | _ =>
    simp only [dec] at h
    split at h
    · exact ⟨_, rfl, h⟩
    · exact h.elim
inductive SE where
  | v (slot : Nat) (l : LK)
  | agg (slot : Nat) (ls : List LK)
@[reducible] def CurL : List LK → Type → Type
  | [], R => R
  | l :: r, R => Ty l → CurL r R
@[reducible] def Cur : List SE → Type
  | [] => World → Prop
  | .v _ l :: r => Ty l → Cur r
  | .agg _ ls :: r => CurL ls (Cur r)
@[reducible] def TupL : List LK → Type
  | [] => Unit
  | l :: r => Ty l × TupL r
@[reducible] def Tup : List SE → Type
  | [] => Unit
  | .v _ l :: r => Ty l × Tup r
  | .agg _ ls :: r => TupL ls × Tup r
def encL : (ls : List LK) → TupL ls → List Value
  | [], _ => []
  | l :: r, v => enc l v.1 :: encL r v.2
def emb : (sg : List SE) → Tup sg → Env → Env
  | [], _, ρ => ρ
  | .v s l :: r, v, ρ => upd (emb r v.2 ρ) s (enc l v.1)
  | .agg s ls :: r, v, ρ => upd (emb r v.2 ρ) s (.agg ⟨encL ls v.1⟩)
def appL : (ls : List LK) → {R : Type} → CurL ls R → TupL ls → R
  | [], _, k, _ => k
  | _ :: r, _, k, v => appL r (k v.1) v.2
def app : (sg : List SE) → Cur sg → Tup sg → World → Prop
  | [], k, _, w => k w
  | .v _ _ :: r, k, v, w => app r (k v.1) v.2 w
  | .agg _ ls :: r, k, v, w => app r (appL ls k v.1) v.2 w
def getL : (ls : List LK) → {R : Type} → CurL ls R → List Value → (R → Prop) → Prop
  | [], _, k, l, f => match l with | [] => f k | _ => False
  | l :: r, _, k, vs, f => match vs with | v :: vs => dec l v fun x => getL r (k x) vs f | [] => False
def get : (sg : List SE) → Cur sg → Env → World → Prop
  | [], k, _, w => k w
  | .v s l :: r, k, ρ, w => dec l (ρ s) fun x => get r (k x) ρ w
  | .agg s ls :: r, k, ρ, w => match ρ s with | .agg ⟨vs⟩ => getL ls k vs fun k => get r k ρ w | _ => False
def curL : (ls : List LK) → {R : Type} → (TupL ls → R) → CurL ls R
  | [], _, f => f ()
  | _ :: r, _, f => fun x => curL r fun v => f (x, v)
def cur : (sg : List SE) → (Tup sg → World → Prop) → Cur sg
  | [], f => f ()
  | .v _ _ :: r, f => fun x => cur r fun v => f (x, v)
  | .agg _ ls :: r, f => curL ls fun x => cur r fun v => f (x, v)
theorem getL_ok : ∀ (ls : List LK) {R : Type} (k : CurL ls R) (vs : List Value) (f : R → Prop), getL ls k vs f → ∃ v : TupL ls, vs = encL ls v ∧ f (appL ls k v)
  | [], R, k, vs, f, h => by
    cases vs with
    | nil => exact ⟨(), rfl, h⟩
    | cons => exact h.elim
  | l :: r, R, k, vs, f, h => by
    cases vs with
    | nil => exact h.elim
    | cons x vs =>
      obtain ⟨y, hy, h⟩ := dec_ok (show dec l x _ from h)
      obtain ⟨v, hv, h⟩ := getL_ok r (k y) vs f h
      exact ⟨(y, v), by rw [hy, hv]; rfl, h⟩
theorem get_ok : ∀ (sg : List SE) (k : Cur sg) {ρ : Env} {w : World}, get sg k ρ w → ∃ v : Tup sg, emb sg v ρ = ρ ∧ app sg k v w
  | [], k, ρ, w, h => ⟨(), rfl, h⟩
  | .v s l :: r, k, ρ, w, h => by
    obtain ⟨y, hy, h⟩ := dec_ok (show dec l (ρ s) _ from h)
    obtain ⟨v, hv, h⟩ := get_ok r (k y) h
    refine ⟨(y, v), ?_, h⟩
    show upd (emb r v ρ) s (enc l y) = ρ
    rw [hv, upd_self hy]
  | .agg s ls :: r, k, ρ, w, h => by
    simp only [get] at h
    split at h
    · rename_i vs hs
      obtain ⟨x, hx, h⟩ := getL_ok ls k vs _ h
      obtain ⟨v, hv, h⟩ := get_ok r _ h
      refine ⟨(x, v), ?_, h⟩
      show upd (emb r v ρ) s (.agg ⟨encL ls x⟩) = ρ
      rw [hv, upd_self (by rw [hs, hx])]
    · exact h.elim
theorem appL_curL : ∀ (ls : List LK) {R : Type} (f : TupL ls → R) (v : TupL ls), appL ls (curL ls f) v = f v
  | [], _, _, _ => rfl
  | _ :: r, _, f, v => appL_curL r (fun u => f (v.1, u)) v.2
theorem app_cur : ∀ (sg : List SE) (f : Tup sg → World → Prop) (v : Tup sg) (w : World), app sg (cur sg f) v w = f v w
  | [], _, _, _ => rfl
  | .v _ _ :: r, f, v, w => app_cur r (fun u => f (v.1, u)) v.2 w
  | .agg _ ls :: r, f, v, w => by
    show app r (appL ls (curL ls fun x => cur r fun u => f (x, u)) v.1) v.2 w = f v w
    rw [appL_curL]
    exact app_cur r (fun u => f (v.1, u)) v.2 w
def loopC (sg : List SE) (B : Cur sg → Cur sg) : Cur sg := cur sg fun v w => ∀ X : Cur sg, (∀ v w, app sg (B X) v w → app sg X v w) → app sg X v w
def bdy (f : Func) : Code := f.body.getD .skip
def s1 : Code → Code | .seq a _ => a | _ => .skip
def s2 : Code → Code | .seq _ b => b | _ => .skip
def blk : Code → Code | .block _ c => c | _ => .skip
def lp : Code → Code | .loop c => c | _ => .skip
def c1 : Code → Code | .cond _ x _ => x | _ => .skip
def c2 : Code → Code | .cond _ _ y => y | _ => .skip
def allS : Code → List Code
  | .seq a r => a :: allS r
  | c => [c]
def heads : Nat → Code → List Code
  | m + 1, .seq a r => a :: heads m r
  | _, _ => []
def tl : Nat → Code → Code
  | m + 1, .seq _ r => tl m r
  | _, c => c
def grp : List Code → Code → Code
  | [], r => r
  | c :: cs, r => .seq c (grp cs r)
def lst : List Code → Code
  | [] => .skip
  | [c] => c
  | c :: cs => .seq c (lst cs)
theorem allS_ne : ∀ c, allS c ≠ []
  | .seq _ _ => by simp [allS]
  | .skip => by simp [allS]
  | .region _ _ _ => by simp [allS]
  | .cond _ _ _ => by simp [allS]
  | .block _ _ => by simp [allS]
  | .loop _ => by simp [allS]
  | .rangeFunc _ _ _ _ => by simp [allS]
  | .exit _ => by simp [allS]
  | .scope _ => by simp [allS]
  | .label _ => by simp [allS]
  | .goto _ => by simp [allS]
  | .ret => by simp [allS]
  | .refuse _ => by simp [allS]
theorem lst_cons (c : Code) {cs : List Code} (h : cs ≠ []) : lst (c :: cs) = .seq c (lst cs) := by
  cases cs with
  | nil => exact absurd rfl h
  | cons _ _ => rfl
theorem lst_allS : ∀ c, lst (allS c) = c
  | .seq a r => by simp only [allS]; rw [lst_cons _ (allS_ne r), lst_allS r]
  | .skip => rfl
  | .region _ _ _ => rfl
  | .cond _ _ _ => rfl
  | .block _ _ => rfl
  | .loop _ => rfl
  | .rangeFunc _ _ _ _ => rfl
  | .exit _ => rfl
  | .scope _ => rfl
  | .label _ => rfl
  | .goto _ => rfl
  | .ret => rfl
  | .refuse _ => rfl
theorem grp_heads : ∀ m c, grp (heads m c) (tl m c) = c
  | 0, c => by cases c <;> rfl
  | m + 1, .seq a r => by simp only [heads, tl, grp]; rw [grp_heads m r]
  | _ + 1, .skip => rfl
  | _ + 1, .region _ _ _ => rfl
  | _ + 1, .cond _ _ _ => rfl
  | _ + 1, .block _ _ => rfl
  | _ + 1, .loop _ => rfl
  | _ + 1, .rangeFunc _ _ _ _ => rfl
  | _ + 1, .exit _ => rfl
  | _ + 1, .scope _ => rfl
  | _ + 1, .label _ => rfl
  | _ + 1, .goto _ => rfl
  | _ + 1, .ret => rfl
  | _ + 1, .refuse _ => rfl
section
variable {P : Program} {F : Clee} {N : Nat}
def vcL (P : Program) (F : Clee) (N : Nat) : List Code → Post → Env → World → Prop
  | [], K, ρ, w => K .normal ρ w
  | c :: cs, K, ρ, w => vc P F N c (next (vcL P F N cs K) K) ρ w
def OkT (P : Program) (M : Bool) (ro : Option Nat) (N : Nat) (sg : List SE) (k : Cur sg) (c : Code) (K : Post) : Prop :=
  ∀ (v : Tup sg) (ρ : Env) (a : Act) (w : World), Rel M N a (emb sg v ρ) → app sg k v w → c.wpIn (Wd ro) 0 P (lift M N K) a w
variable {M : Bool} {ro : Option Nat}
theorem group_wp (hm : P.follows .mixedOrders = true) (hF : FOk P F) {REST : Code} {g : Env → World → Prop} {K : Post} (hn : ∀ a ρ w, Rel M N a ρ → g ρ w → REST.wpIn (Wd ro) 0 P (lift M N K) a w) :
    ∀ (cs : List Code) (a : Act) (ρ : Env) (w : World), Rel M N a ρ → vcL P F N cs (next g K) ρ w → (grp cs REST).wpIn (Wd ro) 0 P (lift M N K) a w
  | [], a, ρ, w, hr, h => hn _ _ _ hr h
  | c :: cs, a, ρ, w, hr, h => by
    refine wpIn_seq (wpIn_mono (vc_ok hm hF c _ a ρ w hr h) ?_)
    rintro e a' w' ⟨ρ', hr', h'⟩
    cases e with
    | normal => exact group_wp hm hF hn cs _ _ _ hr' h'
    | _ => exact ⟨ρ', hr', h'⟩
theorem last_wp (hm : P.follows .mixedOrders = true) (hF : FOk P F) {K : Post} : ∀ (cs : List Code) (a : Act) (ρ : Env) (w : World), Rel M N a ρ → vcL P F N cs K ρ w → (lst cs).wpIn (Wd ro) 0 P (lift M N K) a w
  | [], a, ρ, w, hr, h => wpIn_skip ⟨ρ, hr, h⟩
  | [c], a, ρ, w, hr, h => by
    refine wpIn_mono (vc_ok hm hF c _ a ρ w hr h) ?_
    rintro e a' w' ⟨ρ', hr', h'⟩
    cases e with
    | normal => exact ⟨ρ', hr', h'⟩
    | _ => exact ⟨ρ', hr', h'⟩
  | c :: d :: cs, a, ρ, w, hr, h => by
    refine wpIn_seq (wpIn_mono (vc_ok hm hF c _ a ρ w hr h) ?_)
    rintro e a' w' ⟨ρ', hr', h'⟩
    cases e with
    | normal => exact last_wp hm hF (d :: cs) _ _ _ hr' h'
    | _ => exact ⟨ρ', hr', h'⟩
theorem ok_last (hm : P.follows .mixedOrders = true) (hF : FOk P F) {sg : List SE} {k : Cur sg} {c : Code} {K : Post}
    (h : ∀ v ρ w, app sg k v w = vcL P F N (allS c) K (emb sg v ρ) w) : OkT P M ro N sg k c K := by
  intro v ρ a w hr hk
  have := last_wp (ro := ro) hm hF (allS c) a _ w hr (h v ρ w ▸ hk)
  rwa [lst_allS] at this
theorem ok_group (hm : P.follows .mixedOrders = true) (hF : FOk P F) (m : Nat) {sg sg' : List SE} {k : Cur sg} {k' : Cur sg'} {c : Code} {K : Post} (hR : OkT P M ro N sg' k' (tl m c) K)
    (h : ∀ v ρ w, app sg k v w = vcL P F N (heads m c) (next (get sg' k') K) (emb sg v ρ) w) : OkT P M ro N sg k c K := by
  intro v ρ a w hr hk
  have := group_wp (ro := ro) hm hF (REST := tl m c) (g := get sg' k') (K := K) (fun a ρ w hr hg => by
    obtain ⟨v', he, hk'⟩ := get_ok sg' k' hg
    exact hR v' ρ a w (by rw [he]; exact hr) hk') (heads m c) a _ w hr (h v ρ w ▸ hk)
  rwa [grp_heads] at this
theorem ok_seq {sg sg' : List SE} {k : Cur sg} {k' : Cur sg'} {c : Code} {K : Post} (hc : c = .seq (s1 c) (s2 c)) (hR : OkT P M ro N sg' k' (s2 c) K)
    (h : OkT P M ro N sg k (s1 c) (next (get sg' k') K)) : OkT P M ro N sg k c K := by
  intro v ρ a w hr hk
  rw [hc]
  refine wpIn_seq (wpIn_mono (h v ρ a w hr hk) ?_)
  rintro e a' w' ⟨ρ', hr', h'⟩
  cases e with
  | normal =>
    obtain ⟨v', he, hk'⟩ := get_ok sg' k' h'
    exact hR v' ρ' a' w' (by rw [he]; exact hr') hk'
  | _ => exact ⟨ρ', hr', h'⟩
theorem ok_block (id : Nat) {sg : List SE} {k : Cur sg} {c : Code} {K : Post} (hc : c = .block id (blk c)) (h : OkT P M ro N sg k (blk c) (inBlock id K)) : OkT P M ro N sg k c K := by
  intro v ρ a w hr hk
  rw [hc]
  refine wpIn_block (wpIn_mono (h v ρ a w hr hk) ?_)
  rintro e a' w' ⟨ρ', hr', h'⟩
  cases e with
  | exit i =>
    simp only [inBlock] at h'
    simp only [Exit.inBlock]
    by_cases hi : i = id
    · subst hi
      rw [if_pos rfl]
      have : Nat.beq i i = true := by simp
      rw [this] at h'
      exact ⟨ρ', hr', h'⟩
    · rw [if_neg hi]
      rw [beq_ff hi] at h'
      exact ⟨ρ', hr', h'⟩
  | _ => exact ⟨ρ', hr', h'⟩
theorem ok_cond (s : Nat) {sg : List SE} {T X Y : Cur sg} {c : Code} {K : Post} (bOf : Tup sg → Bool) (hc : c = .cond (.tmp s) (c1 c) (c2 c)) (hb : ∀ v ρ, ev N (emb sg v ρ) (.tmp s) = .bool (bOf v))
    (h : ∀ v w, app sg T v w = G.cond (bOf v) (app sg X v w) (app sg Y v w)) (hX : OkT P M ro N sg X (c1 c) K) (hY : OkT P M ro N sg Y (c2 c) K) : OkT P M ro N sg T c K := by
  intro v ρ a w hr hk
  rw [h] at hk
  rw [hc]
  refine wpIn_cond (t := bOf v) (by rw [hr.eval, hb]) ?_
  cases hv : bOf v
  · rw [hv] at hk; exact hY v ρ a w hr hk
  · rw [hv] at hk; exact hX v ρ a w hr hk
def LoopIn (ro : Option Nat) (P : Program) (c : Code) (Q : Exit → Act → World → Prop) (a : Act) (w : World) : Prop :=
  ∀ (b : Frame) (k : List Item) (cs : List Frame), b.roundOf = ro → ∃ e a' w', Q e a' w' ∧ ArrivesIn (Machine.fenced P (Wd ro)) P (lone (b.atR a (.code c :: .inLoop c :: k)) cs w) b k cs e a' w'
theorem LoopIn.round {c : Code} {Q : Exit → Act → World → Prop} {a : Act} {w : World} (h : c.wpIn (Wd ro) 0 P (Exit.then (LoopIn ro P c Q) Q) a w) : LoopIn ro P c Q a w := by
  intro b k cs hro
  obtain ⟨e, a₁, w₁, hq, harr⟩ := h b (.inLoop c :: k) cs hro trivial (fun _ h => (by cases h))
  cases e with
  | normal =>
    obtain ⟨e₂, a₂, w₂, hq₂, harr₂⟩ := hq b k cs hro
    exact ⟨e₂, a₂, w₂, hq₂, .of_steps (StepsIn.trans harr (.one (calmW _) stepR_inLoop)) harr₂⟩
  | exit id => exact ⟨_, a₁, w₁, hq, .pass (x := .inLoop c) rfl (fun _ _ => .inl (by simp)) harr⟩
  | goto l => exact ⟨_, a₁, w₁, hq, .pass (x := .inLoop c) rfl (fun _ _ => .inl (by simp)) harr⟩
  | ret => exact ⟨_, a₁, w₁, hq, .pass (x := .inLoop c) rfl (fun _ _ => .inl (by simp)) harr⟩
  | panic ch => exact ⟨_, a₁, w₁, hq, .pass (x := .inLoop c) rfl (fun _ _ => .inl (by simp)) harr⟩
  | outgrown => exact ⟨_, a₁, w₁, hq, .pass (x := .inLoop c) rfl (fun _ _ => .inl (by simp)) harr⟩
theorem LoopIn.loop {c : Code} {Q : Exit → Act → World → Prop} {a : Act} {w : World} (h : LoopIn ro P c Q a w) : (Code.loop c).wpIn (Wd ro) 0 P Q a w := fun b k cs hro _ _ =>
  let ⟨e, a', w', hq, harr⟩ := h b k cs hro
  ⟨e, a', w', hq, .of_steps (.one (calmW _) stepR_loop) harr⟩
def JumpIn (ro : Option Nat) (P : Program) (d rest : Code) (Q : Exit → Act → World → Prop) (a : Act) (w : World) : Prop :=
  ∀ (b : Frame) (k : List Item) (cs : List Frame), b.roundOf = ro → ∃ e a' w', Q e a' w' ∧ ArrivesIn (Machine.fenced P (Wd ro)) P (lone (b.atR a (.code rest :: .inScope d :: k)) cs w) b k cs e a' w'
def Exit.onJump (l : Nat) (J : Act → World → Prop) (Q : Exit → Act → World → Prop) : Exit → Act → World → Prop
  | .goto l', a, w => l' = l ∧ J a w
  | e, a, w => Q e a w
theorem JumpIn.pass {l : Nat} {d rest : Code} {Q : Exit → Act → World → Prop} {a : Act} {w : World} (hf : findLabel d l = some rest) (h : rest.wpIn (Wd ro) 0 P (Exit.onJump l (JumpIn ro P d rest Q) Q) a w) : JumpIn ro P d rest Q a w := by
  intro b k cs hro
  have hg : gotoIn l (.inScope d :: k) = some (.code rest :: .inScope d :: k) := by simp [gotoIn, hf]
  obtain ⟨e, a₁, w₁, hq, harr⟩ := h b (.inScope d :: k) cs hro trivial (fun _ h => (by cases h))
  cases e with
  | normal => exact ⟨.normal, a₁, w₁, hq, StepsIn.trans harr (.one (calmW _) stepR_inScope)⟩
  | exit id =>
    have hx : exitTo id (.inScope d :: k) = exitTo id k := by simp [exitTo]
    exact ⟨.exit id, a₁, w₁, hq, fun k' hk => harr.1 k' (by rw [hx]; exact hk), fun hr' hk => let ⟨k₁, h1, h2⟩ := harr.2 hr' (by rw [hx]; exact hk); ⟨k₁, h1, h2⟩⟩
  | goto l' =>
    obtain ⟨rfl, hJ⟩ := hq
    obtain ⟨e₂, a₂, w₂, hq₂, harr₂⟩ := hJ b k cs hro
    exact ⟨e₂, a₂, w₂, hq₂, .of_steps (harr.1 _ hg) harr₂⟩
  | ret => exact ⟨_, a₁, w₁, hq, harr⟩
  | panic ch => exact ⟨_, a₁, w₁, hq, harr⟩
  | outgrown => exact ⟨_, a₁, w₁, hq, harr⟩
theorem JumpIn.scope {l : Nat} {d rest : Code} {Q : Exit → Act → World → Prop} {a : Act} {w : World} (hf : findLabel d l = some rest) (h : d.wpIn (Wd ro) 0 P (Exit.onJump l (JumpIn ro P d rest Q) Q) a w) : (Code.scope d).wpIn (Wd ro) 0 P Q a w := by
  intro b k cs hro hb hr
  have hg : gotoIn l (.inScope d :: k) = some (.code rest :: .inScope d :: k) := by simp [gotoIn, hf]
  obtain ⟨e, a₁, w₁, hq, harr⟩ := h b (.inScope d :: k) cs hro hb hr
  have s0 := StepsIn.one (I := Machine.fenced P (Wd ro)) (calmW _) (stepR_scope (P := P) (b := b) (a := a) (k := k) (cs := cs) (w := w) (c := d))
  cases e with
  | normal => exact ⟨.normal, a₁, w₁, hq, s0.trans (StepsIn.trans harr (.one (calmW _) stepR_inScope))⟩
  | exit id =>
    have hx : exitTo id (.inScope d :: k) = exitTo id k := by simp [exitTo]
    exact ⟨.exit id, a₁, w₁, hq, fun k' hk => s0.trans (harr.1 k' (by rw [hx]; exact hk)), fun hr' hk => let ⟨k₁, h1, h2⟩ := harr.2 hr' (by rw [hx]; exact hk); ⟨k₁, h1, s0.trans h2⟩⟩
  | goto l' =>
    obtain ⟨rfl, hJ⟩ := hq
    obtain ⟨e₂, a₂, w₂, hq₂, harr₂⟩ := hJ b k cs hro
    exact ⟨e₂, a₂, w₂, hq₂, .of_steps (s0.trans (harr.1 _ hg)) harr₂⟩
  | ret => exact ⟨_, a₁, w₁, hq, .of_steps s0 harr⟩
  | panic ch => exact ⟨_, a₁, w₁, hq, .of_steps s0 harr⟩
  | outgrown => exact ⟨_, a₁, w₁, hq, .of_steps s0 harr⟩
theorem ok_loop {sg : List SE} {c : Code} {K : Post} {B : Cur sg → Cur sg} (hc : c = .loop (lp c)) (hB : ∀ kc, OkT P M ro N sg (B kc) (lp c) (next (get sg kc) K)) : OkT P M ro N sg (loopC sg B) c K := by
  intro v ρ a w hr hk
  unfold loopC at hk
  rw [app_cur] at hk
  rw [hc]
  have h := hk (cur sg fun v w => ∀ ρ a, Rel M N a (emb sg v ρ) → LoopIn ro P (lp c) (lift M N K) a w) (fun v w hb => by
    rw [app_cur]
    intro ρ a hr
    refine LoopIn.round (wpIn_mono (hB _ v ρ a w hr hb) ?_)
    rintro e a' w' ⟨ρ', hr', h'⟩
    cases e with
    | normal =>
      obtain ⟨v', he, hk'⟩ := get_ok sg _ h'
      rw [app_cur] at hk'
      exact hk' ρ' a' (by rw [he]; exact hr')
    | _ => exact ⟨ρ', hr', h'⟩)
  rw [app_cur] at h
  exact (h ρ a hr).loop
end
abbrev CL := List Value → (Value → World → Prop) → World → Prop
def HasBody (P : Program) (n : Nat) : Prop := ∃ fn, P.funcs[n]? = some fn ∧ (fn.name == "runtime.NumGoroutine") = false ∧ fn.body.isNone = false
def OkC (P : Program) (n : Nat) (f : CL) : Prop := ∀ args K w, f args K w → HasBody P n ∧ Calls P n args.toArray w (fun e w' => ∃ v, e = .returned v ∧ K v w')
def OkX (P : Program) (n : Nat) (f : CL) : Prop := ∀ args K w, f args K w → ∃ v w', (callFunc n args.toArray).run P w = .ok (.value v) w' ∧ K v w'
def ofL : List (Nat × CL) → Clee
  | [] => fun _ _ _ _ => False
  | (m, f) :: r => fun n args K w => bif Nat.beq n m then f args K w else ofL r n args K w
section
variable {P : Program}
theorem FOk_nil : FOk P (ofL []) := fun _ _ _ _ h => h.elim
theorem FOk_cons {m : Nat} {f : CL} {r : List (Nat × CL)} (h : OkC P m f) (hr : FOk P (ofL r)) : FOk P (ofL ((m, f) :: r)) := by
  intro n args K w hf
  simp only [ofL] at hf
  by_cases e : n = m
  · subst e
    have : Nat.beq n n = true := by simp
    rw [this] at hf
    exact .inl (h args K w hf)
  · rw [beq_ff e] at hf
    exact hr n args K w hf
theorem FOk_consX {m : Nat} {f : CL} {r : List (Nat × CL)} (h : OkX P m f) (hr : FOk P (ofL r)) : FOk P (ofL ((m, f) :: r)) := by
  intro n args K w hf
  simp only [ofL] at hf
  by_cases e : n = m
  · subst e
    have : Nat.beq n n = true := by simp
    rw [this] at hf
    exact .inr (h args K w hf)
  · rw [beq_ff e] at hf
    exact hr n args K w hf
def FOkB (P : Program) (F : Clee) : Prop := ∀ n args K w, F n args K w → HasBody P n ∧ Calls P n args.toArray w (fun e w' => ∃ v, e = .returned v ∧ K v w')
theorem FOkB_nil : FOkB P (ofL []) := fun _ _ _ _ h => h.elim
theorem FOkB_cons {m : Nat} {f : CL} {r : List (Nat × CL)} (h : OkC P m f) (hr : FOkB P (ofL r)) : FOkB P (ofL ((m, f) :: r)) := by
  intro n args K w hf
  simp only [ofL] at hf
  by_cases e : n = m
  · subst e
    have : Nat.beq n n = true := by simp
    rw [this] at hf
    exact h args K w hf
  · rw [beq_ff e] at hf
    exact hr n args K w hf
end
def jump : Exit → Option (Option Code)
  | .normal => some none
  | .ret => some (some .ret)
  | .exit i => some (some (.exit i))
  | _ => none
def G.rangeF (F : Clee) (f : Value) (P : Program) (B : List Value → World → (Exit → World → Prop) → Prop) (w : World) (K : Exit → Nat → World → Prop) : Prop :=
  match f with
  | .func (.func n) first captured => ∀ rec : LoopState → Option Code → Obj, (∀ s j, (rec s j).isCells = false) →
      (∀ (args : List Value) (w1 : World) (R : Value → World → Prop), w1.heap[w.heap.size + 1]? = some (rec .ready none) →
        B args (w1.putObj (w.heap.size + 1) (rec .busy none)) (fun e w2 => w2.heap[w.heap.size + 1]? = some (rec .busy none) ∧
          ∃ j, jump e = some j ∧ R (.bool j.isNone) (w2.putObj (w.heap.size + 1) (rec (if j.isNone then .ready else .done) j))) → G.yieldAt P (w.heap.size + 1) args w1 R) →
      F n (first.toList ++ [.func (.yield (w.heap.size + 1)) #[] #[]] ++ captured.toList) (fun _ w3 => ∃ st e j, jump e = some j ∧ st ≠ LoopState.busy ∧ w3.heap[w.heap.size + 1]? = some (rec st j) ∧ K e w.heap.size (w3.putObj (w.heap.size + 1) (rec .exhausted j)))
        ((w.alloc (.deferred (some []))).alloc (rec .ready none))
  | _ => False
def G.rangeW (F : Clee) (f : Value) (P : Program) (B : List Value → World → ((World → Prop) → World → Prop) → (Exit → World → Prop) → Prop) (w : World) (K : Exit → Nat → World → Prop) : Prop :=
  match f with
  | .func (.func n) first captured => ∀ rec : LoopState → Option Code → Obj, (∀ s j, (rec s j).isCells = false) →
      (∀ (args : List Value) (w1 : World) (R : Value → World → Prop), w1.heap[w.heap.size + 1]? = some (rec .ready none) →
        B args w1 (fun X w' => w'.heap[w.heap.size + 1]? = some (rec .ready none) ∧ X (w'.putObj (w.heap.size + 1) (rec .busy none))) (fun e w2 => w2.heap[w.heap.size + 1]? = some (rec .busy none) ∧
          ∃ j, jump e = some j ∧ R (.bool j.isNone) (w2.putObj (w.heap.size + 1) (rec (if j.isNone then .ready else .done) j))) → G.yieldAt P (w.heap.size + 1) args w1 R) →
      F n (first.toList ++ [.func (.yield (w.heap.size + 1)) #[] #[]] ++ captured.toList) (fun _ w3 => ∃ st e j, jump e = some j ∧ st ≠ LoopState.busy ∧ w3.heap[w.heap.size + 1]? = some (rec st j) ∧ K e w.heap.size (w3.putObj (w.heap.size + 1) (rec .exhausted j)))
        ((w.alloc (.deferred (some []))).alloc (rec .ready none))
  | _ => False
def asg : Code → Code | .rangeFunc _ _ a _ => a | _ => .skip
def rbd : Code → Code | .rangeFunc _ _ _ b => b | _ => .skip
def bindP (N : Nat) : List (Nat × Value) → Env → Env
  | [], ρ => ρ
  | (t, v) :: r, ρ => bindP N r (put N ρ (some t) v)
def RP (R : Exit → World → Prop) : Post := fun e _ w => match e with | .normal => R e w | .ret => R e w | .exit _ => R e w | _ => False
section
variable {P : Program} {F Fc : Clee} {N : Nat}
theorem bind_rel : ∀ (l : List (Nat × Value)) (tmps : Array Value) (ρ : Env), Rel false N { tmps := tmps, defers := [] } ρ →
    Rel false N { tmps := l.foldl (fun t (p : Nat × Value) => t.setIfInBounds p.1 p.2) tmps, defers := [] } (bindP N l ρ)
  | [], _, _, h => h
  | (t, v) :: l, _, _, h => bind_rel l _ _ (h.put (some t) v)
theorem ok_range (hm : P.follows .mixedOrders = true) (hF : FOk P F) (hFc : FOkB P Fc) {sg sgB : List SE} {s : Nat} {ps : Array Nat} {T : Cur sg} {c : Code} {K : Post}
    {Bt : Tup sg → List Value → World → (Exit → World → Prop) → Prop} {kB : (Exit → World → Prop) → Cur sgB} {out : Tup sg → Exit → Nat → World → Prop}
    (hc : c = .rangeFunc (.tmp s) ps (asg c) (rbd c))
    (hT : ∀ v ρ w, app sg T v w = G.rangeF Fc (ev N (emb sg v ρ) (.tmp s)) P (Bt v) w (out v))
    (hA : ∀ v ρ args w wb R, Bt v args wb R → args.length = ps.size ∧ vc P F N (asg c) (next (fun ρ' w' => w' = w ∧ get sgB (kB R) ρ' wb) (fun _ _ _ => False)) (bindP N (ps.toList.zip args) (emb sg v ρ)) w)
    (hB : ∀ R l, OkT P false (some l) N sgB (kB R) (rbd c) (RP R))
    (hK : ∀ v ρ e D w, out v e D w → K e (upd (emb sg v ρ) N (pushMark (emb sg v ρ N) D)) w) : OkT P true none N sg T c K := by
  intro v ρ a w hr hk
  rw [hT v ρ] at hk
  rw [hc]
  unfold G.rangeF at hk
  split at hk
  case h_2 => exact hk.elim
  rename_i n first captured hf
  refine wpIn_rangeFunc fun fn _ => ?_
  obtain ⟨rec, hrec⟩ : ∃ rec : LoopState → Option Code → Loop, rec = fun st pe => { state := st, pending := pe, fn, tmps := a.tmps, params := ps, assign := asg c, body := rbd c, defers := w.heap.size } := ⟨_, rfl⟩
  have hL1 : ((w.alloc (.deferred (some []))).alloc (.loop (rec .ready none))).heap[w.heap.size + 1]? = some (.loop (rec .ready none)) := by
    have := World.alloc_heap_new (w.alloc (.deferred (some []))) (.loop (rec .ready none)); rwa [World.size_alloc] at this
  have hcall := hk (fun st pe => .loop (rec st pe)) (fun _ _ => rfl) (by
    intro args w1 R hl hb
    obtain ⟨hlen, hassign⟩ := hA v ρ args w1 _ _ hb
    have hlt : w.heap.size + 1 < w1.heap.size := (Array.getElem?_eq_some_iff.1 hl).1
    have hy := run_yield (P := P) (args := args.toArray) hl (by rw [hrec]; simpa using hlen)
    rw [hrec] at hy
    refine ⟨fn, _, asg c, rbd c, hy, roundIn_of_wpIn trivial ?_⟩
    have hrel : Rel false N { tmps := (ps.zip args.toArray).foldl (fun tmps (t, a) => tmps.setIfInBounds t a) a.tmps, defers := [] } (bindP N (ps.toList.zip args) (emb sg v ρ)) := by
      have := bind_rel (N := N) (ps.toList.zip args) a.tmps (emb sg v ρ) ⟨hr.size, rfl, hr.get⟩
      rw [← Array.foldl_toList, Array.toList_zip]
      exact this
    refine wpIn_mono (vc_ok (ro := some (w.heap.size + 1)) hm hF (asg c) _ _ _ w1 hrel hassign) ?_
    rintro e a1 w1' ⟨ρ1, hr1, h1⟩
    cases e with
    | normal =>
      obtain ⟨rfl, h1⟩ := h1
      obtain ⟨v', he, hk'⟩ := get_ok sgB _ h1
      refine ⟨_, run_beginRound hl (by rw [hrec]), ?_⟩
      refine wpIn_mono (hB _ (w.heap.size + 1) v' ρ1 a1 _ (by rw [he]; exact hr1) (by rw [hrec] at hk' ⊢; exact hk')) ?_
      have fin : ∀ (e : Exit) (a2 : Act) (w2 : World), RP (fun e w2 => w2.heap[w.heap.size + 1]? = some (.loop (rec .busy none)) ∧ ∃ j, jump e = some j ∧ R (.bool j.isNone) (w2.putObj (w.heap.size + 1) (.loop (rec (if j.isNone then .ready else .done) j)))) e ρ1 w2 →
          roundPost P (w.heap.size + 1) (fun e w' => ∃ v, e = .returned v ∧ R v w') e a2 w2 := by
        intro e a2 w2 h2
        have go : ∀ j, w2.heap[w.heap.size + 1]? = some (.loop (rec .busy none)) → R (.bool j.isNone) (w2.putObj (w.heap.size + 1) (.loop (rec (if j.isNone then .ready else .done) j))) →
            ∃ u w', (Instr.endRound (w.heap.size + 1) j).run P w2 = .ok u w' ∧ (fun e w' => ∃ v, e = Ending.returned v ∧ R v w') (.returned u) w' := by
          intro j h3 h4
          have := run_endRound (P := P) j h3
          rw [hrec] at this h4
          exact ⟨_, _, this, _, rfl, h4⟩
        cases e with
        | normal => obtain ⟨h3, j, hj, h4⟩ := h2; cases hj; exact go none h3 h4
        | ret => obtain ⟨h3, j, hj, h4⟩ := h2; cases hj; exact go (some .ret) h3 h4
        | exit i => obtain ⟨h3, j, hj, h4⟩ := h2; cases hj; exact go (some (.exit i)) h3 h4
        | _ => exact h2.elim
      rintro e a2 w2 ⟨ρ2, hr2, h2⟩
      refine fin e a2 w2 ?_
      subst hrec
      cases e <;> exact h2
    | _ => exact h1.elim)
  obtain ⟨hbody, hcalls⟩ := hFc _ _ _ _ hcall
  have ee : (first.toList ++ [Value.func (.yield (w.heap.size + 1)) #[] #[]] ++ captured.toList).toArray = first ++ #[Value.func (.yield (w.heap.size + 1)) #[] #[]] ++ captured := by
    apply Array.ext'
    simp
  refine ⟨w.heap.size + 1, [{ target := .collected w.heap.size, args := #[] }], (w.alloc (.deferred (some []))).alloc (.loop (rec .ready none)), { target := .fn (.func n) captured, args := first ++ #[.func (.yield (w.heap.size + 1)) #[] #[]] },
    (w.alloc (.deferred (some []))).alloc (.loop (rec .ready none)), n, first ++ #[.func (.yield (w.heap.size + 1)) #[] #[]] ++ captured, (w.alloc (.deferred (some []))).alloc (.loop (rec .ready none)), by rw [hrec]; exact run_enterLoop_outer fn a.tmps ps (asg c) (rbd c), ?_, fun _ _ => trivial, ?_, fun h => (by cases h), ?_⟩
  · simp only [resolve, hr.eval, hf, Deferred.ofValue]
    simp [Act.eval]
  · simp only [invoke]
    exact callFunc_run hbody
  · rw [ee] at hcalls
    subst hrec
    refine CallsIn.mono (F := Wd none) (n := 0) (callsIn_wide.2 hcalls) ?_
    rintro e w3 ⟨u, rfl, st, e, j, hj, hst, hl, hout⟩
    refine ⟨j, _, run_endLoop hl hst, ?_⟩
    have hr' : Rel true N { a with defers := [{ target := .collected w.heap.size, args := #[] }] ++ a.defers } (upd (emb sg v ρ) N (pushMark (emb sg v ρ N) w.heap.size)) := by
      refine ⟨hr.size, ?_, fun i hi => ?_⟩
      · rw [upd_eq]
        simp only [cond_true, marksOf_push]
        have := hr.defers
        simp only [cond_true] at this
        rw [← this]; rfl
      · rw [upd_ne (by omega)]; exact hr.get i hi
    have hk' := hK v ρ e w.heap.size _ hout
    cases e with
    | normal => cases hj; exact ⟨_, hr', hk'⟩
    | ret => cases hj; exact wpIn_ret ⟨_, hr', hk'⟩
    | exit i => cases hj; exact wpIn_exit ⟨_, hr', hk'⟩
    | _ => cases hj
theorem ok_rangeW (hm : P.follows .mixedOrders = true) (hF : FOk P F) (hFc : FOkB P Fc) {sg sgB : List SE} {s : Nat} {ps : Array Nat} {T : Cur sg} {c : Code} {K : Post}
    {Bt : Tup sg → List Value → World → ((World → Prop) → World → Prop) → (Exit → World → Prop) → Prop} {kB : (Exit → World → Prop) → Cur sgB} {out : Tup sg → Exit → Nat → World → Prop}
    (hc : c = .rangeFunc (.tmp s) ps (asg c) (rbd c))
    (hT : ∀ v ρ w, app sg T v w = G.rangeW Fc (ev N (emb sg v ρ) (.tmp s)) P (Bt v) w (out v))
    (hA : ∀ v ρ args w bz R, Bt v args w bz R → args.length = ps.size ∧ vc P F N (asg c) (next (fun ρ' w' => bz (get sgB (kB R) ρ') w') (fun _ _ _ => False)) (bindP N (ps.toList.zip args) (emb sg v ρ)) w)
    (hB : ∀ R l, OkT P false (some l) N sgB (kB R) (rbd c) (RP R))
    (hK : ∀ v ρ e D w, out v e D w → K e (upd (emb sg v ρ) N (pushMark (emb sg v ρ N) D)) w) : OkT P true none N sg T c K := by
  intro v ρ a w hr hk
  rw [hT v ρ] at hk
  rw [hc]
  unfold G.rangeW at hk
  split at hk
  case h_2 => exact hk.elim
  rename_i n first captured hf
  refine wpIn_rangeFunc fun fn _ => ?_
  obtain ⟨rec, hrec⟩ : ∃ rec : LoopState → Option Code → Loop, rec = fun st pe => { state := st, pending := pe, fn, tmps := a.tmps, params := ps, assign := asg c, body := rbd c, defers := w.heap.size } := ⟨_, rfl⟩
  have hL1 : ((w.alloc (.deferred (some []))).alloc (.loop (rec .ready none))).heap[w.heap.size + 1]? = some (.loop (rec .ready none)) := by
    have := World.alloc_heap_new (w.alloc (.deferred (some []))) (.loop (rec .ready none)); rwa [World.size_alloc] at this
  have hcall := hk (fun st pe => .loop (rec st pe)) (fun _ _ => rfl) (by
    intro args w1 R hl hb
    obtain ⟨hlen, hassign⟩ := hA v ρ args w1 _ _ hb
    have hlt : w.heap.size + 1 < w1.heap.size := (Array.getElem?_eq_some_iff.1 hl).1
    have hy := run_yield (P := P) (args := args.toArray) hl (by rw [hrec]; simpa using hlen)
    rw [hrec] at hy
    refine ⟨fn, _, asg c, rbd c, hy, roundIn_of_wpIn trivial ?_⟩
    have hrel : Rel false N { tmps := (ps.zip args.toArray).foldl (fun tmps (t, a) => tmps.setIfInBounds t a) a.tmps, defers := [] } (bindP N (ps.toList.zip args) (emb sg v ρ)) := by
      have := bind_rel (N := N) (ps.toList.zip args) a.tmps (emb sg v ρ) ⟨hr.size, rfl, hr.get⟩
      rw [← Array.foldl_toList, Array.toList_zip]
      exact this
    refine wpIn_mono (vc_ok (ro := some (w.heap.size + 1)) hm hF (asg c) _ _ _ w1 hrel hassign) ?_
    rintro e a1 w1' ⟨ρ1, hr1, h1⟩
    cases e with
    | normal =>
      obtain ⟨hl', h1⟩ := h1
      obtain ⟨v', he, hk'⟩ := get_ok sgB _ h1
      refine ⟨_, run_beginRound hl' (by rw [hrec]), ?_⟩
      refine wpIn_mono (hB _ (w.heap.size + 1) v' ρ1 a1 _ (by rw [he]; exact hr1) (by rw [hrec] at hk' ⊢; exact hk')) ?_
      have fin : ∀ (e : Exit) (a2 : Act) (w2 : World), RP (fun e w2 => w2.heap[w.heap.size + 1]? = some (.loop (rec .busy none)) ∧ ∃ j, jump e = some j ∧ R (.bool j.isNone) (w2.putObj (w.heap.size + 1) (.loop (rec (if j.isNone then .ready else .done) j)))) e ρ1 w2 →
          roundPost P (w.heap.size + 1) (fun e w' => ∃ v, e = .returned v ∧ R v w') e a2 w2 := by
        intro e a2 w2 h2
        have go : ∀ j, w2.heap[w.heap.size + 1]? = some (.loop (rec .busy none)) → R (.bool j.isNone) (w2.putObj (w.heap.size + 1) (.loop (rec (if j.isNone then .ready else .done) j))) →
            ∃ u w', (Instr.endRound (w.heap.size + 1) j).run P w2 = .ok u w' ∧ (fun e w' => ∃ v, e = Ending.returned v ∧ R v w') (.returned u) w' := by
          intro j h3 h4
          have := run_endRound (P := P) j h3
          rw [hrec] at this h4
          exact ⟨_, _, this, _, rfl, h4⟩
        cases e with
        | normal => obtain ⟨h3, j, hj, h4⟩ := h2; cases hj; exact go none h3 h4
        | ret => obtain ⟨h3, j, hj, h4⟩ := h2; cases hj; exact go (some .ret) h3 h4
        | exit i => obtain ⟨h3, j, hj, h4⟩ := h2; cases hj; exact go (some (.exit i)) h3 h4
        | _ => exact h2.elim
      rintro e a2 w2 ⟨ρ2, hr2, h2⟩
      refine fin e a2 w2 ?_
      subst hrec
      cases e <;> exact h2
    | _ => exact h1.elim)
  obtain ⟨hbody, hcalls⟩ := hFc _ _ _ _ hcall
  have ee : (first.toList ++ [Value.func (.yield (w.heap.size + 1)) #[] #[]] ++ captured.toList).toArray = first ++ #[Value.func (.yield (w.heap.size + 1)) #[] #[]] ++ captured := by
    apply Array.ext'
    simp
  refine ⟨w.heap.size + 1, [{ target := .collected w.heap.size, args := #[] }], (w.alloc (.deferred (some []))).alloc (.loop (rec .ready none)), { target := .fn (.func n) captured, args := first ++ #[.func (.yield (w.heap.size + 1)) #[] #[]] },
    (w.alloc (.deferred (some []))).alloc (.loop (rec .ready none)), n, first ++ #[.func (.yield (w.heap.size + 1)) #[] #[]] ++ captured, (w.alloc (.deferred (some []))).alloc (.loop (rec .ready none)), by rw [hrec]; exact run_enterLoop_outer fn a.tmps ps (asg c) (rbd c), ?_, fun _ _ => trivial, ?_, fun h => (by cases h), ?_⟩
  · simp only [resolve, hr.eval, hf, Deferred.ofValue]
    simp [Act.eval]
  · simp only [invoke]
    exact callFunc_run hbody
  · rw [ee] at hcalls
    subst hrec
    refine CallsIn.mono (F := Wd none) (n := 0) (callsIn_wide.2 hcalls) ?_
    rintro e w3 ⟨u, rfl, st, e, j, hj, hst, hl, hout⟩
    refine ⟨j, _, run_endLoop hl hst, ?_⟩
    have hr' : Rel true N { a with defers := [{ target := .collected w.heap.size, args := #[] }] ++ a.defers } (upd (emb sg v ρ) N (pushMark (emb sg v ρ N) w.heap.size)) := by
      refine ⟨hr.size, ?_, fun i hi => ?_⟩
      · rw [upd_eq]
        simp only [cond_true, marksOf_push]
        have := hr.defers
        simp only [cond_true] at this
        rw [← this]; rfl
      · rw [upd_ne (by omega)]; exact hr.get i hi
    have hk' := hK v ρ e w.heap.size _ hout
    cases e with
    | normal => cases hj; exact ⟨_, hr', hk'⟩
    | ret => cases hj; exact wpIn_ret ⟨_, hr', hk'⟩
    | exit i => cases hj; exact wpIn_exit ⟨_, hr', hk'⟩
    | _ => cases hj
theorem leaves_marks {fn : Func} {tmps : Array Value} {R : Ending → World → Prop} : ∀ (l : List Value) (w : World) (X : World → Prop), marksL l w X → (∀ w', X w' → LeavesIn (Wd none) 0 P fn tmps R [] .returning w') →
    LeavesInM (Wd none) 0 P fn tmps R (l.map markD) .returning w
  | [], w, X, h, hX => hX w h
  | v :: r, w, X, h, hX => by
    simp only [marksL] at h
    split at h
    · rename_i k d
      refine ⟨by simp, .inl ⟨d.toNat, _, rfl, run_takeDeferred h.1, ?_⟩⟩
      exact leaves_marks r _ X h.2 hX
    · exact h.elim
theorem calls_of_lift {M : Bool} {n : FuncId} {fn : Func} {args : List Value} {w : World} {K : Value → World → Prop}
    (hf : P.funcs[n]? = some fn) (hb : fn.body = some (bdy fn)) (hl : args.length ≤ fn.ntmps) (h : ∀ a, Rel M fn.ntmps a (args0 args) → (bdy fn).wpIn (Wd none) 0 P (lift M fn.ntmps (bodyK M P fn.ntmps fn K)) a w) :
    Calls P n args.toArray w (fun e w' => ∃ v, e = .returned v ∧ K v w') := by
  have hm : args0 args fn.ntmps = undef := by
    unfold args0
    rw [nth_eq, List.getElem?_eq_none hl]; rfl
  refine (callsIn_wide (n := 0)).1 (callsIn_of_wp_marks (F := Wd none) hf hb trivial (wpIn_mono (h _ ⟨?_, ?_, ?_⟩) ?_))
  · simp; omega
  · cases M
    · rfl
    · simp only [cond_true, hm]; rfl
  · intro i hi
    rw [Array.getD_eq_getD_getElem?]
    simp only [args0, nth_eq]
    by_cases h1 : i < args.length
    · rw [Array.getElem?_append_left (by simpa using h1)]
      simp
    · rw [Array.getElem?_append_right (by simpa using h1)]
      simp only [List.size_toArray, List.getElem?_eq_none (by omega : args.length ≤ i), Option.getD_none]
      rw [Array.getElem?_replicate]
      split <;> rfl
  · have fin : ∀ (a' : Act) (w' : World) (ρ' : Env), Rel M fn.ntmps a' ρ' → (bif M then G.marks (ρ' fn.ntmps) w' fun w => resK P fn.ntmps fn.results.toList ρ' w K else resK P fn.ntmps fn.results.toList ρ' w' K) →
        LeavesInM (Wd none) 0 P fn a'.tmps (fun e w' => ∃ v, e = Ending.returned v ∧ K v w') a'.defers .returning w' := by
      intro a' w' ρ' hr' h'
      have one : ∀ w', resK P fn.ntmps fn.results.toList ρ' w' K → LeavesIn (Wd none) 0 P fn a'.tmps (fun e w' => ∃ v, e = Ending.returned v ∧ K v w') [] .returning w' := fun w' h' => by
        obtain ⟨v, hv, hk⟩ := resK_ok hr' h'
        exact ⟨v, hv, v, rfl, hk⟩
      cases M
      · have hd := hr'.defers
        simp only [cond_false] at hd h'
        rw [hd]
        exact one w' h'
      · have hd := hr'.defers
        simp only [cond_true] at hd h'
        rw [hd]
        unfold G.marks at h'
        split at h'
        · rename_i cs hcs
          rw [hcs]
          exact leaves_marks cs.toList w' _ h' one
        · rename_i hne
          have : marksOf (ρ' fn.ntmps) = [] := by
            unfold marksOf
            split
            · rename_i cs hcs; exact absurd hcs (hne cs)
            · rfl
          rw [this]
          exact one w' h'
    rintro e a' w' ⟨ρ', hr', h'⟩
    cases e with
    | normal => exact fin a' w' ρ' hr' h'
    | ret => exact fin a' w' ρ' hr' h'
    | _ => exact h'.elim
structure FnOk (P : Program) (n N : Nat) (fn : Func) : Prop where
  f : P.funcs[n]? = some fn
  b : fn.body = some (bdy fn)
  t : fn.ntmps = N
  m : (fn.name == "runtime.NumGoroutine") = false
  i : fn.body.isNone = false
theorem calls_last (M : Bool) (hm : P.follows .mixedOrders = true) (hF : FOk P F) {n : FuncId} {fn : Func} (hfn : FnOk P n N fn) {args : List Value} {w : World} {K : Value → World → Prop} (hl : Nat.ble args.length N = true)
    (h : vcL P F N (allS (bdy fn)) (bodyK M P N fn K) (args0 args) w) :
    HasBody P n ∧ Calls P n args.toArray w (fun e w' => ∃ v, e = .returned v ∧ K v w') := by
  obtain ⟨f, b, t, m, i⟩ := hfn
  subst t
  refine ⟨⟨fn, f, m, i⟩, calls_of_lift (M := M) f b (Nat.le_of_ble_eq_true hl) fun a hr => ?_⟩
  have := last_wp (M := M) (ro := none) hm hF (allS (bdy fn)) a _ w hr h
  rwa [lst_allS] at this
theorem calls_group (M : Bool) (hm : P.follows .mixedOrders = true) (hF : FOk P F) {n : FuncId} {fn : Func} (hfn : FnOk P n N fn) {args : List Value} {w : World} {K : Value → World → Prop} (hl : Nat.ble args.length N = true)
    (m : Nat) {sg : List SE} {k : Cur sg} (hR : OkT P M none N sg k (tl m (bdy fn)) (bodyK M P N fn K))
    (h : vcL P F N (heads m (bdy fn)) (next (get sg k) (bodyK M P N fn K)) (args0 args) w) :
    HasBody P n ∧ Calls P n args.toArray w (fun e w' => ∃ v, e = .returned v ∧ K v w') := by
  obtain ⟨f, b, t, m', i⟩ := hfn
  subst t
  refine ⟨⟨fn, f, m', i⟩, calls_of_lift (M := M) f b (Nat.le_of_ble_eq_true hl) fun a hr => ?_⟩
  have := group_wp (M := M) (ro := none) hm hF (REST := tl m (bdy fn)) (g := get sg k) (K := bodyK M P fn.ntmps fn K) (fun a ρ w hr hg => by
    obtain ⟨v', he, hk'⟩ := get_ok sg k hg
    exact hR v' ρ a w (by rw [he]; exact hr) hk') (heads m (bdy fn)) a _ w hr h
  rwa [grp_heads] at this
end
end Go.Proofs.YtechilkjfhpkpaaGreatDoor.Vm

namespace Go.Proofs.YtechilkjfhpkpaaGreatDoor.Mem
open Go Vm Go.RowKit
theorem cond_of {c : Bool} {X Y : Prop} (h1 : c = true → X) (h2 : c = false → Y) : G.cond c X Y := by
  cases c
  · exact h2 rfl
  · exact h1 rfl
theorem cond_t {c : Bool} {X Y : Prop} (hc : c = true) (h : X) : G.cond c X Y := by subst hc; exact h
theorem cond_f {c : Bool} {X Y : Prop} (hc : c = false) (h : Y) : G.cond c X Y := by subst hc; exact h
theorem cond_d {p : Prop} [Decidable p] {X Y : Prop} (h1 : p → X) (h2 : ¬ p → Y) : G.cond (decide p) X Y :=
  cond_of (fun h => h1 (of_decide_eq_true h)) (fun h => h2 (of_decide_eq_false h))
theorem cond_eq {a b : Int} {X Y : Prop} (h1 : a = b → X) (h2 : a ≠ b → Y) : G.cond (a == b) X Y :=
  cond_of (fun h => h1 (by simpa using h)) (fun h => h2 (by simpa using h))
theorem cond_ne {a b : Int} {X Y : Prop} (h1 : a ≠ b → X) (h2 : a = b → Y) : G.cond (a != b) X Y :=
  cond_of (fun h => h1 (by simpa using h)) (fun h => h2 (by simpa using h))
abbrev Keep (w w' : World) : Prop := Below w.heap.size w w'
theorem Keep.refl (w : World) : Keep w w := Below.refl _ _
theorem Keep.trans {a b c : World} (h : Keep a b) (k : Keep b c) : Keep a c := Below.trans h (Below.mono k h.size)
theorem Keep.drewN (w : World) (d : Nat) : Keep w (w.drewN d) := ⟨rfl, rfl, rfl, Nat.le_refl _, fun _ _ => rfl⟩
theorem Keep.drew (w : World) : Keep w w.drew := ⟨rfl, rfl, rfl, Nat.le_refl _, fun _ _ => rfl⟩
theorem Keep.alloc (w : World) (o : Obj) : Keep w (w.alloc o) := (Below.refl _ _).alloc (Nat.le_refl _) o
theorem cell_lt {w : World} {a : Addr} {v : Value} (h : w.cell? a = some v) : a.block < w.heap.size := World.block_lt_of_cell? w a h
theorem Keep.cell {w w' : World} (h : Keep w w') {a : Addr} {v : Value} (hc : w.cell? a = some v) : w'.cell? a = some v := by
  rw [Below.cell h (cell_lt hc)]; exact hc
theorem heap_lt {w : World} {g : Nat} {o : Obj} (h : w.heap[g]? = some o) : g < w.heap.size := by
  rcases Nat.lt_or_ge g w.heap.size with hlt | hge
  · exact hlt
  · rw [Array.getElem?_eq_none hge] at h; cases h
theorem Keep.heap {w w' : World} (h : Keep w w') {g : Nat} {o : Obj} (hg : w.heap[g]? = some o) : w'.heap[g]? = some o := by
  rw [h.block g (heap_lt hg)]; exact hg
structure Only (g : Nat) (w w' : World) : Prop where
  os : w'.os = w.os
  tape : w'.tape = w.tape
  output : w'.output = w.output
  size : w.heap.size ≤ w'.heap.size
  block : ∀ k, k < w.heap.size → k ≠ g → w'.heap[k]? = w.heap[k]?
theorem Only.refl (g : Nat) (w : World) : Only g w w := ⟨rfl, rfl, rfl, Nat.le_refl _, fun _ _ _ => rfl⟩
theorem Only.trans {g : Nat} {a b c : World} (h : Only g a b) (k : Only g b c) : Only g a c :=
  ⟨k.os.trans h.os, k.tape.trans h.tape, k.output.trans h.output, Nat.le_trans h.size k.size, fun i hi hne => (k.block i (Nat.lt_of_lt_of_le hi h.size) hne).trans (h.block i hi hne)⟩
theorem Keep.only {w w' : World} (h : Keep w w') (g : Nat) : Only g w w' := ⟨h.os, h.tape, h.output, h.size, fun k hk _ => h.block k hk⟩
theorem Only.setCell (g : Nat) (w : World) (o : Nat) (v : Value) : Only g w (w.setCell ⟨g, o, none⟩ v) :=
  ⟨rfl, rfl, rfl, by simp [World.setCell], fun k _ hne => Below.heap_setCell _ _ _ _ hne⟩
theorem Only.heap {g : Nat} {w w' : World} (h : Only g w w') {k : Nat} {o : Obj} (hk : w.heap[k]? = some o) (hne : k ≠ g) : w'.heap[k]? = some o := by
  rw [h.block k (heap_lt hk) hne]; exact hk
theorem Only.cell {g : Nat} {w w' : World} (h : Only g w w') {a : Addr} {v : Value} (hc : w.cell? a = some v) (hne : a.block ≠ g) : w'.cell? a = some v := by
  rw [World.cell?_of_block (w := w) (h.block a.block (cell_lt hc) hne)]; exact hc
theorem Only.below {g B : Nat} {w0 w w' : World} (h : Only g w w') (hb : Below B w0 w) (hB : B ≤ w.heap.size) (hg : B ≤ g) : Below B w0 w' :=
  Below.trans hb ⟨h.os, h.tape, h.output, h.size, fun k hk => h.block k (by omega) (by omega)⟩
def Blk (w : World) (g : Nat) (e : TypeId) (cs : List Value) : Prop := w.heap[g]? = some (.cells cs.toArray e (0, 0))
theorem Blk.lt {w : World} {g : Nat} {e : TypeId} {cs : List Value} (h : Blk w g e cs) : g < w.heap.size := heap_lt h
theorem Blk.keep {w w' : World} {g : Nat} {e : TypeId} {cs : List Value} (h : Blk w g e cs) (k : Keep w w') : Blk w' g e cs := k.heap h
theorem Blk.only {w w' : World} {g g' : Nat} {e : TypeId} {cs : List Value} (h : Blk w g e cs) (k : Only g' w w') (hne : g ≠ g') : Blk w' g e cs := k.heap h hne
theorem Blk.cell {w : World} {g : Nat} {e : TypeId} {cs : List Value} (h : Blk w g e cs) (j : Nat) : w.cell? ⟨g, j, none⟩ = cs[j]? := by
  unfold Blk at h
  simp [World.cell?, h]
theorem Blk.frozen {w : World} {g : Nat} {e : TypeId} {cs : List Value} (h : Blk w g e cs) (j : Nat) : w.frozen? ⟨g, j, none⟩ = false := by
  unfold Blk at h
  simp [World.frozen?, h]
theorem Blk.set {w : World} {g : Nat} {e : TypeId} {cs : List Value} (h : Blk w g e cs) (j : Nat) (v : Value) : Blk (w.setCell ⟨g, j, none⟩ v) g e (cs.set j v) := by
  unfold Blk at h ⊢
  have hg := heap_lt h
  simp only [World.setCell, Array.getElem?_modify, if_true, h, Option.map_some]
  simp
theorem Blk.drew {w : World} {g : Nat} {e : TypeId} {cs : List Value} (h : Blk w g e cs) : Blk w.drew g e cs := h
theorem Blk.drewN {w : World} {g : Nat} {e : TypeId} {cs : List Value} (h : Blk w g e cs) (d : Nat) : Blk (w.drewN d) g e cs := h
theorem Blk.new (w : World) (e : TypeId) (cs : Array Value) : Blk (w.alloc (.cells cs e)) w.heap.size e cs.toList := by
  show (w.heap.push _)[w.heap.size]? = _
  simp
theorem Blk.uniq {w : World} {g : Nat} {e e' : TypeId} {cs cs' : List Value} (h : Blk w g e cs) (h' : Blk w g e' cs') : cs = cs' ∧ e = e' := by
  unfold Blk at h h'
  rw [h] at h'
  injection h' with h'
  injection h' with h1 h2
  exact ⟨by injection h1, h2⟩
theorem addr_add (g o n : Nat) : (⟨g, o, none⟩ : Addr).add n = ⟨g, o + n, none⟩ := by
  unfold Addr.add
  split
  · rename_i h; subst h; rfl
  · rfl
def Rd (w : World) (s : Sl) (sz : Nat) (cs : List Value) : Prop :=
  s.n ≤ s.c ∧ cs.length = s.n * sz ∧ (cs ≠ [] → ∃ g o, s.a = some ⟨g, o, none⟩ ∧ ∀ j v, cs[j]? = some v → w.cell? ⟨g, o + j, none⟩ = some v)
theorem Rd.nil (w : World) (sz : Nat) : Rd w nilS sz [] := ⟨Nat.le_refl _, by simp, fun h => absurd rfl h⟩
theorem Rd.keep {w w' : World} {s : Sl} {sz : Nat} {cs : List Value} (h : Rd w s sz cs) (k : Keep w w') : Rd w' s sz cs :=
  ⟨h.1, h.2.1, fun hne => let ⟨g, o, ha, hc⟩ := h.2.2 hne; ⟨g, o, ha, fun j v hv => k.cell (hc j v hv)⟩⟩
theorem Rd.drew {w : World} {s : Sl} {sz : Nat} {cs : List Value} (h : Rd w s sz cs) : Rd w.drew s sz cs := h
theorem Rd.drewN {w : World} {s : Sl} {sz : Nat} {cs : List Value} (h : Rd w s sz cs) (d : Nat) : Rd (w.drewN d) s sz cs := h
theorem Rd.blk {w : World} {g : Nat} {e : TypeId} {cs : List Value} (h : Blk w g e cs) {o n c sz : Nat} (hn : n ≤ c) (hl : o + n * sz ≤ cs.length) : Rd w ⟨some ⟨g, o, none⟩, n, c⟩ sz ((cs.drop o).take (n * sz)) := by
  refine ⟨hn, by simp; omega, fun _ => ⟨g, o, rfl, fun j v hv => ?_⟩⟩
  rw [h.cell]
  rw [List.getElem?_take] at hv
  split at hv
  · rw [List.getElem?_drop] at hv; exact hv
  · cases hv
theorem Rd.at_ {w : World} {s : Sl} {sz : Nat} {cs : List Value} (h : Rd w s sz cs) {i : Nat} (hi : i < s.n) (hs : 0 < sz) : ∃ g o, s.a = some ⟨g, o, none⟩ ∧ ∀ j v, cs[j]? = some v → w.cell? ⟨g, o + j, none⟩ = some v := by
  refine h.2.2 fun e => ?_
  have := h.2.1
  rw [e] at this
  have : 0 < s.n * sz := Nat.mul_pos (by omega) hs
  simp_all
theorem Rd.ix {w : World} {s : Sl} {sz : Nat} {cs : List Value} (h : Rd w s sz cs) (hs : 0 < sz) {i : Int} (h0 : 0 ≤ i) (h1 : i < s.n) {K : Addr → Prop}
    (hK : ∀ a : Addr, (∀ j v, j < sz → cs[i.toNat * sz + j]? = some v → w.cell? (a.add j) = some v) → K a) : G.ix s.a s.n i sz K := by
  obtain ⟨g, o, ha, hc⟩ := h.at_ (i := i.toNat) (by omega) hs
  rw [ha]
  refine ⟨⟨h0, h1⟩, hK _ fun j v _ hv => ?_⟩
  rw [addr_add, addr_add]
  have := hc _ v hv
  rw [show o + i.toNat * sz + j = o + (i.toNat * sz + j) by omega]
  exact this
abbrev Own (w : World) (B : Nat) (e : TypeId) (sz : Nat) (s : Sl) (xs : List Value) : Prop := w.ownsRow B e sz s.v s.n xs
theorem Own.nil (w : World) (B : Nat) (e : TypeId) (sz : Nat) : Own w B e sz nilS [] := World.ownsRow_nil w B e sz
theorem Own.len {w : World} {B : Nat} {e : TypeId} {sz : Nat} {s : Sl} {xs : List Value} (h : Own w B e sz s xs) : xs.length = s.n * sz := h.1
theorem Own.cases {w : World} {B : Nat} {e : TypeId} {sz : Nat} {s : Sl} {xs : List Value} (h : Own w B e sz s xs) :
    (s = nilS ∧ xs = []) ∨ ∃ g cur, s.a = some ⟨g, 0, none⟩ ∧ B ≤ g ∧ Blk w g e cur ∧ s.n ≤ s.c ∧ s.c ≤ maxLen ∧ cur.length = s.c * sz ∧ cur.take (s.n * sz) = xs := by
  obtain ⟨hl, h⟩ := h
  rcases h with ⟨hv, hn⟩ | ⟨g, cap, cur, hv, hg, hh, hn, hm, hs, ht⟩
  · left
    have e : s = nilS := by
      cases s with
      | mk a n c => simp only [Value.slice.injEq] at hv; obtain ⟨rfl, rfl, rfl⟩ := hv; rfl
    subst e
    exact ⟨rfl, List.eq_nil_of_length_eq_zero (by simpa [nilS] using hl)⟩
  · right
    cases s with
    | mk a n c =>
      simp only [Value.slice.injEq] at hv
      obtain ⟨rfl, _, rfl⟩ := hv
      exact ⟨g, cur.toList, rfl, hg, by unfold Blk; simpa using hh, hn, hm, by simpa using hs, ht⟩
theorem Own.mk' {w : World} {B g : Nat} {e : TypeId} {sz n c : Nat} {cur xs : List Value} (hg : B ≤ g) (hb : Blk w g e cur) (hn : n ≤ c) (hm : c ≤ maxLen) (hl : cur.length = c * sz) (ht : cur.take (n * sz) = xs) :
    Own w B e sz ⟨some ⟨g, 0, none⟩, n, c⟩ xs := by
  refine ⟨?_, .inr ⟨g, c, cur.toArray, rfl, hg, hb, hn, hm, by simpa using hl, ht⟩⟩
  rw [← ht, List.length_take, hl]
  exact Nat.min_eq_left (Nat.mul_le_mul_right _ hn)
theorem Own.rd {w : World} {B : Nat} {e : TypeId} {sz : Nat} {s : Sl} {xs : List Value} (h : Own w B e sz s xs) : Rd w s sz xs := by
  rcases h.cases with ⟨rfl, rfl⟩ | ⟨g, cur, ha, hg, hb, hn, hm, hl, ht⟩
  · exact Rd.nil w sz
  · refine ⟨hn, h.len, fun _ => ⟨g, 0, ha, fun j v hv => ?_⟩⟩
    rw [hb.cell, Nat.zero_add]
    rw [← ht, List.getElem?_take] at hv
    split at hv
    · exact hv
    · cases hv
theorem Own.keep {w w' : World} {B : Nat} {e : TypeId} {sz : Nat} {s : Sl} {xs : List Value} (h : Own w B e sz s xs) (k : Keep w w') : Own w' B e sz s xs := by
  obtain ⟨hl, h⟩ := h
  refine ⟨hl, ?_⟩
  rcases h with h | ⟨g, cap, cur, hv, hg, hh, r⟩
  · exact .inl h
  · exact .inr ⟨g, cap, cur, hv, hg, k.heap hh, r⟩
theorem Own.only {w w' : World} {B g' : Nat} {e : TypeId} {sz : Nat} {s : Sl} {xs : List Value} (h : Own w B e sz s xs) (k : Only g' w w') (hne : s.v.ownBlock ≠ some g') : Own w' B e sz s xs := by
  obtain ⟨hl, h⟩ := h
  refine ⟨hl, ?_⟩
  rcases h with h | ⟨g, cap, cur, hv, hg, hh, r⟩
  · exact .inl h
  · refine .inr ⟨g, cap, cur, hv, hg, k.heap hh (fun e => hne ?_), r⟩
    rw [hv, e]; rfl
theorem Own.mono {w : World} {B B' : Nat} {e : TypeId} {sz : Nat} {s : Sl} {xs : List Value} (h : Own w B e sz s xs) (hB : B' ≤ B) : Own w B' e sz s xs := by
  obtain ⟨hl, h⟩ := h
  refine ⟨hl, ?_⟩
  rcases h with h | ⟨g, cap, cur, hv, hg, r⟩
  · exact .inl h
  · exact .inr ⟨g, cap, cur, hv, Nat.le_trans hB hg, r⟩
structure TI (P : Program) (t e : TypeId) (sz bytes : Nat) : Prop where
  ht : P.underlying t = some (.slice e)
  hi : ∃ i z, P.info? e = some i ∧ i.zero = some z ∧ i.size = sz ∧ i.bytes = bytes ∧ z.cells.size = sz
  pos : 0 < sz
theorem TI.of {P : Program} {t e : TypeId} {sz bytes : Nat} {z : Value} (ht : P.underlying t = some (.slice e)) (h : (P.info? e).map (fun i => (i.zero, i.size, i.bytes)) = some (some z, sz, bytes)) (hz : z.cells.size = sz) (pos : 0 < sz) : TI P t e sz bytes := by
  refine ⟨ht, ?_, pos⟩
  cases hi : P.info? e with
  | none => rw [hi] at h; cases h
  | some i =>
    rw [hi] at h
    simp only [Option.map_some, Option.some.injEq, Prod.mk.injEq] at h
    exact ⟨i, z, rfl, h.1, h.2.1, h.2.2, hz⟩
def Touch (w w' : World) (s r : Sl) : Prop := w.grownBy w' s.v.ownBlock ∧ (r.v.ownBlock = s.v.ownBlock ∨ r.v.ownBlock = some w.heap.size)
theorem run_append_nil' {P : Program} {w : World} {B : Nat} {t ty e : TypeId} {sz bytes : Nat} (ti : TI P t e sz bytes) {s x : Sl} {xs : List Value} (ho : Own w B e sz s xs) (hx : x.n = 0) :
    (Builtin.append_ #[t, t] ty #[s.v, x.v]).run P w = .ok s.v w := by
  obtain ⟨i, z, hi, hz, hsz, hb, hzs⟩ := ti.hi
  have hf : (Builtin.firstCells sz 0 x.v).run P w = .ok #[] w := by
    cases x with
    | mk a n c => cases a <;> simp [Builtin.firstCells, loadCells, loadCellsFrom]
  rcases ho.cases with ⟨rfl, rfl⟩ | ⟨g, cur, ha, hg, hb', hn, hm, hl, ht⟩
  · simp [Builtin.append_, run_underlying ti.ht, sizeOf, typeInfo, hi, Builtin.lenOf, hx, hsz, hf, nilS]
  · cases s with
    | mk a n c =>
      simp only at ha hn
      subst ha
      simp [Builtin.append_, run_underlying ti.ht, sizeOf, typeInfo, hi, Builtin.lenOf, hx, hsz, hf, hn, storeCells]
theorem append_own {P : Program} {t ty e : TypeId} {sz bytes : Nat} (ti : TI P t e sz bytes) {w0 w : World} {B : Nat} {s x : Sl} {xs ys : List Value}
    (hb : Below B w0 w) (hB : B ≤ w.heap.size) (ho : Own w B e sz s xs) (hx : Rd w x sz ys) (h1 : ∀ v ∈ ys, v.oneCell' = true) (hm : s.n + x.n ≤ maxLen) (hy : (s.n + x.n) * bytes ≤ 140737488355328)
    {K : Sl → World → Prop} (hK : ∀ r w', Below B w0 w' → Own w' B e sz r (xs ++ ys) → r.n = s.n + x.n → Touch w w' s r → K r w') :
    G.runSl P (Builtin.append_ #[t, t] ty #[s.v, x.v]) w K := by
  by_cases h0 : x.n = 0
  · have hys : ys = [] := List.eq_nil_of_length_eq_zero (by rw [hx.2.1, h0]; simp)
    subst hys
    exact ⟨s, w, run_append_nil' ti ho h0, hK s w hb (by simpa using ho) (by omega) ⟨⟨rfl, rfl, rfl, Nat.le_refl _, fun _ _ _ => rfl⟩, .inl rfl⟩⟩
  · obtain ⟨g, o, ha, hc⟩ := hx.at_ (i := 0) (by omega) ti.pos
    obtain ⟨i, z, hi, hz, hsz, hby, hzs⟩ := ti.hi
    obtain ⟨v', w', hrun, h2, h3, _, h5⟩ := run_append_own_at (P := P) w B t ty e i z sz bytes ti.ht hi hz hsz hby hzs ti.pos s.v s.n xs ho ⟨g, o, none⟩ x.n x.c ys hx.2.1
      (fun j u hu => by rw [addr_add]; exact hc j u hu) h1 hm hy hB
    have hv : ∃ r : Sl, v' = r.v ∧ r.n = s.n + x.n := by
      rcases h2.2 with ⟨rfl, hn⟩ | ⟨g', cap, cur, rfl, _⟩
      · exact ⟨nilS, rfl, by simp; omega⟩
      · exact ⟨⟨_, _, _⟩, rfl, rfl⟩
    obtain ⟨r, rfl, hrn⟩ := hv
    refine ⟨r, w', ?_, hK r w' ?_ ?_ hrn ⟨h3, h5⟩⟩
    · have : x.v = .slice (some ⟨g, o, none⟩) x.n x.c := by rw [← ha]
      rw [this]; exact hrun
    · refine hb.grown h3 hB fun k hk => ?_
      exact (World.ownsRow.lt ho k hk).1
    · rw [← hrn] at h2; exact h2
theorem rd_new {w : World} {e : TypeId} {cs : Array Value} {n sz : Nat} (hl : cs.size = n * sz) : Rd (w.alloc (.cells cs e)) ⟨some ⟨w.heap.size, 0, none⟩, n, n⟩ sz cs.toList := by
  refine ⟨Nat.le_refl _, by simpa using hl, fun _ => ⟨w.heap.size, 0, rfl, fun j v hv => ?_⟩⟩
  rw [(Blk.new w e cs).cell, Nat.zero_add]; exact hv
theorem push_own {P : Program} {t ty e : TypeId} {sz bytes : Nat} (ti : TI P t e sz bytes) {w0 w : World} {B n : Nat} {s : Sl} {xs : List Value} {cs : Array Value}
    (hb : Below B w0 w) (hB : B ≤ w.heap.size) (ho : Own w B e sz s xs) (hl : cs.size = n * sz) (h1 : ∀ v ∈ cs.toList, v.oneCell' = true) (hm : s.n + n ≤ maxLen) (hy : (s.n + n) * bytes ≤ 140737488355328)
    {K : Sl → World → Prop} (hK : ∀ r w', Below B w0 w' → Own w' B e sz r (xs ++ cs.toList) → r.n = s.n + n → K r w') :
    G.new (.cells cs e) w fun p w1 => G.runSl P (Builtin.append_ #[t, t] ty #[s.v, (⟨some p, n, n⟩ : Sl).v]) w1 K := by
  unfold G.new
  refine append_own ti (hb.alloc hB _) (by simp; omega) (ho.keep (Keep.alloc w _)) (rd_new hl) h1 hm hy fun r w' k1 k2 k3 _ => hK r w' k1 k2 k3
theorem make_own {P : Program} {t e : TypeId} {sz bytes : Nat} (ti : TI P t e sz bytes) {kl kc : IntKind} {n c : Nat} {w0 w : World} {B : Nat} (hb : Below B w0 w) (hB : B ≤ w.heap.size) (hnc : n ≤ c) (hm : c ≤ maxLen) (hy : bytes * c ≤ 281474976710656)
    {K : Sl → World → Prop} (hK : ∀ z r w', (P.info? e).map (·.zero) = some (some z) → z.cells.size = sz → Below B w0 w' → Keep w w' → Own w' B e sz r ((madeCells z.cells (c * sz)).toList.take (n * sz)) → r.n = n → r.c = c → r.a = some ⟨w.heap.size, 0, none⟩ → K r w') :
    G.runSl P (Instr.makeSlice t (.int kl (n : Int)) (.int kc (c : Int))) w K := by
  obtain ⟨i, z, hi, hz, hsz, hby, hzs⟩ := ti.hi
  have hm' := hm
  simp only [maxLen] at hm'
  have hy' : (bytes : Int) * (c : Int) ≤ 281474976710656 := by
    have h : ((bytes * c : Nat) : Int) ≤ 281474976710656 := by omega
    rwa [Int.natCast_mul] at h
  have hr := run_make (P := P) w t e i z ti.ht hi hz kl kc n c (by omega) (by omega) (by rw [hby]; exact hy') (by omega)
  simp only [Int.toNat_natCast, hsz] at hr
  refine ⟨⟨some ⟨w.heap.size, 0, none⟩, n, c⟩, _, hr, hK z _ _ (by rw [hi]; simp [hz]) hzs (hb.alloc hB _) (Keep.alloc _ _) ?_ rfl rfl rfl⟩
  exact Own.mk' hB (Blk.new w e _) hnc hm (by rw [Array.length_toList, size_madeCells]) rfl
end Go.Proofs.YtechilkjfhpkpaaGreatDoor.Mem

namespace Go.Proofs.YtechilkjfhpkpaaGreatDoor.Num
open Go Vm
theorem wU8 (x : Int) : IntKind.u8.wrap x = x % 256 := by simp [IntKind.wrap, IntKind.bits, IntKind.signed]
theorem wU64 (x : Int) : IntKind.u64.wrap x = x % 18446744073709551616 := by simp [IntKind.wrap, IntKind.bits, IntKind.signed]
theorem wI64' (x : Int) : IntKind.i64.wrap x = if x % 18446744073709551616 ≥ 9223372036854775808 then x % 18446744073709551616 - 18446744073709551616 else x % 18446744073709551616 := by
  simp [IntKind.wrap, IntKind.bits, IntKind.signed]
theorem wI64 {x : Int} (h1 : -9223372036854775808 ≤ x) (h2 : x < 9223372036854775808) : IntKind.i64.wrap x = x := by
  rw [wI64']
  split <;> omega
theorem wU64_id {x : Int} (h1 : 0 ≤ x) (h2 : x < 18446744073709551616) : IntKind.u64.wrap x = x := by
  rw [wU64]; omega
theorem wU8_id {x : Int} (h1 : 0 ≤ x) (h2 : x < 256) : IntKind.u8.wrap x = x := by
  rw [wU8]; omega
theorem shr_nat (k : IntKind) (x : Int) (b : Nat) (hb : b ≤ k.bits) : shr k x (b : Int) = x / (2 ^ b : Int) := by
  unfold shr
  rw [Int.toNat_natCast, Nat.min_eq_left hb, Int.fdiv_eq_ediv_of_nonneg _ (Int.le_of_lt (Int.pow_pos (by decide)))]
theorem shl_nat (k : IntKind) (x : Int) (b : Nat) (hb : b ≤ k.bits) : shl k x (b : Int) = k.wrap (x * 2 ^ b) := by
  unfold shl
  rw [Int.toNat_natCast, Nat.min_eq_left hb]
theorem ofInt_nat (n : Nat) (x : Nat) : BitVec.ofInt n (x : Int) = BitVec.ofNat n x := by simp
theorem wrap_nat {k : IntKind} {x : Nat} (hk : k.signed = false) (hx : x < 2 ^ k.bits) : k.wrap (x : Int) = x := by
  unfold IntKind.wrap
  simp only [hk, Bool.false_and, Bool.false_eq_true, if_false]
  have : ((2 : Int) ^ k.bits) = ((2 ^ k.bits : Nat) : Int) := by simp
  rw [this]
  exact_mod_cast Nat.mod_eq_of_lt hx
theorem bits_and {k : IntKind} {x y : Nat} (hk : k.signed = false) (hx : x < 2 ^ k.bits) (hy : y < 2 ^ k.bits) : Go.bits .and k (x : Int) (y : Int) = ((x &&& y : Nat) : Int) := by
  unfold Go.bits
  simp only [ofInt_nat, BitVec.toNat_and, BitVec.toNat_ofNat, Nat.mod_eq_of_lt hx, Nat.mod_eq_of_lt hy]
  exact wrap_nat hk (Nat.and_lt_two_pow _ hy)
theorem bits_or {k : IntKind} {x y : Nat} (hk : k.signed = false) (hx : x < 2 ^ k.bits) (hy : y < 2 ^ k.bits) : Go.bits .or k (x : Int) (y : Int) = ((x ||| y : Nat) : Int) := by
  unfold Go.bits
  simp only [ofInt_nat, BitVec.toNat_or, BitVec.toNat_ofNat, Nat.mod_eq_of_lt hx, Nat.mod_eq_of_lt hy]
  exact wrap_nat hk (Nat.or_lt_two_pow hx hy)
def u8 (n : Int) : UInt8 := UInt8.ofNat (n % 256).toNat
end Go.Proofs.YtechilkjfhpkpaaGreatDoor.Num

namespace Go.Proofs.YtechilkjfhpkpaaGreatDoor.Mem
open Go Vm Go.RowKit Num
def vB (b : UInt8) : Value := .int .u8 (b.toNat : Int)
def vBs (l : List UInt8) : List Value := l.map vB
theorem vBs_append (a b : List UInt8) : vBs (a ++ b) = vBs a ++ vBs b := List.map_append
theorem vBs_length (a : List UInt8) : (vBs a).length = a.length := List.length_map _
theorem vBs_one {l : List UInt8} : ∀ v ∈ vBs l, v.oneCell' = true := by
  intro v hv
  obtain ⟨b, _, rfl⟩ := List.mem_map.1 hv
  rfl
theorem vB_lit {n : Nat} (h : n < 256) : Value.int .u8 (n : Int) = vB (UInt8.ofNat n) := by
  unfold vB
  rw [UInt8.toNat_ofNat', Nat.mod_eq_of_lt h]
abbrev RdB (w : World) (s : Sl) (l : List UInt8) : Prop := Rd w s 1 (vBs l)
theorem RdB.len {w : World} {s : Sl} {l : List UInt8} (h : RdB w s l) : s.n = l.length := by
  have := h.2.1
  rw [vBs_length] at this
  omega
theorem RdB.at_ {w : World} {s : Sl} {l : List UInt8} (h : RdB w s l) {k : Nat} (hk : k < l.length) {K : Int → Prop} (hK : K (l[k].toNat : Int)) :
    G.ix s.a s.n (k : Int) 1 fun p => G.cI .u8 p w K := by
  refine Rd.ix h (by omega) (by omega) (by have := h.len; omega) fun a ha => ⟨_, ?_, hK⟩
  have := ha 0 (vB l[k]) (by omega) (by simp [vBs, hk])
  rw [show a.add 0 = a by simp [Addr.add]] at this
  exact this
theorem Rd.slc {w : World} {s : Sl} {sz : Nat} {cs : List Value} (h : Rd w s sz cs) {lo hi : Nat} (h1 : lo ≤ hi) (h2 : hi ≤ s.n) {i j : Int} (ei : i = lo) (ej : j = hi) {K : Sl → Prop}
    (hK : ∀ r : Sl, Rd w r sz ((cs.drop (lo * sz)).take ((hi - lo) * sz)) → r.n = hi - lo → r.c = s.c - lo → K r) : G.slc s i j sz K := by
  subst ei ej
  have hnc := h.1
  refine ⟨⟨by omega, by omega, by omega⟩, hK _ ?_ (by simp) (by simp)⟩
  have hl := h.2.1
  refine ⟨by simp; omega, ?_, fun hne => ?_⟩
  · rw [List.length_take, List.length_drop, hl]
    simp only [Int.toNat_natCast]
    rw [Nat.min_eq_left]
    rw [← Nat.sub_mul]
    exact Nat.mul_le_mul_right _ (by omega)
  · have hcs : cs ≠ [] := by rintro rfl; simp at hne
    obtain ⟨g, o, ha, hc⟩ := h.2.2 hcs
    have hlo : s.c ≠ lo := by
      intro e
      apply hne
      apply List.eq_nil_of_length_eq_zero
      rw [List.length_take, List.length_drop, hl]
      have : hi - lo = 0 := by omega
      rw [this]; simp
    rw [Int.toNat_natCast, if_neg hlo, ha]
    refine ⟨g, o + lo * sz, by rw [Option.map_some, addr_add], fun k v hv => ?_⟩
    rw [List.getElem?_take] at hv
    split at hv
    · rw [List.getElem?_drop] at hv
      rw [Nat.add_assoc]
      exact hc _ v hv
    · cases hv
theorem RdB.slc {w : World} {s : Sl} {l : List UInt8} (h : RdB w s l) {lo hi : Nat} (h1 : lo ≤ hi) (h2 : hi ≤ l.length) {i j : Int} (ei : i = lo) (ej : j = hi) {K : Sl → Prop}
    (hK : ∀ r : Sl, RdB w r ((l.drop lo).take (hi - lo)) → K r) : G.slc s i j 1 K :=
  Rd.slc (cs := vBs l) h h1 (by have := h.len; omega) ei ej fun r hr _ _ => hK r (by
    have e : vBs ((l.drop lo).take (hi - lo)) = ((vBs l).drop (lo * 1)).take ((hi - lo) * 1) := by simp [vBs, List.map_take, List.map_drop]
    rw [RdB, e]; exact hr)
abbrev OwnB (w : World) (B : Nat) (s : Sl) (l : List UInt8) : Prop := Own w B 5 1 s (vBs l)
theorem OwnB.rd {w : World} {B : Nat} {s : Sl} {l : List UInt8} (h : OwnB w B s l) : RdB w s l := Own.rd h
theorem OwnB.len {w : World} {B : Nat} {s : Sl} {l : List UInt8} (h : OwnB w B s l) : s.n = l.length := h.rd.len
theorem OwnB.nil (w : World) (B : Nat) : OwnB w B nilS [] := Own.nil w B _ 1
theorem tiB : TI Tryz.prog 120 5 1 1 := TI.of (z := .int .u8 0) (by kernel_rfl) (by kernel_rfl) rfl (by decide)
theorem appB {w0 w : World} {B : Nat} {s x : Sl} {l m : List UInt8} (hb : Below B w0 w) (hB : B ≤ w.heap.size) (ho : OwnB w B s l) (hx : RdB w x m) (hm : l.length + m.length ≤ 140737488355328)
    {K : Sl → World → Prop} (hK : ∀ r w', Below B w0 w' → OwnB w' B r (l ++ m) → K r w') :
    G.runSl Tryz.prog (Builtin.append_ #[120, 120] 120 #[s.v, x.v]) w K := by
  have h1 := ho.len
  have h2 := hx.len
  refine append_own tiB hb hB ho hx vBs_one (by simp only [maxLen]; omega) (by omega) fun r w' k1 k2 _ _ => hK r w' k1 ?_
  rw [OwnB, vBs_append]; exact k2
theorem pushB {w0 w : World} {B n : Nat} {s : Sl} {l m : List UInt8} {cs : Array Value} (hb : Below B w0 w) (hB : B ≤ w.heap.size) (ho : OwnB w B s l) (hc : cs.toList = vBs m) (hn : m.length = n)
    (hm : l.length + n ≤ 140737488355328) {K : Sl → World → Prop} (hK : ∀ r w', Below B w0 w' → OwnB w' B r (l ++ m) → K r w') :
    G.new (.cells cs 5) w fun p w1 => G.runSl Tryz.prog (Builtin.append_ #[120, 120] 120 #[s.v, (⟨some p, n, n⟩ : Sl).v]) w1 K := by
  have h1 := ho.len
  have hs : cs.size = n := by rw [← Array.length_toList, hc, vBs_length, hn]
  refine push_own tiB hb hB ho (by omega) (by rw [hc]; exact vBs_one) (by simp only [maxLen]; omega) (by omega) fun r w' k1 k2 _ => hK r w' k1 ?_
  rw [OwnB, vBs_append, ← hc]; exact k2
theorem make0B {w0 w : World} {B c : Nat} {x : Int} (ex : x = (c : Int)) (hb : Below B w0 w) (hB : B ≤ w.heap.size) (hc : c ≤ 140737488355328) {K : Sl → World → Prop} (hK : ∀ r w', Below B w0 w' → OwnB w' B r [] → K r w') :
    G.runSl Tryz.prog (Instr.makeSlice 120 (.int .i64 (0 : Int)) (.int .i64 x)) w K := by
  subst ex
  have := make_own tiB (kl := .i64) (kc := .i64) (n := 0) (c := c) hb hB (by omega) (by simp only [maxLen]; omega) (by omega) (K := K) fun z r w' _ _ k1 _ k2 _ _ _ => hK r w' k1 (by rw [OwnB]; simpa [vBs] using k2)
  exact this
end Go.Proofs.YtechilkjfhpkpaaGreatDoor.Mem

namespace Go.Proofs.YtechilkjfhpkpaaGreatDoor.Shut
open Go Vm Go.RowKit Num Mem Go.ChangeShapes
theorem laidOut : laidOutB Tryz.prog = true := by kernel_rfl
section
variable {H : Type} {enc : TypeId × Value → H} {P : Program}
theorem trodAll_keep (hl : laidOutB P = true) {W W' : World} (k : Keep W W') {sp : Nat → Bool} : ∀ {ts : List TypeId} {vs : List Value} {ds : List (DataW H)} {ps : List MemPlace},
    (∀ t ∈ ts, P.readableRec t = true ∧ t < P.types.size) → (∀ x ∈ ps, x.block < W.heap.size) → (∀ x ∈ ps, sp x.block = true) →
    DataW.TrodAll enc P W 0 (fun _ => true) true ts vs ds ps → DataW.TrodAll enc P W' 0 sp true ts vs ds ps
  | [], vs, ds, ps, _, _, _, h => by
    obtain ⟨rfl, rfl, rfl⟩ := trodAll_nil h
    exact trodAll_mk0
  | t :: ts, vs, ds, ps, ht, hlt, hs, h => by
    obtain ⟨v, vs', d, ds', p, q, rfl, rfl, rfl, h1, h2⟩ := trodAll_cons h
    have ht1 := ht t (List.mem_cons_self ..)
    refine trodAll_cons_mk (WideElems.Trod_stays hl ht1.1 ht1.2 h1 (fun x hx => ?_) (fun x hx => hs x (List.mem_append_left _ hx))) ?_
    · exact Below.same k (hlt x (List.mem_append_left _ hx))
    · exact trodAll_keep hl k (fun t' h' => ht t' (List.mem_cons_of_mem _ h')) (fun x hx => hlt x (List.mem_append_right _ hx)) (fun x hx => hs x (List.mem_append_right _ hx)) h2
theorem post_keep {f : Func} {s : ChangeSpec} {W W' : World} {args : Array Value} {ds gs : List (DataW H)} {before : List MemPlace} {tb : TypeId} (hl : laidOutB P = true)
    (hp : ∀ t ∈ f.params.toList, P.readableRec t = true ∧ t < P.types.size) (hv : s.vars = []) (hW : DataW.Whole enc P f.params.toList s.vars false W args.toList ds gs before)
    (hs : s.fn H ds = { results := [.lit (.bool true)], args := ds }) (hr : f.resultTypes = #[tb]) (hb : P.underlying tb = some .bool) (k : Keep W W') :
    s.post enc P f false true false false W args (.bool true) W' := by
  have hW' := hW
  obtain ⟨p, q, hA, hV, rfl, hfz, hnd⟩ := hW
  rw [hv] at hV
  obtain ⟨rfl, rfl⟩ := trodVars_none hV
  have hlt : ∀ x ∈ p ++ [], x.block < W.heap.size := fun x hx => by simpa using hW'.lt x hx
  refine ⟨ds, [], _, [], p, [], hW', ?_, ?_, ?_, ?_, fun h => by cases h⟩
  · rw [List.append_nil, hs, hr]
    exact trodAll_cons_mk (shut_bool hb _) trodAll_mk0
  · rw [List.append_nil, hs]
    exact trodAll_keep hl k hp (fun x hx => hlt x (List.mem_append_left _ hx)) (fun x hx => by simpa using hlt x (List.mem_append_left _ hx)) hA
  · rw [List.append_nil, hs, hv]; rfl
  · exact Below.frame k _
end
section
variable {H : Type}
theorem bulk_one (d : DataW H) : 1 ≤ Rows.uptoBulk d := by
  cases d with
  | lit l => cases l <;> simp [Rows.uptoBulk]
  | _ => simp [Rows.uptoBulk]
theorem bulk_part {d : DataW H} {l : List (DataW H)} (h : d ∈ l) : Rows.uptoBulk d ≤ Rows.uptoBulkAll l := by
  induction l with
  | nil => cases h
  | cons x r ih =>
    simp only [Rows.uptoBulkAll]
    cases List.mem_cons.1 h with
    | inl e => subst e; omega
    | inr e => have := ih e; omega
theorem bulk_app (l r : List (DataW H)) : Rows.uptoBulkAll (l ++ r) = Rows.uptoBulkAll l + Rows.uptoBulkAll r := by
  induction l with
  | nil => simp [Rows.uptoBulkAll]
  | cons x l ih => simp only [List.cons_append, Rows.uptoBulkAll, ih]; omega
theorem bulk_bound {l : List (DataW H)} (hk : Rows.uptoSmall H l = true) : Rows.uptoBulkAll l ≤ 1048576 := of_decide_eq_true hk
end
section
variable {H : Type} {enc : TypeId × Value → H}
end
end Go.Proofs.YtechilkjfhpkpaaGreatDoor.Shut

namespace Go.Proofs.YtechilkjfhpkpaaGreatDoor.Mem
open Go Vm Go.RowKit Num
structure Chg (X : Nat → Prop) (w w' : World) : Prop where
  os : w'.os = w.os
  tape : w'.tape = w.tape
  output : w'.output = w.output
  size : w.heap.size ≤ w'.heap.size
  block : ∀ k, k < w.heap.size → ¬ X k → w'.heap[k]? = w.heap[k]?
theorem Chg.refl (X : Nat → Prop) (w : World) : Chg X w w := ⟨rfl, rfl, rfl, Nat.le_refl _, fun _ _ _ => rfl⟩
theorem Chg.then {X Y : Nat → Prop} {a b c : World} (h : Chg X a b) (k : Chg Y b c) (hY : ∀ g, Y g → X g ∨ a.heap.size ≤ g) : Chg X a c :=
  ⟨k.os.trans h.os, k.tape.trans h.tape, k.output.trans h.output, Nat.le_trans h.size k.size, fun i hi hne =>
    (k.block i (Nat.lt_of_lt_of_le hi h.size) (fun e => (hY i e).elim hne (fun e' => by omega))).trans (h.block i hi hne)⟩
theorem Chg.mono {X Y : Nat → Prop} {a b : World} (h : Chg X a b) (hX : ∀ g, X g → Y g ∨ a.heap.size ≤ g) : Chg Y a b := Chg.then (Chg.refl Y a) h hX
theorem Keep.chg {w w' : World} (h : Keep w w') (X : Nat → Prop) : Chg X w w' := ⟨h.os, h.tape, h.output, h.size, fun k hk _ => h.block k hk⟩
theorem Chg.below {X : Nat → Prop} {B : Nat} {w0 w w' : World} (hb : Below B w0 w) (h : Chg X w w') (hB : B ≤ w.heap.size) (hX : ∀ k, X k → B ≤ k) : Below B w0 w' :=
  Below.trans hb ⟨h.os, h.tape, h.output, h.size, fun k hk => h.block k (by omega) (fun e => by have := hX k e; omega)⟩
theorem Chg.heap {X : Nat → Prop} {w w' : World} (h : Chg X w w') {k : Nat} {x : Obj} (hk : w.heap[k]? = some x) (hne : ¬ X k) : w'.heap[k]? = some x := by
  rw [h.block k (heap_lt hk) hne]; exact hk
theorem Chg.cell {X : Nat → Prop} {w w' : World} (h : Chg X w w') {a : Addr} {v : Value} (hc : w.cell? a = some v) (hne : ¬ X a.block) : w'.cell? a = some v := by
  rw [World.cell?_of_block (w := w) (h.block a.block (cell_lt hc) hne)]; exact hc
theorem Blk.chg {X : Nat → Prop} {w w' : World} {g : Nat} {e : TypeId} {cs : List Value} (h : Blk w g e cs) (k : Chg X w w') (hne : ¬ X g) : Blk w' g e cs := k.heap h hne
theorem Own.chg {X : Nat → Prop} {w w' : World} {B : Nat} {e : TypeId} {sz : Nat} {s : Sl} {xs : List Value} (h : Own w B e sz s xs) (k : Chg X w w') (hne : ∀ g, s.v.ownBlock = some g → ¬ X g) : Own w' B e sz s xs := by
  obtain ⟨hl, h⟩ := h
  refine ⟨hl, ?_⟩
  rcases h with h | ⟨g, cap, cur, hv, hg, hh, r⟩
  · exact .inl h
  · refine .inr ⟨g, cap, cur, hv, hg, k.heap hh (hne g (by rw [hv]; rfl)), r⟩
theorem Rd.chg {X : Nat → Prop} {w w' : World} {s : Sl} {sz : Nat} {cs : List Value} (h : Rd w s sz cs) (k : Chg X w w') (hne : ∀ g, s.v.ownBlock = some g → ¬ X g) : Rd w' s sz cs :=
  ⟨h.1, h.2.1, fun hn => by
    obtain ⟨g, q, ha, hc⟩ := h.2.2 hn
    refine ⟨g, q, ha, fun j v hv => k.cell (hc j v hv) (hne g ?_)⟩
    show (Value.slice s.a s.n s.c).ownBlock = _
    rw [ha]; rfl⟩
theorem Own.geC {w : World} {B : Nat} {e : TypeId} {sz : Nat} {s : Sl} {xs : List Value} (h : Own w B e sz s xs) {g : Nat} (hg : s.v.ownBlock = some g) : B ≤ g ∧ g < w.heap.size := World.ownsRow.lt h g hg
theorem grown_chg {w w' : World} {o : Option Nat} (h : w.grownBy w' o) : Chg (fun k => o = some k) w w' := ⟨h.os, h.tape, h.output, h.size, fun k hk hne => h.block k hk (fun e => hne e.symm)⟩
theorem setCell_chg (w : World) (g o : Nat) (v : Value) : Chg (fun k => k = g) w (w.setCell ⟨g, o, none⟩ v) := ⟨rfl, rfl, rfl, by simp [World.setCell], fun k _ hne => Below.heap_setCell _ _ _ _ hne⟩
theorem pushC {P : Program} {t ty e : TypeId} {sz bytes : Nat} (ti : TI P t e sz bytes) {w : World} {B n : Nat} {s : Sl} {xs : List Value} {cs : Array Value}
    (hB : B ≤ w.heap.size) (ho : Own w B e sz s xs) (hl : cs.size = n * sz) (h1 : ∀ v ∈ cs.toList, v.oneCell' = true) (hm : s.n + n ≤ maxLen) (hy : (s.n + n) * bytes ≤ 140737488355328)
    {K : Sl → World → Prop} (hK : ∀ r w', Chg (fun k => s.v.ownBlock = some k) w w' → Own w' B e sz r (xs ++ cs.toList) → r.n = s.n + n → (r.v.ownBlock = s.v.ownBlock ∨ ∀ k, r.v.ownBlock = some k → w.heap.size ≤ k) → K r w') :
    G.new (.cells cs e) w fun p w1 => G.runSl P (Builtin.append_ #[t, t] ty #[s.v, (⟨some p, n, n⟩ : Sl).v]) w1 K := by
  unfold G.new
  refine append_own ti (Below.alloc (Below.refl B w) hB _) (by simp; omega) (ho.keep (Keep.alloc w _)) (rd_new hl) h1 hm hy fun r w' k1 k2 k3 hT => hK r w' ?_ k2 k3 ?_
  · exact Chg.then (Keep.chg (Keep.alloc w _) _) (grown_chg hT.1) fun g hg => .inl hg
  · rcases hT.2 with e | e
    · exact .inl e
    · right
      intro k hk
      rw [e] at hk
      injection hk with hk
      simp at hk
      omega
theorem cI_at {k : IntKind} {a : Addr} {w : World} {n : Int} (h : w.cell? a = some (.int k n)) {K : Int → Prop} (hK : K n) : G.cI k a w K := ⟨n, h, hK⟩
theorem cSl_at {a : Addr} {w : World} {s : Sl} (h : w.cell? a = some s.v) {K : Sl → Prop} (hK : K s) : G.cSl a w K := ⟨s, h, hK⟩
theorem ptr_at {a : Addr} {K : Addr → Prop} (h : K a) : G.ptr (some a) K := h
theorem st_at {a : Addr} {v u : Value} {w : World} (h : w.cell? a = some u) (hf : w.frozen? a = false) {K : World → Prop} (hK : K (w.setCell a v)) : G.st a v w K := ⟨⟨u, h⟩, hf, hK⟩
theorem new_at {o : Obj} {w : World} {K : Addr → World → Prop} (h : K ⟨w.heap.size, 0, none⟩ (w.alloc o)) : G.new o w K := h
theorem ptr_some {a : Addr} {K : Addr → Prop} (h : K a) : G.ptr (some a) K := h
theorem add_block (a : Addr) (n : Nat) : (a.add n).block = a.block := by unfold Addr.add; split <;> rfl
theorem appC {P : Program} {t ty e : TypeId} {sz bytes : Nat} (ti : TI P t e sz bytes) {w : World} {B : Nat} {s x : Sl} {xs ys : List Value}
    (hB : B ≤ w.heap.size) (ho : Own w B e sz s xs) (hx : Rd w x sz ys) (h1 : ∀ v ∈ ys, v.oneCell' = true) (hm : s.n + x.n ≤ maxLen) (hy : (s.n + x.n) * bytes ≤ 140737488355328)
    {K : Sl → World → Prop} (hK : ∀ r w', Chg (fun k => s.v.ownBlock = some k) w w' → Own w' B e sz r (xs ++ ys) → r.n = s.n + x.n → (r.v.ownBlock = s.v.ownBlock ∨ ∀ k, r.v.ownBlock = some k → w.heap.size ≤ k) → K r w') :
    G.runSl P (Builtin.append_ #[t, t] ty #[s.v, x.v]) w K :=
  append_own ti (Below.refl B w) hB ho hx h1 hm hy fun r w' _ k2 k3 hT => hK r w' (grown_chg hT.1) k2 k3 (by
    rcases hT.2 with e | e
    · exact .inl e
    · right
      intro k hk
      rw [e] at hk
      injection hk with hk
      omega)
end Go.Proofs.YtechilkjfhpkpaaGreatDoor.Mem

namespace Go.Proofs.YtechilkjfhpkpaaGreatDoor.ErrN
open Go Go.RowKit Go.Extern.Stop Go.Stop Go.Extern
theorem c95s (v : Value) (w : World) : (callFunc 95 #[.iface 228 v]).run Tryz.prog w = .ok (.value (.iface 184 (.agg #[.pointer (some ⟨6, 228, none⟩)]))) w := by kernel_rfl
theorem c188 (w : World) : (callFunc 188 #[.agg #[.pointer (some ⟨6, 228, none⟩)]]).run Tryz.prog w = .ok (.value (.bool true)) w := by kernel_rfl
theorem isMethodComparable (v : Value) (w : World) : (Go.method 361 184 v "Comparable").run Tryz.prog w = .ok (188, v) w := by kernel_rfl
theorem isComp : (Tryz.prog.info? 228).map (·.comparable) = some true := by kernel_rfl
theorem isSize : (Tryz.prog.info? 249).map (·.size) = some 1 := by kernel_rfl
theorem noIs (v : Value) (xT : TypeId) (w : World) : (Instr.typeAssert (.iface 116 v) xT 186 true).run Tryz.prog w = .ok (.tuple #[.nilIface, .bool false]) w := run_typeAssert_lacksB Tryz.underlying186 (by kernel_rfl) (by kernel_rfl) v xT w
theorem hasUnwrap (v : Value) (xT : TypeId) (w : World) : (Instr.typeAssert (.iface 116 v) xT 189 true).run Tryz.prog w = .ok (.tuple #[.iface 116 v, .bool true]) w := run_typeAssert_hasB Tryz.underlying189 (by kernel_rfl) v xT w
theorem methodUnwrap (v : Value) (w : World) : (Go.method 361 116 v "Unwrap").run Tryz.prog w = .ok (182, v) w := by kernel_rfl
theorem is_nil (b : Addr) (w : World) :
    Calls Tryz.prog 71 #[.nilIface, .iface 228 (.pointer (some b))] w fun e w' => e = .returned (.bool false) ∧ w' = w := by
  have hn := run_eql_iface_nil_left (P := Tryz.prog) w 228 (.pointer (some b)) Tryz.underlying77
  go_enter Tryz.func71, Tryz.ntmps71
  go_wp2
  go_ret
  exact ⟨rfl, rfl⟩
set_option maxRecDepth 100000 in
theorem is_hit (e : Int) (b : Addr) (w : World) (hg : w.cell? ⟨0, 0, none⟩ = some (.iface 228 (.pointer (some b)))) :
    Calls Tryz.prog 71 #[.iface 116 (.agg #[.int .i64 e]), .iface 228 (.pointer (some b))] w fun ev w' => ev = .returned (.bool true) ∧ w' = w.alloc (.cells #[.int .i64 e] 116) := by
  obtain ⟨i, hi, hcmp⟩ := Option.map_eq_some_iff.1 isComp
  obtain ⟨j, hj, hjs⟩ := Option.map_eq_some_iff.1 isSize
  have tT := c95s
  have cT := c188
  have mR := isMethodComparable
  have nE := noIs
  have uE := hasUnwrap
  have mU := methodUnwrap
  have hty := run_eql_iface_types (P := Tryz.prog) 116 228 (.agg #[.int .i64 e]) (.pointer (some b)) Tryz.underlying77 (by decide) w
  have heq := run_eql_iface_ptr_same (P := Tryz.prog) (w.alloc (.cells #[.int .i64 e] 116)) b Tryz.underlying77 Tryz.underlying228 hi hcmp hj
  have hlt : 0 < w.heap.size := by
    rcases Nat.eq_zero_or_pos w.heap.size with h0 | h
    · simp [World.cell?, h0] at hg
    · exact h
  have hg2 : (w.alloc (.cells #[.int .i64 e] 116)).cell? ⟨0, 0, none⟩ = some (.iface 228 (.pointer (some b))) := by
    rw [World.cell?_alloc_lt _ _ ⟨0, 0, none⟩ hlt]; exact hg
  go_enter Tryz.func71, Tryz.ntmps71
  go_wp2
  refine wp_loop_rounds 2 ?_
  rw [rounds_succ]
  go_wp2
  rw [rounds_succ]
  go_wp2
  go_ret
  exact ⟨rfl, rfl⟩
end Go.Proofs.YtechilkjfhpkpaaGreatDoor.ErrN

namespace Go.Proofs.YtechilkjfhpkpaaGreatDoor.ErrN
open Go Go.RowKit Go.Extern.Stop Go.Stop Go.Extern
theorem valueOf119 (t : Addr) (w : World) : (callFunc 97 #[.iface 119 (.pointer (some t))]).run Tryz.prog w = .ok (.value (.agg #[.pointer (some ⟨6, 119, none⟩), .pointer (some ⟨w.heap.size, 0, none⟩), .int .u64 150])) (w.alloc (.cells #[.pointer (some t)] 119)) := by kernel_rfl
theorem valueOf116 (e : Int) (w : World) : (callFunc 97 #[.iface 116 (.agg #[.int .i64 e])]).run Tryz.prog w = .ok (.value (.agg #[.pointer (some ⟨6, 116, none⟩), .pointer (some ⟨w.heap.size, 0, none⟩), .int .u64 153])) (w.alloc (.cells #[.int .i64 e] 116)) := by kernel_rfl
theorem type119 (a : Addr) (w : World) : (callFunc 98 #[.agg #[.pointer (some ⟨6, 119, none⟩), .pointer (some a), .int .u64 150]]).run Tryz.prog w = .ok (.value (.iface 184 (.agg #[.pointer (some ⟨6, 119, none⟩)]))) w := by kernel_rfl
theorem methodKind (h : Value) (w : World) : (Go.method 361 184 (.agg #[h]) "Kind").run Tryz.prog w = .ok (178, h) w := by kernel_rfl
theorem kind119 (w : World) : (callFunc 178 #[.pointer (some ⟨6, 119, none⟩)]).run Tryz.prog w = .ok (.value (.int .u8 22)) w := by kernel_rfl
theorem kind116 (w : World) : (callFunc 178 #[.pointer (some ⟨6, 116, none⟩)]).run Tryz.prog w = .ok (.value (.int .u8 25)) w := by kernel_rfl
theorem methodElem (h : Value) (w : World) : (Go.method 361 184 (.agg #[h]) "Elem").run Tryz.prog w = .ok (189, .agg #[h]) w := by kernel_rfl
theorem methodImplements (h : Value) (w : World) : (Go.method 361 184 (.agg #[h]) "Implements").run Tryz.prog w = .ok (190, .agg #[h]) w := by kernel_rfl
theorem methodAssignableTo (h : Value) (w : World) : (Go.method 361 184 (.agg #[h]) "AssignableTo").run Tryz.prog w = .ok (187, .agg #[h]) w := by kernel_rfl
theorem elem119 (w : World) : (callFunc 189 #[.agg #[.pointer (some ⟨6, 119, none⟩)]]).run Tryz.prog w = .ok (.value (.iface 184 (.agg #[.pointer (some ⟨6, 116, none⟩)]))) w := by kernel_rfl
theorem implements116 (w : World) : (callFunc 190 #[.agg #[.pointer (some ⟨6, 116, none⟩)], .iface 184 (.agg #[.pointer (some ⟨6, 77, none⟩)])]).run Tryz.prog w = .ok (.value (.bool true)) w := by kernel_rfl
theorem typeOf116 (v : Value) (w : World) : (callFunc 95 #[.iface 116 v]).run Tryz.prog w = .ok (.value (.iface 184 (.agg #[.pointer (some ⟨6, 116, none⟩)]))) w := by kernel_rfl
theorem assignable116 (w : World) : (callFunc 187 #[.agg #[.pointer (some ⟨6, 116, none⟩)], .iface 184 (.agg #[.pointer (some ⟨6, 116, none⟩)])]).run Tryz.prog w = .ok (.value (.bool true)) w := by kernel_rfl
theorem rlm (z : Sem Value) (f : TypeId → Addr → Nat → Nat → Sem Value) (v : Value) :
    ReflectliteValue.method z f #[v] = (do match ← ReflectliteValue.parts v with | none => z | some (t, a, fl) => f t a fl (fl % 32)) := rfl
theorem parts119 (a : Addr) (w : World) : (ReflectliteValue.parts (.agg #[.pointer (some ⟨6, 119, none⟩), .pointer (some a), .int .u64 150])).run Tryz.prog w = .ok (some (119, a, 150)) w := by kernel_rfl
theorem isNil119 (a p : Addr) (W : World) (ha : W.cell? a = some (.pointer (some p))) :
    (ReflectliteValue.method (ReflectliteValue.valueError "reflectlite.Value.IsNil" 0) ReflectliteValue.isNil #[.agg #[.pointer (some ⟨6, 119, none⟩), .pointer (some a), .int .u64 150]]).run Tryz.prog W = .ok (.bool false) W := by
  rw [rlm]
  simp only [Sem.run_bind, parts119, Result.andThen]
  simp [ReflectliteValue.isNil, loadVar, isAgg, underlying, Tryz.underlying119, ha, Result.andThen]
theorem elemOf119 (w : World) : (Rtype.elem? 119).run Tryz.prog w = .ok (some 116) w := by kernel_rfl
theorem mk116 (p : Addr) (w : World) : (ReflectliteValue.mk 116 p ReflectliteValue.flagAddr).run Tryz.prog w = .ok (.agg #[.pointer (some ⟨6, 116, none⟩), .pointer (some p), .int .u64 409]) w := by kernel_rfl
theorem elemV119 (a p : Addr) (W : World) (ha : W.cell? a = some (.pointer (some p))) :
    (ReflectliteValue.method (ReflectliteValue.valueError "reflectlite.Value.Elem" 0) ReflectliteValue.elem #[.agg #[.pointer (some ⟨6, 119, none⟩), .pointer (some a), .int .u64 150]]).run Tryz.prog W
      = .ok (.agg #[.pointer (some ⟨6, 116, none⟩), .pointer (some p), .int .u64 409]) W := by
  rw [rlm]
  simp only [Sem.run_bind, parts119, Result.andThen]
  simp [ReflectliteValue.elem, loadVar, isAgg, underlying, Tryz.underlying119, ha, Result.andThen, elemOf119, mk116]
theorem rls (v x : Value) : ReflectliteValue.set #[v, x] = (do
    let (some (dst, a, fl), some (src, b, _)) := (← ReflectliteValue.parts v, ← ReflectliteValue.parts x)
      | unsupported (.noEntry "extern/(internal/reflectlite.Value).Set.zeroValue")
    if fl / ReflectliteValue.flagAddr % 2 == 0 then unsupported (.noEntry "extern/(internal/reflectlite.Value).Set.unaddressable")
    let val ← loadVar src b
    if ← Rtype.directlyAssignable dst src then storeVar dst a val
    else if ← Rtype.implements dst src then
      if (← Rtype.kind src) == 20 then
        match val with
        | .nilIface => unsupported (.noEntry "extern/reflectlite: a nil value of one interface type handed on as a value of another")
        | _ => storeVar dst a val
      else storeVar dst a (.iface src val)
    else panicString ("reflectlite.Set: value of type " ++ (← Rtype.spelt src) ++ " is not assignable to type " ++ (← Rtype.spelt dst))
    pure (.tuple #[])) := rfl
theorem parts116a (a : Addr) (w : World) : (ReflectliteValue.parts (.agg #[.pointer (some ⟨6, 116, none⟩), .pointer (some a), .int .u64 409])).run Tryz.prog w = .ok (some (116, a, 409)) w := by kernel_rfl
theorem parts116 (a : Addr) (w : World) : (ReflectliteValue.parts (.agg #[.pointer (some ⟨6, 116, none⟩), .pointer (some a), .int .u64 153])).run Tryz.prog w = .ok (some (116, a, 153)) w := by kernel_rfl
theorem direct116 (w : World) : (Rtype.directlyAssignable 116 116).run Tryz.prog w = .ok true w := by kernel_rfl
theorem set116 (ta b : Addr) (e : Int) (old : Value) (W : World) (hb : W.cell? b = some (.int .i64 e)) (ht : W.cell? ta = some old) (hf : W.frozen? ta = false) :
    (ReflectliteValue.set #[.agg #[.pointer (some ⟨6, 116, none⟩), .pointer (some ta), .int .u64 409], .agg #[.pointer (some ⟨6, 116, none⟩), .pointer (some b), .int .u64 153]]).run Tryz.prog W
      = .ok (.tuple #[]) (W.setCell ta (.int .i64 e)) := by
  rw [rls]
  simp only [Sem.run_bind, parts116a, parts116, Result.andThen]
  have hl : (loadCells b 1).run Tryz.prog W = .ok #[.int .i64 e] W := run_loadCells_list W b [.int .i64 e] fun j v h => by
    match j, h with
    | 0, h => simp only [List.getElem?_cons_zero, Option.some.injEq] at h; rw [← h, show b.add 0 = b by simp [Addr.add]]; exact hb
    | j + 1, h => simp at h
  have hst : (store ta (.int .i64 e)).run Tryz.prog W = .ok () (W.setCell ta (.int .i64 e)) := by
    rw [run_store Tryz.prog W ta _ _ (by rfl)]
    simp [ht, hf]
  simp [ReflectliteValue.flagAddr, loadVar, isAgg, underlying, Tryz.underlying116, Result.andThen, direct116, storeVar, Value.cells, storeCells, Addr.add, hl, hst]
end Go.Proofs.YtechilkjfhpkpaaGreatDoor.ErrN

namespace Go.Proofs.YtechilkjfhpkpaaGreatDoor.ErrN
open Go Go.RowKit Go.Extern.Stop Go.Stop Go.Extern
def asV (t : Addr) (w : World) : World := ((w.alloc (.cells #[.pointer (some t)] 119)).alloc (.cells #[.pointer (some ⟨6, 119, none⟩), .pointer (some ⟨w.heap.size, 0, none⟩), .int .u64 150] 159))
set_option maxHeartbeats 4000000 in
set_option maxRecDepth 100000 in
theorem as_hit (e : Int) (t : Addr) (old : Value) (w : World) (hg : w.cell? ⟨4, 0, none⟩ = some (.iface 184 (.agg #[.pointer (some ⟨6, 77, none⟩)]))) (ht0 : w.cell? t = some old) (hf0 : w.frozen? t = false) :
    Calls Tryz.prog 72 #[.iface 116 (.agg #[.int .i64 e]), .iface 119 (.pointer (some t))] w fun ev w' => ev = .returned (.bool true) ∧ w' = ((((w.alloc (.cells #[.pointer (some t)] 119)).alloc (.cells #[.pointer (some ⟨6, 119, none⟩), .pointer (some ⟨w.heap.size, 0, none⟩), .int .u64 150] 159)).alloc (.cells #[.pointer (some ⟨6, 119, none⟩), .pointer (some ⟨w.heap.size, 0, none⟩), .int .u64 150] 159)).alloc (.cells #[.int .i64 e] 116)).setCell t (.int .i64 e) := by
  have h99 := @run_callFunc_extern Tryz.prog 99 _ (ReflectliteValue.method (ReflectliteValue.valueError "reflectlite.Value.IsNil" 0) ReflectliteValue.isNil) Tryz.func99 (by kernel_rfl) (by kernel_rfl) (by kernel_rfl) (by kernel_rfl)
  have h126 := @run_callFunc_extern Tryz.prog 126 _ (ReflectliteValue.method (ReflectliteValue.valueError "reflectlite.Value.Elem" 0) ReflectliteValue.elem) Tryz.func126 (by kernel_rfl) (by kernel_rfl) (by kernel_rfl) (by kernel_rfl)
  have h127 := @run_callFunc_extern Tryz.prog 127 _ ReflectliteValue.set Tryz.func127 (by kernel_rfl) (by kernel_rfl) (by kernel_rfl) (by kernel_rfl)
  have tO := typeOf116
  have mA := methodAssignableTo
  have a25 := assignable116
  have v25 := valueOf116
  have f6 := valueOf119
  have f7 := type119
  have mK := methodKind
  have mE := methodElem
  have mI := methodImplements
  have k27 := kind119
  have k25 := kind116
  have e27 := elem119
  have i25 := implements116
  have n8 := isNil119 ⟨w.heap.size, 0, none⟩ t (asV t w) (by simp [asV])
  have hlt : 4 < w.heap.size := by
    rcases Nat.lt_or_ge 4 w.heap.size with h | h
    · exact h
    · simp [World.cell?, Array.getElem?_eq_none h] at hg
  have hg2 : (asV t w).cell? ⟨4, 0, none⟩ = some (.iface 184 (.agg #[.pointer (some ⟨6, 77, none⟩)])) := by
    unfold asV
    rw [World.cell?_alloc_lt _ _ ⟨4, 0, none⟩ (by simp; omega), World.cell?_alloc_lt _ _ ⟨4, 0, none⟩ hlt]; exact hg
  have htl : t.block < w.heap.size := by
    rcases Nat.lt_or_ge t.block w.heap.size with h | h
    · exact h
    · simp [World.cell?, Array.getElem?_eq_none h] at ht0
  have el := elemV119 ⟨w.heap.size, 0, none⟩ t ((asV t w).alloc (.cells #[.pointer (some ⟨6, 119, none⟩), .pointer (some ⟨w.heap.size, 0, none⟩), .int .u64 150] 159)) (by unfold asV; rw [World.cell?_alloc_lt _ _ ⟨w.heap.size, 0, none⟩ (by simp; omega)]; simp)
  have st := set116 t ⟨w.heap.size + 1 + 1 + 1, 0, none⟩ e old (((asV t w).alloc (.cells #[.pointer (some ⟨6, 119, none⟩), .pointer (some ⟨w.heap.size, 0, none⟩), .int .u64 150] 159)).alloc (.cells #[.int .i64 e] 116))
    (by unfold asV; rw [World.cell?_alloc_at _ _ _ _ (by simp)]; rfl)
    (by unfold asV; rw [World.cell?_alloc_lt _ _ t (by simp; omega), World.cell?_alloc_lt _ _ t (by simp; omega), World.cell?_alloc_lt _ _ t (by simp; omega), World.cell?_alloc_lt _ _ t htl]; exact ht0)
    (by unfold asV; rw [World.frozen?_alloc_old _ _ t (by simp; omega), World.frozen?_alloc_old _ _ t (by simp; omega), World.frozen?_alloc_old _ _ t (by simp; omega), World.frozen?_alloc_old _ _ t (Nat.ne_of_lt htl)]; exact hf0)
  unfold asV at n8 hg2 el st
  go_enter Tryz.func72, Tryz.ntmps72
  go_wp2
  refine wp_loop_rounds 1 ?_
  rw [rounds_succ]
  go_wp2
  go_ret
  exact ⟨rfl, rfl⟩
end Go.Proofs.YtechilkjfhpkpaaGreatDoor.ErrN

namespace Go.Proofs.YtechilkjfhpkpaaGreatDoor.ErrN
open Go Vm
def isK (x y : Value) (w : World) (K : Bool → World → Prop) : Prop :=
  ∃ b, y = .iface 228 (.pointer (some b)) ∧ ((x = .nilIface ∧ K false w) ∨ ∃ e, x = .iface 116 (.agg #[.int .i64 e]) ∧ w.cell? ⟨0, 0, none⟩ = some y ∧ K true (w.alloc (.cells #[.int .i64 e] 116)))
def asW (e : Int) (t : Addr) (w : World) : World := ((((w.alloc (.cells #[.pointer (some t)] 119)).alloc (.cells #[.pointer (some ⟨6, 119, none⟩), .pointer (some ⟨w.heap.size, 0, none⟩), .int .u64 150] 159)).alloc (.cells #[.pointer (some ⟨6, 119, none⟩), .pointer (some ⟨w.heap.size, 0, none⟩), .int .u64 150] 159)).alloc (.cells #[.int .i64 e] 116)).setCell t (.int .i64 e)
def asK (x y : Value) (w : World) (K : Bool → World → Prop) : Prop :=
  ∃ t old e, x = .iface 116 (.agg #[.int .i64 e]) ∧ y = .iface 119 (.pointer (some t)) ∧ w.cell? t = some old ∧ w.frozen? t = false ∧ w.cell? ⟨4, 0, none⟩ = some (.iface 184 (.agg #[.pointer (some ⟨6, 77, none⟩)])) ∧ K true (asW e t w)
theorem isS_ok {x y : Value} {w : World} {K : Value → World → Prop} (h : isK x y w fun b w' => K (.bool b) w') :
    HasBody Tryz.prog 71 ∧ Calls Tryz.prog 71 ([x, y] : List Value).toArray w (fun e w' => ∃ v, e = .returned v ∧ K v w') := by
  refine ⟨⟨_, Tryz.func71, by kernel_rfl, by kernel_rfl⟩, ?_⟩
  obtain ⟨b, rfl, ⟨rfl, hk⟩ | ⟨e, rfl, hg, hk⟩⟩ := h
  · exact (is_nil b w).mono fun e w' h => ⟨_, h.1, by rw [h.2]; exact hk⟩
  · exact (is_hit e b w hg).mono fun e w' h => ⟨_, h.1, by rw [h.2]; exact hk⟩
theorem asS_ok {x y : Value} {w : World} {K : Value → World → Prop} (h : asK x y w fun b w' => K (.bool b) w') :
    HasBody Tryz.prog 72 ∧ Calls Tryz.prog 72 ([x, y] : List Value).toArray w (fun e w' => ∃ v, e = .returned v ∧ K v w') := by
  refine ⟨⟨_, Tryz.func72, by kernel_rfl, by kernel_rfl⟩, ?_⟩
  obtain ⟨t, old, e, rfl, rfl, h1, h2, h3, hk⟩ := h
  exact (as_hit e t old w h3 h1 h2).mono fun e w' h => ⟨_, h.1, by rw [h.2]; exact hk⟩
end Go.Proofs.YtechilkjfhpkpaaGreatDoor.ErrN

set_option maxRecDepth 100000
namespace Go.Proofs.YtechilkjfhpkpaaGreatDoor
open Go Go.Shelf
def LayP.lay_ren : Go.Shelf.Ren := ⟨fun | 6 => 60 | 15 => 88 | 14 => 87 | 28 => 122 | 29 => 123 | 20 => 114 | 21 => 115 | 22 => 116 | 23 => 117 | 24 => 118 | 25 => 119 | 26 => 120 | 27 => 121 | 46 => 140 | 47 => 141 | 48 => 142 | 49 => 143 | 50 => 144 | 57 => 157 | n => n, fun | 22 => 35 | 24 => 45 | 25 => 111 | 3 => 3 | 39 => 143 | 0 => 0 | 53 => 181 | 55 => 91 | 4 => 4 | 46 => 175 | 45 => 174 | 50 => 104 | 5 => 5 | 9 => 9 | 66 => 207 | 70 => 211 | 76 => 221 | 77 => 222 | n => n, fun | n => n⟩
theorem LayP.lay : Go.Proofs.SlLaysF0.n6 Tryz.prog LayP.lay_ren where
  mixed := by kernel_rfl
  f6 := ⟨Tryz.f60.name, by decide, Tryz.func60.trans (congrArg some (by kernel_rfl))⟩
  f14 := ⟨Tryz.f87.name, by decide, Tryz.func87.trans (congrArg some (by kernel_rfl))⟩
  f15 := Tryz.func88.trans (congrArg some (by kernel_rfl))
  f20 := ⟨Tryz.f114.name, by decide, Tryz.func114.trans (congrArg some (by kernel_rfl))⟩
  f21 := ⟨Tryz.f115.name, by decide, Tryz.func115.trans (congrArg some (by kernel_rfl))⟩
  f22 := ⟨Tryz.f116.name, by decide, Tryz.func116.trans (congrArg some (by kernel_rfl))⟩
  f23 := ⟨Tryz.f117.name, by decide, Tryz.func117.trans (congrArg some (by kernel_rfl))⟩
  f24 := ⟨Tryz.f118.name, by decide, Tryz.func118.trans (congrArg some (by kernel_rfl))⟩
  f25 := ⟨Tryz.f119.name, by decide, Tryz.func119.trans (congrArg some (by kernel_rfl))⟩
  f26 := ⟨Tryz.f120.name, by decide, Tryz.func120.trans (congrArg some (by kernel_rfl))⟩
  f27 := ⟨Tryz.f121.name, by decide, Tryz.func121.trans (congrArg some (by kernel_rfl))⟩
  f28 := Tryz.func122.trans (congrArg some (by kernel_rfl))
  f29 := Tryz.func123.trans (congrArg some (by kernel_rfl))
  f46 := ⟨Tryz.f140.name, by decide, Tryz.func140.trans (congrArg some (by kernel_rfl))⟩
  f47 := Tryz.func141.trans (congrArg some (by kernel_rfl))
  f48 := Tryz.func142.trans (congrArg some (by kernel_rfl))
  f49 := ⟨Tryz.f143.name, by decide, Tryz.func143.trans (congrArg some (by kernel_rfl))⟩
  f50 := ⟨Tryz.f144.name, by decide, Tryz.func144.trans (congrArg some (by kernel_rfl))⟩
  f57 := ⟨Tryz.f157.name, by decide, Tryz.func157.trans (congrArg some (by kernel_rfl))⟩
  t0 := Tryz.underlying0
  a0 := Tryz.isAgg0
  z0 := Tryz.sizeOf0
  v0 := Tryz.zeroValue0
  t3 := Tryz.underlying3
  a3 := Tryz.isAgg3
  z3 := Tryz.sizeOf3
  v3 := Tryz.zeroValue3
  t4 := Tryz.underlying4
  a4 := Tryz.isAgg4
  z4 := Tryz.sizeOf4
  v4 := Tryz.zeroValue4
  t5 := Tryz.underlying5
  a5 := Tryz.isAgg5
  z5 := Tryz.sizeOf5
  v5 := Tryz.zeroValue5
  t9 := Tryz.underlying9
  a9 := Tryz.isAgg9
  z9 := Tryz.sizeOf9
  v9 := Tryz.zeroValue9
  t22 := Tryz.underlying35
  a22 := Tryz.isAgg35
  z22 := Tryz.sizeOf35
  v22 := Tryz.zeroValue35
  t25 := Tryz.underlying111
  a25 := Tryz.isAgg111
  z25 := Tryz.sizeOf111
  v25 := Tryz.zeroValue111
  t39 := Tryz.underlying143
  a39 := Tryz.isAgg143
  z39 := Tryz.sizeOf143
  v39 := Tryz.zeroValue143
  t45 := Tryz.underlying174
  a45 := Tryz.isAgg174
  z45 := Tryz.sizeOf174
  v45 := Tryz.zeroValue174
  t46 := Tryz.underlying175
  a46 := Tryz.isAgg175
  z46 := Tryz.sizeOf175
  v46 := Tryz.zeroValue175
  t50 := Tryz.underlying104
  a50 := Tryz.isAgg104
  z50 := Tryz.sizeOf104
  v50 := Tryz.zeroValue104
  t53 := Tryz.underlying181
  a53 := Tryz.isAgg181
  z53 := Tryz.sizeOf181
  v53 := Tryz.zeroValue181
  t55 := Tryz.underlying91
  a55 := Tryz.isAgg91
  z55 := Tryz.sizeOf91
  v55 := Tryz.zeroValue91
  t66 := Tryz.underlying207
  a66 := Tryz.isAgg207
  z66 := Tryz.sizeOf207
  v66 := Tryz.zeroValue207
  t70 := Tryz.underlying211
  a70 := Tryz.isAgg211
  z70 := Tryz.sizeOf211
  v70 := Tryz.zeroValue211
  t76 := Tryz.underlying221
  a76 := Tryz.isAgg221
  z76 := Tryz.sizeOf221
  v76 := Tryz.zeroValue221
  t77 := Tryz.underlying222
  a77 := Tryz.isAgg222
  z77 := Tryz.sizeOf222
  v77 := Tryz.zeroValue222
end Go.Proofs.YtechilkjfhpkpaaGreatDoor

set_option maxRecDepth 100000
namespace Go.Proofs.YtechilkjfhpkpaaGreatDoor
open Go Go.Shelf
def LayA.lay_ren : Go.Shelf.Ren := ⟨fun | 6 => 79 | 15 => 88 | 14 => 109 | 28 => 122 | 29 => 123 | 20 => 129 | 21 => 130 | 22 => 131 | 23 => 132 | 24 => 133 | 25 => 134 | 26 => 135 | 27 => 136 | 46 => 145 | 47 => 141 | 48 => 142 | 49 => 146 | 50 => 147 | 57 => 158 | n => n, fun | 22 => 31 | 24 => 41 | 25 => 97 | 3 => 3 | 39 => 143 | 0 => 0 | 53 => 181 | 55 => 91 | 4 => 4 | 46 => 175 | 45 => 174 | 50 => 104 | 5 => 5 | 9 => 9 | 66 => 207 | 70 => 211 | 76 => 221 | 77 => 222 | n => n, fun | n => n⟩
theorem LayA.lay : Go.Proofs.SlLaysF0.n6 Tryz.prog LayA.lay_ren where
  mixed := by kernel_rfl
  f6 := ⟨Tryz.f79.name, by decide, Tryz.func79.trans (congrArg some (by kernel_rfl))⟩
  f14 := ⟨Tryz.f109.name, by decide, Tryz.func109.trans (congrArg some (by kernel_rfl))⟩
  f15 := Tryz.func88.trans (congrArg some (by kernel_rfl))
  f20 := ⟨Tryz.f129.name, by decide, Tryz.func129.trans (congrArg some (by kernel_rfl))⟩
  f21 := ⟨Tryz.f130.name, by decide, Tryz.func130.trans (congrArg some (by kernel_rfl))⟩
  f22 := ⟨Tryz.f131.name, by decide, Tryz.func131.trans (congrArg some (by kernel_rfl))⟩
  f23 := ⟨Tryz.f132.name, by decide, Tryz.func132.trans (congrArg some (by kernel_rfl))⟩
  f24 := ⟨Tryz.f133.name, by decide, Tryz.func133.trans (congrArg some (by kernel_rfl))⟩
  f25 := ⟨Tryz.f134.name, by decide, Tryz.func134.trans (congrArg some (by kernel_rfl))⟩
  f26 := ⟨Tryz.f135.name, by decide, Tryz.func135.trans (congrArg some (by kernel_rfl))⟩
  f27 := ⟨Tryz.f136.name, by decide, Tryz.func136.trans (congrArg some (by kernel_rfl))⟩
  f28 := Tryz.func122.trans (congrArg some (by kernel_rfl))
  f29 := Tryz.func123.trans (congrArg some (by kernel_rfl))
  f46 := ⟨Tryz.f145.name, by decide, Tryz.func145.trans (congrArg some (by kernel_rfl))⟩
  f47 := Tryz.func141.trans (congrArg some (by kernel_rfl))
  f48 := Tryz.func142.trans (congrArg some (by kernel_rfl))
  f49 := ⟨Tryz.f146.name, by decide, Tryz.func146.trans (congrArg some (by kernel_rfl))⟩
  f50 := ⟨Tryz.f147.name, by decide, Tryz.func147.trans (congrArg some (by kernel_rfl))⟩
  f57 := ⟨Tryz.f158.name, by decide, Tryz.func158.trans (congrArg some (by kernel_rfl))⟩
  t0 := Tryz.underlying0
  a0 := Tryz.isAgg0
  z0 := Tryz.sizeOf0
  v0 := Tryz.zeroValue0
  t3 := Tryz.underlying3
  a3 := Tryz.isAgg3
  z3 := Tryz.sizeOf3
  v3 := Tryz.zeroValue3
  t4 := Tryz.underlying4
  a4 := Tryz.isAgg4
  z4 := Tryz.sizeOf4
  v4 := Tryz.zeroValue4
  t5 := Tryz.underlying5
  a5 := Tryz.isAgg5
  z5 := Tryz.sizeOf5
  v5 := Tryz.zeroValue5
  t9 := Tryz.underlying9
  a9 := Tryz.isAgg9
  z9 := Tryz.sizeOf9
  v9 := Tryz.zeroValue9
  t22 := Tryz.underlying31
  a22 := Tryz.isAgg31
  z22 := Tryz.sizeOf31
  v22 := Tryz.zeroValue31
  t25 := Tryz.underlying97
  a25 := Tryz.isAgg97
  z25 := Tryz.sizeOf97
  v25 := Tryz.zeroValue97
  t39 := Tryz.underlying143
  a39 := Tryz.isAgg143
  z39 := Tryz.sizeOf143
  v39 := Tryz.zeroValue143
  t45 := Tryz.underlying174
  a45 := Tryz.isAgg174
  z45 := Tryz.sizeOf174
  v45 := Tryz.zeroValue174
  t46 := Tryz.underlying175
  a46 := Tryz.isAgg175
  z46 := Tryz.sizeOf175
  v46 := Tryz.zeroValue175
  t50 := Tryz.underlying104
  a50 := Tryz.isAgg104
  z50 := Tryz.sizeOf104
  v50 := Tryz.zeroValue104
  t53 := Tryz.underlying181
  a53 := Tryz.isAgg181
  z53 := Tryz.sizeOf181
  v53 := Tryz.zeroValue181
  t55 := Tryz.underlying91
  a55 := Tryz.isAgg91
  z55 := Tryz.sizeOf91
  v55 := Tryz.zeroValue91
  t66 := Tryz.underlying207
  a66 := Tryz.isAgg207
  z66 := Tryz.sizeOf207
  v66 := Tryz.zeroValue207
  t70 := Tryz.underlying211
  a70 := Tryz.isAgg211
  z70 := Tryz.sizeOf211
  v70 := Tryz.zeroValue211
  t76 := Tryz.underlying221
  a76 := Tryz.isAgg221
  z76 := Tryz.sizeOf221
  v76 := Tryz.zeroValue221
  t77 := Tryz.underlying222
  a77 := Tryz.isAgg222
  z77 := Tryz.sizeOf222
  v77 := Tryz.zeroValue222
end Go.Proofs.YtechilkjfhpkpaaGreatDoor

namespace Go.Proofs.YtechilkjfhpkpaaGreatDoor.Srt
open Go Vm Go.Sort Go.Proofs
def sortF (k : Nat) (x : Sl) (fv : Value) (w : World) (K : World → Prop) : Prop :=
  (x.n = 0 ∧ K w) ∨ ∃ (g o : Nat) (enc : Nat → List Value) (cf : Nat → Nat → Int) (gf : Nat) (cb : Array Value),
    x.a = some ⟨g, o, none⟩ ∧ fv = .func (.func gf) #[] cb ∧ (∀ i, (enc i).length = k) ∧ (∀ i, ∀ v ∈ enc i, v.oneCell' = true) ∧ SWO (ltOf cf) ∧
    (∀ args w, (callFunc gf args).run Tryz.prog w = .ok (.enter gf args) w) ∧ CmpLays Tryz.prog gf cb enc k cf g o x.n w ∧ HoldsK enc k w g o (Array.range x.n) ∧ g < w.heap.size ∧ x.n < 4611686018427387904 ∧
    ∀ (d' : Array Nat) n os, PermIn 0 x.n (Array.range x.n) d' → SortedIn (ltOf cf) 0 x.n d' → K (sortWorldK enc k w g o n d' os)
theorem sortP_ok {a : Option Addr} {n c : Nat} {fv : Value} {w : World} {K : Value → World → Prop} (h : sortF 2 ⟨a, n, c⟩ fv w fun w' => K (.tuple #[]) w') :
    HasBody Tryz.prog 60 ∧ Calls Tryz.prog 60 ([Value.slice a n c, fv] : List Value).toArray w (fun e w' => ∃ v, e = .returned v ∧ K v w') := by
  refine ⟨⟨_, Tryz.func60, by kernel_rfl, by kernel_rfl⟩, ?_⟩
  rcases h with ⟨hn, hk⟩ | ⟨g, o, enc, cf, gf, cb, ha, hf, h3, h1, hO, eg, hc, hH, hg, hb, hk⟩
  · simp only at hn
    subst hn
    exact (AnyF.slices_SortFunc_none LayP.lay a c fv w).mono fun e w' ⟨he, hw⟩ => ⟨_, he, by rw [hw]; exact hk⟩
  · simp only at ha hc hH hb hk
    subst ha hf
    have key := AnyQ.slices_SortFunc LayP.lay 2 Tryz.isAgg45 Tryz.sizeOf45 enc h3 h1 cf hO gf cb g o c (Array.range n) w eg (by rw [Array.size_range]; exact hc) hH hg (by rw [Array.size_range]; exact hb)
    rw [Array.size_range] at key
    exact key.mono fun e w' ⟨he, d', m, os, hp, hs, hw⟩ => ⟨_, he, by rw [hw]; exact hk d' m os hp hs⟩
theorem sortA_ok {a : Option Addr} {n c : Nat} {fv : Value} {w : World} {K : Value → World → Prop} (h : sortF 6 ⟨a, n, c⟩ fv w fun w' => K (.tuple #[]) w') :
    HasBody Tryz.prog 79 ∧ Calls Tryz.prog 79 ([Value.slice a n c, fv] : List Value).toArray w (fun e w' => ∃ v, e = .returned v ∧ K v w') := by
  refine ⟨⟨_, Tryz.func79, by kernel_rfl, by kernel_rfl⟩, ?_⟩
  rcases h with ⟨hn, hk⟩ | ⟨g, o, enc, cf, gf, cb, ha, hf, h3, h1, hO, eg, hc, hH, hg, hb, hk⟩
  · simp only at hn
    subst hn
    exact (AnyF.slices_SortFunc_none LayA.lay a c fv w).mono fun e w' ⟨he, hw⟩ => ⟨_, he, by rw [hw]; exact hk⟩
  · simp only at ha hc hH hb hk
    subst ha hf
    have key := AnyQ.slices_SortFunc LayA.lay 6 Tryz.isAgg41 Tryz.sizeOf41 enc h3 h1 cf hO gf cb g o c (Array.range n) w eg (by rw [Array.size_range]; exact hc) hH hg (by rw [Array.size_range]; exact hb)
    rw [Array.size_range] at key
    exact key.mono fun e w' ⟨he, d', m, os, hp, hs, hw⟩ => ⟨_, he, by rw [hw]; exact hk d' m os hp hs⟩
end Go.Proofs.YtechilkjfhpkpaaGreatDoor.Srt

set_option maxRecDepth 100000
namespace Go.Proofs.YtechilkjfhpkpaaGreatDoor
open Go Go.Shelf
def LayS.lay_ren : Go.Shelf.Ren := ⟨fun | 6 => 112 | 8 => 88 | 9 => 139 | 19 => 122 | 20 => 123 | 21 => 148 | 22 => 149 | 23 => 150 | 24 => 151 | 25 => 152 | 26 => 153 | 27 => 154 | 28 => 155 | 29 => 156 | 36 => 159 | 31 => 141 | 32 => 142 | 37 => 160 | 38 => 161 | 39 => 162 | 41 => 163 | n => n, fun | 27 => 88 | 29 => 9 | 3 => 3 | 32 => 143 | 26 => 88 | 0 => 0 | 44 => 181 | 46 => 91 | 4 => 4 | 36 => 175 | 35 => 174 | 41 => 104 | 5 => 5 | 9 => 9 | 53 => 207 | 57 => 211 | 63 => 221 | 64 => 222 | n => n, fun | n => n⟩
theorem LayS.lay : Go.Proofs.SlLaysM.n6 Tryz.prog LayS.lay_ren where
  mixed := by kernel_rfl
  f6 := ⟨Tryz.f112.name, by decide, Tryz.func112.trans (congrArg some (by kernel_rfl))⟩
  f8 := Tryz.func88.trans (congrArg some (by kernel_rfl))
  f9 := ⟨Tryz.f139.name, by decide, Tryz.func139.trans (congrArg some (by kernel_rfl))⟩
  f19 := Tryz.func122.trans (congrArg some (by kernel_rfl))
  f20 := Tryz.func123.trans (congrArg some (by kernel_rfl))
  f21 := ⟨Tryz.f148.name, by decide, Tryz.func148.trans (congrArg some (by kernel_rfl))⟩
  f22 := ⟨Tryz.f149.name, by decide, Tryz.func149.trans (congrArg some (by kernel_rfl))⟩
  f23 := ⟨Tryz.f150.name, by decide, Tryz.func150.trans (congrArg some (by kernel_rfl))⟩
  f24 := ⟨Tryz.f151.name, by decide, Tryz.func151.trans (congrArg some (by kernel_rfl))⟩
  f25 := ⟨Tryz.f152.name, by decide, Tryz.func152.trans (congrArg some (by kernel_rfl))⟩
  f26 := ⟨Tryz.f153.name, by decide, Tryz.func153.trans (congrArg some (by kernel_rfl))⟩
  f27 := ⟨Tryz.f154.name, by decide, Tryz.func154.trans (congrArg some (by kernel_rfl))⟩
  f28 := ⟨Tryz.f155.name, by decide, Tryz.func155.trans (congrArg some (by kernel_rfl))⟩
  f29 := ⟨Tryz.f156.name, by decide, Tryz.func156.trans (congrArg some (by kernel_rfl))⟩
  f31 := Tryz.func141.trans (congrArg some (by kernel_rfl))
  f32 := Tryz.func142.trans (congrArg some (by kernel_rfl))
  f36 := ⟨Tryz.f159.name, by decide, Tryz.func159.trans (congrArg some (by kernel_rfl))⟩
  f37 := ⟨Tryz.f160.name, by decide, Tryz.func160.trans (congrArg some (by kernel_rfl))⟩
  f38 := ⟨Tryz.f161.name, by decide, Tryz.func161.trans (congrArg some (by kernel_rfl))⟩
  f39 := ⟨Tryz.f162.name, by decide, Tryz.func162.trans (congrArg some (by kernel_rfl))⟩
  f41 := ⟨Tryz.f163.name, by decide, Tryz.func163.trans (congrArg some (by kernel_rfl))⟩
  t0 := Tryz.underlying0
  a0 := Tryz.isAgg0
  z0 := Tryz.sizeOf0
  v0 := Tryz.zeroValue0
  t3 := Tryz.underlying3
  a3 := Tryz.isAgg3
  z3 := Tryz.sizeOf3
  v3 := Tryz.zeroValue3
  t4 := Tryz.underlying4
  a4 := Tryz.isAgg4
  z4 := Tryz.sizeOf4
  v4 := Tryz.zeroValue4
  t5 := Tryz.underlying5
  a5 := Tryz.isAgg5
  z5 := Tryz.sizeOf5
  v5 := Tryz.zeroValue5
  t9 := Tryz.underlying9
  a9 := Tryz.isAgg9
  z9 := Tryz.sizeOf9
  v9 := Tryz.zeroValue9
  t26 := Tryz.underlying88
  a26 := Tryz.isAgg88
  z26 := Tryz.sizeOf88
  v26 := Tryz.zeroValue88
  t27 := Tryz.underlying88
  a27 := Tryz.isAgg88
  z27 := Tryz.sizeOf88
  v27 := Tryz.zeroValue88
  t29 := Tryz.underlying9
  a29 := Tryz.isAgg9
  z29 := Tryz.sizeOf9
  v29 := Tryz.zeroValue9
  t32 := Tryz.underlying143
  a32 := Tryz.isAgg143
  z32 := Tryz.sizeOf143
  v32 := Tryz.zeroValue143
  t35 := Tryz.underlying174
  a35 := Tryz.isAgg174
  z35 := Tryz.sizeOf174
  v35 := Tryz.zeroValue174
  t36 := Tryz.underlying175
  a36 := Tryz.isAgg175
  z36 := Tryz.sizeOf175
  v36 := Tryz.zeroValue175
  t41 := Tryz.underlying104
  a41 := Tryz.isAgg104
  z41 := Tryz.sizeOf104
  v41 := Tryz.zeroValue104
  t44 := Tryz.underlying181
  a44 := Tryz.isAgg181
  z44 := Tryz.sizeOf181
  v44 := Tryz.zeroValue181
  t46 := Tryz.underlying91
  a46 := Tryz.isAgg91
  z46 := Tryz.sizeOf91
  v46 := Tryz.zeroValue91
  t53 := Tryz.underlying207
  a53 := Tryz.isAgg207
  z53 := Tryz.sizeOf207
  v53 := Tryz.zeroValue207
  t57 := Tryz.underlying211
  a57 := Tryz.isAgg211
  z57 := Tryz.sizeOf211
  v57 := Tryz.zeroValue211
  t63 := Tryz.underlying221
  a63 := Tryz.isAgg221
  z63 := Tryz.sizeOf221
  v63 := Tryz.zeroValue221
  t64 := Tryz.underlying222
  a64 := Tryz.isAgg222
  z64 := Tryz.sizeOf222
  v64 := Tryz.zeroValue222
end Go.Proofs.YtechilkjfhpkpaaGreatDoor

namespace Go.Proofs.YtechilkjfhpkpaaGreatDoor.Srt
open Go Vm Go.Sort Go.Proofs
def leS (x y : List UInt8) : Bool := decide (x ≤ y)
def sortS (x : Sl) (w : World) (K : World → Prop) : Prop :=
  (x.n = 0 ∧ K w) ∨ ∃ (g o : Nat) (ss : List (List UInt8)), x.a = some ⟨g, o, none⟩ ∧ ss.length = x.n ∧ Holds encStr w g o ss.toArray ∧ g < w.heap.size ∧ x.n < 4611686018427387904 ∧
    ∀ n os, K (grow (putRow encStr (Sort.ahead w n) g o (ss.mergeSort leS).toArray) os)
theorem sortS_ok {a : Option Addr} {n c : Nat} {w : World} {K : Value → World → Prop} (h : sortS ⟨a, n, c⟩ w fun w' => K (.tuple #[]) w') :
    HasBody Tryz.prog 112 ∧ Calls Tryz.prog 112 ([Value.slice a n c] : List Value).toArray w (fun e w' => ∃ v, e = .returned v ∧ K v w') := by
  refine ⟨⟨_, Tryz.func112, by kernel_rfl, by kernel_rfl⟩, ?_⟩
  rcases h with ⟨hn, hk⟩ | ⟨g, o, ss, ha, hl, hH, hg, hb, hk⟩
  · simp only at hn
    subst hn
    exact (AnyM.slices_Sort_string_none LayS.lay a c w).mono fun e w' ⟨he, hw⟩ => ⟨_, he, by rw [hw]; exact hk⟩
  · simp only at ha hl
    subst ha hl
    exact (AnyM.slices_Sort_string LayS.lay g o c ss w hH hg hb).mono fun e w' ⟨he, m, os, hw⟩ => ⟨_, he, by rw [hw]; exact hk m os⟩
end Go.Proofs.YtechilkjfhpkpaaGreatDoor.Srt
