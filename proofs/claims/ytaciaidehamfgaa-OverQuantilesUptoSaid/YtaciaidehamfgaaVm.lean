/- A predicate transformer that is computed on the loaded code: definitions. Own work; nothing here is trusted. -/
import Derived.Deep.Draws
import Derived.OrdersHeld
import Derived.OrdersIn
import Derived.RangeFuncLeaves
import Derived.RangeFuncSeq
import Derived.RangeFuncOwn
import Derived.LoopN
import Derived.Laws.World
import Derived.Laws.Entries
import Derived.Tactics
import Derived.Laws.FloatArith
import Derived.KernelRfl
import Derived.Laws.StructEq
namespace Go.Proofs.Ytaciaidehamfgaa.Vm
open Go

structure Sl where
  a : Option Addr
  n : Nat
  c : Nat

@[reducible] def Sl.v (s : Sl) : Value := .slice s.a s.n s.c

/-! The primitives of the clean texts. -/
namespace G
def cond (c : Bool) (X Y : Prop) : Prop := match c with | true => X | false => Y
def ptr (A : Option Addr) (K : Addr → Prop) : Prop := match A with | some a => K a | none => False
def cI (k : IntKind) (a : Addr) (w : World) (K : Int → Prop) : Prop := ∃ n, w.cell? a = some (.int k n) ∧ K n
def cB (a : Addr) (w : World) (K : Bool → Prop) : Prop := ∃ n, w.cell? a = some (.bool n) ∧ K n
def cS (a : Addr) (w : World) (K : ByteArray → Prop) : Prop := ∃ n, w.cell? a = some (.string n) ∧ K n
def cSl (a : Addr) (w : World) (K : Sl → Prop) : Prop := ∃ s : Sl, w.cell? a = some s.v ∧ K s
def cP (a : Addr) (w : World) (K : Option Addr → Prop) : Prop := ∃ n, w.cell? a = some (.pointer n) ∧ K n
def cM (a : Addr) (w : World) (K : Option Nat → Prop) : Prop := ∃ n, w.cell? a = some (.map n) ∧ K n
def cF (k : FloatKind) (a : Addr) (w : World) (K : Nat → Prop) : Prop := ∃ n, w.cell? a = some (.float k n) ∧ K n
def cV (a : Addr) (w : World) (K : Value → Prop) : Prop := ∃ v, w.cell? a = some v ∧ K v
def st (a : Addr) (v : Value) (w : World) (K : World → Prop) : Prop := (∃ u, w.cell? a = some u) ∧ w.frozen? a = false ∧ K (w.setCell a v)
def ix (A : Option Addr) (n : Nat) (i : Int) (size : Nat) (K : Addr → Prop) : Prop :=
  match A with | some a => (0 ≤ i ∧ i < (n : Int)) ∧ K (a.add (i.toNat * size)) | none => False
def nz (b : Int) (X : Prop) : Prop := b ≠ 0 ∧ X
def nn (b : Int) (X : Prop) : Prop := 0 ≤ b ∧ X
def ixS (s : ByteArray) (i : Int) (K : Int → Prop) : Prop := ∃ b : UInt8, 0 ≤ i ∧ s[i.toNat]? = some b ∧ K (b.toNat : Int)
/-- An element of an array that is a value. -/
def ixV (cs : Array Value) (i : Int) (len : Nat) (k : IntKind) (K : Int → Prop) : Prop := ∃ n, (0 ≤ i ∧ i < (len : Int)) ∧ cs[i.toNat]? = some (.int k n) ∧ K n
def cat (s t : ByteArray) (K : ByteArray → Prop) : Prop := ((s.size + t.size : Nat) : Int) ≤ IntKind.i64.max ∧ K (s ++ t)
/-- s[lo:hi] of a slice. -/
def slc (s : Sl) (lo hi : Int) (size : Nat) (K : Sl → Prop) : Prop :=
  (0 ≤ lo ∧ lo ≤ hi ∧ hi ≤ (s.c : Int)) ∧ K ⟨if s.c = lo.toNat then s.a else s.a.map (·.add (lo.toNat * size)), hi.toNat - lo.toNat, s.c - lo.toNat⟩
/-- s[lo:hi:mx] of a slice. -/
def slc3 (s : Sl) (lo hi mx : Int) (size : Nat) (K : Sl → Prop) : Prop :=
  (0 ≤ lo ∧ lo ≤ hi ∧ hi ≤ mx ∧ mx ≤ (s.c : Int)) ∧ K ⟨if mx.toNat = lo.toNat then s.a else s.a.map (·.add (lo.toNat * size)), hi.toNat - lo.toNat, mx.toNat - lo.toNat⟩
/-- s[lo:hi] of a string. -/
def slcS (s : ByteArray) (lo hi : Int) (K : ByteArray → Prop) : Prop := (0 ≤ lo ∧ lo ≤ hi ∧ hi ≤ (s.size : Int)) ∧ K (s.extract lo.toNat hi.toNat)
/-- An operation of the model, whatever it answers. -/
def run (P : Program) (m : Sem Value) (w : World) (K : Value → World → Prop) : Prop := ∃ v w', m.run P w = .ok v w' ∧ K v w'
def runI (P : Program) (m : Sem Value) (k : IntKind) (w : World) (K : Int → World → Prop) : Prop := ∃ n w', m.run P w = .ok (.int k n) w' ∧ K n w'
def runSl (P : Program) (m : Sem Value) (w : World) (K : Sl → World → Prop) : Prop := ∃ (s : Sl) (w' : World), m.run P w = .ok s.v w' ∧ K s w'
def runM (P : Program) (m : Sem Value) (w : World) (K : Option Nat → World → Prop) : Prop := ∃ n w', m.run P w = .ok (.map n) w' ∧ K n w'
def runP (P : Program) (m : Sem Value) (w : World) (K : Option Addr → World → Prop) : Prop := ∃ n w', m.run P w = .ok (.pointer n) w' ∧ K n w'
/-- The next entry of a map that is gone through: none is left, or one comes. -/
def nxt (P : Program) (m : Sem Value) (w : World) (K0 : World → Prop) (K1 : Value → Value → World → Prop) : Prop := ∃ w', (m.run P w = .ok (.tuple #[.bool false]) w' ∧ K0 w') ∨ ∃ k x, m.run P w = .ok (.tuple #[.bool true, k, x]) w' ∧ K1 k x w'
def ent (P : Program) (m : Sem Value) (w : World) (K : Value → Value → Prop) : Prop := ∃ k x, m.run P w = .ok (.tuple #[k, x]) w ∧ K k x
def runS (P : Program) (m : Sem Value) (w : World) (K : ByteArray → World → Prop) : Prop := ∃ n w', m.run P w = .ok (.string n) w' ∧ K n w'
def runE (P : Program) (m : Sem Value) (w : World) (K : Sl → Int → World → Prop) : Prop := ∃ (s : Sl) (n : Int) (w' : World), m.run P w = .ok (.tuple #[s.v, .int .i64 n]) w' ∧ K s n w'
def runU (P : Program) (m : Sem Unit) (w : World) (K : World → Prop) : Prop := ∃ w', m.run P w = .ok () w' ∧ K w'
/-- Reads, whatever was drawn. -/
def rdI (P : Program) (m : Sem Value) (k : IntKind) (w : World) (K : Int → Prop) : Prop := ∃ n, (∀ d, m.run P (w.drewN d) = .ok (.int k n) (w.drewN d)) ∧ K n
def rdS (P : Program) (m : Sem Value) (w : World) (K : ByteArray → Prop) : Prop := ∃ n, (∀ d, m.run P (w.drewN d) = .ok (.string n) (w.drewN d)) ∧ K n
/-- Leaves that are cells of an array that is a value. -/
def vI (k : IntKind) (x : Option Value) (K : Int → Prop) : Prop := ∃ n, x = some (.int k n) ∧ K n
def vB (x : Option Value) (K : Bool → Prop) : Prop := ∃ n, x = some (.bool n) ∧ K n
def vS (x : Option Value) (K : ByteArray → Prop) : Prop := ∃ n, x = some (.string n) ∧ K n
def vSl (x : Option Value) (K : Sl → Prop) : Prop := ∃ s : Sl, x = some s.v ∧ K s
def vP (x : Option Value) (K : Option Addr → Prop) : Prop := ∃ n, x = some (.pointer n) ∧ K n
def vM (x : Option Value) (K : Option Nat → Prop) : Prop := ∃ n, x = some (.map n) ∧ K n
def vF (k : FloatKind) (x : Option Value) (K : Nat → Prop) : Prop := ∃ n, x = some (.float k n) ∧ K n
def vV (x : Option Value) (K : Value → Prop) : Prop := ∃ v, x = some v ∧ K v
end G

/-! Fences: all is let in; the frame may be a round's. -/
@[reducible] def Wd (ro : Option Nat) : Fence := { fn := fun _ => True, depth := none, alive := false, round := ro }

/-! Environments. -/
abbrev Env := Nat → Value
def upd (ρ : Env) (d : Nat) (v : Value) : Env := fun i => bif Nat.beq i d then v else ρ i
def put (N : Nat) (ρ : Env) (d : Option Nat) (v : Value) : Env := match d with | some d => bif Nat.beq d N then ρ else upd ρ d v | none => ρ
def ev (N : Nat) (ρ : Env) : Operand → Value
  | .tmp t => bif Nat.blt t N then ρ t else undef
  | .const v => v
  | .global g => .pointer (some ⟨g, 0, none⟩)
  | .func f => .func (.func f) #[] #[]

/-! Marks of ranges over functions: slot N holds them. -/
def markD (v : Value) : Deferred := match v with | .int _ d => { target := .collected d.toNat, args := #[] } | _ => { target := .collected 0, args := #[] }
def marksOf (v : Value) : List Deferred := match v with | .agg cs => cs.toList.map markD | _ => []
def pushMark (v : Value) (D : Nat) : Value := match v with | .agg cs => .agg ⟨.int .i64 (D : Int) :: cs.toList⟩ | _ => .agg ⟨[.int .i64 (D : Int)]⟩
def marksL : List Value → World → (World → Prop) → Prop
  | [], w, K => K w
  | v :: r, w, K => match v with
    | .int _ d => w.heap[d.toNat]? = some (.deferred (some [])) ∧ marksL r (w.putObj d.toNat (.deferred none)) K
    | _ => False
def G.marks (v : Value) (w : World) (K : World → Prop) : Prop := match v with | .agg cs => marksL cs.toList w K | _ => K w
theorem marksOf_push (v : Value) (D : Nat) : marksOf (pushMark v D) = { target := .collected D, args := #[] } :: marksOf v := by
  cases v <;> simp [marksOf, pushMark, markD]

/-- M: the function holds a range over a function. -/
structure Rel (M : Bool) (N : Nat) (a : Act) (ρ : Env) : Prop where
  size : a.tmps.size = N
  defers : a.defers = bif M then marksOf (ρ N) else []
  get : ∀ i, i < N → a.tmps.getD i undef = ρ i

theorem Rel.eval {M : Bool} {N : Nat} {a : Act} {ρ : Env} (h : Rel M N a ρ) (x : Operand) : a.eval x = ev N ρ x := by
  cases x with
  | tmp t =>
    simp only [Act.eval, ev]
    by_cases ht : t < N
    · rw [h.get t ht]
      have : Nat.blt t N = true := by simpa [Nat.blt_eq] using ht
      rw [this]; rfl
    · have h1 : Nat.blt t N = false := by
        cases hb : Nat.blt t N
        · rfl
        · exact absurd (Nat.blt_eq.mp hb) ht
      rw [h1]
      have := h.size
      simp [Array.getD, this, ht]
  | const v => rfl
  | global g => rfl
  | func f => rfl

theorem Rel.evals {M : Bool} {N : Nat} {a : Act} {ρ : Env} (h : Rel M N a ρ) : a.eval = ev N ρ := funext h.eval

theorem upd_ne {ρ : Env} {d i : Nat} {v : Value} (h : i ≠ d) : upd ρ d v i = ρ i := by
  have hb : Nat.beq i d = false := by
    cases hb : Nat.beq i d
    · rfl
    · exact absurd (Nat.eq_of_beq_eq_true hb) h
  simp only [upd, hb, cond_false]
theorem upd_eq {ρ : Env} {d : Nat} {v : Value} : upd ρ d v d = v := by
  have hb : Nat.beq d d = true := by simp
  simp only [upd, hb, cond_true]

theorem Rel.put {M : Bool} {N : Nat} {a : Act} {ρ : Env} (h : Rel M N a ρ) (d : Option Nat) (v : Value) : Rel M N (a.put d v) (put N ρ d v) := by
  cases d with
  | none => exact h
  | some d =>
    by_cases hd : d = N
    · subst hd
      have hb : Nat.beq d d = true := by simp
      have hs := h.size
      refine ⟨by simpa [Act.put] using h.size, ?_, fun i hi => ?_⟩
      · simp only [Vm.put, hb, cond_true]; exact h.defers
      · simp only [Vm.put, hb, cond_true, Act.put]
        rw [← h.get i hi, Array.getD_eq_getD_getElem?, Array.getD_eq_getD_getElem?, Array.getElem?_setIfInBounds_ne (by omega)]
    · have hb : Nat.beq d N = false := by
        cases hb : Nat.beq d N
        · rfl
        · exact absurd (Nat.eq_of_beq_eq_true hb) hd
      simp only [Vm.put, hb, cond_false]
      refine ⟨by simpa [Act.put] using h.size, ?_, fun i hi => ?_⟩
      · rw [upd_ne (Ne.symm hd)]; exact h.defers
      · have hs := h.size
        have hg := h.get i hi
        simp only [Act.put]
        by_cases e : i = d
        · subst e
          rw [upd_eq]
          simp [Array.getD, hs, hi]
        · rw [upd_ne e, ← hg, Array.getD_eq_getD_getElem?, Array.getD_eq_getD_getElem?, Array.getElem?_setIfInBounds_ne (Ne.symm e)]
theorem Rel.plain {M : Bool} {N : Nat} {a : Act} {ρ : Env} (h : Rel M N a ρ) : Rel false N { a with defers := [] } ρ := ⟨h.size, rfl, h.get⟩

theorem upd_self {ρ : Env} {d : Nat} {v : Value} (h : ρ d = v) : upd ρ d v = ρ := by
  funext i
  by_cases e : i = d
  · subst e; rw [upd_eq, h]
  · rw [upd_ne e]

/-! Kinds of cells. -/
inductive LK where
  | int (k : IntKind) | bool | str | sl | ptr | map | fl (k : FloatKind) | raw | bad

def lk (P : Program) (t : TypeId) : LK :=
  match P.underlying t with
  | some (.int k) => .int k
  | some .bool => .bool
  | some .string => .str
  | some (.slice _) => .sl
  | some (.pointer _) => .ptr
  | some (.map _ _) => .map
  | some (.float k) => .fl k
  | some (.func _ _ _) => .raw
  | some (.interface _) => .raw
  | _ => .bad

def leaves (P : Program) : Nat → TypeId → List LK
  | 0, _ => [.bad]
  | d + 1, t =>
    match P.underlying t with
    | some (.struct fs) => fs.toList.flatMap fun f => leaves P d f.type
    | some (.array n e) => (List.replicate n (leaves P d e)).flatten
    | _ => [lk P t]

/-- One cell that is read. -/
def rd (l : LK) (a : Addr) (w : World) (K : Value → Prop) : Prop :=
  match l with
  | .int k => G.cI k a w fun n => K (.int k n)
  | .bool => G.cB a w fun n => K (.bool n)
  | .str => G.cS a w fun n => K (.string n)
  | .sl => G.cSl a w fun s => K s.v
  | .ptr => G.cP a w fun n => K (.pointer n)
  | .map => G.cM a w fun n => K (.map n)
  | .fl k => G.cF k a w fun n => K (.float k n)
  | .raw => G.cV a w K
  | .bad => False

def rds (a : Addr) (w : World) : List LK → Nat → List Value → (List Value → Prop) → Prop
  | [], _, acc, K => K acc
  | l :: r, i, acc, K => rd l (a.add i) w fun v => rds a w r (i + 1) (acc ++ [v]) K

/-- A leaf of an array that is a value. -/
def rv (l : LK) (x : Option Value) (K : Value → Prop) : Prop :=
  match l with
  | .int k => G.vI k x fun n => K (.int k n)
  | .bool => G.vB x fun n => K (.bool n)
  | .str => G.vS x fun n => K (.string n)
  | .sl => G.vSl x fun s => K s.v
  | .ptr => G.vP x fun n => K (.pointer n)
  | .map => G.vM x fun n => K (.map n)
  | .fl k => G.vF k x fun n => K (.float k n)
  | .raw => G.vV x K
  | .bad => False
def rvs (cs : Array Value) (o : Nat) : List LK → Nat → List Value → (List Value → Prop) → Prop
  | [], _, acc, K => K acc
  | l :: r, i, acc, K => rv l cs[o + i]? fun v => rvs cs o r (i + 1) (acc ++ [v]) K

def isAggT (P : Program) (t : TypeId) : Bool :=
  match P.underlying t with
  | some (.struct _) => true
  | some (.array _ _) => true
  | some _ => false
  | none => true

def vcLoad (P : Program) (t : TypeId) (x : Value) (w : World) (K : Value → Prop) : Prop :=
  match x with
  | .pointer A => G.ptr A fun a =>
    match P.underlying t with
    | none => False
    | some _ => bif isAggT P t then bif Nat.beq (leaves P 8 t).length (P.cellsOf t) then rds a w (leaves P 8 t) 0 [] fun vs => K (.agg ⟨vs⟩) else False
      else rd (lk P t) a w K
  | _ => False

/-- A value of one cell. -/
def G.one (v : Value) (K : Prop) : Prop := match v.oneCell' with | true => K | false => False
def sts (a : Addr) : List Value → Nat → World → (World → Prop) → Prop
  | [], _, w, K => K w
  | v :: r, i, w, K => match v.oneCell' with
    | true => G.st (a.add i) v w fun w' => sts a r (i + 1) w' K
    | false => False

def vcStore (P : Program) (t : TypeId) (x v : Value) (w : World) (K : World → Prop) : Prop :=
  match x with
  | .pointer A => G.ptr A fun a => bif (P.info? t).isSome then bif Nat.beq v.cells.size (P.cellsOf t) then sts a v.cells.toList 0 w K else False else False
  | _ => False

def vcIndexAddr (P : Program) (t : TypeId) (x i : Value) (K : Value → Prop) : Prop :=
  match i with
  | .int _ i =>
    match P.underlying t, x with
    | some (.slice e), .slice A n _ => bif (P.info? e).isSome then G.ix A n i (P.cellsOf e) fun a => K (.pointer (some a)) else False
    | some (.array n e), .pointer A => bif (P.info? e).isSome then G.ix A n i (P.cellsOf e) fun a => K (.pointer (some a)) else False
    | _, _ => False
  | _ => False

/-- What an operation answers that looks at no memory. -/
def pureOf (P : Program) {α : Type} : Sem α → Option α
  | .pure a => some a
  | .program k => pureOf P (k P)
  | .mark _ k => pureOf P k
  | _ => none

def genK (P : Program) (s : Sem Next) (K : Value → Prop) : Prop := match pureOf P s with | some (.value v) => K v | _ => False

def G.isNilF (v : Value) (K : Bool → Prop) : Prop := match v with | .nilFunc => K true | .func _ _ _ => K false | _ => False
/-- Two structs of plain fields. -/
def eqF (P : Program) (xs ys : Array Value) : List Field → Option Bool
  | [] => some true
  | f :: r => bif f.name == "_" then none else match eqF P xs ys r with
    | none => none
    | some b => match P.underlying f.type, xs[f.offset]?, ys[f.offset]? with
      | some (.int _), some (.int k a), some (.int k' c) => bif decide (k = k') then some ((a == c) && b) else none
      | some .bool, some (.bool a), some (.bool c) => some ((a == c) && b)
      | some .string, some (.string a), some (.string c) => some ((a.toList == c.toList) && b)
      | some (.float _), some (.float k a), some (.float k' c) => bif decide (k = k') then some (Op.floatEq k a c && b) else none
      | _, _, _ => none
def vcEqS (P : Program) (t : TypeId) (fs : Array Field) (xs ys : Array Value) (K : Bool → Prop) : Prop :=
  bif P.stoodInHeld t || P.eqGuardType P.depth t then False else match eqF P xs ys fs.toList with | some b => K b | none => False

/-! Floats. -/
def isFA (P : Program) (op : BinOp) (t : TypeId) : Bool := match P.underlying t with | some (.float _) => (match op with | .add | .sub | .mul | .quo => true | _ => false) | _ => false
def nanB (r : Nat) : Prop := (FloatKind.f64.decode r).isNaN = true ∧ r < 18446744073709551616
/-- An operation on float64: the result's bits, or some NaN. -/
def G.fa (op : BinOp) (a b : Nat) (w : World) (K : Nat → World → Prop) : Prop := match floatBits op .f64 a b with | some r => K r w | none => ∀ r, nanB r → K r w.drew
def G.f2i (b : Nat) (k : IntKind) (K : Int → Prop) : Prop := ∃ n, floatToIntVal .f64 b k = some n ∧ K n
/-- A number made whole (no NaN). -/
def G.whole (way : Ieee.Toward) (b : Nat) (K : Nat → Prop) : Prop := (FloatKind.f64.decode b).isNaN = false ∧ K (FloatKind.f64.encode ((FloatKind.f64.decode b).integral way))
def G.feq (a b : Nat) : Bool := FloatKind.f64.format.order a b == some .eq
def G.fne (a b : Nat) : Bool := FloatKind.f64.format.order a b != some .eq
def G.flt (a b : Nat) : Bool := FloatKind.f64.format.order a b == some .lt
def G.fle (a b : Nat) : Bool := FloatKind.f64.format.order a b == some .lt || FloatKind.f64.format.order a b == some .eq
def G.fgt (a b : Nat) : Bool := FloatKind.f64.format.order a b == some .gt
def G.fge (a b : Nat) : Bool := FloatKind.f64.format.order a b == some .gt || FloatKind.f64.format.order a b == some .eq
/-- An interface value, and whether it is nil. -/
def G.isNilI (v : Value) (K : Bool → Prop) : Prop := match v with | .nilIface => K true | .iface _ _ => K false | _ => False

/-- Two pointers compared, of which one at least is nil. -/
def G.eqN (A B : Option Addr) (K : Bool → Prop) : Prop := match B with | none => K A.isNone | some _ => match A with | none => K false | some _ => False
def constY (o : Oper) : Bool := match o.op with | .binOp _ _ _ (.const _) _ => true | _ => false
def vcBin (P : Program) (o : Oper) (ρ : Operand → Value) (op : BinOp) (t : TypeId) (x y : Value) (K : Value → Prop) : Prop :=
  match op with
  | .quo => match x, y with | .int k a, .int k' b => bif decide (k = k') then G.nz b (K (.int k (k.wrap (a.tdiv b)))) else False | _, _ => genK P (execOp ρ o) K
  | .rem => match x, y with | .int k a, .int k' b => bif decide (k = k') then G.nz b (K (.int k (a.tmod b))) else False | _, _ => genK P (execOp ρ o) K
  | .shl => match x, y with | .int k a, .int _ b => G.nn b (K (.int k (k.wrap (a * 2 ^ (min b.toNat k.bits))))) | _, _ => False
  | .shr => match x, y with | .int k a, .int _ b => G.nn b (K (.int k (a.fdiv (2 ^ (min b.toNat k.bits))))) | _, _ => False
  | .add => match x, y with | .string s, .string t => G.cat s t fun r => K (.string r) | _, _ => genK P (execOp ρ o) K
  | .eql => match P.underlying t, x, y with
    | some (.slice _), .slice A _ _, .slice none _ _ => K (.bool A.isNone)
    | some (.pointer _), .pointer A, .pointer B => G.eqN A B fun b => K (.bool b)
    | some (.map _ _), .map A, .map none => K (.bool A.isNone)
    | some (.func _ _ _), f, .nilFunc => G.isNilF f fun b => K (.bool b)
    | some (.interface _), f, .nilIface => bif constY o then G.isNilI f fun b => K (.bool b) else False
    | some (.struct fs), .agg xs, .agg ys => vcEqS P t fs xs ys fun b => K (.bool b)
    | _, _, _ => genK P (execOp ρ o) K
  | .neq => match P.underlying t, x, y with
    | some (.slice _), .slice A _ _, .slice none _ _ => K (.bool !A.isNone)
    | some (.pointer _), .pointer A, .pointer B => G.eqN A B fun b => K (.bool !b)
    | some (.map _ _), .map A, .map none => K (.bool !A.isNone)
    | some (.func _ _ _), f, .nilFunc => G.isNilF f fun b => K (.bool !b)
    | some (.interface _), f, .nilIface => bif constY o then G.isNilI f fun b => K (.bool !b) else False
    | some (.struct fs), .agg xs, .agg ys => vcEqS P t fs xs ys fun b => K (.bool !b)
    | _, _, _ => genK P (execOp ρ o) K
  | _ => genK P (execOp ρ o) K

def boundOf (d : Int) (x : Option Value) : Option Int := match x with | none => some d | some (.int _ n) => some n | _ => none

def vcSlice (P : Program) (t : TypeId) (x : Value) (lo hi mx : Option Value) (K : Value → Prop) : Prop :=
  match P.underlying t, x with
  | some .string, .string s => match mx, boundOf 0 lo, boundOf s.size hi with
    | none, some l, some h => G.slcS s l h fun r => K (.string r)
    | _, _, _ => False
  | some (.slice e), .slice A n c => bif (P.info? e).isSome then (match mx with
    | none => match boundOf 0 lo, boundOf n hi with
      | some l, some h => G.slc ⟨A, n, c⟩ l h (P.cellsOf e) fun r => K r.v
      | _, _ => False
    | some (.int _ m) => match boundOf 0 lo, hi with
      | some l, some (.int _ h) => G.slc3 ⟨A, n, c⟩ l h m (P.cellsOf e) fun r => K r.v
      | _, _ => False
    | _ => False) else False
  | _, _ => False

/-- What a read of the model answers: one value, or a value and whether it is there. -/
def G.rd1 {α : Type} (P : Program) (m : Sem Value) (f : α → Value) (w : World) (K : α → Prop) : Prop := ∃ a, (∀ d, m.run P (w.drewN d) = .ok (f a) (w.drewN d)) ∧ K a
def G.rd2 {α : Type} (P : Program) (m : Sem Value) (f : α → Value) (w : World) (K : α → Bool → Prop) : Prop := ∃ a b, (∀ d, m.run P (w.drewN d) = .ok (.tuple #[f a, .bool b]) (w.drewN d)) ∧ K a b
def lkR {α : Type} (P : Program) (m : Sem Value) (f : α → Value) (ok : Bool) (w : World) (K : Value → Prop) : Prop :=
  bif ok then G.rd2 P m f w fun a b => K (.tuple #[f a, .bool b]) else G.rd1 P m f w fun a => K (f a)
def G.ag (v : Value) (n : Nat) (K : Array Value → Prop) : Prop := match v with | .agg cs => bif Nat.beq cs.size n then K cs else False | _ => False
def splitA (P : Program) (e : TypeId) (v : Value) (K : Value → Prop) : Prop := bif isAggT P e then G.ag v (leaves P 8 e).length fun cs => rvs cs 0 (leaves P 8 e) 0 [] fun vs => K (.agg ⟨vs⟩) else False
def vcLk (P : Program) (t : TypeId) (m : Sem Value) (ok : Bool) (w : World) (K : Value → Prop) : Prop :=
  match P.underlying t with
  | some (.map _ e) => (match lk P e with
    | .int k => lkR P m (fun n : Int => .int k n) ok w K
    | .bool => lkR P m (fun b : Bool => .bool b) ok w K
    | .str => lkR P m (fun b : ByteArray => .string b) ok w K
    | .sl => lkR P m Sl.v ok w K
    | .ptr => lkR P m (fun a : Option Addr => .pointer a) ok w K
    | .map => lkR P m (fun n : Option Nat => .map n) ok w K
    | .fl k => lkR P m (fun n : Nat => .float k n) ok w K
    | .bad => bif ok then G.rd2 P m (fun v : Value => v) w fun v b => splitA P e v fun v => K (.tuple #[v, .bool b]) else G.rd1 P m (fun v : Value => v) w fun v => splitA P e v K
    | _ => False)
  | _ => False

/-- Operations that only read. -/
def vcR (P : Program) (N : Nat) (o : Oper) (ρ : Env) (w : World) (K : Value → Prop) : Prop :=
  match o.op with
  | .move x => K (ev N ρ x)
  | .assign x => K (ev N ρ x)
  | .pick c a b => match ev N ρ c with | .bool c => G.cond c (K (ev N ρ a)) (K (ev N ρ b)) | _ => False
  | .load t x => vcLoad P t (ev N ρ x) w K
  | .indexAddr t x i => vcIndexAddr P t (ev N ρ x) (ev N ρ i) K
  | .nilCheck x => match ev N ρ x with | .pointer A => G.ptr A fun a => K (.pointer (some a)) | _ => False
  | .binOp op t x y _ => vcBin P o (ev N ρ) op t (ev N ρ x) (ev N ρ y) K
  | .slice t x lo hi mx => vcSlice P t (ev N ρ x) (lo.map (ev N ρ)) (hi.map (ev N ρ)) (mx.map (ev N ρ)) K
  | .index t x i => match P.underlying t, ev N ρ x, ev N ρ i with
    | some .string, .string s, .int _ i => G.ixS s i fun b => K (.int .u8 b)
    | some (.array len e), .agg cs, .int _ i => (match P.underlying e, P.info? e with
      | some (.int k), some inf => bif Nat.beq inf.size 1 then G.ixV cs i len k fun n => K (.int k n) else False
      | some (.struct _), some inf => bif Nat.beq inf.size (leaves P 8 e).length && Nat.beq cs.size (len * inf.size) then (0 ≤ i ∧ i < (len : Int)) ∧ rvs cs (i.toNat * inf.size) (leaves P 8 e) 0 [] fun vs => K (.agg ⟨vs⟩) else False
      | _, _ => False)
    | _, _, _ => False
  | .convert s d x => match P.underlying s, P.underlying d, ev N ρ x with
    | some (.slice e), some .string, .slice A n c => (match P.underlying e with
      | some (.int .u8) => G.rdS P (Conv.bytesToString (.slice A n c)) w fun r => K (.string r)
      | _ => False)
    | some (.int _), some (.int k), .int _ n => K (.int k (k.wrap n))
    | some (.float _), some (.int k), .float .f64 b => G.f2i b k fun n => K (.int k n)
    | _, _, _ => genK P (execOp (ev N ρ) o) K
  | .fieldAddr t x f => match ev N ρ x with | .pointer A => G.ptr A fun a => (match pureOf P (Instr.fieldAt t (.pointer (some a)) f) with | some v => K v | none => False) | _ => False
  | .unOp _ _ _ | .extract _ _ | .field _ _ _ | .build _ _ | .makeInterface _ _ | .makeFunc _ _ _ => genK P (execOp (ev N ρ) o) K
  | .lookup t m k ok => vcLk P t (Instr.lookup t (ev N ρ m) (ev N ρ k) ok) ok w K
  | .call { callee := .builtin .len, args, argTypes } => match (argTypes[0]?).bind P.underlying, (args[0]?).map (ev N ρ) with
    | some .string, some (.string s) => K (.int .i64 s.size)
    | some (.slice _), some (.slice _ n _) => K (.int .i64 n)
    | some (.map _ _), some (.map _) => G.rdI P (Builtin.len_ argTypes o.type (args.map (ev N ρ))) .i64 w fun n => K (.int .i64 n)
    | _, _ => False
  | .call { callee := .builtin .min, .. } => genK P (execOp (ev N ρ) o) K
  | .call { callee := .builtin .max, .. } => genK P (execOp (ev N ρ) o) K
  | .call { callee := .builtin .cap, .. } => genK P (execOp (ev N ρ) o) K
  | _ => False

/-- Operations that make memory. -/
def sr (P : Program) {α : Type} : Sem α → World → (α → World → Prop) → Prop
  | .pure a, w, K => K a w
  | .program k, w, K => sr P (k P) w K
  | .mark _ k, w, K => sr P k w K
  | .new o k, w, K => sr P (k w.heap.size) (w.alloc o) K
  | _, _, _ => False

def runL (P : Program) (l : LK) (m : Sem Value) (w : World) (K : Value → World → Prop) : Prop :=
  match l with
  | .int k => G.runI P m k w fun n w' => K (.int k n) w'
  | .sl => G.runSl P m w fun s w' => K s.v w'
  | .map => G.runM P m w fun n w' => K (.map n) w'
  | .str => G.runS P m w fun n w' => K (.string n) w'
  | .raw => G.run P m w K
  | _ => False

abbrev Clee := FuncId → List Value → (Value → World → Prop) → World → Prop

/-- What a call of a value answers, by the kind that its type says. -/
def G.isB (v : Value) (K : Bool → Prop) : Prop := match v with | .bool b => K b | _ => False
def G.isI (k : IntKind) (v : Value) (K : Int → Prop) : Prop := match v with | .int k' n => (match decide (k' = k) with | true => K n | false => False) | _ => False
def G.isF (v : Value) (K : Nat → Prop) : Prop := match v with | .float .f64 n => K n | _ => False
def decR (P : Program) (t : TypeId) (v : Value) (K : Value → Prop) : Prop :=
  match P.underlying t with
  | some .bool => G.isB v fun b => K (.bool b)
  | some (.float .f64) => G.isF v fun b => K (.float .f64 b)
  | some (.int k) => G.isI k v fun n => K (.int k n)
  | _ => K v
/-- A call of yield. -/
def G.yieldAt (P : Program) (l : Nat) (args : List Value) (w : World) (K : Value → World → Prop) : Prop := YieldAt (Wd none) 0 P l args.toArray w fun e w' => ∃ v, e = .returned v ∧ K v w'
/-- A call of a function's value. -/
def G.callV (P : Program) (F : Clee) (f : Value) (args : List Value) (w : World) (K : Value → World → Prop) : Prop :=
  match f with
  | .func (.func n) first captured => F n (first.toList ++ args ++ captured.toList) K w
  | .func (.yield l) first _ => G.yieldAt P l (first.toList ++ args) w K
  | _ => False

/-- A method of what an interface holds. -/
def G.callI (P : Program) (F : Clee) (v : Value) (name : String) (args : List Value) (w : World) (K : Value → World → Prop) : Prop :=
  match v with
  | .iface t x => (match pureOf P (method (P.types.size + Made.depth) t x name) with
    | some (f, r) => F f (r :: args) K w
    | none => False)
  | _ => False

/-- An operation outside a statement whose order is open. -/
def vcOp (P : Program) (F : Clee) (N : Nat) (o : Oper) (ρ : Env) (w : World) (K : Value → World → Prop) : Prop :=
  match o.op with
  | .store t x v => vcStore P t (ev N ρ x) (ev N ρ v) w (K undef)
  | .alloc _ | .box _ _ | .buildSlice _ _ _ => sr P (execOp (ev N ρ) o) w fun n w' => match n with | .value v => K v w' | _ => False
  | .makeSlice t l c => G.runSl P (Instr.makeSlice t (ev N ρ l) (ev N ρ c)) w fun s w' => K s.v w'
  | .makeMap t r => G.runM P (Instr.makeMap t (r.map (ev N ρ))) w fun n w' => K (.map n) w'
  | .range t x => G.runP P (Instr.range t (ev N ρ x)) w fun n w' => K (.pointer n) w'
  | .next it false => G.nxt P (Instr.next (ev N ρ it) false o.type) w (fun w' => K (.tuple #[.bool false]) w') fun k x w' => K (.tuple #[.bool true, k, x]) w'
  | .entry it => G.ent P (Instr.entry (ev N ρ it)) w fun k x => K (.tuple #[k, x]) w
  | .mapUpdate t m k x => G.runU P (Instr.mapUpdate t (ev N ρ m) (ev N ρ k) (ev N ρ x)) w (K undef)
  | .mapEntry t m k => G.runE P (Instr.mapEntry t (ev N ρ m) (ev N ρ k)) w fun s n w' => K (.tuple #[s.v, .int .i64 n]) w'
  | .entryStore t m s x => G.runU P (Instr.entryStore t (ev N ρ m) (ev N ρ s) (ev N ρ x)) w (K undef)
  | .convert s d x => match P.underlying s, P.underlying d with
    | some .string, some (.slice _) => G.runSl P (Go.convert s d (ev N ρ x)) w fun s w' => K s.v w'
    | some (.slice _), some (.slice _) => G.runSl P (Go.convert s d (ev N ρ x)) w fun s w' => K s.v w'
    | _, _ => vcR P N o ρ w fun v => K v w
  | .call { callee := .value f, args, .. } => G.callV P F (ev N ρ f) (args.toList.map (ev N ρ)) w fun v w' => decR P o.type v fun v => K v w'
  | .call { callee := .invoke r name, args, .. } => G.callI P F (ev N ρ r) name (args.toList.map (ev N ρ)) w fun v w' => decR P o.type v fun v => K v w'
  | .binOp op t x y _ => bif isFA P op t then (match ev N ρ x, ev N ρ y with | .float .f64 a, .float .f64 b => G.fa op a b w fun r w' => K (.float .f64 r) w' | _, _ => False) else vcR P N o ρ w fun v => K v w
  | .call { callee := .builtin .append, args, argTypes } => G.runSl P (Builtin.append_ argTypes o.type (args.map (ev N ρ))) w fun s w' => K s.v w'
  | .call { callee := .builtin .copy, args, argTypes } => G.runI P (Builtin.copy_ argTypes o.type (args.map (ev N ρ))) .i64 w fun n w' => K (.int .i64 n) w'
  | .call { callee := .builtin .delete, args, argTypes } => G.run P (Builtin.delete_ argTypes o.type (args.map (ev N ρ))) w K
  | .call { callee := .builtin .clear, args, argTypes } => G.run P (Builtin.clear_ argTypes o.type (args.map (ev N ρ))) w K
  | _ => vcR P N o ρ w fun v => K v w

def nth {α : Type} : List α → Nat → Option α
  | [], _ => none
  | x :: _, 0 => some x
  | _ :: r, n + 1 => nth r n

def guardK (N : Nat) (all : List Oper) (o : Oper) (ρ : Env) (X : Env → Bool → Prop) : Prop :=
  match o.guard with
  | none => X ρ true
  | some (j, b) => match (nth all j).bind (·.dst) with
    | none => X ρ false
    | some s => match ev N ρ (.tmp s) with
      | .bool c => G.cond c (X (upd ρ s (.bool true)) b) (X (upd ρ s (.bool false)) (!b))
      | _ => X ρ false

/-- The parts of an entry that a range over a map hands out. -/
def isEntry (o : Oper) : Bool := match o.op with | .entry _ => true | _ => false
def fromEnt (all : List Oper) (o : Oper) : Bool := match o.op with
  | .extract (.tmp s) _ => all.any fun p => isEntry p && (match p.dst with | some d => Nat.beq d s | none => false)
  | _ => false
def vcDec (P : Program) (t : TypeId) (v : Value) (K : Value → Prop) : Prop :=
  match lk P t with
  | .int k => G.vI k (some v) fun n => K (.int k n)
  | .bool => G.vB (some v) fun n => K (.bool n)
  | .str => G.vS (some v) fun n => K (.string n)
  | .sl => G.vSl (some v) fun s => K s.v
  | .ptr => G.vP (some v) fun n => K (.pointer n)
  | .map => G.vM (some v) fun n => K (.map n)
  | .fl k => G.vF k (some v) fun n => K (.float k n)
  | .raw => K v
  | .bad => splitA P t v K
def vcOps (P : Program) (F : Clee) (N : Nat) (all : List Oper) : List Oper → Env → World → (Env → World → Prop) → Prop
  | [], ρ, w, K => K ρ w
  | o :: r, ρ, w, K => guardK N all o ρ fun ρ run =>
    bif run then bif fromEnt all o then genK P (execOp (ev N ρ) o) fun v => vcDec P o.type v fun v => vcOps P F N all r (put N ρ o.dst v) w K
      else vcOp P F N o ρ w fun v w' => vcOps P F N all r (put N ρ o.dst v) w' K else vcOps P F N all r (put N ρ o.dst undef) w K

/-- Does an operation look at no memory? -/
def isPure (P : Program) (o : Oper) : Bool :=
  match o.op with
  | .move _ | .assign _ | .pick _ _ _ | .indexAddr _ _ _ | .nilCheck _ => true
  | .binOp op t _ _ _ => !isFA P op t
  | .slice _ _ _ _ _ | .index _ _ _ | .unOp _ _ _ | .extract _ _ | .field _ _ _ | .fieldAddr _ _ _ | .build _ _ | .makeInterface _ _ | .makeFunc _ _ _ => true
  | .convert s d _ => match P.underlying s, P.underlying d with | some (.int _), some (.int _) => true | some (.int _), some (.float _) => true | some (.float _), some (.float _) => true | some (.float _), some (.int _) => true | _, _ => false
  | .call { callee := .builtin .len, argTypes, .. } => match (argTypes[0]?).bind P.underlying with | some .string => true | some (.slice _) => true | _ => false
  | .call { callee := .builtin .min, .. } => true
  | .call { callee := .builtin .max, .. } => true
  | .call { callee := .builtin .cap, .. } => true
  | _ => false

/-- Which of the first k operations wait for number a, be it for others that wait. -/
def descL (ops : Array Oper) (a : Nat) : Nat → List Bool
  | 0 => []
  | k + 1 => let D := descL ops a k; D ++ [Nat.beq k a || (match ops[k]? with | some o => o.after.any (fun e => Region.binds .any e && D.getD e.on false) | none => false)]

/-- Reads that float: what was read holds still until what waits for the read has come. -/
abbrev Held := List (Nat × (World → Prop))
def sameAt (a : Addr) (n : Nat) (w w' : World) : Prop := w'.cell? a = w.cell? a ∧ ∀ i, i < n → w'.cell? (a.add i) = w.cell? (a.add i)
def cut (ops : Array Oper) (C : Held) (k : Nat) : Held := C.filter fun c => !((descL ops c.1 ops.size).getD k false)
def still (w : World) : Held → Prop → Prop
  | [], X => X
  | c :: r, X => c.2 w ∧ still w r X
def vcLoadH (P : Program) (t : TypeId) (x : Value) (w : World) (K : Value → (World → Prop) → Prop) : Prop :=
  match x with
  | .pointer A => G.ptr A fun a =>
    match P.underlying t with
    | none => False
    | some _ => bif isAggT P t then bif Nat.beq (leaves P 8 t).length (P.cellsOf t) then rds a w (leaves P 8 t) 0 [] fun vs => K (.agg ⟨vs⟩) (sameAt a (P.cellsOf t) w) else False
      else rd (lk P t) a w fun v => K v (sameAt a (P.cellsOf t) w)
  | _ => False

/-- Orders that stand for all: what looks at no memory, and loads, as soon as they may; else whatever may come. -/
inductive Tr where
  | done
  | op (k : Nat) (r : Tr)
  | both (a b : Tr)
def isStrRead (P : Program) (o : Oper) : Bool := match o.op with
  | .convert s d _ => match P.underlying s, P.underlying d with | some (.slice _), some .string => true | _, _ => false
  | _ => false
def isHeld (P : Program) (o : Oper) : Bool := match o.op with | .load _ _ => true | _ => isStrRead P o || isPure P o
/-- A read that may float: what it answers, and what must hold still for it. -/
def vcHeld (P : Program) (N : Nat) (o : Oper) (ρ : Env) (w : World) (K : Value → Option (World → Prop) → Prop) : Prop :=
  match o.op with
  | .load t x => vcLoadH P t (ev N ρ x) w fun v T => K v (some T)
  | .convert s d x => match P.underlying s, P.underlying d, ev N ρ x with
    | some (.slice e), some .string, .slice A n c => (match P.underlying e with
      | some (.int .u8) => G.rdS P (Conv.bytesToString (.slice A n c)) w fun r => K (.string r) (some fun w' => (Conv.bytesToString (.slice A n c)).run P w' = .ok (.string r) w')
      | _ => False)
    | _, _, _ => bif isPure P o then vcR P N o ρ w fun v => K v none else False
  | _ => bif isPure P o then vcR P N o ρ w fun v => K v none else False
def addH (C : Held) (k : Nat) : Option (World → Prop) → Held | none => C | some T => C ++ [(k, T)]
def alts : List (Option Tr) → Option Tr
  | [] => none
  | [a] => a
  | a :: r => match a, alts r with | some x, some y => some (.both x y) | _, _ => none
def tree (P : Program) (ops : Array Oper) : Nat → Array Bool → Option Tr
  | 0, listed => match Region.ready .any ops listed with | [] => some .done | _ => none
  | f + 1, listed =>
    match Region.ready .any ops listed with
    | [] => some .done
    | r => match r.find? fun i => (match ops[i]? with | some o => isHeld P o | none => false) && Region.free .any ops listed i with
      | some i => (tree P ops f (listed.setIfInBounds i true)).map (Tr.op i)
      | none => alts (r.map fun k => (tree P ops f (listed.setIfInBounds k true)).map (Tr.op k))
def vcTr (P : Program) (F : Clee) (N : Nat) (ops : Array Oper) : Tr → Held → Env → World → (Env → World → Prop) → Prop
  | .done, _, ρ, w, K => K ρ w
  | .both x y, C, ρ, w, K => vcTr P F N ops x C ρ w K ∧ vcTr P F N ops y C ρ w K
  | .op k r, C, ρ, w, K => match nth ops.toList k with
    | none => False
    | some o => guardK N ops.toList o ρ fun ρ run =>
      bif run then bif isHeld P o then vcHeld P N o ρ w fun v T => vcTr P F N ops r (addH C k T) (put N ρ o.dst v) w K
        else vcOp P F N o ρ w fun v w' => still w' (cut ops C k) (vcTr P F N ops r (cut ops C k) (put N ρ o.dst v) w' K)
      else vcTr P F N ops r C (put N ρ o.dst undef) w K
/-- A region that is carried out in a round as elsewhere. -/
def calm (ops : Array Oper) : Bool := Region.noSelect ops && ops.toList.all fun o => match o.op with | .defer _ => false | _ => true
def treeOf (P : Program) (ops : Array Oper) : Option Tr := bif calm ops then tree P ops ops.size (Array.replicate ops.size false) else none

abbrev Post := Exit → Env → World → Prop
def next (k : Env → World → Prop) (K : Post) : Post := fun e ρ w => match e with | .normal => k ρ w | e => K e ρ w
def inBlock (id : Nat) (K : Post) : Post := fun e ρ w => match e with | .exit i => (bif Nat.beq i id then K .normal ρ w else K (.exit i) ρ w) | e => K e ρ w

/-- A jump to label l: J. -/
def onG (l : Nat) (J : Env → World → Prop) (K : Post) : Post := fun e ρ w => match e with | .goto l' => (bif Nat.beq l' l then J ρ w else False) | e => K e ρ w
def noG (K : Post) : Post := fun e ρ w => match e with | .goto _ => False | e => K e ρ w

def vc (P : Program) (F : Clee) (N : Nat) : Code → Post → Env → World → Prop
  | .skip, K, ρ, w => K .normal ρ w
  | .region _ ops false, K, ρ, w => bif calm ops then vcOps P F N ops.toList ops.toList ρ w (K .normal) else False
  | .region _ ops true, K, ρ, w => match treeOf P ops with
    | some x => vcTr P F N ops x [] ρ w.drew (K .normal)
    | none => False
  | .seq x y, K, ρ, w => vc P F N x (next (vc P F N y K) K) ρ w
  | .cond c x y, K, ρ, w => match ev N ρ c with
    | .bool b => match c with
      | .tmp s => G.cond b (vc P F N x K (upd ρ s (.bool true)) w) (vc P F N y K (upd ρ s (.bool false)) w)
      | _ => G.cond b (vc P F N x K ρ w) (vc P F N y K ρ w)
    | _ => False
  | .block id c, K, ρ, w => vc P F N c (inBlock id K) ρ w
  | .scope c, K, ρ, w => vc P F N c (noG K) ρ w
  | .exit id, K, ρ, w => K (.exit id) ρ w
  | .label _, K, ρ, w => K .normal ρ w
  | .ret, K, ρ, w => K .ret ρ w
  | .goto l, K, ρ, w => K (.goto l) ρ w
  | _, _, _, _ => False

/-- What a function answers. -/
def resL (P : Program) (N : Nat) : List ResultVar → List Value → Env → World → (Value → World → Prop) → Prop
  | [], [v], _, w, K => K v w
  | [], vs, _, w, K => K (.tuple ⟨vs⟩) w
  | .tmp a :: r, vs, ρ, w, K => resL P N r (vs ++ [ev N ρ (.tmp a)]) ρ w K
  | .cell a t :: r, vs, ρ, w, K => vcLoad P t (ev N ρ (.tmp a)) w fun v => resL P N r (vs ++ [v]) ρ w K
def resK (P : Program) (N : Nat) (rs : List ResultVar) (ρ : Env) (w : World) (K : Value → World → Prop) : Prop := resL P N rs [] ρ w K

def bodyK (M : Bool) (P : Program) (N : Nat) (fn : Func) (K : Value → World → Prop) : Post := fun e ρ w =>
  match e with
  | .normal => bif M then G.marks (ρ N) w fun w => resK P N fn.results.toList ρ w K else resK P N fn.results.toList ρ w K
  | .ret => bif M then G.marks (ρ N) w fun w => resK P N fn.results.toList ρ w K else resK P N fn.results.toList ρ w K
  | _ => False

def args0 (args : List Value) : Env := fun i => (nth args i).getD undef

end Go.Proofs.Ytaciaidehamfgaa.Vm
