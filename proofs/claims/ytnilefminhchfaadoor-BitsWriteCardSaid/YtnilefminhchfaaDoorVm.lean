/- A predicate transformer that is computed on the loaded code: definitions. Own work; nothing here is trusted. -/
import Derived.Deep.Quiet
import Derived.LoopN
import Derived.Laws.World
import Derived.Laws.Entries
import Derived.Tactics
import Derived.KernelRfl
namespace Go.Proofs.YtnilefminhchfaaDoor.Vm
open Go

structure Sl where
  a : Option Addr
  n : Nat
  c : Nat

@[reducible] def Sl.v (s : Sl) : Value := .slice s.a s.n s.c

/-! The primitives of the clean texts. -/
namespace G
def cond (c : Bool) (X Y : Prop) : Prop := match c with | true => X | false => Y
def ptr (A : Option Addr) (K : Addr → Prop) : Prop := match A with | some a => K a | none => False
def cI (k : IntKind) (a : Addr) (w : World) (K : Int → Prop) : Prop := ∃ n, w.cell? a = some (.int k n) ∧ K n
def cB (a : Addr) (w : World) (K : Bool → Prop) : Prop := ∃ n, w.cell? a = some (.bool n) ∧ K n
def cS (a : Addr) (w : World) (K : ByteArray → Prop) : Prop := ∃ n, w.cell? a = some (.string n) ∧ K n
def cSl (a : Addr) (w : World) (K : Sl → Prop) : Prop := ∃ s : Sl, w.cell? a = some s.v ∧ K s
def cP (a : Addr) (w : World) (K : Option Addr → Prop) : Prop := ∃ n, w.cell? a = some (.pointer n) ∧ K n
def cM (a : Addr) (w : World) (K : Option Nat → Prop) : Prop := ∃ n, w.cell? a = some (.map n) ∧ K n
def cF (k : FloatKind) (a : Addr) (w : World) (K : Nat → Prop) : Prop := ∃ n, w.cell? a = some (.float k n) ∧ K n
def cV (a : Addr) (w : World) (K : Value → Prop) : Prop := ∃ v, w.cell? a = some v ∧ K v
def st (a : Addr) (v : Value) (w : World) (K : World → Prop) : Prop := (∃ u, w.cell? a = some u) ∧ w.frozen? a = false ∧ K (w.setCell a v)
def ix (A : Option Addr) (n : Nat) (i : Int) (size : Nat) (K : Addr → Prop) : Prop :=
  match A with | some a => (0 ≤ i ∧ i < (n : Int)) ∧ K (a.add (i.toNat * size)) | none => False
def nz (b : Int) (X : Prop) : Prop := b ≠ 0 ∧ X
def nn (b : Int) (X : Prop) : Prop := 0 ≤ b ∧ X
def ixS (s : ByteArray) (i : Int) (K : Int → Prop) : Prop := ∃ b : UInt8, 0 ≤ i ∧ s[i.toNat]? = some b ∧ K (b.toNat : Int)
/-- An element of an array that is a value. -/
def ixV (cs : Array Value) (i : Int) (len : Nat) (k : IntKind) (K : Int → Prop) : Prop := ∃ n, (0 ≤ i ∧ i < (len : Int)) ∧ cs[i.toNat]? = some (.int k n) ∧ K n
def cat (s t : ByteArray) (K : ByteArray → Prop) : Prop := ((s.size + t.size : Nat) : Int) ≤ IntKind.i64.max ∧ K (s ++ t)
/-- s[lo:hi] of a slice. -/
def slc (s : Sl) (lo hi : Int) (size : Nat) (K : Sl → Prop) : Prop :=
  (0 ≤ lo ∧ lo ≤ hi ∧ hi ≤ (s.c : Int)) ∧ K ⟨if s.c = lo.toNat then s.a else s.a.map (·.add (lo.toNat * size)), hi.toNat - lo.toNat, s.c - lo.toNat⟩
/-- s[lo:hi:mx] of a slice. -/
def slc3 (s : Sl) (lo hi mx : Int) (size : Nat) (K : Sl → Prop) : Prop :=
  (0 ≤ lo ∧ lo ≤ hi ∧ hi ≤ mx ∧ mx ≤ (s.c : Int)) ∧ K ⟨if mx.toNat = lo.toNat then s.a else s.a.map (·.add (lo.toNat * size)), hi.toNat - lo.toNat, mx.toNat - lo.toNat⟩
/-- s[lo:hi] of a string. -/
def slcS (s : ByteArray) (lo hi : Int) (K : ByteArray → Prop) : Prop := (0 ≤ lo ∧ lo ≤ hi ∧ hi ≤ (s.size : Int)) ∧ K (s.extract lo.toNat hi.toNat)
/-- An operation of the model, whatever it answers. -/
def run (P : Program) (m : Sem Value) (w : World) (K : Value → World → Prop) : Prop := ∃ v w', m.run P w = .ok v w' ∧ K v w'
def runI (P : Program) (m : Sem Value) (k : IntKind) (w : World) (K : Int → World → Prop) : Prop := ∃ n w', m.run P w = .ok (.int k n) w' ∧ K n w'
def runSl (P : Program) (m : Sem Value) (w : World) (K : Sl → World → Prop) : Prop := ∃ (s : Sl) (w' : World), m.run P w = .ok s.v w' ∧ K s w'
def runM (P : Program) (m : Sem Value) (w : World) (K : Option Nat → World → Prop) : Prop := ∃ n w', m.run P w = .ok (.map n) w' ∧ K n w'
def runS (P : Program) (m : Sem Value) (w : World) (K : ByteArray → World → Prop) : Prop := ∃ n w', m.run P w = .ok (.string n) w' ∧ K n w'
def runU (P : Program) (m : Sem Unit) (w : World) (K : World → Prop) : Prop := ∃ w', m.run P w = .ok () w' ∧ K w'
/-- Reads, whatever was drawn. -/
def rdI (P : Program) (m : Sem Value) (k : IntKind) (w : World) (K : Int → Prop) : Prop := ∃ n, (∀ d, m.run P (w.drewN d) = .ok (.int k n) (w.drewN d)) ∧ K n
def rdS (P : Program) (m : Sem Value) (w : World) (K : ByteArray → Prop) : Prop := ∃ n, (∀ d, m.run P (w.drewN d) = .ok (.string n) (w.drewN d)) ∧ K n
/-- After some draws. -/
def drawn (w : World) (K : World → Prop) : Prop := ∀ d, K (w.drewN d)
/-- A call within a statement whose order is open: it only reads. -/
def still (w : World) (call : (Value → World → Prop) → World → Prop) (v : Value) : Prop :=
  ∀ d, call (fun v' w' => v' = v ∧ ∃ d', w' = w.drewN d') (w.drewN d)
end G

/-! Environments. -/
abbrev Env := Nat → Value
def upd (ρ : Env) (d : Nat) (v : Value) : Env := fun i => bif Nat.beq i d then v else ρ i
def put (ρ : Env) (d : Option Nat) (v : Value) : Env := match d with | some d => upd ρ d v | none => ρ
def ev (N : Nat) (ρ : Env) : Operand → Value
  | .tmp t => bif Nat.blt t N then ρ t else undef
  | .const v => v
  | .global g => .pointer (some ⟨g, 0, none⟩)
  | .func f => .func (.func f) #[] #[]

structure Rel (N : Nat) (a : Act) (ρ : Env) : Prop where
  size : a.tmps.size = N
  defers : a.defers = []
  get : ∀ i, i < N → a.tmps.getD i undef = ρ i

theorem Rel.eval {N : Nat} {a : Act} {ρ : Env} (h : Rel N a ρ) (x : Operand) : a.eval x = ev N ρ x := by
  cases x with
  | tmp t =>
    simp only [Act.eval, ev]
    by_cases ht : t < N
    · rw [h.get t ht]
      have : Nat.blt t N = true := by simpa [Nat.blt_eq] using ht
      rw [this]; rfl
    · have h1 : Nat.blt t N = false := by
        cases hb : Nat.blt t N
        · rfl
        · exact absurd (Nat.blt_eq.mp hb) ht
      rw [h1]
      have := h.size
      simp [Array.getD, this, ht]
  | const v => rfl
  | global g => rfl
  | func f => rfl

theorem Rel.evals {N : Nat} {a : Act} {ρ : Env} (h : Rel N a ρ) : a.eval = ev N ρ := funext h.eval

theorem Rel.put {N : Nat} {a : Act} {ρ : Env} (h : Rel N a ρ) (d : Option Nat) (v : Value) : Rel N (a.put d v) (put ρ d v) := by
  cases d with
  | none => exact h
  | some d =>
    refine ⟨by simpa [Act.put] using h.size, by simpa [Act.put] using h.defers, fun i hi => ?_⟩
    have hs := h.size
    have hg := h.get i hi
    simp only [Act.put, Vm.put, upd]
    by_cases e : i = d
    · subst e
      have hb : Nat.beq i i = true := by simp
      rw [hb]
      simp [Array.getD, hs, hi]
    · have hb : Nat.beq i d = false := by
        cases hb : Nat.beq i d
        · rfl
        · exact absurd (Nat.eq_of_beq_eq_true hb) e
      rw [hb]
      simp only [cond_false]
      rw [← hg, Array.getD_eq_getD_getElem?, Array.getD_eq_getD_getElem?, Array.getElem?_setIfInBounds_ne (Ne.symm e)]

theorem upd_self {ρ : Env} {d : Nat} {v : Value} (h : ρ d = v) : upd ρ d v = ρ := by
  funext i
  simp only [upd]
  by_cases e : i = d
  · subst e; simp [h]
  · have hb : Nat.beq i d = false := by
      cases hb : Nat.beq i d
      · rfl
      · exact absurd (Nat.eq_of_beq_eq_true hb) e
    rw [hb]; rfl

/-! Kinds of cells. -/
inductive LK where
  | int (k : IntKind) | bool | str | sl | ptr | map | fl (k : FloatKind) | raw | bad

def lk (P : Program) (t : TypeId) : LK :=
  match P.underlying t with
  | some (.int k) => .int k
  | some .bool => .bool
  | some .string => .str
  | some (.slice _) => .sl
  | some (.pointer _) => .ptr
  | some (.map _ _) => .map
  | some (.float k) => .fl k
  | some (.func _ _ _) => .raw
  | some (.interface _) => .raw
  | _ => .bad

def leaves (P : Program) : Nat → TypeId → List LK
  | 0, _ => [.bad]
  | d + 1, t =>
    match P.underlying t with
    | some (.struct fs) => fs.toList.flatMap fun f => leaves P d f.type
    | some (.array n e) => (List.replicate n (leaves P d e)).flatten
    | _ => [lk P t]

/-- One cell that is read. -/
def rd (l : LK) (a : Addr) (w : World) (K : Value → Prop) : Prop :=
  match l with
  | .int k => G.cI k a w fun n => K (.int k n)
  | .bool => G.cB a w fun n => K (.bool n)
  | .str => G.cS a w fun n => K (.string n)
  | .sl => G.cSl a w fun s => K s.v
  | .ptr => G.cP a w fun n => K (.pointer n)
  | .map => G.cM a w fun n => K (.map n)
  | .fl k => G.cF k a w fun n => K (.float k n)
  | .raw => G.cV a w K
  | .bad => False

def rds (a : Addr) (w : World) : List LK → Nat → List Value → (List Value → Prop) → Prop
  | [], _, acc, K => K acc
  | l :: r, i, acc, K => rd l (a.add i) w fun v => rds a w r (i + 1) (acc ++ [v]) K

def isAggT (P : Program) (t : TypeId) : Bool :=
  match P.underlying t with
  | some (.struct _) => true
  | some (.array _ _) => true
  | some _ => false
  | none => true

def vcLoad (P : Program) (t : TypeId) (x : Value) (w : World) (K : Value → Prop) : Prop :=
  match x with
  | .pointer A => G.ptr A fun a =>
    match P.underlying t with
    | none => False
    | some _ => bif isAggT P t then bif Nat.beq (leaves P 8 t).length (P.cellsOf t) then rds a w (leaves P 8 t) 0 [] fun vs => K (.agg ⟨vs⟩) else False
      else rd (lk P t) a w K
  | _ => False

def sts (a : Addr) : List Value → Nat → World → (World → Prop) → Prop
  | [], _, w, K => K w
  | v :: r, i, w, K => match v.oneCell' with
    | true => G.st (a.add i) v w fun w' => sts a r (i + 1) w' K
    | false => False

def vcStore (P : Program) (t : TypeId) (x v : Value) (w : World) (K : World → Prop) : Prop :=
  match x with
  | .pointer A => G.ptr A fun a => bif (P.info? t).isSome then bif Nat.beq v.cells.size (P.cellsOf t) then sts a v.cells.toList 0 w K else False else False
  | _ => False

def vcIndexAddr (P : Program) (t : TypeId) (x i : Value) (K : Value → Prop) : Prop :=
  match i with
  | .int _ i =>
    match P.underlying t, x with
    | some (.slice e), .slice A n _ => bif (P.info? e).isSome then G.ix A n i (P.cellsOf e) fun a => K (.pointer (some a)) else False
    | some (.array n e), .pointer A => bif (P.info? e).isSome then G.ix A n i (P.cellsOf e) fun a => K (.pointer (some a)) else False
    | _, _ => False
  | _ => False

/-- What an operation answers that looks at no memory. -/
def pureOf (P : Program) {α : Type} : Sem α → Option α
  | .pure a => some a
  | .program k => pureOf P (k P)
  | .mark _ k => pureOf P k
  | _ => none

def genK (P : Program) (s : Sem Next) (K : Value → Prop) : Prop := match pureOf P s with | some (.value v) => K v | _ => False

def vcBin (P : Program) (o : Oper) (ρ : Operand → Value) (op : BinOp) (t : TypeId) (x y : Value) (K : Value → Prop) : Prop :=
  match op with
  | .quo => match x, y with | .int k a, .int k' b => bif decide (k = k') then G.nz b (K (.int k (k.wrap (a.tdiv b)))) else False | _, _ => genK P (execOp ρ o) K
  | .rem => match x, y with | .int k a, .int k' b => bif decide (k = k') then G.nz b (K (.int k (a.tmod b))) else False | _, _ => genK P (execOp ρ o) K
  | .shl => match x, y with | .int k a, .int _ b => G.nn b (K (.int k (k.wrap (a * 2 ^ (min b.toNat k.bits))))) | _, _ => False
  | .shr => match x, y with | .int k a, .int _ b => G.nn b (K (.int k (a.fdiv (2 ^ (min b.toNat k.bits))))) | _, _ => False
  | .add => match x, y with | .string s, .string t => G.cat s t fun r => K (.string r) | _, _ => genK P (execOp ρ o) K
  | .eql => match P.underlying t, x, y with
    | some (.slice _), .slice A _ _, .slice none _ _ => K (.bool A.isNone)
    | some (.pointer _), .pointer A, .pointer none => K (.bool A.isNone)
    | some (.map _ _), .map A, .map none => K (.bool A.isNone)
    | _, _, _ => genK P (execOp ρ o) K
  | .neq => match P.underlying t, x, y with
    | some (.slice _), .slice A _ _, .slice none _ _ => K (.bool !A.isNone)
    | some (.pointer _), .pointer A, .pointer none => K (.bool !A.isNone)
    | some (.map _ _), .map A, .map none => K (.bool !A.isNone)
    | _, _, _ => genK P (execOp ρ o) K
  | _ => genK P (execOp ρ o) K

def boundOf (d : Int) (x : Option Value) : Option Int := match x with | none => some d | some (.int _ n) => some n | _ => none

def vcSlice (P : Program) (t : TypeId) (x : Value) (lo hi mx : Option Value) (K : Value → Prop) : Prop :=
  match P.underlying t, x with
  | some .string, .string s => match mx, boundOf 0 lo, boundOf s.size hi with
    | none, some l, some h => G.slcS s l h fun r => K (.string r)
    | _, _, _ => False
  | some (.slice e), .slice A n c => bif (P.info? e).isSome then (match mx with
    | none => match boundOf 0 lo, boundOf n hi with
      | some l, some h => G.slc ⟨A, n, c⟩ l h (P.cellsOf e) fun r => K r.v
      | _, _ => False
    | some (.int _ m) => match boundOf 0 lo, hi with
      | some l, some (.int _ h) => G.slc3 ⟨A, n, c⟩ l h m (P.cellsOf e) fun r => K r.v
      | _, _ => False
    | _ => False) else False
  | _, _ => False

/-- Operations that only read. -/
def vcR (P : Program) (N : Nat) (o : Oper) (ρ : Env) (w : World) (K : Value → Prop) : Prop :=
  match o.op with
  | .move x => K (ev N ρ x)
  | .assign x => K (ev N ρ x)
  | .pick c a b => match ev N ρ c with | .bool c => G.cond c (K (ev N ρ a)) (K (ev N ρ b)) | _ => False
  | .load t x => vcLoad P t (ev N ρ x) w K
  | .indexAddr t x i => vcIndexAddr P t (ev N ρ x) (ev N ρ i) K
  | .nilCheck x => match ev N ρ x with | .pointer A => G.ptr A fun a => K (.pointer (some a)) | _ => False
  | .binOp op t x y _ => vcBin P o (ev N ρ) op t (ev N ρ x) (ev N ρ y) K
  | .slice t x lo hi mx => vcSlice P t (ev N ρ x) (lo.map (ev N ρ)) (hi.map (ev N ρ)) (mx.map (ev N ρ)) K
  | .index t x i => match P.underlying t, ev N ρ x, ev N ρ i with
    | some .string, .string s, .int _ i => G.ixS s i fun b => K (.int .u8 b)
    | some (.array len e), .agg cs, .int _ i => (match P.underlying e, P.info? e with
      | some (.int k), some inf => bif Nat.beq inf.size 1 then G.ixV cs i len k fun n => K (.int k n) else False
      | _, _ => False)
    | _, _, _ => False
  | .convert s d x => match P.underlying s, P.underlying d, ev N ρ x with
    | some (.slice e), some .string, .slice A n c => (match P.underlying e with
      | some (.int .u8) => G.rdS P (Conv.bytesToString (.slice A n c)) w fun r => K (.string r)
      | _ => False)
    | some (.int _), some (.int k), .int _ n => K (.int k (k.wrap n))
    | _, _, _ => genK P (execOp (ev N ρ) o) K
  | .unOp _ _ _ | .extract _ _ | .field _ _ _ | .fieldAddr _ _ _ | .build _ _ | .makeInterface _ _ => genK P (execOp (ev N ρ) o) K
  | .call { callee := .builtin .len, args, argTypes } => match (argTypes[0]?).bind P.underlying, (args[0]?).map (ev N ρ) with
    | some .string, some (.string s) => K (.int .i64 s.size)
    | some (.slice _), some (.slice _ n _) => K (.int .i64 n)
    | some (.map _ _), some (.map _) => G.rdI P (Builtin.len_ argTypes o.type (args.map (ev N ρ))) .i64 w fun n => K (.int .i64 n)
    | _, _ => False
  | .call { callee := .builtin .min, .. } => genK P (execOp (ev N ρ) o) K
  | .call { callee := .builtin .max, .. } => genK P (execOp (ev N ρ) o) K
  | .call { callee := .builtin .cap, .. } => genK P (execOp (ev N ρ) o) K
  | _ => False

/-- Operations that make memory. -/
def sr (P : Program) {α : Type} : Sem α → World → (α → World → Prop) → Prop
  | .pure a, w, K => K a w
  | .program k, w, K => sr P (k P) w K
  | .mark _ k, w, K => sr P k w K
  | .new o k, w, K => sr P (k w.heap.size) (w.alloc o) K
  | _, _, _ => False

def runL (P : Program) (l : LK) (m : Sem Value) (w : World) (K : Value → World → Prop) : Prop :=
  match l with
  | .int k => G.runI P m k w fun n w' => K (.int k n) w'
  | .sl => G.runSl P m w fun s w' => K s.v w'
  | .map => G.runM P m w fun n w' => K (.map n) w'
  | .str => G.runS P m w fun n w' => K (.string n) w'
  | .raw => G.run P m w K
  | _ => False

abbrev Clee := FuncId → List Value → (Value → World → Prop) → World → Prop

def exK (l : LK) (K : Value → Prop) : Prop :=
  match l with
  | .int k => ∃ n, K (.int k n)
  | .bool => ∃ n, K (.bool n)
  | .str => ∃ n, K (.string n)
  | .sl => ∃ s : Sl, K s.v
  | .ptr => ∃ n, K (.pointer n)
  | .map => ∃ n, K (.map n)
  | .fl k => ∃ n, K (.float k n)
  | .raw => ∃ v, K v
  | .bad => False

/-- An operation outside a statement whose order is open. -/
def vcOp (P : Program) (F : Clee) (N : Nat) (o : Oper) (ρ : Env) (w : World) (K : Value → World → Prop) : Prop :=
  match o.op with
  | .store t x v => vcStore P t (ev N ρ x) (ev N ρ v) w (K undef)
  | .alloc _ | .box _ _ | .buildSlice _ _ _ => sr P (execOp (ev N ρ) o) w fun n w' => match n with | .value v => K v w' | _ => False
  | .makeSlice t l c => G.runSl P (Instr.makeSlice t (ev N ρ l) (ev N ρ c)) w fun s w' => K s.v w'
  | .makeMap t r => G.runM P (Instr.makeMap t (r.map (ev N ρ))) w fun n w' => K (.map n) w'
  | .mapUpdate t m k x => G.runU P (Instr.mapUpdate t (ev N ρ m) (ev N ρ k) (ev N ρ x)) w (K undef)
  | .convert s d x => match P.underlying s, P.underlying d with
    | some .string, some (.slice _) => G.runSl P (Go.convert s d (ev N ρ x)) w fun s w' => K s.v w'
    | some (.slice _), some (.slice _) => G.runSl P (Go.convert s d (ev N ρ x)) w fun s w' => K s.v w'
    | _, _ => vcR P N o ρ w fun v => K v w
  | .call { callee := .value f, args, .. } => match ev N ρ f with
    | .func (.func n) first captured => F n (first.toList ++ args.toList.map (ev N ρ) ++ captured.toList) K w
    | _ => False
  | .call { callee := .builtin .append, args, argTypes } => G.runSl P (Builtin.append_ argTypes o.type (args.map (ev N ρ))) w fun s w' => K s.v w'
  | .call { callee := .builtin .copy, args, argTypes } => G.runI P (Builtin.copy_ argTypes o.type (args.map (ev N ρ))) .i64 w fun n w' => K (.int .i64 n) w'
  | .call { callee := .builtin .delete, args, argTypes } => G.run P (Builtin.delete_ argTypes o.type (args.map (ev N ρ))) w K
  | _ => vcR P N o ρ w fun v => K v w

/-- An operation within a statement whose order is open. -/
def vcOpQ (P : Program) (F : Clee) (N : Nat) (o : Oper) (ρ : Env) (w : World) (K : Value → Prop) : Prop :=
  match o.op with
  | .call { callee := .value f, args, .. } => match ev N ρ f with
    | .func (.func n) first captured => exK (lk P o.type) fun v => G.still w (F n (first.toList ++ args.toList.map (ev N ρ) ++ captured.toList)) v ∧ K v
    | _ => False
  | _ => vcR P N o ρ w K

def nth {α : Type} : List α → Nat → Option α
  | [], _ => none
  | x :: _, 0 => some x
  | _ :: r, n + 1 => nth r n

def guardK (N : Nat) (all : List Oper) (o : Oper) (ρ : Env) (X : Env → Bool → Prop) : Prop :=
  match o.guard with
  | none => X ρ true
  | some (j, b) => match (nth all j).bind (·.dst) with
    | none => X ρ false
    | some s => match ev N ρ (.tmp s) with
      | .bool c => G.cond c (X (upd ρ s (.bool true)) b) (X (upd ρ s (.bool false)) (!b))
      | _ => X ρ false

def vcOps (P : Program) (F : Clee) (N : Nat) (all : List Oper) : List Oper → Env → World → (Env → World → Prop) → Prop
  | [], ρ, w, K => K ρ w
  | o :: r, ρ, w, K => guardK N all o ρ fun ρ run =>
    bif run then vcOp P F N o ρ w fun v w' => vcOps P F N all r (put ρ o.dst v) w' K else vcOps P F N all r (put ρ o.dst undef) w K

def vcOpsQ (P : Program) (F : Clee) (N : Nat) (all : List Oper) (w : World) : List Oper → Env → (Env → Prop) → Prop
  | [], ρ, K => K ρ
  | o :: r, ρ, K => guardK N all o ρ fun ρ run =>
    bif run then vcOpQ P F N o ρ w fun v => vcOpsQ P F N all w r (put ρ o.dst v) K else vcOpsQ P F N all w r (put ρ o.dst undef) K

/-- Does an operation look at no memory? -/
def isPure (P : Program) (o : Oper) : Bool :=
  match o.op with
  | .move _ | .assign _ | .pick _ _ _ | .indexAddr _ _ _ | .nilCheck _ | .binOp _ _ _ _ _ | .slice _ _ _ _ _ | .index _ _ _ | .unOp _ _ _ | .extract _ _ | .field _ _ _ | .fieldAddr _ _ _ | .build _ _ | .makeInterface _ _ => true
  | .convert s d _ => match P.underlying s, P.underlying d with | some (.int _), some (.int _) => true | _, _ => false
  | .call { callee := .builtin .len, argTypes, .. } => match (argTypes[0]?).bind P.underlying with | some .string => true | some (.slice _) => true | _ => false
  | .call { callee := .builtin .min, .. } => true
  | .call { callee := .builtin .max, .. } => true
  | .call { callee := .builtin .cap, .. } => true
  | _ => false

/-- One order that stands for all: what looks at no memory as soon as it may, else what alone may come. -/
def sched (P : Program) (ops : Array Oper) : Nat → Array Bool → Option (List Nat)
  | 0, listed => match Region.ready .any ops listed with | [] => some [] | _ => none
  | f + 1, listed =>
    match Region.ready .any ops listed with
    | [] => some []
    | r => match r.find? fun i => (match ops[i]? with | some o => isPure P o | none => false) && Region.free .any ops listed i with
      | some i => (sched P ops f (listed.setIfInBounds i true)).map (i :: ·)
      | none => match r with
        | [k] => (sched P ops f (listed.setIfInBounds k true)).map (k :: ·)
        | _ => none

def pickOps (ops : List Oper) (σ : List Nat) : List Oper := σ.filterMap (nth ops)

def order (P : Program) (ops : Array Oper) : Option (List Nat) := match Region.noSelect ops with | true => sched P ops ops.size (Array.replicate ops.size false) | false => none

/-- Does an operation write? -/
def isWrite (P : Program) (o : Oper) : Bool :=
  match o.op with
  | .store _ _ _ | .alloc _ | .box _ _ | .buildSlice _ _ _ | .makeSlice _ _ _ | .makeMap _ _ | .mapUpdate _ _ _ _ => true
  | .convert _ d _ => match P.underlying d with | some (.slice _) => true | _ => false
  | .call { callee := .builtin .append, .. } => true
  | .call { callee := .builtin .copy, .. } => true
  | .call { callee := .builtin .delete, .. } => true
  | _ => false
/-- Which of the first k operations wait for number a, be it for others that wait. -/
def descL (ops : Array Oper) (a : Nat) : Nat → List Bool
  | 0 => []
  | k + 1 => let D := descL ops a k; D ++ [Nat.beq k a || (match ops[k]? with | some o => o.after.any (fun e => Region.binds .any e && D.getD e.on false) | none => false)]
def covers (ops : Array Oper) (m : Nat) : Bool := (List.range m).all fun a => let D := descL ops a ops.size; (List.range ops.size).all fun b => Nat.blt b m || D.getD b false
def lexP (ops : Array Oper) : Nat → Nat → Array Bool → Option (Array Bool)
  | 0, _, listed => some listed
  | f + 1, k, listed => bif (Region.ready .any ops listed).contains k && Region.free .any ops listed k then lexP ops f (k + 1) (listed.setIfInBounds k true) else none
/-- First what only reads, in whatever order; behind it what writes, in the one order that there is. -/
def phase (P : Program) (ops : Array Oper) : Option (Nat × List Nat) :=
  let m := ops.toList.findIdx (isWrite P)
  bif Region.noSelect ops && covers ops m then
    match lexP ops m 0 (Array.replicate ops.size false) with
    | some listed => bif (List.range m).all (fun j => listed.getD j true) then (sched P ops (ops.size - m) listed).map fun σ => (m, σ) else none
    | none => none
  else none

/-! Reads that float beside calls: S: what was read holds still. -/
def sameAt (a : Addr) (n : Nat) (w w' : World) : Prop := w'.cell? a = w.cell? a ∧ ∀ i, i < n → w'.cell? (a.add i) = w.cell? (a.add i)
def heldAt (P : Program) (t : TypeId) (x : Value) (w : World) (X : (World → Prop) → Prop) : Prop := match x with | .pointer (some a) => X (sameAt a (P.cellsOf t) w) | _ => False
def vcOpsH (P : Program) (F : Clee) (N : Nat) (all : List Oper) : List Oper → (World → Prop) → Env → World → (Env → World → Prop) → Prop
  | [], _, ρ, w, K => K ρ w
  | o :: r, S, ρ, w, K => guardK N all o ρ fun ρ run =>
    bif run then match o.op with
      | .load t x => vcLoad P t (ev N ρ x) w fun v => heldAt P t (ev N ρ x) w fun T => vcOpsH P F N all r (fun w' => S w' ∧ T w') (put ρ o.dst v) w K
      | _ => bif isPure P o then vcOp P F N o ρ w fun v w' => vcOpsH P F N all r S (put ρ o.dst v) w' K else vcOp P F N o ρ w fun v w' => S w' ∧ vcOpsH P F N all r S (put ρ o.dst v) w' K
    else vcOpsH P F N all r S (put ρ o.dst undef) w K
def isHeld (P : Program) (o : Oper) : Bool := match o.op with | .load _ _ => true | _ => isPure P o
def schedH (P : Program) (ops : Array Oper) : Nat → Array Bool → Option (List Nat)
  | 0, listed => match Region.ready .any ops listed with | [] => some [] | _ => none
  | f + 1, listed =>
    match Region.ready .any ops listed with
    | [] => some []
    | r => match r.find? fun i => (match ops[i]? with | some o => isHeld P o | none => false) && Region.free .any ops listed i with
      | some i => (schedH P ops f (listed.setIfInBounds i true)).map (i :: ·)
      | none => match r with
        | [k] => (schedH P ops f (listed.setIfInBounds k true)).map (k :: ·)
        | _ => none
def isCallV (o : Oper) : Bool := match o.op with | .call { callee := .value _, .. } => true | _ => false
def heldOrder (P : Program) (ops : Array Oper) : Option (List Nat) := bif Region.noSelect ops && ops.toList.any isCallV then schedH P ops ops.size (Array.replicate ops.size false) else none

abbrev Post := Exit → Env → World → Prop
def next (k : Env → World → Prop) (K : Post) : Post := fun e ρ w => match e with | .normal => k ρ w | e => K e ρ w
def inBlock (id : Nat) (K : Post) : Post := fun e ρ w => match e with | .exit i => (bif Nat.beq i id then K .normal ρ w else K (.exit i) ρ w) | e => K e ρ w

def noG (K : Post) : Post := fun e ρ w => match e with | .goto _ => False | e => K e ρ w

def vc (P : Program) (F : Clee) (N : Nat) : Code → Post → Env → World → Prop
  | .skip, K, ρ, w => K .normal ρ w
  | .region _ ops false, K, ρ, w => vcOps P F N ops.toList ops.toList ρ w (K .normal)
  | .region _ ops true, K, ρ, w => match order P ops with
    | some σ => vcOps P F N ops.toList (pickOps ops.toList σ) ρ w.drew (K .normal)
    | none => match heldOrder P ops with
    | some σ => vcOpsH P F N ops.toList (pickOps ops.toList σ) (fun _ => True) ρ w.drew (K .normal)
    | none => match phase P ops with
      | some mσ => vcOpsQ P F N ops.toList w (ops.toList.take mσ.1) ρ fun ρ => G.drawn w fun w' => vcOps P F N ops.toList (pickOps ops.toList mσ.2) ρ w' (K .normal)
      | none => False
  | .seq x y, K, ρ, w => vc P F N x (next (vc P F N y K) K) ρ w
  | .cond c x y, K, ρ, w => match ev N ρ c with
    | .bool b => match c with
      | .tmp s => G.cond b (vc P F N x K (upd ρ s (.bool true)) w) (vc P F N y K (upd ρ s (.bool false)) w)
      | _ => G.cond b (vc P F N x K ρ w) (vc P F N y K ρ w)
    | _ => False
  | .block id c, K, ρ, w => vc P F N c (inBlock id K) ρ w
  | .scope c, K, ρ, w => vc P F N c (noG K) ρ w
  | .exit id, K, ρ, w => K (.exit id) ρ w
  | .label _, K, ρ, w => K .normal ρ w
  | .ret, K, ρ, w => K .ret ρ w
  | _, _, _, _ => False

/-- What a function answers. -/
def resK (P : Program) (N : Nat) (rs : List ResultVar) (ρ : Env) (w : World) (K : Value → World → Prop) : Prop :=
  match rs with
  | [] => K (.tuple #[]) w
  | [.tmp a] => K (ev N ρ (.tmp a)) w
  | [.tmp a, .tmp b] => K (.tuple #[ev N ρ (.tmp a), ev N ρ (.tmp b)]) w
  | [.tmp a, .tmp b, .tmp c] => K (.tuple #[ev N ρ (.tmp a), ev N ρ (.tmp b), ev N ρ (.tmp c)]) w
  | [.tmp a, .tmp b, .tmp c, .tmp d] => K (.tuple #[ev N ρ (.tmp a), ev N ρ (.tmp b), ev N ρ (.tmp c), ev N ρ (.tmp d)]) w
  | [.cell a t] => vcLoad P t (ev N ρ (.tmp a)) w fun v => K v w
  | _ => False

def bodyK (P : Program) (N : Nat) (fn : Func) (K : Value → World → Prop) : Post := fun e ρ w =>
  match e with
  | .normal => resK P N fn.results.toList ρ w K
  | .ret => resK P N fn.results.toList ρ w K
  | _ => False

def args0 (args : List Value) : Env := fun i => (nth args i).getD undef

end Go.Proofs.YtnilefminhchfaaDoor.Vm
