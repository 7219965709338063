/- How the clean texts' segments are put together. Own work; nothing here is trusted. -/
import Derived.Test.YtaciaidehamfgaaVmRun
namespace Go.Proofs.Ytaciaidehamfgaa.Vm
open Go

/-! Words of the clean texts. -/
@[reducible] def nilS : Sl := ⟨none, 0, 0⟩
def shl (k : IntKind) (a b : Int) : Int := k.wrap (a * 2 ^ (min b.toNat k.bits))
def shr (k : IntKind) (a b : Int) : Int := a.fdiv (2 ^ (min b.toNat k.bits))
def notK (k : IntKind) : Int := if k.signed then -1 else k.max
def G.new (o : Obj) (w : World) (K : Addr → World → Prop) : Prop := K ⟨w.heap.size, 0, none⟩ (w.alloc o)


/-- What a conversion to a text has read. -/
def isS (P : Program) (s : Sl) (r : ByteArray) (w : World) : Prop := (Conv.bytesToString s.v).run P w = .ok (.string r) w

theorem beq_ff {n m : Nat} (h : ¬ n = m) : Nat.beq n m = false := by
  cases hb : Nat.beq n m
  · rfl
  · exact absurd (Nat.eq_of_beq_eq_true hb) h

/-! Variables of a segment: slots and their kinds. -/
@[reducible] def Ty : LK → Type
  | .int _ => Int
  | .bool => Bool
  | .str => ByteArray
  | .sl => Sl
  | .ptr => Option Addr
  | .map => Option Nat
  | .fl _ => Nat
  | .raw => Value
  | .bad => Unit

def enc : (l : LK) → Ty l → Value
  | .int k, n => .int k n
  | .bool, n => .bool n
  | .str, n => .string n
  | .sl, s => s.v
  | .ptr, n => .pointer n
  | .map, n => .map n
  | .fl k, n => .float k n
  | .raw, v => v
  | .bad, _ => undef

def dec : (l : LK) → Value → (Ty l → Prop) → Prop
  | .int k, v, f => match v with | .int k' n => (match decide (k' = k) with | true => f n | false => False) | _ => False
  | .bool, v, f => match v with | .bool n => f n | _ => False
  | .str, v, f => match v with | .string n => f n | _ => False
  | .sl, v, f => match v with | .slice a n c => f ⟨a, n, c⟩ | _ => False
  | .ptr, v, f => match v with | .pointer n => f n | _ => False
  | .map, v, f => match v with | .map n => f n | _ => False
  | .fl k, v, f => match v with | .float k' n => (match decide (k' = k) with | true => f n | false => False) | _ => False
  | .raw, v, f => f v
  | .bad, _, _ => False

theorem dec_ok {l : LK} {v : Value} {f : Ty l → Prop} (h : dec l v f) : ∃ x, v = enc l x ∧ f x := by
  cases l with
  | int k =>
    simp only [dec] at h
    split at h
    · rename_i k' n
      by_cases e : k' = k
      · subst e; rw [decide_eq_true rfl] at h; exact ⟨n, rfl, h⟩
      · rw [decide_eq_false e] at h; exact h.elim
    · exact h.elim
  | fl k =>
    simp only [dec] at h
    split at h
    · rename_i k' n
      by_cases e : k' = k
      · subst e; rw [decide_eq_true rfl] at h; exact ⟨n, rfl, h⟩
      · rw [decide_eq_false e] at h; exact h.elim
    · exact h.elim
  | raw => exact ⟨v, rfl, h⟩
  | bad => exact h.elim
  | _ =>
    simp only [dec] at h
    split at h
    · exact ⟨_, rfl, h⟩
    · exact h.elim

inductive SE where
  | v (slot : Nat) (l : LK)
  | agg (slot : Nat) (ls : List LK)

@[reducible] def CurL : List LK → Type → Type
  | [], R => R
  | l :: r, R => Ty l → CurL r R
@[reducible] def Cur : List SE → Type
  | [] => World → Prop
  | .v _ l :: r => Ty l → Cur r
  | .agg _ ls :: r => CurL ls (Cur r)
@[reducible] def TupL : List LK → Type
  | [] => Unit
  | l :: r => Ty l × TupL r
@[reducible] def Tup : List SE → Type
  | [] => Unit
  | .v _ l :: r => Ty l × Tup r
  | .agg _ ls :: r => TupL ls × Tup r

def encL : (ls : List LK) → TupL ls → List Value
  | [], _ => []
  | l :: r, v => enc l v.1 :: encL r v.2
def emb : (sg : List SE) → Tup sg → Env → Env
  | [], _, ρ => ρ
  | .v s l :: r, v, ρ => upd (emb r v.2 ρ) s (enc l v.1)
  | .agg s ls :: r, v, ρ => upd (emb r v.2 ρ) s (.agg ⟨encL ls v.1⟩)
def appL : (ls : List LK) → {R : Type} → CurL ls R → TupL ls → R
  | [], _, k, _ => k
  | _ :: r, _, k, v => appL r (k v.1) v.2
def app : (sg : List SE) → Cur sg → Tup sg → World → Prop
  | [], k, _, w => k w
  | .v _ _ :: r, k, v, w => app r (k v.1) v.2 w
  | .agg _ ls :: r, k, v, w => app r (appL ls k v.1) v.2 w
def getL : (ls : List LK) → {R : Type} → CurL ls R → List Value → (R → Prop) → Prop
  | [], _, k, l, f => match l with | [] => f k | _ => False
  | l :: r, _, k, vs, f => match vs with | v :: vs => dec l v fun x => getL r (k x) vs f | [] => False
def get : (sg : List SE) → Cur sg → Env → World → Prop
  | [], k, _, w => k w
  | .v s l :: r, k, ρ, w => dec l (ρ s) fun x => get r (k x) ρ w
  | .agg s ls :: r, k, ρ, w => match ρ s with | .agg ⟨vs⟩ => getL ls k vs fun k => get r k ρ w | _ => False
def curL : (ls : List LK) → {R : Type} → (TupL ls → R) → CurL ls R
  | [], _, f => f ()
  | _ :: r, _, f => fun x => curL r fun v => f (x, v)
def cur : (sg : List SE) → (Tup sg → World → Prop) → Cur sg
  | [], f => f ()
  | .v _ _ :: r, f => fun x => cur r fun v => f (x, v)
  | .agg _ ls :: r, f => curL ls fun x => cur r fun v => f (x, v)

theorem getL_ok : ∀ (ls : List LK) {R : Type} (k : CurL ls R) (vs : List Value) (f : R → Prop), getL ls k vs f → ∃ v : TupL ls, vs = encL ls v ∧ f (appL ls k v)
  | [], R, k, vs, f, h => by
    cases vs with
    | nil => exact ⟨(), rfl, h⟩
    | cons => exact h.elim
  | l :: r, R, k, vs, f, h => by
    cases vs with
    | nil => exact h.elim
    | cons x vs =>
      obtain ⟨y, hy, h⟩ := dec_ok (show dec l x _ from h)
      obtain ⟨v, hv, h⟩ := getL_ok r (k y) vs f h
      exact ⟨(y, v), by rw [hy, hv]; rfl, h⟩

theorem get_ok : ∀ (sg : List SE) (k : Cur sg) {ρ : Env} {w : World}, get sg k ρ w → ∃ v : Tup sg, emb sg v ρ = ρ ∧ app sg k v w
  | [], k, ρ, w, h => ⟨(), rfl, h⟩
  | .v s l :: r, k, ρ, w, h => by
    obtain ⟨y, hy, h⟩ := dec_ok (show dec l (ρ s) _ from h)
    obtain ⟨v, hv, h⟩ := get_ok r (k y) h
    refine ⟨(y, v), ?_, h⟩
    show upd (emb r v ρ) s (enc l y) = ρ
    rw [hv, upd_self hy]
  | .agg s ls :: r, k, ρ, w, h => by
    simp only [get] at h
    split at h
    · rename_i vs hs
      obtain ⟨x, hx, h⟩ := getL_ok ls k vs _ h
      obtain ⟨v, hv, h⟩ := get_ok r _ h
      refine ⟨(x, v), ?_, h⟩
      show upd (emb r v ρ) s (.agg ⟨encL ls x⟩) = ρ
      rw [hv, upd_self (by rw [hs, hx])]
    · exact h.elim

theorem appL_curL : ∀ (ls : List LK) {R : Type} (f : TupL ls → R) (v : TupL ls), appL ls (curL ls f) v = f v
  | [], _, _, _ => rfl
  | _ :: r, _, f, v => appL_curL r (fun u => f (v.1, u)) v.2
theorem app_cur : ∀ (sg : List SE) (f : Tup sg → World → Prop) (v : Tup sg) (w : World), app sg (cur sg f) v w = f v w
  | [], _, _, _ => rfl
  | .v _ _ :: r, f, v, w => app_cur r (fun u => f (v.1, u)) v.2 w
  | .agg _ ls :: r, f, v, w => by
    show app r (appL ls (curL ls fun x => cur r fun u => f (x, u)) v.1) v.2 w = f v w
    rw [appL_curL]
    exact app_cur r (fun u => f (v.1, u)) v.2 w

/-- A loop over variables. -/
def loopC (sg : List SE) (B : Cur sg → Cur sg) : Cur sg := cur sg fun v w => ∀ X : Cur sg, (∀ v w, app sg (B X) v w → app sg X v w) → app sg X v w

/-! Places in code. -/
def bdy (f : Func) : Code := f.body.getD .skip
def s1 : Code → Code | .seq a _ => a | _ => .skip
def s2 : Code → Code | .seq _ b => b | _ => .skip
def blk : Code → Code | .block _ c => c | _ => .skip
def scp : Code → Code | .scope c => c | _ => .skip
def lp : Code → Code | .loop c => c | _ => .skip
def c1 : Code → Code | .cond _ x _ => x | _ => .skip
def c2 : Code → Code | .cond _ _ y => y | _ => .skip
def allS : Code → List Code
  | .seq a r => a :: allS r
  | c => [c]
def heads : Nat → Code → List Code
  | m + 1, .seq a r => a :: heads m r
  | _, _ => []
def tl : Nat → Code → Code
  | m + 1, .seq _ r => tl m r
  | _, c => c
def grp : List Code → Code → Code
  | [], r => r
  | c :: cs, r => .seq c (grp cs r)
def lst : List Code → Code
  | [] => .skip
  | [c] => c
  | c :: cs => .seq c (lst cs)
theorem allS_ne : ∀ c, allS c ≠ []
  | .seq _ _ => by simp [allS]
  | .skip => by simp [allS]
  | .region _ _ _ => by simp [allS]
  | .cond _ _ _ => by simp [allS]
  | .block _ _ => by simp [allS]
  | .loop _ => by simp [allS]
  | .rangeFunc _ _ _ _ => by simp [allS]
  | .exit _ => by simp [allS]
  | .scope _ => by simp [allS]
  | .label _ => by simp [allS]
  | .goto _ => by simp [allS]
  | .ret => by simp [allS]
  | .refuse _ => by simp [allS]
theorem lst_cons (c : Code) {cs : List Code} (h : cs ≠ []) : lst (c :: cs) = .seq c (lst cs) := by
  cases cs with
  | nil => exact absurd rfl h
  | cons _ _ => rfl
theorem lst_allS : ∀ c, lst (allS c) = c
  | .seq a r => by simp only [allS]; rw [lst_cons _ (allS_ne r), lst_allS r]
  | .skip => rfl
  | .region _ _ _ => rfl
  | .cond _ _ _ => rfl
  | .block _ _ => rfl
  | .loop _ => rfl
  | .rangeFunc _ _ _ _ => rfl
  | .exit _ => rfl
  | .scope _ => rfl
  | .label _ => rfl
  | .goto _ => rfl
  | .ret => rfl
  | .refuse _ => rfl
theorem grp_heads : ∀ m c, grp (heads m c) (tl m c) = c
  | 0, c => by cases c <;> rfl
  | m + 1, .seq a r => by simp only [heads, tl, grp]; rw [grp_heads m r]
  | _ + 1, .skip => rfl
  | _ + 1, .region _ _ _ => rfl
  | _ + 1, .cond _ _ _ => rfl
  | _ + 1, .block _ _ => rfl
  | _ + 1, .loop _ => rfl
  | _ + 1, .rangeFunc _ _ _ _ => rfl
  | _ + 1, .exit _ => rfl
  | _ + 1, .scope _ => rfl
  | _ + 1, .label _ => rfl
  | _ + 1, .goto _ => rfl
  | _ + 1, .ret => rfl
  | _ + 1, .refuse _ => rfl

section
variable {P : Program} {F : Clee} {N : Nat}

def vcL (P : Program) (F : Clee) (N : Nat) : List Code → Post → Env → World → Prop
  | [], K, ρ, w => K .normal ρ w
  | c :: cs, K, ρ, w => vc P F N c (next (vcL P F N cs K) K) ρ w

/-- A segment's clean text grants its code. M: the activation may hold marks; ro: the round that it is of. -/
def OkT (P : Program) (M : Bool) (ro : Option Nat) (N : Nat) (sg : List SE) (k : Cur sg) (c : Code) (K : Post) : Prop :=
  ∀ (v : Tup sg) (ρ : Env) (a : Act) (w : World), Rel M N a (emb sg v ρ) → app sg k v w → c.wpIn (Wd ro) 0 P (lift M N K) a w

variable {M : Bool} {ro : Option Nat}

theorem group_wp (hm : P.follows .mixedOrders = true) (hF : FOk P F) {REST : Code} {g : Env → World → Prop} {K : Post} (hn : ∀ a ρ w, Rel M N a ρ → g ρ w → REST.wpIn (Wd ro) 0 P (lift M N K) a w) :
    ∀ (cs : List Code) (a : Act) (ρ : Env) (w : World), Rel M N a ρ → vcL P F N cs (next g K) ρ w → (grp cs REST).wpIn (Wd ro) 0 P (lift M N K) a w
  | [], a, ρ, w, hr, h => hn _ _ _ hr h
  | c :: cs, a, ρ, w, hr, h => by
    refine wpIn_seq (wpIn_mono (vc_ok hm hF c _ a ρ w hr h) ?_)
    rintro e a' w' ⟨ρ', hr', h'⟩
    cases e with
    | normal => exact group_wp hm hF hn cs _ _ _ hr' h'
    | _ => exact ⟨ρ', hr', h'⟩

theorem last_wp (hm : P.follows .mixedOrders = true) (hF : FOk P F) {K : Post} : ∀ (cs : List Code) (a : Act) (ρ : Env) (w : World), Rel M N a ρ → vcL P F N cs K ρ w → (lst cs).wpIn (Wd ro) 0 P (lift M N K) a w
  | [], a, ρ, w, hr, h => wpIn_skip ⟨ρ, hr, h⟩
  | [c], a, ρ, w, hr, h => by
    refine wpIn_mono (vc_ok hm hF c _ a ρ w hr h) ?_
    rintro e a' w' ⟨ρ', hr', h'⟩
    cases e with
    | normal => exact ⟨ρ', hr', h'⟩
    | _ => exact ⟨ρ', hr', h'⟩
  | c :: d :: cs, a, ρ, w, hr, h => by
    refine wpIn_seq (wpIn_mono (vc_ok hm hF c _ a ρ w hr h) ?_)
    rintro e a' w' ⟨ρ', hr', h'⟩
    cases e with
    | normal => exact last_wp hm hF (d :: cs) _ _ _ hr' h'
    | _ => exact ⟨ρ', hr', h'⟩

theorem ok_last (hm : P.follows .mixedOrders = true) (hF : FOk P F) {sg : List SE} {k : Cur sg} {c : Code} {K : Post}
    (h : ∀ v ρ w, app sg k v w = vcL P F N (allS c) K (emb sg v ρ) w) : OkT P M ro N sg k c K := by
  intro v ρ a w hr hk
  have := last_wp (ro := ro) hm hF (allS c) a _ w hr (h v ρ w ▸ hk)
  rwa [lst_allS] at this

theorem ok_group (hm : P.follows .mixedOrders = true) (hF : FOk P F) (m : Nat) {sg sg' : List SE} {k : Cur sg} {k' : Cur sg'} {c : Code} {K : Post} (hR : OkT P M ro N sg' k' (tl m c) K)
    (h : ∀ v ρ w, app sg k v w = vcL P F N (heads m c) (next (get sg' k') K) (emb sg v ρ) w) : OkT P M ro N sg k c K := by
  intro v ρ a w hr hk
  have := group_wp (ro := ro) hm hF (REST := tl m c) (g := get sg' k') (K := K) (fun a ρ w hr hg => by
    obtain ⟨v', he, hk'⟩ := get_ok sg' k' hg
    exact hR v' ρ a w (by rw [he]; exact hr) hk') (heads m c) a _ w hr (h v ρ w ▸ hk)
  rwa [grp_heads] at this

theorem ok_seq {sg sg' : List SE} {k : Cur sg} {k' : Cur sg'} {c : Code} {K : Post} (hc : c = .seq (s1 c) (s2 c)) (hR : OkT P M ro N sg' k' (s2 c) K)
    (h : OkT P M ro N sg k (s1 c) (next (get sg' k') K)) : OkT P M ro N sg k c K := by
  intro v ρ a w hr hk
  rw [hc]
  refine wpIn_seq (wpIn_mono (h v ρ a w hr hk) ?_)
  rintro e a' w' ⟨ρ', hr', h'⟩
  cases e with
  | normal =>
    obtain ⟨v', he, hk'⟩ := get_ok sg' k' h'
    exact hR v' ρ' a' w' (by rw [he]; exact hr') hk'
  | _ => exact ⟨ρ', hr', h'⟩

theorem ok_block (id : Nat) {sg : List SE} {k : Cur sg} {c : Code} {K : Post} (hc : c = .block id (blk c)) (h : OkT P M ro N sg k (blk c) (inBlock id K)) : OkT P M ro N sg k c K := by
  intro v ρ a w hr hk
  rw [hc]
  refine wpIn_block (wpIn_mono (h v ρ a w hr hk) ?_)
  rintro e a' w' ⟨ρ', hr', h'⟩
  cases e with
  | exit i =>
    simp only [inBlock] at h'
    simp only [Exit.inBlock]
    by_cases hi : i = id
    · subst hi
      rw [if_pos rfl]
      have : Nat.beq i i = true := by simp
      rw [this] at h'
      exact ⟨ρ', hr', h'⟩
    · rw [if_neg hi]
      rw [beq_ff hi] at h'
      exact ⟨ρ', hr', h'⟩
  | _ => exact ⟨ρ', hr', h'⟩

theorem ok_scope {sg : List SE} {k : Cur sg} {c : Code} {K : Post} (hc : c = .scope (scp c)) (h : OkT P M ro N sg k (scp c) (noG K)) : OkT P M ro N sg k c K := by
  intro v ρ a w hr hk
  rw [hc]
  refine wpIn_scope_straight (wpIn_mono (h v ρ a w hr hk) ?_)
  rintro e a' w' ⟨ρ', hr', h'⟩
  cases e with
  | goto l => exact h'
  | _ => exact ⟨ρ', hr', h'⟩

theorem ok_cond (s : Nat) {sg : List SE} {T X Y : Cur sg} {c : Code} {K : Post} (bOf : Tup sg → Bool) (hc : c = .cond (.tmp s) (c1 c) (c2 c)) (hb : ∀ v ρ, ev N (emb sg v ρ) (.tmp s) = .bool (bOf v))
    (h : ∀ v w, app sg T v w = G.cond (bOf v) (app sg X v w) (app sg Y v w)) (hX : OkT P M ro N sg X (c1 c) K) (hY : OkT P M ro N sg Y (c2 c) K) : OkT P M ro N sg T c K := by
  intro v ρ a w hr hk
  rw [h] at hk
  rw [hc]
  refine wpIn_cond (t := bOf v) (by rw [hr.eval, hb]) ?_
  cases hv : bOf v
  · rw [hv] at hk; exact hY v ρ a w hr hk
  · rw [hv] at hk; exact hX v ρ a w hr hk

/-- What a loop does from the head of a round on. -/
def LoopIn (ro : Option Nat) (P : Program) (c : Code) (Q : Exit → Act → World → Prop) (a : Act) (w : World) : Prop :=
  ∀ (b : Frame) (k : List Item) (cs : List Frame), b.roundOf = ro → ∃ e a' w', Q e a' w' ∧ ArrivesIn (Machine.fenced P (Wd ro)) P (lone (b.atR a (.code c :: .inLoop c :: k)) cs w) b k cs e a' w'

theorem LoopIn.round {c : Code} {Q : Exit → Act → World → Prop} {a : Act} {w : World} (h : c.wpIn (Wd ro) 0 P (Exit.then (LoopIn ro P c Q) Q) a w) : LoopIn ro P c Q a w := by
  intro b k cs hro
  obtain ⟨e, a₁, w₁, hq, harr⟩ := h b (.inLoop c :: k) cs hro trivial (fun _ h => (by cases h))
  cases e with
  | normal =>
    obtain ⟨e₂, a₂, w₂, hq₂, harr₂⟩ := hq b k cs hro
    exact ⟨e₂, a₂, w₂, hq₂, .of_steps (StepsIn.trans harr (.one (calmW _) stepR_inLoop)) harr₂⟩
  | exit id => exact ⟨_, a₁, w₁, hq, .pass (x := .inLoop c) rfl (fun _ _ => .inl (by simp)) harr⟩
  | goto l => exact ⟨_, a₁, w₁, hq, .pass (x := .inLoop c) rfl (fun _ _ => .inl (by simp)) harr⟩
  | ret => exact ⟨_, a₁, w₁, hq, .pass (x := .inLoop c) rfl (fun _ _ => .inl (by simp)) harr⟩
  | panic ch => exact ⟨_, a₁, w₁, hq, .pass (x := .inLoop c) rfl (fun _ _ => .inl (by simp)) harr⟩
  | outgrown => exact ⟨_, a₁, w₁, hq, .pass (x := .inLoop c) rfl (fun _ _ => .inl (by simp)) harr⟩

theorem LoopIn.loop {c : Code} {Q : Exit → Act → World → Prop} {a : Act} {w : World} (h : LoopIn ro P c Q a w) : (Code.loop c).wpIn (Wd ro) 0 P Q a w := fun b k cs hro _ _ =>
  let ⟨e, a', w', hq, harr⟩ := h b k cs hro
  ⟨e, a', w', hq, .of_steps (.one (calmW _) stepR_loop) harr⟩

/-- What a scope does from its label on. -/
def JumpIn (ro : Option Nat) (P : Program) (d rest : Code) (Q : Exit → Act → World → Prop) (a : Act) (w : World) : Prop :=
  ∀ (b : Frame) (k : List Item) (cs : List Frame), b.roundOf = ro → ∃ e a' w', Q e a' w' ∧ ArrivesIn (Machine.fenced P (Wd ro)) P (lone (b.atR a (.code rest :: .inScope d :: k)) cs w) b k cs e a' w'
def Exit.onJump (l : Nat) (J : Act → World → Prop) (Q : Exit → Act → World → Prop) : Exit → Act → World → Prop
  | .goto l', a, w => l' = l ∧ J a w
  | e, a, w => Q e a w
theorem JumpIn.pass {l : Nat} {d rest : Code} {Q : Exit → Act → World → Prop} {a : Act} {w : World} (hf : findLabel d l = some rest) (h : rest.wpIn (Wd ro) 0 P (Exit.onJump l (JumpIn ro P d rest Q) Q) a w) : JumpIn ro P d rest Q a w := by
  intro b k cs hro
  have hg : gotoIn l (.inScope d :: k) = some (.code rest :: .inScope d :: k) := by simp [gotoIn, hf]
  obtain ⟨e, a₁, w₁, hq, harr⟩ := h b (.inScope d :: k) cs hro trivial (fun _ h => (by cases h))
  cases e with
  | normal => exact ⟨.normal, a₁, w₁, hq, StepsIn.trans harr (.one (calmW _) stepR_inScope)⟩
  | exit id =>
    have hx : exitTo id (.inScope d :: k) = exitTo id k := by simp [exitTo]
    exact ⟨.exit id, a₁, w₁, hq, fun k' hk => harr.1 k' (by rw [hx]; exact hk), fun hr' hk => let ⟨k₁, h1, h2⟩ := harr.2 hr' (by rw [hx]; exact hk); ⟨k₁, h1, h2⟩⟩
  | goto l' =>
    obtain ⟨rfl, hJ⟩ := hq
    obtain ⟨e₂, a₂, w₂, hq₂, harr₂⟩ := hJ b k cs hro
    exact ⟨e₂, a₂, w₂, hq₂, .of_steps (harr.1 _ hg) harr₂⟩
  | ret => exact ⟨_, a₁, w₁, hq, harr⟩
  | panic ch => exact ⟨_, a₁, w₁, hq, harr⟩
  | outgrown => exact ⟨_, a₁, w₁, hq, harr⟩
theorem JumpIn.scope {l : Nat} {d rest : Code} {Q : Exit → Act → World → Prop} {a : Act} {w : World} (hf : findLabel d l = some rest) (h : d.wpIn (Wd ro) 0 P (Exit.onJump l (JumpIn ro P d rest Q) Q) a w) : (Code.scope d).wpIn (Wd ro) 0 P Q a w := by
  intro b k cs hro hb hr
  have hg : gotoIn l (.inScope d :: k) = some (.code rest :: .inScope d :: k) := by simp [gotoIn, hf]
  obtain ⟨e, a₁, w₁, hq, harr⟩ := h b (.inScope d :: k) cs hro hb hr
  have s0 := StepsIn.one (I := Machine.fenced P (Wd ro)) (calmW _) (stepR_scope (P := P) (b := b) (a := a) (k := k) (cs := cs) (w := w) (c := d))
  cases e with
  | normal => exact ⟨.normal, a₁, w₁, hq, s0.trans (StepsIn.trans harr (.one (calmW _) stepR_inScope))⟩
  | exit id =>
    have hx : exitTo id (.inScope d :: k) = exitTo id k := by simp [exitTo]
    exact ⟨.exit id, a₁, w₁, hq, fun k' hk => s0.trans (harr.1 k' (by rw [hx]; exact hk)), fun hr' hk => let ⟨k₁, h1, h2⟩ := harr.2 hr' (by rw [hx]; exact hk); ⟨k₁, h1, s0.trans h2⟩⟩
  | goto l' =>
    obtain ⟨rfl, hJ⟩ := hq
    obtain ⟨e₂, a₂, w₂, hq₂, harr₂⟩ := hJ b k cs hro
    exact ⟨e₂, a₂, w₂, hq₂, .of_steps (s0.trans (harr.1 _ hg)) harr₂⟩
  | ret => exact ⟨_, a₁, w₁, hq, .of_steps s0 harr⟩
  | panic ch => exact ⟨_, a₁, w₁, hq, .of_steps s0 harr⟩
  | outgrown => exact ⟨_, a₁, w₁, hq, .of_steps s0 harr⟩
/-- What is behind a label, as a code's part. -/
def jmp (l : Nat) (c : Code) : Code := (findLabel c l).getD .skip
/-- A scope whose run jumps back to its label: B from the label on, E from the scope's beginning. -/
def jumpC (sg sg0 : List SE) (B : Cur sg → Cur sg) (E : Cur sg → Cur sg0) : Cur sg0 := cur sg0 fun v w => ∀ X : Cur sg, (∀ v w, app sg (B X) v w → app sg X v w) → app sg0 (E X) v w
theorem ok_jump (l : Nat) {sg sg0 : List SE} {c : Code} {K : Post} {B : Cur sg → Cur sg} {E : Cur sg → Cur sg0} (hc : c = .scope (scp c)) (hf : findLabel (scp c) l = some (jmp l (scp c)))
    (hB : ∀ kc, OkT P M ro N sg (B kc) (jmp l (scp c)) (onG l (get sg kc) K)) (hE : ∀ kc, OkT P M ro N sg0 (E kc) (scp c) (onG l (get sg kc) K)) : OkT P M ro N sg0 (jumpC sg sg0 B E) c K := by
  intro v ρ a w hr hk
  unfold jumpC at hk
  rw [app_cur] at hk
  rw [hc]
  let J : Act → World → Prop := JumpIn ro P (scp c) (jmp l (scp c)) (lift M N K)
  have turn : ∀ (e : Exit) (a' : Act) (w' : World), lift M N (onG l (get sg (cur sg fun v w => ∀ ρ a, Rel M N a (emb sg v ρ) → J a w)) K) e a' w' → Exit.onJump l J (lift M N K) e a' w' := by
    rintro e a' w' ⟨ρ', hr', h'⟩
    cases e with
    | goto l' =>
      simp only [onG] at h'
      by_cases hl : l' = l
      · subst hl
        have hbb : Nat.beq l' l' = true := by simp
        rw [hbb] at h'
        obtain ⟨v', he, hk'⟩ := get_ok sg _ h'
        rw [app_cur] at hk'
        exact ⟨rfl, hk' ρ' a' (by rw [he]; exact hr')⟩
      · rw [beq_ff hl] at h'
        exact h'.elim
    | _ => exact ⟨ρ', hr', h'⟩
  have h := hk (cur sg fun v w => ∀ ρ a, Rel M N a (emb sg v ρ) → J a w) (fun v w hb => by
    rw [app_cur]
    intro ρ a hr
    exact JumpIn.pass hf (wpIn_mono (hB _ v ρ a w hr hb) turn))
  exact JumpIn.scope hf (wpIn_mono (hE _ v ρ a w hr h) turn)

theorem ok_loop {sg : List SE} {c : Code} {K : Post} {B : Cur sg → Cur sg} (hc : c = .loop (lp c)) (hB : ∀ kc, OkT P M ro N sg (B kc) (lp c) (next (get sg kc) K)) : OkT P M ro N sg (loopC sg B) c K := by
  intro v ρ a w hr hk
  unfold loopC at hk
  rw [app_cur] at hk
  rw [hc]
  have h := hk (cur sg fun v w => ∀ ρ a, Rel M N a (emb sg v ρ) → LoopIn ro P (lp c) (lift M N K) a w) (fun v w hb => by
    rw [app_cur]
    intro ρ a hr
    refine LoopIn.round (wpIn_mono (hB _ v ρ a w hr hb) ?_)
    rintro e a' w' ⟨ρ', hr', h'⟩
    cases e with
    | normal =>
      obtain ⟨v', he, hk'⟩ := get_ok sg _ h'
      rw [app_cur] at hk'
      exact hk' ρ' a' (by rw [he]; exact hr')
    | _ => exact ⟨ρ', hr', h'⟩)
  rw [app_cur] at h
  exact (h ρ a hr).loop
end

/-! Functions. -/
abbrev CL := List Value → (Value → World → Prop) → World → Prop
def HasBody (P : Program) (n : Nat) : Prop := ∃ fn, P.funcs[n]? = some fn ∧ (fn.name == "runtime.NumGoroutine") = false ∧ fn.body.isNone = false
def OkC (P : Program) (n : Nat) (f : CL) : Prop := ∀ args K w, f args K w → HasBody P n ∧ Calls P n args.toArray w (fun e w' => ∃ v, e = .returned v ∧ K v w')
/-- One of the model's own. -/
def OkX (P : Program) (n : Nat) (f : CL) : Prop := ∀ args K w, f args K w → ∃ v w', (callFunc n args.toArray).run P w = .ok (.value v) w' ∧ K v w'
def ofL : List (Nat × CL) → Clee
  | [] => fun _ _ _ _ => False
  | (m, f) :: r => fun n args K w => bif Nat.beq n m then f args K w else ofL r n args K w
section
variable {P : Program}
theorem FOk_nil : FOk P (ofL []) := fun _ _ _ _ h => h.elim
theorem FOk_cons {m : Nat} {f : CL} {r : List (Nat × CL)} (h : OkC P m f) (hr : FOk P (ofL r)) : FOk P (ofL ((m, f) :: r)) := by
  intro n args K w hf
  simp only [ofL] at hf
  by_cases e : n = m
  · subst e
    have : Nat.beq n n = true := by simp
    rw [this] at hf
    exact .inl (h args K w hf)
  · rw [beq_ff e] at hf
    exact hr n args K w hf
theorem FOk_consX {m : Nat} {f : CL} {r : List (Nat × CL)} (h : OkX P m f) (hr : FOk P (ofL r)) : FOk P (ofL ((m, f) :: r)) := by
  intro n args K w hf
  simp only [ofL] at hf
  by_cases e : n = m
  · subst e
    have : Nat.beq n n = true := by simp
    rw [this] at hf
    exact .inr (h args K w hf)
  · rw [beq_ff e] at hf
    exact hr n args K w hf
def FOkB (P : Program) (F : Clee) : Prop := ∀ n args K w, F n args K w → HasBody P n ∧ Calls P n args.toArray w (fun e w' => ∃ v, e = .returned v ∧ K v w')
theorem FOkB_nil : FOkB P (ofL []) := fun _ _ _ _ h => h.elim
theorem FOkB_cons {m : Nat} {f : CL} {r : List (Nat × CL)} (h : OkC P m f) (hr : FOkB P (ofL r)) : FOkB P (ofL ((m, f) :: r)) := by
  intro n args K w hf
  simp only [ofL] at hf
  by_cases e : n = m
  · subst e
    have : Nat.beq n n = true := by simp
    rw [this] at hf
    exact h args K w hf
  · rw [beq_ff e] at hf
    exact hr n args K w hf
end

/-! ## Ranges over functions -/
def jump : Exit → Option (Option Code)
  | .normal => some none
  | .ret => some (some .ret)
  | .exit i => some (some (.exit i))
  | _ => none
/-- B: one round's body; K: behind the loop, by the way in which the last round was left. -/
def G.rangeF (F : Clee) (f : Value) (P : Program) (B : List Value → World → (Exit → World → Prop) → Prop) (w : World) (K : Exit → Nat → World → Prop) : Prop :=
  match f with
  | .func (.func n) first captured => ∀ rec : LoopState → Option Code → Obj, (∀ s j, (rec s j).isCells = false) →
      (∀ (args : List Value) (w1 : World) (R : Value → World → Prop), w1.heap[w.heap.size + 1]? = some (rec .ready none) →
        B args (w1.putObj (w.heap.size + 1) (rec .busy none)) (fun e w2 => w2.heap[w.heap.size + 1]? = some (rec .busy none) ∧
          ∃ j, jump e = some j ∧ R (.bool j.isNone) (w2.putObj (w.heap.size + 1) (rec (if j.isNone then .ready else .done) j))) → G.yieldAt P (w.heap.size + 1) args w1 R) →
      F n (first.toList ++ [.func (.yield (w.heap.size + 1)) #[] #[]] ++ captured.toList) (fun _ w3 => ∃ st e j, jump e = some j ∧ st ≠ LoopState.busy ∧ w3.heap[w.heap.size + 1]? = some (rec st j) ∧ K e w.heap.size (w3.putObj (w.heap.size + 1) (rec .exhausted j)))
        ((w.alloc (.deferred (some []))).alloc (rec .ready none))
  | _ => False

/-- Where what is told is first put into new memory: bz: from the round's assignments to its body. -/
def G.rangeW (F : Clee) (f : Value) (P : Program) (B : List Value → World → ((World → Prop) → World → Prop) → (Exit → World → Prop) → Prop) (w : World) (K : Exit → Nat → World → Prop) : Prop :=
  match f with
  | .func (.func n) first captured => ∀ rec : LoopState → Option Code → Obj, (∀ s j, (rec s j).isCells = false) →
      (∀ (args : List Value) (w1 : World) (R : Value → World → Prop), w1.heap[w.heap.size + 1]? = some (rec .ready none) →
        B args w1 (fun X w' => w'.heap[w.heap.size + 1]? = some (rec .ready none) ∧ X (w'.putObj (w.heap.size + 1) (rec .busy none))) (fun e w2 => w2.heap[w.heap.size + 1]? = some (rec .busy none) ∧
          ∃ j, jump e = some j ∧ R (.bool j.isNone) (w2.putObj (w.heap.size + 1) (rec (if j.isNone then .ready else .done) j))) → G.yieldAt P (w.heap.size + 1) args w1 R) →
      F n (first.toList ++ [.func (.yield (w.heap.size + 1)) #[] #[]] ++ captured.toList) (fun _ w3 => ∃ st e j, jump e = some j ∧ st ≠ LoopState.busy ∧ w3.heap[w.heap.size + 1]? = some (rec st j) ∧ K e w.heap.size (w3.putObj (w.heap.size + 1) (rec .exhausted j)))
        ((w.alloc (.deferred (some []))).alloc (rec .ready none))
  | _ => False

theorem exit_inv {i j : Nat} {X Y : Prop} (h : bif Nat.beq i j then X else Y) : (i = j ∧ X) ∨ Y := by
  cases hb : Nat.beq i j with
  | true => rw [hb] at h; exact .inl ⟨Nat.eq_of_beq_eq_true hb, h⟩
  | false => rw [hb] at h; exact .inr h
def asg : Code → Code | .rangeFunc _ _ a _ => a | _ => .skip
def rbd : Code → Code | .rangeFunc _ _ _ b => b | _ => .skip
def bindP (N : Nat) : List (Nat × Value) → Env → Env
  | [], ρ => ρ
  | (t, v) :: r, ρ => bindP N r (put N ρ (some t) v)
def RP (R : Exit → World → Prop) : Post := fun e _ w => match e with | .normal => R e w | .ret => R e w | .exit _ => R e w | _ => False

section
variable {P : Program} {F Fc : Clee} {N : Nat}
theorem bind_rel : ∀ (l : List (Nat × Value)) (tmps : Array Value) (ρ : Env), Rel false N { tmps := tmps, defers := [] } ρ →
    Rel false N { tmps := l.foldl (fun t (p : Nat × Value) => t.setIfInBounds p.1 p.2) tmps, defers := [] } (bindP N l ρ)
  | [], _, _, h => h
  | (t, v) :: l, _, _, h => bind_rel l _ _ (h.put (some t) v)

theorem ok_range (hm : P.follows .mixedOrders = true) (hF : FOk P F) (hFc : FOkB P Fc) {sg sgB : List SE} {s : Nat} {ps : Array Nat} {T : Cur sg} {c : Code} {K : Post}
    {Bt : Tup sg → List Value → World → (Exit → World → Prop) → Prop} {kB : (Exit → World → Prop) → Cur sgB} {out : Tup sg → Exit → Nat → World → Prop}
    (hc : c = .rangeFunc (.tmp s) ps (asg c) (rbd c))
    (hT : ∀ v ρ w, app sg T v w = G.rangeF Fc (ev N (emb sg v ρ) (.tmp s)) P (Bt v) w (out v))
    (hA : ∀ v ρ args w wb R, Bt v args wb R → args.length = ps.size ∧ vc P F N (asg c) (next (fun ρ' w' => w' = w ∧ get sgB (kB R) ρ' wb) (fun _ _ _ => False)) (bindP N (ps.toList.zip args) (emb sg v ρ)) w)
    (hB : ∀ R l, OkT P false (some l) N sgB (kB R) (rbd c) (RP R))
    (hK : ∀ v ρ e D w, out v e D w → K e (upd (emb sg v ρ) N (pushMark (emb sg v ρ N) D)) w) : OkT P true none N sg T c K := by
  intro v ρ a w hr hk
  rw [hT v ρ] at hk
  rw [hc]
  unfold G.rangeF at hk
  split at hk
  case h_2 => exact hk.elim
  rename_i n first captured hf
  refine wpIn_rangeFunc fun fn _ => ?_
  obtain ⟨rec, hrec⟩ : ∃ rec : LoopState → Option Code → Loop, rec = fun st pe => { state := st, pending := pe, fn, tmps := a.tmps, params := ps, assign := asg c, body := rbd c, defers := w.heap.size } := ⟨_, rfl⟩
  have hL1 : ((w.alloc (.deferred (some []))).alloc (.loop (rec .ready none))).heap[w.heap.size + 1]? = some (.loop (rec .ready none)) := by
    have := World.alloc_heap_new (w.alloc (.deferred (some []))) (.loop (rec .ready none)); rwa [World.size_alloc] at this
  have hcall := hk (fun st pe => .loop (rec st pe)) (fun _ _ => rfl) (by
    intro args w1 R hl hb
    obtain ⟨hlen, hassign⟩ := hA v ρ args w1 _ _ hb
    have hlt : w.heap.size + 1 < w1.heap.size := (Array.getElem?_eq_some_iff.1 hl).1
    have hy := run_yield (P := P) (args := args.toArray) hl (by rw [hrec]; simpa using hlen)
    rw [hrec] at hy
    refine ⟨fn, _, asg c, rbd c, hy, roundIn_of_wpIn trivial ?_⟩
    have hrel : Rel false N { tmps := (ps.zip args.toArray).foldl (fun tmps (t, a) => tmps.setIfInBounds t a) a.tmps, defers := [] } (bindP N (ps.toList.zip args) (emb sg v ρ)) := by
      have := bind_rel (N := N) (ps.toList.zip args) a.tmps (emb sg v ρ) ⟨hr.size, rfl, hr.get⟩
      rw [← Array.foldl_toList, Array.toList_zip]
      exact this
    refine wpIn_mono (vc_ok (ro := some (w.heap.size + 1)) hm hF (asg c) _ _ _ w1 hrel hassign) ?_
    rintro e a1 w1' ⟨ρ1, hr1, h1⟩
    cases e with
    | normal =>
      obtain ⟨rfl, h1⟩ := h1
      obtain ⟨v', he, hk'⟩ := get_ok sgB _ h1
      refine ⟨_, run_beginRound hl (by rw [hrec]), ?_⟩
      refine wpIn_mono (hB _ (w.heap.size + 1) v' ρ1 a1 _ (by rw [he]; exact hr1) (by rw [hrec] at hk' ⊢; exact hk')) ?_
      have fin : ∀ (e : Exit) (a2 : Act) (w2 : World), RP (fun e w2 => w2.heap[w.heap.size + 1]? = some (.loop (rec .busy none)) ∧ ∃ j, jump e = some j ∧ R (.bool j.isNone) (w2.putObj (w.heap.size + 1) (.loop (rec (if j.isNone then .ready else .done) j)))) e ρ1 w2 →
          roundPost P (w.heap.size + 1) (fun e w' => ∃ v, e = .returned v ∧ R v w') e a2 w2 := by
        intro e a2 w2 h2
        have go : ∀ j, w2.heap[w.heap.size + 1]? = some (.loop (rec .busy none)) → R (.bool j.isNone) (w2.putObj (w.heap.size + 1) (.loop (rec (if j.isNone then .ready else .done) j))) →
            ∃ u w', (Instr.endRound (w.heap.size + 1) j).run P w2 = .ok u w' ∧ (fun e w' => ∃ v, e = Ending.returned v ∧ R v w') (.returned u) w' := by
          intro j h3 h4
          have := run_endRound (P := P) j h3
          rw [hrec] at this h4
          exact ⟨_, _, this, _, rfl, h4⟩
        cases e with
        | normal => obtain ⟨h3, j, hj, h4⟩ := h2; cases hj; exact go none h3 h4
        | ret => obtain ⟨h3, j, hj, h4⟩ := h2; cases hj; exact go (some .ret) h3 h4
        | exit i => obtain ⟨h3, j, hj, h4⟩ := h2; cases hj; exact go (some (.exit i)) h3 h4
        | _ => exact h2.elim
      rintro e a2 w2 ⟨ρ2, hr2, h2⟩
      refine fin e a2 w2 ?_
      subst hrec
      cases e <;> exact h2
    | _ => exact h1.elim)
  obtain ⟨hbody, hcalls⟩ := hFc _ _ _ _ hcall
  have ee : (first.toList ++ [Value.func (.yield (w.heap.size + 1)) #[] #[]] ++ captured.toList).toArray = first ++ #[Value.func (.yield (w.heap.size + 1)) #[] #[]] ++ captured := by
    apply Array.ext'
    simp
  refine ⟨w.heap.size + 1, [{ target := .collected w.heap.size, args := #[] }], (w.alloc (.deferred (some []))).alloc (.loop (rec .ready none)), { target := .fn (.func n) captured, args := first ++ #[.func (.yield (w.heap.size + 1)) #[] #[]] },
    (w.alloc (.deferred (some []))).alloc (.loop (rec .ready none)), n, first ++ #[.func (.yield (w.heap.size + 1)) #[] #[]] ++ captured, (w.alloc (.deferred (some []))).alloc (.loop (rec .ready none)), by rw [hrec]; exact run_enterLoop_outer fn a.tmps ps (asg c) (rbd c), ?_, fun _ _ => trivial, ?_, fun h => (by cases h), ?_⟩
  · simp only [resolve, hr.eval, hf, Deferred.ofValue]
    simp [Act.eval]
  · simp only [invoke]
    exact callFunc_run hbody
  · rw [ee] at hcalls
    subst hrec
    refine CallsIn.mono (F := Wd none) (n := 0) (callsIn_wide.2 hcalls) ?_
    rintro e w3 ⟨u, rfl, st, e, j, hj, hst, hl, hout⟩
    refine ⟨j, _, run_endLoop hl hst, ?_⟩
    have hr' : Rel true N { a with defers := [{ target := .collected w.heap.size, args := #[] }] ++ a.defers } (upd (emb sg v ρ) N (pushMark (emb sg v ρ N) w.heap.size)) := by
      refine ⟨hr.size, ?_, fun i hi => ?_⟩
      · rw [upd_eq]
        simp only [cond_true, marksOf_push]
        have := hr.defers
        simp only [cond_true] at this
        rw [← this]; rfl
      · rw [upd_ne (by omega)]; exact hr.get i hi
    have hk' := hK v ρ e w.heap.size _ hout
    cases e with
    | normal => cases hj; exact ⟨_, hr', hk'⟩
    | ret => cases hj; exact wpIn_ret ⟨_, hr', hk'⟩
    | exit i => cases hj; exact wpIn_exit ⟨_, hr', hk'⟩
    | _ => cases hj

theorem ok_rangeW (hm : P.follows .mixedOrders = true) (hF : FOk P F) (hFc : FOkB P Fc) {sg sgB : List SE} {s : Nat} {ps : Array Nat} {T : Cur sg} {c : Code} {K : Post}
    {Bt : Tup sg → List Value → World → ((World → Prop) → World → Prop) → (Exit → World → Prop) → Prop} {kB : (Exit → World → Prop) → Cur sgB} {out : Tup sg → Exit → Nat → World → Prop}
    (hc : c = .rangeFunc (.tmp s) ps (asg c) (rbd c))
    (hT : ∀ v ρ w, app sg T v w = G.rangeW Fc (ev N (emb sg v ρ) (.tmp s)) P (Bt v) w (out v))
    (hA : ∀ v ρ args w bz R, Bt v args w bz R → args.length = ps.size ∧ vc P F N (asg c) (next (fun ρ' w' => bz (get sgB (kB R) ρ') w') (fun _ _ _ => False)) (bindP N (ps.toList.zip args) (emb sg v ρ)) w)
    (hB : ∀ R l, OkT P false (some l) N sgB (kB R) (rbd c) (RP R))
    (hK : ∀ v ρ e D w, out v e D w → K e (upd (emb sg v ρ) N (pushMark (emb sg v ρ N) D)) w) : OkT P true none N sg T c K := by
  intro v ρ a w hr hk
  rw [hT v ρ] at hk
  rw [hc]
  unfold G.rangeW at hk
  split at hk
  case h_2 => exact hk.elim
  rename_i n first captured hf
  refine wpIn_rangeFunc fun fn _ => ?_
  obtain ⟨rec, hrec⟩ : ∃ rec : LoopState → Option Code → Loop, rec = fun st pe => { state := st, pending := pe, fn, tmps := a.tmps, params := ps, assign := asg c, body := rbd c, defers := w.heap.size } := ⟨_, rfl⟩
  have hL1 : ((w.alloc (.deferred (some []))).alloc (.loop (rec .ready none))).heap[w.heap.size + 1]? = some (.loop (rec .ready none)) := by
    have := World.alloc_heap_new (w.alloc (.deferred (some []))) (.loop (rec .ready none)); rwa [World.size_alloc] at this
  have hcall := hk (fun st pe => .loop (rec st pe)) (fun _ _ => rfl) (by
    intro args w1 R hl hb
    obtain ⟨hlen, hassign⟩ := hA v ρ args w1 _ _ hb
    have hlt : w.heap.size + 1 < w1.heap.size := (Array.getElem?_eq_some_iff.1 hl).1
    have hy := run_yield (P := P) (args := args.toArray) hl (by rw [hrec]; simpa using hlen)
    rw [hrec] at hy
    refine ⟨fn, _, asg c, rbd c, hy, roundIn_of_wpIn trivial ?_⟩
    have hrel : Rel false N { tmps := (ps.zip args.toArray).foldl (fun tmps (t, a) => tmps.setIfInBounds t a) a.tmps, defers := [] } (bindP N (ps.toList.zip args) (emb sg v ρ)) := by
      have := bind_rel (N := N) (ps.toList.zip args) a.tmps (emb sg v ρ) ⟨hr.size, rfl, hr.get⟩
      rw [← Array.foldl_toList, Array.toList_zip]
      exact this
    refine wpIn_mono (vc_ok (ro := some (w.heap.size + 1)) hm hF (asg c) _ _ _ w1 hrel hassign) ?_
    rintro e a1 w1' ⟨ρ1, hr1, h1⟩
    cases e with
    | normal =>
      obtain ⟨hl', h1⟩ := h1
      obtain ⟨v', he, hk'⟩ := get_ok sgB _ h1
      refine ⟨_, run_beginRound hl' (by rw [hrec]), ?_⟩
      refine wpIn_mono (hB _ (w.heap.size + 1) v' ρ1 a1 _ (by rw [he]; exact hr1) (by rw [hrec] at hk' ⊢; exact hk')) ?_
      have fin : ∀ (e : Exit) (a2 : Act) (w2 : World), RP (fun e w2 => w2.heap[w.heap.size + 1]? = some (.loop (rec .busy none)) ∧ ∃ j, jump e = some j ∧ R (.bool j.isNone) (w2.putObj (w.heap.size + 1) (.loop (rec (if j.isNone then .ready else .done) j)))) e ρ1 w2 →
          roundPost P (w.heap.size + 1) (fun e w' => ∃ v, e = .returned v ∧ R v w') e a2 w2 := by
        intro e a2 w2 h2
        have go : ∀ j, w2.heap[w.heap.size + 1]? = some (.loop (rec .busy none)) → R (.bool j.isNone) (w2.putObj (w.heap.size + 1) (.loop (rec (if j.isNone then .ready else .done) j))) →
            ∃ u w', (Instr.endRound (w.heap.size + 1) j).run P w2 = .ok u w' ∧ (fun e w' => ∃ v, e = Ending.returned v ∧ R v w') (.returned u) w' := by
          intro j h3 h4
          have := run_endRound (P := P) j h3
          rw [hrec] at this h4
          exact ⟨_, _, this, _, rfl, h4⟩
        cases e with
        | normal => obtain ⟨h3, j, hj, h4⟩ := h2; cases hj; exact go none h3 h4
        | ret => obtain ⟨h3, j, hj, h4⟩ := h2; cases hj; exact go (some .ret) h3 h4
        | exit i => obtain ⟨h3, j, hj, h4⟩ := h2; cases hj; exact go (some (.exit i)) h3 h4
        | _ => exact h2.elim
      rintro e a2 w2 ⟨ρ2, hr2, h2⟩
      refine fin e a2 w2 ?_
      subst hrec
      cases e <;> exact h2
    | _ => exact h1.elim)
  obtain ⟨hbody, hcalls⟩ := hFc _ _ _ _ hcall
  have ee : (first.toList ++ [Value.func (.yield (w.heap.size + 1)) #[] #[]] ++ captured.toList).toArray = first ++ #[Value.func (.yield (w.heap.size + 1)) #[] #[]] ++ captured := by
    apply Array.ext'
    simp
  refine ⟨w.heap.size + 1, [{ target := .collected w.heap.size, args := #[] }], (w.alloc (.deferred (some []))).alloc (.loop (rec .ready none)), { target := .fn (.func n) captured, args := first ++ #[.func (.yield (w.heap.size + 1)) #[] #[]] },
    (w.alloc (.deferred (some []))).alloc (.loop (rec .ready none)), n, first ++ #[.func (.yield (w.heap.size + 1)) #[] #[]] ++ captured, (w.alloc (.deferred (some []))).alloc (.loop (rec .ready none)), by rw [hrec]; exact run_enterLoop_outer fn a.tmps ps (asg c) (rbd c), ?_, fun _ _ => trivial, ?_, fun h => (by cases h), ?_⟩
  · simp only [resolve, hr.eval, hf, Deferred.ofValue]
    simp [Act.eval]
  · simp only [invoke]
    exact callFunc_run hbody
  · rw [ee] at hcalls
    subst hrec
    refine CallsIn.mono (F := Wd none) (n := 0) (callsIn_wide.2 hcalls) ?_
    rintro e w3 ⟨u, rfl, st, e, j, hj, hst, hl, hout⟩
    refine ⟨j, _, run_endLoop hl hst, ?_⟩
    have hr' : Rel true N { a with defers := [{ target := .collected w.heap.size, args := #[] }] ++ a.defers } (upd (emb sg v ρ) N (pushMark (emb sg v ρ N) w.heap.size)) := by
      refine ⟨hr.size, ?_, fun i hi => ?_⟩
      · rw [upd_eq]
        simp only [cond_true, marksOf_push]
        have := hr.defers
        simp only [cond_true] at this
        rw [← this]; rfl
      · rw [upd_ne (by omega)]; exact hr.get i hi
    have hk' := hK v ρ e w.heap.size _ hout
    cases e with
    | normal => cases hj; exact ⟨_, hr', hk'⟩
    | ret => cases hj; exact wpIn_ret ⟨_, hr', hk'⟩
    | exit i => cases hj; exact wpIn_exit ⟨_, hr', hk'⟩
    | _ => cases hj

/-! ## A function from its code -/
theorem leaves_marks {fn : Func} {tmps : Array Value} {R : Ending → World → Prop} : ∀ (l : List Value) (w : World) (X : World → Prop), marksL l w X → (∀ w', X w' → LeavesIn (Wd none) 0 P fn tmps R [] .returning w') →
    LeavesInM (Wd none) 0 P fn tmps R (l.map markD) .returning w
  | [], w, X, h, hX => hX w h
  | v :: r, w, X, h, hX => by
    simp only [marksL] at h
    split at h
    · rename_i k d
      refine ⟨by simp, .inl ⟨d.toNat, _, rfl, run_takeDeferred h.1, ?_⟩⟩
      exact leaves_marks r _ X h.2 hX
    · exact h.elim
theorem calls_of_lift {M : Bool} {n : FuncId} {fn : Func} {args : List Value} {w : World} {K : Value → World → Prop}
    (hf : P.funcs[n]? = some fn) (hb : fn.body = some (bdy fn)) (hl : args.length ≤ fn.ntmps) (h : ∀ a, Rel M fn.ntmps a (args0 args) → (bdy fn).wpIn (Wd none) 0 P (lift M fn.ntmps (bodyK M P fn.ntmps fn K)) a w) :
    Calls P n args.toArray w (fun e w' => ∃ v, e = .returned v ∧ K v w') := by
  have hm : args0 args fn.ntmps = undef := by
    unfold args0
    rw [nth_eq, List.getElem?_eq_none hl]; rfl
  refine (callsIn_wide (n := 0)).1 (callsIn_of_wp_marks (F := Wd none) hf hb trivial (wpIn_mono (h _ ⟨?_, ?_, ?_⟩) ?_))
  · simp; omega
  · cases M
    · rfl
    · simp only [cond_true, hm]; rfl
  · intro i hi
    rw [Array.getD_eq_getD_getElem?]
    simp only [args0, nth_eq]
    by_cases h1 : i < args.length
    · rw [Array.getElem?_append_left (by simpa using h1)]
      simp
    · rw [Array.getElem?_append_right (by simpa using h1)]
      simp only [List.size_toArray, List.getElem?_eq_none (by omega : args.length ≤ i), Option.getD_none]
      rw [Array.getElem?_replicate]
      split <;> rfl
  · have fin : ∀ (a' : Act) (w' : World) (ρ' : Env), Rel M fn.ntmps a' ρ' → (bif M then G.marks (ρ' fn.ntmps) w' fun w => resK P fn.ntmps fn.results.toList ρ' w K else resK P fn.ntmps fn.results.toList ρ' w' K) →
        LeavesInM (Wd none) 0 P fn a'.tmps (fun e w' => ∃ v, e = Ending.returned v ∧ K v w') a'.defers .returning w' := by
      intro a' w' ρ' hr' h'
      have one : ∀ w', resK P fn.ntmps fn.results.toList ρ' w' K → LeavesIn (Wd none) 0 P fn a'.tmps (fun e w' => ∃ v, e = Ending.returned v ∧ K v w') [] .returning w' := fun w' h' => by
        obtain ⟨v, hv, hk⟩ := resK_ok hr' h'
        exact ⟨v, hv, v, rfl, hk⟩
      cases M
      · have hd := hr'.defers
        simp only [cond_false] at hd h'
        rw [hd]
        exact one w' h'
      · have hd := hr'.defers
        simp only [cond_true] at hd h'
        rw [hd]
        unfold G.marks at h'
        split at h'
        · rename_i cs hcs
          rw [hcs]
          exact leaves_marks cs.toList w' _ h' one
        · rename_i hne
          have : marksOf (ρ' fn.ntmps) = [] := by
            unfold marksOf
            split
            · rename_i cs hcs; exact absurd hcs (hne cs)
            · rfl
          rw [this]
          exact one w' h'
    rintro e a' w' ⟨ρ', hr', h'⟩
    cases e with
    | normal => exact fin a' w' ρ' hr' h'
    | ret => exact fin a' w' ρ' hr' h'
    | _ => exact h'.elim

/-- What the loaded program says of a function, as far as it is asked here. -/
structure FnOk (P : Program) (n N : Nat) (fn : Func) : Prop where
  f : P.funcs[n]? = some fn
  b : fn.body = some (bdy fn)
  t : fn.ntmps = N
  m : (fn.name == "runtime.NumGoroutine") = false
  i : fn.body.isNone = false

theorem calls_last (M : Bool) (hm : P.follows .mixedOrders = true) (hF : FOk P F) {n : FuncId} {fn : Func} (hfn : FnOk P n N fn) {args : List Value} {w : World} {K : Value → World → Prop} (hl : Nat.ble args.length N = true)
    (h : vcL P F N (allS (bdy fn)) (bodyK M P N fn K) (args0 args) w) :
    HasBody P n ∧ Calls P n args.toArray w (fun e w' => ∃ v, e = .returned v ∧ K v w') := by
  obtain ⟨f, b, t, m, i⟩ := hfn
  subst t
  refine ⟨⟨fn, f, m, i⟩, calls_of_lift (M := M) f b (Nat.le_of_ble_eq_true hl) fun a hr => ?_⟩
  have := last_wp (M := M) (ro := none) hm hF (allS (bdy fn)) a _ w hr h
  rwa [lst_allS] at this

theorem calls_group (M : Bool) (hm : P.follows .mixedOrders = true) (hF : FOk P F) {n : FuncId} {fn : Func} (hfn : FnOk P n N fn) {args : List Value} {w : World} {K : Value → World → Prop} (hl : Nat.ble args.length N = true)
    (m : Nat) {sg : List SE} {k : Cur sg} (hR : OkT P M none N sg k (tl m (bdy fn)) (bodyK M P N fn K))
    (h : vcL P F N (heads m (bdy fn)) (next (get sg k) (bodyK M P N fn K)) (args0 args) w) :
    HasBody P n ∧ Calls P n args.toArray w (fun e w' => ∃ v, e = .returned v ∧ K v w') := by
  obtain ⟨f, b, t, m', i⟩ := hfn
  subst t
  refine ⟨⟨fn, f, m', i⟩, calls_of_lift (M := M) f b (Nat.le_of_ble_eq_true hl) fun a hr => ?_⟩
  have := group_wp (M := M) (ro := none) hm hF (REST := tl m (bdy fn)) (g := get sg k) (K := bodyK M P fn.ntmps fn K) (fun a ρ w hr hg => by
    obtain ⟨v', he, hk'⟩ := get_ok sg k hg
    exact hR v' ρ a w (by rw [he]; exact hr) hk') (heads m (bdy fn)) a _ w hr h
  rwa [grp_heads] at this
end
end Go.Proofs.Ytaciaidehamfgaa.Vm
