/- Layer 8: what the samples' bits are: plain laws. Own work. -/
import Derived.Test.YtpadehbcjkhegaaDoorBitL
import Derived.Test.YtpadehbcjkhegaaDoorVintZ
namespace Go.Proofs.YtpadehbcjkhegaaDoor.Chunk
open Go Vm Go.RowKit Num Mem Bits Vint

abbrev Smp := Int × Nat
abbrev Win := Option (Nat × Nat)

/-- A time's form. -/
def tform (d : Int) : List Bool :=
  if d = 0 then low 0 1 else if fitsB d 14 then low 2 2 ++ low (lowN d 14) 14 else if fitsB d 17 then low 6 3 ++ low (lowN d 17) 17
  else if fitsB d 20 then low 14 4 ++ low (lowN d 20) 20 else low 15 4 ++ low (uN d) 64
/-- Does the last window hold a number's bits? -/
def holdsW (wn : Win) (x : Nat) : Bool := match wn with | some (a, b) => decide (a ≤ lead x) && decide (b ≤ trail x) | none => false
/-- A value's form. -/
def vform (wn : Win) (x : Nat) : List Bool × Win :=
  if x = 0 then (low 0 1, wn)
  else if holdsW wn x then match wn with
    | some (a, b) => (low 1 1 ++ low 0 1 ++ low (x / 2 ^ b) (64 - a - b), wn)
    | none => ([], wn)
  else (low 1 1 ++ low 1 1 ++ low (lead x) 5 ++ low ((64 - lead x - trail x) % 64) 6 ++ low (x / 2 ^ trail x) (64 - lead x - trail x), some (lead x, trail x))
def byteBits (l : List UInt8) : List Bool := l.flatMap fun c => low c.toNat 8
/-- What a sample adds behind others. -/
def emit (l : List Smp) (wn : Win) (s : Smp) : List Bool × Win :=
  match l.reverse with
  | [] => (byteBits (putU (zz s.1)) ++ low s.2 64, wn)
  | [a] => (byteBits (putU (uN (s.1 - a.1))) ++ (vform wn (s.2 ^^^ a.2)).1, (vform wn (s.2 ^^^ a.2)).2)
  | b :: a :: _ => (tform (s.1 - b.1 - (b.1 - a.1)) ++ (vform wn (s.2 ^^^ b.2)).1, (vform wn (s.2 ^^^ b.2)).2)
def go : List Smp → List Bool → Win → List Smp → List Bool × Win
  | _, bs, wn, [] => (bs, wn)
  | pre, bs, wn, s :: r => go (pre ++ [s]) (bs ++ (emit pre wn s).1) (emit pre wn s).2 r
def run (l : List Smp) : List Bool × Win := go [] [] none l
theorem go_app : ∀ (x y pre : List Smp) (bs : List Bool) (wn : Win), go pre bs wn (x ++ y) = go (pre ++ x) (go pre bs wn x).1 (go pre bs wn x).2 y
  | [], y, pre, bs, wn => by simp [go]
  | s :: x, y, pre, bs, wn => by
    simp only [List.cons_append, go]
    rw [go_app x y]; simp
theorem run_snoc (l : List Smp) (s : Smp) : run (l ++ [s]) = ((run l).1 ++ (emit l (run l).2 s).1, (emit l (run l).2 s).2) := by
  unfold run
  rw [go_app]
  simp [go]
/-- The bytes of samples. -/
def enc (l : List Smp) : List UInt8 := UInt8.ofNat (l.length / 256) :: UInt8.ofNat (l.length % 256) :: pk (run l).1

/-! ## Which samples can be -/
/-- Not behind the last one. -/
def late (l : List Smp) (t : Int) : Bool := match l.getLast? with | some a => decide (t ≤ a.1) | none => false
/-- What Append answers. -/
def wrong (l : List Smp) (t : Int) : Int :=
  if t < 0 ∨ t > 1125899906842624 then 1 else if late l t then 90 else if l.length ≥ 120 then 8 else 0
inductive Valid : List Smp → Prop
  | nil : Valid []
  | snoc {l : List Smp} {s : Smp} : Valid l → wrong l s.1 = 0 → s.2 < 18446744073709551616 → Valid (l ++ [s])
theorem wrong_zero {l : List Smp} {t : Int} (h : wrong l t = 0) : 0 ≤ t ∧ t ≤ 1125899906842624 ∧ l.length < 120 ∧ ∀ a, l.getLast? = some a → a.1 < t := by
  unfold wrong at h
  by_cases h1 : t < 0 ∨ t > 1125899906842624
  · rw [if_pos h1] at h; exact absurd h (by decide)
  rw [if_neg h1] at h
  by_cases h2 : late l t = true
  · rw [if_pos h2] at h; exact absurd h (by decide)
  rw [if_neg h2] at h
  by_cases h3 : l.length ≥ 120
  · rw [if_pos h3] at h; exact absurd h (by decide)
  refine ⟨by omega, by omega, by omega, fun a ha => ?_⟩
  unfold late at h2
  rw [ha] at h2
  simp only [decide_eq_true_eq] at h2
  omega
theorem Valid.len {l : List Smp} (h : Valid l) : l.length ≤ 120 := by
  cases h with
  | nil => decide
  | snoc h1 h2 _ => have := wrong_zero h2; simp; omega
theorem Valid.mem {l : List Smp} (h : Valid l) : ∀ s ∈ l, 0 ≤ s.1 ∧ s.1 ≤ 1125899906842624 ∧ s.2 < 18446744073709551616 := by
  induction h with
  | nil => intro s hs; cases hs
  | snoc h1 h2 h3 ih =>
    intro s hs
    rcases List.mem_append.1 hs with hs | hs
    · exact ih s hs
    · simp only [List.mem_singleton] at hs
      subst hs
      have := wrong_zero h2
      exact ⟨this.1, this.2.1, h3⟩

/-! ## How long -/
theorem byteBits_len (l : List UInt8) : (byteBits l).length = 8 * l.length := by
  induction l with
  | nil => rfl
  | cons c l ih => simp only [byteBits, List.flatMap_cons, List.length_append, low_len, List.length_cons] at *; omega
theorem tform_len (d : Int) : (tform d).length ≤ 68 := by
  unfold tform
  split
  · simp [low_len]
  · split
    · simp [low_len]
    · split
      · simp [low_len]
      · split <;> simp [low_len]
theorem vform_len (wn : Win) (x : Nat) : (vform wn x).1.length ≤ 77 := by
  unfold vform
  split
  · simp [low_len]
  · split
    · split
      · simp [low_len]; omega
      · simp
    · simp [low_len]; omega
theorem zz_lt50 {n : Int} (h0 : 0 ≤ n) (h1 : n ≤ 1125899906842624) : zz n < 18446744073709551616 := by unfold zz; rw [if_pos h0]; omega
theorem emit_len {l : List Smp} {wn : Win} {s : Smp} (h0 : 0 ≤ s.1) (h1 : s.1 ≤ 1125899906842624) : (emit l wn s).1.length ≤ 160 := by
  unfold emit
  split
  · have := putU_len64 (zz_lt50 h0 h1)
    simp only [List.length_append, byteBits_len, low_len]; omega
  · rename_i a _
    have := putU_len64 (uN_lt (s.1 - a.1))
    have := vform_len wn (s.2 ^^^ a.2)
    simp only [List.length_append, byteBits_len]; omega
  · rename_i b a r _
    have := tform_len (s.1 - b.1 - (b.1 - a.1))
    have := vform_len wn (s.2 ^^^ b.2)
    simp only [List.length_append]; omega
theorem run_len {l : List Smp} (h : Valid l) : (run l).1.length ≤ 160 * l.length := by
  induction h with
  | nil => simp [run, go]
  | snoc h1 h2 _ ih =>
    rename_i l s _
    have := wrong_zero h2
    rw [run_snoc]
    have := emit_len (l := l) (wn := (run l).2) this.1 this.2.1
    simp only [List.length_append, List.length_singleton]; omega

/-! ## Windows -/
/-- A window that was written. -/
def WinOk (wn : Win) : Prop := ∀ a b, wn = some (a, b) → a ≤ 31 ∧ a + b ≤ 63
theorem vform_ok {wn : Win} {x : Nat} (h : WinOk wn) (hx : x < 18446744073709551616) : WinOk (vform wn x).2 := by
  unfold vform
  split
  · exact h
  · rename_i h0
    split
    · split
      · exact h
      · exact h
    · intro a b e
      simp only [Option.some.injEq, Prod.mk.injEq] at e
      obtain ⟨rfl, rfl⟩ := e
      exact ⟨lead_le x, lead_trail hx h0⟩
theorem xor64_lt {a b : Nat} (ha : a < 18446744073709551616) (hb : b < 18446744073709551616) : a ^^^ b < 18446744073709551616 := Nat.xor_lt_two_pow (n := 64) ha hb
theorem emit_ok {l : List Smp} {wn : Win} {s : Smp} (h : WinOk wn) (hs : s.2 < 18446744073709551616) (hl : ∀ a ∈ l, a.2 < 18446744073709551616) : WinOk (emit l wn s).2 := by
  unfold emit
  split
  · exact h
  · rename_i a e
    have : a ∈ l := by have : a ∈ l.reverse := by rw [e]; simp
                       simpa using this
    exact vform_ok h (xor64_lt hs (hl a this))
  · rename_i b a r e
    have : b ∈ l := by have : b ∈ l.reverse := by rw [e]; simp
                       simpa using this
    exact vform_ok h (xor64_lt hs (hl b this))
theorem run_ok {l : List Smp} (h : Valid l) : WinOk (run l).2 := by
  induction h with
  | nil => intro a b e; cases e
  | snoc h1 h2 h3 ih => rw [run_snoc]; exact emit_ok ih h3 fun a ha => (h1.mem a ha).2.2

/-! ## Samples in memory -/
def smpC (s : Smp) : List Value := [.int .i64 s.1, .float .f64 s.2]
def smps (l : List Smp) : List Value := l.flatMap smpC
theorem smps_app (a b : List Smp) : smps (a ++ b) = smps a ++ smps b := List.flatMap_append
theorem smps_len (l : List Smp) : (smps l).length = l.length * 2 := by
  induction l with
  | nil => rfl
  | cons s l ih => simp only [smps, List.flatMap_cons, List.length_append, List.length_cons] at *; simp [smpC] at *; omega
theorem smps_at : ∀ (l : List Smp) (i : Nat) (s : Smp), l[i]? = some s → (smps l)[i * 2 + 0]? = some (.int .i64 s.1) ∧ (smps l)[i * 2 + 1]? = some (.float .f64 s.2)
  | [], i, s, h => by simp at h
  | x :: l, 0, s, h => by
    simp only [List.getElem?_cons_zero, Option.some.injEq] at h
    subst h
    exact ⟨rfl, rfl⟩
  | x :: l, i + 1, s, h => by
    have ih := smps_at l i s (by simpa using h)
    have e : smps (x :: l) = .int .i64 x.1 :: .float .f64 x.2 :: smps l := rfl
    rw [e, show (i + 1) * 2 + 0 = (i * 2 + 0) + 1 + 1 by omega, show (i + 1) * 2 + 1 = (i * 2 + 1) + 1 + 1 by omega]
    simpa using ih
theorem smps_one {l : List Smp} : ∀ v ∈ smps l, v.oneCell' = true := by
  intro v hv
  obtain ⟨s, _, hs⟩ := List.mem_flatMap.1 hv
  simp only [smpC, List.mem_cons, List.not_mem_nil, or_false] at hs
  rcases hs with rfl | rfl <;> rfl
theorem smps_inj : ∀ {a b : List Smp}, smps a = smps b → a = b
  | [], [], _ => rfl
  | [], y :: b, h => by simp [smps, smpC] at h
  | x :: a, [], h => by simp [smps, smpC] at h
  | x :: a, y :: b, h => by
    simp only [smps, smpC, List.flatMap_cons, List.cons_append, List.nil_append, List.cons.injEq, Value.int.injEq, Value.float.injEq, true_and] at h
    obtain ⟨h1, h2, h3⟩ := h
    rw [Prod.ext h1 h2, smps_inj h3]
end Go.Proofs.YtpadehbcjkhegaaDoor.Chunk
