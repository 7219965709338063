/- Layer 1's uvarints, as other layers read them. Own work. -/
import Derived.Test.YtpadehbcjkhegaaDoorVintZ
namespace Go.Proofs.YtpadehbcjkhegaaDoor.Vint
open Go Vm Go.RowKit Num Mem

def uvGo (at0 : Nat) : List UInt8 → Nat → Nat → Nat × Nat × Nat
  | [], _, _ => (0, 0, 9)
  | c :: t, i, n =>
    if i = 9 ∧ 1 < c.toNat then (0, 0, 7) else
    if c.toNat = 0 ∧ 0 < i then (0, 0, 3) else
    if c.toNat < 128 then (n + c.toNat % 128 * 128 ^ i, at0 + i + 1, 0) else uvGo at0 t (i + 1) (n + c.toNat % 128 * 128 ^ i)
def uv (l : List UInt8) (at' : Int) : Nat × Nat × Nat :=
  if at' < 0 ∨ at' > l.length then (0, 0, 1) else uvGo at'.toNat (l.drop at'.toNat) 0 0

theorem orStep {n x i : Nat} {X Y : Int} (hi : i ≤ 9) (hn : n < 128 ^ i) (hx : x < 128) (h9 : i = 9 → x ≤ 1) (hX : X = (x : Int)) (hY : Y = ((7 * i : Nat) : Int)) :
    Go.bits .or .u64 (n : Int) (shl .u64 X Y) = ((n + x * 128 ^ i : Nat) : Int) ∧ n + x * 128 ^ i < 128 ^ (i + 1) ∧ n + x * 128 ^ i < 18446744073709551616 := by
  subst hX hY
  have e : (128 : Nat) ^ i = 2 ^ (7 * i) := by rw [Nat.pow_mul]
  have hb : n + x * 128 ^ i < 128 ^ (i + 1) := by
    rw [Nat.pow_succ, Nat.mul_comm (128 ^ i)]
    have : (x + 1) * 128 ^ i ≤ 128 * 128 ^ i := Nat.mul_le_mul_right _ hx
    rw [Nat.add_mul] at this; omega
  have hlt : n + x * 128 ^ i < 18446744073709551616 := by
    rcases Nat.lt_or_ge i 9 with h | h
    · have : (128 : Nat) ^ (i + 1) ≤ 128 ^ 9 := Nat.pow_le_pow_right (by decide) (by omega)
      have h9 : (128 : Nat) ^ 9 < 18446744073709551616 := by decide +kernel
      generalize (128 : Nat) ^ 9 = q at *
      omega
    · have : i = 9 := by omega
      subst this
      have hx1 := h9 rfl
      have h1 : x * 128 ^ 9 ≤ 1 * 128 ^ 9 := Nat.mul_le_mul_right _ hx1
      have h2 : (128 : Nat) ^ 9 = 9223372036854775808 := by decide +kernel
      rw [h2] at *
      omega
  refine ⟨?_, hb, hlt⟩
  have hs := shl_nat .u64 (x : Int) (7 * i) (by simp [IntKind.bits]; omega)
  rw [hs, show (x : Int) * 2 ^ (7 * i) = ((x * 128 ^ i : Nat) : Int) by rw [e]; simp, wU64_id (by omega) (by omega),
    bits_or rfl (by simp only [IntKind.bits]; omega) (by simp only [IntKind.bits]; omega)]
  congr 1
  rw [e, Nat.mul_comm x, Nat.or_comm, Nat.add_comm]
  exact (Nat.two_pow_add_eq_or_of_lt (by rw [← e]; exact hn) x).symm

theorem mod128 (c : UInt8) : IntKind.u64.wrap (Int.tmod (c.toNat : Int) (128 : Int)) = ((c.toNat % 128 : Nat) : Int) := by
  have hc := c.toNat_lt
  rw [show Int.tmod (c.toNat : Int) (128 : Int) = ((c.toNat % 128 : Nat) : Int) from rfl, wU64_id (by omega) (by omega)]

theorem uHead {c i : Int} {E T : Prop} (hE : i = 9 → c > 1 → E) (hT : ¬ (i = 9 ∧ c > 1) → T) : G.cond (i == 9) (G.cond (decide (c > 1)) E T) T :=
  cond_eq (fun h => cond_d (hE h) (fun h' => hT fun x => h' x.2)) (fun h => hT fun x => h x.1)

set_option maxRecDepth 4000 in
theorem ru_ok {w : World} {b : Sl} {l : List UInt8} (hb : RdB w b l) (hl : l.length ≤ 140737488355328) (at' : Int) {K : Int → Int → Int → World → Prop}
    (hK : K ((uv l at').1 : Int) ((uv l at').2.1 : Int) ((uv l at').2.2 : Int) w) : C.tocsinref01_U b at' w K := by
  have hn := hb.len
  unfold C.tocsinref01_U
  unfold uv at hK
  refine cond_d (fun h => ?_) (fun h0 => cond_d (fun h => ?_) (fun h1 => ?_))
  · rw [if_pos (.inl h)] at hK; exact hK
  · rw [if_pos (.inr (by omega))] at hK; exact hK
  rw [if_neg (by omega)] at hK
  obtain ⟨p, rfl⟩ : ∃ p : Nat, at' = (p : Int) := ⟨at'.toNat, by omega⟩
  rw [Int.toNat_natCast] at hK
  unfold C.tocsinref01_U.S9
  refine C.tocsinref01_U.L5_ind fun X hX => ?_
  have key : ∀ (t : List UInt8) (i n : Nat), t = l.drop (p + i) → p + i ≤ l.length → i ≤ 9 → n < 128 ^ i →
      K ((uvGo p t i n).1 : Int) ((uvGo p t i n).2.1 : Int) ((uvGo p t i n).2.2 : Int) w → X b (p : Int) (n : Int) (i : Int) w := by
    intro t
    induction t with
    | nil =>
      intro i n ht hp hi hn1 hK
      have : l.length ≤ p + i := by
        rcases Nat.lt_or_ge (p + i) l.length with h | h
        · rw [List.drop_eq_getElem_cons h] at ht; cases ht
        · exact h
      refine hX _ _ _ _ _ ?_
      unfold C.tocsinref01_U.S7
      rw [wI64 (x := ((b.n : Nat) : Int) - (p : Int)) (by omega) (by omega)]
      exact cond_d (fun _ => cond_d (fun _ => hK) (fun h => by omega)) (fun h => by omega)
    | cons c t ih =>
      intro i n ht hp hi hn1 hK
      have hlt : p + i < l.length := by
        rcases Nat.lt_or_ge (p + i) l.length with h | h
        · exact h
        · rw [List.drop_of_length_le h] at ht; cases ht
      rw [List.drop_eq_getElem_cons hlt] at ht
      injection ht with hc ht
      refine hX _ _ _ _ _ ?_
      unfold C.tocsinref01_U.S7
      rw [wI64 (x := ((b.n : Nat) : Int) - (p : Int)) (by omega) (by omega), wI64 (x := (p : Int) + (i : Int)) (by omega) (by omega)]
      refine cond_d (fun _ => cond_d (fun h => by omega) (fun _ => ?_)) (fun h => by omega)
      refine hb.ati (k := p + i) (by omega) hlt ?_
      rw [← hc]
      rw [uvGo] at hK
      refine uHead (fun h h' => ?_) (fun hne => ?_)
      · rw [if_pos (by omega)] at hK; exact hK
      rw [if_neg (by omega)] at hK
      rw [wI64 (x := (7 : Int) * (i : Int)) (by omega) (by omega), wU64_id (x := (7 : Int) * (i : Int)) (by omega) (by omega)]
      refine ⟨by decide, by omega, ?_⟩
      have eq := orStep (x := c.toNat % 128) hi hn1 (Nat.mod_lt _ (by decide)) (fun h => by omega) (mod128 c) (Y := (7 : Int) * (i : Int)) (by omega)
      have e := eq.1
      have q1 := eq.2.1
      rw [e]
      refine cond_d (fun h => ?_) (fun h => ?_)
      · refine cond_eq (fun h0 => cond_d (fun hi0 => ?_) (fun hi0 => ?_)) (fun h0 => ?_)
        · rw [if_pos (by omega)] at hK; exact hK
        · rw [if_neg (by omega), if_pos (by omega)] at hK
          rw [wI64 (by omega) (by omega)]
          exact hK
        · rw [if_neg (by omega), if_pos (by omega)] at hK
          rw [wI64 (by omega) (by omega)]
          exact hK
      · rw [if_neg (by omega), if_neg (by omega)] at hK
        rw [wI64 (x := (i : Int) + 1) (by omega) (by omega)]
        refine ih (i + 1) _ (by rw [ht]; congr 1) (by omega) ?_ q1 hK
        rcases Nat.lt_or_ge i 9 with h9 | h9
        · omega
        · have := c.toNat_lt; omega
  exact key _ 0 0 (by simp) (by omega) (by omega) (by decide) hK

theorem pow_big {n i : Nat} (h : n * 128 ^ i < 18446744073709551616) (hn : 2 ≤ n) : i < 9 := by
  rcases Nat.lt_or_ge i 9 with h' | h'
  · exact h'
  · have h1 : (128 : Nat) ^ 9 ≤ 128 ^ i := Nat.pow_le_pow_right (by decide) h'
    have h2 : 2 * 128 ^ 9 ≤ n * 128 ^ i := Nat.mul_le_mul hn h1
    have h3 : (18446744073709551616 : Nat) = 2 * 128 ^ 9 := by decide +kernel
    omega
theorem uvGo_put (p : Nat) (rest : List UInt8) : ∀ (n i acc : Nat), n * 128 ^ i < 18446744073709551616 → i ≤ 9 → (n = 0 → i = 0) → uvGo p (putU n ++ rest) i acc = (acc + n * 128 ^ i, p + i + (putU n).length, 0) := by
  intro n
  induction n using Nat.strongRecOn with
  | _ n ih =>
    intro i acc hn hi hz
    by_cases h : n < 128
    · rw [putU_lt h, List.singleton_append, uvGo]
      have e : (UInt8.ofNat n).toNat = n := by rw [UInt8.toNat_ofNat', Nat.mod_eq_of_lt (by omega)]
      rw [e, if_neg (fun x => by have := pow_big hn (by omega); omega), if_neg (fun x => by have := hz x.1; omega), if_pos h, Nat.mod_eq_of_lt h]
      simp
    · rw [putU_ge h, List.cons_append, uvGo]
      have e : (UInt8.ofNat (n % 128 + 128)).toNat = n % 128 + 128 := by rw [UInt8.toNat_ofNat', Nat.mod_eq_of_lt (by omega)]
      have hi9 := pow_big hn (by omega)
      rw [e, if_neg (by omega), if_neg (by omega), if_neg (by omega), show (n % 128 + 128) % 128 = n % 128 by omega]
      have hp : n / 128 * 128 ^ (i + 1) ≤ n * 128 ^ i := by
        rw [Nat.pow_succ, Nat.mul_comm (128 ^ i), ← Nat.mul_assoc]
        exact Nat.mul_le_mul_right _ (by omega)
      rw [ih (n / 128) (by omega) (i + 1) _ (by omega) (by omega) (fun x => by omega)]
      have ev : n % 128 * 128 ^ i + n / 128 * 128 ^ (i + 1) = n * 128 ^ i := by
        rw [Nat.pow_succ, Nat.mul_comm (128 ^ i), ← Nat.mul_assoc, ← Nat.add_mul]
        congr 1
        omega
      refine Prod.ext ?_ (Prod.ext ?_ rfl)
      · simp only; omega
      · simp only [List.length_cons]; omega
theorem uv_put (l rest : List UInt8) {n : Nat} (hn : n < 18446744073709551616) : uv (l ++ (putU n ++ rest)) (l.length : Int) = (n, l.length + (putU n).length, 0) := by
  unfold uv
  rw [if_neg (by simp; omega), Int.toNat_natCast, List.drop_left, uvGo_put _ _ _ _ _ (by omega) (by omega) (fun _ => rfl)]
  simp
theorem uvGo_lt (p : Nat) : ∀ (l : List UInt8) (i n : Nat), i ≤ 9 → n < 128 ^ i → (uvGo p l i n).1 < 18446744073709551616
  | [], _, _, _, _ => by simp [uvGo]
  | c :: t, i, n, hi, hn => by
    rw [uvGo]
    split
    · simp
    split
    · simp
    have hc := c.toNat_lt
    obtain ⟨_, q1, q2⟩ := orStep (x := c.toNat % 128) (X := ((c.toNat % 128 : Nat) : Int)) (Y := ((7 * i : Nat) : Int)) hi hn (Nat.mod_lt _ (by decide)) (fun h => by omega) rfl rfl
    split
    · exact q2
    · refine uvGo_lt p t (i + 1) _ ?_ q1
      rcases Nat.lt_or_ge i 9 with h9 | h9 <;> omega
theorem uv_lt (l : List UInt8) (p : Int) : (uv l p).1 < 18446744073709551616 := by
  unfold uv; split
  · simp
  · exact uvGo_lt _ _ _ _ (by omega) (by decide)
end Go.Proofs.YtpadehbcjkhegaaDoor.Vint
