/- Layer 1: torn frames. Own work. -/
import Derived.Test.YtpgpdeojggcibaaDoorVintBk
import Derived.Test.YtpgpdeojggcibaaDoorInts
namespace Go.Proofs.YtpgpdeojggcibaaDoor.Vint
open Go Vm Go.RowKit Num Mem Crc

/-! ## The sum tells one bit -/
theorem step1_inj {a b : B32} (h : step1 a = step1 b) : a = b := by
  have top : ∀ r : B32, (step1 r).getLsbD 31 = r.getLsbD 0 := by
    intro r
    unfold step1
    rw [BitVec.getLsbD_xor, BitVec.getLsbD_ushiftRight]
    cases r.getLsbD 0
    · simp
    · simp [poly]
  have h0 : a.getLsbD 0 = b.getLsbD 0 := by rw [← top a, ← top b, h]
  unfold step1 at h
  rw [h0] at h
  have h1 : a >>> 1 = b >>> 1 := by
    have := congrArg (· ^^^ (if b.getLsbD 0 = true then poly else 0#32)) h
    simpa [BitVec.xor_assoc] using this
  apply BitVec.eq_of_getLsbD_eq
  intro i hi
  rcases Nat.eq_zero_or_pos i with e | e
  · subst e; exact h0
  · have := congrArg (·.getLsbD (i - 1)) h1
    simp only [BitVec.getLsbD_ushiftRight] at this
    rwa [show 1 + (i - 1) = i by omega] at this
theorem steps_inj : ∀ (n : Nat) {a b : B32}, steps n a = steps n b → a = b
  | 0, _, _, h => h
  | n + 1, _, _, h => step1_inj (steps_inj n h)
theorem crcB_inj {a b : B32} {c : UInt8} (h : crcB a c = crcB b c) : a = b := by
  have := steps_inj 8 h
  have := congrArg (· ^^^ BitVec.ofNat 32 c.toNat) this
  simpa [BitVec.xor_assoc] using this
theorem crcB_ne {a : B32} {c c' : UInt8} (h : crcB a c = crcB a c') : c = c' := by
  have h1 := steps_inj 8 h
  have h2 := congrArg (a ^^^ ·) h1
  simp only [← BitVec.xor_assoc, BitVec.xor_self, BitVec.zero_xor] at h2
  have h3 := congrArg BitVec.toNat h2
  have := c.toNat_lt
  have := c'.toNat_lt
  rw [BitVec.toNat_ofNat, BitVec.toNat_ofNat, Nat.mod_eq_of_lt (by omega), Nat.mod_eq_of_lt (by omega)] at h3
  exact UInt8.toNat_inj.1 h3
theorem crc_inj : ∀ (l : List UInt8) {a b : B32}, crc a l = crc b l → a = b
  | [], _, _, h => h
  | c :: l, _, _, h => crcB_inj (crc_inj l h)
theorem crc_set : ∀ (l : List UInt8) (r : B32) (k : Nat) (c : UInt8) (hk : k < l.length), crc r (l.set k c) = crc r l → l[k] = c
  | x :: l, r, 0, c, _, h => by
    have := crc_inj l (a := crcB r c) (b := crcB r x) h
    exact (crcB_ne this).symm
  | x :: l, r, k + 1, c, hk, h => crc_set l (crcB r x) k c (by simpa using hk) h
theorem crcOn_set {l : List UInt8} {k : Nat} {c : UInt8} (hk : k < l.length) (h : crcOn 0#32 (l.set k c) = crcOn 0#32 l) : l[k] = c := by
  refine crc_set l (~~~0#32) k c hk ?_
  have := congrArg (~~~ ·) h
  simpa only [crcOn, BitVec.not_not] using this

/-! ## Torn -/
theorem uvGo_torn (p : Nat) : ∀ (n i acc j : Nat), n * 128 ^ i < 18446744073709551616 → i ≤ 9 → j < (putU n).length → uvGo p ((putU n).take j) i acc = (0, 0, 9) := by
  intro n
  induction n using Nat.strongRecOn with
  | _ n ih =>
    intro i acc j hn hi hj
    by_cases h : n < 128
    · rw [putU_lt h] at hj ⊢
      have : j = 0 := by simpa using hj
      subst this
      simp [uvGo]
    · rw [putU_ge h] at hj ⊢
      cases j with
      | zero => simp [uvGo]
      | succ j =>
        rw [List.take_succ_cons, uvGo]
        have e : (UInt8.ofNat (n % 128 + 128)).toNat = n % 128 + 128 := by rw [UInt8.toNat_ofNat', Nat.mod_eq_of_lt (by omega)]
        have hi9 := pow_big hn (by omega)
        rw [e, if_neg (by omega), if_neg (by omega), if_neg (by omega)]
        have hp : n / 128 * 128 ^ (i + 1) ≤ n * 128 ^ i := by
          rw [Nat.pow_succ, Nat.mul_comm (128 ^ i), ← Nat.mul_assoc]
          exact Nat.mul_le_mul_right _ (by omega)
        exact ih (n / 128) (by omega) (i + 1) _ j (by omega) (by omega) (by simp only [List.length_cons] at hj; omega)
theorem fr_torn (P m : List UInt8) {j : Nat} (hm : m.length ≤ 65536) (hj : j < (frameOf m).length) : fr (P ++ (frameOf m).take j) (P.length : Int) = ([], 0, 9) := by
  have h4 : (le4 (crcOn 0#32 m)).length = 4 := rfl
  rcases Nat.lt_or_ge j (putU m.length).length with h | h
  · have : uv (P ++ (frameOf m).take j) (P.length : Int) = (0, 0, 9) := by
      unfold uv
      rw [if_neg (by simp; omega), Int.toNat_natCast, List.drop_left]
      unfold frameOf
      rw [List.take_append_of_le_length (by omega)]
      exact uvGo_torn _ _ _ _ _ (by omega) (by omega) h
    unfold fr
    rw [this]
    simp
  · have e : (frameOf m).take j = putU m.length ++ (le4 (crcOn 0#32 m) ++ m).take (j - (putU m.length).length) := by
      unfold frameOf
      rw [List.take_append, List.take_of_length_le h]
    have := uv_put P ((le4 (crcOn 0#32 m) ++ m).take (j - (putU m.length).length)) (n := m.length) (by omega)
    rw [← e] at this
    unfold fr
    rw [this]
    simp only [ne_eq, not_true_eq_false, if_false]
    rw [if_neg (by omega), if_pos ?_]
    simp only [frameOf, List.length_append, h4] at hj
    simp only [List.length_append, List.length_take, frameOf, h4]
    omega

def flat (fs : List (List UInt8)) : List UInt8 := fs.flatMap frameOf
theorem flat_app (a b : List (List UInt8)) : flat (a ++ b) = flat a ++ flat b := List.flatMap_append
theorem frameOf_pos (m : List UInt8) : 0 < (frameOf m).length := by
  have := putU_pos m.length
  simp only [frameOf, List.length_append]; omega
theorem frs_flat : ∀ (fs : List (List UInt8)) (P t : List UInt8) (d : Nat), (∀ m ∈ fs, m.length ≤ 65536) → (t = [] ∨ ∃ m j, t = (frameOf m).take j ∧ j < (frameOf m).length ∧ m.length ≤ 65536) →
    (P ++ (flat fs ++ t)).length ≤ P.length + d → frs (P ++ (flat fs ++ t)) d P.length = (fs, P.length + (flat fs).length, if t = [] then 0 else 9)
  | [], P, t, d, _, ht, hd => by
    simp only [flat, List.flatMap_nil, List.nil_append, List.length_nil, Nat.add_zero] at hd ⊢
    by_cases h : t = []
    · subst h
      cases d <;> simp [frs]
    · have hpos : 0 < t.length := List.length_pos_iff.2 h
      rcases ht with ht | ⟨m, j, rfl, hj, hm⟩
      · exact absurd ht h
      cases d with
      | zero => simp only [List.length_append] at hd; omega
      | succ d =>
        rw [frs, if_pos (by simp only [List.length_append]; omega), fr_torn P m hm hj]
        simp [h]
  | m :: fs, P, t, d, hfs, ht, hd => by
    have hm := hfs m (List.mem_cons_self ..)
    have hp := frameOf_pos m
    have e : flat (m :: fs) = frameOf m ++ flat fs := List.flatMap_cons
    rw [e] at hd ⊢
    cases d with
    | zero => simp only [List.length_append] at hd; omega
    | succ d =>
      rw [frs, if_pos (by simp only [List.length_append]; omega)]
      have e1 : P ++ (frameOf m ++ flat fs ++ t) = P ++ (putU m.length ++ (le4 (crcOn 0#32 m) ++ (m ++ (flat fs ++ t)))) := by simp [frameOf]
      have h1 : fr (P ++ (frameOf m ++ flat fs ++ t)) (P.length : Int) = (m, P.length + (frameOf m).length, 0) := by
        rw [e1, fr_at P m _ _ hm, if_pos rfl]
        have h4 : (le4 (crcOn 0#32 m)).length = 4 := rfl
        simp only [frameOf, List.length_append, h4]
        refine Prod.ext rfl (Prod.ext ?_ rfl)
        simp only; omega
      rw [h1]
      simp only [ne_eq, not_true_eq_false, if_false]
      have e2 : P ++ (frameOf m ++ flat fs ++ t) = (P ++ frameOf m) ++ (flat fs ++ t) := by simp
      have ih := frs_flat fs (P ++ frameOf m) t d (fun x hx => hfs x (List.mem_cons_of_mem _ hx)) ht (by rw [← e2]; simp only [List.length_append] at hd ⊢; omega)
      rw [← e2, List.length_append] at ih
      rw [ih]
      refine Prod.ext rfl (Prod.ext ?_ rfl)
      simp only [List.length_append]; omega

/-- Where the first i frames end. -/
def endAt (fs : List (List UInt8)) (i : Nat) : Nat := (flat (fs.take i)).length
theorem endAt_succ {fs : List (List UInt8)} {i : Nat} (h : i < fs.length) : flat (fs.take (i + 1)) = flat (fs.take i) ++ frameOf fs[i] := by
  rw [List.take_succ_eq_append_getElem h, flat_app]
  simp [flat]
theorem torn_take (fs : List (List UInt8)) {n k : Nat} (hf : ∀ m ∈ fs, m.length ≤ 65536) (hk : k ≤ fs.length) (h1 : endAt fs k ≤ n) (h2 : k = fs.length ∨ n < endAt fs (k + 1)) (hn : n ≤ (flat fs).length) :
    ∃ t, (flat fs).take n = flat (fs.take k) ++ t ∧ (t = [] ∨ ∃ m j, t = (frameOf m).take j ∧ j < (frameOf m).length ∧ m.length ≤ 65536) ∧ t.length = n - endAt fs k := by
  have e : flat fs = flat (fs.take k) ++ flat (fs.drop k) := by rw [← flat_app, List.take_append_drop]
  refine ⟨(flat (fs.drop k)).take (n - endAt fs k), ?_, ?_, ?_⟩
  · rw [e, List.take_append, List.take_of_length_le h1]; rfl
  · rcases Nat.lt_or_ge k fs.length with h | h
    · rw [List.drop_eq_getElem_cons h]
      have e' : flat (fs[k] :: fs.drop (k + 1)) = frameOf fs[k] ++ flat (fs.drop (k + 1)) := List.flatMap_cons
      have hlt : n - endAt fs k < (frameOf fs[k]).length := by
        rcases h2 with h2 | h2
        · omega
        · unfold endAt at h2 h1 ⊢
          rw [endAt_succ h, List.length_append] at h2
          omega
      rw [e', List.take_append_of_le_length (by omega)]
      exact .inr ⟨fs[k], _, rfl, hlt, hf _ (List.getElem_mem h)⟩
    · rw [List.drop_of_length_le h]; left; simp [flat]
  · rw [List.length_take]
    have := congrArg List.length e
    rw [List.length_append] at this
    unfold endAt at h1 ⊢
    omega
end Go.Proofs.YtpgpdeojggcibaaDoor.Vint
