/- (of elder texts) Frames one after another, and torn ones: plain. Own work. -/
import Derived.Test.YtdaghggdmgbpnaaDoorVoR
namespace Go.Proofs.YtdaghggdmgbpnaaDoor.Vint
open Go Vm Go.RowKit Num Mem Crc
theorem putU_pos (n : Nat) : 0 < (putU n).length := by rw [putU]; split <;> simp
theorem p128_10 : (18446744073709551616 : Nat) ≤ 128 ^ 10 := by decide +kernel
theorem pow_big {n i : Nat} (h : n * 128 ^ i < 18446744073709551616) (hn : 2 ≤ n) : i < 9 := by
  rcases Nat.lt_or_ge i 9 with h' | h'
  · exact h'
  · have h1 : (128 : Nat) ^ 9 ≤ 128 ^ i := Nat.pow_le_pow_right (by decide) h'
    have h2 : 2 * 128 ^ 9 ≤ n * 128 ^ i := Nat.mul_le_mul hn h1
    have h3 : (18446744073709551616 : Nat) = 2 * 128 ^ 9 := by decide +kernel
    omega
theorem uvGo_put (p : Nat) (rest : List UInt8) : ∀ (n i acc : Nat), n * 128 ^ i < 18446744073709551616 → i ≤ 9 → (n = 0 → i = 0) → uvGo p (putU n ++ rest) i acc = (acc + n * 128 ^ i, p + i + (putU n).length, 0) := by
  intro n
  induction n using Nat.strongRecOn with
  | _ n ih =>
    intro i acc hn hi hz
    by_cases h : n < 128
    · rw [putU_lt h, List.singleton_append, uvGo]
      have e : (UInt8.ofNat n).toNat = n := by rw [UInt8.toNat_ofNat', Nat.mod_eq_of_lt (by omega)]
      rw [e, if_neg (fun x => by have := pow_big hn (by omega); omega), if_neg (fun x => by have := hz x.1; omega), if_pos h, Nat.mod_eq_of_lt h]
      simp
    · rw [putU_ge h, List.cons_append, uvGo]
      have e : (UInt8.ofNat (n % 128 + 128)).toNat = n % 128 + 128 := by rw [UInt8.toNat_ofNat', Nat.mod_eq_of_lt (by omega)]
      have hi9 := pow_big hn (by omega)
      rw [e, if_neg (by omega), if_neg (by omega), if_neg (by omega), show (n % 128 + 128) % 128 = n % 128 by omega]
      have hp : n / 128 * 128 ^ (i + 1) ≤ n * 128 ^ i := by
        rw [Nat.pow_succ, Nat.mul_comm (128 ^ i), ← Nat.mul_assoc]
        exact Nat.mul_le_mul_right _ (by omega)
      rw [ih (n / 128) (by omega) (i + 1) _ (by omega) (by omega) (fun x => by omega)]
      have ev : n % 128 * 128 ^ i + n / 128 * 128 ^ (i + 1) = n * 128 ^ i := by
        rw [Nat.pow_succ, Nat.mul_comm (128 ^ i), ← Nat.mul_assoc, ← Nat.add_mul]
        congr 1
        omega
      refine Prod.ext ?_ (Prod.ext ?_ rfl)
      · simp only; omega
      · simp only [List.length_cons]; omega
theorem uv_put (l rest : List UInt8) {n : Nat} (hn : n < 18446744073709551616) : uv (l ++ (putU n ++ rest)) (l.length : Int) = (n, l.length + (putU n).length, 0) := by
  unfold uv
  rw [if_neg (by simp; omega), Int.toNat_natCast, List.drop_left, uvGo_put _ _ _ _ _ (by omega) (by omega) (fun _ => rfl)]
  simp
theorem n4_le4 (s : B32) : n4 (u8 (s.toNat : Int)) (u8 (shr .u32 (s.toNat : Int) (8 : Int))) (u8 (shr .u32 (s.toNat : Int) (16 : Int))) (u8 (shr .u32 (s.toNat : Int) (24 : Int))) = s.toNat := by
  have hs := s.isLt
  have e1 := shr_nat .u32 (s.toNat : Int) 8 (by decide)
  have e2 := shr_nat .u32 (s.toNat : Int) 16 (by decide)
  have e3 := shr_nat .u32 (s.toNat : Int) 24 (by decide)
  rw [show ((8 : Nat) : Int) = (8 : Int) from rfl] at e1
  rw [show ((16 : Nat) : Int) = (16 : Int) from rfl] at e2
  rw [show ((24 : Nat) : Int) = (24 : Int) from rfl] at e3
  have h0 := u8_toNat (s.toNat : Int)
  have h1 := u8_toNat (shr .u32 (s.toNat : Int) (8 : Int))
  have h2 := u8_toNat (shr .u32 (s.toNat : Int) (16 : Int))
  have h3 := u8_toNat (shr .u32 (s.toNat : Int) (24 : Int))
  rw [e1] at h1
  rw [e2] at h2
  rw [e3] at h3
  unfold n4
  rw [e1, e2, e3]
  generalize (u8 (s.toNat : Int)).toNat = b0 at *
  generalize (u8 ((s.toNat : Int) / 2 ^ 8)).toNat = b1 at *
  generalize (u8 ((s.toNat : Int) / 2 ^ 16)).toNat = b2 at *
  generalize (u8 ((s.toNat : Int) / 2 ^ 24)).toNat = b3 at *
  omega
/-- A frame's read: at the place where it lies. -/
theorem fr_at (l m rest : List UInt8) (s : B32) (hm : m.length ≤ 65536) : fr (l ++ (putU m.length ++ (le4 s ++ (m ++ rest)))) (l.length : Int) = if crcOn 0#32 m = s then (m, l.length + (putU m.length).length + 4 + m.length, 0) else ([], 0, 11) := by
  unfold fr
  rw [uv_put l _ (by omega)]
  have h4 : (le4 s).length = 4 := rfl
  simp only [ne_eq, not_true_eq_false, if_false]
  rw [if_neg (by omega), if_neg (by simp only [List.length_append]; omega)]
  have e : l ++ (putU m.length ++ (le4 s ++ (m ++ rest))) = (l ++ putU m.length ++ le4 s) ++ (m ++ rest) := by simp
  have e' : l ++ (putU m.length ++ (le4 s ++ (m ++ rest))) = (l ++ putU m.length) ++ (le4 s ++ (m ++ rest)) := by simp
  have d : ((l ++ (putU m.length ++ (le4 s ++ (m ++ rest)))).drop (l.length + (putU m.length).length + 4)).take m.length = m := by
    rw [e, List.drop_append_of_le_length (by simp only [List.length_append]; omega), List.drop_of_length_le (by simp only [List.length_append]; omega), List.nil_append, List.take_left]
  have g : ∀ k, k < 4 → (l ++ (putU m.length ++ (le4 s ++ (m ++ rest)))).getD (l.length + (putU m.length).length + k) 0 = (le4 s).getD k 0 := fun k hk => by
    rw [e', List.getD_eq_getElem?_getD, List.getD_eq_getElem?_getD, List.getElem?_append_right (by simp only [List.length_append]; omega), List.length_append, show l.length + (putU m.length).length + k - (l.length + (putU m.length).length) = k by omega, List.getElem?_append_left (by omega)]
  have g0 := g 0 (by omega)
  rw [Nat.add_zero] at g0
  rw [d, g0, g 1 (by omega), g 2 (by omega), g 3 (by omega)]
  have := n4_le4 s
  rw [show n4 ((le4 s).getD 0 0) ((le4 s).getD 1 0) ((le4 s).getD 2 0) ((le4 s).getD 3 0) = s.toNat from this]
  by_cases h : crcOn 0#32 m = s
  · rw [if_pos h, if_neg (fun x => x (by rw [h]))]
  · rw [if_neg h, if_pos (fun x => h (BitVec.eq_of_toNat_eq x))]
theorem uvGo_lt (p : Nat) : ∀ (l : List UInt8) (i n : Nat), i ≤ 9 → n < 128 ^ i → (uvGo p l i n).1 < 18446744073709551616
  | [], _, _, _, _ => by simp [uvGo]
  | c :: t, i, n, hi, hn => by
    rw [uvGo]
    split
    · simp
    split
    · simp
    have hc := c.toNat_lt
    obtain ⟨_, q1, q2⟩ := orStep (x := c.toNat % 128) (X := ((c.toNat % 128 : Nat) : Int)) (Y := ((7 * i : Nat) : Int)) hi hn (Nat.mod_lt _ (by decide)) (fun h => by omega) rfl rfl
    split
    · exact q2
    · refine uvGo_lt p t (i + 1) _ ?_ q1
      rcases Nat.lt_or_ge i 9 with h9 | h9 <;> omega
theorem uvGo_bad (p : Nat) : ∀ (l : List UInt8) (i n : Nat), (uvGo p l i n).2.2 ≠ 0 → (uvGo p l i n).1 = 0 ∧ (uvGo p l i n).2.1 = 0
  | [], _, _, _ => by simp [uvGo]
  | c :: t, i, n, h => by
    rw [uvGo] at h ⊢
    split
    · simp
    split
    · simp
    split
    · rw [if_neg ‹_›, if_neg ‹_›, if_pos ‹_›] at h; exact absurd rfl h
    · rw [if_neg ‹_›, if_neg ‹_›, if_neg ‹_›] at h; exact uvGo_bad p t _ _ h
theorem uv_lt (l : List UInt8) (p : Int) : (uv l p).1 < 18446744073709551616 := by
  unfold uv; split
  · simp
  · exact uvGo_lt _ _ _ _ (by omega) (by decide)
theorem uv_bad {l : List UInt8} {p : Int} (h : (uv l p).2.2 ≠ 0) : (uv l p).1 = 0 ∧ (uv l p).2.1 = 0 := by
  unfold uv at h ⊢; split
  · simp
  · rw [if_neg ‹_›] at h; exact uvGo_bad _ _ _ _ h
theorem uvGo_torn (p : Nat) : ∀ (n i acc j : Nat), n * 128 ^ i < 18446744073709551616 → i ≤ 9 → j < (putU n).length → uvGo p ((putU n).take j) i acc = (0, 0, 9) := by
  intro n
  induction n using Nat.strongRecOn with
  | _ n ih =>
    intro i acc j hn hi hj
    by_cases h : n < 128
    · rw [putU_lt h] at hj ⊢
      have : j = 0 := by simpa using hj
      subst this
      simp [uvGo]
    · rw [putU_ge h] at hj ⊢
      cases j with
      | zero => simp [uvGo]
      | succ j =>
        rw [List.take_succ_cons, uvGo]
        have e : (UInt8.ofNat (n % 128 + 128)).toNat = n % 128 + 128 := by rw [UInt8.toNat_ofNat', Nat.mod_eq_of_lt (by omega)]
        have hi9 := pow_big hn (by omega)
        rw [e, if_neg (by omega), if_neg (by omega), if_neg (by omega)]
        have hp : n / 128 * 128 ^ (i + 1) ≤ n * 128 ^ i := by
          rw [Nat.pow_succ, Nat.mul_comm (128 ^ i), ← Nat.mul_assoc]
          exact Nat.mul_le_mul_right _ (by omega)
        exact ih (n / 128) (by omega) (i + 1) _ j (by omega) (by omega) (by simp only [List.length_cons] at hj; omega)
theorem fr_torn (P m : List UInt8) {j : Nat} (hm : m.length ≤ 65536) (hj : j < (frameOf m).length) : fr (P ++ (frameOf m).take j) (P.length : Int) = ([], 0, 9) := by
  have h4 : (le4 (crcOn 0#32 m)).length = 4 := rfl
  rcases Nat.lt_or_ge j (putU m.length).length with h | h
  · have : uv (P ++ (frameOf m).take j) (P.length : Int) = (0, 0, 9) := by
      unfold uv
      rw [if_neg (by simp; omega), Int.toNat_natCast, List.drop_left]
      unfold frameOf
      rw [List.take_append_of_le_length (by omega)]
      exact uvGo_torn _ _ _ _ _ (by omega) (by omega) h
    unfold fr
    rw [this]
    simp
  · have e : (frameOf m).take j = putU m.length ++ (le4 (crcOn 0#32 m) ++ m).take (j - (putU m.length).length) := by
      unfold frameOf
      rw [List.take_append, List.take_of_length_le h]
    have := uv_put P ((le4 (crcOn 0#32 m) ++ m).take (j - (putU m.length).length)) (n := m.length) (by omega)
    rw [← e] at this
    unfold fr
    rw [this]
    simp only [ne_eq, not_true_eq_false, if_false]
    rw [if_neg (by omega), if_pos ?_]
    simp only [frameOf, List.length_append, h4] at hj
    simp only [List.length_append, List.length_take, frameOf, h4]
    omega
def flat (fs : List (List UInt8)) : List UInt8 := fs.flatMap frameOf
theorem flat_app (a b : List (List UInt8)) : flat (a ++ b) = flat a ++ flat b := List.flatMap_append
theorem frameOf_pos (m : List UInt8) : 0 < (frameOf m).length := by
  have := putU_pos m.length
  simp only [frameOf, List.length_append]; omega
theorem frs_flat : ∀ (fs : List (List UInt8)) (P t : List UInt8) (d : Nat), (∀ m ∈ fs, m.length ≤ 65536) → (t = [] ∨ ∃ m j, t = (frameOf m).take j ∧ j < (frameOf m).length ∧ m.length ≤ 65536) →
    (P ++ (flat fs ++ t)).length ≤ P.length + d → frs (P ++ (flat fs ++ t)) d P.length = (fs, P.length + (flat fs).length, if t = [] then 0 else 9)
  | [], P, t, d, _, ht, hd => by
    simp only [flat, List.flatMap_nil, List.nil_append, List.length_nil, Nat.add_zero] at hd ⊢
    by_cases h : t = []
    · subst h
      cases d <;> simp [frs]
    · have hpos : 0 < t.length := List.length_pos_iff.2 h
      rcases ht with ht | ⟨m, j, rfl, hj, hm⟩
      · exact absurd ht h
      cases d with
      | zero => simp only [List.length_append] at hd; omega
      | succ d =>
        rw [frs, if_pos (by simp only [List.length_append]; omega), fr_torn P m hm hj]
        simp [h]
  | m :: fs, P, t, d, hfs, ht, hd => by
    have hm := hfs m (List.mem_cons_self ..)
    have hp := frameOf_pos m
    have e : flat (m :: fs) = frameOf m ++ flat fs := List.flatMap_cons
    rw [e] at hd ⊢
    cases d with
    | zero => simp only [List.length_append] at hd; omega
    | succ d =>
      rw [frs, if_pos (by simp only [List.length_append]; omega)]
      have e1 : P ++ (frameOf m ++ flat fs ++ t) = P ++ (putU m.length ++ (le4 (crcOn 0#32 m) ++ (m ++ (flat fs ++ t)))) := by simp [frameOf]
      have h1 : fr (P ++ (frameOf m ++ flat fs ++ t)) (P.length : Int) = (m, P.length + (frameOf m).length, 0) := by
        rw [e1, fr_at P m _ _ hm, if_pos rfl]
        have h4 : (le4 (crcOn 0#32 m)).length = 4 := rfl
        simp only [frameOf, List.length_append, h4]
        refine Prod.ext rfl (Prod.ext ?_ rfl)
        simp only; omega
      rw [h1]
      simp only [ne_eq, not_true_eq_false, if_false]
      have e2 : P ++ (frameOf m ++ flat fs ++ t) = (P ++ frameOf m) ++ (flat fs ++ t) := by simp
      have ih := frs_flat fs (P ++ frameOf m) t d (fun x hx => hfs x (List.mem_cons_of_mem _ hx)) ht (by rw [← e2]; simp only [List.length_append] at hd ⊢; omega)
      rw [← e2, List.length_append] at ih
      rw [ih]
      refine Prod.ext rfl (Prod.ext ?_ rfl)
      simp only [List.length_append]; omega
/-- Where the first i frames end. -/
def endAt (fs : List (List UInt8)) (i : Nat) : Nat := (flat (fs.take i)).length
theorem endAt_succ {fs : List (List UInt8)} {i : Nat} (h : i < fs.length) : flat (fs.take (i + 1)) = flat (fs.take i) ++ frameOf fs[i] := by
  rw [List.take_succ_eq_append_getElem h, flat_app]
  simp [flat]
theorem torn_take (fs : List (List UInt8)) {n k : Nat} (hf : ∀ m ∈ fs, m.length ≤ 65536) (hk : k ≤ fs.length) (h1 : endAt fs k ≤ n) (h2 : k = fs.length ∨ n < endAt fs (k + 1)) (hn : n ≤ (flat fs).length) :
    ∃ t, (flat fs).take n = flat (fs.take k) ++ t ∧ (t = [] ∨ ∃ m j, t = (frameOf m).take j ∧ j < (frameOf m).length ∧ m.length ≤ 65536) ∧ t.length = n - endAt fs k := by
  have e : flat fs = flat (fs.take k) ++ flat (fs.drop k) := by rw [← flat_app, List.take_append_drop]
  refine ⟨(flat (fs.drop k)).take (n - endAt fs k), ?_, ?_, ?_⟩
  · rw [e, List.take_append, List.take_of_length_le h1]; rfl
  · rcases Nat.lt_or_ge k fs.length with h | h
    · rw [List.drop_eq_getElem_cons h]
      have e' : flat (fs[k] :: fs.drop (k + 1)) = frameOf fs[k] ++ flat (fs.drop (k + 1)) := List.flatMap_cons
      have hlt : n - endAt fs k < (frameOf fs[k]).length := by
        rcases h2 with h2 | h2
        · omega
        · unfold endAt at h2 h1 ⊢
          rw [endAt_succ h, List.length_append] at h2
          omega
      rw [e', List.take_append_of_le_length (by omega)]
      exact .inr ⟨fs[k], _, rfl, hlt, hf _ (List.getElem_mem h)⟩
    · rw [List.drop_of_length_le h]; left; simp [flat]
  · rw [List.length_take]
    have := congrArg List.length e
    rw [List.length_append] at this
    unfold endAt at h1 ⊢
    omega
theorem flat_len : ∀ {fs : List (List UInt8)}, (∀ m ∈ fs, m.length ≤ 65536) → (flat fs).length ≤ fs.length * 65550
  | [], _ => by simp [flat]
  | m :: fs, h => by
    have := flat_len (fs := fs) fun x hx => h x (List.mem_cons_of_mem _ hx)
    have hm := h m (List.mem_cons_self ..)
    have := frameOf_len hm
    have e : flat (m :: fs) = frameOf m ++ flat fs := List.flatMap_cons
    rw [e, List.length_append, List.length_cons]
    omega
end Go.Proofs.YtdaghggdmgbpnaaDoor.Vint
