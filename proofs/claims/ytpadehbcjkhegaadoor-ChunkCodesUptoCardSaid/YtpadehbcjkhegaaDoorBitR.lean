/- Bits of bytes; what was packed is read again: plain laws. Own work. -/
import Derived.Test.YtpadehbcjkhegaaDoorChunkS
namespace Go.Proofs.YtpadehbcjkhegaaDoor.Bits
open Go Vm Go.RowKit Num Mem Chunk

theorem low_at (v : Nat) : ∀ (k j : Nat), j < k → (low v k)[j]? = some (bitOf v (k - 1 - j))
  | k + 1, 0, _ => by simp [low]
  | k + 1, j + 1, h => by
    have := low_at v k j (by omega)
    rw [low, List.getElem?_cons_succ, this, show k + 1 - 1 - (j + 1) = k - 1 - j by omega]
theorem byteBits_at : ∀ (l : List UInt8) (i j : Nat) (c : UInt8), j < 8 → l[i]? = some c → (byteBits l)[8 * i + j]? = some (bitOf c.toNat (7 - j))
  | [], i, j, c, _, h => by simp at h
  | x :: l, 0, j, c, hj, h => by
    simp only [List.getElem?_cons_zero, Option.some.injEq] at h
    subst h
    simp only [byteBits, List.flatMap_cons]
    rw [List.getElem?_append_left (by rw [low_len]; omega), Nat.mul_zero, Nat.zero_add, low_at _ _ _ hj]
  | x :: l, i + 1, j, c, hj, h => by
    have ih := byteBits_at l i j c hj (by simpa using h)
    simp only [byteBits, List.flatMap_cons] at ih ⊢
    rw [List.getElem?_append_right (by rw [low_len]; omega), low_len, show 8 * (i + 1) + j - 8 = 8 * i + j by omega]
    exact ih
theorem byteBits_app (a b : List UInt8) : byteBits (a ++ b) = byteBits a ++ byteBits b := List.flatMap_append
def b2n (b : Bool) : Nat := if b then 1 else 0
theorem bitOf_eq (v i : Nat) : v / 2 ^ i % 2 = b2n (bitOf v i) := by
  unfold bitOf b2n
  rcases Nat.mod_two_eq_zero_or_one (v / 2 ^ i) with h | h <;> rw [h] <;> rfl
theorem orBit_bits : ∀ (c : Fin 256) (j j' : Fin 8), bitOf (orBit (UInt8.ofNat c.val) j.val).toNat (7 - j'.val) = (bitOf c.val (7 - j'.val) || j.val == j'.val) := by decide +kernel

theorem byteBits_grow {bs : List Bool} {l : List UInt8} {m : Nat} (h : byteBits l = bs ++ List.replicate m false) (hl : l.length = (bs.length + 7) / 8) :
    ∃ M, 1 ≤ M ∧ byteBits (grow l bs.length) = bs ++ List.replicate M false := by
  have hlen : 8 * l.length = bs.length + m := by
    have := congrArg List.length h
    rw [byteBits_len, List.length_append, List.length_replicate] at this
    exact this
  unfold grow
  split
  · refine ⟨8, by decide, ?_⟩
    rw [byteBits_app, h, show m = 0 by omega]
    simp only [List.replicate_zero, List.append_nil]
    congr 1
  · exact ⟨m, by omega, h⟩
theorem byteBits_putB {bs : List Bool} {l : List UInt8} {m : Nat} (h : byteBits l = bs ++ List.replicate m false) (hl : l.length = (bs.length + 7) / 8) (b : Bool) :
    ∃ m', byteBits (putB l bs.length b) = bs ++ [b] ++ List.replicate m' false := by
  obtain ⟨M, hM, hg⟩ := byteBits_grow h hl
  have hgl := grow_len hl
  unfold putB
  cases b with
  | false =>
    refine ⟨M - 1, ?_⟩
    rw [if_neg (by decide), hg, List.append_assoc]
    congr 1
    obtain ⟨k, rfl⟩ : ∃ k, M = k + 1 := ⟨M - 1, by omega⟩
    rfl
  | true =>
    refine ⟨M - 1, ?_⟩
    rw [if_pos rfl]
    generalize grow l bs.length = L at *
    have hLen : 8 * L.length = bs.length + M := by
      have := congrArg List.length hg
      rw [byteBits_len, List.length_append, List.length_replicate] at this
      exact this
    have hi : bs.length / 8 < L.length := by omega
    have hc : L[bs.length / 8]? = some L[bs.length / 8] := List.getElem?_eq_getElem hi
    have hd : L.getD (bs.length / 8) 0 = L[bs.length / 8] := by rw [List.getD_eq_getElem?_getD, hc]; rfl
    rw [hd]
    refine List.ext_getElem? fun k => ?_
    by_cases hk : k < 8 * L.length
    · have hki : k / 8 < L.length := by omega
      have hold := byteBits_at L (k / 8) (k % 8) L[k / 8] (by omega) (List.getElem?_eq_getElem hki)
      rw [show 8 * (k / 8) + k % 8 = k by omega, hg] at hold
      have hnew : (byteBits (L.set (bs.length / 8) (orBit L[bs.length / 8] (bs.length % 8))))[k]? = some (bitOf (if bs.length / 8 = k / 8 then orBit L[bs.length / 8] (bs.length % 8) else L[k / 8]).toNat (7 - k % 8)) := by
        have := byteBits_at (L.set (bs.length / 8) (orBit L[bs.length / 8] (bs.length % 8))) (k / 8) (k % 8) (if bs.length / 8 = k / 8 then orBit L[bs.length / 8] (bs.length % 8) else L[k / 8]) (by omega) (by
          rw [List.getElem?_set]
          split
          · rfl
          · exact List.getElem?_eq_getElem hki)
        rwa [show 8 * (k / 8) + k % 8 = k by omega] at this
      rw [hnew]
      have hor := orBit_bits ⟨L[bs.length / 8].toNat, L[bs.length / 8].toNat_lt⟩ ⟨bs.length % 8, by omega⟩ ⟨k % 8, by omega⟩
      simp only [UInt8.ofNat_toNat] at hor
      rcases Nat.lt_trichotomy k bs.length with h1 | h1 | h1
      · rw [List.getElem?_append_left h1] at hold
        rw [List.append_assoc, List.getElem?_append_left h1, hold]
        split
        · rename_i e
          rw [hor]
          have : ¬ bs.length % 8 = k % 8 := by omega
          simp [this, e]
        · rfl
      · subst h1
        rw [if_pos rfl, hor]
        simp
      · rw [List.getElem?_append_right (by omega), List.getElem?_replicate, if_pos (by omega)] at hold
        have hl1 : (bs ++ [true]).length = bs.length + 1 := by simp
        have h2 : (List.replicate (M - 1) false)[k - (bs ++ [true]).length]? = some false := by rw [List.getElem?_replicate]; exact if_pos (by omega)
        rw [List.getElem?_append_right (by omega), h2, hold]
        split
        · rename_i e
          rw [hor]
          have : ¬ bs.length % 8 = k % 8 := by omega
          simp [this, e]
        · rfl
    · rw [List.getElem?_eq_none (by rw [byteBits_len, List.length_set]; omega), List.getElem?_eq_none (by simp; omega)]
theorem byteBits_pk (bs : List Bool) : ∃ m, byteBits (pk bs) = bs ++ List.replicate m false := by
  have key : ∀ (n : Nat) (bs : List Bool), bs.length = n → ∃ m, byteBits (pk bs) = bs ++ List.replicate m false := by
    intro n
    induction n with
    | zero => intro bs h; rw [List.eq_nil_of_length_eq_zero h]; exact ⟨0, rfl⟩
    | succ n ih =>
      intro bs h
      rcases List.eq_nil_or_concat bs with rfl | ⟨c, b, rfl⟩
      · cases h
      · rw [List.concat_eq_append] at *
        obtain ⟨m, hm⟩ := ih c (by simpa using h)
        rw [pk_app]
        exact byteBits_putB hm (pk_len c) b
  exact key _ bs rfl

/-! ## Numbers of bits -/
def num (l : List Bool) : Nat := l.foldl (fun v b => 2 * v + b2n b) 0
theorem num_snoc (l : List Bool) (b : Bool) : num (l ++ [b]) = 2 * num l + b2n b := by unfold num; rw [List.foldl_append]; rfl
theorem b2n_le (b : Bool) : b2n b ≤ 1 := by cases b <;> decide
theorem num_lt (l : List Bool) : num l < 2 ^ l.length := by
  have key : ∀ (n : Nat) (l : List Bool), l.length = n → num l < 2 ^ n := by
    intro n
    induction n with
    | zero => intro l h; rw [List.eq_nil_of_length_eq_zero h]; decide
    | succ n ih =>
      intro l h
      rcases List.eq_nil_or_concat l with rfl | ⟨c, b, rfl⟩
      · cases h
      · rw [List.concat_eq_append] at *
        have := ih c (by simpa using h)
        have := b2n_le b
        rw [num_snoc, Nat.pow_succ]; omega
  exact key _ l rfl
theorem fold_low (v : Nat) : ∀ (k a : Nat), (low v k).foldl (fun v b => 2 * v + b2n b) a = a * 2 ^ k + v % 2 ^ k
  | 0, a => by simp [low, Nat.mod_one]
  | k + 1, a => by
    rw [low, List.foldl_cons, fold_low v k, ← bitOf_eq, Nat.mod_pow_succ, Nat.pow_succ, Nat.add_mul]
    rw [Nat.mul_comm 2 a, Nat.mul_assoc a 2, Nat.mul_comm 2 (2 ^ k), Nat.mul_comm (v / 2 ^ k % 2)]
    omega
theorem num_low {v k : Nat} (h : v < 2 ^ k) : num (low v k) = v := by
  unfold num
  rw [fold_low, Nat.zero_mul, Nat.zero_add, Nat.mod_eq_of_lt h]
theorem take_low (v k : Nat) (tail : List Bool) : (low v k ++ tail).take k = low v k ∧ (low v k ++ tail).drop k = tail := by
  have := low_len v k
  constructor
  · rw [List.take_append_of_le_length (by omega), List.take_of_length_le (by omega)]
  · rw [List.drop_append_of_le_length (by omega), List.drop_of_length_le (by omega), List.nil_append]
end Go.Proofs.YtpadehbcjkhegaaDoor.Bits
