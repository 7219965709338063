/- A slice that came in, as a list of whatever its elements read as. Own work. -/
import Derived.Test.YtaciaidehamfgaaRep
namespace Go.Proofs.Ytaciaidehamfgaa.Rep
open Go Vm Go.RowKit Num Mem
variable {w : World} {α : Type}

theorem flat_at {enc : α → List Value} {k : Nat} (hk : ∀ x, (enc x).length = k) : ∀ (m : List α) (i j : Nat), j < k → (m.flatMap enc)[i * k + j]? = (m[i]?).bind fun x => (enc x)[j]?
  | [], i, j, _ => by simp
  | x :: m, 0, j, hj => by
    simp only [List.flatMap_cons, Nat.zero_mul, Nat.zero_add]
    rw [List.getElem?_append_left (by rw [hk]; exact hj)]; simp
  | x :: m, i + 1, j, hj => by
    simp only [List.flatMap_cons]
    rw [List.getElem?_append_right (by rw [hk, Nat.add_mul]; omega), hk, show (i + 1) * k + j - k = i * k + j by rw [Nat.add_mul]; omega, flat_at hk m i j hj]
    simp
theorem flat_len {enc : α → List Value} {k : Nat} (hk : ∀ x, (enc x).length = k) : ∀ m : List α, (m.flatMap enc).length = m.length * k
  | [] => by simp
  | x :: m => by simp only [List.flatMap_cons, List.length_append, List.length_cons, hk, flat_len hk m, Nat.add_mul]; omega
theorem rows_of [Inhabited α] {s : Sl} {b : Nat} {es : List Sh} {enc : α → List Value} {Q : α → Prop} (hk : ∀ x, (enc x).length = es.length) (hpos : 0 < es.length) (h : Cl w (.sl es) s.v b)
    (inv : ∀ V : Nat → Value, (∀ j sh, es[j]? = some sh → Cl w sh (V j) b) → ∃ x, (∀ j, j < es.length → (enc x)[j]? = some (V j)) ∧ Q x) :
    ∃ m : List α, Rd w s es.length (m.flatMap enc) ∧ s.n = m.length ∧ s.n < b ∧ s.n ≤ maxLen ∧ ∀ x ∈ m, Q x := by
  have hb := h.len
  obtain ⟨f, U, h1, h2, h3, h4, h5, h6, h7⟩ := h.sl_inv
  have get : ∀ i, i < s.n → ∃ x : α, (∀ j, j < es.length → (enc x)[j]? = some (U i j)) ∧ Q x := fun i hi => inv (U i) fun j sh hj => (h7 i j sh hi hj).mono (by have := sumTo_ge f s.n i hi; omega)
  obtain ⟨g, hg⟩ : ∃ g : Nat → α, ∀ i, i < s.n → (∀ j, j < es.length → (enc (g i))[j]? = some (U i j)) ∧ Q (g i) :=
    ⟨fun i => if hi : i < s.n then (get i hi).choose else default, fun i hi => by simp only [dif_pos hi]; exact (get i hi).choose_spec⟩
  refine ⟨(List.range s.n).map g, ⟨h1, by rw [flat_len hk]; simp, fun hne => ?_⟩, by simp, hb, by omega, fun x hx => ?_⟩
  · have hn : 0 < s.n := by
      rcases Nat.eq_zero_or_pos s.n with e | e
      · rw [e] at hne; exact absurd rfl hne
      · exact e
    obtain ⟨gb, o, ha, hc⟩ := h6 hn
    refine ⟨gb, o, ha, fun j v hv => ?_⟩
    have hj : j < s.n * es.length := by
      have := (List.getElem?_eq_some_iff.1 hv).1
      rwa [flat_len hk, List.length_map, List.length_range] at this
    have hi : j / es.length < s.n := Nat.div_lt_of_lt_mul (by rw [Nat.mul_comm]; exact hj)
    have hr : j % es.length < es.length := Nat.mod_lt _ hpos
    have ej : j = j / es.length * es.length + j % es.length := by rw [Nat.mul_comm]; exact (Nat.div_add_mod j es.length).symm
    rw [ej] at hv ⊢
    rw [flat_at hk _ _ _ hr] at hv
    have hm : ((List.range s.n).map g)[j / es.length]? = some (g (j / es.length)) := by simp [hi]
    rw [hm, Option.bind_some, (hg _ hi).1 _ hr] at hv
    injection hv with hv
    rw [← hv]
    obtain ⟨sh, hsh⟩ : ∃ sh, es[j % es.length]? = some sh := ⟨_, List.getElem?_eq_getElem hr⟩
    exact hc _ _ sh hi hsh
  · obtain ⟨i, hi, rfl⟩ := List.mem_map.1 hx
    exact (hg i (List.mem_range.1 hi)).2
end Go.Proofs.Ytaciaidehamfgaa.Rep
