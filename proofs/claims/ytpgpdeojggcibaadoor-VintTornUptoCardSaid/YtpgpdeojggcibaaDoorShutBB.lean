/- Slices of slices of bytes that came in. Own work. -/
import Derived.Test.YtpgpdeojggcibaaDoorShut
import Derived.Test.YtpgpdeojggcibaaDoorRowsB
import Derived.Deep.Slices
namespace Go.Proofs.YtpgpdeojggcibaaDoor.Shut
open Go Vm Go.RowKit Num Mem Go.ChangeShapes
section
variable {H : Type} {enc : TypeId × Value → H}
theorem bytes_of_trod {W : World} {fuel : Nat} {v : Value} {d : DataW H} {p : List MemPlace} (h : DataW.trod enc Tryd.prog W 0 (fun _ => true) true fuel 22 [v] = some (d, p)) :
    ∃ (s : Sl) (l : List UInt8), v = s.v ∧ RdB W s l ∧ l.length ≤ Rows.uptoBulk d := by
  have hs : ∃ a n c, v = .slice a n c := by
    rcases ChangeShapes.open_ints (e := 5) (k := .u8) (by kernel_rfl) (by kernel_rfl) (by kernel_rfl) h with ⟨e1, _⟩ | ⟨a', len, cap, zs, e1, _⟩
    · injection e1 with e1; exact ⟨_, _, _, e1⟩
    · injection e1 with e1; exact ⟨_, _, _, e1⟩
  obtain ⟨a, n, c, rfl⟩ := hs
  rcases ChangeShapes.open_ints (e := 5) (k := .u8) (by kernel_rfl) (by kernel_rfl) (by kernel_rfl) h with ⟨e1, e2⟩ | ⟨a', len, cap, zs, e1, hb, hlc, hm, hz, e2, hc, hwf⟩
  · simp only [List.cons.injEq, Value.slice.injEq, and_true] at e1
    obtain ⟨rfl, rfl, rfl⟩ := e1
    exact ⟨nilS, [], rfl, Rd.nil W 1, by simp⟩
  · simp only [List.cons.injEq, Value.slice.injEq, and_true] at e1
    obtain ⟨rfl, rfl, rfl⟩ := e1
    simp only [if_true] at hz
    have hlen : (zs.take n).length = n := by rw [List.length_take]; omega
    refine ⟨⟨some a', n, c⟩, (zs.take n).map fun z => UInt8.ofNat z.toNat, rfl, ?_, ?_⟩
    · have hcell : ∀ j, j < n → W.cell? (a'.add j) = some (vB (UInt8.ofNat (zs.getD j 0).toNat)) := by
        intro j hj
        have hj' : j < zs.length := by omega
        rw [hc j hj']
        have hmem : zs.getD j 0 ∈ zs := by
          rw [List.getD_eq_getElem?_getD, List.getElem?_eq_getElem hj', Option.getD_some]; exact List.getElem_mem hj'
        have hw := hwf _ hmem
        generalize zs.getD j 0 = z at hw ⊢
        have hx : 0 ≤ z ∧ z ≤ 255 := by simpa [Lit.wf, IntKind.min, IntKind.max, IntKind.signed, IntKind.bits] using hw
        rw [← vB_lit (by omega)]
        congr 2
        omega
      refine ⟨hlc, by rw [vBs_length, List.length_map, hlen, Nat.mul_one], fun hne => ?_⟩
      have hn : 0 < n := by
        rcases Nat.eq_zero_or_pos n with h0 | h0
        · subst h0; exact absurd rfl hne
        · exact h0
      have h0 := hcell 0 hn
      obtain ⟨g, o, sp⟩ := a'
      have hsp : sp = none := by
        cases sp with
        | none => rfl
        | some x =>
          simp only [Addr.add, World.cell?] at h0
          simp at h0
          split at h0 <;> simp_all
      subst hsp
      refine ⟨g, o, rfl, fun j v hv => ?_⟩
      have hj : j < n := by
        obtain ⟨hj, _⟩ := List.getElem?_eq_some_iff.1 hv
        rw [vBs_length, List.length_map, hlen] at hj
        exact hj
      have := hcell j hj
      rw [addr_add] at this
      rw [this]
      rw [← hv]
      have hj' : j < zs.length := by omega
      simp [vBs, List.getElem?_take, hj, hj', List.getD_eq_getElem?_getD]
    · injection e2 with e2 _
      subst e2
      have := bulk_len (H := H) (ChangeShapes.lits .u8 (zs.take n))
      simp only [ChangeShapes.lits, List.length_map] at this ⊢
      simp only [Rows.uptoBulk]
      omega

theorem open_bytess {W : World} {base : Nat} {v : Value} {d : DataW H} {p : List MemPlace} (hval : Value.okWide Tryd.prog W .any base 44 v)
    (h : DataW.Trod enc Tryd.prog W 0 (fun _ => true) true 44 v d p) : ∃ (s : Sl) (rs : List Sl) (ls : List (List UInt8)), v = s.v ∧ RdBB W s rs ls ∧ ls.length ≤ Rows.uptoBulk d ∧ ∀ l ∈ ls, l.length ≤ Rows.uptoBulk d := by
  obtain ⟨a, n, c, rfl⟩ := WideShapes.okWide_slice (e := 22) (by kernel_rfl) hval
  obtain ⟨fuel, h⟩ := h
  rcases Go.Deep.open_slice1 (e := 22) (by kernel_rfl) (by kernel_rfl) h with ⟨e1, e2⟩ | ⟨a', len, cap, m, k, V, D, Pl, e1, hb, hlc, hm, hmm, e2, hx⟩
  · simp only [Value.cells, List.cons.injEq, Value.slice.injEq, and_true] at e1
    obtain ⟨rfl, rfl, rfl⟩ := e1
    exact ⟨nilS, [], [], rfl, ⟨Rd.nil W 1, rfl, fun i r l h => by simp at h⟩, by simp, fun l h => by cases h⟩
  · simp only [Value.cells, List.cons.injEq, Value.slice.injEq, and_true] at e1
    obtain ⟨rfl, rfl, rfl⟩ := e1
    simp only [if_true] at hmm
    subst hmm
    injection e2 with e2 _
    subst e2
    have each : ∀ i, i < n → ∃ q : Sl × List UInt8, W.cell? (a'.add i) = some q.1.v ∧ RdB W q.1 q.2 ∧ q.2.length ≤ Rows.uptoBulk (D i) := by
      intro i hi
      obtain ⟨h1, h2⟩ := hx i (by omega)
      obtain ⟨s, l, e, hr, hl⟩ := bytes_of_trod h2
      exact ⟨(s, l), by rw [h1, e], hr, hl⟩
    have ⟨f, hf⟩ : ∃ f : Nat → Sl × List UInt8, ∀ i, i < n → W.cell? (a'.add i) = some (f i).1.v ∧ RdB W (f i).1 (f i).2 ∧ (f i).2.length ≤ Rows.uptoBulk (D i) := by
      refine ⟨fun i => if hi : i < n then Classical.choose (each i hi) else (nilS, []), fun i hi => ?_⟩
      simp only [dif_pos hi]
      exact Classical.choose_spec (each i hi)
    have hbulk : ∀ i, i < n → Rows.uptoBulk (D i) ≤ Rows.uptoBulkAll ((List.range n).map D) := fun i hi => bulk_part (List.mem_map.2 ⟨i, List.mem_range.2 hi, rfl⟩)
    have hln := bulk_len (H := H) ((List.range n).map D)
    rw [List.length_map, List.length_range] at hln
    refine ⟨⟨some a', n, m⟩, (List.range n).map fun i => (f i).1, (List.range n).map fun i => (f i).2, rfl, ⟨⟨hlc, by simp [hdrs], fun hne => ?_⟩, by simp, fun i r l h1 h2 => ?_⟩, ?_, fun l hl => ?_⟩
    · have hn : 0 < n := by
        rcases Nat.eq_zero_or_pos n with h0 | h0
        · subst h0; exact absurd rfl hne
        · exact h0
      have h0 := (hf 0 hn).1
      obtain ⟨g, o, sp⟩ := a'
      have hsp : sp = none := by
        cases sp with
        | none => rfl
        | some x =>
          simp only [Addr.add, World.cell?] at h0
          simp at h0
          split at h0 <;> simp_all
      subst hsp
      refine ⟨g, o, rfl, fun j v hv => ?_⟩
      have hj : j < n := by
        obtain ⟨hj, _⟩ := List.getElem?_eq_some_iff.1 hv
        simpa [hdrs] using hj
      have := (hf j hj).1
      rw [addr_add] at this
      rw [this, ← hv]
      simp [hdrs, hj]
    · have hi : i < n := by
        have := (List.getElem?_eq_some_iff.1 h1).1
        simpa using this
      simp [hi] at h1 h2
      subst h1 h2
      exact (hf i hi).2.1
    · simp only [List.length_map, List.length_range, Rows.uptoBulk]; omega
    · obtain ⟨i, hi, rfl⟩ := List.mem_map.1 hl
      have hi := List.mem_range.1 hi
      have := (hf i hi).2.2
      have := hbulk i hi
      simp only [Rows.uptoBulk]; omega
end
end Go.Proofs.YtpgpdeojggcibaaDoor.Shut
