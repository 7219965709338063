/- The library's sort by a function, of a row of one's own. Own work. -/
import Derived.Test.YtfkpehcbijgmnaaGreatDoorSortF
import Derived.Test.YtfkpehcbijgmnaaGreatDoorLbc
import Derived.Test.YtfkpehcbijgmnaaGreatDoorRowT
namespace Go.Proofs.YtfkpehcbijgmnaaGreatDoor.Srt
open Go Vm Go.RowKit Num Mem Go.Sort Go.Proofs Lab
variable {ω ω' : Tg} {w w' : World} {t : Nat} {e : TypeId} {s : Sl}

theorem swo {α β : Type} {c : α → α → Int} (h : Cmp c) (f : β → α) : SWO (ltOf fun i j => c (f i) (f j)) := by
  refine ⟨fun x => ?_, fun x y z h1 h2 => ?_, fun x y z h1 h2 => ?_⟩
  · exact decide_eq_false (show ¬ c (f x) (f x) < 0 by rw [h.self]; decide)
  · unfold ltOf at *
    exact decide_eq_true (h.trans _ _ _ (of_decide_eq_true h1) (of_decide_eq_true h2))
  · unfold ltOf at *
    have h1 : ¬ c (f x) (f y) < 0 := of_decide_eq_false h1
    have h2 : ¬ c (f y) (f z) < 0 := of_decide_eq_false h2
    refine decide_eq_false fun h3 => ?_
    have h3 : c (f x) (f z) < 0 := h3
    have a1 := h.anti (f x) (f y)
    by_cases e : c (f x) (f y) = 0
    · have := (h.eq _ _).1 e
      rw [this] at h3; exact h2 h3
    · exact h2 (h.trans _ (f x) _ (by omega) h3)
theorem kd_grow (k : KD w w') : ∃ q os, w' = grow (w.drewN q) os := by
  refine ⟨0, w'.heap.extract w.heap.size w'.heap.size, ?_⟩
  have hh : w'.heap = w.heap ++ w'.heap.extract w.heap.size w'.heap.size := by
    apply Array.ext_getElem?
    intro i
    rcases Nat.lt_or_ge i w.heap.size with hi | hi
    · rw [k.1.block i hi, Array.getElem?_append_left hi]
    · rw [Array.getElem?_append_right hi]
      simp only [Array.getElem?_extract]
      have hs := k.1.size
      by_cases h : i < w'.heap.size
      · rw [if_pos (by omega)]; congr 1; omega
      · rw [if_neg (by omega), Array.getElem?_eq_none (by omega)]
  obtain ⟨k1, k2⟩ := k
  have e1 := k1.os
  have e2 := k1.tape
  have e3 := k1.output
  cases w; cases w'
  simp only at hh e1 e2 e3 k2
  subst e1 e2 e3 k2
  unfold grow World.drewN
  simp only [World.mk.injEq, and_true, true_and, Nat.add_zero]
  exact hh
section
variable {enc : Nat → List Value} {k : Nat}
theorem flatK_list (hk : ∀ i, (enc i).length = k) (h0 : 0 < k) : ∀ (l : List Nat), (flatK enc k l.toArray).toList = l.flatMap enc := by
  intro l
  apply List.ext_getElem?
  intro j
  have hl : ∀ l : List Nat, (l.flatMap enc).length = l.length * k := fun l => by
    induction l with
    | nil => simp
    | cons a l ih => rw [List.flatMap_cons, List.length_append, ih, hk, List.length_cons, Nat.add_mul]; omega
  have at_ : ∀ (l : List Nat) (i j : Nat), j < k → (l.flatMap enc)[i * k + j]? = (l[i]?).bind fun x => (enc x)[j]? := by
    intro l
    induction l with
    | nil => intro i j _; simp
    | cons a l ih =>
      intro i j hj
      rw [List.flatMap_cons]
      cases i with
      | zero => rw [Nat.zero_mul, Nat.zero_add, List.getElem?_append_left (by rw [hk]; exact hj)]; rfl
      | succ i =>
        rw [List.getElem?_append_right (by rw [hk, Nat.add_mul]; omega), hk, show (i + 1) * k + j - k = i * k + j by rw [Nat.add_mul]; omega, ih i j hj]
        simp
  by_cases hj : j < l.length * k
  · have hd : j / k < l.length := Nat.div_lt_of_lt_mul (by rw [Nat.mul_comm]; exact hj)
    have hm := Nat.mod_lt j h0
    have ej : j = j / k * k + j % k := by rw [Nat.mul_comm]; exact (Nat.div_add_mod j k).symm
    rw [Array.getElem?_toList, Array.getElem?_eq_getElem (by simpa using hj), ← getElem!_pos, get_flatK _ _ _ _ (by simpa using hj)]
    conv => rhs; rw [ej]
    rw [at_ l _ _ hm, List.getElem?_eq_getElem hd, Option.bind_some, List.getElem?_eq_getElem (by rw [hk]; exact hm)]
    congr 1
    have e1 : l.toArray[j / k]! = l[j / k] := by rw [getElem!_pos l.toArray (j / k) (by simpa using hd)]; simp
    rw [e1, getElem!_pos (enc l[j / k]) (j % k) (by rw [hk]; exact hm)]
  · rw [List.getElem?_eq_none (by simp; omega), List.getElem?_eq_none (by rw [hl]; omega)]
theorem putRow_chg (F : Array Value) (n g : Nat) (os : Array Obj) : w.grownBy (grow (putRow id (Sort.ahead w n) g 0 F) os) (some g) := by
  refine ⟨rfl, rfl, rfl, by simp, fun k hk hne => ?_⟩
  rw [heap_grow_old _ _ (by simpa using hk)]
  have : g ≠ k := fun e => hne (by rw [e])
  simp [putRow, mapBlock, Sort.ahead, Array.getElem?_modify, this]
theorem putRow_blk {F cur : Array Value} {n g : Nat} {os : Array Obj} {fr : Nat × Nat} (hb : w.heap[g]? = some (.cells cur e fr)) :
    (grow (putRow id (Sort.ahead w n) g 0 F) os).heap[g]? = some (.cells (putCells id 0 F cur) e fr) := by
  have hg : g < w.heap.size := (Array.getElem?_eq_some_iff.1 hb).1
  rw [heap_grow_old _ _ (by simpa using hg)]
  simp [putRow, mapBlock, Sort.ahead, Array.getElem?_modify, hb, onCells]
theorem take_put (cur F : Array Value) (h : F.size ≤ cur.size) : (putCells id 0 F cur).toList.take F.size = F.toList := by
  apply List.ext_getElem?
  intro j
  by_cases hj : j < F.size
  · rw [List.getElem?_take_of_lt hj, Array.getElem?_toList]
    simp [putCells, hj, show j < cur.size by omega]
  · rw [List.getElem?_take_eq_none (by omega), List.getElem?_eq_none (by simp; omega)]
end
theorem holds_blk {g : Nat} {cur : List Value} {F : Array Value} (hb : Blk w g e cur) (ht : cur.take F.size = F.toList) : Holds id w g 0 F := by
  intro j hj
  refine ⟨?_, hb.frozen _⟩
  have h1 : (cur.take F.size)[j]? = F.toList[j]? := by rw [ht]
  rw [List.getElem?_take_of_lt hj] at h1
  rw [hb.cell, Nat.zero_add, h1, Array.getElem?_toList, Array.getElem?_eq_getElem hj, getElem!_pos F j hj]; rfl
theorem sort_rows {enc : Nat → List Value} (h3 : ∀ i, (enc i).length = 3) (h1 : ∀ i, ∀ v ∈ enc i, v.oneCell' = true) (h : OT ω w t e 3 s ((List.range s.n).flatMap enc)) (hn : s.n < 4611686018427387904) {cf : Nat → Nat → Int} (hO : SWO (ltOf cf)) {gf : Nat}
    (eg : ∀ args w, (callFunc gf args).run Tryz.prog w = .ok (.enter gf args) w)
    (hc : ∀ W, Stp (One t) ω (ext ω w.heap.size t) w W → ∀ x y : Nat, Calls Tryz.prog gf #[.agg (enc x).toArray, .agg (enc y).toArray] W fun e w' => e = .returned (.int .i64 (cf x y)) ∧ KD W w')
    {K : World → Prop} (hK : ∀ (is : List Nat) ω' w', is.Perm (List.range s.n) → is.Pairwise (fun a b => ¬ cf b a < 0) → Stp (One t) ω ω' w w' → OT ω' w' t e 3 s (is.flatMap enc) → K w') : sortF s (.func (.func gf) #[] #[]) w K := by
  rcases h.cases with ⟨rfl, hx⟩ | ⟨g, cur, ha, hb', hle, hm, hl, ht⟩
  · refine .inl ⟨rfl, hK [] ω w (List.Perm.refl _) List.Pairwise.nil (Stp.refl _ _ _) (OT.nil ..)⟩
  · have hbk : s.v.ownBlock = some g := by show (Value.slice s.a s.n s.c).ownBlock = _; rw [ha]; rfl
    have er : (Array.range s.n) = (List.range s.n).toArray := by simp
    have stp : ∀ (n : Nat) (os : Array Obj) (d : Array Nat), Stp (One t) ω (ext ω w.heap.size t) w (sortWorldK enc 3 w g 0 n d os) := fun n os d => Chg.stp (grown_chg (putRow_chg _ n g os)) fun k hk => by injection hk with hk; subst hk; exact hb'.tag
    refine .inr ⟨g, 0, enc, cf, gf, #[], ha, rfl, h3, h1, hO, eg, fun m os dk hs x y => ?_, ?_, hb'.blk.lt, hn, fun d' n os hp hs => ?_⟩
    · exact (hc _ (stp m os dk) x y).mono fun e w' ⟨he, k⟩ => ⟨he, kd_grow k⟩
    · unfold HoldsK
      refine holds_blk hb'.blk ?_
      rw [size_flatK, Array.size_range, ht, er, flatK_list h3 (by decide)]
    · have hsz : d'.size = s.n := by have := hp.1; simpa using this
      have p1 : d'.toList.Perm (List.range s.n) := by
        have := hp.2.2
        have e1 : d'.extract 0 s.n = d' := by rw [← hsz]; exact Array.extract_size
        have e2 : (Array.range s.n).extract 0 s.n = Array.range s.n := by have := Array.extract_size (xs := Array.range s.n); rwa [Array.size_range] at this
        rw [e1, e2] at this
        simpa using this
      have p2 : d'.toList.Pairwise (fun a b => ¬ cf b a < 0) := by
        rw [List.pairwise_iff_getElem]
        intro i j hi hj hij
        have hi' : i < d'.size := by simpa using hi
        have hj' : j < d'.size := by simpa using hj
        have := hs i j (Nat.zero_le _) hij (by omega)
        rw [getElem!_pos d' i hi', getElem!_pos d' j hj'] at this
        unfold ltOf at this
        have := of_decide_eq_false this
        simpa using this
      refine hK d'.toList _ _ p1 p2 (stp n os d') ⟨?_, fun k hk => ?_⟩
      · have hss : s = ⟨some ⟨g, 0, none⟩, s.n, s.c⟩ := by rw [← ha]
        have ef : (flatK enc 3 d').toList = d'.toList.flatMap enc := by have := flatK_list h3 (by decide) d'.toList; simpa using this
        have hcs : (flatK enc 3 d').size ≤ cur.toArray.size := by
          rw [size_flatK, hsz, List.size_toArray, hl]; exact Nat.mul_le_mul_right _ hle
        rw [hss]
        refine Own.mk' (cur := (putCells id 0 (flatK enc 3 d') cur.toArray).toList) (Nat.zero_le _) ?_ hle hm (by simp [putCells, hl]) ?_
        · unfold Blk
          have := putRow_blk (w := w) (n := n) (os := os) (F := flatK enc 3 d') hb'.blk
          refine Eq.trans this ?_
          simp
        · have := take_put cur.toArray (flatK enc 3 d') hcs
          rw [size_flatK, hsz] at this
          rw [this, ef]
      · rw [hbk] at hk
        injection hk with hk
        subst hk
        rw [ext_old hb'.blk.lt]; exact hb'.tag
end Go.Proofs.YtfkpehcbijgmnaaGreatDoor.Srt
