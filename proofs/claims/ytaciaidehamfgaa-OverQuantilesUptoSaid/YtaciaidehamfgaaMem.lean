/- Words and rules for memory: slices that read as lists, slices of the call's own, what a call leaves as it was. Own work. -/
import Derived.Test.YtaciaidehamfgaaVmLift
import Derived.Below
import Derived.Laws.OwnMore
import Derived.Laws.MakeOwn
import Derived.Deep.AppendLies
import Derived.Maps.AppendAt
import Derived.Deep.Draws
import Derived.Lib.ConvBytes
namespace Go.Proofs.Ytaciaidehamfgaa.Mem
open Go Vm Go.RowKit

/-! ## Ways -/
theorem cond_of {c : Bool} {X Y : Prop} (h1 : c = true → X) (h2 : c = false → Y) : G.cond c X Y := by
  cases c
  · exact h2 rfl
  · exact h1 rfl
theorem cond_t {c : Bool} {X Y : Prop} (hc : c = true) (h : X) : G.cond c X Y := by subst hc; exact h
theorem cond_f {c : Bool} {X Y : Prop} (hc : c = false) (h : Y) : G.cond c X Y := by subst hc; exact h
/-- A test on numbers. -/
theorem cond_d {p : Prop} [Decidable p] {X Y : Prop} (h1 : p → X) (h2 : ¬ p → Y) : G.cond (decide p) X Y :=
  cond_of (fun h => h1 (of_decide_eq_true h)) (fun h => h2 (of_decide_eq_false h))
theorem cond_eq {a b : Int} {X Y : Prop} (h1 : a = b → X) (h2 : a ≠ b → Y) : G.cond (a == b) X Y :=
  cond_of (fun h => h1 (by simpa using h)) (fun h => h2 (by simpa using h))
theorem cond_ne {a b : Int} {X Y : Prop} (h1 : a ≠ b → X) (h2 : a = b → Y) : G.cond (a != b) X Y :=
  cond_of (fun h => h1 (by simpa using h)) (fun h => h2 (by simpa using h))
theorem cond_not {c : Bool} {X Y : Prop} (h1 : c = false → X) (h2 : c = true → Y) : G.cond (!c) X Y :=
  cond_of (fun h => h1 (by simpa using h)) (fun h => h2 (by simpa using h))

/-! ## Worlds -/
/-- All that was there is as it was. -/
abbrev Keep (w w' : World) : Prop := Below w.heap.size w w'
theorem Keep.refl (w : World) : Keep w w := Below.refl _ _
theorem Keep.trans {a b c : World} (h : Keep a b) (k : Keep b c) : Keep a c := Below.trans h (Below.mono k h.size)
theorem below_trans {B : Nat} {a b c : World} (h : Below B a b) (hB : B ≤ b.heap.size) (k : Keep b c) : Below B a c := Below.trans h (Below.mono k hB)
theorem Keep.drewN (w : World) (d : Nat) : Keep w (w.drewN d) := ⟨rfl, rfl, rfl, Nat.le_refl _, fun _ _ => rfl⟩
theorem Keep.drew (w : World) : Keep w w.drew := ⟨rfl, rfl, rfl, Nat.le_refl _, fun _ _ => rfl⟩
theorem Keep.alloc (w : World) (o : Obj) : Keep w (w.alloc o) := (Below.refl _ _).alloc (Nat.le_refl _) o
theorem below_le {B : Nat} {a b : World} (h : Below B a b) (hB : B ≤ a.heap.size) : B ≤ b.heap.size := Nat.le_trans hB h.size
theorem cell_lt {w : World} {a : Addr} {v : Value} (h : w.cell? a = some v) : a.block < w.heap.size := World.block_lt_of_cell? w a h
theorem Keep.cell {w w' : World} (h : Keep w w') {a : Addr} {v : Value} (hc : w.cell? a = some v) : w'.cell? a = some v := by
  rw [Below.cell h (cell_lt hc)]; exact hc
theorem heap_lt {w : World} {g : Nat} {o : Obj} (h : w.heap[g]? = some o) : g < w.heap.size := by
  rcases Nat.lt_or_ge g w.heap.size with hlt | hge
  · exact hlt
  · rw [Array.getElem?_eq_none hge] at h; cases h
theorem Keep.heap {w w' : World} (h : Keep w w') {g : Nat} {o : Obj} (hg : w.heap[g]? = some o) : w'.heap[g]? = some o := by
  rw [h.block g (heap_lt hg)]; exact hg

/-- Only block g may have turned, of what was there. -/
structure Only (g : Nat) (w w' : World) : Prop where
  os : w'.os = w.os
  tape : w'.tape = w.tape
  output : w'.output = w.output
  size : w.heap.size ≤ w'.heap.size
  block : ∀ k, k < w.heap.size → k ≠ g → w'.heap[k]? = w.heap[k]?
theorem Only.refl (g : Nat) (w : World) : Only g w w := ⟨rfl, rfl, rfl, Nat.le_refl _, fun _ _ _ => rfl⟩
theorem Only.trans {g : Nat} {a b c : World} (h : Only g a b) (k : Only g b c) : Only g a c :=
  ⟨k.os.trans h.os, k.tape.trans h.tape, k.output.trans h.output, Nat.le_trans h.size k.size, fun i hi hne => (k.block i (Nat.lt_of_lt_of_le hi h.size) hne).trans (h.block i hi hne)⟩
theorem Keep.only {w w' : World} (h : Keep w w') (g : Nat) : Only g w w' := ⟨h.os, h.tape, h.output, h.size, fun k hk _ => h.block k hk⟩
theorem Only.setCell (g : Nat) (w : World) (o : Nat) (v : Value) : Only g w (w.setCell ⟨g, o, none⟩ v) :=
  ⟨rfl, rfl, rfl, by simp [World.setCell], fun k _ hne => Below.heap_setCell _ _ _ _ hne⟩
theorem Only.heap {g : Nat} {w w' : World} (h : Only g w w') {k : Nat} {o : Obj} (hk : w.heap[k]? = some o) (hne : k ≠ g) : w'.heap[k]? = some o := by
  rw [h.block k (heap_lt hk) hne]; exact hk
theorem Only.cell {g : Nat} {w w' : World} (h : Only g w w') {a : Addr} {v : Value} (hc : w.cell? a = some v) (hne : a.block ≠ g) : w'.cell? a = some v := by
  rw [World.cell?_of_block (w := w) (h.block a.block (cell_lt hc) hne)]; exact hc
theorem Only.below {g B : Nat} {w0 w w' : World} (h : Only g w w') (hb : Below B w0 w) (hB : B ≤ w.heap.size) (hg : B ≤ g) : Below B w0 w' :=
  Below.trans hb ⟨h.os, h.tape, h.output, h.size, fun k hk => h.block k (by omega) (by omega)⟩

/-! ## A block that is known whole -/
def Blk (w : World) (g : Nat) (e : TypeId) (cs : List Value) : Prop := w.heap[g]? = some (.cells cs.toArray e (0, 0))
theorem Blk.lt {w : World} {g : Nat} {e : TypeId} {cs : List Value} (h : Blk w g e cs) : g < w.heap.size := heap_lt h
theorem Blk.keep {w w' : World} {g : Nat} {e : TypeId} {cs : List Value} (h : Blk w g e cs) (k : Keep w w') : Blk w' g e cs := k.heap h
theorem Blk.only {w w' : World} {g g' : Nat} {e : TypeId} {cs : List Value} (h : Blk w g e cs) (k : Only g' w w') (hne : g ≠ g') : Blk w' g e cs := k.heap h hne
theorem Blk.cell {w : World} {g : Nat} {e : TypeId} {cs : List Value} (h : Blk w g e cs) (j : Nat) : w.cell? ⟨g, j, none⟩ = cs[j]? := by
  unfold Blk at h
  simp [World.cell?, h]
theorem Blk.frozen {w : World} {g : Nat} {e : TypeId} {cs : List Value} (h : Blk w g e cs) (j : Nat) : w.frozen? ⟨g, j, none⟩ = false := by
  unfold Blk at h
  simp [World.frozen?, h]
theorem Blk.set {w : World} {g : Nat} {e : TypeId} {cs : List Value} (h : Blk w g e cs) (j : Nat) (v : Value) : Blk (w.setCell ⟨g, j, none⟩ v) g e (cs.set j v) := by
  unfold Blk at h ⊢
  have hg := heap_lt h
  simp only [World.setCell, Array.getElem?_modify, if_true, h, Option.map_some]
  simp
theorem Blk.drew {w : World} {g : Nat} {e : TypeId} {cs : List Value} (h : Blk w g e cs) : Blk w.drew g e cs := h
theorem Blk.drewN {w : World} {g : Nat} {e : TypeId} {cs : List Value} (h : Blk w g e cs) (d : Nat) : Blk (w.drewN d) g e cs := h
theorem Blk.new (w : World) (e : TypeId) (cs : Array Value) : Blk (w.alloc (.cells cs e)) w.heap.size e cs.toList := by
  show (w.heap.push _)[w.heap.size]? = _
  simp
theorem Blk.uniq {w : World} {g : Nat} {e e' : TypeId} {cs cs' : List Value} (h : Blk w g e cs) (h' : Blk w g e' cs') : cs = cs' ∧ e = e' := by
  unfold Blk at h h'
  rw [h] at h'
  injection h' with h'
  injection h' with h1 h2
  exact ⟨by injection h1, h2⟩

theorem addr_add (g o n : Nat) : (⟨g, o, none⟩ : Addr).add n = ⟨g, o + n, none⟩ := by
  unfold Addr.add
  split
  · rename_i h; subst h; rfl
  · rfl

/-! ## A slice that reads as a list of cells -/
def Rd (w : World) (s : Sl) (sz : Nat) (cs : List Value) : Prop :=
  s.n ≤ s.c ∧ cs.length = s.n * sz ∧ (cs ≠ [] → ∃ g o, s.a = some ⟨g, o, none⟩ ∧ ∀ j v, cs[j]? = some v → w.cell? ⟨g, o + j, none⟩ = some v)
theorem Rd.nil (w : World) (sz : Nat) : Rd w nilS sz [] := ⟨Nat.le_refl _, by simp, fun h => absurd rfl h⟩
theorem Rd.keep {w w' : World} {s : Sl} {sz : Nat} {cs : List Value} (h : Rd w s sz cs) (k : Keep w w') : Rd w' s sz cs :=
  ⟨h.1, h.2.1, fun hne => let ⟨g, o, ha, hc⟩ := h.2.2 hne; ⟨g, o, ha, fun j v hv => k.cell (hc j v hv)⟩⟩
theorem Rd.drew {w : World} {s : Sl} {sz : Nat} {cs : List Value} (h : Rd w s sz cs) : Rd w.drew s sz cs := h
theorem Rd.drewN {w : World} {s : Sl} {sz : Nat} {cs : List Value} (h : Rd w s sz cs) (d : Nat) : Rd (w.drewN d) s sz cs := h
theorem Rd.blk {w : World} {g : Nat} {e : TypeId} {cs : List Value} (h : Blk w g e cs) {o n c sz : Nat} (hn : n ≤ c) (hl : o + n * sz ≤ cs.length) : Rd w ⟨some ⟨g, o, none⟩, n, c⟩ sz ((cs.drop o).take (n * sz)) := by
  refine ⟨hn, by simp; omega, fun _ => ⟨g, o, rfl, fun j v hv => ?_⟩⟩
  rw [h.cell]
  rw [List.getElem?_take] at hv
  split at hv
  · rw [List.getElem?_drop] at hv; exact hv
  · cases hv
theorem Rd.at_ {w : World} {s : Sl} {sz : Nat} {cs : List Value} (h : Rd w s sz cs) {i : Nat} (hi : i < s.n) (hs : 0 < sz) : ∃ g o, s.a = some ⟨g, o, none⟩ ∧ ∀ j v, cs[j]? = some v → w.cell? ⟨g, o + j, none⟩ = some v := by
  refine h.2.2 fun e => ?_
  have := h.2.1
  rw [e] at this
  have : 0 < s.n * sz := Nat.mul_pos (by omega) hs
  simp_all
/-- Reading the element at i. -/
theorem Rd.ix {w : World} {s : Sl} {sz : Nat} {cs : List Value} (h : Rd w s sz cs) (hs : 0 < sz) {i : Int} (h0 : 0 ≤ i) (h1 : i < s.n) {K : Addr → Prop}
    (hK : ∀ a : Addr, (∀ j v, j < sz → cs[i.toNat * sz + j]? = some v → w.cell? (a.add j) = some v) → K a) : G.ix s.a s.n i sz K := by
  obtain ⟨g, o, ha, hc⟩ := h.at_ (i := i.toNat) (by omega) hs
  rw [ha]
  refine ⟨⟨h0, h1⟩, hK _ fun j v _ hv => ?_⟩
  rw [addr_add, addr_add]
  have := hc _ v hv
  rw [show o + i.toNat * sz + j = o + (i.toNat * sz + j) by omega]
  exact this

/-! ## A slice of the call's own -/
abbrev Own (w : World) (B : Nat) (e : TypeId) (sz : Nat) (s : Sl) (xs : List Value) : Prop := w.ownsRow B e sz s.v s.n xs
theorem Own.nil (w : World) (B : Nat) (e : TypeId) (sz : Nat) : Own w B e sz nilS [] := World.ownsRow_nil w B e sz
theorem Own.len {w : World} {B : Nat} {e : TypeId} {sz : Nat} {s : Sl} {xs : List Value} (h : Own w B e sz s xs) : xs.length = s.n * sz := h.1
theorem Own.cases {w : World} {B : Nat} {e : TypeId} {sz : Nat} {s : Sl} {xs : List Value} (h : Own w B e sz s xs) :
    (s = nilS ∧ xs = []) ∨ ∃ g cur, s.a = some ⟨g, 0, none⟩ ∧ B ≤ g ∧ Blk w g e cur ∧ s.n ≤ s.c ∧ s.c ≤ maxLen ∧ cur.length = s.c * sz ∧ cur.take (s.n * sz) = xs := by
  obtain ⟨hl, h⟩ := h
  rcases h with ⟨hv, hn⟩ | ⟨g, cap, cur, hv, hg, hh, hn, hm, hs, ht⟩
  · left
    have e : s = nilS := by
      cases s with
      | mk a n c => simp only [Value.slice.injEq] at hv; obtain ⟨rfl, rfl, rfl⟩ := hv; rfl
    subst e
    exact ⟨rfl, List.eq_nil_of_length_eq_zero (by simpa [nilS] using hl)⟩
  · right
    cases s with
    | mk a n c =>
      simp only [Value.slice.injEq] at hv
      obtain ⟨rfl, _, rfl⟩ := hv
      exact ⟨g, cur.toList, rfl, hg, by unfold Blk; simpa using hh, hn, hm, by simpa using hs, ht⟩
theorem Own.mk' {w : World} {B g : Nat} {e : TypeId} {sz n c : Nat} {cur xs : List Value} (hg : B ≤ g) (hb : Blk w g e cur) (hn : n ≤ c) (hm : c ≤ maxLen) (hl : cur.length = c * sz) (ht : cur.take (n * sz) = xs) :
    Own w B e sz ⟨some ⟨g, 0, none⟩, n, c⟩ xs := by
  refine ⟨?_, .inr ⟨g, c, cur.toArray, rfl, hg, hb, hn, hm, by simpa using hl, ht⟩⟩
  rw [← ht, List.length_take, hl]
  exact Nat.min_eq_left (Nat.mul_le_mul_right _ hn)
theorem Own.rd {w : World} {B : Nat} {e : TypeId} {sz : Nat} {s : Sl} {xs : List Value} (h : Own w B e sz s xs) : Rd w s sz xs := by
  rcases h.cases with ⟨rfl, rfl⟩ | ⟨g, cur, ha, hg, hb, hn, hm, hl, ht⟩
  · exact Rd.nil w sz
  · refine ⟨hn, h.len, fun _ => ⟨g, 0, ha, fun j v hv => ?_⟩⟩
    rw [hb.cell, Nat.zero_add]
    rw [← ht, List.getElem?_take] at hv
    split at hv
    · exact hv
    · cases hv
theorem Own.keep {w w' : World} {B : Nat} {e : TypeId} {sz : Nat} {s : Sl} {xs : List Value} (h : Own w B e sz s xs) (k : Keep w w') : Own w' B e sz s xs := by
  obtain ⟨hl, h⟩ := h
  refine ⟨hl, ?_⟩
  rcases h with h | ⟨g, cap, cur, hv, hg, hh, r⟩
  · exact .inl h
  · exact .inr ⟨g, cap, cur, hv, hg, k.heap hh, r⟩
theorem Own.only {w w' : World} {B g' : Nat} {e : TypeId} {sz : Nat} {s : Sl} {xs : List Value} (h : Own w B e sz s xs) (k : Only g' w w') (hne : s.v.ownBlock ≠ some g') : Own w' B e sz s xs := by
  obtain ⟨hl, h⟩ := h
  refine ⟨hl, ?_⟩
  rcases h with h | ⟨g, cap, cur, hv, hg, hh, r⟩
  · exact .inl h
  · refine .inr ⟨g, cap, cur, hv, hg, k.heap hh (fun e => hne ?_), r⟩
    rw [hv, e]; rfl
theorem Own.mono {w : World} {B B' : Nat} {e : TypeId} {sz : Nat} {s : Sl} {xs : List Value} (h : Own w B e sz s xs) (hB : B' ≤ B) : Own w B' e sz s xs := by
  obtain ⟨hl, h⟩ := h
  refine ⟨hl, ?_⟩
  rcases h with h | ⟨g, cap, cur, hv, hg, r⟩
  · exact .inl h
  · exact .inr ⟨g, cap, cur, hv, Nat.le_trans hB hg, r⟩

/-- What is known of a slice type. -/
structure TI (P : Program) (t e : TypeId) (sz bytes : Nat) : Prop where
  ht : P.underlying t = some (.slice e)
  hi : ∃ i z, P.info? e = some i ∧ i.zero = some z ∧ i.size = sz ∧ i.bytes = bytes ∧ z.cells.size = sz
  pos : 0 < sz

theorem TI.of {P : Program} {t e : TypeId} {sz bytes : Nat} {z : Value} (ht : P.underlying t = some (.slice e)) (h : (P.info? e).map (fun i => (i.zero, i.size, i.bytes)) = some (some z, sz, bytes)) (hz : z.cells.size = sz) (pos : 0 < sz) : TI P t e sz bytes := by
  refine ⟨ht, ?_, pos⟩
  cases hi : P.info? e with
  | none => rw [hi] at h; cases h
  | some i =>
    rw [hi] at h
    simp only [Option.map_some, Option.some.injEq, Prod.mk.injEq] at h
    exact ⟨i, z, rfl, h.1, h.2.1, h.2.2, hz⟩

/-- What append has touched: the row's own block, or it made a new one. -/
def Touch (w w' : World) (s r : Sl) : Prop := w.grownBy w' s.v.ownBlock ∧ (r.v.ownBlock = s.v.ownBlock ∨ r.v.ownBlock = some w.heap.size)

theorem run_append_nil' {P : Program} {w : World} {B : Nat} {t ty e : TypeId} {sz bytes : Nat} (ti : TI P t e sz bytes) {s x : Sl} {xs : List Value} (ho : Own w B e sz s xs) (hx : x.n = 0) :
    (Builtin.append_ #[t, t] ty #[s.v, x.v]).run P w = .ok s.v w := by
  obtain ⟨i, z, hi, hz, hsz, hb, hzs⟩ := ti.hi
  have hf : (Builtin.firstCells sz 0 x.v).run P w = .ok #[] w := by
    cases x with
    | mk a n c => cases a <;> simp [Builtin.firstCells, loadCells, loadCellsFrom]
  rcases ho.cases with ⟨rfl, rfl⟩ | ⟨g, cur, ha, hg, hb', hn, hm, hl, ht⟩
  · simp [Builtin.append_, run_underlying ti.ht, sizeOf, typeInfo, hi, Builtin.lenOf, hx, hsz, hf, nilS]
  · cases s with
    | mk a n c =>
      simp only at ha hn
      subst ha
      simp [Builtin.append_, run_underlying ti.ht, sizeOf, typeInfo, hi, Builtin.lenOf, hx, hsz, hf, hn, storeCells]

theorem append_own {P : Program} {t ty e : TypeId} {sz bytes : Nat} (ti : TI P t e sz bytes) {w0 w : World} {B : Nat} {s x : Sl} {xs ys : List Value}
    (hb : Below B w0 w) (hB : B ≤ w.heap.size) (ho : Own w B e sz s xs) (hx : Rd w x sz ys) (h1 : ∀ v ∈ ys, v.oneCell' = true) (hm : s.n + x.n ≤ maxLen) (hy : (s.n + x.n) * bytes ≤ 140737488355328)
    {K : Sl → World → Prop} (hK : ∀ r w', Below B w0 w' → Own w' B e sz r (xs ++ ys) → r.n = s.n + x.n → Touch w w' s r → K r w') :
    G.runSl P (Builtin.append_ #[t, t] ty #[s.v, x.v]) w K := by
  by_cases h0 : x.n = 0
  · have hys : ys = [] := List.eq_nil_of_length_eq_zero (by rw [hx.2.1, h0]; simp)
    subst hys
    exact ⟨s, w, run_append_nil' ti ho h0, hK s w hb (by simpa using ho) (by omega) ⟨⟨rfl, rfl, rfl, Nat.le_refl _, fun _ _ _ => rfl⟩, .inl rfl⟩⟩
  · obtain ⟨g, o, ha, hc⟩ := hx.at_ (i := 0) (by omega) ti.pos
    obtain ⟨i, z, hi, hz, hsz, hby, hzs⟩ := ti.hi
    obtain ⟨v', w', hrun, h2, h3, _, h5⟩ := run_append_own_at (P := P) w B t ty e i z sz bytes ti.ht hi hz hsz hby hzs ti.pos s.v s.n xs ho ⟨g, o, none⟩ x.n x.c ys hx.2.1
      (fun j u hu => by rw [addr_add]; exact hc j u hu) h1 hm hy hB
    have hv : ∃ r : Sl, v' = r.v ∧ r.n = s.n + x.n := by
      rcases h2.2 with ⟨rfl, hn⟩ | ⟨g', cap, cur, rfl, _⟩
      · exact ⟨nilS, rfl, by simp; omega⟩
      · exact ⟨⟨_, _, _⟩, rfl, rfl⟩
    obtain ⟨r, rfl, hrn⟩ := hv
    refine ⟨r, w', ?_, hK r w' ?_ ?_ hrn ⟨h3, h5⟩⟩
    · have : x.v = .slice (some ⟨g, o, none⟩) x.n x.c := by rw [← ha]
      rw [this]; exact hrun
    · refine hb.grown h3 hB fun k hk => ?_
      exact (World.ownsRow.lt ho k hk).1
    · rw [← hrn] at h2; exact h2

theorem rd_new {w : World} {e : TypeId} {cs : Array Value} {n sz : Nat} (hl : cs.size = n * sz) : Rd (w.alloc (.cells cs e)) ⟨some ⟨w.heap.size, 0, none⟩, n, n⟩ sz cs.toList := by
  refine ⟨Nat.le_refl _, by simpa using hl, fun _ => ⟨w.heap.size, 0, rfl, fun j v hv => ?_⟩⟩
  rw [(Blk.new w e cs).cell, Nat.zero_add]; exact hv

/-- append of elements that are written out. -/
theorem push_own {P : Program} {t ty e : TypeId} {sz bytes : Nat} (ti : TI P t e sz bytes) {w0 w : World} {B n : Nat} {s : Sl} {xs : List Value} {cs : Array Value}
    (hb : Below B w0 w) (hB : B ≤ w.heap.size) (ho : Own w B e sz s xs) (hl : cs.size = n * sz) (h1 : ∀ v ∈ cs.toList, v.oneCell' = true) (hm : s.n + n ≤ maxLen) (hy : (s.n + n) * bytes ≤ 140737488355328)
    {K : Sl → World → Prop} (hK : ∀ r w', Below B w0 w' → Own w' B e sz r (xs ++ cs.toList) → r.n = s.n + n → K r w') :
    G.new (.cells cs e) w fun p w1 => G.runSl P (Builtin.append_ #[t, t] ty #[s.v, (⟨some p, n, n⟩ : Sl).v]) w1 K := by
  unfold G.new
  refine append_own ti (hb.alloc hB _) (by simp; omega) (ho.keep (Keep.alloc w _)) (rd_new hl) h1 hm hy fun r w' k1 k2 k3 _ => hK r w' k1 k2 k3


/-- make. -/
theorem make_own {P : Program} {t e : TypeId} {sz bytes : Nat} (ti : TI P t e sz bytes) {kl kc : IntKind} {n c : Nat} {w0 w : World} {B : Nat} (hb : Below B w0 w) (hB : B ≤ w.heap.size) (hnc : n ≤ c) (hm : c ≤ maxLen) (hy : bytes * c ≤ 281474976710656)
    {K : Sl → World → Prop} (hK : ∀ z r w', (P.info? e).map (·.zero) = some (some z) → z.cells.size = sz → Below B w0 w' → Keep w w' → Own w' B e sz r ((madeCells z.cells (c * sz)).toList.take (n * sz)) → r.n = n → r.c = c → r.a = some ⟨w.heap.size, 0, none⟩ → K r w') :
    G.runSl P (Instr.makeSlice t (.int kl (n : Int)) (.int kc (c : Int))) w K := by
  obtain ⟨i, z, hi, hz, hsz, hby, hzs⟩ := ti.hi
  have hm' := hm
  simp only [maxLen] at hm'
  have hy' : (bytes : Int) * (c : Int) ≤ 281474976710656 := by
    have h : ((bytes * c : Nat) : Int) ≤ 281474976710656 := by omega
    rwa [Int.natCast_mul] at h
  have hr := run_make (P := P) w t e i z ti.ht hi hz kl kc n c (by omega) (by omega) (by rw [hby]; exact hy') (by omega)
  simp only [Int.toNat_natCast, hsz] at hr
  refine ⟨⟨some ⟨w.heap.size, 0, none⟩, n, c⟩, _, hr, hK z _ _ (by rw [hi]; simp [hz]) hzs (hb.alloc hB _) (Keep.alloc _ _) ?_ rfl rfl rfl⟩
  exact Own.mk' hB (Blk.new w e _) hnc hm (by rw [Array.length_toList, size_madeCells]) rfl

end Go.Proofs.Ytaciaidehamfgaa.Mem
