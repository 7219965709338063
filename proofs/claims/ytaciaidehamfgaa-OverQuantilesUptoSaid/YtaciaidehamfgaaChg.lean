/- Calls that turn several blocks. Own work. -/
import Derived.Test.YtaciaidehamfgaaBytes
namespace Go.Proofs.Ytaciaidehamfgaa.Mem
open Go Vm Go.RowKit Num

/-- Only blocks of X may have turned, of what was there. -/
structure Chg (X : Nat → Prop) (w w' : World) : Prop where
  os : w'.os = w.os
  tape : w'.tape = w.tape
  output : w'.output = w.output
  size : w.heap.size ≤ w'.heap.size
  block : ∀ k, k < w.heap.size → ¬ X k → w'.heap[k]? = w.heap[k]?
theorem Chg.refl (X : Nat → Prop) (w : World) : Chg X w w := ⟨rfl, rfl, rfl, Nat.le_refl _, fun _ _ _ => rfl⟩
theorem Chg.then {X Y : Nat → Prop} {a b c : World} (h : Chg X a b) (k : Chg Y b c) (hY : ∀ g, Y g → X g ∨ a.heap.size ≤ g) : Chg X a c :=
  ⟨k.os.trans h.os, k.tape.trans h.tape, k.output.trans h.output, Nat.le_trans h.size k.size, fun i hi hne =>
    (k.block i (Nat.lt_of_lt_of_le hi h.size) (fun e => (hY i e).elim hne (fun e' => by omega))).trans (h.block i hi hne)⟩
theorem Chg.mono {X Y : Nat → Prop} {a b : World} (h : Chg X a b) (hX : ∀ g, X g → Y g ∨ a.heap.size ≤ g) : Chg Y a b := Chg.then (Chg.refl Y a) h hX
theorem Keep.chg {w w' : World} (h : Keep w w') (X : Nat → Prop) : Chg X w w' := ⟨h.os, h.tape, h.output, h.size, fun k hk _ => h.block k hk⟩
theorem Chg.below {X : Nat → Prop} {B : Nat} {w0 w w' : World} (hb : Below B w0 w) (h : Chg X w w') (hB : B ≤ w.heap.size) (hX : ∀ k, X k → B ≤ k) : Below B w0 w' :=
  Below.trans hb ⟨h.os, h.tape, h.output, h.size, fun k hk => h.block k (by omega) (fun e => by have := hX k e; omega)⟩
theorem Chg.heap {X : Nat → Prop} {w w' : World} (h : Chg X w w') {k : Nat} {x : Obj} (hk : w.heap[k]? = some x) (hne : ¬ X k) : w'.heap[k]? = some x := by
  rw [h.block k (heap_lt hk) hne]; exact hk
theorem Chg.cell {X : Nat → Prop} {w w' : World} (h : Chg X w w') {a : Addr} {v : Value} (hc : w.cell? a = some v) (hne : ¬ X a.block) : w'.cell? a = some v := by
  rw [World.cell?_of_block (w := w) (h.block a.block (cell_lt hc) hne)]; exact hc
theorem Blk.chg {X : Nat → Prop} {w w' : World} {g : Nat} {e : TypeId} {cs : List Value} (h : Blk w g e cs) (k : Chg X w w') (hne : ¬ X g) : Blk w' g e cs := k.heap h hne
theorem Own.chg {X : Nat → Prop} {w w' : World} {B : Nat} {e : TypeId} {sz : Nat} {s : Sl} {xs : List Value} (h : Own w B e sz s xs) (k : Chg X w w') (hne : ∀ g, s.v.ownBlock = some g → ¬ X g) : Own w' B e sz s xs := by
  obtain ⟨hl, h⟩ := h
  refine ⟨hl, ?_⟩
  rcases h with h | ⟨g, cap, cur, hv, hg, hh, r⟩
  · exact .inl h
  · refine .inr ⟨g, cap, cur, hv, hg, k.heap hh (hne g (by rw [hv]; rfl)), r⟩
theorem Rd.chg {X : Nat → Prop} {w w' : World} {s : Sl} {sz : Nat} {cs : List Value} (h : Rd w s sz cs) (k : Chg X w w') (hne : ∀ g, s.v.ownBlock = some g → ¬ X g) : Rd w' s sz cs :=
  ⟨h.1, h.2.1, fun hn => by
    obtain ⟨g, q, ha, hc⟩ := h.2.2 hn
    refine ⟨g, q, ha, fun j v hv => k.cell (hc j v hv) (hne g ?_)⟩
    show (Value.slice s.a s.n s.c).ownBlock = _
    rw [ha]; rfl⟩
theorem Own.geC {w : World} {B : Nat} {e : TypeId} {sz : Nat} {s : Sl} {xs : List Value} (h : Own w B e sz s xs) {g : Nat} (hg : s.v.ownBlock = some g) : B ≤ g ∧ g < w.heap.size := World.ownsRow.lt h g hg
theorem grown_chg {w w' : World} {o : Option Nat} (h : w.grownBy w' o) : Chg (fun k => o = some k) w w' := ⟨h.os, h.tape, h.output, h.size, fun k hk hne => h.block k hk (fun e => hne e.symm)⟩
theorem setCell_chg (w : World) (g o : Nat) (v : Value) : Chg (fun k => k = g) w (w.setCell ⟨g, o, none⟩ v) := ⟨rfl, rfl, rfl, by simp [World.setCell], fun k _ hne => Below.heap_setCell _ _ _ _ hne⟩

/-- A store into a row of the call's own. -/
theorem Own.stC {w : World} {B : Nat} {e : TypeId} {s : Sl} {xs : List Value} (h : Own w B e 1 s xs) {i : Nat} (hi : i < s.n) (v : Value) {K : World → Prop}
    (hK : ∀ w', Chg (fun k => s.v.ownBlock = some k) w w' → Own w' B e 1 s (xs.set i v) → K w') : G.ix s.a s.n (i : Int) 1 fun p => G.st p v w K := by
  rcases h.cases with ⟨rfl, rfl⟩ | ⟨g, cur, ha, hg, hb, hn, hm, hl, ht⟩
  · exact absurd hi (Nat.not_lt_zero _)
  · rw [ha]
    refine ⟨⟨by omega, by omega⟩, ?_⟩
    rw [addr_add, Int.toNat_natCast, Nat.mul_one, Nat.zero_add]
    have hlt : i < cur.length := by omega
    refine ⟨⟨cur[i], by rw [hb.cell, List.getElem?_eq_getElem hlt]⟩, hb.frozen i, hK _ ?_ ?_⟩
    · refine (setCell_chg w g i v).mono fun k hk => .inl ?_
      show (Value.slice s.a s.n s.c).ownBlock = _
      rw [ha, hk]; rfl
    · have hs : s = ⟨some ⟨g, 0, none⟩, s.n, s.c⟩ := by rw [← ha]
      rw [hs]
      refine Own.mk' hg (hb.set i v) hn hm (by rw [List.length_set]; exact hl) ?_
      rw [← ht, List.take_set]
/-- append of written bytes, with what has turned. -/
theorem pushC {P : Program} {t ty e : TypeId} {sz bytes : Nat} (ti : TI P t e sz bytes) {w : World} {B n : Nat} {s : Sl} {xs : List Value} {cs : Array Value}
    (hB : B ≤ w.heap.size) (ho : Own w B e sz s xs) (hl : cs.size = n * sz) (h1 : ∀ v ∈ cs.toList, v.oneCell' = true) (hm : s.n + n ≤ maxLen) (hy : (s.n + n) * bytes ≤ 140737488355328)
    {K : Sl → World → Prop} (hK : ∀ r w', Chg (fun k => s.v.ownBlock = some k) w w' → Own w' B e sz r (xs ++ cs.toList) → r.n = s.n + n → (r.v.ownBlock = s.v.ownBlock ∨ ∀ k, r.v.ownBlock = some k → w.heap.size ≤ k) → K r w') :
    G.new (.cells cs e) w fun p w1 => G.runSl P (Builtin.append_ #[t, t] ty #[s.v, (⟨some p, n, n⟩ : Sl).v]) w1 K := by
  unfold G.new
  refine append_own ti (Below.alloc (Below.refl B w) hB _) (by simp; omega) (ho.keep (Keep.alloc w _)) (rd_new hl) h1 hm hy fun r w' k1 k2 k3 hT => hK r w' ?_ k2 k3 ?_
  · exact Chg.then (Keep.chg (Keep.alloc w _) _) (grown_chg hT.1) fun g hg => .inl hg
  · rcases hT.2 with e | e
    · exact .inl e
    · right
      intro k hk
      rw [e] at hk
      injection hk with hk
      simp at hk
      omega
theorem cI_at {k : IntKind} {a : Addr} {w : World} {n : Int} (h : w.cell? a = some (.int k n)) {K : Int → Prop} (hK : K n) : G.cI k a w K := ⟨n, h, hK⟩
theorem cSl_at {a : Addr} {w : World} {s : Sl} (h : w.cell? a = some s.v) {K : Sl → Prop} (hK : K s) : G.cSl a w K := ⟨s, h, hK⟩
theorem ptr_at {a : Addr} {K : Addr → Prop} (h : K a) : G.ptr (some a) K := h
theorem st_at {a : Addr} {v u : Value} {w : World} (h : w.cell? a = some u) (hf : w.frozen? a = false) {K : World → Prop} (hK : K (w.setCell a v)) : G.st a v w K := ⟨⟨u, h⟩, hf, hK⟩
theorem new_at {o : Obj} {w : World} {K : Addr → World → Prop} (h : K ⟨w.heap.size, 0, none⟩ (w.alloc o)) : G.new o w K := h
theorem ptr_some {a : Addr} {K : Addr → Prop} (h : K a) : G.ptr (some a) K := h
theorem add_block (a : Addr) (n : Nat) : (a.add n).block = a.block := by unfold Addr.add; split <;> rfl
theorem same_chg {X : Nat → Prop} {w w' : World} {a : Addr} {n : Nat} (h : Chg X w w') (hb : a.block < w.heap.size) (hn : ¬ X a.block) : sameAt a n w w' :=
  ⟨World.cell?_of_block (h.block _ hb hn), fun i _ => World.cell?_of_block (h.block _ (by rw [add_block]; exact hb) (by rw [add_block]; exact hn))⟩
theorem same_keep {w w' : World} {a : Addr} {n : Nat} (h : Keep w w') (hb : a.block < w.heap.size) : sameAt a n w w' := same_chg (X := fun _ => False) (Keep.chg h _) hb (fun h => h)
/-- append, with what has turned. -/
theorem appC {P : Program} {t ty e : TypeId} {sz bytes : Nat} (ti : TI P t e sz bytes) {w : World} {B : Nat} {s x : Sl} {xs ys : List Value}
    (hB : B ≤ w.heap.size) (ho : Own w B e sz s xs) (hx : Rd w x sz ys) (h1 : ∀ v ∈ ys, v.oneCell' = true) (hm : s.n + x.n ≤ maxLen) (hy : (s.n + x.n) * bytes ≤ 140737488355328)
    {K : Sl → World → Prop} (hK : ∀ r w', Chg (fun k => s.v.ownBlock = some k) w w' → Own w' B e sz r (xs ++ ys) → r.n = s.n + x.n → (r.v.ownBlock = s.v.ownBlock ∨ ∀ k, r.v.ownBlock = some k → w.heap.size ≤ k) → K r w') :
    G.runSl P (Builtin.append_ #[t, t] ty #[s.v, x.v]) w K :=
  append_own ti (Below.refl B w) hB ho hx h1 hm hy fun r w' _ k2 k3 hT => hK r w' (grown_chg hT.1) k2 k3 (by
    rcases hT.2 with e | e
    · exact .inl e
    · right
      intro k hk
      rw [e] at hk
      injection hk with hk
      omega)
end Go.Proofs.Ytaciaidehamfgaa.Mem
