/- (of elder texts) Slices of slices of bytes. Own work. -/
import Derived.Test.YtdaghggdmgbpnaaDoorBytes
import Derived.Test.YtdaghggdmgbpnaaDoorCa
namespace Go.Proofs.YtdaghggdmgbpnaaDoor.Mem
open Go Vm Go.RowKit Num
abbrev Turn (o : Option Nat) (w w' : World) : Prop := w.grownBy w' o
theorem Keep.turn {w w' : World} (h : Keep w w') (o : Option Nat) : Turn o w w' := ⟨h.os, h.tape, h.output, h.size, fun k hk _ => h.block k hk⟩
theorem Turn.trans {o : Option Nat} {a b c : World} (h : Turn o a b) (k : Turn o b c) : Turn o a c :=
  ⟨k.os.trans h.os, k.tape.trans h.tape, k.output.trans h.output, Nat.le_trans h.size k.size, fun i hi hne => (k.block i (Nat.lt_of_lt_of_le hi h.size) hne).trans (h.block i hi hne)⟩
/-- What turns afterwards is new. -/
theorem Turn.then {o p : Option Nat} {a b c : World} (h : Turn o a b) (k : Turn p b c) (hp : ∀ g, p = some g → o = some g ∨ a.heap.size ≤ g) : Turn o a c :=
  ⟨k.os.trans h.os, k.tape.trans h.tape, k.output.trans h.output, Nat.le_trans h.size k.size, fun i hi hne =>
    (k.block i (Nat.lt_of_lt_of_le hi h.size) (fun e => (hp i e.symm).elim (fun e' => hne e'.symm) (fun e' => by omega))).trans (h.block i hi hne)⟩
theorem Turn.below {o : Option Nat} {B : Nat} {w0 w w' : World} (hb : Below B w0 w) (h : Turn o w w') (hB : B ≤ w.heap.size) (ho : ∀ k, o = some k → B ≤ k) : Below B w0 w' := hb.grown h hB ho
theorem Turn.heap {o : Option Nat} {w w' : World} (h : Turn o w w') {k : Nat} {x : Obj} (hk : w.heap[k]? = some x) (hne : o ≠ some k) : w'.heap[k]? = some x := by
  rw [h.block k (heap_lt hk) (fun e => hne e.symm)]; exact hk
theorem Turn.cell {o : Option Nat} {w w' : World} (h : Turn o w w') {a : Addr} {v : Value} (hc : w.cell? a = some v) (hne : o ≠ some a.block) : w'.cell? a = some v := by
  rw [World.cell?_of_block (w := w) (h.block a.block (cell_lt hc) (fun e => hne e.symm))]; exact hc
theorem Own.turn {w w' : World} {B : Nat} {e : TypeId} {sz : Nat} {s : Sl} {xs : List Value} {o : Option Nat} (h : Own w B e sz s xs) (k : Turn o w w') (hne : ∀ g, o = some g → s.v.ownBlock ≠ some g) : Own w' B e sz s xs := by
  obtain ⟨hl, h⟩ := h
  refine ⟨hl, ?_⟩
  rcases h with h | ⟨g, cap, cur, hv, hg, hh, r⟩
  · exact .inl h
  · refine .inr ⟨g, cap, cur, hv, hg, k.heap hh (fun e => hne g e ?_), r⟩
    rw [hv]; rfl
theorem Rd.turn {w w' : World} {s : Sl} {sz : Nat} {cs : List Value} {o : Option Nat} (h : Rd w s sz cs) (k : Turn o w w') (hne : ∀ g, o = some g → s.v.ownBlock ≠ some g) : Rd w' s sz cs :=
  ⟨h.1, h.2.1, fun hn => by
    obtain ⟨g, q, ha, hc⟩ := h.2.2 hn
    refine ⟨g, q, ha, fun j v hv => k.cell (hc j v hv) (fun e => hne g e ?_)⟩
    show (Value.slice s.a s.n s.c).ownBlock = _
    rw [ha]; rfl⟩
theorem Own.ge {w : World} {B : Nat} {e : TypeId} {sz : Nat} {s : Sl} {xs : List Value} (h : Own w B e sz s xs) {g : Nat} (hg : s.v.ownBlock = some g) : B ≤ g ∧ g < w.heap.size := World.ownsRow.lt h g hg
/-- Two rows, the second made behind the first. -/
theorem Own.ne {w w' : World} {B B' : Nat} {e e' : TypeId} {sz sz' : Nat} {s s' : Sl} {xs xs' : List Value} (h : Own w B e sz s xs) (h' : Own w' B' e' sz' s' xs') (hB : w.heap.size ≤ B') : ∀ g, s.v.ownBlock = some g → s'.v.ownBlock ≠ some g := by
  intro g hg hg'
  have := (h.ge hg).2
  have := (h'.ge hg').1
  omega
theorem tiBB : TI Tryd.prog 22 31 1 24 := TI.of (z := .slice none 0 0) (by kernel_rfl) (by kernel_rfl) rfl (by decide)
def hdrs (rs : List Sl) : List Value := rs.map Sl.v
theorem hdrs_one {rs : List Sl} : ∀ v ∈ hdrs rs, v.oneCell' = true := by
  intro v hv
  obtain ⟨b, _, rfl⟩ := List.mem_map.1 hv
  rfl
theorem hdrs_app (a b : List Sl) : hdrs (a ++ b) = hdrs a ++ hdrs b := List.map_append
/-- The headers read. -/
theorem Rd.hdr {w : World} {s : Sl} {rs : List Sl} (h : Rd w s 1 (hdrs rs)) {i : Nat} {r : Sl} (hi : rs[i]? = some r) {K : Sl → Prop} (hK : K r) : G.ix s.a s.n (i : Int) 1 fun p => G.cSl p w K := by
  have hlt : i < rs.length := (List.getElem?_eq_some_iff.1 hi).1
  have hn := h.2.1
  simp only [hdrs, List.length_map, Nat.mul_one] at hn
  refine Rd.ix h (by decide) (by omega) (by omega) fun a ha => ⟨r, ?_, hK⟩
  have := ha 0 r.v (by decide) (by simp [hdrs, hi])
  rw [show a.add 0 = a by simp [Addr.add]] at this
  exact this
/-- Slices of bytes that read as these lists. -/
structure RdBB (w : World) (s : Sl) (rs : List Sl) (ls : List (List UInt8)) : Prop where
  hdr : Rd w s 1 (hdrs rs)
  len : rs.length = ls.length
  el : ∀ (i : Nat) (r : Sl) (l : List UInt8), rs[i]? = some r → ls[i]? = some l → RdB w r l
theorem RdBB.n {w : World} {s : Sl} {rs : List Sl} {ls : List (List UInt8)} (h : RdBB w s rs ls) : s.n = ls.length := by
  have := h.hdr.2.1
  have := h.len
  simp [hdrs] at *
  omega
theorem RdBB.keep {w w' : World} {s : Sl} {rs : List Sl} {ls : List (List UInt8)} (h : RdBB w s rs ls) (k : Keep w w') : RdBB w' s rs ls := ⟨Rd.keep h.hdr k, h.len, fun i r l h1 h2 => Rd.keep (h.el i r l h1 h2) k⟩
theorem RdBB.get {w : World} {s : Sl} {rs : List Sl} {ls : List (List UInt8)} (h : RdBB w s rs ls) {i : Nat} (hi : i < ls.length) : ∃ r, rs[i]? = some r ∧ RdB w r ls[i] :=
  have hr : i < rs.length := by rw [h.len]; exact hi
  ⟨rs[i], List.getElem?_eq_getElem hr, h.el i _ _ (List.getElem?_eq_getElem hr) (List.getElem?_eq_getElem hi)⟩
def ne' (a b : Sl) : Prop := ∀ g, a.v.ownBlock = some g → b.v.ownBlock ≠ some g
/-- Slices of bytes, all of the call's own, each in a block of its own. -/
structure OwnBB (w : World) (B : Nat) (s : Sl) (rs : List Sl) (ls : List (List UInt8)) : Prop where
  hdr : Own w B 31 1 s (hdrs rs)
  len : rs.length = ls.length
  el : ∀ (i : Nat) (r : Sl) (l : List UInt8), rs[i]? = some r → ls[i]? = some l → OwnB w B r l
  ne : ∀ (i : Nat) (r : Sl), rs[i]? = some r → ne' s r
  apart : ∀ (i j : Nat) (r r' : Sl), i < j → rs[i]? = some r → rs[j]? = some r' → ne' r r'
theorem OwnBB.rd {w : World} {B : Nat} {s : Sl} {rs : List Sl} {ls : List (List UInt8)} (h : OwnBB w B s rs ls) : RdBB w s rs ls := ⟨Own.rd h.hdr, h.len, fun i r l h1 h2 => Own.rd (h.el i r l h1 h2)⟩
theorem OwnBB.keep {w w' : World} {B : Nat} {s : Sl} {rs : List Sl} {ls : List (List UInt8)} (h : OwnBB w B s rs ls) (k : Keep w w') : OwnBB w' B s rs ls :=
  ⟨Own.keep h.hdr k, h.len, fun i r l h1 h2 => Own.keep (h.el i r l h1 h2) k, h.ne, h.apart⟩
theorem OwnBB.nil (w : World) (B : Nat) : OwnBB w B nilS [] [] :=
  ⟨Own.nil w B _ 1, rfl, fun i r l h => by simp at h, fun i r h => by simp at h, fun i j r r' _ h => by simp at h⟩
theorem OwnBB.mono {w : World} {B B' : Nat} {s : Sl} {rs : List Sl} {ls : List (List UInt8)} (h : OwnBB w B s rs ls) (hB : B' ≤ B) : OwnBB w B' s rs ls :=
  ⟨Own.mono h.hdr hB, h.len, fun i r l h1 h2 => Own.mono (h.el i r l h1 h2) hB, h.ne, h.apart⟩
/-- append(s, r), r made behind all of s. -/
theorem pushBB {w0 w : World} {B : Nat} {s r : Sl} {rs : List Sl} {ls : List (List UInt8)} {l : List UInt8} (hb : Below B w0 w) (hB : B ≤ w.heap.size) (h : OwnBB w B s rs ls) (hr : OwnB w B r l)
    (hn : ∀ g, r.v.ownBlock = some g → s.v.ownBlock ≠ some g ∧ ∀ (i : Nat) (x : Sl), rs[i]? = some x → x.v.ownBlock ≠ some g) (hl : ls.length ≤ 5864062014800)
    {K : Sl → World → Prop} (hK : ∀ s' w', Below B w0 w' → OwnBB w' B s' (rs ++ [r]) (ls ++ [l]) → Turn s.v.ownBlock w w' → K s' w') :
    G.new (.cells #[r.v] 31) w fun p w1 => G.runSl Tryd.prog (Builtin.append_ #[22, 22] 22 #[s.v, (⟨some p, 1, 1⟩ : Sl).v]) w1 K := by
  have hsn := h.rd.n
  refine append_own tiBB (Below.alloc hb hB _) (by simp; omega) (Own.keep h.hdr (Keep.alloc w _)) (rd_new (n := 1) (sz := 1) (by rfl)) (by intro v hv; simp at hv; subst hv; rfl) (by simp only [maxLen]; omega) (by simp only; omega) fun s' w' k1 o1 hn' hT => ?_
  have ht : Turn s.v.ownBlock w w' := Turn.trans (Keep.turn (Keep.alloc w _) _) hT.1
  have hs' : ∀ g, s'.v.ownBlock = some g → s.v.ownBlock = some g ∨ w.heap.size < g := by
    intro g hg
    rcases hT.2 with e | e
    · rw [e] at hg; exact .inl hg
    · rw [e] at hg
      injection hg with hg
      simp at hg
      exact .inr (by omega)
  have hne : ∀ (x : Sl) (m : List UInt8), OwnB w B x m → ne' s x → OwnB w' B x m ∧ ne' s' x := fun x m hx hsx => by
    refine ⟨Own.turn hx ht hsx, fun g hg hg' => ?_⟩
    rcases hs' g hg with e | e
    · exact hsx g e hg'
    · have := (Own.ge hx hg').2; omega
  have hsr : ne' s r := fun g hg hg' => (hn g hg').1 hg
  refine hK s' w' k1 ⟨by rw [hdrs_app]; exact o1, by simp [h.len], fun i x m h1 h2 => ?_, fun i x h1 => ?_, fun i j x x' hij h1 h2 => ?_⟩ ht
  · rcases Nat.lt_or_ge i rs.length with hi | hi
    · rw [List.getElem?_append_left hi] at h1
      rw [List.getElem?_append_left (by rw [← h.len]; exact hi)] at h2
      exact (hne x m (h.el i x m h1 h2) (h.ne i x h1)).1
    · rw [List.getElem?_append_right hi] at h1
      rw [List.getElem?_append_right (by rw [← h.len]; exact hi)] at h2
      have h0 : i - rs.length = 0 := by
        have := (List.getElem?_eq_some_iff.1 h1).1
        simp at this; omega
      rw [h0] at h1
      rw [← h.len, h0] at h2
      simp at h1 h2
      subst h1 h2
      exact (hne r l hr hsr).1
  · rcases Nat.lt_or_ge i rs.length with hi | hi
    · rw [List.getElem?_append_left hi] at h1
      have hm : i < ls.length := by rw [← h.len]; exact hi
      exact (hne x _ (h.el i x _ h1 (List.getElem?_eq_getElem hm)) (h.ne i x h1)).2
    · rw [List.getElem?_append_right hi] at h1
      have h0 : i - rs.length = 0 := by
        have := (List.getElem?_eq_some_iff.1 h1).1
        simp at this; omega
      rw [h0] at h1
      simp at h1
      subst h1
      exact (hne r l hr hsr).2
  · rcases Nat.lt_or_ge j rs.length with hj | hj
    · rw [List.getElem?_append_left hj] at h2
      rw [List.getElem?_append_left (by omega)] at h1
      exact h.apart i j x x' hij h1 h2
    · rw [List.getElem?_append_right hj] at h2
      have h0 : j - rs.length = 0 := by
        have := (List.getElem?_eq_some_iff.1 h2).1
        simp at this; omega
      have hi : i < rs.length := by omega
      rw [h0] at h2
      rw [List.getElem?_append_left hi] at h1
      simp at h2
      subst h2
      intro g hg hg'
      exact (hn g hg').2 i x h1 hg
/-- The same, where r was made behind the world w1 in which the rest stood. -/
theorem OwnBB.fresh {w1 w : World} {B B' : Nat} {s r : Sl} {rs : List Sl} {ls : List (List UInt8)} {l : List UInt8} (h : OwnBB w1 B s rs ls) (hr : OwnB w B' r l) (hB : w1.heap.size ≤ B') :
    ∀ g, r.v.ownBlock = some g → s.v.ownBlock ≠ some g ∧ ∀ (i : Nat) (x : Sl), rs[i]? = some x → x.v.ownBlock ≠ some g := by
  intro g hg
  have := (Own.ge hr hg).1
  refine ⟨fun e => by have := (Own.ge h.hdr e).2; omega, fun i x hx e => ?_⟩
  have hi := (List.getElem?_eq_some_iff.1 hx).1
  have := (Own.ge (h.el i x _ hx (List.getElem?_eq_getElem (by rw [← h.len]; exact hi))) e).2
  omega
end Go.Proofs.YtdaghggdmgbpnaaDoor.Mem
