/- Blocks and whose they are: each block of memory bears a tag, that only the proof sees. What a call with an object of tag t does turns blocks of tag t alone. Own work. -/
import Derived.Test.YtaciaidehamfgaaChg
namespace Go.Proofs.Ytaciaidehamfgaa.Mem
open Go Vm Go.RowKit Num

abbrev Tg := Nat → Nat
/-- New blocks are of tag t. -/
def ext (ω : Tg) (n t : Nat) : Tg := fun k => if k < n then ω k else t
theorem ext_old {ω : Tg} {n t k : Nat} (h : k < n) : ext ω n t k = ω k := if_pos h
theorem ext_new {ω : Tg} {n t k : Nat} (h : n ≤ k) : ext ω n t k = t := if_neg (by omega)
/-- Of what was there only blocks whose tag is in T may have turned. -/
structure Stp (T : Nat → Bool) (ω ω' : Tg) (w w' : World) : Prop where
  os : w'.os = w.os
  tape : w'.tape = w.tape
  output : w'.output = w.output
  size : w.heap.size ≤ w'.heap.size
  same : ∀ k, k < w.heap.size → ω' k = ω k
  block : ∀ k, k < w.heap.size → T (ω k) = false → w'.heap[k]? = w.heap[k]?
abbrev Non : Nat → Bool := fun _ => false
abbrev One (t : Nat) : Nat → Bool := fun u => Nat.beq u t
abbrev Duo (t s : Nat) : Nat → Bool := fun u => Nat.beq u t || Nat.beq u s
theorem beq_no {a b : Nat} (h : a ≠ b) : Nat.beq a b = false := beq_ff h
theorem one_self (t : Nat) : One t t = true := by simp [One]

variable {T T' : Nat → Bool} {ω ω' ω'' : Tg} {w w' w'' w0 : World}
theorem Stp.refl (T : Nat → Bool) (ω : Tg) (w : World) : Stp T ω ω w w := ⟨rfl, rfl, rfl, Nat.le_refl _, fun _ _ => rfl, fun _ _ _ => rfl⟩
theorem Stp.trans (h : Stp T ω ω' w w') (k : Stp T ω' ω'' w' w'') : Stp T ω ω'' w w'' :=
  ⟨k.os.trans h.os, k.tape.trans h.tape, k.output.trans h.output, Nat.le_trans h.size k.size, fun i hi => (k.same i (Nat.lt_of_lt_of_le hi h.size)).trans (h.same i hi), fun i hi hT =>
    (k.block i (Nat.lt_of_lt_of_le hi h.size) (by rw [h.same i hi]; exact hT)).trans (h.block i hi hT)⟩
theorem Stp.mono (h : Stp T ω ω' w w') (hT : ∀ u, T' u = false → T u = false) : Stp T' ω ω' w w' := ⟨h.os, h.tape, h.output, h.size, h.same, fun k hk hn => h.block k hk (hT _ hn)⟩
theorem Stp.non (h : Stp Non ω ω' w w') (T : Nat → Bool) : Stp T ω ω' w w' := h.mono fun _ _ => rfl
theorem Stp.one {t s : Nat} (h : Stp (One t) ω ω' w w') : Stp (Duo t s) ω ω' w w' := h.mono fun u hu => by simp only [Duo, Bool.or_eq_false_iff] at hu; exact hu.1
theorem Stp.two {t s : Nat} (h : Stp (One s) ω ω' w w') : Stp (Duo t s) ω ω' w w' := h.mono fun u hu => by simp only [Duo, Bool.or_eq_false_iff] at hu; exact hu.2
theorem Keep.stp (k : Keep w w') (ω : Tg) (t : Nat) : Stp Non ω (ext ω w.heap.size t) w w' := ⟨k.os, k.tape, k.output, k.size, fun _ hi => ext_old hi, fun i hi _ => k.block i hi⟩
theorem Keep.stp0 (k : Keep w w') (ω : Tg) : Stp Non ω ω w w' := ⟨k.os, k.tape, k.output, k.size, fun _ _ => rfl, fun i hi _ => k.block i hi⟩
theorem Stp.keep (h : Stp Non ω ω' w w') : Keep w w' := ⟨h.os, h.tape, h.output, h.size, fun k hk => h.block k hk rfl⟩
theorem Chg.stp {X : Nat → Prop} {t : Nat} (h : Chg X w w') (hX : ∀ k, X k → ω k = t) : Stp (One t) ω (ext ω w.heap.size t) w w' :=
  ⟨h.os, h.tape, h.output, h.size, fun _ hi => ext_old hi, fun k hk hT => h.block k hk fun hx => by rw [hX k hx, one_self] at hT; cases hT⟩
theorem drew_stp (ω : Tg) (w : World) : Stp Non ω ω w w.drew := (Keep.drew w).stp0 ω

/-- From a law's first world on: all that was there is as it was, and is of tag 0. -/
structure Top (w0 : World) (ω : Tg) (w : World) : Prop where
  k : Keep w0 w
  z : ∀ k, k < w0.heap.size → ω k = 0
theorem Top.init (w : World) : Top w (fun _ => 0) w := ⟨Keep.refl w, fun _ _ => rfl⟩
theorem Top.stp (h : Top w0 ω w) (s : Stp T ω ω' w w') (h0 : T 0 = false := by rfl) : Top w0 ω' w' :=
  ⟨Below.trans h.k ⟨s.os, s.tape, s.output, s.size, fun i hi => s.block i (Nat.lt_of_lt_of_le hi h.k.size) (by rw [h.z i hi]; exact h0)⟩, fun i hi => (s.same i (Nat.lt_of_lt_of_le hi h.k.size)).trans (h.z i hi)⟩

/-! ## A block that is known whole -/
structure BT (ω : Tg) (w : World) (t g : Nat) (e : TypeId) (cs : List Value) : Prop where
  blk : Blk w g e cs
  tag : ω g = t
variable {t u g : Nat} {e : TypeId} {cs : List Value}
theorem BT.stp (h : BT ω w t g e cs) (s : Stp T ω ω' w w') (ne : T t = false := by rfl) : BT ω' w' t g e cs :=
  ⟨by unfold Blk; rw [s.block g h.blk.lt (by rw [h.tag]; exact ne)]; exact h.blk, (s.same g h.blk.lt).trans h.tag⟩
theorem BT.cell (h : BT ω w t g e cs) (j : Nat) : w.cell? ⟨g, j, none⟩ = cs[j]? := h.blk.cell j
theorem BT.same (h : BT ω w t g e cs) (s : Stp T ω ω' w w') (ne : T t = false) (j n : Nat) : sameAt ⟨g, j, none⟩ n w w' := by
  have hb : w'.heap[g]? = w.heap[g]? := s.block g h.blk.lt (by rw [h.tag]; exact ne)
  refine ⟨World.cell?_of_block hb, fun i _ => World.cell?_of_block ?_⟩
  rw [add_block]; exact hb
theorem BT.sameT (h : BT ω w t g e cs) (s : Stp T ω ω' w w') {j n : Nat} (ne : T t = false := by rfl) : sameAt ⟨g, j, none⟩ n w w' := h.same s ne j n
theorem BT.sameA (h : BT ω w t g e cs) (s : Stp T ω ω' w w') {i j n : Nat} (ne : T t = false := by rfl) : sameAt (Addr.add ⟨g, i, none⟩ j) n w w' := by rw [addr_add]; exact h.same s ne _ n
/-- A new block. -/
theorem new_T (t : Nat) {o : Array Value} {K : Addr → World → Prop} (hK : ∀ g ω' w', Stp Non ω ω' w w' → BT ω' w' t g e o.toList → K ⟨g, 0, none⟩ w') : G.new (.cells o e) w K :=
  hK w.heap.size (ext ω w.heap.size t) _ ((Keep.alloc w _).stp ω t) ⟨Blk.new w e o, ext_new (Nat.le_refl _)⟩
theorem st_T {j : Nat} {v : Value} (h : BT ω w t g e cs) (hj : j < cs.length) {K : World → Prop} (hK : ∀ ω' w', Stp (One t) ω ω' w w' → BT ω' w' t g e (cs.set j v) → K w') : G.st ⟨g, j, none⟩ v w K := by
  refine st_at (by rw [h.cell, List.getElem?_eq_getElem hj]) (h.blk.frozen j) (hK (ext ω w.heap.size t) _ (Chg.stp (setCell_chg w g j v) fun k hk => by rw [hk]; exact h.tag) ⟨h.blk.set j v, ?_⟩)
  rw [ext_old h.blk.lt]; exact h.tag
theorem st_TA {i j : Nat} {v : Value} (h : BT ω w t g e cs) (hj : i + j < cs.length) {K : World → Prop} (hK : ∀ ω' w', Stp (One t) ω ω' w w' → BT ω' w' t g e (cs.set (i + j) v) → K w') : G.st (Addr.add ⟨g, i, none⟩ j) v w K := by
  rw [addr_add]; exact st_T h hj hK

/-! ## A slice of the call's own -/
structure OT (ω : Tg) (w : World) (t : Nat) (e : TypeId) (sz : Nat) (s : Sl) (xs : List Value) : Prop where
  own : Own w 0 e sz s xs
  tag : ∀ k, s.v.ownBlock = some k → ω k = t
variable {sz : Nat} {s : Sl} {xs : List Value}
theorem OT.lt (h : OT ω w t e sz s xs) {k : Nat} (hk : s.v.ownBlock = some k) : k < w.heap.size := (Own.geC h.own hk).2
theorem OT.nil (ω : Tg) (w : World) (t : Nat) (e : TypeId) (sz : Nat) : OT ω w t e sz nilS [] := ⟨Own.nil w 0 e sz, fun k hk => by simp [Value.ownBlock] at hk⟩
theorem OT.stp (h : OT ω w t e sz s xs) (k : Stp T ω ω' w w') (ne : T t = false := by rfl) : OT ω' w' t e sz s xs := by
  refine ⟨?_, fun g hg => (k.same g (h.lt hg)).trans (h.tag g hg)⟩
  obtain ⟨hl, ho⟩ := h.own
  refine ⟨hl, ?_⟩
  rcases ho with ho | ⟨g, cap, cur, hv, hg, hh, r⟩
  · exact .inl ho
  · have hb : s.v.ownBlock = some g := by rw [hv]; rfl
    refine .inr ⟨g, cap, cur, hv, hg, ?_, r⟩
    rw [k.block g (h.lt hb) (by rw [h.tag g hb]; exact ne)]; exact hh
/-- New memory of a call that only makes memory. -/
theorem Own.tag {B : Nat} (h : Own w' B e sz s xs) (hB : w.heap.size ≤ B) (ω : Tg) (t : Nat) : OT (ext ω w.heap.size t) w' t e sz s xs :=
  ⟨Own.mono h (Nat.zero_le _), fun _ hk => ext_new (Nat.le_trans hB (Own.geC h hk).1)⟩
theorem OT.rd (h : OT ω w t e sz s xs) : Rd w s sz xs := Own.rd h.own
/-- An element, and where it lies. -/
theorem OT.ix (h : OT ω w t e sz s xs) (_ : 0 < sz) {i : Int} (h0 : 0 ≤ i) (h1 : i < s.n) {K : Addr → Prop}
    (hK : ∀ a : Addr, a.block < w.heap.size → ω a.block = t → (∀ j v, j < sz → xs[i.toNat * sz + j]? = some v → w.cell? (a.add j) = some v) → K a) : G.ix s.a s.n i sz K := by
  rcases h.own.cases with ⟨rfl, rfl⟩ | ⟨g, cur, ha, hg, hb, hn, hm, hl, ht⟩
  · simp at h1; omega
  · rw [ha]
    have hbk : s.v.ownBlock = some g := by show (Value.slice s.a s.n s.c).ownBlock = _; rw [ha]; rfl
    refine ⟨⟨h0, h1⟩, hK _ (by rw [add_block]; exact hb.lt) (by rw [add_block]; exact h.tag g hbk) fun j v hj hv => ?_⟩
    rw [addr_add, addr_add, Nat.zero_add, hb.cell]
    rw [← ht, List.getElem?_take] at hv
    split at hv
    · exact hv
    · cases hv
theorem same_stp {a : Addr} {n : Nat} (s : Stp T ω ω' w w') (hb : a.block < w.heap.size) (hT : T (ω a.block) = false) : sameAt a n w w' :=
  ⟨World.cell?_of_block (s.block _ hb hT), fun i _ => World.cell?_of_block (s.block _ (by rw [add_block]; exact hb) (by rw [add_block]; exact hT))⟩
/-- append of what reads as ys. -/
theorem app_T {P : Program} {ty tt : TypeId} {bytes : Nat} (ti : TI P tt e sz bytes) {x : Sl} {ys : List Value} (h : OT ω w t e sz s xs) (hx : Rd w x sz ys) (h1 : ∀ v ∈ ys, v.oneCell' = true) (hm : s.n + x.n ≤ maxLen) (hy : (s.n + x.n) * bytes ≤ 140737488355328)
    {K : Sl → World → Prop} (hK : ∀ r ω' w', Stp (One t) ω ω' w w' → OT ω' w' t e sz r (xs ++ ys) → r.n = s.n + x.n → K r w') : G.runSl P (Builtin.append_ #[tt, tt] ty #[s.v, x.v]) w K :=
  appC ti (Nat.zero_le _) h.own hx h1 hm hy fun r w' c o hn hf => hK r (ext ω w.heap.size t) w' (Chg.stp c h.tag) ⟨o, fun k hk => by
    rcases hf with hf | hf
    · rw [hf] at hk; rw [ext_old (h.lt hk)]; exact h.tag k hk
    · exact ext_new (hf k hk)⟩ hn
/-- append of what is written out. -/
theorem push_T {P : Program} {ty tt : TypeId} {bytes n : Nat} (ti : TI P tt e sz bytes) {ds : Array Value} (h : OT ω w t e sz s xs) (hl : ds.size = n * sz) (h1 : ∀ v ∈ ds.toList, v.oneCell' = true) (hm : s.n + n ≤ maxLen) (hy : (s.n + n) * bytes ≤ 140737488355328)
    {K : Sl → World → Prop} (hK : ∀ r ω' w', Stp (One t) ω ω' w w' → OT ω' w' t e sz r (xs ++ ds.toList) → r.n = s.n + n → K r w') :
    G.new (.cells ds e) w fun p w1 => G.runSl P (Builtin.append_ #[tt, tt] ty #[s.v, (⟨some p, n, n⟩ : Sl).v]) w1 K :=
  pushC ti (Nat.zero_le _) h.own hl h1 hm hy fun r w' c o hn hf => hK r (ext ω w.heap.size t) w' (Chg.stp c h.tag) ⟨o, fun k hk => by
    rcases hf with hf | hf
    · rw [hf] at hk; rw [ext_old (h.lt hk)]; exact h.tag k hk
    · exact ext_new (hf k hk)⟩ hn
theorem OT.cases (h : OT ω w t e sz s xs) : (s = nilS ∧ xs = []) ∨ ∃ g cur, s.a = some ⟨g, 0, none⟩ ∧ BT ω w t g e cur ∧ s.n ≤ s.c ∧ s.c ≤ maxLen ∧ cur.length = s.c * sz ∧ cur.take (s.n * sz) = xs := by
  rcases h.own.cases with h' | ⟨g, cur, ha, hg, hb, hn, hm, hl, ht⟩
  · exact .inl h'
  · exact .inr ⟨g, cur, ha, ⟨hb, h.tag g (by show (Value.slice s.a s.n s.c).ownBlock = _; rw [ha]; rfl)⟩, hn, hm, hl, ht⟩
/-- A store into an element's cell. -/
theorem OT.st (h : OT ω w t e sz s xs) {i j : Nat} (hi : i < s.n) (hj : j < sz) (v : Value) {a : Addr} (ha : s.a.map (fun a => a.add (i * sz)) = some a) {K : World → Prop}
    (hK : ∀ ω' w', Stp (One t) ω ω' w w' → OT ω' w' t e sz s (xs.set (i * sz + j) v) → K w') : G.st (a.add j) v w K := by
  rcases h.cases with ⟨rfl, rfl⟩ | ⟨g, cur, ha', hb, hn, hm, hl, ht⟩
  · exact absurd hi (Nat.not_lt_zero _)
  · rw [ha'] at ha
    simp only [Option.map_some, Option.some.injEq] at ha
    subst ha
    have hlt : i * sz + j < cur.length := by
      rw [hl]
      have : (i + 1) * sz ≤ s.c * sz := Nat.mul_le_mul_right _ (by omega)
      rw [Nat.add_mul] at this; omega
    rw [addr_add, Nat.zero_add]
    refine st_TA hb hlt fun ω' w' k b => hK ω' w' k ⟨?_, fun k' hk' => ?_⟩
    · have hs : s = ⟨some ⟨g, 0, none⟩, s.n, s.c⟩ := by rw [← ha']
      rw [hs]
      refine Own.mk' (Nat.zero_le _) b.blk hn hm (by rw [List.length_set]; exact hl) ?_
      rw [← ht, List.take_set]
    · exact (k.same k' (h.lt hk')).trans (h.tag k' hk')
/-- The element's place. -/
theorem OT.at_ (h : OT ω w t e sz s xs) {i : Int} {k : Nat} (ei : i = k) (hi : k < s.n) {K : Addr → Prop} (hK : ∀ a : Addr, s.a.map (fun a => a.add (k * sz)) = some a → a.block < w.heap.size → ω a.block = t → (∀ j v, j < sz → xs[k * sz + j]? = some v → w.cell? (a.add j) = some v) → K a) : G.ix s.a s.n i sz K := by
  subst ei
  rcases h.cases with ⟨rfl, rfl⟩ | ⟨g, cur, ha, hb, hn, hm, hl, ht⟩
  · exact absurd hi (Nat.not_lt_zero _)
  · rw [ha]
    refine ⟨⟨by omega, by omega⟩, ?_⟩
    rw [Int.toNat_natCast]
    refine hK _ (by rw [ha]; rfl) (by rw [add_block]; exact hb.blk.lt) (by rw [add_block]; exact hb.tag) fun j v hj hv => ?_
    rw [addr_add, addr_add, Nat.zero_add, hb.cell]
    rw [← ht, List.getElem?_take] at hv
    split at hv
    · exact hv
    · cases hv
theorem cB_at {a : Addr} {b : Bool} (h : w.cell? a = some (.bool b)) {K : Bool → Prop} (hK : K b) : G.cB a w K := ⟨b, h, hK⟩
theorem cP_at {a : Addr} {b : Option Addr} (h : w.cell? a = some (.pointer b)) {K : Option Addr → Prop} (hK : K b) : G.cP a w K := ⟨b, h, hK⟩
theorem cF_at {k : FloatKind} {a : Addr} {b : Nat} (h : w.cell? a = some (.float k b)) {K : Nat → Prop} (hK : K b) : G.cF k a w K := ⟨b, h, hK⟩
theorem cS_at {a : Addr} {b : ByteArray} (h : w.cell? a = some (.string b)) {K : ByteArray → Prop} (hK : K b) : G.cS a w K := ⟨b, h, hK⟩
theorem cV_at {a : Addr} {b : Value} (h : w.cell? a = some b) {K : Value → Prop} (hK : K b) : G.cV a w K := ⟨b, h, hK⟩
end Go.Proofs.Ytaciaidehamfgaa.Mem
