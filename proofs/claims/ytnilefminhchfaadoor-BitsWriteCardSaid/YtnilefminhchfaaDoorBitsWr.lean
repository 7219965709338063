/- Layer 2: writer and stream side by side; the contract of BitsWrite. Own work. -/
import Derived.Test.YtnilefminhchfaaDoorBitsQ
import Derived.Test.YtnilefminhchfaaDoorBitsX
import Derived.Test.YtnilefminhchfaaDoorRep
namespace Go.Proofs.YtnilefminhchfaaDoor.Mem
open Go Vm Go.RowKit Num
/-- A store into a block of the call's own. -/
theorem st_blk {w0 w : World} {g : Nat} {e : TypeId} {cs : List Value} {j : Nat} {v : Value} (hb : Blk w g e cs) (hj : j < cs.length) (k : Keep w0 w) (hg : w0.heap.size ≤ g) {K : World → Prop}
    (hK : ∀ w', Keep w0 w' → Blk w' g e (cs.set j v) → K w') : G.st ⟨g, j, none⟩ v w K :=
  st_at (by rw [hb.cell, List.getElem?_eq_getElem hj]) (hb.frozen j) (hK _ (Chg.below k (setCell_chg w g j v) k.size (fun k hk => by rw [hk]; exact hg)) (hb.set j v))
end Go.Proofs.YtnilefminhchfaaDoor.Mem
namespace Go.Proofs.YtnilefminhchfaaDoor.Bits
open Go Vm Go.RowKit Num Mem Rep

structure Two (w0 w : World) (g : Nat) (s : Sl) (g2 : Nat) (s2 : Sl) (bs : List Bool) : Prop where
  k : Keep w0 w
  a : Wr w w0.heap.size g s (pk bs) bs.length
  b : St w w0.heap.size g2 s2 bs
  dj : ∀ k, foot g s k → ¬ foot g2 s2 k
  le : bs.length ≤ 8388608
abbrev both (g : Nat) (s : Sl) (g2 : Nat) (s2 : Sl) : Nat → Prop := fun k => foot g s k ∨ foot g2 s2 k
theorem Two.keep {w0 w w' : World} {g g2 : Nat} {s s2 : Sl} {bs : List Bool} (h : Two w0 w g s g2 s2 bs) (k : Keep w w') : Two w0 w' g s g2 s2 bs := ⟨Keep.trans h.k k, h.a.keep k, h.b.keep k, h.dj, h.le⟩
theorem Two.lt {w0 w : World} {g g2 : Nat} {s s2 : Sl} {bs : List Bool} (h : Two w0 w g s g2 s2 bs) {k : Nat} (hk : both g s g2 s2 k) : w0.heap.size ≤ k ∧ k < w.heap.size := hk.elim (fun e => h.a.lt e) (fun e => h.b.lt e)
theorem Two.mid {w0 w w1 : World} {g g2 : Nat} {s s2 : Sl} {bs : List Bool} (h : Two w0 w g s g2 s2 bs) (c : Chg (foot g s) w w1) : St w1 w0.heap.size g2 s2 bs ∧ Keep w0 w1 :=
  ⟨h.b.chg c fun k hk e => h.dj k e hk, Chg.below h.k c h.k.size fun k hk => (h.a.lt hk).1⟩
theorem Two.next {w0 w w1 w2 : World} {g g2 : Nat} {s s2 s1 s3 : Sl} {bs xs : List Bool} (h : Two w0 w g s g2 s2 bs) (c1 : Chg (foot g s) w w1) (a1 : Wr w1 w0.heap.size g s1 (putBs (pk bs) bs.length xs) (bs.length + xs.length))
    (f1 : ∀ k, foot g s1 k → foot g s k ∨ w.heap.size ≤ k) (c2 : Chg (foot g2 s2) w1 w2) (b2 : St w2 w0.heap.size g2 s3 (bs ++ xs)) (f2 : ∀ k, foot g2 s3 k → foot g2 s2 k ∨ w1.heap.size ≤ k) (le : (bs ++ xs).length ≤ 8388608) :
    Two w0 w2 g s1 g2 s3 (bs ++ xs) ∧ Chg (both g s g2 s2) w w2 := by
  have hd : ∀ k, foot g s1 k → ¬ foot g2 s2 k := fun k hk e => (f1 k hk).elim (fun x => h.dj k x e) fun x => by have := (h.b.lt e).2; omega
  refine ⟨⟨Chg.below (h.mid c1).2 c2 (h.mid c1).2.size fun k hk => (h.b.lt hk).1, ?_, b2, fun k hk e => ?_, le⟩, ?_⟩
  · rw [pk_app, List.length_append]
    exact a1.chg c2 hd
  · rcases f2 k e with x | x
    · exact hd k hk x
    · have := (a1.lt hk).2; omega
  · exact Chg.then (c1.mono fun k hk => .inl (.inl hk)) c2 fun k hk => .inl (.inr hk)

theorem tmod2 (n : Int) : ((Int.tmod n (2 : Int)) != (0 : Int)) = ((Int.tmod n (2 : Int)) != (0 : Int)) := rfl
theorem law_write {w0 w : World} {g g2 : Nat} {s s2 : Sl} {bs : List Bool} (ht : WTab w0) (h : Two w0 w g s g2 s2 bs) {kind n i : Int} {u : Nat} (hu : u < 18446744073709551616) {K : Bool → World → Prop}
    (hK : ∀ s' s2' bs' w', Two w0 w' g s' g2 s2' bs' → Chg (both g s g2 s2) w w' → K true w') : C.tocsinlaw02_write (wp g) (wp g2) kind (u : Int) n i w K := by
  unfold C.tocsinlaw02_write
  refine new_at ?_
  have kA := Keep.alloc w (.cells #[(.int .i64 kind), (.int .u64 (u : Int)), (.int .i64 n), (.int .i64 i)] 31)
  have hO := Blk.new w 31 #[(.int .i64 kind), (.int .u64 (u : Int)), (.int .i64 n), (.int .i64 i)]
  generalize w.alloc (.cells #[(.int .i64 kind), (.int .u64 (u : Int)), (.int .i64 n), (.int .i64 i)] 31) = w1 at *
  have hlt : ∀ k, both g s g2 s2 k → k < w.heap.size := fun k hk => (h.lt hk).2
  have h1 := h.keep kA
  have hK : ∀ s' s2' bs' w', Two w0 w' g s' g2 s2' bs' → Chg (both g s g2 s2) w1.drew w' → K true w' := fun s' s2' bs' w' a b => hK s' s2' bs' w' a (Chg.then (Keep.chg kA _) (Chg.then (Keep.chg (Keep.drew w1) _) b fun k hk => .inl hk) fun k hk => .inl hk)
  have hOd := hO.drew
  have hd := h1.keep (Keep.drew w1)
  generalize w.heap.size = go at *
  have hgo := hOd.lt
  refine cI_at (n := kind) (by rw [hO.cell]; rfl) ?_
  have sm : ∀ {X : Nat → Prop} {w' : World} (j : Nat), Chg X w1.drew w' → (∀ k, X k → both g s g2 s2 k) → sameAt (Addr.add ⟨go, 0, none⟩ j) 1 w1.drew w' := fun j c hX => same_chg c (by rw [add_block]; exact hgo) fun e => by
    rw [add_block] at e
    have := hlt _ (hX _ e)
    simp at this
  have sm1 : ∀ {w' : World} (j : Nat), Chg (foot g s) w1.drew w' → sameAt (Addr.add ⟨go, 0, none⟩ j) 1 w1.drew w' := fun j c => sm j c fun k hk => .inl hk
  have sm2 : ∀ {w' w'' : World} (j : Nat), Chg (foot g s) w1.drew w' → Chg (foot g2 s2) w' w'' → sameAt (Addr.add ⟨go, 0, none⟩ j) 1 w1.drew w'' := fun j c c2 => sm j (Chg.then (c.mono fun k hk => .inl (.inl hk)) c2 fun k hk => .inl (.inr hk)) fun k hk => hk
  have rfl' : ∀ j, sameAt (Addr.add ⟨go, 0, none⟩ j) 1 w1.drew w1.drew := fun j => ⟨rfl, fun _ _ => rfl⟩
  have rd : ∀ j v, ([(.int .i64 kind), (.int .u64 (u : Int)), (.int .i64 n), (.int .i64 i)] : List Value)[j]? = some v → w1.drew.cell? (Addr.add ⟨go, 0, none⟩ j) = some v := fun j v hv => by rw [addr_add, Nat.zero_add, hOd.cell]; exact hv
  refine cond_eq (fun _ => ?_) (fun _ => cond_eq (fun _ => ?_) (fun _ => cond_eq (fun _ => ?_) (fun _ => ?_)))
  · refine cI_at (n := n) (rd 2 _ rfl) ⟨by decide, cI_at (n := n) (rd 2 _ rfl) ⟨by decide, ?_⟩⟩
    refine bit_ok hd.a hd.k.size hd.le (fun hF => ⟨⟨⟨trivial, rfl' 2⟩, rfl' 2⟩, ?_⟩) (fun hlt s1 w2 c1 a1 f1 => ?_)
    · exact sbit_ok hd.b hd.k.size (fun _ => ⟨⟨⟨trivial, rfl' 2⟩, rfl' 2⟩, hK _ _ _ _ hd (Chg.refl _ _)⟩) (fun h _ _ _ _ _ => by omega)
    · obtain ⟨b1, k1⟩ := hd.mid c1
      refine ⟨⟨⟨trivial, sm1 2 c1⟩, sm1 2 c1⟩, ?_⟩
      refine sbit_ok b1 k1.size (fun h => by omega) fun _ s3 w3 c2 b2 f2 => ⟨⟨⟨trivial, sm2 2 c1 c2⟩, sm2 2 c1 c2⟩, ?_⟩
      obtain ⟨t, c⟩ := hd.next (xs := [(Int.tmod n (2 : Int)) != (0 : Int)]) c1 a1 f1 c2 b2 f2 (by simp; omega)
      exact hK _ _ _ _ t c
  · refine cI_at (n := (u : Int)) (rd 1 _ rfl) <| cI_at (n := n) (rd 2 _ rfl) <| cI_at (n := (u : Int)) (rd 1 _ rfl) <| cI_at (n := n) (rd 2 _ rfl) ?_
    refine bits_ok hd.a hd.k.size hd.le hu (fun hb => ⟨⟨⟨⟨⟨trivial, rfl' 1⟩, rfl' 2⟩, rfl' 1⟩, rfl' 2⟩, ?_⟩) (fun hb hF => ⟨⟨⟨⟨⟨trivial, rfl' 1⟩, rfl' 2⟩, rfl' 1⟩, rfl' 2⟩, ?_⟩) (fun hb hF s1 w2 c1 a1 f1 => ⟨⟨⟨⟨⟨trivial, sm1 1 c1⟩, sm1 2 c1⟩, sm1 1 c1⟩, sm1 2 c1⟩, ?_⟩)
    · exact sbits_ok hd.b hd.k.size hd.le hu (fun _ => ⟨⟨⟨⟨⟨trivial, rfl' 1⟩, rfl' 2⟩, rfl' 1⟩, rfl' 2⟩, hK _ _ _ _ hd (Chg.refl _ _)⟩) (fun h => absurd hb h) (fun h => absurd hb h)
    · exact sbits_ok hd.b hd.k.size hd.le hu (fun h => absurd h hb) (fun _ _ => ⟨⟨⟨⟨⟨trivial, rfl' 1⟩, rfl' 2⟩, rfl' 1⟩, rfl' 2⟩, hK _ _ _ _ hd (Chg.refl _ _)⟩) (fun _ h => by omega)
    · obtain ⟨b1, k1⟩ := hd.mid c1
      refine sbits_ok b1 k1.size hd.le hu (fun h => absurd h hb) (fun _ h => by omega) fun _ _ s3 w3 c2 b2 f2 => ⟨⟨⟨⟨⟨trivial, sm2 1 c1 c2⟩, sm2 2 c1 c2⟩, sm2 1 c1 c2⟩, sm2 2 c1 c2⟩, ?_⟩
      obtain ⟨t, c⟩ := hd.next (xs := low u n.toNat) c1 (by rw [low_len]; exact a1) f1 c2 b2 f2 (by rw [List.length_append, low_len]; unfold badB at hb; omega)
      exact hK _ _ _ _ t c
  · refine cI_at (n := i) (rd 3 _ rfl) <| cI_at (n := i) (rd 3 _ rfl) ?_
    refine int_ok (ht.keep hd.k) hd.a hd.k.size hd.le (fun hF => ⟨⟨⟨trivial, rfl' 3⟩, rfl' 3⟩, ?_⟩) (fun hF s1 w2 c1 a1 f1 => ⟨⟨⟨trivial, sm1 3 c1⟩, sm1 3 c1⟩, ?_⟩)
    · have hd2 := hd.keep (Keep.drew w1.drew)
      refine sint_ok hd2.b hd2.k.size hd2.le (fun _ w3 k3 => ⟨⟨⟨trivial, ?_⟩, ?_⟩, hK _ _ _ _ (hd2.keep k3) (Keep.chg (Keep.trans (Keep.drew w1.drew) k3) _)⟩) (fun h => by omega)
      · exact sm2 3 (Chg.refl _ _) (Keep.chg (Keep.trans (Keep.drew w1.drew) k3) _)
      · exact sm2 3 (Chg.refl _ _) (Keep.chg (Keep.trans (Keep.drew w1.drew) k3) _)
    · obtain ⟨b1, k1⟩ := hd.mid c1
      refine sint_ok b1 k1.size hd.le (fun h => by omega) fun _ s3 w3 c2 b2 f2 => ⟨⟨⟨trivial, sm2 3 c1 c2⟩, sm2 3 c1 c2⟩, ?_⟩
      obtain ⟨t, c⟩ := hd.next c1 a1 f1 c2 b2 f2 (by rw [List.length_append]; omega)
      exact hK _ _ _ _ t c
  · exact hK _ _ _ _ h1 ⟨rfl, rfl, rfl, Nat.le_refl _, fun _ _ _ => rfl⟩

theorem write_end {w0 w : World} {g g2 : Nat} {s s2 : Sl} {bs : List Bool} (h : Two w0 w g s g2 s2 bs) {K : Bool → World → Prop} (hK : ∀ w', Keep w0 w' → K true w') : C.tocsinlaw02_BitsWrite.S2 K (wp g) (wp g2) w := by
  unfold C.tocsinlaw02_BitsWrite.S2
  refine bytes_ok h.a h.le fun r w1 k1 o1 => ?_
  have h1 := h.keep k1
  refine sbytes_ok h1.b h1.le fun q w2 k2 o2 => ?_
  refine same_yes (o1.rd.keep k2) o2.rd ?_
  refine cond_t rfl ?_
  exact awake_ok fun w' k' => hK w' (Keep.trans (h1.keep k2).k k')

theorem write_tail {w0 w : World} {g g2 : Nat} {s s2 : Sl} {bs : List Bool} (h : Two w0 w g s g2 s2 bs) {K : Bool → World → Prop} (hK : ∀ w', Keep w0 w' → K true w') : C.tocsinlaw02_BitsWrite.S11 K (wp g) (wp g2) w := by
  unfold C.tocsinlaw02_BitsWrite.S11
  refine bytes_ok h.a h.le fun r w1 k1 o1 => ?_
  have h1 := h.keep k1
  refine sbytes_ok h1.b h1.le fun q w2 k2 o2 => ?_
  refine same_yes (o1.rd.keep k2) o2.rd ?_
  refine cond_f rfl ?_
  have h2 := h1.keep k2
  have o1' := Own.keep o1 k2
  unfold C.tocsinlaw02_BitsWrite.S9
  refine C.tocsinlaw02_BitsWrite.L5_ind fun X hX => ?_
  have hrn := o1.len
  have hpk := pk_len bs
  have hle := h.le
  have key : ∀ (d i : Nat) (w' : World) (l : List UInt8), d + i = r.n → l.length = r.n → Two w0 w' g s g2 s2 bs → OwnB w' w.heap.size r l → X (wp g) (wp g2) r ((r.n : Nat) : Int) (i : Int) w' := by
    intro d
    induction d with
    | zero =>
      intro i w' l hi hl h o
      refine hX _ _ _ _ _ _ ?_
      unfold C.tocsinlaw02_BitsWrite.S7
      exact cond_d (fun h => by omega) (fun _ => write_end h hK)
    | succ d ih =>
      intro i w' l hi hl h' o
      refine hX _ _ _ _ _ _ ?_
      unfold C.tocsinlaw02_BitsWrite.S7
      refine cond_d (fun _ => ?_) (fun h => by omega)
      refine Own.stC o (by omega) _ fun w2 c2 o2 => ?_
      rw [wI64 (by omega) (by omega), show (i : Int) + 1 = ((i + 1 : Nat) : Int) by omega]
      have hge : ∀ k, r.v.ownBlock = some k → w.heap.size ≤ k := fun k hk => (Own.geC o1 hk).1
      have hn : ∀ k, both g s g2 s2 k → ¬ (r.v.ownBlock = some k) := fun k hk e => by have := hge k e; have := (h.lt hk).2; omega
      refine ih (i + 1) w2 (l.set i 99) (by omega) (by rw [List.length_set]; exact hl) ⟨Chg.below h'.k c2 h'.k.size fun k hk => Nat.le_trans h.k.size (hge k hk), h'.a.chg c2 fun k hk => hn k (.inl hk), h'.b.chg c2 fun k hk => hn k (.inr hk), h'.dj, h'.le⟩ ?_
      have e2 : vBs (l.set i 99) = (vBs l).set i (.int .u8 (99 : Int)) := by simp [vBs, List.map_set]; rfl
      rw [OwnB, e2]; exact o2
  exact key r.n 0 w2 (pk bs) (by omega) hrn.symm h2 o1'

theorem write_law {w0 : World} (ht : WTab w0) {l : Sl} {b : Nat} (hl : Cl w0 (.sl [.int .i64, .int .u64, .int .i64, .int .i64]) l.v b) {K : Bool → World → Prop} (hK : ∀ w', Keep w0 w' → K true w') : C.tocsinlaw02_BitsWrite l w0 K := by
  unfold C.tocsinlaw02_BitsWrite
  refine new_ok fun w1 k1 h1 hs => ?_
  refine new_at ?_
  have kA := Keep.alloc w1 (.cells #[nilS.v, (.int .i64 (0 : Int))] 28)
  have hS : St (w1.alloc (.cells #[nilS.v, (.int .i64 (0 : Int))] 28)) w0.heap.size w1.heap.size nilS [] := ⟨Blk.new w1 _ _, Own.nil _ _ _ 1, k1.size, by simp [nilS, Value.ownBlock]⟩
  have h1 := h1.keep kA
  have hT : Two w0 (w1.alloc (.cells #[nilS.v, (.int .i64 (0 : Int))] 28)) w0.heap.size nilS w1.heap.size nilS [] := ⟨Keep.trans k1 kA, h1, hS, fun k hk e => by
    rcases hk with hk | hk
    · rcases e with e | e
      · omega
      · simp [nilS, Value.ownBlock] at e
    · simp [nilS, Value.ownBlock] at hk, by simp⟩
  generalize w1.alloc (.cells #[nilS.v, (.int .i64 (0 : Int))] 28) = w2 at *
  refine cond_f rfl ?_
  generalize w1.heap.size = g2 at *
  generalize hg : w0.heap.size = g at *
  unfold C.tocsinlaw02_BitsWrite.S18
  refine C.tocsinlaw02_BitsWrite.L14_ind fun X hX => ?_
  have hln : l.n ≤ maxLen := by obtain ⟨f, U, h1, h2, _⟩ := hl.sl_inv; omega
  simp only [maxLen] at hln
  have key : ∀ (d i : Nat) (w : World) (s s2 : Sl) (bs : List Bool), d + i = l.n → Two w0 w g s g2 s2 bs → X (wp g) (wp g2) l ((l.n : Nat) : Int) (i : Int) w := by
    intro d
    induction d with
    | zero =>
      intro i w s s2 bs hi h
      refine hX _ _ _ _ _ _ ?_
      unfold C.tocsinlaw02_BitsWrite.S16
      exact cond_d (fun h => by omega) (fun _ => write_tail h hK)
    | succ d ih =>
      intro i w s s2 bs hi h
      refine hX _ _ _ _ _ _ ?_
      unfold C.tocsinlaw02_BitsWrite.S16
      refine cond_d (fun _ => ?_) (fun h => by omega)
      refine (hl.keep h.k).ix (by omega) (by omega) rfl fun a V hV => ?_
      obtain ⟨c0, t0⟩ := hV 0 _ rfl
      obtain ⟨c1, t1⟩ := hV 1 _ rfl
      obtain ⟨c2, t2⟩ := hV 2 _ rfl
      obtain ⟨c3, t3⟩ := hV 3 _ rfl
      obtain ⟨n0, e0, _, _⟩ := t0.int_inv
      obtain ⟨n1, e1, l1, m1⟩ := t1.int_inv
      obtain ⟨n2, e2, _, _⟩ := t2.int_inv
      obtain ⟨n3, e3, _, _⟩ := t3.int_inv
      rw [e0, show a.add 0 = a by simp [Addr.add]] at c0
      rw [e1] at c1
      rw [e2] at c2
      rw [e3] at c3
      refine cI_at c0 <| cI_at c1 <| cI_at c2 <| cI_at c3 ?_
      refine new_at ?_
      have kB := Keep.alloc w (.cells #[(.int .i64 (0 : Int)), (.int .u64 (0 : Int)), (.int .i64 (0 : Int)), (.int .i64 (0 : Int))] 31)
      have hO := Blk.new w 31 #[(.int .i64 (0 : Int)), (.int .u64 (0 : Int)), (.int .i64 (0 : Int)), (.int .i64 (0 : Int))]
      generalize w.alloc (.cells #[(.int .i64 (0 : Int)), (.int .u64 (0 : Int)), (.int .i64 (0 : Int)), (.int .i64 (0 : Int))] 31) = w3 at *
      refine st_blk hO (by decide) kB (Nat.le_refl _) fun w4 k4 b4 => ?_
      rw [addr_add, addr_add, addr_add]
      refine st_blk b4 (by simp) k4 (Nat.le_refl _) fun w5 k5 b5 => ?_
      refine st_blk b5 (by simp) k5 (Nat.le_refl _) fun w6 k6 b6 => ?_
      refine st_blk b6 (by simp) k6 (Nat.le_refl _) fun w7 k7 b7 => ?_
      have h7 := h.keep k7
      have hlt : ∀ k, both g s g2 s2 k → k < w.heap.size := fun k hk => (h.lt hk).2
      refine cond_d (fun _ => write_tail h7 hK) (fun _ => ?_)
      have b7 := b7.drew
      have h7 := h7.keep (Keep.drew w7)
      generalize w.heap.size = go at *
      refine cI_at (n := n0) (by rw [b7.cell]; rfl) <| cI_at (n := n1) (by rw [b7.cell]; rfl) <| cI_at (n := n2) (by rw [b7.cell]; rfl) <| cI_at (n := n3) (by rw [b7.cell]; rfl) ?_
      have hn1 : 0 ≤ n1 ∧ n1 ≤ 18446744073709551615 := by simpa [IntKind.min, IntKind.max, IntKind.signed, IntKind.bits] using And.intro l1 m1
      rw [show n1 = ((n1.toNat : Nat) : Int) by omega]
      refine law_write ht h7 (by omega) fun s' s2' bs' w8 h8 c8 => ?_
      have sm : ∀ n, sameAt (⟨go, 0, none⟩ : Addr) n w7.drew w8 := fun n => same_chg c8 b7.lt fun e => by have := hlt _ e; simp at this
      refine ⟨⟨trivial, sm 4⟩, cond_f rfl ?_⟩
      have hn8 := Ownb.len h8.b.own
      refine ptr_at (cSl_at (s := s2') (by rw [h8.b.blk.cell]; rfl) ?_)
      refine len_ok h8.a ⟨⟨⟨trivial, sm 4⟩, rfl, fun _ _ => rfl⟩, ?_⟩
      refine cond_f (by simp [hn8]) ?_
      rw [wI64 (by omega) (by omega), show (i : Int) + 1 = ((i + 1 : Nat) : Int) by omega]
      exact ih (i + 1) w8 s' s2' bs' (by omega) h8
  exact key l.n 0 w2 nilS nilS [] (by omega) hT
end Go.Proofs.YtnilefminhchfaaDoor.Bits
