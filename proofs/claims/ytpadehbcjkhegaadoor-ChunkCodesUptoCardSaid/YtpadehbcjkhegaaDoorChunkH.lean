/- Layer 8: Range; ChunkCodes. Own work. -/
import Derived.Test.YtpadehbcjkhegaaDoorChunkG7
import Derived.Test.YtpadehbcjkhegaaDoorSeqT
namespace Go.Proofs.YtpadehbcjkhegaaDoor.Chunk
open Go Vm Go.RowKit Num Mem Bits Vint Rep
variable {ω ω' : Tg} {w w' w0 : World} {bs : List UInt8} {l : List Smp}

theorem one_up {Pt : Nat → Bool} {q : Nat} (hq : Pt q = true) (h : Stp (Mem.One q) ω ω' w w') : Stp Pt ω ω' w w' := h.mono fun u hu => by
  cases hb : Nat.beq u q with
  | false => exact hb
  | true =>
    have e := Nat.eq_of_beq_eq_true hb
    rw [e, hq] at hu; cases hu
/-- All's function tells the samples; q is the tag of its own memory. -/
theorem all_tellsT {Fc : Clee} {n g : Nat} {c : Option Addr} {sl : Sl} {Pt Ct : Nat → Bool} (q : Nat) (hq : Pt q = true) (hF : ∀ args K w, C.chunk_Chunk_All_1.cl args K w → Fc n args K w) :
    TellsT Tryd.prog Fc (.func (.func n) #[] #[.pointer (some ⟨g, 0, none⟩)]) (l.map smpC) (fun w => w.cell? ⟨g, 0, none⟩ = some (.pointer c) ∧ CkR w c sl l) Pt Ct := by
  intro L I Kk Q ω w hC hI hKs hy hK hQ h0
  refine hF _ _ _ ?_
  show C.chunk_Chunk_All_1 (.func (.yield L) #[] #[]) (some ⟨g, 0, none⟩) w (C.chunk_Chunk_All_1.Kt fun _ w' => Q w')
  unfold C.chunk_Chunk_All_1
  obtain ⟨hb, hc⟩ := hC 0 ω w h0
  refine ptr_at (cP_at hb ?_)
  rcases hc.ex with ⟨rfl, rfl⟩ | ⟨gc, rfl, e0, e1⟩
  · exact cond_t rfl (hQ _ _ (hK ω w h0))
  refine cond_f rfl (ptr_at (cP_at hb (ptr_at (cSl_at e0 ?_))))
  have hn : sl.n = l.length := by have := e1.2.1; rw [smps_len] at this; omega
  have hlen := hc.len
  refine C.chunk_Chunk_All_1.L3_ind fun X hX => ?_
  have rd : ∀ i ω w, I i ω w → Rd w sl 2 (smps l) := fun i ω w h => by
    rcases (hC i ω w h).2.ex with ⟨e, _⟩ | ⟨gc', e, _, e1⟩
    · cases e
    · exact e1
  have key : ∀ (d i : Nat) (ω : Tg) (w : World), i + d = l.length → I i ω w → X (.func (.yield L) #[] #[]) sl ((sl.n : Nat) : Int) (i : Int) w := by
    intro d
    induction d with
    | zero =>
      intro i ω w hi h
      refine hX _ _ _ _ _ ?_
      unfold C.chunk_Chunk_All_1.S5
      refine cond_d (fun h => by omega) (fun _ => ?_)
      refine hQ ω w (hK ω w ?_)
      rw [List.length_map, ← hi]; exact h
    | succ d ih =>
      intro i ω w hi h
      refine hX _ _ _ _ _ ?_
      unfold C.chunk_Chunk_All_1.S5
      refine cond_d (fun _ => ?_) (fun h => by omega)
      have hx : l[i]? = some l[i] := List.getElem?_eq_getElem (by omega)
      refine rdS_at (rd i ω w h) (k := i) rfl hx fun a hc0 hc1 => cI_at hc0 <| cF_at hc1 ?_
      refine new_T (ω := ω) q fun g ω2 w2 k2 b2 => ?_
      refine st_T b2 (by simp) fun ω3 w3 k3 b3 => ?_
      refine st_TA b3 (by simp) fun ω4 w4 k4 b4 => ?_
      refine cI_at (n := l[i].1) (by rw [b4.cell]; rfl) <| cF_at (b := l[i].2) (by rw [addr_add, b4.cell]; rfl) ?_
      have s4 := one_up hq ((k2.non (Mem.One q)).trans (k3.trans k4))
      refine hy i (smpC l[i]) ω4 w4 _ (by rw [List.getElem?_map, hx]; rfl) (hI _ _ _ _ _ h s4) (fun ω' w' _ h' => ?_) (fun ω' w' _ h' => ?_)
      · refine isB_at (cond_f rfl ?_)
        rw [wI64 (by omega) (by omega), show (i : Int) + 1 = ((i + 1 : Nat) : Int) by omega]
        exact ih (i + 1) ω' w' (by omega) h'
      · exact isB_at (cond_t rfl (hQ ω' w' h'))
  exact key l.length 0 ω w (by omega) h0

/-- Is a sample's time within? -/
def inS (a b : Int) (x : Smp) : Bool := decide (x.1 ≥ a) && decide (x.1 ≤ b)
def wit (a b : Int) (l : List Smp) : List Smp := l.filter (inS a b)
theorem wit_take {a b : Int} {l : List Smp} {i : Nat} (h : i < l.length) : wit a b (l.take (i + 1)) = wit a b (l.take i) ++ (if inS a b l[i] then [l[i]] else []) := by
  unfold wit
  rw [List.take_add_one, List.getElem?_eq_getElem h, List.filter_append]
  simp only [Option.toList_some, List.filter_cons, List.filter_nil]
theorem wit_at {a b : Int} {l : List Smp} {i : Nat} (h : i < l.length) (hin : inS a b l[i] = true) : (wit a b l)[(wit a b (l.take i)).length]? = some l[i] := by
  have e : wit a b l = wit a b (l.take i) ++ wit a b (l.drop i) := by unfold wit; rw [← List.filter_append, List.take_append_drop]
  have e2 : wit a b (l.drop i) = l[i] :: wit a b (l.drop (i + 1)) := by
    unfold wit
    rw [List.drop_eq_getElem_cons h, List.filter_cons, if_pos hin]
  rw [e, e2, List.getElem?_append_right (Nat.le_refl _), Nat.sub_self]; rfl

/-- Range's function tells the samples within; tags 21 to 23 are its own. -/
theorem range_tellsT {Fc : Clee} {n gb gf gt gc : Nat} {sl : Sl} {a b : Int} {Ct : Nat → Bool} (h1 : Ct 21 = false) (h2 : Ct 22 = false) (h3 : Ct 23 = false) (hF : ∀ args K w, C.chunk_Range_1.cl args K w → Fc n args K w) :
    TellsT Tryd.prog Fc (.func (.func n) #[] #[.pointer (some ⟨gb, 0, none⟩), .pointer (some ⟨gf, 0, none⟩), .pointer (some ⟨gt, 0, none⟩)]) ((wit a b l).map smpC)
      (fun w => w.cell? ⟨gb, 0, none⟩ = some (.pointer (wp gc)) ∧ CkR w (wp gc) sl l ∧ w.cell? ⟨gf, 0, none⟩ = some (.int .i64 a) ∧ w.cell? ⟨gt, 0, none⟩ = some (.int .i64 b)) (Rng 21 3) Ct := by
  intro L I Kk Q ω w hC hI hKs hy hK hQ h0
  refine hF _ _ _ ?_
  show C.chunk_Range_1 (.func (.yield L) #[] #[]) (some ⟨gb, 0, none⟩) (some ⟨gf, 0, none⟩) (some ⟨gt, 0, none⟩) w (C.chunk_Range_1.Kt fun _ w' => Q w')
  unfold C.chunk_Range_1
  refine new_T (ω := ω) 22 fun gy ω1 w1 k1 b1 => ?_
  have i1 := hI _ _ _ _ _ h0 (k1.non _)
  obtain ⟨c1, c2, c3, c4⟩ := hC _ _ _ i1
  refine ptr_at (cP_at c1 ?_)
  unfold C.chunk_Chunk_All
  refine new_T (ω := ω1) 22 fun gx ω2 w2 k2 b2 => ?_
  have i2 := hI _ _ _ _ _ i1 (k2.non _)
  have b1' := b1.stp k2
  unfold C.chunk_Range_1.R3
  have sub : ∀ S, S = Mem.One 23 ∨ S = Mem.One 21 → ∀ {ω ω' : Tg} {w w' : World}, Stp S ω ω' w w' → Stp (Rng 21 3) ω ω' w w' := fun S hS {_ _ _ _} s => by
    rcases hS with rfl | rfl
    · exact one_up rfl s
    · exact one_up rfl s
  have n22 : ∀ S : Nat → Bool, S = Mem.One 23 ∨ S = Mem.One 21 → S 22 = false := fun S hS => by rcases hS with rfl | rfl <;> rfl
  refine rangeT_ok (T := Ct) (u := 23) (Pt := Mem.One 21)
    (J := fun i ω w => I (wit a b (l.take i)).length ω w ∧ BT ω w 22 gy 45 [.func (.yield L) #[] #[]] ∧ BT ω w 22 gx 32 [.pointer (wp gc)])
    (E := fun e ω w => e = .ret ∧ Kk ω w)
    (all_tellsT (l := l) (c := wp gc) (sl := sl) (g := gx) 21 rfl fun _ _ _ h => h) h3 rfl ?_ ?_ ?_ ?_ ⟨i2, b1', b2⟩ ?_ ?_
  · rintro i ω w ⟨h, _, bx⟩
    exact ⟨by rw [bx.cell]; rfl, (hC _ _ _ h).2.1⟩
  · rintro S hS i ω ω' w w' ⟨h, by', bx⟩ s
    exact ⟨hI _ _ _ _ _ h (sub S hS s), by'.stp s (n22 S hS), bx.stp s (n22 S hS)⟩
  · rintro S hS e ω ω' w w' ⟨he, h⟩ s
    exact ⟨he, hKs _ _ _ _ h (sub S hS s)⟩
  · rintro i x ω w Rr hx ⟨h, by', bx⟩ hR hRx
    have hil : i < l.length := by
      have := (List.getElem?_eq_some_iff.1 hx).1
      rwa [List.length_map] at this
    obtain rfl : x = smpC l[i] := by
      rw [List.getElem?_map, List.getElem?_eq_getElem hil] at hx
      exact (Option.some.inj hx).symm
    show C.chunk_Range_1.S5 Rr _ _ _ l[i].1 l[i].2 w
    unfold C.chunk_Range_1.S5
    obtain ⟨_, _, d3, d4⟩ := hC _ _ _ h
    have no : inS a b l[i] = false → Rr .normal w := fun hin => hR ω w (Stp.refl _ _ _) ⟨by rw [wit_take hil, hin]; simpa using h, by', bx⟩
    refine ptr_at (cI_at d3 (cond_d (fun g1 => ?_) (fun g1 => no (by unfold inS; rw [decide_eq_false g1]; rfl))))
    refine ptr_at (cI_at d4 (cond_d (fun g2 => ?_) (fun g2 => no (by unfold inS; rw [decide_eq_false g2]; simp))))
    have hin : inS a b l[i] = true := by unfold inS; rw [decide_eq_true g1, decide_eq_true g2]; rfl
    refine ptr_at (cV_at (b := .func (.yield L) #[] #[]) (by rw [by'.cell]; rfl) ?_)
    refine hy _ (smpC l[i]) ω w _ (by rw [List.getElem?_map, wit_at hil hin]; rfl) h (fun ω' w' s h' => ?_) (fun ω' w' s h' => ?_)
    · refine isB_at (cond_f rfl (hR ω' w' s ⟨?_, by'.stp s h2, bx.stp s h2⟩))
      rw [wit_take hil, hin, if_pos rfl, List.length_append, List.length_singleton]; exact h'
    · exact isB_at (cond_t rfl (hRx .ret .ret ω' w' rfl s ⟨rfl, h'⟩))
  · rintro ω' w' D hd hu ⟨h, _, _⟩
    unfold C.chunk_Range_1.O_R3
    refine marks_at hd ?_
    have k := put_stp (w := w') (o := .deferred none) hu
    rw [List.length_map, List.take_length] at h
    rw [← List.length_map (f := smpC)] at h
    exact hQ ω' _ (hKs _ _ _ _ (hK _ _ h) (one_up rfl k))
  · rintro e ω' w' D hd hu ⟨rfl, h⟩
    unfold C.chunk_Range_1.O_R3
    refine marks_at hd ?_
    have k := put_stp (w := w') (o := .deferred none) hu
    exact hQ ω' _ (hKs _ _ _ _ h (one_up rfl k))

/-! ## ranged, Within -/
theorem wit_len (a b : Int) (l : List Smp) : (wit a b l).length ≤ l.length := List.length_filter_le _ _
theorem ranged_ok (hT : DTab w0) {c : Sl} (hb : RdB w0 c bs) {a b : Int} {K : Sl → Int → World → Prop}
    (hE : dec bs = none → ∀ w', Keep w0 w' → K nilS 3 w')
    (hK : ∀ l, dec bs = some l → Valid l → ∀ r w', Keep w0 w' → Mem.Own w' w0.heap.size 26 2 r (smps (wit a b l)) → K r 0 w') : C.tocsinlaw08_ranged c a b w0 K := by
  unfold C.tocsinlaw08_ranged
  refine new_T (ω := fun _ => 0) 4 fun g1 ω1 w1 k1 b1 => ?_
  unfold C.chunk_Range
  refine new_T (ω := ω1) 5 fun g2 ω2 w2 k2 b2 => ?_
  refine new_T (ω := ω2) 5 fun g3 ω3 w3 k3 b3 => ?_
  have k03 := (k1.trans k2).trans k3
  have top3 := (Top.init w0).stp k03
  refine decode_dec (hT.keep top3.k) (hb.keep top3.k) (fun hd w4 k4 => ?_) (fun l hd hv r w4 k4 o4 => ?_)
  · refine cond_t rfl ?_
    exact hE hd w4 (Keep.trans top3.k k4)
  refine cond_f rfl ?_
  have s4 := k4.stp ω3 6
  refine new_T (ω := ext ω3 w3.heap.size 6) 5 fun g5 ω5 w5 k5 b5 => ?_
  refine new_T (ω := ω5) 7 fun g6 ω6 w6 k6 b6 => ?_
  refine st_T b6 (by simp) fun ω7 w7 k7 b7 => ?_
  refine isNilF_no (cond_f rfl ?_)
  have k37 : Stp (Mem.One 7) ω3 ω7 w3 w7 := ((s4.trans (k5.trans k6)).non _).trans k7
  have top7 := top3.stp k37
  have c1 := b1.stp ((k2.trans k3).non (Mem.One 7))
  have c1' := c1.stp k37 rfl
  have c2' := (b2.stp k3).stp k37 rfl
  have c3' := b3.stp k37 rfl
  have c5' := (b5.stp k6).stp k7 rfl
  have hlen := hv.len
  have o5 : Rd w5 r 2 (smps l) := (Mem.Own.rd o4).keep k5.keep
  have ol : OS (ext ω3 w3.heap.size 6) w4 6 r l := Own.tag o4 (Nat.le_refl _) ω3 6
  have ol7 := ((ol.stp k5).stp k6).stp k7 rfl
  unfold C.tocsinlaw08_ranged.S9 C.tocsinlaw08_ranged.R5
  refine rangeT_ok (T := Duo 2 4) (u := 3) (Pt := Rng 21 3)
    (J := fun i ω w => Top w0 ω w ∧ BT ω w 5 g2 2 [.int .i64 a] ∧ BT ω w 5 g3 2 [.int .i64 b] ∧ BT ω w 5 g5 67 [Sl.v r, .pointer none, .int .i64 0, .int .i64 0, .bool false] ∧ BT ω w 7 g6 32 [.pointer (wp g5)] ∧ OS ω w 6 r l ∧
      ∃ s, BT ω w 4 g1 24 [Sl.v s] ∧ OS ω w 2 s ((wit a b l).take i))
    (E := fun e ω w => False)
    (range_tellsT (l := l) (gc := g5) (sl := r) (a := a) (b := b) (gb := g6) (gf := g2) (gt := g3) rfl rfl rfl fun _ _ _ h => h) rfl rfl ?_ ?_ ?_ ?_ ⟨top7, c2', c3', c5', b7, ol7, nilS, c1', ?_⟩ ?_ ?_
  · rintro i ω w ⟨_, x2, x3, x5, x6, ox, _⟩
    exact ⟨by rw [x6.cell]; rfl, ⟨.inr ⟨g5, rfl, by rw [x5.cell]; rfl, ox.rd⟩, by omega⟩, by rw [x2.cell]; rfl, by rw [x3.cell]; rfl⟩
  · rintro S hS i ω ω' w w' ⟨top, x2, x3, x5, x6, ox, s, x1, o⟩ k
    have n : S 0 = false ∧ S 2 = false ∧ S 4 = false ∧ S 5 = false ∧ S 6 = false ∧ S 7 = false := by rcases hS with rfl | rfl <;> exact ⟨rfl, rfl, rfl, rfl, rfl, rfl⟩
    obtain ⟨n0, n2, n4, n5, n6, n7⟩ := n
    exact ⟨top.stp k n0, x2.stp k n5, x3.stp k n5, x5.stp k n5, x6.stp k n7, ox.stp k n6, s, x1.stp k n4, o.stp k n2⟩
  · rintro S hS e ω ω' w w' h k
    exact h.elim
  · rintro i x ω w Rr hx ⟨top, x2, x3, x5, x6, ox, s, x1, o⟩ hR hRx
    have hil : i < (wit a b l).length := by
      have := (List.getElem?_eq_some_iff.1 hx).1
      rwa [List.length_map] at this
    obtain rfl : x = smpC (wit a b l)[i] := by
      rw [List.getElem?_map, List.getElem?_eq_getElem hil] at hx
      exact (Option.some.inj hx).symm
    show C.tocsinlaw08_ranged.S7 Rr _ (wit a b l)[i].1 (wit a b l)[i].2 w
    unfold C.tocsinlaw08_ranged.S7
    have hwl := wit_len a b l
    have hsn := OS.len o
    rw [List.length_take, Nat.min_eq_left (by omega)] at hsn
    refine ptr_at (cSl_at (by rw [x1.cell]; rfl) ?_)
    refine push_T tiS o (n := 1) rfl (by intro v hv; simp at hv; rcases hv with rfl | rfl <;> rfl) (by simp only [maxLen]; omega) (by omega) fun q ω8 w8 k8 o8 hq => ?_
    refine ptr_at (st_T (x1.stp k8) (by simp) fun ω9 w9 k9 b9 => ?_)
    refine ptr_at (cSl_at (s := q) (by rw [b9.cell]; rfl) ?_)
    have s9 : Stp (Duo 2 4) ω ω9 w w9 := k8.one.trans k9.two
    have o9 : OS ω9 w9 2 q ((wit a b l).take (i + 1)) := by
      rw [OS, take_push hil]
      exact o8.stp k9
    refine cond_f (decide_eq_false (by omega)) ?_
    exact hR ω9 w9 s9 ⟨top.stp s9, x2.stp s9, x3.stp s9, x5.stp s9, x6.stp s9, ox.stp s9, q, b9, o9⟩
  · exact OT.nil _ _ _ _ _
  · rintro ω' w' D hd' hu ⟨top, _, _, _, _, _, s, x1, o⟩
    show C.tocsinlaw08_ranged.S2 K _ 0 (pushMark undef D) w'
    unfold C.tocsinlaw08_ranged.S2
    refine ptr_at (cSl_at (by rw [x1.cell]; rfl) (marks_at hd' ?_))
    have k := put_stp (w := w') (o := .deferred none) hu
    have top' := top.stp k
    rw [List.length_map, List.take_length] at o
    exact hK l hd hv s _ top'.k ((o.stp k).from top' (by decide))
  · rintro e ω' w' D hd' hu h
    exact h.elim

theorem within_ok {s : Sl} {m : List Smp} (hs : Rd w0 s 2 (smps m)) (hl : m.length ≤ 1000) {a b : Int} {K : Sl → World → Prop} (hK : ∀ r w', Keep w0 w' → Mem.Own w' w0.heap.size 26 2 r (smps (wit a b m)) → K r w') : C.tocsinref08_Within s a b w0 K := by
  have hsn : s.n = m.length := by have := hs.2.1; rw [smps_len] at this; omega
  unfold C.tocsinref08_Within C.tocsinref08_Within.S9
  refine C.tocsinref08_Within.L5_ind fun X hX => ?_
  have key : ∀ (d i : Nat) (q : Sl) (ω : Tg) (w : World), i + d = m.length → Top w0 ω w → OS ω w 5 q (wit a b (m.take i)) → X a b q s ((s.n : Nat) : Int) (i : Int) w := by
    intro d
    induction d with
    | zero =>
      intro i q ω w hi top o
      refine hX _ _ _ _ _ _ _ ?_
      unfold C.tocsinref08_Within.S7 C.tocsinref08_Within.S2
      rw [show i = m.length by omega, List.take_length] at o
      exact cond_d (fun h => by omega) (fun _ => hK q w top.k (o.from top (by decide)))
    | succ d ih =>
      intro i q ω w hi top o
      have him : i < m.length := by omega
      refine hX _ _ _ _ _ _ _ ?_
      unfold C.tocsinref08_Within.S7
      refine cond_d (fun _ => ?_) (fun h => by omega)
      have hx : m[i]? = some m[i] := List.getElem?_eq_getElem him
      refine rdS_at (hs.keep top.k) (k := i) rfl hx fun p hc0 hc1 => cI_at hc0 <| cF_at hc1 ?_
      refine new_T (ω := ω) 7 fun g ω2 w2 k2 b2 => ?_
      refine st_T b2 (by simp) fun ω3 w3 k3 b3 => ?_
      refine st_TA b3 (by simp) fun ω4 w4 k4 b4 => ?_
      have s4 := (k2.non (Mem.One 7)).trans (k3.trans k4)
      have o4 := o.stp s4 rfl
      have top4 := top.stp s4
      rw [wI64 (x := (i : Int) + 1) (by omega) (by omega), show (i : Int) + 1 = ((i + 1 : Nat) : Int) by omega]
      have no : inS a b m[i] = false → X a b q s ((s.n : Nat) : Int) ((i + 1 : Nat) : Int) w4 := fun hin => ih (i + 1) q ω4 w4 (by omega) top4 (by rw [wit_take him, hin]; simpa using o4)
      refine cI_at (n := m[i].1) (by rw [b4.cell]; rfl) (cond_d (fun g1 => ?_) (fun g1 => no (by unfold inS; rw [decide_eq_false g1]; rfl)))
      refine cI_at (n := m[i].1) (by rw [b4.cell]; rfl) (cond_d (fun g2 => ?_) (fun g2 => no (by unfold inS; rw [decide_eq_false g2]; simp)))
      have hin : inS a b m[i] = true := by unfold inS; rw [decide_eq_true g1, decide_eq_true g2]; rfl
      refine cI_at (n := m[i].1) (by rw [b4.cell]; rfl) <| cF_at (b := m[i].2) (by rw [addr_add, b4.cell]; rfl) ?_
      have hn := OS.len o4
      have hwl := wit_len a b (m.take i)
      rw [List.length_take] at hwl
      refine push_T tiS o4 (n := 1) rfl (by intro v hv; simp at hv; rcases hv with rfl | rfl <;> rfl) (by simp only [maxLen]; omega) (by omega) fun q' ω5 w5 k5 o5 hq => ?_
      refine ih (i + 1) q' ω5 w5 (by omega) (top4.stp k5) ?_
      rw [wit_take him, hin, if_pos rfl, OS, smps_app]
      exact o5
  exact key m.length 0 nilS (fun _ => 0) w0 (by omega) (Top.init w0) (OT.nil _ _ _ _ _)
end Go.Proofs.YtpadehbcjkhegaaDoor.Chunk
