/- Bytes that are lent, kept and spoilt; lists of bytes that are the same. Own work. -/
import Derived.Test.YtpgpdeojggcibaaDoorBytes
import Derived.Test.YtpgpdeojggcibaaDoorCa
namespace Go.Proofs.YtpgpdeojggcibaaDoor.Mem
open Go Vm Go.RowKit Num

/-! ## What a call has turned: at most one block of those that were there -/
abbrev Turn (o : Option Nat) (w w' : World) : Prop := w.grownBy w' o
theorem Keep.turn {w w' : World} (h : Keep w w') (o : Option Nat) : Turn o w w' := ⟨h.os, h.tape, h.output, h.size, fun k hk _ => h.block k hk⟩
theorem Turn.trans {o : Option Nat} {a b c : World} (h : Turn o a b) (k : Turn o b c) : Turn o a c :=
  ⟨k.os.trans h.os, k.tape.trans h.tape, k.output.trans h.output, Nat.le_trans h.size k.size, fun i hi hne => (k.block i (Nat.lt_of_lt_of_le hi h.size) hne).trans (h.block i hi hne)⟩
/-- What turns afterwards is new. -/
theorem Turn.then {o p : Option Nat} {a b c : World} (h : Turn o a b) (k : Turn p b c) (hp : ∀ g, p = some g → o = some g ∨ a.heap.size ≤ g) : Turn o a c :=
  ⟨k.os.trans h.os, k.tape.trans h.tape, k.output.trans h.output, Nat.le_trans h.size k.size, fun i hi hne =>
    (k.block i (Nat.lt_of_lt_of_le hi h.size) (fun e => (hp i e.symm).elim (fun e' => hne e'.symm) (fun e' => by omega))).trans (h.block i hi hne)⟩
theorem Turn.below {o : Option Nat} {B : Nat} {w0 w w' : World} (hb : Below B w0 w) (h : Turn o w w') (hB : B ≤ w.heap.size) (ho : ∀ k, o = some k → B ≤ k) : Below B w0 w' := hb.grown h hB ho
theorem Turn.heap {o : Option Nat} {w w' : World} (h : Turn o w w') {k : Nat} {x : Obj} (hk : w.heap[k]? = some x) (hne : o ≠ some k) : w'.heap[k]? = some x := by
  rw [h.block k (heap_lt hk) (fun e => hne e.symm)]; exact hk
theorem Turn.cell {o : Option Nat} {w w' : World} (h : Turn o w w') {a : Addr} {v : Value} (hc : w.cell? a = some v) (hne : o ≠ some a.block) : w'.cell? a = some v := by
  rw [World.cell?_of_block (w := w) (h.block a.block (cell_lt hc) (fun e => hne e.symm))]; exact hc
theorem Own.turn {w w' : World} {B : Nat} {e : TypeId} {sz : Nat} {s : Sl} {xs : List Value} {o : Option Nat} (h : Own w B e sz s xs) (k : Turn o w w') (hne : ∀ g, o = some g → s.v.ownBlock ≠ some g) : Own w' B e sz s xs := by
  obtain ⟨hl, h⟩ := h
  refine ⟨hl, ?_⟩
  rcases h with h | ⟨g, cap, cur, hv, hg, hh, r⟩
  · exact .inl h
  · refine .inr ⟨g, cap, cur, hv, hg, k.heap hh (fun e => hne g e ?_), r⟩
    rw [hv]; rfl
theorem Rd.turn {w w' : World} {s : Sl} {sz : Nat} {cs : List Value} {o : Option Nat} (h : Rd w s sz cs) (k : Turn o w w') (hne : ∀ g, o = some g → s.v.ownBlock ≠ some g) : Rd w' s sz cs :=
  ⟨h.1, h.2.1, fun hn => by
    obtain ⟨g, q, ha, hc⟩ := h.2.2 hn
    refine ⟨g, q, ha, fun j v hv => k.cell (hc j v hv) (fun e => hne g e ?_)⟩
    show (Value.slice s.a s.n s.c).ownBlock = _
    rw [ha]; rfl⟩
theorem Own.ge {w : World} {B : Nat} {e : TypeId} {sz : Nat} {s : Sl} {xs : List Value} (h : Own w B e sz s xs) {g : Nat} (hg : s.v.ownBlock = some g) : B ≤ g ∧ g < w.heap.size := World.ownsRow.lt h g hg
/-- Two rows, the second made behind the first. -/
theorem Own.ne {w w' : World} {B B' : Nat} {e e' : TypeId} {sz sz' : Nat} {s s' : Sl} {xs xs' : List Value} (h : Own w B e sz s xs) (h' : Own w' B' e' sz' s' xs') (hB : w.heap.size ≤ B') : ∀ g, s.v.ownBlock = some g → s'.v.ownBlock ≠ some g := by
  intro g hg hg'
  have := (h.ge hg).2
  have := (h'.ge hg').1
  omega

/-- A store into a row of the call's own. -/
theorem Own.st {w : World} {B : Nat} {e : TypeId} {s : Sl} {xs : List Value} (h : Own w B e 1 s xs) {i : Nat} (hi : i < s.n) (v : Value) {K : World → Prop}
    (hK : ∀ w', Turn s.v.ownBlock w w' → Own w' B e 1 s (xs.set i v) → K w') : G.ix s.a s.n (i : Int) 1 fun p => G.st p v w K := by
  rcases h.cases with ⟨rfl, rfl⟩ | ⟨g, cur, ha, hg, hb, hn, hm, hl, ht⟩
  · exact absurd hi (Nat.not_lt_zero _)
  · rw [ha]
    refine ⟨⟨by omega, by omega⟩, ?_⟩
    rw [addr_add, Int.toNat_natCast, Nat.mul_one, Nat.zero_add]
    have hlt : i < cur.length := by omega
    refine ⟨⟨cur[i], by rw [hb.cell, List.getElem?_eq_getElem hlt]⟩, hb.frozen i, hK _ ?_ ?_⟩
    · refine ⟨rfl, rfl, rfl, by simp [World.setCell], fun k _ hne => Below.heap_setCell _ _ _ _ fun ek => hne ?_⟩
      show _ = (Value.slice s.a s.n s.c).ownBlock
      rw [ha, ek]; rfl
    · have hs : s = ⟨some ⟨g, 0, none⟩, s.n, s.c⟩ := by rw [← ha]
      rw [hs]
      refine Own.mk' hg (hb.set i v) hn hm (by rw [List.length_set]; exact hl) ?_
      rw [← ht, List.take_set]

/-! ## Lent, Kept -/
/-- l, lent: behind it lies the mark. -/
def Lent (w : World) (B : Nat) (s : Sl) (l : List UInt8) : Prop := OwnB w B ⟨s.a, l.length + 1, s.c⟩ (l ++ [77]) ∧ s.n = l.length
theorem Lent.block {s : Sl} (n : Nat) : (⟨s.a, n, s.c⟩ : Sl).v.ownBlock = s.v.ownBlock := by
  show (Value.slice s.a n s.c).ownBlock = (Value.slice s.a s.n s.c).ownBlock
  cases s.a <;> rfl
theorem Lent.keep {w w' : World} {B : Nat} {s : Sl} {l : List UInt8} (h : Lent w B s l) (k : Keep w w') : Lent w' B s l := ⟨Own.keep h.1 k, h.2⟩
theorem Lent.turn {w w' : World} {B : Nat} {s : Sl} {l : List UInt8} {o : Option Nat} (h : Lent w B s l) (k : Turn o w w') (hne : ∀ g, o = some g → s.v.ownBlock ≠ some g) : Lent w' B s l :=
  ⟨Own.turn h.1 k fun g hg => by rw [Lent.block]; exact hne g hg, h.2⟩
theorem Lent.size {w : World} {B : Nat} {s : Sl} {l : List UInt8} (h : Lent w B s l) {g : Nat} (hg : s.v.ownBlock = some g) : B ≤ g ∧ g < w.heap.size := Own.ge h.1 (by rw [Lent.block]; exact hg)
theorem Lent.rd {w : World} {B : Nat} {s : Sl} {l : List UInt8} (h : Lent w B s l) : RdB w s l := by
  have := Own.rd h.1
  refine ⟨by have := this.1; simp only at this; have := h.2; omega, by rw [vBs_length, h.2, Nat.mul_one], fun hne => ?_⟩
  obtain ⟨g, o, ha, hc⟩ := this.2.2 (by simp [vBs])
  refine ⟨g, o, ha, fun j v hv => hc j v ?_⟩
  rw [vBs_append, List.getElem?_append_left (List.getElem?_eq_some_iff.1 hv).1]
  exact hv

theorem lent_ok {w : World} {b : Sl} {l : List UInt8} (hb : RdB w b l) (hl : l.length ≤ 140737488000000) {K : Sl → World → Prop}
    (hK : ∀ r w', Keep w w' → Lent w' w.heap.size r l → K r w') : C.tocsinref01_Lent b w K := by
  have hn := hb.len
  unfold C.tocsinref01_Lent
  refine appB (Keep.refl w) (Nat.le_refl _) (OwnB.nil _ _) hb (by simp; omega) fun r1 w1 k1 o1 => ?_
  refine pushB (m := [77]) k1 k1.size o1 (by rfl) (by rfl) (by simp; omega) fun r2 w2 k2 o2 => ?_
  rw [List.nil_append] at o2
  have h2 := o2.len
  rw [List.length_append, List.length_singleton] at h2
  rcases Own.cases o2 with ⟨rfl, hx⟩ | ⟨g, cur, ha, hg, hbk, hnc, hm, hcl, ht⟩
  · simp [vBs] at hx
  refine ⟨⟨by omega, by omega, by omega⟩, hK _ w2 k2 ?_⟩
  have hc : r2.c ≠ (0 : Int).toNat := by
    simp only [Int.toNat_zero]; omega
  rw [if_neg hc, ha]
  refine ⟨?_, by simp [hn]⟩
  have e : r2 = ⟨some ⟨g, 0, none⟩, l.length + 1, r2.c⟩ := by rw [← ha, ← h2]
  rw [e] at o2
  simpa [addr_add] using o2

theorem same_ok {w : World} {a b : Sl} {l m : List UInt8} (ha : RdB w a l) (hb : RdB w b m) (hl : l.length ≤ 140737488355328) (hm : m.length ≤ 140737488355328) {K : Bool → World → Prop} (hK : ∀ d, K (decide (l = m)) (w.drewN d)) :
    C.tocsinref01_Same a b w K := by
  have h1 := ha.len
  have h2 := hb.len
  unfold C.tocsinref01_Same
  refine cond_ne (fun h => ?_) (fun h => ?_)
  · have : decide (l = m) = false := decide_eq_false (fun e => h (by rw [h1, h2, e]))
    have h0 := hK 0
    rw [this] at h0
    exact h0
  · have hlen : l.length = m.length := by omega
    unfold C.tocsinref01_Same.S9
    refine C.tocsinref01_Same.L5_ind fun X hX => ?_
    have key : ∀ (e k d : Nat), e + k = l.length → l.take k = m.take k → X a b (k : Int) (w.drewN d) := by
      intro e
      induction e with
      | zero =>
        intro k d hk heq
        refine hX _ _ _ _ ?_
        unfold C.tocsinref01_Same.S7 C.tocsinref01_Same.S2
        refine cond_d (fun h => by omega) (fun _ => ?_)
        have : l = m := by
          rw [List.take_of_length_le (by omega), List.take_of_length_le (by omega)] at heq
          exact heq
        have h0 := hK d
        rw [decide_eq_true this] at h0
        exact h0
      | succ e ih =>
        intro k d hk heq
        have k1 : k < l.length := by omega
        have k2 : k < m.length := by omega
        refine hX _ _ _ _ ?_
        unfold C.tocsinref01_Same.S7
        refine cond_d (fun _ => ?_) (fun h => by omega)
        refine RdB.at_ (Rd.drewN ha d) k1 ?_
        refine RdB.at_ (Rd.drewN hb d) k2 ?_
        intro d'
        rw [World.drewN_drewN]
        refine cond_ne (fun h => ?_) (fun h => ?_)
        · have : decide (l = m) = false := decide_eq_false (fun e => h (by subst e; rfl))
          have h0 := hK (d + d')
          rw [this] at h0
          exact h0
        · rw [wI64 (by omega) (by omega)]
          refine ih (k + 1) _ (by omega) ?_
          rw [List.take_succ_eq_append_getElem k1, List.take_succ_eq_append_getElem k2, heq]
          have : l[k] = m[k] := UInt8.toNat_inj.1 (by exact_mod_cast h)
          rw [this]
    exact key l.length 0 0 (by omega) (by simp)

theorem same_yes {w : World} {a b : Sl} {l : List UInt8} (ha : RdB w a l) (hb : RdB w b l) (hl : l.length ≤ 140737488355328) {K : Bool → World → Prop} (hK : ∀ d, K true (w.drewN d)) : C.tocsinref01_Same a b w K :=
  same_ok ha hb hl hl fun d => by rw [decide_eq_true rfl]; exact hK d

theorem kept_ok {w : World} {B : Nat} {c b : Sl} {l : List UInt8} (hc : Lent w B c l) (hb : RdB w b l) (hl : l.length ≤ 140737488000000) {K : Bool → World → Prop} (hK : ∀ d, K true (w.drewN d)) : C.tocsinref01_Kept c b w K := by
  have hn := hb.len
  unfold C.tocsinref01_Kept
  refine same_yes hc.rd hb (by omega) fun d => cond_t rfl ?_
  have o := Rd.drewN (Own.rd hc.1) d
  have hcap := o.1
  simp only at hcap
  rw [wI64 (by omega) (by omega)]
  refine ⟨⟨by omega, by omega, by omega⟩, ?_⟩
  have h0 : c.c ≠ (0 : Int).toNat := by simp only [Int.toNat_zero]; omega
  rw [if_neg h0]
  obtain ⟨g, q, ha, hcell⟩ := o.2.2 (by simp [vBs])
  simp only at ha
  rw [ha]
  refine ⟨⟨by omega, by simp; omega⟩, 77, ?_, ?_⟩
  · have := hcell l.length (.int .u8 77) (by simp [vBs, vB])
    simpa [addr_add, hn] using this
  · exact hK d

/-! ## Spoil -/
theorem spoil_ok {w : World} {B : Nat} {b : Sl} {l : List UInt8} (ho : OwnB w B b l) (hB : B ≤ w.heap.size) (hl : l.length ≤ 140737488300000) {K : World → Prop} (hK : ∀ w', Turn b.v.ownBlock w w' → K w') : C.tocsinref01_Spoil b w K := by
  unfold C.tocsinref01_Spoil C.tocsinref01_Spoil.S9
  refine C.tocsinref01_Spoil.L5_ind fun X hX => ?_
  have key : ∀ (e k : Nat) (m : List UInt8) (w' : World), e + k = m.length → m.length ≤ 140737488300000 → OwnB w' B b m → Turn b.v.ownBlock w w' → X b (k : Int) w' := by
    intro e
    induction e with
    | zero =>
      intro k m w' hk hm hw ht
      have hn := hw.len
      refine hX _ _ _ ?_
      unfold C.tocsinref01_Spoil.S7 C.tocsinref01_Spoil.S2
      refine cond_d (fun h => by omega) (fun _ => ?_)
      refine append_own tiB (Below.alloc (Below.refl B w') (Nat.le_trans hB ht.size) _) (by have := ht.size; simp; omega) (Own.keep hw (Keep.alloc w' _)) (rd_new (n := 1) (sz := 1) (by rfl)) (by intro v hv; simp at hv; subst hv; rfl) (by simp only [maxLen]; omega) (by simp only; omega) fun r w2 k2 o2 hrn hT => ?_
      simp only at hrn
      rw [hrn, wI64 (by omega) (by omega), show (((b.n + 1 : Nat) : Int) - 1) = ((b.n : Nat) : Int) by omega]
      rw [← hrn]
      refine Own.st o2 (i := b.n) (by omega) _ fun w3 h3 _ => ?_
      refine hK w3 (Turn.trans ht ?_)
      have h12 : Turn b.v.ownBlock w' w2 := Turn.trans (Keep.turn (Keep.alloc w' _) _) hT.1
      refine Turn.then h12 h3 fun g hg => ?_
      rcases hT.2 with e | e
      · rw [e] at hg; exact .inl hg
      · rw [e] at hg
        injection hg with hg
        simp at hg
        exact .inr (by omega)
    | succ e ih =>
      intro k m w' hk hm hw ht
      have hn := hw.len
      have hlt : k < m.length := by omega
      refine hX _ _ _ ?_
      unfold C.tocsinref01_Spoil.S7
      refine cond_d (fun _ => ?_) (fun h => by omega)
      refine hw.rd.at_ hlt ?_
      refine Own.st hw (i := k) (by omega) _ fun w2 h2 o2 => ?_
      rw [wI64 (by omega) (by omega)]
      refine ih (k + 1) (m.set k (m[k] ^^^ 90)) w2 (by rw [List.length_set]; omega) (by rw [List.length_set]; omega) ?_ (Turn.trans ht h2)
      have hx : Value.int .u8 (Go.bits .xor .u8 (m[k].toNat : Int) (90 : Int)) = vB (m[k] ^^^ 90) := by
        have := m[k].toNat_lt
        rw [show (90 : Int) = ((90 : Nat) : Int) from rfl, bits_xor rfl (by simp only [IntKind.bits]; omega) (by decide)]
        unfold vB
        rw [UInt8.toNat_xor]; rfl
      rw [hx] at o2
      have : vBs (m.set k (m[k] ^^^ 90)) = (vBs m).set k (vB (m[k] ^^^ 90)) := by simp [vBs, List.map_set]
      rw [OwnB, this]; exact o2
  exact key l.length 0 l w (by omega) hl ho (Turn.trans (Keep.turn (Keep.refl w) _) (Keep.turn (Keep.refl w) _))
end Go.Proofs.YtpgpdeojggcibaaDoor.Mem
