/- Layer 2: the reference's forms. Own work. -/
import Derived.Test.YtnilefminhchfaaDoorBitsI
namespace Go.Proofs.YtnilefminhchfaaDoor.Bits
open Go Vm Go.RowKit Num Mem

def vb (b : Bool) : Value := .bool b
def vbs (l : List Bool) : List Value := l.map vb
theorem vbs_app (a b : List Bool) : vbs (a ++ b) = vbs a ++ vbs b := List.map_append
theorem tib : TI Tryd.prog 26 4 1 1 := TI.of (z := .bool false) (by kernel_rfl) (by kernel_rfl) rfl (by decide)
abbrev Ownb (w : World) (B : Nat) (s : Sl) (l : List Bool) : Prop := Own w B 4 1 s (vbs l)
theorem Ownb.len {w : World} {B : Nat} {s : Sl} {l : List Bool} (h : Ownb w B s l) : s.n = l.length := by
  have := h.1
  simp [vbs] at this
  omega

/-- A stream, of the call's own. -/
structure St (w : World) (B g : Nat) (s : Sl) (l : List Bool) : Prop where
  blk : Blk w g 28 [s.v, .int .i64 0]
  own : Ownb w B s l
  ge : B ≤ g
  ne : s.v.ownBlock ≠ some g
theorem St.keep {w w' : World} {B g : Nat} {s : Sl} {l : List Bool} (h : St w B g s l) (k : Keep w w') : St w' B g s l := ⟨h.blk.keep k, Own.keep h.own k, h.ge, h.ne⟩
theorem St.chg {X : Nat → Prop} {w w' : World} {B g : Nat} {s : Sl} {l : List Bool} (h : St w B g s l) (k : Chg X w w') (hX : ∀ k, foot g s k → ¬ X k) : St w' B g s l :=
  ⟨h.blk.chg k (hX g (.inl rfl)), Own.chg h.own k fun g' hg' => hX g' (.inr hg'), h.ge, h.ne⟩
theorem St.lt {w : World} {B g : Nat} {s : Sl} {l : List Bool} (h : St w B g s l) {k : Nat} (hk : foot g s k) : B ≤ k ∧ k < w.heap.size := by
  rcases hk with rfl | hk
  · exact ⟨h.ge, h.blk.lt⟩
  · exact Own.geC h.own hk

/-- s.L = append(s.L, b). -/
theorem add_ok {w : World} {B g : Nat} {s : Sl} {l : List Bool} {b : Bool} (h : St w B g s l) (hB : B ≤ w.heap.size) (hl : l.length ≤ 140737488300000) {K : World → Prop}
    (hK : ∀ s' w', Chg (foot g s) w w' → St w' B g s' (l ++ [b]) → (∀ j, foot g s' j → foot g s j ∨ w.heap.size ≤ j) → K w') :
    G.ptr (wp g) fun p6 => G.cSl p6 w fun l7 => G.new (.cells #[(.bool b)] 4) w fun p8 w9 => G.runSl Tryd.prog (Builtin.append_ #[26, 26] 26 #[l7.v, (Sl.v (⟨some p8, 1, 1⟩ : Sl))]) w9 fun l10 w11 => G.ptr (wp g) fun p12 => G.st p12 l10.v w11 fun w13 => K w13 := by
  have hn := Ownb.len h.own
  refine ptr_at (cSl_at (s := s) (by rw [h.blk.cell]; rfl) ?_)
  refine pushC tib (n := 1) hB h.own (by rfl) (by intro v hv; simp at hv; subst hv; rfl) (by simp only [maxLen]; omega) (by omega) fun r w1 k1 o1 hr hf => ?_
  have hb1 := h.blk.chg k1 h.ne
  refine ptr_at (st_at (by rw [hb1.cell]; rfl) (hb1.frozen 0) ?_)
  have k2 := setCell_chg w1 g 0 r.v
  have hrg : r.v.ownBlock ≠ some g := by
    rcases hf with e | e
    · rw [e]; exact h.ne
    · intro e'
      have := e g e'
      have := h.blk.lt
      omega
  have o2 := Own.chg o1 k2 (fun k hk e => hrg (by rw [hk, e]))
  refine hK r _ (Chg.then (k1.mono fun k hk => .inl (.inr hk)) k2 fun k hk => .inl (.inl hk)) ⟨hb1.set 0 r.v, by rw [Ownb, vbs_app]; exact o2, h.ge, hrg⟩ fun k hk => ?_
  rcases hk with hk | hk
  · exact .inl (.inl hk)
  · rcases hf with e | e
    · rw [e] at hk; exact .inl (.inr hk)
    · exact .inr (e k hk)

theorem rwid_ok {r : Nat} (hr : r ≤ 8) {w : World} {K : Int → World → Prop} (hK : ∀ w', Keep w w' → K ((wid r : Nat) : Int) w') : C.tocsinref02_width (r : Int) w K := by
  unfold C.tocsinref02_width
  refine new_at ?_
  have hb := Blk.new w 3 #[(.int .i64 (0 : Int)), (.int .i64 (3 : Int)), (.int .i64 (6 : Int)), (.int .i64 (9 : Int)), (.int .i64 (12 : Int)), (.int .i64 (18 : Int)), (.int .i64 (25 : Int)), (.int .i64 (56 : Int)), (.int .i64 (64 : Int))]
  refine ⟨⟨by omega, by simp only; omega⟩, cI_at (n := ((wid r : Nat) : Int)) ?_ (hK _ (Keep.alloc w _))⟩
  rw [addr_add, hb.cell, Int.toNat_natCast, Nat.mul_one, Nat.zero_add]
  have : ∀ j : Fin 9, ([(.int .i64 (0 : Int)), (.int .i64 (3 : Int)), (.int .i64 (6 : Int)), (.int .i64 (9 : Int)), (.int .i64 (12 : Int)), (.int .i64 (18 : Int)), (.int .i64 (25 : Int)), (.int .i64 (56 : Int)), (.int .i64 (64 : Int))] : List Value)[j.val]? = some (.int .i64 ((wid j.val : Nat) : Int)) := by
    intro j
    match j with
    | ⟨0, _⟩ => rfl
    | ⟨1, _⟩ => rfl
    | ⟨2, _⟩ => rfl
    | ⟨3, _⟩ => rfl
    | ⟨4, _⟩ => rfl
    | ⟨5, _⟩ => rfl
    | ⟨6, _⟩ => rfl
    | ⟨7, _⟩ => rfl
    | ⟨8, _⟩ => rfl
  exact this ⟨r, by omega⟩

theorem in_ok {n : Int} {k : Nat} (hk : 0 < k) (hk' : k ≤ 56) {w : World} {K : Bool → World → Prop} (hK : K (fitsB n k) w) : C.tocsinref02_In n (k : Int) w K := by
  have := fits_ok hk hk' hK
  unfold C.bits_fits at this
  unfold C.tocsinref02_In
  obtain ⟨h0, h1⟩ := this
  refine ⟨h0, ?_⟩
  revert h1
  refine fun h1 => cond_of (fun e => ?_) (fun e => ?_)
  · rw [e] at h1; exact h1.2
  · rw [e] at h1; exact h1

theorem rrow_ok {n : Int} {w0 : World} {K : Int → World → Prop} (hK : ∀ w', Keep w0 w' → K ((row n : Nat) : Int) w') : C.tocsinref02_Row n w0 K := by
  unfold C.tocsinref02_Row
  unfold row at hK
  refine cond_eq (fun h => ?_) (fun h => ?_)
  · rw [if_pos h] at hK; exact hK w0 (Keep.refl w0)
  rw [if_neg h] at hK
  unfold C.tocsinref02_Row.S9
  refine C.tocsinref02_Row.L5_ind fun X hX => ?_
  have key : ∀ (d r : Nat) (w : World), d + r = 8 → 0 < r → Keep w0 w → (∀ w', Keep w0 w' → K ((rowF n d r : Nat) : Int) w') → X n (r : Int) w := by
    intro d
    induction d with
    | zero =>
      intro r w hr hp k hK
      refine hX _ _ _ ?_
      unfold C.tocsinref02_Row.S7 C.tocsinref02_Row.S2
      exact cond_d (fun h => by omega) (fun _ => hK w k)
    | succ d ih =>
      intro r w hr hp k hK
      refine hX _ _ _ ?_
      unfold C.tocsinref02_Row.S7
      refine cond_d (fun _ => ?_) (fun h => by omega)
      refine rwid_ok (by omega) fun w1 k1 => ?_
      have hw := wid_pos ⟨r, by omega⟩ hp
      have hw' : wid r ≤ 56 := (show ∀ j : Fin 8, wid j.val ≤ 56 by decide) ⟨r, by omega⟩
      refine in_ok hw hw' ?_
      rw [rowF] at hK
      have k01 := Keep.trans k k1
      cases hf : fitsB n (wid r)
      · refine cond_f rfl ?_
        rw [hf, if_neg (by decide)] at hK
        rw [wI64 (by omega) (by omega)]
        exact ih (r + 1) w1 (by omega) (by omega) k01 hK
      · refine cond_t rfl ?_
        rw [hf, if_pos rfl] at hK
        exact hK w1 k01
  exact key 7 1 w0 rfl (by decide) (Keep.refl w0) hK

theorem rlow_ok {n : Int} {k : Nat} (hk : k ≤ 64) {w : World} {K : Int → World → Prop} (hK : K ((lowN n k : Nat) : Int) w) : C.tocsinref02_Low n (k : Int) w K := by
  unfold C.tocsinref02_Low
  refine cond_d (fun h => ?_) (fun h => ⟨by rw [wU64_id (by omega) (by omega)]; omega, ?_⟩)
  · rw [wrapU]
    unfold lowN at hK
    rw [if_neg (by omega)] at hK; exact hK
  · rw [low_and (by omega)]; exact hK

theorem write_ok {w0 w : World} {B g : Nat} {s0 s : Sl} {v : Nat} (hv : v < 18446744073709551616) {k : Nat} (hk : k ≤ 64) {l : List Bool} (h : St w B g s l) (hB : B ≤ w.heap.size) (hl : l.length ≤ 140737488000000) (hc : Chg (foot g s0) w0 w) (hf : ∀ j, foot g s j → foot g s0 j ∨ w0.heap.size ≤ j) {K : World → Prop}
    (hK : ∀ s' w', Chg (foot g s0) w0 w' → St w' B g s' (l ++ low v k) → (∀ j, foot g s' j → foot g s0 j ∨ w0.heap.size ≤ j) → K w') : C.tocsinref02_Stream_Write (wp g) (v : Int) (k : Int) w K := by
  unfold C.tocsinref02_Stream_Write
  refine C.tocsinref02_Stream_Write.L3_ind fun X hX => ?_
  rw [wI64 (by omega) (by omega)]
  have key : ∀ (k : Nat) (l : List Bool) (s : Sl) (w : World), k ≤ 64 → B ≤ w.heap.size → l.length + k ≤ 140737488000064 → St w B g s l → Chg (foot g s0) w0 w → (∀ j, foot g s j → foot g s0 j ∨ w0.heap.size ≤ j) →
      (∀ s' w', Chg (foot g s0) w0 w' → St w' B g s' (l ++ low v k) → (∀ j, foot g s' j → foot g s0 j ∨ w0.heap.size ≤ j) → K w') → X (wp g) (v : Int) ((k : Int) - 1) w := by
    intro k
    induction k with
    | zero =>
      intro l s w _ _ _ h hc hf hK
      refine hX _ _ _ _ ?_
      unfold C.tocsinref02_Stream_Write.S5
      exact cond_d (fun h => by omega) (fun _ => hK s w hc (by simpa [low] using h) hf)
    | succ k ih =>
      intro l s w hk hB hl h hc hf hK
      refine hX _ _ _ _ ?_
      unfold C.tocsinref02_Stream_Write.S5
      rw [show ((k + 1 : Nat) : Int) - 1 = (k : Int) by omega, wU64_id (by omega) (by omega), bit_eq hv (by omega), wI64 (by omega) (by omega)]
      refine cond_d (fun _ => ?_) (fun h => by omega)
      have := add_ok (b := bitOf v k) h hB (by omega) (K := fun w13 => X (wp g) (v : Int) ((k : Int) - 1) w13) fun s' w' c1 h1 f1 => ?_
      · obtain ⟨t, ht, hr⟩ := this
        exact ⟨t, ht, by omega, hr⟩
      · refine ih _ s' w' (by omega) (Nat.le_trans hB c1.size) (by simp only [List.length_append, List.length_singleton]; omega) h1 (Chg.then hc c1 hf) (fun j hj => (f1 j hj).elim (hf j) fun e => .inr (Nat.le_trans hc.size e)) fun s2 w2 c2 h2 f2 => hK s2 w2 c2 ?_ f2
        simpa [low] using h2
  exact key k l s w hk hB (by omega) h hc hf hK
end Go.Proofs.YtnilefminhchfaaDoor.Bits
