/- Layer 4: label sets compared, by both sides. Own work. -/
import Derived.Test.YtfkpehcbijgmnaaGreatDoorLabR
import Derived.Lib.Bytealg
namespace Go.Proofs.YtfkpehcbijgmnaaGreatDoor.Lab
open Go Vm Go.RowKit Num Mem Utf Lib
variable {ω ω' : Tg} {w w' w0 : World}

/-! ## Comparisons -/
structure Cmp {α : Type} (c : α → α → Int) : Prop where
  vals : ∀ x y, c x y = -1 ∨ c x y = 0 ∨ c x y = 1
  eq : ∀ x y, c x y = 0 ↔ x = y
  anti : ∀ x y, c y x = - c x y
  trans : ∀ x y z, c x y < 0 → c y z < 0 → c x z < 0
def lexL {α : Type} (c : α → α → Int) : List α → List α → Int
  | [], [] => 0
  | [], _ :: _ => -1
  | _ :: _, [] => 1
  | a :: xs, b :: bs => if c a b ≠ 0 then c a b else lexL c xs bs
def pairC {α β : Type} (c : α → α → Int) (d : β → β → Int) (x y : α × β) : Int := if c x.1 y.1 ≠ 0 then c x.1 y.1 else d x.2 y.2
section
variable {α β : Type} {c : α → α → Int} {d : β → β → Int}
theorem Cmp.self (h : Cmp c) (x : α) : c x x = 0 := (h.eq x x).2 rfl
theorem Cmp.lex (h : Cmp c) : Cmp (lexL c) := by
  refine ⟨?_, ?_, ?_, ?_⟩
  · intro x
    induction x with
    | nil => intro y; cases y <;> simp [lexL]
    | cons a xs ih =>
      intro y
      cases y with
      | nil => simp [lexL]
      | cons b bs =>
        unfold lexL
        split
        · exact h.vals a b
        · exact ih bs
  · intro x
    induction x with
    | nil => intro y; cases y <;> simp [lexL]
    | cons a xs ih =>
      intro y
      cases y with
      | nil => simp [lexL]
      | cons b bs =>
        unfold lexL
        split
        · rename_i h0
          constructor
          · intro e; exact absurd e h0
          · intro e; cases e; exact absurd (h.self a) h0
        · rename_i h0
          have h0 : c a b = 0 := by simpa using h0
          have e := (h.eq a b).1 h0
          subst e
          rw [ih bs]; simp
  · intro x
    induction x with
    | nil => intro y; cases y <;> simp [lexL]
    | cons a xs ih =>
      intro y
      cases y with
      | nil => simp [lexL]
      | cons b bs =>
        unfold lexL
        rw [h.anti a b, ih bs]
        split <;> split <;> omega
  · intro x
    induction x with
    | nil => intro y z h1 h2; cases y with
      | nil => simp [lexL] at h1
      | cons b bs => cases z with
        | nil => simp [lexL] at h2
        | cons d ds => simp [lexL]
    | cons a xs ih => intro y z h1 h2; cases y with
      | nil => simp [lexL] at h1
      | cons b bs => cases z with
        | nil => simp [lexL] at h2
        | cons d ds =>
          unfold lexL at h1 h2 ⊢
          by_cases e1 : c a b = 0
          · have := (h.eq a b).1 e1
            subst this
            rw [if_neg (by simpa using e1)] at h1
            by_cases e2 : c a d = 0
            · rw [if_neg (by simpa using e2)] at h2 ⊢
              exact ih bs ds h1 h2
            · rw [if_pos e2] at h2 ⊢; exact h2
          · rw [if_pos e1] at h1
            by_cases e2 : c b d = 0
            · have := (h.eq b d).1 e2
              subst this
              rw [if_pos e1]; exact h1
            · rw [if_pos e2] at h2
              have := h.trans a b d h1 h2
              rw [if_pos (by omega)]; exact this
theorem Cmp.pair (h : Cmp c) (k : Cmp d) : Cmp (pairC c d) := by
  refine ⟨?_, ?_, ?_, ?_⟩
  · intro x y
    unfold pairC
    split
    · exact h.vals _ _
    · exact k.vals _ _
  · rintro ⟨x1, x2⟩ ⟨y1, y2⟩
    unfold pairC
    dsimp only
    by_cases e1 : c x1 y1 = 0
    · have := (h.eq x1 y1).1 e1
      subst this
      rw [if_neg (by simpa using e1), k.eq]; simp
    · rw [if_pos e1]
      constructor
      · intro e; exact absurd e e1
      · intro e; cases e; exact absurd (h.self x1) e1
  · intro x y
    unfold pairC
    rw [h.anti x.1 y.1, k.anti x.2 y.2]
    split <;> split <;> omega
  · rintro ⟨x1, x2⟩ ⟨y1, y2⟩ ⟨z1, z2⟩ h1 h2
    unfold pairC at h1 h2 ⊢
    dsimp only at h1 h2 ⊢
    by_cases e1 : c x1 y1 = 0
    · have := (h.eq _ _).1 e1
      subst this
      rw [if_neg (by simpa using e1)] at h1
      by_cases e2 : c x1 z1 = 0
      · rw [if_neg (by simpa using e2)] at h2 ⊢
        exact k.trans _ _ _ h1 h2
      · rw [if_pos e2] at h2 ⊢; exact h2
    · rw [if_pos e1] at h1
      by_cases e2 : c y1 z1 = 0
      · have := (h.eq _ _).1 e2
        subst this
        rw [if_pos e1]; exact h1
      · rw [if_pos e2] at h2
        have := h.trans _ _ _ h1 h2
        rw [if_pos (by omega)]; exact this
end
def cU (a b : UInt8) : Int := if a < b then -1 else if b < a then 1 else 0
theorem cU_cmp : Cmp cU := by
  refine ⟨fun x y => ?_, fun x y => ?_, fun x y => ?_, fun x y z h1 h2 => ?_⟩
  · unfold cU; split; · simp
    split <;> simp
  · unfold cU
    simp only [UInt8.lt_iff_toNat_lt, ← UInt8.toNat_inj]
    split
    · simp; omega
    · split
      · simp; omega
      · simp; omega
  · unfold cU
    simp only [UInt8.lt_iff_toNat_lt]
    split <;> split <;> first | omega | (split <;> omega) | rfl
  · unfold cU at *
    simp only [UInt8.lt_iff_toNat_lt] at *
    split at h1
    · split at h2
      · rw [if_pos (by omega)]; omega
      · split at h2 <;> omega
    · split at h1 <;> omega
theorem cb_lex : ∀ a b : List UInt8, compareBytes a b = lexL cU a b
  | [], [] => rfl
  | [], _ :: _ => rfl
  | _ :: _, [] => rfl
  | a :: xs, b :: bs => by
    unfold compareBytes lexL cU
    rw [cb_lex xs bs]
    split
    · rfl
    · split
      · rfl
      · rfl
/-- Texts compared. -/
def cB (a b : ByteArray) : Int := compareBytes a.data.toList b.data.toList
theorem cB_cmp : Cmp cB := by
  have h := cU_cmp.lex
  refine ⟨fun x y => ?_, fun x y => ?_, fun x y => ?_, fun x y z h1 h2 => ?_⟩
  · unfold cB; rw [cb_lex]; exact h.vals _ _
  · unfold cB; rw [cb_lex, h.eq]
    constructor
    · intro e
      have := Array.toList_inj.1 e
      cases x; cases y; simp at this; rw [this]
    · rintro rfl; rfl
  · unfold cB; rw [cb_lex, cb_lex]; exact h.anti _ _
  · unfold cB at *; rw [cb_lex] at *; exact h.trans _ _ _ h1 h2
/-- Label sets compared. -/
def cL : Lb → Lb → Int := pairC cB cB
def cmpL : List Lb → List Lb → Int := lexL cL
theorem cL_cmp : Cmp cL := cB_cmp.pair cB_cmp
theorem cmpL_cmp : Cmp cmpL := cL_cmp.lex
theorem less_cb : ∀ a b : List UInt8, Op.bytesLess a b = decide (compareBytes a b = -1)
  | [], [] => by simp [Op.bytesLess, compareBytes]
  | [], _ :: _ => by simp [Op.bytesLess, compareBytes]
  | _ :: _, [] => by simp [Op.bytesLess, compareBytes]
  | a :: xs, b :: bs => by
    unfold Op.bytesLess compareBytes
    rw [less_cb xs bs]
    simp only [UInt8.lt_iff_toNat_lt]
    by_cases h1 : a.toNat < b.toNat
    · simp [h1]
    · by_cases h2 : b.toNat < a.toNat
      · have : ¬ a = b := fun e => by subst e; omega
        simp [h1, h2, this]
      · have : a = b := UInt8.toNat_inj.1 (by omega)
        subst this
        simp
theorem lessB (a b : ByteArray) : Op.bytesLess a.toList b.toList = decide (cB a b = -1) := by
  rw [ByteArray.toList_eq, ByteArray.toList_eq, less_cb]; rfl
theorem eqB (a b : ByteArray) : (a.toList == b.toList) = decide (cB a b = 0) := by
  rw [ByteArray.toList_eq, ByteArray.toList_eq]
  by_cases h : a = b
  · subst h; simp [cB_cmp.self]
  · rw [decide_eq_false (fun e => h ((cB_cmp.eq a b).1 e)), beq_eq_false_iff_ne]
    intro e
    refine h ?_
    cases a; cases b
    simpa using e

/-! ## Worlds that only grow, with nothing drawn -/
def KD (w w' : World) : Prop := Keep w w' ∧ w'.drawn = w.drawn
theorem KD.refl (w : World) : KD w w := ⟨Keep.refl w, rfl⟩
theorem KD.trans {a b c : World} (h : KD a b) (k : KD b c) : KD a c := ⟨Keep.trans h.1 k.1, k.2.trans h.2⟩
theorem newD {e : TypeId} {o : Array Value} {Z : Addr → World → Prop} (hK : ∀ g w', KD w w' → w.heap.size ≤ g → Blk w' g e o.toList → Z ⟨g, 0, none⟩ w') : G.new (.cells o e) w Z :=
  new_at (hK _ _ ⟨Keep.alloc _ _, rfl⟩ (Nat.le_refl _) (Blk.new w e o))
theorem stD {g j : Nat} {e : TypeId} {cs : List Value} {w1 : World} (hg : w.heap.size ≤ g) (k : KD w w1) (hb : Blk w1 g e cs) {v : Value} (hj : j < cs.length) {Z : World → Prop} (hK : ∀ w', KD w w' → Blk w' g e (cs.set j v) → Z w') : G.st ⟨g, j, none⟩ v w1 Z := by
  refine st_at (by rw [hb.cell, List.getElem?_eq_getElem hj]) (hb.frozen j) (hK _ ⟨⟨k.1.os, k.1.tape, k.1.output, ?_, fun i hi => ?_⟩, k.2⟩ (hb.set j v))
  · have := k.1.size; simpa [World.setCell] using this
  · rw [Below.heap_setCell _ _ _ _ (show i ≠ g by omega)]; exact k.1.block i hi
theorem stDA {g i j : Nat} {e : TypeId} {cs : List Value} {w1 : World} (hg : w.heap.size ≤ g) (k : KD w w1) (hb : Blk w1 g e cs) {v : Value} (hj : i + j < cs.length) {Z : World → Prop} (hK : ∀ w', KD w w' → Blk w' g e (cs.set (i + j) v) → Z w') : G.st (Addr.add ⟨g, i, none⟩ j) v w1 Z := by
  rw [addr_add]; exact stD hg k hb hj hK

/-! ## The program's Compare -/
theorem scmp_ok {a b : ByteArray} {K : Int → World → Prop} (hK : K (cB a b) w) : C.strings_Compare a b w K := hK
theorem cmp1_ok {x y : Lb} {K : Int → World → Prop} (hK : ∀ w', KD w w' → K (cL x y) w') : C.labels_Compare_1 x.1 x.2 y.1 y.2 w K := by
  unfold C.labels_Compare_1
  refine newD fun g w1 k1 _ b1 => newD fun g2 w2 k2 _ b2 => ?_
  have k12 := k1.trans k2
  have b12 := b1.keep k2.1
  refine cS_at (b := x.1) (by rw [b12.cell]; rfl) <| cS_at (b := y.1) (by rw [b2.cell]; rfl) <| scmp_ok ?_
  have := hK w2 k12
  unfold cL pairC at this
  refine cond_ne (fun h => ?_) (fun h => ?_)
  · rw [if_pos h] at this; exact this
  · rw [if_neg (by simpa using h)] at this
    exact cS_at (b := x.2) (by rw [addr_add, b12.cell]; rfl) <| cS_at (b := y.2) (by rw [addr_add, b2.cell]; rfl) <| scmp_ok this
theorem rdL_n {s : Sl} {m : List Lb} (h : Rd w s 2 (labs m)) : s.n = m.length := by have := h.2.1; rw [labs_len] at this; omega
theorem lexL_nil_l {α : Type} {c : α → α → Int} (y : List α) : lexL c [] y = if y.length = 0 then 0 else -1 := by cases y <;> rfl
theorem compare_ok {a b : Sl} {x y : List Lb} (ha : Rd w0 a 2 (labs x)) (hb : Rd w0 b 2 (labs y)) (hx : x.length ≤ 9000000000000000000) {K : Int → World → Prop} (hK : ∀ w', KD w0 w' → K (cmpL x y) w') : C.labels_Compare a b w0 K := by
  have han := rdL_n ha
  have hbn := rdL_n hb
  unfold C.labels_Compare C.slices_CompareFunc_Label_Label_Label_Label C.slices_CompareFunc_Label_Label_Label_Label.S9
  refine C.slices_CompareFunc_Label_Label_Label_Label.L5_ind fun X hX => ?_
  have key : ∀ (d i : Nat) (w : World), i + d = x.length → i ≤ y.length → KD w0 w → (∀ w', KD w0 w' → K (lexL cL (x.drop i) (y.drop i)) w') → X a b (.func (.func 37) #[] #[]) a ((a.n : Nat) : Int) (i : Int) w := by
    intro d
    induction d with
    | zero =>
      intro i w hi hy k hK
      refine hX _ _ _ _ _ _ _ ?_
      unfold C.slices_CompareFunc_Label_Label_Label_Label.S7 C.slices_CompareFunc_Label_Label_Label_Label.S2
      have := hK w k
      rw [List.drop_of_length_le (by omega), lexL_nil_l, List.length_drop] at this
      refine cond_d (fun h => by omega) (fun _ => cond_d (fun h => ?_) (fun h => ?_))
      · rw [if_neg (by omega)] at this; exact this
      · rw [if_pos (by omega)] at this; exact this
    | succ d ih =>
      intro i w hi hy k hK
      refine hX _ _ _ _ _ _ _ ?_
      unfold C.slices_CompareFunc_Label_Label_Label_Label.S7
      have hxi : x[i]? = some x[i] := List.getElem?_eq_getElem (by omega)
      refine cond_d (fun _ => ?_) (fun h => by omega)
      refine rdL_at (ha.keep k.1) (k := i) rfl hxi fun p p0 p1 => cS_at p0 <| cS_at p1 ?_
      refine newD fun g1 w1 k1 hg1 b1 => stD hg1 k1 b1 (by simp) fun w2 k2 b2 => stDA hg1 k2 b2 (by simp) fun w3 k3 b3 => ?_
      refine cond_d (fun h => ?_) (fun h => ?_)
      · have := hK w3 (k.trans k3)
        rw [List.drop_eq_getElem_cons (by omega), List.drop_of_length_le (l := y) (by omega)] at this
        exact this
      have hyi : y[i]? = some y[i] := List.getElem?_eq_getElem (by omega)
      have k03 := k.trans k3
      refine rdL_at (hb.keep k03.1) (k := i) rfl hyi fun q q0 q1 => cS_at q0 <| cS_at q1 ?_
      refine newD fun g4 w4 k4 hg4 b4 => stD hg4 k4 b4 (by simp) fun w5 k5 b5 => stDA hg4 k5 b5 (by simp) fun w6 k6 b6 => ?_
      have b36 := b3.keep k6.1
      have k06 := k03.trans k6
      refine cS_at (b := x[i].1) (by rw [b36.cell]; rfl) <| cS_at (b := x[i].2) (by rw [addr_add, b36.cell]; rfl) <| cS_at (b := y[i].1) (by rw [b6.cell]; rfl) <| cS_at (b := y[i].2) (by rw [addr_add, b6.cell]; rfl) ?_
      show C.labels_Compare_1 x[i].1 x[i].2 y[i].1 y[i].2 w6 _
      refine cmp1_ok fun w7 k7 => ?_
      have k07 := k06.trans k7
      rw [List.drop_eq_getElem_cons (by omega), List.drop_eq_getElem_cons (l := y) (by omega)] at hK
      unfold lexL at hK
      refine show G.cond _ _ _ from cond_ne (fun h => ?_) (fun h => ?_)
      · have := hK w7 k07
        rw [if_pos h] at this; exact this
      · rw [if_neg (by simpa using h)] at hK
        rw [wI64 (by omega) (by omega), show (i : Int) + 1 = ((i + 1 : Nat) : Int) by omega]
        exact ih (i + 1) w7 (by omega) (by omega) k07 hK
  exact key x.length 0 w0 (by omega) (by omega) (KD.refl w0) hK

/-! ## The reference's -/
theorem rside_ok {a b : ByteArray} {K : Int → World → Prop} (hK : K (cB a b) w) : C.tocsinref04_side a b w K := by
  unfold C.tocsinref04_side
  rw [lessB, eqB]
  refine cond_d (fun h => by rw [h] at hK; exact hK) (fun h => ?_)
  rw [decide_eq_false h, Bool.false_or]
  rcases cB_cmp.vals a b with e | e | e
  · exact absurd e h
  · rw [e] at hK ⊢
    exact cond_f rfl hK
  · rw [e] at hK ⊢
    exact cond_t rfl hK
theorem rcmp_ok {a b : Sl} {x y : List Lb} (ha : Rd w0 a 2 (labs x)) (hb : Rd w0 b 2 (labs y)) (hx : x.length ≤ 9000000000000000000) {K : Int → World → Prop} (hK : ∀ w', Keep w0 w' → K (cmpL x y) w') : C.tocsinref04_Compare a b w0 K := by
  have han := rdL_n ha
  have hbn := rdL_n hb
  unfold C.tocsinref04_Compare C.tocsinref04_Compare.S9
  refine C.tocsinref04_Compare.L5_ind fun X hX => ?_
  have key : ∀ (d i : Nat) (w : World), i + d = x.length → i ≤ y.length → Keep w0 w → (∀ w', Keep w0 w' → K (lexL cL (x.drop i) (y.drop i)) w') → X a b (i : Int) w := by
    intro d
    induction d with
    | zero =>
      intro i w hi hy k hK
      refine hX _ _ _ _ ?_
      unfold C.tocsinref04_Compare.S7 C.tocsinref04_Compare.S2
      have := hK w k
      rw [List.drop_of_length_le (by omega), lexL_nil_l, List.length_drop] at this
      refine cond_d (fun h => by omega) (fun _ => cond_d (fun h => ?_) (fun h => cond_d (fun h2 => by omega) fun h2 => ?_))
      · rw [if_neg (by omega)] at this; exact this
      · rw [if_pos (by omega)] at this; exact this
    | succ d ih =>
      intro i w hi hy k hK
      refine hX _ _ _ _ ?_
      unfold C.tocsinref04_Compare.S7 C.tocsinref04_Compare.S2
      have hxi : x[i]? = some x[i] := List.getElem?_eq_getElem (by omega)
      refine cond_d (fun _ => ?_) (fun h => by omega)
      refine cond_d (fun h => ?_) (fun h => ?_)
      · have hyi : y[i]? = some y[i] := List.getElem?_eq_getElem (by omega)
        have kd := Keep.trans k (Keep.drew w)
        rw [List.drop_eq_getElem_cons (by omega), List.drop_eq_getElem_cons (l := y) (by omega)] at hK
        unfold lexL at hK
        have hc : cL x[i] y[i] = if cB x[i].1 y[i].1 ≠ 0 then cB x[i].1 y[i].1 else cB x[i].2 y[i].2 := rfl
        refine rdL_at (ha.keep kd) (k := i) rfl hxi fun p p0 p1 => cS_at p0 <| rdL_at (hb.keep kd) (k := i) rfl hyi fun q q0 q1 => cS_at q0 ?_
        refine rside_ok <| cond_ne (fun h0 => ?_) (fun h0 => ?_)
        · have := hK _ kd
          have hc1 : cL x[i] y[i] = cB x[i].1 y[i].1 := by rw [hc, if_pos h0]
          rw [hc1, if_pos h0] at this; exact this
        have kd2 := Keep.trans kd (Keep.drew _)
        have hc2 : cL x[i] y[i] = cB x[i].2 y[i].2 := by rw [hc, if_neg (by simpa using h0)]
        rw [hc2] at hK
        refine rdL_at (ha.keep kd2) (k := i) rfl hxi fun p p0 p1 => cS_at p1 <| rdL_at (hb.keep kd2) (k := i) rfl hyi fun q q0 q1 => cS_at q1 ?_
        refine rside_ok <| cond_ne (fun h1 => ?_) (fun h1 => ?_)
        · have := hK _ kd2
          rw [if_pos h1] at this; exact this
        rw [if_neg (by simpa using h1)] at hK
        rw [wI64 (by omega) (by omega), show (i : Int) + 1 = ((i + 1 : Nat) : Int) by omega]
        exact ih (i + 1) _ (by omega) (by omega) kd2 hK
      · have := hK w k
        rw [List.drop_eq_getElem_cons (by omega), List.drop_of_length_le (l := y) (by omega)] at this
        exact cond_d (fun h => by omega) (fun h => cond_d (fun h2 => this) (fun h2 => by omega))
  exact key x.length 0 w0 (by omega) (by omega) (Keep.refl w0) hK
theorem rsame_ok {a b : Sl} {x y : List Lb} (ha : Rd w0 a 2 (labs x)) (hb : Rd w0 b 2 (labs y)) (hx : x.length ≤ 9000000000000000000) {K : Bool → World → Prop} (hK : ∀ w', Keep w0 w' → K (decide (x = y)) w') : C.tocsinref04_Same a b w0 K := by
  unfold C.tocsinref04_Same
  refine rcmp_ok ha hb hx fun w' k => ?_
  have e : (cmpL x y == 0) = decide (x = y) := by
    by_cases h : x = y
    · rw [decide_eq_true h, beq_iff_eq]; exact (cmpL_cmp.eq x y).2 h
    · rw [decide_eq_false h, beq_eq_false_iff_ne]; exact fun q => h ((cmpL_cmp.eq x y).1 q)
  rw [e]; exact hK w' k
end Go.Proofs.YtfkpehcbijgmnaaGreatDoor.Lab
