/- The laws' own words on bytes and texts: Same, Lent, Kept, Spoil, Texts, Count; by tags. Own work. -/
import Derived.Test.YtlfpbnfdeanaeaaRtg
import Derived.Test.YtlfpbnfdeanaeaaCa
namespace Go.Proofs.Ytlfpbnfdeanaeaa.Wo
open Go Vm Go.RowKit Num Mem
variable {ω ω' : Tg} {w w' w0 : World} {t v : Nat} {T : Nat → Bool}

/-- What came in is of tag 0. -/
theorem Top.rt {s : Sl} {sz : Nat} {xs : List Value} (top : Top w0 ω w) (h : Rd w0 s sz xs) : RT ω w 0 s sz xs := by
  refine ⟨h.keep top.k, fun g o ha hne => ?_⟩
  obtain ⟨g', o', ha', hc⟩ := h.2.2 hne
  rw [ha] at ha'
  simp only [Option.some.injEq, Addr.mk.injEq] at ha'
  obtain ⟨rfl, rfl, _⟩ := ha'
  have hpos : 0 < xs.length := List.length_pos_iff.2 hne
  exact top.z g (cell_lt (hc 0 xs[0] (List.getElem?_eq_getElem hpos)))
theorem same_ok {a b : Sl} {l m : List UInt8} (ha : RdB w0 a l) (hb : RdB w0 b m) (hl : l.length ≤ 9223372036854775807) {K : Bool → World → Prop} (hK : ∀ w', Keep w0 w' → K (decide (l = m)) w') : C.tocsinref01_Same a b w0 K := by
  have h1 := ha.len
  have h2 := hb.len
  unfold C.tocsinref01_Same
  refine cond_ne (fun h => ?_) (fun h => ?_)
  · have := hK w0 (Keep.refl w0)
    rwa [decide_eq_false (by rintro rfl; omega)] at this
  unfold C.tocsinref01_Same.S9
  refine C.tocsinref01_Same.L5_ind fun X hX => ?_
  have key : ∀ (d i : Nat) (w : World), i + d = l.length → l.take i = m.take i → Keep w0 w → X a b (i : Int) w := by
    intro d
    induction d with
    | zero =>
      intro i w hi he k
      refine hX _ _ _ _ ?_
      unfold C.tocsinref01_Same.S7 C.tocsinref01_Same.S2
      refine cond_d (fun h => by omega) (fun _ => ?_)
      rw [List.take_of_length_le (by omega), List.take_of_length_le (by omega)] at he
      have := hK w k
      rwa [decide_eq_true he] at this
    | succ d ih =>
      intro i w hi he k
      refine hX _ _ _ _ ?_
      unfold C.tocsinref01_Same.S7
      have kd := Keep.trans k (Keep.drew w)
      have hil : i < l.length := by omega
      have him : i < m.length := by omega
      refine cond_d (fun _ => ?_) (fun h => by omega)
      refine RdB.at_ (Rd.keep ha kd) hil <| RdB.at_ (Rd.keep hb kd) him ?_
      refine cond_ne (fun h0 => ?_) (fun h0 => ?_)
      · have := hK _ kd
        rwa [decide_eq_false (by rintro rfl; exact h0 rfl)] at this
      · rw [wI64 (by omega) (by omega), show (i : Int) + 1 = ((i + 1 : Nat) : Int) by omega]
        refine ih (i + 1) _ (by omega) ?_ kd
        have e : l[i] = m[i] := UInt8.toNat_inj.1 (by exact_mod_cast h0)
        rw [List.take_add_one, List.take_add_one, he, List.getElem?_eq_getElem hil, List.getElem?_eq_getElem him, e]
  exact key l.length 0 w0 (by omega) (by simp) (Keep.refl w0)
def strs (l : List ByteArray) : List Value := l.map Value.string
theorem strs_len {s : Sl} {l : List ByteArray} (h : Rd w s 1 (strs l)) : s.n = l.length := by have := h.2.1; simp [strs] at this; omega
theorem str_at {s : Sl} {l : List ByteArray} (h : Rd w s 1 (strs l)) {k : Nat} {x : ByteArray} (hx : l[k]? = some x) {K : Addr → Prop} (hK : ∀ a : Addr, w.cell? a = some (.string x) → K a) : G.ix s.a s.n (k : Int) 1 K := by
  have hk : k < l.length := (List.getElem?_eq_some_iff.1 hx).1
  have hn := strs_len h
  refine Rd.ix h (by decide) (by omega) (by omega) fun a hc => hK a ?_
  have := hc 0 (.string x) (by decide) (by rw [Int.toNat_natCast, Nat.mul_one, Nat.add_zero]; unfold strs; rw [List.getElem?_map, hx]; rfl)
  rwa [show a.add 0 = a by simp [Addr.add]] at this
theorem ba_dec {a b : ByteArray} : (a.toList == b.toList) = decide (a = b) := by
  rw [ByteArray.toList_eq, ByteArray.toList_eq]
  by_cases h : a = b
  · subst h; simp
  · rw [decide_eq_false h, beq_eq_false_iff_ne]
    intro e
    refine h ?_
    cases a; cases b
    simpa using e
theorem texts_ok {a b : Sl} {l m : List ByteArray} (ha : Rd w0 a 1 (strs l)) (hb : Rd w0 b 1 (strs m)) (hl : l.length ≤ 9223372036854775807) {K : Bool → World → Prop} (hK : ∀ w', Keep w0 w' → K (decide (l = m)) w') : C.tocsinref01_Texts a b w0 K := by
  have h1 := strs_len ha
  have h2 := strs_len hb
  unfold C.tocsinref01_Texts
  refine cond_ne (fun h => ?_) (fun h => ?_)
  · have := hK w0 (Keep.refl w0)
    rwa [decide_eq_false (by rintro rfl; omega)] at this
  unfold C.tocsinref01_Texts.S9
  refine C.tocsinref01_Texts.L5_ind fun X hX => ?_
  have key : ∀ (d i : Nat) (w : World), i + d = l.length → l.take i = m.take i → Keep w0 w → X a b (i : Int) w := by
    intro d
    induction d with
    | zero =>
      intro i w hi he k
      refine hX _ _ _ _ ?_
      unfold C.tocsinref01_Texts.S7 C.tocsinref01_Texts.S2
      refine cond_d (fun h => by omega) (fun _ => ?_)
      rw [List.take_of_length_le (by omega), List.take_of_length_le (by omega)] at he
      have := hK w k
      rwa [decide_eq_true he] at this
    | succ d ih =>
      intro i w hi he k
      refine hX _ _ _ _ ?_
      unfold C.tocsinref01_Texts.S7
      have kd := Keep.trans k (Keep.drew w)
      have hil : i < l.length := by omega
      have him : i < m.length := by omega
      refine cond_d (fun _ => ?_) (fun h => by omega)
      refine str_at (ha.keep kd) (List.getElem?_eq_getElem hil) fun p p0 => cS_at p0 <| str_at (hb.keep kd) (List.getElem?_eq_getElem him) fun q q0 => cS_at q0 ?_
      rw [ba_dec]
      refine cond_not (fun h0 => ?_) (fun h0 => ?_)
      · have h0 := of_decide_eq_false h0
        have := hK _ kd
        rwa [decide_eq_false (by rintro rfl; exact h0 rfl)] at this
      · rw [wI64 (by omega) (by omega), show (i : Int) + 1 = ((i + 1 : Nat) : Int) by omega]
        refine ih (i + 1) _ (by omega) ?_ kd
        rw [List.take_add_one, List.take_add_one, he, List.getElem?_eq_getElem hil, List.getElem?_eq_getElem him, of_decide_eq_true h0]
  exact key l.length 0 w0 (by omega) (by simp) (Keep.refl w0)
/-- A part of one's own row, from its beginning. -/
theorem OT.pre {e : TypeId} {sz : Nat} {s : Sl} {xs : List Value} (h : OT ω w t e sz s xs) {n : Nat} (hn : n ≤ s.n) : OT ω w t e sz ⟨s.a, n, s.c⟩ (xs.take (n * sz)) := by
  rcases h.cases with ⟨rfl, rfl⟩ | ⟨g, cur, ha, hb, h1, h2, h3, h4⟩
  · have : n = 0 := by simpa [nilS] using hn
    subst this
    simpa using h
  · refine ⟨?_, fun k hk => h.tag k (by rw [← hk]; show (Value.slice s.a s.n s.c).ownBlock = (Value.slice s.a n s.c).ownBlock; rw [ha]; rfl)⟩
    rw [ha]
    refine Own.mk' (Nat.zero_le _) hb.blk (by omega) h2 h3 ?_
    rw [← h4, List.take_take, Nat.min_eq_left (Nat.mul_le_mul_right _ hn)]
theorem slc0 {s : Sl} {sz n : Nat} {i : Int} (ei : i = n) (hn : n ≤ s.c) (ha : ∀ a, s.a = some a → a.spot = none ∨ True) {K : Sl → Prop} (hK : K ⟨if s.c = 0 then s.a else s.a.map (·.add 0), n, s.c⟩) : G.slc s 0 i sz K := by
  subst ei
  refine ⟨⟨by omega, by omega, by omega⟩, ?_⟩
  simpa using hK
theorem add_zero' (a : Addr) : a.add 0 = a := by simp [Addr.add]
theorem slc0' {s : Sl} {sz n : Nat} {i : Int} (ei : i = n) (hn : n ≤ s.c) {K : Sl → Prop} (hK : K ⟨s.a, n, s.c⟩) : G.slc s 0 i sz K := by
  refine slc0 ei hn (fun _ _ => .inr trivial) ?_
  have e : (if s.c = 0 then s.a else s.a.map (·.add 0)) = s.a := by
    split
    · rfl
    · cases s.a with | none => rfl | some a => simp [add_zero']
  rw [e]; exact hK
/-- A copy with a mark behind it. -/
structure LentT (ω : Tg) (w : World) (v : Nat) (s : Sl) (l : List UInt8) : Prop where
  own : OT ω w v 5 1 ⟨s.a, l.length + 1, s.c⟩ (vBs l ++ [.int .u8 77])
  n : s.n = l.length
theorem LentT.stp {s : Sl} {l : List UInt8} (h : LentT ω w v s l) (k : Stp T ω ω' w w') (hT : T v = false) : LentT ω' w' v s l := ⟨h.own.stp k hT, h.n⟩
theorem LentT.ot {s : Sl} {l : List UInt8} (h : LentT ω w v s l) : OT ω w v 5 1 s (vBs l) := by
  have := OT.pre h.own (n := l.length) (Nat.le_succ _)
  rw [Nat.mul_one, List.take_append_of_le_length (by rw [vBs_length]; exact Nat.le_refl _), List.take_of_length_le (by rw [vBs_length]; exact Nat.le_refl _), ← h.n] at this
  exact this
theorem lent_ok {b : Sl} {l : List UInt8} (hb : RdB w b l) (hl : l.length ≤ 10000000) (ω : Tg) (v : Nat) {K : Sl → World → Prop} (hK : ∀ r ω' w', Stp Non ω ω' w w' → LentT ω' w' v r l → K r w') : C.tocsinref01_Lent b w K := by
  have hn := hb.len
  unfold C.tocsinref01_Lent
  refine app_T tiB (OT.nil (fun _ => 0) w 9 _ 1) hb vBs_one (by show nilS.n + _ ≤ _; simp only [nilS, maxLen]; omega) (by show (nilS.n + _) * 1 ≤ _; simp only [nilS]; omega) fun r1 ω1 w1 k1 o1 hr1 => ?_
  have hr1' : r1.n = l.length := by rw [hr1]; simp [nilS, hn]
  refine push_T tiB o1 (n := 1) rfl (by intro v hv; simp at hv; subst hv; rfl) (by rw [hr1']; simp only [maxLen]; omega) (by rw [hr1']; omega) fun r2 ω2 w2 k2 o2 hr2 => ?_
  have t2 := ((Top.init w).stp k1).stp k2
  have o2' : OT ω2 w2 9 5 1 r2 (vBs l ++ [.int .u8 77]) := o2
  have hrc : r2.n ≤ r2.c := o2'.rd.1
  refine slc0' (n := l.length) (by omega) (by omega) ?_
  have on := Own.tag (w := w) (B := w.heap.size) (s := r2) (by
    obtain ⟨hl', ho⟩ := o2'.own
    refine ⟨hl', ?_⟩
    rcases ho with ho | ⟨g, cap, cur, hv, hg, r⟩
    · exact .inl ho
    · exact .inr ⟨g, cap, cur, hv, t2.ge (o2'.tag g (by rw [hv]; rfl)) (by decide), r⟩) (Nat.le_refl _) ω v
  refine hK _ _ w2 (t2.k.stp ω v) ⟨?_, rfl⟩
  have e : (⟨r2.a, l.length + 1, r2.c⟩ : Sl) = r2 := by rw [← hr1', ← hr2]
  show OT _ _ _ _ _ (⟨r2.a, l.length + 1, r2.c⟩ : Sl) _
  rw [e]; exact on
theorem kept_ok {c b : Sl} {l : List UInt8} (hc : LentT ω w v c l) (hb : RdB w b l) (hl : l.length ≤ 10000000) {K : Bool → World → Prop} (hK : ∀ w', Keep w w' → K true w') : C.tocsinref01_Kept c b w K := by
  have hn := hb.len
  unfold C.tocsinref01_Kept
  refine same_ok (Mem.OT.rd hc.ot) hb (by omega) fun w1 k1 => ?_
  rw [decide_eq_true rfl]
  have h1 := hc.stp (k1.stp0 ω) rfl
  have hcc : l.length + 1 ≤ c.c := h1.own.rd.1
  refine cond_t rfl <| slc0' (n := l.length + 1) (by rw [wI64 (by omega) (by omega)]; omega) hcc ?_
  refine Rd.ix h1.own.rd (by decide) (by omega) (by show (b.n : Int) < ((l.length + 1 : Nat) : Int); omega) fun a ha => ?_
  have c0 : w1.cell? a = some (.int .u8 77) := by
    have := ha 0 (.int .u8 77) (by decide) (by
      rw [hn, Int.toNat_natCast, Nat.mul_one, Nat.add_zero, List.getElem?_append_right (by rw [vBs_length]; exact Nat.le_refl _), vBs_length, Nat.sub_self]; rfl)
    rwa [add_zero'] at this
  exact cI_at c0 (hK w1 k1)
theorem spoil_ok {b : Sl} {l : List UInt8} (h : OT ω w v 5 1 b (vBs l)) (hl : l.length ≤ 10000000) {K : World → Prop} (hK : ∀ ω' w', Stp (Mem.One v) ω ω' w w' → K w') : C.tocsinref01_Spoil b w K := by
  have hbn : b.n = l.length := by have := h.own.len; rw [vBs_length] at this; omega
  unfold C.tocsinref01_Spoil C.tocsinref01_Spoil.S9
  refine C.tocsinref01_Spoil.L5_ind fun X hX => ?_
  have key : ∀ (d i : Nat) (xs : List Value) (ω1 : Tg) (w1 : World), i + d = l.length → OT ω1 w1 v 5 1 b xs → (∀ j, i ≤ j → j < l.length → ∃ n, xs[j]? = some (.int .u8 n)) → Stp (Mem.One v) ω ω1 w w1 → X b (i : Int) w1 := by
    intro d
    induction d with
    | zero =>
      intro i xs ω1 w1 hi o hx s
      refine hX _ _ _ ?_
      unfold C.tocsinref01_Spoil.S7 C.tocsinref01_Spoil.S2
      refine cond_d (fun h => by omega) (fun _ => ?_)
      refine push_T tiB o (n := 1) rfl (by intro v hv; simp at hv; subst hv; rfl) (by rw [hbn]; simp only [maxLen]; omega) (by rw [hbn]; omega) fun r ω2 w2 k2 o2 hr => ?_
      have hrn : r.n = l.length + 1 := by rw [hr, hbn]
      refine o2.at_ (k := l.length) (by rw [hrn, wI64 (by omega) (by omega)]; omega) (by omega) fun a ha _ _ _ => ?_
      have := o2.st (i := l.length) (by omega) (j := 0) (by decide) (.int .u8 98) ha fun ω3 w3 k3 _ => hK ω3 w3 ((s.trans k2).trans k3)
      rwa [add_zero'] at this
    | succ d ih =>
      intro i xs ω1 w1 hi o hx s
      refine hX _ _ _ ?_
      unfold C.tocsinref01_Spoil.S7
      refine cond_d (fun _ => ?_) (fun h => by omega)
      obtain ⟨n, hn⟩ := hx i (Nat.le_refl _) (by omega)
      refine o.at_ (k := i) rfl (by omega) fun a ha _ _ hc => ?_
      have c0 : w1.cell? a = some (.int .u8 n) := by
        have := hc 0 _ (by decide) (by rw [Nat.mul_one, Nat.add_zero]; exact hn)
        rwa [add_zero'] at this
      refine cI_at c0 <| o.at_ (k := i) rfl (by omega) fun a2 ha2 _ _ _ => ?_
      have := o.st (i := i) (by omega) (j := 0) (by decide) (.int .u8 (Go.bits .xor .u8 n 90)) ha2 (K := fun w' => X b (IntKind.i64.wrap ((i : Int) + 1)) w') fun ω3 w3 k3 o3 => by
        rw [wI64 (by omega) (by omega), show (i : Int) + 1 = ((i + 1 : Nat) : Int) by omega]
        refine ih (i + 1) _ ω3 w3 (by omega) o3 (fun j hj hjl => ?_) (s.trans k3)
        obtain ⟨m, hm⟩ := hx j (by omega) hjl
        exact ⟨m, by rw [List.getElem?_set_ne (by omega)]; exact hm⟩
      rwa [add_zero'] at this
  refine key l.length 0 (vBs l) ω w (by omega) h (fun j _ hj => ⟨(l[j].toNat : Int), ?_⟩) (Stp.refl _ _ _)
  rw [vBs, List.getElem?_map, List.getElem?_eq_getElem hj]; rfl
theorem count_ok {n : Int} {m : Nat} (h0 : 0 < m) (hm : m ≤ 1000000) (h1 : -9223372036854775808 ≤ n) (h2 : n ≤ 9223372036854775807) {K : Int → World → Prop} (hK : ∀ k : Nat, k < m → K (k : Int) w) : C.tocsinref01_Count n (m : Int) w K := by
  unfold C.tocsinref01_Count
  have hlt := Int.tmod_lt_of_pos n (by omega : (0 : Int) < m)
  have hgt : -(m : Int) < n.tmod m := by
    have := Int.tmod_lt_of_pos (-n) (by omega : (0 : Int) < m)
    rw [Int.neg_tmod] at this; omega
  refine ⟨by omega, cond_d (fun h => ?_) (fun h => ?_)⟩
  · rw [wI64 (by omega) (by omega), show n.tmod m + m = ((n.tmod m + m).toNat : Int) by omega]
    exact hK _ (by omega)
  · rw [show n.tmod m = ((n.tmod m).toNat : Int) by omega]
    exact hK _ (by omega)
end Go.Proofs.Ytlfpbnfdeanaeaa.Wo
