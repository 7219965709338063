/- The laws' own words on bytes and texts: Same, Lent, Kept, Spoil, Texts, Count; by tags. Own work. -/
import Derived.Test.YtdaghggdmgbpnaaDoorRtg
import Derived.Test.YtdaghggdmgbpnaaDoorCa
namespace Go.Proofs.YtdaghggdmgbpnaaDoor.Wo
open Go Vm Go.RowKit Num Mem
variable {ω ω' : Tg} {w w' w0 : World} {t v : Nat} {T : Nat → Bool}

/-- What came in is of tag 0. -/
theorem Top.rt {s : Sl} {sz : Nat} {xs : List Value} (top : Top w0 ω w) (h : Rd w0 s sz xs) : RT ω w 0 s sz xs := by
  refine ⟨h.keep top.k, fun g o ha hne => ?_⟩
  obtain ⟨g', o', ha', hc⟩ := h.2.2 hne
  rw [ha] at ha'
  simp only [Option.some.injEq, Addr.mk.injEq] at ha'
  obtain ⟨rfl, rfl, _⟩ := ha'
  have hpos : 0 < xs.length := List.length_pos_iff.2 hne
  exact top.z g (cell_lt (hc 0 xs[0] (List.getElem?_eq_getElem hpos)))
theorem same_ok {a b : Sl} {l m : List UInt8} (ha : RdB w0 a l) (hb : RdB w0 b m) (hl : l.length ≤ 9223372036854775807) {K : Bool → World → Prop} (hK : ∀ w', Keep w0 w' → K (decide (l = m)) w') : C.tocsinref01_Same a b w0 K := by
  have h1 := ha.len
  have h2 := hb.len
  unfold C.tocsinref01_Same
  refine cond_ne (fun h => ?_) (fun h => ?_)
  · have := hK w0 (Keep.refl w0)
    rwa [decide_eq_false (by rintro rfl; omega)] at this
  unfold C.tocsinref01_Same.S9
  refine C.tocsinref01_Same.L5_ind fun X hX => ?_
  have key : ∀ (d i : Nat) (w : World), i + d = l.length → l.take i = m.take i → Keep w0 w → X a b (i : Int) w := by
    intro d
    induction d with
    | zero =>
      intro i w hi he k
      refine hX _ _ _ _ ?_
      unfold C.tocsinref01_Same.S7 C.tocsinref01_Same.S2
      refine cond_d (fun h => by omega) (fun _ => ?_)
      rw [List.take_of_length_le (by omega), List.take_of_length_le (by omega)] at he
      have := hK w k
      rwa [decide_eq_true he] at this
    | succ d ih =>
      intro i w hi he k
      refine hX _ _ _ _ ?_
      unfold C.tocsinref01_Same.S7
      have kd := Keep.trans k (Keep.drew w)
      have hil : i < l.length := by omega
      have him : i < m.length := by omega
      refine cond_d (fun _ => ?_) (fun h => by omega)
      refine RdB.at_ (Rd.keep ha kd) hil <| RdB.at_ (Rd.keep hb kd) him ?_
      refine cond_ne (fun h0 => ?_) (fun h0 => ?_)
      · have := hK _ kd
        rwa [decide_eq_false (by rintro rfl; exact h0 rfl)] at this
      · rw [wI64 (by omega) (by omega), show (i : Int) + 1 = ((i + 1 : Nat) : Int) by omega]
        refine ih (i + 1) _ (by omega) ?_ kd
        have e : l[i] = m[i] := UInt8.toNat_inj.1 (by exact_mod_cast h0)
        rw [List.take_add_one, List.take_add_one, he, List.getElem?_eq_getElem hil, List.getElem?_eq_getElem him, e]
  exact key l.length 0 w0 (by omega) (by simp) (Keep.refl w0)
def strs (l : List ByteArray) : List Value := l.map Value.string
theorem strs_len {s : Sl} {l : List ByteArray} (h : Rd w s 1 (strs l)) : s.n = l.length := by have := h.2.1; simp [strs] at this; omega
theorem str_at {s : Sl} {l : List ByteArray} (h : Rd w s 1 (strs l)) {k : Nat} {x : ByteArray} (hx : l[k]? = some x) {K : Addr → Prop} (hK : ∀ a : Addr, w.cell? a = some (.string x) → K a) : G.ix s.a s.n (k : Int) 1 K := by
  have hk : k < l.length := (List.getElem?_eq_some_iff.1 hx).1
  have hn := strs_len h
  refine Rd.ix h (by decide) (by omega) (by omega) fun a hc => hK a ?_
  have := hc 0 (.string x) (by decide) (by rw [Int.toNat_natCast, Nat.mul_one, Nat.add_zero]; unfold strs; rw [List.getElem?_map, hx]; rfl)
  rwa [show a.add 0 = a by simp [Addr.add]] at this
theorem ba_dec {a b : ByteArray} : (a.toList == b.toList) = decide (a = b) := by
  rw [ByteArray.toList_eq, ByteArray.toList_eq]
  by_cases h : a = b
  · subst h; simp
  · rw [decide_eq_false h, beq_eq_false_iff_ne]
    intro e
    refine h ?_
    cases a; cases b
    simpa using e
/-- A part of one's own row, from its beginning. -/
theorem OT.pre {e : TypeId} {sz : Nat} {s : Sl} {xs : List Value} (h : OT ω w t e sz s xs) {n : Nat} (hn : n ≤ s.n) : OT ω w t e sz ⟨s.a, n, s.c⟩ (xs.take (n * sz)) := by
  rcases h.cases with ⟨rfl, rfl⟩ | ⟨g, cur, ha, hb, h1, h2, h3, h4⟩
  · have : n = 0 := by simpa [nilS] using hn
    subst this
    simpa using h
  · refine ⟨?_, fun k hk => h.tag k (by rw [← hk]; show (Value.slice s.a s.n s.c).ownBlock = (Value.slice s.a n s.c).ownBlock; rw [ha]; rfl)⟩
    rw [ha]
    refine Own.mk' (Nat.zero_le _) hb.blk (by omega) h2 h3 ?_
    rw [← h4, List.take_take, Nat.min_eq_left (Nat.mul_le_mul_right _ hn)]
theorem slc0 {s : Sl} {sz n : Nat} {i : Int} (ei : i = n) (hn : n ≤ s.c) (ha : ∀ a, s.a = some a → a.spot = none ∨ True) {K : Sl → Prop} (hK : K ⟨if s.c = 0 then s.a else s.a.map (·.add 0), n, s.c⟩) : G.slc s 0 i sz K := by
  subst ei
  refine ⟨⟨by omega, by omega, by omega⟩, ?_⟩
  simpa using hK
theorem add_zero' (a : Addr) : a.add 0 = a := by simp [Addr.add]
theorem slc0' {s : Sl} {sz n : Nat} {i : Int} (ei : i = n) (hn : n ≤ s.c) {K : Sl → Prop} (hK : K ⟨s.a, n, s.c⟩) : G.slc s 0 i sz K := by
  refine slc0 ei hn (fun _ _ => .inr trivial) ?_
  have e : (if s.c = 0 then s.a else s.a.map (·.add 0)) = s.a := by
    split
    · rfl
    · cases s.a with | none => rfl | some a => simp [add_zero']
  rw [e]; exact hK
/-- A copy with a mark behind it. -/
structure LentT (ω : Tg) (w : World) (v : Nat) (s : Sl) (l : List UInt8) : Prop where
  own : OT ω w v 5 1 ⟨s.a, l.length + 1, s.c⟩ (vBs l ++ [.int .u8 77])
  n : s.n = l.length
theorem LentT.stp {s : Sl} {l : List UInt8} (h : LentT ω w v s l) (k : Stp T ω ω' w w') (hT : T v = false) : LentT ω' w' v s l := ⟨h.own.stp k hT, h.n⟩
theorem LentT.ot {s : Sl} {l : List UInt8} (h : LentT ω w v s l) : OT ω w v 5 1 s (vBs l) := by
  have := OT.pre h.own (n := l.length) (Nat.le_succ _)
  rw [Nat.mul_one, List.take_append_of_le_length (by rw [vBs_length]; exact Nat.le_refl _), List.take_of_length_le (by rw [vBs_length]; exact Nat.le_refl _), ← h.n] at this
  exact this
theorem count_ok {n : Int} {m : Nat} (h0 : 0 < m) (hm : m ≤ 1000000) (h1 : -9223372036854775808 ≤ n) (h2 : n ≤ 9223372036854775807) {K : Int → World → Prop} (hK : ∀ k : Nat, k < m → K (k : Int) w) : C.tocsinref01_Count n (m : Int) w K := by
  unfold C.tocsinref01_Count
  have hlt := Int.tmod_lt_of_pos n (by omega : (0 : Int) < m)
  have hgt : -(m : Int) < n.tmod m := by
    have := Int.tmod_lt_of_pos (-n) (by omega : (0 : Int) < m)
    rw [Int.neg_tmod] at this; omega
  refine ⟨by omega, cond_d (fun h => ?_) (fun h => ?_)⟩
  · rw [wI64 (by omega) (by omega), show n.tmod m + m = ((n.tmod m + m).toNat : Int) by omega]
    exact hK _ (by omega)
  · rw [show n.tmod m = ((n.tmod m).toNat : Int) by omega]
    exact hK _ (by omega)
end Go.Proofs.YtdaghggdmgbpnaaDoor.Wo
