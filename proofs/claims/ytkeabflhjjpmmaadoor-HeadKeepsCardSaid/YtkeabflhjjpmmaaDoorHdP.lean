/- Layer 9: keys of unlike label sets are unlike; what Append does to what Get answers. Plain laws. Own work. -/
import Derived.Test.YtkeabflhjjpmmaaDoorHd3
namespace Go.Proofs.YtkeabflhjjpmmaaDoor.Hd
open Go Vm Go.RowKit Num Mem Utf Lib Lab Sm Vint
variable {st : St} {room most : Nat}

theorem u8_inj {a b : Nat} (ha : a < 256) (hb : b < 256) (h : UInt8.ofNat a = UInt8.ofNat b) : a = b := by
  have := congrArg UInt8.toNat h
  rw [UInt8.toNat_ofNat', UInt8.toNat_ofNat', Nat.mod_eq_of_lt ha, Nat.mod_eq_of_lt hb] at this
  exact this
theorem putU_inj : ∀ (f n n' : Nat) (y y' : List UInt8), n < f → putU n ++ y = putU n' ++ y' → n = n' ∧ y = y'
  | 0, n, n', y, y', h, _ => absurd h (Nat.not_lt_zero _)
  | f + 1, n, n', y, y', h, e => by
    by_cases h1 : n < 128 <;> by_cases h2 : n' < 128
    · rw [putU_lt h1, putU_lt h2] at e
      simp only [List.cons_append, List.nil_append, List.cons.injEq] at e
      exact ⟨u8_inj (by omega) (by omega) e.1, e.2⟩
    · rw [putU_lt h1, putU_ge h2] at e
      simp only [List.cons_append, List.nil_append, List.cons.injEq] at e
      have := u8_inj (by omega) (by omega) e.1
      omega
    · rw [putU_ge h1, putU_lt h2] at e
      simp only [List.cons_append, List.nil_append, List.cons.injEq] at e
      have := u8_inj (by omega) (by omega) e.1
      omega
    · rw [putU_ge h1, putU_ge h2] at e
      simp only [List.cons_append, List.cons.injEq] at e
      have e1 := u8_inj (by omega) (by omega) e.1
      obtain ⟨e2, e3⟩ := putU_inj f (n / 128) (n' / 128) y y' (by omega) e.2
      exact ⟨by omega, e3⟩
theorem txt_inj {s s' : ByteArray} {y y' : List UInt8} (h : txt s ++ y = txt s' ++ y') : s = s' ∧ y = y' := by
  unfold txt at h
  rw [List.append_assoc, List.append_assoc] at h
  obtain ⟨h1, h2⟩ := putU_inj _ _ _ _ _ (Nat.lt_succ_self _) h
  obtain ⟨h3, h4⟩ := List.append_inj h2 (by rw [← szB, ← szB, h1])
  refine ⟨?_, h4⟩
  have : s.data = s'.data := Array.toList_inj.1 h3
  cases s; cases s'; simp at this; rw [this]
theorem flat_inj : ∀ {a b : List Lb}, a.length = b.length → a.flatMap labB = b.flatMap labB → a = b
  | [], [], _, _ => rfl
  | [], y :: b, h, _ => by simp at h
  | x :: a, [], h, _ => by simp at h
  | x :: a, y :: b, h, e => by
    simp only [List.flatMap_cons, labB, List.append_assoc] at e
    obtain ⟨e1, e⟩ := txt_inj e
    obtain ⟨e2, e⟩ := txt_inj e
    rw [Prod.ext e1 e2, flat_inj (by simpa using h) e]
theorem put_inj {a b : List Lb} (h : Lab.put a = Lab.put b) : a = b := by
  unfold Lab.put at h
  obtain ⟨h1, h2⟩ := putU_inj _ _ _ _ _ (Nat.lt_succ_self _) h
  exact flat_inj h1 h2
theorem key_inj {a b : List Lb} (h : keyOf a = keyOf b) : a = b := by
  refine put_inj ?_
  have := congrArg Utf.bytes h
  rwa [keyOf, keyOf, bytes_str, bytes_str] at this

theorem pos_app_old {k s : ByteArray} : ∀ {ks : List ByteArray} {i j : Nat}, pos k ks i = some j → pos k (ks ++ [s]) i = some j
  | [], i, j, h => by cases h
  | a :: r, i, j, h => by
    unfold pos at h
    simp only [List.cons_append, pos]
    split
    · rename_i he; rw [if_pos he] at h; exact h
    · rename_i he; rw [if_neg he] at h; exact pos_app_old h
theorem pos_app_none {k s : ByteArray} (hne : k ≠ s) : ∀ {ks : List ByteArray} {i : Nat}, pos k ks i = none → pos k (ks ++ [s]) i = none := fun {ks i} h => by
  rw [pos_none] at h ⊢
  simp [h, hne]
theorem pos_app_self {s : ByteArray} : ∀ {ks : List ByteArray} {i : Nat}, pos s ks i = none → pos s (ks ++ [s]) i = some (i + ks.length)
  | [], i, h => by simp [pos, (MapKept.bytes_beq s s).2 rfl]
  | a :: r, i, h => by
    unfold pos at h
    simp only [List.cons_append, pos]
    split
    · rename_i he; rw [if_pos he] at h; cases h
    · rename_i he; rw [if_neg he] at h
      rw [pos_app_self h]; simp; omega

theorem chk_ok {m : List Lb} {x : Smp} (h : (chk room most st m x).1 = 0) : (rt m).1 = 0 ∧ m ≠ [] := by
  unfold chk at h
  split at h
  · cases h
  · rename_i hc
    constructor
    · by_cases q : (rt m).1 = 0
      · exact q
      · exact absurd (.inl q) hc
    · exact fun q => hc (.inr q)
theorem getS_eq {m : List Lb} (hr : (rt m).1 = 0) : getS st m = (pos (keyOf m) (st.map (·.1)) 0).bind fun j => (st[j]?).map (·.2) := by unfold getS; rw [if_neg (by simpa using hr)]
theorem modS_at {j i : Nat} {x : Smp} : (modS st j x)[i]? = if j = i then (st[i]?).map fun e => (e.1, e.2 ++ [x]) else st[i]? := by
  rw [modS, List.getElem?_modify]
  by_cases e : j = i
  · simp [e]
  · simp [e]
theorem getS_app_self {m : List Lb} {x : Smp} (hc : chk room most st m x = (0, false)) : getS (app room most st m x) m = some ((getS st m).getD [] ++ [x]) := by
  have hr := (chk_ok (by rw [hc])).1
  rw [getS_eq hr, getS_eq hr]
  unfold app
  rw [if_pos hc]
  cases hp : pos (keyOf m) (st.map (·.1)) 0 with
  | none =>
    have hs := pos_app_self hp
    rw [List.length_map, Nat.zero_add] at hs
    simp only [List.map_append, List.map_cons, List.map_nil, hs]
    simp
  | some j =>
    have hj := (pos_ge hp).2
    rw [Nat.sub_zero, List.getElem?_map] at hj
    simp only [modS_keys, hp, Option.bind_some, modS_at, if_true]
    cases hs : st[j]? with
    | none => rw [hs] at hj; cases hj
    | some e => simp
theorem getS_app_same {m m' : List Lb} {x : Smp} (hc : chk room most st m x ≠ (0, false)) : getS (app room most st m x) m' = getS st m' := by
  unfold app; rw [if_neg hc]
theorem getS_app_other {m m' : List Lb} {x : Smp} (hne : m' ≠ m) : getS (app room most st m x) m' = getS st m' := by
  by_cases hc : chk room most st m x = (0, false)
  · by_cases hr : (rt m').1 = 0
    · have hk : keyOf m' ≠ keyOf m := fun e => hne (key_inj e)
      rw [getS_eq hr, getS_eq hr]
      unfold app
      rw [if_pos hc]
      cases hp : pos (keyOf m) (st.map (·.1)) 0 with
      | none =>
        simp only [List.map_append, List.map_cons, List.map_nil]
        cases hq : pos (keyOf m') (st.map (·.1)) 0 with
        | none => rw [pos_app_none hk hq]; rfl
        | some i =>
          rw [pos_app_old hq]
          have hi := (pos_ge hq).2
          rw [Nat.sub_zero, List.getElem?_map] at hi
          have hlt : i < st.length := by
            cases hs : st[i]? with
            | none => rw [hs] at hi; cases hi
            | some e => exact (List.getElem?_eq_some_iff.1 hs).1
          simp only [Option.bind_some]
          rw [List.getElem?_append_left hlt]
      | some j =>
        simp only [modS_keys]
        cases hq : pos (keyOf m') (st.map (·.1)) 0 with
        | none => rfl
        | some i =>
          simp only [Option.bind_some, modS_at]
          have hi := (pos_ge hq).2
          have hj := (pos_ge hp).2
          rw [if_neg]
          rintro rfl
          rw [hi] at hj
          exact hk (Option.some.inj hj)
    · unfold getS; rw [if_pos hr, if_pos hr]
  · exact getS_app_same hc
theorem app_ne {m : List Lb} {x : Smp} (h : ∀ e ∈ st, e.2 ≠ []) : ∀ e ∈ app room most st m x, e.2 ≠ [] := by
  unfold app
  split
  · split
    · intro e he
      obtain ⟨i, hi⟩ := List.mem_iff_getElem?.1 he
      rw [modS_at] at hi
      split at hi
      · cases hs : st[i]? with
        | none => rw [hs] at hi; cases hi
        | some y => rw [hs] at hi; simp at hi; subst hi; simp
      · exact h e (List.mem_of_getElem? hi)
    · intro e he
      rcases List.mem_append.1 he with q | q
      · exact h e q
      · simp at q; subst q; simp
  · exact h
theorem app_total {m : List Lb} {x : Smp} : total (app room most st m x) ≤ total st + 1 ∧ (app room most st m x).length ≤ st.length + 1 := by
  unfold app
  split
  · split
    · rename_i j hp
      have hj := (pos_ge hp).2
      rw [Nat.sub_zero, List.getElem?_map] at hj
      have hlt : j < st.length := by
        cases hs : st[j]? with
        | none => rw [hs] at hj; cases hj
        | some e => exact (List.getElem?_eq_some_iff.1 hs).1
      rw [modS_total st j x hlt, modS_len]; omega
    · rw [total_app]; simp [total]
  · omega
theorem rfN_le {rf : Nat} {m : List Lb} {x : Smp} : rfN room most st rf m x ≤ rf + 1 := by unfold rfN; split <;> omega
theorem getS_nil_app {m : List Lb} {x : Smp} (h : getS st [] = none) : getS (app room most st m x) [] = none := by
  by_cases e : m = []
  · subst e
    rw [getS_app_same]; exact h
    intro q
    exact (chk_ok (room := room) (most := most) (st := st) (m := []) (x := x) (by rw [q])).2 rfl
  · rw [getS_app_other (Ne.symm e)]; exact h

/-! ## The law -/
def up : List Smp → Prop | [] => True | [_] => True | a :: b :: r => a.1 < b.1 ∧ up (b :: r)
theorem up_snoc : ∀ {l : List Smp} {x : Smp}, up l → (∀ z, l.getLast? = some z → z.1 < x.1) → up (l ++ [x])
  | [], x, _, _ => trivial
  | [a], x, _, h => ⟨h a rfl, trivial⟩
  | a :: b :: r, x, h, hl => ⟨h.1, up_snoc (l := b :: r) h.2 fun z hz => hl z (by simpa using hz)⟩
theorem up_at : ∀ {l : List Smp} {i : Nat} {a b : Smp}, up l → l[i]? = some a → l[i + 1]? = some b → a.1 < b.1
  | [], i, a, b, _, h, _ => by simp at h
  | [y], i, a, b, _, _, h => by simp at h
  | y :: z :: r, 0, a, b, h, h1, h2 => by
    simp at h1 h2; subst h1; subst h2; exact h.1
  | y :: z :: r, i + 1, a, b, h, h1, h2 => up_at (l := z :: r) h.2 (by simpa using h1) (by simpa using h2)
/-- What is wanted. -/
def wnt (wn : List Smp) : Option (List Smp) := if wn = [] then none else some wn
structure Inv (st : St) (ml : List Lb) (wn : List Smp) : Prop where
  get : getS st ml = wnt wn
  up : up wn
  ne : ∀ e ∈ st, e.2 ≠ []
def wn' (room most : Nat) (st : St) (ml : List Lb) (x : Smp) (wn : List Smp) : List Smp := if chk room most st ml x = (0, false) then wn ++ [x] else wn
theorem inv_step {ml mo : List Lb} {wn : List Smp} {x : Smp} (h : Inv st ml wn) :
    Inv (app room most (app room most st ml x) mo x) ml (wn' room most st ml x wn) := by
  have key : getS (app room most st ml x) ml = wnt (wn' room most st ml x wn) := by
    unfold wn'
    by_cases hc : chk room most st ml x = (0, false)
    · rw [if_pos hc, getS_app_self hc, h.get]
      unfold wnt
      rw [if_neg (show ¬ (wn ++ [x] = []) by simp)]
      by_cases e : wn = []
      · subst e; rfl
      · rw [if_neg e]; rfl
    · rw [if_neg hc, getS_app_same hc, h.get]
  refine ⟨?_, ?_, app_ne (app_ne h.ne)⟩
  · rw [← key]
    by_cases e : ml = mo
    · subst e
      refine getS_app_same fun q => ?_
      by_cases hc : chk room most st ml x = (0, false)
      · have hg := getS_app_self hc
        have hr := chk_ok (room := room) (most := most) (st := st) (m := ml) (x := x) (by rw [hc])
        unfold chk at q
        rw [if_neg (by simp [hr.1, hr.2])] at q
        split at q
        · cases q
        · simp only [hg, List.getLast?_concat] at q
          simp at q
      · have e1 : app room most st ml x = st := by unfold app; rw [if_neg hc]
        rw [e1] at q
        exact hc q
    · exact getS_app_other e
  · unfold wn'
    split
    · rename_i hc
      refine up_snoc h.up fun z hz => ?_
      have hr := chk_ok (room := room) (most := most) (st := st) (m := ml) (x := x) (by rw [hc])
      have hg := h.get
      unfold wnt at hg
      rw [if_neg (by rintro rfl; cases hz)] at hg
      unfold chk at hc
      rw [if_neg (by simp [hr.1, hr.2])] at hc
      split at hc
      · cases hc
      · simp only [hg, hz] at hc
        split at hc
        · cases hc
        · split at hc
          · split at hc <;> cases hc
          · omega
    · exact h.up
/-- What the law looks at: was a sample new? -/
theorem chk_new {ml : List Lb} {wn : List Smp} {x : Smp} (h : Inv st ml wn) (h0 : (chk room most st ml x).1 = 0) :
    (wn = [] → chk room most st ml x = (0, false)) ∧ (∀ z, wn.getLast? = some z → (chk room most st ml x = (0, false) ↔ z.1 ≠ x.1)) := by
  have hr := chk_ok h0
  have hg := h.get
  unfold wnt at hg
  unfold chk at h0 ⊢
  rw [if_neg (by simp [hr.1, hr.2])] at h0 ⊢
  split at h0
  · cases h0
  · rename_i h1
    rw [if_neg h1]
    constructor
    · rintro rfl
      rw [if_pos rfl] at hg
      simp only [hg] at h0 ⊢
      split at h0
      · cases h0
      · rename_i h2; rw [if_neg h2]
    · intro z hz
      rw [if_neg (by rintro rfl; cases hz)] at hg
      simp only [hg, hz] at h0 ⊢
      split at h0
      · cases h0
      · rename_i h2
        rw [if_neg h2]
        split at h0
        · rename_i h3
          rw [if_pos h3]
          split at h0
          · rename_i h4; rw [if_pos h4]; simp; omega
          · cases h0
        · rename_i h3
          rw [if_neg h3]
          split at h0
          · cases h0
          · rename_i h4; rw [if_neg h4]; simp; omega
end Go.Proofs.YtkeabflhjjpmmaaDoor.Hd
