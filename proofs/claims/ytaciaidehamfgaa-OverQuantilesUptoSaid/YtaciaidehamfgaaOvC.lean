/- Layer 17 (over): quantiles, both sides. Own work. -/
import Derived.Test.YtaciaidehamfgaaOvA
import Derived.Test.YtaciaidehamfgaaSortF
namespace Go.Proofs.Ytaciaidehamfgaa.Ov
open Go Vm Go.RowKit Num Mem Fl Sm Go.Sort Go.Proofs
variable {ω ω' : Tg} {w w' w0 : World} {T : Nat → Bool} {t u g : Nat}
set_option exponentiation.threshold 3000

/-! ## The order -/
def akF (x : FV) : Int := match x with | none => -18446744073709551616 | some b => if sgn b then -(rg b : Int) - 1 else (rg b : Int)
theorem rg_lt (b : Nat) : rg b < 9223372036854775808 := Nat.mod_lt _ (by decide)
theorem ak_some (b : Nat) : akF (some b) = if sgn b then -(rg b : Int) - 1 else (rg b : Int) := rfl
theorem ak_lo (b : Nat) : -9223372036854775808 ≤ akF (some b) := by rw [ak_some]; have := rg_lt b; split <;> omega
theorem ak_inj {x y : FV} (hx : ∀ b, x = some b → b < 18446744073709551616) (hy : ∀ b, y = some b → b < 18446744073709551616) (h : akF x = akF y) : x = y := by
  cases x with
  | none => cases y with
    | none => rfl
    | some b => have := ak_lo b; rw [← h] at this; exact absurd this (by decide)
  | some a => cases y with
    | none => have := ak_lo a; rw [h] at this; exact absurd this (by decide)
    | some b =>
      rw [ak_some, ak_some] at h
      have e1 := word_self (hx a rfl)
      have e2 := word_self (hy b rfl)
      have hs : sgn a = sgn b ∧ rg a = rg b := by
        cases h1 : sgn a <;> cases h2 : sgn b <;> rw [h1, h2] at h <;> simp only [Bool.false_eq_true, if_false, if_true] at h
        · exact ⟨rfl, by omega⟩
        · omega
        · omega
        · exact ⟨rfl, by omega⟩
      rw [← e1, ← e2, hs.1, hs.2]
theorem signbit_ok {x : Nat} {K : Bool → World → Prop} (hK : K (sgn x) w) : C.math_Signbit x w K := by
  unfold C.math_Signbit
  refine bits_ok ?_
  have e : decide (IntKind.i64.wrap (x : Int) < 0) = sgn x := by
    unfold sgn
    have h1 : x / 9223372036854775808 % 2 = (x % 18446744073709551616) / 9223372036854775808 := by omega
    rw [h1]
    have hw : IntKind.i64.wrap (x : Int) = if (x % 18446744073709551616 : Nat) < 9223372036854775808 then ((x % 18446744073709551616 : Nat) : Int) else ((x % 18446744073709551616 : Nat) : Int) - 18446744073709551616 := by
      simp only [IntKind.wrap, IntKind.bits, IntKind.signed, Bool.true_and, decide_eq_true_eq, show (2 : Int) ^ 64 = 18446744073709551616 from by decide, show (2 : Int) ^ (64 - 1) = 9223372036854775808 from by decide]
      split <;> split <;> omega
    rw [hw]
    generalize hm : x % 18446744073709551616 = m
    have hml : m < 18446744073709551616 := by omega
    by_cases h : m < 9223372036854775808
    · rw [if_pos h, decide_eq_false (by omega), Nat.div_eq_of_lt h]; rfl
    · rw [if_neg h, decide_eq_true (by omega), show m / 9223372036854775808 = 1 by omega]; rfl
  rw [e]; exact hK
theorem zero_facts : nm 0 = some 0 ∧ key 0 = 0 := by decide +kernel
theorem key_rg (b : Nat) : (key b = 0 ↔ rg b = 0) := by unfold key; split <;> omega
theorem ahead_nan {a b : Nat} (h : isN a = true ∨ isN b = true) : (!veq (nm a) (nm a) && veq (nm b) (nm b)) = decide (akF (nm a) < akF (nm b)) := by
  rw [veq_self, veq_self]
  rcases nm_cases a with ⟨ha, ea⟩ | ⟨ha, ea⟩ <;> rcases nm_cases b with ⟨hb, eb⟩ | ⟨hb, eb⟩
  · rw [ea, eb]; rfl
  · rw [ea, eb]; have := ak_lo b; exact (decide_eq_true (show (-18446744073709551616 : Int) < _ by omega)).symm
  · rw [ea, eb]; have := ak_lo a; exact (decide_eq_false (show ¬ _ < (-18446744073709551616 : Int) by omega)).symm
  · rcases h with h | h
    · rw [ha] at h; cases h
    · rw [hb] at h; cases h
theorem ahead_zero {a b : Nat} (ha : key a = key b) (h0 : key a = 0 ∨ True) : (sgn a && !sgn b) = decide (akF (some a) < akF (some b)) := by
  rw [ak_some, ak_some]
  unfold key at ha
  cases h1 : sgn a <;> cases h2 : sgn b <;> rw [h1, h2] at ha <;> simp only [Bool.false_eq_true, if_false, if_true] at ha ⊢
  · exact (decide_eq_false (by omega)).symm
  · exact (decide_eq_false (by omega)).symm
  · exact (decide_eq_true (by omega)).symm
  · exact (decide_eq_false (by omega)).symm
theorem ahead_key {a b : Nat} (h : key a ≠ key b) : decide (key a < key b) = decide (akF (some a) < akF (some b)) := by
  rw [ak_some, ak_some]
  congr 1
  unfold key at h ⊢
  cases h1 : sgn a <;> cases h2 : sgn b <;> rw [h1, h2] at h <;> simp only [Bool.false_eq_true, if_false, if_true] at h ⊢ <;> (apply propext; omega)
theorem ahead_ok {a b : Nat} {K : Bool → World → Prop} (hK : K (decide (akF (nm a) < akF (nm b))) w) : C.over_ahead a b w K := by
  unfold C.over_ahead
  rw [fne_nm, fne_nm, feq_nm b b]
  have nan : (isN a = true ∨ isN b = true) → G.cond (!veq (nm a) (nm a)) (K (veq (nm b) (nm b)) w) (K false w) := fun h => by
    have e := ahead_nan h
    rw [← e] at hK
    exact cond_of (fun h1 => by rw [h1, Bool.true_and] at hK; exact hK) (fun h1 => by rw [h1, Bool.false_and] at hK; exact hK)
  rcases nm_cases a with ⟨ha, ea⟩ | ⟨ha, ea⟩
  · exact cond_t (by rw [ea]; rfl) (nan (.inl ha))
  refine cond_f (by rw [ea, veq_self]; rfl) ?_
  rcases nm_cases b with ⟨hb, eb⟩ | ⟨hb, eb⟩
  · exact cond_t (by rw [eb]; rfl) (nan (.inr hb))
  refine cond_f (by rw [eb, veq_self]; rfl) ?_
  rw [feq_nm, feq_nm, flt_nm, ea, eb, zero_facts.1]
  rw [ea, eb] at hK
  show G.cond (decide (key a = key 0)) (G.cond (decide (key b = key 0)) _ (K (decide (key a < key b)) w)) (K (decide (key a < key b)) w)
  rw [zero_facts.2]
  refine cond_d (fun h1 => cond_d (fun h2 => ?_) fun h2 => ?_) fun h1 => ?_
  · rw [← ahead_zero (h1.trans h2.symm) (.inr trivial)] at hK
    exact signbit_ok (cond_of (fun h => signbit_ok (by rw [h, Bool.true_and] at hK; exact hK)) fun h => by rw [h, Bool.false_and] at hK; exact hK)
  · rw [← ahead_key (by omega)] at hK; exact hK
  · by_cases e : key a = key b
    · have h3 := ahead_zero e (.inr trivial)
      rw [← h3] at hK
      rw [decide_eq_false (show ¬ key a < key b by omega)]
      have : (sgn a && !sgn b) = false := by
        unfold key at e h1
        cases h4 : sgn a <;> cases h5 : sgn b <;> rw [h4] at h1 <;> rw [h4, h5] at e <;> simp only [Bool.false_eq_true, if_false, if_true] at e h1 <;> first | rfl | (exfalso; omega)
      rwa [this] at hK
    · rw [← ahead_key e] at hK; exact hK
theorem rahead_ok {a b : Nat} {K : Bool → World → Prop} (hK : K (decide (akF (nm a) < akF (nm b))) w) : C.tocsinref15_ahead a b w K := by
  unfold C.tocsinref15_ahead
  rw [fne_nm, fne_nm, feq_nm b b]
  have nan : (isN a = true ∨ isN b = true) → G.cond (!veq (nm a) (nm a)) (K (veq (nm b) (nm b)) w) (K false w) := fun h => by
    have e := ahead_nan h
    rw [← e] at hK
    exact cond_of (fun h1 => by rw [h1, Bool.true_and] at hK; exact hK) (fun h1 => by rw [h1, Bool.false_and] at hK; exact hK)
  rcases nm_cases a with ⟨ha, ea⟩ | ⟨ha, ea⟩
  · exact cond_t (by rw [ea]; rfl) (nan (.inl ha))
  refine cond_f (by rw [ea, veq_self]; rfl) ?_
  rcases nm_cases b with ⟨hb, eb⟩ | ⟨hb, eb⟩
  · exact cond_t (by rw [eb]; rfl) (nan (.inr hb))
  refine cond_f (by rw [eb, veq_self]; rfl) ?_
  rw [feq_nm, flt_nm, ea, eb]
  rw [ea, eb] at hK
  show G.cond (decide (key a = key b)) _ (K (decide (key a < key b)) w)
  refine cond_d (fun h1 => ?_) fun h1 => ?_
  · rw [← ahead_zero h1 (.inr trivial)] at hK
    exact signbit_ok (cond_of (fun h => signbit_ok (by rw [h, Bool.true_and] at hK; exact hK)) fun h => by rw [h, Bool.false_and] at hK; exact hK)
  · rw [← ahead_key h1] at hK; exact hK

/-! ## Sorted -/
abbrev LF := List Nat
def fl (b : Nat) : Value := .float .f64 b
def insF (x : FV) : List FV → List FV
  | [] => [x]
  | y :: l => if akF x ≤ akF y then x :: y :: l else y :: insF x l
def srtF : List FV → List FV
  | [] => []
  | x :: l => insF x (srtF l)
abbrev Up (l : List FV) : Prop := l.Pairwise fun x y => akF x ≤ akF y
theorem insF_perm (x : FV) : ∀ l, (insF x l).Perm (x :: l)
  | [] => List.Perm.refl _
  | y :: l => by
    unfold insF
    split
    · exact List.Perm.refl _
    · exact ((insF_perm x l).cons y).trans (List.Perm.swap x y l)
theorem srtF_perm : ∀ l, (srtF l).Perm l
  | [] => List.Perm.refl _
  | x :: l => (insF_perm x _).trans ((srtF_perm l).cons x)
theorem insF_up {x : FV} : ∀ {l : List FV}, Up l → Up (insF x l)
  | [], _ => List.pairwise_singleton _ _
  | y :: l, h => by
    have h' := List.pairwise_cons.1 h
    unfold insF
    split
    · rename_i hle
      refine List.pairwise_cons.2 ⟨fun z hz => ?_, h⟩
      rcases List.mem_cons.1 hz with rfl | hz
      · exact hle
      · have := h'.1 z hz; omega
    · rename_i hgt
      refine List.pairwise_cons.2 ⟨fun z hz => ?_, insF_up h'.2⟩
      rcases List.mem_cons.1 ((insF_perm x l).mem_iff.1 hz) with rfl | hz
      · omega
      · exact h'.1 z hz
theorem srtF_up : ∀ l, Up (srtF l)
  | [] => List.Pairwise.nil
  | x :: l => insF_up (srtF_up l)
def Val (l : List FV) : Prop := ∀ x ∈ l, ∀ b, x = some b → b < 18446744073709551616
theorem up_uniq : ∀ {a b : List FV}, a.Perm b → Val a → Up a → Up b → a = b
  | [], b, p, _, _, _ => (List.nil_perm.1 p).symm
  | x :: a, [], p, _, _, _ => absurd p.length_eq (by simp)
  | x :: a, y :: b, p, hv, ha, hb => by
    have ha' := List.pairwise_cons.1 ha
    have hb' := List.pairwise_cons.1 hb
    have hy : y ∈ x :: a := p.mem_iff.2 (List.mem_cons_self ..)
    have hx : x ∈ y :: b := p.mem_iff.1 (List.mem_cons_self ..)
    have e : x = y := by
      refine ak_inj (hv x (List.mem_cons_self ..)) (hv y hy) ?_
      have h1 : akF x ≤ akF y := by
        rcases List.mem_cons.1 hy with e | h
        · rw [e]; exact Int.le_refl _
        · exact ha'.1 y h
      have h2 : akF y ≤ akF x := by
        rcases List.mem_cons.1 hx with e | h
        · rw [e]; exact Int.le_refl _
        · exact hb'.1 x h
      omega
    subst e
    rw [up_uniq ((List.perm_cons x).1 p) (fun z hz => hv z (List.mem_cons_of_mem _ hz)) ha'.2 hb'.2]
theorem sorted_eq {a l : List FV} (p : a.Perm l) (hv : Val l) (ha : Up a) : a = srtF l :=
  up_uniq (p.trans (srtF_perm l).symm) (fun x hx => hv x (p.mem_iff.1 hx)) ha (srtF_up l)
theorem val_nm {l : LF} (h : ∀ b ∈ l, b < 18446744073709551616) : Val (l.map nm) := fun x hx b hb => by
  obtain ⟨c, hc, rfl⟩ := List.mem_map.1 hx
  rcases nm_cases c with ⟨_, e⟩ | ⟨_, e⟩
  · rw [e] at hb; cases hb
  · rw [e] at hb; injection hb with hb; rw [← hb]; exact h c hc
def cfF (x y : Nat) : Int := if akF (nm x) < akF (nm y) then -1 else if akF (nm y) < akF (nm x) then 1 else 0
theorem cf_lt (x y : Nat) : ltOf cfF x y = decide (akF (nm x) < akF (nm y)) := by
  unfold ltOf cfF
  congr 1
  apply propext
  split
  · simp_all
  · split <;> simp_all
theorem cf_swo : SWO (ltOf cfF) := by
  refine ⟨fun x => ?_, fun x y z h1 h2 => ?_, fun x y z h1 h2 => ?_⟩
  · rw [cf_lt]; exact decide_eq_false (by omega)
  · rw [cf_lt] at *; have := of_decide_eq_true h1; have := of_decide_eq_true h2; exact decide_eq_true (by omega)
  · rw [cf_lt] at *; have := of_decide_eq_false h1; have := of_decide_eq_false h2; exact decide_eq_false (by omega)
theorem cmp_ok {a b : Nat} {K : Int → World → Prop} (hK : K (cfF a b) w) : C.over_Quantile_1 a b w K := by
  unfold C.over_Quantile_1
  unfold cfF at hK
  refine ahead_ok (cond_d (fun h => ?_) fun h => ahead_ok (cond_d (fun h2 => ?_) fun h2 => ?_))
  · rw [if_pos h] at hK; exact hK
  · rw [if_neg h, if_pos h2] at hK; exact hK
  · rw [if_neg h, if_neg h2] at hK; exact hK
theorem rowF_chg {enc : Nat → Value} (d : Array Nat) (n g : Nat) (os : Array Obj) : w.grownBy (grow (putRow enc (Sort.ahead w n) g 0 d) os) (some g) := by
  refine ⟨rfl, rfl, rfl, by simp, fun k hk hne => ?_⟩
  rw [heap_grow_old _ _ (by simpa using hk)]
  have : g ≠ k := fun e => hne (by rw [e])
  simp [putRow, mapBlock, Sort.ahead, Array.getElem?_modify, this]
theorem rowF_blk {enc : Nat → Value} {d : Array Nat} {cur : Array Value} {e : TypeId} {n g : Nat} {os : Array Obj} {fr : Nat × Nat} (hb : w.heap[g]? = some (.cells cur e fr)) :
    (grow (putRow enc (Sort.ahead w n) g 0 d) os).heap[g]? = some (.cells (putCells enc 0 d cur) e fr) := by
  have hg : g < w.heap.size := (Array.getElem?_eq_some_iff.1 hb).1
  rw [heap_grow_old _ _ (by simpa using hg)]
  simp [putRow, mapBlock, Sort.ahead, Array.getElem?_modify, hb, onCells]
theorem rowF_take {enc : Nat → Value} (cur : Array Value) (d : Array Nat) (h : d.size ≤ cur.size) : (putCells enc 0 d cur).toList.take d.size = d.toList.map enc := by
  apply List.ext_getElem?
  intro j
  by_cases hj : j < d.size
  · rw [List.getElem?_take_of_lt hj, Array.getElem?_toList]
    simp [putCells, hj, show j < cur.size by omega]
  · rw [List.getElem?_take_eq_none (by omega), List.getElem?_eq_none (by simp; omega)]
theorem sort_F {e : TypeId} {s : Sl} {l : LF} (h : OT ω w t e 1 s (l.map fl)) (hne : l ≠ []) (hn : s.n < 4611686018427387904) {K : World → Prop}
    (hK : ∀ (l' : LF) ω' w', l'.Perm l → Up (l'.map nm) → Stp (Mem.One t) ω ω' w w' → OT ω' w' t e 1 s (l'.map fl) → K w') : C.slices_SortFunc_float64_float64 s (.func (.func 19) #[] #[]) w K := by
  show Srt.sortF s (.func (.func 19) #[] #[]) w K
  have hsn : s.n = l.length := by have := h.rd.2.1; simp at this; omega
  rcases h.cases with ⟨rfl, hx⟩ | ⟨g, cur, ha, hb', hle, hm, hl, ht⟩
  · exact absurd (by simpa using hx) hne
  · have hbk : s.v.ownBlock = some g := by show (Value.slice s.a s.n s.c).ownBlock = _; rw [ha]; rfl
    have stp : ∀ (n : Nat) (os : Array Obj) (d : Array Nat), Stp (Mem.One t) ω (ext ω w.heap.size t) w (sortWorld fl w g 0 n d os) := fun n os d => Chg.stp (grown_chg (rowF_chg d n g os)) fun k hk => by injection hk with hk; subst hk; exact hb'.tag
    refine ⟨g, 0, fl, cfF, _, #[], l.toArray, ha, by simp [hsn], rfl, fun _ => rfl, cf_swo, fun _ _ => callFunc_run ⟨_, Try.func19, by kernel_rfl, by kernel_rfl⟩, fun m os dk hs x y => ?_, ?_, hb'.blk.lt, hn, fun d' n os hp hs => ?_⟩
    · refine (C.over_Quantile_1.clok [fl x, fl y] (fun v w' => v = .int .i64 (cfF x y) ∧ w' = sortWorld fl w g 0 m dk os) _ ?_).2.mono fun e w' ⟨v, he, hv, hk⟩ => ⟨by rw [he, hv], 0, #[], by rw [hk, grow_empty]; rfl⟩
      unfold C.over_Quantile_1.cl fl
      dsimp only
      exact cmp_ok ⟨rfl, rfl⟩
    · intro j hj
      refine ⟨?_, hb'.blk.frozen _⟩
      have hjl : j < l.length := by simpa using hj
      have h1 : (cur.take (s.n * 1))[j]? = (l.map fl)[j]? := by rw [ht]
      rw [List.getElem?_take_of_lt (by omega)] at h1
      rw [hb'.blk.cell, Nat.zero_add, h1, List.getElem?_map, List.getElem?_eq_getElem hjl, getElem!_pos l.toArray j hj]; simp
    · have hsz : d'.size = s.n := by have := hp.1; simp at this; omega
      have p1 : d'.toList.Perm l := by
        have := hp.2.2
        have e1 : d'.extract 0 s.n = d' := by rw [← hsz]; exact Array.extract_size
        have e2 : l.toArray.extract 0 s.n = l.toArray := by have := Array.extract_size (xs := l.toArray); rwa [List.size_toArray, ← hsn] at this
        rw [e1, e2] at this
        simpa using this
      have p2 : Up (d'.toList.map nm) := by
        rw [Up, List.pairwise_map, List.pairwise_iff_getElem]
        intro i j hi hj hij
        have hi' : i < d'.size := by simpa using hi
        have hj' : j < d'.size := by simpa using hj
        have := hs i j (Nat.zero_le _) hij (by omega)
        rw [getElem!_pos d' i hi', getElem!_pos d' j hj', cf_lt] at this
        have := of_decide_eq_false this
        simp only [Array.getElem_toList]
        omega
      refine hK d'.toList _ _ p1 p2 (stp n os d') ⟨?_, fun k hk => ?_⟩
      · have hss : s = ⟨some ⟨g, 0, none⟩, s.n, s.c⟩ := by rw [← ha]
        have hcs : d'.size ≤ cur.toArray.size := by
          rw [hsz, List.size_toArray, hl]; omega
        rw [hss]
        refine Own.mk' (cur := (putCells fl 0 d' cur.toArray).toList) (Nat.zero_le _) ?_ hle hm (by simp [putCells, hl]) ?_
        · unfold Blk
          have := rowF_blk (enc := fl) (w := w) (n := n) (os := os) (d := d') hb'.blk
          refine Eq.trans this ?_
          simp
        · have := rowF_take (enc := fl) cur.toArray d' hcs
          rw [hsz] at this
          rw [Nat.mul_one]; exact this
      · rw [hbk] at hk
        injection hk with hk
        subst hk
        rw [ext_old hb'.blk.lt]; exact hb'.tag
end Go.Proofs.Ytaciaidehamfgaa.Ov
