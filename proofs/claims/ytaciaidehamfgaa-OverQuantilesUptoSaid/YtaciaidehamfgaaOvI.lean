/- Layer 17 (over): stale markers among the samples. Own work. -/
import Derived.Test.YtaciaidehamfgaaOvH
namespace Go.Proofs.Ytaciaidehamfgaa.Ov
open Go Vm Go.RowKit Num Mem Fl Sm
variable {ω ω' : Tg} {w w' w0 : World} {T : Nat → Bool} {t u g : Nat}
set_option exponentiation.threshold 3000

/-! ## Plain -/
def gapS (p : Int) (x : Smp) : List Smp := if IntKind.i64.wrap (x.1 - p) > 1 then [(IntKind.i64.wrap (x.1 - 1), (9218868437227405314 : Nat))] else []
def moreF : Int → List Smp → List Smp
  | _, [] => []
  | p, x :: r => gapS p x ++ x :: moreF x.1 r
def moreL : List Smp → List Smp
  | [] => []
  | x :: r => x :: moreF x.1 r
def lastT (p : Int) (l : List Smp) : Int := match l.getLast? with | some y => y.1 | none => p
theorem lastT_cons (p : Int) (y : Smp) (a : List Smp) : lastT p (y :: a) = lastT y.1 a := by
  unfold lastT
  cases a with
  | nil => rfl
  | cons z a => rw [List.getLast?_cons_cons]; cases h : (z :: a).getLast? with
    | none => simp at h
    | some v => rfl
theorem moreF_snoc : ∀ (a : List Smp) (p : Int) (x : Smp), moreF p (a ++ [x]) = moreF p a ++ (gapS (lastT p a) x ++ [x])
  | [], p, x => by simp [moreF, lastT]
  | y :: a, p, x => by
    rw [List.cons_append, moreF, moreF_snoc a y.1 x, moreF, lastT_cons]
    simp only [List.append_assoc, List.cons_append]
theorem moreL_snoc (y : Smp) (a : List Smp) (x : Smp) : moreL (y :: a ++ [x]) = moreL (y :: a) ++ (gapS (lastT y.1 a) x ++ [x]) := by
  rw [List.cons_append, moreL, moreF_snoc, moreL, List.cons_append]
theorem more_step {l : List Smp} {i : Nat} (h0 : 0 < i) (h : i < l.length) : moreL (l.take (i + 1)) = moreL (l.take i) ++ (gapS (l[i - 1]'(by omega)).1 l[i] ++ [l[i]]) := by
  rw [List.take_succ_eq_append_getElem h]
  obtain ⟨y, r, rfl⟩ : ∃ y r, l = y :: r := by cases l with | nil => simp at h | cons y r => exact ⟨y, r, rfl⟩
  obtain ⟨j, rfl⟩ : ∃ j, i = j + 1 := ⟨i - 1, by omega⟩
  rw [List.take_succ_cons, moreL_snoc]
  have e : lastT y.1 (r.take j) = ((y :: r)[j + 1 - 1]'(by omega)).1 := by
    rw [← lastT_cons 0 y (r.take j), ← List.take_succ_cons]
    unfold lastT
    rw [List.getLast?_eq_getElem?, List.length_take, List.getElem?_take_of_lt (by omega), show min (j + 1) (y :: r).length - 1 = j by omega, List.getElem?_eq_getElem (by omega)]
    rfl
  rw [e]
theorem more_one {l : List Smp} (h : 0 < l.length) : moreL (l.take 1) = [l[0]] := by
  cases l with
  | nil => simp at h
  | cons y r => simp [moreL, moreF]
theorem more_len : ∀ (l : List Smp) (p : Int), (moreF p l).length ≤ 2 * l.length
  | [], _ => Nat.zero_le _
  | x :: r, p => by
    have := more_len r x.1
    rw [moreF, List.length_append, List.length_cons, List.length_cons]
    have : (gapS p x).length ≤ 1 := by unfold gapS; split <;> simp
    omega
theorem moreL_len (l : List Smp) : (moreL l).length ≤ 2 * l.length := by
  cases l with
  | nil => exact Nat.zero_le _
  | cons x r => have := more_len r x.1; rw [moreL, List.length_cons, List.length_cons]; omega
theorem more_mem : ∀ (l : List Smp) (p : Int) (x : Smp), x ∈ moreF p l → x ∈ l ∨ x.2 = (9218868437227405314 : Nat)
  | [], _, _, h => by simp [moreF] at h
  | y :: r, p, x, h => by
    rw [moreF, List.mem_append, List.mem_cons] at h
    rcases h with h | h | h
    · unfold gapS at h; split at h
      · rw [List.mem_singleton] at h; exact .inr (by rw [h])
      · simp at h
    · exact .inl (by rw [h]; exact List.mem_cons_self)
    · rcases more_mem r y.1 x h with h | h
      · exact .inl (List.mem_cons_of_mem _ h)
      · exact .inr h
theorem more64 {l : List Smp} (h64 : ∀ x ∈ l, x.2 < 18446744073709551616) : ∀ x ∈ moreL l, x.2 < 18446744073709551616 := by
  intro x hx
  cases l with
  | nil => simp [moreL] at hx
  | cons y r =>
    rw [moreL, List.mem_cons] at hx
    rcases hx with rfl | hx
    · exact h64 _ List.mem_cons_self
    · rcases more_mem r y.1 x hx with h | h
      · exact h64 _ (List.mem_cons_of_mem _ h)
      · rw [h]; decide
theorem more_ok {to : Int} (ht : to ≤ 1125899906842624) : ∀ (r : List Smp) (p : Int), -1099511627776 ≤ p → okB to p r = true → okB to p (moreF p r) = true ∧ live (moreF p r) = live r
  | [], _, _, _ => ⟨rfl, rfl⟩
  | x :: r, p, hp, h => by
    rw [okB, Bool.and_eq_true, Bool.and_eq_true, decide_eq_true_eq, decide_eq_true_eq] at h
    obtain ⟨⟨h1, h2⟩, h3⟩ := h
    obtain ⟨i1, i2⟩ := more_ok ht r x.1 (by omega) h3
    have e1 : IntKind.i64.wrap (x.1 - p) = x.1 - p := wI64 (by omega) (by omega)
    have e2 : IntKind.i64.wrap (x.1 - 1) = x.1 - 1 := wI64 (by omega) (by omega)
    have lc : ∀ (y : Smp) (a : List Smp), live (y :: a) = if y.2 != (9218868437227405314 : Nat) then y :: live a else live a := fun y a => by unfold live; rw [List.filter_cons]
    unfold moreF gapS
    rw [e1, e2]
    by_cases hg : x.1 - p > 1
    · rw [if_pos hg, List.singleton_append]
      refine ⟨?_, ?_⟩
      · rw [okB, okB, i1, decide_eq_true (show p < x.1 - 1 by omega), decide_eq_true (show x.1 - 1 ≤ to by omega), decide_eq_true (show x.1 - 1 < x.1 by omega), decide_eq_true h2]; rfl
      · rw [lc, if_neg (by simp), lc, lc, i2]
    · rw [if_neg hg, List.nil_append]
      refine ⟨?_, ?_⟩
      · rw [okB, i1, decide_eq_true h1, decide_eq_true h2]; rfl
      · rw [lc, lc, i2]
theorem moreL_ok {fr to : Int} {l : List Smp} (hf : -1099511627776 ≤ fr) (ht : to ≤ 1125899906842624) (h : okB to fr l = true) : okB to fr (moreL l) = true ∧ live (moreL l) = live l := by
  cases l with
  | nil => exact ⟨rfl, rfl⟩
  | cons x r =>
    rw [okB, Bool.and_eq_true, Bool.and_eq_true, decide_eq_true_eq, decide_eq_true_eq] at h
    obtain ⟨⟨h1, h2⟩, h3⟩ := h
    obtain ⟨i1, i2⟩ := more_ok ht r x.1 (by omega) h3
    refine ⟨?_, ?_⟩
    · rw [moreL, okB, i1, decide_eq_true h1, decide_eq_true h2]; rfl
    · show live (x :: moreF x.1 r) = _
      unfold live at i2 ⊢
      rw [List.filter_cons, List.filter_cons, i2]
theorem arg_facts {fr to : Int} (h : argB fr to = true) : -1099511627776 ≤ fr ∧ fr < to ∧ to ≤ 1125899906842624 ∧ 0 ≤ to := by
  unfold argB at h
  simp only [Bool.not_eq_true', Bool.or_eq_false_iff, decide_eq_false_iff_not] at h
  omega
theorem callR_ok {name : ByteArray} {l : List Smp} {fr to : Int} {q : Nat} (h : (callR name l fr to q).2.2 = 0) : ∃ x, teller name q = some x ∧ argB fr to = true ∧ okB to fr l = true ∧ callR name l fr to q = if ((live l).length : Int) < leastT x then (0, false, 0) else (tellB x (live l) fr to, true, 0) := by
  unfold callR at h ⊢
  cases hx : teller name q with
  | none => rw [hx] at h; exact absurd (show (60 : Int) = 0 from h) (by decide)
  | some x =>
    rw [hx] at h
    simp only at h ⊢
    by_cases hc : (argB fr to && okB to fr l) = true
    · rw [Bool.and_eq_true] at hc
      exact ⟨x, rfl, hc.1, hc.2, by rw [if_pos (by rw [hc.1, hc.2]; rfl)]⟩
    · rw [if_neg hc] at h; exact absurd h (by decide)
theorem stale_eq {name : ByteArray} {l : List Smp} {fr to : Int} {q : Nat} (h : (callR name l fr to q).2.2 = 0) : callR name (moreL l) fr to q = callR name l fr to q := by
  obtain ⟨x, hx, ha, ho, e⟩ := callR_ok h
  obtain ⟨h1, h2, h3, h4⟩ := arg_facts ha
  obtain ⟨i1, i2⟩ := moreL_ok h1 h3 ho
  rw [e]
  unfold callR
  rw [hx]
  simp only
  rw [if_pos (by rw [ha, i1]; rfl), i2]

/-! ## The law -/
def isStr : Value → Bool | .string _ => true | _ => false
theorem isStr_inv {v : Value} (h : isStr v = true) : ∃ b, v = .string b := by cases v <;> first | exact ⟨_, rfl⟩ | cases h
theorem names_ok {K : Sl → World → Prop} (hK : ∀ s cs w', Keep w w' → Rd w' s 1 cs → s.n = 15 → cs.all isStr = true → K s w') : C.tocsinref17_Names w K := by
  unfold C.tocsinref17_Names
  exact new_T (ω := fun _ => 0) 1 fun g ω1 w1 k1 b1 => hK _ _ w1 k1.keep (Rd.blk (n := 15) (c := 15) (sz := 1) (o := 0) b1.blk (Nat.le_refl _) (by decide)) rfl rfl
theorem str_at {s : Sl} {cs : List Value} (h : Rd w s 1 cs) (hc : cs.all isStr = true) {i : Nat} (hi : i < s.n) : ∃ b, ∀ {K : Addr → Prop}, (∀ a : Addr, w.cell? a = some (.string b) → K a) → G.ix s.a s.n (i : Int) 1 K := by
  have hl := h.2.1
  have hi' : i < cs.length := by omega
  obtain ⟨b, hb⟩ := isStr_inv (List.all_eq_true.1 hc _ (List.getElem_mem hi'))
  refine ⟨b, fun hK => Rd.ix h (by decide) (by omega) (by omega) fun a ha => hK a ?_⟩
  have := ha 0 (.string b) (by decide) (by rw [Int.toNat_natCast, Nat.mul_one, Nat.add_zero, List.getElem?_eq_getElem hi', hb])
  rwa [show a.add 0 = a by simp [Addr.add]] at this
theorem stale_loop {s m n : Sl} {l : List Smp} {fr to : Int} {q : Nat} {cs : List Value} (hs : Rd w s 2 (smps l)) (hm : Rd w m 2 (smps (moreL l))) (hn : Rd w n 1 cs) (hn15 : n.n = 15) (hc : cs.all isStr = true) (hl : l.length ≤ 20000000) (h64 : ∀ x ∈ l, x.2 < 18446744073709551616)
    {K : Bool → World → Prop} (hK : ∀ w', Keep w w' → K true w') : C.tocsinlaw17_OverStale.S9 K s fr to q m n w := by
  unfold C.tocsinlaw17_OverStale.S9
  refine C.tocsinlaw17_OverStale.L5_ind fun X hX => ?_
  have hml := moreL_len l
  have key : ∀ (d i : Nat) (w' : World), i + d = 15 → Keep w w' → X s fr to q m n (i : Int) w' := by
    intro d
    induction d with
    | zero =>
      intro i w1 hi k1
      refine hX _ _ _ _ _ _ _ _ ?_
      unfold C.tocsinlaw17_OverStale.S7 C.tocsinlaw17_OverStale.S2
      exact cond_d (fun h => by omega) (fun _ => known_ok fun w2 k2 => hK w2 (Keep.trans k1 k2))
    | succ d ih =>
      intro i w1 hi k1
      refine hX _ _ _ _ _ _ _ _ ?_
      unfold C.tocsinlaw17_OverStale.S7
      refine cond_d (fun _ => ?_) (fun h => by omega)
      have next : ∀ w', Keep w w' → X s fr to q m n (IntKind.i64.wrap ((i : Int) + 1)) w' := fun w' k => by
        rw [wI64 (by omega) (by omega), show (i : Int) + 1 = ((i + 1 : Nat) : Int) by omega]
        exact ih (i + 1) w' (by omega) k
      obtain ⟨b, hb⟩ := str_at (hn.keep k1) hc (i := i) (by omega)
      refine hb fun a ha => cS_at ha ?_
      refine call_ok (hs.keep k1) (by omega) h64 fun w2 k2 => ?_
      have k02 := Keep.trans k1 k2
      refine hb fun a ha => cS_at (k2.cell ha) ?_
      refine call_ok (hm.keep k02) (by omega) (more64 h64) fun w3 k3 => ?_
      have k03 := Keep.trans k02 k3
      refine cond_eq (fun h0 => ?_) (fun _ => next w3 k03)
      rw [stale_eq h0]
      refine bits17_ok ?_
      rw [decide_eq_true rfl]
      refine cond_f rfl <| cond_f (by rw [beq_self_eq_true]; rfl) <| cond_f ?_ (next w3 k03)
      rw [h0]; rfl
  exact key 15 0 w rfl (Keep.refl w)
theorem stale_law {s : Sl} {l : List Smp} {fr to : Int} {q : Nat} (hs : Rd w0 s 2 (smps l)) (hl : l.length ≤ 20000000) (h64 : ∀ x ∈ l, x.2 < 18446744073709551616) (h63 : ∀ x ∈ l, -9223372036854775808 ≤ x.1 ∧ x.1 ≤ 9223372036854775807)
    {K : Bool → World → Prop} (hK : ∀ w', Keep w0 w' → K true w') : C.tocsinlaw17_OverStale s fr to q w0 K := by
  unfold C.tocsinlaw17_OverStale C.tocsinlaw17_OverStale.S18
  have hsn := rdS_len hs
  refine C.tocsinlaw17_OverStale.L14_ind fun X hX => ?_
  have key : ∀ (d i : Nat) (v : Sl) (ω : Tg) (w : World), i + d = l.length → Top w0 ω w → OT ω w 3 33 2 v (smps (moreL (l.take i))) → X s fr to q v (i : Int) w := by
    intro d
    induction d with
    | zero =>
      intro i v ω w hi top o
      refine hX _ _ _ _ _ _ _ ?_
      unfold C.tocsinlaw17_OverStale.S16 C.tocsinlaw17_OverStale.S11
      rw [List.take_of_length_le (by omega)] at o
      refine cond_d (fun h => by omega) (fun _ => names_ok fun n cs w2 k2 hn h15 hc => ?_)
      have kk := Keep.trans top.k k2
      exact stale_loop (hs.keep kk) (o.rd.keep k2) hn h15 hc hl h64 fun w3 k3 => hK w3 (Keep.trans kk k3)
    | succ d ih =>
      intro i v ω w hi top o
      refine hX _ _ _ _ _ _ _ ?_
      unfold C.tocsinlaw17_OverStale.S16
      have him : i < l.length := by omega
      have hx : l[i]? = some l[i] := List.getElem?_eq_getElem him
      have hlm : (moreL (l.take i)).length ≤ 2 * l.length := Nat.le_trans (moreL_len _) (by rw [List.length_take]; omega)
      refine cond_d (fun _ => ?_) (fun h => by omega)
      have next : ∀ (v' : Sl) (ω' : Tg) (w' : World), Top w0 ω' w' → OT ω' w' 3 33 2 v' (smps (moreL (l.take (i + 1)))) → X s fr to q v' (IntKind.i64.wrap ((i : Int) + 1)) w' := fun v' ω' w' top' o' => by
        rw [wI64 (by omega) (by omega), show (i : Int) + 1 = ((i + 1 : Nat) : Int) by omega]
        exact ih (i + 1) v' ω' w' (by omega) top' o'
      have push : ∀ (ms : List Smp) (v' : Sl) (ω' : Tg) (w' : World), ms.length ≤ 2 * l.length + 1 → ms ++ [l[i]] = moreL (l.take (i + 1)) → Top w0 ω' w' → OT ω' w' 3 33 2 v' (smps ms) →
          G.ix s.a s.n (i : Int) 2 fun p => G.cI .i64 p w' fun n => G.cF .f64 (p.add 1) w' fun f => G.new (.cells #[.int .i64 n, .float .f64 f] 33) w' fun p78 w79 => G.runSl C.pr (Builtin.append_ #[28, 28] 28 #[v'.v, (Sl.v (⟨some p78, 1, 1⟩ : Sl))]) w79 fun l80 w81 => X s fr to q l80 (IntKind.i64.wrap ((i : Int) + 1)) w81 := by
        intro ms v' ω' w' hms e top' o'
        have hvn := rdS_len o'.rd
        refine rdS_at (hs.keep top'.k) rfl hx fun p f0 f1 => cI_at f0 <| cF_at f1 ?_
        refine push_T (P := Try.prog) tiS o' (n := 1) rfl (by intro v hv; simp at hv; rcases hv with rfl | rfl <;> rfl) (by simp only [maxLen]; omega) (by omega) fun r ω4 w4 k4 o4 _ => ?_
        refine next r ω4 w4 (top'.stp k4) ?_
        rw [← e, smps_app]; exact o4
      by_cases h0 : i = 0
      · have e1 : ([] : List Smp) ++ [l[i]] = moreL (l.take (i + 1)) := by subst h0; rw [more_one (by omega)]; rfl
        have e0 : moreL (l.take i) = [] := by subst h0; rfl
        rw [e0] at o
        exact cond_d (fun h => by omega) (fun _ => push [] v ω w.drew (by simp) e1 (top.stp (drew_stp ω w)) (o.stp (drew_stp ω w)))
      · have est := more_step (l := l) (i := i) (by omega) him
        refine cond_d (fun _ => ?_) (fun h => by omega)
        have topd := top.stp (drew_stp ω w)
        have od := o.stp (drew_stp ω w)
        refine rdS_at (hs.keep topd.k) (k := i) rfl hx fun p f0 _ => cI_at f0 ?_
        rw [show IntKind.i64.wrap ((i : Int) - 1) = ((i - 1 : Nat) : Int) by rw [wI64 (by omega) (by omega)]; omega]
        refine rdS_at (hs.keep topd.k) (k := i - 1) rfl (List.getElem?_eq_getElem (by omega)) fun p f0 _ => cI_at f0 ?_
        unfold gapS at est
        refine cond_d (fun hg => ?_) (fun hg => ?_)
        · rw [if_pos hg] at est
          have topdd := topd.stp (drew_stp ω w.drew)
          have odd := od.stp (drew_stp ω w.drew)
          have hvn := rdS_len odd.rd
          refine rdS_at (hs.keep topdd.k) (k := i) rfl hx fun p f0 _ => cI_at f0 <| frombits_ok ⟨same1 f0 (Keep.refl _), ?_⟩
          refine push_T (P := Try.prog) tiS odd (n := 1) rfl (by intro v hv; simp at hv; rcases hv with rfl | rfl <;> rfl) (by simp only [maxLen]; omega) (by omega) fun r ω4 w4 k4 o4 _ => ?_
          refine push (moreL (l.take i) ++ [(IntKind.i64.wrap (l[i].1 - 1), (9218868437227405314 : Nat))]) r ω4 w4 (by rw [List.length_append]; simp; omega) ?_ (topdd.stp k4) ?_
          · rw [est, List.append_assoc]
          · rw [smps_app]; exact o4
        · rw [if_neg hg] at est
          exact push (moreL (l.take i)) v ω w.drew (by omega) (by rw [est]; rfl) topd od
  exact key l.length 0 nilS (fun _ => 0) w0 (by omega) (Top.init w0) (OT.nil _ _ _ _ _)
end Go.Proofs.Ytaciaidehamfgaa.Ov
