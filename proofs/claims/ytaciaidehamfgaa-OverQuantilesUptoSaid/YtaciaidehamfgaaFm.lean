/- Floats of 64 bits, plain: order, operations up to NaN, whole numbers, products. Own work. -/
import Derived.Test.YtaciaidehamfgaaFl
set_option exponentiation.threshold 3000
namespace Go.Proofs.Ytaciaidehamfgaa.Fl
open Go Vm Ieee

/-! ## Order -/
theorem cmp_congr {a b c d : Int} (h1 : a < b ↔ c < d) (h2 : a = b ↔ c = d) : compare a b = compare c d := by
  rw [show ∀ x y : Int, compare x y = if x < y then Ordering.lt else if x = y then .eq else .gt from fun _ _ => rfl, show ∀ x y : Int, compare x y = if x < y then Ordering.lt else if x = y then .eq else .gt from fun _ _ => rfl]
  simp only [h1, h2]
theorem cmpI (x y : Int) : compare x y = if x < y then Ordering.lt else if x = y then .eq else .gt := rfl
theorem order_key {a b : Nat} (ha : isN a = false) (hb : isN b = false) : FloatKind.f64.format.order a b = some (compare (key a) (key b)) := by
  have ra := isN_iff.1 ha
  have rb := isN_iff.1 hb
  show (FloatKind.f64.decode a).order (FloatKind.f64.decode b) = _
  have kf : ∀ w, rg w < (9218868437227405312 : Nat) → -((9218868437227405312 : Nat) : Int) < key w ∧ key w < ((9218868437227405312 : Nat) : Int) := fun w h => by unfold key; split <;> omega
  by_cases ia : rg a = (9218868437227405312 : Nat)
  · rw [dec_inf ia]
    by_cases ib : rg b = (9218868437227405312 : Nat)
    · rw [dec_inf ib]
      show some (compare (sgn b).toNat (sgn a).toNat) = _
      congr 1
      unfold key
      rw [ia, ib]
      cases sgn a <;> cases sgn b <;> rfl
    · obtain ⟨n, j, eb, _⟩ := dec_fin (show rg b < (9218868437227405312 : Nat) by omega)
      rw [eb]
      have := kf b (by omega)
      show some (if sgn a = true then Ordering.lt else .gt) = _
      congr 1
      have ka : key a = if sgn a then -((9218868437227405312 : Nat) : Int) else ((9218868437227405312 : Nat) : Int) := by unfold key; rw [ia]
      rw [ka]
      rw [cmpI]
      cases sgn a
      · simp only [Bool.false_eq_true, if_false]; rw [if_neg (by omega), if_neg (by omega)]
      · simp only [if_true]; rw [if_pos (by omega)]
  · obtain ⟨m, i, ea, va, hi⟩ := dec_fin (show rg a < (9218868437227405312 : Nat) by omega)
    rw [ea]
    by_cases ib : rg b = (9218868437227405312 : Nat)
    · rw [dec_inf ib]
      have := kf a (by omega)
      show some (if sgn b = true then Ordering.gt else .lt) = _
      congr 1
      have kb : key b = if sgn b then -((9218868437227405312 : Nat) : Int) else ((9218868437227405312 : Nat) : Int) := by unfold key; rw [ib]
      rw [kb]
      rw [cmpI]
      cases sgn b
      · simp only [Bool.false_eq_true, if_false]; rw [if_pos (by omega)]
      · simp only [if_true]; rw [if_neg (by omega), if_neg (by omega)]
    · obtain ⟨n, j, eb, vb, hj⟩ := dec_fin (show rg b < (9218868437227405312 : Nat) by omega)
      rw [eb]
      show some (compare (signed (sgn a) m (i - min i j).toNat) (signed (sgn b) n (j - min i j).toNat)) = _
      congr 1
      have hX : (m <<< (i - min i j).toNat) * 2 ^ (min i j + 1074).toNat = V (rg a) := by
        rw [Nat.shiftLeft_eq, Nat.mul_assoc, ← Nat.pow_add, ← va]; congr 2; omega
      have hY : (n <<< (j - min i j).toNat) * 2 ^ (min i j + 1074).toNat = V (rg b) := by
        rw [Nat.shiftLeft_eq, Nat.mul_assoc, ← Nat.pow_add, ← vb]; congr 2; omega
      unfold signed key
      generalize m <<< (i - min i j).toNat = X at *
      generalize n <<< (j - min i j).toNat = Y at *
      have lt1 : X < Y ↔ rg a < rg b := by have h := @V_le (rg b) (rg a); rw [← hX, ← hY, pow_le_iff] at h; omega
      have lt2 : Y < X ↔ rg b < rg a := by have h := @V_le (rg a) (rg b); rw [← hX, ← hY, pow_le_iff] at h; omega
      have z0 : ∀ u c : Nat, u * 2 ^ c ≤ 0 ↔ u ≤ 0 := fun u c => by rw [← pow_le_iff (u := u) (v := 0) (c := c), Nat.zero_mul]
      have zX : X = 0 ↔ rg a = 0 := by have h := @V_le (rg a) 0; rw [V_zero, ← hX, z0] at h; omega
      have zY : Y = 0 ↔ rg b = 0 := by have h := @V_le (rg b) 0; rw [V_zero, ← hY, z0] at h; omega
      apply cmp_congr
      · cases sgn a <;> cases sgn b <;> simp only [Bool.false_eq_true, if_false, if_true] <;> omega
      · cases sgn a <;> cases sgn b <;> simp only [Bool.false_eq_true, if_false, if_true] <;> omega

/-! ## Up to NaN -/
abbrev FV := Option Nat
def nm (b : Nat) : FV := if isN b then none else some b
def vlt (x y : FV) : Bool := match x, y with | some a, some b => decide (key a < key b) | _, _ => false
def veq (x y : FV) : Bool := match x, y with | some a, some b => decide (key a = key b) | _, _ => false
def fo (op : BinOp) (x y : FV) : FV := match x, y with | some a, some b => floatBits op .f64 a b | _, _ => none
def tb (x : FV) : Nat := match x with | some b => b | none => 9221120237041090561
theorem nm_some {b : Nat} (h : isN b = false) : nm b = some b := by unfold nm; rw [h]; rfl
theorem nm_none {b : Nat} (h : isN b = true) : nm b = none := by unfold nm; rw [h]; rfl
theorem dec_nan {b : Nat} (h : isN b = true) : ∃ s t, FloatKind.f64.decode b = .nan s t := by
  unfold isN at h
  generalize FloatKind.f64.decode b = d at *
  cases d <;> first | exact ⟨_, _, rfl⟩ | cases h
theorem order_none {a b : Nat} (h : isN a = true ∨ isN b = true) : FloatKind.f64.format.order a b = none := by
  show (FloatKind.f64.decode a).order (FloatKind.f64.decode b) = none
  rcases h with h | h
  · obtain ⟨s, t, e⟩ := dec_nan h
    rw [e]; rfl
  · obtain ⟨s, t, e⟩ := dec_nan h
    rw [e]
    generalize FloatKind.f64.decode a = d
    cases d <;> rfl
theorem cmp_lt {x y : Int} : (some (compare x y) == some Ordering.lt) = decide (x < y) := by
  rw [cmpI]
  by_cases h : x < y
  · rw [if_pos h, decide_eq_true h]; rfl
  · rw [if_neg h, decide_eq_false h]; split <;> rfl
theorem cmp_eq {x y : Int} : (some (compare x y) == some Ordering.eq) = decide (x = y) := by
  rw [cmpI]
  by_cases h : x < y
  · rw [if_pos h, decide_eq_false (by omega)]; rfl
  · rw [if_neg h]
    by_cases e : x = y
    · rw [if_pos e, decide_eq_true e]; rfl
    · rw [if_neg e, decide_eq_false e]; rfl
theorem cmp_gt {x y : Int} : (some (compare x y) == some Ordering.gt) = decide (y < x) := by
  rw [cmpI]
  by_cases h : x < y
  · rw [if_pos h, decide_eq_false (by omega)]; rfl
  · rw [if_neg h]
    by_cases e : x = y
    · rw [if_pos e, decide_eq_false (by omega)]; rfl
    · rw [if_neg e, decide_eq_true (by omega)]; rfl
theorem nm_cases (b : Nat) : (isN b = true ∧ nm b = none) ∨ (isN b = false ∧ nm b = some b) := by
  cases h : isN b
  · exact .inr ⟨rfl, nm_some h⟩
  · exact .inl ⟨rfl, nm_none h⟩
theorem flt_nm (a b : Nat) : G.flt a b = vlt (nm a) (nm b) := by
  unfold G.flt
  rcases nm_cases a with ⟨ha, ea⟩ | ⟨ha, ea⟩
  · rw [order_none (.inl ha), ea]; rfl
  · rcases nm_cases b with ⟨hb, eb⟩ | ⟨hb, eb⟩
    · rw [order_none (.inr hb), ea, eb]; rfl
    · rw [order_key ha hb, ea, eb, cmp_lt]; rfl
theorem feq_nm (a b : Nat) : G.feq a b = veq (nm a) (nm b) := by
  unfold G.feq
  rcases nm_cases a with ⟨ha, ea⟩ | ⟨ha, ea⟩
  · rw [order_none (.inl ha), ea]; rfl
  · rcases nm_cases b with ⟨hb, eb⟩ | ⟨hb, eb⟩
    · rw [order_none (.inr hb), ea, eb]; rfl
    · rw [order_key ha hb, ea, eb, cmp_eq]; rfl
theorem fgt_nm (a b : Nat) : G.fgt a b = vlt (nm b) (nm a) := by
  unfold G.fgt
  rcases nm_cases a with ⟨ha, ea⟩ | ⟨ha, ea⟩
  · rw [order_none (.inl ha), ea]
    cases nm b <;> rfl
  · rcases nm_cases b with ⟨hb, eb⟩ | ⟨hb, eb⟩
    · rw [order_none (.inr hb), ea, eb]; rfl
    · rw [order_key ha hb, ea, eb, cmp_gt]; rfl
theorem fne_nm (a b : Nat) : G.fne a b = !veq (nm a) (nm b) := by rw [← feq_nm]; rfl
theorem fge_nm (a b : Nat) : G.fge a b = (vlt (nm b) (nm a) || veq (nm a) (nm b)) := by rw [← feq_nm, ← fgt_nm]; rfl
theorem fle_nm (a b : Nat) : G.fle a b = (vlt (nm a) (nm b) || veq (nm a) (nm b)) := by rw [← feq_nm, ← flt_nm]; rfl
theorem veq_self (x : FV) : veq x x = x.isSome := by cases x with | none => rfl | some a => exact decide_eq_true rfl
theorem sum_nan {x y d : Datum} (h : x.sum y = some d) : x.isNaN = false ∧ y.isNaN = false ∧ d.isNaN = false := by
  unfold Datum.sum at h
  split at h <;> first | (cases h; done) | skip
  · split at h
    · cases h; exact ⟨rfl, rfl, rfl⟩
    · cases h
  · cases h; exact ⟨rfl, rfl, rfl⟩
  · cases h; exact ⟨rfl, rfl, rfl⟩
  · cases h; exact ⟨rfl, rfl, rfl⟩
theorem product_nan {x y d : Datum} (h : x.product y = some d) : x.isNaN = false ∧ y.isNaN = false ∧ d.isNaN = false := by
  unfold Datum.product at h
  split at h <;> first | (cases h; done) | skip
  · cases h; exact ⟨rfl, rfl, rfl⟩
  · split at h
    · cases h
    · cases h; exact ⟨rfl, rfl, rfl⟩
  · split at h
    · cases h
    · cases h; exact ⟨rfl, rfl, rfl⟩
  · cases h; exact ⟨rfl, rfl, rfl⟩
theorem quotient_nan {k : Nat} {x y d : Datum} (h : x.quotient k y = some d) : x.isNaN = false ∧ y.isNaN = false ∧ d.isNaN = false := by
  unfold Datum.quotient at h
  split at h <;> first | (cases h; done) | skip
  · cases h; exact ⟨rfl, rfl, rfl⟩
  · cases h; exact ⟨rfl, rfl, rfl⟩
  · split at h
    · split at h
      · cases h
      · cases h; exact ⟨rfl, rfl, rfl⟩
    · cases h; exact ⟨rfl, rfl, rfl⟩
theorem opp_nan (d : Datum) : d.opposite.isNaN = d.isNaN := by cases d <;> rfl
theorem bits_nan {op : BinOp} {a b r : Nat} (h : floatBits op .f64 a b = some r) : isN a = false ∧ isN b = false ∧ isN r = false := by
  unfold floatBits at h
  have key : ∀ {o : Option Datum} {x y : Datum}, o.map Ieee.double.write = some r → (∀ d, o = some d → x.isNaN = false ∧ y.isNaN = false ∧ d.isNaN = false) → x.isNaN = false ∧ y.isNaN = false ∧ isN r = false := fun {o x y} h hd => by
    cases o with
    | none => cases h
    | some d =>
      injection h with h
      obtain ⟨h1, h2, h3⟩ := hd d rfl
      exact ⟨h1, h2, by rw [← h]; exact isN_write h3⟩
  cases op <;> first | (cases h; done) | skip
  · exact key (x := FloatKind.f64.decode a) (y := FloatKind.f64.decode b) h fun d hd => sum_nan hd
  · exact key (x := FloatKind.f64.decode a) (y := FloatKind.f64.decode b) h fun d hd => by
      obtain ⟨h1, h2, h3⟩ := sum_nan (x := FloatKind.f64.decode a) (y := (FloatKind.f64.decode b).opposite) hd
      rw [opp_nan] at h2
      exact ⟨h1, h2, h3⟩
  · exact key (x := FloatKind.f64.decode a) (y := FloatKind.f64.decode b) h fun d hd => product_nan hd
  · exact key (x := FloatKind.f64.decode a) (y := FloatKind.f64.decode b) h fun d hd => quotient_nan hd
/-- An operation: its result up to NaN. -/
theorem fa_at {op : BinOp} {a b : Nat} {w : World} {K : Nat → World → Prop} (hK : ∀ r w', (w' = w ∨ w' = w.drew) → nm r = fo op (nm a) (nm b) → K r w') : G.fa op a b w K := by
  unfold G.fa
  cases h : floatBits op .f64 a b with
  | some r =>
    obtain ⟨h1, h2, h3⟩ := bits_nan h
    refine hK r w (.inl rfl) ?_
    rw [nm_some h1, nm_some h2, nm_some h3]
    exact h.symm
  | none =>
    intro r hr
    refine hK r _ (.inr rfl) ?_
    rw [nm_none (show isN r = true from hr.1)]
    rcases nm_cases a with ⟨_, ea⟩ | ⟨_, ea⟩
    · rw [ea]; rfl
    · rcases nm_cases b with ⟨_, eb⟩ | ⟨_, eb⟩
      · rw [ea, eb]; rfl
      · rw [ea, eb]; exact h.symm

/-! ## Whole numbers -/
theorem near_facts {n : Nat} (h : n < 9007199254740992) : ∃ r, FloatKind.f64.nearest (n : Int) = r ∧ sgn r = false ∧ rg r = r ∧ r < (9218868437227405312 : Nat) ∧ V r = n * 2 ^ 1074 := by
  have e0 : FloatKind.f64.nearest (n : Int) = Ieee.double.word false (rnd n 0) := by
    show Ieee.double.nearest (decide ((n : Int) < 0)) (n : Int).natAbs 0 = _
    rw [decide_eq_false (by omega), Int.natAbs_natCast, nearest_rnd]
  obtain ⟨c, hc⟩ : ∃ c : Nat, c = 1074 := ⟨_, rfl⟩
  rw [← hc]
  have key : rnd n 0 < (9218868437227405312 : Nat) ∧ V (rnd n 0) = n * 2 ^ c := by
    by_cases h0 : n = 0
    · subst h0
      have e : rnd 0 0 = 0 := by unfold rnd; rw [if_pos rfl]
      rw [e, V_zero, Nat.zero_mul]; exact ⟨by omega, rfl⟩
    · obtain ⟨E, kept, e1, e2, e3, e4, e5, e6⟩ := rnd_facts h0 0 (-1074) (by decide) (by decide)
      have ea : ((0 : Int) - (-1074)).toNat = c := by omega
      have eb : ((-1074 : Int) - (-1074)).toNat = 0 := rfl
      rw [ea, eb, Nat.add_zero] at e3 e4 e5 e6
      have hE : E ≤ c := by
        apply Nat.le_of_not_lt
        intro hlt
        have h1 := (e5 (by omega)).2
        have h2 : n * 2 ^ c < 9007199254740992 * 2 ^ c := Nat.mul_lt_mul_of_pos_right h (Nat.two_pow_pos _)
        have h3 : (4503599627370496 : Nat) * 2 ^ (c + 1) ≤ (4503599627370496 : Nat) * 2 ^ E := Nat.mul_le_mul_left _ (Nat.pow_le_pow_right (by decide) hlt)
        rw [Nat.pow_succ] at h3
        generalize 2 ^ c = p at *
        omega
      have ek : n * 2 ^ (c - E) * 2 ^ E = n * 2 ^ c := by rw [Nat.mul_assoc, ← Nat.pow_add]; congr 2; omega
      have hk : kept = n * 2 ^ (c - E) := Nat.le_antisymm (e3 _ (Nat.le_of_eq ek.symm)) (e4 _ (Nat.le_of_eq ek))
      have hk2 : kept < 2 * (4503599627370496 : Nat) := by
        apply Nat.lt_of_not_le
        intro hle
        have := Nat.mul_le_mul_right (2 ^ E) hle
        rw [hk, ek] at this
        omega
      have hm : rnd n 0 = E * (4503599627370496 : Nat) + kept := by rw [e1]; omega
      rw [hm, e2, hk, ek]
      exact ⟨by rw [← hk]; omega, rfl⟩
  have ew : Ieee.double.word false (rnd n 0) = rnd n 0 := by rw [word_eq, if_neg (by decide)]
  refine ⟨rnd n 0, e0.trans ew, ?_, ?_, key.1, key.2⟩
  · have := (sgn_word false (rnd_inf n 0)).1; rwa [ew] at this
  · have := (sgn_word false (rnd_inf n 0)).2; rwa [ew] at this
theorem near_nm {n : Nat} (h : n < 9007199254740992) : nm (FloatKind.f64.nearest (n : Int)) = some (FloatKind.f64.nearest (n : Int)) := by
  obtain ⟨r, e, h1, h2, h3, h4⟩ := near_facts h
  rw [e]; exact nm_some (isN_iff.2 (by omega))
theorem near_key {n : Nat} (h : n < 9007199254740992) : ∃ r : Nat, key (FloatKind.f64.nearest (n : Int)) = (r : Int) ∧ V r = n * 2 ^ 1074 := by
  obtain ⟨r, e, h1, h2, h3, h4⟩ := near_facts h
  refine ⟨r, ?_, h4⟩
  rw [e]; unfold key; rw [h1, h2]; rfl
theorem near_lt {n m : Nat} (hn : n < 9007199254740992) (hm : m < 9007199254740992) : vlt (nm (FloatKind.f64.nearest (n : Int))) (nm (FloatKind.f64.nearest (m : Int))) = decide (n < m) := by
  rw [near_nm hn, near_nm hm]
  obtain ⟨r, e1, v1⟩ := near_key hn
  obtain ⟨s, e2, v2⟩ := near_key hm
  show decide (_ < _) = _
  rw [e1, e2]
  congr 1
  rw [eq_iff_iff, Int.ofNat_lt, ← Nat.not_le, ← Nat.not_le, ← V_le, v1, v2, pow_le_iff]
/-- A float that is no less than 0 and below 2^53, made whole. -/
theorem toInt_at {w : Nat} (hs : sgn w = false ∨ rg w = 0) (hr : rg w < (9218868437227405312 : Nat)) : (FloatKind.f64.decode w).toInt .zero = some ((V (rg w) / 2 ^ 1074 : Nat) : Int) ∧
    (FloatKind.f64.decode w).integral .down = .number (sgn w) (V (rg w) / 2 ^ 1074) 0 := by
  obtain ⟨m, e, ed, hv, he⟩ := dec_fin hr
  rw [ed]
  have hq : (m <<< e.toNat) / 2 ^ (-e).toNat = V (rg w) / 2 ^ 1074 := by
    rw [← hv, Nat.shiftLeft_eq]
    by_cases h : 0 ≤ e
    · rw [show (-e).toNat = 0 by omega, show (e + 1074).toNat = e.toNat + 1074 by omega, Nat.pow_add, ← Nat.mul_assoc, Nat.mul_div_cancel _ (Nat.two_pow_pos _), Nat.pow_zero, Nat.div_one]
    · rw [show e.toNat = 0 by omega, Nat.pow_zero, Nat.mul_one, show 1074 = (-e).toNat + (e + 1074).toNat by omega, Nat.pow_add, Nat.mul_div_mul_right _ _ (Nat.two_pow_pos _)]
  constructor
  · show some (signed (sgn w) (Toward.zero.cut (sgn w) (m <<< e.toNat) (-e).toNat) 0) = _
    rw [cut_zero (.inl rfl), hq]
    unfold signed
    congr 1
    rcases hs with h | h
    · rw [h]; simp
    · rw [h, V_zero]; simp
  · show Datum.number (sgn w) (Toward.down.cut (sgn w) (m <<< e.toNat) (-e).toNat) 0 = _
    congr 1
    rcases hs with h | h
    · rw [h, cut_zero (.inr ⟨rfl, rfl⟩), hq]
    · have hm : m = 0 := by
        rw [h, V_zero] at hv
        rcases Nat.mul_eq_zero.1 hv with h | h
        · exact h
        · exact absurd h (Nat.ne_of_gt (Nat.two_pow_pos _))
      subst hm
      obtain ⟨up, e1, _, e2, _⟩ := cut_facts .down (sgn w) (0 <<< e.toNat) (-e).toNat
      rw [e1, e2 (by simp), hq, Nat.add_zero]
theorem f2i_at {w n : Nat} (hs : sgn w = false ∨ rg w = 0) (hr : rg w < (9218868437227405312 : Nat)) (hv : V (rg w) / 2 ^ 1074 = n) (hn : n < 9007199254740992) {K : Int → Prop} (hK : K (n : Int)) : G.f2i w .i64 K := by
  refine ⟨(n : Int), ?_, hK⟩
  unfold floatToIntVal
  rw [(toInt_at hs hr).1, hv]
  simp only
  rw [if_pos]
  constructor <;> simp [IntKind.min, IntKind.max, IntKind.signed, IntKind.bits] <;> omega

/-! ## Products -/
theorem mul_fin {a b : Nat} (ha : rg a < (9218868437227405312 : Nat)) (hb : rg b < (9218868437227405312 : Nat)) : ∃ mag place, floatBits .mul .f64 a b = some (Ieee.double.word (sgn a ^^ sgn b) (rnd mag place)) ∧ -2148 ≤ place ∧ mag * 2 ^ (place - (-2148)).toNat = V (rg a) * V (rg b) := by
  obtain ⟨m, i, ea, va, hi⟩ := dec_fin ha
  obtain ⟨n, j, eb, vb, hj⟩ := dec_fin hb
  refine ⟨m * n, i + j, ?_, by omega, ?_⟩
  · show ((FloatKind.f64.decode a).product (FloatKind.f64.decode b)).map Ieee.double.write = _
    rw [ea, eb]
    show some (Ieee.double.write (.number (sgn a ^^ sgn b) (m * n) (i + j))) = _
    rw [write_num]
  · rw [← va, ← vb, show (i + j - (-2148)).toNat = (i + 1074).toNat + (j + 1074).toNat by omega, Nat.pow_add, Nat.mul_mul_mul_comm]
theorem V_one : V 4607182418800017408 = 2 ^ 1074 := by decide +kernel
/-- A part of a number. -/
theorem mul_part {q x : Nat} (hq : rg q ≤ 4607182418800017408) (hx : rg x < (9218868437227405312 : Nat)) (hsx : sgn x = false) (hsq : sgn q = false ∨ rg q = 0) : ∃ k, floatBits .mul .f64 q x = some k ∧ rg k ≤ rg x ∧ (sgn k = false ∨ rg k = 0) := by
  obtain ⟨mag, place, e, hp, hv⟩ := mul_fin (show rg q < (9218868437227405312 : Nat) by omega) hx
  have hle : rnd mag place ≤ rg x := rnd_le (p := -2148) hp (by decide) (by
    rw [hv, Nat.mul_comm]
    exact Nat.mul_le_mul_left _ (by rw [show ((-1074 : Int) - (-2148)).toNat = 1074 from rfl, ← V_one]; exact V_le.2 hq))
  obtain ⟨s1, s2⟩ := sgn_word (sgn q ^^ sgn x) (rnd_inf mag place)
  refine ⟨_, e, by rw [s2]; exact hle, ?_⟩
  rw [s1, s2, hsx]
  rcases hsq with h | h
  · rw [h]; exact .inl rfl
  · right
    rw [h, V_zero, Nat.zero_mul] at hv
    rcases Nat.mul_eq_zero.1 hv with h | h
    · subst h; simp [rnd]
    · exact absurd h (Nat.ne_of_gt (Nat.two_pow_pos _))
theorem sg_one : sgn 4607182418800017408 = false ∧ rg 4607182418800017408 = 4607182418800017408 := by decide +kernel
theorem mul_one_f {a : Nat} (ha : rg a < (9218868437227405312 : Nat)) (h64 : a < 18446744073709551616) : floatBits .mul .f64 a 4607182418800017408 = some a := by
  obtain ⟨mag, place, e, hp, hv⟩ := mul_fin ha (show rg 4607182418800017408 < (9218868437227405312 : Nat) by rw [sg_one.2]; omega)
  have : rnd mag place = rg a := rnd_eq (p := -2148) hp (by decide) (by omega) (by rw [hv, sg_one.2, V_one]; rfl)
  rw [e, this, sg_one.1, Bool.xor_false, word_self h64]
theorem one_mul_f {a : Nat} (ha : rg a < (9218868437227405312 : Nat)) (h64 : a < 18446744073709551616) : floatBits .mul .f64 4607182418800017408 a = some a := by
  obtain ⟨mag, place, e, hp, hv⟩ := mul_fin (show rg 4607182418800017408 < (9218868437227405312 : Nat) by rw [sg_one.2]; omega) ha
  have : rnd mag place = rg a := rnd_eq (p := -2148) hp (by decide) (by omega) (by rw [hv, sg_one.2, V_one, Nat.mul_comm]; rfl)
  rw [e, this, sg_one.1, Bool.false_xor, word_self h64]
theorem mul_zero_f {a z : Nat} (ha : rg a < (9218868437227405312 : Nat)) (hz : rg z = 0) : ∃ k, floatBits .mul .f64 a z = some k ∧ rg k = 0 ∧ sgn k = (sgn a ^^ sgn z) := by
  obtain ⟨mag, place, e, hp, hv⟩ := mul_fin ha (show rg z < (9218868437227405312 : Nat) by omega)
  obtain ⟨s1, s2⟩ := sgn_word (sgn a ^^ sgn z) (rnd_inf mag place)
  refine ⟨_, e, ?_, s1⟩
  rw [s2]
  rw [hz, V_zero, Nat.mul_zero] at hv
  rcases Nat.mul_eq_zero.1 hv with h | h
  · subst h; simp [rnd]
  · exact absurd h (Nat.ne_of_gt (Nat.two_pow_pos _))
theorem zero_mul_f {a z : Nat} (ha : rg a < (9218868437227405312 : Nat)) (hz : rg z = 0) : ∃ k, floatBits .mul .f64 z a = some k ∧ rg k = 0 ∧ sgn k = (sgn z ^^ sgn a) := by
  obtain ⟨mag, place, e, hp, hv⟩ := mul_fin (show rg z < (9218868437227405312 : Nat) by omega) ha
  obtain ⟨s1, s2⟩ := sgn_word (sgn z ^^ sgn a) (rnd_inf mag place)
  refine ⟨_, e, ?_, s1⟩
  rw [s2]
  rw [hz, V_zero, Nat.zero_mul] at hv
  rcases Nat.mul_eq_zero.1 hv with h | h
  · subst h; simp [rnd]
  · exact absurd h (Nat.ne_of_gt (Nat.two_pow_pos _))
/-- A zero added. -/
theorem add_zero_f {a z : Nat} (ha : rg a < (9218868437227405312 : Nat)) (hz : rg z = 0) : ∃ k, floatBits .add .f64 a z = some k ∧ key k = key a := by
  obtain ⟨m, i, ea, va, hi⟩ := dec_fin ha
  have ez : FloatKind.f64.decode z = .number (sgn z) 0 (-1074) := by rw [dec_eq, hz]; rfl
  have hmin : min i (-1074) = -1074 := by omega
  have hX : m <<< (i - (-1074)).toNat = V (rg a) := by rw [Nat.shiftLeft_eq, ← va]; rfl
  have e : floatBits .add .f64 a z = some (Ieee.double.write (.number (if signed (sgn a) m (i - (-1074)).toNat + signed (sgn z) 0 ((-1074 : Int) - (-1074)).toNat = 0 then sgn a && sgn z else decide (signed (sgn a) m (i - (-1074)).toNat + signed (sgn z) 0 ((-1074 : Int) - (-1074)).toNat < 0)) (signed (sgn a) m (i - (-1074)).toNat + signed (sgn z) 0 ((-1074 : Int) - (-1074)).toNat).natAbs (-1074))) := by
    show ((FloatKind.f64.decode a).sum (FloatKind.f64.decode z)).map Ieee.double.write = _
    rw [ea, ez]
    show some (Ieee.double.write (.number _ _ (min i (-1074)))) = _
    simp only [hmin]
  have sz : signed (sgn z) 0 ((-1074 : Int) - (-1074)).toNat = 0 := by unfold signed; cases sgn z <;> rfl
  have sa : signed (sgn a) m (i - (-1074)).toNat = if sgn a then -(V (rg a) : Int) else (V (rg a) : Int) := by unfold signed; rw [hX]
  rw [sz, sa, Int.add_zero] at e
  refine ⟨_, e, ?_⟩
  rw [write_num]
  have hn : (if sgn a = true then -(V (rg a) : Int) else (V (rg a) : Int)).natAbs = V (rg a) := by split <;> omega
  rw [hn]
  have hr : rnd (V (rg a)) (-1074) = rg a := rnd_eq (p := -1074) (by decide) (by decide) (by omega) (by simp)
  rw [hr]
  unfold key
  generalize hs : (if (if sgn a = true then -(V (rg a) : Int) else (V (rg a) : Int)) = 0 then sgn a && sgn z else decide ((if sgn a = true then -(V (rg a) : Int) else (V (rg a) : Int)) < 0)) = s
  obtain ⟨s1, s2⟩ := sgn_word s (show rg a ≤ (9218868437227405312 : Nat) by omega)
  rw [s1, s2]
  by_cases h0 : rg a = 0
  · rw [h0]; cases s <;> cases sgn a <;> rfl
  · have hv : 0 < V (rg a) := by have := V_mono (r := 0) (r' := rg a) (by omega); rw [V_zero] at this; exact this
    rw [if_neg (by split <;> omega)] at hs
    have : s = sgn a := by
      rw [← hs]
      cases sgn a
      · exact decide_eq_false (by simp)
      · exact decide_eq_true (by simp; omega)
    rw [this]
theorem sub_self_f {a : Nat} (ha : rg a < (9218868437227405312 : Nat)) : floatBits .sub .f64 a a = some 0 := by
  obtain ⟨m, i, ea, va, hi⟩ := dec_fin ha
  show ((FloatKind.f64.decode a).sum (FloatKind.f64.decode a).opposite).map Ieee.double.write = _
  rw [ea]
  have h0 : signed (sgn a) m (i - min i i).toNat + signed (!sgn a) m (i - min i i).toNat = 0 := by
    unfold signed
    cases sgn a <;> simp <;> omega
  show some (Ieee.double.write (.number (if signed (sgn a) m (i - min i i).toNat + signed (!sgn a) m (i - min i i).toNat = 0 then sgn a && !sgn a else _) (signed (sgn a) m (i - min i i).toNat + signed (!sgn a) m (i - min i i).toNat).natAbs (min i i))) = _
  rw [h0, if_pos rfl, write_num]
  cases sgn a <;> simp [rnd, word_eq]
end Go.Proofs.Ytaciaidehamfgaa.Fl
