/- Layer 7 (wal): names of logs and of segments. Own work. -/
import Derived.Test.YtdaghggdmgbpnaaDoorDkM
import Derived.Test.YtdaghggdmgbpnaaDoorVoT
namespace Go.Proofs.YtdaghggdmgbpnaaDoor.Wl
open Go Vm Go.RowKit Num Mem Utf Dk
variable {ω ω' : Tg} {w w' w0 : World}

/-! ## Texts as bytes -/
theorem by_ext {a b : ByteArray} (h : Utf.bytes a = Utf.bytes b) : a = b := by
  cases a with | mk x => cases b with | mk y =>
  have : x.toList = y.toList := h
  rw [Array.toList_inj.1 this]
theorem by_app (a b : ByteArray) : Utf.bytes (a ++ b) = Utf.bytes a ++ Utf.bytes b := by simp [Utf.bytes]
theorem by_ex (s : ByteArray) (i j : Nat) : Utf.bytes (s.extract i j) = ((Utf.bytes s).drop i).take (j - i) := by simp [Utf.bytes, Array.toList_extract]
theorem by_size (s : ByteArray) : s.size = (Utf.bytes s).length := Go.Lib.size_eq s

/-! ## The log's name -/
def okW (c : Nat) : Prop := (97 ≤ c ∧ c ≤ 122) ∨ (65 ≤ c ∧ c ≤ 90) ∨ (48 ≤ c ∧ c ≤ 57) ∨ c = 95 ∨ c = 45
instance (c : Nat) : Decidable (okW c) := by unfold okW; infer_instance
def wokL (l : List UInt8) : Bool := l.all fun c => decide (okW c.toNat)
def wnam (s : ByteArray) : Bool := decide (1 ≤ s.size) && decide (s.size ≤ 40) && wokL (Utf.bytes s)
theorem one_okW {c : Nat} {X Y : Prop} (hX : okW c → X) (hY : ¬ okW c → Y) :
    G.cond (decide ((c : Int) ≥ (97 : Int))) (G.cond (decide ((c : Int) ≤ (122 : Int))) X (G.cond (decide ((c : Int) ≥ (65 : Int))) (G.cond (decide ((c : Int) ≤ (90 : Int))) X (G.cond (decide ((c : Int) ≥ (48 : Int))) (G.cond (decide ((c : Int) ≤ (57 : Int))) X (G.cond ((c : Int) == (95 : Int)) X (G.cond (!((c : Int) == (45 : Int))) Y X))) (G.cond ((c : Int) == (95 : Int)) X (G.cond (!((c : Int) == (45 : Int))) Y X)))) (G.cond (decide ((c : Int) ≥ (48 : Int))) (G.cond (decide ((c : Int) ≤ (57 : Int))) X (G.cond ((c : Int) == (95 : Int)) X (G.cond (!((c : Int) == (45 : Int))) Y X))) (G.cond ((c : Int) == (95 : Int)) X (G.cond (!((c : Int) == (45 : Int))) Y X))))) (G.cond (decide ((c : Int) ≥ (65 : Int))) (G.cond (decide ((c : Int) ≤ (90 : Int))) X (G.cond (decide ((c : Int) ≥ (48 : Int))) (G.cond (decide ((c : Int) ≤ (57 : Int))) X (G.cond ((c : Int) == (95 : Int)) X (G.cond (!((c : Int) == (45 : Int))) Y X))) (G.cond ((c : Int) == (95 : Int)) X (G.cond (!((c : Int) == (45 : Int))) Y X)))) (G.cond (decide ((c : Int) ≥ (48 : Int))) (G.cond (decide ((c : Int) ≤ (57 : Int))) X (G.cond ((c : Int) == (95 : Int)) X (G.cond (!((c : Int) == (45 : Int))) Y X))) (G.cond ((c : Int) == (95 : Int)) X (G.cond (!((c : Int) == (45 : Int))) Y X)))) := by
  repeat' first
    | refine cond_d (fun _ => ?_) (fun _ => ?_)
    | refine cond_eq (fun _ => ?_) (fun _ => ?_)
    | refine cond_neq (fun _ => ?_) (fun _ => ?_)
  all_goals first
    | exact hX (by unfold okW; omega)
    | exact hY (by unfold okW; omega)
    | omega
theorem wokL_step {l : List UInt8} {k : Nat} {c : UInt8} (h : wokL (l.take k) = true) (hc : l[k]? = some c) (ho : okW c.toNat) : wokL (l.take (k + 1)) = true := by
  rw [List.take_add_one, hc, wokL, List.all_append]
  simp only [wokL] at h
  simp [h, ho]
theorem wokL_no {l : List UInt8} {k : Nat} {c : UInt8} (hc : l[k]? = some c) (ho : ¬ okW c.toNat) : wokL l = false := by
  rw [wokL, List.all_eq_false]
  exact ⟨c, List.mem_of_getElem? hc, by simp [ho]⟩
theorem wnamed_ok {s : ByteArray} (hs : s.size ≤ 9223372036854775807) {K : Bool → World → Prop} (hK : K (wnam s) w) : C.wal_named s w K := by
  unfold C.wal_named C.wal_named.S9
  refine C.wal_named.L5_ind fun X hX => ?_
  have key : ∀ d k : Nat, k + d = s.size → wokL ((Utf.bytes s).take k) = true → X s ((s.size : Nat) : Int) (k : Int) w := by
    intro d
    induction d with
    | zero =>
      intro k hk ho
      refine hX _ _ _ _ ?_
      unfold C.wal_named.S7 C.wal_named.S2
      refine cond_d (fun h => by omega) (fun _ => ?_)
      rw [List.take_of_length_le (by rw [← by_size]; omega)] at ho
      unfold wnam at hK
      rw [ho, Bool.and_true] at hK
      refine cond_d (fun h => ?_) (fun h => ?_)
      · have e : decide (((s.size : Nat) : Int) ≤ 40) = decide (s.size ≤ 40) := by simp only [decide_eq_decide]; omega
        rw [e]; rwa [decide_eq_true (by omega : 1 ≤ s.size), Bool.true_and] at hK
      · rwa [decide_eq_false (by omega : ¬ 1 ≤ s.size), Bool.false_and] at hK
    | succ d ih =>
      intro k hk ho
      refine hX _ _ _ _ ?_
      unfold C.wal_named.S7
      have hb := bytes_at (s := s) (k := k) (by omega)
      refine cond_d (fun _ => ?_) (fun h => by omega)
      refine ixS_at (k := k) rfl (by omega) (one_okW (fun h => ?_) (fun h => ?_))
      · rw [wI64 (by omega) (by omega), show (k : Int) + 1 = ((k + 1 : Nat) : Int) by omega]
        exact ih (k + 1) (by omega) (wokL_step ho hb h)
      · unfold wnam at hK
        rwa [wokL_no hb h, Bool.and_false] at hK
  exact key s.size 0 (by omega) rfl

/-! ## Decimal digits -/
def dg : Nat → Nat → List UInt8
  | 0, _ => []
  | k + 1, n => dg k (n / 10) ++ [UInt8.ofNat (48 + n % 10)]
theorem dg_len : ∀ k n, (dg k n).length = k
  | 0, _ => rfl
  | k + 1, n => by rw [dg, List.length_append, dg_len k]; rfl
def numD (l : List UInt8) : Nat := l.foldl (fun n c => n * 10 + (c.toNat - 48)) 0
theorem numD_snoc (l : List UInt8) (c : UInt8) : numD (l ++ [c]) = numD l * 10 + (c.toNat - 48) := by simp [numD]
theorem digit_toNat (n : Nat) : (UInt8.ofNat (48 + n % 10)).toNat = 48 + n % 10 := by rw [UInt8.toNat_ofNat', Nat.mod_eq_of_lt (by omega)]
theorem numD_dg : ∀ k n, n < 10 ^ k → numD (dg k n) = n
  | 0, n, h => by simp at h; subst h; rfl
  | k + 1, n, h => by
    rw [dg, numD_snoc, numD_dg k (n / 10) (by rw [Nat.pow_succ] at h; omega), digit_toNat]
    omega
def isD (c : UInt8) : Bool := decide (48 ≤ c.toNat) && decide (c.toNat ≤ 57)
theorem dg_isD : ∀ k n, (dg k n).all isD = true
  | 0, _ => rfl
  | k + 1, n => by
    rw [dg, List.all_append, dg_isD k]
    simp only [List.all_cons, List.all_nil, isD, digit_toNat, Bool.true_and, Bool.and_true, Bool.and_eq_true, decide_eq_true_eq]
    omega
theorem numD_go : ∀ (l : List UInt8) (a : Nat), l.all isD = true → l.foldl (fun n c => n * 10 + (c.toNat - 48)) a < (a + 1) * 10 ^ l.length
  | [], a, _ => by simp
  | c :: l, a, h => by
    simp only [List.all_cons, Bool.and_eq_true, isD, decide_eq_true_eq] at h
    have := numD_go l (a * 10 + (c.toNat - 48)) h.2
    simp only [List.foldl_cons, List.length_cons]
    refine Nat.lt_of_lt_of_le this ?_
    rw [Nat.pow_succ, Nat.mul_comm (10 ^ l.length) 10, ← Nat.mul_assoc]
    exact Nat.mul_le_mul_right _ (by omega)
theorem numD_lt {l : List UInt8} (h : l.all isD = true) : numD l < 10 ^ l.length := by
  have := numD_go l 0 h
  rw [Nat.zero_add, Nat.one_mul] at this
  exact this
theorem less_app {a b : List UInt8} (x y : List UInt8) (h : Op.bytesLess a b = true) (hl : a.length = b.length) : Op.bytesLess (a ++ x) (b ++ y) = true := by
  induction a generalizing b with
  | nil => cases b with
    | nil => simp [Op.bytesLess] at h
    | cons _ _ => simp at hl
  | cons p a ih => cases b with
    | nil => simp at hl
    | cons q b =>
      simp only [List.cons_append, Op.bytesLess, Bool.or_eq_true, Bool.and_eq_true] at h ⊢
      exact h.imp id fun hh => ⟨hh.1, ih hh.2 (by simpa using hl)⟩
theorem less_pre (p : List UInt8) {a b : List UInt8} (h : Op.bytesLess a b = true) : Op.bytesLess (p ++ a) (p ++ b) = true := by
  induction p with
  | nil => exact h
  | cons c p ih => simp only [List.cons_append, Op.bytesLess]; simp [ih]
theorem dg_less : ∀ k n m, n < m → m < 10 ^ k → Op.bytesLess (dg k n) (dg k m) = true
  | 0, n, m, h, h2 => by simp at h2; omega
  | k + 1, n, m, h, h2 => by
    rw [dg, dg]
    by_cases e : n / 10 = m / 10
    · rw [e]
      refine less_pre _ ?_
      simp only [Op.bytesLess]
      have : (UInt8.ofNat (48 + n % 10)) < UInt8.ofNat (48 + m % 10) := by rw [UInt8.lt_iff_toNat_lt, digit_toNat, digit_toNat]; omega
      rw [decide_eq_true this]; rfl
    · exact less_app _ _ (dg_less k _ _ (by omega) (by rw [Nat.pow_succ] at h2; omega)) (by rw [dg_len, dg_len])
end Go.Proofs.YtdaghggdmgbpnaaDoor.Wl
