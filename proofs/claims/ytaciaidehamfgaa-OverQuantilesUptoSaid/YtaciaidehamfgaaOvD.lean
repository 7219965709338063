/- Layer 17 (over): Quantile, both sides. Own work. -/
import Derived.Test.YtaciaidehamfgaaOvC
namespace Go.Proofs.Ytaciaidehamfgaa.Ov
open Go Vm Go.RowKit Num Mem Fl Sm
variable {ω ω' : Tg} {w w' w0 : World} {T : Nat → Bool} {t u g : Nat}
set_option exponentiation.threshold 3000

def posn (k : FV) : Nat := match k with | some b => V (rg b) / 2 ^ 1074 | none => 0
def mixV (a b wq : FV) : FV := fo .add (fo .mul a (fo .sub (nm (4607182418800017408 : Nat)) wq)) (fo .mul b wq)
def quantV (q : FV) (l : List FV) : FV :=
  let s := srtF l
  let k := fo .mul q (nm (FloatKind.f64.nearest ((l.length - 1 : Nat) : Int)))
  let i := posn k
  mixV (s.getD i none) (s.getD (min (i + 1) (l.length - 1)) none) (fo .sub k (nm (FloatKind.f64.nearest (i : Int))))
def qV (q : FV) (l : List FV) : Nat :=
  if l = [] ∨ q = none then tb none else if vlt q (nm 0) then 18442240474082181120 else if vlt (nm (4607182418800017408 : Nat)) q then 9218868437227405312 else tb (quantV q l)
theorem rnd_int {n : Nat} (h : n < 9007199254740992) : V (rnd n 0) = n * 2 ^ 1074 ∧ rnd n 0 < (9218868437227405312 : Nat) := by
  obtain ⟨r, e, h1, h2, h3, h4⟩ := near_facts h
  have e0 : FloatKind.f64.nearest (n : Int) = Ieee.double.word false (rnd n 0) := by
    show Ieee.double.nearest (decide ((n : Int) < 0)) (n : Int).natAbs 0 = _
    rw [decide_eq_false (by omega), Int.natAbs_natCast, nearest_rnd]
  have e1 : rnd n 0 = r := by
    have := (sgn_word false (rnd_inf n 0)).2
    rw [← e0, e, h2] at this
    exact this.symm
  rw [e1]; exact ⟨h4, h3⟩
theorem floor_f2i {kb i : Nat} (hs : sgn kb = false ∨ rg kb = 0) (hr : rg kb < (9218868437227405312 : Nat)) (hv : V (rg kb) / 2 ^ 1074 = i) (hi : i < 9007199254740992) {K : Nat → Int → Prop} (hK : ∀ f, K f (i : Int)) : G.whole .down kb fun f => G.f2i f .i64 fun n => K f n := by
  have hn : isN kb = false := isN_iff.2 (by omega)
  refine ⟨hn, ?_⟩
  rw [(toInt_at hs hr).2, hv]
  have ew : FloatKind.f64.encode (.number (sgn kb) i 0) = Ieee.double.word (sgn kb) (rnd i 0) := nearest_rnd _ _ _
  rw [ew]
  obtain ⟨r1, r2⟩ := rnd_int hi
  obtain ⟨s1, s2⟩ := sgn_word (sgn kb) (rnd_inf i 0)
  refine f2i_at (n := i) ?_ (by rw [s2]; exact r2) (by rw [s2, r1]; exact Nat.mul_div_cancel _ (Nat.two_pow_pos _)) hi (hK _)
  rw [s1, s2]
  rcases hs with h | h
  · exact .inl h
  · right
    rw [h, V_zero, Nat.zero_div] at hv
    subst hv
    unfold rnd; rw [if_pos rfl]
theorem one_facts : nm (4607182418800017408 : Nat) = some (4607182418800017408 : Nat) ∧ key (4607182418800017408 : Nat) = 4607182418800017408 := by decide +kernel
/-- Where a quantile lies. -/
theorem quant_pos {q n : Nat} (hq : isN q = false) (h0 : vlt (nm q) (nm 0) = false) (h1 : vlt (nm (4607182418800017408 : Nat)) (nm q) = false) (hn : n < 9007199254740992) :
    ∃ kb, fo .mul (nm q) (nm (FloatKind.f64.nearest (n : Int))) = some kb ∧ (sgn kb = false ∨ rg kb = 0) ∧ rg kb < (9218868437227405312 : Nat) ∧ V (rg kb) / 2 ^ 1074 ≤ n ∧ isN kb = false := by
  obtain ⟨r, e, s1, s2, s3, s4⟩ := near_facts hn
  rw [nm_some hq, zero_facts.1] at h0
  rw [nm_some hq, one_facts.1] at h1
  have k0 : ¬ key q < 0 := by rw [← zero_facts.2]; exact of_decide_eq_false h0
  have k1 : ¬ (4607182418800017408 : Int) < key q := by rw [← one_facts.2]; exact of_decide_eq_false h1
  have hsq : sgn q = false ∨ rg q = 0 := by
    unfold key at k0
    cases h : sgn q
    · exact .inl rfl
    · rw [h] at k0; simp only [if_true] at k0; right; omega
  have hrq : rg q ≤ 4607182418800017408 := by
    unfold key at k1
    rcases hsq with h | h
    · rw [h] at k1; simp only [Bool.false_eq_true, if_false] at k1; omega
    · omega
  obtain ⟨kb, hk, hle, hsk⟩ := mul_part (x := r) hrq (by rw [s2]; exact s3) s1 hsq
  rw [s2] at hle
  refine ⟨kb, ?_, hsk, by omega, ?_, isN_iff.2 (by omega)⟩
  · rw [near_nm hn, nm_some hq, e]; exact hk
  · have := V_le.2 hle
    rw [s4] at this
    exact Nat.le_of_lt_succ ((Nat.div_lt_iff_lt_mul (Nat.two_pow_pos _)).2 (Nat.lt_of_le_of_lt this (Nat.mul_lt_mul_of_pos_right (Nat.lt_succ_self n) (Nat.two_pow_pos _))))
theorem nm_eq {b c : Nat} (h : nm b = some c) : b = c := by
  rcases nm_cases b with ⟨_, e⟩ | ⟨_, e⟩
  · rw [e] at h; cases h
  · rw [e] at h; injection h
theorem same1 {p : Addr} {v : Value} (h : w.cell? p = some v) (k : Keep w w') : sameAt p 1 w w' := ⟨by rw [h, k.cell h], fun i hi => by
  obtain rfl : i = 0 := by omega
  rw [show p.add 0 = p by simp [Addr.add], h, k.cell h]⟩
theorem mix_ok {p1 p2 : Addr} {a b wq : Nat} {Z : Nat → World → Prop} (h1 : w.cell? p1 = some (.float .f64 a)) (h2 : w.cell? p2 = some (.float .f64 b)) (hZ : ∀ r w', Keep w w' → nm r = mixV (nm a) (nm b) (nm wq) → Z r w') :
    (G.fa .sub (4607182418800017408 : Nat) wq w fun f32 w33 => sameAt p1 1 w w33 ∧ sameAt p2 1 w w33 ∧ ((G.fa .mul a f32 w33 fun f34 w35 => sameAt p2 1 w w35 ∧ (G.fa .mul b wq w35 fun f36 w37 => G.fa .add f34 f36 w37 fun f38 w39 => Z f38 w39)) ∧ (G.fa .mul b wq w33 fun f42 w43 => sameAt p1 1 w w43 ∧ (G.fa .mul a f32 w43 fun f44 w45 => G.fa .add f44 f42 w45 fun f46 w47 => Z f46 w47)))) ∧
    (G.fa .mul b wq w fun f50 w51 => sameAt p1 1 w w51 ∧ (G.fa .sub (4607182418800017408 : Nat) wq w51 fun f52 w53 => sameAt p1 1 w w53 ∧ (G.fa .mul a f52 w53 fun f54 w55 => G.fa .add f54 f50 w55 fun f56 w57 => Z f56 w57))) := by
  have F : ∀ {op : BinOp} {x y : Nat} {w : World} {K : Nat → World → Prop}, (∀ r w', Keep w w' → nm r = fo op (nm x) (nm y) → K r w') → G.fa op x y w K := fun {op x y w K} hK => fa_T (ω := fun _ => 0) fun r w' k e => hK r w' k.keep e
  constructor
  · refine F fun v1 w1 k1 e1 => ⟨same1 h1 k1, same1 h2 k1, ?_, ?_⟩
    · refine F fun v2 w2 k2 e2 => ⟨same1 h2 (Keep.trans k1 k2), F fun v3 w3 k3 e3 => F fun v4 w4 k4 e4 => hZ v4 w4 (Keep.trans (Keep.trans k1 k2) (Keep.trans k3 k4)) ?_⟩
      rw [e4, e3, e2, e1]; rfl
    · refine F fun v2 w2 k2 e2 => ⟨same1 h1 (Keep.trans k1 k2), F fun v3 w3 k3 e3 => F fun v4 w4 k4 e4 => hZ v4 w4 (Keep.trans (Keep.trans k1 k2) (Keep.trans k3 k4)) ?_⟩
      rw [e4, e3, e2, e1]; rfl
  · refine F fun v1 w1 k1 e1 => ⟨same1 h1 k1, F fun v2 w2 k2 e2 => ⟨same1 h1 (Keep.trans k1 k2), F fun v3 w3 k3 e3 => F fun v4 w4 k4 e4 => hZ v4 w4 (Keep.trans (Keep.trans k1 k2) (Keep.trans k3 k4)) ?_⟩⟩
    rw [e4, e3, e2, e1]; rfl
theorem tiF : TI Try.prog 23 22 1 8 := TI.of (z := .float .f64 0) (by kernel_rfl) (by kernel_rfl) rfl (by decide)
theorem fl_one {l : LF} : ∀ v ∈ l.map fl, v.oneCell' = true := fun v hv => by obtain ⟨b, _, rfl⟩ := List.mem_map.1 hv; rfl
theorem rdF_n {s : Sl} {l : LF} (h : Rd w s 1 (l.map fl)) : s.n = l.length := by have := h.2.1; simp at this; omega
theorem rdF_at {s : Sl} {l : LF} (h : Rd w s 1 (l.map fl)) {i : Int} {k b : Nat} (ei : i = (k : Int)) (hx : l[k]? = some b) {K : Addr → Prop} (hK : ∀ a : Addr, w.cell? a = some (.float .f64 b) → K a) : G.ix s.a s.n i 1 K := by
  have hk : k < l.length := (List.getElem?_eq_some_iff.1 hx).1
  have hn := rdF_n h
  subst ei
  refine Rd.ix h (by decide) (by omega) (by omega) fun a hc => hK a ?_
  have := hc 0 (.float .f64 b) (by decide) (by rw [Int.toNat_natCast, Nat.mul_one, Nat.add_zero, List.getElem?_map, hx]; rfl)
  rwa [show a.add 0 = a by simp [Addr.add]] at this
theorem cloneF_ok {s : Sl} {l : LF} (h : Rd w s 1 (l.map fl)) (hm : l.length ≤ 100000000) {K : Sl → World → Prop} (hK : ∀ r w', Keep w w' → Mem.Own w' w.heap.size 22 1 r (l.map fl) → K r w') : C.slices_Clone_float64_float64 s w K := by
  have hsn := rdF_n h
  unfold C.slices_Clone_float64_float64
  exact clone_ok (P := Try.prog) tiF h fl_one (by simp only [maxLen]; omega) (by omega) fun r w' k o _ => hK r w' k o
theorem quantile_ok {q : Nat} {s : Sl} {l : LF} (h : Rd w0 s 1 (l.map fl)) (hl : l.length ≤ 100000000) (h64 : ∀ b ∈ l, b < 18446744073709551616) {K : Nat → World → Prop} (hK : ∀ w', Keep w0 w' → K (qV (nm q) (l.map nm)) w') : C.over_Quantile q s w0 K := by
  unfold C.over_Quantile C.math_NaN
  have hsn := rdF_n h
  have hnan : nm (9221120237041090561 : Int).toNat = none := by decide +kernel
  refine cond_eq (fun h0 => ?_) fun h0 => ?_
  · have e : qV (nm q) (l.map nm) = tb none := by
      unfold qV; rw [if_pos (.inl (by rw [List.eq_nil_of_length_eq_zero (l := l) (by omega)]; rfl))]
    rw [e] at hK
    exact frombits_ok (told_ok (by rw [hnan]; exact hK w0 (Keep.refl _)))
  have hne : l ≠ [] := fun e => h0 (by rw [hsn, e]; rfl)
  rw [fne_nm, veq_self]
  rcases nm_cases q with ⟨hq, eq⟩ | ⟨hq, eq⟩
  · have e : qV (nm q) (l.map nm) = tb none := by unfold qV; rw [if_pos (.inr eq)]
    rw [e] at hK
    exact cond_t (by rw [eq]; rfl) (frombits_ok (told_ok (by rw [hnan]; exact hK w0 (Keep.refl _))))
  refine cond_f (by rw [eq]; rfl) ?_
  have hq1 : ¬ (l.map nm = [] ∨ nm q = none) := fun hc => by
    rcases hc with hc | hc
    · exact hne (by simpa using hc)
    · rw [eq] at hc; cases hc
  rw [flt_nm]
  refine cond_of (fun hlt => ?_) (fun hlt => ?_)
  · have e : qV (nm q) (l.map nm) = 18442240474082181120 := by unfold qV; rw [if_neg hq1, if_pos hlt]
    rw [e] at hK
    unfold C.math_Inf
    exact cond_f (by decide) (frombits_ok (hK w0 (Keep.refl _)))
  rw [fgt_nm]
  refine cond_of (fun hgt => ?_) (fun hgt => ?_)
  · have e : qV (nm q) (l.map nm) = 9218868437227405312 := by unfold qV; rw [if_neg hq1, if_neg (by rw [hlt]; decide), if_pos hgt]
    rw [e] at hK
    unfold C.math_Inf
    exact cond_t (by decide) (frombits_ok (hK w0 (Keep.refl _)))
  have eQ : qV (nm q) (l.map nm) = tb (quantV (nm q) (l.map nm)) := by unfold qV; rw [if_neg hq1, if_neg (by rw [hlt]; decide), if_neg (by rw [hgt]; decide)]
  rw [eQ] at hK
  have hlen : 0 < l.length := List.length_pos_iff.2 hne
  refine cloneF_ok h hl fun r w1 k1 o1 => ?_
  have hrn := rdF_n (Own.rd o1)
  have ot := Own.tag o1 (Nat.le_refl _) (fun _ => 0) 2
  have top1 := (Top.init w0).stp (k1.stp (fun _ => 0) 2)
  refine sort_F ot hne (by omega) fun l' ω2 w2 p2 u2 k2 o2 => ?_
  have top2 := top1.stp k2
  have hll : l'.length = l.length := p2.length_eq
  have es : l'.map nm = srtF (l.map nm) := sorted_eq (p2.map nm) (val_nm h64) u2
  rw [wI64 (by omega) (by omega), show ((r.n : Nat) : Int) - 1 = ((l.length - 1 : Nat) : Int) by omega]
  obtain ⟨kb, ek, hsk, hrk, hpk, hnk⟩ := quant_pos (n := l.length - 1) hq hlt hgt (by omega)
  refine fa_T (ω := ω2) fun v3 w3 k3 e3 => ?_
  rw [ek] at e3
  obtain rfl := nm_eq e3
  have top3 := top2.stp k3
  unfold C.math_Floor C.math_archFloor
  refine floor_f2i hsk hrk rfl (by omega) fun f => ?_
  refine fa_T (ω := ω2) fun v4 w4 k4 e4 => ?_
  have top4 := (top3.stp k4).stp (drew_stp ω2 w4)
  have o4 := ((o2.stp k3).stp k4).stp (drew_stp ω2 w4)
  obtain ⟨i, hi⟩ : ∃ i, i = V (rg v3) / 2 ^ 1074 := ⟨_, rfl⟩
  rw [← hi] at hpk e4 ⊢
  have hi1 : l'[i]? = some (l'[i]'(by omega)) := List.getElem?_eq_getElem _
  have hj1 : l'[min (i + 1) (l.length - 1)]? = some (l'[min (i + 1) (l.length - 1)]'(by omega)) := List.getElem?_eq_getElem _
  refine rdF_at o4.rd (k := i) rfl hi1 fun p1 c1 => cF_at c1 ?_
  refine rdF_at o4.rd (k := min (i + 1) (l.length - 1)) ?_ hj1 fun p2 c2 => cF_at c2 ?_
  · rw [wI64 (by omega) (by omega)]; split <;> omega
  refine mix_ok c1 c2 fun v5 w5 k5 e5 => told_ok ?_
  have ev : nm v5 = quantV (nm q) (l.map nm) := by
    rw [e5, e4]
    unfold quantV
    simp only [List.length_map]
    rw [ek, ← es]
    have ep : posn (some v3) = i := hi.symm
    rw [ep]
    have g1 : (l'.map nm).getD i none = nm (l'[i]'(by omega)) := by rw [List.getD_eq_getElem?_getD, List.getElem?_map, hi1]; rfl
    have g2 : (l'.map nm).getD (min (i + 1) (l.length - 1)) none = nm (l'[min (i + 1) (l.length - 1)]'(by omega)) := by rw [List.getD_eq_getElem?_getD, List.getElem?_map, hj1]; rfl
    rw [g1, g2, e3]
  rw [ev]
  exact hK w5 (Keep.trans top4.k k5)

/-! ## The reference's -/
theorem rquantile_ok {q : Nat} {s : Sl} {l : LF} (h : Rd w0 s 1 (l.map fl)) (hl : l.length ≤ 100000000) (h64 : ∀ b ∈ l, b < 18446744073709551616) {K : Nat → World → Prop} (hK : ∀ w', Keep w0 w' → K (qV (nm q) (l.map nm)) w') : C.tocsinref17_Quantile q s w0 K := by
  unfold C.tocsinref17_Quantile C.tocsinref15_Quantile
  have hsn := rdF_n h
  refine cond_eq (fun h0 => ?_) fun h0 => ?_
  · have e : qV (nm q) (l.map nm) = tb none := by
      unfold qV; rw [if_pos (.inl (by rw [List.eq_nil_of_length_eq_zero (l := l) (by omega)]; rfl))]
    rw [e] at hK
    exact frombits_ok (hK w0 (Keep.refl _))
  have hne : l ≠ [] := fun e => h0 (by rw [hsn, e]; rfl)
  rw [fne_nm, veq_self]
  rcases nm_cases q with ⟨hq, eq⟩ | ⟨hq, eq⟩
  · have e : qV (nm q) (l.map nm) = tb none := by unfold qV; rw [if_pos (.inr eq)]
    rw [e] at hK
    exact cond_t (by rw [eq]; rfl) (frombits_ok (hK w0 (Keep.refl _)))
  refine cond_f (by rw [eq]; rfl) ?_
  have hq1 : ¬ (l.map nm = [] ∨ nm q = none) := fun hc => by
    rcases hc with hc | hc
    · exact hne (by simpa using hc)
    · rw [eq] at hc; cases hc
  rw [flt_nm]
  refine cond_of (fun hlt => ?_) (fun hlt => ?_)
  · have e : qV (nm q) (l.map nm) = 18442240474082181120 := by unfold qV; rw [if_neg hq1, if_pos hlt]
    rw [e] at hK
    unfold C.math_Inf
    exact cond_f (by decide) (frombits_ok (hK w0 (Keep.refl _)))
  rw [fgt_nm]
  refine cond_of (fun hgt => ?_) (fun hgt => ?_)
  · have e : qV (nm q) (l.map nm) = 9218868437227405312 := by unfold qV; rw [if_neg hq1, if_neg (by rw [hlt]; decide), if_pos hgt]
    rw [e] at hK
    unfold C.math_Inf
    exact cond_t (by decide) (frombits_ok (hK w0 (Keep.refl _)))
  have eQ : qV (nm q) (l.map nm) = tb (quantV (nm q) (l.map nm)) := by unfold qV; rw [if_neg hq1, if_neg (by rw [hlt]; decide), if_neg (by rw [hgt]; decide)]
  rw [eQ] at hK
  have hlen : 0 < l.length := List.length_pos_iff.2 hne
  unfold C.tocsinref15_Quantile.S24
  refine C.tocsinref15_Quantile.L6_ind fun X hX => ?_
  have key : ∀ (d i : Nat) (r : Sl) (A : LF) (w : World), i + d = l.length → Keep w0 w → Rd w r 1 (A.map fl) → A.Perm (l.take i) → Up (A.map nm) → X q s r (i : Int) w := by
    intro d
    induction d with
    | zero =>
      intro i r A w hi kw o pA uA
      refine hX _ _ _ _ _ ?_
      unfold C.tocsinref15_Quantile.S22 C.tocsinref15_Quantile.S3
      rw [List.take_of_length_le (by omega)] at pA
      have hA : A.length = l.length := pA.length_eq
      have hrn : r.n = l.length := by rw [rdF_n o, hA]
      have es : A.map nm = srtF (l.map nm) := sorted_eq (pA.map nm) (val_nm h64) uA
      refine cond_d (fun h => by omega) (fun _ => ?_)
      rw [wI64 (by omega) (by omega), show ((r.n : Nat) : Int) - 1 = ((l.length - 1 : Nat) : Int) by omega]
      obtain ⟨kb, ek, hsk, hrk, hpk, hnk⟩ := quant_pos (n := l.length - 1) hq hlt hgt (by omega)
      refine fa_T (ω := fun _ => 0) fun v3 w3 k3 e3 => ?_
      rw [ek] at e3
      obtain rfl := nm_eq e3
      refine f2i_at hsk hrk rfl (by omega) ?_
      obtain ⟨i, hi⟩ : ∃ i, i = V (rg v3) / 2 ^ 1074 := ⟨_, rfl⟩
      rw [← hi] at hpk ⊢
      rw [wI64 (by omega) (by omega)]
      have fin : ∀ j : Int, j = ((min (i + 1) (l.length - 1) : Nat) : Int) → C.tocsinref15_Quantile.S2 K r v3 (i : Int) j w3 := fun j ej => by
        subst ej
        unfold C.tocsinref15_Quantile.S2
        refine fa_T (ω := fun _ => 0) fun v4 w4 k4 e4 => ?_
        have k34 : Keep w w4.drew := Keep.trans (k3.trans k4).keep (Keep.drew w4)
        have o4 := o.keep k34
        have hi1 : A[i]? = some (A[i]'(by omega)) := List.getElem?_eq_getElem _
        have hj1 : A[min (i + 1) (l.length - 1)]? = some (A[min (i + 1) (l.length - 1)]'(by omega)) := List.getElem?_eq_getElem _
        refine rdF_at o4 (k := i) rfl hi1 fun p1 c1 => cF_at c1 ?_
        refine rdF_at o4 (k := min (i + 1) (l.length - 1)) rfl hj1 fun p2 c2 => cF_at c2 ?_
        refine mix_ok c1 c2 fun v5 w5 k5 e5 => rtold_ok ?_
        have ev : nm v5 = quantV (nm q) (l.map nm) := by
          rw [e5, e4]
          unfold quantV
          simp only [List.length_map]
          rw [ek, ← es]
          have ep : posn (some v3) = i := hi.symm
          rw [ep]
          have g1 : (A.map nm).getD i none = nm (A[i]'(by omega)) := by rw [List.getD_eq_getElem?_getD, List.getElem?_map, hi1]; rfl
          have g2 : (A.map nm).getD (min (i + 1) (l.length - 1)) none = nm (A[min (i + 1) (l.length - 1)]'(by omega)) := by rw [List.getD_eq_getElem?_getD, List.getElem?_map, hj1]; rfl
          rw [g1, g2, e3]
        rw [ev]
        exact hK w5 (Keep.trans (Keep.trans kw k34) k5)
      exact cond_d (fun h => fin _ (by omega)) (fun h => fin _ (by omega))
    | succ d ih =>
      intro i r A w hi kw o pA uA
      refine hX _ _ _ _ _ ?_
      unfold C.tocsinref15_Quantile.S22 C.tocsinref15_Quantile.S19
      have hil : i < l.length := by omega
      have hx : l[i]? = some l[i] := List.getElem?_eq_getElem hil
      have hA : A.length = i := by have := pA.length_eq; rw [List.length_take] at this; omega
      have hrn : r.n = i := by rw [rdF_n o, hA]
      refine cond_d (fun _ => ?_) (fun h => by omega)
      refine C.tocsinref15_Quantile.L14_ind fun Y hY => ?_
      have put : ∀ (k : Nat) (w : World), k ≤ i → Keep w0 w → Rd w r 1 (A.map fl) → (∀ b ∈ A.take k, akF (nm b) ≤ akF (nm l[i])) → (∀ b ∈ A.drop k, akF (nm l[i]) < akF (nm b)) → C.tocsinref15_Quantile.S11 K X q s r (i : Int) (k : Int) w := fun k w hk kw o hlo hhi => by
        unfold C.tocsinref15_Quantile.S11 C.tocsinref15_Quantile.S8
        refine Rd.slc o (lo := 0) (hi := k) (by omega) (by omega) rfl rfl fun r1 h1 hr1 _ => ?_
        have e1 : ((A.map fl).drop (0 * 1)).take ((k - 0) * 1) = (A.take k).map fl := by simp [List.map_take]
        rw [e1] at h1
        have top := Top.init w
        refine app_T (ω := fun _ => 0) (t := 3) tiF (OT.nil ..) h1 fl_one (by simp only [maxLen]; show 0 + r1.n ≤ _; omega) (by show (0 + r1.n) * 8 ≤ _; omega) fun r2 ω2 w2 k2 o2 hr2 => ?_
        have top2 := top.stp k2
        rw [List.nil_append] at o2
        refine rdF_at ((h.keep kw).keep top2.k) (k := i) rfl hx fun p c => cF_at c ?_
        have h02 : r2.n = 0 + r1.n := hr2
        refine push_T (n := 1) tiF o2 rfl (by intro v hv; simp at hv; subst hv; rfl) (by simp only [maxLen]; omega) (by omega) fun r3 ω3 w3 k3 o3 hr3 => ?_
        have top3 := top2.stp k3
        refine Rd.slc (o.keep top3.k) (lo := k) (hi := r.n) (by omega) (Nat.le_refl _) rfl rfl fun r4 h4 hr4 _ => ?_
        have e4 : ((A.map fl).drop (k * 1)).take ((r.n - k) * 1) = (A.drop k).map fl := by
          rw [Nat.mul_one, Nat.mul_one, List.map_drop, List.take_of_length_le (by simp; omega)]
        rw [e4] at h4
        refine app_T (ω := ω3) (t := 3) tiF o3 h4 fl_one (by simp only [maxLen]; omega) (by omega) fun r5 ω5 w5 k5 o5 hr5 => ?_
        have top5 := top3.stp k5
        rw [wI64 (by omega) (by omega), show (i : Int) + 1 = ((i + 1 : Nat) : Int) by omega]
        have eo : (A.take k).map fl ++ [fl l[i]] ++ (A.drop k).map fl = (A.take k ++ l[i] :: A.drop k).map fl := by simp
        have pe : (A.take k ++ l[i] :: A.drop k).Perm (l.take (i + 1)) := by
          rw [List.take_succ_eq_append_getElem hil]
          refine List.perm_middle.trans ?_
          rw [List.take_append_drop]
          exact (pA.cons _).trans (List.perm_append_singleton _ _).symm
        have ue : Up ((A.take k ++ l[i] :: A.drop k).map nm) := by
          rw [Up, List.pairwise_map, List.pairwise_append]
          rw [Up, List.pairwise_map] at uA
          rw [← List.take_append_drop k A, List.pairwise_append] at uA
          refine ⟨uA.1, List.pairwise_cons.2 ⟨fun b hb => by have := hhi b hb; omega, uA.2.1⟩, fun a ha b hb => ?_⟩
          rcases List.mem_cons.1 hb with rfl | hb
          · exact hlo a ha
          · exact uA.2.2 a ha b hb
        refine ih (i + 1) r5 (A.take k ++ l[i] :: A.drop k) w5 (by omega) (Keep.trans kw top5.k) ?_ pe ue
        rw [← eo]; exact o5.rd
      have walk : ∀ (k : Nat) (w : World), k ≤ i → Keep w0 w → Rd w r 1 (A.map fl) → (∀ b ∈ A.drop k, akF (nm l[i]) < akF (nm b)) → Y q s r (i : Int) (k : Int) w := by
        intro k
        induction k with
        | zero =>
          intro w hk kw o hhi
          refine hY _ _ _ _ _ _ ?_
          unfold C.tocsinref15_Quantile.S16
          exact cond_d (fun h => by omega) (fun _ => put 0 w.drew hk (Keep.trans kw (Keep.drew w)) (o.keep (Keep.drew w)) (by simp) hhi)
        | succ k ihk =>
          intro w hk kw o hhi
          refine hY _ _ _ _ _ _ ?_
          unfold C.tocsinref15_Quantile.S16
          have kd : Keep w w.drew := Keep.drew w
          have kwd := Keep.trans kw kd
          have od := o.keep kd
          have hkA : k < A.length := by omega
          refine cond_d (fun _ => ?_) (fun h => by omega)
          refine rdF_at (h.keep kwd) (k := i) rfl hx fun p c => cF_at c ?_
          rw [wI64 (by omega) (by omega), show ((k + 1 : Nat) : Int) - 1 = ((k : Nat) : Int) by omega]
          refine rdF_at od (k := k) rfl (List.getElem?_eq_getElem hkA) fun p c => cF_at c ?_
          refine rahead_ok (cond_d (fun hlt => ?_) (fun hge => ?_))
          · refine ihk w.drew (by omega) kwd od fun b hb => ?_
            rw [List.drop_eq_getElem_cons hkA] at hb
            rcases List.mem_cons.1 hb with rfl | hb
            · exact hlt
            · exact hhi b hb
          · refine put (k + 1) w.drew hk kwd od (fun b hb => ?_) hhi
            rw [List.take_succ_eq_append_getElem hkA] at hb
            rcases List.mem_append.1 hb with hb | hb
            · have uA' := uA
              rw [Up, List.pairwise_map] at uA'
              rw [← List.take_append_drop k A, List.drop_eq_getElem_cons hkA, List.pairwise_append] at uA'
              have := uA'.2.2 b hb _ (List.mem_cons_self ..)
              omega
            · rw [List.mem_singleton.1 hb]; omega
      rw [hrn]
      exact walk i w (Nat.le_refl _) kw o (by rw [List.drop_of_length_le (by omega)]; simp)
  exact key l.length 0 nilS [] w0 (by omega) (Keep.refl _) (Rd.nil _ _) (List.Perm.refl _) List.Pairwise.nil
end Go.Proofs.Ytaciaidehamfgaa.Ov
