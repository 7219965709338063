/- Layer 17 (over): quantiles, in any order. Own work. -/
import Derived.Test.YtaciaidehamfgaaOvK
namespace Go.Proofs.Ytaciaidehamfgaa.Ov
open Go Vm Go.RowKit Num Mem Fl Sm
variable {ω ω' : Tg} {w w' w0 : World} {T : Nat → Bool} {t u g : Nat}
set_option exponentiation.threshold 3000

/-! ## Plain -/
theorem srtF_eq {a b : List FV} (p : a.Perm b) (hv : Val a) : srtF a = srtF b :=
  up_uniq ((srtF_perm a).trans (p.trans (srtF_perm b).symm)) (fun x hx => hv x ((srtF_perm a).mem_iff.1 hx)) (srtF_up a) (srtF_up b)
theorem qV_perm {a b : List FV} (q : FV) (p : a.Perm b) (hv : Val a) : qV q a = qV q b := by
  have e : (a = []) = (b = []) := propext ⟨fun h => by subst h; exact List.nil_perm.1 p, fun h => by subst h; exact List.perm_nil.1 p⟩
  have eq : quantV q a = quantV q b := by unfold quantV; rw [srtF_eq p hv, p.length_eq]
  unfold qV
  by_cases h : a = [] ∨ q = none
  · rw [if_pos h, if_pos (show b = [] ∨ q = none by rwa [e] at h)]
  · rw [if_neg h, if_neg (show ¬ (b = [] ∨ q = none) by rwa [e] at h), eq]
theorem ak_key {a b : Nat} (h : akF (some a) ≤ akF (some b)) : key a ≤ key b := by
  rw [ak_some, ak_some] at h
  unfold key
  cases h1 : sgn a <;> cases h2 : sgn b <;> rw [h1, h2] at h <;> simp only [Bool.false_eq_true, if_false, if_true] at h ⊢ <;> omega
/-- A mixture that takes all of the one, nothing of the other. -/
theorem mix_zero {x y : Nat} (hx : rg x < 9218868437227405312) (hy : rg y < 9218868437227405312) (h64 : x < 18446744073709551616) : ∃ k, mixV (some x) (some y) (some 0) = some k ∧ key k = key x ∧ isN k = false := by
  have e1 : fo .sub (nm 4607182418800017408) (some 0) = some 4607182418800017408 := by decide +kernel
  have e2 : fo .mul (some x) (some 4607182418800017408) = some x := mul_one_f hx h64
  obtain ⟨z, ez, hz, _⟩ := mul_zero_f (z := 0) hy rfl
  have e3 : fo .mul (some y) (some 0) = some z := ez
  obtain ⟨k, ek, hk⟩ := add_zero_f hx hz
  refine ⟨k, ?_, hk, (bits_nan ek).2.2⟩
  unfold mixV
  rw [e1, e2, e3]; exact ek
theorem dec_zero {k : Nat} (h : rg k = 0) (hs : sgn k = false) : FloatKind.f64.decode k = FloatKind.f64.decode 0 := by
  rw [dec_eq, dec_eq, h, hs]; rfl
theorem quant_zero {L : List FV} (h : L.length < 9007199254740992) : quantV (nm 0) L = mixV ((srtF L).getD 0 none) ((srtF L).getD (min 1 (L.length - 1)) none) (some 0) := by
  obtain ⟨r, er, h1, h2, h3, h4⟩ := near_facts (n := L.length - 1) (by omega)
  obtain ⟨k, ek, hk, hs⟩ := zero_mul_f (a := r) (z := 0) (by rw [h2]; exact h3) rfl
  have nr : nm r = some r := by rw [← er]; exact near_nm (by omega)
  have e1 : fo .mul (nm 0) (nm (FloatKind.f64.nearest ((L.length - 1 : Nat) : Int))) = some k := by rw [er, nr, zero_facts.1]; exact ek
  rw [h1] at hs
  have hs : sgn k = false := hs
  have ep : posn (some k) = 0 := by show V (rg k) / 2 ^ 1074 = 0; rw [hk, V_zero, Nat.zero_div]
  have e2 : fo .sub (some k) (nm (FloatKind.f64.nearest ((0 : Nat) : Int))) = some 0 := by
    have e3 : nm (FloatKind.f64.nearest ((0 : Nat) : Int)) = some 0 := by decide +kernel
    rw [e3]
    show ((FloatKind.f64.decode k).sum (FloatKind.f64.decode 0).opposite).map Ieee.double.write = some 0
    rw [dec_zero hk hs]
    decide +kernel
  unfold quantV
  simp only
  rw [e1, ep, e2]
theorem quant_one {L : List FV} (h : L.length < 9007199254740992) : quantV (nm 4607182418800017408) L = mixV ((srtF L).getD (L.length - 1) none) ((srtF L).getD (min (L.length - 1 + 1) (L.length - 1)) none) (some 0) := by
  obtain ⟨r, er, h1, h2, h3, h4⟩ := near_facts (n := L.length - 1) (by omega)
  have nr : nm r = some r := by rw [← er]; exact near_nm (by omega)
  have e1 : fo .mul (nm 4607182418800017408) (nm (FloatKind.f64.nearest ((L.length - 1 : Nat) : Int))) = some r := by rw [er, nr, one_facts.1]; exact one_mul_f (by rw [h2]; exact h3) (by omega)
  have ep : posn (some r) = L.length - 1 := by show V (rg r) / 2 ^ 1074 = _; rw [h2, h4]; exact Nat.mul_div_cancel _ (Nat.two_pow_pos _)
  have e2 : fo .sub (some r) (nm (FloatKind.f64.nearest ((L.length - 1 : Nat) : Int))) = some 0 := by rw [er, nr]; exact sub_self_f (by rw [h2]; exact h3)
  unfold quantV
  simp only
  rw [e1, ep, e2]
def Fin (l : LF) : Prop := ∀ x ∈ l, isN x = false ∧ rg x < 9218868437227405312
/-- The sorted values: each is one of the values. -/
theorem srt_at {l : LF} (hf : Fin l) {i : Nat} (hi : i < l.length) : ∃ x ∈ l, (srtF (l.map nm)).getD i none = some x ∧ (srtF (l.map nm))[i]? = some (some x) := by
  have hlen : (srtF (l.map nm)).length = l.length := by rw [(srtF_perm _).length_eq, List.length_map]
  have hi' : i < (srtF (l.map nm)).length := by omega
  have hm := (srtF_perm (l.map nm)).mem_iff.1 (List.getElem_mem hi')
  obtain ⟨x, hx, ex⟩ := List.mem_map.1 hm
  rw [nm_some (hf x hx).1] at ex
  exact ⟨x, hx, by rw [List.getD_eq_getElem?_getD, List.getElem?_eq_getElem hi', ← ex]; rfl, by rw [List.getElem?_eq_getElem hi', ex]⟩
theorem srt_le {l : LF} (hf : Fin l) {i j x y : Nat} (hij : i ≤ j) (hx : (srtF (l.map nm))[i]? = some (some x)) (hy : (srtF (l.map nm))[j]? = some (some y)) : key x ≤ key y := by
  by_cases e : i = j
  · subst e; rw [hx] at hy; injection hy with hy; injection hy with hy; rw [hy]; exact Int.le_refl _
  · obtain ⟨h1, e1⟩ := List.getElem?_eq_some_iff.1 hx
    obtain ⟨h2, e2⟩ := List.getElem?_eq_some_iff.1 hy
    have := List.pairwise_iff_getElem.1 (srtF_up (l.map nm)) i j h1 h2 (by omega)
    rw [e1, e2] at this
    exact ak_key this
theorem srt_find {l : LF} (hf : Fin l) {x : Nat} (hx : x ∈ l) : ∃ i, i < l.length ∧ (srtF (l.map nm))[i]? = some (some x) := by
  have hm : some x ∈ srtF (l.map nm) := (srtF_perm (l.map nm)).mem_iff.2 (List.mem_map.2 ⟨x, hx, nm_some (hf x hx).1⟩)
  obtain ⟨i, hi, e⟩ := List.mem_iff_getElem.1 hm
  have hlen : (srtF (l.map nm)).length = l.length := by rw [(srtF_perm _).length_eq, List.length_map]
  exact ⟨i, by omega, by rw [List.getElem?_eq_getElem hi, e]⟩
theorem least_q {l : LF} {m : Nat} (hf : Fin l) (hl : l.length ≤ 100000000) (h64 : ∀ x ∈ l, x < 18446744073709551616) (hm : m ∈ l) (hle : ∀ x ∈ l, key m ≤ key x) : G.feq (qV (nm 0) (l.map nm)) m = true := by
  have hpos : 0 < l.length := List.length_pos_iff.2 (fun e => by rw [e] at hm; cases hm)
  have e0 : qV (nm 0) (l.map nm) = tb (quantV (nm 0) (l.map nm)) := by
    unfold qV
    rw [if_neg (by rw [zero_facts.1]; simp; exact List.length_pos_iff.1 hpos), if_neg (by decide +kernel), if_neg (by decide +kernel)]
  obtain ⟨x, hx, ex, ex'⟩ := srt_at hf (i := 0) hpos
  obtain ⟨y, hy, ey, _⟩ := srt_at hf (i := min 1 ((l.map nm).length - 1)) (by rw [List.length_map]; omega)
  rw [e0, quant_zero (by rw [List.length_map]; omega), ex, ey]
  obtain ⟨k, ek, hk, nk⟩ := mix_zero (hf x hx).2 (hf y hy).2 (h64 x hx)
  rw [ek, feq_nm]
  show veq (nm k) (nm m) = true
  rw [nm_some nk, nm_some (hf m hm).1]
  obtain ⟨i, _, hi⟩ := srt_find hf hm
  have h1 := srt_le hf (Nat.zero_le i) ex' hi
  have h2 := hle x hx
  exact decide_eq_true (by omega)
theorem most_q {l : LF} {m : Nat} (hf : Fin l) (hl : l.length ≤ 100000000) (h64 : ∀ x ∈ l, x < 18446744073709551616) (hm : m ∈ l) (hle : ∀ x ∈ l, key x ≤ key m) : G.feq (qV (nm 4607182418800017408) (l.map nm)) m = true := by
  have hpos : 0 < l.length := List.length_pos_iff.2 (fun e => by rw [e] at hm; cases hm)
  have e0 : qV (nm 4607182418800017408) (l.map nm) = tb (quantV (nm 4607182418800017408) (l.map nm)) := by
    unfold qV
    rw [if_neg (by rw [one_facts.1]; simp; exact List.length_pos_iff.1 hpos), if_neg (by decide +kernel), if_neg (by decide +kernel)]
  obtain ⟨x, hx, ex, ex'⟩ := srt_at hf (i := l.length - 1) (by omega)
  have emin : min (l.length - 1 + 1) (l.length - 1) = l.length - 1 := by omega
  rw [e0, quant_one (by rw [List.length_map]; omega), List.length_map, emin, ex]
  obtain ⟨k, ek, hk, nk⟩ := mix_zero (hf x hx).2 (hf x hx).2 (h64 x hx)
  rw [ek, feq_nm]
  show veq (nm k) (nm m) = true
  rw [nm_some nk, nm_some (hf m hm).1]
  obtain ⟨i, hil, hi⟩ := srt_find hf hm
  have h1 := srt_le hf (show i ≤ l.length - 1 by omega) hi ex'
  have h2 := hle x hx
  exact decide_eq_true (by omega)
theorem sub_bad {a : Nat} (h : ¬ (isN a = false ∧ rg a < 9218868437227405312)) : fo .sub (nm a) (nm a) = none := by
  rcases nm_cases a with ⟨_, e⟩ | ⟨hn, e⟩
  · rw [e]; rfl
  · rw [e]
    have := isN_iff.1 hn
    exact sub_inf (by
      by_cases h' : rg a < 9218868437227405312
      · exact absurd ⟨hn, h'⟩ h
      · omega)

/-! ## The law -/
theorem quants_loop {s : Sl} {l : LF} (hs : Rd w0 s 1 (l.map fl)) (hl : l.length ≤ 20000000) (h64 : ∀ x ∈ l, x < 18446744073709551616) (h0 : 0 < l.length)
    {K : Bool → World → Prop} (hK : ∀ w', Keep w0 w' → K true w') : C.tocsinlaw17_OverQuantiles.S9 K s l[0] l[0] w0 := by
  unfold C.tocsinlaw17_OverQuantiles.S9
  have hsn := rdF_n hs
  refine C.tocsinlaw17_OverQuantiles.L5_ind fun X hX => ?_
  have key' : ∀ (d i : Nat) (least most : Nat) (w : World), i + d = l.length → Keep w0 w → (∀ (j : Nat) (h : j < i) (h' : j < l.length), isN l[j] = false ∧ rg l[j] < 9218868437227405312) → least ∈ l → most ∈ l →
      (∀ (j : Nat) (h : j < i) (h' : j < l.length), key least ≤ key l[j] ∧ key l[j] ≤ key most) → (i = 0 → least = l[0] ∧ most = l[0]) → (0 < i → isN least = false ∧ isN most = false) → X s least most (i : Int) w := by
    intro d
    induction d with
    | zero =>
      intro i least most w hi k h3 hle hmo h4 _ _
      refine hX _ _ _ _ _ ?_
      unfold C.tocsinlaw17_OverQuantiles.S7 C.tocsinlaw17_OverQuantiles.S2
      have hf : Fin l := fun x hx => by obtain ⟨j, hj, rfl⟩ := List.mem_iff_getElem.1 hx; exact h3 j (by omega) hj
      refine cond_d (fun h => by omega) (fun _ => ?_)
      refine quantile_ok (hs.keep k) (by omega) h64 fun w1 k1 => cond_t (least_q hf (by omega) h64 hle fun x hx => ?_) ?_
      · obtain ⟨j, hj, rfl⟩ := List.mem_iff_getElem.1 hx; exact (h4 j (by omega) hj).1
      refine quantile_ok (hs.keep (Keep.trans k k1)) (by omega) h64 fun w2 k2 => cond_t (most_q hf (by omega) h64 hmo fun x hx => ?_) ?_
      · obtain ⟨j, hj, rfl⟩ := List.mem_iff_getElem.1 hx; exact (h4 j (by omega) hj).2
      exact known_ok fun w3 k3 => hK w3 (Keep.trans (Keep.trans (Keep.trans k k1) k2) k3)
    | succ d ih =>
      intro i least most w hi k h3 hle hmo h4 h5 h6
      refine hX _ _ _ _ _ ?_
      unfold C.tocsinlaw17_OverQuantiles.S7
      have him : i < l.length := by omega
      have hx : l[i]? = some l[i] := List.getElem?_eq_getElem him
      refine cond_d (fun _ => ?_) (fun h => by omega)
      refine rdF_at (hs.keep k) (k := i) rfl hx fun p f1 => cF_at f1 ?_
      refine rdF_at (hs.keep k) (k := i) rfl hx fun p f1 => cF_at f1 ?_
      refine fa_T (ω := fun _ => 0) fun r w1 k1 e1 => ?_
      have kk : Keep w0 w1 := Keep.trans (Keep.trans k (Keep.drew w)) k1.keep
      rw [fne_nm, e1]
      by_cases hfin : isN l[i] = false ∧ rg l[i] < 9218868437227405312
      · have e2 : fo .sub (nm l[i]) (nm l[i]) = some 0 := by rw [nm_some hfin.1]; exact sub_self_f hfin.2
        rw [e2, zero_facts.1]
        refine cond_f (by decide +kernel) ?_
        have hmem : l[i] ∈ l := List.getElem_mem him
        have nle : isN least = false ∧ isN most = false := by
          by_cases h0 : i = 0
          · obtain ⟨e3, e4⟩ := h5 h0
            subst h0
            rw [e3, e4]; exact ⟨hfin.1, hfin.1⟩
          · exact h6 (by omega)
        have hflt : G.flt l[i] least = decide (key l[i] < key least) := by rw [flt_nm, nm_some hfin.1, nm_some nle.1]; rfl
        have hfgt : G.fgt l[i] most = decide (key most < key l[i]) := by rw [fgt_nm, nm_some hfin.1, nm_some nle.2]; rfl
        have next : ∀ least' most' : Nat, least' ∈ l → most' ∈ l → isN least' = false → isN most' = false → key least' ≤ key l[i] → key l[i] ≤ key most' → key least' ≤ key least → key most ≤ key most' → X s least' most' (IntKind.i64.wrap ((i : Int) + 1)) w1 := by
          intro least' most' m1 m2 n1 n2 g1 g2 g3 g4
          rw [wI64 (by omega) (by omega), show (i : Int) + 1 = ((i + 1 : Nat) : Int) by omega]
          refine ih (i + 1) least' most' w1 (by omega) kk (fun j h h' => ?_) m1 m2 (fun j h h' => ?_) (fun h => by omega) (fun _ => ⟨n1, n2⟩)
          · by_cases e : j = i
            · subst e; exact hfin
            · exact h3 j (by omega) h'
          · by_cases e : j = i
            · subst e; exact ⟨g1, g2⟩
            · have := h4 j (by omega) h'
              omega
        refine rdF_at (hs.keep kk) (k := i) rfl hx fun p f1 => cF_at f1 ?_
        rw [hflt]
        refine cond_d (fun h1 => ?_) (fun h1 => ?_)
        · refine rdF_at (hs.keep kk) (k := i) rfl hx fun p f1 => cF_at f1 <| rdF_at (hs.keep kk) (k := i) rfl hx fun p f1 => cF_at f1 ?_
          rw [hfgt]
          refine cond_d (fun h2 => ?_) (fun h2 => ?_)
          · exact rdF_at (hs.keep kk) (k := i) rfl hx fun p f1 => cF_at f1 <| next _ _ hmem hmem hfin.1 hfin.1 (Int.le_refl _) (Int.le_refl _) (by omega) (by omega)
          · exact next _ _ hmem hmo hfin.1 nle.2 (Int.le_refl _) (by omega) (by omega) (by omega)
        · refine rdF_at (hs.keep kk) (k := i) rfl hx fun p f1 => cF_at f1 ?_
          rw [hfgt]
          refine cond_d (fun h2 => ?_) (fun h2 => ?_)
          · exact rdF_at (hs.keep kk) (k := i) rfl hx fun p f1 => cF_at f1 <| next _ _ hle hmem nle.1 hfin.1 (by omega) (Int.le_refl _) (by omega) (by omega)
          · exact next _ _ hle hmo nle.1 nle.2 (by omega) (by omega) (by omega) (by omega)
      · rw [sub_bad hfin]
        exact cond_t rfl (known_ok fun w2 k2 => hK w2 (Keep.trans kk k2))
  exact key' l.length 0 _ _ w0 (by omega) (Keep.refl w0) (fun j h => by omega) (List.getElem_mem _) (List.getElem_mem _) (fun j h => by omega) (fun _ => ⟨rfl, rfl⟩) (fun h => by omega)
theorem quants_law {q : Nat} {s : Sl} {l : LF} (hs : Rd w0 s 1 (l.map fl)) (hl : l.length ≤ 20000000) (h64 : ∀ x ∈ l, x < 18446744073709551616)
    {K : Bool → World → Prop} (hK : ∀ w', Keep w0 w' → K true w') : C.tocsinlaw17_OverQuantiles q s w0 K := by
  unfold C.tocsinlaw17_OverQuantiles
  have hsn := rdF_n hs
  refine app_T (P := Try.prog) (ω := fun _ => 0) tiF (OT.nil _ _ 4 _ _) hs fl_one (by simp only [maxLen]; omega) (by simp only [Nat.zero_add]; omega) fun own ω1 w1 k1 o1 hon => ?_
  have top1 := (Top.init w0).stp k1
  rw [List.nil_append] at o1
  refine quantile_ok o1.rd (by omega) h64 fun w2 k2 => ?_
  have k02 := Keep.trans top1.k k2
  refine rquantile_ok (hs.keep k02) (by omega) h64 fun w3 k3 => bits17_ok <| cond_f (by rw [decide_eq_true rfl]; rfl) ?_
  have k03 := Keep.trans k02 k3
  have top3 : Top w0 ω1 w3 := ⟨k03, top1.z⟩
  have r3 : Rd w3 own 1 (l.map fl) := o1.rd.keep (Keep.trans k2 k3)
  unfold C.tocsinlaw17_OverQuantiles.S18
  refine C.tocsinlaw17_OverQuantiles.L14_ind fun X hX => ?_
  have key' : ∀ (i : Nat) (back : Sl) (ω : Tg) (w : World), i ≤ l.length → Top w3 ω w → OT ω w 5 22 1 back (((l.drop i).reverse).map fl) → X q s own (qV (nm q) (l.map nm)) back ((i : Int) - 1) w := by
    intro i
    induction i with
    | zero =>
      intro back ω w _ top o
      refine hX _ _ _ _ _ _ _ ?_
      unfold C.tocsinlaw17_OverQuantiles.S16 C.tocsinlaw17_OverQuantiles.S11
      rw [List.drop_zero] at o
      have k := Keep.trans k03 top.k
      refine cond_d (fun h => by omega) (fun _ => ?_)
      refine quantile_ok o.rd (by rw [List.length_reverse]; omega) (fun b hb => h64 b (List.mem_reverse.1 hb)) fun w4 k4 => bits17_ok ?_
      have e : qV (nm q) (l.reverse.map nm) = qV (nm q) (l.map nm) := qV_perm _ ((List.reverse_perm l).map nm) (val_nm fun b hb => h64 b (List.mem_reverse.1 hb))
      rw [e]
      refine cond_f (by rw [decide_eq_true rfl]; rfl) ?_
      have k04 := Keep.trans k k4
      refine cond_eq (fun _ => known_ok fun w5 k5 => hK w5 (Keep.trans k04 k5)) (fun hne => ?_)
      have h0 : 0 < l.length := by omega
      refine rdF_at (hs.keep k04) (k := 0) rfl (List.getElem?_eq_getElem h0) fun p f1 => cF_at f1 ?_
      refine rdF_at (hs.keep k04) (k := 0) rfl (List.getElem?_eq_getElem h0) fun p f1 => cF_at f1 ?_
      exact quants_loop (hs.keep k04) hl h64 h0 fun w5 k5 => hK w5 (Keep.trans k04 k5)
    | succ i ih =>
      intro back ω w hi top o
      refine hX _ _ _ _ _ _ _ ?_
      unfold C.tocsinlaw17_OverQuantiles.S16
      have him : i < l.length := by omega
      have hx : l[i]? = some l[i] := List.getElem?_eq_getElem him
      have sd := drew_stp ω w
      have topd := top.stp sd
      have od := o.stp sd
      have kd := Keep.trans k03 topd.k
      rw [show ((i + 1 : Nat) : Int) - 1 = (i : Int) by omega]
      refine cond_d (fun _ => ?_) (fun h => by omega)
      refine rdF_at (r3.keep topd.k) (k := i) rfl hx fun p f1 => cF_at f1 ?_
      refine rdF_at (hs.keep kd) (k := i) rfl hx fun p f1 => cF_at f1 <| bits17_ok <| cond_f (by rw [decide_eq_true rfl]; rfl) ?_
      refine rdF_at (hs.keep kd) (k := i) rfl hx fun p f1 => cF_at f1 ?_
      have hbn := rdF_n od.rd
      rw [List.length_reverse, List.length_drop] at hbn
      refine push_T (P := Try.prog) tiF od (n := 1) rfl (by intro v hv; simp at hv; subst hv; rfl) (by simp only [maxLen]; omega) (by omega) fun r ω4 w4 k4 o4 _ => ?_
      rw [wI64 (by omega) (by omega)]
      refine ih r ω4 w4 (by omega) (topd.stp k4) ?_
      rw [List.drop_eq_getElem_cons him, List.reverse_cons, fl_app]
      exact o4
  have e : IntKind.i64.wrap (((s.n : Nat) : Int) - 1) = ((l.length : Nat) : Int) - 1 := by rw [wI64 (by omega) (by omega)]; omega
  rw [e]
  exact key' l.length nilS (fun _ => 0) w3 (Nat.le_refl _) (Top.init w3) (by rw [List.drop_length]; exact OT.nil _ _ _ _ _)
end Go.Proofs.Ytaciaidehamfgaa.Ov
