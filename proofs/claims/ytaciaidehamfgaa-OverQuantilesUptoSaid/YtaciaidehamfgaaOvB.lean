/- Layer 17 (over): slopes. Own work. -/
import Derived.Test.YtaciaidehamfgaaOvA
namespace Go.Proofs.Ytaciaidehamfgaa.Ov
open Go Vm Go.RowKit Num Mem Fl Sm
variable {ω ω' : Tg} {w w' w0 : World} {T : Nat → Bool} {t u g : Nat}

def addV : List Smp → FV → FV
  | x :: y :: l, r => addV (y :: l) (if vlt (nm y.2) (nm x.2) then fo .add r (nm x.2) else r)
  | _, r => r
theorem add_take : ∀ (m : List Smp) (r : FV) (i : Nat) (h : i + 1 < m.length), addV (m.take (i + 2)) r = if vlt (nm m[i + 1].2) (nm m[i].2) then fo .add (addV (m.take (i + 1)) r) (nm m[i].2) else addV (m.take (i + 1)) r
  | x :: y :: l, r, 0, _ => by simp [addV]
  | x :: y :: l, r, i + 1, h => by
    have ih := add_take (y :: l) (if vlt (nm y.2) (nm x.2) then fo .add r (nm x.2) else r) i (by simp at h ⊢; omega)
    simp only [List.take_succ_cons] at ih ⊢
    rw [addV, ih]
    simp only [List.getElem_cons_succ]
    rw [addV]
  | [_], _, i, h => by simp at h
  | [], _, i, h => by simp at h
def stepV (a x e y : FV) : FV := if vlt e x then fo .add y e else fo .add y (fo .quo a (nm 4611686018427387904))
def finV (rate : Bool) (r long y : FV) (fr to : Int) : FV := fo .mul r (if rate then fo .quo (fo .quo y long) (sec (IntKind.i64.wrap (to - fr))) else fo .quo y long)
def slopeV (counter rate : Bool) (m : List Smp) (fr to : Int) : FV :=
  match m.head?, m.getLast? with
  | some x0, some xl =>
    let r := if counter then addV m (fo .sub (nm xl.2) (nm x0.2)) else fo .sub (nm xl.2) (nm x0.2)
    let s := sec (IntKind.i64.wrap (x0.1 - fr))
    let e := sec (IntKind.i64.wrap (to - xl.1))
    let long := sec (IntKind.i64.wrap (xl.1 - x0.1))
    let a := fo .quo long (nm (FloatKind.f64.nearest (IntKind.i64.wrap ((m.length : Int) - 1))))
    let x := fo .mul a (nm 4607632778762754458)
    let z := fo .mul long (fo .quo (nm x0.2) r)
    let s' := if counter && (vlt (nm 0) r && ((vlt (nm 0) (nm x0.2) || veq (nm x0.2) (nm 0)) && vlt z s)) then z else s
    finV rate r long (stepV a x e (stepV a x s' long)) fr to
  | _, _ => none
abbrev WB (ω : Tg) (w : World) (g : Nat) (s : Sl) (fr to : Int) : Prop := BT ω w 1 g 52 [s.v, .int .i64 fr, .int .i64 to]
abbrev SB (ω : Tg) (w : World) (t g : Nat) (x : Smp) : Prop := BT ω w t g 33 [.int .i64 x.1, .float .f64 x.2]
theorem fin_ok {s : Sl} {fr to : Int} (rate : Bool) {r long y : Nat} (b : WB ω w g s fr to) {K : Nat → World → Prop} (hK : ∀ q w', Keep w w' → nm q = finV rate (nm r) (nm long) (nm y) fr to → K q w') :
    C.over_window_slope.S2 K rate (some ⟨g, 0, none⟩) r long y w := by
  unfold C.over_window_slope.S2
  refine fa_T (ω := ω) fun v1 w1 k1 e1 => ?_
  have b1 := b.stp k1
  cases rate
  · refine cond_f rfl <| fa_T (ω := ω) fun v2 w2 k2 e2 => hK v2 w2 ((k1.trans k2).keep) ?_
    rw [e2, e1]; rfl
  · refine cond_t rfl <| ptr_at <| cI_at (n := to) (by rw [addr_add, b1.cell]; rfl) <| ptr_at <| cI_at (n := fr) (by rw [addr_add, b1.cell]; rfl) ?_
    refine sec_ok (ω := ω) fun v2 w2 k2 e2 => fa_T (ω := ω) fun v3 w3 k3 e3 => fa_T (ω := ω) fun v4 w4 k4 e4 => hK v4 w4 (((k1.trans k2).trans (k3.trans k4)).keep) ?_
    rw [e4, e3, e2, e1]; rfl
theorem two_ok {s : Sl} {fr to : Int} (rate : Bool) {r e long a x y : Nat} (b : WB ω w g s fr to) {K : Nat → World → Prop} (hK : ∀ q w', Keep w w' → nm q = finV rate (nm r) (nm long) (stepV (nm a) (nm x) (nm e) (nm y)) fr to → K q w') :
    C.over_window_slope.S3 K rate (some ⟨g, 0, none⟩) r e long a x y w := by
  unfold C.over_window_slope.S3
  rw [flt_nm]
  refine cond_of (fun h => ?_) (fun h => ?_)
  · refine fa_T (ω := ω) fun v1 w1 k1 e1 => fin_ok rate (b.stp k1) fun q w2 k2 e2 => hK q w2 (Keep.trans k1.keep k2) ?_
    rw [e2, e1]; unfold stepV; rw [if_pos h]
  · refine fa_T (ω := ω) fun v0 w0 k0 e0 => fa_T (ω := ω) fun v1 w1 k1 e1 => fin_ok rate ((b.stp k0).stp k1) fun q w2 k2 e2 => hK q w2 (Keep.trans (k0.trans k1).keep k2) ?_
    rw [e2, e1, e0]; unfold stepV; rw [if_neg (by rw [h]; decide)]
theorem one_ok {s : Sl} {fr to : Int} (rate : Bool) {r s' e long a x : Nat} (b : WB ω w g s fr to) {K : Nat → World → Prop} (hK : ∀ q w', Keep w w' → nm q = finV rate (nm r) (nm long) (stepV (nm a) (nm x) (nm e) (stepV (nm a) (nm x) (nm s') (nm long))) fr to → K q w') :
    C.over_window_slope.S4 K rate (some ⟨g, 0, none⟩) r s' e long a x w := by
  unfold C.over_window_slope.S4
  rw [flt_nm]
  refine cond_of (fun h => ?_) (fun h => ?_)
  · refine fa_T (ω := ω) fun v1 w1 k1 e1 => two_ok rate (b.stp k1) fun q w2 k2 e2 => hK q w2 (Keep.trans k1.keep k2) ?_
    rw [e2, e1, show stepV (nm a) (nm x) (nm s') (nm long) = fo .add (nm long) (nm s') from if_pos h]
  · refine fa_T (ω := ω) fun v0 w0 k0 e0 => fa_T (ω := ω) fun v1 w1 k1 e1 => two_ok rate ((b.stp k0).stp k1) fun q w2 k2 e2 => hK q w2 (Keep.trans (k0.trans k1).keep k2) ?_
    rw [e2, e1, e0, show stepV (nm a) (nm x) (nm s') (nm long) = fo .add (nm long) (fo .quo (nm a) (nm 4611686018427387904)) from if_neg (by rw [h]; decide)]
theorem mid_ok {s : Sl} {m : List Smp} {x0 xl : Smp} {fr to : Int} (counter rate : Bool) {r gf gl : Nat} (h0 : m.head? = some x0) (hl : m.getLast? = some xl) (b : WB ω w g s fr to) (bf : SB ω w 2 gf x0) (bl : SB ω w 3 gl xl)
    (er : nm r = if counter then addV m (fo .sub (nm xl.2) (nm x0.2)) else fo .sub (nm xl.2) (nm x0.2)) {K : Nat → World → Prop} (hK : ∀ q w', Keep w w' → nm q = slopeV counter rate m fr to → K q w') :
    C.over_window_slope.S5 K counter rate (some ⟨g, 0, none⟩) (m.length : Int) (some ⟨gf, 0, none⟩) (some ⟨gl, 0, none⟩) r w := by
  unfold C.over_window_slope.S5
  have sd := drew_stp ω w
  have bd := b.stp sd
  have fd := bf.stp sd
  have ld := bl.stp sd
  refine ptr_at <| cI_at (n := x0.1) (by rw [fd.cell]; rfl) <| ptr_at <| cI_at (n := fr) (by rw [addr_add, bd.cell]; rfl) <| ptr_at <| cI_at (n := to) (by rw [addr_add, bd.cell]; rfl) <| ptr_at <| cI_at (n := xl.1) (by rw [ld.cell]; rfl) <| ptr_at <| cI_at (n := xl.1) (by rw [ld.cell]; rfl) <| ptr_at <| cI_at (n := x0.1) (by rw [fd.cell]; rfl) ?_
  refine sec_ok (ω := ω) fun v1 w1 k1 e1 => ⟨bd.sameA k1, ld.sameT k1, ld.sameT k1, fd.sameT k1, ?_⟩
  refine sec_ok (ω := ω) fun v2 w2 k2 e2 => ⟨ld.sameT (k1.trans k2), fd.sameT (k1.trans k2), ?_⟩
  refine sec_ok (ω := ω) fun v3 w3 k3 e3 => fa_T (ω := ω) fun v4 w4 k4 e4 => fa_T (ω := ω) fun v5 w5 k5 e5 => ?_
  have kk : Stp Non ω ω w w5 := sd.trans (k1.trans (k2.trans (k3.trans (k4.trans k5))))
  have b5 := b.stp kk
  have f5 := bf.stp kk
  have es : slopeV counter rate m fr to = finV rate (nm r) (nm v3) (stepV (nm v4) (nm v5) (nm v2) (stepV (nm v4) (nm v5) (if counter && (vlt (nm 0) (nm r) && ((vlt (nm 0) (nm x0.2) || veq (nm x0.2) (nm 0)) && vlt (fo .mul (nm v3) (fo .quo (nm x0.2) (nm r))) (nm v1))) then fo .mul (nm v3) (fo .quo (nm x0.2) (nm r)) else nm v1) (nm v3))) fr to := by
    unfold slopeV
    rw [h0, hl]
    simp only
    rw [← er, e5, e4, e3, e2, e1]
  have stay : (counter && (vlt (nm 0) (nm r) && ((vlt (nm 0) (nm x0.2) || veq (nm x0.2) (nm 0)) && vlt (fo .mul (nm v3) (fo .quo (nm x0.2) (nm r))) (nm v1)))) = false → ∀ w6, Stp Non ω ω w5 w6 → C.over_window_slope.S4 K rate (some ⟨g, 0, none⟩) r v1 v2 v3 v4 v5 w6 := fun hc w6 k6 => by
    rw [hc] at es
    exact one_ok rate (b5.stp k6) fun q w7 k7 e7 => hK q w7 (Keep.trans (kk.trans k6).keep k7) (by rw [es, e7]; rfl)
  cases counter
  · exact cond_f rfl (stay rfl w5 (Stp.refl _ _ _))
  · refine cond_t rfl ?_
    rw [fgt_nm]
    refine cond_of (fun h1 => ?_) (fun h1 => ?_)
    · rw [h1] at stay es
      refine ptr_at <| cF_at (b := x0.2) (by rw [addr_add, f5.cell]; rfl) ?_
      rw [fge_nm]
      refine cond_of (fun h2 => ?_) (fun h2 => ?_)
      · rw [h2] at stay es
        refine ptr_at <| cF_at (b := x0.2) (by rw [addr_add, f5.cell]; rfl) ?_
        refine fa_T (ω := ω) fun v6 w6 k6 e6 => fa_T (ω := ω) fun v7 w7 k7 e7 => ?_
        rw [← e6, ← e7] at stay es
        rw [flt_nm]
        refine cond_of (fun h3 => ?_) (fun h3 => ?_)
        · rw [h3] at es
          exact one_ok rate ((b5.stp k6).stp k7) fun q w8 k8 e8 => hK q w8 (Keep.trans (kk.trans (k6.trans k7)).keep k8) (by rw [es, e8]; rfl)
        · exact stay (by rw [h3]; rfl) w7 (k6.trans k7)
      · exact stay (by rw [h2]; rfl) w5 (Stp.refl _ _ _)
    · exact stay (by rw [h1]; rfl) w5 (Stp.refl _ _ _)
theorem loop_ok {s : Sl} {m : List Smp} {x0 xl : Smp} {fr to : Int} (counter rate : Bool) {r gf gl : Nat} (hs : Rd w0 s 2 (smps m)) (hlen : m.length ≤ 100000000) (h0 : m.head? = some x0) (hl : m.getLast? = some xl) (top : Top w0 ω w) (b : WB ω w g s fr to) (bf : SB ω w 2 gf x0) (bl : SB ω w 3 gl xl)
    (er : nm r = fo .sub (nm xl.2) (nm x0.2)) {K : Nat → World → Prop} (hK : ∀ q w', Keep w0 w' → nm q = slopeV counter rate m fr to → K q w') :
    C.over_window_slope.S12 K counter rate (some ⟨g, 0, none⟩) (m.length : Int) (some ⟨gf, 0, none⟩) (some ⟨gl, 0, none⟩) r w := by
  unfold C.over_window_slope.S12
  have hm : 0 < m.length := by cases m with | nil => cases h0 | cons _ _ => simp
  refine C.over_window_slope.L8_ind fun X hX => ?_
  cases counter
  · refine hX _ _ _ _ _ _ _ _ _ ?_
    unfold C.over_window_slope.S10
    have fin := mid_ok (m := m) false rate h0 hl b bf bl er (K := K) fun q w' k e => hK q w' (Keep.trans top.k k) e
    exact cond_of (fun _ => cond_f rfl fin) (fun _ => fin)
  · have key : ∀ (d i : Nat) (v : Nat) (ω : Tg) (w : World), i + 1 + d = m.length → Top w0 ω w → WB ω w g s fr to → SB ω w 2 gf x0 → SB ω w 3 gl xl → nm v = addV (m.take (i + 1)) (fo .sub (nm xl.2) (nm x0.2)) →
        X true rate (some ⟨g, 0, none⟩) (m.length : Int) (some ⟨gf, 0, none⟩) (some ⟨gl, 0, none⟩) v ((i + 1 : Nat) : Int) w := by
      intro d
      induction d with
      | zero =>
        intro i v ω w hi top b bf bl e
        refine hX _ _ _ _ _ _ _ _ _ ?_
        unfold C.over_window_slope.S10
        rw [List.take_of_length_le (by omega)] at e
        exact cond_d (fun h => by omega) (fun _ => mid_ok (m := m) true rate h0 hl b bf bl e fun q w' k e => hK q w' (Keep.trans top.k k) e)
      | succ d ih =>
        intro i v ω w hi top b bf bl e
        refine hX _ _ _ _ _ _ _ _ _ ?_
        unfold C.over_window_slope.S10
        have sd := drew_stp ω w
        have topd := top.stp sd
        have bd := b.stp sd
        have hi1 : i + 1 < m.length := by omega
        have et := add_take m (fo .sub (nm xl.2) (nm x0.2)) i hi1
        rw [← e] at et
        refine cond_d (fun _ => cond_t rfl ?_) (fun h => by omega)
        refine ptr_at <| cSl_at (s := s) (by rw [bd.cell]; rfl) <| rdS_at (hs.keep topd.k) (k := i + 1) rfl (List.getElem?_eq_getElem hi1) fun p _ f1 => cF_at f1 ?_
        rw [wI64 (by omega) (by omega), wI64 (by omega) (by omega), show ((i + 1 : Nat) : Int) - 1 = ((i : Nat) : Int) by omega, show ((i + 1 : Nat) : Int) + 1 = ((i + 1 + 1 : Nat) : Int) by omega]
        refine ptr_at <| cSl_at (s := s) (by rw [bd.cell]; rfl) <| rdS_at (hs.keep topd.k) (k := i) rfl (List.getElem?_eq_getElem (by omega)) fun p _ f1 => cF_at f1 ?_
        rw [flt_nm]
        refine cond_of (fun h1 => ?_) (fun h1 => ?_)
        · rw [if_pos h1] at et
          refine ptr_at <| cSl_at (s := s) (by rw [bd.cell]; rfl) <| rdS_at (hs.keep topd.k) (k := i) rfl (List.getElem?_eq_getElem (by omega)) fun p _ f1 => cF_at f1 ?_
          refine fa_T (ω := ω) fun v2 w2 k2 e2 => ?_
          exact ih (i + 1) v2 ω w2 (by omega) (topd.stp k2) (bd.stp k2) ((bf.stp sd).stp k2) ((bl.stp sd).stp k2) (by rw [e2]; exact et.symm)
        · rw [if_neg (by rw [h1]; decide)] at et
          exact ih (i + 1) v ω w.drew (by omega) topd bd (bf.stp sd) (bl.stp sd) et.symm
    refine key (m.length - 1) 0 r ω w (by omega) top b bf bl ?_
    rw [er]
    cases m with
    | nil => simp at hm
    | cons x m => rfl
theorem slope_ok {s : Sl} {m : List Smp} (hs : Rd w0 s 2 (smps m)) (hlen : m.length ≤ 100000000) (h2 : 2 ≤ m.length) (fr to : Int) (counter rate : Bool) {K : Nat → World → Prop} (hK : ∀ q w', Keep w0 w' → nm q = slopeV counter rate m fr to → K q w') :
    C.over_window_slope s fr to counter rate w0 K := by
  unfold C.over_window_slope
  have hsn := rdS_len hs
  have hx0 : m[0]? = some (m[0]'(by omega)) := List.getElem?_eq_getElem _
  have hxl : m[m.length - 1]? = some (m[m.length - 1]'(by omega)) := List.getElem?_eq_getElem _
  have h0 : m.head? = some (m[0]'(by omega)) := by rw [List.head?_eq_getElem?]; exact hx0
  have hl : m.getLast? = some (m[m.length - 1]'(by omega)) := by rw [List.getLast?_eq_getElem?]; exact hxl
  generalize m[0]'(by omega) = x0 at *
  generalize m[m.length - 1]'(by omega) = xl at *
  refine new_T (ω := fun _ => 0) 1 fun g1 ω1 w1 k1 b1 => cSl_at (s := s) (by rw [b1.cell]; rfl) ?_
  have top1 := (Top.init w0).stp k1
  have sd := drew_stp ω1 w1
  have topd := top1.stp sd
  have bd := b1.stp sd
  rw [wI64 (by omega) (by omega), show ((s.n : Nat) : Int) - 1 = ((m.length - 1 : Nat) : Int) by omega, hsn]
  refine cSl_at (s := s) (by rw [bd.cell]; rfl) ?_
  refine rdS_at hs (k := 0) rfl hx0 fun pa fa0 fa1 => cI_at (topd.k.cell fa0) <| cF_at (topd.k.cell fa1) ?_
  refine cSl_at (s := s) (by rw [bd.cell]; rfl) ?_
  refine rdS_at hs (k := m.length - 1) rfl hxl fun pb fb0 fb1 => cI_at (topd.k.cell fb0) <| cF_at (topd.k.cell fb1) ?_
  have same2 : ∀ {p : Addr} {a b : Value} {w' : World}, w0.cell? p = some a → w0.cell? (p.add 1) = some b → Keep w0 w' → sameAt p 2 w1.drew w' := fun h1 h2 k => ⟨by rw [topd.k.cell h1, k.cell h1], fun i hi => by
    rcases (show i = 0 ∨ i = 1 by omega) with rfl | rfl
    · rw [show ∀ p : Addr, p.add 0 = p from fun p => by simp [Addr.add], topd.k.cell h1, k.cell h1]
    · rw [topd.k.cell h2, k.cell h2]⟩
  constructor
  · refine new_T (ω := ω1) 2 fun gf ω2 w2 k2 bf => ?_
    have top2 := topd.stp k2
    refine ⟨bd.sameT k2, same2 fa0 fa1 top2.k, bd.sameT k2, same2 fb0 fb1 top2.k, ?_⟩
    refine new_T (ω := ω2) 3 fun gl ω3 w3 k3 bl => ?_
    have top3 := top2.stp k3
    have k23 := k2.trans k3
    refine ⟨bd.sameT k23, same2 fa0 fa1 top3.k, bd.sameT k23, same2 fb0 fb1 top3.k, ?_⟩
    refine st_T (bf.stp k3) (by simp) fun ω4 w4 k4 bf4 => st_TA bf4 (by simp) fun ω5 w5 k5 bf5 => ?_
    have top5 := (top3.stp k4).stp k5
    have k25 : Stp (Mem.One 2) ω1 ω5 w1.drew w5 := (k23.non _).trans (k4.trans k5)
    refine ⟨bd.sameT k25, same2 fb0 fb1 top5.k, ?_⟩
    refine st_T ((bl.stp k4).stp k5) (by simp) fun ω6 w6 k6 bl6 => st_TA bl6 (by simp) fun ω7 w7 k7 bl7 => ?_
    have bf7 := (bf5.stp k6).stp k7
    refine cF_at (b := xl.2) (by rw [addr_add, bl7.cell]; rfl) <| cF_at (b := x0.2) (by rw [addr_add, bf7.cell]; rfl) ?_
    refine fa_T (ω := ω7) fun v8 w8 k8 e8 => ?_
    exact loop_ok counter rate hs hlen h0 hl (((top5.stp k6).stp k7).stp k8) (((((bd.stp k25).stp k6).stp k7)).stp k8) (bf7.stp k8) (bl7.stp k8) e8 hK
  · refine new_T (ω := ω1) 3 fun gl ω2 w2 k2 bl => ?_
    have top2 := topd.stp k2
    refine ⟨bd.sameT k2, same2 fa0 fa1 top2.k, bd.sameT k2, same2 fb0 fb1 top2.k, ?_⟩
    refine new_T (ω := ω2) 2 fun gf ω3 w3 k3 bf => ?_
    have top3 := top2.stp k3
    have k23 := k2.trans k3
    refine ⟨bd.sameT k23, same2 fa0 fa1 top3.k, bd.sameT k23, same2 fb0 fb1 top3.k, ?_⟩
    refine st_T bf (by simp) fun ω4 w4 k4 bf4 => st_TA bf4 (by simp) fun ω5 w5 k5 bf5 => ?_
    have top5 := (top3.stp k4).stp k5
    have k25 : Stp (Mem.One 2) ω1 ω5 w1.drew w5 := (k23.non _).trans (k4.trans k5)
    refine ⟨bd.sameT k25, same2 fb0 fb1 top5.k, ?_⟩
    refine st_T (((bl.stp k3).stp k4).stp k5) (by simp) fun ω6 w6 k6 bl6 => st_TA bl6 (by simp) fun ω7 w7 k7 bl7 => ?_
    have bf7 := (bf5.stp k6).stp k7
    refine cF_at (b := xl.2) (by rw [addr_add, bl7.cell]; rfl) <| cF_at (b := x0.2) (by rw [addr_add, bf7.cell]; rfl) ?_
    refine fa_T (ω := ω7) fun v8 w8 k8 e8 => ?_
    exact loop_ok counter rate hs hlen h0 hl (((top5.stp k6).stp k7).stp k8) (((((bd.stp k25).stp k6).stp k7)).stp k8) (bf7.stp k8) (bl7.stp k8) e8 hK

/-! ## The last two -/
def lastV (rate : Bool) (m : List Smp) : FV :=
  match m[m.length - 2]?, m[m.length - 1]? with
  | some a, some b => if rate then fo .quo (if vlt (nm b.2) (nm a.2) then nm b.2 else fo .sub (nm b.2) (nm a.2)) (sec (IntKind.i64.wrap (b.1 - a.1))) else fo .sub (nm b.2) (nm a.2)
  | _, _ => none
theorem lfin_ok {a b : Smp} {ga gb d : Nat} (ba : SB ω w 2 ga a) (bb : SB ω w 3 gb b) (ed : nm d = fo .sub (nm b.2) (nm a.2)) {K : Nat → World → Prop}
    (hK : ∀ q w', Keep w w' → nm q = fo .quo (if vlt (nm b.2) (nm a.2) then nm b.2 else fo .sub (nm b.2) (nm a.2)) (sec (IntKind.i64.wrap (b.1 - a.1))) → K q w') : C.over_window_last.S3 K (some ⟨ga, 0, none⟩) (some ⟨gb, 0, none⟩) d w := by
  unfold C.over_window_last.S3
  refine ptr_at <| cF_at (b := b.2) (by rw [addr_add, bb.cell]; rfl) <| ptr_at <| cF_at (b := a.2) (by rw [addr_add, ba.cell]; rfl) ?_
  have fin : ∀ v, nm v = (if vlt (nm b.2) (nm a.2) then nm b.2 else fo .sub (nm b.2) (nm a.2)) → C.over_window_last.S2 K (some ⟨ga, 0, none⟩) (some ⟨gb, 0, none⟩) v w := fun v ev => by
    unfold C.over_window_last.S2
    refine ptr_at <| cI_at (n := b.1) (by rw [bb.cell]; rfl) <| ptr_at <| cI_at (n := a.1) (by rw [ba.cell]; rfl) ?_
    refine sec_ok (ω := ω) fun v1 w1 k1 e1 => fa_T (ω := ω) fun v2 w2 k2 e2 => hK v2 w2 (k1.trans k2).keep ?_
    rw [e2, e1, ev]
  rw [flt_nm]
  refine cond_of (fun h => ?_) (fun h => ?_)
  · refine ptr_at <| cF_at (b := b.2) (by rw [addr_add, bb.cell]; rfl) <| fin b.2 ?_
    rw [if_pos h]
  · refine fin d ?_
    rw [if_neg (by rw [h]; decide), ed]
theorem last_ok {s : Sl} {m : List Smp} (hs : Rd w0 s 2 (smps m)) (hlen : m.length ≤ 100000000) (h2 : 2 ≤ m.length) (fr to : Int) (rate : Bool) {K : Nat → World → Prop} (hK : ∀ q w', Keep w0 w' → nm q = lastV rate m → K q w') :
    C.over_window_last s fr to rate w0 K := by
  unfold C.over_window_last
  have hsn := rdS_len hs
  have hx0 : m[m.length - 2]? = some (m[m.length - 2]'(by omega)) := List.getElem?_eq_getElem _
  have hxl : m[m.length - 1]? = some (m[m.length - 1]'(by omega)) := List.getElem?_eq_getElem _
  have ev : lastV rate m = if rate then fo .quo (if vlt (nm (m[m.length - 1]'(by omega)).2) (nm (m[m.length - 2]'(by omega)).2) then nm (m[m.length - 1]'(by omega)).2 else fo .sub (nm (m[m.length - 1]'(by omega)).2) (nm (m[m.length - 2]'(by omega)).2)) (sec (IntKind.i64.wrap ((m[m.length - 1]'(by omega)).1 - (m[m.length - 2]'(by omega)).1))) else fo .sub (nm (m[m.length - 1]'(by omega)).2) (nm (m[m.length - 2]'(by omega)).2) := by
    unfold lastV; rw [hx0, hxl]
  generalize m[m.length - 2]'(by omega) = x0 at *
  generalize m[m.length - 1]'(by omega) = xl at *
  refine new_T (ω := fun _ => 0) 1 fun g1 ω1 w1 k1 b1 => cSl_at (s := s) (by rw [b1.cell]; rfl) ?_
  have top1 := (Top.init w0).stp k1
  have sd := drew_stp ω1 w1
  have topd := top1.stp sd
  have bd := b1.stp sd
  rw [wI64 (by omega) (by omega), wI64 (by omega) (by omega), show ((s.n : Nat) : Int) - 1 = ((m.length - 1 : Nat) : Int) by omega, show ((s.n : Nat) : Int) - 2 = ((m.length - 2 : Nat) : Int) by omega]
  refine cSl_at (s := s) (by rw [bd.cell]; rfl) ?_
  refine rdS_at hs (k := m.length - 2) rfl hx0 fun pa fa0 fa1 => cI_at (topd.k.cell fa0) <| cF_at (topd.k.cell fa1) ?_
  refine cSl_at (s := s) (by rw [bd.cell]; rfl) ?_
  refine rdS_at hs (k := m.length - 1) rfl hxl fun pb fb0 fb1 => cI_at (topd.k.cell fb0) <| cF_at (topd.k.cell fb1) ?_
  have same2 : ∀ {p : Addr} {a b : Value} {w' : World}, w0.cell? p = some a → w0.cell? (p.add 1) = some b → Keep w0 w' → sameAt p 2 w1.drew w' := fun h1 h2 k => ⟨by rw [topd.k.cell h1, k.cell h1], fun i hi => by
    rcases (show i = 0 ∨ i = 1 by omega) with rfl | rfl
    · rw [show ∀ p : Addr, p.add 0 = p from fun p => by simp [Addr.add], topd.k.cell h1, k.cell h1]
    · rw [topd.k.cell h2, k.cell h2]⟩
  have fin : ∀ (ω : Tg) (w : World) (gf gl : Nat), Top w0 ω w → SB ω w 2 gf x0 → SB ω w 3 gl xl → ∀ v, nm v = fo .sub (nm xl.2) (nm x0.2) → G.cond (!rate) (K v w) (C.over_window_last.S3 K (some ⟨gf, 0, none⟩) (some ⟨gl, 0, none⟩) v w) := fun ω w gf gl top bf bl v e => by
    cases rate
    · exact cond_t rfl (hK v w top.k (by rw [e, ev]; rfl))
    · exact cond_f rfl (lfin_ok bf bl e fun q w' k e' => hK q w' (Keep.trans top.k k) (by rw [e', ev]; rfl))
  constructor
  · refine new_T (ω := ω1) 2 fun gf ω2 w2 k2 bf => ?_
    have top2 := topd.stp k2
    refine ⟨bd.sameT k2, same2 fa0 fa1 top2.k, bd.sameT k2, same2 fb0 fb1 top2.k, ?_⟩
    refine new_T (ω := ω2) 3 fun gl ω3 w3 k3 bl => ?_
    have top3 := top2.stp k3
    have k23 := k2.trans k3
    refine ⟨bd.sameT k23, same2 fa0 fa1 top3.k, bd.sameT k23, same2 fb0 fb1 top3.k, ?_⟩
    refine st_T (bf.stp k3) (by simp) fun ω4 w4 k4 bf4 => st_TA bf4 (by simp) fun ω5 w5 k5 bf5 => ?_
    have top5 := (top3.stp k4).stp k5
    have k25 : Stp (Mem.One 2) ω1 ω5 w1.drew w5 := (k23.non _).trans (k4.trans k5)
    refine ⟨bd.sameT k25, same2 fb0 fb1 top5.k, ?_⟩
    refine st_T ((bl.stp k4).stp k5) (by simp) fun ω6 w6 k6 bl6 => st_TA bl6 (by simp) fun ω7 w7 k7 bl7 => ?_
    have bf7 := (bf5.stp k6).stp k7
    refine cF_at (b := xl.2) (by rw [addr_add, bl7.cell]; rfl) <| cF_at (b := x0.2) (by rw [addr_add, bf7.cell]; rfl) ?_
    refine fa_T (ω := ω7) fun v8 w8 k8 e8 => ?_
    exact fin ω7 w8 gf gl (((top5.stp k6).stp k7).stp k8) (bf7.stp k8) (bl7.stp k8) v8 e8
  · refine new_T (ω := ω1) 3 fun gl ω2 w2 k2 bl => ?_
    have top2 := topd.stp k2
    refine ⟨bd.sameT k2, same2 fa0 fa1 top2.k, bd.sameT k2, same2 fb0 fb1 top2.k, ?_⟩
    refine new_T (ω := ω2) 2 fun gf ω3 w3 k3 bf => ?_
    have top3 := top2.stp k3
    have k23 := k2.trans k3
    refine ⟨bd.sameT k23, same2 fa0 fa1 top3.k, bd.sameT k23, same2 fb0 fb1 top3.k, ?_⟩
    refine st_T bf (by simp) fun ω4 w4 k4 bf4 => st_TA bf4 (by simp) fun ω5 w5 k5 bf5 => ?_
    have top5 := (top3.stp k4).stp k5
    have k25 : Stp (Mem.One 2) ω1 ω5 w1.drew w5 := (k23.non _).trans (k4.trans k5)
    refine ⟨bd.sameT k25, same2 fb0 fb1 top5.k, ?_⟩
    refine st_T (((bl.stp k3).stp k4).stp k5) (by simp) fun ω6 w6 k6 bl6 => st_TA bl6 (by simp) fun ω7 w7 k7 bl7 => ?_
    have bf7 := (bf5.stp k6).stp k7
    refine cF_at (b := xl.2) (by rw [addr_add, bl7.cell]; rfl) <| cF_at (b := x0.2) (by rw [addr_add, bf7.cell]; rfl) ?_
    refine fa_T (ω := ω7) fun v8 w8 k8 e8 => ?_
    exact fin ω7 w8 gf gl (((top5.stp k6).stp k7).stp k8) (bf7.stp k8) (bl7.stp k8) v8 e8
end Go.Proofs.Ytaciaidehamfgaa.Ov
