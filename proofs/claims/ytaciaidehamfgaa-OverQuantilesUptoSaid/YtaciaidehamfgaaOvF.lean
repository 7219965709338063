/- Layer 17 (over): what a function tells of a window. Own work. -/
import Derived.Test.YtaciaidehamfgaaOvE
namespace Go.Proofs.Ytaciaidehamfgaa.Ov
open Go Vm Go.RowKit Num Mem Fl Sm
variable {ω ω' : Tg} {w w' w0 : World} {T : Nat → Bool} {t u g : Nat}
set_option exponentiation.threshold 3000

/-! ## The value -/
def lastF (m : List Smp) : FV := match m[m.length - 1]? with | some x => nm x.2 | none => none
def lenF (m : List Smp) : FV := nm (FloatKind.f64.nearest ((m.length : Nat) : Int))
def cntF (p : FV → FV → Bool) (m : List Smp) : FV := nm (FloatKind.f64.nearest ((cntV p m : Nat) : Int))
def valV (f : Nat) (m : List Smp) (fr to : Int) : FV :=
  match f with
  | 47 => fo .quo (sumV m) (lenF m)
  | 49 => cntF chg m
  | 50 => lenF m
  | 51 => slopeV false false m fr to
  | 53 => lastV false m
  | 55 => slopeV true false m fr to
  | 56 => lastV true m
  | 57 => lastF m
  | 58 => bestV (fun a b => vlt b a) m
  | 61 => bestV vlt m
  | 63 => nm (4607182418800017408 : Nat)
  | 64 => slopeV true true m fr to
  | 65 => cntF rst m
  | 48 => sumV m
  | _ => none
theorem m_pleast (n : ByteArray) (i : Int) (f : Value) : pureOf C.pr (method (C.pr.types.size + Made.depth) 64 (.agg #[.string n, .int .i64 i, f]) "tocsin/over.least") = some (95, .agg #[.string n, .int .i64 i, f]) := by kernel_rfl
theorem m_pvalue (n : ByteArray) (i : Int) (f : Value) : pureOf C.pr (method (C.pr.types.size + Made.depth) 64 (.agg #[.string n, .int .i64 i, f]) "tocsin/over.value") = some (96, .agg #[.string n, .int .i64 i, f]) := by kernel_rfl
theorem m_qleast (q : Nat) : pureOf C.pr (method (C.pr.types.size + Made.depth) 60 (.agg #[.float .f64 q]) "tocsin/over.least") = some (93, .agg #[.float .f64 q]) := by kernel_rfl
theorem m_qvalue (q : Nat) : pureOf C.pr (method (C.pr.types.size + Made.depth) 60 (.agg #[.float .f64 q]) "tocsin/over.value") = some (94, .agg #[.float .f64 q]) := by kernel_rfl
theorem callI_at {P : Program} {F : Clee} {ty : TypeId} {x y : Value} {name : String} {f : Nat} {args : List Value} {K : Value → World → Prop} (h : pureOf P (method (P.types.size + Made.depth) ty x name) = some (f, y)) (hK : F f (y :: args) K w) : G.callI P F (.iface ty x) name args w K := by
  unfold G.callI
  simp only [h]
  exact hK
theorem pleast_ok {r : Row} {K : Value → World → Prop} (hK : ∀ w', Keep w w' → K (.int .i64 r.2.1) w') : G.callI C.pr C.over_Call.F (rowV r) "tocsin/over.least" [] w K := by
  refine callI_at (m_pleast r.1 r.2.1 (fv r.2.2)) ?_
  show C.over_plain_least r.1 r.2.1 (fv r.2.2) w (C.over_plain_least.Kt K)
  unfold C.over_plain_least
  refine new_T (ω := fun _ => 0) 1 fun g ω1 w1 k1 b1 => cI_at (n := r.2.1) (by rw [addr_add, b1.cell]; rfl) ?_
  exact hK w1 k1.keep
theorem qleast_ok {q : Nat} {K : Value → World → Prop} (hK : ∀ w', Keep w w' → K (.int .i64 1) w') : G.callI C.pr C.over_Call.F (qtV q) "tocsin/over.least" [] w K := by
  refine callI_at (m_qleast q) ?_
  show C.over_quantile_least q w (C.over_quantile_least.Kt K)
  unfold C.over_quantile_least
  exact new_T (ω := fun _ => 0) 1 fun g ω1 w1 k1 b1 => hK w1 k1.keep

theorem above_ok {a b : Nat} {K : Value → World → Prop} (hK : K (.bool (vlt (nm b) (nm a))) w) : G.callV C.pr C.over_window_best.F (fv 60) [.float .f64 a, .float .f64 b] w K := by
  show C.over_table_8_1 a b w (C.over_table_8_1.Kt K)
  unfold C.over_table_8_1
  rw [fgt_nm]; exact hK
theorem below_ok {a b : Nat} {K : Value → World → Prop} (hK : K (.bool (vlt (nm a) (nm b))) w) : G.callV C.pr C.over_window_best.F (fv 62) [.float .f64 a, .float .f64 b] w K := by
  show C.over_table_9_1 a b w (C.over_table_9_1.Kt K)
  unfold C.over_table_9_1
  rw [flt_nm]; exact hK
/-- A function of the table. -/
theorem do_ok {r : Row} (hr : r ∈ TAB) {s : Sl} {m : List Smp} {fr to : Int} (hs : Rd w0 s 2 (smps m)) (hl : m.length ≤ 100000000) (hn : r.2.1 ≤ (m.length : Int)) {K : Value → World → Prop} (hK : ∀ b w', Keep w0 w' → nm b = valV r.2.2 m fr to → K (.float .f64 b) w') :
    G.callV C.pr C.over_plain_value.F (fv r.2.2) [.agg #[s.v, .int .i64 fr, .int .i64 to]] w0 K := by
  have hsn := rdS_len hs
  have W : ∀ {Z : Addr → World → Prop}, (∀ g ω' w', Stp Non (fun _ => 0) ω' w0 w' → WB ω' w' g s fr to → Rd w' s 2 (smps m) → Z ⟨g, 0, none⟩ w') → G.new (.cells #[s.v, .int .i64 fr, .int .i64 to] 52) w0 Z := fun hZ =>
    new_T (ω := fun _ => 0) 1 fun g ω1 w1 k1 b1 => hZ g ω1 w1 k1 b1 (hs.keep k1.keep)
  simp only [TAB, List.mem_cons, List.not_mem_nil, or_false] at hr
  rcases hr with rfl | rfl | rfl | rfl | rfl | rfl | rfl | rfl | rfl | rfl | rfl | rfl | rfl | rfl
  · -- the mean
    have hm : m ≠ [] := fun e => by rw [e] at hn; exact absurd hn (by decide)
    show C.over_table_1 s fr to w0 (C.over_table_1.Kt K)
    unfold C.over_table_1
    refine W fun g ω1 w1 k1 b1 r1 => ?_
    have bd := b1.stp (drew_stp ω1 w1)
    have c0 : w1.drew.cell? ⟨g, 0, none⟩ = some s.v := by rw [bd.cell]; rfl
    refine cSl_at c0 <| cI_at (n := fr) (by rw [addr_add, bd.cell]; rfl) <| cI_at (n := to) (by rw [addr_add, bd.cell]; rfl) <| cSl_at c0 ?_
    refine sum_ok (r1.keep (Keep.drew w1)) hm hl fr to fun v w2 k2 e2 => ⟨same1 c0 k2, fa_T (ω := ω1) fun v3 w3 k3 e3 => hK v3 w3 (Keep.trans (Keep.trans k1.keep (Keep.drew w1)) (Keep.trans k2 k3.keep)) ?_⟩
    rw [e3, e2, hsn]; rfl
  · have hm : m ≠ [] := fun e => by rw [e] at hn; exact absurd hn (by decide)
    show C.over_window_changes s fr to w0 (C.over_window_changes.Kt K)
    exact changes_ok hs hm hl fr to fun w2 k2 => hK _ w2 k2 rfl
  · show C.over_table_2 s fr to w0 (C.over_table_2.Kt K)
    unfold C.over_table_2
    refine W fun g ω1 w1 k1 b1 r1 => cSl_at (s := s) (by rw [b1.cell]; rfl) ?_
    exact hK _ w1 k1.keep (by rw [hsn]; rfl)
  · have h2 : 2 ≤ m.length := by have : (2 : Int) ≤ (m.length : Int) := hn; omega
    show C.over_table_3 s fr to w0 (C.over_table_3.Kt K)
    unfold C.over_table_3
    refine W fun g ω1 w1 k1 b1 r1 => cSl_at (s := s) (by rw [b1.cell]; rfl) <| cI_at (n := fr) (by rw [addr_add, b1.cell]; rfl) <| cI_at (n := to) (by rw [addr_add, b1.cell]; rfl) ?_
    exact slope_ok r1 hl h2 fr to false false fun v w2 k2 e2 => hK v w2 (Keep.trans k1.keep k2) e2
  · have h2 : 2 ≤ m.length := by have : (2 : Int) ≤ (m.length : Int) := hn; omega
    show C.over_table_4 s fr to w0 (C.over_table_4.Kt K)
    unfold C.over_table_4
    refine W fun g ω1 w1 k1 b1 r1 => cSl_at (s := s) (by rw [b1.cell]; rfl) <| cI_at (n := fr) (by rw [addr_add, b1.cell]; rfl) <| cI_at (n := to) (by rw [addr_add, b1.cell]; rfl) ?_
    exact last_ok r1 hl h2 fr to false fun v w2 k2 e2 => hK v w2 (Keep.trans k1.keep k2) e2
  · have h2 : 2 ≤ m.length := by have : (2 : Int) ≤ (m.length : Int) := hn; omega
    show C.over_table_5 s fr to w0 (C.over_table_5.Kt K)
    unfold C.over_table_5
    refine W fun g ω1 w1 k1 b1 r1 => cSl_at (s := s) (by rw [b1.cell]; rfl) <| cI_at (n := fr) (by rw [addr_add, b1.cell]; rfl) <| cI_at (n := to) (by rw [addr_add, b1.cell]; rfl) ?_
    exact slope_ok r1 hl h2 fr to true false fun v w2 k2 e2 => hK v w2 (Keep.trans k1.keep k2) e2
  · have h2 : 2 ≤ m.length := by have : (2 : Int) ≤ (m.length : Int) := hn; omega
    show C.over_table_6 s fr to w0 (C.over_table_6.Kt K)
    unfold C.over_table_6
    refine W fun g ω1 w1 k1 b1 r1 => cSl_at (s := s) (by rw [b1.cell]; rfl) <| cI_at (n := fr) (by rw [addr_add, b1.cell]; rfl) <| cI_at (n := to) (by rw [addr_add, b1.cell]; rfl) ?_
    exact last_ok r1 hl h2 fr to true fun v w2 k2 e2 => hK v w2 (Keep.trans k1.keep k2) e2
  · have h1 : 1 ≤ m.length := by have : (1 : Int) ≤ (m.length : Int) := hn; omega
    show C.over_table_7 s fr to w0 (C.over_table_7.Kt K)
    unfold C.over_table_7
    refine W fun g ω1 w1 k1 b1 r1 => cSl_at (s := s) (by rw [b1.cell]; rfl) <| cSl_at (s := s) (by rw [b1.cell]; rfl) ?_
    have hx : m[m.length - 1]? = some (m[m.length - 1]'(by omega)) := List.getElem?_eq_getElem _
    refine rdS_at r1 (k := m.length - 1) (by rw [wI64 (by omega) (by omega)]; omega) hx fun p _ f1 => cF_at f1 ?_
    exact hK _ w1 k1.keep (by show _ = lastF m; unfold lastF; rw [hx])
  · have hm : m ≠ [] := fun e => by rw [e] at hn; exact absurd hn (by decide)
    show C.over_table_8 s fr to w0 (C.over_table_8.Kt K)
    unfold C.over_table_8
    refine W fun g ω1 w1 k1 b1 r1 => cSl_at (s := s) (by rw [b1.cell]; rfl) <| cI_at (n := fr) (by rw [addr_add, b1.cell]; rfl) <| cI_at (n := to) (by rw [addr_add, b1.cell]; rfl) ?_
    exact best_ok (ab := fun a b => vlt b a) r1 hm hl fr to (fun a b w K h => above_ok h) fun v w2 k2 e2 => hK v w2 (Keep.trans k1.keep k2) e2
  · have hm : m ≠ [] := fun e => by rw [e] at hn; exact absurd hn (by decide)
    show C.over_table_9 s fr to w0 (C.over_table_9.Kt K)
    unfold C.over_table_9
    refine W fun g ω1 w1 k1 b1 r1 => cSl_at (s := s) (by rw [b1.cell]; rfl) <| cI_at (n := fr) (by rw [addr_add, b1.cell]; rfl) <| cI_at (n := to) (by rw [addr_add, b1.cell]; rfl) ?_
    exact best_ok (ab := vlt) r1 hm hl fr to (fun a b w K h => below_ok h) fun v w2 k2 e2 => hK v w2 (Keep.trans k1.keep k2) e2
  · show C.over_table_10 s fr to w0 (C.over_table_10.Kt K)
    unfold C.over_table_10
    exact W fun g ω1 w1 k1 b1 r1 => hK _ w1 k1.keep rfl
  · have h2 : 2 ≤ m.length := by have : (2 : Int) ≤ (m.length : Int) := hn; omega
    show C.over_table_11 s fr to w0 (C.over_table_11.Kt K)
    unfold C.over_table_11
    refine W fun g ω1 w1 k1 b1 r1 => cSl_at (s := s) (by rw [b1.cell]; rfl) <| cI_at (n := fr) (by rw [addr_add, b1.cell]; rfl) <| cI_at (n := to) (by rw [addr_add, b1.cell]; rfl) ?_
    exact slope_ok r1 hl h2 fr to true true fun v w2 k2 e2 => hK v w2 (Keep.trans k1.keep k2) e2
  · have hm : m ≠ [] := fun e => by rw [e] at hn; exact absurd hn (by decide)
    show C.over_window_resets s fr to w0 (C.over_window_resets.Kt K)
    exact resets_ok hs hm hl fr to fun w2 k2 => hK _ w2 k2 rfl
  · have hm : m ≠ [] := fun e => by rw [e] at hn; exact absurd hn (by decide)
    show C.over_window_sum s fr to w0 (C.over_window_sum.Kt K)
    exact sum_ok hs hm hl fr to fun v w2 k2 e2 => hK v w2 k2 e2
theorem pvalue_ok {r : Row} (hr : r ∈ TAB) {s : Sl} {m : List Smp} {fr to : Int} (hs : Rd w0 s 2 (smps m)) (hl : m.length ≤ 100000000) (hn : r.2.1 ≤ (m.length : Int)) {K : Value → World → Prop} (hK : ∀ b w', Keep w0 w' → nm b = valV r.2.2 m fr to → K (.float .f64 b) w') :
    G.callI C.pr C.over_Call.F (rowV r) "tocsin/over.value" [.agg #[s.v, .int .i64 fr, .int .i64 to]] w0 K := by
  refine callI_at (m_pvalue r.1 r.2.1 (fv r.2.2)) ?_
  show C.over_plain_value r.1 r.2.1 (fv r.2.2) s fr to w0 (C.over_plain_value.Kt K)
  unfold C.over_plain_value
  refine new_T (ω := fun _ => 0) 1 fun g1 ω1 w1 k1 b1 => new_T (ω := ω1) 2 fun g2 ω2 w2 k2 b2 => ?_
  have b1' := b1.stp k2
  refine cV_at (b := fv r.2.2) (by rw [addr_add, b1'.cell]; rfl) <| cSl_at (s := s) (by rw [b2.cell]; rfl) <| cI_at (n := fr) (by rw [addr_add, b2.cell]; rfl) <| cI_at (n := to) (by rw [addr_add, b2.cell]; rfl) ?_
  have kk : Keep w0 w2 := Keep.trans k1.keep k2.keep
  exact do_ok hr (hs.keep kk) hl hn fun b w3 k3 e3 => isF_at (hK b w3 (Keep.trans kk k3) e3)
/-- The quantile. -/
theorem fl_app (l : LF) (b : Nat) : (l ++ [b]).map fl = l.map fl ++ (#[Value.float .f64 b] : Array Value).toList := by rw [List.map_append]; rfl
theorem qvalue_ok {q : Nat} {s : Sl} {m : List Smp} {fr to : Int} (hs : Rd w0 s 2 (smps m)) (hl : m.length ≤ 100000000) (h64 : ∀ x ∈ m, x.2 < 18446744073709551616) {K : Value → World → Prop} (hK : ∀ b w', Keep w0 w' → b = qV (nm q) (m.map fun x => nm x.2) → K (.float .f64 b) w') :
    G.callI C.pr C.over_Call.F (qtV q) "tocsin/over.value" [.agg #[s.v, .int .i64 fr, .int .i64 to]] w0 K := by
  refine callI_at (m_qvalue q) ?_
  show C.over_quantile_value q s fr to w0 (C.over_quantile_value.Kt K)
  have hsn := rdS_len hs
  unfold C.over_quantile_value
  refine new_T (ω := fun _ => 0) 1 fun g1 ω1 w1 k1 b1 => new_T (ω := ω1) 2 fun g2 ω2 w2 k2 b2 => ?_
  unfold C.over_quantile_value.S9
  have top2 := ((Top.init w0).stp k1).stp k2
  refine ptr_at <| cSl_at (s := s) (by rw [b2.cell]; rfl) ?_
  refine C.over_quantile_value.L5_ind fun X hX => ?_
  have key : ∀ (d i : Nat) (v : Sl) (ω : Tg) (w : World), i + d = m.length → Top w0 ω w → BT ω w 1 g1 60 [.float .f64 q] → OT ω w 3 22 1 v (((m.take i).map Prod.snd).map fl) → X (some ⟨g1, 0, none⟩) v s ((s.n : Nat) : Int) (i : Int) w := by
    intro d
    induction d with
    | zero =>
      intro i v ω w hi top b o
      refine hX _ _ _ _ _ _ ?_
      unfold C.over_quantile_value.S7 C.over_quantile_value.S2
      rw [List.take_of_length_le (by omega)] at o
      refine cond_d (fun h => by omega) (fun _ => ptr_at <| cF_at (b := q) (by rw [b.cell]; rfl) ?_)
      refine quantile_ok o.rd (by simpa using hl) (fun b hb => ?_) fun w2 k2 => hK _ w2 (Keep.trans top.k k2) (by rw [List.map_map]; rfl)
      obtain ⟨x, hx, rfl⟩ := List.mem_map.1 hb
      exact h64 x hx
    | succ d ih =>
      intro i v ω w hi top b o
      refine hX _ _ _ _ _ _ ?_
      unfold C.over_quantile_value.S7
      have him : i < m.length := by omega
      refine cond_d (fun _ => ?_) (fun h => by omega)
      refine rdS_at (hs.keep top.k) (k := i) rfl (List.getElem?_eq_getElem him) fun p f0 f1 => cI_at f0 <| cF_at f1 ?_
      refine locT (ω := ω) rfl fun g3 ω3 w3 k3 b3 => cF_at (b := m[i].2) (by rw [addr_add, b3.cell]; rfl) ?_
      have o3 := o.stp k3
      have hvn := rdF_n o3.rd
      rw [List.length_map, List.length_take] at hvn
      refine push_T (P := Try.prog) tiF o3 (n := 1) rfl (by intro v hv; simp at hv; subst hv; rfl) (by simp only [maxLen]; omega) (by omega) fun r ω4 w4 k4 o4 _ => ?_
      rw [wI64 (by omega) (by omega), show (i : Int) + 1 = ((i + 1 : Nat) : Int) by omega]
      refine ih (i + 1) r ω4 w4 (by omega) ((top.stp k3).stp k4) ((b.stp k3).stp k4) ?_
      rw [List.take_succ_eq_append_getElem him, List.map_append, List.map_cons, List.map_nil, fl_app]
      exact o4
  exact key m.length 0 nilS ω2 w2 (by omega) top2 (b1.stp k2) (OT.nil _ _ _ _ _)
end Go.Proofs.Ytaciaidehamfgaa.Ov
