/- Layer 17 (over): Call. Own work. -/
import Derived.Test.YtaciaidehamfgaaOvF
namespace Go.Proofs.Ytaciaidehamfgaa.Ov
open Go Vm Go.RowKit Num Mem Fl Sm
variable {ω ω' : Tg} {w w' w0 : World} {T : Nat → Bool} {t u g : Nat}
set_option exponentiation.threshold 3000

/-! ## What Call comes to -/
abbrev Tell := Nat ⊕ Row
def tellV : Tell → Value
  | .inl q => qtV q
  | .inr r => rowV r
def leastT : Tell → Int
  | .inl _ => 1
  | .inr r => r.2.1
def tellB (x : Tell) (m : List Smp) (fr to : Int) : Nat :=
  match x with
  | .inl q => qV (nm q) (m.map fun x => nm x.2)
  | .inr r => tb (valV r.2.2 m fr to)
def teller (name : ByteArray) (q : Nat) : Option Tell := if name.data.toList == asked then some (.inl q) else (named name).map .inr
def okB (to : Int) : Int → List Smp → Bool
  | _, [] => true
  | p, x :: r => (decide (p < x.1) && decide (x.1 ≤ to)) && okB to x.1 r
def live (l : List Smp) : List Smp := l.filter fun x => x.2 != 9218868437227405314
def argB (fr to : Int) : Bool := !(decide (fr < -1099511627776) || (decide (fr ≥ to) || (decide (to > 1125899906842624) || decide (to < 0))))
def callR (name : ByteArray) (l : List Smp) (fr to : Int) (q : Nat) : Nat × Bool × Int :=
  match teller name q with
  | none => (0, false, 60)
  | some x => if argB fr to && okB to fr l then (if ((live l).length : Int) < leastT x then (0, false, 0) else (tellB x (live l) fr to, true, 0)) else (0, false, 1)
def atT (x : Tell) : Prop := match x with | .inl _ => True | .inr r => r ∈ TAB

theorem okB_snoc (to : Int) : ∀ (a : List Smp) (p : Int) (x : Smp), okB to p (a ++ [x]) = (okB to p a && (decide ((match a.getLast? with | some y => y.1 | none => p) < x.1) && decide (x.1 ≤ to)))
  | [], p, x => by simp [okB]; rfl
  | y :: a, p, x => by
    rw [List.cons_append, okB, okB_snoc to a y.1 x, okB]
    cases a with
    | nil => simp only [okB, Bool.and_true, Bool.true_and]; rfl
    | cons z a => rw [List.getLast?_cons_cons]; cases h : (z :: a).getLast? with
      | none => simp at h
      | some v => simp only [Bool.and_assoc]
theorem okB_pre (to : Int) : ∀ (a b : List Smp) (p : Int), okB to p (a ++ b) = true → okB to p a = true
  | [], _, _, _ => rfl
  | y :: a, b, p, h => by
    rw [List.cons_append, okB, Bool.and_eq_true] at h
    rw [okB, h.1, okB_pre to a b y.1 h.2]; rfl
theorem okB_low (to : Int) : ∀ (a : List Smp) (p : Int) (y : Smp), okB to p a = true → a.getLast? = some y → p < y.1
  | [], _, _, _, h => by simp at h
  | [x], p, y, h, e => by
    simp only [List.getLast?_singleton, Option.some.injEq] at e
    subst e
    simp only [okB, Bool.and_eq_true, decide_eq_true_eq] at h
    exact h.1.1
  | x :: z :: a, p, y, h, e => by
    rw [okB, Bool.and_eq_true, Bool.and_eq_true, decide_eq_true_eq] at h
    have := okB_low to (z :: a) x.1 y h.2 (by rw [List.getLast?_cons_cons] at e; exact e)
    have := h.1.1
    omega
/-- One sample more. -/
theorem okB_step {to fr : Int} {l : List Smp} {i : Nat} (h : i < l.length) : okB to fr (l.take (i + 1)) = (okB to fr (l.take i) && (decide ((if i = 0 then fr else (l[i - 1]'(by omega)).1) < l[i].1) && decide (l[i].1 ≤ to))) := by
  rw [List.take_succ_eq_append_getElem h, okB_snoc]
  by_cases h0 : i = 0
  · subst h0; simp; rfl
  · rw [if_neg h0]
    have : (l.take i).getLast? = some (l[i - 1]'(by omega)) := by
      rw [List.getLast?_eq_getElem?, List.length_take, List.getElem?_take_of_lt (by omega), show min i l.length - 1 = i - 1 by omega]
      exact List.getElem?_eq_getElem _
    rw [this]
theorem okB_bad {to fr : Int} {l : List Smp} {i : Nat} (h : okB to fr (l.take i) = false) : okB to fr l = false := by
  cases e : okB to fr l with
  | false => rfl
  | true =>
    have := okB_pre to (l.take i) (l.drop i) fr (by rw [List.take_append_drop]; exact e)
    rw [h] at this; cases this

/-! ## The walk -/
theorem find_okT {name : ByteArray} {q : Nat} {K : Value → World → Prop} (h1 : ∀ x, teller name q = some x → atT x → ∀ ω' w', Top w ω' w' → K (tellV x) w') (h2 : teller name q = none → ∀ w', Keep w w' → K .nilIface w') : C.over_find name q w K := by
  refine find_ok (fun h => ?_) (fun h ω1 w1 top1 => ⟨fun r hr => ?_, fun hn => ?_⟩)
  · exact h1 (.inl q) (by unfold teller; rw [if_pos h]) trivial _ w (Top.init w)
  · exact h1 (.inr r) (by unfold teller; rw [if_neg (by rw [h]; decide), hr]; rfl) (List.mem_of_find?_eq_some hr) ω1 w1 top1
  · exact h2 (by unfold teller; rw [if_neg (by rw [h]; decide), hn]; rfl) w1 top1.k
theorem isNil_T {x : Tell} {Z : Bool → Prop} (h : Z false) : G.isNilI (tellV x) Z := by cases x <;> exact h
theorem least_T {x : Tell} {K : Value → World → Prop} (hK : ∀ w', Keep w w' → K (.int .i64 (leastT x)) w') : G.callI C.pr C.over_Call.F (tellV x) "tocsin/over.least" [] w K := by
  cases x with
  | inl q => exact qleast_ok hK
  | inr r => exact pleast_ok hK
theorem tb_fo (op : BinOp) (x y : FV) : tb (nm (tb (fo op x y))) = tb (fo op x y) := by
  have h0 : tb (nm (tb none)) = tb none := by decide +kernel
  cases e : fo op x y with
  | none => exact h0
  | some r =>
    cases x with
    | none => cases e
    | some a => cases y with
      | none => cases e
      | some b => rw [show tb (some r) = r from rfl, nm_some (bits_nan (show floatBits op .f64 a b = some r from e)).2.2]; rfl
theorem tb_qV (q : FV) (l : List FV) : tb (nm (qV q l)) = qV q l := by
  unfold qV
  split
  · decide +kernel
  · split
    · decide +kernel
    · split
      · decide +kernel
      · unfold quantV mixV
        exact tb_fo _ _ _
theorem value_T {x : Tell} (hx : atT x) {s : Sl} {m : List Smp} {fr to : Int} (hs : Rd w0 s 2 (smps m)) (hl : m.length ≤ 100000000) (hn : leastT x ≤ (m.length : Int)) (h64 : ∀ x ∈ m, x.2 < 18446744073709551616) {K : Value → World → Prop} (hK : ∀ b w', Keep w0 w' → tb (nm b) = tellB x m fr to → K (.float .f64 b) w') :
    G.callI C.pr C.over_Call.F (tellV x) "tocsin/over.value" [.agg #[s.v, .int .i64 fr, .int .i64 to]] w0 K := by
  cases x with
  | inl q => exact qvalue_ok hs hl h64 fun b w1 k1 e1 => hK b w1 k1 (by rw [e1]; exact tb_qV _ _)
  | inr r => exact pvalue_ok hx hs hl hn fun b w1 k1 e1 => hK b w1 k1 (by rw [e1]; rfl)
theorem tiS : TI Try.prog 28 33 2 16 := TI.of (z := .agg #[.int .i64 0, .float .f64 0]) (by kernel_rfl) (by kernel_rfl) rfl (by decide)
theorem live_app (a : List Smp) (x : Smp) : live (a ++ [x]) = if x.2 != 9218868437227405314 then live a ++ [x] else live a := by
  unfold live
  rw [List.filter_append, List.filter_cons]
  split <;> simp
theorem call_ok {name : ByteArray} {s : Sl} {l : List Smp} {fr to : Int} {q : Nat} (hs : Rd w0 s 2 (smps l)) (hl : l.length ≤ 100000000) (h64 : ∀ x ∈ l, x.2 < 18446744073709551616) {K : Nat → Bool → Int → World → Prop}
    (hK : ∀ w', Keep w0 w' → K (callR name l fr to q).1 (callR name l fr to q).2.1 (callR name l fr to q).2.2 w') : C.over_Call name s fr to q w0 K := by
  unfold C.over_Call
  have hsn := rdS_len hs
  refine find_okT (fun x hx ax ω1 w1 top1 => ?_) (fun hx w1 k1 => ?_)
  · have ebad : (argB fr to && okB to fr l) = false → callR name l fr to q = (0, false, 1) := fun h => by unfold callR; rw [hx]; simp only; rw [if_neg (by rw [h]; decide)]
    have egood : argB fr to = true → okB to fr l = true → callR name l fr to q = if ((live l).length : Int) < leastT x then (0, false, 0) else (tellB x (live l) fr to, true, 0) := fun h h' => by unfold callR; rw [hx]; simp only; rw [if_pos (by rw [h, h']; rfl)]
    have bad : ∀ w', Keep w0 w' → (argB fr to && okB to fr l) = false → K 0 false 1 w' := fun w' k h => by have := hK w' k; rw [ebad h] at this; exact this
    refine isNil_T <| cond_f rfl ?_
    have ha : argB fr to = !(decide (fr < -1099511627776) || (decide (fr ≥ to) || (decide (to > 1125899906842624) || decide (to < 0)))) := rfl
    refine cond_of (fun h1 => bad w1 top1.k (by rw [ha, h1]; rfl)) (fun h1 => ?_)
    refine cond_of (fun h2 => bad w1 top1.k (by rw [ha, h1, h2]; rfl)) (fun h2 => ?_)
    refine cond_of (fun h3 => bad w1 top1.k (by rw [ha, h1, h2, h3]; rfl)) (fun h3 => ?_)
    refine cond_of (fun h4 => bad w1 top1.k (by rw [ha, h1, h2, h3, h4]; rfl)) (fun h4 => ?_)
    rw [h1, h2, h3, h4] at ha
    have ha : argB fr to = true := ha
    refine new_T (ω := ω1) 1 fun g ω2 w2 k2 b2 => st_T b2 (by simp) fun ω3 w3 k3 b3 => st_TA b3 (by simp) fun ω4 w4 k4 b4 => st_TA b4 (by simp) fun ω5 w5 k5 b5 => ?_
    have top5 := (((top1.stp k2).stp k3).stp k4).stp k5
    unfold C.over_Call.S9
    refine C.over_Call.L5_ind fun X hX => ?_
    have key : ∀ (d i : Nat) (v : Sl) (ω : Tg) (w : World), i + d = l.length → Top w0 ω w → WB ω w g v fr to → OT ω w 3 33 2 v (smps (live (l.take i))) → okB to fr (l.take i) = true → X s fr to (tellV x) (some ⟨g, 0, none⟩) s ((s.n : Nat) : Int) (i : Int) w := by
      intro d
      induction d with
      | zero =>
        intro i v ω w hi top b o ok
        refine hX _ _ _ _ _ _ _ _ _ ?_
        unfold C.over_Call.S7 C.over_Call.S2
        rw [List.take_of_length_le (by omega)] at o ok
        have hvn := rdS_len o.rd
        have hll : (live l).length ≤ l.length := List.length_filter_le _ _
        refine cond_d (fun h => by omega) (fun _ => ?_)
        have bd := b.stp (drew_stp ω w)
        have topd := top.stp (drew_stp ω w)
        have c0 : w.drew.cell? ⟨g, 0, none⟩ = some v.v := by rw [bd.cell]; rfl
        refine ptr_at <| cSl_at c0 <| least_T fun w6 k6 => isI_at ⟨same1 c0 k6, ?_⟩
        have eg := egood ha ok
        have k06 := Keep.trans topd.k k6
        refine cond_d (fun hlt => ?_) (fun hge => ?_)
        · have := hK w6 k06
          rw [eg, if_pos (by omega)] at this
          exact this
        · rw [if_neg (by omega)] at eg
          refine ptr_at <| cSl_at (k6.cell c0) <| cI_at (n := fr) (k6.cell (by rw [addr_add, bd.cell]; rfl)) <| cI_at (n := to) (k6.cell (by rw [addr_add, bd.cell]; rfl)) ?_
          refine value_T ax ((o.stp (drew_stp ω w)).rd.keep k6) (by omega) (by omega) (fun y hy => h64 y (List.mem_filter.1 hy).1) fun b7 w7 k7 e7 => isF_at <| told_ok ?_
          have := hK w7 (Keep.trans k06 k7)
          rw [eg] at this
          rw [e7]; exact this
      | succ d ih =>
        intro i v ω w hi top b o ok
        refine hX _ _ _ _ _ _ _ _ _ ?_
        unfold C.over_Call.S7
        have him : i < l.length := by omega
        refine cond_d (fun _ => ?_) (fun h => by omega)
        refine rdS_at (hs.keep top.k) (k := i) rfl (List.getElem?_eq_getElem him) fun p f0 f1 => cI_at f0 <| cF_at f1 ?_
        have hx' : l[i] ∈ l := List.getElem_mem him
        have est := okB_step (to := to) (fr := fr) him
        have elv : live (l.take (i + 1)) = if l[i].2 != 9218868437227405314 then live (l.take i) ++ [l[i]] else live (l.take i) := by rw [List.take_succ_eq_append_getElem him, live_app]
        rw [ok, Bool.true_and] at est
        refine locT (ω := ω) rfl fun g3 ω3 w3 k3 b3 => ?_
        have sd := drew_stp ω3 w3
        have topd := (top.stp k3).stp sd
        have bd := (b.stp k3).stp sd
        have b3d := b3.stp sd
        have od := (o.stp k3).stp sd
        have cT : w3.drew.cell? ⟨g3, 0, none⟩ = some (.int .i64 l[i].1) := by rw [b3d.cell]; rfl
        have cV : w3.drew.cell? (Addr.add ⟨g3, 0, none⟩ 1) = some (.float .f64 l[i].2) := by rw [addr_add, b3d.cell]; rfl
        have fail : okB to fr (l.take (i + 1)) = false → K 0 false 1 w3.drew := fun h => bad _ topd.k (by rw [okB_bad h, Bool.and_false])
        have hvn := rdS_len od.rd
        have hll : (live (l.take i)).length ≤ l.length := Nat.le_trans (List.length_filter_le _ _) (by rw [List.length_take]; omega)
        -- behind the checks
        have go : okB to fr (l.take (i + 1)) = true → ∀ {Z : World → Prop}, (∀ (v' : Sl) (ω' : Tg) (w' : World), Top w0 ω' w' → WB ω' w' g v' fr to → OT ω' w' 3 33 2 v' (smps (live (l.take (i + 1)))) → Z w') →
            G.cF .f64 (Addr.add ⟨g3, 0, none⟩ 1) w3.drew fun f => C.math_Float64bits f w3.drew fun n w6 => G.cond (n != 9218868437227405314) (G.ptr (some ⟨g, 0, none⟩) fun p74 => G.cSl p74 w6 fun l75 => G.cI .i64 ⟨g3, 0, none⟩ w6 fun n76 => G.cF .f64 (Addr.add ⟨g3, 0, none⟩ 1) w6 fun f77 => G.new (.cells #[.int .i64 n76, .float .f64 f77] 33) w6 fun p78 w79 => G.runSl C.pr (Builtin.append_ #[28, 28] 28 #[l75.v, (Sl.v (⟨some p78, 1, 1⟩ : Sl))]) w79 fun l80 w81 => G.ptr (some ⟨g, 0, none⟩) fun p82 => G.st p82 l80.v w81 fun w83 => Z w83) (Z w6) := by
          intro hok Z hZ
          refine cF_at cV <| bits_ok ?_
          refine cond_of (fun hb => ?_) (fun hb => ?_)
          · have hb' : (l[i].2 != 9218868437227405314) = true := bne_iff_ne.2 fun e => by rw [e] at hb; exact absurd hb (by decide)
            rw [if_pos hb'] at elv
            refine ptr_at <| cSl_at (s := v) (by rw [bd.cell]; rfl) <| cI_at cT <| cF_at cV ?_
            refine push_T (P := Try.prog) tiS od (n := 1) rfl (by intro v hv; simp at hv; rcases hv with rfl | rfl <;> rfl) (by simp only [maxLen]; omega) (by omega) fun r ω4 w4 k4 o4 _ => ptr_at ?_
            refine st_T (bd.stp k4) (by simp) fun ω5 w5 k5 b5 => hZ r ω5 w5 ((topd.stp k4).stp k5) b5 ?_
            have o5 := o4.stp k5
            rw [elv, smps_app]; exact o5
          · have hb' : ¬ (l[i].2 != 9218868437227405314) = true := by
              intro hc
              have : ((l[i].2 : Nat) : Int) = 9218868437227405314 := by simpa using hb
              have : l[i].2 = 9218868437227405314 := by omega
              rw [this] at hc; exact absurd hc (by decide)
            rw [if_neg hb'] at elv
            exact hZ v ω3 w3.drew topd bd (by rw [elv]; exact od)
        refine cI_at cT <| cond_d (fun h => ?_) (fun h5 => cI_at cT <| cond_d (fun h => ?_) (fun h6 => cond_d (fun h => ?_) (fun h => ?_)))
        · -- not behind the beginning
          refine fail ?_
          rw [est]
          by_cases h0 : i = 0
          · rw [if_pos h0, decide_eq_false (by omega)]; rfl
          · rw [if_neg h0]
            have hlow := okB_low to (l.take i) fr (l[i - 1]'(by omega)) ok (by
              rw [List.getLast?_eq_getElem?, List.length_take, List.getElem?_take_of_lt (by omega), show min i l.length - 1 = i - 1 by omega]
              exact List.getElem?_eq_getElem _)
            rw [decide_eq_false (by omega)]; rfl
        · refine fail ?_
          rw [est, decide_eq_false (show ¬ l[i].1 ≤ to by omega), Bool.and_false]
        · refine cI_at cT ?_
          rw [wI64 (by omega) (by omega), wI64 (by omega) (by omega)]
          refine rdS_at (hs.keep topd.k) (k := i - 1) (by omega) (List.getElem?_eq_getElem (by omega)) fun p f0 _ => cI_at f0 ?_
          rw [if_neg (by omega)] at est
          refine cond_d (fun h8 => fail ?_) (fun h8 => ?_)
          · rw [est, decide_eq_false (by omega)]; rfl
          · rw [decide_eq_true (by omega), decide_eq_true (by omega)] at est
            rw [show (i : Int) + 1 = ((i + 1 : Nat) : Int) by omega]
            exact go est fun v' ω' w' top' b' o' => ih (i + 1) v' ω' w' (by omega) top' b' o' est
        · rw [if_pos (by omega), decide_eq_true (by omega), decide_eq_true (by omega)] at est
          rw [wI64 (by omega) (by omega), show (i : Int) + 1 = ((i + 1 : Nat) : Int) by omega]
          exact go est fun v' ω' w' top' b' o' => ih (i + 1) v' ω' w' (by omega) top' b' o' est
    exact key l.length 0 nilS ω5 w5 (by omega) top5 b5 (OT.nil _ _ _ _ _) rfl
  · have e : callR name l fr to q = (0, false, 60) := by unfold callR; rw [hx]
    rw [e] at hK
    exact hK w1 k1
end Go.Proofs.Ytaciaidehamfgaa.Ov
