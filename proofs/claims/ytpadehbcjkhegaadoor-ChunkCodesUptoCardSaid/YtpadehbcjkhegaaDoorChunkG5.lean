/- Layer 8: the reference's Decode and Encode. Own work. -/
import Derived.Test.YtpadehbcjkhegaaDoorChunkG
import Derived.Test.YtpadehbcjkhegaaDoorChunkJ
namespace Go.Proofs.YtpadehbcjkhegaaDoor.Chunk
open Go Vm Go.RowKit Num Mem Bits Vint
variable {ω ω' : Tg} {w w' w0 : World} {gr gs gp p : Nat} {bs : List UInt8} {T D A B : Int} {V : Nat} {bad : Bool}

/-- How a round of the reading ends. -/
def endT (r : Option Addr) (l : Sl) (Kc : Sl → World → Prop) (w : World) : Prop :=
  G.ptr r fun p57 => G.cP (p57.add 1) w.drew fun p58 => G.ptr p58 fun p59 => G.cI .i64 p59 w.drew fun n60 => G.ptr r fun p61 => G.cP (p61.add 1) w.drew fun p62 => G.ptr p62 fun p63 => G.cI .u64 (p63.add 2) w.drew fun n64 => C.math_Float64frombits n64 w.drew fun f65 w66 => sameAt (p57.add 1) 1 w.drew w66 ∧ sameAt p59 1 w.drew w66 ∧ (G.new (.cells #[(.int .i64 n60), (.float .f64 f65)] 26) w66 fun p67 w68 => G.runSl Tryd.prog (Builtin.append_ #[24, 24] 24 #[l.v, (Sl.v (⟨some p67, 1, 1⟩ : Sl))]) w68 fun l69 w70 => Kc l69 w70)
def tailT (r : Option Addr) (l : Sl) (Kc : Sl → World → Prop) (w : World) : Prop :=
  G.ptr r fun p51 => G.cP (p51.add 1) w fun p52 => G.ptr p52 fun p53 => G.cI .i64 p53 w fun n54 => G.cond (decide (n54 < (0 : Int))) (G.ptr r fun p55 => G.st (p55.add 2) (.bool true) w fun w56 => endT r l Kc w56) (G.ptr r fun p71 => G.cP (p71.add 1) w fun p72 => G.ptr p72 fun p73 => G.cI .i64 p73 w fun n74 => G.cond (decide (n74 > (1125899906842624 : Int))) (G.ptr r fun p75 => G.st (p75.add 2) (.bool true) w fun w76 => endT r l Kc w76) (endT r l Kc w))
theorem end_ok (h : RrS ω w 1 gr gp gs bs p T D V A B bad) {s : Sl} {lst : List Smp} (o : OS ω w 8 s lst) (hl : lst.length ≤ 100000) {Kc : Sl → World → Prop}
    (hK : ∀ r ω' w', Stp (Rng 1 9) ω ω' w w' → RrS ω' w' 1 gr gp gs bs p T D V A B bad → OS ω' w' 8 r (lst ++ [(T, V)]) → Kc r w') : endT (wp gr) s Kc w := by
  unfold endT
  have kd := drew_stp ω w
  have hd := h.non kd
  have od := o.stp kd
  refine ptr_at (cP_at (b := wp gp) (by rw [addr_add, hd.blk.cell]; rfl) (ptr_at (cI_at (n := T) (by rw [hd.st.cell]; rfl) ?_)))
  refine ptr_at (cP_at (b := wp gp) (by rw [addr_add, hd.blk.cell]; rfl) (ptr_at (cI_at (n := (V : Int)) (by rw [addr_add, hd.st.cell]; rfl) ?_)))
  refine fbits_at ⟨same_refl _ _ _, same_refl _ _ _, ?_⟩
  have hsn := OS.len od
  refine push_T tiS od (n := 1) rfl (by intro v hv; simp at hv; rcases hv with rfl | rfl <;> rfl) (by simp only [maxLen]; omega) (by omega) fun q ω5 w5 k5 o5 hq => ?_
  refine hK q ω5 w5 ((kd.non _).trans (k5.rng (by decide) (by decide))) (hd.stp k5 rfl rfl rfl rfl) ?_
  rw [OS, smps_app]; exact o5
theorem up4 (h : Stp (Rng 1 4) ω ω' w w') : Stp (Rng 1 9) ω ω' w w' := rng_up (by decide) h
theorem tail_ok (h : RrS ω w 1 gr gp gs bs p T D V A B bad) {s : Sl} {lst : List Smp} (o : OS ω w 8 s lst) (hl : lst.length ≤ 100000) {Kc : Sl → World → Prop}
    (hK : ∀ r b' ω' w', Stp (Rng 1 9) ω ω' w w' → RrS ω' w' 1 gr gp gs bs p T D V A B b' → OS ω' w' 8 r (lst ++ [(T, V)]) → (0 ≤ T → T ≤ 1125899906842624 → b' = bad) → Kc r w') : tailT (wp gr) s Kc w := by
  unfold tailT
  refine h.rdP (ptr_at (cI_at (n := T) (by rw [h.st.cell]; rfl) ?_))
  refine cond_d (fun h1 => ptr_at (h.setBad true fun ω2 w2 s2 r2 => ?_)) (fun h1 => ?_)
  · exact end_ok r2 (o.stp s2 rfl) hl fun r ω3 w3 s3 r3 o3 => hK r true ω3 w3 ((up4 s2).trans s3) r3 o3 (fun h _ => by omega)
  refine h.rdP (ptr_at (cI_at (n := T) (by rw [h.st.cell]; rfl) ?_))
  refine cond_d (fun h2 => ptr_at (h.setBad true fun ω2 w2 s2 r2 => ?_)) (fun h2 => ?_)
  · exact end_ok r2 (o.stp s2 rfl) hl fun r ω3 w3 s3 r3 o3 => hK r true ω3 w3 ((up4 s2).trans s3) r3 o3 (fun _ h => by omega)
  · exact end_ok h o hl fun r ω3 w3 s3 r3 o3 => hK r bad ω3 w3 s3 r3 o3 (fun _ _ => rfl)

/-- What has been read, if samples were ahead. -/
def GoodR (bs : List UInt8) (p0 n : Nat) (lst : List Smp) (p : Nat) (A B D : Int) (bad : Bool) : Prop :=
  ∀ m tail, Valid m → m.length = n → rest bs p0 = (run m).1 ++ tail → lst = m.take lst.length ∧ (run lst).1 ++ rest bs p = (run m).1 ++ tail ∧ bad = false ∧ reprR (run lst).2 A B ∧ D = dlt lst
theorem goodR_step {p0 n p1 p2 : Nat} {lst : List Smp} {A B D A' B' D' : Int} {b1 b2 : Bool} {s : Smp} (h : GoodR bs p0 n lst p1 A B D b1) (hi : lst.length < n)
    (step : ∀ (x : Smp) tail', Valid (lst ++ [x]) → reprR (run lst).2 A B → D = dlt lst → b1 = false → rest bs p1 = (emit lst (run lst).2 x).1 ++ tail' → s = x ∧ rest bs p2 = tail' ∧ b2 = false ∧ reprR (emit lst (run lst).2 x).2 A' B' ∧ D' = dlt (lst ++ [x])) : GoodR bs p0 n (lst ++ [s]) p2 A' B' D' b2 := by
  intro m tail hm hn e
  obtain ⟨h1, h2, h3, h4, h5⟩ := h m tail hm hn e
  have him : lst.length < m.length := by omega
  have et : m.take (lst.length + 1) = lst ++ [m[lst.length]] := by rw [List.take_add_one, List.getElem?_eq_getElem him, ← h1]; rfl
  have hv : Valid (lst ++ [m[lst.length]]) := by
    rw [← et]
    have := hm
    rw [← List.take_append_drop (lst.length + 1) m] at this
    exact this.pre
  obtain ⟨R, hR⟩ := run_pre (m := m) (m.length - (lst.length + 1)) (lst.length + 1) (by omega)
  rw [et, run_snoc] at hR
  have er : rest bs p1 = (emit lst (run lst).2 m[lst.length]).1 ++ (R ++ tail) := by
    have : (run lst).1 ++ rest bs p1 = (run lst).1 ++ ((emit lst (run lst).2 m[lst.length]).1 ++ (R ++ tail)) := by
      rw [h2, hR]; simp only [List.append_assoc]
    exact List.append_cancel_left this
  obtain ⟨q1, q2, q3, q4, q5⟩ := step _ _ hv h4 h5 h3 er
  refine ⟨?_, ?_, q3, ?_, ?_⟩
  · rw [List.length_append, List.length_singleton, et, q1]
  · rw [q1, run_snoc, q2, hR]; simp only [List.append_assoc]
  · rw [q1, run_snoc]; exact q4
  · rw [q1]; exact q5
theorem r18 {u : Nat} (h : Rng 1 9 u = false) : Rng 1 6 u = false := by
  by_cases a : 1 ≤ u ∧ u < 1 + 6
  · have : Rng 1 9 u = true := by simp [Rng, Nat.ble_eq_true_of_le a.1, Nat.blt_eq.mpr (show u < 1 + 9 by omega)]
    rw [this] at h; cases h
  · exact rng_out (by omega)
theorem lastS_snoc' (l : List Smp) (s : Smp) : lastS (l ++ [s]) = s := lastS_snoc l s

theorem loop_rd (h : RrS ω w 1 gr gp gs bs p 0 0 0 64 0 false) {n : Nat} (hn : n ≤ 1000) {b : Sl} {K : C.tocsinref08_Decode.KT}
    (hK : ∀ s lst p' T' D' V' A' B' bad' ω' w', OS ω' w' 8 s lst → (∀ x ∈ lst, x.2 < 18446744073709551616) → lst.length ≤ n → (∀ m tail, Valid m → m.length = n → rest bs p = (run m).1 ++ tail → lst = m ∧ bad' = false) → Stp (Rng 1 9) ω ω' w w' → RrS ω' w' 1 gr gp gs bs p' T' D' V' A' B' bad' → C.tocsinref08_Decode.S2 K b (wp gr) s w') : C.tocsinref08_Decode.S9 K b (n : Int) (wp gr) nilS w := by
  unfold C.tocsinref08_Decode.S9
  refine C.tocsinref08_Decode.L5_ind fun X hX => ?_
  have done : ∀ (s : Sl) (lst : List Smp) p1 T1 D1 V1 A1 B1 b1 ω1 w1, lst.length ≤ n → (lst.length = n ∨ b1 = true) → OS ω1 w1 8 s lst → (∀ x ∈ lst, x.2 < 18446744073709551616) → GoodR bs p n lst p1 A1 B1 D1 b1 → Stp (Rng 1 9) ω ω1 w w1 → RrS ω1 w1 1 gr gp gs bs p1 T1 D1 V1 A1 B1 b1 → C.tocsinref08_Decode.S2 K b (wp gr) s w1 := by
    intro s lst p1 T1 D1 V1 A1 B1 b1 ω1 w1 hl hor o hx good st r
    refine hK s lst p1 T1 D1 V1 A1 B1 b1 ω1 w1 o hx hl (fun m tail hm hmn e => ?_) st r
    obtain ⟨u1, _, u3, _⟩ := good m tail hm hmn e
    rcases hor with hor | hor
    · rw [hor, ← hmn, List.take_length] at u1
      exact ⟨u1, u3⟩
    · rw [hor] at u3; cases u3
  have key : ∀ (d : Nat) (s : Sl) (lst : List Smp) p1 T1 D1 V1 A1 B1 b1 ω1 w1, lst.length + d = n → okR A1 B1 → V1 < 18446744073709551616 → (lst ≠ [] → lastS lst = (T1, V1)) → OS ω1 w1 8 s lst → (∀ x ∈ lst, x.2 < 18446744073709551616) → GoodR bs p n lst p1 A1 B1 D1 b1 → Stp (Rng 1 9) ω ω1 w w1 → RrS ω1 w1 1 gr gp gs bs p1 T1 D1 V1 A1 B1 b1 → X b (n : Int) (wp gr) s (lst.length : Int) w1 := by
    intro d
    induction d with
    | zero =>
      intro s lst p1 T1 D1 V1 A1 B1 b1 ω1 w1 hi hW hV hlast o hx good st r
      refine hX _ _ _ _ _ _ ?_
      unfold C.tocsinref08_Decode.S7
      exact cond_d (fun h => by omega) (fun _ => done s lst p1 T1 D1 V1 A1 B1 b1 ω1 w1 (by omega) (.inl (by omega)) o hx good st r)
    | succ d ih =>
      intro s lst p1 T1 D1 V1 A1 B1 b1 ω1 w1 hi hW hV hlast o hx good st r
      refine hX _ _ _ _ _ _ ?_
      unfold C.tocsinref08_Decode.S7
      refine cond_d (fun _ => ?_) (fun h => by omega)
      refine r.rdB (cond_of (fun hb => ?_) (fun hb => ?_))
      case _ =>
        have hb1 : b1 = false := by cases b1; rfl; cases hb
        subst hb1
        -- how each way goes on
        have fin : ∀ T3 D3 V3 p3 A3 B3 b3 ω3 w3, V3 < 18446744073709551616 → okR A3 B3 → OS ω3 w3 8 s lst → Stp (Rng 1 9) ω ω3 w w3 → RrS ω3 w3 1 gr gp gs bs p3 T3 D3 V3 A3 B3 b3 →
            (∀ (x : Smp) tail', Valid (lst ++ [x]) → reprR (run lst).2 A1 B1 → D1 = dlt lst → rest bs p1 = (emit lst (run lst).2 x).1 ++ tail' → (T3, V3) = x ∧ rest bs p3 = tail' ∧ b3 = false ∧ reprR (emit lst (run lst).2 x).2 A3 B3 ∧ D3 = dlt (lst ++ [x])) →
            tailT (wp gr) s (fun l w => X b (n : Int) (wp gr) l (IntKind.i64.wrap ((lst.length : Int) + (1 : Int))) w) w3 := by
          intro T3 D3 V3 p3 A3 B3 b3 ω3 w3 hV3 hW3 o3 st3 r3 step
          refine tail_ok r3 o3 (by omega) fun q b4 ω4 w4 s4 r4 o4 hb4 => ?_
          have := ih q (lst ++ [(T3, V3)]) p3 T3 D3 V3 A3 B3 b4 ω4 w4 (by rw [List.length_append, List.length_singleton]; omega) hW3 hV3 (fun _ => lastS_snoc _ _) o4 (fun x hx' => by
            rcases List.mem_append.1 hx' with h | h
            · exact hx x h
            · rw [List.mem_singleton.1 h]; exact hV3) (goodR_step good (by omega) fun x tail' hv hr hD _ e => by
              obtain ⟨u1, u2, u3, u4, u5⟩ := step x tail' hv hr hD e
              have hxx := wrong_zero hv.inv.2.1
              have hT : T3 = x.1 := by rw [← u1]
              exact ⟨u1, u2, (hb4 (by omega) (by omega)).trans u3, u4, u5⟩) (st3.trans s4) r4
          rw [wI64 (by omega) (by omega)]
          rw [List.length_append, List.length_singleton] at this
          exact this
        refine cond_eq (fun h0 => ?_) (fun h0 => cond_eq (fun h1 => ?_) (fun h1 => ?_))
        · obtain rfl : lst = [] := List.eq_nil_of_length_eq_zero (by omega)
          refine number_ok r fun v p2 b2 ω2 w2 hv hg s2 r2 => r2.rdP ⟨by decide, ptr_at (r2.set0 fun ω3 w3 s3 r3 => ?_)⟩
          have s03 := (st.trans (s2.mono fun u hu => r18 hu)).trans (up4 s3)
          have o3 := (o.stp s2 rfl).stp s3 rfl
          have eand : Go.bits .and .u64 (v : Int) (1 : Int) = ((v % 2 : Nat) : Int) := by
            rw [show (1 : Int) = ((1 : Nat) : Int) from rfl, bits_and rfl (by simp only [IntKind.bits]; omega) (by decide), Nat.and_one_is_mod]
          have eshr : shr .u64 (v : Int) (1 : Int) = ((v / 2 : Nat) : Int) := by
            have := shr64 (x := v) (k := 1) (by decide)
            rw [show ((1 : Nat) : Int) = (1 : Int) from rfl] at this
            rw [this]
          rw [eand]
          -- what was ahead
          have look : ∀ (x : Smp) tail', Valid ([] ++ [x]) → rest bs p1 = (emit [] (run []).2 x).1 ++ tail' → v = zz x.1 ∧ rest bs p2 = low x.2 64 ++ tail' ∧ b2 = false ∧ 0 ≤ x.1 ∧ x.1 ≤ 1125899906842624 ∧ x.2 < 18446744073709551616 := by
            intro x tail' hvx e
            have hxx := wrong_zero hvx.inv.2.1
            have ee : emit [] (run []).2 x = (byteBits (putU (zz x.1)) ++ low x.2 64, (run []).2) := rfl
            rw [ee, List.append_assoc] at e
            obtain ⟨q1, q2, q3⟩ := hg rfl (zz x.1) _ (zz_lt50 hxx.1 hxx.2.1) e
            exact ⟨q1, q2, q3, hxx.1, hxx.2.1, hvx.inv.2.2⟩
          have on : ∀ (bq : Bool) ω4 w4, Stp (Rng 1 9) ω ω4 w w4 → OS ω4 w4 8 s [] → RrS ω4 w4 1 gr gp gs bs p2 (IntKind.i64.wrap (shr .u64 (v : Int) (1 : Int))) D1 V1 A1 B1 bq → (bq = b2 ∨ v % 2 = 1) →
              G.ptr (wp gr) fun p45 => G.cP (p45.add 1) w4.drew fun p46 => C.tocsinref08_Reader_bits (wp gr) (64 : Int) w4.drew fun n47 w48 => sameAt (p45.add 1) 1 w4.drew w48 ∧ (G.ptr p46 fun p49 => G.st (p49.add 2) (.int .u64 n47) w48 fun w50 => tailT (wp gr) s (fun l w => X b (n : Int) (wp gr) l (IntKind.i64.wrap ((([] : List Smp).length : Int) + (1 : Int))) w) w50) := by
            intro bq ω4 w4 s4 o4 r4 hbq
            have kd := drew_stp ω4 w4
            have rd := r4.non kd
            refine ptr_at (cP_at (b := wp gp) (by rw [addr_add, rd.blk.cell]; rfl) ?_)
            refine gbits_ok rd (k := 64) (by decide) rfl fun V5 p5 b5 ω5 w5 hV5 hg5 s5 r5 => ⟨?_, ?_⟩
            · rw [addr_add]; exact same_cell (v := .pointer (wp gp)) (by rw [rd.blk.cell]; rfl) (by rw [r5.blk.cell]; rfl)
            refine ptr_at (r5.setA (by decide) (T' := _) (D' := D1) (V' := V5) (A' := A1) (B' := B1) rfl fun ω6 w6 s6 r6 => ?_)
            refine fin _ D1 V5 p5 A1 B1 b5 ω6 w6 hV5 hW (((o4.stp kd).stp s5 rfl).stp s6 rfl) (((s4.trans (kd.non _)).trans (up4 s5)).trans (up4 s6)) r6 fun x tail' hvx hr hD e => ?_
            obtain ⟨q1, q2, q3, hx0, hx1, hx2⟩ := look x tail' hvx e
            have ez : zz x.1 = (2 * x.1).toNat := by unfold zz; rw [if_pos hx0]
            obtain ⟨u1, u2, u3⟩ := hg5 x.2 tail' hx2 q2
            refine ⟨?_, u2, ?_, hr, by rw [hD]; rfl⟩
            · refine Prod.ext ?_ u1
              show IntKind.i64.wrap (shr .u64 (v : Int) (1 : Int)) = x.1
              rw [eshr, q1, ez, wI64 (by omega) (by omega)]
              omega
            · rcases hbq with hbq | hbq
              · rw [u3, hbq]; exact q3
              · omega
          refine cond_eq (fun hodd => ?_) (fun hev => ?_)
          · refine ptr_at (r3.setBad true fun ω4 w4 s4 r4 => ?_)
            exact on true ω4 w4 (s03.trans (up4 s4)) (o3.stp s4 rfl) r4 (.inr (by omega))
          · exact on b2 ω3 w3 s03 o3 r3 (.inl rfl)
        · obtain ⟨a, rfl⟩ : ∃ a, lst = [a] := by
            cases lst with
            | nil => simp at h1
            | cons a r => cases r with
              | nil => exact ⟨a, rfl⟩
              | cons _ _ => simp at h1; omega
          have hla : a = (T1, V1) := hlast (by simp)
          subst hla
          refine number_ok r fun v p2 b2 ω2 w2 hv hg s2 r2 => ?_
          have s02 := st.trans (s2.mono fun u hu => r18 hu)
          have o2 := o.stp s2 rfl
          have look : ∀ (x : Smp) tail', Valid ([(T1, V1)] ++ [x]) → rest bs p1 = (emit [(T1, V1)] (run [(T1, V1)]).2 x).1 ++ tail' → (v : Int) = x.1 - T1 ∧ rest bs p2 = (vform (run [(T1, V1)]).2 (x.2 ^^^ V1)).1 ++ tail' ∧ b2 = false ∧ 0 ≤ T1 ∧ T1 < x.1 ∧ x.1 ≤ 1125899906842624 ∧ x.2 < 18446744073709551616 := by
            intro x tail' hvx e
            have hxx := wrong_zero hvx.inv.2.1
            have hav := hvx.inv.1.mem (T1, V1) (List.mem_singleton.2 rfl)
            have hlt : T1 < x.1 := hxx.2.2.2 (T1, V1) rfl
            have ee : emit [(T1, V1)] (run [(T1, V1)]).2 x = (byteBits (putU (uN (x.1 - T1))) ++ (vform (run [(T1, V1)]).2 (x.2 ^^^ V1)).1, (vform (run [(T1, V1)]).2 (x.2 ^^^ V1)).2) := rfl
            rw [ee, List.append_assoc] at e
            obtain ⟨q1, q2, q3⟩ := hg rfl (uN (x.1 - T1)) _ (uN_lt _) e
            have euN : ((uN (x.1 - T1) : Nat) : Int) = x.1 - T1 := by unfold uN; omega
            exact ⟨by rw [q1]; exact euN, q2, q3, hav.1, hlt, hxx.2.1, hvx.inv.2.2⟩
          refine cond_d (fun hbig => ?_) (fun hsm => ?_)
          · refine ptr_at (r2.setBad true fun ω3 w3 s3 r3 => ?_)
            refine fin T1 D1 V1 p2 A1 B1 true ω3 w3 hV hW (o2.stp s3 rfl) (s02.trans (up4 s3)) r3 fun x tail' hvx hr hD e => ?_
            obtain ⟨q1, _, _, q4, q5, q6, _⟩ := look x tail' hvx e
            omega
          · refine r2.rdP (ptr_at (r2.setA (by decide) (T' := T1) (D' := IntKind.i64.wrap (v : Int)) (V' := V1) (A' := A1) (B' := B1) rfl fun ω3 w3 s3 r3 => ?_))
            have kd := drew_stp ω3 w3
            have rd := r3.non kd
            refine rd.rdP (rd.rdP (ptr_at (cI_at (n := T1) (by rw [rd.st.cell]; rfl) (rd.rdP (ptr_at (cI_at (n := IntKind.i64.wrap (v : Int)) (by rw [addr_add, rd.st.cell]; rfl) (ptr_at (rd.set0 fun ω4 w4 s4 r4 => ?_))))))))
            have kd4 := drew_stp ω4 w4
            have rd4 := r4.non kd4
            refine ptr_at (cP_at (b := wp gp) (by rw [addr_add, rd4.blk.cell]; rfl) ?_)
            refine gvalue_ok rd4 hV hW fun V5 p5 b5 A5 B5 ω5 w5 hV5 hW5 hg5 s5 r5 => ⟨?_, ?_⟩
            · rw [addr_add]; exact same_cell (v := .pointer (wp gp)) (by rw [rd4.blk.cell]; rfl) (by rw [r5.blk.cell]; rfl)
            refine ptr_at (r5.setA (by decide) (T' := _) (D' := IntKind.i64.wrap (v : Int)) (V' := V5) (A' := A5) (B' := B5) rfl fun ω6 w6 s6 r6 => ?_)
            refine fin _ _ V5 p5 A5 B5 b5 ω6 w6 hV5 hW5 ((((((o2.stp s3 rfl).stp kd).stp s4 rfl).stp kd4).stp s5 rfl).stp s6 rfl) ((((((s02.trans (up4 s3)).trans (kd.non _)).trans (up4 s4)).trans (kd4.non _)).trans (up4 s5)).trans (up4 s6)) r6 fun x tail' hvx hr hD e => ?_
            obtain ⟨q1, q2, q3, q4, q5, q6, q7⟩ := look x tail' hvx e
            obtain ⟨u1, u2, u3, u4⟩ := hg5 (run [(T1, V1)]).2 (x.2 ^^^ V1) tail' (run_ok hvx.inv.1) hr (xor64_lt q7 hV) q2
            have ev : IntKind.i64.wrap (v : Int) = x.1 - T1 := by rw [q1, wI64 (by omega) (by omega)]
            refine ⟨?_, u2, u3.trans q3, u4, by rw [ev]; rfl⟩
            refine Prod.ext ?_ ?_
            · show IntKind.i64.wrap (T1 + IntKind.i64.wrap (v : Int)) = x.1
              rw [ev, wI64 (by omega) (by omega)]; omega
            · show V5 = x.2
              rw [u1, xor_back]
        · obtain ⟨c, a, rr, hr⟩ : ∃ c a rr, lst.reverse = c :: a :: rr := by
            rcases hr : lst.reverse with _ | ⟨c, _ | ⟨a, rr⟩⟩
            · have := congrArg List.length hr; simp at this; exact absurd (by rw [this]; rfl) h0
            · have := congrArg List.length hr; simp at this; exact absurd (by rw [this]; rfl) h1
            · exact ⟨c, a, rr, rfl⟩
          have hll : lst = rr.reverse ++ [a, c] := by rw [← List.reverse_reverse lst, hr]; simp
          have hc : c = (T1, V1) := by
            have := lastS_rev hr
            rw [← this]
            exact hlast (by rw [hll]; simp)
          subst hc
          refine gtime_ok r fun v p2 b2 ω2 w2 hv1 hv2 hg s2 r2 => ?_
          have s02 := st.trans (s2.mono fun u hu => r18 hu)
          have o2 := o.stp s2 rfl
          have look : ∀ (x : Smp) tail', Valid (lst ++ [x]) → rest bs p1 = (emit lst (run lst).2 x).1 ++ tail' → v = x.1 - T1 - (T1 - a.1) ∧ rest bs p2 = (vform (run lst).2 (x.2 ^^^ V1)).1 ++ tail' ∧ b2 = false ∧ 0 ≤ T1 ∧ T1 ≤ 1125899906842624 ∧ 0 ≤ a.1 ∧ a.1 < T1 ∧ T1 < x.1 ∧ x.1 ≤ 1125899906842624 ∧ x.2 < 18446744073709551616 := by
            intro x tail' hvx e
            have hxx := wrong_zero hvx.inv.2.1
            have hav := hvx.inv.1.mem a (by rw [hll]; simp)
            have hcv := hvx.inv.1.mem (T1, V1) (by rw [hll]; simp)
            have hlt : T1 < x.1 := hxx.2.2.2 (T1, V1) (by rw [hll]; simp)
            have hac : a.1 < T1 := by
              have hv0 := hvx.inv.1
              rw [hll, show rr.reverse ++ [a, (T1, V1)] = (rr.reverse ++ [a]) ++ [(T1, V1)] by simp] at hv0
              exact (wrong_zero hv0.inv.2.1).2.2.2 a (by simp)
            have ee : emit lst (run lst).2 x = (tform (x.1 - T1 - (T1 - a.1)) ++ (vform (run lst).2 (x.2 ^^^ V1)).1, (vform (run lst).2 (x.2 ^^^ V1)).2) := by unfold emit; rw [hr]
            rw [ee, List.append_assoc] at e
            obtain ⟨q1, q2, q3⟩ := hg (x.1 - T1 - (T1 - a.1)) _ (by have := hcv.1; have := hcv.2.1; simp only at *; omega) (by have := hcv.1; have := hcv.2.1; simp only at *; omega) e
            exact ⟨q1, q2, q3, hcv.1, hcv.2.1, hav.1, hac, hlt, hxx.2.1, hvx.inv.2.2⟩
          refine cond_d (fun hbig => ?_) (fun hsm => cond_d (fun hneg => ?_) (fun hge => ?_))
          · refine ptr_at (r2.setBad true fun ω3 w3 s3 r3 => ?_)
            refine fin T1 D1 V1 p2 A1 B1 true ω3 w3 hV hW (o2.stp s3 rfl) (s02.trans (up4 s3)) r3 fun x tail' hvx hr hD e => ?_
            obtain ⟨q1, _, _, q4, q5, q6, q7, q8, q9, _⟩ := look x tail' hvx e
            omega
          · refine ptr_at (r2.setBad true fun ω3 w3 s3 r3 => ?_)
            refine fin T1 D1 V1 p2 A1 B1 true ω3 w3 hV hW (o2.stp s3 rfl) (s02.trans (up4 s3)) r3 fun x tail' hvx hr hD e => ?_
            obtain ⟨q1, _, _, q4, q5, q6, q7, q8, q9, _⟩ := look x tail' hvx e
            omega
          · have kd2 := drew_stp ω2 w2
            have rd2 := r2.non kd2
            refine rd2.rdP (rd2.rdP (ptr_at (cI_at (n := D1) (by rw [addr_add, rd2.st.cell]; rfl) (ptr_at (rd2.setA (by decide) (T' := T1) (D' := IntKind.i64.wrap (D1 + v)) (V' := V1) (A' := A1) (B' := B1) rfl fun ω3 w3 s3 r3 => ?_)))))
            have kd := drew_stp ω3 w3
            have rd := r3.non kd
            refine rd.rdP (rd.rdP (ptr_at (cI_at (n := T1) (by rw [rd.st.cell]; rfl) (rd.rdP (ptr_at (cI_at (n := IntKind.i64.wrap (D1 + v)) (by rw [addr_add, rd.st.cell]; rfl) (ptr_at (rd.set0 fun ω4 w4 s4 r4 => ?_))))))))
            have kd4 := drew_stp ω4 w4
            have rd4 := r4.non kd4
            refine ptr_at (cP_at (b := wp gp) (by rw [addr_add, rd4.blk.cell]; rfl) ?_)
            refine gvalue_ok rd4 hV hW fun V5 p5 b5 A5 B5 ω5 w5 hV5 hW5 hg5 s5 r5 => ⟨?_, ?_⟩
            · rw [addr_add]; exact same_cell (v := .pointer (wp gp)) (by rw [rd4.blk.cell]; rfl) (by rw [r5.blk.cell]; rfl)
            refine ptr_at (r5.setA (by decide) (T' := _) (D' := IntKind.i64.wrap (D1 + v)) (V' := V5) (A' := A5) (B' := B5) rfl fun ω6 w6 s6 r6 => ?_)
            refine fin _ _ V5 p5 A5 B5 b5 ω6 w6 hV5 hW5 (((((((o2.stp kd2).stp s3 rfl).stp kd).stp s4 rfl).stp kd4).stp s5 rfl).stp s6 rfl) (((((((s02.trans (kd2.non _)).trans (up4 s3)).trans (kd.non _)).trans (up4 s4)).trans (kd4.non _)).trans (up4 s5)).trans (up4 s6)) r6 fun x tail' hvx hr' hD e => ?_
            obtain ⟨q1, q2, q3, q4, q5, q6, q7, q8, q9, q10⟩ := look x tail' hvx e
            obtain ⟨u1, u2, u3, u4⟩ := hg5 (run lst).2 (x.2 ^^^ V1) tail' (run_ok hvx.inv.1) hr' (xor64_lt q10 hV) q2
            have hDl : dlt lst = T1 - a.1 := by unfold dlt; rw [hr]
            have ev : IntKind.i64.wrap (D1 + v) = x.1 - T1 := by rw [hD, hDl, q1, wI64 (by omega) (by omega)]; omega
            have ee : emit lst (run lst).2 x = (tform (x.1 - T1 - (T1 - a.1)) ++ (vform (run lst).2 (x.2 ^^^ V1)).1, (vform (run lst).2 (x.2 ^^^ V1)).2) := by unfold emit; rw [hr]
            refine ⟨?_, u2, u3.trans q3, by rw [ee]; exact u4, by rw [ev, dlt_snoc hr]⟩
            refine Prod.ext ?_ ?_
            · show IntKind.i64.wrap (T1 + IntKind.i64.wrap (D1 + v)) = x.1
              rw [ev, wI64 (by omega) (by omega)]; omega
            · show V5 = x.2
              rw [u1, xor_back]
      case _ => exact done s lst p1 T1 D1 V1 A1 B1 b1 ω1 w1 (by omega) (.inr (by cases b1; cases hb; rfl)) o hx good st r
  refine key n nilS [] p 0 0 0 64 0 false ω w (by simp) (.inl rfl) (by decide) (fun h => absurd rfl h) (OT.nil _ _ _ _ _) (fun x hx => by cases hx) (fun m tail _ _ e => ⟨rfl, by rw [e]; rfl, rfl, rfl, rfl⟩) (Stp.refl _ _ _) h
end Go.Proofs.YtpadehbcjkhegaaDoor.Chunk
