/- Layer 8: samples are read. Own work. -/
import Derived.Test.YtpadehbcjkhegaaDoorChunkE
import Derived.Test.YtpadehbcjkhegaaDoorChunkF
import Derived.Test.YtpadehbcjkhegaaDoorVintY
namespace Go.Proofs.YtpadehbcjkhegaaDoor.Chunk
open Go Vm Go.RowKit Num Mem Bits Vint
variable {ω ω' : Tg} {w w' w0 : World} {t gd p k : Nat} {bs : List UInt8} {A B : Int} {kn bad : Bool}

/-- What has been read, if samples were ahead. -/
def Good (bs : List UInt8) (p0 n : Nat) (lst : List Smp) (p : Nat) (A B : Int) (kn bad : Bool) : Prop :=
  ∀ m tail, Valid m → m.length = n → rest bs p0 = (run m).1 ++ tail → lst = m.take lst.length ∧ (run lst).1 ++ rest bs p = (run m).1 ++ tail ∧ bad = false ∧ repr (run lst).2 kn A B
theorem run_pre {m : List Smp} : ∀ (d i : Nat), i + d = m.length → ∃ R, (run m).1 = (run (m.take i)).1 ++ R
  | 0, i, h => ⟨[], by rw [List.take_of_length_le (by omega), List.append_nil]⟩
  | d + 1, i, h => by
    obtain ⟨R, hR⟩ := run_pre (m := m) d (i + 1) (by omega)
    have hi : i < m.length := by omega
    have e : run (m.take (i + 1)) = ((run (m.take i)).1 ++ (emit (m.take i) (run (m.take i)).2 m[i]).1, (emit (m.take i) (run (m.take i)).2 m[i]).2) := by
      rw [List.take_add_one, List.getElem?_eq_getElem hi]
      exact run_snoc _ _
    rw [e] at hR
    exact ⟨_, by rw [hR, List.append_assoc]⟩
theorem good_step {p0 n p1 p2 : Nat} {lst : List Smp} {A' B' : Int} {kn' b1 b2 : Bool} {s : Smp} (h : Good bs p0 n lst p1 A B kn b1) (hi : lst.length < n)
    (step : ∀ (x : Smp) tail', Valid (lst ++ [x]) → repr (run lst).2 kn A B → rest bs p1 = (emit lst (run lst).2 x).1 ++ tail' → s = x ∧ rest bs p2 = tail' ∧ b2 = b1 ∧ repr (emit lst (run lst).2 x).2 kn' A' B') : Good bs p0 n (lst ++ [s]) p2 A' B' kn' b2 := by
  intro m tail hm hn e
  obtain ⟨h1, h2, h3, h4⟩ := h m tail hm hn e
  have him : lst.length < m.length := by omega
  have et : m.take (lst.length + 1) = lst ++ [m[lst.length]] := by rw [List.take_add_one, List.getElem?_eq_getElem him, ← h1]; rfl
  have hv : Valid (lst ++ [m[lst.length]]) := by
    rw [← et]
    have := hm
    rw [← List.take_append_drop (lst.length + 1) m] at this
    exact this.pre
  obtain ⟨R, hR⟩ := run_pre (m := m) (m.length - (lst.length + 1)) (lst.length + 1) (by omega)
  rw [et, run_snoc] at hR
  have er : rest bs p1 = (emit lst (run lst).2 m[lst.length]).1 ++ (R ++ tail) := by
    have : (run lst).1 ++ rest bs p1 = (run lst).1 ++ ((emit lst (run lst).2 m[lst.length]).1 ++ (R ++ tail)) := by
      rw [h2, hR]; simp only [List.append_assoc]
    exact List.append_cancel_left this
  obtain ⟨q1, q2, q3, q4⟩ := step _ _ hv h4 er
  refine ⟨?_, ?_, q3.trans h3, ?_⟩
  · rw [List.length_append, List.length_singleton, et, q1]
  · rw [q1, run_snoc, q2, hR]; simp only [List.append_assoc]
  · rw [q1, run_snoc]; exact q4

theorem fbits_at {x : Nat} {K : Nat → World → Prop} (hK : K x w) : C.math_Float64frombits (x : Int) w K := by
  show K ((x : Int).toNat) w
  rw [Int.toNat_natCast]; exact hK
theorem xor_back (a b : Nat) : b ^^^ (a ^^^ b) = a := by rw [Nat.xor_comm a b, ← Nat.xor_assoc, Nat.xor_self, Nat.zero_xor]

theorem rng18 {u : Nat} (h : Rng 1 8 u = false) : Rng 1 3 u = false := by
  by_cases a : 1 ≤ u ∧ u < 1 + 3
  · have : Rng 1 8 u = true := by simp [Rng, Nat.ble_eq_true_of_le a.1, Nat.blt_eq.mpr (show u < 1 + 8 by omega)]
    rw [this] at h; cases h
  · exact rng_out (by omega)
theorem samples_ok (h : RdS ω w 1 gd bs p A B kn false) (hkn : kn = false) {n : Nat} (hn : n ≤ 1000) {K : Sl → World → Prop}
    (hK : ∀ s lst (p' : Nat) A' B' kn' bad' ω' w', OS ω' w' 5 s lst → (∀ x ∈ lst, x.2 < 18446744073709551616) → lst.length ≤ n → (∀ m tail, Valid m → m.length = n → rest bs p = (run m).1 ++ tail → lst = m ∧ bad' = false) → Stp (Rng 1 8) ω ω' w w' → RdS ω' w' 1 gd bs p' A' B' kn' bad' → K s w') : C.chunk_reader_samples (wp gd) (n : Int) w K := by
  unfold C.chunk_reader_samples C.chunk_reader_samples.S9
  refine C.chunk_reader_samples.L5_ind fun X hX => ?_
  have done : ∀ (s : Sl) (lst : List Smp) (p1 : Nat) A1 B1 kn1 b1 ω1 w1, lst.length ≤ n → (lst.length = n ∨ b1 = true) → OS ω1 w1 5 s lst → (∀ x ∈ lst, x.2 < 18446744073709551616) → Good bs p n lst p1 A1 B1 kn1 b1 → Stp (Rng 1 8) ω ω1 w w1 → RdS ω1 w1 1 gd bs p1 A1 B1 kn1 b1 → K s w1 := by
    intro s lst p1 A1 B1 kn1 b1 ω1 w1 hl hor o hx good st r
    refine hK s lst p1 A1 B1 kn1 b1 ω1 w1 o hx hl (fun m tail hm hmn e => ?_) st r
    obtain ⟨u1, _, u3, _⟩ := good m tail hm hmn e
    rcases hor with hor | hor
    · rw [hor, ← hmn, List.take_length] at u1
      exact ⟨u1, u3⟩
    · rw [hor] at u3; cases u3
  have key : ∀ (d : Nat) (s : Sl) (lst : List Smp) (p1 : Nat) A1 B1 kn1 b1 ω1 w1, lst.length + d = n → okW kn1 A1 B1 → OS ω1 w1 5 s lst → (∀ x ∈ lst, x.2 < 18446744073709551616) → Good bs p n lst p1 A1 B1 kn1 b1 → Stp (Rng 1 8) ω ω1 w w1 → RdS ω1 w1 1 gd bs p1 A1 B1 kn1 b1 → X (wp gd) (n : Int) s (lst.length : Int) w1 := by
    intro d
    induction d with
    | zero =>
      intro s lst p1 A1 B1 kn1 b1 ω1 w1 hi hW o hx good st r
      refine hX _ _ _ _ _ ?_
      unfold C.chunk_reader_samples.S7 C.chunk_reader_samples.S2
      exact cond_d (fun h => by omega) (fun _ => done s lst p1 A1 B1 kn1 b1 ω1 w1 (by omega) (.inl (by omega)) o hx good st r)
    | succ d ih =>
      intro s lst p1 A1 B1 kn1 b1 ω1 w1 hi hW o hx good st r
      refine hX _ _ _ _ _ ?_
      unfold C.chunk_reader_samples.S7
      refine cond_d (fun _ => ?_) (fun h => by omega)
      obtain ⟨gr, bb, rr⟩ := r.ex
      refine ptr_at (cB_at (b := b1) (by rw [addr_add, bb.cell]; rfl) ?_)
      refine cond_of (fun hb => ?_) (fun hb => ?_)
      case _ => 
        refine new_T (ω := ω1) 6 fun g ω2 w2 k2 b2 => ?_
        have r2 := r.non k2
        have o2 := o.stp k2
        have st2 := st.trans (k2.non _)
        -- the end of each way
        have fin : ∀ (T : Int) (V p3 : Nat) A3 B3 kn3 b3 ω3 w3, V < 18446744073709551616 → okW kn3 A3 B3 → BT ω3 w3 6 g 26 [.int .i64 T, .float .f64 0] → OS ω3 w3 5 s lst → Stp (Rng 1 8) ω ω3 w w3 → RdS ω3 w3 1 gd bs p3 A3 B3 kn3 b3 →
            (∀ (x : Smp) tail', Valid (lst ++ [x]) → repr (run lst).2 kn1 A1 B1 → rest bs p1 = (emit lst (run lst).2 x).1 ++ tail' → (T, V) = x ∧ rest bs p3 = tail' ∧ b3 = b1 ∧ repr (emit lst (run lst).2 x).2 kn3 A3 B3) →
            G.st (Addr.add ⟨g, 0, none⟩ 1) (.float .f64 V) w3 fun w28 => G.cI .i64 ⟨g, 0, none⟩ w28 fun n29 => G.cF .f64 (Addr.add ⟨g, 0, none⟩ 1) w28 fun f30 => G.new (.cells #[(.int .i64 n29), (.float .f64 f30)] 26) w28 fun p31 w32 => G.runSl Tryd.prog (Builtin.append_ #[24, 24] 24 #[s.v, (Sl.v (⟨some p31, 1, 1⟩ : Sl))]) w32 fun l33 w34 => X (wp gd) (n : Int) l33 (IntKind.i64.wrap ((lst.length : Int) + (1 : Int))) w34 := by
          intro T V p3 A3 B3 kn3 b3 ω3 w3 hV hW3 b o3 st3 r3 step
          refine st_TA b (by simp) fun ω4 w4 s4 b4 => ?_
          refine cI_at (n := T) (by rw [b4.cell]; rfl) <| cF_at (b := V) (by rw [addr_add, b4.cell]; rfl) ?_
          have o4 := o3.stp s4 (beq_no (by decide))
          have hsn := OS.len o4
          refine push_T tiS o4 (n := 1) rfl (by intro v hv; simp at hv; rcases hv with rfl | rfl <;> rfl) (by simp only [maxLen]; omega) (by omega) fun q ω5 w5 k5 o5 hq => ?_
          have s5 := (s4.rng (t := 1) (n := 8) (by decide) (by decide)).trans (k5.rng (t := 1) (n := 8) (by decide) (by decide))
          have := ih q (lst ++ [(T, V)]) p3 A3 B3 kn3 b3 ω5 w5 (by rw [List.length_append, List.length_singleton]; omega) hW3 (by rw [OS, smps_app]; exact o5) (fun x hx' => by
            rcases List.mem_append.1 hx' with h | h
            · exact hx x h
            · rw [List.mem_singleton.1 h]; exact hV) (good_step good (by omega) step) (st3.trans s5) ((r3.stp s4 rfl rfl rfl).stp k5 rfl rfl rfl)
          rw [wI64 (by omega) (by omega)]
          rw [List.length_append, List.length_singleton] at this
          exact this
        have hb1 : b1 = false := by cases b1; rfl; cases hb
        have hsl := OS.len o2
        refine cond_eq (fun h0 => ?_) (fun h0 => cond_eq (fun h1 => ?_) (fun h1 => ?_))
        · obtain rfl : lst = [] := List.eq_nil_of_length_eq_zero (by omega)
          refine uvar_ok r2 fun v p3 b3 ω3 w3 hv hg s3 r3 => ⟨by decide, ?_⟩
          rw [zag v hv]
          have s3' := s3.mono (T' := Rng 1 8) fun u hu => rng18 hu
          have bg := b2.stp s3 (rng_out (by decide))
          refine st_T bg (by simp) fun ω4 w4 s4 b4 => ?_
          have r4 := r3.stp s4 rfl rfl rfl
          refine dbits_ok r4 (k := 64) (by decide) rfl fun V p5 b5 ω5 w5 hV hg5 s5 r5 => fbits_at ?_
          have s5' := s5.mono (T' := Rng 1 8) fun u hu => rng18 hu
          have b5' := b4.stp s5 (rng_out (by decide))
          have o5 := ((o2.stp s3 (rng_out (by decide))).stp s4 (beq_no (by decide))).stp s5 (rng_out (by decide))
          refine fin (bk v) V p5 A1 B1 kn1 b5 ω5 w5 hV hW b5' o5 (((st2.trans s3').trans (s4.rng (by decide) (by decide))).trans s5') r5 fun x tail' hvx hr e => ?_
          have hxx := wrong_zero hvx.inv.2.1
          have ee : emit [] (run []).2 x = (byteBits (putU (zz x.1)) ++ low x.2 64, (run []).2) := rfl
          rw [ee, List.append_assoc] at e
          obtain ⟨q1, q2, q3⟩ := hg (zz x.1) _ (zz_lt50 hxx.1 hxx.2.1) e
          obtain ⟨u1, u2, u3⟩ := hg5 x.2 tail' hvx.inv.2.2 q2
          refine ⟨?_, u2, u3.trans q3, hr⟩
          rw [q1, u1, bk_zz]
        · obtain ⟨a, rfl⟩ : ∃ a, lst = [a] := by
            cases lst with
            | nil => simp at h1
            | cons a r => cases r with
              | nil => exact ⟨a, rfl⟩
              | cons _ _ => simp at h1; omega
          have kd := drew_stp ω2 w2
          have od := o2.stp kd
          have ha := hx a (List.mem_singleton.2 rfl)
          refine OS.at_ od (k := 0) (x := a) rfl rfl fun p35 hp1 hp2 hc0 hc1 => cI_at hc0 ?_
          refine uvar_ok (r2.non kd) fun v p3 b3 ω3 w3 hv hg s3 r3 => ⟨same_stp s3 hp1 (by rw [hp2]; exact rng_out (by decide)), ?_⟩
          have s3' := s3.mono (T' := Rng 1 8) fun u hu => rng18 hu
          have bg := (b2.stp kd).stp s3 (rng_out (by decide))
          refine st_T bg (by simp) fun ω4 w4 s4 b4 => ?_
          have r4 := r3.stp s4 rfl rfl rfl
          have o4 := (od.stp s3 (rng_out (by decide))).stp s4 (beq_no (by decide))
          refine OS.at_ o4 (k := 0) (x := a) rfl rfl fun p40 _ _ _ hc1 => cF_at hc1 (fb_at ?_)
          refine value_rd r4 hW fun V p5 b5 A5 B5 kn5 ω5 w5 hV hW5 hg5 s5 r5 => ?_
          rw [xor_eq ha hV]
          refine fbits_at ?_
          have s5' := s5.mono (T' := Rng 1 8) fun u hu => rng18 hu
          refine fin _ (a.2 ^^^ V) p5 A5 B5 kn5 b5 ω5 w5 (xor64_lt ha hV) hW5 (b4.stp s5 (rng_out (by decide))) (o4.stp s5 (rng_out (by decide))) ((((st2.trans (kd.non _)).trans s3').trans (s4.rng (by decide) (by decide))).trans s5') r5 fun x tail' hvx hr e => ?_
          have hxx := wrong_zero hvx.inv.2.1
          have hav := hvx.inv.1.mem a (List.mem_singleton.2 rfl)
          have hlt : a.1 < x.1 := hxx.2.2.2 a rfl
          have ee : emit [a] (run [a]).2 x = (byteBits (putU (uN (x.1 - a.1))) ++ (vform (run [a]).2 (x.2 ^^^ a.2)).1, (vform (run [a]).2 (x.2 ^^^ a.2)).2) := rfl
          rw [ee, List.append_assoc] at e
          obtain ⟨q1, q2, q3⟩ := hg (uN (x.1 - a.1)) _ (uN_lt _) e
          obtain ⟨u1, u2, u3, u4⟩ := hg5 (run [a]).2 (x.2 ^^^ a.2) tail' (run_ok hvx.inv.1) hr (xor64_lt hvx.inv.2.2 ha) q2
          refine ⟨?_, u2, u3.trans q3, by rw [ee]; exact u4⟩
          rw [q1, u1, xor_back]
          refine Prod.ext ?_ rfl
          have euN : ((uN (x.1 - a.1) : Nat) : Int) = x.1 - a.1 := by unfold uN; omega
          show IntKind.i64.wrap (a.1 + IntKind.i64.wrap ((uN (x.1 - a.1) : Nat) : Int)) = x.1
          rw [euN, wI64 (x := x.1 - a.1) (by omega) (by omega), wI64 (by omega) (by omega)]
          omega
        · obtain ⟨b, a, r, hr⟩ : ∃ b a r, lst.reverse = b :: a :: r := by
            rcases hr : lst.reverse with _ | ⟨b, _ | ⟨a, r⟩⟩
            · have := congrArg List.length hr; simp at this; exact absurd (by rw [this]; rfl) h0
            · have := congrArg List.length hr; simp at this; exact absurd (by rw [this]; rfl) h1
            · exact ⟨b, a, r, rfl⟩
          have hll : lst = r.reverse ++ [a, b] := by rw [← List.reverse_reverse lst, hr]; simp
          have hlen : lst.length = r.length + 2 := by rw [hll]; simp
          have xa : lst[r.length]? = some a := by rw [hll]; simp
          have xb : lst[r.length + 1]? = some b := by rw [hll, List.getElem?_append_right (by simp)]; simp
          have ha := hx a (by rw [hll]; simp)
          have hbv := hx b (by rw [hll]; simp)
          have kd := drew_stp ω2 w2
          have od := o2.stp kd
          have rd := r2.non kd
          have bd := b2.stp kd
          have std := st2.trans (kd.non (Rng 1 8))
          rw [wI64 (x := (lst.length : Int) - 2) (by omega) (by omega), wI64 (x := (lst.length : Int) - 1) (by omega) (by omega)]
          refine OS.at_ od (k := r.length) (by omega) xa fun p55 hp1 hp2 hc0 hc1 => cI_at hc0 <| cF_at hc1 ?_
          refine OS.at_ od (k := r.length + 1) (by omega) xb fun p58 hq1 hq2 hd0 hd1 => cI_at hd0 <| cF_at hd1 ?_
          -- the common end
          have tail : ∀ (ga gb : Nat) ω3 w3, BT ω3 w3 7 ga 26 [.int .i64 a.1, .float .f64 a.2] → BT ω3 w3 8 gb 26 [.int .i64 b.1, .float .f64 b.2] → Stp (Rng 1 8) ω ω3 w w3 → BT ω3 w3 6 g 26 [.int .i64 0, .float .f64 0] → OS ω3 w3 5 s lst → RdS ω3 w3 1 gd bs p1 A1 B1 kn1 b1 →
              G.cI .i64 ⟨gb, 0, none⟩ w3.drew fun n69 => G.cI .i64 ⟨gb, 0, none⟩ w3.drew fun n70 => G.cI .i64 ⟨ga, 0, none⟩ w3.drew fun n71 => C.chunk_reader_time (wp gd) w3.drew fun n72 w73 => sameAt ⟨gb, 0, none⟩ 1 w3.drew w73 ∧ sameAt ⟨gb, 0, none⟩ 1 w3.drew w73 ∧ sameAt ⟨ga, 0, none⟩ 1 w3.drew w73 ∧ (G.st ⟨g, 0, none⟩ (.int .i64 (IntKind.i64.wrap ((IntKind.i64.wrap (n69 + (IntKind.i64.wrap (n70 - n71)))) + n72))) w73 fun w74 => G.cF .f64 (Addr.add ⟨gb, 0, none⟩ 1) w74 fun f75 => C.math_Float64bits f75 w74 fun n76 w77 => C.chunk_reader_value (wp gd) w77 fun n78 w79 => C.math_Float64frombits (Go.bits .xor .u64 n76 n78) w79 fun f80 w81 => G.st (Addr.add ⟨g, 0, none⟩ 1) (.float .f64 f80) w81 fun w82 => G.cI .i64 ⟨g, 0, none⟩ w82 fun n83 => G.cF .f64 (Addr.add ⟨g, 0, none⟩ 1) w82 fun f84 => G.new (.cells #[(.int .i64 n83), (.float .f64 f84)] 26) w82 fun p85 w86 => G.runSl Tryd.prog (Builtin.append_ #[24, 24] 24 #[s.v, (Sl.v (⟨some p85, 1, 1⟩ : Sl))]) w86 fun l87 w88 => X (wp gd) (n : Int) l87 (IntKind.i64.wrap ((lst.length : Int) + (1 : Int))) w88) := by
            intro ga gb ω3 w3 Ba Bb st3 bg3 o3 r3
            have kd3 := drew_stp ω3 w3
            have Ba' := Ba.stp kd3
            have Bb' := Bb.stp kd3
            refine cI_at (n := b.1) (by rw [Bb'.cell]; rfl) <| cI_at (n := b.1) (by rw [Bb'.cell]; rfl) <| cI_at (n := a.1) (by rw [Ba'.cell]; rfl) ?_
            refine time_rd (r3.non kd3) fun D p4 b4 ω4 w4 hg4 s4 r4 => ⟨Bb'.sameT s4 (rng_out (by decide)), Bb'.sameT s4 (rng_out (by decide)), Ba'.sameT s4 (rng_out (by decide)), ?_⟩
            have s4' := s4.mono (T' := Rng 1 8) fun u hu => rng18 hu
            refine st_T ((bg3.stp kd3).stp s4 (rng_out (by decide))) (by simp) fun ω5 w5 s5 b5 => ?_
            have Bb5 := (Bb'.stp s4 (rng_out (by decide))).stp s5 (beq_no (by decide))
            have r5 := r4.stp s5 rfl rfl rfl
            have o5 := ((o3.stp kd3).stp s4 (rng_out (by decide))).stp s5 (beq_no (by decide))
            refine cF_at (b := b.2) (by rw [addr_add, Bb5.cell]; rfl) (fb_at ?_)
            refine value_rd r5 hW fun V p6 b6 A6 B6 kn6 ω6 w6 hV hW6 hg6 s6 r6 => ?_
            rw [xor_eq hbv hV]
            refine fbits_at ?_
            have s6' := s6.mono (T' := Rng 1 8) fun u hu => rng18 hu
            refine fin _ (b.2 ^^^ V) p6 A6 B6 kn6 b6 ω6 w6 (xor64_lt hbv hV) hW6 (b5.stp s6 (rng_out (by decide))) (o5.stp s6 (rng_out (by decide))) (((((st3.trans (kd3.non _)).trans s4').trans (s5.rng (by decide) (by decide))).trans s6')) r6 fun x tail' hvx hr' e => ?_
            have hxx := wrong_zero hvx.inv.2.1
            have hav := hvx.inv.1.mem a (by rw [hll]; simp)
            have hbv' := hvx.inv.1.mem b (by rw [hll]; simp)
            have ee : emit lst (run lst).2 x = (tform (x.1 - b.1 - (b.1 - a.1)) ++ (vform (run lst).2 (x.2 ^^^ b.2)).1, (vform (run lst).2 (x.2 ^^^ b.2)).2) := by unfold emit; rw [hr]
            rw [ee, List.append_assoc] at e
            obtain ⟨q1, q2, q3⟩ := hg4 (x.1 - b.1 - (b.1 - a.1)) _ (by omega) (by omega) e
            obtain ⟨u1, u2, u3, u4⟩ := hg6 (run lst).2 (x.2 ^^^ b.2) tail' (run_ok hvx.inv.1) hr' (xor64_lt hvx.inv.2.2 hbv) q2
            refine ⟨?_, u2, u3.trans q3, by rw [ee]; exact u4⟩
            rw [q1, u1, xor_back]
            refine Prod.ext ?_ rfl
            show IntKind.i64.wrap (IntKind.i64.wrap (b.1 + IntKind.i64.wrap (b.1 - a.1)) + (x.1 - b.1 - (b.1 - a.1))) = x.1
            rw [wI64 (x := b.1 - a.1) (by omega) (by omega), wI64 (x := b.1 + (b.1 - a.1)) (by omega) (by omega), wI64 (by omega) (by omega)]
            omega
          constructor
          · refine new_T (ω := ω2) 7 fun g1 ω3 w3 k3 b3 => ?_
            refine ⟨same_stp k3 hp1 rfl, same_stp k3 hq1 rfl, ?_⟩
            refine new_T (ω := ω3) 8 fun g2 ω4 w4 k4 b4 => ?_
            have k34 := k3.trans k4
            refine ⟨same_stp k34 hp1 rfl, same_stp k34 hq1 rfl, ?_⟩
            refine st_T (b3.stp k4) (by simp) fun ω5 w5 s5 b5 => ?_
            refine st_TA b5 (by simp) fun ω6 w6 s6 b6 => ?_
            have s36 := (k34.non (Mem.One 7)).trans (s5.trans s6)
            refine ⟨same_stp s36 hq1 (by rw [hq2]; rfl), ?_⟩
            refine st_T ((b4.stp s5 rfl).stp s6 rfl) (by simp) fun ω7 w7 s7 b7 => ?_
            refine st_TA b7 (by simp) fun ω8 w8 s8 b8 => ?_
            have s78 := s7.trans s8
            exact tail g1 g2 ω8 w8 (b6.stp s78 rfl) b8 (((std.trans (s36.rng (by decide) (by decide))).trans (s78.rng (by decide) (by decide)))) ((bd.stp s36 rfl).stp s78 rfl) ((od.stp s36 rfl).stp s78 rfl) ((rd.stp s36 rfl rfl rfl).stp s78 rfl rfl rfl)
          · refine new_T (ω := ω2) 8 fun g2 ω3 w3 k3 b3 => ?_
            refine ⟨same_stp k3 hp1 rfl, same_stp k3 hq1 rfl, ?_⟩
            refine new_T (ω := ω3) 7 fun g1 ω4 w4 k4 b4 => ?_
            have k34 := k3.trans k4
            refine ⟨same_stp k34 hp1 rfl, same_stp k34 hq1 rfl, ?_⟩
            refine st_T b4 (by simp) fun ω5 w5 s5 b5 => ?_
            refine st_TA b5 (by simp) fun ω6 w6 s6 b6 => ?_
            have s36 := (k34.non (Mem.One 7)).trans (s5.trans s6)
            refine ⟨same_stp s36 hq1 (by rw [hq2]; rfl), ?_⟩
            refine st_T (((b3.stp k4).stp s5 rfl).stp s6 rfl) (by simp) fun ω7 w7 s7 b7 => ?_
            refine st_TA b7 (by simp) fun ω8 w8 s8 b8 => ?_
            have s78 := s7.trans s8
            exact tail g1 g2 ω8 w8 (b6.stp s78 rfl) b8 (((std.trans (s36.rng (by decide) (by decide))).trans (s78.rng (by decide) (by decide)))) ((bd.stp s36 rfl).stp s78 rfl) ((od.stp s36 rfl).stp s78 rfl) ((rd.stp s36 rfl rfl rfl).stp s78 rfl rfl rfl)
      case _ => exact done s lst p1 A1 B1 kn1 b1 ω1 w1 (by omega) (.inr (by cases b1; cases hb; rfl)) o hx good st r
  refine key n nilS [] p A B kn false ω w (by simp) (fun h => by rw [hkn] at h; cases h) (OT.nil _ _ _ _ _) (fun x hx => by cases hx) (fun m tail _ _ e => ⟨rfl, by rw [e]; rfl, rfl, hkn⟩) (Stp.refl _ _ _) h
end Go.Proofs.YtpadehbcjkhegaaDoor.Chunk
