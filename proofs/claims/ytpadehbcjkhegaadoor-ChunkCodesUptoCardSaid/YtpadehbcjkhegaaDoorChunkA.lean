/- Layer 8: samples are put one behind another; a chunk's bytes. Own work. -/
import Derived.Test.YtpadehbcjkhegaaDoorChunkV
namespace Go.Proofs.YtpadehbcjkhegaaDoor.Chunk
open Go Vm Go.RowKit Num Mem Bits Vint
variable {ω ω' : Tg} {w w' w0 : World} {t gc gw : Nat} {sl : Sl} {l : List Smp} {bs : List Bool} {wn : Win}

/-- A sample of a list, and where it lies. -/
theorem OS.at_ {u : Nat} {s : Sl} {m : List Smp} (h : OS ω w u s m) {i : Int} {k : Nat} {x : Smp} (ei : i = (k : Int)) (hx : m[k]? = some x) {K : Addr → Prop}
    (hK : ∀ a : Addr, a.block < w.heap.size → ω a.block = u → w.cell? a = some (.int .i64 x.1) → w.cell? (a.add 1) = some (.float .f64 x.2) → K a) : G.ix s.a s.n i 2 K := by
  have hk : k < m.length := (List.getElem?_eq_some_iff.1 hx).1
  have hn := h.len
  subst ei
  obtain ⟨e0, e1⟩ := smps_at m k x hx
  refine h.ix (by decide) (by omega) (by omega) fun a hb ht hc => hK a hb ht ?_ ?_
  · have := hc 0 _ (by decide) (by rw [Int.toNat_natCast]; exact e0)
    rwa [show a.add 0 = a by simp [Addr.add]] at this
  · exact hc 1 _ (by decide) (by rw [Int.toNat_natCast]; exact e1)
/-- A sample that is only read. -/
theorem rdS_at {s : Sl} {m : List Smp} (h : Rd w s 2 (smps m)) {i : Int} {k : Nat} {x : Smp} (ei : i = (k : Int)) (hx : m[k]? = some x) {K : Addr → Prop}
    (hK : ∀ a : Addr, w.cell? a = some (.int .i64 x.1) → w.cell? (a.add 1) = some (.float .f64 x.2) → K a) : G.ix s.a s.n i 2 K := by
  have hk : k < m.length := (List.getElem?_eq_some_iff.1 hx).1
  have hn : s.n = m.length := by have := h.2.1; rw [smps_len] at this; omega
  subst ei
  obtain ⟨e0, e1⟩ := smps_at m k x hx
  refine Rd.ix h (by decide) (by omega) (by omega) fun a hc => hK a ?_ ?_
  · have := hc 0 _ (by decide) (by rw [Int.toNat_natCast]; exact e0)
    rwa [show a.add 0 = a by simp [Addr.add]] at this
  · exact hc 1 _ (by decide) (by rw [Int.toNat_natCast]; exact e1)

theorem putEnd (h : CkS ω w t gc gw sl l bs wn) {s : Smp} (hl : l.length ≤ 1000) {K : World → Prop}
    (hK : ∀ ω' w' sl', Stp (Rng t 4) ω ω' w w' → CkS ω' w' t gc gw sl' (l ++ [s]) bs wn → K w') : C.chunk_Chunk_put.S2 K (wp gc) s.1 s.2 w := by
  unfold C.chunk_Chunk_put.S2
  refine h.rdL ?_
  have hn := h.own.len
  refine push_T tiS h.own (n := 1) (by rfl) (by intro v hv; simp at hv; rcases hv with rfl | rfl <;> rfl) (by simp only [maxLen]; omega) (by omega) fun r ω1 w1 k1 o1 hr => ?_
  have b1 := h.blk.stp k1 (beq_no (by omega))
  refine ptr_at (st_T b1 (by simp) fun ω2 w2 k2 b2 => ?_)
  refine hK ω2 w2 r ((rng3 k1).trans (rng3 k2)) ⟨b2, ?_, (h.wr.stp k1 (beq_no (by omega))).stp k2 (beq_no (by omega))⟩
  have := o1.stp k2 (beq_no (by omega))
  rw [OS, smps_app]
  exact this

/-- What is asked of the samples that are there. -/
def Fine (l : List Smp) : Prop := ∀ s ∈ l, 0 ≤ s.1 ∧ s.1 ≤ 1125899906842624 ∧ s.2 < 18446744073709551616
theorem xor_eq {a b : Nat} (ha : a < 18446744073709551616) (hb : b < 18446744073709551616) : Go.bits .xor .u64 (a : Int) (b : Int) = ((a ^^^ b : Nat) : Int) := bits_xor rfl (by simp only [IntKind.bits]; omega) (by simp only [IntKind.bits]; omega)

theorem fb_at {f : Nat} {K : Int → World → Prop} (hK : K (f : Int) w) : C.math_Float64bits f w K := hK
theorem up5 {t : Nat} (h : Stp (Rng t 4) ω ω' w w') : Stp (Rng t 6) ω ω' w w' := h.mono fun u hu => by
  cases a : Nat.ble t u
  · simp [Rng, a]
  · have := Nat.le_of_ble_eq_true a
    refine rng_out (.inr ?_)
    simp only [Rng, a, Bool.true_and] at hu
    cases b : Nat.blt u (t + 6)
    · have : ¬ u < t + 6 := fun h => by rw [Nat.blt_eq.mpr h] at b; cases b
      omega
    · rw [b] at hu; cases hu
theorem rng5 {u : Nat} {t : Nat} (h : Stp (One u) ω ω' w w') (h1 : t ≤ u := by omega) (h2 : u < t + 6 := by omega) : Stp (Rng t 6) ω ω' w w' := h.rng h1 h2
theorem CkS.loc4 (h : CkS ω w t gc gw sl l bs wn) (k : Stp (One (t + 4)) ω ω' w w') : CkS ω' w' t gc gw sl l bs wn := h.stp k (beq_no (by omega)) (beq_no (by omega)) (beq_no (by omega))

theorem put_ok (h : CkS ω w t gc gw sl l bs wn) (ht : 0 < t) (hT : DT ω w) (hwn : WinOk wn) (hf : Fine l) (hl : l.length ≤ 1000) {s : Smp} (h0 : 0 ≤ s.1) (h1 : s.1 ≤ 1125899906842624) (hv : s.2 < 18446744073709551616) (hn : bs.length + 200 ≤ 8388608) {K : World → Prop}
    (hK : ∀ ω' w' sl', Stp (Rng t 6) ω ω' w w' → CkS ω' w' t gc gw sl' (l ++ [s]) (bs ++ (emit l wn s).1) (emit l wn s).2 → K w') : C.chunk_Chunk_put (wp gc) s.1 s.2 w K := by
  unfold C.chunk_Chunk_put
  have hsn := h.own.len
  refine h.rdL ?_
  rw [hsn]
  refine cond_eq (fun hz => ?_) (fun hz => cond_eq (fun h1' => ?_) (fun h2' => ?_))
  · have hl0 : l = [] := List.eq_nil_of_length_eq_zero (by omega)
    subst hl0
    refine putI_ok (l := []) (by omega) (by omega) (Rd.nil w 1) (by decide) fun r w1 k1 o1 => ?_
    have k1' := k1.stp ω (t + 3)
    have o1' := Own.tag o1 (Nat.le_refl _) ω (t + 3)
    rw [List.nil_append] at o1'
    have hlen := putU_len64 (zz_lt50 h0 h1)
    refine bytes_ok (h.non k1') o1' (by omega) fun ω2 w2 k2 h2 => ?_
    refine h2.drew.rdW ?_
    refine fb_at ⟨same_refl _ _ _, ?_⟩
    refine h2.drew.bits (v := s.2) (k := 64) rfl (by decide) hv (by rw [List.length_append, byteBits_len]; omega) rfl fun ω3 w3 k3 h3 => ?_
    refine putEnd h3 (by decide) fun ω4 w4 sl4 s4 h4 => hK ω4 w4 sl4 (up5 ((k1'.non _).trans ((rng3 k2).trans (((drew_stp _ _).non _).trans ((rng3 k3).trans s4))))) ?_
    have e : emit [] wn s = (byteBits (putU (zz s.1)) ++ low s.2 64, wn) := rfl
    rw [e]
    simpa only [List.append_assoc] using h4
  · obtain ⟨a, rfl⟩ : ∃ a, l = [a] := by
      match l, h1' with
      | [a], _ => exact ⟨a, rfl⟩
      | [], h => simp at h
      | _ :: _ :: _, h => simp at h; omega
    obtain ⟨fa0, fa1, fa2⟩ := hf a (by simp)
    refine h.rdL ?_
    refine h.own.at_ (k := 0) rfl rfl fun p _ _ hc _ => cI_at hc ?_
    have eu : IntKind.u64.wrap (IntKind.i64.wrap (s.1 - a.1)) = ((uN (s.1 - a.1) : Nat) : Int) := by rw [wI64 (by omega) (by omega), wrapU]
    rw [eu]
    refine putU_ok (l := []) (uN_lt _) (Rd.nil w 1) (by decide) fun r w1 k1 o1 => ?_
    have k1' := k1.stp ω (t + 3)
    have o1' := Own.tag o1 (Nat.le_refl _) ω (t + 3)
    rw [List.nil_append] at o1'
    have hlen := putU_len64 (uN_lt (s.1 - a.1))
    refine bytes_ok (h.non k1') o1' (by omega) fun ω2 w2 k2 h2 => ?_
    refine h2.drew.rdL ?_
    refine h2.drew.own.at_ (k := 0) rfl rfl fun p2 _ _ _ hc2 => cF_at hc2 ?_
    refine fb_at ⟨same_refl _ _ _, same_refl _ _ _, fb_at ?_⟩
    rw [xor_eq hv fa2]
    refine value_ok h2.drew ht (((hT.stp k1').one k2 (by omega)).stp (drew_stp ω2 w2)) hwn (xor64_lt hv fa2) (by rw [List.length_append, byteBits_len]; omega) fun ω3 w3 s3 h3 => ?_
    refine putEnd h3 (by simp) fun ω4 w4 sl4 s4 h4 => hK ω4 w4 sl4 (up5 ((k1'.non _).trans ((rng3 k2).trans (((drew_stp _ _).non _).trans (s3.trans s4))))) ?_
    have e : emit [a] wn s = (byteBits (putU (uN (s.1 - a.1))) ++ (vform wn (s.2 ^^^ a.2)).1, (vform wn (s.2 ^^^ a.2)).2) := rfl
    rw [e]
    simpa only [List.append_assoc] using h4
  · have hl2 : 2 ≤ l.length := by omega
    obtain ⟨a, ha⟩ : ∃ a, l[l.length - 2]? = some a := ⟨_, List.getElem?_eq_getElem (by omega)⟩
    obtain ⟨b, hb⟩ : ∃ b, l[l.length - 1]? = some b := ⟨_, List.getElem?_eq_getElem (by omega)⟩
    obtain ⟨fa0, fa1, fa2⟩ := hf a (List.mem_of_getElem? ha)
    obtain ⟨fb0, fb1, fb2⟩ := hf b (List.mem_of_getElem? hb)
    have hd := h.drew
    have em : emit l wn s = (tform (s.1 - b.1 - (b.1 - a.1)) ++ (vform wn (s.2 ^^^ b.2)).1, (vform wn (s.2 ^^^ b.2)).2) := by
      have e1 : l.reverse = b :: a :: (l.reverse.drop 2) := by
        have hr0 : l.reverse[0]? = some b := by rw [List.getElem?_reverse (by omega)]; exact hb
        have hr1 : l.reverse[1]? = some a := by rw [List.getElem?_reverse (by omega), show l.length - 1 - 1 = l.length - 2 by omega]; exact ha
        generalize l.reverse = q at *
        match q, hr0, hr1 with
        | x :: y :: r, h0, h1 => simp at h0 h1; subst h0 h1; rfl
        | [x], _, h1 => simp at h1
        | [], h0, _ => simp at h0
      unfold emit
      rw [e1]
    rw [em] at hK
    -- what follows both orders
    have tail : ∀ (ga gb : Nat) (ω' : Tg) (w' : World), Stp (Rng t 6) ω ω' w w' → CkS ω' w' t gc gw sl l bs wn → DT ω' w' → BT ω' w' (t + 4) ga 26 [.int .i64 a.1, .float .f64 a.2] → BT ω' w' (t + 5) gb 26 [.int .i64 b.1, .float .f64 b.2] →
        G.cI .i64 ⟨gb, 0, none⟩ w' fun n63 => G.cI .i64 ⟨gb, 0, none⟩ w' fun n64 => G.cI .i64 ⟨ga, 0, none⟩ w' fun n65 => C.chunk_Chunk_time (wp gc) (IntKind.i64.wrap ((IntKind.i64.wrap (s.1 - n63)) - (IntKind.i64.wrap (n64 - n65)))) w' fun w66 => G.cF .f64 (Addr.add ⟨gb, 0, none⟩ 1) w66.drew fun f67 => C.math_Float64bits s.2 w66.drew fun n68 w69 => sameAt (Addr.add ⟨gb, 0, none⟩ 1) 1 w66.drew w69 ∧ (C.math_Float64bits f67 w69 fun n70 w71 => C.chunk_Chunk_value (wp gc) (Go.bits .xor .u64 n68 n70) w71 fun w72 => C.chunk_Chunk_put.S2 K (wp gc) s.1 s.2 w72) := by
      intro ga gb ω1 w1 s1 h1 hT1 ba bb
      refine cI_at (n := b.1) (by rw [bb.cell]; rfl) <| cI_at (n := b.1) (by rw [bb.cell]; rfl) <| cI_at (n := a.1) (by rw [ba.cell]; rfl) ?_
      rw [wI64 (x := s.1 - b.1) (by omega) (by omega), wI64 (x := b.1 - a.1) (by omega) (by omega), wI64 (by omega) (by omega)]
      have htl := tform_len (s.1 - b.1 - (b.1 - a.1))
      refine time_ok h1 (by omega) fun ω2 w2 s2 h2 => ?_
      have bb2 := (bb.stp s2 (rng_out (.inr (by omega)))).stp (drew_stp ω2 w2)
      refine cF_at (b := b.2) (by rw [addr_add, bb2.cell]; rfl) ?_
      refine fb_at ⟨same_refl _ _ _, fb_at ?_⟩
      rw [xor_eq hv fb2]
      refine value_ok h2.drew ht ((hT1.rng s2 ht).stp (drew_stp ω2 w2)) hwn (xor64_lt hv fb2) (by rw [List.length_append]; omega) fun ω3 w3 s3 h3 => ?_
      refine putEnd h3 hl fun ω4 w4 sl4 s4 h4 => hK ω4 w4 sl4 (s1.trans (up5 (s2.trans (((drew_stp _ _).non _).trans (s3.trans s4))))) ?_
      simpa only [List.append_assoc] using h4
    refine hd.rdL (hd.own.at_ (k := l.length - 2) (by rw [wI64 (by omega) (by omega)]; omega) ha fun pa hpa hta hca0 hca1 => cI_at hca0 <| cF_at hca1 ?_)
    refine hd.rdL (hd.own.at_ (k := l.length - 1) (by rw [wI64 (by omega) (by omega)]; omega) hb fun pb hpb htb hcb0 hcb1 => cI_at hcb0 <| cF_at hcb1 ?_)
    -- what was read holds still while the locals are laid
    have sC : ∀ {T : Nat → Bool} {ω' : Tg} {w' : World}, Stp T ω ω' w.drew w' → T t = false → sameAt ⟨gc, 0, none⟩ 1 w.drew w' := fun k n => hd.blk.same k n 0 1
    have sA : ∀ {T : Nat → Bool} {ω' : Tg} {w' : World}, Stp T ω ω' w.drew w' → T (t + 1) = false → sameAt pa 2 w.drew w' := fun k n => same_stp k hpa (by rw [hta]; exact n)
    have sB : ∀ {T : Nat → Bool} {ω' : Tg} {w' : World}, Stp T ω ω' w.drew w' → T (t + 1) = false → sameAt pb 2 w.drew w' := fun k n => same_stp k hpb (by rw [htb]; exact n)
    have hTd := hT.stp (drew_stp ω w)
    have d6 : Stp (Rng t 6) ω ω w w.drew := (drew_stp ω w).non _
    have n4 : One (t + 4) t = false := beq_no (by omega)
    have n41 : One (t + 4) (t + 1) = false := beq_no (by omega)
    have n5 : Duo (t + 4) (t + 5) t = false := by simp only [Duo, beq_no (show t ≠ t + 4 by omega), beq_no (show t ≠ t + 5 by omega)]; rfl
    have n51 : Duo (t + 4) (t + 5) (t + 1) = false := by simp only [Duo, beq_no (show t + 1 ≠ t + 4 by omega), beq_no (show t + 1 ≠ t + 5 by omega)]; rfl
    have n52 : Duo (t + 4) (t + 5) (t + 2) = false := by simp only [Duo, beq_no (show t + 2 ≠ t + 4 by omega), beq_no (show t + 2 ≠ t + 5 by omega)]; rfl
    have n50 : Duo (t + 4) (t + 5) 0 = false := by simp only [Duo, beq_no (show 0 ≠ t + 4 by omega), beq_no (show 0 ≠ t + 5 by omega)]; rfl
    have n45 : One (t + 4) (t + 5) = false := beq_no (by omega)
    have n54 : One (t + 5) (t + 4) = false := beq_no (by omega)
    have du : ∀ {ω' : Tg} {w' : World}, Stp (Duo (t + 4) (t + 5)) ω ω' w.drew w' → Stp (Rng t 6) ω ω' w.drew w' := fun k => k.mono fun u hu => by
      simp only [Duo]
      rw [show Nat.beq u (t + 4) = false from rng_in (by omega) (by omega) hu, show Nat.beq u (t + 5) = false from rng_in (by omega) (by omega) hu]; rfl
    refine ⟨?_, ?_⟩
    · refine new_T (ω := ω) (t + 4) fun g1 ω1 w1 k1 b1 => ?_
      have q1 := k1.non (Duo (t + 4) (t + 5))
      refine ⟨sC q1 n5, sA q1 n51, sC q1 n5, sB q1 n51, ?_⟩
      refine new_T (ω := ω1) (t + 5) fun g2 ω2 w2 k2 b2 => ?_
      have q2 := q1.trans (k2.non _)
      refine ⟨sC q2 n5, sA q2 n51, sC q2 n5, sB q2 n51, ?_⟩
      refine st_T (b1.stp k2) (by simp) fun ω3 w3 k3 b3 => ?_
      refine st_TA b3 (by simp) fun ω4 w4 k4 b4 => ?_
      have q4 := q2.trans ((k3.trans k4).one)
      refine ⟨sC q4 n5, sB q4 n51, ?_⟩
      refine st_T ((b2.stp k3 n45).stp k4 n45) (by simp) fun ω5 w5 k5 b5 => ?_
      refine st_TA b5 (by simp) fun ω6 w6 k6 b6 => ?_
      have q6 := q4.trans ((k5.trans k6).two)
      exact tail g1 g2 ω6 w6 (d6.trans (du q6)) (hd.stp q6 n5 n51 n52) (hTd.stp q6 n50) ((b4.stp k5 n54).stp k6 n54) b6
    · refine new_T (ω := ω) (t + 5) fun g1 ω1 w1 k1 b1 => ?_
      have q1 := k1.non (Duo (t + 4) (t + 5))
      refine ⟨sC q1 n5, sA q1 n51, sC q1 n5, sB q1 n51, ?_⟩
      refine new_T (ω := ω1) (t + 4) fun g2 ω2 w2 k2 b2 => ?_
      have q2 := q1.trans (k2.non _)
      refine ⟨sC q2 n5, sA q2 n51, sC q2 n5, sB q2 n51, ?_⟩
      refine st_T b2 (by simp) fun ω3 w3 k3 b3 => ?_
      refine st_TA b3 (by simp) fun ω4 w4 k4 b4 => ?_
      have q4 := q2.trans ((k3.trans k4).one)
      refine ⟨sC q4 n5, sB q4 n51, ?_⟩
      refine st_T (((b1.stp k2).stp k3 n45).stp k4 n45) (by simp) fun ω5 w5 k5 b5 => ?_
      refine st_TA b5 (by simp) fun ω6 w6 k6 b6 => ?_
      have q6 := q4.trans ((k5.trans k6).two)
      exact tail g2 g1 ω6 w6 (d6.trans (du q6)) (hd.stp q6 n5 n51 n52) (hTd.stp q6 n50) ((b4.stp k5 n54).stp k6 n54) b6
end Go.Proofs.YtpadehbcjkhegaaDoor.Chunk
