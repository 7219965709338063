/- Layer 8: the reference's Split and Join; ChunkPieces. Own work. -/
import Derived.Test.YtpadehbcjkhegaaDoorChunkG6
namespace Go.Proofs.YtpadehbcjkhegaaDoor.Chunk
open Go Vm Go.RowKit Num Mem Bits Vint Rep
variable {ω ω' : Tg} {w w' w0 : World} {bs : List UInt8}

theorem rjoin_ok {s : Sl} {ss : List Sl} {bss : List (List UInt8)} (h : RdL w0 s ss bss) (hl : bss.length ≤ 100) {K : Sl → Int → Int → World → Prop}
    (hK : ∀ r w', Keep w0 w' → Mem.Own w' w0.heap.size 26 2 r (smps (joinL [] bss 0).1) → K r (joinL [] bss 0).2.1 ((joinL [] bss 0).2.2 : Int) w') : C.tocsinref08_Join s w0 K := by
  have hn := h.n
  unfold C.tocsinref08_Join C.tocsinref08_Join.S9
  refine C.tocsinref08_Join.L5_ind fun X hX => ?_
  have key : ∀ (d i : Nat) (out : Sl) (ol : List Smp) (ω : Tg) (w : World), i + d = bss.length → ol.length ≤ 120 * i → joinL ol (bss.drop i) i = joinL [] bss 0 → Top w0 ω w → OS ω w 5 out ol → X out s ((s.n : Nat) : Int) (i : Int) w := by
    intro d
    induction d with
    | zero =>
      intro i out ol ω w hi hol e top o
      refine hX _ _ _ _ _ ?_
      unfold C.tocsinref08_Join.S7 C.tocsinref08_Join.S2
      refine cond_d (fun h => by omega) (fun _ => ?_)
      rw [List.drop_of_length_le (by omega)] at e
      have := hK out w top.k (by rw [← e]; exact o.from top (by decide))
      rwa [← e] at this
    | succ d ih =>
      intro i out ol ω w hi hol e top o
      refine hX _ _ _ _ _ ?_
      unfold C.tocsinref08_Join.S7
      have hib : i < bss.length := by omega
      refine cond_d (fun _ => ?_) (fun h => by omega)
      refine (h.keep top.k).at_ (List.getElem?_eq_getElem hib) fun q hq => ?_
      rw [List.drop_eq_getElem_cons hib, joinL] at e
      refine rdecode_dec hq (fun hd w1 k1 => ?_) (fun x hd hv r w1 k1 o1 => ?_)
      · rw [hd] at e
        refine cond_t rfl ?_
        have k01 := Keep.trans top.k k1
        have := hK nilS w1 k01 (by rw [← e]; exact Mem.Own.nil _ _ _ _)
        rwa [← e] at this
      · rw [hd] at e
        simp only at e
        refine cond_f rfl ?_
        have k01 := Keep.trans top.k k1
        have s1 := k1.stp0 ω
        have top1 := top.stp s1
        have o' := o.stp s1
        have hrn : r.n = x.length := by have := o1.1; rw [smps_len] at this; omega
        have hon := OS.len o
        have hxl := hv.len
        have kd := drew_stp ω w1
        have od := o'.stp kd
        have topd := top1.stp kd
        have rd := (Mem.Own.rd o1).keep kd.keep
        -- the common end
        have app : ¬ (x ≠ [] ∧ ol ≠ [] ∧ (x.head?.getD (0, 0)).1 ≤ (lastS ol).1) → G.runSl Tryd.prog (Builtin.append_ #[24, 24] 24 #[out.v, r.v]) w1.drew fun l27 w28 => X l27 s ((s.n : Nat) : Int) (IntKind.i64.wrap ((i : Int) + (1 : Int))) w28 := by
          intro hno
          rw [if_neg hno] at e
          refine app_T tiS od rd smps_one (by simp only [maxLen]; omega) (by omega) fun q2 ω2 w2 k2 o2 hq2 => ?_
          rw [wI64 (by omega) (by omega), show (i : Int) + 1 = ((i + 1 : Nat) : Int) by omega]
          exact ih (i + 1) q2 (ol ++ x) ω2 w2 (by omega) (by rw [List.length_append]; omega) e (topd.stp k2) (by rw [OS, smps_app]; exact o2)
        refine cond_d (fun h1 => cond_d (fun h2 => ?_) (fun h2 => app ?_)) (fun h1 => app ?_)
        · obtain ⟨y, hy⟩ : ∃ y, x[0]? = some y := ⟨_, List.getElem?_eq_getElem (by omega)⟩
          obtain ⟨z, hz⟩ : ∃ z, ol[ol.length - 1]? = some z := ⟨_, List.getElem?_eq_getElem (by omega)⟩
          have hlast : lastS ol = z := by unfold lastS; rw [List.getLast?_eq_getElem?, hz]; rfl
          have hhead : x.head?.getD (0, 0) = y := by rw [List.head?_eq_getElem?, hy]; rfl
          refine rdS_at rd (k := 0) rfl hy fun p hc0 _ => cI_at hc0 ?_
          refine rdS_at od.rd (k := ol.length - 1) (by rw [wI64 (by omega) (by omega)]; omega) hz fun p2 hd0 _ => cI_at hd0 ?_
          refine cond_d (fun h3 => ?_) (fun h3 => app (by rw [hhead, hlast]; intro h; exact h3 h.2.2))
          rw [if_pos ⟨by rintro rfl; simp at hy, by rintro rfl; simp at hz, by rw [hhead, hlast]; exact h3⟩] at e
          have := hK nilS _ topd.k (by rw [← e]; exact Mem.Own.nil _ _ _ _)
          rwa [← e] at this
        · rintro ⟨_, h3, _⟩
          exact h3 (List.eq_nil_of_length_eq_zero (by omega))
        · rintro ⟨h3, _⟩
          exact h3 (List.eq_nil_of_length_eq_zero (by omega))
  exact key bss.length 0 nilS [] (fun _ => 0) w0 (by omega) (by simp) rfl (Top.init w0) (OT.nil _ _ _ _ _)

set_option maxRecDepth 20000 in
theorem rsplit_ok {s : Sl} {m : List Smp} (hs : Rd w0 s 2 (smps m)) (hm : ∀ x ∈ m, x.2 < 18446744073709551616) (hl : m.length ≤ 2000) {K : Sl → Int → Int → World → Prop}
    (hE : (swr [] m 0).1 ≠ 0 → ∀ w', Keep w0 w' → K nilS (swr [] m 0).1 ((swr [] m 0).2 : Int) w')
    (hK : (swr [] m 0).1 = 0 → Rising m → ∀ r ss ω' w', Top w0 ω' w' → OLs ω' w' 12 r ss (pcs m ((m.length + 119) / 120)) → K r 0 0 w') : C.tocsinref08_Split s w0 K := by
  have hsn : s.n = m.length := by have := hs.2.1; rw [smps_len] at this; omega
  unfold C.tocsinref08_Split C.tocsinref08_Split.S18
  -- the pieces
  have pieces : (swr [] m 0).1 = 0 → ∀ w1, Keep w0 w1 → C.tocsinref08_Split.S11 K s w1 := by
    intro hz w1 k1
    have hris : Rising m := by simpa using swr_rising m [] 0 .nil hm hz
    unfold C.tocsinref08_Split.S11 C.tocsinref08_Split.S9
    refine C.tocsinref08_Split.L5_ind fun X hX => ?_
    have key : ∀ (d j : Nat) (out : Sl) (ss : List Sl) (ω : Tg) (w : World), j + d = (m.length + 119) / 120 → Top w0 ω w → OLs ω w 12 out ss (pcs m j) → X s out ((120 * j : Nat) : Int) w := by
      intro d
      induction d with
      | zero =>
        intro j out ss ω w hj top o
        refine hX _ _ _ _ ?_
        unfold C.tocsinref08_Split.S7 C.tocsinref08_Split.S2
        refine cond_d (fun h => by omega) (fun _ => hK hz hris out ss ω w top ?_)
        rw [← show j = (m.length + 119) / 120 by omega]; exact o
      | succ d ih =>
        intro j out ss ω w hj top o
        refine hX _ _ _ _ ?_
        unfold C.tocsinref08_Split.S7
        have hlt : 120 * j < m.length := by omega
        refine cond_d (fun _ => ?_) (fun h => by omega)
        rw [wI64 (x := ((120 * j : Nat) : Int) + 120) (by omega) (by omega)]
        have hv := pce_valid hris j
        have go : ∀ q, Rd w q 2 (smps (pce m j)) → C.tocsinref08_Bytes q w fun l16 w17 => G.new (.cells #[l16.v] 27) w17 fun p18 w19 => G.runSl Tryd.prog (Builtin.append_ #[54, 54] 54 #[out.v, (Sl.v (⟨some p18, 1, 1⟩ : Sl))]) w19 fun l20 w21 => X s l20 (((120 * j : Nat) : Int) + 120) w21 := by
          intro q hq
          refine rbytes_ok hq hv fun a w2 k2 o2 => ?_
          have s2 := k2.stp ω 13
          have o2' := Own.tag o2 (Nat.le_refl _) ω 13
          have ol := o.stp s2 rfl rfl
          have hpl : (pcs m j).length ≤ 100000 := by unfold pcs; rw [List.length_map, List.length_range]; omega
          refine ol.push o2' hpl fun r ω3 w3 k3 o3 => ?_
          rw [show ((120 * j : Nat) : Int) + 120 = ((120 * (j + 1) : Nat) : Int) by omega]
          exact ih (j + 1) r _ ω3 w3 (by omega) ((top.stp s2).stp k3) (by rw [pcs_succ]; exact o3)
        refine cond_d (fun hgt => ?_) (fun hle => ?_)
        · refine Rd.slc (hs.keep top.k) (lo := 120 * j) (hi := m.length) (by omega) (by omega) rfl (by omega) fun q hq _ _ => ?_
          have e := pce_rd (hs.keep top.k) (i := j) (hi := m.length) (by omega) hlt
          rw [e] at hq
          exact go q hq
        · refine Rd.slc (hs.keep top.k) (lo := 120 * j) (hi := 120 * j + 120) (by omega) (by omega) rfl (by omega) fun q hq _ _ => ?_
          have e := pce_rd (hs.keep top.k) (i := j) (hi := 120 * j + 120) (by omega) hlt
          rw [e] at hq
          exact go q hq
    exact key ((m.length + 119) / 120) 0 nilS [] (fun _ => 0) w1 (by omega) ⟨k1, fun _ _ => rfl⟩ ⟨OT.nil _ _ _ _ _, rfl, fun j q b h => by simp at h⟩
  refine C.tocsinref08_Split.L14_ind fun X hX => ?_
  have key : ∀ (d i : Nat) (w : World), i + d = m.length → Keep w0 w → swr (m.take i) (m.drop i) i = swr [] m 0 → X s s ((s.n : Nat) : Int) (i : Int) w := by
    intro d
    induction d with
    | zero =>
      intro i w hi k e
      refine hX _ _ _ _ _ ?_
      unfold C.tocsinref08_Split.S16
      refine cond_d (fun h => by omega) (fun _ => pieces ?_ w k)
      rw [← e, List.drop_of_length_le (by omega)]; rfl
    | succ d ih =>
      intro i w hi k e
      have him : i < m.length := by omega
      refine hX _ _ _ _ _ ?_
      unfold C.tocsinref08_Split.S16
      refine cond_d (fun _ => ?_) (fun h => by omega)
      have hx : m[i]? = some m[i] := List.getElem?_eq_getElem him
      refine rdS_at (hs.keep k) (k := i) rfl hx fun a hc0 hc1 => cI_at hc0 <| cF_at hc1 ?_
      refine new_T (ω := fun _ => 0) 7 fun g ω2 w2 k2 b2 => ?_
      refine st_T b2 (by simp) fun ω3 w3 k3 b3 => ?_
      refine st_TA b3 (by simp) fun ω4 w4 k4 b4 => ?_
      have k4' := Keep.trans k ((Top.init w).stp ((k2.non (Mem.One 7)).trans (k3.trans k4))).k
      rw [List.drop_eq_getElem_cons him, swr] at e
      have bad : ∀ c : Int, (c, i) = swr [] m 0 → c ≠ 0 → ∀ w', Keep w0 w' → K nilS c (i : Int) w' := fun c ec hc w' kk => by
        have := hE (by rw [← ec]; exact hc) w' kk
        rwa [← ec] at this
      refine cI_at (n := m[i].1) (by rw [b4.cell]; rfl) (cond_d (fun h1 => ?_) (fun h1 => ?_))
      · rw [if_pos (.inl h1)] at e
        exact bad 1 e (by decide) w4 k4'
      refine cI_at (n := m[i].1) (by rw [b4.cell]; rfl) (cond_d (fun h2 => ?_) (fun h2 => ?_))
      · rw [if_pos (.inr h2)] at e
        exact bad 1 e (by decide) w4 k4'
      rw [if_neg (by omega)] at e
      have kd := Keep.trans k4' (Keep.drew w4)
      have next : late (m.take i) m[i].1 = false → ∀ w', Keep w0 w' → X s s ((s.n : Nat) : Int) (IntKind.i64.wrap ((i : Int) + 1)) w' := fun hla w' kk => by
        rw [hla, if_neg (by decide)] at e
        rw [wI64 (by omega) (by omega), show (i : Int) + 1 = ((i + 1 : Nat) : Int) by omega]
        refine ih (i + 1) w' (by omega) kk ?_
        rw [List.take_add_one, hx]; exact e
      refine cond_d (fun h3 => ?_) (fun h3 => next ?_ _ kd)
      · have hy : m[i - 1]? = some m[i - 1] := List.getElem?_eq_getElem (by omega)
        have hlast : (m.take i).getLast? = some m[i - 1] := by
          rw [List.getLast?_eq_getElem?, List.length_take, Nat.min_eq_left (by omega), List.getElem?_take, if_pos (by omega), hy]
        refine cI_at (n := m[i].1) (by rw [(b4.stp (drew_stp ω4 w4)).cell]; rfl) ?_
        refine rdS_at (hs.keep kd) (k := i - 1) (by rw [wI64 (by omega) (by omega)]; omega) hy fun p hp0 _ => cI_at hp0 ?_
        refine cond_d (fun h4 => ?_) (fun h4 => next ?_ _ kd)
        · have : late (m.take i) m[i].1 = true := by unfold late; rw [hlast]; simp only [decide_eq_true_eq]; exact h4
          rw [this, if_pos rfl] at e
          exact bad 90 e (by decide) _ kd
        · unfold late; rw [hlast]; simp only [decide_eq_false_iff_not]; exact h4
      · have : m.take i = [] := List.eq_nil_of_length_eq_zero (by rw [List.length_take]; omega)
        rw [this]; rfl
  exact key m.length 0 w0 (by omega) (Keep.refl w0) rfl


/-! ## ChunkPieces -/
/-- Byte slices that came in. -/
abbrev bbSh : Sh := .sl [.sl [.int .u8]]
theorem by_of {s : Sl} {b : Nat} (h : Cl w (.sl [.int .u8]) s.v b) : ∃ l : List UInt8, RdB w s l := by
  obtain ⟨f, U, h1, h2, h3, h4, h5, h6, h7⟩ := h.sl_inv
  have get : ∀ i, i < s.n → ∃ c : UInt8, U i 0 = vB c := by
    intro i hi
    obtain ⟨n, e0, a1, a2⟩ := (h7 i 0 _ hi rfl).int_inv
    have b1 : 0 ≤ n := by simpa [IntKind.min, IntKind.signed, IntKind.bits] using a1
    have b2 : n ≤ 255 := by simpa [IntKind.max, IntKind.signed, IntKind.bits] using a2
    refine ⟨UInt8.ofNat n.toNat, ?_⟩
    rw [e0]
    simp only [vB]
    rw [ofNat_val (by omega), show ((n.toNat : Nat) : Int) = n by omega]
  obtain ⟨g, hg⟩ : ∃ g : Nat → UInt8, ∀ i, i < s.n → U i 0 = vB (g i) :=
    ⟨fun i => if hi : i < s.n then (get i hi).choose else 0, fun i hi => by simp only [dif_pos hi]; exact (get i hi).choose_spec⟩
  refine ⟨(List.range s.n).map g, h1, by simp [vBs], fun hne => ?_⟩
  have hn : 0 < s.n := by
    rcases Nat.eq_zero_or_pos s.n with e | e
    · rw [e] at hne; exact absurd rfl hne
    · exact e
  obtain ⟨gb, o, ha, hc⟩ := h6 hn
  refine ⟨gb, o, ha, fun j v hv => ?_⟩
  have hj : j < s.n := by
    have := (List.getElem?_eq_some_iff.1 hv).1
    simpa [vBs] using this
  have := hc j 0 _ hj rfl
  rw [hg j hj] at this
  have ev : v = vB (g j) := by
    simp only [vBs, List.getElem?_map, List.getElem?_range hj, Option.map_some] at hv
    exact (Option.some.inj hv).symm
  rw [ev]
  simpa using this
theorem bb_of {s : Sl} {b : Nat} (h : Cl w bbSh s.v b) : ∃ ss bss, RdL w s ss bss := by
  obtain ⟨f, U, h1, h2, h3, h4, h5, h6, h7⟩ := h.sl_inv
  have get : ∀ i, i < s.n → ∃ (q : Sl) (l : List UInt8), U i 0 = q.v ∧ RdB w q l := by
    intro i hi
    have hc := h7 i 0 _ hi rfl
    obtain ⟨q, e⟩ := hc.sl_ex
    rw [e] at hc
    obtain ⟨l, hl⟩ := by_of hc
    exact ⟨q, l, e, hl⟩
  obtain ⟨g, hg⟩ : ∃ g : Nat → Sl × List UInt8, ∀ i, i < s.n → U i 0 = (g i).1.v ∧ RdB w (g i).1 (g i).2 :=
    ⟨fun i => if hi : i < s.n then ((get i hi).choose, (get i hi).choose_spec.choose) else (nilS, []), fun i hi => by simp only [dif_pos hi]; exact (get i hi).choose_spec.choose_spec⟩
  refine ⟨(List.range s.n).map fun i => (g i).1, (List.range s.n).map fun i => (g i).2, ⟨h1, by simp, fun hne => ?_⟩, by simp, fun j q l hq hl => ?_⟩
  · have hn : 0 < s.n := by
      rcases Nat.eq_zero_or_pos s.n with e | e
      · rw [e] at hne; exact absurd rfl hne
      · exact e
    obtain ⟨gb, o, ha, hc⟩ := h6 hn
    refine ⟨gb, o, ha, fun j v hv => ?_⟩
    have hj : j < s.n := by
      have := (List.getElem?_eq_some_iff.1 hv).1
      simpa using this
    have := hc j 0 _ hj rfl
    rw [(hg j hj).1] at this
    have ev : v = (g j).1.v := by
      simp only [List.getElem?_map, List.getElem?_range hj, Option.map_some] at hv
      exact (Option.some.inj hv).symm
    rw [ev]
    simpa using this
  · have hj : j < s.n := by
      have := (List.getElem?_eq_some_iff.1 hq).1
      simpa using this
    simp only [List.getElem?_map, List.getElem?_range hj, Option.map_some, Option.some.injEq] at hq hl
    rw [← hq, ← hl]
    exact (hg j hj).2
theorem RdL.take {s : Sl} {ss : List Sl} {bss : List (List UInt8)} (h : RdL w s ss bss) {n : Nat} (hn : n ≤ s.n) {j : Int} (ej : j = n) {K : Sl → Prop} (hK : ∀ r, RdL w r (ss.take n) (bss.take n) → K r) : G.slc s 0 j 1 K := by
  have hsn := h.n
  refine Rd.slc h.rd (lo := 0) (hi := n) (by omega) hn rfl ej fun r hr _ _ => hK r ⟨?_, by rw [List.length_take, List.length_take, h.len], fun i q b h1 h2 => ?_⟩
  · rw [Nat.zero_mul, List.drop_zero, Nat.sub_zero, Nat.mul_one] at hr
    rw [List.map_take]; exact hr
  · rw [List.getElem?_take] at h1 h2
    split at h1
    · rename_i hi
      rw [if_pos hi] at h2
      exact h.el i q b h1 h2
    · cases h1

theorem pieces_S2 (hT : DTab w0) (hk : Keep w0 w) {p : Sl} {ss : List Sl} {bss : List (List UInt8)} (hp : RdL w p ss bss) (hl : bss.length ≤ 100) {K : Bool → World → Prop} (hK : ∀ w', Keep w0 w' → K true w') : C.tocsinlaw08_ChunkPieces.S2 K p w := by
  unfold C.tocsinlaw08_ChunkPieces.S2
  refine join_ok (hT.keep hk) hp hl fun r w1 k1 o1 => ?_
  refine rjoin_ok (hp.keep k1) hl fun q w2 k2 o2 => ?_
  have hlen : (joinL [] bss 0).1.length ≤ 9223372036854775807 := by
    have h1 := o1.1
    rw [smps_len] at h1
    rcases Mem.Own.cases o1 with ⟨e1, e2⟩ | ⟨g, cur, ha, hg, hb, hn, hm, hll, ht⟩
    · rw [e1] at h1; simp [nilS] at h1; omega
    · simp only [maxLen] at hm
      omega
  have k02 := Keep.trans hk (Keep.trans k1 k2)
  refine same_ok (Mem.Own.rd (Mem.Own.keep o1 k2)) (Mem.Own.rd o2) hlen (fun _ w3 k3 => ?_) (fun hne => absurd rfl hne)
  have k03 := Keep.trans k02 k3
  refine cond_t rfl (cond_t (by simp) (cond_t (by simp) ?_))
  exact awake_ok (hT.keep k03) fun w4 k4 => hK w4 (Keep.trans k03 k4)
theorem pieces_S3 (hT : DTab w0) (hk : Keep w0 w) {p : Sl} {ss : List Sl} {bss : List (List UInt8)} (hp : RdL w p ss bss) {K : Bool → World → Prop} (hK : ∀ w', Keep w0 w' → K true w') : C.tocsinlaw08_ChunkPieces.S3 K p w := by
  unfold C.tocsinlaw08_ChunkPieces.S3
  have hn := hp.n
  refine cond_d (fun h => ?_) (fun h => pieces_S2 hT hk hp (by omega) hK)
  exact hp.take (n := 20) (by omega) rfl fun r hr => pieces_S2 hT hk hr (by rw [List.length_take]; omega) hK
theorem pieces_S12 (hT : DTab w0) (hk : Keep w0 w) {s p : Sl} {m : List Smp} (hs : Rd w s 2 (smps m)) (hm : ∀ x ∈ m, x.2 < 18446744073709551616) (hl : m.length ≤ 2000) {ss : List Sl} {bss : List (List UInt8)} (hp : RdL w p ss bss) {K : Bool → World → Prop} (hK : ∀ w', Keep w0 w' → K true w') : C.tocsinlaw08_ChunkPieces.S12 K s p w := by
  unfold C.tocsinlaw08_ChunkPieces.S12
  have same : ∀ (x y : Sl) (sx sy : List Sl) (l : List (List UInt8)) w3, l.length ≤ 100 → Keep w w3 → RdL w3 x sx l → RdL w3 y sy l → C.tocsinlaw08_ChunkPieces.S10 K p x y w3 := by
    intro x y sx sy l w3 hll k3 hx hy
    unfold C.tocsinlaw08_ChunkPieces.S10
    have hxn := hx.n
    refine C.tocsinlaw08_ChunkPieces.L6_ind fun X hX => ?_
    have key : ∀ (d i : Nat) (w4 : World), i + d = l.length → Keep w3 w4 → X p x y ((x.n : Nat) : Int) (i : Int) w4 := by
      intro d
      induction d with
      | zero =>
        intro i w4 hi k4
        refine hX _ _ _ _ _ _ ?_
        unfold C.tocsinlaw08_ChunkPieces.S8
        have k04 := Keep.trans k3 k4
        exact cond_d (fun h => by omega) (fun _ => pieces_S3 hT (Keep.trans hk k04) (hp.keep k04) hK)
      | succ d ih =>
        intro i w4 hi k4
        refine hX _ _ _ _ _ _ ?_
        unfold C.tocsinlaw08_ChunkPieces.S8
        refine cond_d (fun _ => ?_) (fun h => by omega)
        have kd := Keep.trans k4 (Keep.drew w4)
        have hb : l[i]? = some l[i] := List.getElem?_eq_getElem (by omega)
        refine (hx.keep kd).at_ hb fun q hq => convBS hq ?_
        refine (hy.keep kd).at_ hb fun q' hq' => convBS hq' ?_
        refine cond_f (by simp) ?_
        rw [wI64 (by omega) (by omega), show (i : Int) + 1 = ((i + 1 : Nat) : Int) by omega]
        exact ih (i + 1) _ (by omega) kd
    exact key l.length 0 w3 (by omega) (Keep.refl w3)
  refine split_ok (hT.keep hk) hs hm hl (fun he w1 k1 => ?_) (fun he hr r ss1 ω1 w1 top1 o1 => ?_)
  · refine rsplit_ok (hs.keep k1) hm hl (fun _ w2 k2 => ?_) (fun he' => absurd he' he)
    refine cond_f (by simp) (cond_f (by simp) (cond_f (by simp) ?_))
    exact same nilS nilS [] [] [] w2 (by decide) (Keep.trans k1 k2) ⟨Rd.nil _ _, rfl, fun j q b h => by simp at h⟩ ⟨Rd.nil _ _, rfl, fun j q b h => by simp at h⟩
  · refine rsplit_ok (hs.keep top1.k) hm hl (fun he' => absurd he he') (fun _ _ q ss2 ω2 w2 top2 o2 => ?_)
    have r1 := o1.rdl.keep top2.k
    have r2 := o2.rdl
    have n1 := r1.n
    have n2 := r2.n
    refine cond_f (by simp; omega) (cond_f (by simp) (cond_f (by simp) ?_))
    exact same r q ss1 ss2 _ w2 (by unfold pcs; rw [List.length_map, List.length_range]; omega) (Keep.trans top1.k top2.k) r1 r2
theorem pieces_law (hT : DTab w0) {s p : Sl} {n n' : Nat} (hs : Cl w0 smpSh s.v n) (hp : Cl w0 bbSh p.v n') {K : Bool → World → Prop} (hK : ∀ w', Keep w0 w' → K true w') : C.tocsinlaw08_ChunkPieces s p w0 K := by
  obtain ⟨m, hm, hmn, _, hmx, hmm⟩ := smps_of hs
  obtain ⟨ss, bss, hb⟩ := bb_of hp
  have fm : ∀ x ∈ m, x.2 < 18446744073709551616 := fun x hx => (hmm x hx).2.2
  unfold C.tocsinlaw08_ChunkPieces
  refine cond_d (fun h => ?_) (fun h => pieces_S12 hT (Keep.refl w0) hm fm (by omega) hb hK)
  refine Rd.slc hm (lo := 0) (hi := 2000) (by omega) (by omega) rfl rfl fun r hr _ _ => ?_
  rw [take_smps m 2000 (by omega)] at hr
  exact pieces_S12 hT (Keep.refl w0) hr (fun x hx => fm x (List.mem_of_mem_take hx)) (by rw [List.length_take]; omega) hb hK
end Go.Proofs.YtpadehbcjkhegaaDoor.Chunk
