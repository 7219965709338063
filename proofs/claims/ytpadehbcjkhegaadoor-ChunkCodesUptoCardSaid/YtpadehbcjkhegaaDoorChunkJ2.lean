/- Layer 8: Split; samples through chunks; ChunkBack. Own work. -/
import Derived.Test.YtpadehbcjkhegaaDoorChunkJ
namespace Go.Proofs.YtpadehbcjkhegaaDoor.Chunk
open Go Vm Go.RowKit Num Mem Bits Vint Rep
variable {ω ω' : Tg} {w w' w0 : World} {bs : List UInt8}

/-- A slice of byte slices of the call's own. -/
structure OLs (ω : Tg) (w : World) (t : Nat) (s : Sl) (ss : List Sl) (bss : List (List UInt8)) : Prop where
  own : OT ω w t 27 1 s (ss.map Sl.v)
  len : ss.length = bss.length
  el : ∀ (j : Nat) q b, ss[j]? = some q → bss[j]? = some b → OBy ω w (t + 1) q b
theorem OLs.stp {T : Nat → Bool} {t : Nat} {s : Sl} {ss : List Sl} {bss : List (List UInt8)} (h : OLs ω w t s ss bss) (k : Stp T ω ω' w w') (n0 : T t = false) (n1 : T (t + 1) = false) : OLs ω' w' t s ss bss :=
  ⟨h.own.stp k n0, h.len, fun j q b h1 h2 => (h.el j q b h1 h2).stp k n1⟩
theorem OLs.rdl {t : Nat} {s : Sl} {ss : List Sl} {bss : List (List UInt8)} (h : OLs ω w t s ss bss) : RdL w s ss bss := ⟨h.own.rd, h.len, fun j q b h1 h2 => (h.el j q b h1 h2).rd⟩
theorem OLs.n {t : Nat} {s : Sl} {ss : List Sl} {bss : List (List UInt8)} (h : OLs ω w t s ss bss) : s.n = bss.length := h.rdl.n
/-- One more. -/
theorem OLs.push {t : Nat} {s : Sl} {ss : List Sl} {bss : List (List UInt8)} (h : OLs ω w t s ss bss) {q : Sl} {b : List UInt8} (hq : OBy ω w (t + 1) q b) (hl : bss.length ≤ 100000) {K : Sl → World → Prop}
    (hK : ∀ r ω' w', Stp (Mem.One t) ω ω' w w' → OLs ω' w' t r (ss ++ [q]) (bss ++ [b]) → K r w') :
    G.new (.cells #[q.v] 27) w fun p w1 => G.runSl Tryd.prog (Builtin.append_ #[54, 54] 54 #[s.v, (⟨some p, 1, 1⟩ : Sl).v]) w1 K := by
  have hn := h.n
  refine push_T tiBB h.own (n := 1) rfl (by intro v hv; simp at hv; subst hv; rfl) (by simp only [maxLen]; omega) (by omega) fun r ω2 w2 k2 o2 hr => hK r ω2 w2 k2 ⟨by rw [List.map_append]; exact o2, by rw [List.length_append, List.length_append, h.len]; rfl, fun j q' b' h1 h2 => ?_⟩
  rcases Nat.lt_or_ge j ss.length with hj | hj
  · rw [List.getElem?_append_left hj] at h1
    rw [List.getElem?_append_left (by rw [← h.len]; exact hj)] at h2
    exact (h.el j q' b' h1 h2).stp k2 (beq_no (by omega))
  · rw [List.getElem?_append_right hj] at h1
    rw [List.getElem?_append_right (by rw [← h.len]; exact hj), ← h.len] at h2
    rcases Nat.eq_zero_or_pos (j - ss.length) with e | e
    · rw [e] at h1 h2
      simp only [List.getElem?_cons_zero, Option.some.injEq] at h1 h2
      subst h1 h2
      exact hq.stp k2 (beq_no (by omega))
    · rw [List.getElem?_eq_none (by simp; omega)] at h1; cases h1

theorem pce_rd {s : Sl} {m : List Smp} (h : Rd w s 2 (smps m)) {i hi : Nat} (h1 : hi = min m.length (120 * i + 120)) (h2 : 120 * i < m.length) : ((smps m).drop (120 * i * 2)).take ((hi - 120 * i) * 2) = smps (pce m i) := by
  have e : m = m.take (120 * i) ++ (pce m i ++ (m.drop (120 * i)).drop 120) := by
    unfold pce
    rw [List.take_append_drop, List.take_append_drop]
  have l1 : (m.take (120 * i)).length = 120 * i := by rw [List.length_take]; omega
  have l2 : (pce m i).length = hi - 120 * i := by unfold pce; rw [List.length_take, List.length_drop]; omega
  have e2 : smps m = smps (m.take (120 * i)) ++ (smps (pce m i) ++ smps ((m.drop (120 * i)).drop 120)) := by rw [← smps_app, ← smps_app, ← e]
  rw [e2, List.drop_append_of_le_length (by rw [smps_len, l1]; omega), List.drop_of_length_le (by rw [smps_len, l1]; omega), List.nil_append, List.take_append_of_le_length (by rw [smps_len, l2]; omega), List.take_of_length_le (by rw [smps_len, l2]; omega)]

theorem split_ok (hT : DTab w0) {s : Sl} {m : List Smp} (hs : Rd w0 s 2 (smps m)) (hm : ∀ x ∈ m, x.2 < 18446744073709551616) (hl : m.length ≤ 2000) {K : Sl → Int → Int → World → Prop}
    (hE : (swr [] m 0).1 ≠ 0 → ∀ w', Keep w0 w' → K nilS (swr [] m 0).1 ((swr [] m 0).2 : Int) w')
    (hK : (swr [] m 0).1 = 0 → Rising m → ∀ r ss ω' w', Top w0 ω' w' → OLs ω' w' 12 r ss (pcs m ((m.length + 119) / 120)) → K r 0 0 w') : C.chunk_Split s w0 K := by
  have hsn : s.n = m.length := by have := hs.2.1; rw [smps_len] at this; omega
  unfold C.chunk_Split C.chunk_Split.S18
  -- the pieces
  have pieces : (swr [] m 0).1 = 0 → ∀ w1, Keep w0 w1 → C.chunk_Split.S11 K s w1 := by
    intro hz w1 k1
    have hris : Rising m := by simpa using swr_rising m [] 0 .nil hm hz
    unfold C.chunk_Split.S11 C.chunk_Split.S9
    refine C.chunk_Split.L5_ind fun X hX => ?_
    have key : ∀ (d j : Nat) (out : Sl) (ss : List Sl) (ω : Tg) (w : World), j + d = (m.length + 119) / 120 → Top w0 ω w → OLs ω w 12 out ss (pcs m j) → X s out ((120 * j : Nat) : Int) w := by
      intro d
      induction d with
      | zero =>
        intro j out ss ω w hj top o
        refine hX _ _ _ _ ?_
        unfold C.chunk_Split.S7 C.chunk_Split.S2
        refine cond_d (fun h => by omega) (fun _ => hK hz hris out ss ω w top ?_)
        rw [← show j = (m.length + 119) / 120 by omega]; exact o
      | succ d ih =>
        intro j out ss ω w hj top o
        refine hX _ _ _ _ ?_
        unfold C.chunk_Split.S7
        have hlt : 120 * j < m.length := by omega
        refine cond_d (fun _ => ?_) (fun h => by omega)
        rw [wI64 (x := ((120 * j : Nat) : Int) + 120) (by omega) (by omega)]
        have ehi : (if ((s.n : Nat) : Int) < ((120 * j : Nat) : Int) + 120 then ((s.n : Nat) : Int) else ((120 * j : Nat) : Int) + 120) = ((min m.length (120 * j + 120) : Nat) : Int) := by split <;> omega
        rw [ehi]
        refine Rd.slc3 (hs.keep top.k) (lo := 120 * j) (hi := min m.length (120 * j + 120)) (by omega) (by omega) rfl rfl rfl fun q hq _ => ?_
        rw [pce_rd (hs.keep top.k) rfl hlt] at hq
        have hv := pce_valid hris j
        have hf := firstW_zero (pce m j) [] 0 hv
        refine encode_ok (hT.keep top.k) hq (fun x hx => (hv.mem x hx).2.2) (by have := pce_len m j; omega) (fun h => absurd (by rw [hf]) h) fun _ _ a w2 k2 o2 => ?_
        have s2 := k2.stp ω 13
        have o2' := Own.tag o2 (Nat.le_refl _) ω 13
        have ol := o.stp s2 rfl rfl
        have hpl : (pcs m j).length ≤ 100000 := by unfold pcs; rw [List.length_map, List.length_range]; omega
        refine ol.push o2' hpl fun r ω3 w3 k3 o3 => ?_
        rw [show ((120 * j : Nat) : Int) + 120 = ((120 * (j + 1) : Nat) : Int) by omega]
        exact ih (j + 1) r _ ω3 w3 (by omega) ((top.stp s2).stp k3) (by rw [pcs_succ]; exact o3)
    exact key ((m.length + 119) / 120) 0 nilS [] (fun _ => 0) w1 (by omega) ⟨k1, fun _ _ => rfl⟩ ⟨OT.nil _ _ _ _ _, rfl, fun j q b h => by simp at h⟩
  refine C.chunk_Split.L14_ind fun X hX => ?_
  have key : ∀ (d i : Nat) (w : World), i + d = m.length → Keep w0 w → swr (m.take i) (m.drop i) i = swr [] m 0 → X s s ((s.n : Nat) : Int) (i : Int) w := by
    intro d
    induction d with
    | zero =>
      intro i w hi k e
      refine hX _ _ _ _ _ ?_
      unfold C.chunk_Split.S16
      refine cond_d (fun h => by omega) (fun _ => pieces ?_ w k)
      rw [← e, List.drop_of_length_le (by omega)]; rfl
    | succ d ih =>
      intro i w hi k e
      have him : i < m.length := by omega
      refine hX _ _ _ _ _ ?_
      unfold C.chunk_Split.S16
      refine cond_d (fun _ => ?_) (fun h => by omega)
      have hx : m[i]? = some m[i] := List.getElem?_eq_getElem him
      refine rdS_at (hs.keep k) (k := i) rfl hx fun a hc0 hc1 => cI_at hc0 <| cF_at hc1 ?_
      refine new_T (ω := fun _ => 0) 7 fun g ω2 w2 k2 b2 => ?_
      refine st_T b2 (by simp) fun ω3 w3 k3 b3 => ?_
      refine st_TA b3 (by simp) fun ω4 w4 k4 b4 => ?_
      have k4' := Keep.trans k ((Top.init w).stp ((k2.non (Mem.One 7)).trans (k3.trans k4))).k
      rw [List.drop_eq_getElem_cons him, swr] at e
      have bad : ∀ c : Int, (c, i) = swr [] m 0 → c ≠ 0 → ∀ w', Keep w0 w' → K nilS c (i : Int) w' := fun c ec hc w' kk => by
        have := hE (by rw [← ec]; exact hc) w' kk
        rwa [← ec] at this
      refine cI_at (n := m[i].1) (by rw [b4.cell]; rfl) (cond_d (fun h1 => ?_) (fun h1 => ?_))
      · rw [if_pos (.inl h1)] at e
        exact bad 1 e (by decide) w4 k4'
      refine cI_at (n := m[i].1) (by rw [b4.cell]; rfl) (cond_d (fun h2 => ?_) (fun h2 => ?_))
      · rw [if_pos (.inr h2)] at e
        exact bad 1 e (by decide) w4 k4'
      rw [if_neg (by omega)] at e
      have kd := Keep.trans k4' (Keep.drew w4)
      have next : late (m.take i) m[i].1 = false → ∀ w', Keep w0 w' → X s s ((s.n : Nat) : Int) (IntKind.i64.wrap ((i : Int) + 1)) w' := fun hla w' kk => by
        rw [hla, if_neg (by decide)] at e
        rw [wI64 (by omega) (by omega), show (i : Int) + 1 = ((i + 1 : Nat) : Int) by omega]
        refine ih (i + 1) w' (by omega) kk ?_
        rw [List.take_add_one, hx]; exact e
      refine cond_d (fun h3 => ?_) (fun h3 => next ?_ _ kd)
      · have hy : m[i - 1]? = some m[i - 1] := List.getElem?_eq_getElem (by omega)
        have hlast : (m.take i).getLast? = some m[i - 1] := by
          rw [List.getLast?_eq_getElem?, List.length_take, Nat.min_eq_left (by omega), List.getElem?_take, if_pos (by omega), hy]
        refine cI_at (n := m[i].1) (by rw [(b4.stp (drew_stp ω4 w4)).cell]; rfl) ?_
        refine rdS_at (hs.keep kd) (k := i - 1) (by rw [wI64 (by omega) (by omega)]; omega) hy fun p hp0 _ => cI_at hp0 ?_
        refine cond_d (fun h4 => ?_) (fun h4 => next ?_ _ kd)
        · have : late (m.take i) m[i].1 = true := by unfold late; rw [hlast]; simp only [decide_eq_true_eq]; exact h4
          rw [this, if_pos rfl] at e
          exact bad 90 e (by decide) _ kd
        · unfold late; rw [hlast]; simp only [decide_eq_false_iff_not]; exact h4
      · have : m.take i = [] := List.eq_nil_of_length_eq_zero (by rw [List.length_take]; omega)
        rw [this]; rfl
  exact key m.length 0 w0 (by omega) (Keep.refl w0) rfl

theorem rising_at {m : List Smp} (h : Rising m) {i : Nat} (hi : i + 1 < m.length) : m[i].1 < m[i + 1].1 := by
  rw [← List.take_append_drop (i + 2) m] at h
  have h1 := h.parts.1
  have e : m.take (i + 2) = m.take (i + 1) ++ [m[i + 1]] := by rw [List.take_add_one, List.getElem?_eq_getElem hi]; rfl
  rw [e] at h1
  have := h1.inv.2.2.2.1
  unfold late at this
  have hlast : (m.take (i + 1)).getLast? = some m[i] := by
    rw [List.getLast?_eq_getElem?, List.length_take, Nat.min_eq_left (by omega), List.getElem?_take, if_pos (by omega), List.getElem?_eq_getElem (by omega)]
    rfl
  rw [hlast] at this
  simp only [decide_eq_false_iff_not] at this
  omega
theorem join_pcs {m : List Smp} (h : Rising m) : ∀ (d j : Nat), j + d = (m.length + 119) / 120 → joinL (m.take (120 * j)) ((pcs m ((m.length + 119) / 120)).drop j) j = (m, 0, 0)
  | 0, j, hj => by
    rw [List.drop_of_length_le (by unfold pcs; rw [List.length_map, List.length_range]; omega), joinL, List.take_of_length_le (by omega)]
  | d + 1, j, hj => by
    have hp : (pcs m ((m.length + 119) / 120))[j]? = some (enc (pce m j)) := by unfold pcs; rw [List.getElem?_map, List.getElem?_range (by omega)]; rfl
    have hlt : j < (pcs m ((m.length + 119) / 120)).length := (List.getElem?_eq_some_iff.1 hp).1
    have hg : (pcs m ((m.length + 119) / 120))[j] = enc (pce m j) := by
      have := List.getElem?_eq_getElem hlt
      rw [hp] at this
      exact (Option.some.inj this).symm
    rw [List.drop_eq_getElem_cons hlt, hg, joinL, dec_enc (pce_valid h j)]
    simp only
    have happ : m.take (120 * j) ++ pce m j = m.take (120 * (j + 1)) := by
      unfold pce
      rw [show 120 * (j + 1) = 120 * j + 120 by omega, List.take_add]
    rw [if_neg, happ]
    · exact join_pcs h d (j + 1) (by omega)
    · rintro ⟨h1, h2, h3⟩
      have hj0 : 0 < j := by
        rcases Nat.eq_zero_or_pos j with e | e
        · rw [e] at h2; exact absurd rfl h2
        · exact e
      have hlj : 120 * j < m.length := by omega
      have hh : (pce m j).head?.getD (0, 0) = m[120 * j] := by
        unfold pce
        rw [List.head?_eq_getElem?, List.getElem?_take, if_pos (by decide), List.getElem?_drop, Nat.add_zero, List.getElem?_eq_getElem hlj]; rfl
      have hla : lastS (m.take (120 * j)) = m[120 * j - 1] := by
        unfold lastS
        rw [List.getLast?_eq_getElem?, List.length_take, Nat.min_eq_left (by omega), List.getElem?_take, if_pos (by omega), List.getElem?_eq_getElem (by omega)]; rfl
      rw [hh, hla] at h3
      have := rising_at h (i := 120 * j - 1) (by omega)
      have e : 120 * j - 1 + 1 = 120 * j := by omega
      simp only [e] at this
      omega
end Go.Proofs.YtpadehbcjkhegaaDoor.Chunk
