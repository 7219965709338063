/- Layer 7 (wal): records in new memory, replay. Own work. -/
import Derived.Test.YtdaghggdmgbpnaaDoorWlC
namespace Go.Proofs.YtdaghggdmgbpnaaDoor.Wl
open Go Vm Go.RowKit Num Mem Dk Wo Vint
variable {ω ω' : Tg} {w w' w0 : World} {T : Nat → Bool} {t gl gd room at' : Nat} {name : ByteArray} {sl : Sl} {pl : List Pc} {M : List Fl}

theorem again_ok {b : Sl} {l : List UInt8} (hb : RdB w b l) (hl : l.length ≤ 10000000) {K : Sl → World → Prop}
    (hK : ∀ r w', Keep w w' → (∀ ω u, RT (ext ω w.heap.size u) w' u r 1 (vBs l)) → K r w') : C.wal_again b w K := by
  have hn := hb.len
  unfold C.wal_again
  refine make0B (c := l.length + 1) (by rw [wI64 (by omega) (by omega)]; omega) (Keep.refl w) (Nat.le_refl _) (by omega) fun r0 w1 k1 o1 => ?_
  refine appB k1 k1.size o1 (hb.keep k1) (by simp; omega) fun r1 w2 k2 o2 => ?_
  rw [List.nil_append] at o2
  have h2 := o2.rd
  have hn2 := o2.len
  have hc := h2.1
  refine ⟨⟨by omega, by omega, Int.le_refl _, by omega⟩, ?_⟩
  have ea : (if ((b.n : Nat) : Int).toNat = (0 : Int).toNat then r1.a else r1.a.map (·.add ((0 : Int).toNat * 1))) = r1.a := by
    split
    · rfl
    · cases r1.a with
      | none => rfl
      | some a => simp [Addr.add]
  have ha : ∀ g o, r1.a = some ⟨g, o, none⟩ → vBs l ≠ [] → w.heap.size ≤ g := by
    intro g o hg hne
    refine (Own.geC o2 (g := g) ?_).1
    show (Value.slice r1.a r1.n r1.c).ownBlock = _
    rw [hg]
    rfl
  refine hK _ w2 k2 fun ω u => ⟨⟨Nat.le_refl _, ?_, fun hne => ?_⟩, fun g o hg hne => ?_⟩
  · show (vBs l).length = (((b.n : Nat) : Int).toNat - (0 : Int).toNat) * 1
    rw [vBs_length, Int.toNat_natCast, show (0 : Int).toNat = 0 from rfl]
    omega
  · obtain ⟨g, o, hg, hcell⟩ := h2.2.2 hne
    exact ⟨g, o, by rw [ea]; exact hg, hcell⟩
  · exact ext_new (ha g o (by rw [ea] at hg; exact hg) hne)

/-! ## What a call with a log may turn -/
abbrev TW (t : Nat) : Nat → Bool := fun u => DT t u || DT 1 u
theorem tw_1 (k : Stp (DT 1) ω ω' w w') : Stp (TW t) ω ω' w w' := k.mono fun u hu => by simp only [TW, Bool.or_eq_false_iff] at hu; exact hu.2
theorem tw_t (k : Stp (DT t) ω ω' w w') : Stp (TW t) ω ω' w w' := k.mono fun u hu => by simp only [TW, Bool.or_eq_false_iff] at hu; exact hu.1
theorem tw_n (k : Stp Non ω ω' w w') : Stp (TW t) ω ω' w w' := k.non _
theorem tw_off {u : Nat} (h1 : u < t ∨ t + 2 < u) (h2 : u < 1 ∨ 3 < u) : TW t u = false := by
  simp only [TW]; rw [dt_off h1, dt_off (by omega)]; rfl
theorem off_dt {u v : Nat} (h : u + 2 < v ∨ v + 2 < u) : Off u (DT v) := ⟨dt_off (by omega), dt_off (by omega), dt_off (by omega)⟩
theorem off_tw {u : Nat} (h1 : u + 2 < t ∨ t + 2 < u) (h2 : 3 < u) : Off u (TW t) := ⟨tw_off (by omega) (by omega), tw_off (by omega) (by omega), tw_off (by omega) (by omega)⟩

/-! ## Frames, by tags -/
theorem zip_fst {l : List (List UInt8)} {rs : List Sl} (h : rs.length = l.length) : (l.zip rs).map (·.1) = l := by
  rw [List.map_fst_zip]; omega
theorem zip_hds {l : List (List UInt8)} {rs : List Sl} (h : rs.length = l.length) : hds (l.zip rs) = hdrs rs := by
  unfold hds hdrs
  rw [show (fun p : Pc => p.2.v) = Sl.v ∘ Prod.snd from rfl, ← List.map_map, List.map_snd_zip]; omega
theorem framesT {b : Sl} {l : List UInt8} (ht : Tab w) (hb : RdB w b l) (hl : l.length ≤ 1048576) (ω : Tg) (u : Nat) {K : Sl → Int → Int → World → Prop}
    (hK : ∀ s (ps : List Pc) ω' w', Stp Non ω ω' w w' → Rd w' s 1 (hds ps) → ps.map (·.1) = (frs l l.length 0).1 → (∀ p ∈ ps, RT ω' w' u p.2 1 (vBs p.1)) → K s ((frs l l.length 0).2.1 : Int) ((frs l l.length 0).2.2 : Int) w') : C.vint_Frames b w K := by
  refine frames_ok ht hb (by omega) fun s rs w' k o => ?_
  refine hK s ((frs l l.length 0).1.zip rs) (ext ω w.heap.size u) w' (k.stp ω u) (by rw [zip_hds o.len]; exact o.rd.hdr) (zip_fst o.len) fun p hp => ?_
  obtain ⟨i, hi⟩ := List.getElem?_of_mem hp
  rw [List.getElem?_zip_eq_some] at hi
  exact OT.rt (Own.tag (o.el i p.2 p.1 hi.2 hi.1) (Nat.le_refl _) ω u)

/-! ## replay -/
def repM (name : ByteArray) : List Nat → Nat → Bool → Nat → List (List UInt8) → List Fl → Nat × List (List UInt8) × List Fl
  | [], _, _, a, l, M => (a, l, M)
  | n :: ns, next, torn, a, l, M =>
    if n ≠ next ∨ torn = true then repM name ns next torn a l (remM (segN name n) M).2
    else if (frs (rdM (segN name n) M).1 (rdM (segN name n) M).1.length 0).2.2 ≠ 0 then
      repM name ns (n + 1) true n (l ++ (frs (rdM (segN name n) M).1 (rdM (segN name n) M).1.length 0).1) (cutM (segN name n) ((frs (rdM (segN name n) M).1 (rdM (segN name n) M).1.length 0).2.1 : Int) M).2
    else repM name ns (n + 1) torn n (l ++ (frs (rdM (segN name n) M).1 (rdM (segN name n) M).1.length 0).1) M
theorem segN_size (name : ByteArray) (n : Nat) : (segN name n).size = name.size + 9 := by
  have hd : dot.size = 1 := rfl
  unfold segN
  have h8 : (Utf.str (dg 8 n)).size = 8 := by rw [Utf.str_size, dg_len]
  rw [ByteArray.size_append, ByteArray.size_append, h8, hd]
theorem nums_at {s : Sl} {ns : List Nat} (h : Rd w s 1 (nums ns)) {k n : Nat} (hx : ns[k]? = some n) {K : Addr → Prop} (hK : ∀ a : Addr, w.cell? a = some (.int .i64 (n : Int)) → K a) : G.ix s.a s.n (k : Int) 1 K := by
  have hk : k < ns.length := (List.getElem?_eq_some_iff.1 hx).1
  have hn : s.n = ns.length := by have := h.2.1; simp [nums] at this; omega
  refine Rd.ix h (by decide) (by omega) (by omega) fun a hc => ?_
  have c0 := hc 0 (.int .i64 (n : Int)) (by decide) (by rw [Int.toNat_natCast, Nat.mul_one, Nat.add_zero, nums, List.getElem?_map, hx]; rfl)
  rw [add_zero'] at c0
  exact hK a c0
theorem segsM_lt {n : Nat} (h : n ∈ segsM name M) : n < 100000000 := by
  unfold segsM at h
  obtain ⟨f, _, rfl⟩ := List.mem_map.1 (List.mem_filter.1 h).1
  exact numF_lt _ _
theorem segsM_len (name : ByteArray) (M : List Fl) : (segsM name M).length ≤ M.length := by
  unfold segsM
  refine Nat.le_trans (List.length_filter_le _ _) ?_
  rw [List.length_map]; exact Nat.le_refl _
theorem replay_ok (ht : 10 ≤ t) (top : Top w0 ω w) (htab : Tab w0) (h : LG ω w t gl gd name room at' sl pl) (hs : name.size ≤ 40) (hd : DK ω w 1 gd M) (hM : WF M) (hat : at' < 100000000) (hl : pl.length ≤ 1000000000) {K : World → Prop}
    (hK : ∀ ω' w' sl' pl', Stp (TW t) ω ω' w w' → LG ω' w' t gl gd name room (repM name (segsM name M) at' false at' (pl.map (·.1)) M).1 sl' pl' → pl'.map (·.1) = (repM name (segsM name M) at' false at' (pl.map (·.1)) M).2.1 →
      DK ω' w' 1 gd (repM name (segsM name M) at' false at' (pl.map (·.1)) M).2.2 → WF (repM name (segsM name M) at' false at' (pl.map (·.1)) M).2.2 → pl'.length ≤ 2000000000 → K w') : C.wal_Log_replay (some ⟨gl, 0, none⟩) w K := by
  generalize hR : repM name (segsM name M) at' false at' (pl.map (·.1)) M = R at hK
  unfold C.wal_Log_replay C.wal_Log_replay.S8
  refine ptr_at <| cI_at (n := (at' : Int)) (by rw [addr_add, h.hd.cell]; rfl) <| segs_ok h (by omega) hd hM fun r w1 k1 o1 => ?_
  have or1 := Own.tag o1 (Nat.le_refl _) ω 9
  have s1 := k1.stp ω 9
  generalize ext ω w.heap.size 9 = ω1 at *
  have hrn : r.n = (segsM name M).length := by have := or1.rd.2.1; simp [nums] at this; omega
  have hcnt := hM.cnt
  have hsl := segsM_len name M
  refine C.wal_Log_replay.L4_ind fun X hX => ?_
  have key : ∀ (d i next a : Nat) (torn : Bool) (sl : Sl) (pl : List Pc) (M2 : List Fl) (ω2 : Tg) (w2 : World), i + d = (segsM name M).length → next ≤ 100000000 → a < 100000000 → Stp (TW t) ω1 ω2 w1 w2 → LG ω2 w2 t gl gd name room a sl pl → DK ω2 w2 1 gd M2 → WF M2 →
      pl.length ≤ 1000000000 + i * 1048576 → repM name ((segsM name M).drop i) next torn a (pl.map (·.1)) M2 = R → X (some ⟨gl, 0, none⟩) (next : Int) torn r ((r.n : Nat) : Int) (i : Int) w2 := by
    intro d
    induction d with
    | zero =>
      intro i next a torn sl pl M2 ω2 w2 hi _ _ sp h2 d2 hw2 hpl hR2
      refine hX _ _ _ _ _ _ _ ?_
      unfold C.wal_Log_replay.S6
      rw [List.drop_of_length_le (by omega)] at hR2
      subst hR2
      exact cond_d (fun hh => by omega) (fun _ => hK ω2 w2 sl pl ((tw_n s1).trans sp) h2 rfl d2 hw2 (by omega))
    | succ d ih =>
      intro i next a torn sl pl M2 ω2 w2 hi hnx ha sp h2 d2 hw2 hpl hR2
      refine hX _ _ _ _ _ _ _ ?_
      unfold C.wal_Log_replay.S6
      have hil : i < (segsM name M).length := by omega
      obtain ⟨n, hn⟩ : ∃ n, (segsM name M)[i]? = some n := ⟨_, List.getElem?_eq_getElem hil⟩
      have hnlt := segsM_lt (List.mem_of_getElem? hn)
      rw [List.drop_eq_getElem_cons hil] at hR2
      have e0 : (segsM name M)[i] = n := by rw [List.getElem?_eq_getElem hil] at hn; exact Option.some.inj hn
      rw [e0, repM] at hR2
      have or2 := or1.stp sp (tw_off (by omega) (by omega))
      have nx : IntKind.i64.wrap ((i : Int) + 1) = ((i + 1 : Nat) : Int) := by rw [wI64 (by omega) (by omega)]; omega
      have ssz : (segN name n).size ≤ 9223372036854775807 := by rw [segN_size]; omega
      refine cond_d (fun _ => ?_) (fun hh => by omega)
      refine nums_at or2.rd hn fun q q0 => cI_at q0 <| segment_ok h2.nam (by omega) hnlt fun w3 k3 => ?_
      have h3 := h2.stp (k3.stp0 ω2) (off_non t)
      have d3 := d2.stp (k3.stp0 ω2) (off_non 1)
      have sp3 := sp.trans (tw_n (k3.stp0 ω2))
      rw [nx]
      have gone : ∀ (torn' : Bool), repM name ((segsM name M).drop (i + 1)) next torn' a (pl.map (·.1)) (remM (segN name n) M2).2 = R → C.disk_Disk_Remove (some ⟨gd, 0, none⟩) (segN name n) w3 fun n26 w27 => X (some ⟨gl, 0, none⟩) (next : Int) torn' r ((r.n : Nat) : Int) ((i + 1 : Nat) : Int) w27 := by
        intro torn' hR3
        refine remove_ok (s := segN name n) d3 hw2 ssz fun ω4 w4 k4 d4 hw4 => ?_
        exact ih (i + 1) next a torn' sl pl _ ω4 w4 (by omega) hnx ha (sp3.trans (tw_1 k4)) (h3.stp k4 (off_dt (by omega))) d4 hw4 (Nat.le_trans hpl (Nat.add_le_add_left (Nat.mul_le_mul_right _ (Nat.le_succ i)) _)) hR3
      refine cond_ne (fun hne => ?_) (fun heq => ?_)
      · rw [if_pos (.inl (by omega))] at hR2
        exact ptr_at <| cP_at (b := some ⟨gd, 0, none⟩) (by rw [h3.hd.cell]; rfl) <| gone torn hR2
      have heq' : n = next := by omega
      cases torn with
      | true =>
        rw [if_pos (.inr rfl)] at hR2
        exact cond_t rfl <| ptr_at <| cP_at (b := some ⟨gd, 0, none⟩) (by rw [h3.hd.cell]; rfl) <| gone true hR2
      | false =>
        rw [if_neg (by simp [heq'])] at hR2
        refine cond_f rfl <| ptr_at <| cP_at (b := some ⟨gd, 0, none⟩) (by rw [h3.hd.cell]; rfl) <| read2_ok (s := segN name n) d3 hw2 ssz fun rb w4 k4 o4 => ?_
        have hrl := rdM_len hw2 (segN name n)
        have h4 := h3.stp (k4.stp0 ω2) (off_non t)
        have d4 := d3.stp (k4.stp0 ω2) (off_non 1)
        have sp4 := sp3.trans (tw_n (k4.stp0 ω2))
        have spw4 := (tw_n s1).trans sp4
        have top4 := top.stp spw4 (tw_off (by omega) (by omega))
        generalize hb : (rdM (segN name n) M2).1 = bs at *
        refine framesT (htab.keep top4.k) (rd_own o4) hrl ω2 (t + 2) fun s ps ω5 w5 k5 hr5 hp5 hrt5 => ?_
        have h5 := h4.stp k5 (off_non t)
        have d5 := d4.stp k5 (off_non 1)
        have hlen : ps.length ≤ 1048576 := by
          have e := congrArg List.length hp5
          rw [List.length_map] at e
          have := frs_len bs bs.length 0
          omega
        have hsln : sl.n = pl.length := by have := h5.row.rd.2.1; simp [hds] at this; omega
        have hsn : s.n = ps.length := by have := hr5.2.1; simp [hds] at this; omega
        refine ptr_at <| cSl_at (s := sl) (by rw [addr_add, h5.hd.cell]; rfl) ?_
        refine app_T tiBB h5.row hr5 (by intro v hv; obtain ⟨p, _, rfl⟩ := List.mem_map.1 hv; rfl) (by simp only [maxLen]; omega) (by omega) fun r6 ω6 w6 k6 o6 hr6 => ?_
        have hd6 := h5.hd.stp k6 (beq_no (by omega))
        refine ptr_at <| st_TA hd6 (by simp) fun ω7 w7 k7 b7 => ?_
        have o7 := o6.stp k7 (beq_no (by omega))
        have e7 : hds pl ++ hds ps = hds (pl ++ ps) := by simp [hds]
        rw [e7] at o7
        have d7 := (d5.stp k6 (off_one (by omega))).stp k7 (off_one (by omega))
        have k57 : Stp (DT t) ω5 ω7 w5 w7 := (dt_one (by omega) (by omega) k6).trans (dt_one (by omega) (by omega) k7)
        have sp7 := (sp4.trans (tw_n k5)).trans (tw_t k57)
        have rt7 : ∀ p ∈ pl ++ ps, RT ω7 w7 (t + 2) p.2 1 (vBs p.1) := by
          intro p hp
          have hp5 : RT ω5 w5 (t + 2) p.2 1 (vBs p.1) := by
            rcases List.mem_append.1 hp with hq | hq
            · exact h5.rt p hq
            · exact hrt5 p hq
          exact (hp5.stp k6 (beq_no (by omega))).stp k7 (beq_no (by omega))
        have epl : (pl ++ ps).map (·.1) = pl.map (·.1) ++ (frs bs bs.length 0).1 := by rw [List.map_append, hp5]
        have nn : IntKind.i64.wrap ((n : Int) + 1) = ((n + 1 : Nat) : Int) := by rw [wI64 (by omega) (by omega)]; omega
        rw [nn]
        refine cond_ne (fun hz => ?_) (fun hz => ?_)
        · rw [if_pos (fun e => hz (by rw [e]; rfl))] at hR2
          refine ptr_at <| cP_at (b := some ⟨gd, 0, none⟩) (by rw [b7.cell]; rfl) <| cut_ok (s := segN name n) d7 hw2 ssz fun ω8 w8 k8 d8 hw8 => ?_
          have b8 := b7.stp k8 (dt_off (by omega))
          refine ptr_at <| st_TA b8 (by simp) fun ω9 w9 k9 b9 => ?_
          refine ih (i + 1) (n + 1) n true r6 (pl ++ ps) _ ω9 w9 (by omega) (by omega) hnlt ((sp7.trans (tw_1 k8)).trans (tw_t (dt_one (Nat.le_refl _) (by omega) k9))) ⟨b9, (o7.stp k8 (dt_off (by omega))).stp k9 (beq_no (by omega)), fun p hp => ((rt7 p hp).stp k8 (dt_off (by omega))).stp k9 (beq_no (by omega))⟩ (d8.stp k9 (off_one (by omega))) hw8 (by rw [List.length_append]; omega) ?_
          rw [epl]; exact hR2
        · rw [if_neg (fun e => e (by omega))] at hR2
          refine ptr_at <| st_TA b7 (by simp) fun ω9 w9 k9 b9 => ?_
          refine ih (i + 1) (n + 1) n false r6 (pl ++ ps) M2 ω9 w9 (by omega) (by omega) hnlt (sp7.trans (tw_t (dt_one (Nat.le_refl _) (by omega) k9))) ⟨b9, o7.stp k9 (beq_no (by omega)), fun p hp => (rt7 p hp).stp k9 (beq_no (by omega))⟩ (d7.stp k9 (off_one (by omega))) hw2 (by rw [List.length_append]; omega) ?_
          rw [epl]; exact hR2
  exact key (segsM name M).length 0 at' at' false sl pl M ω1 w1 (by omega) (by omega) hat (Stp.refl _ _ _) (h.stp s1 (off_non t)) (hd.stp s1 (off_non 1)) hM (by omega) hR
end Go.Proofs.YtdaghggdmgbpnaaDoor.Wl
