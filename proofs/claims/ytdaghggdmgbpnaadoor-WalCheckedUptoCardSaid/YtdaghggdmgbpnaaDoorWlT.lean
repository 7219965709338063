/- Layer 7 (wal): Checkpoint. Own work. -/
import Derived.Test.YtdaghggdmgbpnaaDoorWlK
namespace Go.Proofs.YtdaghggdmgbpnaaDoor.Wl
open Go Vm Go.RowKit Num Mem Dk Wo Vint Crc
variable {ω ω' : Tg} {w w' w0 : World} {T : Nat → Bool} {t u v gl gd room at' : Nat} {name : ByteArray} {sl : Sl} {pl rl : List Pc} {M : List Fl} {s : Sl}

def remAll (name : ByteArray) (ns : List Nat) (M : List Fl) : List Fl := ns.foldl (fun M n => (remM (segN name n) M).2) M
/-- What Checkpoint makes of the disk. -/
def ckpD (name : ByteArray) (a : Nat) (M : List Fl) (rs : List Rec) : Int × Nat × List Fl :=
  let A := apM (nwS name) (ckB (a + 1) rs) (remM (nwS name) M).2
  if A.1 ≠ 0 then (A.1, a, (remM (nwS name) A.2).2)
  else
    let R := (renM (nwS name) (ckS name) (syM (nwS name) A.2).2).2
    (0, a + 1, remAll name (segsM name R) R)
def ckpL (name : ByteArray) (a : Nat) (M : List Fl) (rs : List Rec) : Int × Nat × List Fl :=
  if (∃ r ∈ rs, 65536 < r.length) ∨ 65536 < (ckP (a + 1) rs).length then (4, a, M)
  else if 99999999 ≤ a then (8, a, M) else ckpD name a M rs
theorem ck_S11 (ht : 10 ≤ t) (h : LG ω w t gl gd name room at' sl pl) (hd : DK ω w 1 gd M) (hat : at' < 100000000) (hs : RT ω w v s 1 (hds rl)) (hv : TW t v = false) (hr : ∀ p ∈ rl, RT ω w u p.2 1 (vBs p.1)) (hu : TW t u = false) (hl : rl.length ≤ 2000000) (hx : ∀ p ∈ rl, p.1.length ≤ 10000000) {K : Int → World → Prop}
    (hK : ∀ ω' w' sl' pl', Stp (TW t) ω ω' w w' → LG ω' w' t gl gd name room (at' + 1) sl' pl' → pl'.map (·.1) = rl.map (·.1) → DK ω' w' 1 gd M → K 0 w') : C.wal_Log_Checkpoint.S11 K (some ⟨gl, 0, none⟩) s w := by
  unfold C.wal_Log_Checkpoint.S11
  refine ptr_at <| cI_at (n := (at' : Int)) (by rw [addr_add, h.hd.cell]; rfl) ?_
  rw [wI64 (by omega) (by omega), show (at' : Int) + 1 = ((at' + 1 : Nat) : Int) by omega]
  refine ptr_at <| st_TA h.hd (by simp) fun ω1 w1 k1 b1 => ptr_at <| st_TA b1 (by simp) fun ω2 w2 k2 b2 => ?_
  have k12 : Stp (TW t) ω ω2 w w2 := (tw_t (dt_one (Nat.le_refl _) (by omega) k1)).trans (tw_t (dt_one (Nat.le_refl _) (by omega) k2))
  have g2 : LG ω2 w2 t gl gd name room (at' + 1) nilS [] := ⟨b2, OT.nil .., by simp⟩
  have d2 := (hd.stp k1 (off_one (by omega))).stp k2 (off_one (by omega))
  have hsn := hds_n hs.rd
  unfold C.wal_Log_Checkpoint.S9
  refine C.wal_Log_Checkpoint.L5_ind fun X hX => ?_
  have key : ∀ (d i : Nat) (sl : Sl) (pl : List Pc) (ω3 : Tg) (w3 : World), i + d = rl.length → pl.length = i → Stp (TW t) ω ω3 w w3 → LG ω3 w3 t gl gd name room (at' + 1) sl pl → DK ω3 w3 1 gd M → pl.map (·.1) = (rl.take i).map (·.1) → X (some ⟨gl, 0, none⟩) s ((s.n : Nat) : Int) (i : Int) w3 := by
    intro d
    induction d with
    | zero =>
      intro i sl pl ω3 w3 hi hpi sp g d3 e
      refine hX _ _ _ _ _ ?_
      unfold C.wal_Log_Checkpoint.S7 C.wal_Log_Checkpoint.S2
      rw [List.take_of_length_le (by omega)] at e
      exact cond_d (fun hh => by omega) (fun _ => hK ω3 w3 sl pl sp g e d3)
    | succ d ih =>
      intro i sl pl ω3 w3 hi hpi sp g d3 e
      refine hX _ _ _ _ _ ?_
      unfold C.wal_Log_Checkpoint.S7
      obtain ⟨p, hp⟩ : ∃ p, rl[i]? = some p := ⟨_, List.getElem?_eq_getElem (by omega)⟩
      have hpm := List.mem_of_getElem? hp
      have hxp := hx p hpm
      have hs3 := hs.stp sp hv
      have hr3 := (hr p hpm).stp sp hu
      have s4 := drew_stp ω3 w3
      have g4 := g.stp s4 (off_non t)
      have hsln := hds_n g.row.rd
      refine cond_d (fun _ => ?_) (fun hh => by omega)
      refine hds_at hs3.rd hp fun a c => cSl_at (s := p.2) c <| ptr_at <| cSl_at (s := sl) (by rw [addr_add, g4.hd.cell]; rfl) <| again_ok (Rd.keep hr3.rd s4.keep) (by omega) fun r5 w5 k5 rr5 => ⟨g4.hd.sameA (k5.stp0 ω3), ?_⟩
      have s5 := k5.stp ω3 (t + 2)
      have rr := rr5 ω3 (t + 2)
      generalize ext ω3 w3.drew.heap.size (t + 2) = ω5 at *
      have g5 := g4.stp s5 (off_non t)
      refine new_T (ω := ω5) 9 fun g6 ω6 w6 k6 b6 => ⟨g4.hd.sameA (s5.trans k6), ?_⟩
      have h6 := g5.stp k6 (off_non t)
      have hr6 : Rd w6 ⟨some ⟨g6, 0, none⟩, 1, 1⟩ 1 [r5.v] := Rd.blk (o := 0) (n := 1) (c := 1) (sz := 1) b6.blk (Nat.le_refl _) (by simp)
      refine app_T tiBB h6.row hr6 (by intro v hv; simp at hv; subst hv; rfl) (by simp only [maxLen]; omega) (by simp only; omega) fun r7 ω7 w7 k7 o7 _ => ?_
      have hd7 := h6.hd.stp k7 (beq_no (by omega))
      refine ptr_at <| st_TA hd7 (by simp) fun ω8 w8 k8 b8 => ?_
      have d8 := ((((d3.stp s4 (off_non 1)).stp s5 (off_non 1)).stp k6 (off_non 1)).stp k7 (off_one (by omega))).stp k8 (off_one (by omega))
      have k78 : Stp (DT t) ω6 ω8 w6 w8 := (dt_one (by omega) (by omega) k7).trans (dt_one (Nat.le_refl _) (by omega) k8)
      rw [wI64 (by omega) (by omega), show (i : Int) + 1 = ((i + 1 : Nat) : Int) by omega]
      refine ih (i + 1) r7 (pl ++ [(p.1, r5)]) ω8 w8 (by omega) (by simp; omega) ((((sp.trans (tw_n s4)).trans (tw_n s5)).trans (tw_n k6)).trans (tw_t k78)) ⟨b8, ?_, fun q hq => ?_⟩ d8 (by rw [List.map_append, e, List.take_add_one, hp]; simp)
      · have e4 : hds (pl ++ [(p.1, r5)]) = hds pl ++ [r5.v] := by simp [hds]
        rw [e4]; exact o7.stp k8 (beq_no (by omega))
      · rcases List.mem_append.1 hq with hq | hq
        · exact ((h6.rt q hq).stp k7 (beq_no (by omega))).stp k8 (beq_no (by omega))
        · rw [List.mem_singleton.1 hq]; exact ((rr.stp k6).stp k7 (beq_no (by omega))).stp k8 (beq_no (by omega))
  exact key rl.length 0 nilS [] ω2 w2 (by omega) rfl k12 g2 d2 (by simp)
theorem ck_S18 (ht : 10 ≤ t) (h : LG ω w t gl gd name room at' sl pl) (hn : name.size ≤ 40) (hd : DK ω w 1 gd M) (hM : WF M) (hat : at' < 100000000) (hs : RT ω w v s 1 (hds rl)) (hv : TW t v = false) (hr : ∀ p ∈ rl, RT ω w u p.2 1 (vBs p.1)) (hu : TW t u = false) (hl : rl.length ≤ 2000000) (hx : ∀ p ∈ rl, p.1.length ≤ 10000000) {K : Int → World → Prop}
    (hK : ∀ ω' w' sl' pl', Stp (TW t) ω ω' w w' → LG ω' w' t gl gd name room (at' + 1) sl' pl' → pl'.map (·.1) = rl.map (·.1) → DK ω' w' 1 gd (remAll name (segsM name M) M) → WF (remAll name (segsM name M) M) → K 0 w') : C.wal_Log_Checkpoint.S18 K (some ⟨gl, 0, none⟩) s w := by
  unfold C.wal_Log_Checkpoint.S18
  refine segs_ok h (by omega) hd hM fun r w1 k1 o1 => ?_
  have or1 := Own.tag o1 (Nat.le_refl _) ω 9
  have s1 := k1.stp ω 9
  generalize ext ω w.heap.size 9 = ω1 at *
  have hrn : r.n = (segsM name M).length := by have := or1.rd.2.1; simp [nums] at this; omega
  have hcnt := hM.cnt
  have hsl := segsM_len name M
  refine C.wal_Log_Checkpoint.L14_ind fun X hX => ?_
  have key : ∀ (d i : Nat) (M2 : List Fl) (ω2 : Tg) (w2 : World), i + d = (segsM name M).length → Stp (TW t) ω1 ω2 w1 w2 → LG ω2 w2 t gl gd name room at' sl pl → DK ω2 w2 1 gd M2 → WF M2 → remAll name ((segsM name M).drop i) M2 = remAll name (segsM name M) M →
      X (some ⟨gl, 0, none⟩) s r ((r.n : Nat) : Int) (i : Int) w2 := by
    intro d
    induction d with
    | zero =>
      intro i M2 ω2 w2 hi sp g d2 hw2 e
      refine hX _ _ _ _ _ _ ?_
      unfold C.wal_Log_Checkpoint.S16
      rw [List.drop_of_length_le (by omega)] at e
      have e' : M2 = remAll name (segsM name M) M := e
      rw [← e'] at hK
      have spw : Stp (TW t) ω ω2 w w2 := (tw_n s1).trans sp
      exact cond_d (fun hh => by omega) (fun _ => ck_S11 ht g d2 hat (hs.stp spw hv) hv (fun p hp => (hr p hp).stp spw hu) hu hl hx fun ω' w' sl' pl' k g' e' d' => hK ω' w' sl' pl' (spw.trans k) g' e' d' hw2)
    | succ d ih =>
      intro i M2 ω2 w2 hi sp g d2 hw2 e
      refine hX _ _ _ _ _ _ ?_
      unfold C.wal_Log_Checkpoint.S16
      have hil : i < (segsM name M).length := by omega
      obtain ⟨n, hn'⟩ : ∃ n, (segsM name M)[i]? = some n := ⟨_, List.getElem?_eq_getElem hil⟩
      have hnlt := segsM_lt (List.mem_of_getElem? hn')
      rw [List.drop_eq_getElem_cons hil] at e
      have e0 : (segsM name M)[i] = n := by rw [List.getElem?_eq_getElem hil] at hn'; exact Option.some.inj hn'
      rw [e0] at e
      have or2 := or1.stp sp (tw_off (by omega) (by omega))
      refine cond_d (fun _ => ?_) (fun hh => by omega)
      have s3 := drew_stp ω2 w2
      have g3 := g.stp s3 (off_non t)
      refine nums_at or2.rd hn' fun q q0 => cI_at q0 <| ptr_at <| cP_at (b := some ⟨gd, 0, none⟩) (by rw [g3.hd.cell]; rfl) <| segment_ok g3.nam (by omega) hnlt fun w4 k4 => ⟨g3.hd.sameT (k4.stp0 ω2), ?_⟩
      have s4 := s3.trans (k4.stp0 ω2)
      refine remove_ok (s := segN name n) (d2.stp s4 (off_non 1)) hw2 (by rw [segN_size]; omega) fun ω5 w5 k5 d5 hw5 => ?_
      rw [wI64 (by omega) (by omega), show (i : Int) + 1 = ((i + 1 : Nat) : Int) by omega]
      exact ih (i + 1) _ ω5 w5 (by omega) ((sp.trans (tw_n s4)).trans (tw_1 k5)) ((g.stp s4 (off_non t)).stp k5 (off_dt (by omega))) d5 hw5 e
  exact key (segsM name M).length 0 M ω1 w1 (by omega) (Stp.refl _ _ _) (h.stp s1 (off_non t)) (hd.stp s1 (off_non 1)) hM rfl
abbrev After (ω : Tg) (w : World) (t gl gd : Nat) (name : ByteArray) (room : Nat) (rl pl : List Pc) (R : Int × Nat × List Fl) (K : Int → World → Prop) : Prop :=
  ∀ ω' w' sl' pl', Stp (TW t) ω ω' w w' → LG ω' w' t gl gd name room R.2.1 sl' pl' → pl'.map (·.1) = (if R.1 = 0 then rl.map (·.1) else pl.map (·.1)) → DK ω' w' 1 gd R.2.2 → WF R.2.2 → K R.1 w'
theorem ck_S20 (ht : 10 ≤ t) (top : Top w0 ω w) (htab : Tab w0) (h : LG ω w t gl gd name room at' sl pl) (hn : name.size ≤ 40) (hd : DK ω w 1 gd M) (hM : WF M) (hat : at' < 100000000) (hs : RT ω w v s 1 (hds rl)) (hv : TW t v = false) (hr : ∀ p ∈ rl, RT ω w u p.2 1 (vBs p.1)) (hu : TW t u = false) (hl : rl.length ≤ 2000000) (hx : ∀ p ∈ rl, p.1.length ≤ 10000000)
    {p : Sl} (hp : RdB w p (ckP (at' + 1) (rl.map (·.1)))) (hP : (ckP (at' + 1) (rl.map (·.1))).length ≤ 65536) {K : Int → World → Prop}
    (hK : After ω w t gl gd name room rl pl (if 99999999 ≤ at' then (8, at', M) else ckpD name at' M (rl.map (·.1))) K) : C.wal_Log_Checkpoint.S20 K (some ⟨gl, 0, none⟩) s p w := by
  unfold C.wal_Log_Checkpoint.S20
  refine putFrame_ok (htab.keep top.k) (Vint.RdB.nil w) hp (by simp) (fun hbig => by omega) fun _ f w1 k1 o1 => ?_
  rw [List.nil_append] at o1
  have hfl := frameOf_len hP
  have s1 := k1.stp ω 9
  have f1 := OT.rt (Own.tag o1 (Nat.le_refl _) ω 9)
  generalize ext ω w.heap.size 9 = ω1 at *
  have h1 := h.stp s1 (off_non t)
  refine cond_f rfl <| ptr_at <| cI_at (n := (at' : Int)) (by rw [addr_add, h1.hd.cell]; rfl) <| cond_d (fun h9 => ?_) fun h9 => ?_
  · rw [if_pos (by omega)] at hK
    exact hK ω1 w1 sl pl (tw_n s1) h1 (by rw [if_neg (by simp)]) (hd.stp s1 (off_non 1)) hM
  rw [if_neg (by omega)] at hK
  have hq1 : (nwS name).size = name.size + 4 := by unfold nwS; rw [ByteArray.size_append]; rfl
  have hq2 : (ckS name).size = name.size + 6 := by unfold ckS; rw [ByteArray.size_append]; rfl
  have c1 : ((name.size + 4 : Nat) : Int) ≤ 9223372036854775807 := by omega
  have c2 : ((name.size + 6 : Nat) : Int) ≤ 9223372036854775807 := by omega
  have s2 := s1.trans (drew_stp ω1 w1)
  have h2 := h.stp s2 (off_non t)
  refine ptr_at <| cP_at (b := some ⟨gd, 0, none⟩) (by rw [h2.hd.cell]; rfl) <| ptr_at <| cS_at (b := name) (by rw [addr_add]; exact h2.nam) ⟨c1, ?_⟩
  refine remove_ok (s := nwS name) (hd.stp s2 (off_non 1)) hM (by omega) fun ω3 w3 k3 d3 hw3 => ?_
  have sp3 : Stp (TW t) ω ω3 w w3 := (tw_n s2).trans (tw_1 k3)
  unfold ckpD at hK
  generalize (remM (nwS name) M).2 = M1 at *
  have s4 := drew_stp ω3 w3
  have h4 := (h2.stp k3 (off_dt (by omega))).stp s4 (off_non t)
  have f4 := ((f1.stp (drew_stp ω1 w1)).stp k3 (dt_off (by omega))).stp s4
  refine ptr_at <| cP_at (b := some ⟨gd, 0, none⟩) (by rw [h4.hd.cell]; rfl) <| ptr_at <| cS_at (b := name) (by rw [addr_add]; exact h4.nam) ⟨c1, ?_⟩
  refine Dk.append_ok (s := nwS name) (d3.stp s4 (off_non 1)) hw3 (by omega) f4.rd (by omega) fun ω5 w5 k5 d5 hw5 => ?_
  rw [show frameOf (ckP (at' + 1) (rl.map (·.1))) = ckB (at' + 1) (rl.map (·.1)) from rfl] at d5 hw5 ⊢
  have sp5 := (sp3.trans (tw_n s4)).trans (tw_1 k5)
  have h5 := h4.stp k5 (off_dt (by omega))
  dsimp only at hK
  generalize apM (nwS name) (ckB (at' + 1) (rl.map (·.1))) M1 = A at *
  have s6 := drew_stp ω5 w5
  have h6 := h5.stp s6 (off_non t)
  refine cond_ne (fun hne => ?_) fun he => ?_
  · rw [if_pos hne] at hK
    refine ptr_at <| cP_at (b := some ⟨gd, 0, none⟩) (by rw [h6.hd.cell]; rfl) <| ptr_at <| cS_at (b := name) (by rw [addr_add]; exact h6.nam) ⟨c1, ?_⟩
    refine remove_ok (s := nwS name) (d5.stp s6 (off_non 1)) hw5 (by omega) fun ω7 w7 k7 d7 hw7 => ?_
    exact hK ω7 w7 sl pl ((sp5.trans (tw_n s6)).trans (tw_1 k7)) (h6.stp k7 (off_dt (by omega))) (by rw [if_neg hne]) d7 hw7
  rw [if_neg (fun h => h he)] at hK
  refine ptr_at <| cP_at (b := some ⟨gd, 0, none⟩) (by rw [h6.hd.cell]; rfl) <| ptr_at <| cS_at (b := name) (by rw [addr_add]; exact h6.nam) ⟨c1, ?_⟩
  refine sync_ok (s := nwS name) (d5.stp s6 (off_non 1)) hw5 (by omega) fun ω7 w7 k7 d7 hw7 => ?_
  have sp7 := (sp5.trans (tw_n s6)).trans (tw_1 k7)
  have s8 := drew_stp ω7 w7
  have h8 := (h6.stp k7 (off_dt (by omega))).stp s8 (off_non t)
  refine ptr_at <| cP_at (b := some ⟨gd, 0, none⟩) (by rw [h8.hd.cell]; rfl) <| ptr_at <| cS_at (b := name) (by rw [addr_add]; exact h8.nam) ⟨c1, ?_⟩
  refine ptr_at <| cS_at (b := name) (by rw [addr_add]; exact h8.nam) ⟨c2, ?_⟩
  refine rename_ok (a := nwS name) (b := ckS name) (d7.stp s8 (off_non 1)) hw7 (by omega) (by omega) fun ω9 w9 k9 d9 hw9 => ?_
  have sp9 := (sp7.trans (tw_n s8)).trans (tw_1 k9)
  refine ck_S18 ht (h8.stp k9 (off_dt (by omega))) hn d9 hw9 hat (hs.stp sp9 hv) hv (fun p hp => (hr p hp).stp sp9 hu) hu hl hx fun ω' w' sl' pl' k g e d hw => ?_
  exact hK ω' w' sl' pl' (sp9.trans k) g (by rw [if_pos rfl]; exact e) d hw
theorem ckR_flat_le {rs : List Rec} {i : Nat} : ((rs.take i).flatMap ckR).length ≤ (rs.flatMap ckR).length := by
  have : rs.flatMap ckR = (rs.take i).flatMap ckR ++ (rs.drop i).flatMap ckR := by rw [← List.flatMap_append, List.take_append_drop]
  rw [this, List.length_append]; omega
theorem ckpt_ok (ht : 10 ≤ t) (top : Top w0 ω w) (htab : Tab w0) (h : LG ω w t gl gd name room at' sl pl) (hn : name.size ≤ 40) (hd : DK ω w 1 gd M) (hM : WF M) (hat : at' < 100000000) (hs : RT ω w v s 1 (hds rl)) (hv : TW t v = false) (hr : ∀ p ∈ rl, RT ω w u p.2 1 (vBs p.1)) (hu : TW t u = false) (hl : rl.length ≤ 2000000) (hx : ∀ p ∈ rl, p.1.length ≤ 10000000) {K : Int → World → Prop}
    (hK : After ω w t gl gd name room rl pl (ckpL name at' M (rl.map (·.1))) K) : C.wal_Log_Checkpoint (some ⟨gl, 0, none⟩) s w K := by
  have hsn := hds_n hs.rd
  have bad : ((∃ r ∈ rl.map (·.1), 65536 < r.length) ∨ 65536 < (ckP (at' + 1) (rl.map (·.1))).length) → ∀ w', Keep w w' → K 4 w' := fun hb w' k => by
    unfold ckpL at hK
    rw [if_pos hb] at hK
    exact hK ω w' sl pl (tw_n (k.stp0 ω)) (h.stp (k.stp0 ω) (off_non t)) (by rw [if_neg (by simp)]) (hd.stp (k.stp0 ω) (off_non 1)) hM
  have hu1 := putU_len64 (n := at' + 1) (by omega)
  have hu2 := putU_len64 (n := rl.length) (by omega)
  unfold C.wal_Log_Checkpoint
  refine cond_f rfl <| ptr_at <| cI_at (n := (at' : Int)) (by rw [addr_add, h.hd.cell]; rfl) ?_
  rw [wI64 (by omega) (by omega), show (at' : Int) + 1 = ((at' + 1 : Nat) : Int) by omega, wU64_id (by omega) (by omega)]
  refine putU_ok (by omega) (Vint.RdB.nil w) (by simp) fun p1 w1 k1 o1 => ?_
  rw [List.nil_append] at o1
  rw [wU64_id (by omega) (by omega), hsn]
  refine putU_ok (by omega) o1.rd (by omega) fun p2 w2 k2 o2 => ?_
  have k02 := Keep.trans k1 k2
  have hp2 : RdB w2 p2 (putU (at' + 1) ++ putU rl.length) := o2.rd
  unfold C.wal_Log_Checkpoint.S35
  refine C.wal_Log_Checkpoint.L31_ind fun X hX => ?_
  -- behind the first loop
  have two : (∀ p ∈ rl, p.1.length ≤ 65536) → C.wal_Log_Checkpoint.S27 K (some ⟨gl, 0, none⟩) s p2 w2 := by
    intro hsm
    unfold C.wal_Log_Checkpoint.S27
    refine C.wal_Log_Checkpoint.L23_ind fun Y hY => ?_
    have key : ∀ (d i : Nat) (p : Sl) (w3 : World), i + d = rl.length → Keep w w3 → RdB w3 p (putU (at' + 1) ++ putU rl.length ++ ((rl.map (·.1)).take i).flatMap ckR) → (putU (at' + 1) ++ putU rl.length ++ ((rl.map (·.1)).take i).flatMap ckR).length ≤ 65536 → Y (some ⟨gl, 0, none⟩) s p s ((s.n : Nat) : Int) (i : Int) w3 := by
      intro d
      induction d with
      | zero =>
        intro i p w3 hi k hp hlen
        refine hY _ _ _ _ _ _ _ ?_
        unfold C.wal_Log_Checkpoint.S25
        have eP : putU (at' + 1) ++ putU rl.length ++ ((rl.map (·.1)).take i).flatMap ckR = ckP (at' + 1) (rl.map (·.1)) := by
          rw [List.take_of_length_le (by rw [List.length_map]; omega), ckP, List.length_map, List.append_assoc]
        rw [eP] at hp hlen
        have hnb : ¬ ((∃ r ∈ rl.map (·.1), 65536 < r.length) ∨ 65536 < (ckP (at' + 1) (rl.map (·.1))).length) := by
          rintro (⟨r, hr, h6⟩ | h6)
          · obtain ⟨q, hq, rfl⟩ := List.mem_map.1 hr
            have := hsm q hq; omega
          · omega
        unfold ckpL at hK
        rw [if_neg hnb] at hK
        have sk := k.stp0 ω
        exact cond_d (fun hh => by omega) fun _ => ck_S20 ht (top.stp sk) htab (h.stp sk (off_non t)) hn (hd.stp sk (off_non 1)) hM hat (hs.stp sk) hv (fun p hp => (hr p hp).stp sk) hu hl hx hp hlen fun ω' w' sl' pl' k' => hK ω' w' sl' pl' ((tw_n sk).trans k')
      | succ d ih =>
        intro i p w3 hi k hp hlen
        refine hY _ _ _ _ _ _ _ ?_
        unfold C.wal_Log_Checkpoint.S25
        obtain ⟨q, hq⟩ : ∃ q, rl[i]? = some q := ⟨_, List.getElem?_eq_getElem (by omega)⟩
        have hqm := List.mem_of_getElem? hq
        have hq6 := hsm q hqm
        have hqr : RdB w3 q.2 q.1 := ((hr q hqm).stp (k.stp0 ω)).rd
        have hqn := hqr.len
        have htk : ((rl.map (·.1)).take (i + 1)).flatMap ckR = ((rl.map (·.1)).take i).flatMap ckR ++ (putU q.1.length ++ q.1) := by
          rw [List.take_add_one, List.getElem?_map, hq, List.flatMap_append]
          simp [ckR]
        refine cond_d (fun _ => ?_) (fun hh => by omega)
        refine hds_at (Rd.keep hs.rd k) hq fun a c => cSl_at (s := q.2) c ?_
        rw [wU64_id (by omega) (by omega), hqn]
        refine putU_ok (by omega) hp (by omega) fun p4 w4 k4 o4 => ?_
        have hq10 := putU_len64 (n := q.1.length) (by omega)
        refine appB k4 k4.size o4 (hqr.keep k4) (by rw [List.length_append]; omega) fun p5 w5 k5 o5 => ?_
        rw [List.append_assoc, List.append_assoc, ← htk] at o5
        have hn5 := o5.len
        have kk : Keep w w5 := Keep.trans k k5
        refine cond_d (fun hbig => bad (.inr ?_) w5 kk) fun hno => ?_
        · have := ckR_flat_le (rs := rl.map (·.1)) (i := i + 1)
          rw [ckP, List.length_map]
          simp only [List.length_append] at hn5 ⊢
          omega
        · rw [wI64 (by omega) (by omega), show (i : Int) + 1 = ((i + 1 : Nat) : Int) by omega]
          exact ih (i + 1) p5 w5 (by omega) kk o5.rd (by omega)
    exact key rl.length 0 p2 w2 (by omega) k02 (by simpa using hp2) (by simp; omega)
  have key : ∀ (d i : Nat), i + d = rl.length → (∀ p ∈ rl.take i, p.1.length ≤ 65536) → X (some ⟨gl, 0, none⟩) s p2 s ((rl.length : Nat) : Int) (i : Int) w2 := by
    intro d
    induction d with
    | zero =>
      intro i hi hok
      refine hX _ _ _ _ _ _ _ ?_
      unfold C.wal_Log_Checkpoint.S33
      rw [List.take_of_length_le (by omega)] at hok
      exact cond_d (fun hh => by omega) fun _ => two hok
    | succ d ih =>
      intro i hi hok
      refine hX _ _ _ _ _ _ _ ?_
      unfold C.wal_Log_Checkpoint.S33
      obtain ⟨q, hq⟩ : ∃ q, rl[i]? = some q := ⟨_, List.getElem?_eq_getElem (by omega)⟩
      have hqm := List.mem_of_getElem? hq
      have hqn : q.2.n = q.1.length := RdB.len (hr q hqm).rd
      refine cond_d (fun _ => ?_) (fun hh => by omega)
      refine hds_at (Rd.keep hs.rd k02) hq fun a c => cSl_at (s := q.2) c <| cond_d (fun hbig => bad (.inl ⟨q.1, List.mem_map_of_mem hqm, by omega⟩) w2 k02) fun hno => ?_
      rw [wI64 (by omega) (by omega), show (i : Int) + 1 = ((i + 1 : Nat) : Int) by omega]
      refine ih (i + 1) (by omega) fun p hp => ?_
      rw [List.take_add_one, hq] at hp
      rcases List.mem_append.1 hp with hp | hp
      · exact hok p hp
      · rw [List.mem_singleton.1 hp]; omega
  rw [hsn]
  exact key rl.length 0 (by omega) (by simp)
end Go.Proofs.YtdaghggdmgbpnaaDoor.Wl

namespace Go.Proofs.YtdaghggdmgbpnaaDoor.Wl
open Go Vm Go.RowKit Num Mem Dk Wo Vint Crc
variable {name : ByteArray} {room : Nat} {M ck : List Fl}

theorem by_nw (name : ByteArray) : Utf.bytes (nwS name) = Utf.bytes name ++ [46, 110, 101, 119] := by unfold nwS; rw [by_app]
theorem by_ck (name : ByteArray) : Utf.bytes (ckS name) = Utf.bytes name ++ [46, 99, 104, 101, 99, 107] := by unfold ckS; rw [by_app]
theorem dg_head (n : Nat) (c : UInt8) (r : List UInt8) (hc : 58 ≤ c.toNat) : Op.bytesLess (dg 8 n) (c :: r) = true := by
  have hl := dg_len 8 n
  have hd := dg_isD 8 n
  cases h : dg 8 n with
  | nil => rw [h] at hl; cases hl
  | cons d t =>
    rw [h] at hd
    simp only [List.all_cons, Bool.and_eq_true] at hd
    have := isD_iff.1 hd.1
    have hlt : d < c := by rw [UInt8.lt_iff_toNat_lt]; omega
    simp only [Op.bytesLess]
    rw [decide_eq_true hlt]; rfl
theorem seg_bl_nw (n : Nat) : bl (segN name n) (nwS name) := by
  unfold bl
  rw [ByteArray.toList_eq, ByteArray.toList_eq]
  show Op.bytesLess (Utf.bytes (segN name n)) (Utf.bytes (nwS name)) = true
  rw [by_seg, by_nw, show (46 :: dg 8 n) = [46] ++ dg 8 n from rfl, show ([46, 110, 101, 119] : List UInt8) = [46] ++ [110, 101, 119] from rfl]
  exact less_pre _ (less_pre _ (dg_head n _ _ (by decide)))
theorem seg_bl_ck (n : Nat) : bl (segN name n) (ckS name) := by
  unfold bl
  rw [ByteArray.toList_eq, ByteArray.toList_eq]
  show Op.bytesLess (Utf.bytes (segN name n)) (Utf.bytes (ckS name)) = true
  rw [by_seg, by_ck, show (46 :: dg 8 n) = [46] ++ dg 8 n from rfl, show ([46, 99, 104, 101, 99, 107] : List UInt8) = [46] ++ [99, 104, 101, 99, 107] from rfl]
  exact less_pre _ (less_pre _ (dg_head n _ _ (by decide)))
theorem nw_ck : nwS name ≠ ckS name := fun e => by have := congrArg ByteArray.size e; rw [nw_size, ck_size] at this; omega
def ckF (name : ByteArray) (a : Nat) (rs : List Rec) : Fl := ⟨ckS name, ckB a rs, (ckB a rs).length⟩
theorem num_ck : numF name (ckS name) = 0 := by
  have hsz : (name ++ dot).size = name.size + 1 := by rw [ByteArray.size_append]; rfl
  unfold numF
  split
  · unfold numR
    rw [if_neg]
    rintro ⟨h8, _⟩
    rw [by_ex, List.length_take, List.length_drop, ← by_size, ck_size, hsz] at h8
    omega
  · rfl
theorem beh_ck (a : Nat) (rs : List Rec) : Beh name [ckF name a rs] := by
  refine ⟨fun f hf => ?_, fun f hf n e => ?_, fun f hf n => ?_, fun f hf e => ?_⟩ <;> rw [List.mem_singleton.1 hf] at *
  · exact num_ck
  · exact seg_ck n e.symm
  · exact seg_bl_ck n
  · exact nw_ck e.symm
theorem mk_ne_nw {l : List Sgm} {a : Nat} : ∀ f ∈ mkS name a l, f.name ≠ nwS name := fun f hf e => by
  obtain ⟨k, _, e'⟩ := mem_mkS hf
  exact seg_nw _ (e'.symm.trans e)
theorem mk_ne_ck {l : List Sgm} {a : Nat} : ∀ f ∈ mkS name a l, f.name ≠ ckS name := fun f hf e => by
  obtain ⟨k, _, e'⟩ := mem_mkS hf
  exact seg_ck _ (e'.symm.trans e)
theorem rem_all (hn : wnam name = true) (hck : Beh name ck) : ∀ (l : List Sgm) (a : Nat), a + l.length < 100000000 → remAll name (List.range' a l.length) (mkS name a l ++ ck) = ck
  | [], _, _ => rfl
  | x :: l, a, hb => by
    simp only [List.length_cons] at hb
    have hf : findM (segN name a) (mkS name a (x :: l) ++ ck) = some (fileS name a x) := find_at (A := []) (B := l) (by simpa using (by omega : a < 100000000))
    have e : (remM (segN name a) (mkS name a (x :: l) ++ ck)).2 = mkS name (a + 1) l ++ ck := by
      unfold remM onF
      rw [if_neg (by simp [nam_seg hn]), hf]
      show delM (segN name a) (mkS name a (x :: l) ++ ck) = _
      unfold delM
      rw [mkS, List.cons_append, List.filter_cons, if_neg (by simp [fileS]), List.filter_eq_self]
      intro f hf
      rcases List.mem_append.1 hf with hf | hf
      · simpa using suf_ne (by omega) (by omega) f hf
      · simpa using hck.ne f hf a
    have ih := rem_all hn hck l (a + 1) (by omega)
    rw [List.length_cons, List.range'_succ]
    unfold remAll at ih ⊢
    rw [List.foldl_cons, e]
    exact ih
theorem ckp_mk (hn : wnam name = true) {l : List Sgm} {rs : List Rec} (hl : l.length ≤ 200) (hP : (ckP (1 + (l.length - 1) + 1) rs).length ≤ 65536) (hr : ∀ r ∈ rs, r.length ≤ 65536) :
    ckpL name (1 + (l.length - 1)) (mkS name 1 l ++ []) rs = (0, 1 + (l.length - 1) + 1, mkS name (1 + (l.length - 1) + 1) [] ++ [ckF name (1 + (l.length - 1) + 1) rs]) := by
  generalize ha : 1 + (l.length - 1) = a at *
  have hB : (ckB (a + 1) rs).length ≤ 65550 := frame_le hP
  have hlen := mkS_len name l 1
  unfold ckpL
  rw [if_neg (by rintro (⟨r, h1, h2⟩ | h2)
                 · have := hr r h1; omega
                 · omega), if_neg (by omega)]
  unfold ckpD
  rw [rem_nw (Beh.nil name), List.append_nil]
  have hf0 : findM (nwS name) (mkS name 1 l) = none := findM_none.2 mk_ne_nw
  have e1 : apM (nwS name) (ckB (a + 1) rs) (mkS name 1 l) = (0, mkS name 1 l ++ [⟨nwS name, ckB (a + 1) rs, 0⟩]) := by
    unfold apM
    rw [if_neg (by simp [nam_nw hn]), hf0]
    dsimp only
    rw [if_neg (by omega), if_neg (by omega)]
    unfold putM
    rw [if_pos hf0]
    have := ins_mid (A := mkS name 1 l) (B := []) (f := ⟨nwS name, ckB (a + 1) rs, 0⟩) (fun x hx => by
      obtain ⟨k, _, e'⟩ := mem_mkS hx
      rw [e']; exact seg_bl_nw _) (by simp)
    rw [List.append_nil] at this
    rw [this]
  have e2 : (syM (nwS name) (mkS name 1 l ++ [⟨nwS name, ckB (a + 1) rs, 0⟩])).2 = mkS name 1 l ++ [⟨nwS name, ckB (a + 1) rs, (ckB (a + 1) rs).length⟩] := by
    have hf : findM (nwS name) (mkS name 1 l ++ [⟨nwS name, ckB (a + 1) rs, 0⟩]) = some ⟨nwS name, ckB (a + 1) rs, 0⟩ := find_mid (g := ⟨nwS name, ckB (a + 1) rs, 0⟩) mk_ne_nw
    unfold syM onF
    rw [if_neg (by simp [nam_nw hn]), hf]
    dsimp only
    unfold putM
    rw [show findM _ _ = _ from hf, if_neg (by simp)]
    exact set_mid rfl mk_ne_nw (by simp)
  have e3 : (renM (nwS name) (ckS name) (mkS name 1 l ++ [⟨nwS name, ckB (a + 1) rs, (ckB (a + 1) rs).length⟩])).2 = mkS name 1 l ++ [ckF name (a + 1) rs] := by
    have hf : findM (nwS name) (mkS name 1 l ++ [⟨nwS name, ckB (a + 1) rs, (ckB (a + 1) rs).length⟩]) = some ⟨nwS name, ckB (a + 1) rs, (ckB (a + 1) rs).length⟩ := find_mid (g := ⟨nwS name, ckB (a + 1) rs, (ckB (a + 1) rs).length⟩) mk_ne_nw
    unfold renM
    rw [if_neg (by simp [nam_nw hn, nam_ck hn]), hf]
    dsimp only
    rw [if_neg nw_ck]
    have ed : delM (nwS name) (mkS name 1 l ++ [⟨nwS name, ckB (a + 1) rs, (ckB (a + 1) rs).length⟩]) = mkS name 1 l := by
      unfold delM
      rw [List.filter_append, List.filter_eq_self.2 (fun f hf => by simpa using mk_ne_nw f hf)]
      simp
    rw [ed]
    unfold putM
    rw [if_pos (findM_none.2 mk_ne_ck)]
    have := ins_mid (A := mkS name 1 l) (B := []) (f := ckF name (a + 1) rs) (fun x hx => by
      obtain ⟨k, _, e'⟩ := mem_mkS hx
      rw [e']; exact seg_bl_ck _) (by simp)
    rw [List.append_nil] at this
    exact this
  rw [e1]
  dsimp only
  rw [if_neg (by simp), e2, e3, segsM_mk (beh_ck _ _) l 1 (by decide) (by omega), rem_all hn (beh_ck _ _) l 1 (by omega)]
  rfl
theorem ckd_ck (hn : wnam name = true) {l : List Sgm} {a : Nat} {rs : List Rec} (h1 : 1 ≤ a) (h2 : a ≤ 99999999) (hP : (ckP a rs).length ≤ 65536) : Ckd name (remM (nwS name) (mkS name a l ++ [ckF name a rs])).2 a rs := by
  refine .inr ⟨?_, h1, h2, hP⟩
  rw [rem_nw (beh_ck a rs)]
  unfold rdM
  rw [if_neg (by simp [nam_ck hn]), show ckS name = (ckF name a rs).name from rfl, find_mid (g := ckF name a rs) mk_ne_ck]
  rfl
/-- Sync. -/
theorem sy_mk (hn : wnam name = true) (hck : Beh name ck) {pre : List Sgm} {x : List Rec} {sy a : Nat} (hb : a + pre.length + 1 < 100000000) :
    (syM (segN name (a + pre.length)) (mkS name a (pre ++ [(x, [], sy)]) ++ ck)).2 = mkS name a (pre ++ [(x, [], (flat x).length)]) ++ ck := by
  have hnm := nam_seg hn (a + pre.length)
  unfold syM onF
  rw [if_neg (by simp [hnm]), find_at (by omega)]
  dsimp only
  have := put_at (A := pre) (B := []) (x := (x, [], sy)) (y := (x, [], (flat x).length)) (a := a) hck (by simpa using (by omega : a + pre.length + 1 < 100000000))
  simp only [fileS, List.append_nil] at this ⊢
  rw [this]
theorem sy_none (hn : wnam name = true) (hck : Beh name ck) {a : Nat} (hb : a < 100000000) : (syM (segN name a) (mkS name a [] ++ ck)).2 = mkS name a [] ++ ck := by
  have hf : findM (segN name a) (mkS name a [] ++ ck) = none := find_no (A := []) hck (by simpa using hb)
  unfold syM onF
  rw [if_neg (by simp [nam_seg hn]), hf]
/-! ## Crash -/
theorem endAt_mono (fs : List Rec) {i j : Nat} (h : i ≤ j) : endAt fs i ≤ endAt fs j := by
  unfold endAt
  have e : fs.take j = fs.take i ++ (fs.drop i).take (j - i) := by
    rw [← List.take_add, show i + (j - i) = j by omega]
  rw [e, flat_app, List.length_append]; omega
theorem place (fs : List Rec) {n : Nat} (hn : n ≤ (flat fs).length) : ∃ k, k ≤ fs.length ∧ endAt fs k ≤ n ∧ (k = fs.length ∨ n < endAt fs (k + 1)) := by
  have key : ∀ d i : Nat, i + d = fs.length → endAt fs i ≤ n → ∃ k, k ≤ fs.length ∧ endAt fs k ≤ n ∧ (k = fs.length ∨ n < endAt fs (k + 1)) := by
    intro d
    induction d with
    | zero => intro i hi he; exact ⟨i, by omega, he, .inl (by omega)⟩
    | succ d ih =>
      intro i hi he
      rcases Nat.lt_or_ge n (endAt fs (i + 1)) with h | h
      · exact ⟨i, by omega, he, .inr h⟩
      · exact ih (i + 1) (by omega) h
  exact key fs.length 0 (by omega) (by simp [endAt, flat])
end Go.Proofs.YtdaghggdmgbpnaaDoor.Wl

namespace Go.Proofs.YtdaghggdmgbpnaaDoor.Wl
open Go Vm Go.RowKit Num Mem Dk Wo Vint Crc
variable {name : ByteArray} {room : Nat} {M ck : List Fl}

theorem whole_of : ∀ {pre : List Sgm} {x : Sgm}, (∀ y ∈ pre, (∀ m ∈ y.1, m.length ≤ 65536) ∧ y.2.1 = []) → (∀ m ∈ x.1, m.length ≤ 65536) → (x.2.1 = [] ∨ Torn x.2.1) → Whole (pre ++ [x])
  | [], x, _, h1, h2 => ⟨h1, h2⟩
  | y :: pre, x, h, h1, h2 => by
    have ih := whole_of (pre := pre) (x := x) (fun z hz => h z (List.mem_cons_of_mem _ hz)) h1 h2
    have hy := h y (List.mem_cons_self ..)
    cases hp : pre ++ [x] with
    | nil => simp at hp
    | cons z r =>
      rw [List.cons_append, hp]
      rw [hp] at ih
      exact ⟨hy.1, hy.2, ih⟩
theorem mkS_map {g : Fl → Fl} : ∀ (l : List Sgm) (a : Nat), (∀ x ∈ l, ∀ n, g (fileS name n x) = fileS name n x) → (mkS name a l).map g = mkS name a l
  | [], _, _ => rfl
  | x :: l, a, h => by
    rw [mkS, List.map_cons, h x (List.mem_cons_self ..), mkS_map l (a + 1) fun y hy => h y (List.mem_cons_of_mem _ hy)]
theorem crF_full (ks : List Kp) {f : Fl} (h : f.synced = f.bytes.length) : crF ks f = f := by
  have hn : crN ks f = f.bytes.length := by unfold crN; rw [h, Nat.sub_self, Nat.min_zero, Nat.add_zero]
  unfold crF
  rw [hn, List.take_of_length_le (Nat.le_refl _)]
  cases f
  simp only at h
  rw [h]
/-- What a crash leaves: all whole but a torn last segment; of the records a first part, no less than what was synced. -/
theorem crash_mk {l : List Sgm} {a C : Nat} {ks : List Kp} (hg : Good l) (hs : Sy C l) (hbad : badK [] ks = false) (hck : ∀ f ∈ ck, f.synced = f.bytes.length) :
    ∃ l' j, crM ks (mkS name a l ++ ck) = (0, mkS name a l' ++ ck) ∧ Whole l' ∧ recs l' = (recs l).take j ∧ C ≤ j ∧ j ≤ (recs l).length ∧ l'.length = l.length ∧ ∀ x ∈ l', x.2.2 = (flat x.1 ++ x.2.1).length := by
  have hckm : ck.map (crF ks) = ck := by
    conv => rhs; rw [← List.map_id ck]
    exact List.map_congr_left fun f hf => crF_full ks (hck f hf)
  unfold crM
  rw [if_neg (by rw [hbad]; decide), List.map_append, hckm]
  rcases List.eq_nil_or_concat l with rfl | ⟨pre, x, rfl⟩
  · exact ⟨[], 0, rfl, trivial, by simp [recs], by rw [hs.1 rfl]; exact Nat.le_refl _, Nat.zero_le _, rfl, by simp⟩
  · obtain ⟨rs, t, sy⟩ := x
    rw [List.concat_eq_append] at *
    obtain ⟨h1, h2, h3, h4⟩ := hg.each (rs, t, sy) (by simp)
    obtain ⟨s1, s2⟩ := hg.syn pre _ rfl
    obtain ⟨c, hc1, hc2, hc3⟩ := hs.2 pre _ rfl
    dsimp only at h1 h2 h3 h4 s2 hc1 hc3
    subst h2
    have hpre : ∀ y ∈ pre, y.2.1 = [] ∧ (∀ m ∈ y.1, m.length ≤ 65536) := fun y hy => by
      have := hg.each y (by simp [hy]); exact ⟨this.2.1, this.2.2.1⟩
    have hcn : crN ks (fileS name (a + pre.length) (rs, [], sy)) ≤ (flat rs).length ∧ sy ≤ crN ks (fileS name (a + pre.length) (rs, [], sy)) := by
      unfold crN
      simp only [fileS, List.append_nil]
      omega
    generalize hn : crN ks (fileS name (a + pre.length) (rs, [], sy)) = n at hcn
    obtain ⟨k, hk1, hk2, hk3⟩ := place rs hcn.1
    obtain ⟨t, ht1, ht2, ht3⟩ := torn_take rs h3 hk1 hk2 hk3 hcn.1
    have hck : c ≤ k := by
      rcases Nat.lt_or_ge k c with hlt | hge
      · have := endAt_mono rs (i := k + 1) (j := c) (by omega)
        rcases hk3 with e | e <;> omega
      · exact hge
    refine ⟨pre ++ [(rs.take k, t, n)], (recs pre).length + k, ?_, ?_, ?_, by omega, ?_, by simp, ?_⟩
    · rw [mkS_app, mkS_app, List.map_append]
      rw [mkS_map (g := crF ks) pre a fun y hy m => crF_full ks (by
        simp only [fileS, (hpre y hy).1, List.append_nil]
        exact s1 y hy)]
      have e : crF ks (fileS name (a + pre.length) (rs, [], sy)) = fileS name (a + pre.length) (rs.take k, t, n) := by
        unfold crF
        rw [hn]
        simp only [fileS, List.append_nil, ht1]
      show (0, mkS name a pre ++ [crF ks (fileS name (a + pre.length) (rs, [], sy))] ++ ck) = _
      rw [e]
      rfl
    · exact whole_of (fun y hy => ⟨(hpre y hy).2, (hpre y hy).1⟩) (fun m hm => h3 m (List.mem_of_mem_take hm)) ht2
    · rw [recs_app, recs_one, recs_app, recs_one, List.take_length_add_append]
    · rw [recs_app, recs_one, List.length_append]; dsimp only; omega
    · intro y hy
      rcases List.mem_append.1 hy with hy | hy
      · rw [(hpre y hy).1, List.append_nil]; exact s1 y hy
      · rw [List.mem_singleton.1 hy]
        dsimp only
        rw [← ht1, List.length_take]; omega
end Go.Proofs.YtdaghggdmgbpnaaDoor.Wl

namespace Go.Proofs.YtdaghggdmgbpnaaDoor.Wl
open Go Vm Go.RowKit Num Mem Dk Wo Vint Crc
variable {ω ω' : Tg} {w w' w0 : World} {T : Nat → Bool} {gl gd room a : Nat} {ws : Sl} {wl : List Pc} {l0 : List Rec} {ck : List Fl} {segs : List Sgm}

/-! ## Trimmed -/
theorem trim_ok : ∀ {l : List Sgm}, Whole l → (∀ x ∈ l, x.2.2 = (flat x.1 ++ x.2.1).length) → Whole (trim l) ∧ trim (trim l) = trim l ∧ recs (trim l) = recs l ∧ (∀ x ∈ trim l, x.2.2 = (flat x.1 ++ x.2.1).length) ∧ (trim l).length = l.length
  | [], _, _ => ⟨trivial, rfl, rfl, by simp [trim], rfl⟩
  | [x], hw, hs => by
    have h := hs x (by simp)
    show Whole [trimS x] ∧ [trimS (trimS x)] = [trimS x] ∧ recs [trimS x] = recs [x] ∧ (∀ y ∈ [trimS x], _) ∧ _
    by_cases e : x.2.1 = []
    · have ex : trimS x = x := by unfold trimS; rw [if_pos e]
      rw [ex, ex]
      exact ⟨hw, rfl, rfl, hs, rfl⟩
    · have ex : trimS x = (x.1, [], min x.2.2 (flat x.1).length) := by unfold trimS; rw [if_neg e]
      have ex2 : trimS (trimS x) = trimS x := by rw [ex]; rfl
      rw [ex2]
      refine ⟨?_, rfl, ?_, ?_, rfl⟩
      · rw [ex]; exact ⟨hw.1, .inl rfl⟩
      · rw [ex, recs_one, recs_one]
      · intro y hy
        rw [List.mem_singleton.1 hy, ex]
        dsimp only
        rw [List.append_nil, h, List.length_append]; omega
  | x :: y :: r, hw, hs => by
    obtain ⟨i1, i2, i3, i4, i5⟩ := trim_ok (l := y :: r) hw.2.2 fun z hz => hs z (List.mem_cons_of_mem _ hz)
    have e1 : trim (x :: y :: r) = x :: trim (y :: r) := rfl
    rw [e1]
    cases ht : trim (y :: r) with
    | nil => rw [ht] at i5; cases i5
    | cons z q =>
      rw [ht] at i1 i2 i3 i4 i5
      refine ⟨⟨hw.1, hw.2.1, i1⟩, ?_, ?_, ?_, ?_⟩
      · show x :: trim (z :: q) = _
        rw [i2]
      · rw [show x :: z :: q = [x] ++ (z :: q) from rfl, recs_app, i3, ← recs_app]; rfl
      · intro v hv
        rcases List.mem_cons.1 hv with rfl | hv
        · exact hs _ (List.mem_cons_self ..)
        · exact i4 v hv
      · simp only [List.length_cons] at i5 ⊢; omega

/-! ## What a log stands on -/
structure Bas (a : Nat) (l0 : List Rec) (ck : List Fl) : Prop where
  beh : Beh nmW ck
  syn : ∀ f ∈ ck, f.synced = f.bytes.length
  ckd : ∀ l, Ckd nmW (remM (nwS nmW) (mkS nmW a l ++ ck)).2 a l0
  a0 : 0 < a
  a1 : a ≤ 1000
  len : ck.length ≤ 1
  n0 : l0.length ≤ 70000
  each : ∀ x ∈ l0, x.length ≤ 65536
theorem bas_nil : Bas 1 [] [] := ⟨Beh.nil nmW, by simp, fun _ => no_ck, by decide, by decide, by simp, by simp, by simp⟩
theorem bas_ck {rs : List Rec} (h1 : 1 ≤ a) (h2 : a ≤ 1000) (hP : (ckP a rs).length ≤ 65536) (hn : rs.length ≤ 70000) (he : ∀ x ∈ rs, x.length ≤ 65536) : Bas a rs [ckF nmW a rs] :=
  ⟨beh_ck a rs, fun f hf => by rw [List.mem_singleton.1 hf]; rfl, fun _ => ckd_ck wW h1 (by omega) hP, h1, h2, by simp, hn, he⟩
/-- A log, and the list of what it accepted. -/
structure CS (w0 : World) (ω : Tg) (w : World) (gl gd room : Nat) (ws : Sl) (wl : List Pc) (a : Nat) (l0 : List Rec) (ck : List Fl) (segs : List Sgm) (n : Nat) : Prop where
  top : Top w0 ω w
  lg : ∃ sl pl, LG ω w 20 gl gd nmW room (a + (segs.length - 1)) sl pl ∧ pl.map (·.1) = l0 ++ recs segs
  d : DK ω w 1 gd (mkS nmW a segs ++ ck)
  wf : WF (mkS nmW a segs ++ ck)
  good : Good segs
  o : OT ω w 70 31 1 ws (hds wl)
  r : ∀ p ∈ wl, RdB w0 p.2 p.1
  n1 : segs.length ≤ n
  n2 : wl.length ≤ n
theorem append_cs (htab : Tab w0) (hB : Bas a l0 ck) {n : Nat} (h : CS w0 ω w gl gd room ws wl a l0 ck segs n) (hn : n ≤ 150) (hroom : room ≤ 400) (e : wl.map (·.1) = l0 ++ recs segs) {x : Pc} (hx : RdB w0 x.2 x.1) (hxl : x.1.length ≤ 1048577) {K : Int → World → Prop}
    (hbad : ∀ ω' w', CS w0 ω' w' gl gd room ws wl a l0 ck segs n → K 4 w')
    (hok : ∀ ω' w' segs', CS w0 ω' w' gl gd room ws wl a l0 ck segs' (n + 1) → recs segs' = recs segs ++ [x.1] → (∀ C, Sy C segs → Sy C segs') → K 0 w') : C.wal_Log_Append (some ⟨gl, 0, none⟩) x.2 w K := by
  obtain ⟨sl, pl, g, eg⟩ := h.lg
  have hsl := h.n1
  have hwl := h.n2
  have hpl : pl.length ≤ 150 := by
    have h1 := congrArg List.length eg
    have h2 := congrArg List.length e
    simp only [List.length_map] at h1 h2
    omega
  have ha := hB.a1
  refine append_ok (t := 20) (v := 0) (r := x.1) (by decide) h.top htab g (by decide) h.d h.wf (by omega) (by omega) (Wo.Top.rt h.top hx) rfl (by omega) (by omega) fun ω4 w4 sl4 pl4 k4 g4 e4 d4 hw4 => ?_
  rcases Nat.lt_or_ge 65536 x.1.length with hbig | hsm
  · have ea : appL nmW room (a + (segs.length - 1)) (mkS nmW a segs ++ ck) x.1 = (4, a + (segs.length - 1), mkS nmW a segs ++ ck) := by unfold appL; rw [if_pos hbig]
    rw [ea] at g4 e4 d4 hw4 ⊢
    exact hbad ω4 w4 ⟨h.top.stp k4 rfl, ⟨sl4, pl4, g4, by rw [e4, eg]; unfold recL; rw [if_neg (by simp)]⟩, d4, hw4, h.good, h.o.stp k4 rfl, h.r, hsl, hwl⟩
  · obtain ⟨segs', ea, hg', hrec', hlen', _, hsy⟩ := app_mk (room := room) (a := a) (r := x.1) wW hB.beh h.good hsm (by omega) (by have := hB.len; omega) (by omega)
    rw [ea] at g4 e4 d4 hw4 ⊢
    exact hok ω4 w4 segs' ⟨h.top.stp k4 rfl, ⟨sl4, pl4, g4, by rw [e4, eg, hrec']; unfold recL; rw [if_pos rfl, List.append_assoc]⟩, d4, hw4, hg', h.o.stp k4 rfl, h.r, by omega, by omega⟩ hrec' hsy
theorem push_cs {n : Nat} (h : CS w0 ω w gl gd room ws wl a l0 ck segs n) (hn : n ≤ 150) (hlt : wl.length + 1 ≤ n) {x : Pc} (hx : RdB w0 x.2 x.1) {K : Sl → World → Prop}
    (hK : ∀ ω' w' ws', CS w0 ω' w' gl gd room ws' (wl ++ [x]) a l0 ck segs n → K ws' w') :
    G.new (.cells #[x.2.v] 31) w fun p w1 => G.runSl C.pr (Builtin.append_ #[22, 22] 22 #[ws.v, (Sl.v (⟨some p, 1, 1⟩ : Sl))]) w1 K := by
  have hwn := hds_n h.o.rd
  obtain ⟨sl, pl, g, eg⟩ := h.lg
  refine push_T (n := 1) tiBB h.o rfl (by intro v hv; simp at hv; subst hv; rfl) (by simp only [maxLen]; omega) (by omega) fun r5 ω5 w5 k5 o5 hr5 => ?_
  refine hK ω5 w5 r5 ⟨h.top.stp k5 rfl, ⟨sl, pl, g.stp k5 ⟨rfl, rfl, rfl⟩, eg⟩, h.d.stp k5 ⟨rfl, rfl, rfl⟩, h.wf, h.good, ?_, fun p hp => ?_, h.n1, by simp; omega⟩
  · have e5 : hds (wl ++ [x]) = hds wl ++ [x.2.v] := by simp [hds]
    rw [e5]; exact o5
  · rcases List.mem_append.1 hp with hp | hp
    · exact h.r p hp
    · rw [List.mem_singleton.1 hp]; exact hx
end Go.Proofs.YtdaghggdmgbpnaaDoor.Wl

namespace Go.Proofs.YtdaghggdmgbpnaaDoor.Wl
open Go Vm Go.RowKit Num Mem Dk Wo Vint Crc
variable {ω ω' : Tg} {w w' w0 : World} {T : Nat → Bool} {gl gd room a c0 : Nat} {ws : Sl} {wl : List Pc} {l0 : List Rec} {ck : List Fl} {segs : List Sgm} {ksl : Sl} {ks : List Kp}

theorem recs_le' {l : List Sgm} (h : Good l) : ∀ x ∈ recs l, x.length ≤ 65536 := fun x hx => by
  obtain ⟨y, hy, hx⟩ := List.mem_flatMap.1 hx
  exact (h.each y hy).2.2.1 x hx
theorem crash_none {l : List Sgm} (hs : ∀ x ∈ l, x.2.2 = (flat x.1 ++ x.2.1).length) (hck : ∀ f ∈ ck, f.synced = f.bytes.length) : crM [] (mkS nmW a l ++ ck) = (0, mkS nmW a l ++ ck) := by
  unfold crM
  rw [if_neg (by simp [badK]), List.map_append, mkS_map (g := crF []) l a fun x hx m => crF_full [] (hs x hx)]
  have hckm : ck.map (crF []) = ck := by
    conv => rhs; rw [← List.map_id ck]
    exact List.map_congr_left fun f hf => crF_full [] (hck f hf)
  rw [hckm]
theorem crash_S2 (htab : Tab w0) (hB : Bas a l0 ck) {n : Nat} (h : CS w0 ω w gl gd room ws wl a l0 ck segs n) (hn : n ≤ 150) (hr1 : 16 ≤ room) (hroom : room ≤ 400) (e : wl.map (·.1) = l0 ++ recs segs) (hs : Sy c0 segs) (hk : Rd w0 ksl 2 (kps ks)) (hkl : ks.length ≤ 10000000)
    {K : Bool → World → Prop} (hK : ∀ w', Keep w0 w' → K true w') : C.tocsinlaw07_WalCrash.S2 K (room : Int) ksl (some ⟨gd, 0, none⟩) ws ((l0.length + c0 : Nat) : Int) w := by
  unfold C.tocsinlaw07_WalCrash.S2
  rw [show (⟨#[119]⟩ : ByteArray) = nmW from rfl]
  have ha := hB.a1
  have hsl := h.n1
  have hwl := h.n2
  refine crash_ok (by decide) h.d h.wf (hk.keep h.top.k) (by omega) fun ω1 w1 k1 d1 hw1 => ?_
  have top1 := h.top.stp k1 rfl
  by_cases hb : badK [] ks = true
  · have e1 : (crM ks (mkS nmW a segs ++ ck)).1 = 1 := by unfold crM; rw [if_pos hb]
    rw [e1]
    exact cond_t rfl (known_ok top1 htab hK)
  obtain ⟨l', j, ecr, hwh, hrec, hC, hj, hlen, hsyn⟩ := crash_mk (name := nmW) (ck := ck) (a := a) (ks := ks) h.good hs (by simpa using hb) hB.syn
  rw [ecr] at d1 hw1 ⊢
  obtain ⟨t1, t2, t3, t4, t5⟩ := trim_ok hwh hsyn
  have op1 := op_mk (l := l') (a := a) (l0 := l0) wW hB.beh hwh hB.a0 (by omega)
  have op2 := op_mk (l := trim l') (a := a) (l0 := l0) wW hB.beh t1 hB.a0 (by omega)
  refine cond_f rfl <| open_ok (t := 40) (u := 50) (a0 := a) (l0 := l0) (by decide) (by decide) top1 htab wW hr1 (by omega) d1 hw1 (hB.ckd l') fun gl2 sl2 pl2 out2 ps2 ω2 w2 k2 g2 e2 d2 hw2 o2 ep2 hr2 => ?_
  rw [op1] at d2 hw2 ep2
  dsimp only at d2 hw2 ep2
  have top2 := top1.stp k2 rfl
  have ow2 := (h.o.stp k1 rfl).stp k2 rfl
  have hrl : (recs l').length = j := by rw [hrec, List.length_take]; omega
  have lw : wl.length = l0.length + (recs segs).length := by have := congrArg List.length e; simpa using this
  have lp : ps2.length = l0.length + j := by have := congrArg List.length ep2; simp only [List.length_map, List.length_append] at this; omega
  have n2 := hds_n o2.rd
  have nw := hds_n ow2.rd
  have each2 : ∀ p ∈ ps2, p.1.length ≤ 10000000 := fun p hp => by
    have hm : p.1 ∈ l0 ++ recs l' := by rw [← ep2]; exact List.mem_map_of_mem hp
    rcases List.mem_append.1 hm with hm | hm
    · have := hB.each _ hm; omega
    · rw [hrec] at hm
      have := recs_le' h.good _ (List.mem_of_mem_take hm); omega
  refine cond_f rfl <| cond_d (fun hh => by omega) fun _ => cond_d (fun hh => by omega) fun _ => ?_
  refine RT.pre (OT.rt ow2) (n := out2.n) (by omega) rfl fun r3 hr3 hn3 => ?_
  have etk : (hds wl).take (out2.n * 1) = hds (wl.take out2.n) := by rw [Nat.mul_one, hds, hds, List.map_take]
  rw [etk] at hr3
  have eqs : ps2.map (·.1) = (wl.take out2.n).map (·.1) := by
    rw [List.map_take, e, n2, lp, List.take_length_add_append, ep2, hrec]
  refine sameAll_ok o2.rd hr3.rd (fun p hp => (hr2 p hp).rd) (fun p hp => Rd.keep (h.r p (List.mem_of_mem_take hp)) top2.k) eqs (by omega) each2 fun w3 k3 => cond_f rfl ?_
  have top3 := top2.stp (k3.stp0 ω2)
  refine crash_ok (ks := []) (by decide) (d2.stp (k3.stp0 ω2) (off_non 1)) hw2 (Rd.nil w3 2) (by decide) fun ω4 w4 k4 d4 hw4 => ?_
  rw [crash_none t4 hB.syn] at d4 hw4
  have top4 := top3.stp k4 rfl
  refine open_ok (t := 60) (u := 80) (a0 := a) (l0 := l0) (by decide) (by decide) top4 htab wW hr1 (by omega) d4 hw4 (hB.ckd (trim l')) fun gl5 sl5 pl5 out5 ps5 ω5 w5 k5 g5 e5 d5 hw5 o5 ep5 hr5 => ?_
  rw [op2] at ep5
  dsimp only at ep5
  rw [t3] at ep5
  have top5 := top4.stp k5 rfl
  have o25 := ((o2.stp (k3.stp0 ω2)).stp k4 rfl).stp k5 rfl
  have lp5 : ps5.length = l0.length + j := by have := congrArg List.length ep5; simp only [List.length_map, List.length_append] at this; omega
  refine cond_t rfl <| sameAll_ok o5.rd o25.rd (fun p hp => (hr5 p hp).rd) (fun p hp => ((((hr2 p hp).stp (k3.stp0 ω2)).stp k4 rfl).stp k5 rfl).rd) (by rw [ep5, ep2]) (by omega) (fun p hp => ?_) fun w6 k6 => cond_t rfl (known_ok (top5.stp (k6.stp0 ω5)) htab hK)
  have hm : p.1 ∈ l0 ++ recs l' := by rw [← ep5]; exact List.mem_map_of_mem hp
  rcases List.mem_append.1 hm with hm | hm
  · have := hB.each _ hm; omega
  · rw [hrec] at hm
    have := recs_le' h.good _ (List.mem_of_mem_take hm); omega
theorem sync_cs (hB : Bas a l0 ck) {n : Nat} (h : CS w0 ω w gl gd room ws wl a l0 ck segs n) (hn : n ≤ 150) {K : Int → World → Prop}
    (hK : ∀ ω' w' segs', CS w0 ω' w' gl gd room ws wl a l0 ck segs' n → recs segs' = recs segs → Sy (recs segs).length segs' → K 0 w') : C.wal_Log_Sync (some ⟨gl, 0, none⟩) w K := by
  obtain ⟨sl, pl, g, eg⟩ := h.lg
  have hsl := h.n1
  have ha := hB.a1
  refine sync_ok' (by decide) g (by decide) h.d h.wf (by omega) fun ω1 w1 k1 g1 d1 hw1 => ?_
  have top1 := h.top.stp k1 rfl
  have o1 := h.o.stp k1 rfl
  rcases List.eq_nil_or_concat segs with rfl | ⟨pre, x, rfl⟩
  · rw [show a + (([] : List Sgm).length - 1) = a from rfl, sy_none wW hB.beh (by omega)] at d1 hw1
    exact hK ω1 w1 [] ⟨top1, ⟨sl, pl, g1, eg⟩, d1, hw1, h.good, o1, h.r, hsl, h.n2⟩ rfl ⟨fun _ => rfl, fun pre x h => by simp at h⟩
  · obtain ⟨rs, t, sy⟩ := x
    rw [List.concat_eq_append] at *
    obtain ⟨h1, h2, h3, h4⟩ := h.good.each (rs, t, sy) (by simp)
    obtain ⟨s1, s2⟩ := h.good.syn pre _ rfl
    dsimp only at h1 h2 h3 h4 s2
    subst h2
    have last : ∀ (p : List Sgm) (y z : Sgm) (q : List Sgm), q ++ [y] = p ++ [z] → q = p ∧ y = z := fun p y z q h => by
      have := List.append_inj' h rfl
      exact ⟨this.1, by simpa using this.2⟩
    have el : (pre ++ [((rs, [], sy) : Sgm)]).length - 1 = pre.length := by simp
    have el2 : (pre ++ [((rs, [], (flat rs).length) : Sgm)]).length - 1 = pre.length := by simp
    simp only [List.length_append, List.length_singleton] at hsl
    rw [el] at d1 hw1 g1
    rw [sy_mk wW hB.beh (by omega)] at d1 hw1
    refine hK ω1 w1 (pre ++ [(rs, [], (flat rs).length)]) ⟨top1, ⟨sl, pl, by rw [el2]; exact g1, by rw [eg, recs_app, recs_app, recs_one, recs_one]⟩, d1, hw1, ⟨fun x hx => ?_, fun p x hh => ?_⟩, o1, h.r, by simp; omega, h.n2⟩ (by rw [recs_app, recs_app, recs_one, recs_one]) ⟨by simp, fun p x hh => ?_⟩
    · rcases List.mem_append.1 hx with hx | hx
      · exact h.good.each x (by simp [hx])
      · rw [List.mem_singleton.1 hx]; exact ⟨h1, rfl, h3, h4⟩
    · obtain ⟨rfl, rfl⟩ := last _ _ _ _ hh
      exact ⟨s1, Nat.le_refl _⟩
    · obtain ⟨rfl, rfl⟩ := last _ _ _ _ hh
      refine ⟨rs.length, Nat.le_refl _, by rw [recs_app, recs_one, List.length_append]; exact Nat.le_refl _, ?_⟩
      unfold endAt
      dsimp only
      rw [List.take_length]
      exact Nat.le_refl _
theorem crash_S11 (htab : Tab w0) (hB : Bas a l0 ck) {n : Nat} (h : CS w0 ω w gl gd room ws wl a l0 ck segs n) (hn : n ≤ 60) (hr1 : 16 ≤ room) (hroom : room ≤ 400) (e : wl.map (·.1) = l0 ++ recs segs) {ms : Sl} {ml : List Pc} (hm : Rd w0 ms 1 (pcs ml)) (hml : ml.length ≤ 1048577) (ho : ∀ x ∈ ml, RdB w0 x.2 x.1 ∧ x.1.length < 1048578)
    (hk : Rd w0 ksl 2 (kps ks)) (hkl : ks.length ≤ 10000000) {K : Bool → World → Prop} (hK : ∀ w', Keep w0 w' → K true w') : C.tocsinlaw07_WalCrash.S11 K (room : Int) ms ksl (some ⟨gd, 0, none⟩) (some ⟨gl, 0, none⟩) ws w := by
  have hmn := rdP_len hm
  unfold C.tocsinlaw07_WalCrash.S11
  refine sync_cs hB h (by omega) fun ω1 w1 segs1 h1 er hsy => cond_f rfl ?_
  have e1 : wl.map (·.1) = l0 ++ recs segs1 := by rw [er]; exact e
  have hwn : ws.n = l0.length + (recs segs).length := by
    have h1 := hds_n h.o.rd
    have h2 := congrArg List.length e
    simp only [List.length_map, List.length_append] at h2
    omega
  rw [hwn]
  generalize (recs segs).length = c0 at *
  unfold C.tocsinlaw07_WalCrash.S9
  refine C.tocsinlaw07_WalCrash.L5_ind fun X hX => ?_
  have key : ∀ (d i : Nat) (segs : List Sgm) (ws : Sl) (wl : List Pc) (ω3 : Tg) (w3 : World), i + d = ml.length → i ≤ 50 → CS w0 ω3 w3 gl gd room ws wl a l0 ck segs (60 + i) → wl.map (·.1) = l0 ++ recs segs → Sy c0 segs → X (room : Int) ms ksl (some ⟨gd, 0, none⟩) (some ⟨gl, 0, none⟩) ws ((l0.length + c0 : Nat) : Int) (i : Int) w3 := by
    intro d
    induction d with
    | zero =>
      intro i segs ws wl ω3 w3 hi hi1 h3 e3 hs3
      refine hX _ _ _ _ _ _ _ _ _ ?_
      unfold C.tocsinlaw07_WalCrash.S7
      exact cond_d (fun hh => by omega) (fun _ => crash_S2 htab hB h3 (by omega) hr1 hroom e3 hs3 hk hkl hK)
    | succ d ih =>
      intro i segs ws wl ω3 w3 hi hi1 h3 e3 hs3
      refine hX _ _ _ _ _ _ _ _ _ ?_
      unfold C.tocsinlaw07_WalCrash.S7
      obtain ⟨x, hx⟩ : ∃ x, ml[i]? = some x := ⟨_, List.getElem?_eq_getElem (by omega)⟩
      obtain ⟨hxr, hxl⟩ := ho x (List.mem_of_getElem? hx)
      refine cond_d (fun _ => cond_d (fun hlt => ?_) fun _ => crash_S2 htab hB h3 (by omega) hr1 hroom e3 hs3 hk hkl hK) (fun hh => by omega)
      have nx : IntKind.i64.wrap ((i : Int) + 1) = ((i + 1 : Nat) : Int) := by rw [wI64 (by omega) (by omega)]; omega
      rw [nx]
      refine rdP_at (hm.keep h3.top.k) hx fun b b0 => cSl_at (s := x.2) b0 ?_
      refine append_cs htab hB h3 (by omega) hroom e3 hxr (by omega) (fun ω4 w4 h4 => ?_) fun ω4 w4 segs4 h4 er4 hs4 => ?_
      · exact cond_f rfl (ih (i + 1) segs ws wl ω4 w4 (by omega) (by omega) ⟨h4.top, h4.lg, h4.d, h4.wf, h4.good, h4.o, h4.r, by have := h4.n1; omega, by have := h4.n2; omega⟩ e3 hs3)
      · refine cond_t rfl <| rdP_at (hm.keep h4.top.k) hx fun b b0 => cSl_at (s := x.2) b0 <| push_cs h4 (by omega) (by have := h3.n2; omega) hxr fun ω5 w5 ws5 h5 => ?_
        exact ih (i + 1) segs4 ws5 (wl ++ [x]) ω5 w5 (by omega) (by omega) h5 (by rw [List.map_append, e3, er4]; simp) (hs4 c0 hs3)
  exact key ml.length 0 segs1 ws wl ω1 w1 (by omega) (by omega) ⟨h1.top, h1.lg, h1.d, h1.wf, h1.good, h1.o, h1.r, by have := h1.n1; omega, by have := h1.n2; omega⟩ e1 hsy
theorem crash_S12 (htab : Tab w0) {n : Nat} (h : CS w0 ω w gl gd room ws wl 1 [] [] segs n) (hn : n ≤ 60) (hr1 : 16 ≤ room) (hroom : room ≤ 400) (e : wl.map (·.1) = [] ++ recs segs) {ms : Sl} {ml : List Pc} (hm : Rd w0 ms 1 (pcs ml)) (hml : ml.length ≤ 1048577) (ho : ∀ x ∈ ml, RdB w0 x.2 x.1 ∧ x.1.length < 1048578)
    (hk : Rd w0 ksl 2 (kps ks)) (hkl : ks.length ≤ 10000000) {check : Bool} {K : Bool → World → Prop} (hK : ∀ w', Keep w0 w' → K true w') : C.tocsinlaw07_WalCrash.S12 K (room : Int) ms ksl check (some ⟨gd, 0, none⟩) (some ⟨gl, 0, none⟩) ws w := by
  unfold C.tocsinlaw07_WalCrash.S12
  have hsl := h.n1
  have hwl := h.n2
  have hle := recs_le' h.good
  have each : ∀ p ∈ wl, p.1.length ≤ 65536 := fun p hp => hle p.1 (by have : p.1 ∈ wl.map (·.1) := List.mem_map_of_mem hp
                                                                      rw [e] at this; simpa using this)
  cases check with
  | false => exact cond_f rfl (crash_S11 htab bas_nil h hn hr1 hroom e hm hml ho hk hkl hK)
  | true =>
    obtain ⟨sl, pl, g, eg⟩ := h.lg
    refine cond_t rfl <| ckpt_ok (t := 20) (v := 70) (u := 0) (by decide) h.top htab g (by decide) h.d h.wf (by omega) (OT.rt h.o) rfl (fun p hp => Wo.Top.rt h.top (h.r p hp)) rfl (by omega) (fun p hp => by have := each p hp; omega) fun ω1 w1 sl1 pl1 k1 g1 e1 d1 hw1 => ?_
    have top1 := h.top.stp k1 rfl
    have o1 := h.o.stp k1 rfl
    by_cases hP : (ckP (1 + (segs.length - 1) + 1) (wl.map (·.1))).length ≤ 65536
    · have em := ckp_mk (name := nmW) wW (l := segs) (rs := wl.map (·.1)) (by omega) hP (fun r hr => by obtain ⟨p, hp, rfl⟩ := List.mem_map.1 hr; exact each p hp)
      rw [em] at g1 e1 d1 hw1
      have hB : Bas (1 + (segs.length - 1) + 1) (wl.map (·.1)) [ckF nmW (1 + (segs.length - 1) + 1) (wl.map (·.1))] := bas_ck (by omega) (by omega) hP (by simp; omega) (fun r hr => by obtain ⟨p, hp, rfl⟩ := List.mem_map.1 hr; exact each p hp)
      refine crash_S11 htab hB (segs := []) (n := n) ⟨top1, ⟨sl1, pl1, g1, by rw [e1, if_pos rfl]; simp [recs]⟩, d1, hw1, Good.nil, o1, h.r, by simp, hwl⟩ hn hr1 hroom (by simp [recs]) hm hml ho hk hkl hK
    · have em : ckpL nmW (1 + (segs.length - 1)) (mkS nmW 1 segs ++ []) (wl.map (·.1)) = (4, 1 + (segs.length - 1), mkS nmW 1 segs ++ []) := by unfold ckpL; rw [if_pos (.inr (by omega))]
      rw [em] at g1 e1 d1 hw1
      exact crash_S11 htab bas_nil (n := n) ⟨top1, ⟨sl1, pl1, g1, by rw [e1, if_neg (by simp)]; exact eg⟩, d1, hw1, h.good, o1, h.r, hsl, hwl⟩ hn hr1 hroom e hm hml ho hk hkl hK
theorem crash_law (htab : Tab w0) {n : Int} (h1 : -9223372036854775808 ≤ n) (h2 : n ≤ 9223372036854775807) {s : Sl} {ls : List Pc} (hs : Rd w0 s 1 (pcs ls)) (hl : ls.length ≤ 1048577) (hol : ∀ x ∈ ls, RdB w0 x.2 x.1 ∧ x.1.length < 1048578) {ms : Sl} {ml : List Pc} (hm : Rd w0 ms 1 (pcs ml)) (hml : ml.length ≤ 1048577) (ho : ∀ x ∈ ml, RdB w0 x.2 x.1 ∧ x.1.length < 1048578)
    (hk : Rd w0 ksl 2 (kps ks)) (hkl : ks.length ≤ 10000000) {check : Bool} {K : Bool → World → Prop} (hK : ∀ w', Keep w0 w' → K true w') : C.tocsinlaw07_WalCrash n s ms ksl check w0 K := by
  have hsn := rdP_len hs
  unfold C.tocsinlaw07_WalCrash
  refine count_ok (m := 100) (by decide) (by decide) h1 h2 fun k hk0 => ?_
  rw [show (⟨#[119]⟩ : ByteArray) = nmW from rfl, show IntKind.i64.wrap ((16 : Int) + (k : Int)) = ((16 + k : Nat) : Int) by rw [wI64 (by omega) (by omega)]; omega]
  generalize hroom : 16 + k = room
  have hr1 : 16 ≤ room := by omega
  have hr2 : room ≤ 400 := by omega
  refine new_ok (ω := fun _ => 0) 1 fun gd ω1 w1 k1 d1 => ?_
  have top1 := (Top.init w0).stp k1
  have op1 := op_mk (l := []) (a := 1) (l0 := []) wW (Beh.nil nmW) trivial (by decide) (by decide)
  refine open_ok (t := 20) (u := 30) (a0 := 1) (l0 := []) (M := []) (by decide) (by decide) top1 htab wW hr1 (by omega) d1 wf_nil (no_ck (l := []) (a := 1)) fun gl sl pl out ps ω2 w2 k2 g2 e2 d2 hw2 o2 ep2 _ => ?_
  rw [show opM nmW [] 1 [] = _ from op1] at g2 e2 d2 hw2 ep2
  have top2 := top1.stp k2 rfl
  refine cond_f rfl <| cond_f rfl ?_
  unfold C.tocsinlaw07_WalCrash.S19
  refine C.tocsinlaw07_WalCrash.L15_ind fun X hX => ?_
  have key : ∀ (d i : Nat) (segs : List Sgm) (ws : Sl) (wl : List Pc) (ω3 : Tg) (w3 : World), i + d = ls.length → i ≤ 50 → CS w0 ω3 w3 gl gd room ws wl 1 [] [] segs i → wl.map (·.1) = [] ++ recs segs → X (room : Int) s ms ksl check (some ⟨gd, 0, none⟩) (some ⟨gl, 0, none⟩) ws (i : Int) w3 := by
    intro d
    induction d with
    | zero =>
      intro i segs ws wl ω3 w3 hi hi1 h3 e3
      refine hX _ _ _ _ _ _ _ _ _ _ ?_
      unfold C.tocsinlaw07_WalCrash.S17
      exact cond_d (fun hh => by omega) (fun _ => crash_S12 htab h3 (by omega) hr1 hr2 e3 hm hml ho hk hkl hK)
    | succ d ih =>
      intro i segs ws wl ω3 w3 hi hi1 h3 e3
      refine hX _ _ _ _ _ _ _ _ _ _ ?_
      unfold C.tocsinlaw07_WalCrash.S17
      obtain ⟨x, hx⟩ : ∃ x, ls[i]? = some x := ⟨_, List.getElem?_eq_getElem (by omega)⟩
      obtain ⟨hxr, hxl⟩ := hol x (List.mem_of_getElem? hx)
      refine cond_d (fun _ => cond_d (fun hlt => ?_) fun _ => crash_S12 htab h3 (by omega) hr1 hr2 e3 hm hml ho hk hkl hK) (fun hh => by omega)
      have nx : IntKind.i64.wrap ((i : Int) + 1) = ((i + 1 : Nat) : Int) := by rw [wI64 (by omega) (by omega)]; omega
      rw [nx]
      refine rdP_at (hs.keep h3.top.k) hx fun b b0 => cSl_at (s := x.2) b0 ?_
      refine append_cs htab bas_nil h3 (by omega) hr2 e3 hxr (by omega) (fun ω4 w4 h4 => ?_) fun ω4 w4 segs4 h4 er4 hs4 => ?_
      · exact cond_f rfl (ih (i + 1) segs ws wl ω4 w4 (by omega) (by omega) ⟨h4.top, h4.lg, h4.d, h4.wf, h4.good, h4.o, h4.r, by have := h4.n1; omega, by have := h4.n2; omega⟩ e3)
      · refine cond_t rfl <| rdP_at (hs.keep h4.top.k) hx fun b b0 => cSl_at (s := x.2) b0 <| push_cs h4 (by omega) (by have := h3.n2; omega) hxr fun ω5 w5 ws5 h5 => ?_
        exact ih (i + 1) segs4 ws5 (wl ++ [x]) ω5 w5 (by omega) (by omega) h5 (by rw [List.map_append, e3, er4]; simp)
  exact key ls.length 0 [] nilS [] ω2 w2 (by omega) (by omega) ⟨top2, ⟨sl, pl, g2, e2⟩, d2, hw2, Good.nil, OT.nil .., by simp, by simp, by simp⟩ (by simp [recs])
end Go.Proofs.YtdaghggdmgbpnaaDoor.Wl
