/- Layer 7 (wal): Append, Sync, Len. Own work. -/
import Derived.Test.YtdaghggdmgbpnaaDoorWlF
namespace Go.Proofs.YtdaghggdmgbpnaaDoor.Wl
open Go Vm Go.RowKit Num Mem Dk Wo Vint Crc
variable {ω ω' : Tg} {w w' w0 : World} {T : Nat → Bool} {t u v gl gd room at' : Nat} {name : ByteArray} {sl : Sl} {pl : List Pc} {M : List Fl}

/-- A frame, put where the log goes on. -/
def putL (name : ByteArray) (a : Nat) (M : List Fl) (r : List UInt8) : Int × Nat × List Fl := ((apM (segN name a) (frameOf r) M).1, a, (apM (segN name a) (frameOf r) M).2)
def rolls (name : ByteArray) (room a : Nat) (M : List Fl) (r : List UInt8) : Prop := (szM (segN name a) M).2.2 = 0 ∧ 0 < (szM (segN name a) M).1 ∧ (room : Int) < (szM (segN name a) M).1 + (frameOf r).length
instance (name : ByteArray) (room a : Nat) (M : List Fl) (r : List UInt8) : Decidable (rolls name room a M r) := by unfold rolls; infer_instance
def appL (name : ByteArray) (room a : Nat) (M : List Fl) (r : List UInt8) : Int × Nat × List Fl :=
  if 65536 < r.length then (4, a, M)
  else if rolls name room a M r then (if 99999999 ≤ a then (8, a, (syM (segN name a) M).2) else putL name (a + 1) (syM (segN name a) M).2 r)
  else putL name a M r
def recL (e : Int) (l : List (List UInt8)) (r : List UInt8) : List (List UInt8) := if e = 0 then l ++ [r] else l
theorem append_S2 (ht : 10 ≤ t) (h : LG ω w t gl gd name room at' sl pl) (hs : name.size ≤ 40) (hd : DK ω w 1 gd M) (hM : WF M) (hat : at' < 100000000) {b f : Sl} {r : List UInt8} (hb : RT ω w v b 1 (vBs r)) (hv : TW t v = false) (hr : r.length ≤ 65536) (hf : RdB w f (frameOf r)) (hl : pl.length ≤ 2000000000) {K : Int → World → Prop}
    (hK : ∀ ω' w' sl' pl', Stp (TW t) ω ω' w w' → LG ω' w' t gl gd name room at' sl' pl' → pl'.map (·.1) = recL (putL name at' M r).1 (pl.map (·.1)) r → DK ω' w' 1 gd (putL name at' M r).2.2 → WF (putL name at' M r).2.2 → K (putL name at' M r).1 w') :
    C.wal_Log_Append.S2 K (some ⟨gl, 0, none⟩) b f w := by
  unfold C.wal_Log_Append.S2
  have hfl := frameOf_len hr
  have s1 := drew_stp ω w
  have h1 := h.stp s1 (off_non t)
  refine ptr_at <| cP_at (b := some ⟨gd, 0, none⟩) (by rw [h1.hd.cell]; rfl) <| ptr_at <| cI_at (n := (at' : Int)) (by rw [addr_add, h1.hd.cell]; rfl) <| segment_ok h1.nam (by omega) hat fun w2 k2 => ⟨h1.hd.sameT (k2.stp0 ω), ?_⟩
  have s2 := s1.trans (k2.stp0 ω)
  have h2 := h.stp s2 (off_non t)
  have d2 := hd.stp s2 (off_non 1)
  refine Dk.append_ok (s := segN name at') d2 hM (by rw [segN_size]; omega) (Rd.keep hf s2.keep) (by omega) fun ω3 w3 k3 d3 hw3 => ?_
  unfold putL at hK
  dsimp only at hK
  have sp3 : Stp (TW t) ω ω3 w w3 := (tw_n s2).trans (tw_1 k3)
  have h3 := h2.stp k3 (off_dt (by omega))
  generalize apM (segN name at') (frameOf r) M = AP at *
  refine cond_ne (fun hne => ?_) (fun he => ?_)
  · exact hK ω3 w3 sl pl sp3 h3 (by unfold recL; rw [if_neg hne]) d3 hw3
  have hb3 := hb.stp sp3 hv
  have s4 := drew_stp ω3 w3
  have h4 := h3.stp s4 (off_non t)
  have hsln : sl.n = pl.length := by have := h.row.rd.2.1; simp [hds] at this; omega
  refine ptr_at <| cSl_at (s := sl) (by rw [addr_add, h4.hd.cell]; rfl) <| again_ok (Rd.keep hb3.rd s4.keep) (by omega) fun r5 w5 k5 rr5 => ⟨h4.hd.sameA (k5.stp0 ω3), ?_⟩
  have s5 := k5.stp ω3 (t + 2)
  have rr := rr5 ω3 (t + 2)
  generalize ext ω3 w3.drew.heap.size (t + 2) = ω5 at *
  have h5 := h4.stp s5 (off_non t)
  refine new_T (ω := ω5) 9 fun g6 ω6 w6 k6 b6 => ⟨h4.hd.sameA (s5.trans k6), ?_⟩
  have h6 := h5.stp k6 (off_non t)
  have hr6 : Rd w6 ⟨some ⟨g6, 0, none⟩, 1, 1⟩ 1 [r5.v] := Rd.blk (o := 0) (n := 1) (c := 1) (sz := 1) b6.blk (Nat.le_refl _) (by simp)
  refine app_T tiBB h6.row hr6 (by intro v hv; simp at hv; subst hv; rfl) (by simp only [maxLen]; omega) (by simp only; omega) fun r7 ω7 w7 k7 o7 _ => ?_
  have hd7 := h6.hd.stp k7 (beq_no (by omega))
  refine ptr_at <| st_TA hd7 (by simp) fun ω8 w8 k8 b8 => ?_
  have d8 := ((((d3.stp s4 (off_non 1)).stp s5 (off_non 1)).stp k6 (off_non 1)).stp k7 (off_one (by omega))).stp k8 (off_one (by omega))
  have k78 : Stp (DT t) ω6 ω8 w6 w8 := (dt_one (by omega) (by omega) k7).trans (dt_one (Nat.le_refl _) (by omega) k8)
  rw [← he]
  refine hK ω8 w8 r7 (pl ++ [(r, r5)]) ((((sp3.trans (tw_n s4)).trans (tw_n s5)).trans (tw_n k6)).trans (tw_t k78)) ⟨b8, ?_, fun p hp => ?_⟩ (by unfold recL; rw [if_pos he]; simp) d8 hw3
  · have e : hds (pl ++ [(r, r5)]) = hds pl ++ [r5.v] := by simp [hds]
    rw [e]; exact o7.stp k8 (beq_no (by omega))
  · rcases List.mem_append.1 hp with hp | hp
    · exact ((h6.rt p hp).stp k7 (beq_no (by omega))).stp k8 (beq_no (by omega))
    · rw [List.mem_singleton.1 hp]; exact ((rr.stp k6).stp k7 (beq_no (by omega))).stp k8 (beq_no (by omega))
theorem append_ok (ht : 10 ≤ t) (top : Top w0 ω w) (htab : Tab w0) (h : LG ω w t gl gd name room at' sl pl) (hs : name.size ≤ 40) (hd : DK ω w 1 gd M) (hM : WF M) (hat : at' < 100000000) (hroom : room ≤ 1048576) {b : Sl} {r : List UInt8} (hb : RT ω w v b 1 (vBs r)) (hv : TW t v = false) (hr : r.length ≤ 10000000) (hl : pl.length ≤ 2000000000) {K : Int → World → Prop}
    (hK : ∀ ω' w' sl' pl', Stp (TW t) ω ω' w w' → LG ω' w' t gl gd name room (appL name room at' M r).2.1 sl' pl' → pl'.map (·.1) = recL (appL name room at' M r).1 (pl.map (·.1)) r → DK ω' w' 1 gd (appL name room at' M r).2.2 → WF (appL name room at' M r).2.2 → K (appL name room at' M r).1 w') :
    C.wal_Log_Append (some ⟨gl, 0, none⟩) b w K := by
  unfold C.wal_Log_Append
  refine cond_f rfl <| putFrame_ok (htab.keep top.k) (Vint.RdB.nil w) hb.rd (by simp) (fun hbig => ?_) fun hsm f w1 k1 o1 => ?_
  · have e : appL name room at' M r = (4, at', M) := by unfold appL; rw [if_pos hbig]
    rw [e] at hK
    exact cond_t rfl (hK ω w sl pl (Stp.refl _ _ _) h (by unfold recL; rw [if_neg (by simp)]) hd hM)
  rw [List.nil_append] at o1
  have hfl := frameOf_len hsm
  have hfn := o1.len
  unfold appL at hK
  rw [if_neg (by omega)] at hK
  have s1 := k1.stp ω 9
  have f1 := OT.rt (Own.tag o1 (Nat.le_refl _) ω 9)
  generalize ext ω w.heap.size 9 = ω1 at *
  have s2 := s1.trans (drew_stp ω1 w1)
  have h2 := h.stp s2 (off_non t)
  refine cond_f rfl <| ptr_at <| cP_at (b := some ⟨gd, 0, none⟩) (by rw [h2.hd.cell]; rfl) <| ptr_at <| cI_at (n := (at' : Int)) (by rw [addr_add, h2.hd.cell]; rfl) <| segment_ok h2.nam (by omega) hat fun w3 k3 => ⟨h2.hd.sameT (k3.stp0 ω1), ?_⟩
  have s3 := s2.trans (k3.stp0 ω1)
  have ssz : (segN name at').size ≤ 9223372036854775807 := by rw [segN_size]; omega
  refine size2_ok (s := segN name at') (hd.stp s3 (off_non 1)) hM ssz fun w4 k4 => ?_
  have s4 := s3.trans (k4.stp0 ω1)
  have h4 := h.stp s4 (off_non t)
  have d4 := hd.stp s4 (off_non 1)
  have f4 := (f1.stp (drew_stp ω1 w1)).stp ((Keep.trans k3 k4).stp0 ω1)
  have b4 := hb.stp s4
  have stay : ¬ rolls name room at' M r → C.wal_Log_Append.S2 K (some ⟨gl, 0, none⟩) b f w4 := fun hno => by
    rw [if_neg hno] at hK
    exact append_S2 ht h4 hs d4 hM hat b4 hv hsm f4.rd hl fun ω' w' sl' pl' k => hK ω' w' sl' pl' ((tw_n s4).trans k)
  have hszl : (szM (segN name at') M).1 ≤ 1048576 := by
    unfold szM
    split
    · simp
    · split
      · simp
      · rename_i x hx; have := hM.len _ (found hx).1; simp only; omega
  have hsz0 : 0 ≤ (szM (segN name at') M).1 := by
    unfold szM
    split
    · simp
    · split
      · simp
      · simp only; omega
  refine cond_eq (fun e0 => cond_d (fun e1 => ?_) fun e1 => stay fun hh => e1 hh.2.1) fun e0 => stay fun hh => e0 hh.1
  refine ptr_at <| cI_at (n := (room : Int)) (by rw [addr_add, h4.hd.cell]; rfl) ?_
  rw [wI64 (x := (szM (segN name at') M).1 + _) (by omega) (by omega)]
  refine cond_d (fun e2 => ?_) fun e2 => stay fun hh => e2 (by have := hh.2.2; omega)
  have hroll : rolls name room at' M r := ⟨e0, e1, by omega⟩
  rw [if_pos hroll] at hK
  have s5 := s4.trans (drew_stp ω1 w4)
  have h5 := h.stp s5 (off_non t)
  refine ptr_at <| cP_at (b := some ⟨gd, 0, none⟩) (by rw [h5.hd.cell]; rfl) <| ptr_at <| cI_at (n := (at' : Int)) (by rw [addr_add, h5.hd.cell]; rfl) <| segment_ok h5.nam (by omega) hat fun w6 k6 => ⟨h5.hd.sameT (k6.stp0 ω1), ?_⟩
  have s6 := s5.trans (k6.stp0 ω1)
  refine sync_ok (s := segN name at') (hd.stp s6 (off_non 1)) hM ssz fun ω7 w7 k7 d7 hw7 => ?_
  have sp7 : Stp (TW t) ω ω7 w w7 := (tw_n s6).trans (tw_1 k7)
  have h7 := (h.stp s6 (off_non t)).stp k7 (off_dt (by omega))
  refine ptr_at <| cI_at (n := (at' : Int)) (by rw [addr_add, h7.hd.cell]; rfl) <| cond_d (fun e3 => ?_) fun e3 => ?_
  · rw [if_pos (by omega)] at hK
    exact hK ω7 w7 sl pl sp7 h7 (by unfold recL; rw [if_neg (by simp)]) d7 hw7
  rw [if_neg (by omega)] at hK
  refine ptr_at <| cI_at (n := (at' : Int)) (by rw [addr_add, h7.hd.cell]; rfl) ?_
  rw [wI64 (by omega) (by omega), show (at' : Int) + 1 = ((at' + 1 : Nat) : Int) by omega]
  refine ptr_at <| st_TA h7.hd (by simp) fun ω8 w8 k8 b8 => ?_
  have h8 : LG ω8 w8 t gl gd name room (at' + 1) sl pl := ⟨b8, h7.row.stp k8 (beq_no (by omega)), fun p hp => (h7.rt p hp).stp k8 (beq_no (by omega))⟩
  have sp8 := sp7.trans (tw_t (dt_one (Nat.le_refl _) (by omega) k8))
  have f8 := (((f4.stp (drew_stp ω1 w4)).stp (k6.stp0 ω1)).stp k7 (dt_off (by omega))).stp k8 (beq_no (by omega))
  exact append_S2 ht h8 hs (d7.stp k8 (off_one (by omega))) hw7 (by omega) (hb.stp sp8 hv) hv hsm f8.rd hl fun ω' w' sl' pl' k => hK ω' w' sl' pl' (sp8.trans k)
theorem sync_ok' (ht : 10 ≤ t) (h : LG ω w t gl gd name room at' sl pl) (hs : name.size ≤ 40) (hd : DK ω w 1 gd M) (hM : WF M) (hat : at' < 100000000) {K : Int → World → Prop}
    (hK : ∀ ω' w', Stp (TW t) ω ω' w w' → LG ω' w' t gl gd name room at' sl pl → DK ω' w' 1 gd (syM (segN name at') M).2 → WF (syM (segN name at') M).2 → K 0 w') : C.wal_Log_Sync (some ⟨gl, 0, none⟩) w K := by
  unfold C.wal_Log_Sync
  have s1 := drew_stp ω w
  have h1 := h.stp s1 (off_non t)
  refine cond_f rfl <| ptr_at <| cP_at (b := some ⟨gd, 0, none⟩) (by rw [h1.hd.cell]; rfl) <| ptr_at <| cI_at (n := (at' : Int)) (by rw [addr_add, h1.hd.cell]; rfl) <| segment_ok h1.nam (by omega) hat fun w2 k2 => ⟨h1.hd.sameT (k2.stp0 ω), ?_⟩
  have s2 := s1.trans (k2.stp0 ω)
  refine sync_ok (s := segN name at') (hd.stp s2 (off_non 1)) hM (by rw [segN_size]; omega) fun ω3 w3 k3 d3 hw3 => ?_
  exact hK ω3 w3 ((tw_n s2).trans (tw_1 k3)) ((h.stp s2 (off_non t)).stp k3 (off_dt (by omega))) d3 hw3
theorem len_ok (h : LG ω w t gl gd name room at' sl pl) {K : Int → World → Prop} (hK : K ((pl.length : Nat) : Int) w) : C.wal_Log_Len (some ⟨gl, 0, none⟩) w K := by
  have hsln : sl.n = pl.length := by have := h.row.rd.2.1; simp [hds] at this; omega
  unfold C.wal_Log_Len
  refine cond_f rfl <| ptr_at <| cSl_at (s := sl) (by rw [addr_add, h.hd.cell]; rfl) ?_
  rw [hsln]; exact hK
end Go.Proofs.YtdaghggdmgbpnaaDoor.Wl
