/- Layer 3: the document's Crash. Own work. -/
import Derived.Test.YtlfpbnfdeanaeaaDkT
namespace Go.Proofs.Ytlfpbnfdeanaeaa.Dk
open Go Vm Go.RowKit Num Mem
variable {ω ω' : Tg} {w w' w0 : World} {t gr : Nat} {T : Nat → Bool} {M : List Fl} {pl : PL} {sl : Sl}

theorem badK_any : ∀ {ks seen : List Kp}, badK seen ks = false → ∀ i x, ks[i]? = some x → (seen ++ ks.take i).any (fun y => decide (y.1 = x.1)) = false
  | [], _, _, i, x, h => by simp at h
  | k :: r, seen, hb, 0, x, h => by
    simp at h; subst h
    simp only [badK, Bool.or_eq_false_iff] at hb
    simpa using hb.1
  | k :: r, seen, hb, i + 1, x, h => by
    simp only [badK, Bool.or_eq_false_iff] at hb
    have := badK_any hb.2.2 i x (by simpa using h)
    simpa using this
theorem kvF_snoc {A : List Kp} {x : Kp} {s : ByteArray} : kvF (A ++ [x]) s = if A.any (fun y => decide (y.1 = s)) then kvF A s else if x.1 = s then x.2 else 0 := by
  unfold kvF
  rw [List.find?_append, any_find]
  cases hf : A.find? fun y => decide (y.1 = s) with
  | some y => simp
  | none =>
    by_cases e : x.1 = s
    · simp [List.find?_cons, e]
    · simp [List.find?_cons, e]
theorem rcrash_ok (h : RD ω w t gr M) (hM : WF M) {l : Sl} {ks : List Kp} {u : Nat} (hlt : RT ω w u l 2 (kps ks)) (hu : DT t u = false) (hkl : ks.length ≤ 9223372036854775807) {K : Int → World → Prop}
    (hK : ∀ ω' w', Stp (DT t) ω ω' w w' → RD ω' w' t gr (crM ks M).2 → K (crM ks M).1 w') : C.tocsinref03_Disk_Crash (some ⟨gr, 0, none⟩) l w K := by
  obtain ⟨sl, pl, h, hpl⟩ := h
  have hcnt := hM.cnt
  have hln := rdK_len hlt.rd
  have hpn : pl.length = M.length := by rw [← hpl, List.length_map]
  have bad : badK [] ks = true → ∀ w', Keep w w' → K 1 w' := fun e w' k => by
    have e' : crM ks M = (1, M) := by unfold crM; rw [if_pos e]
    have := hK ω w' ((k.stp0 ω).non _) (by rw [e']; exact ⟨sl, pl, h.stp (k.stp0 ω) (off_non t), hpl⟩)
    rwa [e'] at this
  unfold C.tocsinref03_Disk_Crash C.tocsinref03_Disk_Crash.S44
  refine C.tocsinref03_Disk_Crash.L29_ind fun X hX => ?_
  have key : ∀ (d i : Nat) (w1 : World), i + d = ks.length → Keep w w1 → badK (ks.take i) (ks.drop i) = badK [] ks → X (some ⟨gr, 0, none⟩) l (i : Int) w1 := by
    intro d
    induction d with
    | succ d ih =>
      intro i w1 hi k1 hb
      refine hX _ _ _ _ ?_
      unfold C.tocsinref03_Disk_Crash.S42
      refine cond_d (fun _ => ?_) (fun hh => by omega)
      obtain ⟨x, hx⟩ : ∃ x, ks[i]? = some x := ⟨_, List.getElem?_eq_getElem (by omega)⟩
      have hdr : ks.drop i = x :: ks.drop (i + 1) := by
        have hlt : i < ks.length := by omega
        rw [List.drop_eq_getElem_cons hlt]; congr 1
        rw [List.getElem?_eq_getElem hlt] at hx; exact Option.some.inj hx
      rw [hdr, badK] at hb
      unfold C.tocsinref03_Disk_Crash.S39
      refine rdK_at (hlt.rd.keep k1) (k := i) rfl hx fun a _ a1 => cI_at a1 ?_
      refine cond_d (fun hneg => bad (by rw [← hb, decide_eq_true hneg]; simp) w1 k1) (fun hneg => ?_)
      refine C.tocsinref03_Disk_Crash.L35_ind fun Y hY => ?_
      have inner : ∀ (d' k : Nat) (w2 : World), k + d' = i → Keep w w2 → (∀ j y, j < k → ks[j]? = some y → y.1 ≠ x.1) → Y (some ⟨gr, 0, none⟩) l (i : Int) (k : Int) w2 := by
        intro d'
        induction d' with
        | zero =>
          intro k w2 hk k2 hne
          refine hY _ _ _ _ _ ?_
          unfold C.tocsinref03_Disk_Crash.S37 C.tocsinref03_Disk_Crash.S31
          refine cond_d (fun hh => by omega) (fun _ => ?_)
          rw [wI64 (by omega) (by omega), show (i : Int) + 1 = ((i + 1 : Nat) : Int) by omega]
          refine ih (i + 1) w2 (by omega) k2 ?_
          have ha : (ks.take i).any (fun y => decide (y.1 = x.1)) = false := by
            rw [List.any_eq_false]
            intro y hy
            obtain ⟨j, hj⟩ := List.mem_iff_getElem?.1 hy
            rw [List.getElem?_take] at hj
            split at hj
            · simpa using hne j y (by omega) hj
            · cases hj
          rw [ha, decide_eq_false hneg] at hb
          rw [List.take_add_one, hx]
          simpa using hb
        | succ d' ih' =>
          intro k w2 hk k2 hne
          refine hY _ _ _ _ _ ?_
          unfold C.tocsinref03_Disk_Crash.S37
          obtain ⟨y, hy⟩ : ∃ y, ks[k]? = some y := ⟨_, List.getElem?_eq_getElem (by omega)⟩
          have kd := Keep.trans k2 (Keep.drew w2)
          refine cond_d (fun _ => ?_) (fun hh => by omega)
          refine rdK_at (hlt.rd.keep kd) (k := k) rfl hy fun a a0 _ => cS_at a0 <| rdK_at (hlt.rd.keep kd) (k := i) rfl hx fun b b0 _ => cS_at b0 ?_
          rw [ba_beq]
          refine cond_d (fun e => bad ?_ _ kd) (fun e => ?_)
          · have ha : (ks.take i).any (fun z => decide (z.1 = x.1)) = true := by
              rw [List.any_eq_true]
              exact ⟨y, List.mem_iff_getElem?.2 ⟨k, by rw [List.getElem?_take, if_pos (by omega)]; exact hy⟩, by simp [e]⟩
            rw [← hb, ha]; rfl
          · rw [wI64 (by omega) (by omega), show (k : Int) + 1 = ((k + 1 : Nat) : Int) by omega]
            refine ih' (k + 1) _ (by omega) kd fun j z hj hz => ?_
            rcases Nat.lt_succ_iff_lt_or_eq.1 hj with hj | rfl
            · exact hne j z hj hz
            · rw [hy] at hz
              rw [← Option.some.inj hz]; exact e
      exact inner i 0 w1 (by omega) k1 fun j y hj => absurd hj (Nat.not_lt_zero _)
    | zero =>
      intro i w1 hi k1 hb
      refine hX _ _ _ _ ?_
      unfold C.tocsinref03_Disk_Crash.S42
      refine cond_d (fun hh => by omega) (fun _ => ?_)
      rw [List.drop_of_length_le (by omega)] at hb
      have hgood : badK [] ks = false := hb.symm
      have ec : crM ks M = (0, M.map (crF ks)) := by unfold crM; rw [if_neg (by rw [hgood]; simp)]
      rw [ec] at hK
      unfold C.tocsinref03_Disk_Crash.S25
      refine C.tocsinref03_Disk_Crash.L5_ind fun Y hY => ?_
      have loop : ∀ (d j : Nat) (pl : PL) (ω4 : Tg) (w4 : World), j + d = M.length → RDa ω4 w4 t gr sl pl → pl.map (·.1) = midM ks M j → RT ω4 w4 u l 2 (kps ks) → Stp (DT t) ω ω4 w w4 → Y (some ⟨gr, 0, none⟩) l (j : Int) w4 := by
        intro d
        induction d with
        | zero =>
          intro j pl ω4 w4 hj hD hp hl4 s
          refine hY _ _ _ _ ?_
          have hn := rdF_len hD.row.rd
          have hpl' : pl.length = M.length := by have := congrArg List.length hp; rw [List.length_map] at this; have e := congrArg List.length (midM_names ks M j); simp only [List.length_map] at e; omega
          unfold C.tocsinref03_Disk_Crash.S23 C.tocsinref03_Disk_Crash.S2
          refine ptr_at <| cSl_at (s := sl) (by rw [hD.hd.cell]; rfl) <| cond_d (fun hh => by omega) (fun _ => ?_)
          have e : midM ks M j = M.map (crF ks) := by unfold midM; rw [List.take_of_length_le (by omega), List.drop_of_length_le (by omega), List.append_nil]
          rw [e] at hp
          exact hK ω4 w4 s ⟨sl, pl, hD, hp⟩
        | succ d ih =>
          intro j pl ω4 w4 hj hD hp hl4 s
          refine hY _ _ _ _ ?_
          have hn := rdF_len hD.row.rd
          have hpl' : pl.length = M.length := by have := congrArg List.length hp; rw [List.length_map] at this; have e := congrArg List.length (midM_names ks M j); simp only [List.length_map] at e; omega
          have hjl : j < M.length := by omega
          obtain ⟨q, hx⟩ : ∃ q, pl[j]? = some q := ⟨_, List.getElem?_eq_getElem (by omega)⟩
          have hfj : M[j]? = some q.1 := by
            have h1 : (pl.map (·.1))[j]? = some q.1 := by rw [List.getElem?_map, hx]; rfl
            rw [hp] at h1
            unfold midM at h1
            rw [List.getElem?_append_right (by simp; omega)] at h1
            simp only [List.length_map, List.length_take, Nat.min_eq_left (Nat.le_of_lt hjl), Nat.sub_self, List.getElem?_drop, Nat.add_zero] at h1
            exact h1
          have hqm := List.mem_of_getElem? hx
          have hfm := List.mem_of_getElem? hfj
          have hsy := hM.syn _ hfm
          have hle := hM.len _ hfm
          have hcn := crN_le q.1 ks hsy
          have hqb := RdB.len (hD.rt q hqm).rd
          unfold C.tocsinref03_Disk_Crash.S23 C.tocsinref03_Disk_Crash.S20 C.tocsinref03_Disk_Crash.S18
          refine ptr_at <| cSl_at (s := sl) (by rw [hD.hd.cell]; rfl) <| cond_d (fun _ => ?_) (fun hh => by omega)
          refine C.tocsinref03_Disk_Crash.L14_ind fun Z hZ => ?_
          have search : ∀ (d' k : Nat) (w5 : World), k + d' = ks.length → Keep w4 w5 → Z (some ⟨gr, 0, none⟩) l (j : Int) (kvF (ks.take k) q.1.name) (k : Int) w5 := by
            intro d'
            induction d' with
            | succ d' ih' =>
              intro k w5 hk k5
              refine hZ _ _ _ _ _ _ ?_
              unfold C.tocsinref03_Disk_Crash.S16
              obtain ⟨y, hy⟩ : ∃ y, ks[k]? = some y := ⟨_, List.getElem?_eq_getElem (by omega)⟩
              have kd := Keep.trans k5 (Keep.drew w5)
              have hD5 := hD.stp (kd.stp0 ω4) (off_non t)
              have ek : kvF (ks.take (k + 1)) q.1.name = if y.1 = q.1.name then y.2 else kvF (ks.take k) q.1.name := by
                rw [List.take_add_one, hy]
                simp only [Option.toList_some]
                rw [kvF_snoc]
                have ha := badK_any hgood k y hy
                simp only [List.nil_append] at ha
                by_cases e : y.1 = q.1.name
                · rw [e] at ha
                  rw [ha, if_pos e, if_pos e]; rfl
                · rw [if_neg e, if_neg e]
                  split
                  · rfl
                  · rename_i hn'
                    unfold kvF
                    rw [any_find] at hn'
                    cases hf : (ks.take k).find? fun y => decide (y.1 = q.1.name) with
                    | none => rfl
                    | some z => rw [hf] at hn'; exact absurd rfl hn'
              refine cond_d (fun _ => ?_) (fun hh => by omega)
              have nx : (IntKind.i64.wrap ((k : Int) + 1)) = ((k + 1 : Nat) : Int) := by rw [wI64 (by omega) (by omega)]; omega
              refine rdK_at (hl4.rd.keep kd) (k := k) rfl hy fun a a0 _ => cS_at a0 ?_
              refine ptr_at <| cSl_at (s := sl) (by rw [hD5.hd.cell]; rfl) <| rdF_at hD5.row.rd (k := j) rfl hx fun b b0 _ _ => cS_at b0 ?_
              rw [ba_beq]
              refine cond_d (fun e => ?_) (fun e => ?_)
              · refine rdK_at (hl4.rd.keep kd) (k := k) rfl hy fun a _ a1 => cI_at a1 ?_
                rw [nx]
                have := ih' (k + 1) _ (by omega) kd
                rwa [ek, if_pos e] at this
              · rw [nx]
                have := ih' (k + 1) _ (by omega) kd
                rwa [ek, if_neg e] at this
            | zero =>
              intro k w5 hk k5
              refine hZ _ _ _ _ _ _ ?_
              unfold C.tocsinref03_Disk_Crash.S16
              refine cond_d (fun hh => by omega) (fun _ => ?_)
              rw [List.take_of_length_le (by omega)]
              have kv0 := kv_nonneg hgood q.1.name
              unfold C.tocsinref03_Disk_Crash.S11
              have kd := Keep.trans k5 (Keep.drew w5)
              have hD5 := hD.stp (kd.stp0 ω4) (off_non t)
              have c5 : w5.drew.cell? ⟨gr, 0, none⟩ = some sl.v := by rw [hD5.hd.cell]; rfl
              refine ptr_at <| cSl_at (s := sl) c5 <| rdF_at hD5.row.rd (k := j) rfl hx fun b _ b1 _ => cSl_at (s := q.2) b1 <| ptr_at <| cSl_at (s := sl) c5 <| rdF_at hD5.row.rd (k := j) rfl hx fun b _ _ b2 => cI_at b2 ?_
              rw [wI64 (x := ((q.2.n : Nat) : Int) - (q.1.synced : Int)) (by omega) (by omega)]
              have fin : ∀ (n : Int) (w6 : World), n = ((min (kvF ks q.1.name).toNat (q.1.bytes.length - q.1.synced) : Nat) : Int) → Keep w4 w6 → C.tocsinref03_Disk_Crash.S10 K Y (some ⟨gr, 0, none⟩) l (j : Int) n w6 := by
                intro n w6 en k6
                have en2 : IntKind.i64.wrap ((q.1.synced : Int) + n) = ((crN ks q.1 : Nat) : Int) := by
                  rw [wI64 (by omega) (by omega)]; unfold crN; omega
                unfold C.tocsinref03_Disk_Crash.S10 C.tocsinref03_Disk_Crash.S7
                have kd6 := Keep.trans k6 (Keep.drew w6)
                have hD6 := hD.stp (kd6.stp0 ω4) (off_non t)
                have c6 : w6.drew.cell? ⟨gr, 0, none⟩ = some sl.v := by rw [hD6.hd.cell]; rfl
                refine ptr_at <| cSl_at (s := sl) c6 <| ptr_at <| cSl_at (s := sl) c6 <| rdF_at hD6.row.rd (k := j) rfl hx fun b _ _ b2 => cI_at b2 ?_
                rw [en2]
                refine set_ok hD6 (j := 2) (by decide) hx (y := (⟨q.1.name, q.1.bytes, crN ks q.1⟩, q.2)) rfl (hD6.rt q hqm) rfl fun ω7 w7 k7 h7 => ?_
                have h7d := h7.stp (drew_stp ω7 w7) (off_non t)
                have hx7 : (pl.set j (⟨q.1.name, q.1.bytes, crN ks q.1⟩, q.2))[j]? = some (⟨q.1.name, q.1.bytes, crN ks q.1⟩, q.2) := List.getElem?_set_self (List.getElem?_eq_some_iff.1 hx).1
                have c7 : w7.drew.cell? ⟨gr, 0, none⟩ = some sl.v := by rw [h7d.hd.cell]; rfl
                have hr7 := h7d.rt _ (List.mem_of_getElem? hx7)
                refine ptr_at <| cSl_at (s := sl) c7 <| ptr_at <| cSl_at (s := sl) c7 <| rdF_at h7d.row.rd (k := j) rfl hx7 fun b _ b1 _ => cSl_at (s := q.2) b1 <| ptr_at <| cSl_at (s := sl) c7 <| rdF_at h7d.row.rd (k := j) rfl hx7 fun b _ _ b2 => cI_at (n := ((crN ks q.1 : Nat) : Int)) b2 ?_
                refine RT.pre hr7 (n := crN ks q.1) (by show crN ks q.1 ≤ q.2.n; omega) rfl fun r hr hrn => ?_
                have er : (vBs q.1.bytes).take (crN ks q.1 * 1) = vBs (q.1.bytes.take (crN ks q.1)) := by rw [Nat.mul_one, vBs, vBs, List.map_take]
                simp only [er] at hr
                refine set_ok h7d (j := 1) (by decide) hx7 (y := (crF ks q.1, r)) rfl hr rfl fun ω8 w8 k8 h8 => ?_
                rw [List.set_set] at h8
                have s8 := (((kd6.stp0 ω4).non (DT t)).trans (dt_one (t := t) (by omega) (by omega) k7)).trans (((drew_stp ω7 w7).non _).trans (dt_one (by omega) (by omega) k8))
                rw [wI64 (by omega) (by omega), show (j : Int) + 1 = ((j + 1 : Nat) : Int) by omega]
                refine ih (j + 1) _ ω8 w8 (by omega) h8 ?_ (hl4.stp s8 hu) (s.trans s8)
                rw [List.map_set, hp]
                unfold midM
                rw [List.take_add_one, hfj, List.set_append_right _ _ (by simp; omega)]
                simp only [List.length_map, List.length_take, Nat.min_eq_left (Nat.le_of_lt hjl), Nat.sub_self, Option.toList_some, List.map_append, List.map_cons, List.map_nil, List.append_assoc]
                congr 1
                rw [List.drop_eq_getElem_cons hjl]
                rfl
              refine cond_d (fun hgt => fin _ _ ?_ kd) (fun hgt => fin _ _ ?_ kd)
              · omega
              · omega
          exact search ks.length 0 w4 (by omega) (Keep.refl w4)
      exact loop M.length 0 pl ω w1 (by omega) (h.stp (k1.stp0 ω) (off_non t)) (by unfold midM; simpa using hpl) (hlt.stp (k1.stp0 ω) rfl) ((k1.stp0 ω).non _)
  exact key ks.length 0 w (by omega) (Keep.refl w) (by simp)
end Go.Proofs.Ytlfpbnfdeanaeaa.Dk
