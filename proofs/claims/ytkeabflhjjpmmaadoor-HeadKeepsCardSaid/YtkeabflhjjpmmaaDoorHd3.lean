/- Layer 9: Append. Own work. -/
import Derived.Test.YtkeabflhjjpmmaaDoorHd2
namespace Go.Proofs.YtkeabflhjjpmmaaDoor.Hd
open Go Vm Go.RowKit Num Mem Utf Lib Lab Sm
variable {ω ω' : Tg} {w w' w0 : World} {gh gm : Nat} {al : List (ByteArray × Value)} {room most rf sn tn : Nat} {st : St} {T : Nat → Bool}

def modS (st : St) (j : Nat) (x : Smp) : St := st.modify j fun e => (e.1, e.2 ++ [x])
def app (room most : Nat) (st : St) (m : List Lb) (x : Smp) : St :=
  if chk room most st m x = (0, false) then (match pos (keyOf m) (st.map (·.1)) 0 with | some j => modS st j x | none => st ++ [(keyOf m, [x])]) else st
def rfN (room most : Nat) (st : St) (rf : Nat) (m : List Lb) (x : Smp) : Nat := if (chk room most st m x).1 = 0 then rf else rf + 1
abbrev HT : Nat → Bool := fun t => Nat.beq t 1 || Nat.beq t 2 || Nat.ble 10 t
theorem ht_one {t : Nat} (h : t = 1 ∨ t = 2 ∨ 10 ≤ t) (k : Stp (One t) ω ω' w w') : Stp HT ω ω' w w' := k.mono fun u hu => by
  refine beq_no fun e => ?_
  subst e
  rcases h with rfl | rfl | h
  · cases hu
  · cases hu
  · simp only [HT, Bool.or_eq_false_iff] at hu
    rw [Nat.ble_eq_true_of_le h] at hu
    cases hu.2
theorem modS_keys : ∀ (st : St) (j : Nat) (x : Smp), (modS st j x).map (·.1) = st.map (·.1)
  | [], j, x => by simp [modS]
  | e :: r, 0, x => by simp [modS]
  | e :: r, j + 1, x => by have := modS_keys r j x; simpa [modS] using this
theorem modS_total : ∀ (st : St) (j : Nat) (x : Smp), j < st.length → total (modS st j x) = total st + 1
  | [], j, x, h => by simp at h
  | e :: r, 0, x, h => by simp [modS, total]; omega
  | e :: r, j + 1, x, h => by
    have := modS_total r j x (by simpa using h)
    simp only [modS, List.modify_succ_cons, total] at this ⊢
    omega
theorem modS_len (st : St) (j : Nat) (x : Smp) : (modS st j x).length = st.length := by simp [modS]
theorem modS_last : ∀ (st : St) (k : ByteArray) (x : Smp), modS (st ++ [(k, [])]) st.length x = st ++ [(k, [x])]
  | [], k, x => by simp [modS]
  | e :: r, k, x => by have := modS_last r k x; simpa [modS] using this
theorem smp_one {x : Smp} : ∀ v ∈ smps [x], v.oneCell' = true := smps_one

theorem append_end (h : HDa ω w gh gm al room most st rf sn (total st)) {k : ByteArray} {l : List Smp} {j b : Nat} {lab sl : Sl} {x : Smp} {p : Addr} (hst : st[j]? = some (k, l)) (hv : al[j]? = some (k, .pointer (some ⟨b, 0, none⟩)))
    (hb : BT ω w (10 + 2 * j) b 52 [Sl.v lab, Sl.v sl]) (ho : OT ω w (11 + 2 * j) 32 2 sl (smps l)) (htot : total st ≤ 1000000) (hp0 : w.cell? p = some (.int .i64 x.1)) (hp1 : w.cell? (p.add 1) = some (.float .f64 x.2))
    {K : Int → World → Prop} (hK : ∀ ω' w', Stp HT ω ω' w w' → HDa ω' w' gh gm al room most (modS st j x) rf sn (total st + 1) → K 0 w') : C.head_Head_Append.S2 K (some ⟨gh, 0, none⟩) (some p) (some ⟨b, 0, none⟩) w := by
  have hlen := rdS_len ho.rd
  have hle := total_ge hst
  simp only at hle
  have kd := drew_stp ω w
  have hbd := hb.stp kd
  have hod := ho.stp kd
  unfold C.head_Head_Append.S2
  refine ptr_at <| cSl_at (s := sl) (by rw [addr_add, hbd.cell]; rfl) <| ptr_at <| cI_at (n := x.1) hp0 <| cF_at (b := x.2) hp1 ?_
  refine new_T (ω := ω) 7 fun g ω1 w1 k1 b1 => ⟨hbd.sameA k1, ?_⟩
  have hx : Rd w1 ⟨some ⟨g, 0, none⟩, 1, 1⟩ 2 (smps [x]) := by
    have := Rd.blk (o := 0) (n := 1) (c := 1) (sz := 2) b1.blk (Nat.le_refl _) (by simp)
    exact this
  refine app_T tiS (hod.stp k1) hx smp_one (by simp only [maxLen]; omega) (by simp only; omega) fun r ω2 w2 k2 o2 hr => ?_
  have hb2 := (hbd.stp k1).stp k2 (beq_no (by omega))
  refine ptr_at <| st_TA hb2 (by simp) fun ω3 w3 k3 b3 => ?_
  have h0 := (h.stp kd far_non).stp k1 far_non
  have hd3 := (h0.hd.stp k2 (beq_no (by omega))).stp k3 (beq_no (by omega))
  have o3 := o2.stp k3 (beq_no (by omega))
  unfold C.atomic_Int64_Add C.atomic_AddInt64
  refine ptr_at <| ptr_at <| ptr_at <| cI_at (n := (total st : Int)) (by rw [addr_add, hd3.cell]; rfl) <| st_TA hd3 (by simp) fun ω4 w4 k4 b4 => ?_
  refine hK ω4 w4 (((((kd.non HT).trans (k1.non HT)).trans (ht_one (by omega) k2)).trans (ht_one (by omega) k3)).trans (ht_one (.inl rfl) k4)) ⟨?_, ?_, ?_, fun i k' l' hi => ?_⟩
  · have e : IntKind.i64.wrap ((total st : Int) + 1) = ((total st + 1 : Nat) : Int) := by rw [wI64 (by omega) (by omega)]; omega
    rw [e] at b4
    exact b4
  · exact ((h0.mp.stp k2 (beq_no (by omega))).stp k3 (beq_no (by omega))).stp k4 (beq_no (by omega))
  · rw [modS_keys]; exact h.ks
  · rw [modS, List.getElem?_modify] at hi
    by_cases e : j = i
    · subst e
      rw [hst] at hi
      simp only [Option.map_some, if_true, Option.some.injEq, Prod.mk.injEq] at hi
      obtain ⟨rfl, rfl⟩ := hi
      refine ⟨_, hv, b, lab, r, rfl, b3.stp k4 (beq_no (by omega)), ?_⟩
      have := o3.stp k4 (beq_no (by omega))
      rwa [smps_app]
    · have hi' : st[i]? = some (k', l') := by cases hs : st[i]? with | none => rw [hs] at hi; cases hi | some y => rw [hs] at hi; simpa [e] using hi
      obtain ⟨v, h1, h2⟩ := h0.en i k' l' hi'
      exact ⟨v, h1, ((h2.stp k2 (beq_no (by omega)) (beq_no (by omega))).stp k3 (beq_no (by omega)) (beq_no (by omega))).stp k4 (beq_no (by omega)) (beq_no (by omega))⟩

theorem cloneL_ok {s : Sl} {m : List Lb} (hs : Rd w s 2 (labs m)) (hm : m.length ≤ 1000000) {K : Sl → World → Prop} (hK : ∀ r w', Keep w w' → K r w') : C.api_Label s w K := by
  have hl := rdL_len hs
  unfold C.api_Label
  exact clone_ok tiL hs labs_one (by simp only [maxLen]; omega) (by omega) fun r w' k _ _ => hK r w' k
theorem append_ok (h : HD ω w gh room most st rf) (hne : ∀ e ∈ st, e.2 ≠ []) (htot : total st ≤ 100000) (hrf : rf ≤ 1000000) (hsl : st.length ≤ 100000) (ht : UTab w) {s : Sl} {m : List Lb} (hs : Rd w s 2 (labs m)) {x : Smp} {K : Int → World → Prop}
    (hK : ∀ ω' w', Stp HT ω ω' w w' → HD ω' w' gh room most (app room most st m x) (rfN room most st rf m x) → K (chk room most st m x).1 w') : C.head_Head_Append (some ⟨gh, 0, none⟩) s x.1 x.2 w K := by
  obtain ⟨gm, al, h⟩ := h
  unfold C.head_Head_Append
  refine new_T (ω := ω) 7 fun g ω1 w1 k1 b1 => cond_f rfl ?_
  have h1 := h.stp k1 far_non
  refine cI_at (n := x.1) (by rw [b1.cell]; rfl) <| cF_at (b := x.2) (by rw [addr_add, b1.cell]; rfl) ?_
  refine check_ok ⟨gm, al, h1⟩ hne (by omega) (ht.keep k1.keep) (hs.keep k1.keep) fun w2 k2 => ?_
  have k02 := (k1.non HT).trans ((k2.stp0 ω1).non HT)
  have h2 := h1.stp (k2.stp0 ω1) far_non
  have b2 := b1.stp (k2.stp0 ω1)
  have kk2 := Keep.trans k1.keep k2
  refine cond_ne (fun hc => ?_) (fun hc => ?_)
  · unfold C.atomic_Int64_Add C.atomic_AddInt64
    refine ptr_at <| ptr_at <| ptr_at <| cI_at (n := (rf : Int)) (by rw [addr_add, h2.hd.cell]; rfl) <| st_TA h2.hd (by simp) fun ω3 w3 k3 b3 => ?_
    have e : IntKind.i64.wrap ((rf : Int) + 1) = ((rf + 1 : Nat) : Int) := by rw [wI64 (by omega) (by omega)]; omega
    rw [e] at b3
    refine hK ω3 w3 (k02.trans (ht_one (.inl rfl) k3)) ⟨gm, al, ?_⟩
    have e1 : app room most st m x = st := by unfold app; rw [if_neg (fun q => hc (by rw [q]))]
    have e2 : rfN room most st rf m x = rf + 1 := by unfold rfN; rw [if_neg hc]
    rw [e1, e2]
    exact ⟨b3, h2.mp.stp k3 (beq_no (by omega)), h2.ks, fun i k' l' hi => let ⟨v, q1, q2⟩ := h2.en i k' l' hi; ⟨v, q1, q2.stp k3 (beq_no (by omega)) (beq_no (by omega))⟩⟩
  · have e2 : rfN room most st rf m x = rf := by unfold rfN; rw [if_pos hc]
    rw [e2, hc] at hK
    refine cond_of (fun hb => ?_) (fun hb => ?_)
    · have e1 : app room most st m x = st := by unfold app; rw [if_neg (fun q => by rw [q] at hb; cases hb)]
      rw [e1] at hK
      exact hK ω1 w2 k02 ⟨gm, al, h2⟩
    · have ec : chk room most st m x = (0, false) := Prod.ext hc hb
      have hr : (rt m).1 = 0 := by
        by_cases q : (rt m).1 = 0
        · exact q
        · unfold chk at hc; rw [if_pos (.inl q)] at hc; cases hc
      unfold app at hK
      rw [if_pos ec] at hK
      refine key_ok (ht.keep kk2) (hs.keep kk2) hr fun w3 k3 => ?_
      have h3 := h2.stp (k3.stp0 ω1) far_non
      have b3 := b2.stp (k3.stp0 ω1)
      have k03 := k02.trans ((k3.stp0 ω1).non HT)
      have kk3 := Keep.trans kk2 k3
      refine ptr_at <| ⟨some gm, by rw [addr_add, h3.hd.cell]; rfl, ?_⟩
      refine look_ok h3 _ (fun hp => ?_) (fun j l b lab sl hp hst hv hb ho => ?_)
      · refine cond_t rfl ?_
        rw [hp] at hK
        have hlen := rdL_len hs
        obtain ⟨h16, _⟩ := rt_short hr
        refine cloneL_ok (hs.keep kk3) (by omega) fun r w4 k4 => ?_
        have h4 := h3.stp (k4.stp0 ω1) far_non
        have b4 := b3.stp (k4.stp0 ω1)
        refine new_T (ω := ω1) (10 + 2 * st.length) fun b ω5 w5 k5 b5 => ?_
        have h5 := h4.stp k5 far_non
        have b35 := b4.stp k5
        refine ptr_at <| ⟨some gm, by rw [addr_add, h5.hd.cell]; rfl, ?_⟩
        have ef := fnd_pos (keyOf m) al 0
        rw [h.ks, hp] at ef
        refine ins_T h5.mp (kt := 9) (et := 47) (by kernel_rfl) (by kernel_rfl) ef fun ω6 w6 k6 m6 => ?_
        have hd6 := h5.hd.stp k6
        unfold C.atomic_Int64_Add C.atomic_AddInt64
        refine ptr_at <| ptr_at <| ptr_at <| cI_at (n := (st.length : Int)) (by rw [addr_add, hd6.cell]; rfl) <| st_TA hd6 (by simp) fun ω7 w7 k7 b7 => ?_
        have e : IntKind.i64.wrap ((st.length : Int) + 1) = ((st.length + 1 : Nat) : Int) := by rw [wI64 (by omega) (by omega)]; omega
        rw [e] at b7
        have k07 := (((k03.trans ((k4.stp0 ω1).non HT)).trans (k5.non HT)).trans (ht_one (.inr (.inl rfl)) k6)).trans (ht_one (.inl rfl) k7)
        have bs7 := (b5.stp k6 (beq_no (by omega))).stp k7 (beq_no (by omega))
        have bp7 := (b35.stp k6).stp k7
        have et : total (st ++ [(keyOf m, [])]) = total st := by rw [total_app]; simp [total]
        have h7 : HDa ω7 w7 gh gm (al ++ [(keyOf m, .pointer (some ⟨b, 0, none⟩))]) room most (st ++ [(keyOf m, [])]) rf (st.length + 1) (total (st ++ [(keyOf m, [])])) := by
          rw [et]
          refine ⟨b7, m6.stp k7 (beq_no (by omega)), by simp [h.ks], fun i k' l' hi => ?_⟩
          by_cases hlt : i < st.length
          · rw [List.getElem?_append_left hlt] at hi
            obtain ⟨v, q1, q2⟩ := h5.en i k' l' hi
            exact ⟨v, by rw [List.getElem?_append_left (by have := h.len; omega)]; exact q1, (q2.stp k6 (beq_no (by omega)) (beq_no (by omega))).stp k7 (beq_no (by omega)) (beq_no (by omega))⟩
          · have hi2 := (List.getElem?_eq_some_iff.1 hi).1
            have ei : i = st.length := by simp at hi2; omega
            subst ei
            rw [List.getElem?_append_right (Nat.le_refl _), Nat.sub_self] at hi
            simp only [List.getElem?_cons_zero, Option.some.injEq, Prod.mk.injEq] at hi
            obtain ⟨rfl, rfl⟩ := hi
            refine ⟨_, by rw [List.getElem?_append_right (by have := h.len; omega), h.len, Nat.sub_self]; rfl, b, r, nilS, rfl, bs7, OT.nil ..⟩
        refine append_end h7 (j := st.length) (k := keyOf m) (l := []) (b := b) (lab := r) (sl := nilS) (by simp) (by rw [List.getElem?_append_right (by have := h.len; omega), h.len, Nat.sub_self]; rfl) bs7 (OT.nil ..) (by rw [et]; omega) (by rw [bp7.cell]; rfl) (by rw [addr_add, bp7.cell]; rfl) fun ω8 w8 k8 h8 => hK ω8 w8 (k07.trans k8) ⟨gm, al ++ [(keyOf m, .pointer (some ⟨b, 0, none⟩))], ?_⟩
        have em : modS (st ++ [(keyOf m, [])]) st.length x = st ++ [(keyOf m, [x])] := by
          exact modS_last st (keyOf m) x
        rw [em, et] at h8
        have e1 : total (st ++ [(keyOf m, [x])]) = total st + 1 := by rw [total_app]; simp [total]
        have e2 : (st ++ [(keyOf m, [x])]).length = st.length + 1 := by simp
        simp only [e1, e2]
        exact h8
      · refine cond_f rfl ?_
        rw [hp] at hK
        refine append_end h3 hst hv hb ho (by omega) (by rw [b3.cell]; rfl) (by rw [addr_add, b3.cell]; rfl) fun ω4 w4 k4 h4 => hK ω4 w4 (k03.trans k4) ⟨gm, al, ?_⟩
        rw [modS_len, modS_total _ _ _ (List.getElem?_eq_some_iff.1 hst).1]
        exact h4
end Go.Proofs.YtkeabflhjjpmmaaDoor.Hd
