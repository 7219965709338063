/- Layer 9: Get, check. Own work. -/
import Derived.Test.YtkeabflhjjpmmaaDoorHd
namespace Go.Proofs.YtkeabflhjjpmmaaDoor.Hd
open Go Vm Go.RowKit Num Mem Utf Lib Lab Sm
variable {ω ω' : Tg} {w w' w0 : World} {gh gm : Nat} {al : List (ByteArray × Value)} {room most rf sn tn : Nat} {st : St} {T : Nat → Bool}

def getS (st : St) (m : List Lb) : Option (List Smp) := if (rt m).1 ≠ 0 then none else (pos (keyOf m) (st.map (·.1)) 0).bind fun j => (st[j]?).map (·.2)
theorem getS_none {m : List Lb} (hr : (rt m).1 = 0) (hp : pos (keyOf m) (st.map (·.1)) 0 = none) : getS st m = none := by unfold getS; rw [if_neg (by simpa using hr), hp]; rfl
theorem getS_some {m : List Lb} (hr : (rt m).1 = 0) {j : Nat} {l : List Smp} (hp : pos (keyOf m) (st.map (·.1)) 0 = some j) (hs : st[j]? = some (keyOf m, l)) : getS st m = some l := by unfold getS; rw [if_neg (by simpa using hr), hp]; simp [hs]
theorem total_ge : ∀ {st : St} {j : Nat} {e : ByteArray × List Smp}, st[j]? = some e → e.2.length ≤ total st
  | [], j, e, h => by simp at h
  | x :: r, 0, e, h => by simp at h; subst h; simp [total]
  | x :: r, j + 1, e, h => by
    have := total_ge (st := r) (by simpa using h)
    simp only [total]; omega

theorem get_ok (h : HD ω w gh room most st rf) (htot : total st ≤ 1000000) (ht : UTab w) {s : Sl} {m : List Lb} (hs : Rd w s 2 (labs m)) {K : Sl → Bool → World → Prop}
    (hK : ∀ r w', Keep w w' → Mem.Own w' w.heap.size 32 2 r (smps ((getS st m).getD [])) → K r (getS st m).isSome w') : C.head_Head_Get (some ⟨gh, 0, none⟩) s w K := by
  obtain ⟨gm, al, h⟩ := h
  unfold C.head_Head_Get
  refine cond_f rfl ?_
  have no : getS st m = none → ∀ w', Keep w w' → K nilS false w' := fun e w' k => by
    have := hK nilS w' k (by rw [e]; exact Own.nil w' _ _ _)
    rwa [e] at this
  refine right_ok ht hs fun w1 k1 => ?_
  refine cond_ne (fun hr => no (by unfold getS; rw [if_pos hr]) w1 k1) (fun hr => ?_)
  have kd := Keep.trans k1 (Keep.drew w1)
  refine ptr_at <| ⟨some gm, by rw [addr_add, (h.stp (kd.stp0 ω) far_non).hd.cell]; rfl, ?_⟩
  refine key_ok (ht.keep kd) (hs.keep kd) hr fun w2 k2 => ?_
  have k02 := Keep.trans kd k2
  have h2 := h.stp (k02.stp0 ω) far_non
  refine ⟨(h.stp (kd.stp0 ω) far_non).hd.sameA (k2.stp0 ω), ?_⟩
  refine look_ok h2 _ (fun hp => ?_) (fun j l b lab sl hp hst hv hb ho => ?_)
  · exact cond_t rfl (no (getS_none hr hp) w2 k02)
  · refine cond_f rfl <| ptr_at <| cSl_at (s := sl) (by rw [addr_add, hb.cell]; rfl) ?_
    have hlen := rdS_len ho.rd
    have hle := total_ge hst
    simp only at hle
    unfold C.api_Sample
    refine clone_ok (P := Tryd.prog) tiS ho.rd smps_one (K := fun r w' => K r true w') (by simp only [maxLen]; omega) (by omega) fun r w3 k3 o3 _ => ?_
    have := hK r w3 (Keep.trans k02 k3) (by rw [getS_some hr hp hst]; exact o3.mono k02.size)
    rwa [getS_some hr hp hst] at this

def chk (room most : Nat) (st : St) (m : List Lb) (x : Smp) : Int × Bool :=
  if (rt m).1 ≠ 0 ∨ m = [] then (41, false) else if x.1 < 0 ∨ 1125899906842624 < x.1 then (1, false) else
  match getS st m with
  | some l => (match l.getLast? with
    | some z => if x.1 < z.1 then (90, false) else if x.1 = z.1 then (if x.2 = z.2 then (0, true) else (6, false)) else if most ≤ total st then (8, false) else (0, false)
    | none => (0, false))
  | none => if room ≤ st.length ∨ most ≤ total st then (8, false) else (0, false)

theorem samples_ok (h : HD ω w gh room most st rf) {K : Int → World → Prop} (hK : K (total st : Int) w) : C.head_Head_Samples (some ⟨gh, 0, none⟩) w K := by
  obtain ⟨gm, al, h⟩ := h
  unfold C.head_Head_Samples
  refine cond_f rfl <| ptr_at ?_
  unfold C.atomic_Int64_Load
  refine ptr_at ?_
  unfold C.atomic_LoadInt64
  exact ptr_at <| cI_at (by rw [addr_add, h.hd.cell]; rfl) hK
theorem refused_ok (h : HD ω w gh room most st rf) {K : Int → World → Prop} (hK : K (rf : Int) w) : C.head_Head_Refused (some ⟨gh, 0, none⟩) w K := by
  obtain ⟨gm, al, h⟩ := h
  unfold C.head_Head_Refused
  refine cond_f rfl <| ptr_at ?_
  unfold C.atomic_Int64_Load
  refine ptr_at ?_
  unfold C.atomic_LoadInt64
  exact ptr_at <| cI_at (by rw [addr_add, h.hd.cell]; rfl) hK

theorem check_end (h : HD ω w gh room most st rf) (b : Bool) {K : Int → Bool → World → Prop} (hK : K (if (b = false ∧ room ≤ st.length) ∨ most ≤ total st then (8 : Int) else 0) false w.drew) :
    C.head_Head_check.S2 K (some ⟨gh, 0, none⟩) b w := by
  obtain ⟨gm, al, h⟩ := h
  have hd := h.stp (drew_stp ω w) far_non
  have smp : (if most ≤ total st then (8 : Int) else 0) = (if (b = false ∧ room ≤ st.length) ∨ most ≤ total st then (8 : Int) else 0) → 
      G.ptr (some ⟨gh, 0, none⟩) fun p30 => G.cI .i64 (p30.add 1) w.drew fun n31 => C.head_Head_Samples (some ⟨gh, 0, none⟩) w.drew fun n32 w33 => sameAt (p30.add 1) 1 w.drew w33 ∧ (G.cond (decide (n32 ≥ n31)) (K (8 : Int) false w33) (K (0 : Int) false w33)) := fun e => by
    rw [← e] at hK
    refine ptr_at <| cI_at (n := (most : Int)) (by rw [addr_add, hd.hd.cell]; rfl) ?_
    refine samples_ok ⟨gm, al, hd⟩ ⟨hd.hd.sameA (Stp.refl Non ω _), ?_⟩
    refine cond_d (fun hh => ?_) (fun hh => ?_)
    · rw [if_pos (by omega)] at hK; exact hK
    · rw [if_neg (by omega)] at hK; exact hK
  unfold C.head_Head_check.S2
  refine cond_not (fun hb => ?_) (fun hb => ?_)
  · subst hb
    refine ptr_at <| ⟨some gm, by rw [addr_add, hd.hd.cell]; rfl, ?_⟩
    refine ptr_at <| cI_at (n := (room : Int)) (by rw [hd.hd.cell]; rfl) ?_
    refine run_len_mt hd.mp (by kernel_rfl) ⟨hd.hd.sameT (Stp.refl Non ω _), ?_⟩
    rw [h.len]
    refine cond_d (fun hh => ?_) (fun hh => ?_)
    · rw [if_pos (.inl ⟨rfl, by omega⟩)] at hK; exact hK
    · exact smp (by
        have : (((false : Bool) = false ∧ room ≤ st.length) ∨ most ≤ total st) ↔ most ≤ total st := by constructor <;> intro q <;> omega
        by_cases q : most ≤ total st
        · rw [if_pos q, if_pos (this.2 q)]
        · rw [if_neg q, if_neg (fun c => q (this.1 c))])
  · subst hb
    exact smp (by simp)

theorem check_ok (h : HD ω w gh room most st rf) (hne : ∀ e ∈ st, e.2 ≠ []) (htot : total st ≤ 1000000) (ht : UTab w) {s : Sl} {m : List Lb} (hs : Rd w s 2 (labs m)) {x : Smp} {K : Int → Bool → World → Prop}
    (hK : ∀ w', Keep w w' → K (chk room most st m x).1 (chk room most st m x).2 w') : C.head_Head_check (some ⟨gh, 0, none⟩) s x.1 x.2 w K := by
  obtain ⟨gm, al, h⟩ := h
  unfold C.head_Head_check
  have out : ∀ (c : Int × Bool) w', chk room most st m x = c → Keep w w' → K c.1 c.2 w' := fun c w' e k => by rw [← e]; exact hK w' k
  refine new_T (ω := fun _ => 0) 7 fun g ω1 w1 k1 b1 => ?_
  have kk1 := k1.keep
  refine right_ok (ht.keep kk1) (hs.keep kk1) fun w2 k2 => ?_
  have k02 := Keep.trans kk1 k2
  have b2 := b1.stp (k2.stp0 ω1)
  refine cond_ne (fun hr => out (41, false) w2 (by unfold chk; rw [if_pos (.inl hr)]) k02) (fun hr => ?_)
  have hn := rdL_len hs
  refine cond_eq (fun h0 => out (41, false) w2 (by unfold chk; rw [if_pos (.inr (List.eq_nil_of_length_eq_zero (by omega)))]) k02) (fun h0 => ?_)
  have hm : m ≠ [] := by rintro rfl; simp at hn; omega
  unfold chk at out
  rw [if_neg (by simp [hr, hm])] at out
  refine cI_at (n := x.1) (by rw [b2.cell]; rfl) ?_
  refine cond_d (fun hlt => out (1, false) w2 (by rw [if_pos (.inl hlt)]) k02) (fun hlt => ?_)
  refine cI_at (n := x.1) (by rw [b2.cell]; rfl) ?_
  refine cond_d (fun hgt => out (1, false) w2 (by rw [if_pos (.inr hgt)]) k02) (fun hgt => ?_)
  rw [if_neg (by omega)] at out
  have kd := Keep.trans k02 (Keep.drew w2)
  have hd := h.stp (kd.stp0 ω) far_non
  refine ptr_at <| ⟨some gm, by rw [addr_add, hd.hd.cell]; rfl, ?_⟩
  refine key_ok (ht.keep kd) (hs.keep kd) hr fun w3 k3 => ⟨hd.hd.sameA (k3.stp0 ω), ?_⟩
  have k03 := Keep.trans kd k3
  have h3 := h.stp (k03.stp0 ω) far_non
  have b3 := (b2.stp (drew_stp ω1 w2)).stp (k3.stp0 ω1)
  refine look_ok h3 _ (fun hp => ?_) (fun j l b lab sl hp hst hv hb ho => ?_)
  · refine cond_f rfl <| check_end ⟨gm, al, h3⟩ false ?_
    refine out ((if (false = false ∧ room ≤ st.length) ∨ most ≤ total st then (8 : Int) else 0), false) _ ?_ (Keep.trans k03 (Keep.drew w3))
    rw [getS_none hr hp]
    by_cases hc : room ≤ st.length ∨ most ≤ total st
    · simp [hc]
    · simp [hc]
  · refine cond_t rfl ?_
    rw [getS_some hr hp hst] at out
    have hl : l ≠ [] := hne _ (List.mem_of_getElem? hst)
    obtain ⟨z, hz⟩ : ∃ z, l.getLast? = some z := ⟨_, List.getLast?_eq_some_getLast hl⟩
    have hz' : l[l.length - 1]? = some z := by rw [← hz, List.getLast?_eq_getElem?]
    have hpos : 0 < l.length := List.length_pos_iff.2 hl
    simp only [hz] at out
    have hlen := rdS_len ho.rd
    have hle := total_ge hst
    simp only at hle
    have hbd := hb.stp (drew_stp ω w3)
    have hod := ho.stp (drew_stp ω w3)
    refine ptr_at <| cSl_at (s := sl) (by rw [addr_add, hbd.cell]; rfl) <| ptr_at <| cSl_at (s := sl) (by rw [addr_add, hbd.cell]; rfl) ?_
    refine rdS_at hod.rd (k := l.length - 1) (by rw [wI64 (by omega) (by omega)]; omega) hz' fun a ha0 ha1 => cI_at ha0 <| cF_at ha1 ?_
    refine new_T (ω := ω1) 8 fun g2 ω4 w4 k4 b4 => ⟨hbd.sameA (k4.keep.stp0 ω), hbd.sameA (k4.keep.stp0 ω), same_keep k4.keep (cell_lt ha0), ?_⟩
    refine st_T b4 (by simp) fun ω5 w5 k5 b5 => st_TA b5 (by simp) fun ω6 w6 k6 b6 => ?_
    have b36 := (((b3.stp (drew_stp ω1 w3)).stp k4).stp k5).stp k6
    have kT := (((((Top.init w).stp k1).stp (k2.stp0 ω1)).stp (drew_stp ω1 w2)).stp (k3.stp0 ω1)).stp (drew_stp ω1 w3)
    have k06 := (((kT.stp k4).stp k5).stp k6).k
    have e6 := fun j => b6.cell j
    have e36 := fun j => b36.cell j
    refine cI_at (n := x.1) (by rw [e36]; rfl) <| cI_at (n := z.1) (by rw [e6]; rfl) ?_
    refine cond_d (fun hlt => out (90, false) w6 (by rw [if_pos hlt]) k06) (fun hlt => ?_)
    rw [if_neg hlt] at out
    have k07 := Keep.trans k06 (Keep.drew w6)
    have b6d := b6.stp (drew_stp ω6 w6)
    have b36d := b36.stp (drew_stp ω6 w6)
    refine cI_at (n := x.1) (by rw [b36d.cell]; rfl) <| cI_at (n := z.1) (by rw [b6d.cell]; rfl) ?_
    refine cond_eq (fun heq => ?_) (fun hne2 => ?_)
    · rw [if_pos heq] at out
      refine cF_at (b := x.2) (by rw [addr_add, b36d.cell]; rfl) <| cF_at (b := z.2) (by rw [addr_add, b6d.cell]; rfl) ?_
      refine show sameAt _ _ _ _ ∧ _ from ⟨b6d.sameA (Stp.refl Non ω6 _), ?_⟩
      unfold C.math_Float64bits
      refine cond_ne (fun hv => out (6, false) _ (by rw [if_neg (by intro e; exact hv (by rw [e]))]) k07) (fun hv => ?_)
      refine cI_at (n := x.1) (by rw [b36d.cell]; rfl) <| cI_at (n := z.1) (by rw [b6d.cell]; rfl) ?_
      exact cond_eq (fun _ => out (0, true) _ (by rw [if_pos (by exact_mod_cast hv)]) k07) (fun hx => absurd heq hx)
    · rw [if_neg hne2] at out
      refine cI_at (n := x.1) (by rw [b36d.cell]; rfl) <| cI_at (n := z.1) (by rw [b6d.cell]; rfl) ?_
      refine cond_eq (fun hx => absurd hx hne2) (fun _ => ?_)
      refine check_end ⟨gm, al, h.stp (k07.stp0 ω) far_non⟩ true ?_
      refine out ((if (true = false ∧ room ≤ st.length) ∨ most ≤ total st then (8 : Int) else 0), false) _ ?_ (Keep.trans k07 (Keep.drew _))
      by_cases hc : most ≤ total st
      · rw [if_pos hc, if_pos (.inr hc)]
      · rw [if_neg hc, if_neg (by simp [hc])]
end Go.Proofs.YtkeabflhjjpmmaaDoor.Hd
