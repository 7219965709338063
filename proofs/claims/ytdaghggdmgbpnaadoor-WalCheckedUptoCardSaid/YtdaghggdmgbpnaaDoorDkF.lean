/- Layer 3: Crash. Own work. -/
import Derived.Test.YtdaghggdmgbpnaaDoorDkE
import Derived.Test.YtdaghggdmgbpnaaDoorRepR
namespace Go.Proofs.YtdaghggdmgbpnaaDoor.Dk
open Go Vm Go.RowKit Num Mem
variable {ω ω' : Tg} {w w' w0 : World} {t gd gm : Nat} {T : Nat → Bool} {M : List Fl} {pl : PL}

abbrev Kp := ByteArray × Int
def kpC (x : Kp) : List Value := [.string x.1, .int .i64 x.2]
def kps (l : List Kp) : List Value := l.flatMap kpC
theorem kps_at {l : List Kp} {i : Nat} {x : Kp} (h : l[i]? = some x) : (kps l)[i * 2 + 0]? = some (.string x.1) ∧ (kps l)[i * 2 + 1]? = some (.int .i64 x.2) := by
  constructor
  · rw [kps, Rep.flat_at (enc := kpC) (k := 2) (fun _ => rfl) _ _ _ (by decide), h]; rfl
  · rw [kps, Rep.flat_at (enc := kpC) (k := 2) (fun _ => rfl) _ _ _ (by decide), h]; rfl
theorem rdK_len {s : Sl} {m : List Kp} (h : Rd w s 2 (kps m)) : s.n = m.length := by have := h.2.1; rw [kps, Rep.flat_len (enc := kpC) (k := 2) (fun _ => rfl)] at this; omega
theorem rdK_at {s : Sl} {m : List Kp} (h : Rd w s 2 (kps m)) {i : Int} {k : Nat} {x : Kp} (ei : i = (k : Int)) (hx : m[k]? = some x) {K : Addr → Prop}
    (hK : ∀ a : Addr, w.cell? a = some (.string x.1) → w.cell? (a.add 1) = some (.int .i64 x.2) → K a) : G.ix s.a s.n i 2 K := by
  have hk : k < m.length := (List.getElem?_eq_some_iff.1 hx).1
  have hn := rdK_len h
  subst ei
  obtain ⟨e0, e1⟩ := kps_at hx
  refine Rd.ix h (by decide) (by omega) (by omega) fun a hc => hK a ?_ ?_
  · have := hc 0 _ (by decide) (by rw [Int.toNat_natCast]; exact e0)
    rwa [show a.add 0 = a by simp [Addr.add]] at this
  · exact hc 1 _ (by decide) (by rw [Int.toNat_natCast]; exact e1)
def badK (seen : List Kp) : List Kp → Bool
  | [] => false
  | k :: r => seen.any (fun y => decide (y.1 = k.1)) || (decide (k.2 < 0) || badK (seen ++ [k]) r)
def kvF (ks : List Kp) (s : ByteArray) : Int := ((ks.find? fun y => decide (y.1 = s)).map (·.2)).getD 0
def crN (ks : List Kp) (f : Fl) : Nat := f.synced + min (kvF ks f.name).toNat (f.bytes.length - f.synced)
def crF (ks : List Kp) (f : Fl) : Fl := ⟨f.name, f.bytes.take (crN ks f), crN ks f⟩
def crM (ks : List Kp) (M : List Fl) : Int × List Fl := if badK [] ks = true then (1, M) else (0, M.map (crF ks))
def encK (x : Kp) : ByteArray × Value := (x.1, .int .i64 x.2)
theorem getV_K (s : ByteArray) : ∀ ks : List Kp, getV s (ks.map encK) = (ks.find? fun y => decide (y.1 = s)).map fun x => .int .i64 x.2
  | [] => rfl
  | x :: r => by
    simp only [List.map_cons, encK, getV, List.find?_cons]
    by_cases e : x.1 = s
    · simp [e]
    · simp only [e, decide_false]
      rw [if_neg (show ¬ s = x.1 from fun h => e h.symm)]
      exact getV_K s r
theorem updA_none {s : ByteArray} {v : Value} : ∀ {al : AL}, getV s al = none → updA s v al = al ++ [(s, v)]
  | [], _ => rfl
  | (k, x) :: r, h => by
    by_cases e : s = k
    · simp [getV, e] at h
    · simp only [getV, if_neg e] at h
      simp [updA, if_neg e, updA_none h]
theorem any_find {α : Type} (p : α → Bool) : ∀ l : List α, l.any p = (l.find? p).isSome
  | [] => rfl
  | x :: l => by
    rw [List.any_cons, List.find?_cons, any_find p l]
    cases p x <;> simp
theorem kvF_pos {seen : List Kp} : ∀ {ks : List Kp}, badK seen ks = false → ∀ x ∈ ks, 0 ≤ x.2
  | [], _, x, hx => by cases hx
  | k :: r, h, x, hx => by
    simp only [badK, Bool.or_eq_false_iff, decide_eq_false_iff_not] at h
    rcases List.mem_cons.1 hx with rfl | hx
    · omega
    · exact kvF_pos h.2.2 x hx
theorem kv_nonneg {ks : List Kp} (h : badK [] ks = false) (s : ByteArray) : 0 ≤ kvF ks s := by
  unfold kvF
  cases hf : ks.find? fun y => decide (y.1 = s) with
  | none => simp
  | some x => exact kvF_pos h x (List.mem_of_find?_eq_some hf)
theorem keepT : Tryd.prog.underlying 72 = some (.map 9 3) := by kernel_rfl
theorem mid_names {A B : List Fl} {x f : Fl} (hA : A.Pairwise (fun a b => bl a.name b.name)) (h : (A ++ x :: B).Pairwise fun a b => bl a.name b.name) (e : f.name = x.name) : setM f (A ++ x :: B) = A ++ f :: B := by
  unfold setM
  have h' := List.pairwise_append.1 h
  have hx := List.pairwise_cons.1 h'.2.1
  rw [List.map_append, List.map_cons, if_pos e.symm]
  congr 1
  · conv => rhs; rw [← List.map_id A]
    refine List.map_congr_left fun y hy => ?_
    rw [if_neg]; rfl
    rw [e]; exact bl_ne (h'.2.2 y hy x (List.mem_cons_self ..))
  · congr 1
    conv => rhs; rw [← List.map_id B]
    refine List.map_congr_left fun y hy => ?_
    rw [if_neg]; rfl
    rw [e]; exact Ne.symm (bl_ne (hx.1 y hy))
theorem crF_names (ks : List Kp) (l : List Fl) : (l.map (crF ks)).map (·.name) = l.map (·.name) := by rw [List.map_map]; rfl
def midM (ks : List Kp) (M : List Fl) (j : Nat) : List Fl := (M.take j).map (crF ks) ++ M.drop j
theorem midM_names (ks : List Kp) (M : List Fl) (j : Nat) : (midM ks M j).map (·.name) = M.map (·.name) := by
  unfold midM
  rw [List.map_append, crF_names, ← List.map_append, List.take_append_drop]
theorem crN_le (f : Fl) (ks : List Kp) (h : f.synced ≤ f.bytes.length) : crN ks f ≤ f.bytes.length := by unfold crN; omega

theorem crash_ok (h1t : 0 < t) (h : DK ω w t gd M) (hM : WF M) {l : Sl} {ks : List Kp} (hl : Rd w l 2 (kps ks)) (hkl : ks.length ≤ 9223372036854775807) {K : Int → World → Prop}
    (hK : ∀ ω' w', Stp (DT t) ω ω' w w' → DK ω' w' t gd (crM ks M).2 → WF (crM ks M).2 → K (crM ks M).1 w') : C.disk_Disk_Crash (some ⟨gd, 0, none⟩) l w K := by
  have hln := rdK_len hl
  have hdt0 : DT t 0 = false := dt_off (.inl h1t)
  unfold C.disk_Disk_Crash
  refine cond_f rfl <| mkV (ω := fun _ => 0) 5 fun gk ω1 w1 k1 m1 => ?_
  unfold C.disk_Disk_Crash.S17
  refine C.disk_Disk_Crash.L13_ind fun X hX => ?_
  have bad : badK [] ks = true → ∀ w', Keep w w' → K 1 w' := fun e w' k => by
    have e' : crM ks M = (1, M) := by unfold crM; rw [if_pos e]
    have := hK ω w' ((k.stp0 ω).non _) (by rw [e']; exact h.stp (k.stp0 ω) (off_non t)) (by rw [e']; exact hM)
    rwa [e'] at this
  have key : ∀ (d i : Nat) (ω2 : Tg) (w2 : World), i + d = ks.length → MV ω2 w2 5 gk ((ks.take i).map encK) → Top w ω2 w2 → badK (ks.take i) (ks.drop i) = badK [] ks → X (some ⟨gd, 0, none⟩) (some gk) l ((l.n : Nat) : Int) (i : Int) w2 := by
    intro d
    induction d with
    | succ d ih =>
      intro i ω2 w2 hi m t2 hb
      refine hX _ _ _ _ _ _ ?_
      unfold C.disk_Disk_Crash.S15
      have hx : ks[i]? = some ks[i] := List.getElem?_eq_getElem (by omega)
      rw [List.drop_eq_getElem_cons (by omega), badK] at hb
      generalize ks[i] = x at hx hb
      refine cond_d (fun _ => ?_) (fun hh => by omega)
      refine rdK_at (hl.keep t2.k) (k := i) rfl hx fun a a0 a1 => cS_at a0 <| cI_at a1 ?_
      refine new_T (ω := ω2) 7 fun g ω3 w3 k3 b3 => st_T b3 (by simp) fun ω4 w4 k4 b4 => st_TA b4 (by simp) fun ω5 w5 k5 b5 => ?_
      have m5 := ((m.stp k3 rfl).stp k4 rfl).stp k5 rfl
      have t5 := ((t2.stp k3).stp k4).stp k5
      have c0 : w5.cell? ⟨g, 0, none⟩ = some (.string x.1) := by rw [b5.cell]; rfl
      have c1 : w5.cell? (Addr.add ⟨g, 0, none⟩ 1) = some (.int .i64 x.2) := by rw [addr_add, b5.cell]; rfl
      refine cS_at c0 ?_
      have any_eq : (ks.take i).any (fun y => decide (y.1 = x.1)) = (getV x.1 ((ks.take i).map encK)).isSome := by
        rw [getV_K, Option.isSome_map, any_find]
      cases hg : getV x.1 ((ks.take i).map encK) with
      | some v =>
        rw [hg] at any_eq
        rw [any_eq] at hb
        have hv := hg
        rw [getV_K] at hv
        obtain ⟨y, _, rfl⟩ := Option.map_eq_some_iff.1 hv
        refine rd2_V (kt := 9) (et := 3) m5 keepT strT Tryd.zeroValue3 (a := y.2) (by rw [hg]; rfl) ?_
        rw [hg]
        exact cond_t rfl (bad (by rw [← hb]; rfl) w5 t5.k)
      | none =>
        rw [hg] at any_eq
        rw [any_eq] at hb
        refine rd2_V (kt := 9) (et := 3) m5 keepT strT Tryd.zeroValue3 (a := 0) (by rw [hg]; rfl) ?_
        rw [hg]
        refine cond_f rfl <| cI_at c1 ?_
        refine cond_d (fun hneg => bad (by rw [← hb, decide_eq_true hneg]; rfl) w5 t5.k) (fun hneg => ?_)
        rw [decide_eq_false hneg] at hb
        refine cS_at c0 <| cI_at c1 <| updV m5 keepT strT fun ω6 w6 k6 m6 => ?_
        rw [wI64 (by omega) (by omega), show (i : Int) + 1 = ((i + 1 : Nat) : Int) by omega]
        have et : ks.take (i + 1) = ks.take i ++ [x] := by rw [List.take_add_one, hx]; rfl
        refine ih (i + 1) ω6 w6 (by omega) ?_ (t5.stp k6) ?_
        · rw [updA_none hg] at m6
          rw [et, List.map_append]
          exact m6
        · rw [et]; simpa using hb
    | zero =>
      intro i ω2 w2 hi m t2 hb
      refine hX _ _ _ _ _ _ ?_
      unfold C.disk_Disk_Crash.S15
      refine cond_d (fun hh => by omega) (fun _ => ?_)
      rw [List.drop_of_length_le (by omega), List.take_of_length_le (by omega)] at hb
      rw [List.take_of_length_le (by omega)] at m
      have hgood : badK [] ks = false := hb.symm
      have ec : crM ks M = (0, M.map (crF ks)) := by unfold crM; rw [if_neg (by rw [hgood]; simp)]
      rw [ec] at hK
      unfold C.disk_Disk_Crash.S9
      have hD2 := h.stp (t2.k.stp0 ω) (off_non t)
      refine list_ok hD2 hM fun r w3 k3 o3 => ?_
      have kk := Keep.trans t2.k k3
      have hgk : w.heap.size ≤ gk := top_ge t2 m.tag (by decide)
      have mk : MV (ext ω w.heap.size 0) w3 0 gk (ks.map encK) := ⟨(m.stp (k3.stp0 ω2) rfl).ex, ext_new hgk⟩
      have hD3 := h.stp (kk.stp ω 0) (off_non t)
      have o0 := Own.tag (w := w) o3 t2.k.size ω 0
      have s3 := (kk.stp ω 0).non (DT t)
      have hrn : r.n = M.length := by have := o0.own.len; simp [strs] at this; omega
      generalize ext ω w.heap.size 0 = ωs at *
      refine C.disk_Disk_Crash.L5_ind fun Y hY => ?_
      have loop : ∀ (d j : Nat) (ω4 : Tg) (w4 : World), j + d = M.length → DK ω4 w4 t gd (midM ks M j) → WF (midM ks M j) → MV ω4 w4 0 gk (ks.map encK) → OT ω4 w4 0 9 1 r (strs (M.map (·.name))) → Stp (DT t) ω ω4 w w4 → Y (some ⟨gd, 0, none⟩) (some gk) r ((r.n : Nat) : Int) (j : Int) w4 := by
        intro d
        induction d with
        | zero =>
          intro j ω4 w4 hj hD hW mk o s
          refine hY _ _ _ _ _ _ ?_
          unfold C.disk_Disk_Crash.S7 C.disk_Disk_Crash.S2
          refine cond_d (fun hh => by omega) (fun _ => ?_)
          have e : midM ks M j = M.map (crF ks) := by unfold midM; rw [List.take_of_length_le (by omega), List.drop_of_length_le (by omega), List.append_nil]
          rw [e] at hD hW
          exact hK ω4 w4 s hD hW
        | succ d ih =>
          intro j ω4 w4 hj hD hW mk o s
          refine hY _ _ _ _ _ _ ?_
          unfold C.disk_Disk_Crash.S7
          have hjl : j < M.length := by omega
          have hfm : M[j] ∈ M := List.getElem_mem hjl
          have hmid : midM ks M j = (M.take j).map (crF ks) ++ M[j] :: M.drop (j + 1) := by unfold midM; rw [List.drop_eq_getElem_cons hjl]
          have hnx : (M.map (·.name))[j]? = some M[j].name := by simp [hjl]
          have hnext : midM ks M (j + 1) = (M.take j).map (crF ks) ++ crF ks M[j] :: M.drop (j + 1) := by
            unfold midM; rw [List.take_add_one, List.getElem?_eq_getElem hjl, List.map_append, List.append_assoc]; rfl
          generalize M[j] = f at hfm hmid hnx hnext
          have hsy := hM.syn f hfm
          have hcnt := hM.cnt
          have hle := hM.len f hfm
          have hcn := crN_le f ks hsy
          refine cond_d (fun _ => ?_) (fun hh => by omega)
          refine o.ix (by decide) (by omega) (by omega) fun a ha _ hc => ?_
          have c0 : w4.cell? a = some (.string f.name) := by
            have := hc 0 (.string f.name) (by decide) (by rw [Int.toNat_natCast, Nat.mul_one, Nat.add_zero]; unfold strs; rw [List.getElem?_map, hnx]; rfl)
            rwa [show a.add 0 = a by simp [Addr.add]] at this
          refine cS_at c0 ?_
          obtain ⟨gm, pl, hA, hp⟩ := hD
          have hfound : findM f.name (midM ks M j) = some f := (findM_some hW.nodup).2 ⟨by rw [hmid]; simp, rfl⟩
          obtain ⟨p, hpm, rfl, hgv⟩ := get_some hp hW.nodup hfound
          refine ptr_at <| ⟨some gm, by rw [hA.hd.cell]; rfl, ?_⟩
          refine rd1_V (kt := 9) (et := 77) hA.mp mapT strT Tryd.zeroValue77 (a := encV p) (by rw [hgv]; rfl) ?_
          refine ag_at rfl ⟨p.2, rfl, (p.1.synced : Int), rfl, ?_⟩
          have kv0 := kv_nonneg hgood p.1.name
          refine new_T (ω := fun _ => 0) 7 fun g ω5 w5 k5 b5 => st_T b5 (by simp) fun ω6 w6 k6 b6 => st_TA b6 (by simp) fun ω7 w7 k7 b7 => ?_
          have t7 := (((Top.init w4).stp k5).stp k6).stp k7
          have c1 : w7.cell? (Addr.add ⟨g, 0, none⟩ 1) = some (.int .i64 (p.1.synced : Int)) := by rw [addr_add, b7.cell]; rfl
          refine cI_at c1 ?_
          refine rd1_V (kt := 9) (et := 3) (mk.stp (t7.k.stp0 ω4) rfl) keepT strT Tryd.zeroValue3 (a := kvF ks p.1.name) (by rw [getV_K]; unfold kvF; cases ks.find? fun y => decide (y.1 = p.1.name) <;> rfl) ?_
          have hpn : p.2.n = p.1.bytes.length := RdB.len (hA.rt p hpm).rd
          refine cSl_at (s := p.2) (by rw [b7.cell]; rfl) <| cI_at c1 ?_
          have en : (IntKind.i64.wrap ((p.1.synced : Int) + (if (IntKind.i64.wrap (((p.2.n : Nat) : Int) - (p.1.synced : Int))) < kvF ks p.1.name then (IntKind.i64.wrap (((p.2.n : Nat) : Int) - (p.1.synced : Int))) else kvF ks p.1.name))) = ((crN ks p.1 : Nat) : Int) := by
            rw [wI64 (x := ((p.2.n : Nat) : Int) - (p.1.synced : Int)) (by omega) (by omega), hpn]
            unfold crN
            split
            · rw [wI64 (by omega) (by omega)]; omega
            · rw [wI64 (by omega) (by omega)]; omega
          rw [en]
          refine st_TA b7 (by simp) fun ω8 w8 k8 b8 => ?_
          have kd := drew_stp ω8 w8
          have t8 := (t7.stp k8).stp kd
          have bd := b8.stp kd
          have hA8 := hA.stp (t8.k.stp0 ω4) (off_non t)
          refine ptr_at <| ⟨some gm, by rw [hA8.hd.cell]; rfl, cSl_at (s := p.2) (by rw [bd.cell]; rfl) <| cI_at (n := ((crN ks p.1 : Nat) : Int)) (by rw [addr_add, bd.cell]; rfl) ?_⟩
          refine again_ok (n := crN ks p.1) (l := p.1.bytes) rfl (hA8.rt p hpm).rd hcn (by omega) fun q w9 k9 o9 => ⟨hA8.hd.sameT (k9.stp0 ω4), ?_⟩
          rw [Nat.min_self]
          have k49 := Keep.trans t8.k k9
          have s9 := k49.stp ω4 (t + 2)
          have hA9 := hA.stp s9 (off_non t)
          have rr := Own.rt (w := w4) o9 t8.k.size ω4 (t + 2)
          have eput : putM (crF ks p.1) (midM ks M j) = midM ks M (j + 1) := by
            unfold putM
            rw [if_neg (show ¬ findM (crF ks p.1).name (midM ks M j) = none by rw [show (crF ks p.1).name = p.1.name from rfl, hfound]; simp), hmid, hnext]
            rw [hmid] at hW
            exact mid_names (List.pairwise_append.1 hW.up).1 hW.up rfl
          have hw' : WF (putM (crF ks p.1) (midM ks M j)) := hW.put (show namF p.1.name = true from hM.nam _ hfm) (by show crN ks p.1 ≤ (p.1.bytes.take (crN ks p.1)).length; rw [List.length_take]; omega) (by show (p.1.bytes.take (crN ks p.1)).length ≤ 1048576; rw [List.length_take]; omega) (fun e => by rw [show (crF ks p.1).name = p.1.name from rfl, hfound] at e; cases e)
          refine updV hA9.mp mapT strT fun ω10 w10 k10 m10 => ?_
          have u := upd_DK (f := crF ks p.1) (sl := q) hA9 hp hw' k10 m10 rr
          rw [eput] at u hw'
          have s10 := (s9.non (DT t)).trans (dt_one (t := t) (by omega) (by omega) k10)
          rw [wI64 (by omega) (by omega), show (j : Int) + 1 = ((j + 1 : Nat) : Int) by omega]
          exact ih (j + 1) ω10 w10 (by omega) u hw' (mk.stp s10 hdt0) (o.stp s10 hdt0) (s.trans s10)
      exact loop M.length 0 ωs w3 (by omega) (by unfold midM; simpa using hD3) (by unfold midM; simpa using hM) mk o0 s3
  exact key ks.length 0 ω1 w1 (by omega) (by simpa using m1) ((Top.init w).stp k1) (by simp)
end Go.Proofs.YtdaghggdmgbpnaaDoor.Dk
