/- Layer 7 (wal): lists of records compared; fixed calls. Own work. -/
import Derived.Test.YtdaghggdmgbpnaaDoorWlQ
namespace Go.Proofs.YtdaghggdmgbpnaaDoor.Wl
open Go Vm Go.RowKit Num Mem Dk Wo Vint Crc
variable {ω ω' : Tg} {w w' w0 : World} {T : Nat → Bool} {t u v gl gd room at' : Nat} {name : ByteArray} {sl : Sl} {pl : List Pc} {M : List Fl}

theorem hds_at {s : Sl} {ps : List Pc} (h : Rd w s 1 (hds ps)) {k : Nat} {p : Pc} (hx : ps[k]? = some p) {K : Addr → Prop} (hK : ∀ a : Addr, w.cell? a = some p.2.v → K a) : G.ix s.a s.n (k : Int) 1 K := by
  have hk : k < ps.length := (List.getElem?_eq_some_iff.1 hx).1
  have hn : s.n = ps.length := by have := h.2.1; simp [hds] at this; omega
  refine Rd.ix h (by decide) (by omega) (by omega) fun a hc => ?_
  have c0 := hc 0 p.2.v (by decide) (by rw [Int.toNat_natCast, Nat.mul_one, Nat.add_zero, hds, List.getElem?_map, hx]; rfl)
  rw [add_zero'] at c0
  exact hK a c0
theorem hds_n {s : Sl} {ps : List Pc} (h : Rd w s 1 (hds ps)) : s.n = ps.length := by have := h.2.1; simp [hds] at this; omega
/-- Lists that read alike. -/
theorem sameAll_ok {a b : Sl} {ps qs : List Pc} (ha : Rd w a 1 (hds ps)) (hb : Rd w b 1 (hds qs)) (hpa : ∀ p ∈ ps, RdB w p.2 p.1) (hqb : ∀ p ∈ qs, RdB w p.2 p.1) (e : ps.map (·.1) = qs.map (·.1)) (hl : ps.length ≤ 2000000000) (hx : ∀ p ∈ ps, p.1.length ≤ 10000000) {K : Bool → World → Prop} (hK : ∀ w', Keep w w' → K true w') : C.tocsinref01_SameAll a b w K := by
  have hna := hds_n ha
  have hnb := hds_n hb
  have hlen := congrArg List.length e
  simp only [List.length_map] at hlen
  unfold C.tocsinref01_SameAll C.tocsinref01_SameAll.S9
  refine cond_f (by simp; omega) ?_
  refine C.tocsinref01_SameAll.L5_ind fun X hX => ?_
  have key : ∀ (d i : Nat) (w2 : World), i + d = ps.length → Keep w w2 → X a b (i : Int) w2 := by
    intro d
    induction d with
    | zero =>
      intro i w2 hi k
      refine hX _ _ _ _ ?_
      unfold C.tocsinref01_SameAll.S7 C.tocsinref01_SameAll.S2
      exact cond_d (fun hh => by omega) (fun _ => hK w2 k)
    | succ d ih =>
      intro i w2 hi k
      refine hX _ _ _ _ ?_
      unfold C.tocsinref01_SameAll.S7
      obtain ⟨p, hp⟩ : ∃ p, ps[i]? = some p := ⟨_, List.getElem?_eq_getElem (by omega)⟩
      obtain ⟨q, hq⟩ : ∃ q, qs[i]? = some q := ⟨_, List.getElem?_eq_getElem (by omega)⟩
      have hpq : p.1 = q.1 := by
        have h1 : (ps.map (·.1))[i]? = some p.1 := by rw [List.getElem?_map, hp]; rfl
        rw [e, List.getElem?_map, hq] at h1
        exact (Option.some.inj h1).symm
      have kd := Keep.trans k (Keep.drew w2)
      have hxp := hx p (List.mem_of_getElem? hp)
      refine cond_d (fun _ => ?_) (fun hh => by omega)
      refine hds_at (ha.keep k) hp fun a1 c1 => cSl_at (s := p.2) ((Keep.drew w2).cell c1) <| hds_at (hb.keep k) hq fun a2 c2 => cSl_at (s := q.2) ((Keep.drew w2).cell c2) ?_
      refine same_ok (Rd.keep (hpa p (List.mem_of_getElem? hp)) kd) (Rd.keep (hqb q (List.mem_of_getElem? hq)) kd) (by omega) fun w3 k3 => ?_
      rw [decide_eq_true hpq]
      refine cond_f rfl ?_
      rw [wI64 (by omega) (by omega), show (i : Int) + 1 = ((i + 1 : Nat) : Int) by omega]
      exact ih (i + 1) w3 (by omega) (Keep.trans kd k3)
  exact key ps.length 0 w (by omega) (Keep.refl w)

def nmW : ByteArray := ⟨#[119]⟩
theorem wW : wnam nmW = true := by kernel_rfl
theorem frame1 (c : UInt8) : (frameOf [c]).length = 6 := by
  have h1 : putU [c].length = [UInt8.ofNat 1] := putU_lt (by simp)
  unfold frameOf
  rw [h1]
  rfl
theorem seg2 : (⟨#[119, 46, 48, 48, 48, 48, 48, 48, 48, 50]⟩ : ByteArray) = segN nmW 2 := by kernel_rfl
theorem known_ok (top : Top w0 ω w) (htab : Tab w0) {K : Bool → World → Prop} (hK : ∀ w', Keep w0 w' → K true w') : C.tocsinlaw07_known w K := by
  have a97 : (frameOf ([97] : Rec)).length = 6 := frame1 97
  have a98 : (frameOf ([98] : Rec)).length = 6 := frame1 98
  have f97 : (flat [([97] : Rec)]).length = 6 := by rw [flat_one]; exact a97
  have f9797 : (flat [([97] : Rec), [97]]).length = 12 := by rw [show [([97] : Rec), [97]] = [[97]] ++ [[97]] from rfl, flat_snoc, List.length_append, f97, a97]
  unfold C.tocsinlaw07_known
  rw [show (⟨#[119]⟩ : ByteArray) = nmW from rfl]
  refine new_ok (ω := ω) 1 fun gd ω1 w1 k1 d1 => ?_
  have top1 := top.stp k1
  have op1 := op_mk (l := []) (a := 1) (l0 := []) wW (Beh.nil nmW) trivial (by decide) (by decide)
  refine open_ok (t := 20) (u := 30) (room := 16) (a0 := 1) (l0 := []) (M := []) (by decide) (by decide) top1 htab wW (by decide) (by decide) d1 wf_nil (no_ck (l := []) (a := 1)) fun gl sl pl out ps ω2 w2 k2 g2 e2 d2 hw2 o2 ep2 _ => ?_
  rw [show opM nmW [] 1 [] = _ from op1] at g2 e2 d2 hw2 ep2
  simp only [if_pos, recs, List.flatMap_nil, List.append_nil] at g2 e2 d2 hw2 ep2
  have hpl : pl = [] := by simpa using e2
  have hps : ps = [] := by simpa using ep2
  subst hpl hps
  have hon := hds_n o2.rd
  have top2 := top1.stp k2 rfl
  refine cond_f rfl <| cond_f rfl <| cond_f (by simp [hon]) ?_
  -- a
  refine lit_T (ω := ω2) 60 rfl fun g3 ω3 w3 k3 b3 => ?_
  have top3 := top2.stp k3
  have ap1 : appL nmW 16 1 (mkS nmW 1 [] ++ []) [97] = (0, 1, mkS nmW 1 [([[97]], [], 0)] ++ []) := app_first (room := 16) wW (Beh.nil nmW) (a := 1) (r := [97]) (by decide) (by decide) (by decide)
  refine append_ok (t := 20) (v := 60) (r := [97]) (by decide) top3 htab (g2.stp k3 (off_non 20)) (by decide) (d2.stp k3 (off_non 1)) hw2 (by decide) (by decide) (b3.rt rfl) rfl (by decide) (by simp) fun ω4 w4 sl4 pl4 k4 g4 e4 d4 hw4 => ?_
  rw [show appL nmW 16 1 (mkS nmW 1 (trim [])) [97] = _ from ap1] at g4 e4 d4 hw4
  dsimp only at g4 e4 d4 hw4
  have l4 : pl4.length = 1 := by have := congrArg List.length e4; simpa [recL] using this
  have top4 := top3.stp k4 rfl
  -- a
  refine lit_T (ω := ω4) 60 rfl fun g5 ω5 w5 k5 b5 => ?_
  have top5 := top4.stp k5
  have ap2 : appL nmW 16 1 (mkS nmW 1 [([[97]], [], 0)] ++ []) [97] = (0, 1, mkS nmW 1 [([[97], [97]], [], 0)] ++ []) := app_more (room := 16) (pre := []) (x := [[97]]) (sy := 0) wW (Beh.nil nmW) (a := 1) (r := [97]) (by decide) (by decide) (by rw [f97, a97]; decide) (by decide)
  have hl4 : pl4.length ≤ 2000000000 := by omega
  refine append_ok (t := 20) (v := 60) (r := [97]) (by decide) top5 htab (g4.stp k5 (off_non 20)) (by decide) (d4.stp k5 (off_non 1)) hw4 (by decide) (by decide) (b5.rt rfl) rfl (by decide) hl4 fun ω6 w6 sl6 pl6 k6 g6 e6 d6 hw6 => ?_
  rw [show appL nmW 16 1 (mkS nmW 1 [([[97]], [], 0)] ++ []) [97] = _ from ap2] at g6 e6 d6 hw6
  dsimp only at g6 e6 d6 hw6
  have l6 : pl6.length = 2 := by have := congrArg List.length e6; simpa [recL, l4] using this
  have top6 := top5.stp k6 rfl
  -- b
  refine lit_T (ω := ω6) 60 rfl fun g7 ω7 w7 k7 b7 => ?_
  have top7 := top6.stp k7
  have ap3 : appL nmW 16 1 (mkS nmW 1 [([[97], [97]], [], 0)] ++ []) [98] = (0, 2, mkS nmW 1 [([[97], [97]], [], (flat [[97], [97]]).length), ([[98]], [], 0)] ++ []) := app_roll (room := 16) (pre := []) (x := [[97], [97]]) (sy := 0) wW (Beh.nil nmW) (a := 1) (r := [98]) (by decide) (by decide) (by simp) (by rw [f9797, a98]; decide) (by decide)
  have hl6 : pl6.length ≤ 2000000000 := by omega
  refine append_ok (t := 20) (v := 60) (r := [98]) (by decide) top7 htab (g6.stp k7 (off_non 20)) (by decide) (d6.stp k7 (off_non 1)) hw6 (by decide) (by decide) (b7.rt rfl) rfl (by decide) hl6 fun ω8 w8 sl8 pl8 k8 g8 e8 d8 hw8 => ?_
  rw [show appL nmW 16 1 (mkS nmW 1 [([[97], [97]], [], 0)] ++ []) [98] = _ from ap3] at d8 hw8
  dsimp only at d8 hw8
  have top8 := top7.stp k8 rfl
  -- the crash
  rw [seg2]
  refine new_T (ω := ω8) 60 fun g9 ω9 w9 k9 b9 => ?_
  have hk9 : Rd w9 ⟨some ⟨g9, 0, none⟩, 1, 1⟩ 2 (kps [(segN nmW 2, 3)]) := Rd.blk (o := 0) (n := 1) (c := 1) (sz := 2) b9.blk (Nat.le_refl _) (by simp)
  refine crash_ok (by decide) (d8.stp k9 (off_non 1)) hw8 hk9 (by decide) fun ω10 w10 k10 d10 hw10 => ?_
  have top10 := (top8.stp k9).stp k10 rfl
  have ecr : (crM [(segN nmW 2, 3)] (mkS nmW 1 [([[97], [97]], [], (flat [[97], [97]]).length), ([[98]], [], 0)] ++ [])).2 = mkS nmW 1 [([[97], [97]], [], 12), ([], (frameOf [98]).take 3, 3)] ++ [] := by
    have hbad : badK [] [(segN nmW 2, 3)] = false := by rfl
    unfold crM
    rw [if_neg (by rw [hbad]; decide)]
    have n1 : kvF [(segN nmW 2, 3)] (segN nmW 1) = 0 := by
      unfold kvF
      rw [List.find?_cons_of_neg (by simpa using fun e => absurd (seg_inj (by decide) (by decide) e) (by decide))]
      rfl
    have n2 : kvF [(segN nmW 2, 3)] (segN nmW 2) = 3 := by
      unfold kvF
      rw [List.find?_cons_of_pos (by simp)]
      rfl
    have c1 : crF [(segN nmW 2, 3)] (fileS nmW 1 ([[97], [97]], [], 12)) = fileS nmW 1 ([[97], [97]], [], 12) := by
      unfold crF crN
      simp only [fileS, n1, List.append_nil, f9797]
      rw [List.take_of_length_le (by rw [f9797]; decide)]
      rfl
    have c2 : crF [(segN nmW 2, 3)] (fileS nmW 2 ([[98]], [], 0)) = fileS nmW 2 ([], (frameOf [98]).take 3, 3) := by
      unfold crF crN
      simp only [fileS, n2, List.append_nil, flat_one, a98]
      rfl
    rw [f9797]
    show ([fileS nmW 1 ([[97], [97]], [], 12), fileS nmW 2 ([[98]], [], 0)] ++ []).map (crF [(segN nmW 2, 3)]) = [fileS nmW 1 ([[97], [97]], [], 12), fileS nmW 2 ([], (frameOf [98]).take 3, 3)] ++ []
    rw [List.append_nil, List.map_cons, List.map_cons, List.map_nil, c1, c2, List.append_nil]
  rw [ecr] at d10 hw10
  have hwh : Whole [(([[97], [97]], [], 12) : Sgm), ([], (frameOf [98]).take 3, 3)] := ⟨by intro m hm; simp at hm; subst hm; decide, rfl, by simp, .inr ⟨[98], 3, rfl, by rw [a98]; decide, by decide⟩⟩
  have op2 := op_mk (l := [(([[97], [97]], [], 12) : Sgm), ([], (frameOf [98]).take 3, 3)]) (a := 1) (l0 := []) wW (Beh.nil nmW) hwh (by decide) (by decide)
  refine open_ok (t := 40) (u := 50) (room := 16) (a0 := 1) (l0 := []) (by decide) (by decide) top10 htab wW (by decide) (by decide) d10 hw10 no_ck fun gl2 sl2 pl2 out2 ps2 ω11 w11 k11 g11 e11 d11 hw11 o11 ep11 hr11 => ?_
  rw [op2] at ep11
  have hpsr : ps2.map (·.1) = [[97], [97]] := by rw [ep11]; rfl
  have hlen : ps2.length = 2 := by have := congrArg List.length hpsr; simpa using this
  have hon2 := hds_n o11.rd
  have top11 := top10.stp k11 rfl
  obtain ⟨p, hp⟩ : ∃ p, ps2[1]? = some p := ⟨_, List.getElem?_eq_getElem (by omega)⟩
  have hp1 : p.1 = [97] := by
    have h1 : (ps2.map (·.1))[1]? = some p.1 := by rw [List.getElem?_map, hp]; rfl
    rw [hpsr] at h1
    exact (Option.some.inj h1).symm
  refine cond_t rfl <| cond_t (by rw [hon2, hlen]; rfl) ?_
  refine hds_at (k := 1) o11.rd hp fun a c => cSl_at (s := p.2) c ?_
  have hrd : RdB w11 p.2 p.1 := (hr11 p (List.mem_of_getElem? hp)).rd
  rw [hp1] at hrd
  refine Utf.convBS hrd ?_
  have e : ((Utf.str [97]).toList == (⟨#[97]⟩ : ByteArray).toList) = true := by rw [ba_dec]; exact decide_eq_true rfl
  rw [e]
  exact hK w11 top11.k
end Go.Proofs.YtdaghggdmgbpnaaDoor.Wl
