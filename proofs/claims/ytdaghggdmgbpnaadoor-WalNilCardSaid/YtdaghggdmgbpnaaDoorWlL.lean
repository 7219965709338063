/- Layer 7 (wal): WalNil, WalBack. Own work. -/
import Derived.Test.YtdaghggdmgbpnaaDoorWlK
namespace Go.Proofs.YtdaghggdmgbpnaaDoor.Wl
open Go Vm Go.RowKit Num Mem Dk Wo Vint Crc
variable {ω ω' : Tg} {w w' w0 : World} {T : Nat → Bool} {t u v gl gd room at' : Nat} {name : ByteArray} {sl : Sl} {pl : List Pc} {M : List Fl}

theorem all_none {Fc : Clee} {n g : Nat} {Ct : Nat → Bool} (hF : ∀ args K w, C.wal_Log_All_1.cl args K w → Fc n args K w) :
    TellsQ Tryd.prog Fc (.func (.func n) #[] #[.pointer (some ⟨g, 0, none⟩)]) 0 (fun _ _ _ _ => False) (fun w => w.cell? ⟨g, 0, none⟩ = some (.pointer none)) Non Ct := by
  intro L I Kk Q ω w hC hI hKI hy hK hQ h0
  refine hF _ _ _ ?_
  show C.wal_Log_All_1 (.func (.yield L) #[] #[]) (some ⟨g, 0, none⟩) w (C.wal_Log_All_1.Kt fun _ w' => Q w')
  unfold C.wal_Log_All_1
  exact ptr_at (cP_at (hC 0 ω w h0) (cond_t rfl (hQ ω w (hK ω w h0))))
theorem all_nil {m : Int} {K : Sl → World → Prop} (hK : ∀ w', Keep w w' → K nilS w') : C.tocsinlaw07_all none m w K := by
  unfold C.tocsinlaw07_all
  refine new_T (ω := fun _ => 0) 1 fun g1 ω1 w1 k1 b1 => new_T (ω := ω1) 4 fun g2 ω2 w2 k2 b2 => ?_
  unfold C.wal_Log_All
  refine new_T (ω := ω2) 1 fun g3 ω3 w3 k3 b3 => isNilF_no (cond_f rfl ?_)
  unfold C.tocsinlaw07_all.S9 C.tocsinlaw07_all.R5
  have top3 := (((Top.init w).stp k1).stp k2).stp k3
  refine rangeQ_ok (T := Duo 2 4) (u := 3) (J := fun i ω w2 => Top w ω w2 ∧ BT ω w2 1 g3 26 [.pointer none] ∧ BT ω w2 4 g2 22 [Sl.v nilS]) (E := fun e ω w => False)
    (all_none (g := g3) fun _ _ _ h => h) rfl rfl ?_ ?_ ?_ ?_ ?_ ⟨top3, b3, b2.stp k3⟩ ?_ ?_
  · rintro i a ω ω' w w' h k
    exact h
  · rintro i ω w ⟨top, b, _⟩
    rw [b.cell]; rfl
  · rintro S hS i ω ω' w w' ⟨top, x1, x2⟩ k
    have z : S 0 = false ∧ S 1 = false ∧ S 4 = false := by rcases hS with rfl | rfl <;> exact ⟨rfl, rfl, rfl⟩
    exact ⟨top.stp k z.1, x1.stp k z.2.1, x2.stp k z.2.2⟩
  · rintro S hS e ω ω' w w' h k
    exact h
  · rintro i a ω w4 Rr h
    exact h.elim
  · rintro ω' w' D hD hDu ⟨top, x1, x2⟩
    show C.tocsinlaw07_all.S2 K _ (pushMark undef D) w'
    unfold C.tocsinlaw07_all.S2
    have sp := put_stp (w := w') (o := .deferred none) hDu
    exact ptr_at (cSl_at (s := nilS) (by rw [x2.cell]; rfl) (marks_at hD (hK _ ((top.stp sp).k))))
  · rintro e ω' w' D _ _ h
    exact h.elim
theorem nil_law (htab : Tab w0) {b : Sl} {s : ByteArray} {room : Int} {K : Bool → World → Prop} (hK : ∀ w', Keep w0 w' → K true w') : C.tocsinlaw07_WalNil b s room w0 K := by
  unfold C.tocsinlaw07_WalNil C.wal_Open
  refine cond_t rfl <| cond_t rfl <| cond_t rfl <| cond_t rfl ?_
  unfold C.wal_Log_Append C.wal_Log_Sync
  refine cond_t rfl <| cond_t rfl <| cond_t rfl <| cond_t rfl ?_
  refine new_T (ω := fun _ => 0) 9 fun g1 ω1 w1 k1 b1 => ?_
  unfold C.wal_Log_Checkpoint C.wal_Log_Segments C.wal_Log_Len
  refine cond_t rfl <| cond_t rfl <| cond_t rfl <| cond_t rfl <| cond_t rfl <| cond_t rfl <| all_nil fun w2 k2 => cond_t rfl ?_
  exact known_ok (((Top.init w0).stp k1).stp (k2.stp0 ω1)) htab hK

def nmL : ByteArray := ⟨#[108, 111, 103]⟩
theorem wL : wnam nmL = true := by kernel_rfl
theorem recs_le {l : List Sgm} (h : Good l) : ∀ x ∈ recs l, x.length ≤ 65536 := fun x hx => by
  obtain ⟨y, hy, hx⟩ := List.mem_flatMap.1 hx
  exact (h.each y hy).2.2.1 x hx
theorem back_law (htab : Tab w0) {n : Int} (h1 : -9223372036854775808 ≤ n) (h2 : n ≤ 9223372036854775807) {s : Sl} {ls : List Pc} (hs : Rd w0 s 1 (pcs ls)) (hl : ls.length ≤ 1048577) (ho : ∀ x ∈ ls, RdB w0 x.2 x.1 ∧ x.1.length < 1048578) {K : Bool → World → Prop} (hK : ∀ w', Keep w0 w' → K true w') : C.tocsinlaw07_WalBack n s w0 K := by
  have hsn := rdP_len hs
  unfold C.tocsinlaw07_WalBack
  refine count_ok (m := 300) (by decide) (by decide) h1 h2 fun k hk => ?_
  rw [show (⟨#[108, 111, 103]⟩ : ByteArray) = nmL from rfl, show IntKind.i64.wrap ((16 : Int) + (k : Int)) = ((16 + k : Nat) : Int) by rw [wI64 (by omega) (by omega)]; omega]
  generalize hroom : 16 + k = room
  have hr1 : 16 ≤ room := by omega
  have hr2 : room ≤ 400 := by omega
  refine new_ok (ω := fun _ => 0) 1 fun gd ω1 w1 k1 d1 => ?_
  have top1 := (Top.init w0).stp k1
  have op1 := op_mk (l := []) (a := 1) (l0 := []) wL (Beh.nil nmL) trivial (by decide) (by decide)
  refine open_ok (t := 20) (u := 30) (a0 := 1) (l0 := []) (M := []) (by decide) (by decide) top1 htab wL hr1 (by omega) d1 wf_nil (no_ck (l := []) (a := 1)) fun gl sl pl out ps ω2 w2 k2 g2 e2 d2 hw2 o2 ep2 _ => ?_
  rw [show opM nmL [] 1 [] = _ from op1] at g2 e2 d2 hw2 ep2
  simp only [if_pos, recs, List.flatMap_nil, List.append_nil] at g2 e2 d2 hw2 ep2
  have hps : ps = [] := by simpa using ep2
  subst hps
  have hon := hds_n o2.rd
  have top2 := top1.stp k2 rfl
  refine cond_f rfl <| cond_f rfl <| cond_f (by simp [hon]) ?_
  -- behind the loop
  have fin : ∀ (segs : List Sgm) (sl : Sl) (pl : List Pc) (ws : Sl) (wl : List Pc) (ω3 : Tg) (w3 : World), Good segs → segs.length ≤ 100 → (recs segs).length ≤ 100 → Top w0 ω3 w3 → LG ω3 w3 20 gl gd nmL room (1 + (segs.length - 1)) sl pl → pl.map (·.1) = recs segs → DK ω3 w3 1 gd (mkS nmL 1 segs ++ []) → WF (mkS nmL 1 segs ++ []) →
      OT ω3 w3 70 31 1 ws (hds wl) → wl.map (·.1) = recs segs → (∀ p ∈ wl, RdB w0 p.2 p.1) → C.tocsinlaw07_WalBack.S2 K (room : Int) (some ⟨gd, 0, none⟩) (some ⟨gl, 0, none⟩) ws w3 := by
    intro segs sl pl ws wl ω3 w3 hg hsl hrl top3 g3 e3 d3 hw3 o3 ew3 hr3
    have hwh := Good.whole hg.each
    have op2 := op_mk (l := segs) (a := 1) (l0 := []) wL (Beh.nil nmL) hwh.1 (by decide) (by omega)
    rw [hwh.2, List.nil_append] at op2
    have hrec := recs_le hg
    unfold C.tocsinlaw07_WalBack.S2
    rw [show (⟨#[108, 111, 103]⟩ : ByteArray) = nmL from rfl]
    refine open_ok (t := 40) (u := 50) (a0 := 1) (l0 := []) (by decide) (by decide) top3 htab wL hr1 (by omega) d3 hw3 no_ck fun gl4 sl4 pl4 out4 ps4 ω4 w4 k4 g4 e4 d4 hw4 o4 ep4 hr4 => ?_
    rw [op2] at g4 e4 d4 hw4 ep4
    dsimp only at e4 d4 hw4 ep4
    have top4 := top3.stp k4 rfl
    have o34 := o3.stp k4 rfl
    have g34 := g3.stp k4 ⟨rfl, rfl, rfl⟩
    refine open_ok (t := 60) (u := 80) (room := 16) (a0 := 1) (l0 := []) (by decide) (by decide) top4 htab wL (by decide) (by decide) d4 hw4 no_ck fun gl5 sl5 pl5 out5 ps5 ω5 w5 k5 g5 e5 d5 hw5 o5 ep5 hr5 => ?_
    rw [op2] at ep5
    dsimp only at ep5
    have top5 := top4.stp k5 rfl
    have o35 := o34.stp k5 rfl
    have o45 := o4.stp k5 rfl
    have g35 := (g34.stp k5 ⟨rfl, rfl, rfl⟩).rw
    have g45 := g4.stp k5 ⟨rfl, rfl, rfl⟩
    have hr45 : ∀ p ∈ ps4, RdB w5 p.2 p.1 := fun p hp => ((hr4 p hp).stp k5 rfl).rd
    have hr5' : ∀ p ∈ ps5, RdB w5 p.2 p.1 := fun p hp => (hr5 p hp).rd
    have hwl : ∀ p ∈ wl, RdB w5 p.2 p.1 := fun p hp => Rd.keep (hr3 p hp) top5.k
    have len4 : ps4.length ≤ 100 := by rw [← ep4, List.length_map] at hrl; exact hrl
    have len5 : ps5.length ≤ 100 := by rw [← ep5, List.length_map] at hrl; exact hrl
    have each4 : ∀ p ∈ ps4, p.1.length ≤ 10000000 := fun p hp => by have := hrec p.1 (by rw [← ep4]; exact List.mem_map_of_mem hp); omega
    have each5 : ∀ p ∈ ps5, p.1.length ≤ 10000000 := fun p hp => by have := hrec p.1 (by rw [← ep5]; exact List.mem_map_of_mem hp); omega
    refine cond_t rfl <| cond_t rfl <| cond_t rfl <| cond_t rfl ?_
    refine sameAll_ok o45.rd o35.rd hr45 hwl (by rw [ep4, ew3]) (by omega) each4 fun w6 k6 => cond_t rfl ?_
    refine sameAll_ok (o5.rd.keep k6) (o35.rd.keep k6) (fun p hp => Rd.keep (hr5' p hp) k6) (fun p hp => Rd.keep (hwl p hp) k6) (by rw [ep5, ew3]) (by omega) each5 fun w7 k7 => cond_t rfl ?_
    have k57 := Keep.trans k6 k7
    have lenp : pl.length ≤ 100 := by rw [← e3, List.length_map] at hrl; exact hrl
    refine all_ok (g35.keep k57) (fun p hp => by have := hrec p.1 (by rw [← e3]; exact List.mem_map_of_mem hp); omega) (by omega) fun out8 ps8 w8 k8 o8 e8 hr8 => ?_
    have k58 := Keep.trans k57 k8
    have len8 : ps8.length ≤ 100 := by have := congrArg List.length e8; simp only [List.length_map] at this; omega
    refine sameAll_ok o8 (o35.rd.keep k58) hr8 (fun p hp => Rd.keep (hwl p hp) k58) (by rw [e8, e3, ew3]) (by omega) (fun p hp => by have := hrec p.1 (by rw [← e3, ← e8]; exact List.mem_map_of_mem hp); omega) fun w9 k9 => cond_t rfl ?_
    have k59 := Keep.trans k58 k9
    refine len_ok (g45.stp (k59.stp0 ω5) (off_non 40)) ?_
    have ewn := hds_n o35.rd
    have e1 := congrArg List.length e4
    have e2 := congrArg List.length ew3
    simp only [List.length_map] at e1 e2
    exact cond_t (by simp; omega) (known_ok (top5.stp (k59.stp0 ω5)) htab hK)
  unfold C.tocsinlaw07_WalBack.S9
  refine C.tocsinlaw07_WalBack.L5_ind fun X hX => ?_
  have key : ∀ (d i : Nat) (segs : List Sgm) (sl : Sl) (pl : List Pc) (ws : Sl) (wl : List Pc) (ω3 : Tg) (w3 : World), i + d = ls.length → i ≤ 100 → Good segs → segs.length ≤ i → (recs segs).length ≤ i → Top w0 ω3 w3 → LG ω3 w3 20 gl gd nmL room (1 + (segs.length - 1)) sl pl → pl.map (·.1) = recs segs → DK ω3 w3 1 gd (mkS nmL 1 segs ++ []) → WF (mkS nmL 1 segs ++ []) →
      OT ω3 w3 70 31 1 ws (hds wl) → wl.map (·.1) = recs segs → (∀ p ∈ wl, RdB w0 p.2 p.1) → X (room : Int) s (some ⟨gd, 0, none⟩) (some ⟨gl, 0, none⟩) ws (i : Int) w3 := by
    intro d
    induction d with
    | zero =>
      intro i segs sl pl ws wl ω3 w3 hi hi1 hg hsl hrl top3 g3 e3 d3 hw3 o3 ew3 hr3
      refine hX _ _ _ _ _ _ _ ?_
      unfold C.tocsinlaw07_WalBack.S7
      exact cond_d (fun hh => by omega) (fun _ => fin segs sl pl ws wl ω3 w3 hg (by omega) (by omega) top3 g3 e3 d3 hw3 o3 ew3 hr3)
    | succ d ih =>
      intro i segs sl pl ws wl ω3 w3 hi hi1 hg hsl hrl top3 g3 e3 d3 hw3 o3 ew3 hr3
      refine hX _ _ _ _ _ _ _ ?_
      unfold C.tocsinlaw07_WalBack.S7
      obtain ⟨x, hx⟩ : ∃ x, ls[i]? = some x := ⟨_, List.getElem?_eq_getElem (by omega)⟩
      obtain ⟨hxr, hxl⟩ := ho x (List.mem_of_getElem? hx)
      refine cond_d (fun _ => cond_d (fun hlt => ?_) fun _ => fin segs sl pl ws wl ω3 w3 hg (by omega) (by omega) top3 g3 e3 d3 hw3 o3 ew3 hr3) (fun hh => by omega)
      have hlp : pl.length ≤ 100 := by rw [← e3, List.length_map] at hrl; omega
      have nx : IntKind.i64.wrap ((i : Int) + 1) = ((i + 1 : Nat) : Int) := by rw [wI64 (by omega) (by omega)]; omega
      rw [nx]
      refine rdP_at (hs.keep top3.k) hx fun a a0 => cSl_at (s := x.2) a0 ?_
      refine append_ok (t := 20) (v := 0) (r := x.1) (by decide) top3 htab g3 (by decide) d3 hw3 (by omega) (by omega) (Wo.Top.rt top3 hxr) rfl (by omega) (by omega) fun ω4 w4 sl4 pl4 k4 g4 e4 d4 hw4 => ?_
      have top4 := top3.stp k4 rfl
      have o4 := o3.stp k4 rfl
      rcases Nat.lt_or_ge 65536 x.1.length with hbig | hsm
      · have ea : appL nmL room (1 + (segs.length - 1)) (mkS nmL 1 segs ++ []) x.1 = (4, 1 + (segs.length - 1), mkS nmL 1 segs ++ []) := by unfold appL; rw [if_pos hbig]
        rw [ea] at g4 e4 d4 hw4 ⊢
        have hn4 := hxr.len
        refine cond_f rfl <| rdP_at (hs.keep top4.k) hx fun a a0 => cSl_at (s := x.2) a0 <| cond_d (fun hh => by omega) fun _ => ?_
        refine ih (i + 1) segs sl4 pl4 ws wl ω4 w4 (by omega) (by omega) hg (by omega) (by omega) top4 g4 ?_ d4 hw4 o4 ew3 hr3
        rw [e4, e3]; unfold recL; rw [if_neg (by simp)]
      · obtain ⟨segs', ea, hg', hrec', hlen', _⟩ := app_mk (room := room) (a := 1) (r := x.1) wL (Beh.nil nmL) hg hsm (by omega) (by simp; omega) (by omega)
        rw [ea] at g4 e4 d4 hw4 ⊢
        have hwn := hds_n o4.rd
        have hwl2 : wl.length ≤ 100 := by rw [← ew3, List.length_map] at hrl; omega
        refine cond_t rfl <| rdP_at (hs.keep top4.k) hx fun a a0 => cSl_at (s := x.2) a0 ?_
        refine push_T (n := 1) tiBB o4 rfl (by intro v hv; simp at hv; subst hv; rfl) (by simp only [maxLen]; omega) (by omega) fun r5 ω5 w5 k5 o5 hr5 => ?_
        refine ih (i + 1) segs' sl4 pl4 r5 (wl ++ [x]) ω5 w5 (by omega) (by omega) hg' (by omega) (by rw [hrec', List.length_append, List.length_singleton]; omega) (top4.stp k5 rfl) (g4.stp k5 ⟨rfl, rfl, rfl⟩) ?_ (d4.stp k5 ⟨rfl, rfl, rfl⟩) hw4 ?_ ?_ fun p hp => ?_
        · rw [e4, e3, hrec']; unfold recL; rw [if_pos rfl]
        · have e5 : hds (wl ++ [x]) = hds wl ++ [x.2.v] := by simp [hds]
          rw [e5]; exact o5
        · rw [List.map_append, ew3, hrec']; rfl
        · rcases List.mem_append.1 hp with hp | hp
          · exact hr3 p hp
          · rw [List.mem_singleton.1 hp]; exact hxr
  exact key ls.length 0 [] sl pl nilS [] ω2 w2 (by omega) (by omega) Good.nil (by simp) (by simp [recs]) top2 g2 e2 d2 hw2 (OT.nil ..) (by simp [recs]) (by simp)
end Go.Proofs.YtdaghggdmgbpnaaDoor.Wl
