/- Layer 3: DiskNil, DiskPlays. Own work. -/
import Derived.Test.YtlfpbnfdeanaeaaDkO
namespace Go.Proofs.Ytlfpbnfdeanaeaa.Dk
open Go Vm Go.RowKit Num Mem Wo Rep
variable {ω ω' : Tg} {w w' w0 : World} {t gd gr : Nat} {T : Nat → Bool} {M : List Fl}

theorem nilfind_ok {s : ByteArray} {K : Sl → Int → Int → World → Prop} (hK : ∀ w', Keep w w' → K nilS 0 2 w') : C.disk_Disk_find none s w K := by
  unfold C.disk_Disk_find
  refine new_T (ω := fun _ => 0) 7 fun g ω1 w1 k1 b1 => cond_t rfl <| st_T b1 (by simp) fun ω2 w2 k2 b2 => st_TA b2 (by simp) fun ω3 w3 k3 b3 => ?_
  exact cSl_at (s := nilS) (by rw [b3.cell]; rfl) <| cI_at (n := 0) (by rw [addr_add, b3.cell]; rfl) (hK w3 ((((Top.init w).stp k1).stp k2).stp k3).k)
theorem nil_law {s : ByteArray} {b : Sl} {n : Int} {K : Bool → World → Prop} (hK : ∀ w', Keep w w' → K true w') : C.tocsinlaw03_DiskNil s b n w K := by
  unfold C.tocsinlaw03_DiskNil C.disk_Disk_Read
  refine nilfind_ok fun w1 k1 => loc_ok k1 fun w2 g _ k2 c0 c1 => cond_t rfl ?_
  unfold C.disk_Disk_Size
  refine nilfind_ok fun w3 k3 => loc_ok (Keep.trans k2 k3) fun w4 g _ k4 c0 c1 => cSl_at (s := nilS) c0 <| cI_at (n := 0) c1 ?_
  have k4 := Keep.trans k4 (Keep.drew w4)
  unfold C.disk_Disk_Append
  refine nilfind_ok fun w5 k5 => loc_ok (Keep.trans k4 k5) fun w6 g _ k6 c0 c1 => cond_f rfl <| cond_t rfl <| cond_t rfl <| cond_t rfl ?_
  unfold C.disk_Disk_Sync
  refine nilfind_ok fun w7 k7 => loc_ok (Keep.trans k6 k7) fun w8 g _ k8 c0 c1 => cond_f rfl <| cond_t rfl ?_
  unfold C.disk_Disk_Cut
  refine nilfind_ok fun w9 k9 => loc_ok (Keep.trans k8 k9) fun w10 g _ k10 c0 c1 => cond_t rfl <| cond_t rfl ?_
  unfold C.disk_Disk_Rename
  refine cond_t rfl <| cond_t rfl ?_
  unfold C.disk_Disk_Remove
  refine nilfind_ok fun w11 k11 => loc_ok (Keep.trans k10 k11) fun w12 g _ k12 c0 c1 => cond_f rfl <| cond_t rfl ?_
  unfold C.disk_Disk_Crash
  refine cond_t rfl <| cond_t rfl <| cond_t rfl <| cond_t rfl <| cond_t rfl <| cond_t rfl <| cond_t rfl ?_
  unfold C.disk_Disk_Copy
  refine cond_t rfl <| cond_t rfl ?_
  unfold C.disk_Disk_List
  refine cond_t rfl <| cond_t rfl ?_
  exact known_ok ((Top.init w).stp (k12.stp0 _)) hK

theorem off7 : Off 7 T14 := ⟨rfl, rfl, rfl⟩
theorem off10 : Off 10 T14 := ⟨rfl, rfl, rfl⟩
theorem ST.keep (h : ST w0 ω w gd gr M) (k : Keep w w') : ST w0 ω w' gd gr M := ⟨h.top.stp (k.stp0 ω), h.d.stp (k.stp0 ω) (off_non 1), h.r.stp (k.stp0 ω) (off_non 4), h.wf⟩
theorem ST.non (h : ST w0 ω w gd gr M) (k : Stp Non ω ω' w w') : ST w0 ω' w' gd gr M := ⟨h.top.stp k, h.d.stp k (off_non 1), h.r.stp k (off_non 4), h.wf⟩

theorem plays_law {s : Sl} {l : List Ops} {cut : Int} (hs : Rd w0 s 6 (ops l)) (hl : l.length ≤ 10000000) (ho : ∀ x ∈ l, OpI w0 x.1 x.2.1 x.2.2) {K : Bool → World → Prop} (hK : ∀ w', Keep w0 w' → K true w') : C.tocsinlaw03_DiskPlays s cut w0 K := by
  have hn := rdO_len hs
  unfold C.tocsinlaw03_DiskPlays
  refine new_ok (ω := fun _ => 0) 1 fun gd ω1 w1 k1 d1 => cond_f rfl <| new_T (ω := ω1) 4 fun gr ω2 w2 k2 b2 => new_T (ω := ω2) 10 fun gw ω3 w3 k3 b3 => ?_
  unfold C.tocsinlaw03_DiskPlays.S9
  refine C.tocsinlaw03_DiskPlays.L5_ind fun X hX => ?_
  -- behind the script
  have fin : ∀ (M : List Fl) (ω4 : Tg) (w4 : World), ST w0 ω4 w4 gd gr M → C.tocsinlaw03_alike (some ⟨gd, 0, none⟩) (some ⟨gr, 0, none⟩) w4 fun b24 w25 => G.cond b24 (C.tocsinlaw03_known w25 fun b26 w27 => K b26 w27) (K false w25) := fun M ω4 w4 h =>
    alike_ok h.d h.r h.wf fun w5 k5 => cond_t rfl (known_ok (h.top.stp (k5.stp0 ω4)) hK)
  have key : ∀ (d i : Nat) (M : List Fl) (c wa : Option Addr) (ω4 : Tg) (w4 : World), i + d = l.length → ST w0 ω4 w4 gd gr M →
      (0 ≤ cut → cut < i → ∃ gc gw M2, c = some ⟨gc, 0, none⟩ ∧ wa = some ⟨gw, 0, none⟩ ∧ DK ω4 w4 7 gc M2 ∧ RD ω4 w4 10 gw M2 ∧ WF M2) → X s cut (some ⟨gd, 0, none⟩) (some ⟨gr, 0, none⟩) c wa (i : Int) w4 := by
    intro d
    induction d with
    | zero =>
      intro i M c wa ω4 w4 hi h hc
      refine hX _ _ _ _ _ _ _ _ ?_
      unfold C.tocsinlaw03_DiskPlays.S7 C.tocsinlaw03_DiskPlays.S2
      refine cond_d (fun hh => by omega) (fun _ => ?_)
      refine cond_d (fun h0 => ?_) (fun _ => fin M ω4 w4 h)
      refine cond_d (fun h1 => ?_) (fun _ => fin M ω4 w4 h)
      obtain ⟨gc, gw, M2, rfl, rfl, dc, rw_, hw2⟩ := hc h0 (by omega)
      refine cond_f rfl <| alike_ok dc rw_ hw2 fun w5 k5 => cond_f rfl ?_
      refine litB (n := 1) (l := [120]) rfl rfl fun r6 w6 k6 b6 => ?_
      have k56 := Keep.trans k5 k6
      refine append_ok (s := (⟨#[111, 116, 104, 101, 114]⟩ : ByteArray)) (dc.stp (k56.stp0 ω4) (off_non 7)) hw2 (by show 5 ≤ _; decide) b6 (by decide) fun ω7 w7 k7 _ _ => ?_
      have h6 := h.keep k56
      exact fin M ω7 w7 ⟨h6.top.stp k7 rfl, h6.d.stp k7 ⟨rfl, rfl, rfl⟩, h6.r.stp k7 ⟨rfl, rfl, rfl⟩, h6.wf⟩
    | succ d ih =>
      intro i M c wa ω4 w4 hi h hc
      refine hX _ _ _ _ _ _ _ _ ?_
      unfold C.tocsinlaw03_DiskPlays.S7
      obtain ⟨x, hx⟩ : ∃ x, l[i]? = some x := ⟨_, List.getElem?_eq_getElem (by omega)⟩
      refine cond_d (fun _ => ?_) (fun hh => by omega)
      have go : ∀ (c' wa' : Option Addr) (ω5 : Tg) (w5 : World), ST w0 ω5 w5 gd gr M → (0 ≤ cut → cut < ((i + 1 : Nat) : Int) → ∃ gc gw M2, c' = some ⟨gc, 0, none⟩ ∧ wa' = some ⟨gw, 0, none⟩ ∧ DK ω5 w5 7 gc M2 ∧ RD ω5 w5 10 gw M2 ∧ WF M2) →
          G.ix s.a s.n (i : Int) 6 fun p57 => G.cI .i64 p57 w5 fun n58 => G.cS (p57.add 1) w5 fun s59 => G.cS (p57.add 2) w5 fun s60 => G.cSl (p57.add 3) w5 fun l61 => G.cI .i64 (p57.add 4) w5 fun n62 => G.cSl (p57.add 5) w5 fun l63 => C.tocsinlaw03_step (some ⟨gd, 0, none⟩) (some ⟨gr, 0, none⟩) n58 s59 s60 l61 n62 l63 w5 fun b64 w65 => G.cond (!b64) (K false w65) (C.disk_Disk_List (some ⟨gd, 0, none⟩) w65 fun l66 w67 => C.tocsinref03_Disk_List (some ⟨gr, 0, none⟩) w67 fun l68 w69 => C.tocsinref01_Texts l66 l68 w69 fun b70 w71 => G.cond (!b70) (K false w71) (X s cut (some ⟨gd, 0, none⟩) (some ⟨gr, 0, none⟩) c' wa' (IntKind.i64.wrap ((i : Int) + (1 : Int))) w71)) := by
        intro c' wa' ω5 w5 h5 hc5
        refine rdO_at (hs.keep h5.top.k) (k := i) rfl hx fun a a0 a1 a2 a3 a4 a5 => cI_at a0 <| cS_at a1 <| cS_at a2 <| cSl_at (s := x.2.1) a3 <| cI_at a4 <| cSl_at (s := x.2.2) a5 ?_
        refine step_ok h5 (ho x (List.mem_of_getElem? hx)) fun ω6 w6 k6 h6 => cond_f rfl ?_
        have hcnt := h6.wf.cnt
        refine list_ok h6.d h6.wf fun l1 w7 k7 o7 => rlist_ok (h6.r.stp (k7.stp0 ω6) (off_non 4)) h6.wf fun l2 w8 k8 o8 => ?_
        refine texts_ok (l := (stepM x.1 M).map (·.name)) (m := (stepM x.1 M).map (·.name)) (Own.rd (o7.keep k8)) (Own.rd o8) (by simp; omega) fun w9 k9 => ?_
        rw [decide_eq_true rfl]
        refine cond_f rfl ?_
        rw [wI64 (by omega) (by omega), show (i : Int) + 1 = ((i + 1 : Nat) : Int) by omega]
        have k69 := Keep.trans k7 (Keep.trans k8 k9)
        refine ih (i + 1) _ c' wa' ω6 w9 (by omega) (h6.keep k69) fun q0 q1 => ?_
        obtain ⟨gc, gw, M2, e1, e2, dc, rc, hw2⟩ := hc5 q0 q1
        exact ⟨gc, gw, M2, e1, e2, (dc.stp k6 off7).stp (k69.stp0 ω6) (off_non 7), (rc.stp k6 off10).stp (k69.stp0 ω6) (off_non 10), hw2⟩
      refine cond_eq (fun hcut => ?_) (fun hcut => ?_)
      · refine copy_ok 7 h.d h.wf fun gc ω5 w5 k5 dc => rcopy_ok 10 (h.r.stp k5 (off_non 4)) h.wf fun gw' ω6 w6 k6 rw_ => ?_
        exact go _ _ ω6 w6 ((h.non k5).non k6) fun _ _ => ⟨gc, gw', M, rfl, rfl, dc.stp k6 (off_non 7), rw_, h.wf⟩
      · exact go c wa ω4 w4 h fun q0 q1 => hc q0 (by omega)
  exact key l.length 0 [] none (some ⟨gw, 0, none⟩) ω3 w3 (by omega) ⟨(((Top.init w0).stp k1).stp k2).stp k3, (d1.stp k2 (off_non 1)).stp k3 (off_non 1), ⟨nilS, [], ⟨b2.stp k3, OT.nil .., by simp⟩, rfl⟩, wf_nil⟩ fun q0 q1 => by omega
end Go.Proofs.Ytlfpbnfdeanaeaa.Dk
