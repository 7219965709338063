/- (several texts in one: RuU, Rtg, RuB, RuC, RuD, RuE, RuF, RuH, RuI, RuJ, RuL, RuM, Rep, RepR, UtfWB, RuN, RuO, RuX, RuY, RuZ, RnA, RnB, RsD, RnC) Own work. -/
import Derived.LaidHandle
import Derived.LaidLaws
import Derived.Stop.LaidErr
import Derived.Test.YtechilkjfhpkpaaGreatDoorPN3
namespace Go.Proofs.YtechilkjfhpkpaaGreatDoor.Ru
open Go Vm Go.RowKit Num Mem Utf Lib Lab
variable {ω ω' ωb : Tg} {w w' w0 wb : World} {t u gs gm : Nat} {T : Nat → Bool} {pl : List Lb}
theorem sameK {g : Nat} {e : TypeId} {cs : List Value} (hb : Blk w g e cs) (k : Keep w w') {j n : Nat} : sameAt ⟨g, j, none⟩ n w w' := by
  have h : w'.heap[g]? = w.heap[g]? := k.block g hb.lt
  refine ⟨World.cell?_of_block h, fun i _ => World.cell?_of_block ?_⟩
  rw [add_block]; exact h
theorem alert_ok {r : Rl} {s sl : Sl} {m : List Lb} (hr : RlOk r) (ht : UTab w0) (hs : Rd w0 s 2 (labs r.ls)) (hl : Rd w0 sl 2 (labs m)) {K : Sl → Value → World → Prop}
    (hK : ∀ q x w', Keep w0 w' → (wE m (moreA r) ≠ 0 → q = nilS ∧ x = fault (wE m (moreA r))) → (wE m (moreA r) = 0 → x = .nilIface ∧ Mem.Own w' w0.heap.size 99 2 q (labs (labO r m))) → K q x w') :
    C.rules_alert r.rc r.nm r.ex r.fo r.ke s sl w0 K := by
  unfold C.rules_alert
  have hsn := rdL_n hs
  have hlen := ((rt_iff _).1 hr.rt).1
  refine newD fun g w1 k1 hg b1 => ?_
  have b1 : Blk w1 g 24 (rlC r s) := b1
  refine cS_at (b := r.nm) (by rw [addr_add, b1.cell]; rfl) <| newD fun g2 w2 k2 hg2 b2 => ?_
  have k02 := k1.trans k2
  refine cSl_at (s := s) (by rw [addr_add, (b1.keep k2.1).cell]; rfl) ?_
  have o2 : Mem.Own w2 w0.heap.size 99 2 ⟨some ⟨g2, 0, none⟩, 2, 2⟩ (labs [(nN, noB), (aN, r.nm)]) := Own.mk' (Nat.le_trans k1.1.size hg2) b2 (Nat.le_refl _) (by simp only [maxLen]; omega) (by rfl) (by rfl)
  refine append_own tiL k02.1 k02.1.size o2 (hs.keep k02.1) labs_one (by simp only [maxLen]; omega) (by simp only []; omega) fun q w3 k3 o3 hq _ => ?_
  rw [← labs_app] at o3
  have k03 : Keep w0 w3 := k3
  refine with_ok (ht.keep k03) (hl.keep k03) (Own.rd o3) (moreA_names hr) (by simp; omega) fun out x w4 k4 h1 h2 => ?_
  exact hK out x w4 (Keep.trans k03 k4) h1 fun h => ⟨(h2 h).1, (h2 h).2.mono k03.size⟩
theorem labels_ok {r : Rl} {s sl : Sl} {m : List Lb} (ht : UTab w0) (he : ETab w0) (hs : Rd w0 s 2 (labs r.ls)) (hn : r.ls.length ≤ 100000000) (hl : Rd w0 sl 2 (labs m)) {K : Sl → Int → World → Prop}
    (hK : ∀ q w', Keep w0 w' → (labE r m ≠ 0 → q = nilS) → (labE r m = 0 → Mem.Own w' w0.heap.size 99 2 q (labs (labO r m))) → K q (labE r m) w') : C.rules_Labels r.rc r.nm r.ex r.fo r.ke s sl w0 K := by
  unfold C.rules_Labels
  refine newD fun g w1 k1 hg b1 => ?_
  have b1 : Blk w1 g 24 (rlC r s) := b1
  refine cB_at (b := r.rc) (by rw [b1.cell]; rfl) <| cS_at (b := r.nm) (by rw [addr_add, b1.cell]; rfl) <| cS_at (b := r.ex) (by rw [addr_add, b1.cell]; rfl) <| cI_at (n := r.fo) (by rw [addr_add, b1.cell]; rfl) <| cI_at (n := r.ke) (by rw [addr_add, b1.cell]; rfl) <| cSl_at (s := s) (by rw [addr_add, b1.cell]; rfl) ?_
  refine rule_ok (ht.keep k1.1) (hs.keep k1.1) hn fun w2 k2 => ?_
  have k02 := Keep.trans k1.1 k2
  have b2 := b1.keep k2
  unfold ruleE
  by_cases hr : ruleB r = true
  · rw [if_pos hr]
    refine cond_f rfl ?_
    have el : labE r m = wE m (moreA r) := by unfold labE; rw [if_pos hr]
    rw [el] at hK
    refine cB_at (b := r.rc) (by rw [b2.cell]; rfl) <| cS_at (b := r.nm) (by rw [addr_add, b2.cell]; rfl) <| cS_at (b := r.ex) (by rw [addr_add, b2.cell]; rfl) <| cI_at (n := r.fo) (by rw [addr_add, b2.cell]; rfl) <| cI_at (n := r.ke) (by rw [addr_add, b2.cell]; rfl) <| cSl_at (s := s) (by rw [addr_add, b2.cell]; rfl) ?_
    refine alert_ok (rl_of hr) (ht.keep k02) (hs.keep k02) (hl.keep k02) fun q x w3 k3 h1 h2 => ?_
    have k03 := Keep.trans k02 k3
    refine number_ok (e := wE m (moreA r)) (he.keep k03) ?_ fun w4 k4 => hK q w4 (Keep.trans k03 k4) (fun h => (h1 h).1) (fun h => own_keep (h2 h).2 k4 k02.size)
    by_cases h0 : wE m (moreA r) = 0
    · exact .inl ⟨(h2 h0).1, h0⟩
    · exact .inr (h1 h0).2
  · rw [if_neg hr]
    have el : labE r m = 201 := by unfold labE; rw [if_neg hr]
    rw [el] at hK
    exact cond_t rfl (hK nilS w2 k02 (fun _ => rfl) (fun h => absurd h (by decide)))
theorem own9_ok {s : Sl} {m : List Lb} (h : Rd w s 2 (labs m)) (hm : m.length ≤ 100000) {K : Sl → World → Prop} (hK : ∀ r w', Keep w w' → Mem.Own w' w.heap.size 99 2 r (labs m) → K r w') : C.tocsinref09_Own s w K := by
  have hn := rdL_n h
  unfold C.tocsinref09_Own
  refine app_T tiL (OT.nil (fun _ => 0) w 5 99 2) h labs_one (by simp only [maxLen]; omega) (by simp only []; omega) fun r ω' w' k o _ => ?_
  have top := (Top.init w).stp k
  rw [List.nil_append] at o
  exact hK r w' top.k (OT.new o top)
theorem rnamed_ok {r : Rl} {s : Sl} {n : ByteArray} (hs : Rd w0 s 2 (labs r.ls)) (hm : r.ls.length ≤ 100000) {K : Sl → World → Prop} (hK : ∀ q w', Keep w0 w' → Mem.Own w' w0.heap.size 99 2 q (labs (r.ls ++ [(n, r.nm)])) → K q w') :
    C.tocsinref19_named r.rc r.nm r.ex r.fo r.ke s n w0 K := by
  unfold C.tocsinref19_named
  refine newD fun g w1 k1 hg b1 => ?_
  have b1 : Blk w1 g 24 (rlC r s) := b1
  refine cSl_at (s := s) (by rw [addr_add, b1.cell]; rfl) <| own9_ok (hs.keep k1.1) hm fun q w2 k2 o2 => cS_at (b := r.nm) (by rw [addr_add, (b1.keep k2).cell]; rfl) ?_
  have k02 := Keep.trans k1.1 k2
  have hqn := rdL_n (Own.rd o2)
  have ot := Own.tag (o2.mono k1.1.size) (Nat.le_refl _) (fun _ => 0) 5
  have top2 : Top w0 (ext (fun _ => 0) w0.heap.size 5) w2 := (Top.init w0).stp (k02.stp _ 5)
  generalize ext (fun _ => 0) w0.heap.size 5 = ω2 at *
  refine push_T (n := 1) tiL ot rfl (by intro v hv; simp at hv; rcases hv with rfl | rfl <;> rfl) (by simp only [maxLen]; omega) (by omega) fun q3 ω3 w3 k3 o3 _ => ?_
  have top3 := top2.stp k3
  refine hK q3 w3 top3.k ?_
  rw [labs_app]
  exact OT.new o3 top3
theorem rlabels_ok {r : Rl} {s sl : Sl} {m : List Lb} (hs : Rd w0 s 2 (labs r.ls)) (hsz : ∀ x ∈ r.ls, x.2.size ≤ 140737488355300) (hn : r.ls.length ≤ 100000) (hl : Rd w0 sl 2 (labs m)) (hmz : ∀ x ∈ m, x.2.size ≤ 140737488355300) {K : Sl → Int → World → Prop}
    (hK : ∀ q w', Keep w0 w' → (labE r m ≠ 0 → q = nilS) → (labE r m = 0 → Mem.Own w' w0.heap.size 99 2 q (labs (labO r m))) → K q (labE r m) w') : C.tocsinref19_Labels r.rc r.nm r.ex r.fo r.ke s sl w0 K := by
  unfold C.tocsinref19_Labels
  refine newD fun g w1 k1 hg b1 => ?_
  have b1 : Blk w1 g 24 (rlC r s) := b1
  refine cB_at (b := r.rc) (by rw [b1.cell]; rfl) <| cS_at (b := r.nm) (by rw [addr_add, b1.cell]; rfl) <| cS_at (b := r.ex) (by rw [addr_add, b1.cell]; rfl) <| cI_at (n := r.fo) (by rw [addr_add, b1.cell]; rfl) <| cI_at (n := r.ke) (by rw [addr_add, b1.cell]; rfl) <| cSl_at (s := s) (by rw [addr_add, b1.cell]; rfl) ?_
  refine rrule_ok (hs.keep k1.1) hsz (by omega) fun w2 k2 => ?_
  have k02 := Keep.trans k1.1 k2
  unfold ruleE
  by_cases hr : ruleB r = true
  · rw [if_pos hr]
    have ok := rl_of hr
    have el : labE r m = wE m (moreA r) := by unfold labE; rw [if_pos hr]
    refine cond_f rfl <| rright_ok (hl.keep k02) hmz fun w3 k3 => ?_
    have k03 := Keep.trans k02 k3
    refine cond_ne (fun hne => ?_) (fun h0 => ?_)
    · have e : labE r m = 41 := by rw [el]; unfold wE; rw [if_pos hne]
      rw [e] at hK
      exact hK nilS w3 k03 (fun _ => rfl) (fun h => absurd h (by decide))
    · have k3d : Keep w3 w3.drew := Keep.drew w3
      have b3 := (b1.keep (Keep.trans k2 k3)).keep k3d
      have k03d := Keep.trans k03 k3d
      refine cB_at (b := r.rc) (by rw [b3.cell]; rfl) <| cS_at (b := r.nm) (by rw [addr_add, b3.cell]; rfl) <| cS_at (b := r.ex) (by rw [addr_add, b3.cell]; rfl) <| cI_at (n := r.fo) (by rw [addr_add, b3.cell]; rfl) <| cI_at (n := r.ke) (by rw [addr_add, b3.cell]; rfl) <| cSl_at (s := s) (by rw [addr_add, b3.cell]; rfl) ?_
      refine newD fun g5 w5 k5 hg5 b5 => ⟨sameK b3 k5.1, ?_⟩
      have k05 := Keep.trans k03d k5.1
      have r5 : Rd w5 ⟨some ⟨g5, 0, none⟩, 1, 1⟩ 1 (strs [nN]) := Rd.blk (n := 1) (c := 1) (sz := 1) (o := 0) b5 (Nat.le_refl _) (by decide)
      have hml : m.length ≤ 16 := ((rt_iff _).1 h0).1
      refine rpick_ok (hl.keep k05) r5 (by omega) (by decide) fun q6 w6 k6 o6 => ⟨sameK b3 (Keep.trans k5.1 k6), ?_⟩
      have k06 := Keep.trans k05 k6
      refine rnamed_ok (hs.keep k06) hn fun q7 w7 k7 o7 => ?_
      have k07 := Keep.trans k06 k7
      have ep := wE_same ok h0
      refine rwith_ok ((Own.rd o6).keep k7) (Own.rd o7) (fun x hx => hmz x (mem_pickN.1 hx).1) (moreR_names ok) (by have := ((rt_iff _).1 ok.rt).1; rw [List.length_append]; simp; omega) (moreR_good ok) fun q8 w8 k8 h1 h2 => ?_
      have k08 := Keep.trans k07 k8
      have e8 : wE (pickN [nN] m) (r.ls ++ [(aN, r.nm)]) = labE r m := by rw [el]; exact ep
      rw [e8] at h1 h2 ⊢
      refine hK q8 w8 k08 h1 fun h => ?_
      have o8 := (h2 h).mono k07.size
      have eo : outL (pickN [nN] m) (r.ls ++ [(aN, r.nm)]) = labO r m := out_same ok h0
      rw [eo] at o8
      exact o8
  · rw [if_neg hr]
    have el : labE r m = 201 := by unfold labE; rw [if_neg hr]
    rw [el] at hK
    exact cond_t rfl (hK nilS w2 k02 (fun _ => rfl) (fun h => absurd h (by decide)))
end Go.Proofs.YtechilkjfhpkpaaGreatDoor.Ru

namespace Go.Proofs.YtechilkjfhpkpaaGreatDoor.Mem
open Go Vm Go.RowKit Num
variable {ω ω' ω'' ωl : Tg} {w w' w'' : World} {t u g : Nat} {T : Nat → Bool} {e : TypeId} {sz : Nat} {s : Sl} {xs : List Value}
def rtg (ω ωl : Tg) (n : Nat) (f : Nat → Nat) : Tg := fun k => if k < n then ω k else f (ωl k)
theorem rtg_new {n : Nat} {f : Nat → Nat} {k v : Nat} (h : n ≤ k) (hv : ωl k = v) : rtg ω ωl n f k = f v := by unfold rtg; rw [if_neg (by omega), hv]
theorem rtg_stp (k : Keep w w') (ω ωl : Tg) (f : Nat → Nat) : Stp Non ω (rtg ω ωl w.heap.size f) w w' := ⟨k.os, k.tape, k.output, k.size, fun i hi => by unfold rtg; rw [if_pos hi], fun i hi _ => k.block i hi⟩
theorem Top.ge {v : Nat} (top : Top w ω' w') {k : Nat} (h : ω' k = v) (hv : v ≠ 0) : w.heap.size ≤ k := by
  rcases Nat.lt_or_ge k w.heap.size with hlt | hge
  · rw [top.z k hlt] at h; exact absurd h.symm hv
  · exact hge
theorem BT.rtg {cs : List Value} (h : BT ωl w' u g e cs) (top : Top w ωl w') (f : Nat → Nat) (hu : u ≠ 0 := by decide) : BT (rtg ω ωl w.heap.size f) w' (f u) g e cs := ⟨h.blk, rtg_new (top.ge h.tag hu) h.tag⟩
theorem OT.rtg (h : OT ωl w' u e sz s xs) (top : Top w ωl w') (f : Nat → Nat) (hu : u ≠ 0 := by decide) : OT (rtg ω ωl w.heap.size f) w' (f u) e sz s xs := ⟨h.own, fun k hk => rtg_new (top.ge (h.tag k hk) hu) (h.tag k hk)⟩
theorem RT.rtg (h : RT ωl w' u s sz xs) (top : Top w ωl w') (f : Nat → Nat) (hu : u ≠ 0 := by decide) : RT (rtg ω ωl w.heap.size f) w' (f u) s sz xs := ⟨h.rd, fun g o ha hne => rtg_new (top.ge (h.tag g o ha hne) hu) (h.tag g o ha hne)⟩
theorem MV.rtg {al : AL} (h : MV ωl w' u g al) (top : Top w ωl w') (f : Nat → Nat) (hu : u ≠ 0 := by decide) : MV (rtg ω ωl w.heap.size f) w' (f u) g al := ⟨h.ex, rtg_new (top.ge h.tag hu) h.tag⟩
theorem fresh (ω : Tg) (n m : Nat) : ∃ v, m < v ∧ ∀ k, k < n → ω k ≠ v := by
  induction n with
  | zero => exact ⟨m + 1, by omega, fun k hk => absurd hk (Nat.not_lt_zero _)⟩
  | succ n ih =>
    obtain ⟨b, hb⟩ : ∃ b, ∀ k, k < n + 1 → ω k ≤ b := by
      clear ih
      induction n with
      | zero => exact ⟨ω 0, fun k hk => by have : k = 0 := by omega
                                           rw [this]; exact Nat.le_refl _⟩
      | succ n ih =>
        obtain ⟨b, hb⟩ := ih
        refine ⟨max b (ω (n + 1)), fun k hk => ?_⟩
        rcases Nat.lt_succ_iff_lt_or_eq.1 hk with h | rfl
        · exact Nat.le_trans (hb k h) (Nat.le_max_left ..)
        · exact Nat.le_max_right ..
    exact ⟨max m b + 1, by omega, fun k hk e => by have := hb k hk; omega⟩
theorem Stp.fresh {v : Nat} (h : Stp T ω ω' w w') (k : Stp (One v) ω' ω'' w' w'') (hv : ∀ i, i < w.heap.size → ω i ≠ v) : Stp T ω ω'' w w'' :=
  ⟨k.os.trans h.os, k.tape.trans h.tape, k.output.trans h.output, Nat.le_trans h.size k.size, fun i hi => (k.same i (Nat.lt_of_lt_of_le hi h.size)).trans (h.same i hi), fun i hi hT => by
    rw [k.block i (Nat.lt_of_lt_of_le hi h.size) (by rw [h.same i hi]; exact beq_no (hv i hi))]
    exact h.block i hi hT⟩
end Go.Proofs.YtechilkjfhpkpaaGreatDoor.Mem

namespace Go.Proofs.YtechilkjfhpkpaaGreatDoor.Ru
open Go Vm Go.RowKit Num Mem Utf Lib Lab
variable {ω ω' : Tg} {w w' w0 : World} {t gs gm : Nat} {T : Nat → Bool} {pl : QL} {M : List Av}
theorem Top.rt {s : Sl} {sz : Nat} {xs : List Value} (top : Top w0 ω w) (h : Rd w0 s sz xs) : RT ω w 0 s sz xs := by
  refine ⟨h.keep top.k, fun g o ha hne => ?_⟩
  obtain ⟨g', o', ha', hc⟩ := h.2.2 hne
  rw [ha] at ha'
  simp only [Option.some.injEq, Addr.mk.injEq] at ha'
  obtain ⟨rfl, rfl, _⟩ := ha'
  have hpos : 0 < xs.length := List.length_pos_iff.2 hne
  exact top.z _ (cell_lt (hc 0 xs[0] (List.getElem?_eq_getElem hpos)))
abbrev ltA (a b : Av) : Prop := cmpL a.1 b.1 < 0
theorem ltA_irr (a : Av) : ¬ ltA a a := by unfold ltA; rw [cmpL_cmp.self]; decide
theorem perm_up : ∀ {M l : List Av}, l.Perm M → l.Pairwise (fun a b => ¬ ltA b a) → M.Pairwise ltA → l = M
  | [], l, hp, _, _ => hp.eq_nil
  | m :: M, l, hp, h1, h2 => by
    cases l with
    | nil => exact absurd hp.symm.eq_nil (by simp)
    | cons x l =>
      have h1' := List.pairwise_cons.1 h1
      have h2' := List.pairwise_cons.1 h2
      have e : x = m := by
        rcases List.mem_cons.1 (hp.mem_iff.1 (List.mem_cons_self ..)) with e | hx
        · exact e
        · rcases List.mem_cons.1 (hp.mem_iff.2 (List.mem_cons_self ..)) with e | hm
          · exact e.symm
          · exact absurd (h2'.1 x hx) (h1'.1 m hm)
      subst e
      rw [perm_up (List.perm_cons x |>.1 hp) h1'.2 h2'.2]
theorem range_getD (q0 : Av × Sl) (ql : QL) : (List.range ql.length).map (fun i => ql.getD i q0) = ql := by
  apply List.ext_getElem?
  intro i
  simp only [List.getElem?_map]
  by_cases h : i < ql.length
  · rw [List.getElem?_range h, List.getElem?_eq_getElem h]; simp [List.getD_eq_getElem?_getD, h]
  · rw [List.getElem?_eq_none (by simp; omega), List.getElem?_eq_none (by omega)]; rfl
theorem avs_map (q0 : Av × Sl) (ql : QL) (l : List Nat) : l.flatMap (fun i => avC (ql.getD i q0)) = avs (l.map fun i => ql.getD i q0) := by
  unfold avs
  rw [List.flatMap_map]
theorem cmp11_ok (p q : Av × Sl) (ha : Rd w p.2 2 (labs p.1.1)) (hb : Rd w q.2 2 (labs q.1.1)) (hx : p.1.1.length ≤ 16) {K : Int → World → Prop} (hK : ∀ w', KD w w' → K (cmpL p.1.1 q.1.1) w') :
    C.rules_Keeper_Active_1 p.2 p.1.2.1 p.1.2.2.1 p.1.2.2.2.1 p.1.2.2.2.2.1 p.1.2.2.2.2.2 q.2 q.1.2.1 q.1.2.2.1 q.1.2.2.2.1 q.1.2.2.2.2.1 q.1.2.2.2.2.2 w K := by
  unfold C.rules_Keeper_Active_1
  refine newD fun g w1 k1 _ b1 => newD fun g2 w2 k2 _ b2 => ?_
  have k12 := k1.trans k2
  have b12 := b1.keep k2.1
  exact cSl_at (s := p.2) (by rw [b12.cell]; rfl) <| cSl_at (s := q.2) (by rw [b2.cell]; rfl) <| compare_ok (ha.keep k12.1) (hb.keep k12.1) (by omega) fun w' k' => hK w' (k12.trans k')
theorem sorted_ok {g : Nat} (hbox : w.cell? ⟨g, 0, none⟩ = some (.map (some gm))) (hmp : MV (fun _ => 0) w 0 gm (pl.map encP)) (hl : pl.length ≤ 100000000) (hrd : ∀ p ∈ pl, Rd w p.2 2 (labs p.1.1) ∧ p.1.1.length ≤ 16) (hp : (pl.map (·.1)).Perm M) (hM : M.Pairwise ltA) {K : Sl → World → Prop}
    (hK : ∀ r ql w', Keep w w' → ql.map (·.1) = M → (∀ p ∈ ql, p ∈ pl) → Mem.Own w' w.heap.size 41 6 r (avs ql) → K r w') :
    C.slices_SortedFunc_Active (.func (.func 80) #[] #[.pointer (some ⟨g, 0, none⟩)]) (.func (.func 48) #[] #[]) w K := by
  unfold C.slices_SortedFunc_Active
  refine collect_ok hbox hmp hl fun r ql w1 k1 pm o1 => ?_
  show Srt.sortF 6 r (.func (.func 48) #[] #[]) w1 fun w6 => K r w6
  have top1 : Top w (ext (fun _ => 0) w.heap.size 2) w1 := (Top.init w).stp (k1.stp _ 2)
  have o2 : OT (ext (fun _ => 0) w.heap.size 2) w1 2 41 6 r (avs ql) := Own.tag o1 (Nat.le_refl _) _ 2
  have hrn := rdA_n o2.rd
  generalize ext (fun _ => 0) w.heap.size 2 = ω1 at *
  have hlen : ql.length ≤ 100000000 := by rw [pm.length_eq]; exact hl
  cases hq : ql with
  | nil =>
    subst hq
    have hpl : pl = [] := pm.symm.eq_nil
    subst hpl
    have hM0 : M = [] := hp.symm.eq_nil
    subst hM0
    exact .inl ⟨hrn, hK r [] w1 k1 rfl (by simp) o1⟩
  | cons q0 qr =>
    have hq0 : q0 ∈ ql := by rw [hq]; exact List.mem_cons_self ..
    have hgd : ∀ i, ql.getD i q0 ∈ ql := fun i => by
      rw [List.getD_eq_getElem?_getD]
      cases h : ql[i]? with
      | none => exact hq0
      | some p => exact List.mem_of_getElem? h
    have hrt : ∀ i, RT ω1 w1 0 (ql.getD i q0).2 2 (labs (ql.getD i q0).1.1) ∧ (ql.getD i q0).1.1.length ≤ 16 := fun i => by
      obtain ⟨h1, h2⟩ := hrd _ (pm.mem_iff.1 (hgd i))
      exact ⟨Top.rt top1 h1, h2⟩
    refine Srt.sort_rows (k := 6) (by decide) (ω := ω1) (t := 2) (e := 41) (enc := fun i => avC (ql.getD i q0)) (fun i => rfl) (fun i v hv => by simp only [avC, List.mem_cons, List.not_mem_nil, or_false] at hv; rcases hv with rfl | rfl | rfl | rfl | rfl | rfl <;> rfl) ?_ (by omega)
      (cf := fun i j => cmpL (ql.getD i q0).1.1 (ql.getD j q0).1.1) (Srt.swo cmpL_cmp fun i => (ql.getD i q0).1.1) (fun _ _ => callFunc_run ⟨_, Tryz.func48, by kernel_rfl, by kernel_rfl⟩) (fun W st x y => ?_) (fun is ω' w' p1 p2 st o' => ?_)
    · rw [hrn, avs_map, range_getD]; exact o2
    · have hx := hrt x
      have hy := hrt y
      generalize ql.getD x q0 = p at *
      generalize ql.getD y q0 = q at *
      refine (C.rules_Keeper_Active_1.clok [.agg (avC p).toArray, .agg (avC q).toArray] (fun v w' => v = .int .i64 (cmpL p.1.1 q.1.1) ∧ KD W w') W ?_).2.mono fun e w' ⟨v, he, hv, hk⟩ => ⟨by rw [he, hv], hk⟩
      unfold avC C.rules_Keeper_Active_1.cl Sl.v
      dsimp only
      exact cmp11_ok p q (hx.1.stp st).rd (hy.1.stp st).rd hx.2 fun w' k => ⟨rfl, k⟩
    · have top' := top1.stp st
      rw [avs_map] at o'
      have pq : (is.map fun i => ql.getD i q0).Perm ql := by
        have := p1.map fun i => ql.getD i q0
        rw [hrn, range_getD] at this
        exact this
      refine hK r _ w' top'.k (perm_up ((pq.trans pm).map (·.1) |>.trans hp) ?_ hM) (fun p hp => pm.mem_iff.1 (pq.mem_iff.1 hp)) (OT.new o' top')
      rw [List.pairwise_map, List.pairwise_map]
      exact p2
theorem cloneL_ok {s : Sl} {m : List Lb} (h : Rd w s 2 (labs m)) (hm : m.length ≤ 16) {K : Sl → World → Prop} (hK : ∀ r w', Keep w w' → Mem.Own w' w.heap.size 99 2 r (labs m) → K r w') : C.slices_Clone_Label_Label s w K := by
  have hn := rdL_n h
  unfold C.slices_Clone_Label_Label
  exact Sm.clone_ok (P := Tryz.prog) tiL h labs_one (by simp only [maxLen]; omega) (by omega) fun r w' k o _ => hK r w' k o
structure AW (w : World) (gs gm : Nat) (pl : QL) : Prop where
  hd : w.cell? ⟨gs, 6, none⟩ = some (.map (some gm))
  mp : MV (fun _ => 0) w 0 gm (pl.map encP)
  rt : ∀ p ∈ pl, Rd w p.2 2 (labs p.1.1)
theorem AW.keep (h : AW w gs gm pl) (k : Keep w w') : AW w' gs gm pl := ⟨k.cell h.hd, h.mp.stp (k.stp0 _) rfl, fun p hp => (h.rt p hp).keep k⟩
def fg (u : Nat) (vs : Nat → Nat) (x : Nat) : Nat := if x = 2 then u else if x < 2 then 0 else vs (x - 3)
theorem fg_e (u : Nat) (vs : Nat → Nat) (j : Nat) : fg u vs (3 + j) = vs j := by unfold fg; rw [if_neg (by omega), if_neg (by omega)]; congr 1; omega
theorem avs_set : ∀ (l : QL) (k : Nat) (h : k < l.length) (s : Sl), (avs l).set (k * 6 + 0) s.v = avs (l.set k ((l[k]).1, s))
  | [], k, h, _ => by simp at h
  | x :: l, 0, _, s => rfl
  | x :: l, k + 1, h, s => by
    have ih := avs_set l k (by simpa using h) s
    have e : ∀ (y : Av × Sl) (m : QL), avs (y :: m) = y.2.v :: .int .i64 y.1.2.1 :: .int .i64 y.1.2.2.1 :: .int .i64 y.1.2.2.2.1 :: .int .i64 y.1.2.2.2.2.1 :: .float .f64 y.1.2.2.2.2.2 :: avs m := fun _ _ => rfl
    rw [e, show (k + 1) * 6 + 0 = (k * 6 + 0) + 1 + 1 + 1 + 1 + 1 + 1 by omega]
    rw [Nat.add_zero] at ih ⊢
    simp only [List.set_cons_succ]
    rw [ih, e]; rfl
theorem active_ok (ω : Tg) (h : AW w gs gm pl) (hp : (pl.map (·.1)).Perm M) (hM : M.Pairwise ltA) (hl : pl.length ≤ 100000000) (hs : ∀ p ∈ pl, p.1.1.length ≤ 16) (u : Nat) (vs : Nat → Nat) {K : Sl → World → Prop}
    (hK : ∀ r ql ω' w', Stp Non ω ω' w w' → OT ω' w' u 41 6 r (avs ql) → ql.map (·.1) = M → (∀ j (hj : j < ql.length), OT ω' w' (vs j) 99 2 (ql[j]).2 (labs (ql[j]).1.1)) → K r w') : C.rules_Keeper_Active (some ⟨gs, 0, none⟩) w K := by
  unfold C.rules_Keeper_Active
  refine cond_f rfl <| ptr_at ⟨some gm, by rw [addr_add]; exact h.hd, ?_⟩
  unfold C.maps_Values_map_string_Active_string_Active
  refine newD fun g w1 k1 hg b1 => ?_
  refine sorted_ok (by rw [b1.cell]; rfl) (h.mp.stp (k1.1.stp0 _) rfl) hl (fun p hp => ⟨(h.rt p hp).keep k1.1, hs p hp⟩) hp hM fun r ql w2 k2 eq hin o2 => ?_
  have k02 := Keep.trans k1.1 k2
  have top2 : Top w (ext (fun _ => 0) w.heap.size 2) w2 := (Top.init w).stp (k02.stp _ 2)
  have o2' : OT (ext (fun _ => 0) w.heap.size 2) w2 2 41 6 r (avs ql) := Own.tag (o2.mono k1.1.size) (Nat.le_refl _) _ 2
  generalize ext (fun _ => 0) w.heap.size 2 = ω2 at *
  have hrn := rdA_n o2'.rd
  have hql : ql.length = pl.length := by have h1 := congrArg List.length eq; have h2 := hp.length_eq; simp at h1 h2; omega
  unfold C.rules_Keeper_Active.S9
  refine C.rules_Keeper_Active.L5_ind fun X hX => ?_
  have key : ∀ (d i : Nat) (qi : QL) (ω : Tg) (w3 : World), i + d = ql.length → Top w ω w3 → OT ω w3 2 41 6 r (avs qi) → qi.map (·.1) = M → (∀ j (hj : j < qi.length), j < i → OT ω w3 (3 + j) 99 2 (qi[j]).2 (labs (qi[j]).1.1)) → (∀ j, i ≤ j → qi[j]? = ql[j]?) → X r ((r.n : Nat) : Int) (i : Int) w3 := by
    intro d
    induction d with
    | zero =>
      intro i qi ω' w3 hi top o e h1 h2
      refine hX _ _ _ _ ?_
      unfold C.rules_Keeper_Active.S7 C.rules_Keeper_Active.S2
      have hqi : qi.length = ql.length := by have a := congrArg List.length e; have b := congrArg List.length eq; simp at a b; omega
      refine cond_d (fun h => by omega) (fun _ => ?_)
      exact hK r qi (rtg ω ω' w.heap.size (fg u vs)) w3 (rtg_stp top.k ω ω' (fg u vs)) (o.rtg top (fg u vs)) e fun j hj => by
        have := (h1 j hj (by omega)).rtg (ω := ω) top (fg u vs) (by omega)
        rwa [fg_e] at this
    | succ d ih =>
      intro i qi ω' w3 hi top o e h1 h2
      refine hX _ _ _ _ ?_
      unfold C.rules_Keeper_Active.S7
      have hqi : qi.length = ql.length := by have a := congrArg List.length e; have b := congrArg List.length eq; simp at a b; omega
      have hii : i < qi.length := by omega
      have hx : qi[i]? = some qi[i] := List.getElem?_eq_getElem hii
      have hmem : qi[i] ∈ pl := hin _ (List.mem_of_getElem? ((h2 i (Nat.le_refl _)).symm.trans hx))
      refine cond_d (fun _ => ?_) (fun h => by omega)
      refine rdA_at o.rd (k := i) rfl hx fun a ac => cSl_at ac.1 ?_
      refine cloneL_ok ((h.rt _ hmem).keep top.k) (hs _ hmem) fun r4 w4 k4 o4 => ?_
      have s4 := k4.stp ω' (3 + i)
      have o4' := Own.tag o4 (Nat.le_refl _) ω' (3 + i)
      have top4 := top.stp s4
      have o5 := o.stp s4
      have h15 : ∀ j (hj : j < qi.length), j < i → OT (ext ω' w3.heap.size (3 + i)) w4 (3 + j) 99 2 (qi[j]).2 (labs (qi[j]).1.1) := fun j hj hji => (h1 j hj hji).stp s4
      generalize ext ω' w3.heap.size (3 + i) = ω4 at *
      refine OT.at_ o5 (k := i) rfl (by omega) fun a ha _ _ _ => ?_
      have e0 : a = a.add 0 := by simp [Addr.add]
      have key2 : G.st (a.add 0) r4.v w4 fun w19 => X r ((r.n : Nat) : Int) (IntKind.i64.wrap ((i : Int) + 1)) w19 := by
        refine OT.st o5 (i := i) (j := 0) (by omega) (by decide) _ ha fun ω6 w6 k6 o6 => ?_
        rw [avs_set qi i hii r4] at o6
        rw [wI64 (by omega) (by omega), show (i : Int) + 1 = ((i + 1 : Nat) : Int) by omega]
        refine ih (i + 1) (qi.set i ((qi[i]).1, r4)) ω6 w6 (by omega) (top4.stp k6) o6 ?_ (fun j hj hji => ?_) (fun j hj => ?_)
        · rw [List.map_set, show ((qi[i]).1, r4).1 = (qi.map (·.1))[i]'(by simpa using hii) by simp, List.set_getElem_self]; exact e
        · by_cases hj' : j = i
          · subst hj'
            rw [List.getElem_set_self]
            exact o4'.stp k6 (beq_no (by omega))
          · rw [List.getElem_set_ne (by omega)]
            exact (h15 j (by simpa using hj) (by omega)).stp k6 (beq_no (by omega))
        · rw [List.getElem?_set_ne (by omega)]
          exact h2 j (by omega)
      rwa [← e0] at key2
  exact key ql.length 0 ql ω2 w2 (by omega) top2 o2' eq (fun j hj h => by omega) (fun j _ => rfl)
end Go.Proofs.YtechilkjfhpkpaaGreatDoor.Ru

namespace Go.Proofs.YtechilkjfhpkpaaGreatDoor.Ru
open Go Vm Go.RowKit Num Mem Utf Lib Lab
variable {ω ω' : Tg} {w w' w0 : World} {t v gs gm : Nat} {T : Nat → Bool} {pl : QL} {M : List Av}
def getM (M : List Av) (m : List Lb) : Option Av := M.find? fun a => decide (a.1 = m)
def insM (a : Av) : List Av → List Av
  | [] => [a]
  | b :: r => if b.1 = a.1 then a :: r else if cmpL a.1 b.1 < 0 then a :: b :: r else b :: insM a r
theorem lt_ne {a b : Av} (h : ltA a b) : a.1 ≠ b.1 := fun e => by unfold ltA at h; rw [e, cmpL_cmp.self] at h; omega
theorem uniq (h : M.Pairwise ltA) {a b : Av} (ha : a ∈ M) (hb : b ∈ M) (e : a.1 = b.1) : a = b := by
  induction M with
  | nil => cases ha
  | cons x r ih =>
    have h' := List.pairwise_cons.1 h
    rcases List.mem_cons.1 ha with ea | ha'
    · rcases List.mem_cons.1 hb with eb | hb'
      · rw [ea, eb]
      · exact absurd e (by rw [ea]; exact lt_ne (h'.1 b hb'))
    · rcases List.mem_cons.1 hb with eb | hb'
      · exact absurd e.symm (by rw [eb]; exact lt_ne (h'.1 a ha'))
      · exact ih h'.2 ha' hb'
theorem getM_some (h : M.Pairwise ltA) {m : List Lb} {a : Av} : getM M m = some a ↔ a ∈ M ∧ a.1 = m := by
  unfold getM
  constructor
  · intro e
    exact ⟨List.mem_of_find?_eq_some e, by have := List.find?_some e; simpa using this⟩
  · rintro ⟨h1, rfl⟩
    cases hf : M.find? fun b => decide (b.1 = a.1) with
    | none => exact absurd (List.find?_eq_none.1 hf a h1) (by simp)
    | some b =>
      have e := List.find?_some hf
      rw [uniq h (List.mem_of_find?_eq_some hf) h1 (by simpa using e)]
theorem getM_none {m : List Lb} : getM M m = none ↔ ∀ a ∈ M, a.1 ≠ m := by
  unfold getM
  rw [List.find?_eq_none]; simp
theorem mem_insM {a x : Av} : ∀ {M : List Av}, M.Pairwise ltA → (x ∈ insM a M ↔ x = a ∨ (x ∈ M ∧ x.1 ≠ a.1))
  | [], _ => by simp [insM]
  | b :: r, h => by
    have h' := List.pairwise_cons.1 h
    unfold insM
    split
    · rename_i e
      have hr : ∀ x ∈ r, x.1 ≠ a.1 := fun x hx => by rw [← e]; exact (lt_ne (h'.1 x hx)).symm
      simp only [List.mem_cons]
      constructor
      · rintro (rfl | hx)
        · exact .inl rfl
        · exact .inr ⟨.inr hx, hr x hx⟩
      · rintro (rfl | ⟨rfl | hx, hn⟩)
        · exact .inl rfl
        · exact absurd e hn
        · exact .inr hx
    · rename_i e
      split
      · rename_i hl
        have hr : ∀ x ∈ b :: r, x.1 ≠ a.1 := fun x hx => by
          rcases List.mem_cons.1 hx with rfl | hx
          · exact e
          · exact (lt_ne (cmpL_cmp.trans _ _ _ hl (h'.1 x hx) : ltA a x)).symm
        simp only [List.mem_cons]
        constructor
        · rintro (rfl | rfl | hx)
          · exact .inl rfl
          · exact .inr ⟨.inl rfl, e⟩
          · exact .inr ⟨.inr hx, hr x (List.mem_cons_of_mem _ hx)⟩
        · rintro (rfl | ⟨rfl | hx, hn⟩)
          · exact .inl rfl
          · exact .inr (.inl rfl)
          · exact .inr (.inr hx)
      · rw [List.mem_cons, mem_insM h'.2]
        simp only [List.mem_cons]
        constructor
        · rintro (rfl | rfl | ⟨hx, hn⟩)
          · exact .inr ⟨.inl rfl, e⟩
          · exact .inl rfl
          · exact .inr ⟨.inr hx, hn⟩
        · rintro (rfl | ⟨rfl | hx, hn⟩)
          · exact .inr (.inl rfl)
          · exact .inl rfl
          · exact .inr (.inr ⟨hx, hn⟩)
theorem insM_up {a : Av} : ∀ {M : List Av}, M.Pairwise ltA → (insM a M).Pairwise ltA
  | [], _ => by simp [insM]
  | b :: r, h => by
    have h' := List.pairwise_cons.1 h
    unfold insM
    split
    · rename_i e
      refine List.pairwise_cons.2 ⟨fun x hx => ?_, h'.2⟩
      have := h'.1 x hx
      unfold ltA at this ⊢
      rw [← e]; exact this
    · rename_i e
      split
      · rename_i hl
        refine List.pairwise_cons.2 ⟨fun x hx => ?_, h⟩
        rcases List.mem_cons.1 hx with rfl | hx
        · exact hl
        · exact cmpL_cmp.trans _ _ _ hl (h'.1 x hx)
      · rename_i hl
        refine List.pairwise_cons.2 ⟨fun x hx => ?_, insM_up h'.2⟩
        rcases (mem_insM h'.2).1 hx with rfl | ⟨hx, _⟩
        · have h1 := cmpL_cmp.anti b.1 x.1
          have h2 : cmpL x.1 b.1 ≠ 0 := fun q => e ((cmpL_cmp.eq _ _).1 q).symm
          show cmpL b.1 x.1 < 0
          omega
        · exact h'.1 x hx
theorem insM_len {a : Av} : ∀ {M : List Av}, (insM a M).length ≤ M.length + 1
  | [] => by simp [insM]
  | b :: r => by
    unfold insM
    split
    · simp
    · split
      · simp
      · have := insM_len (a := a) (M := r); simp; omega
theorem mem_perm (hp : (pl.map (·.1)).Perm M) {p : Av × Sl} (h : p ∈ pl) : p.1 ∈ M := hp.mem_iff.1 (List.mem_map_of_mem h)
theorem getV_enc (m : List Lb) : ∀ pl : QL, getV (Lab.keyOf m) (pl.map encP) = (pl.find? fun p => decide (p.1.1 = m)).map encV
  | [] => rfl
  | p :: pl => by
    simp only [List.map_cons, encP, getV, List.find?_cons]
    by_cases e : p.1.1 = m
    · simp [e]
    · simp only [e, decide_false]
      rw [if_neg (show ¬ Lab.keyOf m = Lab.keyOf p.1.1 from fun h => e (key_inj h.symm))]
      exact getV_enc m pl
theorem get_none (hp : (pl.map (·.1)).Perm M) {m : List Lb} (h : getM M m = none) : getV (Lab.keyOf m) (pl.map encP) = none := by
  rw [getV_enc, List.find?_eq_none.2 fun p hm => by simpa using getM_none.1 h _ (mem_perm hp hm)]; rfl
theorem get_some (hp : (pl.map (·.1)).Perm M) (hM : M.Pairwise ltA) {m : List Lb} {a : Av} (h : getM M m = some a) : ∃ p ∈ pl, p.1 = a ∧ getV (Lab.keyOf m) (pl.map encP) = some (encV p) := by
  obtain ⟨h1, h2⟩ := (getM_some hM).1 h
  obtain ⟨q, hq, rfl⟩ := List.mem_map.1 (hp.mem_iff.2 h1)
  rw [getV_enc]
  cases hf : pl.find? fun p => decide (p.1.1 = m) with
  | none => exact absurd (List.find?_eq_none.1 hf q hq) (by simp [h2])
  | some p =>
    have hpm := List.mem_of_find?_eq_some hf
    have hpn : p.1.1 = m := by have := List.find?_some hf; simpa using this
    exact ⟨p, hpm, uniq hM (mem_perm hp hpm) h1 (hpn.trans h2.symm), rfl⟩
def updP (a : Av × Sl) : QL → QL
  | [] => [a]
  | p :: r => if p.1.1 = a.1.1 then a :: r else p :: updP a r
theorem updP_map (a : Av × Sl) : ∀ pl : QL, updA (Lab.keyOf a.1.1) (encV a) (pl.map encP) = (updP a pl).map encP
  | [] => rfl
  | p :: pl => by
    simp only [List.map_cons, encP, updA, updP]
    by_cases e : p.1.1 = a.1.1
    · rw [if_pos e, if_pos (by rw [e])]; rfl
    · rw [if_neg e, if_neg (fun h => e (key_inj h).symm)]
      have ih := updP_map a pl
      simp only [List.map_cons]
      rw [← ih]; rfl
theorem mem_updP {a x : Av × Sl} : ∀ {pl : QL}, (pl.map (·.1.1)).Nodup → (x ∈ updP a pl ↔ x = a ∨ (x ∈ pl ∧ x.1.1 ≠ a.1.1))
  | [], _ => by simp [updP]
  | p :: pl, h => by
    simp only [List.map_cons, List.nodup_cons] at h
    unfold updP
    split
    · rename_i e
      have hr : ∀ x ∈ pl, x.1.1 ≠ a.1.1 := fun x hx q => h.1 (by rw [e, ← q]; exact List.mem_map_of_mem (f := fun p : Av × Sl => p.1.1) hx)
      simp only [List.mem_cons]
      constructor
      · rintro (rfl | hx)
        · exact .inl rfl
        · exact .inr ⟨.inr hx, hr x hx⟩
      · rintro (rfl | ⟨rfl | hx, hn⟩)
        · exact .inl rfl
        · exact absurd e hn
        · exact .inr hx
    · rename_i e
      rw [List.mem_cons, mem_updP h.2]
      simp only [List.mem_cons]
      constructor
      · rintro (rfl | rfl | ⟨hx, hn⟩)
        · exact .inr ⟨.inl rfl, e⟩
        · exact .inl rfl
        · exact .inr ⟨.inr hx, hn⟩
      · rintro (rfl | ⟨rfl | hx, hn⟩)
        · exact .inr (.inl rfl)
        · exact .inl rfl
        · exact .inr (.inr ⟨hx, hn⟩)
theorem nodupM (h : M.Pairwise ltA) : M.Nodup := h.imp fun {a b} h e => by subst e; exact ltA_irr a h
theorem nodupL (h : M.Pairwise ltA) : (M.map (·.1)).Nodup := by
  rw [List.Nodup, List.pairwise_map]
  exact h.imp fun {a b} h => lt_ne h
theorem nodup1 {l : QL} (h : (l.map (·.1.1)).Nodup) : (l.map (·.1)).Nodup := by
  rw [List.Nodup, List.pairwise_map] at h ⊢
  exact h.imp fun h e => h (by rw [e])
def delP (m : List Lb) : QL → QL
  | [] => []
  | p :: r => if p.1.1 = m then r else p :: delP m r
theorem delP_map (m : List Lb) : ∀ pl : QL, delA (Lab.keyOf m) (pl.map encP) = (delP m pl).map encP
  | [] => rfl
  | p :: pl => by
    simp only [List.map_cons, encP, delA, delP]
    by_cases e : p.1.1 = m
    · rw [if_pos e, if_pos (by rw [e])]
    · rw [if_neg e, if_neg (fun h => e (key_inj h).symm)]
      have ih := delP_map m pl
      simp only [List.map_cons]
      rw [← ih]; rfl
theorem mem_delP {m : List Lb} {x : Av × Sl} : ∀ {pl : QL}, (pl.map (·.1.1)).Nodup → (x ∈ delP m pl ↔ x ∈ pl ∧ x.1.1 ≠ m)
  | [], _ => by simp [delP]
  | p :: pl, h => by
    simp only [List.map_cons, List.nodup_cons] at h
    unfold delP
    split
    · rename_i e
      have hr : ∀ x ∈ pl, x.1.1 ≠ m := fun x hx q => h.1 (by rw [e, ← q]; exact List.mem_map_of_mem (f := fun p : Av × Sl => p.1.1) hx)
      simp only [List.mem_cons]
      constructor
      · intro hx; exact ⟨.inr hx, hr x hx⟩
      · rintro ⟨rfl | hx, hn⟩
        · exact absurd e hn
        · exact hx
    · rename_i e
      rw [List.mem_cons, mem_delP h.2]
      simp only [List.mem_cons]
      constructor
      · rintro (rfl | ⟨hx, hn⟩)
        · exact ⟨.inl rfl, e⟩
        · exact ⟨.inr hx, hn⟩
      · rintro ⟨rfl | hx, hn⟩
        · exact .inl rfl
        · exact .inr ⟨hx, hn⟩
def delM (m : List Lb) (M : List Av) : List Av := M.filter fun a => decide (a.1 ≠ m)
theorem names_pl (hp : (pl.map (·.1)).Perm M) (hM : M.Pairwise ltA) : (pl.map (·.1.1)).Nodup := by
  have h := (hp.map (·.1)).nodup_iff.2 (nodupL hM)
  rw [List.map_map] at h; exact h
structure PM (ω : Tg) (w : World) (t v gm : Nat) (pl : QL) : Prop where
  mp : MV ω w t gm (pl.map encP)
  rt : ∀ p ∈ pl, RT ω w v p.2 2 (labs p.1.1)
abbrev MS (ω : Tg) (w : World) (t v gm : Nat) (M : List Av) : Prop := ∃ pl, PM ω w t v gm pl ∧ (pl.map (·.1)).Perm M
theorem PM.stp (h : PM ω w t v gm pl) (k : Stp T ω ω' w w') (h1 : T t = false) (h2 : T v = false) : PM ω' w' t v gm pl := ⟨h.mp.stp k h1, fun p hp => (h.rt p hp).stp k h2⟩
theorem MS.stp (h : MS ω w t v gm M) (k : Stp T ω ω' w w') (h1 : T t = false) (h2 : T v = false) : MS ω' w' t v gm M := let ⟨pl, a, b⟩ := h; ⟨pl, a.stp k h1 h2, b⟩
theorem upd_MS {v : Nat} (hv : v ≠ t) (h : PM ω w t v gm pl) (hp : (pl.map (·.1)).Perm M) (hM : M.Pairwise ltA) {a : Av} {sl : Sl} (k : Stp (Mem.One t) ω ω' w w') (m' : MV ω' w' t gm (updA (Lab.keyOf a.1) (encV (a, sl)) (pl.map encP))) (r : RT ω w v sl 2 (labs a.1)) :
    MS ω' w' t v gm (insM a M) := by
  have hn := names_pl hp hM
  rw [updP_map (a, sl)] at m'
  have hn' : ((updP (a, sl) pl).map (·.1.1)).Nodup := by
    have := m'.nodup
    rw [List.map_map] at this
    rw [List.Nodup, List.pairwise_map] at this ⊢
    exact this.imp fun h e => h (by show Lab.keyOf _ = Lab.keyOf _; rw [e])
  refine ⟨updP (a, sl) pl, ⟨m', fun p hpm => ?_⟩, ?_⟩
  · rcases (mem_updP hn).1 hpm with rfl | ⟨h1, _⟩
    · exact r.stp k (beq_no hv)
    · exact (h.rt p h1).stp k (beq_no hv)
  · refine (List.perm_ext_iff_of_nodup (nodup1 hn') (nodupM (insM_up hM))).2 fun x => ?_
    rw [mem_insM hM, List.mem_map]
    constructor
    · rintro ⟨p, hpm, rfl⟩
      rcases (mem_updP hn).1 hpm with rfl | ⟨h1, h2⟩
      · exact .inl rfl
      · exact .inr ⟨mem_perm hp h1, h2⟩
    · rintro (rfl | ⟨h1, h2⟩)
      · exact ⟨(x, sl), (mem_updP hn).2 (.inl rfl), rfl⟩
      · obtain ⟨q, hq, rfl⟩ := List.mem_map.1 (hp.mem_iff.2 h1)
        exact ⟨q, (mem_updP hn).2 (.inr ⟨hq, h2⟩), rfl⟩
theorem del_MS {v : Nat} (hv : v ≠ t) (h : PM ω w t v gm pl) (hp : (pl.map (·.1)).Perm M) (hM : M.Pairwise ltA) {m : List Lb} (k : Stp (Mem.One t) ω ω' w w') (m' : MV ω' w' t gm (delA (Lab.keyOf m) (pl.map encP))) :
    MS ω' w' t v gm (delM m M) := by
  have hn := names_pl hp hM
  rw [delP_map] at m'
  have hn' : ((delP m pl).map (·.1.1)).Nodup := by
    have := m'.nodup
    rw [List.map_map] at this
    rw [List.Nodup, List.pairwise_map] at this ⊢
    exact this.imp fun h e => h (by show Lab.keyOf _ = Lab.keyOf _; rw [e])
  refine ⟨delP m pl, ⟨m', fun p hpm => (h.rt p ((mem_delP hn).1 hpm).1).stp k (beq_no hv)⟩, ?_⟩
  refine (List.perm_ext_iff_of_nodup (nodup1 hn') (nodupM (hM.filter _))).2 fun x => ?_
  rw [List.mem_filter, List.mem_map]
  constructor
  · rintro ⟨p, hpm, rfl⟩
    obtain ⟨h1, h2⟩ := (mem_delP hn).1 hpm
    exact ⟨mem_perm hp h1, decide_eq_true h2⟩
  · rintro ⟨h1, h2⟩
    obtain ⟨q, hq, rfl⟩ := List.mem_map.1 (hp.mem_iff.2 h1)
    exact ⟨q, (mem_delP hn).2 ⟨hq, of_decide_eq_true h2⟩, rfl⟩
theorem key_ok {s : Sl} {m : List Lb} (ht : UTab w0) (hs : Rd w0 s 2 (labs m)) (hr : (rt m).1 = 0) {K : ByteArray → World → Prop} (hK : ∀ w', Keep w0 w' → K (Lab.keyOf m) w') : C.rules_key s w0 K := by
  unfold C.rules_key
  exact Lab.put_ok ht hs hr fun r w1 k1 o1 => convBS o1.rd (hK w1 k1)
def zeroA : Av := ([], 0, 0, 0, 0, 0)
theorem look_ok {mw : World} {ωm : Tg} (h : MV ωm mw t gm (pl.map encP)) (hp : (pl.map (·.1)).Perm M) (hM : M.Pairwise ltA) {m : List Lb} {K : Value → Bool → Prop}
    (h0 : getM M m = none → K (encV (zeroA, nilS)) false) (h1 : ∀ p ∈ pl, getM M m = some p.1 → K (encV p) true) :
    G.rd2 C.pr (Instr.lookup 73 (.map (some gm)) (.string (Lab.keyOf m)) true) (fun v : Value => v) mw K := by
  cases hf : getM M m with
  | none =>
    refine rd2_V (kt := 9) (et := 41) (a := encV (zeroA, nilS)) h mapT strT Tryz.zeroValue41 (by rw [get_none hp hf]; rfl) ?_
    rw [get_none hp hf]; exact h0 hf
  | some a =>
    obtain ⟨p, hpm, rfl, hg⟩ := get_some hp hM hf
    refine rd2_V (kt := 9) (et := 41) (a := encV p) h mapT strT Tryz.zeroValue41 (by rw [hg]; rfl) ?_
    rw [hg]; exact h1 p hpm hf
end Go.Proofs.YtechilkjfhpkpaaGreatDoor.Ru

namespace Go.Proofs.YtechilkjfhpkpaaGreatDoor.Ru
open Go Vm Go.RowKit Num Mem Utf Lib Lab
variable {ω ω' : Tg} {w w' w0 : World} {t v gs gm : Nat} {T : Nat → Bool} {pl : QL} {M : List Av}
abbrev Pt := List Lb × Nat
abbrev PQ := List (Pt × Sl)
def ptC (p : Pt × Sl) : List Value := [p.2.v, .float .f64 p.1.2]
def pts (l : PQ) : List Value := l.flatMap ptC
theorem pts_app (a b : PQ) : pts (a ++ b) = pts a ++ pts b := List.flatMap_append
theorem pts_len (l : PQ) : (pts l).length = l.length * 2 := by
  induction l with
  | nil => rfl
  | cons s l ih => simp only [pts, List.flatMap_cons, List.length_append, List.length_cons] at *; simp [ptC] at *; omega
theorem pts_one {l : PQ} : ∀ v ∈ pts l, v.oneCell' = true := by
  intro v hv
  obtain ⟨s, _, hs⟩ := List.mem_flatMap.1 hv
  simp only [ptC, List.mem_cons, List.not_mem_nil, or_false] at hs
  rcases hs with rfl | rfl <;> rfl
theorem pts_at : ∀ (l : PQ) (i : Nat) (p : Pt × Sl), l[i]? = some p → (pts l)[i * 2 + 0]? = some p.2.v ∧ (pts l)[i * 2 + 1]? = some (.float .f64 p.1.2)
  | [], i, p, h => by simp at h
  | x :: l, 0, p, h => by
    simp only [List.getElem?_cons_zero, Option.some.injEq] at h
    subst h
    exact ⟨rfl, rfl⟩
  | x :: l, i + 1, p, h => by
    have ih := pts_at l i p (by simpa using h)
    have e : pts (x :: l) = x.2.v :: .float .f64 x.1.2 :: pts l := rfl
    rw [e, show (i + 1) * 2 + 0 = (i * 2 + 0) + 1 + 1 by omega, show (i + 1) * 2 + 1 = (i * 2 + 1) + 1 + 1 by omega]
    simpa using ih
theorem rdP_n {s : Sl} {l : PQ} (h : Rd w s 2 (pts l)) : s.n = l.length := by have := h.2.1; rw [pts_len] at this; omega
theorem rdP_at {s : Sl} {l : PQ} (h : Rd w s 2 (pts l)) {i : Int} {k : Nat} {p : Pt × Sl} (ei : i = (k : Int)) (hx : l[k]? = some p) {K : Addr → Prop}
    (hK : ∀ a : Addr, w.cell? a = some p.2.v → w.cell? (a.add 1) = some (.float .f64 p.1.2) → K a) : G.ix s.a s.n i 2 K := by
  have hk : k < l.length := (List.getElem?_eq_some_iff.1 hx).1
  have hn := rdP_n h
  subst ei
  obtain ⟨e0, e1⟩ := pts_at l k p hx
  refine Rd.ix h (by decide) (by omega) (by omega) fun a hc => hK a ?_ ?_
  · have := hc 0 _ (by decide) (by rw [Int.toNat_natCast]; exact e0)
    rwa [show a.add 0 = a by simp [Addr.add]] at this
  · exact hc 1 _ (by decide) (by rw [Int.toNat_natCast]; exact e1)
structure RdPs (w : World) (s : Sl) (l : PQ) : Prop where
  row : Rd w s 2 (pts l)
  el : ∀ p ∈ l, Rd w p.2 2 (labs p.1.1)
theorem RdPs.keep {s : Sl} {l : PQ} (h : RdPs w s l) (k : Keep w w') : RdPs w' s l := ⟨h.row.keep k, fun p hp => (h.el p hp).keep k⟩
def tstep (r : Rl) (x : Bool × List Av) (p : Pt) : Bool × List Av := (x.1 || (getM x.2 (labO r p.1)).isSome, insM (labO r p.1, 0, 0, 0, 0, p.2) x.2)
def toldS (r : Rl) (ps : List Pt) : Bool × List Av := ps.foldl (tstep r) (false, [])
def firstE (r : Rl) : List Pt → Int
  | [] => 0
  | p :: ps => if wE p.1 (moreA r) ≠ 0 then wE p.1 (moreA r) else firstE r ps
def toldE (r : Rl) (ps : List Pt) : Int := if firstE r ps ≠ 0 then firstE r ps else if (toldS r ps).1 then 150 else 0
def toldL (r : Rl) (ps : List Pt) : List Av := (toldS r ps).2
theorem toldS_take {r : Rl} {ps : List Pt} {i : Nat} (h : i < ps.length) : toldS r (ps.take (i + 1)) = tstep r (toldS r (ps.take i)) ps[i] := by
  unfold toldS
  rw [List.take_succ_eq_append_getElem h, List.foldl_append]; rfl
theorem labO_rt {r : Rl} {m : List Lb} (hr : RlOk r) (h : wE m (moreA r) = 0) : (rt (labO r m)).1 = 0 := by
  have h1 : (rt m).1 = 0 := by
    by_cases e : (rt m).1 = 0
    · exact e
    · unfold wE at h; rw [if_pos e] at h; exact absurd h (by decide)
  have h2 : (outL m (moreA r)).length ≤ 16 := by
    rcases Nat.lt_or_ge 16 (outL m (moreA r)).length with h' | h'
    · unfold wE at h; rw [if_neg (by rw [h1]; decide), if_pos h'] at h; exact absurd h (by decide)
    · exact h'
  refine outL_rt h1 (moreA_names hr) (fun x hx hne => ?_) h2
  unfold moreA at hx
  rcases List.mem_cons.1 hx with rfl | hx
  · exact absurd rfl hne
  · rcases List.mem_cons.1 hx with rfl | hx
    · exact ⟨goodA, hr.val⟩
    · exact ((rt_iff _).1 hr.rt).2.1 x hx
theorem toldS_up (r : Rl) (ps : List Pt) : (toldS r ps).2.Pairwise ltA := by
  unfold toldS
  have key : ∀ (ps : List Pt) (x : Bool × List Av), x.2.Pairwise ltA → (ps.foldl (tstep r) x).2.Pairwise ltA := by
    intro ps
    induction ps with
    | nil => intro x h; exact h
    | cons p ps ih => intro x h; exact ih _ (insM_up h)
  exact key ps _ List.Pairwise.nil
theorem toldS_len (r : Rl) (ps : List Pt) : (toldS r ps).2.length ≤ ps.length := by
  unfold toldS
  have key : ∀ (ps : List Pt) (x : Bool × List Av), (ps.foldl (tstep r) x).2.length ≤ x.2.length + ps.length := by
    intro ps
    induction ps with
    | nil => intro x; exact Nat.le_refl _
    | cons p ps ih =>
      intro x
      have h1 := ih (tstep r x p)
      have h2 : (tstep r x p).2.length ≤ x.2.length + 1 := insM_len
      rw [List.foldl_cons, List.length_cons]; omega
  have := key ps (false, [])
  rw [List.length_nil] at this; omega
theorem firstE_drop {r : Rl} : ∀ {ps : List Pt} {i : Nat}, (∀ j (h : j < ps.length), j < i → wE (ps[j]).1 (moreA r) = 0) → firstE r ps = firstE r (ps.drop i)
  | _, 0, _ => by rw [List.drop_zero]
  | [], _ + 1, _ => by simp
  | p :: ps, i + 1, h => by
    have h0 : wE p.1 (moreA r) = 0 := h 0 (by simp) (by omega)
    rw [List.drop_succ_cons, firstE, if_neg (by rw [h0]; decide)]
    exact firstE_drop fun j hj hji => h (j + 1) (by simpa using hj) (by omega)
structure KSa (ω : Tg) (w : World) (t gs gm : Nat) (r : Rl) (last : Int) (pl : QL) (rs : Sl) : Prop where
  hd : BT ω w t gs 75 [.bool r.rc, .string r.nm, .string r.ex, .int .i64 r.fo, .int .i64 r.ke, rs.v, .map (some gm), .int .i64 last]
  rl : RT ω w (t + 3) rs 2 (labs r.ls)
  pm : PM ω w (t + 1) (t + 2) gm pl
def KS (ω : Tg) (w : World) (t gs : Nat) (r : Rl) (last : Int) (M : List Av) : Prop := ∃ gm pl rs, KSa ω w t gs gm r last pl rs ∧ (pl.map (·.1)).Perm M
def Off (t : Nat) (T : Nat → Bool) : Prop := T t = false ∧ T (t + 1) = false ∧ T (t + 2) = false ∧ T (t + 3) = false
theorem off_non (t : Nat) : Off t Non := ⟨rfl, rfl, rfl, rfl⟩
theorem off_one {t u : Nat} (h : u < t ∨ t + 3 < u) : Off t (Mem.One u) := ⟨beq_no (by omega), beq_no (by omega), beq_no (by omega), beq_no (by omega)⟩
theorem KSa.stp {r : Rl} {last : Int} {rs : Sl} (h : KSa ω w t gs gm r last pl rs) (k : Stp T ω ω' w w') (hT : Off t T) : KSa ω' w' t gs gm r last pl rs := ⟨h.hd.stp k hT.1, h.rl.stp k hT.2.2.2, h.pm.stp k hT.2.1 hT.2.2.1⟩
theorem KS.stp {r : Rl} {last : Int} (h : KS ω w t gs r last M) (k : Stp T ω ω' w w') (hT : Off t T) : KS ω' w' t gs r last M := let ⟨gm, pl, rs, a, b⟩ := h; ⟨gm, pl, rs, a.stp k hT, b⟩
theorem KSa.aw {r : Rl} {last : Int} {rs : Sl} (h : KSa ω w t gs gm r last pl rs) : AW w gs gm pl := ⟨by rw [h.hd.cell]; rfl, ⟨h.pm.mp.ex, rfl⟩, fun p hp => (h.pm.rt p hp).rd⟩
theorem ks_rule {r : Rl} {last : Int} {rs : Sl} (hb : Blk w gs 75 [.bool r.rc, .string r.nm, .string r.ex, .int .i64 r.fo, .int .i64 r.ke, rs.v, .map (some gm), .int .i64 last]) {Z : Bool → ByteArray → ByteArray → Int → Int → Sl → Prop} (hZ : Z r.rc r.nm r.ex r.fo r.ke rs) :
    G.cB ⟨gs, 0, none⟩ w fun b => G.cS (Addr.add ⟨gs, 0, none⟩ 1) w fun s1 => G.cS (Addr.add ⟨gs, 0, none⟩ 2) w fun s2 => G.cI .i64 (Addr.add ⟨gs, 0, none⟩ 3) w fun n1 => G.cI .i64 (Addr.add ⟨gs, 0, none⟩ 4) w fun n2 => G.cSl (Addr.add ⟨gs, 0, none⟩ 5) w fun l => Z b s1 s2 n1 n2 l :=
  cB_at (b := r.rc) (by rw [hb.cell]; rfl) <| cS_at (b := r.nm) (by rw [addr_add, hb.cell]; rfl) <| cS_at (b := r.ex) (by rw [addr_add, hb.cell]; rfl) <| cI_at (n := r.fo) (by rw [addr_add, hb.cell]; rfl) <| cI_at (n := r.ke) (by rw [addr_add, hb.cell]; rfl) <| cSl_at (s := rs) (by rw [addr_add, hb.cell]; rfl) hZ
theorem isNil_nil {Z : Bool → Prop} (h : Z true) : G.isNilI .nilIface Z := h
theorem isNil_fault {e : Int} {Z : Bool → Prop} (h : Z false) : G.isNilI (fault e) Z := h
def ft (a b x : Nat) : Nat := if x = 5 then a else if x = 6 then b else 0
theorem told_ok (ω : Tg) {r : Rl} {last : Int} {rs s : Sl} {q : PQ} (hr : RlOk r) (ht : UTab w) (hb : Blk w gs 75 [.bool r.rc, .string r.nm, .string r.ex, .int .i64 r.fo, .int .i64 r.ke, rs.v, .map (some gm), .int .i64 last]) (hrs : Rd w rs 2 (labs r.ls))
    (hq : RdPs w s q) (hl : q.length ≤ 10000000) (ta tb : Nat) {K : Option Nat → Value → World → Prop}
    (hK : ∀ m x ω' w', Stp Non ω ω' w w' → (toldE r (q.map (·.1)) ≠ 0 → m = none ∧ x = fault (toldE r (q.map (·.1)))) → (toldE r (q.map (·.1)) = 0 → x = .nilIface ∧ ∃ g, m = some g ∧ MS ω' w' ta tb g (toldL r (q.map (·.1)))) → K m x w') :
    C.rules_Keeper_told (some ⟨gs, 0, none⟩) s w K := by
  unfold C.rules_Keeper_told
  have hsn := rdP_n hq.row
  refine mkV (ω := fun _ => 0) 5 fun go ω1 w1 k1 m1 => ?_
  have top1 := (Top.init w).stp k1
  unfold C.rules_Keeper_told.S9
  refine C.rules_Keeper_told.L5_ind fun X hX => ?_
  generalize hps : q.map (·.1) = ps at *
  have hpl : ps.length = q.length := by rw [← hps, List.length_map]
  have key : ∀ (d i : Nat) (ωl : Tg) (w2 : World), i + d = q.length → Top w ωl w2 → MS ωl w2 5 6 go (toldS r (ps.take i)).2 → (∀ j (h : j < ps.length), j < i → wE (ps[j]).1 (moreA r) = 0) → X (some ⟨gs, 0, none⟩) (some go) (toldS r (ps.take i)).1 s ((s.n : Nat) : Int) (i : Int) w2 := by
    intro d
    induction d with
    | zero =>
      intro i ωl w2 hi top ms h0
      refine hX _ _ _ _ _ _ _ ?_
      unfold C.rules_Keeper_told.S7 C.rules_Keeper_told.S2 C.rules_wrong
      have efe : firstE r ps = 0 := by rw [firstE_drop (i := ps.length) fun j h _ => h0 j h (by omega), List.drop_length]; rfl
      rw [List.take_of_length_le (by omega)] at ms ⊢
      have ee : toldE r ps = if (toldS r ps).1 then 150 else 0 := by unfold toldE; rw [if_neg (by rw [efe]; decide)]
      refine cond_d (fun h => by omega) (fun _ => cond_of (fun htw => ?_) (fun htw => ?_))
      · rw [if_pos htw] at ee
        exact hK none _ (rtg ω ωl w.heap.size (ft ta tb)) w2 (rtg_stp top.k ω ωl _) (fun _ => ⟨rfl, by rw [ee]⟩) (fun h => by rw [ee] at h; exact absurd h (by decide))
      · rw [if_neg (by rw [htw]; decide)] at ee
        obtain ⟨pl, pm, hp⟩ := ms
        exact hK (some go) _ (rtg ω ωl w.heap.size (ft ta tb)) w2 (rtg_stp top.k ω ωl _) (fun h => absurd ee h) (fun _ => ⟨rfl, go, rfl, pl, ⟨pm.mp.rtg top (ft ta tb), fun p hp => (pm.rt p hp).rtg top (ft ta tb)⟩, hp⟩)
    | succ d ih =>
      intro i ωl w2 hi top ms h0
      refine hX _ _ _ _ _ _ _ ?_
      unfold C.rules_Keeper_told.S7
      have hiq : i < q.length := by omega
      have hx : q[i]? = some q[i] := List.getElem?_eq_getElem hiq
      have epi : ps[i]'(by omega) = (q[i]).1 := by simp [← hps]
      have hmem := List.getElem_mem hiq
      have est := toldS_take (r := r) (show i < ps.length by omega)
      rw [epi] at est
      have hup := toldS_up r (ps.take i)
      have hTl := toldS_len r (ps.take i)
      rw [List.length_take] at hTl
      refine cond_d (fun _ => ?_) (fun h => by omega)
      refine rdP_at (hq.row.keep top.k) (k := i) rfl hx fun a a0 a1 => cSl_at a0 <| cF_at a1 ?_
      refine newD fun g3 w3 k3 hg3 b3 => stD hg3 k3 b3 (by simp) fun w4 k4 b4 => stDA hg3 k4 b4 (by simp) fun w5 k5 b5 => ?_
      have b5 : Blk w5 g3 45 [(q[i]).2.v, .float .f64 (q[i]).1.2] := b5
      have k25 : Keep w2 w5.drew := Keep.trans k5.1 (Keep.drew w5)
      have b5d := b5.keep (Keep.drew w5)
      have s5 := k25.stp ωl 7
      have top5 := top.stp s5
      have ms5 := ms.stp s5 rfl rfl
      generalize ext ωl w2.heap.size 7 = ω5 at *
      refine ptr_at <| ks_rule (hb.keep top5.k) <| cSl_at (s := (q[i]).2) (by rw [b5d.cell]; rfl) ?_
      refine alert_ok hr (ht.keep top5.k) (hrs.keep top5.k) ((hq.el _ hmem).keep top5.k) fun l6 x6 w6 k6 h61 h62 => ?_
      by_cases he : wE (q[i]).1.1 (moreA r) = 0
      · obtain ⟨rfl, o6⟩ := h62 he
        have hrt := labO_rt hr he
        have s6 := k6.stp ω5 6
        have r6 : RT (ext ω5 w5.drew.heap.size 6) w6 6 l6 2 (labs (labO r (q[i]).1.1)) := Own.rt o6 (Nat.le_refl _) ω5 6
        have top6 := top5.stp s6
        have ms6 := ms5.stp s6 rfl rfl
        generalize ext ω5 w5.drew.heap.size 6 = ω6 at *
        refine isNil_nil ?_
        refine cond_f rfl ?_
        refine key_ok (ht.keep top6.k) r6.rd hrt fun w7 k7 => ?_
        have s7 := k7.stp0 ω6
        have top7 := top6.stp s7
        have ms7 := ms6.stp s7 rfl rfl
        have r7 := r6.stp s7
        obtain ⟨pl, pm7, hp7⟩ := ms7
        -- behind the look
        have next : ∀ (b : Bool), b = (getM (toldS r (ps.take i)).2 (labO r (q[i]).1.1)).isSome → ∀ w8, Keep w7 w8 →
            G.cond (toldS r (ps.take i)).1 (G.cF .f64 (Addr.add ⟨g3, 0, none⟩ 1) w8.drew fun f65 => C.rules_key l6 w8.drew fun s66 w67 => sameAt (Addr.add ⟨g3, 0, none⟩ 1) 1 w8.drew w67 ∧ (G.runU C.pr (Instr.mapUpdate 73 (.map (some go)) (.string s66) (.agg #[l6.v, (.int .i64 (0 : Int)), (.int .i64 (0 : Int)), (.int .i64 (0 : Int)), (.int .i64 (0 : Int)), (.float .f64 f65)])) w67 fun w68 => X (some ⟨gs, 0, none⟩) (some go) true s ((s.n : Nat) : Int) (IntKind.i64.wrap ((i : Int) + (1 : Int))) w68))
              (G.cF .f64 (Addr.add ⟨g3, 0, none⟩ 1) w8.drew fun f65 => C.rules_key l6 w8.drew fun s66 w67 => sameAt (Addr.add ⟨g3, 0, none⟩ 1) 1 w8.drew w67 ∧ (G.runU C.pr (Instr.mapUpdate 73 (.map (some go)) (.string s66) (.agg #[l6.v, (.int .i64 (0 : Int)), (.int .i64 (0 : Int)), (.int .i64 (0 : Int)), (.int .i64 (0 : Int)), (.float .f64 f65)])) w67 fun w68 => X (some ⟨gs, 0, none⟩) (some go) b s ((s.n : Nat) : Int) (IntKind.i64.wrap ((i : Int) + (1 : Int))) w68)) := by
          intro b eb w8 k8
          have k58 : Keep w5.drew w8.drew := Keep.trans k6 (Keep.trans k7 (Keep.trans k8 (Keep.drew w8)))
          have b8 := b5d.keep k58
          have s8 := (Keep.trans k8 (Keep.drew w8)).stp0 ω6
          have top8 := top7.stp s8
          have pm8 := pm7.stp s8 rfl rfl
          have r8 := r7.stp s8
          have go' : ∀ b', b' = (tstep r (toldS r (ps.take i)) (q[i]).1).1 → G.cF .f64 (Addr.add ⟨g3, 0, none⟩ 1) w8.drew fun f65 => C.rules_key l6 w8.drew fun s66 w67 => sameAt (Addr.add ⟨g3, 0, none⟩ 1) 1 w8.drew w67 ∧ (G.runU C.pr (Instr.mapUpdate 73 (.map (some go)) (.string s66) (.agg #[l6.v, (.int .i64 (0 : Int)), (.int .i64 (0 : Int)), (.int .i64 (0 : Int)), (.int .i64 (0 : Int)), (.float .f64 f65)])) w67 fun w68 => X (some ⟨gs, 0, none⟩) (some go) b' s ((s.n : Nat) : Int) (IntKind.i64.wrap ((i : Int) + (1 : Int))) w68) := by
            intro b' eb'
            refine cF_at (b := (q[i]).1.2) (by rw [addr_add, b8.cell]; rfl) <| key_ok (ht.keep top8.k) r8.rd hrt fun w9 k9 => ⟨by rw [addr_add]; exact sameK b8 k9, ?_⟩
            have s9 := k9.stp0 ω6
            have top9 := top8.stp s9
            have pm9 := pm8.stp s9 rfl rfl
            have r9 := r8.stp s9
            refine updV (v := encV ((labO r (q[i]).1.1, 0, 0, 0, 0, (q[i]).1.2), l6)) pm9.mp mapT strT fun ω10 w10 k10 m10 => ?_
            have ms10 := upd_MS (a := (labO r (q[i]).1.1, 0, 0, 0, 0, (q[i]).1.2)) (sl := l6) (by decide) pm9 hp7 hup k10 m10 r9
            rw [wI64 (by omega) (by omega), show (i : Int) + 1 = ((i + 1 : Nat) : Int) by omega, eb', ← est]
            refine ih (i + 1) ω10 w10 (by omega) (top9.stp k10) (by rw [est]; exact ms10) fun j h hj => ?_
            by_cases e : j = i
            · subst e; rw [epi]; exact he
            · exact h0 j h (by omega)
          refine cond_of (fun htw => go' true ?_) (fun htw => go' b ?_)
          · unfold tstep; rw [htw]; rfl
          · unfold tstep; rw [htw, eb]; rfl
        refine look_ok pm7.mp hp7 hup (fun hn => ?_) (fun p hpm hg => ?_)
        · refine enc_at (zeroA, nilS) <| loc_ok (zeroA, nilS) fun g8 w8 k8 _ _ => ?_
          exact next false (by rw [hn]; rfl) w8 k8.1
        · refine enc_at p <| loc_ok p fun g8 w8 k8 _ _ => ?_
          exact next true (by rw [hg]; rfl) w8 k8.1
      · obtain ⟨rfl, rfl⟩ := h61 he
        have efe : firstE r ps = wE (q[i]).1.1 (moreA r) := by
          rw [firstE_drop h0, List.drop_eq_getElem_cons (show i < ps.length by omega), firstE, epi, if_pos he]
        have ee : toldE r ps = wE (q[i]).1.1 (moreA r) := by unfold toldE; rw [efe, if_pos he]
        have top6 : Top w (ext ω5 w5.drew.heap.size 8) w6 := top5.stp (k6.stp ω5 8)
        refine isNil_fault ?_
        refine cond_t rfl (hK none _ (rtg ω _ w.heap.size (ft ta tb)) w6 (rtg_stp top6.k ω (ext ω5 w5.drew.heap.size 8) _) (fun _ => ⟨rfl, by rw [ee]⟩) (fun h => absurd (ee.symm.trans h) he))
  exact key q.length 0 ω1 w1 (by omega) top1 ⟨[], ⟨m1, by simp⟩, by simp [toldS]⟩ (fun j h hj => by omega)
end Go.Proofs.YtechilkjfhpkpaaGreatDoor.Ru

namespace Go.Proofs.YtechilkjfhpkpaaGreatDoor.Ru
open Go Vm Go.RowKit Num Mem Utf Lib Lab
variable {ω ω' ωb : Tg} {w w' w0 wb : World} {t v v1 v2 ga gx gs gm : Nat} {T : Nat → Bool} {pl : QL} {M : List Av} {r : Rl} {last now : Int} {rs sa sx : Sl}
def nextA (r : Rl) (now : Int) (o : Option Av) (l : List Lb) (b : Nat) : Av :=
  match o with
  | some x => if x.2.1 = 1 ∧ IntKind.i64.wrap (now - x.2.2.1) ≥ r.fo then (l, 2, x.2.2.1, now, -1, b) else (l, x.2.1, x.2.2.1, x.2.2.2.1, -1, b)
  | none => if IntKind.i64.wrap (now - now) ≥ r.fo then (l, 2, now, now, -1, b) else (l, 1, now, -1, -1, b)
def upA (r : Rl) (now : Int) (x : Av) (b : Nat) : Av := if x.2.1 = 1 ∧ IntKind.i64.wrap (now - x.2.2.1) ≥ r.fo then (x.1, 2, x.2.2.1, now, -1, b) else (x.1, x.2.1, x.2.2.1, x.2.2.2.1, -1, b)
theorem nextA_some {x : Av} {l : List Lb} (h : x.1 = l) (b : Nat) : nextA r now (some x) l b = upA r now x b := by subst h; rfl
theorem nextA_none (l : List Lb) (b : Nat) (z : Nat) : nextA r now none l b = upA r now (l, 1, now, -1, 0, z) b := by
  unfold nextA upA
  simp only [true_and]
structure NX (ωb ω : Tg) (wb w w0 : World) (t v1 v2 ga gx gs gm : Nat) (r : Rl) (last : Int) (pl : QL) (rs : Sl) (M : List Av) (q : Av × Sl) : Prop where
  sp : Stp (Mem.One (t + 1)) ωb ω wb w
  top : Top w0 ω w
  tab : UTab w0
  t0 : 0 < t
  f1 : ∀ i, i < wb.heap.size → ωb i ≠ v1
  f2 : ∀ i, i < wb.heap.size → ωb i ≠ v2
  lt1 : t + 3 < v1
  lt2 : v1 < v2
  ks : KSa ω w t gs gm r last pl rs
  hp : (pl.map (·.1)).Perm M
  up : M.Pairwise ltA
  ba : BT ω w v1 ga 41 (avC q)
  qr : RT ω w (t + 2) q.2 2 (labs q.1.1)
  rt : (rt q.1.1).1 = 0
variable {q : Av × Sl}
theorem NX.non (h : NX ωb ω wb w w0 t v1 v2 ga gx gs gm r last pl rs M q) (k : Stp Non ω ω' w w') : NX ωb ω' wb w' w0 t v1 v2 ga gx gs gm r last pl rs M q :=
  { h with sp := h.sp.trans (k.non _), top := h.top.stp k, ks := h.ks.stp k (off_non t), ba := h.ba.stp k, qr := h.qr.stp k }
theorem NX.two (h : NX ωb ω wb w w0 t v1 v2 ga gx gs gm r last pl rs M q) (k : Stp (Mem.One v2) ω ω' w w') : NX ωb ω' wb w' w0 t v1 v2 ga gx gs gm r last pl rs M q :=
  have l1 := h.lt1
  have l2 := h.lt2
  { h with sp := h.sp.fresh k h.f2, top := h.top.stp k (beq_no (by omega)), ks := h.ks.stp k (off_one (by omega)), ba := h.ba.stp k (beq_no (by omega)), qr := h.qr.stp k (beq_no (by omega)) }
theorem next_S2 {x : Av} (h : NX ωb ω wb w w0 t v1 v2 ga gx gs gm r last pl rs M q) (bx : BT ω w v2 gx 41 (avC (x, sx))) (hx : x.1 = q.1.1) (rx : RT ω w (t + 2) sx 2 (labs x.1)) {K : World → Prop}
    (hK : ∀ ω' w', Stp (Mem.One (t + 1)) ωb ω' wb w' → MS ω' w' (t + 1) (t + 2) gm (insM x M) → K w') : C.rules_Keeper_next.S2 K (some ⟨gs, 0, none⟩) (some ⟨ga, 0, none⟩) (some ⟨gx, 0, none⟩) w := by
  unfold C.rules_Keeper_next.S2
  have sd := drew_stp ω w
  have hd := h.non sd
  have bd := bx.stp sd
  have rd := rx.stp sd
  refine ptr_at ⟨some gm, by rw [addr_add, hd.ks.hd.cell]; rfl, ptr_at <| cSl_at (s := q.2) (by rw [hd.ba.cell]; rfl) <| ptr_at <| ac_at (blk_ac bd.blk) ?_⟩
  refine key_ok (hd.tab.keep hd.top.k) hd.qr.rd h.rt fun w2 k2 => ⟨by rw [addr_add]; exact sameK hd.ks.hd.blk k2, sameK bd.blk k2, ?_⟩
  have s2 := k2.stp0 ω
  have h2 := hd.non s2
  have r2 := rd.stp s2
  rw [show Lab.keyOf q.1.1 = Lab.keyOf x.1 by rw [hx]]
  refine updV (v := encV (x, sx)) h2.ks.pm.mp mapT strT fun ω3 w3 k3 m3 => ?_
  exact hK ω3 w3 (h2.sp.trans k3) (upd_MS (by omega) h2.ks.pm h.hp h.up k3 m3 r2)
theorem next_S3 {x : Av} {b : Nat} (hb : q.1.2.2.2.2.2 = b) (h : NX ωb ω wb w w0 t v1 v2 ga gx gs gm r last pl rs M q) (bx : BT ω w v2 gx 41 (avC (x, sx))) (hx : x.1 = q.1.1) (rx : RT ω w (t + 2) sx 2 (labs x.1)) {K : World → Prop}
    (hK : ∀ ω' w', Stp (Mem.One (t + 1)) ωb ω' wb w' → MS ω' w' (t + 1) (t + 2) gm (insM (upA r now x b) M) → K w') : C.rules_Keeper_next.S3 K (some ⟨gs, 0, none⟩) now (some ⟨ga, 0, none⟩) (some ⟨gx, 0, none⟩) w := by
  unfold C.rules_Keeper_next.S3
  have l1 := h.lt1
  have l2 := h.lt2
  have sd := drew_stp ω w
  have hd := h.non sd
  have bd := bx.stp sd
  have rd := rx.stp sd
  refine ptr_at <| cF_at (b := b) (by rw [addr_add, hd.ba.cell, ← hb]; rfl) <| ptr_at <| st_TA bd (by simp [avC]) fun ω1 w1 k1 b1 => ⟨hd.ba.sameA k1 (beq_no (by omega)), ?_⟩
  refine ptr_at <| st_TA b1 (by simp [avC]) fun ω2 w2 k2 b2 => ?_
  have k12 := k1.trans k2
  have h2 := hd.two k12
  have r2 := rd.stp k12 (beq_no (by omega))
  have sd2 := drew_stp ω2 w2
  have h3 := h2.non sd2
  have b3 := b2.stp sd2
  have r3 := r2.stp sd2
  have b3 : BT ω2 w2.drew v2 gx 41 (avC ((x.1, x.2.1, x.2.2.1, x.2.2.2.1, -1, b), sx)) := b3
  refine ptr_at <| cI_at (n := x.2.1) (by rw [addr_add, b3.cell]; rfl) <| cond_eq (fun h1 => ?_) (fun h1 => ?_)
  · refine ptr_at <| cI_at (n := x.2.2.1) (by rw [addr_add, b3.cell]; rfl) <| ptr_at <| cI_at (n := r.fo) (by rw [addr_add, h3.ks.hd.cell]; rfl) <| cond_d (fun hge => ?_) (fun hlt => ?_)
    · refine ptr_at <| st_TA b3 (by simp [avC]) fun ω4 w4 k4 b4 => ptr_at <| st_TA b4 (by simp [avC]) fun ω5 w5 k5 b5 => ?_
      have k45 := k4.trans k5
      refine next_S2 (x := (x.1, 2, x.2.2.1, now, -1, b)) (h3.two k45) b5 hx (r3.stp k45 (beq_no (by omega))) fun ω' w' k m => hK ω' w' k ?_
      unfold upA
      rw [if_pos ⟨h1, hge⟩]; exact m
    · refine next_S2 (x := (x.1, x.2.1, x.2.2.1, x.2.2.2.1, -1, b)) h3 b3 hx r3 fun ω' w' k m => hK ω' w' k ?_
      unfold upA
      rw [if_neg (fun hh => hlt hh.2)]; exact m
  · refine next_S2 (x := (x.1, x.2.1, x.2.2.1, x.2.2.2.1, -1, b)) h3 b3 hx r3 fun ω' w' k m => hK ω' w' k ?_
    unfold upA
    rw [if_neg (fun hh => h1 hh.1)]; exact m
theorem next_tail {x : Av} {b : Nat} {o : Bool} (hb : q.1.2.2.2.2.2 = b) (h : NX ωb ω wb w w0 t v1 v2 ga gx gs gm r last pl rs M q) (bx : BT ω w v2 gx 41 (avC (x, sx)))
    (hn : o = false → getM M q.1.1 = none) (hy : o = true → getM M q.1.1 = some x ∧ x.1 = q.1.1 ∧ RT ω w (t + 2) sx 2 (labs x.1)) {K : World → Prop}
    (hK : ∀ ω' w', Stp (Mem.One (t + 1)) ωb ω' wb w' → MS ω' w' (t + 1) (t + 2) gm (insM (nextA r now (getM M q.1.1) q.1.1 b) M) → K w') :
    G.cond (!o) (G.cSl ⟨ga, 0, none⟩ w fun l => G.st ⟨gx, 0, none⟩ l.v w fun w1 => G.st (Addr.add ⟨gx, 0, none⟩ 1) (.int .i64 (1 : Int)) w1 fun w2 => G.st (Addr.add ⟨gx, 0, none⟩ 2) (.int .i64 now) w2 fun w3 => G.st (Addr.add ⟨gx, 0, none⟩ 3) (.int .i64 (-1 : Int)) w3 fun w4 => G.st (Addr.add ⟨gx, 0, none⟩ 4) (.int .i64 (0 : Int)) w4 fun w5 => G.st (Addr.add ⟨gx, 0, none⟩ 5) (.float .f64 0) w5 fun w6 =>
      C.rules_Keeper_next.S3 K (some ⟨gs, 0, none⟩) now (some ⟨ga, 0, none⟩) (some ⟨gx, 0, none⟩) w6) (C.rules_Keeper_next.S3 K (some ⟨gs, 0, none⟩) now (some ⟨ga, 0, none⟩) (some ⟨gx, 0, none⟩) w) := by
  have l1 := h.lt1
  have l2 := h.lt2
  cases o with
  | false =>
    have hn := hn rfl
    rw [hn, nextA_none q.1.1 b 0] at hK
    refine cond_t rfl <| cSl_at (s := q.2) (by rw [h.ba.cell]; rfl) ?_
    refine st_T bx (by simp [avC]) fun ω1 w1 k1 b1 => st_TA b1 (by simp [avC]) fun ω2 w2 k2 b2 => st_TA b2 (by simp [avC]) fun ω3 w3 k3 b3 => st_TA b3 (by simp [avC]) fun ω4 w4 k4 b4 => st_TA b4 (by simp [avC]) fun ω5 w5 k5 b5 => st_TA b5 (by simp [avC]) fun ω6 w6 k6 b6 => ?_
    have kk := (((((k1.trans k2).trans k3).trans k4).trans k5).trans k6)
    exact next_S3 (x := (q.1.1, 1, now, -1, 0, 0)) (sx := q.2) hb (h.two kk) b6 rfl (h.qr.stp kk (beq_no (by omega))) hK
  | true =>
    obtain ⟨e, hx, rx⟩ := hy rfl
    rw [e, nextA_some hx] at hK
    exact cond_f rfl (next_S3 hb h bx hx rx hK)
theorem next_ok (ks : KSa ω w t gs gm r last pl rs) (hp : (pl.map (·.1)).Perm M) (hM : M.Pairwise ltA) (top : Top w0 ω w) (htab : UTab w0) (t0 : 0 < t) (q : Av × Sl) (qr : RT ω w (t + 2) q.2 2 (labs q.1.1)) (hr : (rt q.1.1).1 = 0) {K : World → Prop}
    (hK : ∀ ω' w', Stp (Mem.One (t + 1)) ω ω' w w' → MS ω' w' (t + 1) (t + 2) gm (insM (nextA r now (getM M q.1.1) q.1.1 q.1.2.2.2.2.2) M) → K w') :
    C.rules_Keeper_next (some ⟨gs, 0, none⟩) now q.2 q.1.2.1 q.1.2.2.1 q.1.2.2.2.1 q.1.2.2.2.2.1 q.1.2.2.2.2.2 w K := by
  unfold C.rules_Keeper_next
  obtain ⟨v1, hv1, hf1⟩ := fresh ω w.heap.size (t + 3)
  obtain ⟨v2, hv2, hf2⟩ := fresh ω w.heap.size v1
  refine new_T (ω := ω) v1 fun ga ω1 w1 k1 b1 => ?_
  have h1 : NX ω ω1 w w1 w0 t v1 v2 ga 0 gs gm r last pl rs M q := ⟨k1.non _, top.stp k1, htab, t0, hf1, hf2, hv1, hv2, ks.stp k1 (off_non t), hp, hM, b1, qr.stp k1, hr⟩
  have h1d := h1.non (drew_stp ω1 w1)
  refine ptr_at ⟨some gm, by rw [addr_add, h1d.ks.hd.cell]; rfl, cSl_at (s := q.2) (by rw [h1d.ba.cell]; rfl) ?_⟩
  -- what stands in the map
  have look : ∀ {ω' : Tg} {w' : World} (_ : NX ω ω' w w' w0 t v1 v2 ga 0 gs gm r last pl rs M q) {Z : Value → Bool → Prop}, (∀ (p : Av × Sl) (o : Bool), (o = false → getM M q.1.1 = none) → (o = true → getM M q.1.1 = some p.1 ∧ p.1.1 = q.1.1 ∧ RT ω' w' (t + 2) p.2 2 (labs p.1.1)) → Z (encV p) o) →
      G.rd2 C.pr (Instr.lookup 73 (.map (some gm)) (.string (Lab.keyOf q.1.1)) true) (fun v : Value => v) w' Z := fun {ω' w'} h {Z} hZ =>
    look_ok h.ks.pm.mp hp hM (fun hn => hZ (zeroA, nilS) false (fun _ => hn) (fun e => by cases e)) (fun p hpm hg => hZ p true (fun e => by cases e) fun _ => ⟨hg, ((getM_some hM).1 hg).2, h.ks.pm.rt p hpm⟩)
  have re : ∀ {ω' : Tg} {w' : World} {gx : Nat}, NX ω ω' w w' w0 t v1 v2 ga 0 gs gm r last pl rs M q → NX ω ω' w w' w0 t v1 v2 ga gx gs gm r last pl rs M q := fun h => ⟨h.sp, h.top, h.tab, h.t0, h.f1, h.f2, h.lt1, h.lt2, h.ks, h.hp, h.up, h.ba, h.qr, h.rt⟩
  refine ⟨?_, ?_⟩
  · refine key_ok (htab.keep h1d.top.k) h1d.qr.rd hr fun w2 k2 => ⟨by rw [addr_add]; exact sameK h1d.ks.hd.blk k2, ?_⟩
    have h2 := h1d.non (k2.stp0 ω1)
    refine ⟨look h2 fun p o hn hy => enc_at p ?_, ?_⟩
    · refine new_T (ω := ω1) v2 fun gx ω3 w3 k3 b3 => ?_
      refine st_T b3 (by simp) fun ω4 w4 k4 b4 => st_TA b4 (by simp) fun ω5 w5 k5 b5 => st_TA b5 (by simp) fun ω6 w6 k6 b6 => st_TA b6 (by simp) fun ω7 w7 k7 b7 => st_TA b7 (by simp) fun ω8 w8 k8 b8 => st_TA b8 (by simp) fun ω9 w9 k9 b9 => ?_
      have kk := (((((k4.trans k5).trans k6).trans k7).trans k8).trans k9)
      have h3 := h2.non k3
      refine next_tail (x := p.1) (sx := p.2) rfl (re (h3.two kk)) b9 hn (fun e => ?_) hK
      obtain ⟨a, b, c⟩ := hy e
      exact ⟨a, b, (c.stp k3).stp kk (beq_no (by omega))⟩
    · refine new_T (ω := ω1) v2 fun gx ω3 w3 k3 b3 => ⟨?_, ?_⟩
      · rw [addr_add]; exact (h1d.ks.hd.sameT ((k2.stp0 ω1).trans k3))
      · have h3 := h2.non k3
        refine look h3 fun p o hn hy => enc_at p ?_
        refine st_T b3 (by simp) fun ω4 w4 k4 b4 => st_TA b4 (by simp) fun ω5 w5 k5 b5 => st_TA b5 (by simp) fun ω6 w6 k6 b6 => st_TA b6 (by simp) fun ω7 w7 k7 b7 => st_TA b7 (by simp) fun ω8 w8 k8 b8 => st_TA b8 (by simp) fun ω9 w9 k9 b9 => ?_
        have kk := (((((k4.trans k5).trans k6).trans k7).trans k8).trans k9)
        refine next_tail (x := p.1) (sx := p.2) rfl (re (h3.two kk)) b9 hn (fun e => ?_) hK
        obtain ⟨a, b, c⟩ := hy e
        exact ⟨a, b, c.stp kk (beq_no (by omega))⟩
  · refine new_T (ω := ω1) v2 fun gx ω2 w2 k2 b2 => ⟨?_, h1d.ba.sameT k2, ?_⟩
    · rw [addr_add]; exact h1d.ks.hd.sameT k2
    · have h2 := h1d.non k2
      refine key_ok (htab.keep h2.top.k) h2.qr.rd hr fun w3 k3 => ⟨?_, ?_⟩
      · rw [addr_add]; exact h1d.ks.hd.sameT (k2.trans (k3.stp0 ω2))
      · have h3 := h2.non (k3.stp0 ω2)
        have b3 := b2.stp (k3.stp0 ω2)
        refine look h3 fun p o hn hy => enc_at p ?_
        refine st_T b3 (by simp) fun ω4 w4 k4 b4 => st_TA b4 (by simp) fun ω5 w5 k5 b5 => st_TA b5 (by simp) fun ω6 w6 k6 b6 => st_TA b6 (by simp) fun ω7 w7 k7 b7 => st_TA b7 (by simp) fun ω8 w8 k8 b8 => st_TA b8 (by simp) fun ω9 w9 k9 b9 => ?_
        have kk := (((((k4.trans k5).trans k6).trans k7).trans k8).trans k9)
        refine next_tail (x := p.1) (sx := p.2) rfl (re (h3.two kk)) b9 hn (fun e => ?_) hK
        obtain ⟨a, b, c⟩ := hy e
        exact ⟨a, b, c.stp kk (beq_no (by omega))⟩
end Go.Proofs.YtechilkjfhpkpaaGreatDoor.Ru

namespace Go.Proofs.YtechilkjfhpkpaaGreatDoor.Ru
open Go Vm Go.RowKit Num Mem Utf Lib Lab
variable {r : Rl} {now : Int} {M T : List Av}
theorem upA_eq {a b : List Av} (ha : a.Pairwise ltA) (hb : b.Pairwise ltA) (h : ∀ x, x ∈ a ↔ x ∈ b) : a = b :=
  perm_up ((List.perm_ext_iff_of_nodup (nodupM ha) (nodupM hb)).2 h) (ha.imp fun {x _} h h' => ltA_irr x (cmpL_cmp.trans _ _ _ h h')) hb
theorem nextA_lab (o : Option Av) (l : List Lb) (b : Nat) : (nextA r now o l b).1 = l := by
  unfold nextA
  cases o <;> simp only <;> split <;> rfl
theorem getM_ins {x : Av} {m : List Lb} (hM : M.Pairwise ltA) (h : x.1 ≠ m) : getM (insM x M) m = getM M m := by
  cases hf : getM M m with
  | none =>
    refine getM_none.2 fun a ha e => ?_
    rcases (mem_insM hM).1 ha with rfl | ⟨h1, _⟩
    · exact h e
    · exact getM_none.1 hf a h1 e
  | some y =>
    obtain ⟨h1, h2⟩ := (getM_some hM).1 hf
    exact (getM_some (insM_up hM)).2 ⟨(mem_insM hM).2 (.inr ⟨h1, fun e => h (by rw [← e, h2])⟩), h2⟩
def nx (r : Rl) (now : Int) (M : List Av) (a : Av) : Av := nextA r now (getM M a.1) a.1 a.2.2.2.2.2
def mergeM (r : Rl) (now : Int) (T M : List Av) : List Av := T.foldl (fun M a => insM (nx r now M a) M) M
theorem nx_lab (M : List Av) (a : Av) : (nx r now M a).1 = a.1 := nextA_lab _ _ _
theorem merge_up : ∀ {T M : List Av}, M.Pairwise ltA → (mergeM r now T M).Pairwise ltA
  | [], _, h => h
  | _ :: T, _, h => merge_up (T := T) (insM_up h)
theorem merge_len : ∀ {T M : List Av}, (mergeM r now T M).length ≤ M.length + T.length
  | [], _ => Nat.le_refl _
  | a :: T, M => by
    have h1 : (mergeM r now T (insM (nx r now M a) M)).length ≤ (insM (nx r now M a) M).length + T.length := merge_len
    have h2 : (insM (nx r now M a) M).length ≤ M.length + 1 := insM_len
    show (mergeM r now T (insM (nx r now M a) M)).length ≤ _
    rw [List.length_cons]; omega
theorem mem_merge : ∀ {T M : List Av}, (T.map (·.1)).Nodup → M.Pairwise ltA → ∀ x, (x ∈ mergeM r now T M ↔ (∃ a ∈ T, x = nx r now M a) ∨ (x ∈ M ∧ ∀ a ∈ T, a.1 ≠ x.1))
  | [], M, _, _, x => by simp [mergeM]
  | a :: T, M, hT, hM, x => by
    have hT' := List.nodup_cons.1 hT
    show x ∈ mergeM r now T (insM (nx r now M a) M) ↔ _
    rw [mem_merge hT'.2 (insM_up hM) x]
    have hne : ∀ b ∈ T, (nx r now M a).1 ≠ b.1 := fun b hb e => hT'.1 (by rw [show (fun x : Av => x.1) a = b.1 from (nx_lab M a).symm.trans e]; exact List.mem_map_of_mem hb)
    have hnx : ∀ b ∈ T, nx r now (insM (nx r now M a) M) b = nx r now M b := fun b hb => by show nextA r now (getM (insM (nx r now M a) M) b.1) b.1 b.2.2.2.2.2 = _; rw [getM_ins hM (hne b hb)]; rfl
    constructor
    · rintro (⟨b, hb, e⟩ | ⟨h1, h2⟩)
      · exact .inl ⟨b, List.mem_cons_of_mem _ hb, by rw [e, hnx b hb]⟩
      · rcases (mem_insM hM).1 h1 with e | ⟨h3, h4⟩
        · exact .inl ⟨a, List.mem_cons_self, e⟩
        · refine .inr ⟨h3, fun b hb => ?_⟩
          rcases List.mem_cons.1 hb with rfl | hb
          · exact fun e => h4 (by rw [nx_lab]; exact e.symm)
          · exact h2 b hb
    · rintro (⟨b, hb, e⟩ | ⟨h1, h2⟩)
      · rcases List.mem_cons.1 hb with rfl | hb
        · exact .inr ⟨(mem_insM hM).2 (.inl e), fun c hc => by rw [e]; exact fun e' => hne c hc e'.symm⟩
        · exact .inl ⟨b, hb, by rw [e, hnx b hb]⟩
      · exact .inr ⟨(mem_insM hM).2 (.inr ⟨h1, by rw [nx_lab]; exact fun e => h2 a List.mem_cons_self e.symm⟩), fun b hb => h2 b (List.mem_cons_of_mem _ hb)⟩
theorem merge_perm {T' : List Av} (hp : T.Perm T') (hT : (T.map (·.1)).Nodup) (hM : M.Pairwise ltA) : mergeM r now T M = mergeM r now T' M := by
  have hT' : (T'.map (·.1)).Nodup := (hp.map (·.1)).nodup_iff.1 hT
  refine upA_eq (merge_up hM) (merge_up hM) fun x => ?_
  rw [mem_merge hT hM, mem_merge hT' hM]
  constructor
  · rintro (⟨a, ha, e⟩ | ⟨h1, h2⟩)
    · exact .inl ⟨a, hp.mem_iff.1 ha, e⟩
    · exact .inr ⟨h1, fun a ha => h2 a (hp.mem_iff.2 ha)⟩
  · rintro (⟨a, ha, e⟩ | ⟨h1, h2⟩)
    · exact .inl ⟨a, hp.mem_iff.2 ha, e⟩
    · exact .inr ⟨h1, fun a ha => h2 a (hp.mem_iff.1 ha)⟩
def goneA (now : Int) (a : Av) : Av := if a.2.2.2.2.1 < 0 then (a.1, a.2.1, a.2.2.1, a.2.2.2.1, now, a.2.2.2.2.2) else a
def inT (T : List Av) (a : Av) : Bool := (getM T a.1).isSome
def goesA (r : Rl) (now : Int) (a : Av) : Prop := IntKind.i64.wrap (now - (goneA now a).2.2.2.2.1) ≥ r.ke
instance (r : Rl) (now : Int) (a : Av) : Decidable (goesA r now a) := inferInstanceAs (Decidable (_ ≥ _))
def stepA (r : Rl) (now : Int) (T : List Av) (a : Av) : Option Av := if inT T a then some a else if a.2.1 = 1 then none else if goesA r now a then none else some (goneA now a)
def overA (r : Rl) (now : Int) (T : List Av) (a : Av) : Option (List Lb) := if inT T a then none else if a.2.1 = 1 then none else if goesA r now a then some a.1 else none
def stepM (r : Rl) (now : Int) (T M : List Av) : List Av := (mergeM r now T M).filterMap (stepA r now T)
def overM (r : Rl) (now : Int) (T M : List Av) : List (List Lb) := (mergeM r now T M).filterMap (overA r now T)
theorem goneA_lab (a : Av) : (goneA now a).1 = a.1 := by unfold goneA; split <;> rfl
theorem stepA_lab {a b : Av} (h : stepA r now T a = some b) : b.1 = a.1 := by
  unfold stepA at h
  split at h
  · injection h with h; rw [h]
  · split at h
    · cases h
    · split at h
      · cases h
      · injection h with h; rw [← h, goneA_lab]
theorem fm_up {f : Av → Option Av} (hf : ∀ a b, f a = some b → b.1 = a.1) (h : M.Pairwise ltA) : (M.filterMap f).Pairwise ltA := by
  rw [List.pairwise_filterMap]
  exact h.imp fun {a b} h x hx y hy => by unfold ltA; rw [hf a x hx, hf b y hy]; exact h
theorem step_up (hM : M.Pairwise ltA) : (stepM r now T M).Pairwise ltA := fm_up (fun _ _ h => stepA_lab h) (merge_up hM)
theorem mid_up {f : Av → Option Av} (hf : ∀ a b, f a = some b → b.1 = a.1) (h : M.Pairwise ltA) (i : Nat) : ((M.take i).filterMap f ++ M.drop i).Pairwise ltA := by
  rw [← List.take_append_drop i M, List.pairwise_append] at h
  rw [List.pairwise_append]
  refine ⟨fm_up hf h.1, h.2.1, fun a ha b hb => ?_⟩
  obtain ⟨c, hc, e⟩ := List.mem_filterMap.1 ha
  unfold ltA
  rw [hf c a e]
  exact h.2.2 c hc b hb
theorem ins_mid {a x : Av} : ∀ {P S : List Av}, (P ++ a :: S).Pairwise ltA → x.1 = a.1 → insM x (P ++ a :: S) = P ++ x :: S := fun {P S} h e => by
  have hx : (P ++ x :: S).Pairwise ltA := by
    rw [List.pairwise_append] at h ⊢
    refine ⟨h.1, ?_, fun p hp b hb => ?_⟩
    · have h' := List.pairwise_cons.1 h.2.1
      exact List.pairwise_cons.2 ⟨fun b hb => by unfold ltA; rw [e]; exact h'.1 b hb, h'.2⟩
    · rcases List.mem_cons.1 hb with rfl | hb
      · unfold ltA; rw [e]; exact h.2.2 p hp a List.mem_cons_self
      · exact h.2.2 p hp b (List.mem_cons_of_mem _ hb)
  refine upA_eq (insM_up h) hx fun y => ?_
  rw [mem_insM h, List.mem_append, List.mem_cons, List.mem_append, List.mem_cons]
  have hn := nodupL hx
  rw [List.map_append, List.map_cons] at hn
  constructor
  · rintro (h1 | ⟨h1 | h1 | h1, h2⟩)
    · exact .inr (.inl h1)
    · exact .inl h1
    · exact absurd (by rw [h1, e]) h2
    · exact .inr (.inr h1)
  · rintro (h1 | h1 | h1)
    · refine .inr ⟨.inl h1, fun e' => ?_⟩
      rw [List.nodup_append] at hn
      exact hn.2.2 _ (List.mem_map_of_mem h1) x.1 List.mem_cons_self e'
    · exact .inl h1
    · refine .inr ⟨.inr (.inr h1), fun e' => ?_⟩
      rw [List.nodup_append] at hn
      exact (List.nodup_cons.1 hn.2.1).1 (by rw [← e']; exact List.mem_map_of_mem h1)
theorem del_mid {a : Av} {P S : List Av} (h : (P ++ a :: S).Pairwise ltA) : delM a.1 (P ++ a :: S) = P ++ S := by
  unfold delM
  have hn := nodupL h
  rw [List.map_append, List.map_cons, List.nodup_append] at hn
  rw [List.filter_append, List.filter_cons, if_neg (by simp), List.filter_eq_self.2 fun x hx => ?_, List.filter_eq_self.2 fun x hx => ?_]
  · exact decide_eq_true fun e => (List.nodup_cons.1 hn.2.1).1 (by rw [← e]; exact List.mem_map_of_mem hx)
  · exact decide_eq_true fun e => hn.2.2 _ (List.mem_map_of_mem hx) a.1 List.mem_cons_self e
end Go.Proofs.YtechilkjfhpkpaaGreatDoor.Ru

namespace Go.Proofs.YtechilkjfhpkpaaGreatDoor.Ru
open Go Vm Go.RowKit Num Mem Utf Lib Lab
variable {ω ω' ωb : Tg} {w w' w0 wb : World} {t ta vp uo vo gt gs gm : Nat} {M : List Av} {r : Rl} {now : Int}
abbrev KSx (ω : Tg) (w : World) (t gs gm : Nat) (r : Rl) (last : Int) (M : List Av) : Prop := ∃ pl rs, KSa ω w t gs gm r last pl rs ∧ (pl.map (·.1)).Perm M
theorem KSx.stp {T : Nat → Bool} {last : Int} (h : KSx ω w t gs gm r last M) (k : Stp T ω ω' w w') (hT : Off t T) : KSx ω' w' t gs gm r last M := let ⟨pl, rs, a, b⟩ := h; ⟨pl, rs, a.stp k hT, b⟩
abbrev DT2 (t : Nat) : Nat → Bool := fun u => Nat.beq u t || Nat.beq u (t + 1)
theorem dt2 (k : Stp (Mem.One (t + 1)) ω ω' w w') : Stp (DT2 t) ω ω' w w' := k.mono fun x hx => by
  unfold DT2 at hx
  cases h : Nat.beq x (t + 1) with
  | false => exact h
  | true => rw [h, Bool.or_true] at hx; cases hx
theorem dt2' (k : Stp (Mem.One t) ω ω' w w') : Stp (DT2 t) ω ω' w w' := k.mono fun x hx => by
  unfold DT2 at hx
  cases h : Nat.beq x t with
  | false => exact h
  | true => rw [h, Bool.true_or] at hx; cases hx
abbrev OQ := List (List Lb × Sl)
def sls (l : OQ) : List Value := l.map fun p => p.2.v
theorem tiO : TI Tryz.prog 32 22 1 24 := TI.of (z := .slice none 0 0) (by kernel_rfl) (by kernel_rfl) rfl (by decide)
theorem sls_n {s : Sl} {l : OQ} (h : Rd w s 1 (sls l)) : s.n = l.length := by have := h.2.1; simp [sls] at this; omega
structure SX (ωb ω : Tg) (wb w w0 : World) (t u1 ta vp uo vo gt gs gm : Nat) (r : Rl) (now : Int) (T M : List Av) (s : Sl) (ql : QL) (vs : Nat → Nat) (o : Sl) (oq : OQ) : Prop where
  sp : Stp (DT2 t) ωb ω wb w
  top : Top w0 ω w
  ks : KSx ω w t gs gm r now M
  tm : MS ω w ta (t + 2) gt T
  row : RT ω w u1 s 6 (avs ql)
  el : ∀ j (hj : j < ql.length), OT ω w (vs j) 99 2 (ql[j]).2 (labs (ql[j]).1.1)
  ov : OT ω w uo 22 1 o (sls oq)
  oe : ∀ p ∈ oq, OT ω w vo 99 2 p.2 (labs p.1)
structure SF (ωb : Tg) (wb w0 : World) (t u1 ta vp uo vo : Nat) (T M1 : List Av) (r : Rl) (now : Int) (ql : QL) (vs : Nat → Nat) : Prop where
  tab : UTab w0
  t0 : 0 < t
  f1 : ∀ i, i < wb.heap.size → ωb i ≠ vp
  f2 : ∀ i, i < wb.heap.size → ωb i ≠ uo
  l0 : t + 3 < u1
  l1 : u1 < ta
  l2 : ta < vp
  l3 : vp < uo
  l4 : uo < vo
  Tu : T.Pairwise ltA
  Mu : M1.Pairwise ltA
  eq : ql.map (·.1) = M1
  ok : ∀ a ∈ M1, (rt a.1).1 = 0
  hv : ∀ j (hj : j < M1.length), vs j = if (overA r now T (M1[j])).isSome then vo else t + 2
  len : M1.length ≤ 50000000
variable {u1 : Nat} {T M1 : List Av} {s o : Sl} {ql : QL} {vs : Nat → Nat} {oq : OQ}
theorem SF.vs_off (F : SF ωb wb w0 t u1 ta vp uo vo T M1 r now ql vs) {j : Nat} (hj : j < ql.length) {x : Nat} (h1 : x ≠ vo) (h2 : x ≠ t + 2) : vs j ≠ x := by
  have e := congrArg List.length F.eq
  rw [List.length_map] at e
  rw [F.hv j (by omega)]
  split
  · exact fun h => h1 h.symm
  · exact fun h => h2 h.symm
theorem SX.non (_F : SF ωb wb w0 t u1 ta vp uo vo T M1 r now ql vs) (h : SX ωb ω wb w w0 t u1 ta vp uo vo gt gs gm r now T M s ql vs o oq) (k : Stp Non ω ω' w w') : SX ωb ω' wb w' w0 t u1 ta vp uo vo gt gs gm r now T M s ql vs o oq :=
  ⟨h.sp.trans (k.non _), h.top.stp k, h.ks.stp k (off_non t), h.tm.stp k rfl rfl, h.row.stp k, fun j hj => (h.el j hj).stp k, h.ov.stp k, fun p hp => (h.oe p hp).stp k⟩
theorem SX.loc (F : SF ωb wb w0 t u1 ta vp uo vo T M1 r now ql vs) (h : SX ωb ω wb w w0 t u1 ta vp uo vo gt gs gm r now T M s ql vs o oq) (k : Stp (Mem.One vp) ω ω' w w') : SX ωb ω' wb w' w0 t u1 ta vp uo vo gt gs gm r now T M s ql vs o oq :=
  have l0 := F.l0
  have l1 := F.l1
  have l2 := F.l2
  have l3 := F.l3
  have l4 := F.l4
  ⟨h.sp.fresh k F.f1, h.top.stp k (beq_no (by omega)), h.ks.stp k (off_one (by omega)), h.tm.stp k (beq_no (by omega)) (beq_no (by omega)), h.row.stp k (beq_no (by omega)), fun j hj => (h.el j hj).stp k (beq_no (F.vs_off hj (by omega) (by omega))), h.ov.stp k (beq_no (by omega)), fun p hp => (h.oe p hp).stp k (beq_no (by omega))⟩
theorem SX.turn (F : SF ωb wb w0 t u1 ta vp uo vo T M1 r now ql vs) (h : SX ωb ω wb w w0 t u1 ta vp uo vo gt gs gm r now T M s ql vs o oq) (k : Stp (Mem.One (t + 1)) ω ω' w w') {M' : List Av} (m : MS ω' w' (t + 1) (t + 2) gm M') : SX ωb ω' wb w' w0 t u1 ta vp uo vo gt gs gm r now T M' s ql vs o oq :=
  have l0 := F.l0
  have l1 := F.l1
  have l2 := F.l2
  have l3 := F.l3
  have l4 := F.l4
  ⟨h.sp.trans (dt2 k), h.top.stp k (beq_no (by omega)), by
    obtain ⟨pl, rs, a, b⟩ := h.ks
    obtain ⟨pl', pm, hp⟩ := m
    exact ⟨pl', rs, ⟨a.hd.stp k (beq_no (by omega)), a.rl.stp k (beq_no (by omega)), pm⟩, hp⟩,
   h.tm.stp k (beq_no (by omega)) (beq_no (by omega)), h.row.stp k (beq_no (by omega)), fun j hj => (h.el j hj).stp k (beq_no (F.vs_off hj (by omega) (by omega))), h.ov.stp k (beq_no (by omega)), fun p hp => (h.oe p hp).stp k (beq_no (by omega))⟩
theorem SX.push (F : SF ωb wb w0 t u1 ta vp uo vo T M1 r now ql vs) (h : SX ωb ω wb w w0 t u1 ta vp uo vo gt gs gm r now T M s ql vs o oq) (k : Stp (Mem.One uo) ω ω' w w') {o' : Sl} {oq' : OQ} (ho : OT ω' w' uo 22 1 o' (sls oq')) (he : ∀ p ∈ oq', p ∈ oq ∨ OT ω w vo 99 2 p.2 (labs p.1)) :
    SX ωb ω' wb w' w0 t u1 ta vp uo vo gt gs gm r now T M s ql vs o' oq' :=
  have l0 := F.l0
  have l1 := F.l1
  have l2 := F.l2
  have l3 := F.l3
  have l4 := F.l4
  ⟨h.sp.fresh k F.f2, h.top.stp k (beq_no (by omega)), h.ks.stp k (off_one (by omega)), h.tm.stp k (beq_no (by omega)) (beq_no (by omega)), h.row.stp k (beq_no (by omega)), fun j hj => (h.el j hj).stp k (beq_no (F.vs_off hj (by omega) (by omega))), ho, fun p hp => by
    rcases he p hp with h1 | h1
    · exact (h.oe p h1).stp k (beq_no (by omega))
    · exact h1.stp k (beq_no (by omega))⟩
end Go.Proofs.YtechilkjfhpkpaaGreatDoor.Ru

namespace Go.Proofs.YtechilkjfhpkpaaGreatDoor.Ru
open Go Vm Go.RowKit Num Mem Utf Lib Lab
variable {ω ω' ωb : Tg} {w w' w0 wb : World} {t u1 ta vp uo vo gt gs gm : Nat} {M : List Av} {r : Rl} {now : Int} {T M1 : List Av} {s o : Sl} {ql : QL} {vs : Nat → Nat} {oq : OQ}
theorem stepA_in {a : Av} (h : inT T a = true) : stepA r now T a = some a ∧ overA r now T a = none := by unfold stepA overA; simp [h]
theorem stepA_pend {a : Av} (h : inT T a = false) (h1 : a.2.1 = 1) : stepA r now T a = none ∧ overA r now T a = none := by unfold stepA overA; simp [h, h1]
theorem stepA_go {a : Av} (h : inT T a = false) (h1 : ¬ a.2.1 = 1) (h2 : goesA r now a) : stepA r now T a = none ∧ overA r now T a = some a.1 := by unfold stepA overA; simp [h, h1, h2]
theorem stepA_stay {a : Av} (h : inT T a = false) (h1 : ¬ a.2.1 = 1) (h2 : ¬ goesA r now a) : stepA r now T a = some (goneA now a) ∧ overA r now T a = none := by unfold stepA overA; simp [h, h1, h2]
theorem fm_take {α β : Type} {f : α → Option β} {l : List α} {i : Nat} (h : i < l.length) : (l.take (i + 1)).filterMap f = (l.take i).filterMap f ++ (f l[i]).toList := by
  rw [List.take_succ_eq_append_getElem h, List.filterMap_append]
  cases e : f l[i] <;> simp [e]
def midM (r : Rl) (now : Int) (T M1 : List Av) (i : Nat) : List Av := (M1.take i).filterMap (stepA r now T) ++ M1.drop i
def overI (r : Rl) (now : Int) (T M1 : List Av) (i : Nat) : List (List Lb) := (M1.take i).filterMap (overA r now T)
theorem gone_loop (F : SF ωb wb w0 t u1 ta vp uo vo T M1 r now ql vs) {K : Sl → Sl → Int → World → Prop}
    (hK : ∀ ω w o oq, SX ωb ω wb w w0 t u1 ta vp uo vo gt gs gm r now T (midM r now T M1 M1.length) s ql vs o oq → oq.map (·.1) = overI r now T M1 M1.length → C.rules_Keeper_Step.S2 K (some ⟨gs, 0, none⟩) o w)
    (hsn : s.n = ql.length) (h0 : SX ωb ω wb w w0 t u1 ta vp uo vo gt gs gm r now T M1 s ql vs nilS []) :
    C.rules_Keeper_Step.L5 K (some ⟨gs, 0, none⟩) now (some gt) nilS s ((s.n : Nat) : Int) (0 : Int) w := by
  have l0 := F.l0
  have l1 := F.l1
  have l2 := F.l2
  have l3 := F.l3
  have l4 := F.l4
  have hql : ql.length = M1.length := by rw [← F.eq, List.length_map]
  have hlen := F.len
  refine C.rules_Keeper_Step.L5_ind fun X hX => ?_
  have key : ∀ (d i : Nat) (o : Sl) (oq : OQ) (ω : Tg) (w : World), i + d = ql.length → SX ωb ω wb w w0 t u1 ta vp uo vo gt gs gm r now T (midM r now T M1 i) s ql vs o oq → oq.map (·.1) = overI r now T M1 i → X (some ⟨gs, 0, none⟩) now (some gt) o s ((s.n : Nat) : Int) (i : Int) w := by
    intro d
    induction d with
    | zero =>
      intro i o oq ω w hi h e
      refine hX _ _ _ _ _ _ _ _ ?_
      unfold C.rules_Keeper_Step.S7
      have : i = M1.length := by omega
      subst this
      exact cond_d (fun h => by omega) (fun _ => hK ω w o oq h e)
    | succ d ih =>
      intro i o oq ω w hi h e
      refine hX _ _ _ _ _ _ _ _ ?_
      unfold C.rules_Keeper_Step.S7
      have hiq : i < ql.length := by omega
      have hiM : i < M1.length := by omega
      have hx : ql[i]? = some ql[i] := List.getElem?_eq_getElem hiq
      have eM : (ql[i]).1 = M1[i] := by simp [← F.eq]
      have eml : (ql[i]).1.1 = (M1[i]).1 := by rw [eM]
      have hup := mid_up (f := stepA r now T) (fun _ _ h => stepA_lab h) F.Mu i
      have hdrop : M1.drop i = M1[i] :: M1.drop (i + 1) := List.drop_eq_getElem_cons hiM
      have hmid : midM r now T M1 i = (M1.take i).filterMap (stepA r now T) ++ M1[i] :: M1.drop (i + 1) := by unfold midM; rw [hdrop]
      have hup' := hup
      rw [hdrop] at hup'
      have hnextM : midM r now T M1 (i + 1) = (M1.take i).filterMap (stepA r now T) ++ ((stepA r now T M1[i]).toList ++ M1.drop (i + 1)) := by unfold midM; rw [fm_take hiM, List.append_assoc]
      have hnextO : overI r now T M1 (i + 1) = overI r now T M1 i ++ (overA r now T M1[i]).toList := fm_take hiM
      have hok := F.ok _ (List.getElem_mem hiM)
      have hvi := F.hv i hiM
      refine cond_d (fun _ => ?_) (fun h => by omega)
      refine rdA_at h.row.rd (k := i) rfl hx fun a ac => ac_at ac ?_
      refine new_T (ω := ω) vp fun gp ω1 w1 k1 b1 => ?_
      have h1 := h.non F k1
      refine st_T b1 (by simp) fun ω2 w2 k2 b2 => st_TA b2 (by simp) fun ω3 w3 k3 b3 => st_TA b3 (by simp) fun ω4 w4 k4 b4 => st_TA b4 (by simp) fun ω5 w5 k5 b5 => st_TA b5 (by simp) fun ω6 w6 k6 b6 => st_TA b6 (by simp) fun ω7 w7 k7 b7 => ?_
      have h7 := h1.loc F (((((k2.trans k3).trans k4).trans k5).trans k6).trans k7)
      have b7 : BT ω7 w7 vp gp 41 (avC ql[i]) := b7
      refine cSl_at (s := (ql[i]).2) (by rw [b7.cell]; rfl) <| key_ok (F.tab.keep h7.top.k) (h7.el i hiq).rd (by rw [eml]; exact hok) fun w8 k8 => ?_
      have s8 := k8.stp0 ω7
      have h8 := h7.non F s8
      have b8 := b7.stp s8
      -- the next one
      have next : ∀ (o' : Sl) (oq' : OQ) (ω' : Tg) (w' : World), SX ωb ω' wb w' w0 t u1 ta vp uo vo gt gs gm r now T (midM r now T M1 (i + 1)) s ql vs o' oq' → oq'.map (·.1) = overI r now T M1 (i + 1) → X (some ⟨gs, 0, none⟩) now (some gt) o' s ((s.n : Nat) : Int) (IntKind.i64.wrap ((i : Int) + 1)) w' := fun o' oq' ω' w' h' e' => by
        rw [wI64 (by omega) (by omega), show (i : Int) + 1 = ((i + 1 : Nat) : Int) by omega]
        exact ih (i + 1) o' oq' ω' w' (by omega) h' e'
      obtain ⟨plT, pmT, hpT⟩ := h8.tm
      -- it is not told, and has fired
      have tail : ∀ (ω9 : Tg) (w9 : World), inT T M1[i] = false → ¬ (M1[i]).2.1 = 1 → SX ωb ω9 wb w9 w0 t u1 ta vp uo vo gt gs gm r now T (midM r now T M1 i) s ql vs o oq → BT ω9 w9 vp gp 41 (avC (goneA now M1[i], (ql[i]).2)) →
          G.ptr (some ⟨gs, 0, none⟩) fun p80 => G.cM (p80.add 6) w9.drew fun m81 => G.cSl ⟨gp, 0, none⟩ w9.drew fun l82 => G.cI .i64 (Addr.add ⟨gp, 0, none⟩ 1) w9.drew fun n83 => G.cI .i64 (Addr.add ⟨gp, 0, none⟩ 2) w9.drew fun n84 => G.cI .i64 (Addr.add ⟨gp, 0, none⟩ 3) w9.drew fun n85 => G.cI .i64 (Addr.add ⟨gp, 0, none⟩ 4) w9.drew fun n86 => G.cF .f64 (Addr.add ⟨gp, 0, none⟩ 5) w9.drew fun f87 => G.runU C.pr (Instr.mapUpdate 73 (.map m81) (.string (Lab.keyOf (ql[i]).1.1)) (.agg #[l82.v, (.int .i64 n83), (.int .i64 n84), (.int .i64 n85), (.int .i64 n86), (.float .f64 f87)])) w9.drew fun w88 =>
            G.cI .i64 (Addr.add ⟨gp, 0, none⟩ 4) w88.drew fun n89 => G.ptr (some ⟨gs, 0, none⟩) fun p90 => G.cI .i64 (p90.add 4) w88.drew fun n91 => G.cond (decide ((IntKind.i64.wrap (now - n89)) ≥ n91)) (G.ptr (some ⟨gs, 0, none⟩) fun p92 => G.cM (p92.add 6) w88.drew fun m93 => G.run C.pr (Builtin.delete_ #[73, 9] 0 #[(.map m93), (.string (Lab.keyOf (ql[i]).1.1))]) w88.drew fun v94 w95 => G.cSl ⟨gp, 0, none⟩ w95 fun l96 => G.new (.cells #[l96.v] 22) w95 fun p97 w98 => G.runSl C.pr (Builtin.append_ #[32, 32] 32 #[o.v, (Sl.v (⟨some p97, 1, 1⟩ : Sl))]) w98 fun l99 w100 => X (some ⟨gs, 0, none⟩) now (some gt) l99 s ((s.n : Nat) : Int) (IntKind.i64.wrap ((i : Int) + (1 : Int))) w100)
              (X (some ⟨gs, 0, none⟩) now (some gt) o s ((s.n : Nat) : Int) (IntKind.i64.wrap ((i : Int) + (1 : Int))) w88.drew) := by
        intro ω9 w9 hin hpend h9 b9
        have sd := drew_stp ω9 w9
        have hd := h9.non F sd
        have bd := b9.stp sd
        obtain ⟨pl, rs, ks, hp⟩ := hd.ks
        have hgl : (goneA now M1[i]).1 = (M1[i]).1 := goneA_lab _
        refine ptr_at ⟨some gm, by rw [addr_add, ks.hd.cell]; rfl, ac_at (blk_ac bd.blk) ?_⟩
        rw [eml, ← hgl]
        refine updV (v := encV (goneA now M1[i], (ql[i]).2)) ks.pm.mp mapT strT fun ω10 w10 k10 m10 => ?_
        -- its labels, where they stay
        have lab : vs i = t + 2 → RT ω9 w9.drew (t + 2) (ql[i]).2 2 (labs (goneA now M1[i]).1) := fun hv2 => by
          have := (hd.el i hiq).rt
          rw [hv2, eml, ← hgl] at this
          exact this
        have uM := F.Mu
        by_cases hgo : goesA r now M1[i]
        · obtain ⟨es, eo⟩ := stepA_go (r := r) (now := now) hin hpend hgo
          rw [eo] at hvi
          have hvi : vs i = vo := hvi
          -- the map as it is for a while
          obtain ⟨plx, hnx⟩ : ∃ plx, plx = updP (goneA now M1[i], (ql[i]).2) pl := ⟨_, rfl⟩
          have m10' := m10
          rw [updP_map (goneA now M1[i], (ql[i]).2), ← hnx] at m10'
          have sx10 := k10
          have hp10 : (Mem.One (t + 1)) 0 = false := beq_no (by omega)
          have top10 := hd.top.stp k10 hp10
          have b10 := bd.stp k10 (beq_no (by omega))
          have b10d := b10.stp (drew_stp ω10 w10)
          have hd10 := ks.hd.stp k10 (beq_no (by omega))
          have hd10d := hd10.stp (drew_stp ω10 w10)
          refine cI_at (n := (goneA now M1[i]).2.2.2.2.1) (by rw [addr_add, b10d.cell]; rfl) <| ptr_at <| cI_at (n := r.ke) (by rw [addr_add, hd10d.cell]; rfl) <| cond_d (fun _ => ?_) (fun hh => absurd hgo hh)
          refine ptr_at ⟨some gm, by rw [addr_add, hd10d.cell]; rfl, ?_⟩
          refine delV (m10.stp (drew_stp ω10 w10) rfl) mapT strT fun v11 ω11 w11 k11 m11 => ?_
          have k911 := (k10.trans ((drew_stp ω10 w10).non _)).trans k11
          have m11' : MV ω11 w11 (t + 1) gm ((delP (goneA now M1[i]).1 plx).map encP) := by
            rw [← delP_map, hnx, ← updP_map]; exact m11
          have hpn := names_pl hp (by rw [hmid]; exact hup')
          have hmemx : ∀ x, x ∈ delP (goneA now M1[i]).1 plx ↔ x ∈ pl ∧ x.1.1 ≠ (goneA now M1[i]).1 := fun x => by
            have nx : (plx.map (·.1.1)).Nodup := by
              have := m10'.nodup
              rw [List.map_map] at this
              rw [List.Nodup, List.pairwise_map] at this ⊢
              exact this.imp fun h e => h (by show Lab.keyOf _ = Lab.keyOf _; rw [e])
            rw [mem_delP nx, hnx, mem_updP hpn]
            constructor
            · rintro ⟨rfl | h1, h2⟩
              · exact absurd rfl h2
              · exact ⟨h1.1, h2⟩
            · rintro ⟨h1, h2⟩
              exact ⟨.inr ⟨h1, h2⟩, h2⟩
          have ms11 : MS ω11 w11 (t + 1) (t + 2) gm (midM r now T M1 (i + 1)) := by
            refine ⟨delP (goneA now M1[i]).1 plx, ⟨m11', fun p hpp => (ks.pm.rt p ((hmemx p).1 hpp).1).stp k911 (beq_no (by omega))⟩, ?_⟩
            have hdm : delM (M1[i]).1 (midM r now T M1 i) = midM r now T M1 (i + 1) := by rw [hmid, del_mid hup', hnextM, es]; rfl
            have nd : ((delP (goneA now M1[i]).1 plx).map (·.1.1)).Nodup := by
              have := m11'.nodup
              rw [List.map_map] at this
              rw [List.Nodup, List.pairwise_map] at this ⊢
              exact this.imp fun h e => h (by show Lab.keyOf _ = Lab.keyOf _; rw [e])
            rw [← hdm]
            refine (List.perm_ext_iff_of_nodup (nodup1 nd) (nodupM ((show (midM r now T M1 i).Pairwise ltA from hup).filter _))).2 fun x => ?_
            rw [List.mem_filter, List.mem_map]
            constructor
            · rintro ⟨p, hpm, rfl⟩
              obtain ⟨h1, h2⟩ := (hmemx p).1 hpm
              exact ⟨mem_perm hp h1, decide_eq_true (by rw [← hgl]; exact h2)⟩
            · rintro ⟨h1, h2⟩
              obtain ⟨q, hq, rfl⟩ := List.mem_map.1 (hp.mem_iff.2 h1)
              exact ⟨q, (hmemx q).2 ⟨hq, by rw [hgl]; exact of_decide_eq_true h2⟩, rfl⟩
          have h11 := hd.turn F k911 ms11
          have b11 := bd.stp k911 (beq_no (by omega))
          refine cSl_at (s := (ql[i]).2) (by rw [b11.cell]; rfl) ?_
          have hon := sls_n h11.ov.rd
          have hol : oq.length ≤ i := by
            have a1 := congrArg List.length e
            rw [List.length_map] at a1
            have a2 : (overI r now T M1 i).length ≤ (M1.take i).length := List.length_filterMap_le _ _
            rw [List.length_take] at a2
            omega
          refine push_T (n := 1) tiO h11.ov rfl (by intro v hv; simp at hv; subst hv; rfl) (by simp only [maxLen]; omega) (by omega) fun o12 ω12 w12 k12 ov12 _ => ?_
          refine next o12 (oq ++ [((M1[i]).1, (ql[i]).2)]) ω12 w12 (h11.push F k12 (by unfold sls; rw [List.map_append]; exact ov12) fun p hp => ?_) ?_
          · rcases List.mem_append.1 hp with hp | hp
            · exact .inl hp
            · rw [List.mem_singleton.1 hp]
              refine .inr ?_
              have := h11.el i hiq
              rw [hvi, eml] at this
              exact this
          · rw [List.map_append, e, hnextO, eo]; rfl
        · obtain ⟨es, eo⟩ := stepA_stay (r := r) (now := now) hin hpend hgo
          rw [eo] at hvi
          have hvi : vs i = t + 2 := hvi
          have ms10 : MS ω10 w10 (t + 1) (t + 2) gm (midM r now T M1 (i + 1)) := by
            have := upd_MS (by omega) ks.pm hp (by rw [hmid]; exact hup') k10 m10 (lab hvi)
            rw [hmid, ins_mid hup' hgl] at this
            rw [hnextM, es]; exact this
          have h10 := hd.turn F k10 ms10
          have h10d := h10.non F (drew_stp ω10 w10)
          have b10d := (bd.stp k10 (beq_no (by omega))).stp (drew_stp ω10 w10)
          obtain ⟨_, _, ks10, _⟩ := h10d.ks
          refine cI_at (n := (goneA now M1[i]).2.2.2.2.1) (by rw [addr_add, b10d.cell]; rfl) <| ptr_at <| cI_at (n := r.ke) (by rw [addr_add, ks10.hd.cell]; rfl) <| cond_d (fun hh => absurd hh hgo) (fun _ => ?_)
          exact next o oq ω10 _ h10d (by rw [hnextO, eo]; exact e.trans (List.append_nil _).symm)
      -- is it told?
      have told : ∀ (b58 : Bool) (w9 : World), b58 = inT T M1[i] → Keep w8 w9 →
          G.cond b58 (X (some ⟨gs, 0, none⟩) now (some gt) o s ((s.n : Nat) : Int) (IntKind.i64.wrap ((i : Int) + (1 : Int))) w9) (G.cI .i64 (Addr.add ⟨gp, 0, none⟩ 1) w9 fun n73 => G.cond (n73 == (1 : Int)) (G.ptr (some ⟨gs, 0, none⟩) fun p74 => G.cM (p74.add 6) w9 fun m75 => G.run C.pr (Builtin.delete_ #[73, 9] 0 #[(.map m75), (.string (Lab.keyOf (ql[i]).1.1))]) w9 fun v76 w77 => X (some ⟨gs, 0, none⟩) now (some gt) o s ((s.n : Nat) : Int) (IntKind.i64.wrap ((i : Int) + (1 : Int))) w77) (G.cI .i64 (Addr.add ⟨gp, 0, none⟩ 4) w9 fun n78 => G.cond (decide (n78 < (0 : Int))) (G.st (Addr.add ⟨gp, 0, none⟩ 4) (.int .i64 now) w9 fun w79 => G.ptr (some ⟨gs, 0, none⟩) fun p80 => G.cM (p80.add 6) w79.drew fun m81 => G.cSl ⟨gp, 0, none⟩ w79.drew fun l82 => G.cI .i64 (Addr.add ⟨gp, 0, none⟩ 1) w79.drew fun n83 => G.cI .i64 (Addr.add ⟨gp, 0, none⟩ 2) w79.drew fun n84 => G.cI .i64 (Addr.add ⟨gp, 0, none⟩ 3) w79.drew fun n85 => G.cI .i64 (Addr.add ⟨gp, 0, none⟩ 4) w79.drew fun n86 => G.cF .f64 (Addr.add ⟨gp, 0, none⟩ 5) w79.drew fun f87 => G.runU C.pr (Instr.mapUpdate 73 (.map m81) (.string (Lab.keyOf (ql[i]).1.1)) (.agg #[l82.v, (.int .i64 n83), (.int .i64 n84), (.int .i64 n85), (.int .i64 n86), (.float .f64 f87)])) w79.drew fun w88 =>
            G.cI .i64 (Addr.add ⟨gp, 0, none⟩ 4) w88.drew fun n89 => G.ptr (some ⟨gs, 0, none⟩) fun p90 => G.cI .i64 (p90.add 4) w88.drew fun n91 => G.cond (decide ((IntKind.i64.wrap (now - n89)) ≥ n91)) (G.ptr (some ⟨gs, 0, none⟩) fun p92 => G.cM (p92.add 6) w88.drew fun m93 => G.run C.pr (Builtin.delete_ #[73, 9] 0 #[(.map m93), (.string (Lab.keyOf (ql[i]).1.1))]) w88.drew fun v94 w95 => G.cSl ⟨gp, 0, none⟩ w95 fun l96 => G.new (.cells #[l96.v] 22) w95 fun p97 w98 => G.runSl C.pr (Builtin.append_ #[32, 32] 32 #[o.v, (Sl.v (⟨some p97, 1, 1⟩ : Sl))]) w98 fun l99 w100 => X (some ⟨gs, 0, none⟩) now (some gt) l99 s ((s.n : Nat) : Int) (IntKind.i64.wrap ((i : Int) + (1 : Int))) w100)
              (X (some ⟨gs, 0, none⟩) now (some gt) o s ((s.n : Nat) : Int) (IntKind.i64.wrap ((i : Int) + (1 : Int))) w88.drew)) (G.ptr (some ⟨gs, 0, none⟩) fun p80 => G.cM (p80.add 6) w9.drew fun m81 => G.cSl ⟨gp, 0, none⟩ w9.drew fun l82 => G.cI .i64 (Addr.add ⟨gp, 0, none⟩ 1) w9.drew fun n83 => G.cI .i64 (Addr.add ⟨gp, 0, none⟩ 2) w9.drew fun n84 => G.cI .i64 (Addr.add ⟨gp, 0, none⟩ 3) w9.drew fun n85 => G.cI .i64 (Addr.add ⟨gp, 0, none⟩ 4) w9.drew fun n86 => G.cF .f64 (Addr.add ⟨gp, 0, none⟩ 5) w9.drew fun f87 => G.runU C.pr (Instr.mapUpdate 73 (.map m81) (.string (Lab.keyOf (ql[i]).1.1)) (.agg #[l82.v, (.int .i64 n83), (.int .i64 n84), (.int .i64 n85), (.int .i64 n86), (.float .f64 f87)])) w9.drew fun w88 =>
            G.cI .i64 (Addr.add ⟨gp, 0, none⟩ 4) w88.drew fun n89 => G.ptr (some ⟨gs, 0, none⟩) fun p90 => G.cI .i64 (p90.add 4) w88.drew fun n91 => G.cond (decide ((IntKind.i64.wrap (now - n89)) ≥ n91)) (G.ptr (some ⟨gs, 0, none⟩) fun p92 => G.cM (p92.add 6) w88.drew fun m93 => G.run C.pr (Builtin.delete_ #[73, 9] 0 #[(.map m93), (.string (Lab.keyOf (ql[i]).1.1))]) w88.drew fun v94 w95 => G.cSl ⟨gp, 0, none⟩ w95 fun l96 => G.new (.cells #[l96.v] 22) w95 fun p97 w98 => G.runSl C.pr (Builtin.append_ #[32, 32] 32 #[o.v, (Sl.v (⟨some p97, 1, 1⟩ : Sl))]) w98 fun l99 w100 => X (some ⟨gs, 0, none⟩) now (some gt) l99 s ((s.n : Nat) : Int) (IntKind.i64.wrap ((i : Int) + (1 : Int))) w100)
              (X (some ⟨gs, 0, none⟩) now (some gt) o s ((s.n : Nat) : Int) (IntKind.i64.wrap ((i : Int) + (1 : Int))) w88.drew)))) := by
        intro b58 w9 hb58 k9
        have s9 := k9.stp0 ω7
        have h9 := h8.non F s9
        have b9 := b8.stp s9
        have eq2 : ql[i] = (M1[i], (ql[i]).2) := Prod.ext eM rfl
        have b9 : BT ω7 w9 vp gp 41 (avC (M1[i], (ql[i]).2)) := by rw [← eq2]; exact b9
        refine cond_of (fun hin => ?_) (fun hin => ?_)
        · rw [hb58] at hin
          obtain ⟨es, eo⟩ := stepA_in (r := r) (now := now) hin
          refine next o oq ω7 w9 ?_ (by rw [hnextO, eo]; exact e.trans (List.append_nil _).symm)
          have : midM r now T M1 (i + 1) = midM r now T M1 i := by rw [hnextM, es, hmid]; rfl
          rw [this]; exact h9
        · rw [hb58] at hin
          refine cI_at (n := (M1[i]).2.1) (by rw [addr_add, b9.cell]; rfl) <| cond_eq (fun hpend => ?_) (fun hpend => ?_)
          · obtain ⟨es, eo⟩ := stepA_pend (r := r) (now := now) hin hpend
            obtain ⟨pl, rs, ks, hp⟩ := h9.ks
            refine ptr_at ⟨some gm, by rw [addr_add, ks.hd.cell]; rfl, ?_⟩
            rw [eml]
            refine delV ks.pm.mp mapT strT fun v10 ω10 w10 k10 m10 => ?_
            have ms10 : MS ω10 w10 (t + 1) (t + 2) gm (midM r now T M1 (i + 1)) := by
              have := del_MS (by omega) ks.pm hp (by rw [hmid]; exact hup') k10 m10
              rw [hmid, del_mid hup'] at this
              rw [hnextM, es]; exact this
            exact next o oq ω10 w10 (h9.turn F k10 ms10) (by rw [hnextO, eo]; exact e.trans (List.append_nil _).symm)
          · refine cI_at (n := (M1[i]).2.2.2.2.1) (by rw [addr_add, b9.cell]; rfl) <| cond_d (fun hneg => ?_) (fun hpos => ?_)
            · refine st_TA b9 (by simp [avC]) fun ω10 w10 k10 b10 => ?_
              refine tail ω10 w10 hin hpend (h9.loc F k10) ?_
              have eg : goneA now M1[i] = ((M1[i]).1, (M1[i]).2.1, (M1[i]).2.2.1, (M1[i]).2.2.2.1, now, (M1[i]).2.2.2.2.2) := by unfold goneA; rw [if_pos hneg]
              rw [eg]; exact b10
            · refine tail ω7 w9 hin hpend h9 ?_
              have eg : goneA now M1[i] = M1[i] := by unfold goneA; rw [if_neg hpos]
              rw [eg]; exact b9
      have hTk : inT T M1[i] = (getM T (ql[i]).1.1).isSome := by rw [eml]; rfl
      refine look_ok pmT.mp hpT F.Tu (fun hn => ?_) (fun p hpm hg => ?_)
      · refine enc_at (zeroA, nilS) <| loc_ok (zeroA, nilS) fun g9 w9 k9 _ _ => told false w9 (by rw [hTk, hn]; rfl) k9.1
      · refine enc_at p <| loc_ok p fun g9 w9 k9 _ _ => told true w9 (by rw [hTk, hg]; rfl) k9.1
  exact key ql.length 0 nilS [] ω w (by omega) (by unfold midM; simpa using h0) (by unfold overI; simp)
end Go.Proofs.YtechilkjfhpkpaaGreatDoor.Ru

namespace Go.Proofs.YtechilkjfhpkpaaGreatDoor.Ru
open Go Vm Go.RowKit Num Mem Utf Lib Lab
variable {ω ω' ωb : Tg} {w w' w0 wb : World} {t u1 ta vp uo vo gt gs gm : Nat} {M : List Av} {r : Rl} {now last : Int} {T M1 : List Av} {s o : Sl} {ql : QL} {vs : Nat → Nat} {oq : OQ}
theorem firstE_of {ps : List Pt} (h : toldE r ps = 0) : firstE r ps = 0 ∧ (toldS r ps).1 = false := by
  unfold toldE at h
  by_cases e : firstE r ps = 0
  · rw [if_neg (by rw [e]; decide)] at h
    refine ⟨e, ?_⟩
    cases hb : (toldS r ps).1 with
    | false => rfl
    | true => rw [hb, if_pos rfl] at h; exact absurd h (by decide)
  · rw [if_pos e] at h; exact absurd h e
theorem firstE_all : ∀ {ps : List Pt}, firstE r ps = 0 → ∀ p ∈ ps, wE p.1 (moreA r) = 0
  | [], _, _, h => by cases h
  | q :: ps, h, p, hp => by
    unfold firstE at h
    by_cases e : wE q.1 (moreA r) = 0
    · rw [if_neg (by rw [e]; decide)] at h
      rcases List.mem_cons.1 hp with rfl | hp
      · exact e
      · exact firstE_all h p hp
    · rw [if_pos e] at h; exact absurd h e
theorem mem_told {a : Av} {ps : List Pt} (h : a ∈ toldL r ps) : ∃ p ∈ ps, a.1 = labO r p.1 := by
  have key : ∀ (ps : List Pt) (x : Bool × List Av), x.2.Pairwise ltA → a ∈ (ps.foldl (tstep r) x).2 → a ∈ x.2 ∨ ∃ p ∈ ps, a.1 = labO r p.1 := by
    intro ps
    induction ps with
    | nil => intro x _ h; exact .inl h
    | cons p ps ih =>
      intro x hx h
      rcases ih _ (insM_up hx) h with h1 | ⟨q, hq, e⟩
      · rcases (mem_insM hx).1 h1 with h2 | h2
        · exact .inr ⟨p, List.mem_cons_self, by rw [h2]⟩
        · exact .inl h2.1
      · exact .inr ⟨q, List.mem_cons_of_mem _ hq, e⟩
  rcases key ps (false, []) List.Pairwise.nil h with h | h
  · cases h
  · exact h
theorem told_rt {ps : List Pt} (hr : RlOk r) (h : toldE r ps = 0) : ∀ a ∈ toldL r ps, (rt a.1).1 = 0 := fun a ha => by
  obtain ⟨p, hp, e⟩ := mem_told ha
  rw [e]
  exact labO_rt hr (firstE_all (firstE_of h).1 p hp)
theorem merge_rt (hT : (T.map (·.1)).Nodup) (hM : M.Pairwise ltA) (h1 : ∀ a ∈ T, (rt a.1).1 = 0) (h2 : ∀ a ∈ M, (rt a.1).1 = 0) : ∀ a ∈ mergeM r now T M, (rt a.1).1 = 0 := fun a ha => by
  rcases (mem_merge hT hM a).1 ha with ⟨b, hb, e⟩ | ⟨h, _⟩
  · rw [e, nx_lab]; exact h1 b hb
  · exact h2 a h
def timeB (n : Int) : Bool := decide (0 ≤ n) && decide (n ≤ 1125899906842624)
theorem time_ok {n : Int} {K : Bool → World → Prop} (hK : K (timeB n) w) : C.rules_time n w K := by
  unfold C.rules_time
  unfold timeB at hK
  refine cond_d (fun h => ?_) (fun h => ?_)
  · rw [decide_eq_true (show 0 ≤ n by omega), Bool.true_and] at hK; exact hK
  · rw [decide_eq_false (show ¬ 0 ≤ n by omega), Bool.false_and] at hK; exact hK
def stepE (r : Rl) (last now : Int) (ps : List Pt) : Int := if timeB now = false ∨ now ≤ last then 1 else toldE r ps
theorem step_ok (m : Nat) {q : PQ} (top : Top w0 ω w) (htab : UTab w0) (het : ETab w0) (t0 : 0 < t) (hm : t + 3 ≤ m) (ks : KS ω w t gs r last M) (hr : RlOk r) (hM : M.Pairwise ltA) (hMr : ∀ a ∈ M, (rt a.1).1 = 0) (hMl : M.length ≤ 20000000) (hq : RdPs w s q) (hql : q.length ≤ 10000000)
    {K : Sl → Sl → Int → World → Prop} (hE : stepE r last now (q.map (·.1)) ≠ 0 → ∀ ω' w', Stp Non ω ω' w w' → K nilS nilS (stepE r last now (q.map (·.1))) w')
    (hOK : stepE r last now (q.map (·.1)) = 0 → ∀ a o ql oq ua va uo vo ω' w', m < ua → ua < va → va < uo → uo < vo → Stp (DT2 t) ω ω' w w' → KS ω' w' t gs r now (stepM r now (toldL r (q.map (·.1))) M) →
      OT ω' w' ua 41 6 a (avs ql) → ql.map (·.1) = stepM r now (toldL r (q.map (·.1))) M → (∀ p ∈ ql, OT ω' w' va 99 2 p.2 (labs p.1.1)) →
      OT ω' w' uo 22 1 o (sls oq) → oq.map (·.1) = overM r now (toldL r (q.map (·.1))) M → (∀ p ∈ oq, OT ω' w' vo 99 2 p.2 (labs p.1)) → K a o 0 w') : C.rules_Keeper_Step (some ⟨gs, 0, none⟩) now s w K := by
  unfold C.rules_Keeper_Step
  obtain ⟨gm, pl, rs, ka, hp⟩ := ks
  obtain ⟨ua, ha1, hfa⟩ := fresh ω w.heap.size m
  obtain ⟨va, ha2, hfva⟩ := fresh ω w.heap.size ua
  obtain ⟨ti, hti, hfti⟩ := fresh ω w.heap.size va
  obtain ⟨u1, hu1, hfu1⟩ := fresh ω w.heap.size ti
  obtain ⟨ta, hta, hfta⟩ := fresh ω w.heap.size u1
  obtain ⟨vp, hvp, hfvp⟩ := fresh ω w.heap.size ta
  obtain ⟨uo, huo, hfuo⟩ := fresh ω w.heap.size vp
  obtain ⟨vo, hvo, hfvo⟩ := fresh ω w.heap.size uo
  generalize hps : q.map (·.1) = ps at *
  have hpl : ps.length = q.length := by rw [← hps, List.length_map]
  refine cond_f rfl <| time_ok <| cond_of (fun hb => ?_) (fun hb => ?_)
  · have e : stepE r last now ps = 1 := by unfold stepE; rw [if_pos (.inl (by simpa using hb))]
    rw [e] at hE
    exact hE (by decide) ω w (Stp.refl _ _ _)
  have hb : timeB now = true := by simpa using hb
  refine ptr_at <| cI_at (n := last) (by rw [addr_add, ka.hd.cell]; rfl) <| cond_d (fun hle => ?_) (fun hgt => ?_)
  · have e : stepE r last now ps = 1 := by unfold stepE; rw [if_pos (.inr hle)]
    rw [e] at hE
    exact hE (by decide) ω w (Stp.refl _ _ _)
  have ee : stepE r last now ps = toldE r ps := by unfold stepE; rw [if_neg (fun h => h.elim (fun h => by rw [hb] at h; cases h) hgt)]
  rw [ee] at hE hOK
  refine told_ok ω hr (htab.keep top.k) ka.hd.blk ka.rl.rd hq hql ta (t + 2) fun mm x ω1 w1 k1 h1 h2 => ?_
  rw [hps] at h1 h2
  have top1 := top.stp k1
  by_cases he : toldE r ps = 0
  · obtain ⟨rfl, gt, rfl, plT, pmT, hpT⟩ := h2 he
    have hOK := hOK he
    have hTup : (toldL r ps).Pairwise ltA := toldS_up r ps
    have hTlen : (toldL r ps).length ≤ ps.length := toldS_len r ps
    have hTrt := told_rt hr he
    generalize toldL r ps = T at *
    have hTn := nodupL hTup
    have ka1 := ka.stp k1 (off_non t)
    refine isNil_nil <| cond_f rfl <| ptr_at <| st_TA ka1.hd (by simp) fun ω2 w2 k2 b2 => ?_
    have ka2 : KSa ω2 w2 t gs gm r now pl rs := ⟨b2, ka1.rl.stp k2 (beq_no (by omega)), ka1.pm.stp k2 (beq_no (by omega)) (beq_no (by omega))⟩
    have top2 := top1.stp k2 (beq_no (by omega))
    have sp2 : Stp (DT2 t) ω ω2 w w2 := (k1.non _).trans (dt2' k2)
    have pmT2 := pmT.stp k2 (beq_no (by omega)) (beq_no (by omega))
    unfold C.rules_Keeper_Step.S18
    refine rangeV ti pmT2.mp mapT fun gi ω3 w3 k3 it3 => ?_
    refine C.rules_Keeper_Step.L14_ind fun X hX => ?_
    have key : ∀ (d : Nat) (a b : QL) (ω4 : Tg) (w4 : World), b.length = d → (a ++ b).Perm plT → Stp (DT2 t) ω ω4 w w4 → Top w0 ω4 w4 → IT ω4 w4 ti gi ta gt (plT.map encP) (b.map encP) → (∀ p ∈ plT, RT ω4 w4 (t + 2) p.2 2 (labs p.1.1)) → KSx ω4 w4 t gs gm r now (mergeM r now (a.map (·.1)) M) → X (some ⟨gs, 0, none⟩) now (some gt) (some ⟨gi, 0, none⟩) w4 := by
      intro d
      induction d with
      | zero =>
        intro a b ω4 w4 hd pm sp top4 it hrt kx
        refine hX _ _ _ _ _ ?_
        unfold C.rules_Keeper_Step.S16
        have hb : b = [] := List.eq_nil_of_length_eq_zero hd
        subst hb
        refine nextV it (fun _ => ?_) (fun ra x rb ω' w' hr => by simp at hr)
        rw [List.append_nil] at pm
        have eM1 : mergeM r now (a.map (·.1)) M = mergeM r now T M := (merge_perm (hpT.symm.trans (pm.symm.map (·.1))) hTn hM).symm
        rw [eM1] at kx
        have hM1u : (mergeM r now T M).Pairwise ltA := merge_up hM
        have hM1r := merge_rt (r := r) (now := now) hTn hM hTrt hMr
        have hM1l : (mergeM r now T M).length ≤ M.length + T.length := merge_len
        unfold C.rules_Keeper_Step.S11 C.rules_Keeper_Step.S9
        obtain ⟨pl4, rs4, ka4, hp4⟩ := kx
        have hp4l := hp4.length_eq
        rw [List.length_map] at hp4l
        have hsh : ∀ p ∈ pl4, p.1.1.length ≤ 16 := fun p hp => (rt_short (hM1r _ (mem_perm hp4 hp))).1
        have hexv : ∃ vs : Nat → Nat, ∀ j (hj : j < (mergeM r now T M).length), vs j = if (overA r now T ((mergeM r now T M)[j])).isSome then vo else t + 2 :=
          ⟨fun j => if hj : j < (mergeM r now T M).length then (if (overA r now T ((mergeM r now T M)[j])).isSome then vo else t + 2) else 0, fun j hj => by simp only [dif_pos hj]⟩
        obtain ⟨vs, hvs⟩ := hexv
        refine active_ok ω4 ka4.aw hp4 hM1u (by omega) hsh u1 vs fun row ql ω5 w5 k5 o5 eq5 he5 => ?_
        have hrn := rdA_n o5.rd
        have F : SF ω w w0 t u1 ta vp uo vo T (mergeM r now T M) r now ql vs := ⟨htab, t0, hfvp, hfuo, by omega, hta, hvp, huo, hvo, hTup, hM1u, eq5, hM1r, hvs, by omega⟩
        have X0 : SX ω ω5 w w5 w0 t u1 ta vp uo vo gt gs gm r now T (mergeM r now T M) row ql vs nilS [] :=
          ⟨sp.trans (k5.non _), top4.stp k5, ⟨pl4, rs4, ka4.stp k5 (off_non t), hp4⟩, ⟨plT, ⟨it.map.stp k5 rfl, fun p hp => (hrt p hp).stp k5⟩, hpT⟩, o5.rt, he5, OT.nil _ _ _ _ _, by simp⟩
        refine gone_loop F (fun ω6 w6 o6 oq6 S6 eo6 => ?_) hrn X0
        unfold C.rules_Keeper_Step.S2
        have emid : midM r now T (mergeM r now T M) (mergeM r now T M).length = stepM r now T M := by unfold midM stepM; rw [List.take_length, List.drop_length, List.append_nil]
        have eov : overI r now T (mergeM r now T M) (mergeM r now T M).length = overM r now T M := by unfold overI overM; rw [List.take_length]
        have S6k := S6.ks
        rw [emid] at S6k
        rw [eov] at eo6
        obtain ⟨pl6, rs6, ka6, hp6⟩ := S6k
        have hsu : (stepM r now T M).Pairwise ltA := step_up hM
        have hsl : (stepM r now T M).length ≤ (mergeM r now T M).length := List.length_filterMap_le _ _
        have hp6l := hp6.length_eq
        rw [List.length_map] at hp6l
        have hsr : ∀ a ∈ stepM r now T M, (rt a.1).1 = 0 := fun a ha => by
          obtain ⟨b, hb, e⟩ := List.mem_filterMap.1 ha
          rw [stepA_lab e]; exact hM1r b hb
        refine active_ok ω6 ka6.aw hp6 hsu (by omega) (fun p hp => (rt_short (hsr _ (mem_perm hp6 hp))).1) ua (fun _ => va) fun a7 ql7 ω7 w7 k7 o7 eq7 he7 => ?_
        refine hOK a7 o6 ql7 oq6 ua va uo vo ω7 w7 ha1 ha2 (by omega) hvo (S6.sp.trans (k7.non _)) ⟨gm, pl6, rs6, ka6.stp k7 (off_non t), hp6⟩ o7 eq7 (fun p hp => ?_) (S6.ov.stp k7) eo6 (fun p hp => (S6.oe p hp).stp k7)
        obtain ⟨j, hj, rfl⟩ := List.mem_iff_getElem.1 hp
        exact he7 j hj
      | succ d ih =>
        intro a b ω4 w4 hd pm sp top4 it hrt kx
        refine hX _ _ _ _ _ ?_
        unfold C.rules_Keeper_Step.S16
        refine nextV it (fun hr => by have := congrArg List.length hr; rw [List.length_map, hd] at this; simp at this) (fun ra x rb ω5 w5 hr5 k5 it5 en k v => en _ ?_)
        obtain ⟨pa, qq, pb, e1, rfl, rfl, rfl⟩ := map_split hr5
        rw [← List.map_append] at it5
        have hqm : qq ∈ plT := pm.mem_iff.1 (by rw [e1]; exact List.mem_append_right _ (List.mem_append_right _ List.mem_cons_self))
        refine enc_at qq <| loc_ok qq fun g6 w6 k6 hg6 b6 => ac_at (blk_ac b6) ?_
        have s6 := k6.1.stp0 ω5
        obtain ⟨pl4, rs4, ka4, hp4⟩ := kx
        have kk5 : Stp (DT2 t) ω ω5 w w5 := sp.fresh k5 hfti
        have top6 := (top4.stp k5 (beq_no (by omega))).stp s6
        have ka6 := (ka4.stp k5 (off_one (by omega))).stp s6 (off_non t)
        have hrt6 : ∀ p ∈ plT, RT ω5 w6 (t + 2) p.2 2 (labs p.1.1) := fun p hp => ((hrt p hp).stp k5 (beq_no (by omega))).stp s6
        have hqT := hTrt _ (mem_perm hpT hqm)
        refine next_ok ka6 hp4 (merge_up hM) top6 htab t0 qq (hrt6 qq hqm) hqT fun ω7 w7 k7 m7 => ?_
        obtain ⟨pl7, pm7, hp7⟩ := m7
        have it7 := (it5.stp s6 rfl rfl).stp k7 (beq_no (by omega)) (beq_no (by omega))
        refine ih (a ++ [qq]) (pa ++ pb) ω7 w7 (by rw [e1] at hd; simp at hd ⊢; omega) ?_ ((kk5.trans (s6.non _)).trans (dt2 k7)) (top6.stp k7 (beq_no (by omega))) it7 (fun p hp => (hrt6 p hp).stp k7 (beq_no (by omega))) ⟨pl7, rs4, ⟨ka6.hd.stp k7 (beq_no (by omega)), ka6.rl.stp k7 (beq_no (by omega)), pm7⟩, ?_⟩
        · rw [e1] at pm
          refine List.Perm.trans ?_ pm
          rw [List.append_assoc]
          exact List.Perm.append_left a (List.perm_middle (l₁ := pa) (l₂ := pb) (a := qq)).symm
        · have em : mergeM r now ((a ++ [qq]).map (·.1)) M = insM (nx r now (mergeM r now (a.map (·.1)) M) qq.1) (mergeM r now (a.map (·.1)) M) := by
            rw [List.map_append]; unfold mergeM; rw [List.foldl_append]; rfl
          rw [em]; exact hp7
    exact key plT.length [] plT ω3 w3 rfl (by simp) (sp2.trans (k3.non _)) (top2.stp k3) it3 (fun p hp => (pmT2.rt p hp).stp k3) ⟨pl, rs, ka2.stp k3 (off_non t), hp⟩
  · obtain ⟨rfl, rfl⟩ := h1 he
    refine isNil_fault <| cond_t rfl <| number_ok (het.keep top1.k) (.inr rfl) fun w2 k2 => ?_
    exact hE he ω1 w2 (k1.trans (k2.stp0 ω1))
end Go.Proofs.YtechilkjfhpkpaaGreatDoor.Ru

namespace Go.Proofs.YtechilkjfhpkpaaGreatDoor.Ru
open Go Vm Go.RowKit Num Mem Utf Lib Lab
variable {ω ω' ωb : Tg} {w w' w0 wb : World} {t gs gm : Nat} {M : List Av} {r : Rl} {now last : Int} {s sl : Sl} {ql : QL}
def newE (r : Rl) (last : Int) : Int := if ruleB r = true ∧ r.rc = false then (if last < -1 ∨ last > 1125899906842624 then 1 else 0) else 201
theorem restore_pre (ω : Tg) (t : Nat) (ht : UTab w) (hs : Rd w s 2 (labs r.ls)) (hl : r.ls.length ≤ 100000000) {K : Option Addr → Int → World → Prop}
    (hE : newE r last ≠ 0 → ∀ ω' w', Stp Non ω ω' w w' → K none (newE r last) w')
    (hK : newE r last = 0 → ∀ gs gm rs ω' w', Stp Non ω ω' w w' → KSa ω' w' t gs gm r last [] rs → C.rules_Restore.S17 K sl last (some ⟨gs, 0, none⟩) w') : C.rules_Restore r.rc r.nm r.ex r.fo r.ke s sl last w K := by
  unfold C.rules_Restore
  obtain ⟨tv, htv, hfv⟩ := fresh ω w.heap.size (t + 3)
  refine new_T (ω := ω) tv fun g ω1 w1 k1 b1 => ?_
  have b1 : BT ω1 w1 tv g 24 (rlC r s) := b1
  refine cB_at (b := r.rc) (by rw [b1.cell]; rfl) <| cS_at (b := r.nm) (by rw [addr_add, b1.cell]; rfl) <| cS_at (b := r.ex) (by rw [addr_add, b1.cell]; rfl) <| cI_at (n := r.fo) (by rw [addr_add, b1.cell]; rfl) <| cI_at (n := r.ke) (by rw [addr_add, b1.cell]; rfl) <| cSl_at (s := s) (by rw [addr_add, b1.cell]; rfl) ?_
  refine rule_ok (ht.keep k1.keep) (hs.keep k1.keep) hl fun w2 k2 => ?_
  have s2 := k2.stp0 ω1
  have k02 := k1.trans s2
  have b2 := b1.stp s2
  unfold ruleE
  by_cases hr : ruleB r = true
  · rw [if_pos hr]
    have ok := rl_of hr
    have h16 := ((rt_iff _).1 ok.rt).1
    refine cond_f rfl <| cB_at (b := r.rc) (by rw [b2.cell]; rfl) <| cond_of (fun hrc => ?_) (fun hrc => ?_)
    · have e : newE r last = 201 := by unfold newE; rw [if_neg (fun h => by rw [hrc] at h; cases h.2)]
      rw [e] at hE
      exact hE (by decide) ω1 w2 k02
    · have e : newE r last = if last < -1 ∨ last > 1125899906842624 then 1 else 0 := by unfold newE; rw [if_pos ⟨hr, hrc⟩]
      refine cond_d (fun h => ?_) (fun h1 => cond_d (fun h => ?_) (fun h2 => ?_))
      · rw [if_pos (.inl h)] at e; rw [e] at hE; exact hE (by decide) ω1 w2 k02
      · rw [if_pos (.inr h)] at e; rw [e] at hE; exact hE (by decide) ω1 w2 k02
      · rw [if_neg (by omega)] at e
        have hK := hK e
        refine cSl_at (s := s) (by rw [addr_add, b2.cell]; rfl) <| cloneL_ok (hs.keep k02.keep) h16 fun rs w3 k3 o3 => ?_
        have s3 := k3.stp ω1 (t + 3)
        have r3 : RT (ext ω1 w2.heap.size (t + 3)) w3 (t + 3) rs 2 (labs r.ls) := Own.rt o3 (Nat.le_refl _) ω1 (t + 3)
        have k03 := k02.trans s3
        have b3 := b2.stp s3
        generalize ext ω1 w2.heap.size (t + 3) = ω3 at *
        refine st_TA b3 (by simp) fun ω4 w4 k4 b4 => ?_
        have k04 : Stp Non ω ω4 w w4 := k03.fresh k4 hfv
        have r4 := r3.stp k4 (beq_no (by omega))
        have b4 : BT ω4 w4 tv g 24 (rlC r rs) := b4
        refine cB_at (b := r.rc) (by rw [b4.cell]; rfl) <| cS_at (b := r.nm) (by rw [addr_add, b4.cell]; rfl) <| cS_at (b := r.ex) (by rw [addr_add, b4.cell]; rfl) <| cI_at (n := r.fo) (by rw [addr_add, b4.cell]; rfl) <| cI_at (n := r.ke) (by rw [addr_add, b4.cell]; rfl) <| cSl_at (s := rs) (by rw [addr_add, b4.cell]; rfl) ?_
        refine mkV (ω := ω4) (t + 1) fun gm ω5 w5 k5 m5 => new_T (ω := ω5) t fun gs ω6 w6 k6 b6 => ?_
        exact hK gs gm rs ω6 w6 ((k04.trans k5).trans k6) ⟨b6, (r4.stp k5).stp k6, ⟨m5.stp k6 rfl, by simp⟩⟩
  · rw [if_neg hr]
    have e : newE r last = 201 := by unfold newE; rw [if_neg (fun h => hr h.1)]
    rw [e] at hE
    exact cond_t rfl (hE (by decide) ω1 w2 k02)
theorem new_ok (ω : Tg) (t : Nat) (ht : UTab w) (hs : Rd w s 2 (labs r.ls)) (hl : r.ls.length ≤ 100000000) {K : Option Addr → Int → World → Prop}
    (hE : newE r (-1) ≠ 0 → ∀ ω' w', Stp Non ω ω' w w' → K none 201 w')
    (hK : newE r (-1) = 0 → ∀ gs ω' w', Stp Non ω ω' w w' → KS ω' w' t gs r (-1) [] → K (some ⟨gs, 0, none⟩) 0 w') : C.rules_New r.rc r.nm r.ex r.fo r.ke s w K := by
  unfold C.rules_New
  refine new_T (ω := ω) (t + 4) fun g ω1 w1 k1 b1 => ?_
  have b1 : BT ω1 w1 (t + 4) g 24 (rlC r s) := b1
  refine cB_at (b := r.rc) (by rw [b1.cell]; rfl) <| cS_at (b := r.nm) (by rw [addr_add, b1.cell]; rfl) <| cS_at (b := r.ex) (by rw [addr_add, b1.cell]; rfl) <| cI_at (n := r.fo) (by rw [addr_add, b1.cell]; rfl) <| cI_at (n := r.ke) (by rw [addr_add, b1.cell]; rfl) <| cSl_at (s := s) (by rw [addr_add, b1.cell]; rfl) ?_
  refine restore_pre ω1 t (ht.keep k1.keep) (hs.keep k1.keep) hl (fun hne ω' w' k => ?_) (fun h0 gs gm rs ω2 w2 k2 ka => ?_)
  · have e : newE r (-1) = 201 := by
      unfold newE at hne ⊢
      split
      · rename_i h; rw [if_pos h, if_neg (by omega)] at hne; exact absurd rfl hne
      · rfl
    rw [e] at hne ⊢
    exact hE (by rw [e]; decide) ω' w' (k1.trans k)
  · unfold C.rules_Restore.S17
    refine C.rules_Restore.L13_ind fun X hX => hX _ _ _ _ _ _ _ ?_
    unfold C.rules_Restore.S15 C.rules_Restore.S9
    refine cond_f (by rfl) ?_
    refine C.rules_Restore.L5_ind fun Y hY => hY _ _ _ _ _ ?_
    unfold C.rules_Restore.S7 C.rules_Restore.S2
    exact cond_f (by rfl) (hK h0 gs ω2 w2 (k1.trans k2) ⟨gm, [], rs, ka, by simp⟩)
end Go.Proofs.YtechilkjfhpkpaaGreatDoor.Ru

namespace Go.Proofs.YtechilkjfhpkpaaGreatDoor.Ru
open Go Vm Go.RowKit Num Mem Utf Lib Lab
variable {ω ω' ωb : Tg} {w w' w0 wb : World} {t gs gm : Nat} {M : List Av} {r : Rl} {now last : Int} {s sl : Sl} {ql : QL}
def rk : Rl := ⟨false, ⟨#[120]⟩, ⟨#[]⟩, 10, 0, []⟩
def p1 : List Pt := [([(⟨#[97]⟩, ⟨#[49]⟩)], 4607182418800017408)]
def lx : List Lb := [(⟨#[97]⟩, ⟨#[49]⟩), (aN, ⟨#[120]⟩)]
theorem rk_ok : ruleB rk = true := by decide +kernel
theorem e0 : stepE rk (-1) 0 p1 = 0 := by decide +kernel
theorem e1 : stepE rk 0 5 p1 = 0 := by decide +kernel
theorem e2 : stepE rk 5 10 p1 = 0 := by decide +kernel
theorem e3 : stepE rk 10 15 [] = 0 := by decide +kernel
theorem m0 : stepM rk 0 (toldL rk p1) [] = [(lx, 1, 0, -1, -1, 4607182418800017408)] := by decide +kernel
theorem m1 : stepM rk 5 (toldL rk p1) [(lx, 1, 0, -1, -1, 4607182418800017408)] = [(lx, 1, 0, -1, -1, 4607182418800017408)] := by decide +kernel
theorem m2 : stepM rk 10 (toldL rk p1) [(lx, 1, 0, -1, -1, 4607182418800017408)] = [(lx, 2, 0, 10, -1, 4607182418800017408)] := by decide +kernel
theorem m3 : stepM rk 15 (toldL rk []) [(lx, 2, 0, 10, -1, 4607182418800017408)] = [] := by decide +kernel
theorem o3 : overM rk 15 (toldL rk []) [(lx, 2, 0, 10, -1, 4607182418800017408)] = [lx] := by decide +kernel
theorem lx_rt : (rt lx).1 = 0 := by decide +kernel
theorem one_ok (ω : Tg) {K : Sl → World → Prop} (hK : ∀ s q ω' w', Stp Non ω ω' w w' → RdPs w' s q → q.map (·.1) = p1 → K s w') : C.tocsinlaw19_one w K := by
  unfold C.tocsinlaw19_one
  refine new_T (ω := ω) 0 fun g1 ω1 w1 k1 b1 => new_T (ω := ω1) 0 fun g2 ω2 w2 k2 b2 => ?_
  refine hK _ [(([(⟨#[97]⟩, ⟨#[49]⟩)], 4607182418800017408), ⟨some ⟨g1, 0, none⟩, 1, 1⟩)] ω2 w2 (k1.trans k2) ⟨Rd.blk (n := 1) (c := 1) (sz := 2) (o := 0) b2.blk (Nat.le_refl _) (by simp), fun p hp => ?_⟩ rfl
  rw [List.mem_singleton.1 hp]
  exact Rd.blk (n := 1) (c := 1) (sz := 2) (o := 0) (b1.stp k2).blk (Nat.le_refl _) (by decide)
theorem dt2_off {t u : Nat} (h : u ≠ t ∧ u ≠ t + 1) : DT2 t u = false := by
  unfold DT2
  rw [show Nat.beq u t = false from beq_no h.1, show Nat.beq u (t + 1) = false from beq_no h.2]; rfl
theorem nil_ps (w : World) : RdPs w nilS [] := ⟨Rd.nil w 2, by simp⟩
theorem known_ok (htab : UTab w) (het : ETab w) {K : Bool → World → Prop} (hK : ∀ w', Keep w w' → K true w') : C.tocsinlaw19_known w K := by
  unfold C.tocsinlaw19_known
  have hne : newE rk (-1) = 0 := by decide +kernel
  have ok := rl_of rk_ok
  have top0 := Top.init w
  refine new_ok (r := rk) (fun _ => 0) 1 htab (Rd.nil w 2) (by decide) (fun h => absurd hne h) fun _ gs ω1 w1 k1 ks1 => ?_
  have top1 := top0.stp k1
  refine cond_f rfl <| cond_f rfl <| one_ok ω1 fun s2 q2 ω2 w2 k2 hq2 eq2 => ?_
  have top2 := top1.stp k2
  have len1 : ∀ {q : PQ}, q.map (·.1) = p1 → q.length ≤ 10000000 := fun {q} h => by have := congrArg List.length h; rw [List.length_map] at this; rw [this]; decide
  refine step_ok 10 top2 htab het (by decide) (by decide) (ks1.stp k2 (off_non 1)) ok List.Pairwise.nil (by simp) (by decide) hq2 (len1 eq2) (fun h => absurd (by rw [eq2]; exact e0) h) fun _ a3 o3' ql3 oq3 ua va uo vo ω3 w3 h1 h2 h3 h4 k3 ks3 _ _ _ _ _ _ => ?_
  rw [eq2, m0] at ks3
  have top3 := top2.stp k3
  refine one_ok ω3 fun s4 q4 ω4 w4 k4 hq4 eq4 => ?_
  have top4 := top3.stp k4
  have rt1 : ∀ {x : Int × Int × Int × Int × Nat}, ∀ a ∈ [((lx, x) : Av)], (rt a.1).1 = 0 := fun a ha => by rw [List.mem_singleton.1 ha]; exact lx_rt
  refine step_ok 10 top4 htab het (by decide) (by decide) (ks3.stp k4 (off_non 1)) ok (List.pairwise_singleton _ _) rt1 (by decide) hq4 (len1 eq4) (fun h => absurd (by rw [eq4]; exact e1) h) fun _ a5 o5 ql5 oq5 ua5 va5 uo5 vo5 ω5 w5 h51 h52 h53 h54 k5 ks5 oa5 eq5 _ _ _ _ => ?_
  rw [eq4, m1] at ks5 eq5
  have top5 := top4.stp k5
  refine one_ok ω5 fun s6 q6 ω6 w6 k6 hq6 eq6 => ?_
  have top6 := top5.stp k6
  refine step_ok 10 top6 htab het (by decide) (by decide) (ks5.stp k6 (off_non 1)) ok (List.pairwise_singleton _ _) rt1 (by decide) hq6 (len1 eq6) (fun h => absurd (by rw [eq6]; exact e2) h) fun _ a7 o7 ql7 oq7 ua7 va7 uo7 vo7 ω7 w7 h71 h72 h73 h74 k7 ks7 oa7 eq7 _ _ _ _ => ?_
  rw [eq6, m2] at ks7 eq7
  have top7 := top6.stp k7
  refine step_ok 10 top7 htab het (by decide) (by decide) ks7 ok (List.pairwise_singleton _ _) rt1 (by decide) (nil_ps w7) (by decide) (fun h => absurd e3 h) fun _ a9 o9 ql9 oq9 ua9 va9 uo9 vo9 ω9 w9 h91 h92 h93 h94 k9 ks9 oa9 eq9 _ ov9 eo9 _ => ?_
  rw [show (List.map (·.1) ([] : PQ)) = [] from rfl, m3] at eq9
  rw [show (List.map (·.1) ([] : PQ)) = [] from rfl, o3] at eo9
  have top9 := top7.stp k9
  refine cond_t rfl <| cond_t rfl <| cond_t rfl ?_
  have oa5' := ((oa5.stp k6).stp k7 (dt2_off (by omega))).stp k9 (dt2_off (by omega))
  have oa7' := oa7.stp k9 (dt2_off (by omega))
  have n5 := rdA_n oa5'.rd
  have n7 := rdA_n oa7'.rd
  have n9 := rdA_n oa9.rd
  have no9 := sls_n ov9.rd
  have l5 := congrArg List.length eq5
  have l7 := congrArg List.length eq7
  have l9 := congrArg List.length eq9
  have lo9 := congrArg List.length eo9
  rw [List.length_map] at l5 l7 l9 lo9
  simp only [List.length_singleton, List.length_nil] at l5 l7 l9 lo9
  obtain ⟨p5, rfl⟩ := List.length_eq_one_iff.1 l5
  obtain ⟨p7, rfl⟩ := List.length_eq_one_iff.1 l7
  simp only [List.map_cons, List.map_nil, List.cons.injEq, and_true] at eq5 eq7
  refine cond_t (by rw [n5]; rfl) <| rdA_at oa5'.rd (k := 0) rfl rfl fun a ac => cI_at ac.2.1 <| cond_t (by rw [eq5]; rfl) ?_
  refine cond_t (by rw [n7]; rfl) <| rdA_at oa7'.rd (k := 0) rfl rfl fun a ac => cI_at ac.2.1 <| cond_t (by rw [eq7]; rfl) ?_
  refine rdA_at oa7'.rd (k := 0) rfl rfl fun a ac => cI_at ac.2.2.1 <| cond_t (by rw [eq7]; rfl) ?_
  refine cond_t (by rw [n9, l9]; rfl) ?_
  rw [no9, lo9]
  exact hK w9 top9.k
end Go.Proofs.YtechilkjfhpkpaaGreatDoor.Ru

namespace Go.Proofs.YtechilkjfhpkpaaGreatDoor.Rep
open Go Vm Go.RowKit Num Mem Go.ChangeShapes Shut
inductive Sh where
  | int (k : IntKind) | bool | str | fl (k : FloatKind) | sl (es : List Sh)
def sumTo (f : Nat → Nat) : Nat → Nat
  | 0 => 0
  | n + 1 => sumTo f n + f n
theorem sumTo_ge (f : Nat → Nat) : ∀ n i, i < n → f i ≤ sumTo f n
  | 0, i, h => absurd h (Nat.not_lt_zero _)
  | n + 1, i, h => by
    rcases Nat.lt_succ_iff_lt_or_eq.1 h with h | rfl
    · have := sumTo_ge f n i h; simp only [sumTo]; omega
    · simp only [sumTo]; omega
theorem sumTo_len (f : Nat → Nat) : ∀ n, (∀ i, i < n → 1 ≤ f i) → n ≤ sumTo f n
  | 0, _ => Nat.le_refl _
  | n + 1, h => by
    have := sumTo_len f n fun i hi => h i (by omega)
    have := h n (by omega)
    simp only [sumTo]; omega
theorem sumTo_bulk {H : Type} : ∀ l : List (DataW H), sumTo (fun i => Rows.uptoBulk (l.getD i .nil)) l.length ≤ Rows.uptoBulkAll l := by
  intro l
  have key : ∀ (l : List (DataW H)) (n : Nat), n ≤ l.length → sumTo (fun i => Rows.uptoBulk (l.getD i .nil)) n = Rows.uptoBulkAll (l.take n) := by
    intro l n
    induction n with
    | zero => intro _; simp [sumTo, Rows.uptoBulkAll]
    | succ n ih =>
      intro h
      simp only [sumTo]
      rw [ih (by omega), List.take_add_one, bulk_app, List.getElem?_eq_getElem (by omega)]
      simp [Rows.uptoBulkAll, List.getD, List.getElem?_eq_getElem (show n < l.length by omega)]
  rw [key l l.length (Nat.le_refl _), List.take_length]; exact Nat.le_refl _
inductive Cl (w : World) : Sh → Value → Nat → Prop
  | int {k : IntKind} {n : Int} {b : Nat} : k.min ≤ n → n ≤ k.max → Cl w (.int k) (.int k n) b
  | bool {x : Bool} {b : Nat} : Cl w .bool (.bool x) b
  | str {s : ByteArray} {b : Nat} : s.size < b → Cl w .str (.string s) b
  | fl {k : FloatKind} {n b : Nat} : (Lit.float k n).wf = true → Cl w (.fl k) (.float k n) b
  | sl {s : Sl} {es : List Sh} {b : Nat} (f : Nat → Nat) (U : Nat → Nat → Value) : s.n ≤ s.c → s.c ≤ maxLen → (∀ i, i < s.n → 1 ≤ f i) → sumTo f s.n < b → (s.a = none → s = nilS) →
      (0 < s.n → ∃ g o, s.a = some ⟨g, o, none⟩ ∧ ∀ i j sh, i < s.n → es[j]? = some sh → w.cell? ⟨g, o + (i * es.length + j), none⟩ = some (U i j)) →
      (∀ i j sh, i < s.n → es[j]? = some sh → Cl w sh (U i j) (f i)) → Cl w (.sl es) s.v b
def Row (w : World) (shs : List Sh) (cs : List Value) (b : Nat) : Prop := cs.length = shs.length ∧ ∀ (j : Nat) (sh : Sh), shs[j]? = some sh → ∃ v, cs[j]? = some v ∧ Cl w sh v b
theorem Cl.mono {w : World} {sh : Sh} {v : Value} {b b' : Nat} (h : Cl w sh v b) (hb : b ≤ b') : Cl w sh v b' := by
  cases h with
  | int h1 h2 => exact .int h1 h2
  | bool => exact .bool
  | str h => exact .str (by omega)
  | fl h => exact .fl h
  | sl f U h1 h2 h3 h4 h5 h6 h7 => exact .sl f U h1 h2 h3 (by omega) h5 h6 h7
theorem Cl.keep {w w' : World} (k : Keep w w') {sh : Sh} {v : Value} {b : Nat} (h : Cl w sh v b) : Cl w' sh v b := by
  induction h with
  | int h1 h2 => exact .int h1 h2
  | bool => exact .bool
  | str h => exact .str h
  | fl h => exact .fl h
  | sl f U h1 h2 h3 h4 h5 h6 _ ih =>
    exact .sl f U h1 h2 h3 h4 h5 (fun hn => let ⟨g, o, ha, hc⟩ := h6 hn; ⟨g, o, ha, fun i j sh hi hj => k.cell (hc i j sh hi hj)⟩) ih
theorem Cl.int_inv {w : World} {k : IntKind} {v : Value} {b : Nat} (h : Cl w (.int k) v b) : ∃ n, v = .int k n ∧ k.min ≤ n ∧ n ≤ k.max := by
  cases h with | int h1 h2 => exact ⟨_, rfl, h1, h2⟩
theorem Cl.bool_inv {w : World} {v : Value} {b : Nat} (h : Cl w .bool v b) : ∃ x, v = .bool x := by
  cases h with | bool => exact ⟨_, rfl⟩
theorem Cl.str_inv {w : World} {v : Value} {b : Nat} (h : Cl w .str v b) : ∃ s, v = .string s ∧ s.size < b := by
  cases h with | str h => exact ⟨_, rfl, h⟩
theorem Cl.fl_inv {w : World} {k : FloatKind} {v : Value} {b : Nat} (h : Cl w (.fl k) v b) : ∃ n, v = .float k n ∧ (Lit.float k n).wf = true := by
  cases h with | fl h => exact ⟨_, rfl, h⟩
theorem Cl.sl_ex {w : World} {es : List Sh} {v : Value} {b : Nat} (h : Cl w (.sl es) v b) : ∃ s : Sl, v = s.v := by
  cases h with | sl => exact ⟨_, rfl⟩
theorem sl_v_inj {s t : Sl} (h : s.v = t.v) : s = t := by
  cases s; cases t; simp only [Value.slice.injEq] at h; obtain ⟨rfl, rfl, rfl⟩ := h; rfl
theorem Cl.sl_inv {w : World} {es : List Sh} {s : Sl} {b : Nat} (h : Cl w (.sl es) s.v b) : ∃ (f : Nat → Nat) (U : Nat → Nat → Value), s.n ≤ s.c ∧ s.c ≤ maxLen ∧ (∀ i, i < s.n → 1 ≤ f i) ∧ sumTo f s.n < b ∧ (s.a = none → s = nilS) ∧
    (0 < s.n → ∃ g o, s.a = some ⟨g, o, none⟩ ∧ ∀ i j sh, i < s.n → es[j]? = some sh → w.cell? ⟨g, o + (i * es.length + j), none⟩ = some (U i j)) ∧
    (∀ i j sh, i < s.n → es[j]? = some sh → Cl w sh (U i j) (f i)) := by
  generalize hv : s.v = v at h
  cases h with
  | sl f U h1 h2 h3 h4 h5 h6 h7 =>
    have := sl_v_inj hv
    subst this
    exact ⟨f, U, h1, h2, h3, h4, h5, h6, h7⟩
theorem Cl.len {w : World} {es : List Sh} {s : Sl} {b : Nat} (h : Cl w (.sl es) s.v b) : s.n < b := by
  obtain ⟨f, U, h1, h2, h3, h4, h5, h6, h7⟩ := h.sl_inv
  have := sumTo_len f s.n h3
  omega
theorem Cl.ix {w : World} {es : List Sh} {s : Sl} {b : Nat} (h : Cl w (.sl es) s.v b) {i : Int} (h0 : 0 ≤ i) (hi : i < s.n) {sz : Nat} (hsz : sz = es.length) {K : Addr → Prop}
    (hK : ∀ (a : Addr) (V : Nat → Value), (∀ j sh, es[j]? = some sh → w.cell? (a.add j) = some (V j) ∧ Cl w sh (V j) b) → K a) : G.ix s.a s.n i sz K := by
  obtain ⟨f, U, h1, h2, h3, h4, h5, h6, h7⟩ := h.sl_inv
  obtain ⟨g, o, ha, hc⟩ := h6 (by omega)
  rw [ha]
  subst hsz
  refine ⟨⟨h0, hi⟩, hK _ (U i.toNat) fun j sh hj => ⟨?_, (h7 i.toNat j sh (by omega) hj).mono ?_⟩⟩
  · rw [addr_add, addr_add, Nat.add_assoc]
    exact hc _ j sh (by omega) hj
  · have := sumTo_ge f s.n i.toNat (by omega)
    omega
def fsOf (P : Program) (go : TypeId → Option (List Sh)) : Nat → List Field → Option (List Sh)
  | _, [] => some []
  | off, f :: r => match go f.type with
    | some l => bif Nat.beq f.offset off && Nat.beq (P.cellsOf f.type) l.length then (fsOf P go (off + l.length) r).map (l ++ ·) else none
    | none => none
def shOf (P : Program) : Nat → TypeId → Option (List Sh)
  | 0, _ => none
  | d + 1, t => match P.underlying t with
    | some (.int k) => some [.int k]
    | some .bool => some [.bool]
    | some .string => some [.str]
    | some (.float k) => some [.fl k]
    | some (.slice e) => match shOf P d e with
      | some l => bif Nat.beq (P.cellsOf e) l.length && Nat.blt 0 l.length then some [.sl l] else none
      | none => none
    | some (.struct fs) => match fsOf P (shOf P d) 0 fs.toList with
      | some l => bif Nat.beq (P.cellsOf t) l.length then some l else none
      | none => none
    | _ => none
theorem nbeq {a b : Nat} {α : Type} {x : Option α} {y : α} (h : (bif Nat.beq a b then x else none) = some y) : a = b ∧ x = some y := by
  cases e : Nat.beq a b with
  | false => rw [e] at h; cases h
  | true => rw [e] at h; exact ⟨Nat.eq_of_beq_eq_true e, h⟩
theorem addr_none {w : World} {a : Addr} {v : Value} (h : w.cell? a = some v) : a.spot = none := by
  obtain ⟨g, o, sp⟩ := a
  cases sp with
  | none => rfl
  | some x =>
    simp only [World.cell?] at h
    simp at h
    split at h <;> simp_all
theorem Row.app {w : World} {xs ys : List Sh} {cs : List Value} {b : Nat} (h1 : Row w xs (cs.take xs.length) b) (h2 : Row w ys (cs.drop xs.length) b) : Row w (xs ++ ys) cs b := by
  obtain ⟨l1, h1⟩ := h1
  obtain ⟨l2, h2⟩ := h2
  rw [List.length_take] at l1
  rw [List.length_drop] at l2
  refine ⟨by simp; omega, fun j sh hj => ?_⟩
  rcases Nat.lt_or_ge j xs.length with hlt | hge
  · rw [List.getElem?_append_left hlt] at hj
    obtain ⟨v, hv, hc⟩ := h1 j sh hj
    rw [List.getElem?_take, if_pos hlt] at hv
    exact ⟨v, hv, hc⟩
  · rw [List.getElem?_append_right hge] at hj
    obtain ⟨v, hv, hc⟩ := h2 _ sh hj
    rw [List.getElem?_drop, show xs.length + (j - xs.length) = j by omega] at hv
    exact ⟨v, hv, hc⟩
theorem Row.mono {w : World} {shs : List Sh} {cs : List Value} {b b' : Nat} (h : Row w shs cs b) (hb : b ≤ b') : Row w shs cs b' :=
  ⟨h.1, fun j sh hj => let ⟨v, hv, hc⟩ := h.2 j sh hj; ⟨v, hv, hc.mono hb⟩⟩
section
variable {H : Type} {enc : TypeId × Value → H} {P : Program} {w : World} {spare : Nat → Bool} {held : Bool}
theorem fields_row {go : TypeId → Option (List Sh)} {fuel : Nat} {cs : List Value} {B : Nat} (ih : ∀ t cs x shs, DataW.trod enc P w 0 spare held fuel t cs = some x → go t = some shs → Row w shs cs (Rows.uptoBulk x.1)) :
    ∀ (r : List Field) (ys : List (DataW H × List MemPlace)) (off : Nat) (l : List Sh), fsOf P go off r = some l → ys.length = r.length →
      (∀ (i : Nat) (f : Field), r[i]? = some f → DataW.trod enc P w 0 spare held fuel f.type ((cs.drop f.offset).take (P.cellsOf f.type)) = ys[i]?) → (∀ y ∈ ys, Rows.uptoBulk y.1 ≤ B) → off + l.length ≤ cs.length →
      Row w l ((cs.drop off).take l.length) B
  | [], ys, off, l, h, _, _, _, _ => by
    cases h
    exact ⟨by simp, fun j sh hj => by simp at hj⟩
  | f :: r, ys, off, l, h, hy, hf, hB, hlen => by
    simp only [fsOf] at h
    split at h
    case h_2 => cases h
    rename_i lf hlf
    cases hc : (Nat.beq f.offset off && Nat.beq (P.cellsOf f.type) lf.length) with
    | false => rw [hc] at h; cases h
    | true =>
      rw [hc] at h
      simp only [Bool.and_eq_true] at hc
      have ho : f.offset = off := Nat.eq_of_beq_eq_true hc.1
      have hcl : P.cellsOf f.type = lf.length := Nat.eq_of_beq_eq_true hc.2
      obtain ⟨l', hl', rfl⟩ := Option.map_eq_some_iff.1 h
      cases ys with
      | nil => simp at hy
      | cons y ys =>
        rw [List.length_append] at hlen
        have h0 := hf 0 f rfl
        rw [ho, hcl] at h0
        have r1 := (ih _ _ _ _ h0 hlf).mono (hB y (List.mem_cons_self ..))
        have r2 := fields_row ih r ys (off + lf.length) l' hl' (by simpa using hy) (fun i f hi => hf (i + 1) f hi) (fun z hz => hB z (List.mem_cons_of_mem _ hz)) (by omega)
        refine Row.app ?_ ?_
        · rw [List.take_take, List.length_append, Nat.min_eq_left (by omega)]; exact r1
        · rw [List.drop_take, List.drop_drop, List.length_append, show lf.length + l'.length - lf.length = l'.length by omega]; exact r2
theorem row_of_trod : ∀ (fuel d : Nat) (t : TypeId) (cs : List Value) (x : DataW H × List MemPlace) (shs : List Sh), DataW.trod enc P w 0 spare held fuel t cs = some x → shOf P d t = some shs → Row w shs cs (Rows.uptoBulk x.1)
  | 0, _, _, _, _, _, h, _ => by simp [DataW.trod] at h
  | _ + 1, 0, _, _, _, _, _, hs => by cases hs
  | fuel + 1, d + 1, t, cs, x, shs, h, hs => by
    simp only [shOf] at hs
    cases hu : P.underlying t with
    | none => rw [hu] at hs; cases hs
    | some ty =>
      rw [hu] at hs
      cases ty with
      | int k =>
        cases hs
        rw [DataW.trod_step] at h
        unfold DataW.trodStep at h
        rw [hu] at h
        split at h <;> simp_all
        obtain ⟨⟨rfl, hw⟩, rfl⟩ := h
        rename_i n _ _
        simp only [Lit.wf, Bool.and_eq_true, decide_eq_true_eq] at hw
        exact ⟨rfl, fun j sh hj => by
          cases j with
          | zero => simp at hj; subst hj; exact ⟨_, rfl, .int hw.1 hw.2⟩
          | succ j => simp at hj⟩
      | bool =>
        cases hs
        rw [DataW.trod_step] at h
        unfold DataW.trodStep at h
        rw [hu] at h
        split at h <;> simp_all
        exact ⟨rfl, fun j sh hj => by
          cases j with
          | zero => simp at hj; subst hj; exact ⟨_, rfl, .bool⟩
          | succ j => simp at hj⟩
      | float k =>
        cases hs
        rw [DataW.trod_step] at h
        unfold DataW.trodStep at h
        rw [hu] at h
        split at h <;> simp_all
        obtain ⟨⟨rfl, hw⟩, rfl⟩ := h
        exact ⟨rfl, fun j sh hj => by
          cases j with
          | zero => simp at hj; subst hj; exact ⟨_, rfl, .fl hw⟩
          | succ j => simp at hj⟩
      | string =>
        cases hs
        rw [DataW.trod_step] at h
        unfold DataW.trodStep at h
        rw [hu] at h
        split at h <;> simp_all
        obtain ⟨hw, rfl⟩ := h
        exact ⟨rfl, fun j sh hj => by
          cases j with
          | zero => simp at hj; subst hj; exact ⟨_, rfl, .str (by show _ < List.length _ + 1; rw [Array.length_toList]; exact Nat.lt_succ_self _)⟩
          | succ j => simp at hj⟩
      | slice e =>
        simp only [] at hs
        split at hs
        case h_2 => cases hs
        rename_i l hl
        cases hc : (Nat.beq (P.cellsOf e) l.length && Nat.blt 0 l.length) with
        | false => rw [hc] at hs; cases hs
        | true =>
          rw [hc] at hs
          cases hs
          simp only [Bool.and_eq_true] at hc
          have hsz : P.cellsOf e = l.length := Nat.eq_of_beq_eq_true hc.1
          have hpos : 0 < l.length := Nat.blt_eq.mp hc.2
          have one : ∀ v, Cl w (.sl l) v (Rows.uptoBulk x.1) → Row w [.sl l] [v] (Rows.uptoBulk x.1) := fun v hv => ⟨rfl, fun j sh hj => by
            cases j with
            | zero => simp at hj; subst hj; exact ⟨_, rfl, hv⟩
            | succ j => simp at hj⟩
          rcases DataW.trod_slice hu h with ⟨rfl, rfl⟩ | ⟨a, len, cap, elems, rest, n, hn, rfl, rfl, _, hlc, hcm, hlen, hel, _, _⟩
          · exact one _ (.sl (s := nilS) (fun _ => 1) (fun _ _ => undef) (Nat.le_refl _) (Nat.zero_le _) (fun _ _ => Nat.le_refl _) (by simp [sumTo, Rows.uptoBulk]) (fun _ => rfl) (fun h => absurd h (Nat.not_lt_zero _)) (fun i j sh h => absurd h (Nat.not_lt_zero _)))
          · have hnf : n = fuel := by omega
            subst hnf
            have hx : ∀ i, i < len → ∃ cs', w.cells? 0 (a.add (i * l.length)) l.length = some cs' ∧ Row w l cs' (Rows.uptoBulk ((elems.map (·.1)).getD i .nil)) := by
              intro i hi
              have hi' : i < elems.length := by omega
              have h1 := hel i hi
              rw [List.getElem?_eq_getElem hi', hsz] at h1
              obtain ⟨cs', h2, h3⟩ := Option.bind_eq_some_iff.1 h1
              refine ⟨cs', h2, ?_⟩
              have := row_of_trod _ d e cs' _ l h3 hl
              simpa [List.getD, List.getElem?_eq_getElem hi'] using this
            have hcell : ∀ i j, i < len → j < l.length → ∃ v, w.cell? (a.add (i * l.length + j)) = some v ∧ ∀ sh, l[j]? = some sh → Cl w sh v (Rows.uptoBulk ((elems.map (·.1)).getD i .nil)) := by
              intro i j hi hj
              obtain ⟨cs', h2, hlc', h3⟩ := hx i hi
              obtain ⟨_, _, h4⟩ := World.cells?_some h2
              obtain ⟨sh, hsh⟩ : ∃ sh, l[j]? = some sh := ⟨l[j], List.getElem?_eq_getElem hj⟩
              obtain ⟨v, hv, hcl⟩ := h3 j sh hsh
              refine ⟨v, ?_, fun sh' hsh' => ?_⟩
              · have := h4 j hj
                rw [hv] at this
                rw [← this]
                congr 1
                unfold Addr.add
                by_cases h1 : i * l.length = 0 <;> by_cases h2 : j = 0 <;> simp [h1, h2, Nat.add_assoc]
              · rw [hsh] at hsh'; cases hsh'; exact hcl
            classical
            let U : Nat → Nat → Value := fun i j => if h : i < len ∧ j < l.length then Classical.choose (hcell i j h.1 h.2) else undef
            have hU : ∀ i j, i < len → j < l.length → w.cell? (a.add (i * l.length + j)) = some (U i j) ∧ ∀ sh, l[j]? = some sh → Cl w sh (U i j) (Rows.uptoBulk ((elems.map (·.1)).getD i .nil)) := by
              intro i j hi hj
              have := Classical.choose_spec (hcell i j hi hj)
              simp only [U, dif_pos (And.intro hi hj)]
              exact this
            refine one _ (.sl (s := ⟨some a, len, cap⟩) (fun i => Rows.uptoBulk ((elems.map (·.1)).getD i .nil)) U hlc hcm (fun i _ => bulk_one _) ?_ (fun h => by cases h) (fun hn => ?_) fun i j sh hi hj => (hU i j hi ((List.getElem?_eq_some_iff.1 hj).1)).2 sh hj)
            · have h1 := sumTo_bulk (elems.map (·.1))
              rw [List.length_map, hlen] at h1
              simp only [Rows.uptoBulk]
              omega
            · have h0 := (hU 0 0 hn hpos).1
              have hs0 : a.spot = none := by
                rw [Nat.zero_mul, Nat.zero_add, show a.add 0 = a by simp [Addr.add]] at h0
                exact addr_none h0
              obtain ⟨g, o, sp⟩ := a
              simp only at hs0
              subst hs0
              refine ⟨g, o, rfl, fun i j sh hi hj => ?_⟩
              have := (hU i j hi ((List.getElem?_eq_some_iff.1 hj).1)).1
              rwa [addr_add] at this
      | struct fs =>
        simp only [] at hs
        split at hs
        case h_2 => cases hs
        rename_i l hl
        obtain ⟨hct, hs⟩ := nbeq hs
        cases hs
        obtain ⟨xs, n, hn, rfl, hlen, hxl, hf⟩ := DataW.trod_struct hu h
        have hnf : n = fuel := by omega
        subst hnf
        have := fields_row (B := Rows.uptoBulkAll (xs.map (·.1)) + 1) (cs := cs) (go := shOf P d) (fun t cs x shs h hs => row_of_trod n d t cs x shs h hs) fs.toList xs 0 shs hl (by simpa using hxl) (fun i f hi => hf i f (by simpa using hi)) (fun x hx => by
          have := bulk_part (l := xs.map (·.1)) (List.mem_map_of_mem hx); omega) (by omega)
        rw [List.drop_zero, List.take_of_length_le (by omega)] at this
        exact this
      | _ => cases hs
theorem open_sl {base : Nat} {t e : TypeId} {v : Value} {d : DataW H} {p : List MemPlace} {es : List Sh} (n : Nat) (hu : P.underlying t = some (.slice e)) (hs : shOf P n t = some [.sl es]) (hval : Value.okWide P w .any base t v)
    (h : DataW.Trod enc P w 0 spare held t v d p) : ∃ s : Sl, v = s.v ∧ Cl w (.sl es) s.v (Rows.uptoBulk d) := by
  obtain ⟨a, m, c, rfl⟩ := WideShapes.okWide_slice hu hval
  obtain ⟨fuel, h⟩ := h
  obtain ⟨hl, hr⟩ := row_of_trod fuel n t _ _ _ h hs
  obtain ⟨v, hv, hc⟩ := hr 0 _ rfl
  have : v = .slice a m c := by simpa [Value.cells] using hv.symm
  subst this
  exact ⟨⟨a, m, c⟩, rfl, hc⟩
theorem open_row {base : Nat} {t : TypeId} {fs : Array Field} {v : Value} {d : DataW H} {p : List MemPlace} {shs : List Sh} (n : Nat) (hu : P.underlying t = some (.struct fs)) (hs : shOf P n t = some shs) (hval : Value.okWide P w .any base t v)
    (h : DataW.Trod enc P w 0 spare held t v d p) : ∃ cs : List Value, v = .agg ⟨cs⟩ ∧ Row w shs cs (Rows.uptoBulk d) := by
  obtain ⟨cs, rfl, _⟩ := WideShapes.okWide_struct hu hval
  obtain ⟨fuel, h⟩ := h
  exact ⟨cs.toList, rfl, row_of_trod fuel n t _ _ _ h hs⟩
end
end Go.Proofs.YtechilkjfhpkpaaGreatDoor.Rep

namespace Go.Proofs.YtechilkjfhpkpaaGreatDoor.Rep
open Go Vm Go.RowKit Num Mem
variable {w : World} {α : Type}
theorem flat_at {enc : α → List Value} {k : Nat} (hk : ∀ x, (enc x).length = k) : ∀ (m : List α) (i j : Nat), j < k → (m.flatMap enc)[i * k + j]? = (m[i]?).bind fun x => (enc x)[j]?
  | [], i, j, _ => by simp
  | x :: m, 0, j, hj => by
    simp only [List.flatMap_cons, Nat.zero_mul, Nat.zero_add]
    rw [List.getElem?_append_left (by rw [hk]; exact hj)]; simp
  | x :: m, i + 1, j, hj => by
    simp only [List.flatMap_cons]
    rw [List.getElem?_append_right (by rw [hk, Nat.add_mul]; omega), hk, show (i + 1) * k + j - k = i * k + j by rw [Nat.add_mul]; omega, flat_at hk m i j hj]
    simp
theorem flat_len {enc : α → List Value} {k : Nat} (hk : ∀ x, (enc x).length = k) : ∀ m : List α, (m.flatMap enc).length = m.length * k
  | [] => by simp
  | x :: m => by simp only [List.flatMap_cons, List.length_append, List.length_cons, hk, flat_len hk m, Nat.add_mul]; omega
theorem rows_of [Inhabited α] {s : Sl} {b : Nat} {es : List Sh} {enc : α → List Value} {Q : α → Prop} (hk : ∀ x, (enc x).length = es.length) (hpos : 0 < es.length) (h : Cl w (.sl es) s.v b)
    (inv : ∀ V : Nat → Value, (∀ j sh, es[j]? = some sh → Cl w sh (V j) b) → ∃ x, (∀ j, j < es.length → (enc x)[j]? = some (V j)) ∧ Q x) :
    ∃ m : List α, Rd w s es.length (m.flatMap enc) ∧ s.n = m.length ∧ s.n < b ∧ s.n ≤ maxLen ∧ ∀ x ∈ m, Q x := by
  have hb := h.len
  obtain ⟨f, U, h1, h2, h3, h4, h5, h6, h7⟩ := h.sl_inv
  have get : ∀ i, i < s.n → ∃ x : α, (∀ j, j < es.length → (enc x)[j]? = some (U i j)) ∧ Q x := fun i hi => inv (U i) fun j sh hj => (h7 i j sh hi hj).mono (by have := sumTo_ge f s.n i hi; omega)
  obtain ⟨g, hg⟩ : ∃ g : Nat → α, ∀ i, i < s.n → (∀ j, j < es.length → (enc (g i))[j]? = some (U i j)) ∧ Q (g i) :=
    ⟨fun i => if hi : i < s.n then (get i hi).choose else default, fun i hi => by simp only [dif_pos hi]; exact (get i hi).choose_spec⟩
  refine ⟨(List.range s.n).map g, ⟨h1, by rw [flat_len hk]; simp, fun hne => ?_⟩, by simp, hb, by omega, fun x hx => ?_⟩
  · have hn : 0 < s.n := by
      rcases Nat.eq_zero_or_pos s.n with e | e
      · rw [e] at hne; exact absurd rfl hne
      · exact e
    obtain ⟨gb, o, ha, hc⟩ := h6 hn
    refine ⟨gb, o, ha, fun j v hv => ?_⟩
    have hj : j < s.n * es.length := by
      have := (List.getElem?_eq_some_iff.1 hv).1
      rwa [flat_len hk, List.length_map, List.length_range] at this
    have hi : j / es.length < s.n := Nat.div_lt_of_lt_mul (by rw [Nat.mul_comm]; exact hj)
    have hr : j % es.length < es.length := Nat.mod_lt _ hpos
    have ej : j = j / es.length * es.length + j % es.length := by rw [Nat.mul_comm]; exact (Nat.div_add_mod j es.length).symm
    rw [ej] at hv ⊢
    rw [flat_at hk _ _ _ hr] at hv
    have hm : ((List.range s.n).map g)[j / es.length]? = some (g (j / es.length)) := by simp [hi]
    rw [hm, Option.bind_some, (hg _ hi).1 _ hr] at hv
    injection hv with hv
    rw [← hv]
    obtain ⟨sh, hsh⟩ : ∃ sh, es[j % es.length]? = some sh := ⟨_, List.getElem?_eq_getElem hr⟩
    exact hc _ _ sh hi hsh
  · obtain ⟨i, hi, rfl⟩ := List.mem_map.1 hx
    exact (hg i (List.mem_range.1 hi)).2
end Go.Proofs.YtechilkjfhpkpaaGreatDoor.Rep

namespace Go.Proofs.YtechilkjfhpkpaaGreatDoor.Utf
open Go Vm Go.RowKit Num Mem
open Go.Lib (VarReads cells_of_tab firstTab firstT accLo accHi array_elem ints_of_struct Utf8Tabs)
theorem utab_of {w : World} (h3 : VarReads Tryz.prog w "unicode/utf8.first" Go.Lib.firstData) (h4 : VarReads Tryz.prog w "unicode/utf8.acceptRanges" Go.Lib.acceptData) : UTab w := by
  refine ⟨fun c hc => ?_, fun i hi => ?_⟩
  · obtain ⟨g, t, cs, fuel, p, hg, hty, hvar, hd⟩ := h3
    obtain rfl := Option.some.inj ((show Tryz.prog.globalNamed "unicode/utf8.first" = some 2 by kernel_rfl).symm.trans hg)
    obtain rfl := Option.some.inj ((show (Tryz.prog.globals[2]?).map (·.type) = some 145 by kernel_rfl).symm.trans hty)
    have hcs := cells_of_tab (e := 5) (n := 256) (by kernel_rfl) (by kernel_rfl) (by kernel_rfl) (by kernel_rfl) hd
    have := World.var?_cell hg hvar c
    rw [this, ← Array.getElem?_toList, hcs]
    simp [firstTab, hc]
  · obtain ⟨g, t, cs, fuel, p, hg, hty, hvar, hd⟩ := h4
    obtain rfl := Option.some.inj ((show Tryz.prog.globalNamed "unicode/utf8.acceptRanges" = some 3 by kernel_rfl).symm.trans hg)
    obtain rfl := Option.some.inj ((show (Tryz.prog.globals[3]?).map (·.type) = some 148 by kernel_rfl).symm.trans hty)
    obtain ⟨fuel', d, q, hdi, he⟩ := array_elem (n := 16) (e := 147) (by kernel_rfl) hd i hi
    simp only [List.getElem?_map, List.getElem?_range hi, Option.map_some, Option.some.injEq] at hdi
    subst hdi
    have hc2 : Tryz.prog.cellsOf 147 = 2 := by kernel_rfl
    rw [hc2] at he
    obtain ⟨f0, f1, hs, hf0, hf1, ho0, ho1⟩ : ∃ f0 f1 : Field, Tryz.prog.underlying 147 = some (.struct #[f0, f1]) ∧ f0.type = 5 ∧ f1.type = 5 ∧ f0.offset = 0 ∧ f1.offset = 1 :=
      ⟨{ name := "lo", type := 5, offset := 0, embedded := false, tag := "", pkgPath := "unicode/utf8", byteOffset := 0 }, { name := "hi", type := 5, offset := 1, embedded := false, tag := "", pkgPath := "unicode/utf8", byteOffset := 1 }, by kernel_rfl, rfl, rfl, rfl, rfl⟩
    have ht5 : Tryz.prog.underlying 5 = some (.int .u8) := by kernel_rfl
    have hc5 : Tryz.prog.cellsOf 5 = 1 := by kernel_rfl
    have hcs := ints_of_struct (k := .u8) hs (fun j f hj => by
      match j, hj with
      | 0, hj => simp at hj; subst hj; rw [hf0]; exact ⟨ht5, ho0, hc5⟩
      | 1, hj => simp at hj; subst hj; rw [hf1]; exact ⟨ht5, ho1, hc5⟩
      | j + 2, hj => simp at hj) (by rw [hc2]; rfl) he
    have e0 := congrArg (·[0]?) hcs
    have e1 := congrArg (·[1]?) hcs
    simp only [List.getElem?_take, List.getElem?_drop] at e0 e1
    constructor
    · rw [World.var?_cell hg hvar (2 * i), ← Array.getElem?_toList]
      simpa [Nat.mul_comm] using e0
    · rw [World.var?_cell hg hvar (2 * i + 1), ← Array.getElem?_toList]
      simpa [Nat.mul_comm] using e1
theorem first_same : (Rows.laid_unicode_utf8_first : DataW Unit) = Go.Lib.firstData := by kernel_rfl
theorem accept_same : (Rows.laid_unicode_utf8_acceptRanges : DataW Unit) = Go.Lib.acceptData := by kernel_rfl
theorem utab_laid {w : World} {l : List (String × DataW Unit)} (h : laidMet Tryz.prog l w) (h1 : ("unicode/utf8.first", Rows.laid_unicode_utf8_first) ∈ l) (h2 : ("unicode/utf8.acceptRanges", Rows.laid_unicode_utf8_acceptRanges) ∈ l) : UTab w :=
  utab_of (by rw [← first_same]; exact Go.Lib.laidMet.reads h h1) (by rw [← accept_same]; exact Go.Lib.laidMet.reads h h2)
end Go.Proofs.YtechilkjfhpkpaaGreatDoor.Utf
namespace Go.Proofs.YtechilkjfhpkpaaGreatDoor.Utf
open Go Vm Go.RowKit Num Mem
theorem own : ownKnob Tryz.prog.godebug = none := by kernel_rfl
noncomputable def utfWorld (w : World) : World :=
  { w with heap := (w.heap.modify 2 fun
      | .cells _ t frozen => .cells (Go.Lib.firstTab.map fun z => Value.int .u8 z).toArray t frozen
      | o => o).modify 3 fun
      | .cells _ t frozen => .cells ((List.range 16).flatMap fun i => [Value.int .u8 (Go.Lib.accLo i), Value.int .u8 (Go.Lib.accHi i)]).toArray t frozen
      | o => o }
end Go.Proofs.YtechilkjfhpkpaaGreatDoor.Utf

namespace Go.Proofs.YtechilkjfhpkpaaGreatDoor.Ru
open Go Vm Go.RowKit Num Mem Utf Lib Lab Rep
abbrev LAID : List (String × DataW Unit) := [("unicode/utf8.acceptRanges", Rows.laid_unicode_utf8_acceptRanges), ("errors.errorType", Rows.laid_errors_errorType), ("tocsin/rules.errWrong", Rows.laid_tocsin_rules_errWrong), ("unicode/utf8.first", Rows.laid_unicode_utf8_first)]
theorem gW : Tryz.prog.globalNamed "tocsin/rules.errWrong" = some 0 := by kernel_rfl
theorem gWType : (Tryz.prog.globals[0]?).map (·.type) = some 77 := by kernel_rfl
theorem cells249 : Tryz.prog.cellsOf 249 = 1 := by kernel_rfl
theorem cells9 : Tryz.prog.cellsOf 9 = 1 := by kernel_rfl
theorem star : "*" ++ "errors.errorString" = "*errors.errorString" := by decide
theorem row228 (u : TypeId) (h : Tryz.prog.typeName? 3 u = some "*errors.errorString") : u = 228 :=
  typeName_ptr_named (nm := "errors.errorString") (by rw [star]; kernel_rfl) (by kernel_rfl) (by decide) u (by rw [star]; exact h)
theorem etG : Tryz.prog.globalNamed "errors.errorType" = some 4 := by kernel_rfl
theorem rtT : (Tryz.prog.cutTypes.find? (·.1 == "internal/reflectlite.rtype")).map (·.2) = some 184 := by kernel_rfl
theorem oneRow : ((List.range 261).filter fun t => Tryz.prog.rowNamed t [101, 114, 114, 111, 114]) = [77] := by kernel_rfl
theorem szT : Tryz.prog.types.size = 261 := by kernel_rfl
theorem split {W : World} (h : laidMetH Tryz.prog LAID W) : laidMet Tryz.prog [("unicode/utf8.acceptRanges", Rows.laid_unicode_utf8_acceptRanges), ("tocsin/rules.errWrong", Rows.laid_tocsin_rules_errWrong), ("unicode/utf8.first", Rows.laid_unicode_utf8_first)] W ∧ handlesMet Tryz.prog [("errors.errorType", Rows.laid_errors_errorType)] W := h
set_option maxRecDepth 100000 in
theorem laid_tabs {W : World} (h : laidMetH Tryz.prog LAID W) : UTab W ∧ ETab W := by
  obtain ⟨h1, h2⟩ := split h
  refine ⟨utab_laid h1 (.tail _ (.tail _ (.head _))) (.head _), ?_, ?_⟩
  · obtain ⟨ps, ⟨gA, tA, csA, fA, pA, qA, _, _, _, _, ⟨g0, t0, cs0, f0, p0, q0, hg0, ht0, hv0, hd0, _, e0⟩, eA⟩, _, hrows⟩ := h1
    obtain rfl := Option.some.inj (gW.symm.trans hg0)
    obtain rfl := Option.some.inj (gWType.symm.trans ht0)
    subst e0
    subst eA
    obtain ⟨l0⟩ := cs0
    have ok0 : ∀ u v, l0 = [.iface u v] → Value.okWide Tryz.prog W .any 0 u v := fun u v e => by
      subst e
      exact (hrows 0 0 (by simp [MemPlace.row])).2 u v (by simpa using World.var?_cell hg0 hv0 0)
    obtain ⟨a0, s0, rfl, hc0, hs0, hz0, _⟩ := errorString_of_trod (tp := 228) (te := 249) (ts := 9) Tryz.underlying77 row228 Tryz.underlying228 Tryz.underlying249 rfl rfl (by kernel_rfl) cells249 cells9 hd0 ok0
    exact ⟨a0, by simpa using World.var?_cell gW hv0 0⟩
  · obtain ⟨name, u, ty, e1, e2, e3, e4, e5⟩ := h2 _ (List.mem_singleton.2 rfl)
    have en : name = [101, 114, 114, 111, 114] := (Option.some.inj e1).symm
    subst en
    obtain rfl := Option.some.inj (rtT.symm.trans e2)
    have hm : ty ∈ (List.range 261).filter fun t => Tryz.prog.rowNamed t [101, 114, 114, 111, 114] := List.mem_filter.2 ⟨List.mem_range.2 (by rw [← szT]; exact e3), e4⟩
    rw [oneRow] at hm
    obtain rfl := List.mem_singleton.1 hm
    have hh : typeHandle Tryz.prog 77 = .pointer (some ⟨6, 77, none⟩) := by kernel_rfl
    rw [hh] at e5
    simpa using World.var?_cell etG e5 0
noncomputable def low : Nat := (World.holding Tryz.prog default ⟨#[], #[], []⟩).heap.size
noncomputable def errWorld (os : Os) : World :=
  let w0 := utfWorld (World.holding Tryz.prog os ⟨#[.cells #[.string ⟨#[99, 97, 110, 32, 110, 111, 116, 32, 98, 101]⟩] 249], #[], []⟩)
  { w0 with heap := (w0.heap.modify 0 fun
      | .cells _ t frozen => .cells #[.iface 228 (.pointer (some ⟨low, 0, none⟩))] t frozen
      | o => o).modify 4 fun
      | .cells _ t frozen => .cells #[.iface 184 (.agg #[.pointer (some ⟨6, 77, none⟩)])] t frozen
      | o => o }
theorem err_met (os : Os) (args : Array Value) : laidMetH Tryz.prog LAID ((errWorld os).forCall (fun _ _ => 0) ⟨#[], args, []⟩).memory :=
  laidMetH_of_parts (laidMet_of_run' 8 (by kernel_rfl) (by kernel_rfl)) (by kernel_rfl)
end Go.Proofs.YtechilkjfhpkpaaGreatDoor.Ru

namespace Go.Proofs.YtechilkjfhpkpaaGreatDoor.Ru
open Go Vm Go.RowKit Num Mem Utf Lib Lab
variable {ω ω' ωb : Tg} {w w' w0 wb : World} {t gs gm : Nat} {M : List Av} {r : Rl} {now last : Int} {s sl : Sl}
theorem bits_ok {n : Nat} {K : Int → World → Prop} (hK : K (n : Int) w) : C.math_Float64bits n w K := hK
abbrev RdAs (w : World) (s : Sl) (x : QL) : Prop := Rd w s 6 (avs x) ∧ ∀ p ∈ x, Rd w p.2 2 (labs p.1.1) ∧ p.1.1.length ≤ 9000000000000000000
abbrev RdOs (w : World) (s : Sl) (x : OQ) : Prop := Rd w s 1 (sls x) ∧ ∀ p ∈ x, Rd w p.2 2 (labs p.1) ∧ p.1.length ≤ 9000000000000000000
theorem tiP : TI Tryz.prog 35 45 2 32 := TI.of (z := .agg #[.slice none 0 0, .float .f64 0]) (by kernel_rfl) (by kernel_rfl) rfl (by decide)
def tA (r : Rl) (p : Pt) : Av := (labO r p.1, 0, 0, 0, 0, p.2)
structure Good (M : List Av) : Prop where
  up : M.Pairwise ltA
  rt : ∀ a ∈ M, (rt a.1).1 = 0
theorem Good.nil : Good [] := ⟨List.Pairwise.nil, by simp⟩
theorem Good.step {ps : List Pt} (h : Good M) (hr : RlOk r) (he : toldE r ps = 0) : Good (stepM r now (toldL r ps) M) := ⟨step_up h.up, fun a ha => by
  obtain ⟨b, hb, e⟩ := List.mem_filterMap.1 ha
  rw [stepA_lab e]
  exact merge_rt (nodupL (toldS_up r ps)) h.up (told_rt hr he) h.rt b hb⟩
end Go.Proofs.YtechilkjfhpkpaaGreatDoor.Ru

namespace Go.Proofs.YtechilkjfhpkpaaGreatDoor.Ru
open Go Vm Go.RowKit Num Mem Utf Lib Lab Rep
variable {w w' : World} {α : Type}
instance : Inhabited Sl := ⟨nilS⟩
def LbSm (b : Nat) (m : List Lb) : Prop := m.length < b ∧ ∀ x ∈ m, x.1.size < b ∧ x.2.size < b
theorem labs_of {s : Sl} {b : Nat} (h : Cl w (.sl [.str, .str]) s.v b) : ∃ m : List Lb, Rd w s 2 (labs m) ∧ s.n = m.length ∧ s.n ≤ maxLen ∧ LbSm b m := by
  obtain ⟨m, h1, h2, h3, h4, h5⟩ := rows_of (α := Lb) (enc := labC) (Q := fun x => x.1.size < b ∧ x.2.size < b) (fun _ => rfl) (by decide) h fun V hV => by
    obtain ⟨s0, e0, h0⟩ := (hV 0 _ rfl).str_inv
    obtain ⟨s1, e1, h1⟩ := (hV 1 _ rfl).str_inv
    refine ⟨(s0, s1), fun j hj => ?_, h0, h1⟩
    match j, hj with
    | 0, _ => rw [e0]; rfl
    | 1, _ => rw [e1]; rfl
  exact ⟨m, h1, h2, h4, by omega, h5⟩
abbrev shL : Sh := .sl [.str, .str]
abbrev shP : Sh := .sl [shL, .fl .f64]
theorem points_of {s : Sl} {b : Nat} (h : Cl w shP s.v b) : ∃ q : PQ, RdPs w s q ∧ s.n = q.length ∧ q.length < b ∧ ∀ p ∈ q, LbSm b p.1.1 := by
  obtain ⟨m, h1, h2, h3, h4, h5⟩ := rows_of (α := Pt × Sl) (enc := ptC) (Q := fun x => Rd w x.2 2 (labs x.1.1) ∧ LbSm b x.1.1) (fun _ => rfl) (by decide) h fun V hV => by
    have c0 := hV 0 _ rfl
    obtain ⟨s0, e0⟩ := c0.sl_ex
    obtain ⟨n1, e1, h1⟩ := (hV 1 _ rfl).fl_inv
    rw [e0] at c0
    obtain ⟨m, g1, g2, g3, g4⟩ := labs_of c0
    refine ⟨((m, n1), s0), fun j hj => ?_, g1, g4⟩
    match j, hj with
    | 0, _ => rw [e0]; rfl
    | 1, _ => rw [e1]; rfl
  exact ⟨m, ⟨h1, fun p hp => (h5 p hp).1⟩, h2, by omega, fun p hp => (h5 p hp).2⟩
abbrev Tk := Int × Sl × PQ
def tkC (x : Tk) : List Value := [.int .i64 x.1, x.2.1.v]
def tks (m : List Tk) : List Value := m.flatMap tkC
structure Scr (w : World) (s : Sl) (m : List Tk) (f : Nat → Nat) (b : Nat) : Prop where
  row : Rd w s 2 (tks m)
  len : s.n = m.length
  sum : sumTo f m.length < b
  el : ∀ i x, m[i]? = some x → RdPs w x.2.1 x.2.2 ∧ x.2.2.length ≤ f i ∧ ∀ p ∈ x.2.2, LbSm b p.1.1
theorem Scr.keep {s : Sl} {m : List Tk} {f : Nat → Nat} {b : Nat} (h : Scr w s m f b) (k : Keep w w') : Scr w' s m f b := ⟨h.row.keep k, h.len, h.sum, fun i x hx => ⟨(h.el i x hx).1.keep k, (h.el i x hx).2⟩⟩
theorem sumTo_mono (f : Nat → Nat) {i n : Nat} (h : i ≤ n) : sumTo f i ≤ sumTo f n := by
  induction n with
  | zero => rw [Nat.le_zero.1 h]; exact Nat.le_refl _
  | succ n ih =>
    rcases Nat.lt_or_ge n i with h' | h'
    · rw [show i = n + 1 by omega]; exact Nat.le_refl _
    · have := ih h'
      simp only [sumTo]; omega
theorem Scr.up {s : Sl} {m : List Tk} {f : Nat → Nat} {b i : Nat} (h : Scr w s m f b) (hi : i ≤ m.length) : sumTo f i < b := Nat.lt_of_le_of_lt (sumTo_mono f hi) h.sum
theorem LbSm.mono {b c : Nat} {m : List Lb} (h : LbSm b m) (hb : b ≤ c) : LbSm c m := ⟨by have := h.1; omega, fun x hx => ⟨by have := (h.2 x hx).1; omega, by have := (h.2 x hx).2; omega⟩⟩
theorem Scr.mono {s : Sl} {m : List Tk} {f : Nat → Nat} {b c : Nat} (h : Scr w s m f b) (hb : b ≤ c) : Scr w s m f c := ⟨h.row, h.len, by have := h.sum; omega, fun i x hx => ⟨(h.el i x hx).1, (h.el i x hx).2.1, fun p hp => ((h.el i x hx).2.2 p hp).mono hb⟩⟩
def RlSm (b : Nat) (r : Rl) : Prop := r.nm.size < b ∧ r.ex.size < b ∧ LbSm b r.ls
theorem RlSm.mono {b c : Nat} {r : Rl} (h : RlSm b r) (hb : b ≤ c) : RlSm c r := ⟨by have := h.1; omega, by have := h.2.1; omega, h.2.2.mono hb⟩
set_option maxRecDepth 100000 in
theorem open_rule {H : Type} {enc : TypeId × Value → H} {base : Nat} {v : Value} {d : DataW H} {p : List MemPlace} {spare held} (hval : Value.okWide Tryz.prog w .any base 24 v) (h : DataW.Trod enc Tryz.prog w 0 spare held 24 v d p) :
    ∃ (r : Rl) (s : Sl), v = .agg ⟨[.bool r.rc, .string r.nm, .string r.ex, .int .i64 r.fo, .int .i64 r.ke, s.v]⟩ ∧ Rd w s 2 (labs r.ls) ∧ RlSm (Rows.uptoBulk d) r := by
  obtain ⟨cs, rfl, hl, hr⟩ := open_row (fs := match Tryz.prog.underlying 24 with | some (.struct fs) => fs | _ => #[]) (shs := [.bool, .str, .str, .int .i64, .int .i64, shL]) 8 (by kernel_rfl) (by kernel_rfl) hval h
  obtain ⟨v0, e0, h0⟩ := hr 0 _ rfl
  obtain ⟨v1, e1, h1⟩ := hr 1 _ rfl
  obtain ⟨v2, e2, h2⟩ := hr 2 _ rfl
  obtain ⟨v3, e3, h3⟩ := hr 3 _ rfl
  obtain ⟨v4, e4, h4⟩ := hr 4 _ rfl
  obtain ⟨v5, e5, h5⟩ := hr 5 _ rfl
  obtain ⟨b0, rfl⟩ := h0.bool_inv
  obtain ⟨s1, rfl, g1⟩ := h1.str_inv
  obtain ⟨s2, rfl, g2⟩ := h2.str_inv
  obtain ⟨n3, rfl, _⟩ := h3.int_inv
  obtain ⟨n4, rfl, _⟩ := h4.int_inv
  obtain ⟨s5, rfl⟩ := h5.sl_ex
  obtain ⟨m, k1, k2, k3, k4⟩ := labs_of h5
  refine ⟨⟨b0, s1, s2, n3, n4, m⟩, s5, ?_, k1, g1, g2, k4⟩
  match cs, hl, e0, e1, e2, e3, e4, e5 with
  | [c0, c1, c2, c3, c4, c5], _, e0, e1, e2, e3, e4, e5 =>
    simp only [List.getElem?_cons_zero, List.getElem?_cons_succ, Option.some.injEq] at e0 e1 e2 e3 e4 e5
    rw [e0, e1, e2, e3, e4, e5]
end Go.Proofs.YtechilkjfhpkpaaGreatDoor.Ru

namespace Go.Proofs.YtechilkjfhpkpaaGreatDoor.Ru
open Go Vm Go.RowKit Num Mem Utf Lib Lab Rep
variable {ω ω' ωb : Tg} {w w' w0 wb : World} {t gs gm : Nat} {M : List Av} {r : Rl} {now last : Int} {s sl : Sl}
theorem rl_cells {g : Nat} (b1 : Blk w g 24 (rlC r s)) {Z : Bool → ByteArray → ByteArray → Int → Int → Sl → Prop} (hZ : Z r.rc r.nm r.ex r.fo r.ke s) :
    G.cB ⟨g, 0, none⟩ w fun b67 => G.cS (Addr.add ⟨g, 0, none⟩ 1) w fun s68 => G.cS (Addr.add ⟨g, 0, none⟩ 2) w fun s69 => G.cI .i64 (Addr.add ⟨g, 0, none⟩ 3) w fun n70 => G.cI .i64 (Addr.add ⟨g, 0, none⟩ 4) w fun n71 => G.cSl (Addr.add ⟨g, 0, none⟩ 5) w fun l72 => Z b67 s68 s69 n70 n71 l72 :=
  cB_at (b := r.rc) (by rw [b1.cell]; rfl) <| cS_at (b := r.nm) (by rw [addr_add, b1.cell]; rfl) <| cS_at (b := r.ex) (by rw [addr_add, b1.cell]; rfl) <| cI_at (n := r.fo) (by rw [addr_add, b1.cell]; rfl) <| cI_at (n := r.ke) (by rw [addr_add, b1.cell]; rfl) <| cSl_at (s := s) (by rw [addr_add, b1.cell]; rfl) hZ
theorem RdAs.keep {a : Sl} {x : QL} (h : RdAs w a x) (k : Keep w w') : RdAs w' a x := ⟨h.1.keep k, fun p hp => ⟨(h.2 p hp).1.keep k, (h.2 p hp).2⟩⟩
theorem RdOs.keep {a : Sl} {x : OQ} (h : RdOs w a x) (k : Keep w w') : RdOs w' a x := ⟨h.1.keep k, fun p hp => ⟨(h.2 p hp).1.keep k, (h.2 p hp).2⟩⟩
theorem RdAs.nil (w : World) : RdAs w nilS [] := ⟨Rd.nil w 6, by simp⟩
theorem RdOs.nil (w : World) : RdOs w nilS [] := ⟨Rd.nil w 1, by simp⟩
end Go.Proofs.YtechilkjfhpkpaaGreatDoor.Ru

namespace Go.Proofs.YtechilkjfhpkpaaGreatDoor.Ru
open Go Vm Go.RowKit Num Mem Utf Lib Lab Rep
variable {ω ω' ωb : Tg} {w w' w0 wb : World} {t gs gm : Nat} {M : List Av} {r : Rl} {now last : Int} {s sl rs xs : Sl}
theorem labE_wE (hr : ruleB r = true) (l : List Lb) : labE r l = wE l (moreA r) := by unfold labE; rw [if_pos hr]
theorem labO_len (hr : ruleB r = true) {l : List Lb} (h : labE r l = 0) : (labO r l).length ≤ 16 := by
  rw [labE_wE hr] at h
  exact (rt_short (labO_rt (rl_of hr) h)).1
end Go.Proofs.YtechilkjfhpkpaaGreatDoor.Ru

namespace Go.Proofs.YtechilkjfhpkpaaGreatDoor.Ru
open Go Vm Go.RowKit Num Mem Utf Lib Lab Rep
variable {r : Rl} {l : List Lb} {ps : List Pt}
def moreN (r : Rl) : List Lb := (nN, r.nm) :: r.ls
def moreM (r : Rl) : List Lb := r.ls ++ [(nN, r.nm)]
theorem moreN_names (h : RlOk r) : (namesL (moreN r)).Nodup := List.nodup_cons.2 ⟨h.nn, rt_ns h.rt⟩
theorem moreM_perm (r : Rl) : (moreM r).Perm (moreN r) := by unfold moreM moreN; exact List.perm_append_singleton _ _
theorem moreM_names (h : RlOk r) : (namesL (moreM r)).Nodup := ((moreM_perm r).map (fun x : Lb => x.1)).nodup_iff.2 (moreN_names h)
theorem goodN : namedB (Utf.bytes nN) 64 false = true := by decide +kernel
theorem moreN_good (h : RlOk r) : ∀ x ∈ moreN r, goodL x := fun x hx => by
  rcases List.mem_cons.1 hx with rfl | hx
  · exact ⟨goodN, h.val⟩
  · exact ((rt_iff _).1 h.rt).2.1 x hx
theorem moreM_good (h : RlOk r) : ∀ x ∈ moreM r, goodL x := fun x hx => moreN_good h x ((moreM_perm r).mem_iff.1 hx)
theorem outM_eq (h : RlOk r) (hl : (rt l).1 = 0) : outL l (moreM r) = outL l (moreN r) := by
  refine up_eq (outL_up (rt_ns hl) (moreM_names h)) (outL_up (rt_ns hl) (moreN_names h)) fun x => ?_
  have e1 := (moreM_perm r).mem_iff (a := x)
  have e2 : x.1 ∈ namesL (moreM r) ↔ x.1 ∈ namesL (moreN r) := ((moreM_perm r).map (·.1)).mem_iff
  rw [mem_outL, mem_outL, e1, e2]
theorem wEM_eq (h : RlOk r) : wE l (moreM r) = wE l (moreN r) := by
  unfold wE
  by_cases hl : (rt l).1 = 0
  · rw [outM_eq h hl]
  · rw [if_pos hl, if_pos hl]
abbrev leP (a b : Pt) : Prop := ¬ cmpL b.1 a.1 < 0
abbrev ltP (a b : Pt) : Prop := cmpL a.1 b.1 < 0
theorem le_trans' {a b c : List Lb} (h1 : ¬ cmpL b a < 0) (h2 : ¬ cmpL c b < 0) : ¬ cmpL c a < 0 := fun h3 => by
  by_cases e : cmpL b c = 0
  · rw [← (cmpL_cmp.eq _ _).1 e] at h3; exact h1 h3
  · have a1 := cmpL_cmp.anti b c
    exact h1 (cmpL_cmp.trans _ _ _ (show cmpL b c < 0 by omega) h3)
def insP (x : Pt) : List Pt → List Pt
  | [] => [x]
  | y :: l => if cmpL x.1 y.1 < 0 then x :: y :: l else y :: insP x l
theorem insP_perm (x : Pt) : ∀ l, (insP x l).Perm (x :: l)
  | [] => List.Perm.refl _
  | y :: l => by
    unfold insP
    split
    · exact List.Perm.refl _
    · exact ((insP_perm x l).cons y).trans (List.Perm.swap x y l)
theorem insP_up {x : Pt} : ∀ {l : List Pt}, l.Pairwise leP → (insP x l).Pairwise leP
  | [], _ => List.pairwise_singleton _ _
  | y :: l, h => by
    have h' := List.pairwise_cons.1 h
    unfold insP
    split
    · rename_i hlt
      have hxy : leP x y := by have := cmpL_cmp.anti x.1 y.1; show ¬ cmpL y.1 x.1 < 0; omega
      refine List.pairwise_cons.2 ⟨fun z hz => ?_, h⟩
      rcases List.mem_cons.1 hz with rfl | hz
      · exact hxy
      · exact le_trans' hxy (h'.1 z hz)
    · rename_i hge
      refine List.pairwise_cons.2 ⟨fun z hz => ?_, insP_up h'.2⟩
      rcases List.mem_cons.1 ((insP_perm x l).mem_iff.1 hz) with rfl | hz
      · exact hge
      · exact h'.1 z hz
theorem insP_at {x : Pt} : ∀ {A B : List Pt}, (∀ a ∈ A, ¬ cmpL x.1 a.1 < 0) → (∀ b ∈ B, cmpL x.1 b.1 < 0) → insP x (A ++ B) = A ++ x :: B
  | [], [], _, _ => rfl
  | [], b :: B, _, h => by rw [List.nil_append, insP, if_pos (h b (List.mem_cons_self ..))]; rfl
  | a :: A, B, h1, h2 => by
    rw [List.cons_append, insP, if_neg (h1 a (List.mem_cons_self ..)), insP_at (fun y hy => h1 y (List.mem_cons_of_mem _ hy)) h2]; rfl
def srtP (l : List Pt) : List Pt := l.foldl (fun acc x => insP x acc) []
theorem srtP_go : ∀ (l acc : List Pt), (l.foldl (fun acc x => insP x acc) acc).Perm (acc ++ l)
  | [], acc => by simp
  | x :: l, acc => by
    refine (srtP_go l (insP x acc)).trans ?_
    refine ((insP_perm x acc).append_right l).trans ?_
    exact (List.perm_middle (a := x) (l₁ := acc) (l₂ := l)).symm
theorem srtP_perm (l : List Pt) : (srtP l).Perm l := by have := srtP_go l []; rw [List.nil_append] at this; exact this
theorem srtP_up (l : List Pt) : (srtP l).Pairwise leP := by
  have key : ∀ (l acc : List Pt), acc.Pairwise leP → (l.foldl (fun acc x => insP x acc) acc).Pairwise leP := by
    intro l
    induction l with
    | nil => intro acc h; exact h
    | cons x l ih => intro acc h; exact ih _ (insP_up h)
  exact key l [] List.Pairwise.nil
theorem lt_of_le {l : List Pt} (h : l.Pairwise leP) (hn : (l.map (·.1)).Nodup) : l.Pairwise ltP := by
  rw [List.Nodup, List.pairwise_map] at hn
  refine (h.and hn).imp fun {a b} ⟨h1, h2⟩ => ?_
  have a1 := cmpL_cmp.anti a.1 b.1
  have a2 : cmpL a.1 b.1 ≠ 0 := fun e => h2 ((cmpL_cmp.eq _ _).1 e)
  show cmpL a.1 b.1 < 0
  have h1 : ¬ cmpL b.1 a.1 < 0 := h1
  omega
theorem ltP_irr (a : Pt) : ¬ ltP a a := by show ¬ cmpL a.1 a.1 < 0; rw [cmpL_cmp.self]; decide
theorem upP_eq : ∀ {a b : List Pt}, a.Pairwise ltP → b.Pairwise ltP → (∀ x, x ∈ a ↔ x ∈ b) → a = b
  | [], [], _, _, _ => rfl
  | [], y :: b, _, _, h => by have := (h y).2 List.mem_cons_self; cases this
  | x :: a, [], _, _, h => by have := (h x).1 List.mem_cons_self; cases this
  | x :: a, y :: b, ha, hb, h => by
    have ha' := List.pairwise_cons.1 ha
    have hb' := List.pairwise_cons.1 hb
    have no : ∀ {p q : Pt}, ltP p q → ¬ ltP q p := fun {p q} h1 h2 => ltP_irr p (cmpL_cmp.trans _ _ _ h1 h2)
    have e : x = y := by
      rcases List.mem_cons.1 ((h x).1 List.mem_cons_self) with e | h1
      · exact e
      · rcases List.mem_cons.1 ((h y).2 List.mem_cons_self) with e | h2
        · exact e.symm
        · exact absurd (hb'.1 x h1) (no (ha'.1 y h2))
    subst e
    rw [upP_eq ha'.2 hb'.2 fun z => ⟨fun hz => ?_, fun hz => ?_⟩]
    · rcases List.mem_cons.1 ((h z).1 (List.mem_cons_of_mem _ hz)) with e | h1
      · rw [e] at hz; exact absurd (ha'.1 x hz) (ltP_irr x)
      · exact h1
    · rcases List.mem_cons.1 ((h z).2 (List.mem_cons_of_mem _ hz)) with e | h1
      · rw [e] at hz; exact absurd (hb'.1 x hz) (ltP_irr x)
      · exact h1
theorem permP_eq {a b : List Pt} (hp : a.Perm b) (ha : a.Pairwise leP) (hb : b.Pairwise leP) (hn : (b.map (·.1)).Nodup) : a = b :=
  upP_eq (lt_of_le ha ((hp.map (·.1)).nodup_iff.2 hn)) (lt_of_le hb hn) fun _ => hp.mem_iff
theorem adj_iff {l : List Pt} (h : l.Pairwise leP) : (l.map (·.1)).Nodup ↔ ∀ i (hi : i + 1 < l.length), (l[i]'(by omega)).1 ≠ l[i + 1].1 := by
  constructor
  · intro hn i hi e
    rw [List.Nodup, List.pairwise_iff_getElem] at hn
    have := hn i (i + 1) (by rw [List.length_map]; omega) (by rw [List.length_map]; omega) (by omega)
    rw [List.getElem_map, List.getElem_map] at this
    exact this e
  · intro ha
    rw [List.Nodup, List.pairwise_map, List.pairwise_iff_getElem]
    intro i j hi hj hij e
    have hp := List.pairwise_iff_getElem.1 h
    have h1 : ¬ cmpL (l[i + 1]'(by omega)).1 l[i].1 < 0 := hp i (i + 1) hi (by omega) (by omega)
    have h2 : cmpL l[i].1 (l[i + 1]'(by omega)).1 ≠ 0 := fun e' => ha i (by omega) ((cmpL_cmp.eq _ _).1 e')
    have a1 := cmpL_cmp.anti l[i].1 (l[i + 1]'(by omega)).1
    have h3 : cmpL l[i].1 (l[i + 1]'(by omega)).1 < 0 := by omega
    rcases Nat.eq_or_lt_of_le (show i + 1 ≤ j by omega) with e2 | h4
    · subst e2; rw [e, cmpL_cmp.self] at h3; omega
    · have h5 : ¬ cmpL l[j].1 (l[i + 1]'(by omega)).1 < 0 := hp (i + 1) j (by omega) hj h4
      rw [← e] at h5
      exact h5 h3
def rcP (r : Rl) (p : Pt) : Pt := (outL p.1 (moreN r), p.2)
def firstN (r : Rl) : List Pt → Int
  | [] => 0
  | p :: ps => if wE p.1 (moreN r) ≠ 0 then wE p.1 (moreN r) else firstN r ps
instance decNodupL (l : List (List Lb)) : Decidable l.Nodup := inferInstanceAs (Decidable (l.Pairwise (· ≠ ·)))
def recE (r : Rl) (ps : List Pt) : Int := if ruleB r = true ∧ r.rc = true then (if firstN r ps ≠ 0 then firstN r ps else if ((ps.map (rcP r)).map (·.1)).Nodup then 0 else 150) else 201
def recO (r : Rl) (ps : List Pt) : List Pt := srtP (ps.map (rcP r))
theorem firstN_drop : ∀ {ps : List Pt} {i : Nat}, (∀ j (h : j < ps.length), j < i → wE (ps[j]).1 (moreN r) = 0) → firstN r ps = firstN r (ps.drop i)
  | _, 0, _ => by rw [List.drop_zero]
  | [], _ + 1, _ => by simp
  | p :: ps, i + 1, h => by
    have h0 : wE p.1 (moreN r) = 0 := h 0 (by simp) (by omega)
    rw [List.drop_succ_cons, firstN, if_neg (by rw [h0]; decide)]
    exact firstN_drop fun j hj hji => h (j + 1) (by simpa using hj) (by omega)
theorem wN_len {l : List Lb} (h : wE l (moreN r) = 0) : (outL l (moreN r)).length ≤ 16 := by
  rcases Nat.lt_or_ge 16 (outL l (moreN r)).length with h' | h'
  · unfold wE at h
    by_cases h1 : (rt l).1 ≠ 0
    · rw [if_pos h1] at h; exact absurd h (by decide)
    · rw [if_neg h1, if_pos h'] at h; exact absurd h (by decide)
  · exact h'
end Go.Proofs.YtechilkjfhpkpaaGreatDoor.Ru

namespace Go.Proofs.YtechilkjfhpkpaaGreatDoor.Ru
open Go Vm Go.RowKit Num Mem Utf Lib Lab Rep
variable {ω ω' ωl : Tg} {w w' w0 : World} {r : Rl} {s out rs : Sl} {q ql : PQ} {l : List Lb} {ps : List Pt}
theorem ptsS (q : PQ) (p : Pt × Sl) : pts (q ++ [p]) = pts q ++ ptC p := by rw [pts_app]; simp [pts]
theorem range_getP (q0 : Pt × Sl) (ql : PQ) : (List.range ql.length).map (fun i => ql.getD i q0) = ql := by
  apply List.ext_getElem?
  intro i
  simp only [List.getElem?_map]
  by_cases h : i < ql.length
  · rw [List.getElem?_range h, List.getElem?_eq_getElem h]; simp [List.getD_eq_getElem?_getD, h]
  · rw [List.getElem?_eq_none (by simp; omega), List.getElem?_eq_none (by omega)]; rfl
theorem pts_map (q0 : Pt × Sl) (ql : PQ) (l : List Nat) : l.flatMap (fun i => ptC (ql.getD i q0)) = pts (l.map fun i => ql.getD i q0) := by
  unfold pts
  rw [List.flatMap_map]
theorem cmp61_ok (p q : Pt × Sl) (ha : Rd w p.2 2 (labs p.1.1)) (hb : Rd w q.2 2 (labs q.1.1)) (hx : p.1.1.length ≤ 16) {K : Int → World → Prop} (hK : ∀ w', KD w w' → K (cmpL p.1.1 q.1.1) w') : C.rules_Record_1 p.2 p.1.2 q.2 q.1.2 w K := by
  unfold C.rules_Record_1
  refine newD fun g w1 k1 _ b1 => newD fun g2 w2 k2 _ b2 => ?_
  have k12 := k1.trans k2
  have b12 := b1.keep k2.1
  exact cSl_at (s := p.2) (by rw [b12.cell]; rfl) <| cSl_at (s := q.2) (by rw [b2.cell]; rfl) <| compare_ok (ha.keep k12.1) (hb.keep k12.1) (by omega) fun w' k' => hK w' (k12.trans k')
theorem sortP_T (o : OT ω w 5 45 2 out (pts ql)) (hlab : ∀ p ∈ ql, OT ω w 6 99 2 p.2 (labs p.1.1) ∧ p.1.1.length ≤ 16) (hl : ql.length ≤ 100000000) {K : World → Prop}
    (hK : ∀ ql' ω' w', Stp (Mem.One 5) ω ω' w w' → ql'.Perm ql → (ql'.map (·.1)).Pairwise leP → OT ω' w' 5 45 2 out (pts ql') → K w') :
    C.slices_SortFunc_Point_Point out (Value.func (.func 61) #[] #[]) w K := by
  show Srt.sortF 2 out (.func (.func 61) #[] #[]) w K
  have hrn := rdP_n o.rd
  cases hq : ql with
  | nil =>
    subst hq
    exact .inl ⟨hrn, hK [] ω w (Stp.refl _ _ _) (List.Perm.refl _) List.Pairwise.nil o⟩
  | cons q0 qr =>
    have hq0 : q0 ∈ ql := by rw [hq]; exact List.mem_cons_self ..
    have hgd : ∀ i, ql.getD i q0 ∈ ql := fun i => by
      rw [List.getD_eq_getElem?_getD]
      cases h : ql[i]? with
      | none => exact hq0
      | some p => exact List.mem_of_getElem? h
    refine Srt.sort_rows (k := 2) (by decide) (ω := ω) (t := 5) (e := 45) (enc := fun i => ptC (ql.getD i q0)) (fun i => rfl) (fun i v hv => by simp only [ptC, List.mem_cons, List.not_mem_nil, or_false] at hv; rcases hv with rfl | rfl <;> rfl) ?_ (by omega)
      (cf := fun i j => cmpL (ql.getD i q0).1.1 (ql.getD j q0).1.1) (Srt.swo cmpL_cmp fun i => (ql.getD i q0).1.1) (fun _ _ => callFunc_run ⟨_, Tryz.func61, by kernel_rfl, by kernel_rfl⟩) (fun W st x y => ?_) (fun is ω' w' p1 p2 st o' => ?_)
    · rw [hrn, pts_map, range_getP]; exact o
    · have hx := hlab _ (hgd x)
      have hy := hlab _ (hgd y)
      generalize ql.getD x q0 = p at *
      generalize ql.getD y q0 = q at *
      refine (C.rules_Record_1.clok [.agg (ptC p).toArray, .agg (ptC q).toArray] (fun v w' => v = .int .i64 (cmpL p.1.1 q.1.1) ∧ KD W w') W ?_).2.mono fun e w' ⟨v, he, hv, hk⟩ => ⟨by rw [he, hv], hk⟩
      unfold ptC C.rules_Record_1.cl Sl.v
      dsimp only
      exact cmp61_ok p q (hx.1.stp st).rd (hy.1.stp st).rd hx.2 fun w' k => ⟨rfl, k⟩
    · rw [pts_map] at o'
      have pq : (is.map fun i => ql.getD i q0).Perm ql := by
        have := p1.map fun i => ql.getD i q0
        rw [hrn, range_getP] at this
        exact this
      refine hK _ ω' w' st pq ?_ o'
      rw [List.pairwise_map, List.pairwise_map]
      exact p2
theorem rec_check (ho : Rd w0 out 2 (pts ql)) (hlab : ∀ p ∈ ql, Rd w0 p.2 2 (labs p.1.1) ∧ p.1.1.length ≤ 16) (hl : ql.length ≤ 100000000) (hup : (ql.map (·.1)).Pairwise leP) {K : Sl → Int → World → Prop}
    (hD : ¬ ((ql.map (fun p : Pt × Sl => p.1)).map (fun p : Pt => p.1)).Nodup → ∀ w', Keep w0 w' → K nilS 150 w') (hK : ((ql.map (fun p : Pt × Sl => p.1)).map (fun p : Pt => p.1)).Nodup → ∀ w', Keep w0 w' → K out 0 w') : C.rules_Record.S9 K out w0 := by
  unfold C.rules_Record.S9
  have hn := rdP_n ho
  have hadj := adj_iff hup
  have hml : (ql.map (·.1)).length = ql.length := List.length_map ..
  refine C.rules_Record.L5_ind fun X hX => ?_
  have key : ∀ (d i : Nat) (w : World), i + d = max ql.length 1 → 1 ≤ i → Keep w0 w → (∀ j (hj : j + 1 < (ql.map (fun p : Pt × Sl => p.1)).length), j + 1 < i → ((ql.map (fun p : Pt × Sl => p.1))[j]'(by omega)).1 ≠ ((ql.map (fun p : Pt × Sl => p.1))[j + 1]).1) → X out (i : Int) w := by
    intro d
    induction d with
    | zero =>
      intro i w hi h1 k h0
      refine hX _ _ _ ?_
      unfold C.rules_Record.S7 C.rules_Record.S2
      exact cond_d (fun h => by omega) (fun _ => hK (hadj.2 fun j hj => h0 j hj (by omega)) w k)
    | succ d ih =>
      intro i w hi h1 k h0
      refine hX _ _ _ ?_
      unfold C.rules_Record.S7
      have hiq : i < ql.length := by omega
      have hx : ql[i]? = some ql[i] := List.getElem?_eq_getElem hiq
      have hy : ql[i - 1]? = some (ql[i - 1]'(by omega)) := List.getElem?_eq_getElem (by omega)
      have ew : IntKind.i64.wrap ((i : Int) - 1) = ((i - 1 : Nat) : Int) := by rw [wI64 (by omega) (by omega)]; omega
      have kd := Keep.trans k (Keep.drew w)
      obtain ⟨ha, h16⟩ := hlab _ (List.getElem_mem (show i - 1 < ql.length by omega))
      obtain ⟨hb, _⟩ := hlab _ (List.getElem_mem hiq)
      refine cond_d (fun _ => ?_) (fun h => by omega)
      rw [ew]
      refine rdP_at (ho.keep kd) (k := i - 1) rfl hy fun a a0 _ => cSl_at a0 <| rdP_at (ho.keep kd) (k := i) rfl hx fun a' a0' _ => cSl_at a0' ?_
      refine compare_ok (ha.keep kd) (hb.keep kd) (by omega) fun w2 k2 => cond_eq (fun he => ?_) (fun hne => ?_)
      · refine hD (fun hnd => hadj.1 hnd (i - 1) (by omega) ?_) w2 (Keep.trans kd k2.1)
        rw [List.getElem_map, List.getElem_map]
        have := (cmpL_cmp.eq _ _).1 he
        rw [this]
        congr 2
        simp only [show i - 1 + 1 = i by omega]
      · rw [wI64 (by omega) (by omega), show (i : Int) + 1 = ((i + 1 : Nat) : Int) by omega]
        refine ih (i + 1) w2 (by omega) (by omega) (Keep.trans kd k2.1) fun j hj hji => ?_
        by_cases ej : j + 1 = i
        · obtain rfl : j = i - 1 := by omega
          rw [List.getElem_map, List.getElem_map]
          intro e
          refine hne ((cmpL_cmp.eq _ _).2 (e.trans ?_))
          congr 2
          simp only [show i - 1 + 1 = i by omega]
        · exact h0 j hj (by omega)
  exact key (max ql.length 1 - 1) 1 w0 (by omega) (Nat.le_refl _) (Keep.refl _) (fun j hj h => by omega)
theorem record_ok (htab : UTab w0) (het : ETab w0) (hs : Rd w0 rs 2 (labs r.ls)) (hn : r.ls.length ≤ 100000000) (hq : RdPs w0 s q) (hql : q.length ≤ 10000000) {K : Sl → Int → World → Prop}
    (hK : ∀ o ql w', Keep w0 w' → (recE r (q.map (·.1)) ≠ 0 → o = nilS ∧ ql = []) → (recE r (q.map (·.1)) = 0 → ql.map (·.1) = recO r (q.map (·.1))) → RdPs w' o ql → (∀ p ∈ ql, p.1.1.length ≤ 16) → K o (recE r (q.map (·.1))) w') : C.rules_Record r.rc r.nm r.ex r.fo r.ke rs s w0 K := by
  unfold C.rules_Record
  have hsn := rdP_n hq.row
  have heq : ∃ ps, q.map (·.1) = ps := ⟨_, rfl⟩
  obtain ⟨ps, hps⟩ := heq
  rw [hps] at hK
  have hpl : ps.length = q.length := by rw [← hps, List.length_map]
  have err : ∀ e w', recE r ps = e → e ≠ 0 → Keep w0 w' → K nilS e w' := fun e w' he hne k => by
    subst he
    exact hK nilS [] w' k (fun _ => ⟨rfl, rfl⟩) (fun h => absurd h hne) ⟨Rd.nil w' 2, by simp⟩ (by simp)
  refine new_T (ω := fun _ => 0) 7 fun g ω1 w1 k1 b1 => ?_
  have b1 : BT ω1 w1 7 g 24 (rlC r rs) := b1
  have top1 := (Top.init w0).stp k1
  refine rl_cells b1.blk <| rule_ok (htab.keep top1.k) (hs.keep top1.k) hn fun w2 k2 => ?_
  have s2 := k2.stp0 ω1
  have top2 := top1.stp s2
  have b2 := b1.stp s2
  unfold ruleE
  by_cases hr : ¬ ruleB r = true
  · rw [if_neg hr]
    exact cond_t rfl (err 201 w2 (by unfold recE; rw [if_neg fun h => hr h.1]) (by decide) top2.k)
  have hr : ruleB r = true := Decidable.not_not.1 hr
  rw [if_pos hr]
  refine cond_f rfl <| cB_at (b := r.rc) (by rw [b2.cell]; rfl) <| cond_of (fun hrc => ?_) (fun hrc => ?_)
  · exact err 201 w2 (by unfold recE; rw [if_neg fun h => by rw [h.2] at hrc; cases hrc]) (by decide) top2.k
  have hrc : r.rc = true := by simpa using hrc
  have ok := rl_of hr
  have r16 := ((rt_iff _).1 ok.rt).1
  have erec : recE r ps = if firstN r ps ≠ 0 then firstN r ps else if ((ps.map (rcP r)).map (·.1)).Nodup then 0 else 150 := by unfold recE; rw [if_pos ⟨hr, hrc⟩]
  unfold C.rules_Record.S18
  refine C.rules_Record.L14_ind fun X hX => ?_
  have key : ∀ (d i : Nat) (out : Sl) (ql : PQ) (ωl : Tg) (w3 : World), i + d = q.length → Top w0 ωl w3 → BT ωl w3 7 g 24 (rlC r rs) → OT ωl w3 5 45 2 out (pts ql) → (∀ p ∈ ql, OT ωl w3 6 99 2 p.2 (labs p.1.1) ∧ p.1.1.length ≤ 16) → ql.map (·.1) = (ps.take i).map (rcP r) → (∀ j (h : j < ps.length), j < i → wE (ps[j]).1 (moreN r) = 0) →
      X (some ⟨g, 0, none⟩) out s ((s.n : Nat) : Int) (i : Int) w3 := by
    intro d
    induction d with
    | zero =>
      intro i out ql ωl w3 hi top b oo hlab eq h0
      refine hX _ _ _ _ _ _ ?_
      unfold C.rules_Record.S16 C.rules_Record.S11
      rw [List.take_of_length_le (by omega)] at eq
      have e0 : firstN r ps = 0 := by rw [firstN_drop (i := ps.length) fun j h _ => h0 j h (by omega), List.drop_length]; rfl
      rw [e0, if_neg (by decide)] at erec
      have hqll := congrArg List.length eq
      rw [List.length_map, List.length_map] at hqll
      refine cond_d (fun h => by omega) (fun _ => ?_)
      refine sortP_T oo hlab (by omega) fun q4 ω4 w4 k4 hp4 hu4 o4 => ?_
      have top4 := top.stp k4
      have hlab4 : ∀ p ∈ q4, Rd w4 p.2 2 (labs p.1.1) ∧ p.1.1.length ≤ 16 := fun p hp => by
        obtain ⟨h1, h2⟩ := hlab p (hp4.mem_iff.1 hp)
        exact ⟨(h1.stp k4).rd, h2⟩
      have pm : (q4.map (·.1)).Perm (ps.map (rcP r)) := by rw [← eq]; exact hp4.map _
      have hnd := (pm.map (fun p : Pt => p.1)).nodup_iff
      have hq4 := hp4.length_eq
      refine rec_check o4.rd hlab4 (by omega) hu4 (fun hd w5 k5 => ?_) (fun hd w5 k5 => ?_)
      · rw [if_neg (fun h => hd (hnd.2 h))] at erec
        exact err 150 w5 erec (by decide) (Keep.trans top4.k k5)
      · have hd' := hnd.1 hd
        rw [if_pos hd'] at erec
        have := hK out q4 w5 (Keep.trans top4.k k5) (fun h => absurd erec h) (fun _ => permP_eq (pm.trans (srtP_perm _).symm) hu4 (srtP_up _) (((srtP_perm (ps.map (rcP r))).map (fun p : Pt => p.1)).nodup_iff.2 hd')) ⟨o4.rd.keep k5, fun p hp => (hlab4 p hp).1.keep k5⟩ fun p hp => (hlab4 p hp).2
        rw [erec] at this; exact this
    | succ d ih =>
      intro i out ql ωl w3 hi top b oo hlab eq h0
      refine hX _ _ _ _ _ _ ?_
      unfold C.rules_Record.S16
      have hiq : i < q.length := by omega
      have hx : q[i]? = some q[i] := List.getElem?_eq_getElem hiq
      have epi : ps[i]'(by omega) = (q[i]).1 := by simp [← hps]
      have hmem := List.getElem_mem hiq
      have et : (ps.take (i + 1)).map (rcP r) = (ps.take i).map (rcP r) ++ [rcP r (q[i]).1] := by rw [List.take_succ_eq_append_getElem (show i < ps.length by omega), List.map_append, epi]; rfl
      have hqll := congrArg List.length eq
      rw [List.length_map, List.length_map, List.length_take] at hqll
      have hon := rdP_n oo.rd
      refine cond_d (fun _ => ?_) (fun h => by omega)
      refine rdP_at (hq.row.keep top.k) (k := i) rfl hx fun a a0 a1 => cSl_at a0 <| cF_at a1 ?_
      refine newD fun g3 w4 k4 hg4 b4 => stD hg4 k4 b4 (by simp) fun w5 k5 b5 => stDA hg4 k5 b5 (by simp) fun w6 k6 b6 => ?_
      have b6 : Blk w6 g3 45 [(q[i]).2.v, .float .f64 (q[i]).1.2] := b6
      have s6 := (Keep.trans k6.1 (Keep.drew w6)).stp0 ωl
      have top6 := top.stp s6
      have r6 := b.stp s6
      have oo6 := oo.stp s6
      have hlab6 : ∀ p ∈ ql, OT ωl w6.drew 6 99 2 p.2 (labs p.1.1) ∧ p.1.1.length ≤ 16 := fun p hp => ⟨(hlab p hp).1.stp s6, (hlab p hp).2⟩
      have b6 : Blk w6.drew g3 45 [(q[i]).2.v, .float .f64 (q[i]).1.2] := b6.drew
      generalize w6.drew = w7 at *
      refine cSl_at (s := (q[i]).2) (by rw [b6.cell]; rfl) <| ptr_at <| cS_at (b := r.nm) (by rw [addr_add, r6.cell]; rfl) <| ptr_at <| cSl_at (s := rs) (by rw [addr_add, r6.cell]; rfl) ?_
      refine newD fun g8 w8 k8 hg8 b8 => ⟨sameK b6 k8.1, ?_, ?_⟩
      · rw [addr_add]; exact sameK r6.blk k8.1
      have o8 : Mem.Own w8 w7.heap.size 99 2 ⟨some ⟨g8, 0, none⟩, 1, 1⟩ (labs [(nN, r.nm)]) := Own.mk' hg8 b8 (Nat.le_refl _) (by simp only [maxLen]; omega) (by rfl) (by rfl)
      have hsn8 := rdL_n hs
      refine append_own tiL k8.1 k8.1.size o8 (hs.keep (Keep.trans top6.k k8.1)) labs_one (by simp only [maxLen]; omega) (by simp only []; omega) fun q9 w9 k9 o9 hq9 _ => ?_
      have k79 : Keep w7 w9 := k9
      refine ⟨sameK b6 k79, ?_⟩
      have o9 : Rd w9 q9 2 (labs (moreN r)) := Own.rd o9
      have s9 := k79.stp0 ωl
      have top9 := top6.stp s9
      refine with_ok (htab.keep top9.k) ((hq.el _ hmem).keep top9.k) o9 (moreN_names ok) (by unfold moreN; rw [List.length_cons]; omega) fun l10 x10 w10 k10 h1 h2 => ?_
      by_cases he : wE (q[i]).1.1 (moreN r) = 0
      · obtain ⟨rfl, o10⟩ := h2 he
        have s10 := k10.stp ωl 6
        have ot10 : OT (ext ωl w9.heap.size 6) w10 6 99 2 l10 (labs (outL (q[i]).1.1 (moreN r))) := Own.tag o10 (Nat.le_refl _) ωl 6
        have s610 := s9.trans s10
        have top10 := top9.stp s10
        have r10 := r6.stp s610
        have oo10 := oo6.stp s610
        have hlab10 : ∀ p ∈ ql, OT (ext ωl w9.heap.size 6) w10 6 99 2 p.2 (labs p.1.1) ∧ p.1.1.length ≤ 16 := fun p hp => ⟨(hlab6 p hp).1.stp s610, (hlab6 p hp).2⟩
        have b10 := b6.keep (Keep.trans k79 k10)
        generalize ext ωl w9.heap.size 6 = ω10 at *
        refine isNil_nil <| cond_f rfl <| cF_at (b := (q[i]).1.2) (by rw [addr_add, b10.cell]; rfl) ?_
        refine push_T (n := 1) tiP oo10 rfl (by intro v hv; simp at hv; rcases hv with rfl | rfl <;> rfl) (by simp only [maxLen]; omega) (by omega) fun r11 ω11 w11 k11 o11 _ => ?_
        rw [wI64 (by omega) (by omega), show (i : Int) + 1 = ((i + 1 : Nat) : Int) by omega]
        refine ih (i + 1) r11 (ql ++ [(rcP r (q[i]).1, l10)]) ω11 w11 (by omega) (top10.stp k11) (r10.stp k11) (by rw [ptsS]; exact o11) (fun p hp => ?_) (by rw [List.map_append, eq, et]; rfl) fun j h hj => ?_
        · rcases List.mem_append.1 hp with hp | hp
          · exact ⟨(hlab10 p hp).1.stp k11, (hlab10 p hp).2⟩
          · rw [List.mem_singleton.1 hp]; exact ⟨ot10.stp k11, wN_len he⟩
        · by_cases e : j = i
          · subst e; rw [epi]; exact he
          · exact h0 j h (by omega)
      · obtain ⟨rfl, rfl⟩ := h1 he
        have efe : firstN r ps = wE (q[i]).1.1 (moreN r) := by
          rw [firstN_drop h0, List.drop_eq_getElem_cons (show i < ps.length by omega), firstN, epi, if_pos he]
        rw [efe, if_pos he] at erec
        refine isNil_fault <| cond_t rfl <| number_ok (het.keep (Keep.trans top9.k k10)) (.inr rfl) fun w11 k11 => ?_
        exact err _ w11 erec he (Keep.trans (Keep.trans top9.k k10) k11)
  exact key q.length 0 nilS [] ω1 w2 (by omega) top2 b2 (OT.nil ..) (by simp) (by simp) (fun j h hj => by omega)
end Go.Proofs.YtechilkjfhpkpaaGreatDoor.Ru

namespace Go.Proofs.YtechilkjfhpkpaaGreatDoor.Ru
open Go Vm Go.RowKit Num Mem Utf Lib Lab Rep
variable {ω ω' ωb : Tg} {w w' w0 : World} {t u v : Nat} {T : Nat → Bool} {r : Rl} {s a l : Sl} {ql : QL} {oq : OQ} {q : PQ}
theorem samePts_ok {b : Sl} {x y : PQ} (ha : RdPs w0 a x) (hb : RdPs w0 b y) (e : x.map (·.1) = y.map (·.1)) (hz : ∀ p ∈ x, p.1.1.length ≤ 9000000000000000000) (hl : x.length ≤ 1000000000000) {K : Bool → World → Prop} (hK : ∀ w', Keep w0 w' → K true w') : C.tocsinref11_SamePoints a b w0 K := by
  have hna := rdP_n ha.row
  have hnb := rdP_n hb.row
  have hlen := congrArg List.length e
  rw [List.length_map, List.length_map] at hlen
  unfold C.tocsinref11_SamePoints C.tocsinref11_SamePoints.S9
  refine cond_ne (fun h => absurd (by omega) h) (fun _ => ?_)
  refine C.tocsinref11_SamePoints.L5_ind fun X hX => ?_
  have key : ∀ (d i : Nat) (w : World), i + d = x.length → Keep w0 w → X a b (i : Int) w := by
    intro d
    induction d with
    | zero =>
      intro i w hi k
      refine hX _ _ _ _ ?_
      unfold C.tocsinref11_SamePoints.S7 C.tocsinref11_SamePoints.S2
      exact cond_d (fun hh => by omega) (fun _ => hK w k)
    | succ d ih =>
      intro i w hi k
      refine hX _ _ _ _ ?_
      unfold C.tocsinref11_SamePoints.S7
      have hix : i < x.length := by omega
      have hiy : i < y.length := by omega
      have hxi : x[i]? = some x[i] := List.getElem?_eq_getElem hix
      have hyi : y[i]? = some y[i] := List.getElem?_eq_getElem hiy
      have hxy : (x[i]).1 = (y[i]).1 := by
        have h1 : (x.map (·.1))[i]? = some (x[i]).1 := by rw [List.getElem?_map, hxi]; rfl
        rw [e, List.getElem?_map, hyi] at h1
        exact (Option.some.inj h1).symm
      have hmx := List.getElem_mem hix
      have hmy := List.getElem_mem hiy
      generalize x[i] = p at *
      generalize y[i] = p' at *
      have kd := Keep.trans k (Keep.drew w)
      refine cond_d (fun _ => ?_) (fun hh => by omega)
      refine rdP_at (ha.row.keep kd) (k := i) rfl hxi fun a1 c1 _ => cSl_at c1 <| rdP_at (hb.row.keep kd) (k := i) rfl hyi fun a2 c2 _ => cSl_at c2 ?_
      refine rsame_ok ((ha.el _ hmx).keep kd) ((hb.el _ hmy).keep kd) (hz _ hmx) fun w3 k3 => ?_
      have k03 := Keep.trans kd k3
      rw [decide_eq_true (by rw [hxy])]
      refine cond_f rfl <| rdP_at (ha.row.keep k03) (k := i) rfl hxi fun a1 _ c1 => cF_at c1 <| rdP_at (hb.row.keep k03) (k := i) rfl hyi fun a2 _ c2 => cF_at c2 <| bits_ok ⟨⟨rfl, fun _ _ => rfl⟩, bits_ok <| cond_ne (fun h => absurd (by rw [hxy]) h) (fun _ => ?_)⟩
      rw [wI64 (by omega) (by omega), show (i : Int) + 1 = ((i + 1 : Nat) : Int) by omega]
      exact ih (i + 1) w3 (by omega) k03
  exact key x.length 0 w0 (by omega) (Keep.refl w0)
def WB (ω : Tg) (w : World) (v : Nat) (s : Sl) : Prop := s.n ≤ 100000000 ∧ (s.n = 0 ∨ ∃ g e cs, s.a = some ⟨g, 0, none⟩ ∧ BT ω w v g e cs ∧ s.n * 2 ≤ cs.length)
theorem WB.stp (h : WB ω w v s) (k : Stp T ω ω' w w') (hT : T v = false) : WB ω' w' v s := ⟨h.1, h.2.imp_right fun ⟨g, e, cs, ha, hb, hl⟩ => ⟨g, e, cs, ha, hb.stp k hT, hl⟩⟩
theorem OT.wb {e : TypeId} {xs : List Value} (h : OT ω w v e 2 s xs) (hs : s.n ≤ 100000000) : WB ω w v s := by
  refine ⟨hs, ?_⟩
  rcases h.cases with ⟨rfl, _⟩ | ⟨g, cur, ha, hb, hn, hm, hl, ht⟩
  · exact .inl rfl
  · exact .inr ⟨g, e, cur, ha, hb, by rw [hl]; exact Nat.mul_le_mul_right _ hn⟩
end Go.Proofs.YtechilkjfhpkpaaGreatDoor.Ru

namespace Go.Proofs.YtechilkjfhpkpaaGreatDoor.Ru
open Go Vm Go.RowKit Num Mem Utf Lib Lab Rep
variable {ω ω' ωl : Tg} {w w' w0 : World} {r : Rl} {s out rs sl ls : Sl} {q ql : PQ} {l m x : List Lb} {ps L : List Pt}
theorem adj_mem (h : L.Pairwise leP) {k : Nat} (hk : k ≤ L.length) (h1 : ∀ b ∈ L.drop k, cmpL x b.1 < 0) (h2 : ∀ a ∈ L.take k, ¬ cmpL x a.1 < 0) : (∃ a ∈ L, a.1 = x) ↔ 0 < k ∧ ∃ z, L[k - 1]? = some z ∧ z.1 = x := by
  constructor
  · rintro ⟨a, ha, e⟩
    have ha' : a ∈ L.take k := by
      rw [← List.take_append_drop k L] at ha
      rcases List.mem_append.1 ha with ha | ha
      · exact ha
      · have := h1 a ha
        rw [e, cmpL_cmp.self] at this; omega
    obtain ⟨j, hj, ej⟩ := List.mem_iff_getElem.1 ha'
    rw [List.length_take] at hj
    rw [List.getElem_take] at ej
    have hk0 : 0 < k := by omega
    refine ⟨hk0, _, List.getElem?_eq_getElem (show k - 1 < L.length by omega), ?_⟩
    have hz : ¬ cmpL x (L[k - 1]'(by omega)).1 < 0 := h2 _ (by
      refine List.mem_iff_getElem.2 ⟨k - 1, by rw [List.length_take]; omega, ?_⟩
      rw [List.getElem_take])
    rcases Nat.eq_or_lt_of_le (show j ≤ k - 1 by omega) with e2 | hlt
    · subst e2; rw [ej, e]
    · have := List.pairwise_iff_getElem.1 h j (k - 1) (by omega) (by omega) hlt
      have h3 : ¬ cmpL (L[k - 1]'(by omega)).1 L[j].1 < 0 := this
      rw [ej, e] at h3
      have a1 := cmpL_cmp.anti x (L[k - 1]'(by omega)).1
      exact ((cmpL_cmp.eq _ _).1 (show cmpL x (L[k - 1]'(by omega)).1 = 0 by omega)).symm
  · rintro ⟨_, z, hz, e⟩
    exact ⟨z, List.mem_of_getElem? hz, e⟩
theorem srtP_mem {a : Pt} {l : List Pt} : a ∈ srtP l ↔ a ∈ l := (srtP_perm l).mem_iff
theorem pts_take (n : Nat) (ql : PQ) : (pts ql).take (n * 2) = pts (ql.take n) := by
  have e : ql = ql.take n ++ ql.drop n := (List.take_append_drop n ql).symm
  rcases Nat.lt_or_ge n ql.length with h | h
  · conv => lhs; rw [e, pts_app, List.take_append_of_le_length (by rw [pts_len, List.length_take]; omega), List.take_of_length_le (by rw [pts_len, List.length_take]; omega)]
  · rw [List.take_of_length_le (by rw [pts_len]; omega), List.take_of_length_le h]
theorem pts_drop (n : Nat) (ql : PQ) : (pts ql).drop (n * 2) = pts (ql.drop n) := by
  have e : ql = ql.take n ++ ql.drop n := (List.take_append_drop n ql).symm
  rcases Nat.lt_or_ge n ql.length with h | h
  · conv => lhs; rw [e, pts_app, List.drop_append_of_le_length (by rw [pts_len, List.length_take]; omega), List.drop_of_length_le (by rw [pts_len, List.length_take]; omega), List.nil_append]
  · rw [List.drop_of_length_le (by rw [pts_len]; omega), List.drop_of_length_le h]; rfl
theorem rins_ok (ω : Tg) (u : Nat) (h : Rd w out 2 (pts ql)) (hl : ql.length ≤ 50000000) {k : Nat} (hk : k ≤ ql.length) (hq : RdPs w s q) {i : Nat} {p : Pt × Sl} (hi : q[i]? = some p) {Z : Sl → World → Prop}
    (hZ : ∀ o ω' w', Stp Non ω ω' w w' → OT ω' w' u 45 2 o (pts (ql.take k ++ [((m, p.1.2), ls)] ++ ql.drop k)) → Z o w') :
    G.slc out 0 (k : Int) 2 fun l48 => G.runSl C.pr (Builtin.append_ #[35, 35] 35 #[nilS.v, l48.v]) w fun l49 w50 => G.ix s.a s.n (i : Int) 2 fun p51 => G.cF .f64 (p51.add 1) w50 fun f52 => G.new (.cells #[ls.v, (.float .f64 f52)] 45) w50 fun p53 w54 => G.runSl C.pr (Builtin.append_ #[35, 35] 35 #[l49.v, (Sl.v (⟨some p53, 1, 1⟩ : Sl))]) w54 fun l55 w56 => G.slc out (k : Int) ((out.n : Nat) : Int) 2 fun l57 => G.runSl C.pr (Builtin.append_ #[35, 35] 35 #[l55.v, l57.v]) w56 Z := by
  have hn := rdP_n h
  refine Rd.slc h (lo := 0) (hi := k) (Nat.zero_le _) (by omega) rfl rfl fun la hla hna _ => ?_
  rw [Nat.zero_mul, List.drop_zero, Nat.sub_zero, pts_take] at hla
  refine app_T tiP (OT.nil (fun _ => 0) w 2 45 2) hla pts_one (by simp only [maxLen, nilS]; omega) (by simp only [nilS]; omega) fun r5 ω5 w5 k5 o5' n5 => ?_
  rw [List.nil_append] at o5'
  have n5 : r5.n = k := by rw [n5, hna]; simp [nilS]
  have top5 := (Top.init w).stp k5
  refine rdP_at (hq.row.keep top5.k) (k := i) rfl hi fun a _ a1 => cF_at a1 ?_
  refine push_T (n := 1) tiP o5' rfl (by intro v hv; simp at hv; rcases hv with rfl | rfl <;> rfl) (by simp only [maxLen]; omega) (by omega) fun r6 ω6 w6 k6 o6 n6 => ?_
  have top6 := top5.stp k6
  have o6 : OT ω6 w6 2 45 2 r6 (pts (ql.take k ++ [((m, p.1.2), ls)])) := by rw [ptsS]; exact o6
  refine Rd.slc (h.keep top6.k) (lo := k) (hi := out.n) (by omega) (Nat.le_refl _) rfl rfl fun lb hlb hnb _ => ?_
  have hlb' : Rd w6 lb 2 (pts (ql.drop k)) := by
    rw [pts_drop, List.take_of_length_le (by rw [pts_len, List.length_drop]; omega)] at hlb
    exact hlb
  refine app_T tiP o6 hlb' pts_one (by simp only [maxLen]; omega) (by omega) fun r7 ω7 w7 k7 o7 _ => ?_
  rw [← pts_app] at o7
  have top7 := top6.stp k7
  exact hZ r7 (ext ω w.heap.size u) w7 (top7.k.stp ω u) (Own.tag (OT.new o7 top7) (Nat.le_refl _) ω u)
theorem rrecord_ok (hs : Rd w0 rs 2 (labs r.ls)) (hsz : ∀ x ∈ r.ls, x.2.size ≤ 140737488355300) (hn : r.ls.length ≤ 100000000) (hq : RdPs w0 s q) (hql : q.length ≤ 10000000) (hqz : ∀ p ∈ q, ∀ x ∈ p.1.1, x.2.size ≤ 140737488355300) {K : Sl → Int → World → Prop}
    (hK : ∀ o ql w', Keep w0 w' → (recE r (q.map (·.1)) ≠ 0 → o = nilS ∧ ql = []) → (recE r (q.map (·.1)) = 0 → ql.map (·.1) = recO r (q.map (·.1))) → RdPs w' o ql → (∀ p ∈ ql, p.1.1.length ≤ 16) → K o (recE r (q.map (·.1))) w') : C.tocsinref19_Record r.rc r.nm r.ex r.fo r.ke rs s w0 K := by
  unfold C.tocsinref19_Record
  have hsn := rdP_n hq.row
  have heq : ∃ ps, q.map (·.1) = ps := ⟨_, rfl⟩
  obtain ⟨ps, hps⟩ := heq
  rw [hps] at hK
  have hpl : ps.length = q.length := by rw [← hps, List.length_map]
  have err : ∀ e w', recE r ps = e → e ≠ 0 → Keep w0 w' → K nilS e w' := fun e w' he hne k => by
    subst he
    exact hK nilS [] w' k (fun _ => ⟨rfl, rfl⟩) (fun h => absurd h hne) ⟨Rd.nil w' 2, by simp⟩ (by simp)
  refine new_T (ω := fun _ => 0) 7 fun g ω1 w1 k1 b1 => ?_
  have b1 : BT ω1 w1 7 g 24 (rlC r rs) := b1
  have top1 := (Top.init w0).stp k1
  refine rl_cells b1.blk <| rrule_ok (hs.keep top1.k) hsz (by omega) fun w2 k2 => ?_
  have s2 := k2.stp0 ω1
  have top2 := top1.stp s2
  have b2 := b1.stp s2
  unfold ruleE
  by_cases hr : ¬ ruleB r = true
  · rw [if_neg hr]
    exact cond_t rfl (err 201 w2 (by unfold recE; rw [if_neg fun h => hr h.1]) (by decide) top2.k)
  have hr : ruleB r = true := Decidable.not_not.1 hr
  rw [if_pos hr]
  refine cond_f rfl <| cB_at (b := r.rc) (by rw [b2.cell]; rfl) <| cond_of (fun hrc => ?_) (fun hrc => ?_)
  · exact err 201 w2 (by unfold recE; rw [if_neg fun h => by rw [h.2] at hrc; cases hrc]) (by decide) top2.k
  have hrc : r.rc = true := by simpa using hrc
  have ok := rl_of hr
  have r16 := ((rt_iff _).1 ok.rt).1
  have erec : recE r ps = if firstN r ps ≠ 0 then firstN r ps else if ((ps.map (rcP r)).map (·.1)).Nodup then 0 else 150 := by unfold recE; rw [if_pos ⟨hr, hrc⟩]
  unfold C.tocsinref19_Record.S24
  refine C.tocsinref19_Record.L5_ind fun X hX => ?_
  have key : ∀ (d i : Nat) (out : Sl) (ql : PQ) (ωl : Tg) (w3 : World), i + d = q.length → Top w0 ωl w3 → BT ωl w3 7 g 24 (rlC r rs) → OT ωl w3 5 45 2 out (pts ql) → (∀ p ∈ ql, OT ωl w3 6 99 2 p.2 (labs p.1.1) ∧ p.1.1.length ≤ 16) → ql.map (·.1) = srtP ((ps.take i).map (rcP r)) → (∀ j (h : j < ps.length), j < i → wE (ps[j]).1 (moreN r) = 0) →
      X s (some ⟨g, 0, none⟩) out (!decide ((((ps.take i).map (rcP r)).map (·.1)).Nodup)) (i : Int) w3 := by
    intro d
    induction d with
    | zero =>
      intro i out ql ωl w3 hi top b oo hlab eq h0
      refine hX _ _ _ _ _ _ ?_
      unfold C.tocsinref19_Record.S22 C.tocsinref19_Record.S2
      rw [List.take_of_length_le (by omega)] at eq ⊢
      have e0 : firstN r ps = 0 := by rw [firstN_drop (i := ps.length) fun j h _ => h0 j h (by omega), List.drop_length]; rfl
      rw [e0, if_neg (by decide)] at erec
      refine cond_d (fun h => by omega) (fun _ => cond_of (fun hd => ?_) (fun hd => ?_))
      · have hd : ¬ ((ps.map (rcP r)).map (·.1)).Nodup := by simpa using hd
        rw [if_neg hd] at erec
        exact err 150 w3 erec (by decide) top.k
      · have hd : ((ps.map (rcP r)).map (·.1)).Nodup := by simpa using hd
        rw [if_pos hd] at erec
        have := hK out ql w3 top.k (fun h => absurd erec h) (fun _ => eq) ⟨oo.rd, fun p hp => (hlab p hp).1.rd⟩ fun p hp => (hlab p hp).2
        rw [erec] at this; exact this
    | succ d ih =>
      intro i out ql ωl w3 hi top b oo hlab eq h0
      refine hX _ _ _ _ _ _ ?_
      unfold C.tocsinref19_Record.S22 C.tocsinref19_Record.S19
      have hiq : i < q.length := by omega
      have hx : q[i]? = some q[i] := List.getElem?_eq_getElem hiq
      have epi : ps[i]'(by omega) = (q[i]).1 := by simp [← hps]
      have hmem := List.getElem_mem hiq
      have et : (ps.take (i + 1)).map (rcP r) = (ps.take i).map (rcP r) ++ [rcP r (q[i]).1] := by rw [List.take_succ_eq_append_getElem (show i < ps.length by omega), List.map_append, epi]; rfl
      have est : srtP ((ps.take (i + 1)).map (rcP r)) = insP (rcP r (q[i]).1) (srtP ((ps.take i).map (rcP r))) := by rw [et]; unfold srtP; rw [List.foldl_append]; rfl
      have end_ : (((ps.take (i + 1)).map (rcP r)).map (·.1)).Nodup ↔ (((ps.take i).map (rcP r)).map (·.1)).Nodup ∧ ¬ ∃ a ∈ ql.map (·.1), a.1 = outL (q[i]).1.1 (moreN r) := by
        rw [et, List.map_append, List.nodup_append, eq]
        constructor
        · rintro ⟨h1, _, h3⟩
          refine ⟨h1, fun ⟨a, ha, e⟩ => ?_⟩
          exact h3 a.1 (List.mem_map_of_mem (srtP_mem.1 ha)) _ (by simp [rcP]) e
        · rintro ⟨h1, h3⟩
          refine ⟨h1, by simp, fun y hy z hz e => h3 ?_⟩
          obtain ⟨a, ha, rfl⟩ := List.mem_map.1 hy
          simp only [rcP, List.map_cons, List.map_nil, List.mem_singleton] at hz
          exact ⟨a, srtP_mem.2 ha, e.trans hz⟩
      have hqll := congrArg List.length eq
      rw [List.length_map, (srtP_perm _).length_eq, List.length_map, List.length_take] at hqll
      have hup : (ql.map (·.1)).Pairwise leP := by rw [eq]; exact srtP_up _
      rw [← eq] at est
      have kd := Keep.trans top.k (Keep.drew w3)
      have sd := drew_stp ωl w3
      have topd := top.stp sd
      have bd := b.stp sd
      refine cond_d (fun _ => ?_) (fun h => by omega)
      refine rdP_at (hq.row.keep kd) (k := i) rfl hx fun a a0 a1 => cSl_at a0 <| ptr_at <| rl_cells bd.blk ?_
      refine rnamed_ok (hs.keep kd) (by omega) fun q4 w4 k4 o4 => ⟨?_, ?_⟩
      · exact same_stp (T := Non) (k4.stp0 ωl) (cell_lt a0) rfl
      have s4 := k4.stp0 ωl
      have top4 := topd.stp s4
      have o4 : Rd w4 q4 2 (labs (moreM r)) := Own.rd o4
      refine rwith_ok ((hq.el _ hmem).keep top4.k) o4 (hqz _ hmem) (moreM_names ok) (by unfold moreM; rw [List.length_append]; simp; omega) (moreM_good ok) fun l5 w5 k5 h1 h2 => ?_
      rw [wEM_eq ok] at h1 h2 ⊢
      by_cases he : wE (q[i]).1.1 (moreN r) = 0
      · refine cond_ne (fun h => absurd he h) (fun _ => ?_)
        have hrt : (rt (q[i]).1.1).1 = 0 := by
          by_cases e : (rt (q[i]).1.1).1 = 0
          · exact e
          · unfold wE at he; rw [if_pos e] at he; exact absurd he (by decide)
        have o5 := h2 he
        rw [outM_eq ok hrt] at o5
        have h16 := wN_len he
        have s5 := k5.stp ωl 6
        have ot5 : OT (ext ωl w4.heap.size 6) w5 6 99 2 l5 (labs (outL (q[i]).1.1 (moreN r))) := Own.tag o5 (Nat.le_refl _) ωl 6
        have s35 := (sd.trans s4).trans s5
        have top5 := top4.stp s5
        have b5 := b.stp s35
        have oo5 := oo.stp s35
        have hlab5 : ∀ p ∈ ql, OT (ext ωl w4.heap.size 6) w5 6 99 2 p.2 (labs p.1.1) ∧ p.1.1.length ≤ 16 := fun p hp => ⟨(hlab p hp).1.stp s35, (hlab p hp).2⟩
        generalize ext ωl w4.heap.size 6 = ω5 at *
        have hon := rdP_n oo5.rd
        have ercP : rcP r (q[i]).1 = (outL (q[i]).1.1 (moreN r), (q[i]).1.2) := rfl
        rw [ercP] at est et
        have hpx : ∀ j (h : j < ps.length), j < i + 1 → wE (ps[j]).1 (moreN r) = 0 := fun j h hj => by
          by_cases e : j = i
          · subst e; rw [epi]; exact he
          · exact h0 j h (by omega)
        generalize outL (q[i]).1.1 (moreN r) = x at *
        have hml : (ql.map (·.1)).length = ql.length := List.length_map ..
        -- behind both loops
        have put : ∀ (k : Nat) (many : Bool) (w6 : World), k ≤ ql.length → Keep w5 w6 → (∀ b ∈ (ql.map (·.1)).drop k, cmpL x b.1 < 0) → (∀ a ∈ (ql.map (·.1)).take k, ¬ cmpL x a.1 < 0) → many = !decide ((((ps.take (i + 1)).map (rcP r)).map (·.1)).Nodup) →
            C.tocsinref19_Record.S10 K X s (some ⟨g, 0, none⟩) out many (i : Int) l5 (k : Int) w6 := fun k many w6 hk k6 hd1 hd2 em => by
          unfold C.tocsinref19_Record.S10
          have s6 := k6.stp0 ω5
          have top6 := top5.stp s6
          refine rins_ok ω5 5 (m := x) (ls := l5) (oo5.rd.keep k6) (by omega) hk (hq.keep top6.k) hx fun o7 ω7 w7 k7 ot7 => ?_
          unfold C.tocsinref19_Record.S7
          have s57 := s6.trans k7
          rw [wI64 (by omega) (by omega), show (i : Int) + 1 = ((i + 1 : Nat) : Int) by omega, em]
          refine ih (i + 1) o7 _ ω7 w7 (by omega) (top6.stp k7) (b5.stp s57) ot7 (fun p hp => ?_) ?_ hpx
          · rcases List.mem_append.1 hp with hp | hp
            · rcases List.mem_append.1 hp with hp | hp
              · obtain ⟨a1, a2⟩ := hlab5 p (List.mem_of_mem_take hp)
                exact ⟨a1.stp s57, a2⟩
              · rw [List.mem_singleton.1 hp]; exact ⟨ot5.stp s57, h16⟩
            · obtain ⟨a1, a2⟩ := hlab5 p (List.mem_of_mem_drop hp)
              exact ⟨a1.stp s57, a2⟩
          · have ei := insP_at (x := (x, (q[i]).1.2)) hd2 hd1
            rw [List.take_append_drop] at ei
            rw [est, ei, List.map_append, List.map_append, List.map_take, List.map_drop, List.append_assoc]; rfl
        have fin : ∀ (k : Nat) (w6 : World), k ≤ ql.length → Keep w5 w6 → (∀ b ∈ (ql.map (·.1)).drop k, cmpL x b.1 < 0) → (∀ a ∈ (ql.map (·.1)).take k, ¬ cmpL x a.1 < 0) →
            C.tocsinref19_Record.S11 K X s (some ⟨g, 0, none⟩) out (!decide ((((ps.take i).map (rcP r)).map (·.1)).Nodup)) (i : Int) l5 (k : Int) w6 := fun k w6 hk k6 hd1 hd2 => by
          unfold C.tocsinref19_Record.S11
          have hadj := adj_mem hup (k := k) (by omega) hd1 hd2
          refine cond_of (fun hm => put k true w6 hk k6 hd1 hd2 ?_) (fun hm => ?_)
          · have hm : ¬ (((ps.take i).map (rcP r)).map (·.1)).Nodup := by simpa using hm
            rw [decide_eq_false (fun h => hm (end_.1 h).1)]; rfl
          have hm : (((ps.take i).map (rcP r)).map (·.1)).Nodup := by simpa using hm
          refine cond_d (fun h0' => ?_) (fun h0' => put k false w6 hk k6 hd1 hd2 ?_)
          · have hk0 : 0 < k := by omega
            have ew : IntKind.i64.wrap ((k : Int) - 1) = ((k - 1 : Nat) : Int) := by rw [wI64 (by omega) (by omega)]; omega
            rw [ew]
            have hz : ql[k - 1]? = some (ql[k - 1]'(by omega)) := List.getElem?_eq_getElem (by omega)
            obtain ⟨a1, a2⟩ := hlab5 _ (List.getElem_mem (show k - 1 < ql.length by omega))
            refine rdP_at (oo5.rd.keep k6) (k := k - 1) rfl hz fun a a0 _ => cSl_at a0 <| rsame_ok (a1.rd.keep k6) (ot5.rd.keep k6) (by omega) fun w7 k7 => put k _ w7 hk (Keep.trans k6 k7) hd1 hd2 ?_
            have hzm : (ql.map (fun p : Pt × Sl => p.1))[k - 1]? = some (ql[k - 1]'(by omega)).1 := by rw [List.getElem?_map, hz]; rfl
            by_cases e : (ql[k - 1]'(by omega)).1.1 = x
            · rw [decide_eq_true e, decide_eq_false (fun h => (end_.1 h).2 (hadj.2 ⟨hk0, _, hzm, e⟩))]; rfl
            · rw [decide_eq_false e, decide_eq_true (end_.2 ⟨hm, fun h => e (by
                obtain ⟨_, z, h1, h2⟩ := hadj.1 h
                rw [hzm] at h1
                rw [Option.some.inj h1]; exact h2)⟩)]; rfl
          · rw [decide_eq_true (end_.2 ⟨hm, fun h => by have := (hadj.1 h).1; omega⟩)]; rfl
        refine C.tocsinref19_Record.L14_ind fun Y hY => ?_
        have loop : ∀ (k : Nat) (w6 : World), k ≤ ql.length → Keep w5 w6 → (∀ b ∈ (ql.map (·.1)).drop k, cmpL x b.1 < 0) → Y s (some ⟨g, 0, none⟩) out (!decide ((((ps.take i).map (rcP r)).map (·.1)).Nodup)) (i : Int) l5 (k : Int) w6 := by
          intro k
          induction k with
          | zero =>
            intro w6 hk k6 hd1
            refine hY _ _ _ _ _ _ _ _ ?_
            unfold C.tocsinref19_Record.S16
            exact cond_d (fun h => by omega) (fun _ => fin 0 w6 hk k6 hd1 (by simp))
          | succ k ihk =>
            intro w6 hk k6 hd1
            refine hY _ _ _ _ _ _ _ _ ?_
            unfold C.tocsinref19_Record.S16
            have hkq : k < ql.length := by omega
            have ew : IntKind.i64.wrap (((k + 1 : Nat) : Int) - 1) = (k : Int) := by rw [wI64 (by omega) (by omega)]; omega
            have hz : ql[k]? = some ql[k] := List.getElem?_eq_getElem hkq
            obtain ⟨a1, a2⟩ := hlab5 _ (List.getElem_mem hkq)
            have hdk : (ql.map (·.1)).drop k = (ql[k]).1 :: (ql.map (·.1)).drop (k + 1) := by rw [List.drop_eq_getElem_cons (by rw [hml]; exact hkq), List.getElem_map]
            refine cond_d (fun _ => ?_) (fun h => by omega)
            rw [ew]
            refine rdP_at (oo5.rd.keep k6) (k := k) rfl hz fun a a0 _ => cSl_at a0 <| rcmp_ok (a1.rd.keep k6) (ot5.rd.keep k6) (by omega) fun w7 k7 => cond_d (fun hgt => ?_) (fun hle => ?_)
            · refine ihk w7 (by omega) (Keep.trans k6 k7) fun b hb => ?_
              rw [hdk] at hb
              rcases List.mem_cons.1 hb with rfl | hb
              · have := cmpL_cmp.anti (ql[k]).1.1 x; omega
              · exact hd1 b hb
            · refine fin (k + 1) w7 hk (Keep.trans k6 k7) hd1 fun a ha hlt => ?_
              obtain ⟨j, hj, ej⟩ := List.mem_iff_getElem.1 ha
              rw [List.length_take, hml] at hj
              rw [List.getElem_take, List.getElem_map] at ej
              have a3 := cmpL_cmp.anti x (ql[k]).1.1
              have hk' : ¬ cmpL x (ql[k]).1.1 < 0 := by omega
              by_cases e : j = k
              · subst e; rw [← ej] at hlt; exact hk' hlt
              · have := List.pairwise_iff_getElem.1 hup j k (by rw [hml]; omega) (by rw [hml]; exact hkq) (by omega)
                rw [List.getElem_map, List.getElem_map, ej] at this
                have h4 : ¬ cmpL (ql[k]).1.1 a.1 < 0 := this
                exact le_trans' h4 hk' hlt
        rw [hon]
        exact loop ql.length w5 (Nat.le_refl _) (Keep.refl _) (by rw [List.drop_of_length_le (by rw [hml]; exact Nat.le_refl _)]; simp)
      · have efe : firstN r ps = wE (q[i]).1.1 (moreN r) := by
          rw [firstN_drop h0, List.drop_eq_getElem_cons (show i < ps.length by omega), firstN, epi, if_pos he]
        rw [efe, if_pos he] at erec
        exact cond_ne (fun _ => err _ w5 erec he (Keep.trans top4.k k5)) (fun h => absurd h he)
  have := key q.length 0 nilS [] ω1 w2 (by omega) top2 b2 (OT.nil ..) (by simp) (by simp [srtP]) (fun j h hj => by omega)
  rw [show (!decide ((((ps.take 0).map (rcP r)).map (·.1)).Nodup)) = false by simp] at this
  exact this
def nextV (l e n : Int) : Int := IntKind.i64.wrap (l + (IntKind.i64.wrap ((IntKind.i64.wrap ((IntKind.i64.wrap (Int.tdiv (IntKind.i64.wrap (n - l)) e)) + (1 : Int))) * e)))
def nextX (l e n : Int) : Int × Int := if timeB l = true ∧ timeB n = true ∧ 1 ≤ e ∧ e ≤ 1099511627776 then (if n < l then (l, 0) else (nextV l e n, 0)) else (0, 1)
theorem timeB_iff {n : Int} : timeB n = true ↔ 0 ≤ n ∧ n ≤ 1125899906842624 := by
  unfold timeB
  rw [Bool.and_eq_true, decide_eq_true_eq, decide_eq_true_eq]
theorem next_gt {l e n : Int} (h1 : 0 ≤ l ∧ l ≤ 1125899906842624) (h2 : 0 ≤ n ∧ n ≤ 1125899906842624) (h3 : 1 ≤ e ∧ e ≤ 1099511627776) (h : ¬ n < l) : nextV l e n > n := by
  unfold nextV
  rw [wI64 (x := n - l) (by omega) (by omega), Int.tdiv_eq_ediv_of_nonneg (by omega)]
  have a1 := Int.mul_ediv_add_emod (n - l) e
  have a2 := Int.emod_nonneg (n - l) (show e ≠ 0 by omega)
  have a3 := Int.emod_lt_of_pos (n - l) (show 0 < e by omega)
  have a4 : 0 ≤ (n - l) / e := Int.ediv_nonneg (by omega) (by omega)
  generalize (n - l) / e = d at *
  generalize (n - l) % e = m at *
  have a5 : (d + 1) * e = e * d + e := by rw [Int.add_mul, Int.one_mul, Int.mul_comm]
  have a6 : d ≤ e * d := by
    have := Int.mul_le_mul_of_nonneg_right h3.1 a4
    omega
  rw [wI64 (x := d) (by omega) (by omega), wI64 (x := d + 1) (by omega) (by omega), a5, wI64 (x := e * d + e) (by omega) (by omega), wI64 (by omega) (by omega)]
  omega
theorem nxt_ok {l e n : Int} {K : Int → Int → World → Prop} (hK : K (nextX l e n).1 (nextX l e n).2 w) : C.rules_Next l e n w K := by
  unfold C.rules_Next
  have bad : ¬ (timeB l = true ∧ timeB n = true ∧ 1 ≤ e ∧ e ≤ 1099511627776) → K 0 1 w := fun h => by unfold nextX at hK; rw [if_neg h] at hK; exact hK
  refine time_ok <| cond_of (fun h => bad fun h' => by rw [h'.1] at h; cases h) (fun h1 => time_ok <| cond_of (fun h => bad fun h' => by rw [h'.2.1] at h; cases h) (fun h2 => cond_d (fun h => bad fun h' => by omega) (fun h3 => cond_d (fun h => bad fun h' => by omega) (fun h4 => ?_))))
  unfold nextX at hK
  rw [if_pos ⟨by simpa using h1, by simpa using h2, by omega, by omega⟩] at hK
  refine cond_d (fun h => by rw [if_pos h] at hK; exact hK) (fun h => ⟨by omega, ?_⟩)
  rw [if_neg h] at hK
  exact hK
theorem rnxt_ok {l e n : Int} {K : Int → Int → World → Prop} (hK : K (nextX l e n).1 (nextX l e n).2 w) : C.tocsinref19_Next l e n w K := by
  unfold C.tocsinref19_Next
  have bad : ¬ ((0 ≤ l ∧ l ≤ 1125899906842624) ∧ (0 ≤ n ∧ n ≤ 1125899906842624) ∧ 1 ≤ e ∧ e ≤ 1099511627776) → K 0 1 w := fun h => by unfold nextX at hK; rw [if_neg (fun h' => h ⟨timeB_iff.1 h'.1, timeB_iff.1 h'.2.1, h'.2.2⟩)] at hK; exact hK
  refine cond_d (fun h => bad fun h' => by omega) (fun h1 => cond_d (fun h => bad fun h' => by omega) (fun h2 => cond_d (fun h => bad fun h' => by omega) (fun h3 => cond_d (fun h => bad fun h' => by omega) (fun h4 => cond_d (fun h => bad fun h' => by omega) (fun h5 => cond_d (fun h => bad fun h' => by omega) (fun h6 => ?_))))))
  unfold nextX at hK
  rw [if_pos ⟨timeB_iff.2 (by omega), timeB_iff.2 (by omega), by omega, by omega⟩] at hK
  refine cond_d (fun h => by rw [if_pos h] at hK; exact hK) (fun h => ⟨by omega, ?_⟩)
  rw [if_neg h] at hK
  exact hK
theorem next_asks {l e n : Int} : (nextX l e n).2 ≠ 0 ∨ (nextX l e n).1 > n ∨ (nextX l e n).1 = l := by
  unfold nextX
  by_cases h : timeB l = true ∧ timeB n = true ∧ 1 ≤ e ∧ e ≤ 1099511627776
  · rw [if_pos h]
    by_cases h' : n < l
    · rw [if_pos h']; exact .inr (.inr rfl)
    · rw [if_neg h']; exact .inr (.inl (next_gt (timeB_iff.1 h.1) (timeB_iff.1 h.2.1) h.2.2 h'))
  · rw [if_neg h]; exact .inl (by decide)
theorem rlabelsB_ok (hs : Rd w0 rs 2 (labs r.ls)) (hsz : ∀ x ∈ r.ls, x.2.size ≤ 140737488355300) (hn : r.ls.length ≤ 100000000) (hl : Rd w0 sl 2 (labs l)) (hmz : ∀ x ∈ l, x.2.size ≤ 140737488355300) {K : Sl → Int → World → Prop}
    (hK : ∀ q w', Keep w0 w' → (labE r l ≠ 0 → q = nilS) → (labE r l = 0 → Mem.Own w' w0.heap.size 99 2 q (labs (labO r l))) → K q (labE r l) w') : C.tocsinref19_Labels r.rc r.nm r.ex r.fo r.ke rs sl w0 K := by
  by_cases hr : ruleB r = true
  · exact rlabels_ok hs hsz (by have := ((rt_iff _).1 (rl_of hr).rt).1; omega) hl hmz hK
  · unfold C.tocsinref19_Labels
    refine newD fun g w1 k1 hg b1 => ?_
    have b1 : Blk w1 g 24 (rlC r rs) := b1
    refine rl_cells b1 <| rrule_ok (hs.keep k1.1) hsz hn fun w2 k2 => ?_
    unfold ruleE
    rw [if_neg hr]
    have el : labE r l = 201 := by unfold labE; rw [if_neg hr]
    rw [el] at hK
    exact cond_t rfl (hK nilS w2 (Keep.trans k1.1 k2) (fun _ => rfl) (fun h => absurd h (by decide)))
theorem names_law {loaded every now : Int} (htab : UTab w0) (het : ETab w0) (hs : Rd w0 rs 2 (labs r.ls)) {b : Nat} (hz : RlSm b r) (hb : b ≤ 4000000) (hl : Rd w0 sl 2 (labs l)) (hlz : LbSm b l) (hq : RdPs w0 s q) (hql : q.length < b) (hqz : ∀ p ∈ q, LbSm b p.1.1) {K : Bool → World → Prop} (hK : ∀ w', Keep w0 w' → K true w') :
    C.tocsinlaw19_RulesNames r.rc r.nm r.ex r.fo r.ke rs sl s loaded every now w0 K := by
  unfold C.tocsinlaw19_RulesNames
  have hzl := hz.2.2.1
  have hsz : ∀ x ∈ r.ls, x.2.size ≤ 140737488355300 := fun x hx => by have := (hz.2.2.2 x hx).2; omega
  have hlz' : ∀ x ∈ l, x.2.size ≤ 140737488355300 := fun x hx => by have := (hlz.2 x hx).2; omega
  have hqz' : ∀ p ∈ q, ∀ x ∈ p.1.1, x.2.size ≤ 140737488355300 := fun p hp x hx => by have := ((hqz p hp).2 x hx).2; omega
  have known : ∀ w1, Keep w0 w1 → C.tocsinlaw19_known w1 fun b w' => K b w' := fun w1 k1 => known_ok (htab.keep k1) (het.keep k1) fun w' k' => hK w' (Keep.trans k1 k')
  refine newD fun g w1 k1 hg b1 => ?_
  have b1 : Blk w1 g 24 (rlC r rs) := b1
  have k1 := k1.1
  refine rl_cells b1 <| labels_ok (htab.keep k1) (het.keep k1) (hs.keep k1) (by omega) (hl.keep k1) fun l21 w2 k2 e21 o21 => ?_
  have k02 := Keep.trans k1 k2
  have b2 := b1.keep k2
  refine rl_cells b2 <| rlabelsB_ok (hs.keep k02) hsz (by omega) (hl.keep k02) hlz' fun l30 w3 k3 e30 o30 => ?_
  have k03 := Keep.trans k02 k3
  have b3 := b2.keep k3
  refine rl_cells b3 <| record_ok (htab.keep k03) (het.keep k03) (hs.keep k03) (by omega) (hq.keep k03) (by omega) fun l39 q39 w4 k4 e39 m39 r39 s39 => ?_
  have k04 := Keep.trans k03 k4
  have b4 := b3.keep k4
  refine rl_cells b4 <| rrecord_ok (hs.keep k04) hsz (by omega) (hq.keep k04) (by omega) hqz' fun l48 q48 w5 k5 e48 m48 r48 s48 => ?_
  have k05 := Keep.trans k04 k5
  have b5 := b4.keep k5
  refine nxt_ok <| rnxt_ok ?_
  have kd := Keep.drew w5
  have k0d := Keep.trans k05 kd
  have bd := b5.keep kd
  refine rl_cells bd <| rl_cells bd <| rule_ok (htab.keep k0d) (hs.keep k0d) (by omega) fun w6 k6 => ⟨sameK bd k6, ?_⟩
  have k06 := Keep.trans k0d k6
  refine rrule_ok (hs.keep k06) hsz (by omega) fun w7 k7 => ?_
  have k07 := Keep.trans k06 k7
  have k27 : Keep w2 w7 := Keep.trans k3 (Keep.trans k4 (Keep.trans k5 (Keep.trans kd (Keep.trans k6 k7))))
  have k37 : Keep w3 w7 := Keep.trans k4 (Keep.trans k5 (Keep.trans kd (Keep.trans k6 k7)))
  have k47 : Keep w4 w7 := Keep.trans k5 (Keep.trans kd (Keep.trans k6 k7))
  have k57 : Keep w5 w7 := Keep.trans kd (Keep.trans k6 k7)
  -- both label sets read alike
  have lab : ∃ z : List Lb, z.length ≤ 16 ∧ Rd w7 l21 2 (labs z) ∧ Rd w7 l30 2 (labs z) := by
    by_cases he : labE r l = 0
    · have hrb : ruleB r = true := by
        by_cases h : ruleB r = true
        · exact h
        · unfold labE at he; rw [if_neg h] at he; exact absurd he (by decide)
      exact ⟨labO r l, labO_len hrb he, (Own.rd (o21 he)).keep k27, (Own.rd (o30 he)).keep k37⟩
    · rw [e21 he, e30 he]
      exact ⟨[], by simp, Rd.nil w7 2, Rd.nil w7 2⟩
  obtain ⟨z, hz16, h21, h30⟩ := lab
  refine cond_t (by rw [beq_self_eq_true]) <| rsame_ok h21 h30 (by omega) fun w8 k8 => ?_
  rw [decide_eq_true (rfl : z = z)]
  have k08 := Keep.trans k07 k8
  refine cond_t rfl <| cond_t (by rw [beq_self_eq_true]) ?_
  have em : q39.map (·.1) = q48.map (·.1) := by
    by_cases he : recE r (q.map (·.1)) = 0
    · rw [m39 he, m48 he]
    · rw [(e39 he).2, (e48 he).2]
  have hlen : q39.length ≤ 1000000000000 := by
    by_cases he : recE r (q.map (·.1)) = 0
    · have a1 := congrArg List.length (m39 he)
      have a2 := (srtP_perm ((q.map (·.1)).map (rcP r))).length_eq
      unfold recO at a1
      rw [List.length_map, a2, List.length_map, List.length_map] at a1
      omega
    · rw [(e39 he).2]; simp
  refine samePts_ok (r39.keep (Keep.trans k47 k8)) (r48.keep (Keep.trans k57 k8)) em (fun p hp => by have := s39 p hp; omega) hlen fun w9 k9 => ?_
  have k09 := Keep.trans k08 k9
  refine cond_t rfl <| cond_t (by rw [beq_self_eq_true]) <| cond_t (by rw [beq_self_eq_true]) <| cond_t (by rw [beq_self_eq_true]) ?_
  refine cond_ne (fun _ => known w9 k09) (fun h0 => cond_d (fun _ => known w9 k09) (fun h1 => cond_eq (fun _ => known w9 k09) (fun h2 => ?_)))
  rcases next_asks (l := loaded) (e := every) (n := now) with h | h | h
  · exact absurd h0 h
  · exact absurd h h1
  · exact absurd h h2
end Go.Proofs.YtechilkjfhpkpaaGreatDoor.Ru
