/- Layer 3: New, List, Copy. Own work. -/
import Derived.Test.YtdaghggdmgbpnaaDoorDkD
import Derived.Test.YtdaghggdmgbpnaaDoorSortT
namespace Go.Proofs.YtdaghggdmgbpnaaDoor.Dk
open Go Vm Go.RowKit Num Mem
variable {ω ω' : Tg} {w w' w0 : World} {t gd gm : Nat} {T : Nat → Bool} {M : List Fl} {pl : PL}

theorem tiSt : TI Tryd.prog 74 9 1 16 := TI.of (z := .string ⟨#[]⟩) (by kernel_rfl) (by kernel_rfl) rfl (by decide)
theorem wf_nil : WF [] := ⟨List.Pairwise.nil, by simp, by simp, by simp, by simp⟩
theorem new_ok (t : Nat) {K : Option Addr → World → Prop} (hK : ∀ gd ω' w', Stp Non ω ω' w w' → DK ω' w' t gd [] → K (some ⟨gd, 0, none⟩) w') : C.disk_New w K := by
  unfold C.disk_New
  refine mkV (ω := ω) (t + 1) fun gm ω1 w1 k1 m1 => new_T (ω := ω1) t fun gd ω2 w2 k2 b2 => hK gd ω2 w2 (k1.trans k2) ⟨gm, [], ⟨b2, m1.stp k2 rfl, by simp⟩, by simp⟩
def strs (l : List ByteArray) : List Value := l.map Value.string
theorem strs_enc (l : List ByteArray) : strs l = (l.map fun b => b.data.toList).map encStr := by
  unfold strs
  rw [List.map_map]
  exact List.map_congr_left fun b _ => (Srt.encStr_ba b).symm
theorem up_bytes (h : WF M) : (M.map fun f => f.name.data.toList).Pairwise fun a b => Op.bytesLess a b = true := by
  rw [List.pairwise_map]
  refine h.up.imp fun {a b} h => ?_
  unfold bl at h
  rwa [ByteArray.toList_eq, ByteArray.toList_eq] at h
theorem list_ok (h : DK ω w t gd M) (hM : WF M) {K : Sl → World → Prop} (hK : ∀ r w', Keep w w' → Mem.Own w' w.heap.size 9 1 r (strs (M.map (·.name))) → K r w') : C.disk_Disk_List (some ⟨gd, 0, none⟩) w K := by
  obtain ⟨gm, pl, h, hp⟩ := h
  unfold C.disk_Disk_List C.disk_Disk_List.S9
  have m0 : MV (fun _ => 0) w 0 gm (pl.map encP) := ⟨h.mp.ex, rfl⟩
  refine cond_f rfl <| ptr_at <| ⟨some gm, by rw [h.hd.cell]; rfl, rangeV 2 m0 mapT fun r ω1 w1 k1 i1 => ?_⟩
  refine C.disk_Disk_List.L5_ind fun X hX => ?_
  have key : ∀ (d : Nat) (ns : List ByteArray) (rest : AL) (l : Sl) (ω : Tg) (w2 : World), rest.length = d → OT ω w2 1 9 1 l (strs ns) → IT ω w2 2 r 0 gm (pl.map encP) rest → (ns ++ rest.map (·.1)).Perm ((pl.map encP).map (·.1)) → Top w ω w2 → X l (some ⟨r, 0, none⟩) w2 := by
    intro d
    induction d with
    | zero =>
      intro ns rest l ω w2 hd o i pm t2
      refine hX _ _ _ ?_
      unfold C.disk_Disk_List.S7
      refine nextV i (fun _ => ?_) (fun a x b ω' w' hr => by rw [hr] at hd; simp at hd)
      unfold C.disk_Disk_List.S2 C.slices_Sort_string_string
      have hr : rest = [] := List.eq_nil_of_length_eq_zero hd
      subst hr
      rw [List.map_nil, List.append_nil] at pm
      have pn : ns.Perm (M.map (·.name)) := by
        refine pm.trans ?_
        have := hp.map (·.name)
        rw [List.map_map] at this ⊢
        exact this
      have hlen : l.n = ns.length := by have := o.own.len; simp [strs] at this; omega
      have hcn := pn.length_eq
      rw [List.length_map] at hcn
      have hcnt := hM.cnt
      rw [strs_enc] at o
      refine Srt.sort_T o (by omega) fun ω' w' k' o' => ?_
      have t3 := t2.stp k'
      refine hK l w' t3.k ?_
      have e : (ns.map fun b => b.data.toList).mergeSort Srt.leS = M.map fun f => f.name.data.toList := Srt.sort_up (by have := pn.map fun b : ByteArray => b.data.toList; rwa [List.map_map] at this) (up_bytes hM)
      rw [e] at o'
      have o2 := OT.new o' t3
      rw [List.map_map] at o2
      rw [strs_enc, List.map_map, List.map_map]
      exact o2
    | succ d ih =>
      intro ns rest l ω w2 hd o i pm t2
      refine hX _ _ _ ?_
      unfold C.disk_Disk_List.S7
      refine nextV i (fun hr => by rw [hr] at hd; simp at hd) (fun a x b ω' w' hr k' i' en k v => en _ ⟨x.1, rfl, ?_⟩)
      have o' := o.stp k'
      have hlen : l.n = ns.length := by have := o.own.len; simp [strs] at this; omega
      have hb : ns.length ≤ 256 := by
        have h1 := pm.length_eq
        have h2 := hp.length_eq
        have h3 := hM.cnt
        simp only [List.length_append, List.length_map] at h1 h2
        omega
      refine push_T tiSt o' (n := 1) rfl (by intro v hv; simp at hv; subst hv; rfl) (by rw [hlen]; simp only [maxLen]; omega) (by rw [hlen]; omega) fun q ω3 w3 k3 o3 hq => ?_
      refine ih (ns ++ [x.1]) (a ++ b) q ω3 w3 (by rw [hr] at hd; simp at hd ⊢; omega) ?_ (i'.stp k3 rfl rfl) ?_ ((t2.stp k').stp k3)
      · unfold strs; rw [List.map_append]; exact o3
      · refine List.Perm.trans ?_ pm
        rw [hr]
        simp only [List.map_append, List.map_cons, List.append_assoc, List.singleton_append]
        refine List.Perm.append_left _ ?_
        exact (List.perm_middle (l₁ := a.map (·.1))).symm
  exact key (pl.map encP).length [] (pl.map encP) nilS ω1 w1 rfl (OT.nil ..) i1 (by simp) ((Top.init w).stp k1)

/-! ## Copy -/
/-- New blocks of tags 11 to 13 are of tags u to u + 2. -/
def ren (ωg ω : Tg) (n u : Nat) : Tg := fun k => if k < n then ωg k else if ω k = 11 then u else if ω k = 12 then u + 1 else if ω k = 13 then u + 2 else u
theorem ren_new {ωg ω : Tg} {n u k v : Nat} (h : n ≤ k) (hv : ω k = v) : ren ωg ω n u k = if v = 11 then u else if v = 12 then u + 1 else if v = 13 then u + 2 else u := by unfold ren; rw [if_neg (by omega), hv]
theorem top_ge {v : Nat} (top : Top w ω' w') {k : Nat} (h : ω' k = v) (hv : v ≠ 0) : w.heap.size ≤ k := by
  rcases Nat.lt_or_ge k w.heap.size with hlt | hge
  · rw [top.z k hlt] at h; exact absurd h.symm hv
  · exact hge
theorem RT.ren {s : Sl} {xs : List Value} {u : Nat} (h : RT ω' w' 13 s 1 xs) (top : Top w ω' w') : RT (ren ω ω' w.heap.size u) w' (u + 2) s 1 xs :=
  ⟨h.rd, fun g o ha hne => by rw [ren_new (top_ge top (h.tag g o ha hne) (by decide)) (h.tag g o ha hne)]; rfl⟩
theorem DKa.ren {u : Nat} (h : DKa ω' w' 11 gd gm pl) (top : Top w ω' w') : DKa (ren ω ω' w.heap.size u) w' u gd gm pl :=
  ⟨⟨h.hd.blk, by rw [ren_new (top_ge top h.hd.tag (by decide)) h.hd.tag]; rfl⟩, ⟨h.mp.ex, by rw [ren_new (top_ge top h.mp.tag (by decide)) h.mp.tag]; rfl⟩, fun p hp => RT.ren (h.rt p hp) top⟩
theorem ren_stp {u : Nat} (k : Keep w w') : Stp Non ω (ren ω ω' w.heap.size u) w w' := ⟨k.os, k.tape, k.output, k.size, fun i hi => by unfold ren; rw [if_pos hi], fun i hi _ => k.block i hi⟩
theorem perm_insM {f : Fl} : ∀ {M : List Fl}, (insM f M).Perm (f :: M)
  | [] => List.Perm.refl _
  | y :: r => by
    unfold insM
    split
    · exact (List.Perm.cons y perm_insM).trans (List.Perm.swap f y r)
    · exact List.Perm.refl _
theorem map_split {p : PL} {a b : AL} {x : ByteArray × Value} (h : p.map encP = a ++ x :: b) : ∃ pa q pb, p = pa ++ q :: pb ∧ a = pa.map encP ∧ x = encP q ∧ b = pb.map encP := by
  obtain ⟨pa, pr, h1, h2, h3⟩ := List.map_eq_append_iff.1 h
  cases pr with
  | nil => simp at h3
  | cons q pb =>
    simp only [List.map_cons, List.cons.injEq] at h3
    exact ⟨pa, q, pb, h1, h2.symm, h3.1.symm, h3.2.symm⟩
end Go.Proofs.YtdaghggdmgbpnaaDoor.Dk
