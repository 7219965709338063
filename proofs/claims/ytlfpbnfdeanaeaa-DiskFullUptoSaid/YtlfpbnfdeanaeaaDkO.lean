/- Layer 3: what the laws were given; fixed calls; both disks compared. Own work. -/
import Derived.Test.YtlfpbnfdeanaeaaDkL
namespace Go.Proofs.Ytlfpbnfdeanaeaa.Dk
open Go Vm Go.RowKit Num Mem Wo Rep
variable {ω ω' : Tg} {w w' w0 : World} {t gd gr : Nat} {T : Nat → Bool} {M : List Fl}

/-! ## Arguments -/
theorem flat_vB : ∀ m : List UInt8, m.flatMap (fun c => [vB c]) = vBs m
  | [] => rfl
  | c :: m => by rw [List.flatMap_cons, flat_vB m]; rfl
theorem bytes_of {s : Sl} {b : Nat} (h : Cl w (.sl [.int .u8]) s.v b) : ∃ l : List UInt8, RdB w s l ∧ s.n = l.length ∧ s.n < b := by
  obtain ⟨m, h1, h2, h3, _⟩ := rows_of (α := UInt8) (enc := fun c => [vB c]) (Q := fun _ => True) (fun _ => rfl) (by decide) h fun V hV => by
    obtain ⟨n, e, a1, a2⟩ := (hV 0 _ rfl).int_inv
    have b1 : 0 ≤ n := by simpa [IntKind.min, IntKind.signed, IntKind.bits] using a1
    have b2 : n ≤ 255 := by simpa [IntKind.max, IntKind.signed, IntKind.bits] using a2
    refine ⟨UInt8.ofNat n.toNat, fun j hj => ?_, trivial⟩
    match j, hj with
    | 0, _ =>
      rw [e]
      show some (vB _) = _
      unfold vB
      rw [UInt8.toNat_ofNat', Nat.mod_eq_of_lt (by omega), Int.toNat_of_nonneg b1]
  exact ⟨m, by rw [flat_vB] at h1; exact h1, h2, h3⟩
theorem kps_of {s : Sl} {b : Nat} (h : Cl w (.sl [.str, .int .i64]) s.v b) : ∃ ks : List Kp, Rd w s 2 (kps ks) ∧ s.n = ks.length ∧ s.n < b := by
  obtain ⟨m, h1, h2, h3, _⟩ := rows_of (α := Kp) (enc := kpC) (Q := fun _ => True) (fun _ => rfl) (by decide) h fun V hV => by
    obtain ⟨s0, e0, _⟩ := (hV 0 _ rfl).str_inv
    obtain ⟨n, e1, _⟩ := (hV 1 _ rfl).int_inv
    refine ⟨(s0, n), fun j hj => ?_, trivial⟩
    match j, hj with
    | 0, _ => rw [e0]; rfl
    | 1, _ => rw [e1]; rfl
  exact ⟨m, h1, h2, h3⟩
abbrev Ops := Opn × Sl × Sl
def opC (x : Ops) : List Value := [.int .i64 x.1.kind, .string x.1.name, .string x.1.to, x.2.1.v, .int .i64 x.1.n, x.2.2.v]
def ops (l : List Ops) : List Value := l.flatMap opC
abbrev opSh : List Sh := [.int .i64, .str, .str, .sl [.int .u8], .int .i64, .sl [.str, .int .i64]]
instance : Inhabited Sl := ⟨nilS⟩
instance : Inhabited Opn := ⟨⟨0, ⟨#[]⟩, ⟨#[]⟩, [], 0, []⟩⟩
theorem sl_of {v : Value} {es : List Sh} {b : Nat} (h : Cl w (.sl es) v b) : ∃ s : Sl, v = s.v ∧ Cl w (.sl es) s.v b := by
  obtain ⟨s, rfl⟩ := h.sl_ex
  exact ⟨s, rfl, h⟩
theorem op_of {V : Nat → Value} {b : Nat} (hb : b ≤ 1048577) (hV : ∀ j sh, opSh[j]? = some sh → Cl w sh (V j) b) : ∃ x : Ops, (∀ j, j < 6 → (opC x)[j]? = some (V j)) ∧ OpI w x.1 x.2.1 x.2.2 := by
  obtain ⟨n0, e0, _⟩ := (hV 0 _ rfl).int_inv
  obtain ⟨s1, e1, h1⟩ := (hV 1 _ rfl).str_inv
  obtain ⟨s2, e2, h2⟩ := (hV 2 _ rfl).str_inv
  obtain ⟨b3, e3, h3⟩ := sl_of (hV 3 _ rfl)
  obtain ⟨n4, e4, _⟩ := (hV 4 _ rfl).int_inv
  obtain ⟨k5, e5, h5⟩ := sl_of (hV 5 _ rfl)
  obtain ⟨l3, r3, n3, m3⟩ := bytes_of h3
  obtain ⟨l5, r5, n5, m5⟩ := kps_of h5
  refine ⟨(⟨n0, s1, s2, l3, n4, l5⟩, b3, k5), fun j hj => ?_, ⟨show s1.size ≤ _ by omega, show s2.size ≤ _ by omega, r3, show l3.length ≤ _ by omega, r5, show l5.length ≤ _ by omega⟩⟩
  match j, hj with
  | 0, _ => rw [e0]; rfl
  | 1, _ => rw [e1]; rfl
  | 2, _ => rw [e2]; rfl
  | 3, _ => rw [e3]; rfl
  | 4, _ => rw [e4]; rfl
  | 5, _ => rw [e5]; rfl
theorem ops_of {s : Sl} {b : Nat} (hb : b ≤ 1048577) (h : Cl w (.sl opSh) s.v b) : ∃ l : List Ops, Rd w s 6 (ops l) ∧ s.n = l.length ∧ s.n < b ∧ ∀ x ∈ l, OpI w x.1 x.2.1 x.2.2 := by
  obtain ⟨m, h1, h2, h3, _, h5⟩ := rows_of (α := Ops) (enc := opC) (Q := fun x => OpI w x.1 x.2.1 x.2.2) (fun _ => rfl) (by decide) h fun V hV => op_of hb hV
  exact ⟨m, h1, h2, h3, h5⟩
theorem rdO_len {s : Sl} {l : List Ops} (h : Rd w s 6 (ops l)) : s.n = l.length := by have := h.2.1; rw [ops, Rep.flat_len (enc := opC) (k := 6) (fun _ => rfl)] at this; omega
theorem rdO_at {s : Sl} {l : List Ops} (h : Rd w s 6 (ops l)) {i : Int} {k : Nat} {x : Ops} (ei : i = (k : Int)) (hx : l[k]? = some x) {K : Addr → Prop}
    (hK : ∀ a : Addr, w.cell? a = some (.int .i64 x.1.kind) → w.cell? (a.add 1) = some (.string x.1.name) → w.cell? (a.add 2) = some (.string x.1.to) → w.cell? (a.add 3) = some x.2.1.v → w.cell? (a.add 4) = some (.int .i64 x.1.n) → w.cell? (a.add 5) = some x.2.2.v → K a) : G.ix s.a s.n i 6 K := by
  have hk : k < l.length := (List.getElem?_eq_some_iff.1 hx).1
  have hn := rdO_len h
  subst ei
  have at_ : ∀ j, j < 6 → (ops l)[k * 6 + j]? = (opC x)[j]? := fun j hj => by rw [ops, Rep.flat_at (enc := opC) (k := 6) (fun _ => rfl) _ _ _ hj, hx]; rfl
  refine Rd.ix h (by decide) (by omega) (by omega) fun a hc => ?_
  have c : ∀ j v, j < 6 → (opC x)[j]? = some v → w.cell? (a.add j) = some v := fun j v hj hv => hc j v hj (by rw [Int.toNat_natCast, at_ j hj]; exact hv)
  have c0 := c 0 _ (by decide) rfl
  rw [add_zero'] at c0
  exact hK a c0 (c 1 _ (by decide) rfl) (c 2 _ (by decide) rfl) (c 3 _ (by decide) rfl) (c 4 _ (by decide) rfl) (c 5 _ (by decide) rfl)

/-! ## Fixed calls -/
def nA : ByteArray := ⟨#[97]⟩
theorem rd_own {B : Nat} {s : Sl} {l : List UInt8} (h : OwnB w B s l) : RdB w s l := Own.rd h
theorem known_ok (top : Top w0 ω w) {K : Bool → World → Prop} (hK : ∀ w', Keep w0 w' → K true w') : C.tocsinlaw03_known w K := by
  have hsz : nA.size ≤ 9223372036854775807 := by show 1 ≤ _; decide
  have a1 : apM nA [49, 50] [] = (0, [⟨nA, [49, 50], 0⟩]) := by kernel_rfl
  have a2 : syM nA [⟨nA, [49, 50], 0⟩] = (0, [⟨nA, [49, 50], 2⟩]) := by kernel_rfl
  have a3 : apM nA [51, 52, 53] [⟨nA, [49, 50], 2⟩] = (0, [⟨nA, [49, 50, 51, 52, 53], 2⟩]) := by kernel_rfl
  have a4 : crM [(nA, 1)] [⟨nA, [49, 50, 51, 52, 53], 2⟩] = (0, [⟨nA, [49, 50, 51], 3⟩]) := by kernel_rfl
  have a5 : rdM nA [⟨nA, [49, 50, 51], 3⟩] = ([49, 50, 51], 0) := by kernel_rfl
  unfold C.tocsinlaw03_known
  refine new_ok (ω := ω) 1 fun gd ω1 w1 k1 d1 => cond_f rfl ?_
  have t1 := top.stp k1
  refine litB (n := 2) (l := [49, 50]) rfl rfl fun r2 w2 k2 b2 => ?_
  refine append_ok (s := nA) (d1.stp (k2.stp0 ω1) (off_non 1)) wf_nil hsz b2 (by decide) fun ω3 w3 k3 d3 hw3 => ?_
  rw [a1] at d3 hw3
  rw [a1]
  have t3 := (t1.stp (k2.stp0 ω1)).stp k3 rfl
  refine sync_ok (s := nA) d3 hw3 hsz fun ω4 w4 k4 d4 hw4 => ?_
  rw [a2] at d4 hw4
  rw [a2]
  have t4 := t3.stp k4 rfl
  refine litB (n := 3) (l := [51, 52, 53]) rfl rfl fun r5 w5 k5 b5 => ?_
  refine append_ok (s := nA) (d4.stp (k5.stp0 ω4) (off_non 1)) hw4 hsz b5 (by decide) fun ω6 w6 k6 d6 hw6 => ?_
  rw [a3] at d6 hw6
  rw [a3]
  have t6 := (t4.stp (k5.stp0 ω4)).stp k6 rfl
  refine new_T (ω := ω6) 100 fun g ω7 w7 k7 b7 => ?_
  have hk7 : Rd w7 ⟨some ⟨g, 0, none⟩, 1, 1⟩ 2 (kps [(nA, 1)]) := Rd.blk (o := 0) (n := 1) (c := 1) (sz := 2) b7.blk (Nat.le_refl _) (by simp)
  refine crash_ok (by decide) (d6.stp k7 (off_non 1)) hw6 hk7 (by decide) fun ω8 w8 k8 d8 hw8 => ?_
  rw [a4] at d8 hw8
  rw [a4]
  have t8 := (t6.stp k7).stp k8 rfl
  refine read2_ok (s := nA) d8 hw8 hsz fun r9 w9 k9 o9 => ?_
  rw [a5] at o9
  rw [a5]
  refine cond_t rfl <| cond_t rfl <| cond_t rfl <| cond_t rfl <| cond_t rfl <| Utf.convBS (rd_own o9) ?_
  have e : ((Utf.str [49, 50, 51]).toList == (⟨#[49, 50, 51]⟩ : ByteArray).toList) = true := by rw [ba_beq]; exact decide_eq_true rfl
  rw [e]
  exact hK w9 (Keep.trans t8.k k9)

/-! ## Both disks compared -/
theorem alike_ok {td tr : Nat} (hd : DK ω w td gd M) (hr : RD ω w tr gr M) (hM : WF M) {K : Bool → World → Prop} (hK : ∀ w', Keep w w' → K true w') : C.tocsinlaw03_alike (some ⟨gd, 0, none⟩) (some ⟨gr, 0, none⟩) w K := by
  have hcnt := hM.cnt
  unfold C.tocsinlaw03_alike
  refine list_ok hd hM fun l1 w1 k1 o1 => rlist_ok (hr.stp (k1.stp0 ω) (off_non tr)) hM fun l2 w2 k2 o2 => ?_
  have ol1 := Own.rd (o1.keep k2)
  refine texts_ok (l := M.map (·.name)) (m := M.map (·.name)) ol1 (Own.rd o2) (by simp; omega) fun w3 k3 => ?_
  rw [decide_eq_true rfl]
  refine cond_f rfl ?_
  have k03 := Keep.trans k1 (Keep.trans k2 k3)
  have ol3 : Rd w3 l1 1 (Wo.strs (M.map (·.name))) := ol1.keep k3
  have hln := strs_len ol3
  rw [List.length_map] at hln
  unfold C.tocsinlaw03_alike.S9
  refine C.tocsinlaw03_alike.L5_ind fun X hX => ?_
  have key : ∀ (d i : Nat) (w4 : World), i + d = M.length → Keep w3 w4 → X (some ⟨gd, 0, none⟩) (some ⟨gr, 0, none⟩) l1 (i : Int) w4 := by
    intro d
    induction d with
    | zero =>
      intro i w4 hi k
      refine hX _ _ _ _ _ ?_
      unfold C.tocsinlaw03_alike.S7 C.tocsinlaw03_alike.S2
      exact cond_d (fun hh => by omega) (fun _ => hK w4 (Keep.trans k03 k))
    | succ d ih =>
      intro i w4 hi k
      refine hX _ _ _ _ _ ?_
      unfold C.tocsinlaw03_alike.S7
      have k04 := Keep.trans k03 k
      obtain ⟨f, hf⟩ : ∃ f, M[i]? = some f := ⟨_, List.getElem?_eq_getElem (by omega)⟩
      have hfm := List.mem_of_getElem? hf
      have hnx : (M.map (·.name))[i]? = some f.name := by rw [List.getElem?_map, hf]; rfl
      have hnam := hM.nam f hfm
      have hfs : f.name.size ≤ 9223372036854775807 := by
        unfold namF at hnam
        simp only [Bool.and_eq_true, decide_eq_true_eq] at hnam
        omega
      have hfd : findM f.name M = some f := (findM_some hM.nodup).2 ⟨hfm, rfl⟩
      have hle := hM.len f hfm
      refine cond_d (fun _ => ?_) (fun hh => by omega)
      refine str_at (ol3.keep k) hnx fun a a0 => cS_at a0 ?_
      refine read_ok (hd.stp (k04.stp0 ω) (off_non td)) hM hfs (fun e => by rw [hnam] at e; cases e) (fun _ e => by rw [hfd] at e; cases e) (fun f' _ e r w5 k5 o5 => ?_)
      rw [hfd] at e
      obtain rfl := Option.some.inj e
      have k05 := Keep.trans k04 k5
      refine str_at (ol3.keep (Keep.trans k k5)) hnx fun a a0 => cS_at a0 ?_
      refine size_ok (hd.stp (k05.stp0 ω) (off_non td)) hM hfs (fun e => by rw [hnam] at e; cases e) (fun _ e => by rw [hfd] at e; cases e) (fun f' _ e w6 k6 => ?_)
      rw [hfd] at e
      obtain rfl := Option.some.inj e
      have k06 := Keep.trans k05 k6
      refine cond_f rfl <| cond_f rfl ?_
      obtain ⟨sl, pl, hR, hpl⟩ := hr.stp (k06.stp0 ω) (off_non tr)
      have hpl2 : pl.length = M.length := by rw [← hpl, List.length_map]
      obtain ⟨q, hx⟩ : ∃ q, pl[i]? = some q := ⟨_, List.getElem?_eq_getElem (by omega)⟩
      have hq : q.1 = f := by
        have : (pl.map (·.1))[i]? = some q.1 := by rw [List.getElem?_map, hx]; rfl
        rw [hpl, hf] at this
        exact (Option.some.inj this).symm
      have c6 : w6.cell? ⟨gr, 0, none⟩ = some sl.v := by rw [hR.hd.cell]; rfl
      refine ptr_at <| cSl_at (s := sl) c6 <| rdF_at hR.row.rd (k := i) rfl hx fun a _ a1 _ => cSl_at (s := q.2) a1 ?_
      have hqr := (hR.rt q (List.mem_of_getElem? hx)).rd
      rw [hq] at hqr
      have o6 := rd_own (o5.keep k6)
      refine same_ok o6 hqr (by omega) fun w7 k7 => ?_
      rw [decide_eq_true rfl]
      have hR7 := hR.stp (k7.stp0 ω) (off_non tr)
      have c7 : w7.cell? ⟨gr, 0, none⟩ = some sl.v := by rw [hR7.hd.cell]; rfl
      refine cond_f rfl <| cond_f ?_ ?_
      · rw [o6.len]; simp
      refine ptr_at <| cSl_at (s := sl) c7 <| rdF_at hR7.row.rd (k := i) rfl hx fun a _ _ a2 => cI_at a2 ?_
      rw [hq]
      refine cond_f (by simp) ?_
      rw [wI64 (by omega) (by omega), show (i : Int) + 1 = ((i + 1 : Nat) : Int) by omega]
      exact ih (i + 1) w7 (by omega) (Keep.trans k (Keep.trans k5 (Keep.trans k6 k7)))
  exact key M.length 0 w3 (by omega) (Keep.refl w3)

/-- The calls of a script, one after another. -/
theorem files_ok {s : Sl} {l : List Ops} (top : Top w0 ω w) (hs : Rd w0 s 6 (ops l)) (hl : l.length ≤ 10000000) (ho : ∀ x ∈ l, OpI w0 x.1 x.2.1 x.2.2) {K : Option Addr → Option Addr → World → Prop}
    (hK : ∀ gd gr M ω' w', Stp T14 ω ω' w w' → ST w0 ω' w' gd gr M → K (some ⟨gd, 0, none⟩) (some ⟨gr, 0, none⟩) w') : C.tocsinlaw03_files s w K := by
  have hn := rdO_len hs
  unfold C.tocsinlaw03_files
  refine new_ok (ω := ω) 1 fun gd ω1 w1 k1 d1 => new_T (ω := ω1) 4 fun gr ω2 w2 k2 b2 => cond_f rfl ?_
  unfold C.tocsinlaw03_files.S9
  refine C.tocsinlaw03_files.L5_ind fun X hX => ?_
  have key : ∀ (d i : Nat) (M : List Fl) (ω3 : Tg) (w3 : World), i + d = l.length → ST w0 ω3 w3 gd gr M → Stp T14 ω ω3 w w3 → X s (some ⟨gd, 0, none⟩) (some ⟨gr, 0, none⟩) (i : Int) w3 := by
    intro d
    induction d with
    | zero =>
      intro i M ω3 w3 hi h sp
      refine hX _ _ _ _ _ ?_
      unfold C.tocsinlaw03_files.S7 C.tocsinlaw03_files.S2
      exact cond_d (fun hh => by omega) (fun _ => hK gd gr M ω3 w3 sp h)
    | succ d ih =>
      intro i M ω3 w3 hi h sp
      refine hX _ _ _ _ _ ?_
      unfold C.tocsinlaw03_files.S7
      obtain ⟨x, hx⟩ : ∃ x, l[i]? = some x := ⟨_, List.getElem?_eq_getElem (by omega)⟩
      refine cond_d (fun _ => ?_) (fun hh => by omega)
      refine rdO_at (hs.keep h.top.k) (k := i) rfl hx fun a a0 a1 a2 a3 a4 a5 => cI_at a0 <| cS_at a1 <| cS_at a2 <| cSl_at (s := x.2.1) a3 <| cI_at a4 <| cSl_at (s := x.2.2) a5 ?_
      refine step_ok h (ho x (List.mem_of_getElem? hx)) fun ω4 w4 k4 h4 => ?_
      rw [wI64 (by omega) (by omega), show (i : Int) + 1 = ((i + 1 : Nat) : Int) by omega]
      exact ih (i + 1) _ ω4 w4 (by omega) h4 (sp.trans k4)
  refine key l.length 0 [] ω2 w2 (by omega) ⟨(top.stp k1).stp k2, d1.stp k2 (off_non 1), ⟨nilS, [], ⟨b2, OT.nil .., by simp⟩, rfl⟩, wf_nil⟩ ((k1.trans k2).non _)
end Go.Proofs.Ytlfpbnfdeanaeaa.Dk
