/- Layer 3: the document's disk in memory: At, put, out. Own work. -/
import Derived.Test.YtlfpbnfdeanaeaaDkF
import Derived.Test.YtlfpbnfdeanaeaaRtg
namespace Go.Proofs.Ytlfpbnfdeanaeaa.Dk
open Go Vm Go.RowKit Num Mem
variable {ω ω' : Tg} {w w' w0 : World} {t gr : Nat} {T : Nat → Bool} {M : List Fl} {pl : PL} {sl : Sl}

section
variable {α : Type} {enc : α → List Value} {k : Nat}
theorem flat_drop (hk : ∀ x, (enc x).length = k) : ∀ (m : List α) (n : Nat), (m.flatMap enc).drop (n * k) = (m.drop n).flatMap enc
  | m, 0 => by simp
  | [], n + 1 => by simp
  | x :: m, n + 1 => by
    rw [List.flatMap_cons, List.drop_succ_cons, ← flat_drop hk m n, List.drop_append, hk, List.drop_of_length_le (by rw [hk, Nat.add_mul]; omega), List.nil_append]
    congr 1; rw [Nat.add_mul]; omega
theorem flat_take (hk : ∀ x, (enc x).length = k) : ∀ (m : List α) (n : Nat), (m.flatMap enc).take (n * k) = (m.take n).flatMap enc
  | m, 0 => by simp
  | [], n + 1 => by simp
  | x :: m, n + 1 => by
    rw [List.flatMap_cons, List.take_succ_cons, List.flatMap_cons, ← flat_take hk m n, List.take_append, hk, List.take_of_length_le (by rw [hk, Nat.add_mul]; omega)]
    congr 2; rw [Nat.add_mul]; omega
theorem flat_set (hk : ∀ x, (enc x).length = k) (v : Value) (j : Nat) (hj : j < k) : ∀ (m : List α) (i : Nat) (x y : α), m[i]? = some x → enc y = (enc x).set j v → (m.flatMap enc).set (i * k + j) v = (m.set i y).flatMap enc
  | [], i, x, y, h, _ => by simp at h
  | a :: m, 0, x, y, h, e => by
    simp at h; subst h
    simp only [List.flatMap_cons, List.set_cons_zero, Nat.zero_mul, Nat.zero_add]
    rw [List.set_append_left _ _ (by rw [hk]; exact hj), e]
  | a :: m, i + 1, x, y, h, e => by
    simp only [List.flatMap_cons, List.set_cons_succ]
    rw [List.set_append_right _ _ (by rw [hk, Nat.add_mul]; omega), hk, ← flat_set hk v j hj m i x y (by simpa using h) e]
    congr 2; rw [Nat.add_mul]; omega
end
def fC (p : Fl × Sl) : List Value := [.string p.1.name, p.2.v, .int .i64 (p.1.synced : Int)]
def fcs (pl : PL) : List Value := pl.flatMap fC
theorem fC_len (p : Fl × Sl) : (fC p).length = 3 := rfl
theorem fcs_len (pl : PL) : (fcs pl).length = pl.length * 3 := Rep.flat_len (enc := fC) fC_len pl
theorem fcs_one {pl : PL} : ∀ v ∈ fcs pl, v.oneCell' = true := by
  intro v hv
  obtain ⟨p, _, hp⟩ := List.mem_flatMap.1 hv
  simp only [fC, List.mem_cons, List.not_mem_nil, or_false] at hp
  rcases hp with rfl | rfl | rfl <;> rfl
theorem rdF_len (h : Rd w sl 3 (fcs pl)) : sl.n = pl.length := by have := h.2.1; rw [fcs_len] at this; omega
theorem rdF_at (h : Rd w sl 3 (fcs pl)) {i : Int} {k : Nat} {p : Fl × Sl} (ei : i = (k : Int)) (hx : pl[k]? = some p) {K : Addr → Prop}
    (hK : ∀ a : Addr, w.cell? a = some (.string p.1.name) → w.cell? (a.add 1) = some p.2.v → w.cell? (a.add 2) = some (.int .i64 (p.1.synced : Int)) → K a) : G.ix sl.a sl.n i 3 K := by
  have hk : k < pl.length := (List.getElem?_eq_some_iff.1 hx).1
  have hn := rdF_len h
  subst ei
  have at_ : ∀ j, j < 3 → (fcs pl)[k * 3 + j]? = (fC p)[j]? := fun j hj => by rw [fcs, Rep.flat_at (enc := fC) fC_len _ _ _ hj, hx]; rfl
  refine Rd.ix h (by decide) (by omega) (by omega) fun a hc => hK a ?_ ?_ ?_
  · have := hc 0 _ (by decide) (by rw [Int.toNat_natCast, at_ 0 (by decide)]; rfl)
    rwa [show a.add 0 = a by simp [Addr.add]] at this
  · exact hc 1 _ (by decide) (by rw [Int.toNat_natCast, at_ 1 (by decide)]; rfl)
  · exact hc 2 _ (by decide) (by rw [Int.toNat_natCast, at_ 2 (by decide)]; rfl)

structure RDa (ω : Tg) (w : World) (t gr : Nat) (sl : Sl) (pl : PL) : Prop where
  hd : BT ω w t gr 37 [sl.v]
  row : OT ω w (t + 1) 51 3 sl (fcs pl)
  rt : ∀ p ∈ pl, RT ω w (t + 2) p.2 1 (vBs p.1.bytes)
abbrev RD (ω : Tg) (w : World) (t gr : Nat) (M : List Fl) : Prop := ∃ sl pl, RDa ω w t gr sl pl ∧ pl.map (·.1) = M
theorem RDa.stp (h : RDa ω w t gr sl pl) (k : Stp T ω ω' w w') (hT : Off t T) : RDa ω' w' t gr sl pl := ⟨h.hd.stp k hT.1, h.row.stp k hT.2.1, fun p hp => (h.rt p hp).stp k hT.2.2⟩
theorem RD.stp (h : RD ω w t gr M) (k : Stp T ω ω' w w') (hT : Off t T) : RD ω' w' t gr M := let ⟨sl, pl, a, b⟩ := h; ⟨sl, pl, a.stp k hT, b⟩
theorem tiF : TI Try.prog 35 51 3 48 := TI.of (z := .agg #[.string ⟨#[]⟩, .slice none 0 0, .int .i64 0]) (by kernel_rfl) (by kernel_rfl) rfl (by decide)

/-- The place of a name. -/
def idx (s : ByteArray) : List Fl → Option Nat
  | [] => none
  | f :: r => if f.name = s then some 0 else (idx s r).map (· + 1)
theorem idx_some {s : ByteArray} : ∀ {M : List Fl} {k : Nat}, idx s M = some k → ∃ f, M[k]? = some f ∧ f.name = s ∧ findM s M = some f
  | [], k, h => by cases h
  | f :: r, k, h => by
    unfold idx at h
    split at h
    · rename_i e
      injection h with h; subst h
      exact ⟨f, rfl, e, by simp [findM, List.find?_cons, e]⟩
    · rename_i e
      obtain ⟨j, hj, rfl⟩ := Option.map_eq_some_iff.1 h
      obtain ⟨g, h1, h2, h3⟩ := idx_some hj
      exact ⟨g, by simpa using h1, h2, by simpa [findM, List.find?_cons, e] using h3⟩
theorem idx_none {s : ByteArray} : ∀ {M : List Fl}, idx s M = none → findM s M = none
  | [], _ => rfl
  | f :: r, h => by
    unfold idx at h
    split at h
    · cases h
    · rename_i e
      have := idx_none (M := r) (by simpa using h)
      simpa [findM, List.find?_cons, e] using this
theorem idx_go {s : ByteArray} : ∀ {M : List Fl} {k : Nat}, (∀ i f, i < k → M[i]? = some f → f.name ≠ s) → (∀ f, M[k]? = some f → f.name = s → idx s M = some k) ∧ (M.length ≤ k → idx s M = none)
  | [], k, _ => ⟨fun f h => by simp at h, fun _ => rfl⟩
  | x :: r, 0, _ => ⟨fun f h e => by simp at h; subst h; simp [idx, e], fun h => by simp at h⟩
  | x :: r, k + 1, h => by
    have hx : x.name ≠ s := h 0 x (by omega) rfl
    have ih := idx_go (M := r) (k := k) fun i f hi hf => h (i + 1) f (by omega) (by simpa using hf)
    refine ⟨fun f hf e => ?_, fun hl => ?_⟩
    · simp [idx, hx, ih.1 f (by simpa using hf) e]
    · simp [idx, hx, ih.2 (by simpa using hl)]
theorem ba_beq {a b : ByteArray} : (a.toList == b.toList) = decide (a = b) := by
  by_cases h : a = b
  · subst h; simp
  · rw [decide_eq_false h, beq_eq_false_iff_ne]; exact fun e => h (ba_inj e)
def idxI (s : ByteArray) (M : List Fl) : Int := match idx s M with | some k => (k : Int) | none => -1
theorem at_ok (h : RDa ω w t gr sl pl) (hM : pl.map (·.1) = M) (hl : M.length ≤ 1000) {s : ByteArray} {K : Int → World → Prop} (hK : K (idxI s M) w) : C.tocsinref03_Disk_At (some ⟨gr, 0, none⟩) s w K := by
  have hn := rdF_len h.row.rd
  have hpl : pl.length = M.length := by rw [← hM, List.length_map]
  have c0 : w.cell? ⟨gr, 0, none⟩ = some sl.v := by rw [h.hd.cell]; rfl
  unfold C.tocsinref03_Disk_At C.tocsinref03_Disk_At.S9
  refine C.tocsinref03_Disk_At.L5_ind fun X hX => ?_
  have key : ∀ (d i : Nat), i + d = M.length → (∀ j f, j < i → M[j]? = some f → f.name ≠ s) → X (some ⟨gr, 0, none⟩) s (i : Int) w := by
    intro d
    induction d with
    | zero =>
      intro i hi hne
      refine hX _ _ _ _ ?_
      unfold C.tocsinref03_Disk_At.S7 C.tocsinref03_Disk_At.S2
      refine ptr_at <| cSl_at (s := sl) c0 <| cond_d (fun hh => by omega) (fun _ => ?_)
      unfold idxI at hK
      rwa [(idx_go hne).2 (by omega)] at hK
    | succ d ih =>
      intro i hi hne
      refine hX _ _ _ _ ?_
      unfold C.tocsinref03_Disk_At.S7
      obtain ⟨q, hx⟩ : ∃ q, pl[i]? = some q := ⟨_, List.getElem?_eq_getElem (by omega)⟩
      have hmx : M[i]? = some q.1 := by rw [← hM, List.getElem?_map, hx]; rfl
      refine ptr_at <| cSl_at (s := sl) c0 <| cond_d (fun _ => ?_) (fun hh => by omega)
      refine ptr_at <| cSl_at (s := sl) c0 <| rdF_at h.row.rd (k := i) rfl hx fun a a0 _ _ => cS_at a0 ?_
      rw [ba_beq]
      refine cond_d (fun e => ?_) (fun e => ?_)
      · unfold idxI at hK
        rwa [(idx_go hne).1 _ hmx e] at hK
      · rw [wI64 (by omega) (by omega), show (i : Int) + 1 = ((i + 1 : Nat) : Int) by omega]
        refine ih (i + 1) (by omega) fun j f hj hf => ?_
        rcases Nat.lt_succ_iff_lt_or_eq.1 hj with hj | rfl
        · exact hne j f hj hf
        · rw [hmx] at hf
          rw [← Option.some.inj hf]; exact e
  exact key M.length 0 (by omega) fun j f hj => absurd hj (Nat.not_lt_zero _)

/-- Behind the writing of the row. -/
theorem row_RD {sl' : Sl} {pl' : PL} (h : RDa ω w t gr sl pl) {w1 : World} (k : Keep w w1) (o : Mem.Own w1 w.heap.size 51 3 sl' (fcs pl')) (hrt : ∀ p ∈ pl', RT (ext ω w.heap.size (t + 1)) w1 (t + 2) p.2 1 (vBs p.1.bytes)) {K : World → Prop}
    (hK : ∀ ω' w', Stp (Mem.One t) ω ω' w w' → RDa ω' w' t gr sl' pl' → K w') : G.st ⟨gr, 0, none⟩ sl'.v w1 K := by
  have s := k.stp ω (t + 1)
  have o' := Own.tag (w := w) o (Nat.le_refl _) ω (t + 1)
  refine st_T (h.hd.stp s) (by simp) fun ω2 w2 k2 b2 => hK ω2 w2 ((s.non _).trans k2) ⟨b2, o'.stp k2 (beq_no (by omega)), fun p hp => (hrt p hp).stp k2 (beq_no (by omega))⟩
theorem ins_at {f : Fl} : ∀ {M : List Fl} {k : Nat}, (∀ y ∈ M.take k, bl y.name f.name) → (∀ y ∈ M.drop k, bl f.name y.name) → insM f M = M.take k ++ f :: M.drop k
  | [], k, _, _ => by simp [insM]
  | y :: r, 0, _, h => by
    have := h y (by simp)
    unfold insM
    rw [if_neg (by have := bl_asym this; unfold bl at this; exact this)]
    simp
  | y :: r, k + 1, h1, h2 => by
    have := h1 y (by simp)
    unfold bl at this
    unfold insM
    rw [if_pos this, ins_at (k := k) (fun z hz => h1 z (by simp [hz])) (fun z hz => h2 z (by simpa using hz))]
    simp
/-- A part of the row, put behind another row of new memory. -/
theorem part_T {u : Nat} {s : Sl} {qs : PL} {lo hi : Nat} {i j : Int} (hr : Rd w sl 3 (fcs pl)) (o : OT ω w u 51 3 s (fcs qs)) (h1 : lo ≤ hi) (h2 : hi ≤ pl.length) (ei : i = lo) (ej : j = hi) (hq : qs.length ≤ 2000) (hp : pl.length ≤ 2000) {K : Sl → World → Prop}
    (hK : ∀ r ω' w', Stp (Mem.One u) ω ω' w w' → OT ω' w' u 51 3 r (fcs (qs ++ (pl.drop lo).take (hi - lo))) → K r w') :
    G.slc sl i j 3 fun l10 => G.runSl C.pr (Builtin.append_ #[35, 35] 35 #[s.v, l10.v]) w fun r w' => K r w' := by
  have hn := rdF_len hr
  have hs := rdF_len o.rd
  refine Rd.slc hr h1 (by omega) ei ej fun r hr' hrn _ => ?_
  have e : ((fcs pl).drop (lo * 3)).take ((hi - lo) * 3) = fcs ((pl.drop lo).take (hi - lo)) := by unfold fcs; rw [flat_drop fC_len, flat_take fC_len]
  rw [e] at hr'
  refine app_T tiF o hr' fcs_one (by rw [hs, hrn]; simp only [maxLen]; omega) (by rw [hs, hrn]; omega) fun q ω' w' k o' _ => hK q ω' w' k ?_
  unfold fcs at o' ⊢
  rw [List.flatMap_append]; exact o'
theorem put_S2 (h : RDa ω w t gr sl pl) (hM : pl.map (·.1) = M) (hl : M.length ≤ 1000) {f : Fl} {b : Sl} (hb : RT ω w (t + 2) b 1 (vBs f.bytes)) {w1 : World} {p : Addr} {k : Nat} (hk : k ≤ M.length) (k1 : Keep w w1) (p0 : w1.cell? p = some (.string f.name)) (p1 : w1.cell? (p.add 1) = some b.v) (p2 : w1.cell? (p.add 2) = some (.int .i64 (f.synced : Int)))
    {K : World → Prop} (hK : ∀ ω' w', Stp (Mem.One t) ω ω' w w' → RD ω' w' t gr (M.take k ++ f :: M.drop k) → K w') : C.tocsinref03_Disk_put.S2 K (some ⟨gr, 0, none⟩) (some p) (k : Int) w1 := by
  have hnl := rdF_len h.row.rd
  have hpl : pl.length = M.length := by rw [← hM, List.length_map]
  have c0 : w1.cell? ⟨gr, 0, none⟩ = some sl.v := k1.cell (by rw [h.hd.cell]; rfl)
  have hr1 := h.row.rd.keep k1
  unfold C.tocsinref03_Disk_put.S2
  refine ptr_at <| cSl_at (s := sl) c0 ?_
  refine part_T (ω := fun _ => 0) (u := 9) (lo := 0) (hi := k) (qs := []) hr1 (OT.nil ..) (Nat.zero_le _) (by omega) rfl rfl (by simp) (by omega) fun r ω2 w2 k2 o2 => ?_
  have t2 := (Top.init w1).stp k2
  refine ptr_at <| cS_at (t2.k.cell p0) <| cSl_at (s := b) (t2.k.cell p1) <| cI_at (t2.k.cell p2) ?_
  have hrl := rdF_len o2.rd
  simp only [List.nil_append, List.drop_zero, Nat.sub_zero] at o2 hrl
  rw [List.length_take] at hrl
  refine push_T tiF o2 (n := 1) rfl (by intro v hv; simp at hv; rcases hv with rfl | rfl | rfl <;> rfl) (by simp only [maxLen]; omega) (by omega) fun r3 ω3 w3 k3 o3 _ => ?_
  have e3 : fcs (pl.take k) ++ [Value.string f.name, b.v, .int .i64 (f.synced : Int)] = fcs (pl.take k ++ [(f, b)]) := by unfold fcs; rw [List.flatMap_append]; rfl
  have o3' : OT ω3 w3 9 51 3 r3 (fcs (pl.take k ++ [(f, b)])) := by rw [← e3]; exact o3
  have t3 := t2.stp k3
  refine ptr_at <| cSl_at (s := sl) (t3.k.cell c0) ?_
  refine part_T (lo := k) (hi := sl.n) (hr1.keep t3.k) o3' (by omega) (by omega) rfl rfl (by simp; omega) (by omega) fun r4 ω4 w4 k4 o4 => ?_
  have eT : (pl.drop k).take (sl.n - k) = pl.drop k := List.take_of_length_le (by rw [List.length_drop]; omega)
  rw [eT] at o4
  have t4 := t3.stp k4
  have k04 := Keep.trans k1 t4.k
  have on := (OT.new o4 t4).mono k1.size
  refine ptr_at <| row_RD h k04 on (fun q hq => ?_) fun ω' w' s d => hK ω' w' s ⟨_, _, d, ?_⟩
  · have st := k04.stp ω (t + 1)
    simp only [List.append_assoc, List.mem_append, List.mem_singleton] at hq
    rcases hq with hq | hq | hq
    · exact (h.rt q (List.mem_of_mem_take hq)).stp st
    · subst hq; exact hb.stp st
    · exact (h.rt q (List.mem_of_mem_drop hq)).stp st
  · simp only [List.map_append, List.map_take, List.map_drop, hM, List.map_cons, List.map_nil, List.append_assoc]
    rfl
theorem put_ok (h : RDa ω w t gr sl pl) (hM : pl.map (·.1) = M) (hup : M.Pairwise fun a b => bl a.name b.name) (hl : M.length ≤ 1000) {f : Fl} {b : Sl} (hb : RT ω w (t + 2) b 1 (vBs f.bytes)) (hn : findM f.name M = none) {K : World → Prop}
    (hK : ∀ ω' w', Stp (Mem.One t) ω ω' w w' → RD ω' w' t gr (insM f M) → K w') : C.tocsinref03_Disk_put (some ⟨gr, 0, none⟩) f.name b (f.synced : Int) w K := by
  have hnl := rdF_len h.row.rd
  have hpl : pl.length = M.length := by rw [← hM, List.length_map]
  unfold C.tocsinref03_Disk_put
  refine new_T (ω := fun _ => 0) 7 fun g ω1 w1 k1 b1 => ?_
  have t1 := (Top.init w).stp k1
  have h1 := h.stp (t1.k.stp0 ω) (off_non t)
  have c0 : w1.cell? ⟨gr, 0, none⟩ = some sl.v := by rw [h1.hd.cell]; rfl
  have p0 : w1.cell? ⟨g, 0, none⟩ = some (.string f.name) := by rw [b1.cell]; rfl
  have p1 : w1.cell? (Addr.add ⟨g, 0, none⟩ 1) = some b.v := by rw [addr_add, b1.cell]; rfl
  have p2 : w1.cell? (Addr.add ⟨g, 0, none⟩ 2) = some (.int .i64 (f.synced : Int)) := by rw [addr_add, b1.cell]; rfl
  refine ptr_at <| cSl_at (s := sl) c0 ?_
  refine C.tocsinref03_Disk_put.L5_ind fun X hX => ?_
  have key : ∀ (k : Nat) (w2 : World), k ≤ M.length → Keep w1 w2 → (∀ y ∈ M.drop k, bl f.name y.name) → X (some ⟨gr, 0, none⟩) (some ⟨g, 0, none⟩) (k : Int) w2 := by
    intro k
    induction k with
    | zero =>
      intro w2 hk k2 hdr
      refine hX _ _ _ _ ?_
      unfold C.tocsinref03_Disk_put.S7
      have kd := Keep.trans k2 (Keep.drew w2)
      refine cond_d (fun hh => by omega) (fun _ => ?_)
      refine put_S2 h hM hl hb (k := 0) (Nat.zero_le _) (Keep.trans t1.k kd) (kd.cell p0) (kd.cell p1) (kd.cell p2) fun ω' w' s d => hK ω' w' s ?_
      rw [ins_at (k := 0) (by simp) hdr]; exact d
    | succ k ih =>
      intro w2 hk k2 hdr
      refine hX _ _ _ _ ?_
      unfold C.tocsinref03_Disk_put.S7
      have kd := Keep.trans k2 (Keep.drew w2)
      obtain ⟨q, hx⟩ : ∃ q, pl[k]? = some q := ⟨_, List.getElem?_eq_getElem (by omega)⟩
      have hmx : M[k]? = some q.1 := by rw [← hM, List.getElem?_map, hx]; rfl
      refine cond_d (fun _ => ?_) (fun hh => by omega)
      refine ptr_at <| cSl_at (s := sl) (kd.cell c0) ?_
      refine rdF_at (h.row.rd.keep (Keep.trans t1.k kd)) (k := k) (by rw [wI64 (by omega) (by omega)]; omega) hx fun a a0 _ _ => cS_at a0 <| ptr_at <| cS_at (kd.cell p0) ?_
      have hne : q.1.name ≠ f.name := findM_none.1 hn _ (List.mem_of_getElem? hmx)
      have hdk : M.drop k = q.1 :: M.drop (k + 1) := by
        have hlt : k < M.length := by omega
        rw [List.drop_eq_getElem_cons hlt]
        congr 1
        rw [List.getElem?_eq_getElem hlt] at hmx
        exact Option.some.inj hmx
      rw [ba_beq, decide_eq_false hne, Bool.or_false]
      refine cond_not (fun hlt => ?_) (fun hlt => ?_)
      · rw [wI64 (by omega) (by omega), show ((k + 1 : Nat) : Int) - 1 = (k : Int) by omega]
        refine ih w2.drew (by omega) kd fun y hy => ?_
        rw [hdk] at hy
        rcases List.mem_cons.1 hy with rfl | hy
        · exact less_tri hlt fun e => hne (ba_inj e)
        · exact hdr y hy
      · refine put_S2 h hM hl hb (k := k + 1) hk (Keep.trans t1.k kd) (kd.cell p0) (kd.cell p1) (kd.cell p2) fun ω' w' s d => hK ω' w' s ?_
        rw [ins_at (k := k + 1) (fun y hy => ?_) hdr]; exact d
        obtain ⟨i, hi, hiy⟩ := List.mem_iff_getElem.1 hy
        rw [List.length_take] at hi
        have hy' : M[i]? = some y := by rw [← hiy, List.getElem_take]; exact List.getElem?_eq_getElem (by omega)
        rcases Nat.lt_succ_iff_lt_or_eq.1 (show i < k + 1 by omega) with hik | rfl
        · have h1 := List.pairwise_iff_getElem.1 hup i k (by omega) (by omega) hik
          rw [List.getElem?_eq_getElem (by omega)] at hy' hmx
          rw [Option.some.inj hy', Option.some.inj hmx] at h1
          exact less_trans h1 hlt
        · rw [hmx] at hy'
          rw [← Option.some.inj hy']; exact hlt
  rw [hnl, hpl]
  exact key M.length w1 (Nat.le_refl _) (Keep.refl _) (by simp)
/-- out: a file is taken out. -/
theorem out_ok (h : RDa ω w t gr sl pl) (hM : pl.map (·.1) = M) (hl : M.length ≤ 1000) {k : Nat} {f : Fl} (hf : M[k]? = some f) {K : ByteArray → Sl → Int → World → Prop}
    (hK : ∀ b ω' w', Stp (Mem.One t) ω ω' w w' → RD ω' w' t gr (M.take k ++ M.drop (k + 1)) → RT ω' w' (t + 2) b 1 (vBs f.bytes) → K f.name b (f.synced : Int) w') : C.tocsinref03_Disk_out (some ⟨gr, 0, none⟩) (k : Int) w K := by
  have hnl := rdF_len h.row.rd
  have hpl : pl.length = M.length := by rw [← hM, List.length_map]
  have hkl : k < M.length := (List.getElem?_eq_some_iff.1 hf).1
  obtain ⟨q, hx⟩ : ∃ q, pl[k]? = some q := ⟨_, List.getElem?_eq_getElem (by omega)⟩
  have hmx : M[k]? = some q.1 := by rw [← hM, List.getElem?_map, hx]; rfl
  obtain rfl : q.1 = f := by rw [hf] at hmx; exact (Option.some.inj hmx).symm
  unfold C.tocsinref03_Disk_out
  refine new_T (ω := fun _ => 0) 7 fun g ω1 w1 k1 b1 => ?_
  have t1 := (Top.init w).stp k1
  have c0 : ∀ {w'}, Keep w w' → w'.cell? ⟨gr, 0, none⟩ = some sl.v := fun k => k.cell (by rw [h.hd.cell]; rfl)
  refine ptr_at <| cSl_at (s := sl) (c0 t1.k) <| rdF_at (h.row.rd.keep t1.k) (k := k) rfl hx fun a a0 a1 a2 => cS_at a0 <| cSl_at (s := q.2) a1 <| cI_at a2 ?_
  refine new_T (ω := ω1) 8 fun g2 ω2 w2 k2 b2 => st_T b2 (by simp) fun ω3 w3 k3 b3 => st_TA b3 (by simp) fun ω4 w4 k4 b4 => st_TA b4 (by simp) fun ω5 w5 k5 b5 => ?_
  have t5 := (((t1.stp k2).stp k3).stp k4).stp k5
  have b15 := (((b1.stp k2).stp k3).stp k4).stp k5
  refine ptr_at <| cSl_at (s := sl) (c0 t5.k) ?_
  refine part_T (u := 9) (lo := 0) (hi := k) (qs := []) (h.row.rd.keep t5.k) (OT.nil ω5 w5 9 _ _) (Nat.zero_le _) (by omega) rfl rfl (by simp) (by omega) fun r ω6 w6 k6 o6 => ?_
  have t6 := t5.stp k6
  refine ptr_at <| cSl_at (s := sl) (c0 t6.k) ?_
  refine part_T (lo := k + 1) (hi := sl.n) (h.row.rd.keep t6.k) o6 (by omega) (by omega) (by rw [wI64 (by omega) (by omega)]; omega) rfl (by simp; omega) (by omega) fun r2 ω7 w7 k7 o7 => ?_
  have t7 := t6.stp k7
  have b27 := (b5.stp k6).stp k7
  have b17 := (b15.stp k6).stp k7
  obtain ⟨v, hv, hvf⟩ := fresh ω w.heap.size (t + 2)
  have hf9 : ∀ x, (fun x => if x = 9 then t + 1 else v) x = if x = 9 then t + 1 else v := fun _ => rfl
  generalize (fun x => if x = 9 then t + 1 else v) = F at hf9
  have eT : (pl.drop (k + 1)).take (sl.n - (k + 1)) = pl.drop (k + 1) := List.take_of_length_le (by rw [List.length_drop]; omega)
  simp only [List.nil_append, List.drop_zero, Nat.sub_zero] at o7
  rw [eT] at o7
  have st := rtg_stp t7.k ω ω7 F
  have oo := OT.rtg (ω := ω) o7 t7 F
  have bb := BT.rtg (ω := ω) b17 t7 F
  have bb2 := BT.rtg (ω := ω) b27 t7 F
  rw [hf9, if_pos rfl] at oo
  rw [hf9, if_neg (by decide)] at bb bb2
  generalize rtg ω ω7 w.heap.size F = ωg at *
  refine ptr_at <| st_T (h.hd.stp st) (by simp) fun ω8 w8 k8 b8 => ?_
  have o8 := oo.stp k8 (beq_no (by omega))
  have bb8 := bb.stp k8 (beq_no (by omega))
  have b28 := bb2.stp k8 (beq_no (by omega))
  have hrt8 : ∀ p ∈ pl, RT ω8 w8 (t + 2) p.2 1 (vBs p.1.bytes) := fun p hp => ((h.rt p hp).stp st).stp k8 (beq_no (by omega))
  refine cS_at (b := q.1.name) (by rw [b28.cell]; rfl) <| cSl_at (s := q.2) (by rw [addr_add, b28.cell]; rfl) <| cI_at (n := (q.1.synced : Int)) (by rw [addr_add, b28.cell]; rfl) ?_
  refine st_T bb8 (by simp) fun ω9 w9 k9 b9 => st_TA b9 (by simp) fun ω10 w10 k10 b10 => st_TA b10 (by simp) fun ω11 w11 k11 b11 => ?_
  refine cS_at (b := q.1.name) (by rw [b11.cell]; rfl) <| cSl_at (s := q.2) (by rw [addr_add, b11.cell]; rfl) <| cI_at (n := (q.1.synced : Int)) (by rw [addr_add, b11.cell]; rfl) ?_
  have s8 := (st.non (Mem.One t)).trans k8
  have s11 := ((s8.fresh k9 hvf).fresh k10 hvf).fresh k11 hvf
  have hv1 : Mem.One v t = false := beq_no (by omega)
  have hv2 : Mem.One v (t + 1) = false := beq_no (by omega)
  have hv3 : Mem.One v (t + 2) = false := beq_no (by omega)
  have hrt11 : ∀ p ∈ pl, RT ω11 w11 (t + 2) p.2 1 (vBs p.1.bytes) := fun p hp => (((hrt8 p hp).stp k9 hv3).stp k10 hv3).stp k11 hv3
  refine hK q.2 ω11 w11 s11 ⟨r2, pl.take k ++ pl.drop (k + 1), ⟨((b8.stp k9 hv1).stp k10 hv1).stp k11 hv1, ((o8.stp k9 hv2).stp k10 hv2).stp k11 hv2, fun p hp => ?_⟩, ?_⟩ (hrt11 q (List.mem_of_getElem? hx))
  · rcases List.mem_append.1 hp with hp | hp
    · exact hrt11 p (List.mem_of_mem_take hp)
    · exact hrt11 p (List.mem_of_mem_drop hp)
  · rw [List.map_append, List.map_take, List.map_drop, hM]
end Go.Proofs.Ytlfpbnfdeanaeaa.Dk
