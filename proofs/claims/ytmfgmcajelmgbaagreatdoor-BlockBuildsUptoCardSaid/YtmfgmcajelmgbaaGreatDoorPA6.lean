/- (several texts in one: SeqG, BkI, BkD, BkE, RepR, BkJ, UtfWB, BkW) Own work. -/
import Derived.Test.YtmfgmcajelmgbaaGreatDoorPA5
namespace Go.Proofs.YtmfgmcajelmgbaaGreatDoor.Mem
open Go Vm Go.RowKit Num
variable {T : Nat → Bool} {ω ω' : Tg} {w w' w0 : World} {t : Nat} {ι : Type}
def TellsG (P : Program) (Fc : Clee) (v : Value) (s0 : ι) (Q0 : ι → ι → List Value → Tg → World → Prop) (dn : ι → Prop) (C : Tg → World → Prop) (Pt Ct : Nat → Bool) : Prop :=
  match v with
  | .func (.func n) first cap => ∀ (L : Nat) (I : ι → Tg → World → Prop) (Kk : Tg → World → Prop) (Q : World → Prop) (ω : Tg) (w : World),
      (∀ i ω w, I i ω w → C ω w) → (∀ i ω ω' w w', I i ω w → Stp Pt ω ω' w w' → I i ω' w') → (∀ ω ω' w w', Kk ω w → Stp Pt ω ω' w w' → Kk ω' w') →
      (∀ i j a ω w R, Q0 i j a ω w → I i ω w → (∀ ω' w', Stp Ct ω ω' w w' → I j ω' w' → R (.bool true) w') → (∀ ω' w', Stp Ct ω ω' w w' → Kk ω' w' → R (.bool false) w') → G.yieldAt P L a w R) →
      (∀ i ω w, dn i → I i ω w → Kk ω w) → (∀ ω w, Kk ω w → Q w) → I s0 ω w → Fc n (first.toList ++ [.func (.yield L) #[] #[]] ++ cap.toList) (fun _ w' => Q w') w
  | _ => False
theorem rangeGW_ok {P : Program} {Fc : Clee} {v : Value} {s0 : ι} {Q0 : ι → ι → List Value → Tg → World → Prop} {dn : ι → Prop} {C : Tg → World → Prop} {B : List Value → World → ((World → Prop) → World → Prop) → (Exit → World → Prop) → Prop} {K : Exit → Nat → World → Prop} {u : Nat} {Pt : Nat → Bool}
    {J : ι → Tg → World → Prop} {E : Exit → Tg → World → Prop} (hv : TellsG P Fc v s0 Q0 dn C Pt (fun x => T x || Nat.beq x u)) (hT : T u = false) (hP : Pt u = false) (hQ : ∀ i j a ω ω' w w', Q0 i j a ω w → Stp (One u) ω ω' w w' → Q0 i j a ω' w') (hC : ∀ i ω w, J i ω w → C ω w)
    (hJ : ∀ S, S = One u ∨ S = Pt → ∀ i ω ω' w w', J i ω w → Stp S ω ω' w w' → J i ω' w') (hE : ∀ S, S = One u ∨ S = Pt → ∀ e ω ω' w w', E e ω w → Stp S ω ω' w w' → E e ω' w')
    (hB : ∀ i k a ω w bz Rr, Q0 i k a ω w → J i ω w → (∀ X ω1 w1, Stp Non ω ω1 w w1 → (∀ w2, Stp (One u) ω1 ω1 w1 w2 → (∀ ω' w', Stp T ω1 ω' w2 w' → J k ω' w' → Rr .normal w') → (∀ e j ω' w', jump e = some (some j) → Stp T ω1 ω' w2 w' → E e ω' w' → Rr e w') → X w2) → bz X w1) → B a w bz Rr)
    (h0 : J s0 ω w)
    (hK : ∀ ω' w' D, w'.heap[D]? = some (.deferred (some [])) → ω' D = u → (∃ i, dn i ∧ J i ω' w') → K .normal D w')
    (hX : ∀ e ω' w' D, w'.heap[D]? = some (.deferred (some [])) → ω' D = u → E e ω' w' → K e D w') : G.rangeW Fc v P B w K := by
  have oJ := hJ _ (.inl rfl)
  have oE := hE _ (.inl rfl)
  have pJ := hJ _ (.inr rfl)
  have pE := hE _ (.inr rfl)
  unfold TellsG at hv
  split at hv
  case h_2 => exact hv.elim
  rename_i n first cap
  intro rec hcells hY
  obtain ⟨w1, ew1⟩ : ∃ w1, w1 = (w.alloc (.deferred (some []))).alloc (rec .ready none) := ⟨_, rfl⟩
  have s1 : Stp (One u) ω (ext (ext ω w.heap.size u) (w.alloc (.deferred (some []))).heap.size u) w w1 := by
    rw [ew1]
    exact (((Keep.alloc w _).stp ω u).trans ((Keep.alloc _ _).stp _ u)).non _
  have hLn : (w.alloc (.deferred (some []))).heap.size = w.heap.size + 1 := World.size_alloc ..
  have hL : w1.heap[w.heap.size + 1]? = some (rec .ready none) := by
    have := World.alloc_heap_new (w.alloc (.deferred (some []))) (rec .ready none)
    rw [hLn] at this; rw [ew1]; exact this
  have hD : w1.heap[w.heap.size]? = some (.deferred (some [])) := by
    have h1 := World.alloc_heap_new w (.deferred (some []))
    rw [ew1]
    exact (Keep.alloc _ _).heap h1
  show Fc n (first.toList ++ [.func (.yield (w.heap.size + 1)) #[] #[]] ++ cap.toList) _ ((w.alloc (.deferred (some []))).alloc (rec .ready none))
  rw [← ew1]
  have hu : ext (ext ω w.heap.size u) (w.alloc (.deferred (some []))).heap.size u (w.heap.size + 1) = u := ext_new (by omega)
  have hud : ext (ext ω w.heap.size u) (w.alloc (.deferred (some []))).heap.size u w.heap.size = u := by rw [ext_old (by omega), ext_new (Nat.le_refl _)]
  generalize ext (ext ω w.heap.size u) (w.alloc (.deferred (some []))).heap.size u = ω1 at s1 hu hud
  have j1 := oJ _ _ _ _ _ h0 s1
  have hne : w.heap.size ≠ w.heap.size + 1 := by omega
  clear ew1 s1 hLn h0
  generalize w.heap.size + 1 = L at *
  generalize w.heap.size = D at *
  refine hv L (fun i ω w => J i ω w ∧ w.heap[L]? = some (rec .ready none) ∧ ω L = u ∧ w.heap[D]? = some (.deferred (some [])) ∧ ω D = u)
    (fun ω w => w.heap[D]? = some (.deferred (some [])) ∧ ω D = u ∧ ω L = u ∧ ∃ st e j, jump e = some j ∧ st ≠ LoopState.busy ∧ w.heap[L]? = some (rec st j) ∧ ((e = .normal ∧ ∃ i, dn i ∧ J i ω w) ∨ E e ω w)) _ ω1 w1 ?_ ?_ ?_ ?_ ?_ ?_ ⟨j1, hL, hu, hD, hud⟩
  · rintro i ω w ⟨h, _⟩; exact hC i ω w h
  · rintro i ω ω' w w' ⟨h, hl, hlu, hd, hdu⟩ s
    exact ⟨pJ _ _ _ _ _ h s, (s.obj hl hlu hP).1, (s.obj hl hlu hP).2, (s.obj hd hdu hP).1, (s.obj hd hdu hP).2⟩
  · rintro ω ω' w w' ⟨hd, hdu, hlu, st, e, j, hj, hst, hl, hh⟩ s
    exact ⟨(s.obj hd hdu hP).1, (s.obj hd hdu hP).2, (s.obj hl hlu hP).2, st, e, j, hj, hst, (s.obj hl hlu hP).1, hh.imp (fun ⟨h1, i, h2, h3⟩ => ⟨h1, i, h2, pJ _ _ _ _ _ h3 s⟩) (fun h => pE _ _ _ _ _ h s)⟩
  · rintro i k a ω w R ha ⟨h, hl, hlu, hd, hdu⟩ hR hRx
    refine hY a w R hl ?_
    have up : ∀ {ω ω' : Tg} {w w' : World}, Stp (One u) ω ω' w w' → Stp (fun x => T x || Nat.beq x u) ω ω' w w' := fun s => s.mono fun x hx => by
      simp only [Bool.or_eq_false_iff] at hx; exact hx.2
    have upT : ∀ {ω ω' : Tg} {w w' : World}, Stp T ω ω' w w' → Stp (fun x => T x || Nat.beq x u) ω ω' w w' := fun s => s.mono fun x hx => by
      simp only [Bool.or_eq_false_iff] at hx; exact hx.1
    refine hB i k a ω _ _ _ ha h fun X ω1 w1 s1 hX => ?_
    obtain ⟨hl1, hlu1⟩ := s1.obj hl hlu rfl
    obtain ⟨hd1, hdu1⟩ := s1.obj hd hdu rfl
    have sp := put_stp (w := w1) (o := rec .busy none) hlu1
    have hb := World.putObj_heap_same (o := rec .busy none) (heap_lt hl1)
    have hd0 : (w1.putObj L (rec .busy none)).heap[D]? = some (.deferred (some [])) := by rw [World.putObj_heap_other hne]; exact hd1
    refine ⟨hl1, hX _ sp (fun ω' w' s j' => ?_) (fun e j ω' w' hj s j' => ?_)⟩
    · obtain ⟨hb', hu'⟩ := s.obj hb hlu1 hT
      obtain ⟨hd', hdu'⟩ := s.obj hd0 hdu1 hT
      have sp2 := put_stp (w := w') (o := rec .ready none) hu'
      refine ⟨hb', none, rfl, hR ω' _ ((s1.non _).trans ((up sp).trans ((upT s).trans (up sp2)))) ⟨oJ _ _ _ _ _ j' sp2, World.putObj_heap_same (heap_lt hb'), hu', ?_, hdu'⟩⟩
      show (w'.putObj L (rec .ready none)).heap[D]? = _
      rw [World.putObj_heap_other hne]; exact hd'
    · obtain ⟨hb', hu'⟩ := s.obj hb hlu1 hT
      obtain ⟨hd', hdu'⟩ := s.obj hd0 hdu1 hT
      have sp2 := put_stp (w := w') (o := rec .done (some j)) hu'
      refine ⟨hb', some j, hj, hRx ω' _ ((s1.non _).trans ((up sp).trans ((upT s).trans (up sp2)))) ⟨?_, hdu', hu', .done, e, some j, hj, (by intro h; cases h), World.putObj_heap_same (heap_lt hb'), .inr (oE _ _ _ _ _ j' sp2)⟩⟩
      show (w'.putObj L (rec .done (some j))).heap[D]? = _
      rw [World.putObj_heap_other hne]; exact hd'
  · rintro i ω w hdn ⟨h, hl, hlu, hd, hdu⟩
    exact ⟨hd, hdu, hlu, .ready, .normal, none, rfl, (by intro h; cases h), hl, .inl ⟨rfl, i, hdn, h⟩⟩
  · rintro ω w ⟨hd, hdu, hlu, st, e, j, hj, hst, hl, hh⟩
    have sp := put_stp (w := w) (o := rec .exhausted j) hlu
    have hd' : (w.putObj L (rec .exhausted j)).heap[D]? = some (.deferred (some [])) := by rw [World.putObj_heap_other hne]; exact hd
    refine ⟨st, e, j, hj, hst, hl, ?_⟩
    rcases hh with ⟨rfl, h⟩ | h
    · obtain ⟨i, h2, h3⟩ := h
      exact hK ω _ D hd' hdu ⟨i, h2, oJ _ _ _ _ _ h3 sp⟩
    · exact hX e ω _ D hd' hdu (oE _ _ _ _ _ h sp)
end Go.Proofs.YtmfgmcajelmgbaaGreatDoor.Mem

namespace Go.Proofs.YtmfgmcajelmgbaaGreatDoor.Bk
open Go Vm Go.RowKit Num Mem Utf Lib Lab Vint Bits
variable {ω ω' : Tg} {w w' w0 : World} {T : Nat → Bool} {t u g gm : Nat}
theorem tiS : TI Tryz.prog 52 96 2 16 := TI.of (z := .agg #[.int .i64 0, .float .f64 0]) (by kernel_rfl) (by kernel_rfl) rfl (by decide)
theorem cloneL_ok {s : Sl} {m : List Lb} (h : Rd w s 2 (labs m)) (hm : m.length ≤ 100000000) {K : Sl → World → Prop} (hK : ∀ r w', Keep w w' → Mem.Own w' w.heap.size 93 2 r (labs m) → K r w') : C.slices_Clone_Label_Label s w K := by
  have hn := rdL_n h
  unfold C.slices_Clone_Label_Label
  exact Sm.clone_ok (P := Tryz.prog) tiL h labs_one (by simp only [maxLen]; omega) (by omega) fun r w' k o _ => hK r w' k o
theorem cloneS_ok {s : Sl} {m : List Smp} (h : Rd w s 2 (Chunk.smps m)) (hm : m.length ≤ 100000000) {K : Sl → World → Prop} (hK : ∀ r w', Keep w w' → Mem.Own w' w.heap.size 96 2 r (Chunk.smps m) → K r w') : C.slices_Clone_Sample_Sample s w K := by
  have hn := smN h
  unfold C.slices_Clone_Sample_Sample
  exact Sm.clone_ok (P := Tryz.prog) tiS h Chunk.smps_one (by simp only [maxLen]; omega) (by omega) fun r w' k o _ => hK r w' k o
theorem cloneN_ok {s : Sl} {m : List Nat} (h : Rd w s 1 (ints m)) (hm : m.length ≤ 100000000) {K : Sl → World → Prop} (hK : ∀ r w', Keep w w' → Mem.Own w' w.heap.size 3 1 r (ints m) → K r w') : C.slices_Clone_int_int s w K := by
  have hn : s.n = m.length := by have := h.2.1; rw [ints_len] at this; omega
  unfold C.slices_Clone_int_int
  exact Sm.clone_ok (P := Tryz.prog) tiN h ints_one (by simp only [maxLen]; omega) (by omega) fun r w' k o _ => hK r w' k o
def f72 (x : Nat) : Nat := if x = 71 then 71 else if x = 72 then 72 else 0
theorem own_ok (ω : Tg) {p : SQ} (h : SeOk w p) (h16 : p.1.1.length ≤ 100000000) {K : Sl → Sl → World → Prop}
    (hK : ∀ r s ω' w', Stp Non ω ω' w w' → OT ω' w' 71 93 2 r (labs p.1.1) → OT ω' w' 72 96 2 s (Chunk.smps p.1.2) → K r s w') : C.block_own p.2.1 p.2.2 w K := by
  unfold C.block_own
  refine new_T (ω := fun _ => 0) 7 fun g1 ω1 w1 k1 b1 => new_T (ω := ω1) 8 fun g2 ω2 w2 k2 b2 => ?_
  have sd := drew_stp ω2 w2
  have b1d := (b1.stp k2).stp sd
  have b2d := b2.stp sd
  have topd := (((Top.init w).stp k1).stp k2).stp sd
  refine cSl_at (s := p.2.1) (by rw [b1d.cell]; rfl) <| cSl_at (s := p.2.2) (by rw [addr_add, b1d.cell]; rfl) ?_
  refine cloneL_ok (h.lb.keep topd.k) h16 fun r w3 k3 o3 => ⟨b1d.sameA (k3.stp0 ω2), ?_⟩
  have s3 := k3.stp ω2 71
  have t3 := Own.tag o3 (Nat.le_refl _) ω2 71
  have b23 := b2d.stp s3
  have top3 := topd.stp s3
  generalize ext ω2 w2.drew.heap.size 71 = ω3 at *
  have hsl := h.sl
  refine cloneS_ok (h.sm.keep top3.k) (by omega) fun s w4 k4 o4 => ?_
  have s4 := k4.stp ω3 72
  have t4 := Own.tag o4 (Nat.le_refl _) ω3 72
  have b24 := b23.stp s4
  have top4 := top3.stp s4
  have t34 := t3.stp s4
  generalize ext ω3 w3.heap.size 72 = ω4 at *
  refine st_T b24 (by simp) fun ω5 w5 k5 b5 => st_TA b5 (by simp) fun ω6 w6 k6 b6 => ?_
  refine cSl_at (s := r) (by rw [b6.cell]; rfl) <| cSl_at (s := s) (by rw [addr_add, b6.cell]; rfl) ?_
  have top6 := (top4.stp k5).stp k6
  exact hK r s (rtg ω ω6 w.heap.size f72) w6 (rtg_stp top6.k ω ω6 f72) (((t34.stp k5).stp k6).rtg top6 f72) (((t4.stp k5).stp k6).rtg top6 f72)
structure AR (w : World) (g : Nat) (rs : Sl) (q : QS) : Prop where
  hd : w.cell? ⟨g, 1, none⟩ = some rs.v
  rd : RdQ w rs q
  l16 : ∀ p ∈ q, p.1.1.length ≤ 100000000
  n : q.length ≤ 100000000
theorem AR.keep {rs : Sl} {q : QS} (h : AR w g rs q) (k : Keep w w') : AR w' g rs q := ⟨k.cell h.hd, h.rd.keep k, h.l16, h.n⟩
theorem BK.ar {bs rs : Sl} {b : List UInt8} {q : QS} {F : Lb → List Nat} {es : List IE} {k : Int} (h : BK ω w t g gm bs rs b q F es k) (hn : q.length ≤ 100000000) : AR w g rs q :=
  ⟨by rw [h.hd.cell]; rfl, h.rd, fun p hp => by have := (rt_short (h.el p hp).rt).1; omega, hn⟩
def QQ (q : QS) (i j : Nat) (a : List Value) (ω : Tg) (w : World) : Prop := j = i + 1 ∧ ∃ p r s, q[i]? = some p ∧ a = [.agg #[Sl.v r, Sl.v s]] ∧ OT ω w 71 93 2 r (labs p.1.1) ∧ OT ω w 72 96 2 s (Chunk.smps p.1.2)
theorem all_tellsB {Fc : Clee} {n ga : Nat} {rs : Sl} {q : QS} {Ct : Nat → Bool} (hF : ∀ args K w, C.block_Block_All_1.cl args K w → Fc n args K w) :
    TellsG Tryz.prog Fc (.func (.func n) #[] #[.pointer (some ⟨ga, 0, none⟩)]) 0 (QQ q) (fun i => i = q.length) (fun _ w => w.cell? ⟨ga, 0, none⟩ = some (.pointer (some ⟨g, 0, none⟩)) ∧ AR w g rs q) Non Ct := by
  intro L I Kk Q ω w hC hI hKI hy hK hQ h0
  refine hF _ _ _ ?_
  show C.block_Block_All_1 (.func (.yield L) #[] #[]) (some ⟨ga, 0, none⟩) w (C.block_Block_All_1.Kt fun _ w' => Q w')
  unfold C.block_Block_All_1
  obtain ⟨hb, hc⟩ := hC 0 ω w h0
  refine ptr_at (cP_at hb (cond_f rfl (ptr_at (cP_at hb (ptr_at (cSl_at (s := rs) (by rw [addr_add]; exact hc.hd) ?_))))))
  have hrn := hc.rd.n
  refine C.block_Block_All_1.L3_ind fun X hX => ?_
  have key : ∀ (d i : Nat) (ω : Tg) (w : World), i + d = q.length → I i ω w → X (.func (.yield L) #[] #[]) rs ((rs.n : Nat) : Int) (i : Int) w := by
    intro d
    induction d with
    | zero =>
      intro i ω w hi h
      refine hX _ _ _ _ _ ?_
      unfold C.block_Block_All_1.S5
      exact cond_d (fun h => by omega) (fun _ => hQ ω w (hK i ω w (by omega) h))
    | succ d ih =>
      intro i ω w hi h
      refine hX _ _ _ _ _ ?_
      unfold C.block_Block_All_1.S5
      have hiq : i < q.length := by omega
      have hqi : q[i]? = some q[i] := List.getElem?_eq_getElem hiq
      have hc := (hC i ω w h).2
      refine cond_d (fun _ => ?_) (fun h => by omega)
      refine rdQ_at hc.rd.rd (k := i) rfl hqi fun a a0 a1 => cSl_at a0 <| cSl_at a1 ?_
      refine locS fun g4 w4 k4 hg4 b4 => ?_
      refine cSl_at (s := q[i].2.1) (by rw [b4.cell]; rfl) <| cSl_at (s := q[i].2.2) (by rw [addr_add, b4.cell]; rfl) ?_
      have s4 := k4.1.stp0 ω
      refine own_ok ω ((hc.rd.el _ (List.getElem_mem hiq)).keep k4.1) (hc.l16 _ (List.getElem_mem hiq)) fun r s ω5 w5 k5 o5 p5 => ?_
      have h5 := hI _ _ _ _ _ (hI _ _ _ _ _ h s4) k5
      refine hy i (i + 1) _ ω5 w5 _ ⟨rfl, q[i], r, s, hqi, rfl, o5, p5⟩ h5 (fun ω' w' st h' => ?_) (fun ω' w' st h' => ?_)
      · refine isB_at (cond_f rfl ?_)
        have hn := (hC i ω w h).2.n
        rw [wI64 (by omega) (by omega), show (i : Int) + 1 = ((i + 1 : Nat) : Int) by omega]
        exact ih (i + 1) ω' w' (by omega) h'
      · exact isB_at (cond_t rfl (hQ _ _ h'))
  exact key q.length 0 ω w (by omega) h0
theorem len_ok {rs : Sl} {q : QS} (h : AR w g rs q) {K : Int → World → Prop} (hK : K (q.length : Int) w) : C.block_Block_Len (some ⟨g, 0, none⟩) w K := by
  unfold C.block_Block_Len
  refine cond_f rfl (ptr_at (cSl_at (s := rs) (by rw [addr_add]; exact h.hd) ?_))
  rw [h.rd.n]; exact hK
theorem samples_ok {rs : Sl} {q : QS} (h : AR w g rs q) (hcnt : cntOf (q.map (·.1)) ≤ 1000000000000) {K : Int → World → Prop} (hK : ∀ w', Keep w w' → K (cntOf (q.map (·.1)) : Int) w') : C.block_Block_Samples (some ⟨g, 0, none⟩) w K := by
  unfold C.block_Block_Samples
  refine new_T (ω := fun _ => 0) 4 fun g2 ω2 w2 k2 b2 => st_T b2 (by simp) fun ω2 w2' k2' b2 => ?_
  unfold C.block_Block_Samples.S9 C.block_Block_All
  refine new_T (ω := ω2) 6 fun g3 ω3 w3 k3 b3 => ?_
  unfold C.block_Block_Samples.R5
  have top3 := (((Top.init w).stp k2).stp k2').stp k3
  have cnt_take : ∀ i, cntOf ((q.map (·.1)).take i) ≤ cntOf (q.map (·.1)) := fun i => by
    have : q.map (·.1) = (q.map (·.1)).take i ++ (q.map (·.1)).drop i := (List.take_append_drop _ _).symm
    have e : cntOf (q.map (·.1)) = cntOf ((q.map (·.1)).take i) + cntOf ((q.map (·.1)).drop i) := by
      conv => lhs; rw [this]
      unfold cntOf
      rw [List.map_append, List.sum_append]
    omega
  refine rangeGW_ok (T := Mem.One 4) (u := 3) (J := fun i ω w2 => Top w ω w2 ∧ BT ω w2 6 g3 23 [.pointer (some ⟨g, 0, none⟩)] ∧ BT ω w2 4 g2 3 [.int .i64 (cntOf ((q.map (·.1)).take i) : Int)])
    (E := fun e ω w => False) (all_tellsB (ga := g3) (g := g) (rs := rs) (q := q) fun _ _ _ h => h) rfl rfl ?_ ?_ ?_ ?_ ?_ ⟨top3, b3, b2.stp k3⟩ ?_ ?_
  · rintro i j a ω ω' w w' ⟨e, p, r, s, hp, ea, o1, o2⟩ k
    exact ⟨e, p, r, s, hp, ea, o1.stp k rfl, o2.stp k rfl⟩
  · rintro i ω w2 ⟨top, x3, _⟩
    exact ⟨by rw [x3.cell]; rfl, h.keep top.k⟩
  · rintro S hS i ω ω' w w' ⟨top, x1, x2⟩ k
    have z : S 0 = false ∧ S 6 = false ∧ S 4 = false := by rcases hS with rfl | rfl <;> exact ⟨rfl, rfl, rfl⟩
    exact ⟨top.stp k z.1, x1.stp k z.2.1, x2.stp k z.2.2⟩
  · rintro S hS e ω ω' w w' h k
    exact h
  · rintro i j args ω w4 bz Rr ⟨rfl, p, r, s, hp, rfl, o1, o2⟩ ⟨top, x1, x2⟩ hz
    unfold C.block_Block_Samples.B_R5 Sl.v
    dsimp only
    refine locS fun g5 w5 k5 hg5 b5 => ?_
    have s5 := k5.1.stp ω 5
    refine hz _ (ext ω w4.heap.size 5) w5 s5 fun w6 s6 hR hX => ?_
    have b5t : BT (ext ω w4.heap.size 5) w5 5 g5 57 [r.v, s.v] := ⟨b5, ext_new hg5⟩
    generalize ext ω w4.heap.size 5 = ω5 at *
    have b6 := b5t.stp s6
    have x26 := (x2.stp s5).stp s6
    unfold C.block_Block_Samples.S7
    have hil := (List.getElem?_eq_some_iff.1 hp).1
    have hLi : (q.map (·.1))[i]? = some p.1 := by rw [List.getElem?_map, hp]; rfl
    have et : (q.map (·.1)).take (i + 1) = (q.map (·.1)).take i ++ [p.1] := by rw [List.take_add_one, hLi]; rfl
    have hsn := smN o2.rd
    have h1 := cnt_take i
    have h2 := cnt_take (i + 1)
    rw [et, cnt_snoc] at h2
    refine ptr_at <| cI_at (n := (cntOf ((q.map (·.1)).take i) : Int)) (by rw [x26.cell]; rfl) <| ptr_at <| cSl_at (s := s) (by rw [addr_add, b6.cell]; rfl) <| ptr_at <| st_T x26 (by simp) fun ω7 w7 k7 b7 => ?_
    refine hR ω7 w7 k7 ⟨((top.stp s5).stp s6).stp k7, ((x1.stp s5).stp s6).stp k7, ?_⟩
    have e : IntKind.i64.wrap ((cntOf ((q.map (·.1)).take i) : Int) + ((s.n : Nat) : Int)) = (cntOf ((q.map (·.1)).take (i + 1)) : Int) := by
      rw [wI64 (by omega) (by omega), et, cnt_snoc]; omega
    rw [e] at b7
    exact b7
  · rintro ω' w' D hD hDu ⟨i, rfl, top, x1, x2⟩
    show C.block_Block_Samples.S2 K _ (pushMark undef D) w'
    unfold C.block_Block_Samples.S2
    have sp := put_stp (ω := ω') (w := w') (o := .deferred none) hDu
    refine ptr_at (cI_at (n := (cntOf (q.map (·.1)) : Int)) (by rw [x2.cell, List.take_of_length_le (by rw [List.length_map]; exact Nat.le_refl _)]; rfl) (marks_at hD (hK _ ((top.stp sp).k))))
  · rintro e ω' w' D _ _ h
    exact h.elim
theorem asked_ok {bs rs : Sl} {b : List UInt8} {q : QS} {F : Lb → List Nat} {es : List IE} {k : Int} (h : BK ω w t g gm bs rs b q F es k) {K : Int → World → Prop}
    (hK : ∀ ω' w', Stp (Mem.One t) ω ω' w w' → BK ω' w' t g gm bs rs b q F es (IntKind.i64.wrap (k + 1)) → K (IntKind.i64.wrap (k + 1)) w') : C.atomic_Int64_Add (some (Addr.add ⟨g, 0, none⟩ 3)) (1 : Int) w K := by
  unfold C.atomic_Int64_Add C.atomic_AddInt64
  refine ptr_at <| ptr_at <| cI_at (n := k) (by rw [addr_add, h.hd.cell]; rfl) <| st_TA h.hd (by simp) fun ω1 w1 k1 b1 => hK ω1 w1 k1 ?_
  have hn := h.n
  exact ⟨b1, h.by_.stp k1 (beq_no (by omega)), h.row.stp k1 (beq_no (by omega)), h.ix.stp k1 (beq_no (by omega)) (fun j hj => beq_no (by omega)), fun p hp => (h.el p hp).stp k1 (beq_no (by omega)), hn⟩
theorem postV_ok {bs rs : Sl} {b : List UInt8} {q : QS} {es : List IE} {k : Int} (h : BK ω w t g gm bs rs b q (post (q.map (·.1))) es k) (hq : q.length ≤ 1000000) {name value : ByteArray} (hv : value.toList ≠ (⟨#[]⟩ : ByteArray).toList) (hs : sml (name, value)) {K : Sl → World → Prop}
    (hK : ∀ r ω' w', Stp (Mem.One t) ω ω' w w' → BK ω' w' t g gm bs rs b q (post (q.map (·.1))) es (IntKind.i64.wrap (k + 1)) → Rd w' r 1 (ints (post (q.map (·.1)) (name, value))) → K r w') : C.block_Block_Postings (some ⟨g, 0, none⟩) name value w K := by
  unfold C.block_Block_Postings
  refine cond_f rfl <| ptr_at <| asked_ok h fun ω1 w1 k1 b1 => ?_
  refine cond_t (by simpa using hv) <| ptr_at <| cM_at (b := some gm) (by rw [addr_add, b1.hd.cell]; rfl) ?_
  have hpl := post_len (q.map (·.1)) (name, value)
  rw [List.length_map] at hpl
  have fin : ∀ l, Rd w1 l 1 (ints (post (q.map (·.1)) (name, value))) → C.slices_Clone_int_int l w1 fun l52 w53 => K l52 w53 := fun l hl =>
    cloneN_ok hl (by omega) fun r w2 k2 o2 => hK r _ w2 (k1.trans ((k2.stp0 ω1).non _)) (b1.stp (k2.stp0 ω1) (off_non t)) o2.rd
  by_cases hm : (name, value) ∈ es.map (·.1)
  · obtain ⟨e, he, hex⟩ := List.mem_map.1 hm
    obtain ⟨j, hj, rfl⟩ := List.mem_iff_getElem.1 he
    have hje : es[j]? = some es[j] := List.getElem?_eq_getElem hj
    have hjm : (es.map encI)[j]? = some ((name, value), es[j].2.1.v) := by rw [List.getElem?_map, hje]; show some (encI es[j]) = _; unfold encI; rw [hex]
    obtain ⟨g1, _⟩ := getL_at b1.ix.mp.nodup hjm
    have o := b1.ix.own j _ hje
    have hl := b1.ix.eq _ he
    rw [hex] at hl
    rw [hl] at o
    exact rd1_L (a := es[j].2.1) b1.ix.mp mapX Tryz.zeroValue46 hs (by rw [g1]; rfl) (fin _ o.rd)
  · have h0 : post (q.map (·.1)) (name, value) = [] := Classical.byContradiction fun hne => hm (b1.ix.all _ hne)
    have hnk : ∀ y ∈ es.map encI, y.1 ≠ (name, value) := fun y hy e => hm (by
      have := List.mem_map_of_mem (f := (·.1)) hy
      rw [keysI, e] at this; exact this)
    obtain ⟨g1, _⟩ := getL_none hnk
    refine rd1_L (a := nilS) b1.ix.mp mapX Tryz.zeroValue46 hs (by rw [g1]; rfl) (fin _ ?_)
    rw [h0]; exact Rd.nil _ _
end Go.Proofs.YtmfgmcajelmgbaaGreatDoor.Bk

namespace Go.Proofs.YtmfgmcajelmgbaaGreatDoor.Bk
open Go Vm Go.RowKit Num Mem Utf Lib Lab Vint Bits
variable {ω ω' : Tg} {w w' w0 : World}
theorem rput_ok {s : Sl} {m : List Lb} (hs : Rd w0 s 2 (labs m)) (hr : (rt m).1 = 0) {K : Sl → Int → World → Prop} (hK : ∀ r w', Keep w0 w' → OwnB w' w0.heap.size r (Lab.put m) → K r 0 w') : C.tocsinref04_Put nilS s w0 K := by
  have hsn : s.n = m.length := by have := hs.2.1; rw [labs_len] at this; omega
  obtain ⟨h16, hsh⟩ := rt_short hr
  unfold C.tocsinref04_Put
  refine rright_ok hs (fun x hx => by have := hsh x hx; omega) fun w1 k1 => ?_
  refine cond_f (by rw [hr]; rfl) ?_
  rw [wU64_id (by omega) (by omega), hsn]
  refine rputU_ok (l := []) (by omega) (Rd.nil w1 1) (by decide) fun r w2 k2 o2 => ?_
  unfold C.tocsinref04_Put.S9
  have k02 := Keep.trans k1 k2
  have hp := putU_len64 (n := m.length) (by omega)
  refine C.tocsinref04_Put.L5_ind fun X hX => ?_
  have key : ∀ (d i : Nat) (q : Sl) (w : World), i + d = m.length → Keep w0 w → OwnB w w0.heap.size q (putU m.length ++ (m.take i).flatMap labB) → X q s ((s.n : Nat) : Int) (i : Int) w := by
    intro d
    induction d with
    | zero =>
      intro i q w hi k o
      refine hX _ _ _ _ _ ?_
      unfold C.tocsinref04_Put.S7 C.tocsinref04_Put.S2
      rw [List.take_of_length_le (by omega)] at o
      exact cond_d (fun h => by omega) (fun _ => hK q w k o)
    | succ d ih =>
      intro i q w hi k o
      have him : i < m.length := by omega
      refine hX _ _ _ _ _ ?_
      unfold C.tocsinref04_Put.S7
      refine cond_d (fun _ => ?_) (fun h => by omega)
      have hx : m[i]? = some m[i] := List.getElem?_eq_getElem him
      refine rdL_at (hs.keep k) (k := i) rfl hx fun a hc0 hc1 => cS_at hc0 <| cS_at hc1 ?_
      refine new_T (ω := fun _ => 0) 7 fun g ω2 w2 k2 b2 => ?_
      refine st_T b2 (by simp) fun ω3 w3 k3 b3 => ?_
      refine st_TA b3 (by simp) fun ω4 w4 k4 b4 => ?_
      have kT := ((Top.init w).stp ((k2.non (Mem.One 7)).trans (k3.trans k4))).k
      have kd := drew_stp ω4 w4
      have bd := b4.stp kd
      have k5 := Keep.trans kT kd.keep
      refine cS_at (b := m[i].1) (by rw [bd.cell]; rfl) <| cS_at (b := m[i].2) (by rw [addr_add, bd.cell]; rfl) ?_
      have hsx := hsh _ (List.getElem_mem him)
      have hfl := Lab.flat_len (m.take i) fun y hy => hsh y (List.mem_of_mem_take hy)
      rw [List.length_take, Nat.min_eq_left (by omega)] at hfl
      have e1 := szB m[i].1
      have p1 := putU_len64 (n := m[i].1.size) (by omega)
      refine rputText_ok (Own.keep o k5).rd (by rw [List.length_append]; omega) fun r1 w5 k6 o5 => ⟨bd.sameA (k6.stp0 ω4), ?_⟩
      refine rputText_ok o5.rd (by simp only [List.length_append]; omega) fun r2 w6 k7 o6 => ?_
      rw [wI64 (by omega) (by omega), show (i : Int) + 1 = ((i + 1 : Nat) : Int) by omega]
      have k57 := Keep.trans k (Keep.trans k5 (Keep.trans k6 k7))
      refine ih (i + 1) r2 w6 (by omega) k57 ?_
      have ef : (m.take (i + 1)).flatMap labB = (m.take i).flatMap labB ++ labB m[i] := by
        rw [List.take_add_one, hx, List.flatMap_append]; simp
      rw [ef]
      have o7 := o6.mono (Keep.trans k (Keep.trans k5 k6)).size
      simpa only [labB, txt, List.append_assoc] using o7
  refine key m.length 0 r w2 (by omega) k02 ?_
  simpa using o2.mono k1.size
theorem rframeS_ok {x : Ser} {a b : Sl} (h : SeOk w0 (x, a, b)) (hr : (rt x.1).1 = 0) (hne : x.2 ≠ []) {K : Sl → Int → World → Prop}
    (hE : serE x ≠ 0 → ∀ w', Keep w0 w' → K nilS (serE x) w') (hK : serE x = 0 → ∀ r w', Keep w0 w' → OwnB w' w0.heap.size r (pay x) → K r 0 w') : C.tocsinref10_frame a b w0 K := by
  have hlb : Rd w0 a 2 (labs x.1) := h.lb
  have hsm : Rd w0 b 2 (Chunk.smps x.2) := h.sm
  have hfl : ∀ y ∈ x.2, y.2 < 18446744073709551616 := h.fl
  have hsl : x.2.length ≤ 11000000 := h.sl
  clear h
  have hsn := smN hsm
  unfold C.tocsinref10_frame
  refine newD fun g w1 k1 hg b1 => ?_
  refine cSl_at (s := b) (by rw [addr_add, b1.cell]; rfl) ?_
  refine Chunk.rsplit_ok (hsm.keep k1.1) hfl hsl (fun he w3 k3 => ?_) (fun hz hris c ss ω3 w3 top3 o3 => ?_)
  · refine cond_t (by simpa using he) ?_
    have e : serE x = (Chunk.swr [] x.2 0).1 := by unfold serE; rw [if_neg hne, if_pos he]
    have := hE (by rw [e]; exact he) w3 (Keep.trans k1.1 k3)
    rwa [e] at this
  refine cond_f rfl ?_
  have e3 : Chunk.OLs ω3 w3 12 c ss (chs x.2) := o3
  clear o3
  have k03 := Keep.trans k1.1 top3.k
  have b3 := b1.keep top3.k
  refine cSl_at (s := a) (by rw [b3.cell]; rfl) ?_
  refine rput_ok (hlb.keep k03) hr fun r w4 k4 o4 => cond_f rfl ?_
  have hcl : (chs x.2).length = (x.2.length + 119) / 120 := chs_len x.2
  have hce := chs_each hris
  have hcn : c.n = (chs x.2).length := e3.n
  have k04 := Keep.trans k03 k4
  have hpl := put_small hr
  have hrd := e3.rdl.keep k4
  rw [wU64_id (by omega) (by omega), hcn]
  refine rputU_ok (by omega) (OwnB.rd o4) (by omega) fun p w5 k5 o5 => ?_
  have hp4 := putU_len64 (n := (chs x.2).length) (by omega)
  unfold C.tocsinref10_frame.S9
  refine C.tocsinref10_frame.L5_ind fun X hX => ?_
  have key : ∀ (d i : Nat) (p : Sl) (w : World), i + d = (chs x.2).length → Keep w4 w → OwnB w w4.heap.size p (Lab.put x.1 ++ (putU (chs x.2).length ++ ((chs x.2).take i).flatMap cpay)) → X p c ((c.n : Nat) : Int) (i : Int) w := by
    intro d
    induction d with
    | zero =>
      intro i p w hi k o
      refine hX _ _ _ _ _ ?_
      unfold C.tocsinref10_frame.S7 C.tocsinref10_frame.S2
      refine cond_d (fun h => by omega) (fun _ => ?_)
      rw [List.take_of_length_le (by omega)] at o
      have k0 := Keep.trans k04 k
      have hn := OwnB.len o
      change p.n = (pay x).length at hn
      refine cond_d (fun hbig => ?_) (fun hsm' => ?_)
      · have e : serE x = 4 := by rw [serE_of hne hz, if_pos (by omega)]
        have := hE (by rw [e]; decide) w k0
        rwa [e] at this
      · exact hK (by rw [serE_of hne hz, if_neg (by omega)]) p w k0 (o.mono k04.size)
    | succ d ih =>
      intro i p w hi k o
      refine hX _ _ _ _ _ ?_
      unfold C.tocsinref10_frame.S7
      have hic : i < (chs x.2).length := by omega
      refine cond_d (fun _ => ?_) (fun h => by omega)
      have hx : (chs x.2)[i]? = some (chs x.2)[i] := List.getElem?_eq_getElem hic
      refine (hrd.keep k).at_ hx fun q hq => ?_
      have hqn := RdB.len hq
      have hq3 := hce _ (List.getElem_mem hic)
      have hfl := cpay_len ((chs x.2).take i) fun y hy => hce y (List.mem_of_mem_take hy)
      rw [List.length_take, Nat.min_eq_left (by omega)] at hfl
      rw [wU64_id (by omega) (by omega), hqn]
      refine rputU_ok (by omega) (OwnB.rd o) (by simp only [List.length_append]; omega) fun p1 w5 k5 o5 => ?_
      have hp5 := putU_len64 (n := (chs x.2)[i].length) (by omega)
      refine appB k5 k5.size o5 (hq.keep k5) (by simp only [List.length_append]; omega) fun p2 w6 k6 o6 => ?_
      rw [wI64 (by omega) (by omega), show (i : Int) + 1 = ((i + 1 : Nat) : Int) by omega]
      refine ih (i + 1) p2 w6 (by omega) (Keep.trans k k6) ?_
      have ef : ((chs x.2).take (i + 1)).flatMap cpay = ((chs x.2).take i).flatMap cpay ++ cpay (chs x.2)[i] := by
        rw [List.take_add_one, hx, List.flatMap_append]; simp
      rw [ef]
      have o7 := o6.mono k.size
      simpa only [cpay, List.append_assoc] using o7
  refine key (chs x.2).length 0 p w5 (by omega) k5 ?_
  simpa using o5
theorem sers_set : ∀ (l : QS) (k : Nat) (p : SQ), ((sers l).set (k * 2 + 0) p.2.1.v).set (k * 2 + 1) p.2.2.v = sers (l.set k p)
  | [], k, p => by simp [sers]
  | x :: l, 0, p => rfl
  | x :: l, k + 1, p => by
    have ih := sers_set l k p
    rw [Nat.add_zero] at ih
    have e : ∀ (y : SQ) (m : QS), sers (y :: m) = y.2.1.v :: y.2.2.v :: sers m := fun _ _ => rfl
    rw [e, show (k + 1) * 2 + 0 = (k * 2 + 0) + 1 + 1 by omega, show (k + 1) * 2 + 1 = (k * 2 + 1) + 1 + 1 by omega, List.set_cons_succ, List.set_cons_succ, List.set_cons_succ, List.set_cons_succ, ih, List.set_cons_succ, e]
theorem st2_ok {t : Nat} {s : Sl} {l : QS} (h : OT ω w t 57 2 s (sers l)) {i : Int} {k : Nat} (ei : i = (k : Int)) (hk : k < l.length) (p : SQ) {Z : World → Prop}
    (hK : ∀ ω' w', Stp (Mem.One t) ω ω' w w' → OT ω' w' t 57 2 s (sers (l.set k p)) → Z w') :
    G.ix s.a s.n i 2 fun a => G.st a p.2.1.v w fun w1 => G.st (a.add 1) p.2.2.v w1 Z := by
  have hn := rdQ_n h.rd
  refine OT.at_ h ei (by omega) fun a ha _ _ _ => ?_
  have e0 : a = a.add 0 := by simp [Addr.add]
  have key : G.st (a.add 0) p.2.1.v w fun w1 => G.st (a.add 1) p.2.2.v w1 Z := by
    refine OT.st h (i := k) (j := 0) (by omega) (by decide) _ ha fun ω1 w1 k1 o1 => ?_
    refine OT.st o1 (i := k) (j := 1) (by omega) (by decide) _ ha fun ω2 w2 k2 o2 => hK ω2 w2 (k1.trans k2) ?_
    rw [sers_set] at o2
    exact o2
  rwa [← e0] at key
theorem insS_at {x : Ser} : ∀ {A B : List Ser}, (∀ a ∈ A, ¬ cmpL a.1 x.1 > 0) → (∀ b ∈ B, cmpL b.1 x.1 > 0) → insS x (A ++ B) = A ++ x :: B
  | [], [], _, _ => rfl
  | [], b :: B, _, h => by rw [List.nil_append, insS, if_pos (h b (List.mem_cons_self ..))]; rfl
  | a :: A, B, h1, h2 => by
    rw [List.cons_append, insS, if_neg (h1 a (List.mem_cons_self ..)), insS_at (fun y hy => h1 y (List.mem_cons_of_mem _ hy)) h2]; rfl
theorem ins_step {α : Type} (A : List α) (k : Nat) (hk : k < A.length) (z : α) : (A.take (k + 1) ++ z :: A.drop (k + 1)).set (k + 1) A[k] = A.take k ++ A[k] :: A.drop k := by
  have e : (A.take (k + 1)).length = k + 1 := by rw [List.length_take]; omega
  rw [List.set_append_right _ _ (by omega), e, Nat.sub_self, List.set_cons_zero, List.take_succ_eq_append_getElem hk, List.append_assoc, List.drop_eq_getElem_cons hk]
  rfl
theorem rsorted_ok {s : Sl} {q : QS} (h : RdQ w0 s q) (hl : q.length ≤ 100000000) {K : Sl → World → Prop}
    (hK : ∀ r q' w', Keep w0 w' → q'.Perm q → q'.map (·.1) = srt (q.map (·.1)) → Mem.Own w' w0.heap.size 57 2 r (sers q') → K r w') : C.tocsinref10_Sorted s w0 K := by
  have hsn := h.n
  unfold C.tocsinref10_Sorted C.tocsinref10_Sorted.S23
  refine C.tocsinref10_Sorted.L5_ind fun X hX => ?_
  have key : ∀ (d i : Nat) (out : Sl) (A : QS) (ω : Tg) (w : World), i + d = q.length → Top w0 ω w → OT ω w 2 57 2 out (sers A) → A.Perm (q.take i) → A.map (·.1) = srt ((q.map (·.1)).take i) → X out s ((s.n : Nat) : Int) (i : Int) w := by
    intro d
    induction d with
    | zero =>
      intro i out A ω w hi top o pm em
      refine hX _ _ _ _ _ ?_
      unfold C.tocsinref10_Sorted.S21 C.tocsinref10_Sorted.S2
      refine cond_d (fun h => by omega) (fun _ => ?_)
      rw [List.take_of_length_le (by omega)] at pm
      rw [List.take_of_length_le (by rw [List.length_map]; omega)] at em
      exact hK out A w top.k pm em (otNew o top)
    | succ d ih =>
      intro i out A ω w hi top o pm em
      refine hX _ _ _ _ _ ?_
      unfold C.tocsinref10_Sorted.S21 C.tocsinref10_Sorted.S18
      have hiq : i < q.length := by omega
      have hx : q[i]? = some q[i] := List.getElem?_eq_getElem hiq
      have hAl : A.length = i := by rw [pm.length_eq, List.length_take]; exact Nat.min_eq_left (by omega)
      have hel : ∀ p ∈ A, SeOk w0 p := fun p hp => h.el p (List.mem_of_mem_take (pm.mem_iff.1 hp))
      have hsx := h.el _ (List.getElem_mem hiq)
      have upA : (A.map (·.1)).Pairwise leS := by rw [em]; exact srt_up _
      refine cond_d (fun _ => ?_) (fun h => by omega)
      refine rdQ_at (h.rd.keep top.k) (k := i) rfl hx fun a e0 e1 => cSl_at e0 <| cSl_at e1 ?_
      refine locS fun g w3 k3 hg b3 => ?_
      have s3 := k3.1.stp ω 7
      have bt : BT (ext ω w.heap.size 7) w3 7 g _ _ := ⟨b3, ext_new hg⟩
      have top3 := top.stp s3
      have o3 := o.stp s3
      generalize ext ω w.heap.size 7 = ω3 at *
      refine cSl_at (s := q[i].2.1) (by rw [bt.cell]; rfl) <| cSl_at (s := q[i].2.2) (by rw [addr_add, bt.cell]; rfl) ?_
      have hon := rdQ_n o.rd
      refine push_T tiQ o3 (n := 1) rfl (by intro v hv; simp at hv; rcases hv with rfl | rfl <;> rfl) (by simp only [maxLen]; omega) (by omega) fun r ω4 w4 k4 o4 _ => ?_
      have top4 := top3.stp k4
      have b4 := bt.stp k4
      have e4 : sers A ++ [q[i].2.1.v, q[i].2.2.v] = sers (A ++ [q[i]]) := by rw [sers_app]; rfl
      have o4' : OT ω4 w4 2 57 2 r (sers (A.take i ++ q[i] :: A.drop i)) := by
        rw [List.take_of_length_le (by omega), List.drop_of_length_le (by omega), ← e4]; exact o4
      have etk : (q.map (·.1)).take (i + 1) = (q.map (·.1)).take i ++ [q[i].1] := by
        rw [List.take_succ_eq_append_getElem (by rw [List.length_map]; exact hiq), List.getElem_map]
      have esr : srt ((q.map (·.1)).take (i + 1)) = insS q[i].1 (A.map (·.1)) := by rw [etk, em]; unfold srt; rw [List.foldl_append]; rfl
      have hrn : r.n = A.length + 1 := by have := rdQ_n o4'.rd; rw [List.length_append, List.length_cons, List.length_take, List.length_drop] at this; omega
      refine C.tocsinref10_Sorted.L13_ind fun Y hY => ?_
      -- the place is found
      have done : ∀ (k : Nat) (z : SQ) (ω : Tg) (w : World), k ≤ i → Top w0 ω w → BT ω w 7 g 57 [q[i].2.1.v, q[i].2.2.v] → OT ω w 2 57 2 r (sers (A.take k ++ z :: A.drop k)) → (∀ b ∈ A.drop k, cmpL b.1.1 q[i].1.1 > 0) → (∀ b ∈ A.take k, ¬ cmpL b.1.1 q[i].1.1 > 0) →
          C.tocsinref10_Sorted.S10 K X r (some ⟨g, 0, none⟩) (k : Int) s ((s.n : Nat) : Int) (i : Int) w := by
        intro k z ω w hki top bt o h1 h2
        unfold C.tocsinref10_Sorted.S10 C.tocsinref10_Sorted.S7
        refine ptr_at <| cSl_at (s := q[i].2.1) (by rw [bt.cell]; rfl) <| cSl_at (s := q[i].2.2) (by rw [addr_add, bt.cell]; rfl) ?_
        have hkl : (A.take k).length = k := by rw [List.length_take]; omega
        refine st2_ok (k := k) o rfl (by rw [List.length_append, hkl, List.length_cons]; omega) q[i] fun ω6 w6 k6 o6 => ?_
        rw [List.set_append_right _ _ (by omega), hkl, Nat.sub_self, List.set_cons_zero] at o6
        rw [wI64 (by omega) (by omega), show (i : Int) + 1 = ((i + 1 : Nat) : Int) by omega]
        refine ih (i + 1) r _ ω6 w6 (by omega) (top.stp k6) o6 ?_ ?_
        · refine (List.perm_middle).trans ?_
          rw [List.take_append_drop, List.take_succ_eq_append_getElem hiq]
          exact (pm.cons _).trans (List.perm_append_comm (l₁ := [q[i]]))
        · rw [esr]
          have e : A.map (·.1) = (A.take k).map (·.1) ++ (A.drop k).map (·.1) := by rw [← List.map_append, List.take_append_drop]
          rw [e, insS_at (fun a ha => ?_) (fun b hb => ?_), List.map_append, List.map_cons]
          · obtain ⟨p, hp, rfl⟩ := List.mem_map.1 ha; exact h2 p hp
          · obtain ⟨p, hp, rfl⟩ := List.mem_map.1 hb; exact h1 p hp
      have loop : ∀ (k : Nat) (z : SQ) (ω : Tg) (w : World), k ≤ i → Top w0 ω w → BT ω w 7 g 57 [q[i].2.1.v, q[i].2.2.v] → OT ω w 2 57 2 r (sers (A.take k ++ z :: A.drop k)) → (∀ b ∈ A.drop k, cmpL b.1.1 q[i].1.1 > 0) →
          Y r (some ⟨g, 0, none⟩) (k : Int) s ((s.n : Nat) : Int) (i : Int) w := by
        intro k
        induction k with
        | zero =>
          intro z ω w hki top bt o h1
          refine hY _ _ _ _ _ _ _ ?_
          unfold C.tocsinref10_Sorted.S15
          have sd := drew_stp ω w
          exact cond_d (fun h => by omega) (fun _ => done 0 z ω _ (by omega) (top.stp sd) (bt.stp sd) (o.stp sd) h1 (by simp))
        | succ k ihk =>
          intro z ω w hki top bt o h1
          refine hY _ _ _ _ _ _ _ ?_
          unfold C.tocsinref10_Sorted.S15
          have sd := drew_stp ω w
          have topd := top.stp sd
          have bd := bt.stp sd
          have od := o.stp sd
          have hkA : k < A.length := by omega
          have hkl : (A.take (k + 1)).length = k + 1 := by rw [List.length_take]; omega
          have hgk : (A.take (k + 1) ++ z :: A.drop (k + 1))[k]? = some A[k] := by
            rw [List.getElem?_append_left (by omega), List.getElem?_take, if_pos (by omega), List.getElem?_eq_getElem hkA]
          have ek : IntKind.i64.wrap (((k + 1 : Nat) : Int) - 1) = (k : Int) := by rw [wI64 (by omega) (by omega)]; omega
          refine cond_d (fun _ => ?_) (fun h => by omega)
          rw [ek]
          refine rdQ_at od.rd (k := k) rfl hgk fun p f0 f1 => cSl_at f0 <| ptr_at <| cSl_at (s := q[i].2.1) (by rw [bd.cell]; rfl) ?_
          have hAk := hel _ (List.getElem_mem hkA)
          refine rcmp_ok (hAk.lb.keep topd.k) (hsx.lb.keep topd.k) hAk.l9 fun w6 k6 => ?_
          have s6 := k6.stp0 ω
          have top6 := topd.stp s6
          have b6 := bd.stp s6
          have o6 := od.stp s6
          refine cond_d (fun hgt => ?_) (fun hle => ?_)
          · refine rdQ_at o6.rd (k := k) rfl hgk fun p f0 f1 => cSl_at f0 <| cSl_at f1 ?_
            refine st2_ok (k := k + 1) o6 rfl (by rw [List.length_append, hkl, List.length_cons]; omega) A[k] fun ω7 w7 k7 o7 => ?_
            rw [ins_step A k hkA z] at o7
            refine ihk A[k] ω7 w7 (by omega) (top6.stp k7) (b6.stp k7) o7 fun b hb => ?_
            rw [List.drop_eq_getElem_cons hkA] at hb
            rcases List.mem_cons.1 hb with rfl | hb
            · exact hgt
            · exact h1 b hb
          · refine done (k + 1) z ω w6 hki top6 b6 o6 h1 fun b hb => ?_
            obtain ⟨j, hj, rfl⟩ := List.mem_iff_getElem.1 hb
            rw [hkl] at hj
            rw [List.getElem_take]
            by_cases hjk : j = k
            · subst hjk; exact hle
            · have := List.pairwise_iff_getElem.1 upA j k (by rw [List.length_map]; omega) (by rw [List.length_map]; omega) (by omega)
              rw [List.getElem_map, List.getElem_map] at this
              have hle' : leS A[k].1 q[i].1 := by unfold leS; have := cmpL_cmp.anti A[k].1.1 q[i].1.1; omega
              have := cmp_le this hle'
              have := cmpL_cmp.anti A[j].1.1 q[i].1.1
              omega
      have := loop i q[i] ω4 w4 (by omega) top4 b4 o4' (by rw [List.drop_of_length_le (by omega)]; simp)
      rw [show ((out.n : Nat) : Int) = (i : Int) by omega]
      exact this
  exact key q.length 0 nilS [] (fun _ => 0) w0 (by omega) (Top.init w0) (OT.nil _ _ _ _ _) (by simp) rfl
end Go.Proofs.YtmfgmcajelmgbaaGreatDoor.Bk

namespace Go.Proofs.YtmfgmcajelmgbaaGreatDoor.Bk
open Go Vm Go.RowKit Num Mem Utf Lib Lab Vint Bits
variable {ω ω' : Tg} {w w' w0 : World}
theorem take_sers (q : QS) (n : Nat) (h : n ≤ q.length) : ((sers q).drop (0 * 2)).take ((n - 0) * 2) = sers (q.take n) := by
  have e : sers q = sers (q.take n) ++ sers (q.drop n) := by rw [← sers_app, List.take_append_drop]
  have l : (sers (q.take n)).length = n * 2 := by rw [sers_len, List.length_take, Nat.min_eq_left h]
  rw [e, Nat.zero_mul, List.drop_zero, Nat.sub_zero, List.take_append_of_le_length (by omega), List.take_of_length_le (by omega)]
def wr1 (pre : List Ser) (x : Ser) : Int := if (rt x.1).1 ≠ 0 then (rt x.1).1 else if metB pre x.1 = true then 6 else serE x
theorem rwrong_ok {s a b : Sl} {q : QS} {x : Ser} (h : RdQ w0 s q) (hl : q.length ≤ 100000000) (hx : SeOk w0 (x, a, b)) {K : Int → World → Prop} (hK : ∀ w', Keep w0 w' → K (wr1 (q.map (·.1)) x) w') : C.tocsinref10_wrong s a b w0 K := by
  have hsn := h.n
  have hlb : Rd w0 a 2 (labs x.1) := hx.lb
  have hsm : Rd w0 b 2 (Chunk.smps x.2) := hx.sm
  have hll : ∀ y ∈ x.1, y.2.size ≤ 140737488355300 := hx.ll
  have hl9 : x.1.length ≤ 9000000000000000000 := hx.l9
  have hbn := smN hsm
  unfold C.tocsinref10_wrong
  refine newD fun g w1 k1 hg b1 => cSl_at (s := a) (by rw [b1.cell]; rfl) ?_
  unfold wr1 at hK
  refine rright_ok (hlb.keep k1.1) hll fun w2 k2 => cond_ne (fun he => ?_) (fun he => ?_)
  · rw [if_pos he] at hK; exact hK w2 (Keep.trans k1.1 k2)
  rw [if_neg (by simpa using he)] at hK
  have b2 := b1.keep k2
  have k02 := Keep.trans k1.1 k2
  unfold C.tocsinref10_wrong.S9
  refine C.tocsinref10_wrong.L5_ind fun X hX => ?_
  have key : ∀ (d i : Nat) (w : World), i + d = q.length → Keep w2 w → metB ((q.map (·.1)).take i) x.1 = false → X (some ⟨g, 0, none⟩) s ((s.n : Nat) : Int) (i : Int) w := by
    intro d
    induction d with
    | zero =>
      intro i w hi k hm
      refine hX _ _ _ _ _ ?_
      unfold C.tocsinref10_wrong.S7 C.tocsinref10_wrong.S2
      have bk := b2.keep k
      have k0 := Keep.trans k02 k
      rw [List.take_of_length_le (by rw [List.length_map]; omega)] at hm
      rw [if_neg (by rw [hm]; decide)] at hK
      refine cond_d (fun h => by omega) (fun _ => ptr_at <| cSl_at (s := b) (by rw [addr_add, bk.cell]; rfl) ?_)
      refine cond_eq (fun h0 => ?_) (fun h0 => ?_)
      · have e : serE x = 5 := by unfold serE; rw [if_pos (List.eq_nil_of_length_eq_zero (by omega))]
        have := hK w k0
        rwa [e] at this
      · refine ptr_at <| cSl_at (s := a) (by rw [bk.cell]; rfl) <| cSl_at (s := b) (by rw [addr_add, bk.cell]; rfl) ?_
        refine rframeS_ok (hx.keep k0) he (fun e => h0 (by rw [hbn, e]; rfl)) (fun hE w3 k3 => hK w3 (Keep.trans k0 k3)) (fun hE r w3 k3 o3 => ?_)
        have := hK w3 (Keep.trans k0 k3)
        rwa [hE] at this
    | succ d ih =>
      intro i w hi k hm
      refine hX _ _ _ _ _ ?_
      unfold C.tocsinref10_wrong.S7
      have hiq : i < q.length := by omega
      have hy : q[i]? = some q[i] := List.getElem?_eq_getElem hiq
      have k0 := Keep.trans k02 k
      have hs := (h.el _ (List.getElem_mem hiq)).keep k0
      refine cond_d (fun _ => ?_) (fun h => by omega)
      refine rdQ_at (h.rd.keep k0) (k := i) rfl hy fun p e0 e1 => cSl_at e0 <| cSl_at e1 ?_
      refine locS fun g3 w3 k3 hg3 b3 => ?_
      have bk := b2.keep (Keep.trans k k3.1)
      refine cSl_at (s := q[i].2.1) (by rw [b3.cell]; rfl) <| ptr_at <| cSl_at (s := a) (by rw [bk.cell]; rfl) ?_
      refine rsame_ok (hs.lb.keep k3.1) (hlb.keep (Keep.trans k0 k3.1)) hs.l9 fun w4 k4 => ?_
      have k04 := Keep.trans k0 (Keep.trans k3.1 k4)
      have et : (q.map (·.1)).take (i + 1) = (q.map (·.1)).take i ++ [q[i].1] := by
        rw [List.take_succ_eq_append_getElem (by rw [List.length_map]; exact hiq), List.getElem_map]
      refine cond_d (fun hs => ?_) (fun hs => ?_)
      · have hmt : metB (q.map (·.1)) x.1 = true := metB_iff.2 (by rw [← hs]; exact List.mem_map_of_mem (List.mem_map_of_mem (List.getElem_mem hiq)))
        have := hK w4 k04
        rwa [if_pos hmt] at this
      · rw [wI64 (by omega) (by omega), show (i : Int) + 1 = ((i + 1 : Nat) : Int) by omega]
        refine ih (i + 1) w4 (by omega) (Keep.trans k (Keep.trans k3.1 k4)) ?_
        rw [et]
        unfold metB at hm ⊢
        rw [List.any_append, hm]
        simp [hs]
  exact key q.length 0 w2 (by omega) (Keep.refl _) rfl
theorem rbuild_ok {s : Sl} {q : QS} (h : RdQ w0 s q) (hl : q.length ≤ 100000000) {K : Sl → Int → Int → World → Prop}
    (hK : ∀ r w', Keep w0 w' → OwnB w' w0.heap.size r (buildR (q.map (·.1))).1 → K r (buildR (q.map (·.1))).2.1 ((buildR (q.map (·.1))).2.2 : Int) w') : C.tocsinref10_Build s w0 K := by
  have hsn := h.n
  have hLl : (q.map (·.1)).length = q.length := List.length_map _
  have hsz : ∀ x ∈ q.map (·.1), x.2.length ≤ 11000000 := fun x hx => by
    obtain ⟨p, hp, rfl⟩ := List.mem_map.1 hx
    exact (h.el p hp).sl
  unfold C.tocsinref10_Build
  unfold buildR at hK
  refine cond_d (fun h1 => ?_) (fun h1 => ?_)
  · rw [if_pos (by omega)] at hK; exact hK nilS w0 (Keep.refl _) (OwnB.nil _ _)
  rw [if_neg (by omega)] at hK
  have hcb := cnt_le hsz
  -- behind the numbers
  have head : (wrg [] (q.map (·.1)) 0).1 = 0 → ∀ w, Keep w0 w → C.tocsinref10_Build.S20 K s (cntOf (q.map (·.1)) : Int) (loOf (q.map (·.1))) (hiOf (q.map (·.1))) w := by
    intro hz w k
    rw [if_neg (by simpa using hz)] at hK
    have fit := fit_of hz
    have fit' : Fit (srt (q.map (·.1))) := fit.perm (srt_perm _)
    have ris : Ris (q.map (·.1)) := fit_ris fit fun x hx y hy => by
      obtain ⟨p, hp, rfl⟩ := List.mem_map.1 hx
      exact (h.el p hp).fl y hy
    have ehd : hd (srt (q.map (·.1))) = hd (q.map (·.1)) := hd_perm (srt_perm _)
    have hhd := hd_len ris (by omega) hsz
    have hlo := lo_bd ris
    have hhi := hi_bd ris
    have tail : ∀ hb w1, Keep w w1 → RdB w1 hb (hd (q.map (·.1))) → C.tocsinref10_Build.S11 K s hb w1 := by
      intro hb w1 k1 hh
      unfold C.tocsinref10_Build.S11
      refine convC (l := magicB) (by rfl) (by rfl) fun m w4 k4 hm => ?_
      have k34 := Keep.trans k1 k4
      refine rputFrame_ok hm (hh.keep k4) (by decide) (fun hbig => by omega) (fun _ r w5 k5 o5 => ?_)
      unfold C.tocsinref10_Build.S9
      have hf := frameOf_len (m := hd (q.map (·.1))) (by omega)
      have k05 := Keep.trans k (Keep.trans k34 k5)
      refine rsorted_ok (h.keep k05) hl fun a q' w6 k6 pm em o6 => ?_
      have k06 := Keep.trans k05 k6
      have hq' : q'.length = q.length := pm.length_eq
      have hel : ∀ p ∈ q', SeOk w0 p := fun p hp => h.el p (pm.mem_iff.1 hp)
      rw [← em] at fit' hK ehd
      have hSl : (q'.map (·.1)).length = q'.length := List.length_map _
      have hS' : ∀ i (hi : i < q'.length), (q'.map (·.1))[i]? = some q'[i].1 := fun i hi => by rw [List.getElem?_map, List.getElem?_eq_getElem hi]; rfl
      rw [← ehd] at o5 hhd hf
      generalize q'.map (·.1) = S at *
      have han := rdQ_n o6.rd
      refine C.tocsinref10_Build.L5_ind fun X hX => ?_
      have key : ∀ (d i : Nat) (out : Sl) (w : World), i + d = q'.length → Keep w6 w → OwnB w w4.heap.size out (upto S i) → (upto S i).length ≤ 1048576 → X out a ((a.n : Nat) : Int) (i : Int) w := by
        intro d
        induction d with
        | zero =>
          intro i out w hi kk o hle
          refine hX _ _ _ _ _ ?_
          unfold C.tocsinref10_Build.S7 C.tocsinref10_Build.S2
          refine cond_d (fun h => by omega) (fun _ => ?_)
          have ei : i = S.length := by omega
          rw [ei, upto_all] at o hle
          rw [if_neg (by omega)] at hK
          exact hK out w (Keep.trans k06 kk) (o.mono (Keep.trans k k34).size)
        | succ d ih =>
          intro i out w hi kk o hle
          refine hX _ _ _ _ _ ?_
          unfold C.tocsinref10_Build.S7
          have hiq : i < q'.length := by omega
          have hx : q'[i]? = some q'[i] := List.getElem?_eq_getElem hiq
          have k0 := Keep.trans k06 kk
          have hs := (hel _ (List.getElem_mem hiq)).keep k0
          have hiS : i < S.length := by omega
          have eS : S[i] = q'[i].1 := by have := hS' i hiq; rw [List.getElem?_eq_getElem hiS] at this; exact Option.some.inj this
          refine cond_d (fun _ => ?_) (fun h => by omega)
          refine rdQ_at (o6.rd.keep kk) (k := i) rfl hx fun p e0 e1 => cSl_at e0 <| cSl_at e1 ?_
          refine locS fun g w7 k7 hg b7 => ?_
          refine cSl_at (s := q'[i].2.1) (by rw [b7.cell]; rfl) <| cSl_at (s := q'[i].2.2) (by rw [addr_add, b7.cell]; rfl) ?_
          have hs7 : SeOk w7 (q'[i].1, q'[i].2.1, q'[i].2.2) := hs.keep k7.1
          have hrt : (rt q'[i].1.1).1 = 0 := by rw [← eS]; exact fit'.rt _ (List.getElem_mem hiS)
          have hok : serE q'[i].1 = 0 := by rw [← eS]; exact fit'.ok _ (List.getElem_mem hiS)
          have hri := fit'.rising (List.getElem_mem hiS)
          rw [eS] at hri
          refine rframeS_ok hs7 hrt hri.1 (fun hbad => absurd hok hbad) (fun _ f w8 k8 o8 => ?_)
          have k78 := Keep.trans k7.1 k8
          have hfl := frameOf_len hri.2.2
          refine rputFrame_ok (OwnB.rd (Own.keep o k78)) (OwnB.rd o8) (by omega) (fun hbig => by have := hri.2.2; omega) (fun _ out2 w9 k9 o9 => ?_)
          have eu : upto S (i + 1) = upto S i ++ frameOf (pay q'[i].1) := by rw [upto_succ hiS, eS]
          rw [← eu] at o9
          have hn9 := OwnB.len o9
          have kk9 := Keep.trans kk (Keep.trans k78 k9)
          refine cond_d (fun hbig => ?_) (fun hsm => ?_)
          · have := upto_le S (i + 1)
            rw [if_pos (by omega)] at hK
            exact hK nilS w9 (Keep.trans k06 kk9) (OwnB.nil _ _)
          · rw [wI64 (by omega) (by omega), show (i : Int) + 1 = ((i + 1 : Nat) : Int) by omega]
            refine ih (i + 1) out2 w9 (by omega) kk9 (o9.mono ?_) (by omega)
            have := k5.size; have := k6.size; have := (Keep.trans kk k78).size; omega
      have e0 : upto S 0 = magicB ++ frameOf (hd S) := by unfold upto; simp [flat]
      refine key q'.length 0 r w6 (by omega) (Keep.refl _) (by rw [e0]; exact Own.keep o5 k6) ?_
      rw [e0, List.length_append]
      have : magicB.length = 8 := rfl
      omega
    unfold C.tocsinref10_Build.S20 C.tocsinref10_Build.S18
    generalize q.map (·.1) = S at *
    refine new_at ?_
    have kA := Keep.alloc w (.cells #[(.int .u64 (IntKind.u64.wrap ((s.n : Nat) : Int))), (.int .u64 (IntKind.u64.wrap (cntOf S : Int))), (.int .u64 (IntKind.u64.wrap (loOf S))), (.int .u64 (IntKind.u64.wrap (hiOf S)))] 105)
    have hrd : Rd (w.alloc (.cells #[(.int .u64 (IntKind.u64.wrap ((s.n : Nat) : Int))), (.int .u64 (IntKind.u64.wrap (cntOf S : Int))), (.int .u64 (IntKind.u64.wrap (loOf S))), (.int .u64 (IntKind.u64.wrap (hiOf S)))] 105)) ⟨some ⟨w.heap.size, 0, none⟩, 4, 4⟩ 1 ((hdN S).map fun n : Nat => Value.int .u64 (n : Int)) := by
      have := rd_new (w := w) (e := 105) (cs := #[(.int .u64 (IntKind.u64.wrap ((s.n : Nat) : Int))), (.int .u64 (IntKind.u64.wrap (cntOf S : Int))), (.int .u64 (IntKind.u64.wrap (loOf S))), (.int .u64 (IntKind.u64.wrap (hiOf S)))]) (n := 4) (sz := 1) rfl
      have e : (#[(.int .u64 (IntKind.u64.wrap ((s.n : Nat) : Int))), (.int .u64 (IntKind.u64.wrap (cntOf S : Int))), (.int .u64 (IntKind.u64.wrap (loOf S))), (.int .u64 (IntKind.u64.wrap (hiOf S)))] : Array Value).toList = (hdN S).map fun n : Nat => Value.int .u64 (n : Int) := by
        rw [wU64_id (by omega) (by omega), wU64_id (by omega) (by omega), wU64_id (by omega) (by omega), wU64_id (by omega) (by omega)]
        simp only [hdN, List.map_cons, List.map_nil]
        rw [Int.toNat_of_nonneg hlo.1, Int.toNat_of_nonneg hhi.1, show s.n = S.length by omega]
      rw [e] at this
      exact this
    have hN : ∀ n ∈ hdN S, n < 18446744073709551616 := by
      intro n hn
      simp only [hdN, List.mem_cons, List.not_mem_nil, or_false] at hn
      rcases hn with rfl | rfl | rfl | rfl <;> omega
    have hNl : (hdN S).length = 4 := rfl
    rw [hd_flat] at tail
    generalize hdN S = NS at *
    generalize hwA : w.alloc (.cells #[(.int .u64 (IntKind.u64.wrap ((s.n : Nat) : Int))), (.int .u64 (IntKind.u64.wrap (cntOf S : Int))), (.int .u64 (IntKind.u64.wrap (loOf S))), (.int .u64 (IntKind.u64.wrap (hiOf S)))] 105) = wA at *
    refine C.tocsinref10_Build.L14_ind fun X hX => ?_
    have key : ∀ (d i : Nat) (hb : Sl) (w5 : World), i + d = 4 → Keep wA w5 → RdB w5 hb ((NS.take i).flatMap putU) → ((NS.take i).flatMap putU).length ≤ 10 * i → X s hb ⟨some ⟨w.heap.size, 0, none⟩, 4, 4⟩ (((⟨some ⟨w.heap.size, 0, none⟩, 4, 4⟩ : Sl).n : Nat) : Int) (i : Int) w5 := by
      intro d
      induction d with
      | zero =>
        intro i hb w5 hi k5 o hle
        refine hX _ _ _ _ _ _ ?_
        unfold C.tocsinref10_Build.S16
        refine cond_d (fun h => by simp only at h; omega) (fun _ => tail hb w5 (Keep.trans kA k5) ?_)
        rwa [List.take_of_length_le (by omega)] at o
      | succ d ih =>
        intro i hb w5 hi k5 o hle
        refine hX _ _ _ _ _ _ ?_
        unfold C.tocsinref10_Build.S16
        have hi4 : i < NS.length := by omega
        refine cond_d (fun _ => ?_) (fun h => by simp only at h; omega)
        refine Rd.ix (hrd.keep k5) (by decide) (by omega) (by simp only; omega) fun p hc => ?_
        refine cI_at (n := (NS[i] : Int)) (by
          have := hc 0 (.int .u64 (NS[i] : Int)) (by decide) (by rw [Int.toNat_natCast, Nat.mul_one, Nat.add_zero, List.getElem?_map, List.getElem?_eq_getElem hi4]; rfl)
          rwa [show p.add 0 = p by simp [Addr.add]] at this) ?_
        have hlt := hN _ (List.getElem_mem hi4)
        refine rputU_ok hlt o (by omega) fun r w6 k6 o6 => ?_
        rw [wI64 (by omega) (by omega), show (i : Int) + 1 = ((i + 1 : Nat) : Int) by omega]
        have et : (NS.take (i + 1)).flatMap putU = (NS.take i).flatMap putU ++ putU NS[i] := by rw [List.take_succ_eq_append_getElem hi4, List.flatMap_append]; simp
        have h10 := putU_len64 hlt
        exact ih (i + 1) r w6 (by omega) (Keep.trans k5 k6) (by rw [et]; exact o6.rd) (by rw [et, List.length_append]; omega)
    exact key 4 0 nilS wA (by omega) (Keep.refl _) (RdB.nil _) (by simp)
  refine C.tocsinref10_Build.L23_ind fun X hX => ?_
  have key : ∀ (d i : Nat) (w : World), i + d = q.length → Keep w0 w → Fit ((q.map (·.1)).take i) → wrg ((q.map (·.1)).take i) ((q.map (·.1)).drop i) i = wrg [] (q.map (·.1)) 0 →
      X s (cntOf ((q.map (·.1)).take i) : Int) (loOf ((q.map (·.1)).take i)) (hiOf ((q.map (·.1)).take i)) s ((s.n : Nat) : Int) (i : Int) w := by
    intro d
    induction d with
    | zero =>
      intro i w hi k ft e
      refine hX _ _ _ _ _ _ _ _ ?_
      unfold C.tocsinref10_Build.S25
      refine cond_d (fun h => by omega) (fun _ => ?_)
      rw [List.drop_of_length_le (by omega)] at e
      rw [List.take_of_length_le (by omega)]
      exact head (by rw [← e]; rfl) w k
    | succ d ih =>
      intro i w hi k ft e
      refine hX _ _ _ _ _ _ _ _ ?_
      unfold C.tocsinref10_Build.S25
      have hiq : i < q.length := by omega
      have hiL : i < (q.map (·.1)).length := by omega
      have hx : q[i]? = some q[i] := List.getElem?_eq_getElem hiq
      have eL : (q.map (·.1))[i] = q[i].1 := by rw [List.getElem_map]
      have hs := (h.el _ (List.getElem_mem hiq)).keep k
      rw [List.drop_eq_getElem_cons hiL, eL, wrg] at e
      refine cond_d (fun _ => ?_) (fun h => by omega)
      refine rdQ_at (h.rd.keep k) (k := i) rfl hx fun p e0 e1 => cSl_at e0 <| cSl_at e1 ?_
      refine locS fun g w3 k3 hg b3 => ?_
      refine Rd.slc (h.rd.keep (Keep.trans k k3.1)) (lo := 0) (hi := i) (by omega) (by omega) rfl rfl fun r hr _ _ => ?_
      rw [take_sers q i (by omega)] at hr
      have kd := Keep.trans k (Keep.trans k3.1 (Keep.drew w3))
      have bd : Blk w3.drew g _ _ := b3.drew
      refine cSl_at (s := q[i].2.1) (by rw [bd.cell]; rfl) <| cSl_at (s := q[i].2.2) (by rw [addr_add, bd.cell]; rfl) ?_
      have hq1 : RdQ w3.drew r (q.take i) := ⟨hr.drew, fun p hp => (h.el p (List.mem_of_mem_take hp)).keep kd⟩
      have hsd : SeOk w3.drew (q[i].1, q[i].2.1, q[i].2.2) := hs.keep (Keep.trans k3.1 (Keep.drew w3))
      refine rwrong_ok hq1 (by rw [List.length_take]; omega) hsd fun w4 k4 => ?_
      have k04 := Keep.trans kd k4
      have emt : (q.take i).map (·.1) = (q.map (·.1)).take i := by rw [List.map_take]
      rw [emt]
      have et : (q.map (·.1)).take (i + 1) = (q.map (·.1)).take i ++ [q[i].1] := by rw [List.take_succ_eq_append_getElem hiL, eL]
      refine cond_ne (fun hbad => ?_) (fun hok => ?_)
      · have ew : wrg [] (q.map (·.1)) 0 = (wr1 ((q.map (·.1)).take i) q[i].1, i) := by
          rw [← e]
          unfold wr1 at hbad ⊢
          split
          · rfl
          · split
            · rfl
            · rw [if_neg (by assumption), if_neg (by assumption)] at hbad
              rw [if_pos hbad]
        rw [ew, if_pos hbad] at hK
        exact hK nilS w4 k04 (OwnB.nil _ _)
      have hw1 : (rt q[i].1.1).1 = 0 ∧ metB ((q.map (·.1)).take i) q[i].1.1 = false ∧ serE q[i].1 = 0 := by
        unfold wr1 at hok
        split at hok
        · rename_i h1; exact absurd hok h1
        · rename_i h1
          split at hok
          · exact absurd hok (by decide)
          · rename_i h2; exact ⟨by simpa using h1, by simpa using h2, hok⟩
      rw [if_neg (by simpa using hw1.1), if_neg (by rw [hw1.2.1]; decide), if_neg (by simpa using hw1.2.2)] at e
      rw [← et] at e
      have ft' : Fit ((q.map (·.1)).take (i + 1)) := by
        rw [et]
        refine fit_of (l := (q.map (·.1)).take i ++ [q[i].1]) ?_
        have := fit_wrg ((q.map (·.1)).take i) [] 0 (by simpa using ft)
        have app : ∀ (r pre : List Ser) (j : Nat) (y : Ser), Fit (pre ++ r) → wr1 (pre ++ r) y = 0 → (wrg pre (r ++ [y]) j).1 = 0 := by
          intro r
          induction r with
          | nil =>
            intro pre j y hf hy
            rw [List.append_nil] at hf hy
            rw [List.nil_append, wrg]
            unfold wr1 at hy
            split
            · rename_i h1; rw [if_pos h1] at hy; exact hy
            · rename_i h1
              rw [if_neg h1] at hy
              split
              · rename_i h2; rw [if_pos h2] at hy; exact absurd hy (by decide)
              · rename_i h2
                rw [if_neg h2] at hy
                rw [if_neg (by simpa using hy)]; rfl
          | cons z r ihr =>
            intro pre j y hf hy
            have hz : z ∈ pre ++ z :: r := List.mem_append_right _ (List.mem_cons_self ..)
            rw [List.cons_append, wrg, if_neg (by simpa using hf.rt z hz), if_neg ?_, if_neg (by simpa using hf.ok z hz)]
            · exact ihr (pre ++ [z]) (j + 1) y (by simpa using hf) (by simpa using hy)
            · intro hm
              rw [metB_iff] at hm
              have := hf.nd
              rw [List.map_append, List.nodup_append] at this
              exact this.2.2 _ hm z.1 (by simp) rfl
        exact app _ [] 0 _ (by simpa using ft) (by simpa using hok)
      have b4 := bd.keep k4
      have hs4 : SeOk w4 q[i] := hsd.keep k4
      have hbn := smN hs4.sm
      have hne : q[i].1.2 ≠ [] := by
        intro e0
        have := hw1.2.2
        unfold serE at this
        rw [if_pos e0] at this
        exact absurd this (by decide)
      have hlp : 0 < q[i].1.2.length := List.length_pos_iff.2 hne
      have hsl := hs.sl
      have hct := cnt_le (l := (q.map (·.1)).take i) fun y hy => hsz y (List.mem_of_mem_take hy)
      rw [List.length_take, Nat.min_eq_left (by omega)] at hct
      have rd1 : ∀ {Z : Sl → Prop}, Z q[i].2.2 → G.cSl ((⟨g, 0, none⟩ : Addr).add 1) w4 Z := fun hz => cSl_at (s := q[i].2.2) (by rw [addr_add, b4.cell]; rfl) hz
      have rd0 : ∀ {Z : Int → Prop}, Z (q[i].1.2.headD (0, 0)).1 → G.ix q[i].2.2.a q[i].2.2.n (0 : Int) 2 fun p => G.cI .i64 p w4 Z := fun hz =>
        Chunk.rdS_at hs4.sm (k := 0) rfl (smp_head hne) fun p2 f0 _ => cI_at f0 hz
      have rdl : ∀ {Z : Int → Prop}, Z (Chunk.lastS q[i].1.2).1 → G.ix q[i].2.2.a q[i].2.2.n (IntKind.i64.wrap (((q[i].2.2.n : Nat) : Int) - (1 : Int))) 2 fun p => G.cI .i64 p w4 Z := fun hz =>
        Chunk.rdS_at hs4.sm (k := q[i].1.2.length - 1) (by rw [wI64 (by omega) (by omega)]; omega) (smp_last hne) fun p3 g0 _ => cI_at g0 hz
      have ecn : IntKind.i64.wrap ((cntOf ((q.map (·.1)).take i) : Int) + ((q[i].2.2.n : Nat) : Int)) = (cntOf ((q.map (·.1)).take (i + 1)) : Int) := by
        rw [wI64 (by omega) (by omega), et, cnt_snoc, hbn]; omega
      have go := ih (i + 1) w4 (by omega) k04 ft' e
      rw [show ((i + 1 : Nat) : Int) = IntKind.i64.wrap ((i : Int) + 1) by rw [wI64 (by omega) (by omega)]; omega] at go
      refine rd1 ?_
      rw [ecn]
      by_cases hi0 : i = 0
      · have et0 : (q.map (·.1)).take i = [] := by rw [hi0]; rfl
        have e1 : (q[i].1.2.headD (0, 0)).1 = loOf ((q.map (·.1)).take (i + 1)) := by rw [et, et0]; rfl
        have e2 : (Chunk.lastS q[i].1.2).1 = hiOf ((q.map (·.1)).take (i + 1)) := by rw [et, et0]; rfl
        refine cond_t (by simp [hi0]) <| rd1 <| rd0 <| cond_t (by simp [hi0]) <| rd1 <| rdl ?_
        rw [e1, e2]; exact go
      · have hnil : (q.map (·.1)).take i ≠ [] := by
          intro e
          have := congrArg List.length e
          rw [List.length_take] at this
          simp only [List.length_nil] at this; omega
        have h0f : ((i : Int) == (0 : Int)) = false := by simpa using hi0
        rw [et, lo_snoc hnil, hi_snoc hnil, ← et] at go
        refine cond_f h0f <| rd1 <| rd0 <| cond_d (fun hlt => ?_) (fun hge => ?_)
        · rw [if_pos hlt] at go
          refine rd1 <| rd0 <| cond_f h0f <| rd1 <| rdl <| cond_d (fun hl2 => ?_) (fun hl2 => ?_)
          · rw [if_pos hl2] at go; exact rd1 <| rdl go
          · rw [if_neg hl2] at go; exact go
        · rw [if_neg hge] at go
          refine cond_f h0f <| rd1 <| rdl <| cond_d (fun hl2 => ?_) (fun hl2 => ?_)
          · rw [if_pos hl2] at go; exact rd1 <| rdl go
          · rw [if_neg hl2] at go; exact go
  exact key q.length 0 w0 (by omega) (Keep.refl _) fit_nil rfl
theorem rsameQ_ok {a b : Sl} {p q : QS} (ha : RdQ w0 a p) (hb : RdQ w0 b q) (hl : p.length ≤ 100000000) {K : Bool → World → Prop} (hK : ∀ w', Keep w0 w' → K (decide (p.map (·.1) = q.map (·.1))) w') : C.tocsinref10_Same a b w0 K := by
  have han := ha.n
  have hbn := hb.n
  have no : p.map (·.1) ≠ q.map (·.1) → ∀ w', Keep w0 w' → K false w' := fun h w' k => by have := hK w' k; rwa [decide_eq_false h] at this
  unfold C.tocsinref10_Same
  refine cond_ne (fun hne => no (fun e => hne ?_) w0 (Keep.refl _)) (fun heq => ?_)
  · have := congrArg List.length e; rw [List.length_map, List.length_map] at this; omega
  unfold C.tocsinref10_Same.S9
  have hpq : p.length = q.length := by omega
  refine C.tocsinref10_Same.L5_ind fun X hX => ?_
  have key : ∀ (d i : Nat) (w : World), i + d = p.length → Keep w0 w → (∀ j (h1 : j < p.length) (h2 : j < q.length), j < i → p[j].1 = q[j].1) → X a b ((a.n : Nat) : Int) (i : Int) w := by
    intro d
    induction d with
    | zero =>
      intro i w hi k hj
      refine hX _ _ _ _ _ ?_
      unfold C.tocsinref10_Same.S7 C.tocsinref10_Same.S2
      refine cond_d (fun h => by omega) (fun _ => ?_)
      have e : p.map (·.1) = q.map (·.1) := by
        apply List.ext_getElem (by rw [List.length_map, List.length_map]; exact hpq)
        intro j h1 h2
        rw [List.length_map] at h1 h2
        rw [List.getElem_map, List.getElem_map]
        exact hj j h1 h2 (by omega)
      have := hK w k
      rwa [decide_eq_true e] at this
    | succ d ih =>
      intro i w hi k hj
      refine hX _ _ _ _ _ ?_
      unfold C.tocsinref10_Same.S7
      have hip : i < p.length := by omega
      have hiq : i < q.length := by omega
      have hp : p[i]? = some p[i] := List.getElem?_eq_getElem hip
      have hq : q[i]? = some q[i] := List.getElem?_eq_getElem hiq
      have kd := Keep.trans k (Keep.drew w)
      have hps := ha.el _ (List.getElem_mem hip)
      have hqs := hb.el _ (List.getElem_mem hiq)
      have diff : p[i].1 ≠ q[i].1 → p.map (·.1) ≠ q.map (·.1) := fun h e => h (by
        have : (p.map (·.1))[i]'(by rw [List.length_map]; exact hip) = (q.map (·.1))[i]'(by rw [List.length_map]; exact hiq) := by simp only [e]
        rwa [List.getElem_map, List.getElem_map] at this)
      refine cond_d (fun _ => ?_) (fun h => by omega)
      refine rdQ_at (ha.rd.keep kd) (k := i) rfl hp fun x e0 e1 => cSl_at e0 <| rdQ_at (hb.rd.keep kd) (k := i) rfl hq fun y f0 f1 => cSl_at f0 ?_
      refine rsame_ok (hps.lb.keep kd) (hqs.lb.keep kd) hps.l9 fun w4 k4 => cond_not (fun hn => ?_) (fun hy => ?_)
      · exact no (diff fun e => (of_decide_eq_false hn) (by rw [e])) w4 (Keep.trans kd k4)
      have k04 := Keep.trans kd k4
      refine rdQ_at (ha.rd.keep k04) (k := i) rfl hp fun x e0 e1 => cSl_at e1 <| rdQ_at (hb.rd.keep k04) (k := i) rfl hq fun y f0 f1 => cSl_at f1 ?_
      have hsl := hps.sl
      refine Chunk.same_ok (hps.sm.keep k04) (hqs.sm.keep k04) (by omega) (fun he w5 k5 => ?_) (fun hne w5 k5 => ?_)
      · refine cond_f rfl ?_
        rw [wI64 (by omega) (by omega), show (i : Int) + 1 = ((i + 1 : Nat) : Int) by omega]
        refine ih (i + 1) w5 (by omega) (Keep.trans k04 k5) fun j h1 h2 h3 => ?_
        by_cases hji : j = i
        · subst hji; exact Prod.ext (of_decide_eq_true hy) he
        · exact hj j h1 h2 (by omega)
      · exact cond_t rfl (no (diff fun e => hne (by rw [e])) w5 (Keep.trans k04 k5))
  exact key p.length 0 w0 (by omega) (Keep.refl _) fun j _ _ h => absurd h (Nat.not_lt_zero _)
end Go.Proofs.YtmfgmcajelmgbaaGreatDoor.Bk

namespace Go.Proofs.YtmfgmcajelmgbaaGreatDoor.Rep
open Go Vm Go.RowKit Num Mem
variable {w : World} {α : Type}
theorem flat_at {enc : α → List Value} {k : Nat} (hk : ∀ x, (enc x).length = k) : ∀ (m : List α) (i j : Nat), j < k → (m.flatMap enc)[i * k + j]? = (m[i]?).bind fun x => (enc x)[j]?
  | [], i, j, _ => by simp
  | x :: m, 0, j, hj => by
    simp only [List.flatMap_cons, Nat.zero_mul, Nat.zero_add]
    rw [List.getElem?_append_left (by rw [hk]; exact hj)]; simp
  | x :: m, i + 1, j, hj => by
    simp only [List.flatMap_cons]
    rw [List.getElem?_append_right (by rw [hk, Nat.add_mul]; omega), hk, show (i + 1) * k + j - k = i * k + j by rw [Nat.add_mul]; omega, flat_at hk m i j hj]
    simp
theorem flat_len {enc : α → List Value} {k : Nat} (hk : ∀ x, (enc x).length = k) : ∀ m : List α, (m.flatMap enc).length = m.length * k
  | [] => by simp
  | x :: m => by simp only [List.flatMap_cons, List.length_append, List.length_cons, hk, flat_len hk m, Nat.add_mul]; omega
theorem rows_of [Inhabited α] {s : Sl} {b : Nat} {es : List Sh} {enc : α → List Value} {Q : α → Prop} (hk : ∀ x, (enc x).length = es.length) (hpos : 0 < es.length) (h : Cl w (.sl es) s.v b)
    (inv : ∀ V : Nat → Value, (∀ j sh, es[j]? = some sh → Cl w sh (V j) b) → ∃ x, (∀ j, j < es.length → (enc x)[j]? = some (V j)) ∧ Q x) :
    ∃ m : List α, Rd w s es.length (m.flatMap enc) ∧ s.n = m.length ∧ s.n < b ∧ s.n ≤ maxLen ∧ ∀ x ∈ m, Q x := by
  have hb := h.len
  obtain ⟨f, U, h1, h2, h3, h4, h5, h6, h7⟩ := h.sl_inv
  have get : ∀ i, i < s.n → ∃ x : α, (∀ j, j < es.length → (enc x)[j]? = some (U i j)) ∧ Q x := fun i hi => inv (U i) fun j sh hj => (h7 i j sh hi hj).mono (by have := sumTo_ge f s.n i hi; omega)
  obtain ⟨g, hg⟩ : ∃ g : Nat → α, ∀ i, i < s.n → (∀ j, j < es.length → (enc (g i))[j]? = some (U i j)) ∧ Q (g i) :=
    ⟨fun i => if hi : i < s.n then (get i hi).choose else default, fun i hi => by simp only [dif_pos hi]; exact (get i hi).choose_spec⟩
  refine ⟨(List.range s.n).map g, ⟨h1, by rw [flat_len hk]; simp, fun hne => ?_⟩, by simp, hb, by omega, fun x hx => ?_⟩
  · have hn : 0 < s.n := by
      rcases Nat.eq_zero_or_pos s.n with e | e
      · rw [e] at hne; exact absurd rfl hne
      · exact e
    obtain ⟨gb, o, ha, hc⟩ := h6 hn
    refine ⟨gb, o, ha, fun j v hv => ?_⟩
    have hj : j < s.n * es.length := by
      have := (List.getElem?_eq_some_iff.1 hv).1
      rwa [flat_len hk, List.length_map, List.length_range] at this
    have hi : j / es.length < s.n := Nat.div_lt_of_lt_mul (by rw [Nat.mul_comm]; exact hj)
    have hr : j % es.length < es.length := Nat.mod_lt _ hpos
    have ej : j = j / es.length * es.length + j % es.length := by rw [Nat.mul_comm]; exact (Nat.div_add_mod j es.length).symm
    rw [ej] at hv ⊢
    rw [flat_at hk _ _ _ hr] at hv
    have hm : ((List.range s.n).map g)[j / es.length]? = some (g (j / es.length)) := by simp [hi]
    rw [hm, Option.bind_some, (hg _ hi).1 _ hr] at hv
    injection hv with hv
    rw [← hv]
    obtain ⟨sh, hsh⟩ : ∃ sh, es[j % es.length]? = some sh := ⟨_, List.getElem?_eq_getElem hr⟩
    exact hc _ _ sh hi hsh
  · obtain ⟨i, hi, rfl⟩ := List.mem_map.1 hx
    exact (hg i (List.mem_range.1 hi)).2
end Go.Proofs.YtmfgmcajelmgbaaGreatDoor.Rep

namespace Go.Proofs.YtmfgmcajelmgbaaGreatDoor.Bk
open Go Vm Go.RowKit Num Mem Utf Lib Lab Vint Bits Rep
variable {ω ω' : Tg} {w w' w0 : World} {T : Nat → Bool} {t u g gm : Nat}
theorem appNil {P : Program} {tt ty e : TypeId} {sz bytes : Nat} (ti : TI P tt e sz bytes) {x : Sl} {xs : List Value} (hx : Rd w x sz xs) (h1 : ∀ v ∈ xs, v.oneCell' = true) (hm : x.n ≤ maxLen) (hy : x.n * bytes ≤ 140737488355328) {K : Sl → World → Prop}
    (hK : ∀ r w', Keep w w' → Mem.Own w' w.heap.size e sz r xs → K r w') : G.runSl P (Builtin.append_ #[tt, tt] ty #[nilS.v, x.v]) w K := by
  refine append_own ti (Keep.refl w) (Nat.le_refl _) (Mem.Own.nil w w.heap.size e sz) hx h1 (by simpa using hm) (by simpa using hy) fun r w' k o _ _ => hK r w' k (by simpa using o)
theorem copied_ok {s : Sl} {q : QS} (h : RdQ w0 s q) (hl : q.length ≤ 100000000) (h16 : ∀ p ∈ q, p.1.1.length ≤ 100000000) {K : Sl → World → Prop}
    (hK : ∀ r q' ω' w', Top w0 ω' w' → OT ω' w' 2 57 2 r (sers q') → q'.map (·.1) = q.map (·.1) → (∀ p ∈ q', OT ω' w' 11 93 2 p.2.1 (labs p.1.1) ∧ OT ω' w' 12 96 2 p.2.2 (Chunk.smps p.1.2)) → RdQ w' r q' → K r w') : C.tocsinlaw10_Copied s w0 K := by
  have hsn := h.n
  unfold C.tocsinlaw10_Copied C.tocsinlaw10_Copied.S9
  refine C.tocsinlaw10_Copied.L5_ind fun X hX => ?_
  have key : ∀ (d i : Nat) (out : Sl) (A : QS) (ω : Tg) (w : World), i + d = q.length → Top w0 ω w → OT ω w 2 57 2 out (sers A) → A.map (·.1) = (q.map (·.1)).take i →
      (∀ p ∈ A, OT ω w 11 93 2 p.2.1 (labs p.1.1) ∧ OT ω w 12 96 2 p.2.2 (Chunk.smps p.1.2)) → X out s ((s.n : Nat) : Int) (i : Int) w := by
    intro d
    induction d with
    | zero =>
      intro i out A ω w hi top o em ho
      refine hX _ _ _ _ _ ?_
      unfold C.tocsinlaw10_Copied.S7 C.tocsinlaw10_Copied.S2
      refine cond_d (fun h => by omega) (fun _ => ?_)
      rw [List.take_of_length_le (by rw [List.length_map]; omega)] at em
      refine hK out A ω w top o em ho ⟨o.rd, fun p hp => ?_⟩
      have hp1 : p.1 ∈ q.map (·.1) := by rw [← em]; exact List.mem_map_of_mem hp
      obtain ⟨y, hy, e⟩ := List.mem_map.1 hp1
      have hs := h.el y hy
      have hf := hs.fl; have hsl := hs.sl; have hll := hs.ll; have hl9 := hs.l9
      rw [e] at hf hsl hll hl9
      exact ⟨(ho p hp).1.rd, (ho p hp).2.rd, hf, hsl, hll, hl9⟩
    | succ d ih =>
      intro i out A ω w hi top o em ho
      refine hX _ _ _ _ _ ?_
      unfold C.tocsinlaw10_Copied.S7
      have hiq : i < q.length := by omega
      have hx : q[i]? = some q[i] := List.getElem?_eq_getElem hiq
      have hs := (h.el _ (List.getElem_mem hiq)).keep top.k
      have hl16 := h16 _ (List.getElem_mem hiq)
      have hAl : A.length = i := by have := congrArg List.length em; rw [List.length_map, List.length_take, List.length_map] at this; omega
      refine cond_d (fun _ => ?_) (fun h => by omega)
      refine rdQ_at (h.rd.keep top.k) (k := i) rfl hx fun a e0 e1 => cSl_at e0 <| cSl_at e1 ?_
      refine locS fun g3 w3 k3 hg3 b3 => ?_
      have s3 := k3.1.stp ω 7
      have b3 : BT (ext ω w.heap.size 7) w3 7 g3 _ _ := ⟨b3, ext_new hg3⟩
      have top3 := top.stp s3
      have o3 := o.stp s3
      have ho3 : ∀ p ∈ A, _ ∧ _ := fun p hp => And.intro ((ho p hp).1.stp s3) ((ho p hp).2.stp s3)
      generalize ext ω w.heap.size 7 = ω3 at *
      refine new_T (ω := ω3) 8 fun g4 ω4 w4 k4 b4 => ?_
      have b34 := b3.stp k4
      have top4 := top3.stp k4
      refine cSl_at (s := nilS) (by rw [b4.cell]; rfl) <| cSl_at (s := q[i].2.1) (by rw [b34.cell]; rfl) ?_
      have hlb : Rd w4 q[i].2.1 2 (labs q[i].1.1) := (h.el _ (List.getElem_mem hiq)).lb.keep top4.k
      have hln := rdL_n hlb
      refine appNil tiL hlb labs_one (by simp only [maxLen]; omega) (by omega) fun r w5 k5 o5 => ?_
      have s5 := k5.stp ω4 11
      have t5 := Own.tag o5 (Nat.le_refl _) ω4 11
      have top5 := top4.stp s5
      have b45 := b4.stp s5
      have b35 := b34.stp s5
      have o5' := (o3.stp k4).stp s5
      have ho5 : ∀ p ∈ A, _ ∧ _ := fun p hp => And.intro (((ho3 p hp).1.stp k4).stp s5) (((ho3 p hp).2.stp k4).stp s5)
      generalize ext ω4 w4.heap.size 11 = ω5 at *
      refine st_T b45 (by simp) fun ω6 w6 k6 b6 => ?_
      refine cSl_at (s := nilS) (by rw [addr_add, b6.cell]; rfl) <| cSl_at (s := q[i].2.2) (by rw [addr_add, (b35.stp k6).cell]; rfl) ?_
      have top6 := top5.stp k6
      have hsm : Rd w6 q[i].2.2 2 (Chunk.smps q[i].1.2) := (h.el _ (List.getElem_mem hiq)).sm.keep top6.k
      have hsn := smN hsm
      have hsl := hs.sl
      refine appNil tiS hsm Chunk.smps_one (by simp only [maxLen]; omega) (by omega) fun c w7 k7 o7 => ?_
      have s7 := k7.stp ω6 12
      have t7 := Own.tag o7 (Nat.le_refl _) ω6 12
      have top7 := top6.stp s7
      have b7 := b6.stp s7
      have t57 := (t5.stp k6).stp s7
      have o7' := (o5'.stp k6).stp s7
      have ho7 : ∀ p ∈ A, _ ∧ _ := fun p hp => And.intro (((ho5 p hp).1.stp k6).stp s7) (((ho5 p hp).2.stp k6).stp s7)
      generalize ext ω6 w6.heap.size 12 = ω7 at *
      refine st_TA b7 (by simp) fun ω8 w8 k8 b8 => ?_
      refine cSl_at (s := r) (by rw [b8.cell]; rfl) <| cSl_at (s := c) (by rw [addr_add, b8.cell]; rfl) ?_
      have hon := rdQ_n o.rd
      refine push_T tiQ (o7'.stp k8) (n := 1) rfl (by intro v hv; simp at hv; rcases hv with rfl | rfl <;> rfl) (by simp only [maxLen]; omega) (by omega) fun o2 ω9 w9 k9 o9 _ => ?_
      rw [wI64 (by omega) (by omega), show (i : Int) + 1 = ((i + 1 : Nat) : Int) by omega]
      have e9 : sers A ++ [Sl.v r, Sl.v c] = sers (A ++ [(q[i].1, r, c)]) := by rw [sers_app]; rfl
      refine ih (i + 1) o2 (A ++ [(q[i].1, r, c)]) ω9 w9 (by omega) ((top7.stp k8).stp k9) (by rw [← e9]; exact o9) ?_ fun p hp => ?_
      · rw [List.map_append, em, List.take_succ_eq_append_getElem (by rw [List.length_map]; exact hiq), List.getElem_map]; rfl
      · rcases List.mem_append.1 hp with hp | hp
        · exact ⟨((ho7 p hp).1.stp k8).stp k9, ((ho7 p hp).2.stp k8).stp k9⟩
        · rw [List.mem_singleton] at hp; subst hp
          exact ⟨(t57.stp k8).stp k9, (t7.stp k8).stp k9⟩
  exact key q.length 0 nilS [] (fun _ => 0) w0 (by omega) (Top.init w0) (OT.nil _ _ _ _ _) rfl (by simp)
theorem rt_one {v : UInt8} (hv : v.toNat < 128) : rt [((⟨#[97]⟩, ⟨#[v]⟩) : Lb)] = (0, 0) := by
  have h1 : namedB (Utf.bytes ⟨#[97]⟩) 64 false = true := by decide
  have h2 : valE (Utf.bytes ⟨#[v]⟩) = 0 := by
    unfold valE
    rw [if_neg (by simp [Utf.bytes]), if_neg (by simp [Utf.bytes]), if_pos (ascii_valid (by simp [Utf.bytes]; exact hv))]
  unfold rt
  rw [if_neg (by simp)]
  unfold rtGo
  rw [if_neg (by rw [h1]; decide), if_neg (by rw [h2]; simp), if_neg (by simp [backB])]
  rfl
def oneS (v : UInt8) : Ser := ([(⟨#[97]⟩, ⟨#[v]⟩)], [(5, 4607182418800017408)])
theorem oneS_ris (v : UInt8) : Chunk.Rising (oneS v).2 := Chunk.Rising.snoc (l := []) .nil (by decide) (by decide) rfl (by decide)
theorem oneS_ok {v : UInt8} (hv : v.toNat < 128) : serE (oneS v) = 0 := by
  have h1 : (oneS v).2 ≠ [] := by unfold oneS; simp
  have h2 : (Chunk.swr [] (oneS v).2 0).1 = 0 := by show (Chunk.swr [] [(5, 4607182418800017408)] 0).1 = 0; decide
  rw [serE_of h1 h2, if_neg ?_]
  have a := put_small (m := (oneS v).1) (by rw [show rt (oneS v).1 = (0, 0) from rt_one hv])
  have b := cpay_len (chs (oneS v).2) (chs_each (oneS_ris v))
  have c : (chs (oneS v).2).length = 1 := by
    have e : (oneS v).2.length = 1 := rfl
    rw [chs_len]; omega
  have d := putU_len64 (n := (chs (oneS v).2).length) (by omega)
  unfold pay
  simp only [List.length_append]
  omega
theorem oneS_ne : (oneS 50).1 ≠ (oneS 49).1 := by
  intro e
  unfold oneS at e
  simp at e
theorem fit2 : Fit [oneS 49, oneS 50] := by
  refine ⟨fun x hx => ?_, fun x hx => ?_, ?_⟩
  · simp only [List.mem_cons, List.not_mem_nil, or_false] at hx
    rcases hx with rfl | rfl <;> (unfold oneS; rw [rt_one (by decide)])
  · simp only [List.mem_cons, List.not_mem_nil, or_false] at hx
    rcases hx with rfl | rfl <;> exact oneS_ok (by decide)
  · simp only [List.map_cons, List.map_nil, List.nodup_cons, List.mem_singleton, List.not_mem_nil, not_false_eq_true, List.nodup_nil, and_true]
    exact fun e => oneS_ne e.symm
theorem blo2 : Blo [oneS 49, oneS 50] := by
  have fit := fit2
  have hfl : ∀ x ∈ [oneS 49, oneS 50], ∀ y ∈ x.2, y.2 < 18446744073709551616 := by
    intro x hx y hy
    simp only [List.mem_cons, List.not_mem_nil, or_false] at hx
    rcases hx with rfl | rfl <;> (unfold oneS at hy; simp only [List.mem_cons, List.not_mem_nil, or_false] at hy; subst hy; decide)
  have hsl : ∀ x ∈ [oneS 49, oneS 50], x.2.length ≤ 11000000 := by
    intro x hx
    simp only [List.mem_cons, List.not_mem_nil, or_false] at hx
    rcases hx with rfl | rfl <;> (unfold oneS; simp)
  refine ⟨fit, hfl, ?_, by simp, hsl, ?_⟩
  · refine List.pairwise_cons.2 ⟨fun y hy => ?_, List.pairwise_singleton ..⟩
    rw [List.mem_singleton] at hy
    subst hy
    have : cmpL (oneS 50).1 (oneS 49).1 = 1 := by decide +kernel
    unfold leS; omega
  · have hh := hd_len (fit_ris fit hfl) (by simp) hsl
    have hf := frameOf_len (m := hd [oneS 49, oneS 50]) (by omega)
    have hg := Vint.flat_len (fs := [oneS 49, oneS 50].map pay) (fun m hm => by
      obtain ⟨x, hx, rfl⟩ := List.mem_map.1 hm
      exact (fit.rising hx).2.2)
    have hm : magicB.length = 8 := rfl
    rw [List.length_map] at hg
    unfold bytesOf
    simp only [List.length_append, List.length_cons, List.length_nil] at hg ⊢
    omega
theorem build2 : buildR [oneS 50, oneS 49] = (bytesOf [oneS 49, oneS 50], 0, 0) := by
  have hw := fit_wrg [oneS 50, oneS 49] [] 0 (by rw [List.nil_append]; exact fit2.perm (List.Perm.swap _ _ _))
  have es : srt [oneS 50, oneS 49] = [oneS 49, oneS 50] := (srt_of (List.Perm.swap _ _ _) (by
    have := (fit2.perm (List.Perm.swap (oneS 49) (oneS 50) [])).nd
    exact this) blo2.up).symm
  have hz := blo2.sz
  unfold buildR
  rw [if_neg (by simp), hw, if_neg (by simp), es, if_neg (by omega)]
theorem post2 : post [oneS 49, oneS 50] (⟨#[97]⟩, ⟨#[50]⟩) = [1] := by decide +kernel
theorem awake_ok (hT : DTab w) (ht : UTab w) (hv : Vint.Tab w) {K : Bool → World → Prop} (hK : ∀ w', Keep w w' → K true w') : C.tocsinlaw10_awake w K := by
  unfold C.tocsinlaw10_awake
  refine newD fun g1 w1 k1 _ b1 => newD fun g2 w2 k2 _ b2 => newD fun g3 w3 k3 _ b3 => newD fun g4 w4 k4 _ b4 => ?_
  have k34 := Keep.trans k3.1 k4.1
  have k24 := Keep.trans k2.1 k34
  have k04 := Keep.trans k1.1 k24
  have hsm : Rd w4 ⟨some ⟨g1, 0, none⟩, 1, 1⟩ 2 (Chunk.smps [(5, 4607182418800017408)]) := by
    have := Rd.blk (o := 0) (n := 1) (c := 1) (sz := 2) (b1.keep k24) (Nat.le_refl _) (by simp)
    simpa [Chunk.smps, Chunk.smpC] using this
  have hl2 : Rd w4 ⟨some ⟨g2, 0, none⟩, 1, 1⟩ 2 (labs [(⟨#[97]⟩, ⟨#[50]⟩)]) := by
    have := Rd.blk (o := 0) (n := 1) (c := 1) (sz := 2) (b2.keep k34) (Nat.le_refl _) (by simp)
    simpa [labs, labC] using this
  have hl1 : Rd w4 ⟨some ⟨g3, 0, none⟩, 1, 1⟩ 2 (labs [(⟨#[97]⟩, ⟨#[49]⟩)]) := by
    have := Rd.blk (o := 0) (n := 1) (c := 1) (sz := 2) (b3.keep k4.1) (Nat.le_refl _) (by simp)
    simpa [labs, labC] using this
  have hq : RdQ w4 ⟨some ⟨g4, 0, none⟩, 2, 2⟩ [(oneS 50, ⟨some ⟨g2, 0, none⟩, 1, 1⟩, ⟨some ⟨g1, 0, none⟩, 1, 1⟩), (oneS 49, ⟨some ⟨g3, 0, none⟩, 1, 1⟩, ⟨some ⟨g1, 0, none⟩, 1, 1⟩)] := by
    refine ⟨?_, fun p hp => ?_⟩
    · have := Rd.blk (o := 0) (n := 2) (c := 2) (sz := 2) b4 (Nat.le_refl _) (by simp)
      simpa [sers, serC] using this
    · simp only [List.mem_cons, List.not_mem_nil, or_false] at hp
      have sz : ∀ v : UInt8, (⟨#[v]⟩ : ByteArray).size = 1 := fun v => rfl
      rcases hp with rfl | rfl
      · exact ⟨hl2, hsm, by unfold oneS; simp, by unfold oneS; simp, by unfold oneS; simp [sz], by unfold oneS; simp⟩
      · exact ⟨hl1, hsm, by unfold oneS; simp, by unfold oneS; simp, by unfold oneS; simp [sz], by unfold oneS; simp⟩
  refine build_ok (hT.keep k04) (ht.keep k04) (hv.keep k04) hq (by simp) fun b w5 k5 o5 => ?_
  have eL : ([(oneS 50, (⟨some ⟨g2, 0, none⟩, 1, 1⟩ : Sl), (⟨some ⟨g1, 0, none⟩, 1, 1⟩ : Sl)), (oneS 49, ⟨some ⟨g3, 0, none⟩, 1, 1⟩, ⟨some ⟨g1, 0, none⟩, 1, 1⟩)] : QS).map (·.1) = [oneS 50, oneS 49] := rfl
  rw [eL, build2] at o5 ⊢
  dsimp only at o5 ⊢
  have k05 := Keep.trans k04 k5
  have hz := blo2.sz
  refine open_ok (hT.keep k05) (ht.keep k05) (hv.keep k05) (OwnB.rd o5) (by omega) 1000 (Nat.le_refl _) (fun hn => ?_) (fun l hl g gm bs rs q es ω6 w6 top6 eq bk => ?_)
  · rw [open_bytes blo2] at hn; cases hn
  rw [open_bytes blo2] at hl
  injection hl with hl
  subst hl
  refine cond_f rfl <| cond_f rfl <| cond_f rfl ?_
  have hql : q.length = 2 := by have := congrArg List.length eq; rw [List.length_map] at this; exact this
  rw [← eq] at bk
  refine postV_ok bk (by omega) (by decide +kernel) ⟨by decide, by decide⟩ fun r ω7 w7 k7 bk7 hr => ?_
  rw [eq, post2] at hr
  have hrn : r.n = 1 := by have := hr.2.1; rw [ints_len] at this; simpa using this.symm
  have top7 := top6.stp k7
  refine cond_t (by simp [hrn]) ?_
  refine Rd.ix hr (by decide) (by decide) (by omega) fun a ha => cI_at (n := 1) (by have := ha 0 (.int .i64 1) (by decide) rfl; rwa [show a.add 0 = a by simp [Addr.add]] at this) ?_
  refine cond_t rfl <| len_ok (bk7.ar (by omega)) <| cond_t (by simp [hql]) ?_
  have hc : cntOf (q.map (·.1)) = 2 := by rw [eq]; rfl
  refine samples_ok (bk7.ar (by omega)) (by omega) fun w8 k8 => ?_
  rw [hc]
  exact hK w8 (Keep.trans k05 (Keep.trans top7.k k8))
theorem labs_of {s : Sl} {b : Nat} (h : Cl w (.sl [.str, .str]) s.v b) : ∃ m : List Lb, Rd w s 2 (labs m) ∧ s.n = m.length ∧ s.n < b ∧ s.n ≤ maxLen ∧ ∀ x ∈ m, x.1.size < b ∧ x.2.size < b :=
  rows_of (α := Lb) (enc := labC) (fun _ => rfl) (by decide) h fun V hV => by
    obtain ⟨s0, e0, h0⟩ := (hV 0 _ rfl).str_inv
    obtain ⟨s1, e1, h1⟩ := (hV 1 _ rfl).str_inv
    refine ⟨(s0, s1), fun j hj => ?_, h0, h1⟩
    match j, hj with
    | 0, _ => rw [e0]; rfl
    | 1, _ => rw [e1]; rfl
theorem smps_of' {s : Sl} {b : Nat} (h : Cl w (.sl [.int .i64, .fl .f64]) s.v b) : ∃ m : List Smp, Rd w s 2 (Chunk.smps m) ∧ s.n = m.length ∧ s.n < b ∧ s.n ≤ maxLen ∧ ∀ x ∈ m, x.2 < 18446744073709551616 :=
  rows_of (α := Smp) (enc := Chunk.smpC) (fun _ => rfl) (by decide) h fun V hV => by
    obtain ⟨n, e0, _⟩ := (hV 0 _ rfl).int_inv
    obtain ⟨v, e1, a3⟩ := (hV 1 _ rfl).fl_inv
    refine ⟨(n, v), fun j hj => ?_, by simpa [Lit.wf] using a3⟩
    match j, hj with
    | 0, _ => rw [e0]; rfl
    | 1, _ => rw [e1]; rfl
instance : Inhabited SQ := ⟨(([], []), nilS, nilS)⟩
abbrev serSh : Sh := .sl [.sl [.str, .str], .sl [.int .i64, .fl .f64]]
theorem sers_of {s : Sl} {b : Nat} (h : Cl w serSh s.v b) (hb : b ≤ 2000000) : ∃ q : QS, RdQ w s q ∧ q.length ≤ 2000000 ∧ ∀ p ∈ q, p.1.1.length ≤ 2000000 := by
  obtain ⟨q, h1, h2, h3, _, h5⟩ := rows_of (α := SQ) (enc := serC) (Q := fun p => SeOk w p ∧ p.1.1.length ≤ 2000000) (fun _ => rfl) (by decide) h fun V hV => by
    obtain ⟨s0, e0⟩ := (hV 0 _ rfl).sl_ex
    obtain ⟨s1, e1⟩ := (hV 1 _ rfl).sl_ex
    have c0 := hV 0 _ rfl
    have c1 := hV 1 _ rfl
    rw [e0] at c0
    rw [e1] at c1
    obtain ⟨l, a1, a2, a3, _, a5⟩ := labs_of c0
    obtain ⟨m, b1, b2, b3, _, b5⟩ := smps_of' c1
    refine ⟨((l, m), s0, s1), fun j hj => ?_, ⟨a1, b1, b5, by dsimp only; omega, fun x hx => by have := (a5 x hx).2; omega, by dsimp only; omega⟩, by dsimp only; omega⟩
    match j, hj with
    | 0, _ => rw [e0]; rfl
    | 1, _ => rw [e1]; rfl
  exact ⟨q, ⟨h1, fun p hp => (h5 p hp).1⟩, by omega, fun p hp => (h5 p hp).2⟩
theorem str_same {a b : List UInt8} : ((Utf.str a).toList == (Utf.str b).toList) = decide (a = b) := by
  rw [ByteArray.toList_eq, ByteArray.toList_eq]
  change (Utf.bytes (Utf.str _) == Utf.bytes (Utf.str _)) = _
  rw [bytes_str, bytes_str]
  by_cases h : a = b
  · rw [decide_eq_true h, h]; simp
  · rw [decide_eq_false h]; simp [h]
theorem builds_law (hT : DTab w0) (ht : UTab w0) (hv : Vint.Tab w0) {s : Sl} {q : QS} (h : RdQ w0 s q) (hl : q.length ≤ 2000000) (h16 : ∀ p ∈ q, p.1.1.length ≤ 2000000) {K : Bool → World → Prop} (hK : ∀ w', Keep w0 w' → K true w') : C.tocsinlaw10_BlockBuilds s w0 K := by
  unfold C.tocsinlaw10_BlockBuilds
  refine copied_ok h (by omega) (fun p hp => by have := h16 p hp; omega) fun r q' ω1 w1 top1 _ em _ hq' => ?_
  have hq'l : q'.length = q.length := by have := congrArg List.length em; rw [List.length_map, List.length_map] at this; exact this
  have k1 := top1.k
  refine build_ok (hT.keep k1) (ht.keep k1) (hv.keep k1) hq' (by omega) fun a w2 k2 o2 => ?_
  rw [em] at o2 ⊢
  have k02 := Keep.trans k1 k2
  refine rbuild_ok (h.keep k02) (by omega) fun b w3 k3 o3 => ?_
  have k03 := Keep.trans k02 k3
  refine Utf.convBS (OwnB.rd (Own.keep o2 k3)) <| Utf.convBS (OwnB.rd o3) ?_
  rw [str_same]
  refine cond_t (by simp) <| cond_t (by simp) <| cond_t (by simp) ?_
  refine rsameQ_ok (hq'.keep (Keep.trans k2 k3)) (h.keep k03) (by omega) fun w4 k4 => ?_
  rw [decide_eq_true em]
  have k04 := Keep.trans k03 k4
  exact cond_t rfl (awake_ok (hT.keep k04) (ht.keep k04) (hv.keep k04) fun w5 k5 => hK w5 (Keep.trans k04 k5))
theorem builds_in (hL : DTab w0 ∧ UTab w0 ∧ Vint.Tab w0) {s : Sl} {b : Nat} (hs : Cl w0 serSh s.v b) (hb : b ≤ 2000000) {K : Bool → World → Prop} (hK : ∀ w', Keep w0 w' → K true w') : C.tocsinlaw10_BlockBuilds s w0 K := by
  obtain ⟨q, h1, h2, h3⟩ := sers_of hs hb
  exact builds_law hL.1 hL.2.1 hL.2.2 h1 h2 h3 hK
end Go.Proofs.YtmfgmcajelmgbaaGreatDoor.Bk

namespace Go.Proofs.YtmfgmcajelmgbaaGreatDoor.Utf
open Go Vm Go.RowKit Num Mem
open Go.Lib (VarReads cells_of_tab firstTab firstT accLo accHi array_elem ints_of_struct Utf8Tabs)
theorem utab_of {w : World} (h3 : VarReads Tryz.prog w "unicode/utf8.first" Go.Lib.firstData) (h4 : VarReads Tryz.prog w "unicode/utf8.acceptRanges" Go.Lib.acceptData) : UTab w := by
  refine ⟨fun c hc => ?_, fun i hi => ?_⟩
  · obtain ⟨g, t, cs, fuel, p, hg, hty, hvar, hd⟩ := h3
    obtain rfl := Option.some.inj ((show Tryz.prog.globalNamed "unicode/utf8.first" = some 2 by kernel_rfl).symm.trans hg)
    obtain rfl := Option.some.inj ((show (Tryz.prog.globals[2]?).map (·.type) = some 219 by kernel_rfl).symm.trans hty)
    have hcs := cells_of_tab (e := 5) (n := 256) (by kernel_rfl) (by kernel_rfl) (by kernel_rfl) (by kernel_rfl) hd
    have := World.var?_cell hg hvar c
    rw [this, ← Array.getElem?_toList, hcs]
    simp [firstTab, hc]
  · obtain ⟨g, t, cs, fuel, p, hg, hty, hvar, hd⟩ := h4
    obtain rfl := Option.some.inj ((show Tryz.prog.globalNamed "unicode/utf8.acceptRanges" = some 3 by kernel_rfl).symm.trans hg)
    obtain rfl := Option.some.inj ((show (Tryz.prog.globals[3]?).map (·.type) = some 222 by kernel_rfl).symm.trans hty)
    obtain ⟨fuel', d, q, hdi, he⟩ := array_elem (n := 16) (e := 221) (by kernel_rfl) hd i hi
    simp only [List.getElem?_map, List.getElem?_range hi, Option.map_some, Option.some.injEq] at hdi
    subst hdi
    have hc2 : Tryz.prog.cellsOf 221 = 2 := by kernel_rfl
    rw [hc2] at he
    obtain ⟨f0, f1, hs, hf0, hf1, ho0, ho1⟩ : ∃ f0 f1 : Field, Tryz.prog.underlying 221 = some (.struct #[f0, f1]) ∧ f0.type = 5 ∧ f1.type = 5 ∧ f0.offset = 0 ∧ f1.offset = 1 :=
      ⟨{ name := "lo", type := 5, offset := 0, embedded := false, tag := "", pkgPath := "unicode/utf8", byteOffset := 0 }, { name := "hi", type := 5, offset := 1, embedded := false, tag := "", pkgPath := "unicode/utf8", byteOffset := 1 }, by kernel_rfl, rfl, rfl, rfl, rfl⟩
    have ht5 : Tryz.prog.underlying 5 = some (.int .u8) := by kernel_rfl
    have hc5 : Tryz.prog.cellsOf 5 = 1 := by kernel_rfl
    have hcs := ints_of_struct (k := .u8) hs (fun j f hj => by
      match j, hj with
      | 0, hj => simp at hj; subst hj; rw [hf0]; exact ⟨ht5, ho0, hc5⟩
      | 1, hj => simp at hj; subst hj; rw [hf1]; exact ⟨ht5, ho1, hc5⟩
      | j + 2, hj => simp at hj) (by rw [hc2]; rfl) he
    have e0 := congrArg (·[0]?) hcs
    have e1 := congrArg (·[1]?) hcs
    simp only [List.getElem?_take, List.getElem?_drop] at e0 e1
    constructor
    · rw [World.var?_cell hg hvar (2 * i), ← Array.getElem?_toList]
      simpa [Nat.mul_comm] using e0
    · rw [World.var?_cell hg hvar (2 * i + 1), ← Array.getElem?_toList]
      simpa [Nat.mul_comm] using e1
theorem first_same : (Rows.laid_unicode_utf8_first : DataW Unit) = Go.Lib.firstData := by kernel_rfl
theorem accept_same : (Rows.laid_unicode_utf8_acceptRanges : DataW Unit) = Go.Lib.acceptData := by kernel_rfl
theorem utab_laid {w : World} {l : List (String × DataW Unit)} (h : laidMet Tryz.prog l w) (h1 : ("unicode/utf8.first", Rows.laid_unicode_utf8_first) ∈ l) (h2 : ("unicode/utf8.acceptRanges", Rows.laid_unicode_utf8_acceptRanges) ∈ l) : UTab w :=
  utab_of (by rw [← first_same]; exact Go.Lib.laidMet.reads h h1) (by rw [← accept_same]; exact Go.Lib.laidMet.reads h h2)
end Go.Proofs.YtmfgmcajelmgbaaGreatDoor.Utf
namespace Go.Proofs.YtmfgmcajelmgbaaGreatDoor.Utf
open Go Vm Go.RowKit Num Mem
theorem own : ownKnob Tryz.prog.godebug = none := by kernel_rfl
noncomputable def utfWorld (w : World) : World :=
  { w with heap := (w.heap.modify 2 fun
      | .cells _ t frozen => .cells (Go.Lib.firstTab.map fun z => Value.int .u8 z).toArray t frozen
      | o => o).modify 3 fun
      | .cells _ t frozen => .cells ((List.range 16).flatMap fun i => [Value.int .u8 (Go.Lib.accLo i), Value.int .u8 (Go.Lib.accHi i)]).toArray t frozen
      | o => o }
noncomputable def laidWorld (os : Os) : World := utfWorld (World.holding Tryz.prog os ⟨#[], #[], []⟩)
end Go.Proofs.YtmfgmcajelmgbaaGreatDoor.Utf

namespace Go.Proofs.YtmfgmcajelmgbaaGreatDoor.Bk
open Go Vm Go.RowKit Num Mem Crc Bits
theorem own : ownKnob Tryz.prog.godebug = none := by kernel_rfl
def halves : List Int := [0, 274646895, 549293790, 820201905, 1098587580, 1361435347, 1640403810, 1905808397, 2197175160, 2460548119, 2722870694, 2987750089, 3280807620, 3553878443, 3811616794, 4084100981]
def tz64 : List Int := [0, 1, 56, 2, 57, 49, 28, 3, 61, 58, 42, 50, 38, 29, 17, 4, 62, 47, 59, 36, 45, 43, 51, 22, 53, 39, 33, 30, 24, 18, 12, 5, 63, 55, 48, 27, 60, 41, 37, 16, 46, 35, 44, 21, 52, 32, 23, 11, 54, 26, 40, 15, 34, 20, 31, 10, 25, 14, 19, 9, 13, 8, 7, 6]
theorem tab_reads {w : World} (h : Go.Lib.VarReads Tryz.prog w "tocsin/vint.halves" Rows.laid_tocsin_vint_halves) : Vint.Tab w := by
  obtain ⟨g, t, cs, fuel, p, hg, hty, hvar, hd⟩ := h
  obtain rfl := Option.some.inj ((show Tryz.prog.globalNamed "tocsin/vint.halves" = some 1 by kernel_rfl).symm.trans hg)
  obtain rfl := Option.some.inj ((show (Tryz.prog.globals[1]?).map (·.type) = some 214 by kernel_rfl).symm.trans hty)
  have hcs := Go.Lib.cells_of_tab (zs := halves) (k := .u32) (e := 142) (n := 16) (by kernel_rfl) (by kernel_rfl) (by kernel_rfl) (by kernel_rfl) hd
  have h : Lib.TabIs Tryz.prog w "tocsin/vint.halves" .u32 halves := by
    unfold Go.Lib.TabIs
    rw [hvar, ← hcs]
  intro i hi
  rw [h.cell (by kernel_rfl) i (by simpa [halves] using hi)]
  congr 2
  revert i
  decide +kernel
theorem dtab_reads {w : World} (h : Go.Lib.VarReads Tryz.prog w "math/bits.deBruijn64tab" Rows.laid_math_bits_deBruijn64tab) : DTab w := by
  obtain ⟨g, t, cs, fuel, p, hg, hty, hvar, hd⟩ := h
  obtain rfl := Option.some.inj ((show Tryz.prog.globalNamed "math/bits.deBruijn64tab" = some 5 by kernel_rfl).symm.trans hg)
  obtain rfl := Option.some.inj ((show (Tryz.prog.globals[5]?).map (·.type) = some 259 by kernel_rfl).symm.trans hty)
  have hcs := Go.Lib.cells_of_tab (zs := tz64) (k := .u8) (e := 5) (n := 64) (by kernel_rfl) (by kernel_rfl) (by kernel_rfl) (by kernel_rfl) hd
  have h : Lib.TabIs Tryz.prog w "math/bits.deBruijn64tab" .u8 tz64 := by
    unfold Go.Lib.TabIs
    rw [hvar, ← hcs]
  intro i hi
  rw [h.cell (by kernel_rfl) i (by simpa [tz64, Lib.deBruijn64tab] using hi)]
  congr 2
  revert i
  decide +kernel
theorem tabs_laid {w : World} (h : laidMetH Tryz.prog [("math/bits.deBruijn64tab", Rows.laid_math_bits_deBruijn64tab), ("unicode/utf8.acceptRanges", Rows.laid_unicode_utf8_acceptRanges), ("tocsin/vint.halves", Rows.laid_tocsin_vint_halves), ("unicode/utf8.first", Rows.laid_unicode_utf8_first)] w) : DTab w ∧ Utf.UTab w ∧ Vint.Tab w := by
  have h' : laidMet Tryz.prog [("math/bits.deBruijn64tab", Rows.laid_math_bits_deBruijn64tab), ("unicode/utf8.acceptRanges", Rows.laid_unicode_utf8_acceptRanges), ("tocsin/vint.halves", Rows.laid_tocsin_vint_halves), ("unicode/utf8.first", Rows.laid_unicode_utf8_first)] w := h
  exact ⟨dtab_reads (Go.Lib.laidMet.reads h' (.head _)), Utf.utab_laid h' (.tail _ (.tail _ (.tail _ (.head _)))) (.tail _ (.head _)), tab_reads (Go.Lib.laidMet.reads h' (.tail _ (.tail _ (.head _))))⟩
noncomputable def vintWorld (w : World) : World :=
  { w with heap := w.heap.modify 1 fun
      | .cells _ t frozen => .cells (halves.map fun z => Value.int .u32 z).toArray t frozen
      | o => o }
noncomputable def bitsWorld (w : World) : World :=
  { w with heap := w.heap.modify 5 fun
      | .cells _ t frozen => .cells (tz64.map fun z => Value.int .u8 z).toArray t frozen
      | o => o }
noncomputable def laidWorld (os : Os) : World := bitsWorld (vintWorld (Utf.laidWorld os))
end Go.Proofs.YtmfgmcajelmgbaaGreatDoor.Bk
