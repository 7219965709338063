/- Ranges over functions, by tags: a sequence whose way is a walk through states (so that a map's entries may come in any order); bodies that first put what they are told into new memory. Own work. -/
import Derived.Test.YtfkpehcbijgmnaaGreatDoorSeq
namespace Go.Proofs.YtfkpehcbijgmnaaGreatDoor.Mem
open Go Vm Go.RowKit Num
variable {T : Nat → Bool} {ω ω' : Tg} {w w' w0 : World} {t : Nat} {ι : Type}

/-- The sequence v goes from state s0 on; from i to j by telling a where Q0 i j a holds; it may end where dn holds; it changes blocks of the tags Pt, whoever reads it those of Ct. -/
def TellsG (P : Program) (Fc : Clee) (v : Value) (s0 : ι) (Q0 : ι → ι → List Value → Tg → World → Prop) (dn : ι → Prop) (C : Tg → World → Prop) (Pt Ct : Nat → Bool) : Prop :=
  match v with
  | .func (.func n) first cap => ∀ (L : Nat) (I : ι → Tg → World → Prop) (Kk : Tg → World → Prop) (Q : World → Prop) (ω : Tg) (w : World),
      (∀ i ω w, I i ω w → C ω w) → (∀ i ω ω' w w', I i ω w → Stp Pt ω ω' w w' → I i ω' w') → (∀ ω ω' w w', Kk ω w → Stp Pt ω ω' w w' → Kk ω' w') →
      (∀ i j a ω w R, Q0 i j a ω w → I i ω w → (∀ ω' w', Stp Ct ω ω' w w' → I j ω' w' → R (.bool true) w') → (∀ ω' w', Stp Ct ω ω' w w' → Kk ω' w' → R (.bool false) w') → G.yieldAt P L a w R) →
      (∀ i ω w, dn i → I i ω w → Kk ω w) → (∀ ω w, Kk ω w → Q w) → I s0 ω w → Fc n (first.toList ++ [.func (.yield L) #[] #[]] ++ cap.toList) (fun _ w' => Q w') w
  | _ => False

theorem rangeG_ok {P : Program} {Fc : Clee} {v : Value} {s0 : ι} {Q0 : ι → ι → List Value → Tg → World → Prop} {dn : ι → Prop} {C : Tg → World → Prop} {B : List Value → World → (Exit → World → Prop) → Prop} {K : Exit → Nat → World → Prop} {u : Nat} {Pt : Nat → Bool}
    {J : ι → Tg → World → Prop} {E : Exit → Tg → World → Prop} (hv : TellsG P Fc v s0 Q0 dn C Pt (fun x => T x || Nat.beq x u)) (hT : T u = false) (hP : Pt u = false) (hQ : ∀ i j a ω ω' w w', Q0 i j a ω w → Stp (One u) ω ω' w w' → Q0 i j a ω' w') (hC : ∀ i ω w, J i ω w → C ω w)
    (hJ : ∀ S, S = One u ∨ S = Pt → ∀ i ω ω' w w', J i ω w → Stp S ω ω' w w' → J i ω' w') (hE : ∀ S, S = One u ∨ S = Pt → ∀ e ω ω' w w', E e ω w → Stp S ω ω' w w' → E e ω' w')
    (hB : ∀ i k a ω w Rr, Q0 i k a ω w → J i ω w → (∀ ω' w', Stp T ω ω' w w' → J k ω' w' → Rr .normal w') → (∀ e j ω' w', jump e = some (some j) → Stp T ω ω' w w' → E e ω' w' → Rr e w') → B a w Rr)
    (h0 : J s0 ω w)
    (hK : ∀ ω' w' D, w'.heap[D]? = some (.deferred (some [])) → ω' D = u → (∃ i, dn i ∧ J i ω' w') → K .normal D w')
    (hX : ∀ e ω' w' D, w'.heap[D]? = some (.deferred (some [])) → ω' D = u → E e ω' w' → K e D w') : G.rangeF Fc v P B w K := by
  have oJ := hJ _ (.inl rfl)
  have oE := hE _ (.inl rfl)
  have pJ := hJ _ (.inr rfl)
  have pE := hE _ (.inr rfl)
  unfold TellsG at hv
  split at hv
  case h_2 => exact hv.elim
  rename_i n first cap
  intro rec hcells hY
  obtain ⟨w1, ew1⟩ : ∃ w1, w1 = (w.alloc (.deferred (some []))).alloc (rec .ready none) := ⟨_, rfl⟩
  have s1 : Stp (One u) ω (ext (ext ω w.heap.size u) (w.alloc (.deferred (some []))).heap.size u) w w1 := by
    rw [ew1]
    exact (((Keep.alloc w _).stp ω u).trans ((Keep.alloc _ _).stp _ u)).non _
  have hLn : (w.alloc (.deferred (some []))).heap.size = w.heap.size + 1 := World.size_alloc ..
  have hL : w1.heap[w.heap.size + 1]? = some (rec .ready none) := by
    have := World.alloc_heap_new (w.alloc (.deferred (some []))) (rec .ready none)
    rw [hLn] at this; rw [ew1]; exact this
  have hD : w1.heap[w.heap.size]? = some (.deferred (some [])) := by
    have h1 := World.alloc_heap_new w (.deferred (some []))
    rw [ew1]
    exact (Keep.alloc _ _).heap h1
  show Fc n (first.toList ++ [.func (.yield (w.heap.size + 1)) #[] #[]] ++ cap.toList) _ ((w.alloc (.deferred (some []))).alloc (rec .ready none))
  rw [← ew1]
  have hu : ext (ext ω w.heap.size u) (w.alloc (.deferred (some []))).heap.size u (w.heap.size + 1) = u := ext_new (by omega)
  have hud : ext (ext ω w.heap.size u) (w.alloc (.deferred (some []))).heap.size u w.heap.size = u := by rw [ext_old (by omega), ext_new (Nat.le_refl _)]
  generalize ext (ext ω w.heap.size u) (w.alloc (.deferred (some []))).heap.size u = ω1 at s1 hu hud
  have j1 := oJ _ _ _ _ _ h0 s1
  have hne : w.heap.size ≠ w.heap.size + 1 := by omega
  clear ew1 s1 hLn h0
  generalize w.heap.size + 1 = L at *
  generalize w.heap.size = D at *
  refine hv L (fun i ω w => J i ω w ∧ w.heap[L]? = some (rec .ready none) ∧ ω L = u ∧ w.heap[D]? = some (.deferred (some [])) ∧ ω D = u)
    (fun ω w => w.heap[D]? = some (.deferred (some [])) ∧ ω D = u ∧ ω L = u ∧ ∃ st e j, jump e = some j ∧ st ≠ LoopState.busy ∧ w.heap[L]? = some (rec st j) ∧ ((e = .normal ∧ ∃ i, dn i ∧ J i ω w) ∨ E e ω w)) _ ω1 w1 ?_ ?_ ?_ ?_ ?_ ?_ ⟨j1, hL, hu, hD, hud⟩
  · rintro i ω w ⟨h, _⟩; exact hC i ω w h
  · rintro i ω ω' w w' ⟨h, hl, hlu, hd, hdu⟩ s
    exact ⟨pJ _ _ _ _ _ h s, (s.obj hl hlu hP).1, (s.obj hl hlu hP).2, (s.obj hd hdu hP).1, (s.obj hd hdu hP).2⟩
  · rintro ω ω' w w' ⟨hd, hdu, hlu, st, e, j, hj, hst, hl, hh⟩ s
    exact ⟨(s.obj hd hdu hP).1, (s.obj hd hdu hP).2, (s.obj hl hlu hP).2, st, e, j, hj, hst, (s.obj hl hlu hP).1, hh.imp (fun ⟨h1, i, h2, h3⟩ => ⟨h1, i, h2, pJ _ _ _ _ _ h3 s⟩) (fun h => pE _ _ _ _ _ h s)⟩
  · rintro i k a ω w R ha ⟨h, hl, hlu, hd, hdu⟩ hR hRx
    refine hY a w R hl ?_
    have sp := put_stp (w := w) (o := rec .busy none) hlu
    have up : ∀ {ω ω' : Tg} {w w' : World}, Stp (One u) ω ω' w w' → Stp (fun x => T x || Nat.beq x u) ω ω' w w' := fun s => s.mono fun x hx => by
      simp only [Bool.or_eq_false_iff] at hx; exact hx.2
    have upT : ∀ {ω ω' : Tg} {w w' : World}, Stp T ω ω' w w' → Stp (fun x => T x || Nat.beq x u) ω ω' w w' := fun s => s.mono fun x hx => by
      simp only [Bool.or_eq_false_iff] at hx; exact hx.1
    refine hB i k a ω _ _ (hQ _ _ _ _ _ _ _ ha sp) (oJ _ _ _ _ _ h sp) (fun ω' w' s j' => ?_) (fun e j ω' w' hj s j' => ?_)
    · have hb := World.putObj_heap_same (o := rec .busy none) (heap_lt hl)
      obtain ⟨hb', hu'⟩ := s.obj hb hlu hT
      have hd0 : (w.putObj L (rec .busy none)).heap[D]? = some (.deferred (some [])) := by rw [World.putObj_heap_other hne]; exact hd
      obtain ⟨hd', hdu'⟩ := s.obj hd0 hdu hT
      have sp2 := put_stp (w := w') (o := rec .ready none) hu'
      refine ⟨hb', none, rfl, hR ω' _ ((up sp).trans ((upT s).trans (up sp2))) ⟨oJ _ _ _ _ _ j' sp2, World.putObj_heap_same (heap_lt hb'), hu', ?_, hdu'⟩⟩
      show (w'.putObj L (rec .ready none)).heap[D]? = _
      rw [World.putObj_heap_other hne]; exact hd'
    · have hb := World.putObj_heap_same (o := rec .busy none) (heap_lt hl)
      obtain ⟨hb', hu'⟩ := s.obj hb hlu hT
      have hd0 : (w.putObj L (rec .busy none)).heap[D]? = some (.deferred (some [])) := by rw [World.putObj_heap_other hne]; exact hd
      obtain ⟨hd', hdu'⟩ := s.obj hd0 hdu hT
      have sp2 := put_stp (w := w') (o := rec .done (some j)) hu'
      refine ⟨hb', some j, hj, hRx ω' _ ((up sp).trans ((upT s).trans (up sp2))) ⟨?_, hdu', hu', .done, e, some j, hj, (by intro h; cases h), World.putObj_heap_same (heap_lt hb'), .inr (oE _ _ _ _ _ j' sp2)⟩⟩
      show (w'.putObj L (rec .done (some j))).heap[D]? = _
      rw [World.putObj_heap_other hne]; exact hd'
  · rintro i ω w hdn ⟨h, hl, hlu, hd, hdu⟩
    exact ⟨hd, hdu, hlu, .ready, .normal, none, rfl, (by intro h; cases h), hl, .inl ⟨rfl, i, hdn, h⟩⟩
  · rintro ω w ⟨hd, hdu, hlu, st, e, j, hj, hst, hl, hh⟩
    have sp := put_stp (w := w) (o := rec .exhausted j) hlu
    have hd' : (w.putObj L (rec .exhausted j)).heap[D]? = some (.deferred (some [])) := by rw [World.putObj_heap_other hne]; exact hd
    refine ⟨st, e, j, hj, hst, hl, ?_⟩
    rcases hh with ⟨rfl, h⟩ | h
    · obtain ⟨i, h2, h3⟩ := h
      exact hK ω _ D hd' hdu ⟨i, h2, oJ _ _ _ _ _ h3 sp⟩
    · exact hX e ω _ D hd' hdu (oE _ _ _ _ _ h sp)
theorem rangeGW_ok {P : Program} {Fc : Clee} {v : Value} {s0 : ι} {Q0 : ι → ι → List Value → Tg → World → Prop} {dn : ι → Prop} {C : Tg → World → Prop} {B : List Value → World → ((World → Prop) → World → Prop) → (Exit → World → Prop) → Prop} {K : Exit → Nat → World → Prop} {u : Nat} {Pt : Nat → Bool}
    {J : ι → Tg → World → Prop} {E : Exit → Tg → World → Prop} (hv : TellsG P Fc v s0 Q0 dn C Pt (fun x => T x || Nat.beq x u)) (hT : T u = false) (hP : Pt u = false) (hQ : ∀ i j a ω ω' w w', Q0 i j a ω w → Stp (One u) ω ω' w w' → Q0 i j a ω' w') (hC : ∀ i ω w, J i ω w → C ω w)
    (hJ : ∀ S, S = One u ∨ S = Pt → ∀ i ω ω' w w', J i ω w → Stp S ω ω' w w' → J i ω' w') (hE : ∀ S, S = One u ∨ S = Pt → ∀ e ω ω' w w', E e ω w → Stp S ω ω' w w' → E e ω' w')
    (hB : ∀ i k a ω w bz Rr, Q0 i k a ω w → J i ω w → (∀ X ω1 w1, Stp Non ω ω1 w w1 → (∀ w2, Stp (One u) ω1 ω1 w1 w2 → (∀ ω' w', Stp T ω1 ω' w2 w' → J k ω' w' → Rr .normal w') → (∀ e j ω' w', jump e = some (some j) → Stp T ω1 ω' w2 w' → E e ω' w' → Rr e w') → X w2) → bz X w1) → B a w bz Rr)
    (h0 : J s0 ω w)
    (hK : ∀ ω' w' D, w'.heap[D]? = some (.deferred (some [])) → ω' D = u → (∃ i, dn i ∧ J i ω' w') → K .normal D w')
    (hX : ∀ e ω' w' D, w'.heap[D]? = some (.deferred (some [])) → ω' D = u → E e ω' w' → K e D w') : G.rangeW Fc v P B w K := by
  have oJ := hJ _ (.inl rfl)
  have oE := hE _ (.inl rfl)
  have pJ := hJ _ (.inr rfl)
  have pE := hE _ (.inr rfl)
  unfold TellsG at hv
  split at hv
  case h_2 => exact hv.elim
  rename_i n first cap
  intro rec hcells hY
  obtain ⟨w1, ew1⟩ : ∃ w1, w1 = (w.alloc (.deferred (some []))).alloc (rec .ready none) := ⟨_, rfl⟩
  have s1 : Stp (One u) ω (ext (ext ω w.heap.size u) (w.alloc (.deferred (some []))).heap.size u) w w1 := by
    rw [ew1]
    exact (((Keep.alloc w _).stp ω u).trans ((Keep.alloc _ _).stp _ u)).non _
  have hLn : (w.alloc (.deferred (some []))).heap.size = w.heap.size + 1 := World.size_alloc ..
  have hL : w1.heap[w.heap.size + 1]? = some (rec .ready none) := by
    have := World.alloc_heap_new (w.alloc (.deferred (some []))) (rec .ready none)
    rw [hLn] at this; rw [ew1]; exact this
  have hD : w1.heap[w.heap.size]? = some (.deferred (some [])) := by
    have h1 := World.alloc_heap_new w (.deferred (some []))
    rw [ew1]
    exact (Keep.alloc _ _).heap h1
  show Fc n (first.toList ++ [.func (.yield (w.heap.size + 1)) #[] #[]] ++ cap.toList) _ ((w.alloc (.deferred (some []))).alloc (rec .ready none))
  rw [← ew1]
  have hu : ext (ext ω w.heap.size u) (w.alloc (.deferred (some []))).heap.size u (w.heap.size + 1) = u := ext_new (by omega)
  have hud : ext (ext ω w.heap.size u) (w.alloc (.deferred (some []))).heap.size u w.heap.size = u := by rw [ext_old (by omega), ext_new (Nat.le_refl _)]
  generalize ext (ext ω w.heap.size u) (w.alloc (.deferred (some []))).heap.size u = ω1 at s1 hu hud
  have j1 := oJ _ _ _ _ _ h0 s1
  have hne : w.heap.size ≠ w.heap.size + 1 := by omega
  clear ew1 s1 hLn h0
  generalize w.heap.size + 1 = L at *
  generalize w.heap.size = D at *
  refine hv L (fun i ω w => J i ω w ∧ w.heap[L]? = some (rec .ready none) ∧ ω L = u ∧ w.heap[D]? = some (.deferred (some [])) ∧ ω D = u)
    (fun ω w => w.heap[D]? = some (.deferred (some [])) ∧ ω D = u ∧ ω L = u ∧ ∃ st e j, jump e = some j ∧ st ≠ LoopState.busy ∧ w.heap[L]? = some (rec st j) ∧ ((e = .normal ∧ ∃ i, dn i ∧ J i ω w) ∨ E e ω w)) _ ω1 w1 ?_ ?_ ?_ ?_ ?_ ?_ ⟨j1, hL, hu, hD, hud⟩
  · rintro i ω w ⟨h, _⟩; exact hC i ω w h
  · rintro i ω ω' w w' ⟨h, hl, hlu, hd, hdu⟩ s
    exact ⟨pJ _ _ _ _ _ h s, (s.obj hl hlu hP).1, (s.obj hl hlu hP).2, (s.obj hd hdu hP).1, (s.obj hd hdu hP).2⟩
  · rintro ω ω' w w' ⟨hd, hdu, hlu, st, e, j, hj, hst, hl, hh⟩ s
    exact ⟨(s.obj hd hdu hP).1, (s.obj hd hdu hP).2, (s.obj hl hlu hP).2, st, e, j, hj, hst, (s.obj hl hlu hP).1, hh.imp (fun ⟨h1, i, h2, h3⟩ => ⟨h1, i, h2, pJ _ _ _ _ _ h3 s⟩) (fun h => pE _ _ _ _ _ h s)⟩
  · rintro i k a ω w R ha ⟨h, hl, hlu, hd, hdu⟩ hR hRx
    refine hY a w R hl ?_
    have up : ∀ {ω ω' : Tg} {w w' : World}, Stp (One u) ω ω' w w' → Stp (fun x => T x || Nat.beq x u) ω ω' w w' := fun s => s.mono fun x hx => by
      simp only [Bool.or_eq_false_iff] at hx; exact hx.2
    have upT : ∀ {ω ω' : Tg} {w w' : World}, Stp T ω ω' w w' → Stp (fun x => T x || Nat.beq x u) ω ω' w w' := fun s => s.mono fun x hx => by
      simp only [Bool.or_eq_false_iff] at hx; exact hx.1
    refine hB i k a ω _ _ _ ha h fun X ω1 w1 s1 hX => ?_
    obtain ⟨hl1, hlu1⟩ := s1.obj hl hlu rfl
    obtain ⟨hd1, hdu1⟩ := s1.obj hd hdu rfl
    have sp := put_stp (w := w1) (o := rec .busy none) hlu1
    have hb := World.putObj_heap_same (o := rec .busy none) (heap_lt hl1)
    have hd0 : (w1.putObj L (rec .busy none)).heap[D]? = some (.deferred (some [])) := by rw [World.putObj_heap_other hne]; exact hd1
    refine ⟨hl1, hX _ sp (fun ω' w' s j' => ?_) (fun e j ω' w' hj s j' => ?_)⟩
    · obtain ⟨hb', hu'⟩ := s.obj hb hlu1 hT
      obtain ⟨hd', hdu'⟩ := s.obj hd0 hdu1 hT
      have sp2 := put_stp (w := w') (o := rec .ready none) hu'
      refine ⟨hb', none, rfl, hR ω' _ ((s1.non _).trans ((up sp).trans ((upT s).trans (up sp2)))) ⟨oJ _ _ _ _ _ j' sp2, World.putObj_heap_same (heap_lt hb'), hu', ?_, hdu'⟩⟩
      show (w'.putObj L (rec .ready none)).heap[D]? = _
      rw [World.putObj_heap_other hne]; exact hd'
    · obtain ⟨hb', hu'⟩ := s.obj hb hlu1 hT
      obtain ⟨hd', hdu'⟩ := s.obj hd0 hdu1 hT
      have sp2 := put_stp (w := w') (o := rec .done (some j)) hu'
      refine ⟨hb', some j, hj, hRx ω' _ ((s1.non _).trans ((up sp).trans ((upT s).trans (up sp2)))) ⟨?_, hdu', hu', .done, e, some j, hj, (by intro h; cases h), World.putObj_heap_same (heap_lt hb'), .inr (oE _ _ _ _ _ j' sp2)⟩⟩
      show (w'.putObj L (rec .done (some j))).heap[D]? = _
      rw [World.putObj_heap_other hne]; exact hd'
  · rintro i ω w hdn ⟨h, hl, hlu, hd, hdu⟩
    exact ⟨hd, hdu, hlu, .ready, .normal, none, rfl, (by intro h; cases h), hl, .inl ⟨rfl, i, hdn, h⟩⟩
  · rintro ω w ⟨hd, hdu, hlu, st, e, j, hj, hst, hl, hh⟩
    have sp := put_stp (w := w) (o := rec .exhausted j) hlu
    have hd' : (w.putObj L (rec .exhausted j)).heap[D]? = some (.deferred (some [])) := by rw [World.putObj_heap_other hne]; exact hd
    refine ⟨st, e, j, hj, hst, hl, ?_⟩
    rcases hh with ⟨rfl, h⟩ | h
    · obtain ⟨i, h2, h3⟩ := h
      exact hK ω _ D hd' hdu ⟨i, h2, oJ _ _ _ _ _ h3 sp⟩
    · exact hX e ω _ D hd' hdu (oE _ _ _ _ _ h sp)
end Go.Proofs.YtfkpehcbijgmnaaGreatDoor.Mem
