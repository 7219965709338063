/- (several texts in one: SeqG, RuA, SortT, RuK, RuW, RuV, RuS, RuG, RuR, RuT, RuU, Rtg, RuB, RuC, RuD, RuE, RuF, RuH, RuI, RuJ, RuL, RuM, Rep, RepR, UtfWB, RuN) Own work. -/
import Derived.Sort.KeysCollected
import Derived.LaidHandle
import Derived.LaidLaws
import Derived.Stop.LaidErr
import Derived.Test.YtechilkjfhpkpaaGreatDoorPK3
namespace Go.Proofs.YtechilkjfhpkpaaGreatDoor.Mem
open Go Vm Go.RowKit Num
variable {T : Nat → Bool} {ω ω' : Tg} {w w' w0 : World} {t : Nat} {ι : Type}
def TellsG (P : Program) (Fc : Clee) (v : Value) (s0 : ι) (Q0 : ι → ι → List Value → Tg → World → Prop) (dn : ι → Prop) (C : Tg → World → Prop) (Pt Ct : Nat → Bool) : Prop :=
  match v with
  | .func (.func n) first cap => ∀ (L : Nat) (I : ι → Tg → World → Prop) (Kk : Tg → World → Prop) (Q : World → Prop) (ω : Tg) (w : World),
      (∀ i ω w, I i ω w → C ω w) → (∀ i ω ω' w w', I i ω w → Stp Pt ω ω' w w' → I i ω' w') → (∀ ω ω' w w', Kk ω w → Stp Pt ω ω' w w' → Kk ω' w') →
      (∀ i j a ω w R, Q0 i j a ω w → I i ω w → (∀ ω' w', Stp Ct ω ω' w w' → I j ω' w' → R (.bool true) w') → (∀ ω' w', Stp Ct ω ω' w w' → Kk ω' w' → R (.bool false) w') → G.yieldAt P L a w R) →
      (∀ i ω w, dn i → I i ω w → Kk ω w) → (∀ ω w, Kk ω w → Q w) → I s0 ω w → Fc n (first.toList ++ [.func (.yield L) #[] #[]] ++ cap.toList) (fun _ w' => Q w') w
  | _ => False
theorem rangeG_ok {P : Program} {Fc : Clee} {v : Value} {s0 : ι} {Q0 : ι → ι → List Value → Tg → World → Prop} {dn : ι → Prop} {C : Tg → World → Prop} {B : List Value → World → (Exit → World → Prop) → Prop} {K : Exit → Nat → World → Prop} {u : Nat} {Pt : Nat → Bool}
    {J : ι → Tg → World → Prop} {E : Exit → Tg → World → Prop} (hv : TellsG P Fc v s0 Q0 dn C Pt (fun x => T x || Nat.beq x u)) (hT : T u = false) (hP : Pt u = false) (hQ : ∀ i j a ω ω' w w', Q0 i j a ω w → Stp (One u) ω ω' w w' → Q0 i j a ω' w') (hC : ∀ i ω w, J i ω w → C ω w)
    (hJ : ∀ S, S = One u ∨ S = Pt → ∀ i ω ω' w w', J i ω w → Stp S ω ω' w w' → J i ω' w') (hE : ∀ S, S = One u ∨ S = Pt → ∀ e ω ω' w w', E e ω w → Stp S ω ω' w w' → E e ω' w')
    (hB : ∀ i k a ω w Rr, Q0 i k a ω w → J i ω w → (∀ ω' w', Stp T ω ω' w w' → J k ω' w' → Rr .normal w') → (∀ e j ω' w', jump e = some (some j) → Stp T ω ω' w w' → E e ω' w' → Rr e w') → B a w Rr)
    (h0 : J s0 ω w)
    (hK : ∀ ω' w' D, w'.heap[D]? = some (.deferred (some [])) → ω' D = u → (∃ i, dn i ∧ J i ω' w') → K .normal D w')
    (hX : ∀ e ω' w' D, w'.heap[D]? = some (.deferred (some [])) → ω' D = u → E e ω' w' → K e D w') : G.rangeF Fc v P B w K := by
  have oJ := hJ _ (.inl rfl)
  have oE := hE _ (.inl rfl)
  have pJ := hJ _ (.inr rfl)
  have pE := hE _ (.inr rfl)
  unfold TellsG at hv
  split at hv
  case h_2 => exact hv.elim
  rename_i n first cap
  intro rec hcells hY
  obtain ⟨w1, ew1⟩ : ∃ w1, w1 = (w.alloc (.deferred (some []))).alloc (rec .ready none) := ⟨_, rfl⟩
  have s1 : Stp (One u) ω (ext (ext ω w.heap.size u) (w.alloc (.deferred (some []))).heap.size u) w w1 := by
    rw [ew1]
    exact (((Keep.alloc w _).stp ω u).trans ((Keep.alloc _ _).stp _ u)).non _
  have hLn : (w.alloc (.deferred (some []))).heap.size = w.heap.size + 1 := World.size_alloc ..
  have hL : w1.heap[w.heap.size + 1]? = some (rec .ready none) := by
    have := World.alloc_heap_new (w.alloc (.deferred (some []))) (rec .ready none)
    rw [hLn] at this; rw [ew1]; exact this
  have hD : w1.heap[w.heap.size]? = some (.deferred (some [])) := by
    have h1 := World.alloc_heap_new w (.deferred (some []))
    rw [ew1]
    exact (Keep.alloc _ _).heap h1
  show Fc n (first.toList ++ [.func (.yield (w.heap.size + 1)) #[] #[]] ++ cap.toList) _ ((w.alloc (.deferred (some []))).alloc (rec .ready none))
  rw [← ew1]
  have hu : ext (ext ω w.heap.size u) (w.alloc (.deferred (some []))).heap.size u (w.heap.size + 1) = u := ext_new (by omega)
  have hud : ext (ext ω w.heap.size u) (w.alloc (.deferred (some []))).heap.size u w.heap.size = u := by rw [ext_old (by omega), ext_new (Nat.le_refl _)]
  generalize ext (ext ω w.heap.size u) (w.alloc (.deferred (some []))).heap.size u = ω1 at s1 hu hud
  have j1 := oJ _ _ _ _ _ h0 s1
  have hne : w.heap.size ≠ w.heap.size + 1 := by omega
  clear ew1 s1 hLn h0
  generalize w.heap.size + 1 = L at *
  generalize w.heap.size = D at *
  refine hv L (fun i ω w => J i ω w ∧ w.heap[L]? = some (rec .ready none) ∧ ω L = u ∧ w.heap[D]? = some (.deferred (some [])) ∧ ω D = u)
    (fun ω w => w.heap[D]? = some (.deferred (some [])) ∧ ω D = u ∧ ω L = u ∧ ∃ st e j, jump e = some j ∧ st ≠ LoopState.busy ∧ w.heap[L]? = some (rec st j) ∧ ((e = .normal ∧ ∃ i, dn i ∧ J i ω w) ∨ E e ω w)) _ ω1 w1 ?_ ?_ ?_ ?_ ?_ ?_ ⟨j1, hL, hu, hD, hud⟩
  · rintro i ω w ⟨h, _⟩; exact hC i ω w h
  · rintro i ω ω' w w' ⟨h, hl, hlu, hd, hdu⟩ s
    exact ⟨pJ _ _ _ _ _ h s, (s.obj hl hlu hP).1, (s.obj hl hlu hP).2, (s.obj hd hdu hP).1, (s.obj hd hdu hP).2⟩
  · rintro ω ω' w w' ⟨hd, hdu, hlu, st, e, j, hj, hst, hl, hh⟩ s
    exact ⟨(s.obj hd hdu hP).1, (s.obj hd hdu hP).2, (s.obj hl hlu hP).2, st, e, j, hj, hst, (s.obj hl hlu hP).1, hh.imp (fun ⟨h1, i, h2, h3⟩ => ⟨h1, i, h2, pJ _ _ _ _ _ h3 s⟩) (fun h => pE _ _ _ _ _ h s)⟩
  · rintro i k a ω w R ha ⟨h, hl, hlu, hd, hdu⟩ hR hRx
    refine hY a w R hl ?_
    have sp := put_stp (w := w) (o := rec .busy none) hlu
    have up : ∀ {ω ω' : Tg} {w w' : World}, Stp (One u) ω ω' w w' → Stp (fun x => T x || Nat.beq x u) ω ω' w w' := fun s => s.mono fun x hx => by
      simp only [Bool.or_eq_false_iff] at hx; exact hx.2
    have upT : ∀ {ω ω' : Tg} {w w' : World}, Stp T ω ω' w w' → Stp (fun x => T x || Nat.beq x u) ω ω' w w' := fun s => s.mono fun x hx => by
      simp only [Bool.or_eq_false_iff] at hx; exact hx.1
    refine hB i k a ω _ _ (hQ _ _ _ _ _ _ _ ha sp) (oJ _ _ _ _ _ h sp) (fun ω' w' s j' => ?_) (fun e j ω' w' hj s j' => ?_)
    · have hb := World.putObj_heap_same (o := rec .busy none) (heap_lt hl)
      obtain ⟨hb', hu'⟩ := s.obj hb hlu hT
      have hd0 : (w.putObj L (rec .busy none)).heap[D]? = some (.deferred (some [])) := by rw [World.putObj_heap_other hne]; exact hd
      obtain ⟨hd', hdu'⟩ := s.obj hd0 hdu hT
      have sp2 := put_stp (w := w') (o := rec .ready none) hu'
      refine ⟨hb', none, rfl, hR ω' _ ((up sp).trans ((upT s).trans (up sp2))) ⟨oJ _ _ _ _ _ j' sp2, World.putObj_heap_same (heap_lt hb'), hu', ?_, hdu'⟩⟩
      show (w'.putObj L (rec .ready none)).heap[D]? = _
      rw [World.putObj_heap_other hne]; exact hd'
    · have hb := World.putObj_heap_same (o := rec .busy none) (heap_lt hl)
      obtain ⟨hb', hu'⟩ := s.obj hb hlu hT
      have hd0 : (w.putObj L (rec .busy none)).heap[D]? = some (.deferred (some [])) := by rw [World.putObj_heap_other hne]; exact hd
      obtain ⟨hd', hdu'⟩ := s.obj hd0 hdu hT
      have sp2 := put_stp (w := w') (o := rec .done (some j)) hu'
      refine ⟨hb', some j, hj, hRx ω' _ ((up sp).trans ((upT s).trans (up sp2))) ⟨?_, hdu', hu', .done, e, some j, hj, (by intro h; cases h), World.putObj_heap_same (heap_lt hb'), .inr (oE _ _ _ _ _ j' sp2)⟩⟩
      show (w'.putObj L (rec .done (some j))).heap[D]? = _
      rw [World.putObj_heap_other hne]; exact hd'
  · rintro i ω w hdn ⟨h, hl, hlu, hd, hdu⟩
    exact ⟨hd, hdu, hlu, .ready, .normal, none, rfl, (by intro h; cases h), hl, .inl ⟨rfl, i, hdn, h⟩⟩
  · rintro ω w ⟨hd, hdu, hlu, st, e, j, hj, hst, hl, hh⟩
    have sp := put_stp (w := w) (o := rec .exhausted j) hlu
    have hd' : (w.putObj L (rec .exhausted j)).heap[D]? = some (.deferred (some [])) := by rw [World.putObj_heap_other hne]; exact hd
    refine ⟨st, e, j, hj, hst, hl, ?_⟩
    rcases hh with ⟨rfl, h⟩ | h
    · obtain ⟨i, h2, h3⟩ := h
      exact hK ω _ D hd' hdu ⟨i, h2, oJ _ _ _ _ _ h3 sp⟩
    · exact hX e ω _ D hd' hdu (oE _ _ _ _ _ h sp)
theorem rangeGW_ok {P : Program} {Fc : Clee} {v : Value} {s0 : ι} {Q0 : ι → ι → List Value → Tg → World → Prop} {dn : ι → Prop} {C : Tg → World → Prop} {B : List Value → World → ((World → Prop) → World → Prop) → (Exit → World → Prop) → Prop} {K : Exit → Nat → World → Prop} {u : Nat} {Pt : Nat → Bool}
    {J : ι → Tg → World → Prop} {E : Exit → Tg → World → Prop} (hv : TellsG P Fc v s0 Q0 dn C Pt (fun x => T x || Nat.beq x u)) (hT : T u = false) (hP : Pt u = false) (_hQ : ∀ i j a ω ω' w w', Q0 i j a ω w → Stp (One u) ω ω' w w' → Q0 i j a ω' w') (hC : ∀ i ω w, J i ω w → C ω w)
    (hJ : ∀ S, S = One u ∨ S = Pt → ∀ i ω ω' w w', J i ω w → Stp S ω ω' w w' → J i ω' w') (hE : ∀ S, S = One u ∨ S = Pt → ∀ e ω ω' w w', E e ω w → Stp S ω ω' w w' → E e ω' w')
    (hB : ∀ i k a ω w bz Rr, Q0 i k a ω w → J i ω w → (∀ X ω1 w1, Stp Non ω ω1 w w1 → (∀ w2, Stp (One u) ω1 ω1 w1 w2 → (∀ ω' w', Stp T ω1 ω' w2 w' → J k ω' w' → Rr .normal w') → (∀ e j ω' w', jump e = some (some j) → Stp T ω1 ω' w2 w' → E e ω' w' → Rr e w') → X w2) → bz X w1) → B a w bz Rr)
    (h0 : J s0 ω w)
    (hK : ∀ ω' w' D, w'.heap[D]? = some (.deferred (some [])) → ω' D = u → (∃ i, dn i ∧ J i ω' w') → K .normal D w')
    (hX : ∀ e ω' w' D, w'.heap[D]? = some (.deferred (some [])) → ω' D = u → E e ω' w' → K e D w') : G.rangeW Fc v P B w K := by
  have oJ := hJ _ (.inl rfl)
  have oE := hE _ (.inl rfl)
  have pJ := hJ _ (.inr rfl)
  have pE := hE _ (.inr rfl)
  unfold TellsG at hv
  split at hv
  case h_2 => exact hv.elim
  rename_i n first cap
  intro rec hcells hY
  obtain ⟨w1, ew1⟩ : ∃ w1, w1 = (w.alloc (.deferred (some []))).alloc (rec .ready none) := ⟨_, rfl⟩
  have s1 : Stp (One u) ω (ext (ext ω w.heap.size u) (w.alloc (.deferred (some []))).heap.size u) w w1 := by
    rw [ew1]
    exact (((Keep.alloc w _).stp ω u).trans ((Keep.alloc _ _).stp _ u)).non _
  have hLn : (w.alloc (.deferred (some []))).heap.size = w.heap.size + 1 := World.size_alloc ..
  have hL : w1.heap[w.heap.size + 1]? = some (rec .ready none) := by
    have := World.alloc_heap_new (w.alloc (.deferred (some []))) (rec .ready none)
    rw [hLn] at this; rw [ew1]; exact this
  have hD : w1.heap[w.heap.size]? = some (.deferred (some [])) := by
    have h1 := World.alloc_heap_new w (.deferred (some []))
    rw [ew1]
    exact (Keep.alloc _ _).heap h1
  show Fc n (first.toList ++ [.func (.yield (w.heap.size + 1)) #[] #[]] ++ cap.toList) _ ((w.alloc (.deferred (some []))).alloc (rec .ready none))
  rw [← ew1]
  have hu : ext (ext ω w.heap.size u) (w.alloc (.deferred (some []))).heap.size u (w.heap.size + 1) = u := ext_new (by omega)
  have hud : ext (ext ω w.heap.size u) (w.alloc (.deferred (some []))).heap.size u w.heap.size = u := by rw [ext_old (by omega), ext_new (Nat.le_refl _)]
  generalize ext (ext ω w.heap.size u) (w.alloc (.deferred (some []))).heap.size u = ω1 at s1 hu hud
  have j1 := oJ _ _ _ _ _ h0 s1
  have hne : w.heap.size ≠ w.heap.size + 1 := by omega
  clear ew1 s1 hLn h0
  generalize w.heap.size + 1 = L at *
  generalize w.heap.size = D at *
  refine hv L (fun i ω w => J i ω w ∧ w.heap[L]? = some (rec .ready none) ∧ ω L = u ∧ w.heap[D]? = some (.deferred (some [])) ∧ ω D = u)
    (fun ω w => w.heap[D]? = some (.deferred (some [])) ∧ ω D = u ∧ ω L = u ∧ ∃ st e j, jump e = some j ∧ st ≠ LoopState.busy ∧ w.heap[L]? = some (rec st j) ∧ ((e = .normal ∧ ∃ i, dn i ∧ J i ω w) ∨ E e ω w)) _ ω1 w1 ?_ ?_ ?_ ?_ ?_ ?_ ⟨j1, hL, hu, hD, hud⟩
  · rintro i ω w ⟨h, _⟩; exact hC i ω w h
  · rintro i ω ω' w w' ⟨h, hl, hlu, hd, hdu⟩ s
    exact ⟨pJ _ _ _ _ _ h s, (s.obj hl hlu hP).1, (s.obj hl hlu hP).2, (s.obj hd hdu hP).1, (s.obj hd hdu hP).2⟩
  · rintro ω ω' w w' ⟨hd, hdu, hlu, st, e, j, hj, hst, hl, hh⟩ s
    exact ⟨(s.obj hd hdu hP).1, (s.obj hd hdu hP).2, (s.obj hl hlu hP).2, st, e, j, hj, hst, (s.obj hl hlu hP).1, hh.imp (fun ⟨h1, i, h2, h3⟩ => ⟨h1, i, h2, pJ _ _ _ _ _ h3 s⟩) (fun h => pE _ _ _ _ _ h s)⟩
  · rintro i k a ω w R ha ⟨h, hl, hlu, hd, hdu⟩ hR hRx
    refine hY a w R hl ?_
    have up : ∀ {ω ω' : Tg} {w w' : World}, Stp (One u) ω ω' w w' → Stp (fun x => T x || Nat.beq x u) ω ω' w w' := fun s => s.mono fun x hx => by
      simp only [Bool.or_eq_false_iff] at hx; exact hx.2
    have upT : ∀ {ω ω' : Tg} {w w' : World}, Stp T ω ω' w w' → Stp (fun x => T x || Nat.beq x u) ω ω' w w' := fun s => s.mono fun x hx => by
      simp only [Bool.or_eq_false_iff] at hx; exact hx.1
    refine hB i k a ω _ _ _ ha h fun X ω1 w1 s1 hX => ?_
    obtain ⟨hl1, hlu1⟩ := s1.obj hl hlu rfl
    obtain ⟨hd1, hdu1⟩ := s1.obj hd hdu rfl
    have sp := put_stp (w := w1) (o := rec .busy none) hlu1
    have hb := World.putObj_heap_same (o := rec .busy none) (heap_lt hl1)
    have hd0 : (w1.putObj L (rec .busy none)).heap[D]? = some (.deferred (some [])) := by rw [World.putObj_heap_other hne]; exact hd1
    refine ⟨hl1, hX _ sp (fun ω' w' s j' => ?_) (fun e j ω' w' hj s j' => ?_)⟩
    · obtain ⟨hb', hu'⟩ := s.obj hb hlu1 hT
      obtain ⟨hd', hdu'⟩ := s.obj hd0 hdu1 hT
      have sp2 := put_stp (w := w') (o := rec .ready none) hu'
      refine ⟨hb', none, rfl, hR ω' _ ((s1.non _).trans ((up sp).trans ((upT s).trans (up sp2)))) ⟨oJ _ _ _ _ _ j' sp2, World.putObj_heap_same (heap_lt hb'), hu', ?_, hdu'⟩⟩
      show (w'.putObj L (rec .ready none)).heap[D]? = _
      rw [World.putObj_heap_other hne]; exact hd'
    · obtain ⟨hb', hu'⟩ := s.obj hb hlu1 hT
      obtain ⟨hd', hdu'⟩ := s.obj hd0 hdu1 hT
      have sp2 := put_stp (w := w') (o := rec .done (some j)) hu'
      refine ⟨hb', some j, hj, hRx ω' _ ((s1.non _).trans ((up sp).trans ((upT s).trans (up sp2)))) ⟨?_, hdu', hu', .done, e, some j, hj, (by intro h; cases h), World.putObj_heap_same (heap_lt hb'), .inr (oE _ _ _ _ _ j' sp2)⟩⟩
      show (w'.putObj L (rec .done (some j))).heap[D]? = _
      rw [World.putObj_heap_other hne]; exact hd'
  · rintro i ω w hdn ⟨h, hl, hlu, hd, hdu⟩
    exact ⟨hd, hdu, hlu, .ready, .normal, none, rfl, (by intro h; cases h), hl, .inl ⟨rfl, i, hdn, h⟩⟩
  · rintro ω w ⟨hd, hdu, hlu, st, e, j, hj, hst, hl, hh⟩
    have sp := put_stp (w := w) (o := rec .exhausted j) hlu
    have hd' : (w.putObj L (rec .exhausted j)).heap[D]? = some (.deferred (some [])) := by rw [World.putObj_heap_other hne]; exact hd
    refine ⟨st, e, j, hj, hst, hl, ?_⟩
    rcases hh with ⟨rfl, h⟩ | h
    · obtain ⟨i, h2, h3⟩ := h
      exact hK ω _ D hd' hdu ⟨i, h2, oJ _ _ _ _ _ h3 sp⟩
    · exact hX e ω _ D hd' hdu (oE _ _ _ _ _ h sp)
end Go.Proofs.YtechilkjfhpkpaaGreatDoor.Mem

namespace Go.Proofs.YtechilkjfhpkpaaGreatDoor.Ru
open Go Vm Go.RowKit Num Mem Utf Lib Lab
variable {ω ω' : Tg} {w w' w0 : World} {t gs gm : Nat} {T : Nat → Bool}
abbrev Av := List Lb × Int × Int × Int × Int × Nat
abbrev QL := List (Av × Sl)
def avC (p : Av × Sl) : List Value := [p.2.v, .int .i64 p.1.2.1, .int .i64 p.1.2.2.1, .int .i64 p.1.2.2.2.1, .int .i64 p.1.2.2.2.2.1, .float .f64 p.1.2.2.2.2.2]
def encV (p : Av × Sl) : Value := .agg ⟨avC p⟩
def encP (p : Av × Sl) : ByteArray × Value := (Lab.keyOf p.1.1, encV p)
def avs (l : QL) : List Value := l.flatMap avC
theorem avs_app (a b : QL) : avs (a ++ b) = avs a ++ avs b := List.flatMap_append
theorem avs_len (l : QL) : (avs l).length = l.length * 6 := by
  induction l with
  | nil => rfl
  | cons s l ih => simp only [avs, List.flatMap_cons, List.length_append, List.length_cons] at *; simp [avC] at *; omega
theorem avs_at : ∀ (l : QL) (i : Nat) (p : Av × Sl), l[i]? = some p → ∀ j, j < 6 → (avs l)[i * 6 + j]? = (avC p)[j]?
  | [], i, p, h => by simp at h
  | x :: l, 0, p, h => fun j hj => by
    simp only [List.getElem?_cons_zero, Option.some.injEq] at h
    subst h
    rw [avs, List.flatMap_cons, Nat.zero_mul, Nat.zero_add, List.getElem?_append_left (by simpa [avC] using hj)]
  | x :: l, i + 1, p, h => fun j hj => by
    have ih := avs_at l i p (by simpa using h) j hj
    rw [avs, List.flatMap_cons, List.getElem?_append_right (by simp [avC]; omega), ← ih]
    unfold avs
    congr 1
    simp [avC]; omega
theorem rdA_n {s : Sl} {l : QL} (h : Rd w s 6 (avs l)) : s.n = l.length := by have := h.2.1; rw [avs_len] at this; omega
def AC (w : World) (a : Addr) (p : Av × Sl) : Prop := w.cell? a = some p.2.v ∧ w.cell? (a.add 1) = some (.int .i64 p.1.2.1) ∧ w.cell? (a.add 2) = some (.int .i64 p.1.2.2.1) ∧ w.cell? (a.add 3) = some (.int .i64 p.1.2.2.2.1) ∧ w.cell? (a.add 4) = some (.int .i64 p.1.2.2.2.2.1) ∧ w.cell? (a.add 5) = some (.float .f64 p.1.2.2.2.2.2)
theorem rdA_at {s : Sl} {l : QL} (h : Rd w s 6 (avs l)) {i : Int} {k : Nat} {p : Av × Sl} (ei : i = (k : Int)) (hx : l[k]? = some p) {K : Addr → Prop} (hK : ∀ a : Addr, AC w a p → K a) : G.ix s.a s.n i 6 K := by
  have hk : k < l.length := (List.getElem?_eq_some_iff.1 hx).1
  have hn := rdA_n h
  subst ei
  have hat := avs_at l k p hx
  refine Rd.ix h (by decide) (by omega) (by omega) fun a hc => hK a ?_
  have c : ∀ j v, j < 6 → (avC p)[j]? = some v → w.cell? (a.add j) = some v := fun j v hj hv => hc j v hj (by rw [Int.toNat_natCast, hat j hj]; exact hv)
  refine ⟨?_, c 1 _ (by decide) rfl, c 2 _ (by decide) rfl, c 3 _ (by decide) rfl, c 4 _ (by decide) rfl, c 5 _ (by decide) rfl⟩
  have := c 0 _ (by decide) rfl
  rwa [show a.add 0 = a by simp [Addr.add]] at this
theorem tiA : TI Tryz.prog 31 41 6 64 := TI.of (z := .agg #[.slice none 0 0, .int .i64 0, .int .i64 0, .int .i64 0, .int .i64 0, .float .f64 0]) (by kernel_rfl) (by kernel_rfl) rfl (by decide)
theorem mapT : Tryz.prog.underlying 73 = some (.map 9 41) := by kernel_rfl
theorem strT : Tryz.prog.underlying 9 = some .string := by kernel_rfl
theorem OT.new {u sz : Nat} {e : TypeId} {s : Sl} {xs : List Value} (h : OT ω' w' u e sz s xs) (top : Top w ω' w') (hu : u ≠ 0 := by decide) : Mem.Own w' w.heap.size e sz s xs := by
  obtain ⟨hl, ho⟩ := h.own
  refine ⟨hl, ?_⟩
  rcases ho with ho | ⟨g, cap, cur, hv, hg, r⟩
  · exact .inl ho
  · refine .inr ⟨g, cap, cur, hv, ?_, r⟩
    have ht := h.tag g (by rw [hv]; rfl)
    rcases Nat.lt_or_ge g w.heap.size with hlt | hge
    · rw [top.z g hlt] at ht; exact absurd ht.symm hu
    · exact hge
theorem ag_at {cs : Array Value} {n : Nat} {K : Array Value → Prop} (hn : cs.size = n) (hK : K cs) : G.ag (.agg cs) n K := by
  subst hn
  show bif Nat.beq cs.size cs.size then K cs else False
  rw [Nat.beq_refl]; exact hK
theorem map_split {p : QL} {a b : AL} {x : ByteArray × Value} (h : p.map encP = a ++ x :: b) : ∃ pa q pb, p = pa ++ q :: pb ∧ a = pa.map encP ∧ x = encP q ∧ b = pb.map encP := by
  obtain ⟨pa, pr, h1, h2, h3⟩ := List.map_eq_append_iff.1 h
  cases pr with
  | nil => simp at h3
  | cons q pb =>
    simp only [List.map_cons, List.cons.injEq] at h3
    exact ⟨pa, q, pb, h1, h2.symm, h3.1.symm, h3.2.symm⟩
theorem loc_ok (q : Av × Sl) {Z : Addr → World → Prop} (hK : ∀ g w', KD w w' → w.heap.size ≤ g → Blk w' g 41 (avC q) → Z ⟨g, 0, none⟩ w') :
    G.new (.cells #[nilS.v, (.int .i64 (0 : Int)), (.int .i64 (0 : Int)), (.int .i64 (0 : Int)), (.int .i64 (0 : Int)), (.float .f64 0)] 41) w fun p w1 => G.st p q.2.v w1 fun w2 => G.st (p.add 1) (.int .i64 q.1.2.1) w2 fun w3 => G.st (p.add 2) (.int .i64 q.1.2.2.1) w3 fun w4 =>
      G.st (p.add 3) (.int .i64 q.1.2.2.2.1) w4 fun w5 => G.st (p.add 4) (.int .i64 q.1.2.2.2.2.1) w5 fun w6 => G.st (p.add 5) (.float .f64 q.1.2.2.2.2.2) w6 fun w7 => Z p w7 :=
  newD fun g w1 k1 hg b1 => stD hg k1 b1 (by simp) fun w2 k2 b2 => stDA hg k2 b2 (by simp) fun w3 k3 b3 => stDA hg k3 b3 (by simp) fun w4 k4 b4 => stDA hg k4 b4 (by simp) fun w5 k5 b5 => stDA hg k5 b5 (by simp) fun w6 k6 b6 => stDA hg k6 b6 (by simp) fun w7 k7 b7 => hK g w7 k7 hg b7
theorem blk_ac {g : Nat} {q : Av × Sl} (b : Blk w g 41 (avC q)) : AC w ⟨g, 0, none⟩ q :=
  ⟨by rw [b.cell]; rfl, by rw [addr_add, b.cell]; rfl, by rw [addr_add, b.cell]; rfl, by rw [addr_add, b.cell]; rfl, by rw [addr_add, b.cell]; rfl, by rw [addr_add, b.cell]; rfl⟩
theorem ac_at {a : Addr} {q : Av × Sl} (h : AC w a q) {Z : Sl → Int → Int → Int → Int → Nat → Prop} (hZ : Z q.2 q.1.2.1 q.1.2.2.1 q.1.2.2.2.1 q.1.2.2.2.2.1 q.1.2.2.2.2.2) :
    G.cSl a w fun s => G.cI .i64 (a.add 1) w fun n1 => G.cI .i64 (a.add 2) w fun n2 => G.cI .i64 (a.add 3) w fun n3 => G.cI .i64 (a.add 4) w fun n4 => G.cF .f64 (a.add 5) w fun f => Z s n1 n2 n3 n4 f :=
  cSl_at h.1 <| cI_at h.2.1 <| cI_at h.2.2.1 <| cI_at h.2.2.2.1 <| cI_at h.2.2.2.2.1 <| cF_at h.2.2.2.2.2 hZ
theorem enc_at (q : Av × Sl) {Z : Sl → Int → Int → Int → Int → Nat → Prop} (hZ : Z q.2 q.1.2.1 q.1.2.2.1 q.1.2.2.2.1 q.1.2.2.2.2.1 q.1.2.2.2.2.2) :
    G.ag (encV q) 6 fun c => G.vSl c[0 + 0]? fun s => G.vI .i64 c[0 + 1]? fun n1 => G.vI .i64 c[0 + 2]? fun n2 => G.vI .i64 c[0 + 3]? fun n3 => G.vI .i64 c[0 + 4]? fun n4 => G.vF .f64 c[0 + 5]? fun f => Z s n1 n2 n3 n4 f :=
  ag_at rfl ⟨q.2, rfl, q.1.2.1, rfl, q.1.2.2.1, rfl, q.1.2.2.2.1, rfl, q.1.2.2.2.2.1, rfl, q.1.2.2.2.2.2, rfl, hZ⟩
abbrev VS := QL × QL
def VQ (i j : VS) (a : List Value) (_ : Tg) (_ : World) : Prop := ∃ q b1 b2, i.2 = b1 ++ q :: b2 ∧ j = (i.1 ++ [q], b1 ++ b2) ∧ a = [encV q]
def VC (g gm : Nat) (pl : QL) (ω : Tg) (w : World) : Prop := w.cell? ⟨g, 0, none⟩ = some (.map (some gm)) ∧ MV ω w 0 gm (pl.map encP)
theorem values_tells {Fc : Clee} {n g : Nat} {pl : QL} {Ct : Nat → Bool} (h0 : Ct 0 = false) (h1 : Ct 40 = false) (hF : ∀ args K w, C.maps_Values_1_map_string_Active_string_Active.cl args K w → Fc n args K w) :
    TellsG Tryz.prog Fc (.func (.func n) #[] #[.pointer (some ⟨g, 0, none⟩)]) (([], pl) : VS) VQ (fun i => i.2 = []) (VC g gm pl) (Duo 40 41) Ct := by
  intro L I Kk Q ω w hC hI hKI hy hK hQ h0'
  refine hF _ _ _ ?_
  show C.maps_Values_1_map_string_Active_string_Active (.func (.yield L) #[] #[]) (some ⟨g, 0, none⟩) w (C.maps_Values_1_map_string_Active_string_Active.Kt fun _ w' => Q w')
  unfold C.maps_Values_1_map_string_Active_string_Active
  obtain ⟨hb, hm⟩ := hC _ ω w h0'
  refine ptr_at ⟨some gm, hb, rangeV 40 hm mapT fun r ω1 w1 k1 i1 => ?_⟩
  refine C.maps_Values_1_map_string_Active_string_Active.L3_ind fun X hX => ?_
  have key : ∀ (d : Nat) (a b : QL) (ω : Tg) (w : World), b.length = d → I (a, b) ω w → IT ω w 40 r 0 gm (pl.map encP) (b.map encP) → X (.func (.yield L) #[] #[]) (some ⟨r, 0, none⟩) w := by
    intro d
    induction d with
    | zero =>
      intro a b ω w hd hi it
      refine hX _ _ _ ?_
      unfold C.maps_Values_1_map_string_Active_string_Active.S5
      have hb : b = [] := List.eq_nil_of_length_eq_zero hd
      subst hb
      exact nextV it (fun _ => hQ ω w (hK _ ω w rfl hi)) (fun a x b ω' w' hr => by simp at hr)
    | succ d ih =>
      intro a b ω w hd hi it
      refine hX _ _ _ ?_
      unfold C.maps_Values_1_map_string_Active_string_Active.S5
      refine nextV it (fun hr => by have := congrArg List.length hr; rw [List.length_map, hd] at this; simp at this) (fun ra x rb ω2 w2 hr k2 it2 en k v => en _ ?_)
      obtain ⟨pa, q, pb, e1, rfl, rfl, rfl⟩ := map_split hr
      refine enc_at q ?_
      refine loc_ok q fun g3 w3 k3 hg3 b3 => ?_
      refine ac_at (blk_ac b3) ?_
      have s3 := k3.1.stp ω2 41
      have it3 := it2.stp s3 rfl rfl
      have hi2 := hI _ _ _ _ _ hi k2.one
      have hi3 := hI _ _ _ _ _ hi2 (s3.non _)
      generalize ext ω2 w2.heap.size 41 = ω3 at *
      rw [← List.map_append] at it3
      refine hy (a, b) (a ++ [q], pa ++ pb) _ ω3 w3 _ ⟨q, pa, pb, e1, rfl, rfl⟩ hi3 (fun ω' w' s h' => ?_) (fun ω' w' s h' => ?_)
      · refine isB_at (cond_f rfl ?_)
        exact ih _ _ ω' w' (by rw [e1] at hd; simp at hd ⊢; omega) h' (it3.stp s h1 h0)
      · exact isB_at (cond_t rfl (hQ _ _ h'))
  exact key pl.length [] pl ω1 w1 rfl (hI _ _ _ _ _ h0' (k1.non _)) i1
theorem collect_ok {pl : QL} {g : Nat} (hbox : w.cell? ⟨g, 0, none⟩ = some (.map (some gm))) (hmp : MV (fun _ => 0) w 0 gm (pl.map encP)) (hl : pl.length ≤ 100000000) {K : Sl → World → Prop}
    (hK : ∀ r ql w', Keep w w' → ql.Perm pl → Mem.Own w' w.heap.size 41 6 r (avs ql) → K r w') : C.slices_Collect_Active (.func (.func 80) #[] #[.pointer (some ⟨g, 0, none⟩)]) w K := by
  unfold C.slices_Collect_Active C.slices_AppendSeq_Active_Active
  refine new_T (ω := fun _ => 0) 4 fun g2 ω2 w2 k2 b2 => ?_
  unfold C.slices_AppendSeq_Active_Active.S9 C.slices_AppendSeq_Active_Active.R5
  have top2 := (Top.init w).stp k2
  have hgm := hmp.lt
  refine rangeGW_ok (T := Duo 2 4) (u := 3) (J := fun i ω w2 => Top w ω w2 ∧ (i.1 ++ i.2).Perm pl ∧ ∃ s, BT ω w2 4 g2 31 [Sl.v s] ∧ OT ω w2 2 41 6 s (avs i.1))
    (E := fun e ω w => False) (values_tells (g := g) (gm := gm) (pl := pl) rfl rfl fun _ _ _ h => h) rfl rfl ?_ ?_ ?_ ?_ ?_ ⟨top2, by simp, nilS, b2, OT.nil ..⟩ ?_ ?_
  · rintro i j a ω ω' w w' h k
    exact h
  · rintro i ω w2 ⟨top, _⟩
    obtain ⟨es, clock, hb, hs, he⟩ := hmp.ex
    exact ⟨top.k.cell hbox, ⟨es, clock, top.k.heap hb, hs, he⟩, top.z gm hgm⟩
  · rintro S hS i ω ω' w w' ⟨top, pm, s, x1, x2⟩ k
    have z : S 0 = false ∧ S 2 = false ∧ S 4 = false := by rcases hS with rfl | rfl <;> exact ⟨rfl, rfl, rfl⟩
    exact ⟨top.stp k z.1, pm, s, x1.stp k z.2.2, x2.stp k z.2.1⟩
  · rintro S hS e ω ω' w w' h k
    exact h
  · rintro ⟨a, b⟩ j args ω w4 bz Rr ⟨q, b1, b2, e1, rfl, rfl⟩ ⟨top, pm, s, x1, o⟩ hz
    dsimp only at e1 pm o
    subst e1
    unfold C.slices_AppendSeq_Active_Active.B_R5 encV avC Sl.v
    dsimp only
    refine loc_ok q fun g5 w5 k5 hg5 b5 => ?_
    have s5 := k5.1.stp ω 5
    refine hz _ (ext ω w4.heap.size 5) w5 s5 fun w6 s6 hR _ => ?_
    have b5t : BT (ext ω w4.heap.size 5) w5 5 g5 41 [q.2.v, .int .i64 q.1.2.1, .int .i64 q.1.2.2.1, .int .i64 q.1.2.2.2.1, .int .i64 q.1.2.2.2.2.1, .float .f64 q.1.2.2.2.2.2] := ⟨b5, ext_new hg5⟩
    generalize ext ω w4.heap.size 5 = ω5 at *
    have b6 := b5t.stp s6
    have x16 := (x1.stp s5).stp s6
    have o6 := (o.stp s5).stp s6
    have top6 := (top.stp s5).stp s6
    unfold C.slices_AppendSeq_Active_Active.S7
    have hsn := rdA_n o.rd
    have hlen : a.length + 1 ≤ 100000000 := by have := pm.length_eq; simp at this; omega
    refine ptr_at <| cSl_at (s := s) (by rw [x16.cell]; rfl) <| ptr_at <| ac_at (blk_ac b6.blk) ?_
    refine push_T (n := 1) tiA o6 rfl (by intro v hv; simp at hv; rcases hv with rfl | rfl | rfl | rfl | rfl | rfl <;> rfl) (by simp only [maxLen]; omega) (by omega) fun r7 ω7 w7 k7 o7 _ => ?_
    refine ptr_at (st_T (x16.stp k7) (by simp) fun ω8 w8 k8 b8 => ?_)
    refine hR ω8 w8 (k7.one.trans k8.two) ⟨(top6.stp k7).stp k8, by
      show (a ++ [q] ++ (b1 ++ b2)).Perm pl
      rw [List.append_assoc]
      exact (List.Perm.append_left a (List.perm_middle (l₁ := b1) (l₂ := b2) (a := q)).symm).trans pm, r7, b8, ?_⟩
    have e4 : avs (a ++ [q]) = avs a ++ [q.2.v, .int .i64 q.1.2.1, .int .i64 q.1.2.2.1, .int .i64 q.1.2.2.2.1, .int .i64 q.1.2.2.2.2.1, .float .f64 q.1.2.2.2.2.2] := by rw [avs_app]; rfl
    rw [e4]; exact o7.stp k8
  · rintro ω' w' D hD hDu ⟨⟨a, b⟩, hdn, top, pm, s, x1, o⟩
    dsimp only at hdn pm o
    subst hdn
    show C.slices_AppendSeq_Active_Active.S2 _ _ (pushMark undef D) w'
    unfold C.slices_AppendSeq_Active_Active.S2
    have sp := put_stp (ω := ω') (w := w') (o := .deferred none) hDu
    refine ptr_at (cSl_at (s := s) (by rw [x1.cell]; rfl) (marks_at hD ?_))
    have tp := top.stp sp
    exact hK s a _ tp.k (by simpa using pm) (OT.new (o.stp sp) tp)
  · rintro e ω' w' D _ _ h
    exact h.elim
end Go.Proofs.YtechilkjfhpkpaaGreatDoor.Ru

namespace Go.Proofs.YtechilkjfhpkpaaGreatDoor.Srt
open Go Vm Go.RowKit Num Mem Go.Sort Go.Proofs
variable {ω ω' : Tg} {w w' : World} {t : Nat} {e : TypeId} {s : Sl}
theorem sort_T {ss : List (List UInt8)} (h : OT ω w t e 1 s (ss.map encStr)) (hb : s.n < 4611686018427387904) {K : World → Prop} (hK : ∀ ω' w', Stp (One t) ω ω' w w' → OT ω' w' t e 1 s ((ss.mergeSort leS).map encStr) → K w') : sortS s w K := by
  have hlen := h.own.len
  rw [List.length_map] at hlen
  rcases h.cases with ⟨rfl, hx⟩ | ⟨g, cur, ha, hb', hn, hm, hl, ht⟩
  · have hs : ss = [] := by simpa using hx
    subst hs
    exact .inl ⟨rfl, hK ω w (Stp.refl _ _ _) (by simpa using h)⟩
  · have hbk : s.v.ownBlock = some g := by show (Value.slice s.a s.n s.c).ownBlock = _; rw [ha]; rfl
    refine .inr ⟨g, 0, ss, ha, by omega, holds_of_block hb'.blk (by rw [show ss.length = s.n * 1 by omega]; simpa using ht), hb'.blk.lt, hb, fun n os => ?_⟩
    have hg := grownBy_sorted (w := w) (g := g) (n := n) (os := os) (ss.mergeSort leS).toArray
    have st : Stp (One t) ω (ext ω w.heap.size t) w (grow (putRow encStr (Sort.ahead w n) g 0 (ss.mergeSort leS).toArray) os) := Chg.stp (grown_chg hg) fun k hk => by injection hk with hk; subst hk; exact hb'.tag
    refine hK _ _ st ⟨?_, fun k hk => ?_⟩
    · have hs : s = ⟨some ⟨g, 0, none⟩, s.n, s.c⟩ := by rw [← ha]
      have := ownsRow_sorted (w := w) (base := 0) (n := n) (os := os) (e := e) (cap := s.c) (ss := ss) (ts := ss.mergeSort leS) (by simp) (Nat.zero_le _) hb'.blk (by omega) hm (by simp; omega)
      rw [show ss.length = s.n by omega] at this
      rw [hs]; exact this
    · rw [hbk] at hk
      injection hk with hk
      subst hk
      rw [ext_old hb'.blk.lt]; exact hb'.tag
theorem encStr_ba (b : ByteArray) : encStr b.data.toList = Value.string b := by simp [encStr]
theorem le_of_less : ∀ {a b : List UInt8}, Op.bytesLess a b = true → a ≤ b
  | _, [], h => by simp [Op.bytesLess] at h
  | [], _ :: _, _ => List.nil_le _
  | x :: a, y :: b, h => by
    simp only [Op.bytesLess, Bool.or_eq_true, decide_eq_true_eq, Bool.and_eq_true, beq_iff_eq] at h
    rw [List.cons_le_cons_iff]
    rcases h with h | ⟨h1, h2⟩
    · exact .inl h
    · exact .inr ⟨h1, le_of_less h2⟩
theorem sort_up {ss ts : List (List UInt8)} (hp : ss.Perm ts) (hs : ts.Pairwise fun a b => Op.bytesLess a b = true) : ss.mergeSort leS = ts := by
  have h1 : ss.mergeSort leS = ts.mergeSort leS := mergeSort_of_perm hp
  rw [h1]
  refine List.mergeSort_of_pairwise (hs.imp fun h => ?_)
  unfold leS
  exact decide_eq_true (le_of_less h)
end Go.Proofs.YtechilkjfhpkpaaGreatDoor.Srt

namespace Go.Proofs.YtechilkjfhpkpaaGreatDoor.Ru
open Go Vm Go.RowKit Num Mem Utf Lib Lab
variable {ω ω' ωb : Tg} {w w' w0 wb : World} {t u gs gm : Nat} {T : Nat → Bool} {pl : List Lb}
theorem mapS : Tryz.prog.underlying 136 = some (.map 9 9) := by kernel_rfl
theorem tiSt : TI Tryz.prog 88 9 1 16 := TI.of (z := .string ⟨#[]⟩) (by kernel_rfl) (by kernel_rfl) rfl (by decide)
def strs (l : List ByteArray) : List Value := l.map Value.string
theorem strs_enc (l : List ByteArray) : strs l = (l.map fun b => b.data.toList).map Go.Proofs.encStr := by
  unfold strs
  rw [List.map_map]
  exact List.map_congr_left fun b _ => (Srt.encStr_ba b).symm
abbrev VT := List Lb × List Lb
def TC (g gm : Nat) (pl : List Lb) (ω : Tg) (w : World) : Prop := w.cell? ⟨g, 0, none⟩ = some (.map (some gm)) ∧ MV ω w 0 gm (pl.map encN)
theorem map_splitN {p : List Lb} {a b : AL} {x : ByteArray × Value} (h : p.map encN = a ++ x :: b) : ∃ pa q pb, p = pa ++ q :: pb ∧ a = pa.map encN ∧ x = encN q ∧ b = pb.map encN := by
  obtain ⟨pa, pr, h1, h2, h3⟩ := List.map_eq_append_iff.1 h
  cases pr with
  | nil => simp at h3
  | cons q pb =>
    simp only [List.map_cons, List.cons.injEq] at h3
    exact ⟨pa, q, pb, h1, h2.symm, h3.1.symm, h3.2.symm⟩
def KQ (i j : VT) (a : List Value) (_ : Tg) (_ : World) : Prop := ∃ q b1 b2, i.2 = b1 ++ q :: b2 ∧ j = (i.1 ++ [q], b1 ++ b2) ∧ a = [.string q.1]
theorem keys_tells {Fc : Clee} {n g : Nat} {pl : List Lb} {Ct : Nat → Bool} (h0 : Ct 0 = false) (h1 : Ct 40 = false) (hF : ∀ args K w, C.maps_Keys_1_map_string_string_string_string.cl args K w → Fc n args K w) :
    TellsG Tryz.prog Fc (.func (.func n) #[] #[.pointer (some ⟨g, 0, none⟩)]) (([], pl) : VT) KQ (fun i => i.2 = []) (TC g gm pl) (Duo 40 41) Ct := by
  intro L I Kk Q ω w hC hI hKI hy hK hQ h0'
  refine hF _ _ _ ?_
  show C.maps_Keys_1_map_string_string_string_string (.func (.yield L) #[] #[]) (some ⟨g, 0, none⟩) w (C.maps_Keys_1_map_string_string_string_string.Kt fun _ w' => Q w')
  unfold C.maps_Keys_1_map_string_string_string_string
  obtain ⟨hb, hm⟩ := hC _ ω w h0'
  refine ptr_at ⟨some gm, hb, rangeV 40 hm mapS fun r ω1 w1 k1 i1 => ?_⟩
  refine C.maps_Keys_1_map_string_string_string_string.L3_ind fun X hX => ?_
  have key : ∀ (d : Nat) (a b : List Lb) (ω : Tg) (w : World), b.length = d → I (a, b) ω w → IT ω w 40 r 0 gm (pl.map encN) (b.map encN) → X (.func (.yield L) #[] #[]) (some ⟨r, 0, none⟩) w := by
    intro d
    induction d with
    | zero =>
      intro a b ω w hd hi it
      refine hX _ _ _ ?_
      unfold C.maps_Keys_1_map_string_string_string_string.S5
      have hb : b = [] := List.eq_nil_of_length_eq_zero hd
      subst hb
      exact nextV it (fun _ => hQ ω w (hK _ ω w rfl hi)) (fun a x b ω' w' hr => by simp at hr)
    | succ d ih =>
      intro a b ω w hd hi it
      refine hX _ _ _ ?_
      unfold C.maps_Keys_1_map_string_string_string_string.S5
      refine nextV it (fun hr => by have := congrArg List.length hr; rw [List.length_map, hd] at this; simp at this) (fun ra x rb ω2 w2 hr k2 it2 en k v => en _ ?_)
      obtain ⟨pa, q, pb, e1, rfl, rfl, rfl⟩ := map_splitN hr
      have hi2 := hI _ _ _ _ _ hi k2.one
      rw [← List.map_append] at it2
      refine ⟨q.1, rfl, ?_⟩
      refine hy (a, b) (a ++ [q], pa ++ pb) _ ω2 w2 _ ⟨q, pa, pb, e1, rfl, rfl⟩ hi2 (fun ω' w' s h' => ?_) (fun ω' w' s h' => ?_)
      · refine isB_at (cond_f rfl ?_)
        exact ih _ _ ω' w' (by rw [e1] at hd; simp at hd ⊢; omega) h' (it2.stp s h1 h0)
      · exact isB_at (cond_t rfl (hQ _ _ h'))
  exact key pl.length [] pl ω1 w1 rfl (hI _ _ _ _ _ h0' (k1.non _)) i1
theorem collectK_ok {g : Nat} (hbox : w.cell? ⟨g, 0, none⟩ = some (.map (some gm))) (hmp : MV (fun _ => 0) w 0 gm (pl.map encN)) (hl : pl.length ≤ 100000) {K : Sl → World → Prop}
    (hK : ∀ r (ql : List Lb) w', Keep w w' → ql.Perm pl → Mem.Own w' w.heap.size 9 1 r (strs (namesL ql)) → K r w') : C.slices_Collect_string (.func (.func 113) #[] #[.pointer (some ⟨g, 0, none⟩)]) w K := by
  unfold C.slices_Collect_string C.slices_AppendSeq_string_string
  refine new_T (ω := fun _ => 0) 4 fun g2 ω2 w2 k2 b2 => ?_
  unfold C.slices_AppendSeq_string_string.S9 C.slices_AppendSeq_string_string.R5
  have top2 := (Top.init w).stp k2
  have hgm := hmp.lt
  refine rangeG_ok (T := Duo 2 4) (u := 3) (J := fun i ω w2 => Top w ω w2 ∧ (i.1 ++ i.2).Perm pl ∧ ∃ s, BT ω w2 4 g2 88 [Sl.v s] ∧ OT ω w2 2 9 1 s (strs (namesL i.1)))
    (E := fun e ω w => False) (keys_tells (g := g) (gm := gm) (pl := pl) rfl rfl fun _ _ _ h => h) rfl rfl ?_ ?_ ?_ ?_ ?_ ⟨top2, by simp, nilS, b2, OT.nil ..⟩ ?_ ?_
  · rintro i j a ω ω' w w' h k
    exact h
  · rintro i ω w2 ⟨top, _⟩
    obtain ⟨es, clock, hb, hs, he⟩ := hmp.ex
    exact ⟨top.k.cell hbox, ⟨es, clock, top.k.heap hb, hs, he⟩, top.z gm hgm⟩
  · rintro S hS i ω ω' w w' ⟨top, pm, s, x1, x2⟩ k
    have z : S 0 = false ∧ S 2 = false ∧ S 4 = false := by rcases hS with rfl | rfl <;> exact ⟨rfl, rfl, rfl⟩
    exact ⟨top.stp k z.1, pm, s, x1.stp k z.2.2, x2.stp k z.2.1⟩
  · rintro S hS e ω ω' w w' h k
    exact h
  · rintro ⟨a, b⟩ j args ω w6 Rr ⟨q, b1, b2, e1, rfl, rfl⟩ ⟨top6, pm, s, x16, o6⟩ hR _
    dsimp only at e1 pm o6
    subst e1
    show C.slices_AppendSeq_string_string.S7 Rr _ _ w6
    unfold C.slices_AppendSeq_string_string.S7
    have hsn : s.n = a.length := by have := o6.own.len; simp [strs, namesL] at this; omega
    have hlen : a.length + 1 ≤ 100000 := by have := pm.length_eq; simp at this; omega
    refine ptr_at <| cSl_at (s := s) (by rw [x16.cell]; rfl) ?_
    refine push_T (n := 1) tiSt o6 rfl (by intro v hv; simp at hv; subst hv; rfl) (by simp only [maxLen]; omega) (by omega) fun r7 ω7 w7 k7 o7 _ => ?_
    refine ptr_at (st_T (x16.stp k7) (by simp) fun ω8 w8 k8 b8 => ?_)
    refine hR ω8 w8 (k7.one.trans k8.two) ⟨(top6.stp k7).stp k8, by
      show (a ++ [q] ++ (b1 ++ b2)).Perm pl
      rw [List.append_assoc]
      exact (List.Perm.append_left a (List.perm_middle (l₁ := b1) (l₂ := b2) (a := q)).symm).trans pm, r7, b8, ?_⟩
    have e4 : strs (namesL (a ++ [q])) = strs (namesL a) ++ [.string q.1] := by simp [strs, namesL]
    rw [e4]; exact o7.stp k8
  · rintro ω' w' D hD hDu ⟨⟨a, b⟩, hdn, top, pm, s, x1, o⟩
    dsimp only at hdn pm o
    subst hdn
    show C.slices_AppendSeq_string_string.S2 _ _ (pushMark undef D) w'
    unfold C.slices_AppendSeq_string_string.S2
    have sp := put_stp (ω := ω') (w := w') (o := .deferred none) hDu
    refine ptr_at (cSl_at (s := s) (by rw [x1.cell]; rfl) (marks_at hD ?_))
    have tp := top.stp sp
    exact hK s a _ tp.k (by simpa using pm) (OT.new (o.stp sp) tp)
  · rintro e ω' w' D _ _ h
    exact h.elim
theorem names_srt {l : List Lb} (h : (namesL l).Nodup) : (namesL (srtN l)).Pairwise fun a b => cB a b < 0 := by
  unfold namesL
  rw [List.pairwise_map]
  exact srtN_up h
theorem keys_ok (ω : Tg) (v : Nat) (hmp : MV (fun _ => 0) w 0 gm (pl.map encN)) (hn : (namesL pl).Nodup) (hl : pl.length ≤ 100000) {K : Sl → World → Prop}
    (hK : ∀ r ω' w', Stp Non ω ω' w w' → OT ω' w' v 9 1 r (strs (namesL (srtN pl))) → K r w') : C.maps_Keys_map_string_string_string_string (some gm) w fun v35 w36 => C.slices_Sorted_string v35 w36 fun l37 w38 => K l37 w38 := by
  unfold C.maps_Keys_map_string_string_string_string
  refine newD fun g w1 k1 hg1 b1 => ?_
  unfold C.slices_Sorted_string
  refine collectK_ok (by rw [b1.cell]; rfl) (hmp.stp (k1.1.stp0 _) rfl) hl fun r ql w2 k2 pm o2 => ?_
  have k02 := Keep.trans k1.1 k2
  have o2' := o2.mono k1.1.size
  have top2 : Top w (ext (fun _ => 0) w.heap.size 2) w2 := (Top.init w).stp (k02.stp _ 2)
  have o3 : OT (ext (fun _ => 0) w.heap.size 2) w2 2 9 1 r (strs (namesL ql)) := Own.tag o2' (Nat.le_refl _) _ 2
  have hrn : r.n = ql.length := by have := o3.own.len; simp [strs, namesL] at this; omega
  have hql := pm.length_eq
  show Srt.sortS r w2 _
  rw [strs_enc] at o3
  refine Srt.sort_T o3 (by omega) fun ω' w' k' o' => ?_
  have top3 := top2.stp k'
  have hp : ((namesL ql).map fun b => b.data.toList).Perm ((namesL (srtN pl)).map fun b => b.data.toList) := ((pm.trans (srtN_perm pl).symm).map (·.1)).map _
  have hu : ((namesL (srtN pl)).map fun b => b.data.toList).Pairwise fun a b => Op.bytesLess a b = true := by
    rw [List.pairwise_map]
    refine (names_srt hn).imp fun {a b} h => ?_
    have := lessB a b
    rw [ByteArray.toList_eq, ByteArray.toList_eq] at this
    rw [this]
    have h1 := cB_cmp.vals a b
    exact decide_eq_true (by omega)
  rw [Srt.sort_up hp hu, ← strs_enc] at o'
  refine hK r (ext ω w.heap.size v) w' (top3.k.stp ω v) ⟨o'.own, fun k hk => ext_new ?_⟩
  have := o'.tag k hk
  rcases Nat.lt_or_ge k w.heap.size with hlt | hge
  · rw [top3.z k hlt] at this; cases this
  · exact hge
end Go.Proofs.YtechilkjfhpkpaaGreatDoor.Ru

namespace Go.Proofs.YtechilkjfhpkpaaGreatDoor.Ru
open Go Vm Go.RowKit Num Mem Utf Lib Lab
variable {ω ω' ωb : Tg} {w w' w0 wb : World} {t u gs gm : Nat} {T : Nat → Bool} {pl : List Lb}
theorem emptyB (b : ByteArray) : (!(b.toList == noB.toList)) = decide (b ≠ noB) := by
  rw [ByteArray.toList_eq, ByteArray.toList_eq]
  by_cases h : b = noB
  · subst h; simp
  · have : ¬ b.data.toList = noB.data.toList := fun e => h (by cases b; simp at e; simp [e])
    rw [decide_eq_true h]
    simpa using this
theorem upd_all_cons (b : List Lb) (x : Lb) (l : List Lb) : updAll b (x :: l) = updAll (updN x b) l := rfl
theorem atN_get {b : List Lb} {n : ByteArray} (h : n ∈ namesL b) : getV n (b.map encN) = some (.string (atN b n)) := by
  rw [getV_atN]
  unfold atN
  cases hf : b.find? (fun x => decide (x.1 = n)) with
  | none =>
    obtain ⟨x, hx, e⟩ := List.mem_map.1 h
    have := List.find?_eq_none.1 hf x hx
    exact absurd e (by simpa using this)
  | some x => rfl
theorem zeroS (w : World) : (zeroValue 9).run Tryz.prog w = .ok (.string noB) w := by kernel_rfl
theorem with_S11 {more l : List Lb} (top : Top w0 ω w) (hl : (namesL l).Nodup) (hm : (namesL more).Nodup) (hmp : MV ω w 5 gm ((updAll (updAll [] l) more).map encN)) (hlen : (updAll (updAll [] l) more).length ≤ 100000) (v : Nat) (hv : v = 9) {K : Sl → Value → World → Prop}
    (hK : ∀ r x ω' w', Top w0 ω' w' → ((outL l more).length ≤ 16 → x = .nilIface ∧ OT ω' w' v 99 2 r (labs (outL l more))) → (16 < (outL l more).length → r = nilS ∧ x = .iface 116 (.agg #[.int .i64 8])) → K r x w') :
    C.rules_with.S11 K (some gm) w := by
  subst hv
  unfold C.rules_with.S11 C.rules_with.S9
  have nb : (namesL (updAll (updAll [] l) more)).Nodup := updAll_names more (updAll_names l (b := []) List.nodup_nil)
  refine keys_ok ω 8 ⟨hmp.ex, rfl⟩ nb hlen fun r ω1 w1 k1 o1 => ?_
  have top1 := top.stp k1
  have hmp1 := hmp.stp k1 rfl
  have hkn : ∀ n, n ∈ namesL (srtN (updAll (updAll [] l) more)) ↔ n ∈ namesL (updAll (updAll [] l) more) := fun n => ((srtN_perm _).map (·.1)).mem_iff
  have eout := listN_out hl hm (names_srt nb) hkn
  generalize updAll (updAll [] l) more = b at *
  generalize hks : namesL (srtN b) = ks at *
  have hkl : ks.length = b.length := by rw [← hks]; unfold namesL; rw [List.length_map, (srtN_perm b).length_eq]
  have hrn : r.n = ks.length := by have := o1.own.len; simp [strs] at this; omega
  refine C.rules_with.L5_ind fun X hX => ?_
  have key : ∀ (d i : Nat) (v : Sl) (ω : Tg) (w : World), i + d = ks.length → Top w0 ω w → MV ω w 5 gm (b.map encN) → OT ω w 8 9 1 r (strs ks) → OT ω w 9 99 2 v (labs (listN b (ks.take i))) → X (some gm) v r ((r.n : Nat) : Int) (i : Int) w := by
    intro d
    induction d with
    | zero =>
      intro i v ω w hi top mp o ov
      refine hX _ _ _ _ _ _ ?_
      unfold C.rules_with.S7 C.rules_with.S2 C.rules_wrong
      rw [List.take_of_length_le (by omega), eout] at ov
      have hvn : v.n = (outL l more).length := by have := ov.own.len; rw [labs_len] at this; omega
      refine cond_d (fun h => by omega) (fun _ => cond_d (fun h => ?_) (fun h => ?_))
      · exact hK nilS _ ω w top (fun h' => by omega) (fun _ => ⟨rfl, rfl⟩)
      · exact hK v _ ω w top (fun _ => ⟨rfl, ov⟩) (fun h' => by omega)
    | succ d ih =>
      intro i v ω w hi top mp o ov
      refine hX _ _ _ _ _ _ ?_
      unfold C.rules_with.S7
      have him : i < ks.length := by omega
      have hmem : ks[i] ∈ namesL b := (hkn _).1 (List.getElem_mem him)
      have hg := atN_get hmem
      refine cond_d (fun _ => ?_) (fun h => by omega)
      refine OT.ix o (by decide) (by omega) (by omega) fun a _ _ hc => ?_
      have ca := hc 0 (.string ks[i]) (by decide) (by rw [Int.toNat_natCast, Nat.mul_one, Nat.add_zero]; simp [strs, him])
      rw [show a.add 0 = a by simp [Addr.add]] at ca
      have hlk : listN b (ks.take (i + 1)) = listN b (ks.take i) ++ (if atN b ks[i] = noB then [] else [(ks[i], atN b ks[i])]) := by
        rw [List.take_succ_eq_append_getElem him]
        unfold listN
        rw [List.filterMap_append]
        congr 1
        by_cases e : atN b ks[i] = noB
        · simp [e]
        · simp [e]
      refine cS_at ca <| rd1_V mp mapS strT zeroS (a := atN b ks[i]) (by rw [hg]; rfl) ?_
      rw [emptyB]
      have next : ∀ v' ω' w', Top w0 ω' w' → MV ω' w' 5 gm (b.map encN) → OT ω' w' 8 9 1 r (strs ks) → OT ω' w' 9 99 2 v' (labs (listN b (ks.take (i + 1)))) → X (some gm) v' r ((r.n : Nat) : Int) (IntKind.i64.wrap ((i : Int) + 1)) w' := fun v' ω' w' h1 h2 h3 h4 => by
        rw [wI64 (by omega) (by omega), show (i : Int) + 1 = ((i + 1 : Nat) : Int) by omega]
        exact ih (i + 1) v' ω' w' (by omega) h1 h2 h3 h4
      refine cond_d (fun hne => ?_) (fun he => ?_)
      · rw [if_neg hne] at hlk
        refine rd1_V mp mapS strT zeroS (a := atN b ks[i]) (by rw [hg]; rfl) ?_
        have hvn : v.n ≤ ks.length := by
          have := ov.own.len
          rw [labs_len] at this
          have h2 : (listN b (ks.take i)).length ≤ (ks.take i).length := by unfold listN; exact List.length_filterMap_le _ _
          rw [List.length_take] at h2
          omega
        refine push_T (n := 1) tiL ov rfl (by intro v hv; simp at hv; rcases hv with rfl | rfl <;> rfl) (by simp only [maxLen]; omega) (by omega) fun r2 ω2 w2 k2 o2 _ => ?_
        refine next r2 ω2 w2 (top.stp k2) (mp.stp k2 rfl) (o.stp k2) ?_
        rw [hlk, labs_app]; exact o2
      · have he : atN b ks[i] = noB := Decidable.not_not.1 he
        rw [if_pos he, List.append_nil] at hlk
        exact next v ω w top mp o (by rw [hlk]; exact ov)
  exact key ks.length 0 nilS ω1 w1 (by omega) top1 hmp1 o1 (OT.nil _ _ _ _ _)
theorem locL {a b : ByteArray} {Z : Addr → World → Prop} (hK : ∀ g w', KD w w' → w.heap.size ≤ g → Blk w' g 99 [.string a, .string b] → Z ⟨g, 0, none⟩ w') :
    G.new (.cells #[(.string (⟨#[]⟩ : ByteArray)), (.string (⟨#[]⟩ : ByteArray))] 99) w fun p w1 => G.st p (.string a) w1 fun w2 => G.st (p.add 1) (.string b) w2 fun w3 => Z p w3 :=
  newD fun g w1 k1 hg b1 => stD hg k1 b1 (by simp) fun w2 k2 b2 => stDA hg k2 b2 (by simp) fun w3 k3 b3 => hK g w3 k3 hg b3
theorem updAll_len : ∀ (l b : List Lb), (updAll b l).length ≤ b.length + l.length
  | [], b => Nat.le_refl _
  | x :: l, b => by
    have h1 := updAll_len l (updN x b)
    have h2 : ∀ b : List Lb, (updN x b).length ≤ b.length + 1 := fun b => by
      induction b with
      | nil => simp [updN]
      | cons y b ih => unfold updN; split <;> simp <;> omega
    have := h2 b
    rw [upd_all_cons, List.length_cons]; omega
theorem upd_step {x : Lb} {b : List Lb} (top : Top w0 ω w) (mp : MV ω w 5 gm (b.map encN)) {a : Addr} (c0 : w.cell? a = some (.string x.1)) (c1 : w.cell? (a.add 1) = some (.string x.2)) {Z : World → Prop}
    (hZ : ∀ ω' w', Top w0 ω' w' → MV ω' w' 5 gm ((updN x b).map encN) → Z w') :
    G.cS a w fun s53 => G.cS (a.add 1) w fun s54 => G.new (.cells #[(.string (⟨#[]⟩ : ByteArray)), (.string (⟨#[]⟩ : ByteArray))] 99) w fun p55 w56 => G.st p55 (.string s53) w56 fun w57 => G.st (p55.add 1) (.string s54) w57 fun w58 => G.cS p55 w58 fun s59 => G.cS (p55.add 1) w58 fun s60 => G.runU C.pr (Instr.mapUpdate 136 (.map (some gm)) (.string s59) (.string s60)) w58 fun w61 => Z w61 := by
  refine cS_at c0 <| cS_at c1 <| locL fun g w3 k3 hg b3 => cS_at (b := x.1) (by rw [b3.cell]; rfl) <| cS_at (b := x.2) (by rw [addr_add, b3.cell]; rfl) ?_
  have s3 := k3.1.stp ω 41
  have top3 := top.stp s3
  have mp3 := mp.stp s3 rfl
  generalize ext ω w.heap.size 41 = ω3 at *
  refine updV mp3 mapS strT fun ω4 w4 k4 m4 => hZ ω4 w4 (top3.stp k4) ?_
  rw [updN_map] at m4; exact m4
def wE (l more : List Lb) : Int := if (rt l).1 ≠ 0 then 41 else if 16 < (outL l more).length then 8 else 0
abbrev fault (e : Int) : Value := .iface 116 (.agg #[.int .i64 e])
theorem with_ok {s ms : Sl} {l more : List Lb} (ht : UTab w0) (hs : Rd w0 s 2 (labs l)) (hms : Rd w0 ms 2 (labs more)) (hm : (namesL more).Nodup) (hml : more.length ≤ 1000) {K : Sl → Value → World → Prop}
    (hK : ∀ r x w', Keep w0 w' → (wE l more ≠ 0 → r = nilS ∧ x = fault (wE l more)) → (wE l more = 0 → x = .nilIface ∧ Mem.Own w' w0.heap.size 99 2 r (labs (outL l more))) → K r x w') : C.rules_with s ms w0 K := by
  unfold C.rules_with
  refine right_ok ht hs fun w1 k1 => cond_ne (fun hne => ?_) (fun he => ?_)
  · have e : wE l more = 41 := by unfold wE; rw [if_pos hne]
    exact hK nilS _ w1 k1 (fun _ => ⟨rfl, by rw [e]⟩) (fun h => by rw [e] at h; exact absurd h (by decide))
  have hl := rt_ns he
  have hll : l.length ≤ 16 := ((rt_iff l).1 he).1
  have top1 : Top w0 (ext (fun _ => 0) w0.heap.size 1) w1 := (Top.init w0).stp (k1.stp _ 1)
  generalize ext (fun _ => 0) w0.heap.size 1 = ω1 at *
  refine mkV (ω := ω1) 5 fun gm ω2 w2 k2 m2 => ?_
  have top2 := top1.stp k2
  have hsn := rdL_n hs
  have hmn := rdL_n hms
  unfold C.rules_with.S26
  refine C.rules_with.L22_ind fun X hX => ?_
  have key : ∀ (d i : Nat) (ω : Tg) (w : World), i + d = l.length → Top w0 ω w → MV ω w 5 gm ((updAll [] (l.take i)).map encN) → X ms (some gm) s ((s.n : Nat) : Int) (i : Int) w := by
    intro d
    induction d with
    | zero =>
      intro i ω w hi top mp
      refine hX _ _ _ _ _ _ ?_
      unfold C.rules_with.S24 C.rules_with.S18
      rw [List.take_of_length_le (by omega)] at mp
      refine cond_d (fun h => by omega) (fun _ => ?_)
      refine C.rules_with.L14_ind fun X hX => ?_
      have key : ∀ (d i : Nat) (ω : Tg) (w : World), i + d = more.length → Top w0 ω w → MV ω w 5 gm ((updAll (updAll [] l) (more.take i)).map encN) → X (some gm) ms ((ms.n : Nat) : Int) (i : Int) w := by
        intro d
        induction d with
        | zero =>
          intro i ω w hi top mp
          refine hX _ _ _ _ _ ?_
          unfold C.rules_with.S16
          rw [List.take_of_length_le (by omega)] at mp
          have hlen := updAll_len more (updAll [] l)
          have hlen2 := updAll_len l []
          rw [List.length_nil] at hlen2
          refine cond_d (fun h => by omega) (fun _ => with_S11 top hl hm mp (by omega) 9 rfl fun r x ω' w' top' h1 h2 => hK r x w' top'.k (fun hne => ?_) (fun h0 => ?_))
          · have h16 : 16 < (outL l more).length := by
              rcases Nat.lt_or_ge 16 (outL l more).length with h | h
              · exact h
              · exact absurd (by unfold wE; rw [if_neg (by rw [he]; decide), if_neg (by omega)]) hne
            have e : wE l more = 8 := by unfold wE; rw [if_neg (by rw [he]; decide), if_pos h16]
            rw [e]; exact h2 h16
          · have h16 : (outL l more).length ≤ 16 := by
              rcases Nat.lt_or_ge 16 (outL l more).length with h | h
              · unfold wE at h0; rw [if_neg (by rw [he]; decide), if_pos h] at h0; exact absurd h0 (by decide)
              · exact h
            exact ⟨(h1 h16).1, OT.new (h1 h16).2 top'⟩
        | succ d ih =>
          intro i ω w hi top mp
          refine hX _ _ _ _ _ ?_
          unfold C.rules_with.S16
          have him : i < more.length := by omega
          refine cond_d (fun _ => ?_) (fun h => by omega)
          refine rdL_at (hms.keep top.k) (k := i) rfl (List.getElem?_eq_getElem him) fun a a0 a1 => upd_step top mp a0 a1 fun ω' w' top' m' => ?_
          rw [wI64 (by omega) (by omega), show (i : Int) + 1 = ((i + 1 : Nat) : Int) by omega]
          refine ih (i + 1) ω' w' (by omega) top' ?_
          rw [List.take_succ_eq_append_getElem him]
          unfold updAll at m' ⊢
          rw [List.foldl_append]; exact m'
      exact key more.length 0 ω w (by omega) top mp
    | succ d ih =>
      intro i ω w hi top mp
      refine hX _ _ _ _ _ _ ?_
      unfold C.rules_with.S24
      have him : i < l.length := by omega
      refine cond_d (fun _ => ?_) (fun h => by omega)
      refine rdL_at (hs.keep top.k) (k := i) rfl (List.getElem?_eq_getElem him) fun a a0 a1 => upd_step top mp a0 a1 fun ω' w' top' m' => ?_
      rw [wI64 (by omega) (by omega), show (i : Int) + 1 = ((i + 1 : Nat) : Int) by omega]
      refine ih (i + 1) ω' w' (by omega) top' ?_
      rw [List.take_succ_eq_append_getElem him]
      unfold updAll at m' ⊢
      rw [List.foldl_append]; exact m'
  exact key l.length 0 ω2 w2 (by omega) top2 m2
end Go.Proofs.YtechilkjfhpkpaaGreatDoor.Ru

namespace Go.Proofs.YtechilkjfhpkpaaGreatDoor.Ru
open Go Vm Go.RowKit Num Mem Utf Lib Lab
variable {ω ω' ωb : Tg} {w w' w0 wb : World} {t u gs gm : Nat} {T : Nat → Bool} {pl : List Lb}
theorem ba_eq (a b : ByteArray) : (a.toList == b.toList) = decide (a = b) := by
  rw [eqB]
  exact decide_eq_decide.2 (cB_cmp.eq a b)
theorem rdT_n {s : Sl} {l : List ByteArray} (h : Rd w s 1 (strs l)) : s.n = l.length := by have := h.2.1; simp [strs] at this; omega
theorem rdT_at {s : Sl} {l : List ByteArray} (h : Rd w s 1 (strs l)) {i : Int} {k : Nat} {b : ByteArray} (ei : i = (k : Int)) (hx : l[k]? = some b) {K : Addr → Prop} (hK : ∀ a : Addr, w.cell? a = some (.string b) → K a) : G.ix s.a s.n i 1 K := by
  have hk : k < l.length := (List.getElem?_eq_some_iff.1 hx).1
  have hn := rdT_n h
  subst ei
  refine Rd.ix h (by decide) (by omega) (by omega) fun a hc => hK a ?_
  have := hc 0 (.string b) (by decide) (by rw [Int.toNat_natCast, Nat.mul_one, Nat.add_zero]; unfold strs; rw [List.getElem?_map, hx]; rfl)
  rwa [show a.add 0 = a by simp [Addr.add]] at this
theorem rhas_ok {s : Sl} {l : List ByteArray} (h : Rd w s 1 (strs l)) (hl : l.length ≤ 100000) {n : ByteArray} {K : Bool → World → Prop} (hK : K (decide (n ∈ l)) w) : C.tocsinref04_has s n w K := by
  unfold C.tocsinref04_has C.tocsinref04_has.S9
  have hsn := rdT_n h
  refine C.tocsinref04_has.L5_ind fun X hX => ?_
  have key : ∀ (d i : Nat), i + d = l.length → decide (n ∈ l) = decide (n ∈ l.drop i) → X n s ((s.n : Nat) : Int) (i : Int) w := by
    intro d
    induction d with
    | zero =>
      intro i hi e
      refine hX _ _ _ _ _ ?_
      unfold C.tocsinref04_has.S7 C.tocsinref04_has.S2
      rw [List.drop_of_length_le (by omega)] at e
      refine cond_d (fun h => by omega) (fun _ => ?_)
      rw [e] at hK; exact hK
    | succ d ih =>
      intro i hi e
      refine hX _ _ _ _ _ ?_
      unfold C.tocsinref04_has.S7
      have him : i < l.length := by omega
      rw [List.drop_eq_getElem_cons him] at e
      refine cond_d (fun _ => ?_) (fun h => by omega)
      refine rdT_at h (k := i) rfl (List.getElem?_eq_getElem him) fun a ha => cS_at ha ?_
      rw [ba_eq]
      refine cond_d (fun hh => ?_) (fun hh => ?_)
      · rw [e, decide_eq_true (show n ∈ l[i] :: l.drop (i + 1) by rw [hh]; exact List.mem_cons_self)] at hK; exact hK
      · rw [wI64 (by omega) (by omega), show (i : Int) + 1 = ((i + 1 : Nat) : Int) by omega]
        refine ih (i + 1) (by omega) ?_
        rw [e]
        exact decide_eq_decide.2 ⟨fun h => by rcases List.mem_cons.1 h with h | h; exact absurd h.symm hh; exact h, fun h => List.mem_cons_of_mem _ h⟩
  exact key l.length 0 (by omega) rfl
theorem rpick_ok {s ns : Sl} {l : List Lb} {nl : List ByteArray} (h : Rd w0 s 2 (labs l)) (hn : Rd w0 ns 1 (strs nl)) (hl : l.length ≤ 100000) (hnl : nl.length ≤ 100000) {K : Sl → World → Prop}
    (hK : ∀ r w', Keep w0 w' → Mem.Own w' w0.heap.size 99 2 r (labs (pickN nl l)) → K r w') : C.tocsinref04_Pick s ns false w0 K := by
  unfold C.tocsinref04_Pick C.tocsinref04_Pick.S9
  have hsn := rdL_n h
  refine C.tocsinref04_Pick.L5_ind fun X hX => ?_
  have key : ∀ (d i : Nat) (v : Sl) (ω : Tg) (w : World), i + d = l.length → Top w0 ω w → OT ω w 9 99 2 v (labs (pickN nl (l.take i))) → X ns false v s ((s.n : Nat) : Int) (i : Int) w := by
    intro d
    induction d with
    | zero =>
      intro i v ω w hi top o
      refine hX _ _ _ _ _ _ _ ?_
      unfold C.tocsinref04_Pick.S7 C.tocsinref04_Pick.S2
      rw [List.take_of_length_le (by omega)] at o
      exact cond_d (fun h => by omega) (fun _ => hK v w top.k (OT.new o top))
    | succ d ih =>
      intro i v ω w hi top o
      refine hX _ _ _ _ _ _ _ ?_
      unfold C.tocsinref04_Pick.S7
      have him : i < l.length := by omega
      refine cond_d (fun _ => ?_) (fun h => by omega)
      refine rdL_at (h.keep top.k) (k := i) rfl (List.getElem?_eq_getElem him) fun a a0 a1 => cS_at a0 <| cS_at a1 ?_
      refine locL fun g w3 k3 hg b3 => cS_at (b := l[i].1) (by rw [b3.cell]; rfl) ?_
      have s3 := k3.1.stp ω 41
      have top3 := top.stp s3
      have o3 := o.stp s3
      generalize ext ω w.heap.size 41 = ω3 at *
      refine rhas_ok (hn.keep top3.k) hnl ?_
      have ep : pickN nl (l.take (i + 1)) = pickN nl (l.take i) ++ (if l[i].1 ∈ nl then [] else [l[i]]) := by
        rw [List.take_succ_eq_append_getElem him]
        unfold pickN
        rw [List.filter_append]
        congr 1
        by_cases e : l[i].1 ∈ nl
        · simp [e]
        · simp [e]
      rw [wI64 (by omega) (by omega), show (i : Int) + 1 = ((i + 1 : Nat) : Int) by omega]
      by_cases e : l[i].1 ∈ nl
      · rw [decide_eq_true e]
        rw [if_pos e, List.append_nil] at ep
        exact cond_f rfl (ih (i + 1) v ω3 w3 (by omega) top3 (by rw [ep]; exact o3))
      · rw [decide_eq_false e]
        rw [if_neg e] at ep
        refine cond_t rfl <| cS_at (b := l[i].1) (by rw [b3.cell]; rfl) <| cS_at (b := l[i].2) (by rw [addr_add, b3.cell]; rfl) ?_
        have hvn := rdL_n o3.rd
        have hpl : (pickN nl (l.take i)).length ≤ (l.take i).length := List.length_filter_le _ _
        rw [List.length_take] at hpl
        refine push_T (n := 1) tiL o3 rfl (by intro v hv; simp at hv; rcases hv with rfl | rfl <;> rfl) (by simp only [maxLen]; omega) (by omega) fun r ω4 w4 k4 o4 _ => ?_
        refine ih (i + 1) r ω4 w4 (by omega) (top3.stp k4) ?_
        rw [ep, labs_app]; exact o4
  exact key l.length 0 nilS (fun _ => 0) w0 (by omega) (Top.init w0) (OT.nil _ _ _ _ _)
theorem rfull_ok {s : Sl} {l : List Lb} (h : Rd w0 s 2 (labs l)) (hl : l.length ≤ 100000) {K : Sl → World → Prop}
    (hK : ∀ r w', Keep w0 w' → Mem.Own w' w0.heap.size 99 2 r (labs (fullN l)) → K r w') : C.tocsinref04_full s w0 K := by
  unfold C.tocsinref04_full C.tocsinref04_full.S9
  have hsn := rdL_n h
  refine C.tocsinref04_full.L5_ind fun X hX => ?_
  have key : ∀ (d i : Nat) (v : Sl) (ω : Tg) (w : World), i + d = l.length → Top w0 ω w → OT ω w 9 99 2 v (labs (fullN (l.take i))) → X v s ((s.n : Nat) : Int) (i : Int) w := by
    intro d
    induction d with
    | zero =>
      intro i v ω w hi top o
      refine hX _ _ _ _ _ ?_
      unfold C.tocsinref04_full.S7 C.tocsinref04_full.S2
      rw [List.take_of_length_le (by omega)] at o
      exact cond_d (fun h => by omega) (fun _ => hK v w top.k (OT.new o top))
    | succ d ih =>
      intro i v ω w hi top o
      refine hX _ _ _ _ _ ?_
      unfold C.tocsinref04_full.S7
      have him : i < l.length := by omega
      refine cond_d (fun _ => ?_) (fun h => by omega)
      refine rdL_at (h.keep top.k) (k := i) rfl (List.getElem?_eq_getElem him) fun a a0 a1 => cS_at a0 <| cS_at a1 ?_
      refine locL fun g w3 k3 hg b3 => cS_at (b := l[i].2) (by rw [addr_add, b3.cell]; rfl) ?_
      have s3 := k3.1.stp ω 41
      have top3 := top.stp s3
      have o3 := o.stp s3
      generalize ext ω w.heap.size 41 = ω3 at *
      have ep : fullN (l.take (i + 1)) = fullN (l.take i) ++ (if l[i].2 ≠ noB then [l[i]] else []) := by
        rw [List.take_succ_eq_append_getElem him]
        unfold fullN
        rw [List.filter_append]
        congr 1
        by_cases e : l[i].2 = noB
        · simp [e]
        · simp [e]
      rw [emptyB, wI64 (by omega) (by omega), show (i : Int) + 1 = ((i + 1 : Nat) : Int) by omega]
      refine cond_d (fun e => ?_) (fun e => ?_)
      · rw [if_pos e] at ep
        refine cS_at (b := l[i].1) (by rw [b3.cell]; rfl) <| cS_at (b := l[i].2) (by rw [addr_add, b3.cell]; rfl) ?_
        have hvn := rdL_n o3.rd
        have hpl : (fullN (l.take i)).length ≤ (l.take i).length := List.length_filter_le _ _
        rw [List.length_take] at hpl
        refine push_T (n := 1) tiL o3 rfl (by intro v hv; simp at hv; rcases hv with rfl | rfl <;> rfl) (by simp only [maxLen]; omega) (by omega) fun r ω4 w4 k4 o4 _ => ?_
        refine ih (i + 1) r ω4 w4 (by omega) (top3.stp k4) ?_
        rw [ep, labs_app]; exact o4
      · rw [if_neg e, List.append_nil] at ep
        exact ih (i + 1) v ω3 w3 (by omega) top3 (by rw [ep]; exact o3)
  exact key l.length 0 nilS (fun _ => 0) w0 (by omega) (Top.init w0) (OT.nil _ _ _ _ _)
theorem labs_take (l : List Lb) (n : Nat) : (labs l).take (n * 2) = labs (l.take n) := by
  have e : l = l.take n ++ l.drop n := (List.take_append_drop n l).symm
  rcases Nat.lt_or_ge n l.length with h | h
  · conv => lhs; rw [e, labs_app, List.take_append_of_le_length (by rw [labs_len, List.length_take]; omega), List.take_of_length_le (by rw [labs_len, List.length_take]; omega)]
  · rw [List.take_of_length_le (by rw [labs_len]; omega), List.take_of_length_le h]
theorem rtwice_ok {s : Sl} {l : List Lb} (h : Rd w0 s 2 (labs l)) (hl : l.length ≤ 100000) (hn : (namesL l).Nodup) {K : Bool → World → Prop} (hK : ∀ w', Keep w0 w' → K false w') : C.tocsinref04_twice s w0 K := by
  unfold C.tocsinref04_twice C.tocsinref04_twice.S20
  have hsn := rdL_n h
  refine C.tocsinref04_twice.L5_ind fun X hX => ?_
  have key : ∀ (d i : Nat) (w : World), i + d = l.length → Keep w0 w → X s s ((s.n : Nat) : Int) (i : Int) w := by
    intro d
    induction d with
    | zero =>
      intro i w hi k
      refine hX _ _ _ _ _ ?_
      unfold C.tocsinref04_twice.S18 C.tocsinref04_twice.S2
      exact cond_d (fun h => by omega) (fun _ => hK w k)
    | succ d ih =>
      intro i w hi k
      refine hX _ _ _ _ _ ?_
      unfold C.tocsinref04_twice.S18 C.tocsinref04_twice.S15
      have him : i < l.length := by omega
      refine cond_d (fun _ => ?_) (fun h => by omega)
      refine rdL_at (h.keep k) (k := i) rfl (List.getElem?_eq_getElem him) fun a a0 a1 => cS_at a0 <| cS_at a1 ?_
      refine locL fun g w3 k3 hg b3 => ?_
      have k03 := Keep.trans k k3.1
      refine Rd.slc h (lo := 0) (hi := i) (by omega) (by omega) rfl rfl fun q hq hqn _ => ?_
      rw [Nat.zero_mul, List.drop_zero, Nat.sub_zero, labs_take] at hq
      rw [Nat.sub_zero] at hqn
      refine C.tocsinref04_twice.L11_ind fun Y hY => ?_
      have inner : ∀ (d j : Nat) (w : World), j + d = i → Keep w3 w → Y s (some ⟨g, 0, none⟩) s ((s.n : Nat) : Int) (i : Int) q ((q.n : Nat) : Int) (j : Int) w := by
        intro d
        induction d with
        | zero =>
          intro j w hj k4
          refine hY _ _ _ _ _ _ _ _ _ ?_
          unfold C.tocsinref04_twice.S13 C.tocsinref04_twice.S7
          refine cond_d (fun h => by omega) (fun _ => ?_)
          rw [wI64 (by omega) (by omega), show (i : Int) + 1 = ((i + 1 : Nat) : Int) by omega]
          exact ih (i + 1) w (by omega) (Keep.trans k03 k4)
        | succ d ihd =>
          intro j w hj k4
          refine hY _ _ _ _ _ _ _ _ _ ?_
          unfold C.tocsinref04_twice.S13
          refine cond_d (fun _ => ?_) (fun h => by omega)
          have hjl : (l.take i)[j]? = some (l[j]'(by omega)) := by rw [List.getElem?_take_of_lt (by omega)]; exact List.getElem?_eq_getElem _
          refine rdL_at (hq.keep (Keep.trans k03 k4)) (k := j) rfl hjl fun a a0 a1 => cS_at a0 <| cS_at a1 ?_
          refine locL fun g5 w5 k5 hg5 b5 => ?_
          have b35 := (b3.keep k4).keep k5.1
          refine ptr_at <| cS_at (b := l[i].1) (by rw [b35.cell]; rfl) <| cS_at (b := (l[j]'(by omega)).1) (by rw [b5.cell]; rfl) ?_
          rw [ba_eq]
          refine cond_f (decide_eq_false fun e => ?_) ?_
          · have := List.pairwise_iff_getElem.1 hn j i (by unfold namesL; rw [List.length_map]; omega) (by unfold namesL; rw [List.length_map]; omega) (by omega)
            unfold namesL at this
            rw [List.getElem_map, List.getElem_map] at this
            exact this e.symm
          · rw [wI64 (by omega) (by omega), show (j : Int) + 1 = ((j + 1 : Nat) : Int) by omega]
            exact ihd (j + 1) w5 (by omega) (Keep.trans k4 k5.1)
      exact inner i 0 w3 (by omega) (Keep.refl w3)
  exact key l.length 0 w0 (by omega) (Keep.refl w0)
theorem insN_at {x : Lb} : ∀ {A B : List Lb}, (∀ a ∈ A, ¬ cB x.1 a.1 < 0) → (∀ b ∈ B, cB x.1 b.1 < 0) → insN x (A ++ B) = A ++ x :: B
  | [], [], _, _ => rfl
  | [], b :: B, _, h => by rw [List.nil_append, insN, if_pos (h b (List.mem_cons_self ..))]; rfl
  | a :: A, B, h1, h2 => by
    rw [List.cons_append, insN, if_neg (h1 a (List.mem_cons_self ..)), insN_at (fun y hy => h1 y (List.mem_cons_of_mem _ hy)) h2]; rfl
theorem labs_set : ∀ (l : List Lb) (k : Nat) (p : Lb), ((labs l).set (k * 2 + 0) (.string p.1)).set (k * 2 + 1) (.string p.2) = labs (l.set k p)
  | [], k, p => by simp [labs]
  | x :: l, 0, p => rfl
  | x :: l, k + 1, p => by
    have ih := labs_set l k p
    rw [Nat.add_zero] at ih
    have e : ∀ (y : Lb) (m : List Lb), labs (y :: m) = .string y.1 :: .string y.2 :: labs m := fun _ _ => rfl
    rw [e, show (k + 1) * 2 + 0 = (k * 2 + 0) + 1 + 1 by omega, show (k + 1) * 2 + 1 = (k * 2 + 1) + 1 + 1 by omega, List.set_cons_succ, List.set_cons_succ, List.set_cons_succ, List.set_cons_succ, ih, List.set_cons_succ, e]
theorem stL_ok {t : Nat} {s : Sl} {l : List Lb} (h : OT ω w t 99 2 s (labs l)) {i : Int} {k : Nat} (ei : i = (k : Int)) (hk : k < l.length) (p : Lb) {Z : World → Prop}
    (hK : ∀ ω' w', Stp (Mem.One t) ω ω' w w' → OT ω' w' t 99 2 s (labs (l.set k p)) → Z w') :
    G.ix s.a s.n i 2 fun a => G.st a (.string p.1) w fun w1 => G.st (a.add 1) (.string p.2) w1 Z := by
  have hn := rdL_n h.rd
  refine OT.at_ h ei (by omega) fun a ha _ _ _ => ?_
  have e0 : a = a.add 0 := by simp [Addr.add]
  have key : G.st (a.add 0) (.string p.1) w fun w1 => G.st (a.add 1) (.string p.2) w1 Z := by
    refine OT.st h (i := k) (j := 0) (by omega) (by decide) _ ha fun ω1 w1 k1 o1 => ?_
    refine OT.st o1 (i := k) (j := 1) (by omega) (by decide) _ ha fun ω2 w2 k2 o2 => hK ω2 w2 (k1.trans k2) ?_
    rw [labs_set] at o2
    exact o2
  rwa [← e0] at key
theorem ins_step {α : Type} (A : List α) (k : Nat) (hk : k < A.length) (z : α) : (A.take (k + 1) ++ z :: A.drop (k + 1)).set (k + 1) A[k] = A.take k ++ A[k] :: A.drop k := by
  have e : (A.take (k + 1)).length = k + 1 := by rw [List.length_take]; omega
  rw [List.set_append_right _ _ (by omega), e, Nat.sub_self, List.set_cons_zero, List.take_succ_eq_append_getElem hk, List.append_assoc, List.drop_eq_getElem_cons hk]
  rfl
end Go.Proofs.YtechilkjfhpkpaaGreatDoor.Ru

namespace Go.Proofs.YtechilkjfhpkpaaGreatDoor.Ru
open Go Vm Go.RowKit Num Mem Utf Lib Lab
variable {ω ω' ωb : Tg} {w w' w0 wb : World} {t u gs gm : Nat} {T : Nat → Bool} {pl : List Lb}
theorem srtN_take {l : List Lb} {i : Nat} (h : i < l.length) : srtN (l.take (i + 1)) = insN l[i] (srtN (l.take i)) := by
  rw [List.take_succ_eq_append_getElem h]; unfold srtN; rw [List.foldl_append]; rfl
theorem gtB (a b : ByteArray) : (!((Op.bytesLess a.toList b.toList) || (a.toList == b.toList))) = decide (cB b a < 0) := by
  rw [lessB, eqB]
  have h1 := cB_cmp.vals a b
  have h2 := cB_cmp.anti a b
  rcases h1 with h | h | h <;> rw [h] at h2 ⊢ <;> rw [h2] <;> rfl
theorem rsorted_ok {s : Sl} {q : List Lb} (h : Rd w0 s 2 (labs q)) (hl : q.length ≤ 100000) (hn : (namesL q).Nodup) {K : Sl → World → Prop}
    (hK : ∀ r w', Keep w0 w' → Mem.Own w' w0.heap.size 99 2 r (labs (srtN q)) → K r w') : C.tocsinref04_sorted s w0 K := by
  have hsn := rdL_n h
  unfold C.tocsinref04_sorted C.tocsinref04_sorted.S23
  refine C.tocsinref04_sorted.L5_ind fun X hX => ?_
  have key : ∀ (d i : Nat) (out : Sl) (ω : Tg) (w : World), i + d = q.length → Top w0 ω w → OT ω w 2 99 2 out (labs (srtN (q.take i))) → X out s ((s.n : Nat) : Int) (i : Int) w := by
    intro d
    induction d with
    | zero =>
      intro i out ω w hi top o
      refine hX _ _ _ _ _ ?_
      unfold C.tocsinref04_sorted.S21 C.tocsinref04_sorted.S2
      refine cond_d (fun h => by omega) (fun _ => ?_)
      rw [List.take_of_length_le (by omega)] at o
      exact hK out w top.k (OT.new o top)
    | succ d ih =>
      intro i out ω w hi top o
      refine hX _ _ _ _ _ ?_
      unfold C.tocsinref04_sorted.S21 C.tocsinref04_sorted.S18
      have hiq : i < q.length := by omega
      have esr := srtN_take hiq
      have hAl : (srtN (q.take i)).length = i := by rw [(srtN_perm _).length_eq, List.length_take]; omega
      have upA : (srtN (q.take i)).Pairwise ltN := srtN_up (((List.take_sublist i q).map (fun x : Lb => x.1)).nodup hn)
      have hmem : ∀ y ∈ srtN (q.take i), y ∈ q.take i := fun y hy => (srtN_perm _).mem_iff.1 hy
      have hneq : ∀ y ∈ srtN (q.take i), y.1 ≠ q[i].1 := fun y hy e => by
        obtain ⟨j, hj, ej⟩ := List.mem_iff_getElem.1 (hmem y hy)
        rw [List.length_take] at hj
        rw [List.getElem_take] at ej
        have := List.pairwise_iff_getElem.1 hn j i (by unfold namesL; rw [List.length_map]; omega) (by unfold namesL; rw [List.length_map]; omega) (by omega)
        unfold namesL at this
        rw [List.getElem_map, List.getElem_map] at this
        exact this (by rw [ej]; exact e)
      generalize srtN (q.take i) = A at *
      refine cond_d (fun _ => ?_) (fun h => by omega)
      refine rdL_at (h.keep top.k) (k := i) rfl (List.getElem?_eq_getElem hiq) fun a e0 e1 => cS_at e0 <| cS_at e1 ?_
      refine locL fun g w3 k3 hg b3 => ?_
      have s3 := k3.1.stp ω 7
      have bt : BT (ext ω w.heap.size 7) w3 7 g _ _ := ⟨b3, ext_new hg⟩
      have top3 := top.stp s3
      have o3 := o.stp s3
      generalize ext ω w.heap.size 7 = ω3 at *
      refine cS_at (b := q[i].1) (by rw [bt.cell]; rfl) <| cS_at (b := q[i].2) (by rw [addr_add, bt.cell]; rfl) ?_
      have hon := rdL_n o.rd
      refine push_T tiL o3 (n := 1) rfl (by intro v hv; simp at hv; rcases hv with rfl | rfl <;> rfl) (by simp only [maxLen]; omega) (by omega) fun r ω4 w4 k4 o4 _ => ?_
      have top4 := top3.stp k4
      have b4 := bt.stp k4
      have e4 : labs A ++ [.string q[i].1, .string q[i].2] = labs (A ++ [q[i]]) := by rw [labs_app]; rfl
      have o4' : OT ω4 w4 2 99 2 r (labs (A.take i ++ q[i] :: A.drop i)) := by
        rw [List.take_of_length_le (by omega), List.drop_of_length_le (by omega), ← e4]; exact o4
      have hrn : r.n = A.length + 1 := by have := rdL_n o4'.rd; rw [List.length_append, List.length_cons, List.length_take, List.length_drop] at this; omega
      refine C.tocsinref04_sorted.L13_ind fun Y hY => ?_
      have done : ∀ (k : Nat) (z : Lb) (ω : Tg) (w : World), k ≤ i → Top w0 ω w → BT ω w 7 g 99 [.string q[i].1, .string q[i].2] → OT ω w 2 99 2 r (labs (A.take k ++ z :: A.drop k)) → (∀ b ∈ A.drop k, cB q[i].1 b.1 < 0) → (∀ b ∈ A.take k, ¬ cB q[i].1 b.1 < 0) →
          C.tocsinref04_sorted.S10 K X r (some ⟨g, 0, none⟩) (k : Int) s ((s.n : Nat) : Int) (i : Int) w := by
        intro k z ω w hki top bt o h1 h2
        unfold C.tocsinref04_sorted.S10 C.tocsinref04_sorted.S7
        refine ptr_at <| cS_at (b := q[i].1) (by rw [bt.cell]; rfl) <| cS_at (b := q[i].2) (by rw [addr_add, bt.cell]; rfl) ?_
        have hkl : (A.take k).length = k := by rw [List.length_take]; omega
        refine stL_ok (k := k) o rfl (by rw [List.length_append, hkl, List.length_cons]; omega) q[i] fun ω6 w6 k6 o6 => ?_
        rw [List.set_append_right _ _ (by omega), hkl, Nat.sub_self, List.set_cons_zero] at o6
        rw [wI64 (by omega) (by omega), show (i : Int) + 1 = ((i + 1 : Nat) : Int) by omega]
        refine ih (i + 1) r ω6 w6 (by omega) (top.stp k6) ?_
        have eA := insN_at h2 h1
        rw [List.take_append_drop] at eA
        rw [esr, eA]
        exact o6
      have loop : ∀ (k : Nat) (z : Lb) (ω : Tg) (w : World), k ≤ i → Top w0 ω w → BT ω w 7 g 99 [.string q[i].1, .string q[i].2] → OT ω w 2 99 2 r (labs (A.take k ++ z :: A.drop k)) → (∀ b ∈ A.drop k, cB q[i].1 b.1 < 0) →
          Y r (some ⟨g, 0, none⟩) (k : Int) s ((s.n : Nat) : Int) (i : Int) w := by
        intro k
        induction k with
        | zero =>
          intro z ω w hki top bt o h1
          refine hY _ _ _ _ _ _ _ ?_
          unfold C.tocsinref04_sorted.S15
          have sd := drew_stp ω w
          exact cond_d (fun h => by omega) (fun _ => done 0 z ω _ (by omega) (top.stp sd) (bt.stp sd) (o.stp sd) h1 (by simp))
        | succ k ihk =>
          intro z ω w hki top bt o h1
          refine hY _ _ _ _ _ _ _ ?_
          unfold C.tocsinref04_sorted.S15
          have sd := drew_stp ω w
          have topd := top.stp sd
          have bd := bt.stp sd
          have od := o.stp sd
          have hkA : k < A.length := by omega
          have hkl : (A.take (k + 1)).length = k + 1 := by rw [List.length_take]; omega
          have hgk : (A.take (k + 1) ++ z :: A.drop (k + 1))[k]? = some A[k] := by
            rw [List.getElem?_append_left (by omega), List.getElem?_take, if_pos (by omega), List.getElem?_eq_getElem hkA]
          have ek : IntKind.i64.wrap (((k + 1 : Nat) : Int) - 1) = (k : Int) := by rw [wI64 (by omega) (by omega)]; omega
          refine cond_d (fun _ => ?_) (fun h => by omega)
          rw [ek]
          refine rdL_at od.rd (k := k) rfl hgk fun p f0 f1 => cS_at f0 <| ptr_at <| cS_at (b := q[i].1) (by rw [bd.cell]; rfl) ?_
          rw [gtB]
          refine cond_d (fun hlt => ?_) (fun hge => ?_)
          · refine rdL_at od.rd (k := k) rfl hgk fun p f0 f1 => cS_at f0 <| cS_at f1 ?_
            refine stL_ok (k := k + 1) od rfl (by rw [List.length_append, hkl, List.length_cons]; omega) A[k] fun ω6 w6 k6 o6 => ?_
            rw [ins_step A k hkA z] at o6
            refine ihk A[k] ω6 w6 (by omega) (topd.stp k6) (bd.stp k6) o6 fun b hb => ?_
            rw [List.drop_eq_getElem_cons hkA] at hb
            rcases List.mem_cons.1 hb with rfl | hb
            · exact hlt
            · exact h1 b hb
          · refine done (k + 1) z ω _ hki topd bd od h1 fun b hb hlt => ?_
            obtain ⟨j, hj, ej⟩ := List.mem_iff_getElem.1 hb
            rw [List.length_take] at hj
            rw [List.getElem_take] at ej
            by_cases e : j = k
            · subst e; rw [← ej] at hlt; exact hge hlt
            · have := List.pairwise_iff_getElem.1 upA j k (by omega) hkA (by omega)
              rw [ej] at this
              exact hge (cB_cmp.trans _ _ _ hlt this)
      rw [hon, hAl]
      exact loop i q[i] ω4 w4 (Nat.le_refl _) top4 b4 o4' (by rw [List.drop_of_length_le (by omega)]; simp)
  exact key q.length 0 nilS (fun _ => 0) w0 (by omega) (Top.init w0) (OT.nil _ _ _ _ _)
theorem own_keep {B : Nat} {e : TypeId} {sz : Nat} {s : Sl} {xs : List Value} (h : Mem.Own w B e sz s xs) (k : Keep w w') (hB : w0.heap.size ≤ B) : Mem.Own w' w0.heap.size e sz s xs := (Own.keep h k).mono hB
theorem rmake_ok {s : Sl} {q : List Lb} (h : Rd w0 s 2 (labs q)) (hl : q.length ≤ 100000) (hn : (namesL q).Nodup) (hr : (rt (srtN (fullN q))).1 = 0) {K : Sl → Int → World → Prop}
    (hK : ∀ r w', Keep w0 w' → Mem.Own w' w0.heap.size 99 2 r (labs (srtN (fullN q))) → K r 0 w') : C.tocsinref04_Make s w0 K := by
  unfold C.tocsinref04_Make
  refine rtwice_ok h hl hn fun w1 k1 => cond_f rfl ?_
  refine rfull_ok (h.keep k1) hl fun r2 w2 k2 o2 => ?_
  have hfl : (fullN q).length ≤ q.length := List.length_filter_le _ _
  have hfn : (namesL (fullN q)).Nodup := ((List.filter_sublist (p := fun x : Lb => decide (x.2 ≠ noB))).map (fun x : Lb => x.1)).nodup hn
  refine rsorted_ok (Own.rd o2) (by omega) hfn fun r3 w3 k3 o3 => ?_
  have k13 := Keep.trans k2 k3
  have hsz : ∀ x ∈ srtN (fullN q), x.2.size ≤ 140737488355300 := fun x hx => by
    have := ((rt_short hr).2 x hx).2; omega
  refine rright_ok (Own.rd o3) hsz fun w4 k4 => cond_ne (fun h => absurd hr h) (fun _ => ?_)
  exact hK r3 w4 (Keep.trans k1 (Keep.trans k13 k4)) (own_keep o3 k4 (Keep.trans k1 k2).size)
theorem rwith_ok {s ms : Sl} {l more : List Lb} (hs : Rd w0 s 2 (labs l)) (hms : Rd w0 ms 2 (labs more)) (hsz : ∀ x ∈ l, x.2.size ≤ 140737488355300) (hm : (namesL more).Nodup) (hml : more.length ≤ 1000) (hg : ∀ x ∈ more, goodL x) {K : Sl → Int → World → Prop}
    (hK : ∀ r w', Keep w0 w' → (wE l more ≠ 0 → r = nilS) → (wE l more = 0 → Mem.Own w' w0.heap.size 99 2 r (labs (outL l more))) → K r (wE l more) w') : C.tocsinref19_with s ms w0 K := by
  unfold C.tocsinref19_with
  refine rright_ok hs hsz fun w1 k1 => cond_ne (fun hne => ?_) (fun he => ?_)
  · have e : wE l more = 41 := by unfold wE; rw [if_pos hne]
    have := hK nilS w1 k1 (fun _ => rfl) (fun h => by rw [e] at h; exact absurd h (by decide))
    rw [e] at this; exact this
  have hl := rt_ns he
  have hll : l.length ≤ 16 := ((rt_iff l).1 he).1
  have hmn := rdL_n hms
  have top1 : Top w0 (ext (fun _ => 0) w0.heap.size 1) w1 := (Top.init w0).stp (k1.stp _ 1)
  generalize ext (fun _ => 0) w0.heap.size 1 = ω1 at *
  unfold C.tocsinref19_with.S9
  refine C.tocsinref19_with.L5_ind fun X hX => ?_
  have key : ∀ (d i : Nat) (v : Sl) (ω : Tg) (w : World), i + d = more.length → Top w0 ω w → OT ω w 3 9 1 v (strs (namesL (more.take i))) → X s ms v (i : Int) w := by
    intro d
    induction d with
    | zero =>
      intro i v ω w hi top o
      refine hX _ _ _ _ _ ?_
      unfold C.tocsinref19_with.S7 C.tocsinref19_with.S2
      rw [List.take_of_length_le (by omega)] at o
      refine cond_d (fun h => by omega) (fun _ => ?_)
      refine rpick_ok (hs.keep top.k) o.rd (by omega) (by unfold namesL; rw [List.length_map]; omega) fun r2 w2 k2 o2 => ?_
      have hpl : (pickN (namesL more) l).length ≤ l.length := List.length_filter_le _ _
      have hrn := rdL_n (Own.rd o2)
      have top2 : Top w0 (ext ω w.heap.size 9) w2 := top.stp (k2.stp ω 9)
      have o2' : OT (ext ω w.heap.size 9) w2 9 99 2 r2 (labs (pickN (namesL more) l)) := Own.tag o2 (Nat.le_refl _) ω 9
      generalize ext ω w.heap.size 9 = ω2 at *
      refine app_T tiL o2' (hms.keep top2.k) labs_one (by simp only [maxLen]; omega) (by omega) fun r3 ω3 w3 k3 o3 hn3 => ?_
      have top3 := top2.stp k3
      rw [← labs_app] at o3
      have hrn3 := rdL_n o3.rd
      have hfull : fullN (pickN (namesL more) l ++ more) = pickN (namesL more) l ++ more := by
        unfold fullN
        rw [List.filter_eq_self]
        intro x hx
        refine decide_eq_true ?_
        rcases List.mem_append.1 hx with h | h
        · exact good_ne (((rt_iff l).1 he).2.1 x (mem_pickN.1 h).1)
        · exact good_ne (hg x h)
      have hlen : (outL l more).length = (pickN (namesL more) l ++ more).length := by unfold outL; rw [hfull, (srtN_perm _).length_eq]
      refine cond_d (fun hb => ?_) (fun hb => ?_)
      · have e : wE l more = 8 := by unfold wE; rw [if_neg (by rw [he]; decide), if_pos (by omega)]
        have := hK nilS w3 top3.k (fun _ => rfl) (fun h => by rw [e] at h; exact absurd h (by decide))
        rw [e] at this; exact this
      · have h16 : (outL l more).length ≤ 16 := by omega
        have e : wE l more = 0 := by unfold wE; rw [if_neg (by rw [he]; decide), if_neg (by omega)]
        refine rmake_ok o3.rd (by omega) (both_names hl hm) (outL_rt he hm (fun x hx _ => hg x hx) h16) fun r4 w4 k4 o4 => ?_
        have := hK r4 w4 (Keep.trans top3.k k4) (fun h => absurd e h) (fun _ => o4.mono top3.k.size)
        rw [e] at this; exact this
    | succ d ih =>
      intro i v ω w hi top o
      refine hX _ _ _ _ _ ?_
      unfold C.tocsinref19_with.S7
      have him : i < more.length := by omega
      refine cond_d (fun _ => ?_) (fun h => by omega)
      refine rdL_at (hms.keep top.k) (k := i) rfl (List.getElem?_eq_getElem him) fun a a0 _ => cS_at a0 ?_
      have hvn := rdT_n o.rd
      unfold namesL at hvn
      rw [List.length_map, List.length_take] at hvn
      refine push_T (n := 1) tiSt o rfl (by intro v hv; simp at hv; subst hv; rfl) (by simp only [maxLen]; omega) (by omega) fun r ω4 w4 k4 o4 _ => ?_
      rw [wI64 (by omega) (by omega), show (i : Int) + 1 = ((i + 1 : Nat) : Int) by omega]
      refine ih (i + 1) r ω4 w4 (by omega) (top.stp k4) ?_
      have e : strs (namesL (more.take (i + 1))) = strs (namesL (more.take i)) ++ [.string more[i].1] := by rw [List.take_succ_eq_append_getElem him]; unfold strs namesL; rw [List.map_append, List.map_append]; rfl
      rw [e]; exact o4
  exact key more.length 0 nilS ω1 w1 (by omega) top1 (OT.nil _ _ _ _ _)
end Go.Proofs.YtechilkjfhpkpaaGreatDoor.Ru

namespace Go.Proofs.YtechilkjfhpkpaaGreatDoor.Ru
open Go Vm Go.RowKit Num Mem Utf Lib Lab
variable {ω ω' ωb : Tg} {w w' w0 wb : World} {t u gs gm : Nat} {T : Nat → Bool} {pl : List Lb}
theorem ba_ne {a b : ByteArray} : (a.toList == b.toList) = decide (a = b) := ba_eq a b
def getF (n : ByteArray) : List Lb → ByteArray
  | [] => ⟨#[]⟩
  | p :: r => if p.1 = n then p.2 else getF n r
theorem get_ok {s : Sl} {m : List Lb} (h : Rd w0 s 2 (labs m)) (hl : m.length ≤ 100000000) {n : ByteArray} {K : ByteArray → World → Prop} (hK : ∀ w', Keep w0 w' → K (getF n m) w') : C.labels_Get s n w0 K := by
  have hsn := rdL_n h
  unfold C.labels_Get C.labels_Get.S9
  refine C.labels_Get.L5_ind fun X hX => ?_
  have key : ∀ (d i : Nat) (w : World), i + d = m.length → Keep w0 w → getF n (m.drop i) = getF n m → X n s ((s.n : Nat) : Int) (i : Int) w := by
    intro d
    induction d with
    | zero =>
      intro i w hi k e
      refine hX _ _ _ _ _ ?_
      unfold C.labels_Get.S7 C.labels_Get.S2
      refine cond_d (fun h => by omega) (fun _ => ?_)
      rw [List.drop_of_length_le (by omega)] at e
      have := hK w k
      rw [← e] at this
      exact this
    | succ d ih =>
      intro i w hi k e
      refine hX _ _ _ _ _ ?_
      unfold C.labels_Get.S7
      have him : i < m.length := by omega
      have hx : m[i]? = some m[i] := List.getElem?_eq_getElem him
      rw [List.drop_eq_getElem_cons him, getF] at e
      refine cond_d (fun _ => ?_) (fun h => by omega)
      refine rdL_at (h.keep k) (k := i) rfl hx fun a a0 a1 => cS_at a0 <| cS_at a1 ?_
      refine locL fun g w3 k3 hg b3 => cS_at (b := m[i].1) (by rw [b3.cell]; rfl) ?_
      have k03 := Keep.trans k k3.1
      rw [ba_ne]
      refine cond_d (fun he => ?_) (fun he => ?_)
      · rw [if_pos he] at e
        refine cS_at (b := m[i].2) (by rw [addr_add, b3.cell]; rfl) ?_
        rw [e]; exact hK w3 k03
      · rw [if_neg he] at e
        rw [wI64 (by omega) (by omega), show (i : Int) + 1 = ((i + 1 : Nat) : Int) by omega]
        exact ih (i + 1) w3 (by omega) k03 e
  exact key m.length 0 w0 (by omega) (Keep.refl w0) rfl
theorem rget_ok {s : Sl} {m : List Lb} (h : Rd w0 s 2 (labs m)) (hl : m.length ≤ 100000000) {n : ByteArray} {K : ByteArray → World → Prop} (hK : ∀ w', Keep w0 w' → K (getF n m) w') : C.tocsinref04_Get s n w0 K := by
  have hsn := rdL_n h
  unfold C.tocsinref04_Get C.tocsinref04_Get.S9
  refine C.tocsinref04_Get.L5_ind fun X hX => ?_
  have key : ∀ (d i : Nat) (w : World), i + d = m.length → Keep w0 w → getF n (m.drop i) = getF n m → X n s ((s.n : Nat) : Int) (i : Int) w := by
    intro d
    induction d with
    | zero =>
      intro i w hi k e
      refine hX _ _ _ _ _ ?_
      unfold C.tocsinref04_Get.S7 C.tocsinref04_Get.S2
      refine cond_d (fun h => by omega) (fun _ => ?_)
      rw [List.drop_of_length_le (by omega)] at e
      have := hK w k
      rw [← e] at this
      exact this
    | succ d ih =>
      intro i w hi k e
      refine hX _ _ _ _ _ ?_
      unfold C.tocsinref04_Get.S7
      have him : i < m.length := by omega
      have hx : m[i]? = some m[i] := List.getElem?_eq_getElem him
      rw [List.drop_eq_getElem_cons him, getF] at e
      refine cond_d (fun _ => ?_) (fun h => by omega)
      refine rdL_at (h.keep k) (k := i) rfl hx fun a a0 a1 => cS_at a0 <| cS_at a1 ?_
      refine locL fun g w3 k3 hg b3 => cS_at (b := m[i].1) (by rw [b3.cell]; rfl) ?_
      have k03 := Keep.trans k k3.1
      rw [ba_ne]
      refine cond_d (fun he => ?_) (fun he => ?_)
      · rw [if_pos he] at e
        refine cS_at (b := m[i].2) (by rw [addr_add, b3.cell]; rfl) ?_
        rw [e]; exact hK w3 k03
      · rw [if_neg he] at e
        rw [wI64 (by omega) (by omega), show (i : Int) + 1 = ((i + 1 : Nat) : Int) by omega]
        exact ih (i + 1) w3 (by omega) k03 e
  exact key m.length 0 w0 (by omega) (Keep.refl w0) rfl
theorem metric_ok {s : ByteArray} {K : Bool → World → Prop} (hK : ∀ w', Keep w0 w' → K (namedB (Utf.bytes s) 256 true) w') : C.labels_Metric s w0 K := by
  unfold C.labels_Metric
  exact named_ok (most := 256) rfl (by decide) fun w' k => hK w' k
theorem ok58 {c : Nat} (h1 : letterB c = false) (h2 : digitB c = false) : okB true c = (c == 58) := by unfold okB; rw [h1, h2]; simp
theorem okT {c : Nat} (h : letterB c = true ∨ digitB c = true) : okB true c = true := by unfold okB; rcases h with h | h <;> rw [h] <;> simp
theorem dig58 : digitB 58 = false := by decide
theorem rmetric_ok {s : ByteArray} {K : Bool → World → Prop} (hK : K (namedB (Utf.bytes s) 256 true) w0) : C.tocsinref04_Metric s w0 K := by
  have hsz := size_eq s
  have hl : (Utf.bytes s).length = s.size := hsz.symm
  unfold C.tocsinref04_Metric
  have no : namedB (Utf.bytes s) 256 true = false → K false w0 := fun h => by rwa [h] at hK
  have etl : s.toList = Utf.bytes s := ByteArray.toList_eq s
  have e0 : (⟨#[]⟩ : ByteArray).toList = [] := by rw [ByteArray.toList_eq]
  rw [etl, e0]
  refine cond_of (fun h => no ?_) (fun h => ?_)
  · have : Utf.bytes s = [] := by simpa using h
    unfold namedB; rw [this]; rfl
  have hne : Utf.bytes s ≠ [] := by intro e; rw [e] at h; simp at h
  have hpos : 0 < s.size := by rw [← hl]; exact List.length_pos_iff.2 hne
  refine cond_d (fun h => no ?_) (fun h => ?_)
  · unfold namedB; rw [decide_eq_false (by omega)]; simp
  have hemp : (Utf.bytes s).isEmpty = false := by cases hb : Utf.bytes s with | nil => exact absurd hb hne | cons _ _ => rfl
  have hle : decide ((Utf.bytes s).length ≤ 256) = true := decide_eq_true (by omega)
  have hn : namedB (Utf.bytes s) 256 true = (!digitB ((Utf.bytes s).getD 0 0).toNat && (Utf.bytes s).all fun c => okB true c.toNat) := by unfold namedB; rw [hemp, hle]; simp
  rw [hn] at hK no
  unfold C.tocsinref04_Metric.S9
  refine C.tocsinref04_Metric.L5_ind fun X hX => ?_
  have key : ∀ (d i : Nat), i + d = s.size → ((Utf.bytes s).take i).all (fun c => okB true c.toNat) = true → (0 < i → digitB ((Utf.bytes s).getD 0 0).toNat = false) → X s ((s.size : Nat) : Int) (i : Int) w0 := by
    intro d
    induction d with
    | zero =>
      intro i hi ha h0
      refine hX _ _ _ _ ?_
      unfold C.tocsinref04_Metric.S7 C.tocsinref04_Metric.S2
      refine cond_d (fun h => by omega) (fun _ => ?_)
      rw [List.take_of_length_le (by omega)] at ha
      rw [ha, h0 (by omega)] at hK
      exact hK
    | succ d ih =>
      intro i hi ha h0
      refine hX _ _ _ _ ?_
      unfold C.tocsinref04_Metric.S7
      have hil : i < (Utf.bytes s).length := by omega
      have hg : (Utf.bytes s).getD i 0 = (Utf.bytes s)[i] := by rw [List.getD_eq_getElem?_getD, List.getElem?_eq_getElem hil, Option.getD_some]
      refine cond_d (fun _ => ?_) (fun h => by omega)
      have next : okB true (Utf.bytes s)[i].toNat = true → (i = 0 → digitB ((Utf.bytes s).getD 0 0).toNat = false) → X s ((s.size : Nat) : Int) (IntKind.i64.wrap ((i : Int) + 1)) w0 := fun hok hz => by
        rw [wI64 (by omega) (by omega), show (i : Int) + 1 = ((i + 1 : Nat) : Int) by omega]
        refine ih (i + 1) (by omega) ?_ (fun _ => if h : i = 0 then hz h else h0 (by omega))
        rw [List.take_add_one, List.getElem?_eq_getElem hil, List.all_append, ha]
        show (true && (okB true (Utf.bytes s)[i].toNat && true)) = true
        rw [hok]; rfl
      have stop : okB true (Utf.bytes s)[i].toNat = false → K false w0 := fun hok => no (by
        have : (Utf.bytes s).all (fun c => okB true c.toNat) = false := by
          rw [List.all_eq_false]
          exact ⟨(Utf.bytes s)[i], List.getElem_mem hil, by rw [hok]; decide⟩
        rw [this, Bool.and_false])
      refine ixS_at (k := i) rfl (by omega) ?_
      rw [hg]
      refine rletter_ok (cond_of (fun hlt => ?_) (fun hlt => ?_))
      · simp only [Bool.not_eq_true'] at hlt
        refine ixS_at (k := i) rfl (by omega) ?_
        rw [hg]
        refine cond_ne (fun h58 => ?_) (fun h58 => ?_)
        · have hc : ((Utf.bytes s)[i].toNat == 58) = false := by
            rw [beq_eq_false_iff_ne]; intro e; exact h58 (by rw [e]; rfl)
          refine cond_eq (fun hz => ?_) (fun hz => ?_)
          · have hz : i = 0 := by omega
            subst hz
            by_cases hdg : digitB (Utf.bytes s)[0].toNat = true
            · exact no (by rw [hg, hdg]; rfl)
            · exact stop (by rw [ok58 hlt (Bool.eq_false_iff.2 hdg)]; exact hc)
          · refine ixS_at (k := i) rfl (by omega) ?_
            rw [hg]
            refine rdigit_ok (cond_of (fun hdt => stop ?_) (fun hdt => next ?_ (fun e => by omega)))
            · simp only [Bool.not_eq_true'] at hdt
              rw [ok58 hlt hdt]; exact hc
            · simp only [Bool.not_eq_false'] at hdt
              exact okT (.inr hdt)
        · have e58 : (Utf.bytes s)[i].toNat = 58 := by omega
          exact next (by rw [ok58 hlt (by rw [e58]; exact dig58), e58]; rfl) (fun e => by subst e; rw [hg, e58]; exact dig58)
      · have hlt : letterB (Utf.bytes s)[i].toNat = true := by simpa only [Bool.not_eq_false'] using hlt
        exact next (okT (.inl hlt)) (fun e => by subst e; rw [hg]; exact let_dig hlt)
  exact key s.size 0 (by omega) rfl (fun h => absurd h (Nat.lt_irrefl _))
def ETab (w : World) : Prop := (∃ b, w.cell? ⟨0, 0, none⟩ = some (.iface 228 (.pointer (some b)))) ∧ w.cell? ⟨4, 0, none⟩ = some (.iface 184 (.agg #[.pointer (some ⟨6, 77, none⟩)]))
theorem ETab.keep (h : ETab w) (k : Keep w w') : ETab w' := ⟨h.1.imp fun _ hb => k.cell hb, k.cell h.2⟩
theorem number_ok {x : Value} {e : Int} (ht : ETab w0) (hx : (x = .nilIface ∧ e = 0) ∨ x = fault e) {K : Int → World → Prop} (hK : ∀ w', Keep w0 w' → K e w') : C.rules_number x w0 K := by
  unfold C.rules_number
  obtain ⟨⟨b, hb⟩, h4⟩ := ht
  refine newD fun g w1 k1 hg b1 => cV_at (b := .iface 228 (.pointer (some b))) (k1.1.cell hb) ?_
  show ErrN.isK x _ w1 _
  rcases hx with ⟨rfl, rfl⟩ | rfl
  · exact ⟨b, rfl, .inl ⟨rfl, cond_f rfl (hK w1 k1.1)⟩⟩
  refine ⟨b, rfl, .inr ⟨e, rfl, k1.1.cell hb, cond_t rfl ?_⟩⟩
  show ErrN.asK _ _ _ _
  have ka : Keep w1 (w1.alloc (.cells #[.int .i64 e] 116)) := Keep.alloc _ _
  have b2 := b1.keep ka
  refine ⟨⟨g, 0, none⟩, .int .i64 0, e, rfl, rfl, by rw [b2.cell]; rfl, b2.frozen 0, ka.cell (k1.1.cell h4), cond_t rfl ?_⟩
  unfold ErrN.asW
  generalize w1.alloc (.cells #[.int .i64 e] 116) = w2 at *
  have k25 : Keep w2 ((((w2.alloc (.cells #[.pointer (some ⟨g, 0, none⟩)] 119)).alloc (.cells #[.pointer (some ⟨6, 119, none⟩), .pointer (some ⟨w2.heap.size, 0, none⟩), .int .u64 150] 159)).alloc (.cells #[.pointer (some ⟨6, 119, none⟩), .pointer (some ⟨w2.heap.size, 0, none⟩), .int .u64 150] 159)).alloc (.cells #[.int .i64 e] 116)) :=
    Keep.trans (Keep.trans (Keep.trans (Keep.alloc _ _) (Keep.alloc _ _)) (Keep.alloc _ _)) (Keep.alloc _ _)
  generalize (((w2.alloc (.cells #[.pointer (some ⟨g, 0, none⟩)] 119)).alloc (.cells #[.pointer (some ⟨6, 119, none⟩), .pointer (some ⟨w2.heap.size, 0, none⟩), .int .u64 150] 159)).alloc (.cells #[.pointer (some ⟨6, 119, none⟩), .pointer (some ⟨w2.heap.size, 0, none⟩), .int .u64 150] 159)).alloc (.cells #[.int .i64 e] 116) = w5 at *
  have b5 := b2.keep k25
  have k05 : Keep w0 w5 := Keep.trans k1.1 (Keep.trans ka k25)
  have kf : Keep w0 (w5.setCell ⟨g, 0, none⟩ (.int .i64 e)) := Only.below (Only.setCell g w5 0 (.int .i64 e)) k05 k05.size hg
  exact cI_at (n := e) (by rw [(b5.set 0 (.int .i64 e)).cell]; rfl) (hK _ kf)
end Go.Proofs.YtechilkjfhpkpaaGreatDoor.Ru

namespace Go.Proofs.YtechilkjfhpkpaaGreatDoor.Ru
open Go Vm Go.RowKit Num Mem Utf Lib Lab
variable {ω ω' ωb : Tg} {w w' w0 wb : World} {t u gs gm : Nat} {T : Nat → Bool} {pl : List Lb}
structure Rl where
  rc : Bool
  nm : ByteArray
  ex : ByteArray
  fo : Int
  ke : Int
  ls : List Lb
abbrev nN : ByteArray := ⟨#[95, 95, 110, 97, 109, 101, 95, 95]⟩
abbrev aN : ByteArray := ⟨#[97, 108, 101, 114, 116, 110, 97, 109, 101]⟩
def spanB (n : Int) : Bool := decide (0 ≤ n) && decide (n ≤ 1099511627776)
def nameB (r : Rl) : Bool :=
  if r.rc then decide (r.nm.size ≤ 64) && (namedB (Utf.bytes r.nm) 256 true && (decide (r.fo = 0) && decide (r.ke = 0)))
  else decide (1 ≤ r.nm.size) && (decide (r.nm.size ≤ 256) && validD (Utf.bytes r.nm))
def restB (r : Rl) : Bool := decide (r.ex.size ≤ 65536) && (spanB r.fo && (spanB r.ke && (decide ((rt r.ls).1 = 0) && (decide (getF nN r.ls = noB) && decide (getF aN r.ls = noB)))))
def ruleB (r : Rl) : Bool := nameB r && restB r
def ruleE (r : Rl) : Int := if ruleB r then 0 else 201
abbrev rlC (r : Rl) (s : Sl) : List Value := [.bool r.rc, .string r.nm, .string r.ex, .int .i64 r.fo, .int .i64 r.ke, s.v]
theorem span_ok {n : Int} {K : Bool → World → Prop} (hK : K (spanB n) w) : C.rules_span n w K := by
  unfold C.rules_span
  unfold spanB at hK
  refine cond_d (fun h => ?_) (fun h => ?_)
  · rw [decide_eq_true (show 0 ≤ n by omega), Bool.true_and] at hK; exact hK
  · rw [decide_eq_false (show ¬ 0 ≤ n by omega), Bool.false_and] at hK; exact hK
theorem rule_S2 {r : Rl} {s : Sl} {g : Nat} {nb : Bool} (ht : UTab w) (hs : Rd w s 2 (labs r.ls)) (hl : r.ls.length ≤ 100000000) (b : Blk w g 24 (rlC r s)) {K : Int → World → Prop}
    (hK : ∀ w', Keep w w' → K (if nb && restB r then 0 else 201) w') : C.rules_Rule.S2 K (some ⟨g, 0, none⟩) nb w := by
  unfold C.rules_Rule.S2
  refine ptr_at <| cSl_at (s := s) (by rw [addr_add, b.cell]; rfl) <| right_ok ht hs fun w1 k1 => ?_
  have b1 := b.keep k1
  have no : (nb && restB r) = false → ∀ w', Keep w w' → K 201 w' := fun h w' k => by have := hK w' k; rw [if_neg (by rw [h]; decide)] at this; exact this
  have er : restB r = (decide (r.ex.size ≤ 65536) && (spanB r.fo && (spanB r.ke && (decide ((rt r.ls).1 = 0) && (decide (getF nN r.ls = noB) && decide (getF aN r.ls = noB)))))) := rfl
  cases nb with
  | false => exact cond_t rfl (no rfl w1 k1)
  | true =>
  rw [Bool.true_and] at no hK
  refine cond_f rfl <| ptr_at <| cS_at (b := r.ex) (by rw [addr_add, b1.cell]; rfl) <| cond_d (fun h => no (by rw [er, decide_eq_false (by omega)]; rfl) w1 k1) (fun h1 => ?_)
  rw [decide_eq_true (show r.ex.size ≤ 65536 by omega), Bool.true_and] at er
  refine ptr_at <| cI_at (n := r.fo) (by rw [addr_add, b1.cell]; rfl) <| span_ok <| cond_of (fun h => no (by rw [er]; simp only [Bool.not_eq_true'] at h; rw [h]; rfl) w1 k1) (fun h2 => ?_)
  simp only [Bool.not_eq_false'] at h2
  rw [h2, Bool.true_and] at er
  refine ptr_at <| cI_at (n := r.ke) (by rw [addr_add, b1.cell]; rfl) <| span_ok <| cond_of (fun h => no (by rw [er]; simp only [Bool.not_eq_true'] at h; rw [h]; rfl) w1 k1) (fun h3 => ?_)
  simp only [Bool.not_eq_false'] at h3
  rw [h3, Bool.true_and] at er
  refine cond_ne (fun h => no (by rw [er, decide_eq_false h]; rfl) w1 k1) (fun h4 => ?_)
  rw [decide_eq_true h4, Bool.true_and] at er
  refine ptr_at <| cSl_at (s := s) (by rw [addr_add, b1.cell]; rfl) <| get_ok (hs.keep k1) hl fun w2 k2 => ?_
  have k02 := Keep.trans k1 k2
  have b2 := b1.keep k2
  rw [emptyB]
  refine cond_d (fun h => no (by rw [er, decide_eq_false h]; rfl) w2 k02) (fun h5 => ?_)
  rw [decide_eq_true (Decidable.not_not.1 h5), Bool.true_and] at er
  refine ptr_at <| cSl_at (s := s) (by rw [addr_add, b2.cell]; rfl) <| get_ok (hs.keep k02) hl fun w3 k3 => ?_
  have k03 := Keep.trans k02 k3
  rw [emptyB]
  refine cond_d (fun h => no (by rw [er, decide_eq_false h]) w3 k03) (fun h6 => ?_)
  rw [decide_eq_true (Decidable.not_not.1 h6)] at er
  have := hK w3 k03
  rw [if_pos er] at this
  exact this
theorem rule_ok {r : Rl} {s : Sl} (ht : UTab w0) (hs : Rd w0 s 2 (labs r.ls)) (hl : r.ls.length ≤ 100000000) {K : Int → World → Prop} (hK : ∀ w', Keep w0 w' → K (ruleE r) w') : C.rules_Rule r.rc r.nm r.ex r.fo r.ke s w0 K := by
  unfold C.rules_Rule
  refine newD fun g w1 k1 hg b1 => ?_
  have b1 : Blk w1 g 24 (rlC r s) := b1
  have S3 : ∀ (nb : Bool) (w2 : World), Keep w1 w2 → (r.rc = false → nb = nameB r) → C.rules_Rule.S3 K (some ⟨g, 0, none⟩) nb w2 := fun nb w2 k2 hnb => by
    have k02 := Keep.trans k1.1 k2
    have b2 := b1.keep k2
    have fin : ∀ (nb : Bool) (w3 : World), Keep w2 w3 → nb = nameB r → C.rules_Rule.S2 K (some ⟨g, 0, none⟩) nb w3 := fun nb w3 k3 e => by
      have k03 := Keep.trans k02 k3
      exact rule_S2 (ht.keep k03) (hs.keep k03) hl (b2.keep k3) fun w4 k4 => by rw [e]; exact hK w4 (Keep.trans k03 k4)
    unfold C.rules_Rule.S3
    refine ptr_at <| cB_at (b := r.rc) (by rw [b2.cell]; rfl) <| cond_of (fun hr => ?_) (fun hr => fin nb w2 (Keep.refl _) (hnb hr))
    have en : nameB r = (decide (r.nm.size ≤ 64) && (namedB (Utf.bytes r.nm) 256 true && (decide (r.fo = 0) && decide (r.ke = 0)))) := by unfold nameB; rw [if_pos hr]
    refine ptr_at <| cS_at (b := r.nm) (by rw [addr_add, b2.cell]; rfl) <| cond_d (fun h1 => ?_) (fun h1 => fin false w2 (Keep.refl _) (by rw [en, decide_eq_false (by omega)]; rfl))
    rw [decide_eq_true (show r.nm.size ≤ 64 by omega), Bool.true_and] at en
    refine ptr_at <| cS_at (b := r.nm) (by rw [addr_add, b2.cell]; rfl) <| metric_ok fun w3 k3 => ?_
    have b3 := b2.keep k3
    refine cond_of (fun h2 => ?_) (fun h2 => fin false w3 k3 (by rw [en, h2]; rfl))
    rw [h2, Bool.true_and] at en
    refine ptr_at <| cI_at (n := r.fo) (by rw [addr_add, b3.cell]; rfl) <| cond_eq (fun h3 => ?_) (fun h3 => fin false w3 k3 (by rw [en, decide_eq_false h3]; rfl))
    rw [decide_eq_true h3, Bool.true_and] at en
    refine ptr_at <| cI_at (n := r.ke) (by rw [addr_add, b3.cell]; rfl) <| fin _ w3 k3 ?_
    rw [en]
    by_cases h : r.ke = 0
    · rw [h]; rfl
    · rw [decide_eq_false h]; exact beq_eq_false_iff_ne.2 h
  have en : r.rc = false → nameB r = (decide (1 ≤ r.nm.size) && (decide (r.nm.size ≤ 256) && validD (Utf.bytes r.nm))) := fun h => by unfold nameB; rw [if_neg (by rw [h]; decide)]
  refine cS_at (b := r.nm) (by rw [addr_add, b1.cell]; rfl) <| cond_d (fun h1 => ?_) (fun h1 => S3 false w1 (Keep.refl _) fun h => by rw [en h, decide_eq_false (by omega)]; rfl)
  refine cS_at (b := r.nm) (by rw [addr_add, b1.cell]; rfl) <| cond_d (fun h2 => ?_) (fun h2 => S3 false w1 (Keep.refl _) fun h => by rw [en h, decide_eq_true (show 1 ≤ r.nm.size by omega), decide_eq_false (by omega)]; rfl)
  refine cS_at (b := r.nm) (by rw [addr_add, b1.cell]; rfl) <| valid_ok (ht.keep k1.1) (by omega) fun w2 k2 => S3 _ w2 k2 fun h => ?_
  rw [en h, decide_eq_true (show 1 ≤ r.nm.size by omega), decide_eq_true (show r.nm.size ≤ 256 by omega)]; rfl
end Go.Proofs.YtechilkjfhpkpaaGreatDoor.Ru

namespace Go.Proofs.YtechilkjfhpkpaaGreatDoor.Ru
open Go Vm Go.RowKit Num Mem Utf Lib Lab
variable {ω ω' ωb : Tg} {w w' w0 wb : World} {t u gs gm : Nat} {T : Nat → Bool} {pl : List Lb}
def nmB (r : Rl) : Bool := if r.rc then namedB (Utf.bytes r.nm) 256 true && decide (r.nm.size ≤ 64) else decide (1 ≤ r.nm.size) && (decide (r.nm.size ≤ 256) && validD (Utf.bytes r.nm))
def spB (r : Rl) : Bool := (spanB r.fo && spanB r.ke) && (if r.rc then decide (r.fo = 0) && decide (r.ke = 0) else true)
def rest2B (r : Rl) : Bool := decide (r.ex.size ≤ 65536) && (decide ((rt r.ls).1 = 0) && (decide (getF nN r.ls = noB) && decide (getF aN r.ls = noB)))
theorem ruleB_eq (r : Rl) : ruleB r = (nmB r && (spB r && rest2B r)) := by
  unfold ruleB nameB restB nmB spB rest2B
  cases r.rc <;> simp only [Bool.false_eq_true, if_false, if_true, Bool.and_true] <;> generalize decide (r.ex.size ≤ 65536) = a <;> generalize spanB r.fo = b <;> generalize spanB r.ke = c <;> generalize decide ((rt r.ls).1 = 0) = d <;> generalize decide (getF nN r.ls = noB) = e <;> generalize decide (getF aN r.ls = noB) = f
  · generalize (decide (1 ≤ r.nm.size) && (decide (r.nm.size ≤ 256) && validD (Utf.bytes r.nm))) = g
    cases a <;> cases b <;> cases c <;> cases d <;> cases e <;> cases f <;> cases g <;> rfl
  · generalize decide (r.nm.size ≤ 64) = g
    generalize namedB (Utf.bytes r.nm) 256 true = h
    generalize decide (r.fo = 0) = i
    generalize decide (r.ke = 0) = j
    cases g <;> cases h <;> cases i <;> cases j <;> cases a <;> cases b <;> cases c <;> cases d <;> rfl
theorem rrule_S2 {r : Rl} {s : Sl} {g : Nat} {nb sb : Bool} (hs : Rd w s 2 (labs r.ls)) (hsz : ∀ x ∈ r.ls, x.2.size ≤ 140737488355300) (hl : r.ls.length ≤ 100000000) (b : Blk w g 24 (rlC r s)) {K : Int → World → Prop}
    (hK : ∀ w', Keep w w' → K (if nb && (sb && rest2B r) then 0 else 201) w') : C.tocsinref19_Rule.S2 K (some ⟨g, 0, none⟩) nb sb w := by
  unfold C.tocsinref19_Rule.S2
  refine ptr_at <| cSl_at (s := s) (by rw [addr_add, b.cell]; rfl) <| rright_ok hs hsz fun w1 k1 => ?_
  have b1 := b.keep k1
  have no : (nb && (sb && rest2B r)) = false → ∀ w', Keep w w' → K 201 w' := fun h w' k => by have := hK w' k; rw [if_neg (by rw [h]; decide)] at this; exact this
  have er : rest2B r = (decide (r.ex.size ≤ 65536) && (decide ((rt r.ls).1 = 0) && (decide (getF nN r.ls = noB) && decide (getF aN r.ls = noB)))) := rfl
  cases nb with
  | false => exact cond_t rfl (no rfl w1 k1)
  | true =>
  rw [Bool.true_and] at no hK
  refine cond_f rfl ?_
  cases sb with
  | false => exact cond_t rfl (no rfl w1 k1)
  | true =>
  rw [Bool.true_and] at no hK
  refine cond_f rfl <| ptr_at <| cS_at (b := r.ex) (by rw [addr_add, b1.cell]; rfl) <| cond_d (fun h => no (by rw [er, decide_eq_false (by omega)]; rfl) w1 k1) (fun h1 => ?_)
  rw [decide_eq_true (show r.ex.size ≤ 65536 by omega), Bool.true_and] at er
  refine cond_ne (fun h => no (by rw [er, decide_eq_false h]; rfl) w1 k1) (fun h4 => ?_)
  rw [decide_eq_true h4, Bool.true_and] at er
  refine ptr_at <| cSl_at (s := s) (by rw [addr_add, b1.cell]; rfl) <| rget_ok (hs.keep k1) hl fun w2 k2 => ?_
  have k02 := Keep.trans k1 k2
  have b2 := b1.keep k2
  rw [emptyB]
  refine cond_d (fun h => no (by rw [er, decide_eq_false h]; rfl) w2 k02) (fun h5 => ?_)
  rw [decide_eq_true (Decidable.not_not.1 h5), Bool.true_and] at er
  refine ptr_at <| cSl_at (s := s) (by rw [addr_add, b2.cell]; rfl) <| rget_ok (hs.keep k02) hl fun w3 k3 => ?_
  have k03 := Keep.trans k02 k3
  rw [emptyB]
  refine cond_d (fun h => no (by rw [er, decide_eq_false h]) w3 k03) (fun h6 => ?_)
  rw [decide_eq_true (Decidable.not_not.1 h6)] at er
  have := hK w3 k03
  rw [if_pos er] at this
  exact this
theorem rrule_ok {r : Rl} {s : Sl} (hs : Rd w0 s 2 (labs r.ls)) (hsz : ∀ x ∈ r.ls, x.2.size ≤ 140737488355300) (hl : r.ls.length ≤ 100000000) {K : Int → World → Prop} (hK : ∀ w', Keep w0 w' → K (ruleE r) w') : C.tocsinref19_Rule r.rc r.nm r.ex r.fo r.ke s w0 K := by
  unfold C.tocsinref19_Rule
  refine newD fun g w1 k1 hg b1 => ?_
  have b1 : Blk w1 g 24 (rlC r s) := b1
  have fin : ∀ nb sb : Bool, nb = nmB r → sb = spB r → C.tocsinref19_Rule.S2 K (some ⟨g, 0, none⟩) nb sb w1 := fun nb sb e1 e2 =>
    rrule_S2 (hs.keep k1.1) hsz hl b1 fun w2 k2 => by
      have := hK w2 (Keep.trans k1.1 k2)
      unfold ruleE at this
      rw [ruleB_eq] at this
      rw [e1, e2]; exact this
  have S3 : ∀ nb : Bool, nb = nmB r → C.tocsinref19_Rule.S3 K (some ⟨g, 0, none⟩) nb (spanB r.fo && spanB r.ke) w1 := fun nb e1 => by
    unfold C.tocsinref19_Rule.S3
    refine ptr_at <| cB_at (b := r.rc) (by rw [b1.cell]; rfl) <| cond_of (fun hr => ?_) (fun hr => fin nb _ e1 (by unfold spB; rw [hr]; simp))
    refine ptr_at <| cI_at (n := r.fo) (by rw [addr_add, b1.cell]; rfl) <| cond_ne (fun h => fin nb false e1 (by unfold spB; rw [hr, decide_eq_false h]; simp)) (fun h1 => ?_)
    refine ptr_at <| cI_at (n := r.ke) (by rw [addr_add, b1.cell]; rfl) <| cond_ne (fun h => fin nb false e1 (by unfold spB; rw [hr, decide_eq_false h]; simp)) (fun h2 => ?_)
    exact fin nb _ e1 (by unfold spB; rw [hr, h1, h2]; simp)
  have S4 : ∀ nb : Bool, nb = nmB r → C.tocsinref19_Rule.S4 K (some ⟨g, 0, none⟩) nb w1 := fun nb e1 => by
    unfold C.tocsinref19_Rule.S4
    have S3 := S3 nb e1
    unfold spanB at S3
    refine ptr_at <| cI_at (n := r.fo) (by rw [addr_add, b1.cell]; rfl) <| cond_d (fun h1 => ?_) (fun h1 => by rw [decide_eq_false (show ¬ 0 ≤ r.fo by omega), Bool.false_and, Bool.false_and] at S3; exact S3)
    refine ptr_at <| cI_at (n := r.fo) (by rw [addr_add, b1.cell]; rfl) <| cond_d (fun h2 => ?_) (fun h2 => by rw [decide_eq_false h2, Bool.and_false, Bool.false_and] at S3; exact S3)
    rw [decide_eq_true (show 0 ≤ r.fo by omega), decide_eq_true h2, Bool.true_and, Bool.true_and] at S3
    refine ptr_at <| cI_at (n := r.ke) (by rw [addr_add, b1.cell]; rfl) <| cond_d (fun h3 => ?_) (fun h3 => by rw [decide_eq_false (show ¬ 0 ≤ r.ke by omega), Bool.false_and] at S3; exact S3)
    rw [decide_eq_true (show 0 ≤ r.ke by omega), Bool.true_and] at S3
    exact ptr_at <| cI_at (n := r.ke) (by rw [addr_add, b1.cell]; rfl) S3
  have S5 : ∀ nb : Bool, (r.rc = false → nb = nmB r) → C.tocsinref19_Rule.S5 K (some ⟨g, 0, none⟩) nb w1 := fun nb e1 => by
    unfold C.tocsinref19_Rule.S5
    refine ptr_at <| cB_at (b := r.rc) (by rw [b1.cell]; rfl) <| cond_of (fun hr => ?_) (fun hr => S4 nb (e1 hr))
    have en : nmB r = (namedB (Utf.bytes r.nm) 256 true && decide (r.nm.size ≤ 64)) := by unfold nmB; rw [if_pos hr]
    refine ptr_at <| cS_at (b := r.nm) (by rw [addr_add, b1.cell]; rfl) <| rmetric_ok <| cond_of (fun h1 => ?_) (fun h1 => S4 false (by rw [en, h1]; rfl))
    refine ptr_at <| cS_at (b := r.nm) (by rw [addr_add, b1.cell]; rfl) <| S4 _ ?_
    rw [en, h1, Bool.true_and]
    exact decide_eq_decide.2 (by omega)
  have en : r.rc = false → nmB r = (decide (1 ≤ r.nm.size) && (decide (r.nm.size ≤ 256) && validD (Utf.bytes r.nm))) := fun h => by unfold nmB; rw [if_neg (by rw [h]; decide)]
  refine cS_at (b := r.nm) (by rw [addr_add, b1.cell]; rfl) <| cond_d (fun h1 => ?_) (fun h1 => S5 false fun h => by rw [en h, decide_eq_false (by omega)]; rfl)
  refine cS_at (b := r.nm) (by rw [addr_add, b1.cell]; rfl) <| cond_d (fun h2 => ?_) (fun h2 => S5 false fun h => by rw [en h, decide_eq_true (show 1 ≤ r.nm.size by omega), decide_eq_false (by omega)]; rfl)
  refine cS_at (b := r.nm) (by rw [addr_add, b1.cell]; rfl) <| rutf_ok (by omega) <| S5 _ fun h => ?_
  rw [en h, decide_eq_true (show 1 ≤ r.nm.size by omega), decide_eq_true (show r.nm.size ≤ 256 by omega)]; rfl
def moreA (r : Rl) : List Lb := (nN, noB) :: (aN, r.nm) :: r.ls
def moreR (r : Rl) : List Lb := r.ls ++ [(aN, r.nm)]
theorem getF_no {n : ByteArray} : ∀ {l : List Lb}, (∀ x ∈ l, x.2 ≠ noB) → getF n l = noB → n ∉ namesL l
  | [], _, _ => by simp [namesL]
  | x :: l, h, e => by
    unfold getF at e
    intro hm
    rcases List.mem_cons.1 hm with hm | hm
    · rw [if_pos hm.symm] at e; exact h x List.mem_cons_self e
    · by_cases hx : x.1 = n
      · rw [if_pos hx] at e; exact h x List.mem_cons_self e
      · rw [if_neg hx] at e
        exact getF_no (fun y hy => h y (List.mem_cons_of_mem _ hy)) e hm
structure RlOk (r : Rl) : Prop where
  rt : (Lab.rt r.ls).1 = 0
  nn : nN ∉ namesL r.ls
  an : aN ∉ namesL r.ls
  val : valE (Utf.bytes r.nm) = 0
theorem metric_valid {s : ByteArray} (h : namedB (Utf.bytes s) 256 true = true) : validD (Utf.bytes s) = true := by
  unfold namedB at h
  simp only [Bool.and_eq_true] at h
  have key := h.2.2.2
  rw [List.all_eq_true] at key
  have hc : ∀ c ∈ Utf.bytes s, c.toNat < 128 := fun c hc => by
    have := key c hc
    unfold okB letterB digitB at this
    simp at this
    omega
  have := Go.Lib.validD_ascii (Utf.bytes s).length (Utf.bytes s) (by rw [List.take_length]; exact hc)
  rw [this, List.drop_length]
  exact Go.Lib.validD_nil
theorem rl_of {r : Rl} (h : ruleB r = true) : RlOk r := by
  have h' := h
  unfold ruleB restB at h
  simp only [Bool.and_eq_true, decide_eq_true_eq] at h
  obtain ⟨h1, h2, h3, h4, h5, h6, h7⟩ := h
  have hv : ∀ x ∈ r.ls, x.2 ≠ noB := fun x hx => good_ne (((rt_iff _).1 h5).2.1 x hx)
  refine ⟨h5, getF_no hv h6, getF_no hv h7, ?_⟩
  have hl : (Utf.bytes r.nm).length = r.nm.size := (size_eq r.nm).symm
  have hne : r.nm.size ≠ 0 → Utf.bytes r.nm ≠ [] := fun h e => h (by rw [← hl, e]; rfl)
  unfold nameB at h1
  by_cases hr : r.rc = true
  · rw [if_pos hr] at h1
    simp only [Bool.and_eq_true, decide_eq_true_eq] at h1
    obtain ⟨a, b, _⟩ := h1
    have hs : r.nm.size ≠ 0 := fun e => by
      have : Utf.bytes r.nm = [] := List.eq_nil_of_length_eq_zero (by rw [hl, e])
      rw [this] at b; exact absurd b (by decide)
    unfold valE
    rw [if_neg (hne hs), if_neg (by omega), if_pos (metric_valid b)]
  · rw [if_neg hr] at h1
    simp only [Bool.and_eq_true, decide_eq_true_eq] at h1
    obtain ⟨a, b, c⟩ := h1
    unfold valE
    rw [if_neg (hne (by omega)), if_neg (by omega), if_pos c]
theorem moreA_names {r : Rl} (h : RlOk r) : (namesL (moreA r)).Nodup := by
  show (nN :: aN :: namesL r.ls).Nodup
  refine List.nodup_cons.2 ⟨fun hm => ?_, List.nodup_cons.2 ⟨h.an, rt_ns h.rt⟩⟩
  rcases List.mem_cons.1 hm with hm | hm
  · exact absurd hm (by decide)
  · exact h.nn hm
theorem moreR_names {r : Rl} (h : RlOk r) : (namesL (moreR r)).Nodup := by
  unfold moreR namesL
  rw [List.map_append, List.nodup_append]
  refine ⟨rt_ns h.rt, by simp, fun a ha b hb e => ?_⟩
  simp at hb
  rw [hb] at e
  exact h.an (by rw [← e]; exact ha)
theorem goodA : namedB (Utf.bytes aN) 64 false = true := by decide +kernel
theorem moreR_good {r : Rl} (h : RlOk r) : ∀ x ∈ moreR r, goodL x := fun x hx => by
  rcases List.mem_append.1 hx with hx | hx
  · exact ((rt_iff _).1 h.rt).2.1 x hx
  · rw [List.mem_singleton] at hx; subst hx; exact ⟨goodA, h.val⟩
theorem pick_rt {l : List Lb} {ns : List ByteArray} (h : (rt l).1 = 0) : (rt (pickN ns l)).1 = 0 := by
  obtain ⟨h1, h2, h3⟩ := (rt_iff l).1 h
  exact (rt_iff _).2 ⟨Nat.le_trans (List.length_filter_le _ _) h1, fun x hx => h2 x (mem_pickN.1 hx).1, h3.sublist List.filter_sublist⟩
theorem out_same {r : Rl} {l : List Lb} (h : RlOk r) (hl : (rt l).1 = 0) : outL (pickN [nN] l) (moreR r) = outL l (moreA r) := by
  refine up_eq (outL_up (rt_ns (pick_rt hl)) (moreR_names h)) (outL_up (rt_ns hl) (moreA_names h)) fun x => ?_
  rw [mem_outL, mem_outL, mem_pickN]
  have e1 : x ∈ moreR r ↔ x = (aN, r.nm) ∨ x ∈ r.ls := by unfold moreR; rw [List.mem_append, List.mem_singleton, or_comm]
  have e2 : x ∈ moreA r ↔ x = (nN, noB) ∨ x = (aN, r.nm) ∨ x ∈ r.ls := by unfold moreA; rw [List.mem_cons, List.mem_cons]
  have e3 : x.1 ∈ namesL (moreR r) ↔ x.1 = aN ∨ x.1 ∈ namesL r.ls := by unfold moreR namesL; rw [List.map_append, List.mem_append, or_comm]; simp
  have e4 : x.1 ∈ namesL (moreA r) ↔ x.1 = nN ∨ x.1 = aN ∨ x.1 ∈ namesL r.ls := by
    show x.1 ∈ nN :: aN :: namesL r.ls ↔ _
    rw [List.mem_cons, List.mem_cons]
  rw [e1, e2, e3, e4, List.mem_singleton]
  refine and_congr_right fun hne => ?_
  constructor
  · rintro (h1 | ⟨⟨h1, h2⟩, h3⟩)
    · exact .inl (.inr h1)
    · exact .inr ⟨h1, fun h => h.elim h2 h3⟩
  · rintro ((h1 | h1) | ⟨h1, h2⟩)
    · exact absurd (by rw [h1]) hne
    · exact .inl h1
    · exact .inr ⟨⟨h1, fun e => h2 (.inl e)⟩, fun e => h2 (.inr e)⟩
theorem wE_same {r : Rl} {l : List Lb} (h : RlOk r) (hl : (rt l).1 = 0) : wE (pickN [nN] l) (moreR r) = wE l (moreA r) := by
  unfold wE
  rw [if_neg (show ¬ (rt (pickN [nN] l)).1 ≠ 0 by rw [pick_rt hl]; decide), if_neg (show ¬ (rt l).1 ≠ 0 by rw [hl]; decide), out_same h hl]
def labE (r : Rl) (l : List Lb) : Int := if ruleB r then wE l (moreA r) else 201
def labO (r : Rl) (l : List Lb) : List Lb := outL l (moreA r)
end Go.Proofs.YtechilkjfhpkpaaGreatDoor.Ru

namespace Go.Proofs.YtechilkjfhpkpaaGreatDoor.Ru
open Go Vm Go.RowKit Num Mem Utf Lib Lab
variable {ω ω' ωb : Tg} {w w' w0 wb : World} {t u gs gm : Nat} {T : Nat → Bool} {pl : List Lb}
theorem sameK {g : Nat} {e : TypeId} {cs : List Value} (hb : Blk w g e cs) (k : Keep w w') {j n : Nat} : sameAt ⟨g, j, none⟩ n w w' := by
  have h : w'.heap[g]? = w.heap[g]? := k.block g hb.lt
  refine ⟨World.cell?_of_block h, fun i _ => World.cell?_of_block ?_⟩
  rw [add_block]; exact h
theorem alert_ok {r : Rl} {s sl : Sl} {m : List Lb} (hr : RlOk r) (ht : UTab w0) (hs : Rd w0 s 2 (labs r.ls)) (hl : Rd w0 sl 2 (labs m)) {K : Sl → Value → World → Prop}
    (hK : ∀ q x w', Keep w0 w' → (wE m (moreA r) ≠ 0 → q = nilS ∧ x = fault (wE m (moreA r))) → (wE m (moreA r) = 0 → x = .nilIface ∧ Mem.Own w' w0.heap.size 99 2 q (labs (labO r m))) → K q x w') :
    C.rules_alert r.rc r.nm r.ex r.fo r.ke s sl w0 K := by
  unfold C.rules_alert
  have hsn := rdL_n hs
  have hlen := ((rt_iff _).1 hr.rt).1
  refine newD fun g w1 k1 hg b1 => ?_
  have b1 : Blk w1 g 24 (rlC r s) := b1
  refine cS_at (b := r.nm) (by rw [addr_add, b1.cell]; rfl) <| newD fun g2 w2 k2 hg2 b2 => ?_
  have k02 := k1.trans k2
  refine cSl_at (s := s) (by rw [addr_add, (b1.keep k2.1).cell]; rfl) ?_
  have o2 : Mem.Own w2 w0.heap.size 99 2 ⟨some ⟨g2, 0, none⟩, 2, 2⟩ (labs [(nN, noB), (aN, r.nm)]) := Own.mk' (Nat.le_trans k1.1.size hg2) b2 (Nat.le_refl _) (by simp only [maxLen]; omega) (by rfl) (by rfl)
  refine append_own tiL k02.1 k02.1.size o2 (hs.keep k02.1) labs_one (by simp only [maxLen]; omega) (by simp only []; omega) fun q w3 k3 o3 hq _ => ?_
  rw [← labs_app] at o3
  have k03 : Keep w0 w3 := k3
  refine with_ok (ht.keep k03) (hl.keep k03) (Own.rd o3) (moreA_names hr) (by simp; omega) fun out x w4 k4 h1 h2 => ?_
  exact hK out x w4 (Keep.trans k03 k4) h1 fun h => ⟨(h2 h).1, (h2 h).2.mono k03.size⟩
theorem own9_ok {s : Sl} {m : List Lb} (h : Rd w s 2 (labs m)) (hm : m.length ≤ 100000) {K : Sl → World → Prop} (hK : ∀ r w', Keep w w' → Mem.Own w' w.heap.size 99 2 r (labs m) → K r w') : C.tocsinref09_Own s w K := by
  have hn := rdL_n h
  unfold C.tocsinref09_Own
  refine app_T tiL (OT.nil (fun _ => 0) w 5 99 2) h labs_one (by simp only [maxLen]; omega) (by simp only []; omega) fun r ω' w' k o _ => ?_
  have top := (Top.init w).stp k
  rw [List.nil_append] at o
  exact hK r w' top.k (OT.new o top)
theorem rnamed_ok {r : Rl} {s : Sl} {n : ByteArray} (hs : Rd w0 s 2 (labs r.ls)) (hm : r.ls.length ≤ 100000) {K : Sl → World → Prop} (hK : ∀ q w', Keep w0 w' → Mem.Own w' w0.heap.size 99 2 q (labs (r.ls ++ [(n, r.nm)])) → K q w') :
    C.tocsinref19_named r.rc r.nm r.ex r.fo r.ke s n w0 K := by
  unfold C.tocsinref19_named
  refine newD fun g w1 k1 hg b1 => ?_
  have b1 : Blk w1 g 24 (rlC r s) := b1
  refine cSl_at (s := s) (by rw [addr_add, b1.cell]; rfl) <| own9_ok (hs.keep k1.1) hm fun q w2 k2 o2 => cS_at (b := r.nm) (by rw [addr_add, (b1.keep k2).cell]; rfl) ?_
  have k02 := Keep.trans k1.1 k2
  have hqn := rdL_n (Own.rd o2)
  have ot := Own.tag (o2.mono k1.1.size) (Nat.le_refl _) (fun _ => 0) 5
  have top2 : Top w0 (ext (fun _ => 0) w0.heap.size 5) w2 := (Top.init w0).stp (k02.stp _ 5)
  generalize ext (fun _ => 0) w0.heap.size 5 = ω2 at *
  refine push_T (n := 1) tiL ot rfl (by intro v hv; simp at hv; rcases hv with rfl | rfl <;> rfl) (by simp only [maxLen]; omega) (by omega) fun q3 ω3 w3 k3 o3 _ => ?_
  have top3 := top2.stp k3
  refine hK q3 w3 top3.k ?_
  rw [labs_app]
  exact OT.new o3 top3
theorem rlabels_ok {r : Rl} {s sl : Sl} {m : List Lb} (hs : Rd w0 s 2 (labs r.ls)) (hsz : ∀ x ∈ r.ls, x.2.size ≤ 140737488355300) (hn : r.ls.length ≤ 100000) (hl : Rd w0 sl 2 (labs m)) (hmz : ∀ x ∈ m, x.2.size ≤ 140737488355300) {K : Sl → Int → World → Prop}
    (hK : ∀ q w', Keep w0 w' → (labE r m ≠ 0 → q = nilS) → (labE r m = 0 → Mem.Own w' w0.heap.size 99 2 q (labs (labO r m))) → K q (labE r m) w') : C.tocsinref19_Labels r.rc r.nm r.ex r.fo r.ke s sl w0 K := by
  unfold C.tocsinref19_Labels
  refine newD fun g w1 k1 hg b1 => ?_
  have b1 : Blk w1 g 24 (rlC r s) := b1
  refine cB_at (b := r.rc) (by rw [b1.cell]; rfl) <| cS_at (b := r.nm) (by rw [addr_add, b1.cell]; rfl) <| cS_at (b := r.ex) (by rw [addr_add, b1.cell]; rfl) <| cI_at (n := r.fo) (by rw [addr_add, b1.cell]; rfl) <| cI_at (n := r.ke) (by rw [addr_add, b1.cell]; rfl) <| cSl_at (s := s) (by rw [addr_add, b1.cell]; rfl) ?_
  refine rrule_ok (hs.keep k1.1) hsz (by omega) fun w2 k2 => ?_
  have k02 := Keep.trans k1.1 k2
  unfold ruleE
  by_cases hr : ruleB r = true
  · rw [if_pos hr]
    have ok := rl_of hr
    have el : labE r m = wE m (moreA r) := by unfold labE; rw [if_pos hr]
    refine cond_f rfl <| rright_ok (hl.keep k02) hmz fun w3 k3 => ?_
    have k03 := Keep.trans k02 k3
    refine cond_ne (fun hne => ?_) (fun h0 => ?_)
    · have e : labE r m = 41 := by rw [el]; unfold wE; rw [if_pos hne]
      rw [e] at hK
      exact hK nilS w3 k03 (fun _ => rfl) (fun h => absurd h (by decide))
    · have k3d : Keep w3 w3.drew := Keep.drew w3
      have b3 := (b1.keep (Keep.trans k2 k3)).keep k3d
      have k03d := Keep.trans k03 k3d
      refine cB_at (b := r.rc) (by rw [b3.cell]; rfl) <| cS_at (b := r.nm) (by rw [addr_add, b3.cell]; rfl) <| cS_at (b := r.ex) (by rw [addr_add, b3.cell]; rfl) <| cI_at (n := r.fo) (by rw [addr_add, b3.cell]; rfl) <| cI_at (n := r.ke) (by rw [addr_add, b3.cell]; rfl) <| cSl_at (s := s) (by rw [addr_add, b3.cell]; rfl) ?_
      refine newD fun g5 w5 k5 hg5 b5 => ⟨sameK b3 k5.1, ?_⟩
      have k05 := Keep.trans k03d k5.1
      have r5 : Rd w5 ⟨some ⟨g5, 0, none⟩, 1, 1⟩ 1 (strs [nN]) := Rd.blk (n := 1) (c := 1) (sz := 1) (o := 0) b5 (Nat.le_refl _) (by decide)
      have hml : m.length ≤ 16 := ((rt_iff _).1 h0).1
      refine rpick_ok (hl.keep k05) r5 (by omega) (by decide) fun q6 w6 k6 o6 => ⟨sameK b3 (Keep.trans k5.1 k6), ?_⟩
      have k06 := Keep.trans k05 k6
      refine rnamed_ok (hs.keep k06) hn fun q7 w7 k7 o7 => ?_
      have k07 := Keep.trans k06 k7
      have ep := wE_same ok h0
      refine rwith_ok ((Own.rd o6).keep k7) (Own.rd o7) (fun x hx => hmz x (mem_pickN.1 hx).1) (moreR_names ok) (by have := ((rt_iff _).1 ok.rt).1; rw [List.length_append]; simp; omega) (moreR_good ok) fun q8 w8 k8 h1 h2 => ?_
      have k08 := Keep.trans k07 k8
      have e8 : wE (pickN [nN] m) (r.ls ++ [(aN, r.nm)]) = labE r m := by rw [el]; exact ep
      rw [e8] at h1 h2 ⊢
      refine hK q8 w8 k08 h1 fun h => ?_
      have o8 := (h2 h).mono k07.size
      have eo : outL (pickN [nN] m) (r.ls ++ [(aN, r.nm)]) = labO r m := out_same ok h0
      rw [eo] at o8
      exact o8
  · rw [if_neg hr]
    have el : labE r m = 201 := by unfold labE; rw [if_neg hr]
    rw [el] at hK
    exact cond_t rfl (hK nilS w2 k02 (fun _ => rfl) (fun h => absurd h (by decide)))
end Go.Proofs.YtechilkjfhpkpaaGreatDoor.Ru

namespace Go.Proofs.YtechilkjfhpkpaaGreatDoor.Mem
open Go Vm Go.RowKit Num
variable {ω ω' ω'' ωl : Tg} {w w' w'' : World} {t u g : Nat} {T : Nat → Bool} {e : TypeId} {sz : Nat} {s : Sl} {xs : List Value}
def rtg (ω ωl : Tg) (n : Nat) (f : Nat → Nat) : Tg := fun k => if k < n then ω k else f (ωl k)
theorem rtg_new {n : Nat} {f : Nat → Nat} {k v : Nat} (h : n ≤ k) (hv : ωl k = v) : rtg ω ωl n f k = f v := by unfold rtg; rw [if_neg (by omega), hv]
theorem rtg_stp (k : Keep w w') (ω ωl : Tg) (f : Nat → Nat) : Stp Non ω (rtg ω ωl w.heap.size f) w w' := ⟨k.os, k.tape, k.output, k.size, fun i hi => by unfold rtg; rw [if_pos hi], fun i hi _ => k.block i hi⟩
theorem Top.ge {v : Nat} (top : Top w ω' w') {k : Nat} (h : ω' k = v) (hv : v ≠ 0) : w.heap.size ≤ k := by
  rcases Nat.lt_or_ge k w.heap.size with hlt | hge
  · rw [top.z k hlt] at h; exact absurd h.symm hv
  · exact hge
theorem BT.rtg {cs : List Value} (h : BT ωl w' u g e cs) (top : Top w ωl w') (f : Nat → Nat) (hu : u ≠ 0 := by decide) : BT (rtg ω ωl w.heap.size f) w' (f u) g e cs := ⟨h.blk, rtg_new (top.ge h.tag hu) h.tag⟩
theorem OT.rtg (h : OT ωl w' u e sz s xs) (top : Top w ωl w') (f : Nat → Nat) (hu : u ≠ 0 := by decide) : OT (rtg ω ωl w.heap.size f) w' (f u) e sz s xs := ⟨h.own, fun k hk => rtg_new (top.ge (h.tag k hk) hu) (h.tag k hk)⟩
theorem RT.rtg (h : RT ωl w' u s sz xs) (top : Top w ωl w') (f : Nat → Nat) (hu : u ≠ 0 := by decide) : RT (rtg ω ωl w.heap.size f) w' (f u) s sz xs := ⟨h.rd, fun g o ha hne => rtg_new (top.ge (h.tag g o ha hne) hu) (h.tag g o ha hne)⟩
theorem MV.rtg {al : AL} (h : MV ωl w' u g al) (top : Top w ωl w') (f : Nat → Nat) (hu : u ≠ 0 := by decide) : MV (rtg ω ωl w.heap.size f) w' (f u) g al := ⟨h.ex, rtg_new (top.ge h.tag hu) h.tag⟩
theorem fresh (ω : Tg) (n m : Nat) : ∃ v, m < v ∧ ∀ k, k < n → ω k ≠ v := by
  induction n with
  | zero => exact ⟨m + 1, by omega, fun k hk => absurd hk (Nat.not_lt_zero _)⟩
  | succ n ih =>
    obtain ⟨b, hb⟩ : ∃ b, ∀ k, k < n + 1 → ω k ≤ b := by
      clear ih
      induction n with
      | zero => exact ⟨ω 0, fun k hk => by have : k = 0 := by omega
                                           rw [this]; exact Nat.le_refl _⟩
      | succ n ih =>
        obtain ⟨b, hb⟩ := ih
        refine ⟨max b (ω (n + 1)), fun k hk => ?_⟩
        rcases Nat.lt_succ_iff_lt_or_eq.1 hk with h | rfl
        · exact Nat.le_trans (hb k h) (Nat.le_max_left ..)
        · exact Nat.le_max_right ..
    exact ⟨max m b + 1, by omega, fun k hk e => by have := hb k hk; omega⟩
theorem Stp.fresh {v : Nat} (h : Stp T ω ω' w w') (k : Stp (One v) ω' ω'' w' w'') (hv : ∀ i, i < w.heap.size → ω i ≠ v) : Stp T ω ω'' w w'' :=
  ⟨k.os.trans h.os, k.tape.trans h.tape, k.output.trans h.output, Nat.le_trans h.size k.size, fun i hi => (k.same i (Nat.lt_of_lt_of_le hi h.size)).trans (h.same i hi), fun i hi hT => by
    rw [k.block i (Nat.lt_of_lt_of_le hi h.size) (by rw [h.same i hi]; exact beq_no (hv i hi))]
    exact h.block i hi hT⟩
end Go.Proofs.YtechilkjfhpkpaaGreatDoor.Mem

namespace Go.Proofs.YtechilkjfhpkpaaGreatDoor.Ru
open Go Vm Go.RowKit Num Mem Utf Lib Lab
variable {ω ω' : Tg} {w w' w0 : World} {t gs gm : Nat} {T : Nat → Bool} {pl : QL} {M : List Av}
theorem Top.rt {s : Sl} {sz : Nat} {xs : List Value} (top : Top w0 ω w) (h : Rd w0 s sz xs) : RT ω w 0 s sz xs := by
  refine ⟨h.keep top.k, fun g o ha hne => ?_⟩
  obtain ⟨g', o', ha', hc⟩ := h.2.2 hne
  rw [ha] at ha'
  simp only [Option.some.injEq, Addr.mk.injEq] at ha'
  obtain ⟨rfl, rfl, _⟩ := ha'
  have hpos : 0 < xs.length := List.length_pos_iff.2 hne
  exact top.z _ (cell_lt (hc 0 xs[0] (List.getElem?_eq_getElem hpos)))
abbrev ltA (a b : Av) : Prop := cmpL a.1 b.1 < 0
theorem ltA_irr (a : Av) : ¬ ltA a a := by unfold ltA; rw [cmpL_cmp.self]; decide
theorem perm_up : ∀ {M l : List Av}, l.Perm M → l.Pairwise (fun a b => ¬ ltA b a) → M.Pairwise ltA → l = M
  | [], l, hp, _, _ => hp.eq_nil
  | m :: M, l, hp, h1, h2 => by
    cases l with
    | nil => exact absurd hp.symm.eq_nil (by simp)
    | cons x l =>
      have h1' := List.pairwise_cons.1 h1
      have h2' := List.pairwise_cons.1 h2
      have e : x = m := by
        rcases List.mem_cons.1 (hp.mem_iff.1 (List.mem_cons_self ..)) with e | hx
        · exact e
        · rcases List.mem_cons.1 (hp.mem_iff.2 (List.mem_cons_self ..)) with e | hm
          · exact e.symm
          · exact absurd (h2'.1 x hx) (h1'.1 m hm)
      subst e
      rw [perm_up (List.perm_cons x |>.1 hp) h1'.2 h2'.2]
theorem range_getD (q0 : Av × Sl) (ql : QL) : (List.range ql.length).map (fun i => ql.getD i q0) = ql := by
  apply List.ext_getElem?
  intro i
  simp only [List.getElem?_map]
  by_cases h : i < ql.length
  · rw [List.getElem?_range h, List.getElem?_eq_getElem h]; simp [List.getD_eq_getElem?_getD, h]
  · rw [List.getElem?_eq_none (by simp; omega), List.getElem?_eq_none (by omega)]; rfl
theorem avs_map (q0 : Av × Sl) (ql : QL) (l : List Nat) : l.flatMap (fun i => avC (ql.getD i q0)) = avs (l.map fun i => ql.getD i q0) := by
  unfold avs
  rw [List.flatMap_map]
theorem cmp11_ok (p q : Av × Sl) (ha : Rd w p.2 2 (labs p.1.1)) (hb : Rd w q.2 2 (labs q.1.1)) (hx : p.1.1.length ≤ 16) {K : Int → World → Prop} (hK : ∀ w', KD w w' → K (cmpL p.1.1 q.1.1) w') :
    C.rules_Keeper_Active_1 p.2 p.1.2.1 p.1.2.2.1 p.1.2.2.2.1 p.1.2.2.2.2.1 p.1.2.2.2.2.2 q.2 q.1.2.1 q.1.2.2.1 q.1.2.2.2.1 q.1.2.2.2.2.1 q.1.2.2.2.2.2 w K := by
  unfold C.rules_Keeper_Active_1
  refine newD fun g w1 k1 _ b1 => newD fun g2 w2 k2 _ b2 => ?_
  have k12 := k1.trans k2
  have b12 := b1.keep k2.1
  exact cSl_at (s := p.2) (by rw [b12.cell]; rfl) <| cSl_at (s := q.2) (by rw [b2.cell]; rfl) <| compare_ok (ha.keep k12.1) (hb.keep k12.1) (by omega) fun w' k' => hK w' (k12.trans k')
theorem sorted_ok {g : Nat} (hbox : w.cell? ⟨g, 0, none⟩ = some (.map (some gm))) (hmp : MV (fun _ => 0) w 0 gm (pl.map encP)) (hl : pl.length ≤ 100000000) (hrd : ∀ p ∈ pl, Rd w p.2 2 (labs p.1.1) ∧ p.1.1.length ≤ 16) (hp : (pl.map (·.1)).Perm M) (hM : M.Pairwise ltA) {K : Sl → World → Prop}
    (hK : ∀ r ql w', Keep w w' → ql.map (·.1) = M → (∀ p ∈ ql, p ∈ pl) → Mem.Own w' w.heap.size 41 6 r (avs ql) → K r w') :
    C.slices_SortedFunc_Active (.func (.func 80) #[] #[.pointer (some ⟨g, 0, none⟩)]) (.func (.func 48) #[] #[]) w K := by
  unfold C.slices_SortedFunc_Active
  refine collect_ok hbox hmp hl fun r ql w1 k1 pm o1 => ?_
  show Srt.sortF 6 r (.func (.func 48) #[] #[]) w1 fun w6 => K r w6
  have top1 : Top w (ext (fun _ => 0) w.heap.size 2) w1 := (Top.init w).stp (k1.stp _ 2)
  have o2 : OT (ext (fun _ => 0) w.heap.size 2) w1 2 41 6 r (avs ql) := Own.tag o1 (Nat.le_refl _) _ 2
  have hrn := rdA_n o2.rd
  generalize ext (fun _ => 0) w.heap.size 2 = ω1 at *
  have hlen : ql.length ≤ 100000000 := by rw [pm.length_eq]; exact hl
  cases hq : ql with
  | nil =>
    subst hq
    have hpl : pl = [] := pm.symm.eq_nil
    subst hpl
    have hM0 : M = [] := hp.symm.eq_nil
    subst hM0
    exact .inl ⟨hrn, hK r [] w1 k1 rfl (by simp) o1⟩
  | cons q0 qr =>
    have hq0 : q0 ∈ ql := by rw [hq]; exact List.mem_cons_self ..
    have hgd : ∀ i, ql.getD i q0 ∈ ql := fun i => by
      rw [List.getD_eq_getElem?_getD]
      cases h : ql[i]? with
      | none => exact hq0
      | some p => exact List.mem_of_getElem? h
    have hrt : ∀ i, RT ω1 w1 0 (ql.getD i q0).2 2 (labs (ql.getD i q0).1.1) ∧ (ql.getD i q0).1.1.length ≤ 16 := fun i => by
      obtain ⟨h1, h2⟩ := hrd _ (pm.mem_iff.1 (hgd i))
      exact ⟨Top.rt top1 h1, h2⟩
    refine Srt.sort_rows (k := 6) (by decide) (ω := ω1) (t := 2) (e := 41) (enc := fun i => avC (ql.getD i q0)) (fun i => rfl) (fun i v hv => by simp only [avC, List.mem_cons, List.not_mem_nil, or_false] at hv; rcases hv with rfl | rfl | rfl | rfl | rfl | rfl <;> rfl) ?_ (by omega)
      (cf := fun i j => cmpL (ql.getD i q0).1.1 (ql.getD j q0).1.1) (Srt.swo cmpL_cmp fun i => (ql.getD i q0).1.1) (fun _ _ => callFunc_run ⟨_, Tryz.func48, by kernel_rfl, by kernel_rfl⟩) (fun W st x y => ?_) (fun is ω' w' p1 p2 st o' => ?_)
    · rw [hrn, avs_map, range_getD]; exact o2
    · have hx := hrt x
      have hy := hrt y
      generalize ql.getD x q0 = p at *
      generalize ql.getD y q0 = q at *
      refine (C.rules_Keeper_Active_1.clok [.agg (avC p).toArray, .agg (avC q).toArray] (fun v w' => v = .int .i64 (cmpL p.1.1 q.1.1) ∧ KD W w') W ?_).2.mono fun e w' ⟨v, he, hv, hk⟩ => ⟨by rw [he, hv], hk⟩
      unfold avC C.rules_Keeper_Active_1.cl Sl.v
      dsimp only
      exact cmp11_ok p q (hx.1.stp st).rd (hy.1.stp st).rd hx.2 fun w' k => ⟨rfl, k⟩
    · have top' := top1.stp st
      rw [avs_map] at o'
      have pq : (is.map fun i => ql.getD i q0).Perm ql := by
        have := p1.map fun i => ql.getD i q0
        rw [hrn, range_getD] at this
        exact this
      refine hK r _ w' top'.k (perm_up ((pq.trans pm).map (·.1) |>.trans hp) ?_ hM) (fun p hp => pm.mem_iff.1 (pq.mem_iff.1 hp)) (OT.new o' top')
      rw [List.pairwise_map, List.pairwise_map]
      exact p2
theorem cloneL_ok {s : Sl} {m : List Lb} (h : Rd w s 2 (labs m)) (hm : m.length ≤ 16) {K : Sl → World → Prop} (hK : ∀ r w', Keep w w' → Mem.Own w' w.heap.size 99 2 r (labs m) → K r w') : C.slices_Clone_Label_Label s w K := by
  have hn := rdL_n h
  unfold C.slices_Clone_Label_Label
  exact Sm.clone_ok (P := Tryz.prog) tiL h labs_one (by simp only [maxLen]; omega) (by omega) fun r w' k o _ => hK r w' k o
structure AW (w : World) (gs gm : Nat) (pl : QL) : Prop where
  hd : w.cell? ⟨gs, 6, none⟩ = some (.map (some gm))
  mp : MV (fun _ => 0) w 0 gm (pl.map encP)
  rt : ∀ p ∈ pl, Rd w p.2 2 (labs p.1.1)
theorem AW.keep (h : AW w gs gm pl) (k : Keep w w') : AW w' gs gm pl := ⟨k.cell h.hd, h.mp.stp (k.stp0 _) rfl, fun p hp => (h.rt p hp).keep k⟩
def fg (u : Nat) (vs : Nat → Nat) (x : Nat) : Nat := if x = 2 then u else if x < 2 then 0 else vs (x - 3)
theorem fg_e (u : Nat) (vs : Nat → Nat) (j : Nat) : fg u vs (3 + j) = vs j := by unfold fg; rw [if_neg (by omega), if_neg (by omega)]; congr 1; omega
theorem avs_set : ∀ (l : QL) (k : Nat) (h : k < l.length) (s : Sl), (avs l).set (k * 6 + 0) s.v = avs (l.set k ((l[k]).1, s))
  | [], k, h, _ => by simp at h
  | x :: l, 0, _, s => rfl
  | x :: l, k + 1, h, s => by
    have ih := avs_set l k (by simpa using h) s
    have e : ∀ (y : Av × Sl) (m : QL), avs (y :: m) = y.2.v :: .int .i64 y.1.2.1 :: .int .i64 y.1.2.2.1 :: .int .i64 y.1.2.2.2.1 :: .int .i64 y.1.2.2.2.2.1 :: .float .f64 y.1.2.2.2.2.2 :: avs m := fun _ _ => rfl
    rw [e, show (k + 1) * 6 + 0 = (k * 6 + 0) + 1 + 1 + 1 + 1 + 1 + 1 by omega]
    rw [Nat.add_zero] at ih ⊢
    simp only [List.set_cons_succ]
    rw [ih, e]; rfl
theorem active_ok (ω : Tg) (h : AW w gs gm pl) (hp : (pl.map (·.1)).Perm M) (hM : M.Pairwise ltA) (hl : pl.length ≤ 100000000) (hs : ∀ p ∈ pl, p.1.1.length ≤ 16) (u : Nat) (vs : Nat → Nat) {K : Sl → World → Prop}
    (hK : ∀ r ql ω' w', Stp Non ω ω' w w' → OT ω' w' u 41 6 r (avs ql) → ql.map (·.1) = M → (∀ j (hj : j < ql.length), OT ω' w' (vs j) 99 2 (ql[j]).2 (labs (ql[j]).1.1)) → K r w') : C.rules_Keeper_Active (some ⟨gs, 0, none⟩) w K := by
  unfold C.rules_Keeper_Active
  refine cond_f rfl <| ptr_at ⟨some gm, by rw [addr_add]; exact h.hd, ?_⟩
  unfold C.maps_Values_map_string_Active_string_Active
  refine newD fun g w1 k1 hg b1 => ?_
  refine sorted_ok (by rw [b1.cell]; rfl) (h.mp.stp (k1.1.stp0 _) rfl) hl (fun p hp => ⟨(h.rt p hp).keep k1.1, hs p hp⟩) hp hM fun r ql w2 k2 eq hin o2 => ?_
  have k02 := Keep.trans k1.1 k2
  have top2 : Top w (ext (fun _ => 0) w.heap.size 2) w2 := (Top.init w).stp (k02.stp _ 2)
  have o2' : OT (ext (fun _ => 0) w.heap.size 2) w2 2 41 6 r (avs ql) := Own.tag (o2.mono k1.1.size) (Nat.le_refl _) _ 2
  generalize ext (fun _ => 0) w.heap.size 2 = ω2 at *
  have hrn := rdA_n o2'.rd
  have hql : ql.length = pl.length := by have h1 := congrArg List.length eq; have h2 := hp.length_eq; simp at h1 h2; omega
  unfold C.rules_Keeper_Active.S9
  refine C.rules_Keeper_Active.L5_ind fun X hX => ?_
  have key : ∀ (d i : Nat) (qi : QL) (ω : Tg) (w3 : World), i + d = ql.length → Top w ω w3 → OT ω w3 2 41 6 r (avs qi) → qi.map (·.1) = M → (∀ j (hj : j < qi.length), j < i → OT ω w3 (3 + j) 99 2 (qi[j]).2 (labs (qi[j]).1.1)) → (∀ j, i ≤ j → qi[j]? = ql[j]?) → X r ((r.n : Nat) : Int) (i : Int) w3 := by
    intro d
    induction d with
    | zero =>
      intro i qi ω' w3 hi top o e h1 h2
      refine hX _ _ _ _ ?_
      unfold C.rules_Keeper_Active.S7 C.rules_Keeper_Active.S2
      have hqi : qi.length = ql.length := by have a := congrArg List.length e; have b := congrArg List.length eq; simp at a b; omega
      refine cond_d (fun h => by omega) (fun _ => ?_)
      exact hK r qi (rtg ω ω' w.heap.size (fg u vs)) w3 (rtg_stp top.k ω ω' (fg u vs)) (o.rtg top (fg u vs)) e fun j hj => by
        have := (h1 j hj (by omega)).rtg (ω := ω) top (fg u vs) (by omega)
        rwa [fg_e] at this
    | succ d ih =>
      intro i qi ω' w3 hi top o e h1 h2
      refine hX _ _ _ _ ?_
      unfold C.rules_Keeper_Active.S7
      have hqi : qi.length = ql.length := by have a := congrArg List.length e; have b := congrArg List.length eq; simp at a b; omega
      have hii : i < qi.length := by omega
      have hx : qi[i]? = some qi[i] := List.getElem?_eq_getElem hii
      have hmem : qi[i] ∈ pl := hin _ (List.mem_of_getElem? ((h2 i (Nat.le_refl _)).symm.trans hx))
      refine cond_d (fun _ => ?_) (fun h => by omega)
      refine rdA_at o.rd (k := i) rfl hx fun a ac => cSl_at ac.1 ?_
      refine cloneL_ok ((h.rt _ hmem).keep top.k) (hs _ hmem) fun r4 w4 k4 o4 => ?_
      have s4 := k4.stp ω' (3 + i)
      have o4' := Own.tag o4 (Nat.le_refl _) ω' (3 + i)
      have top4 := top.stp s4
      have o5 := o.stp s4
      have h15 : ∀ j (hj : j < qi.length), j < i → OT (ext ω' w3.heap.size (3 + i)) w4 (3 + j) 99 2 (qi[j]).2 (labs (qi[j]).1.1) := fun j hj hji => (h1 j hj hji).stp s4
      generalize ext ω' w3.heap.size (3 + i) = ω4 at *
      refine OT.at_ o5 (k := i) rfl (by omega) fun a ha _ _ _ => ?_
      have e0 : a = a.add 0 := by simp [Addr.add]
      have key2 : G.st (a.add 0) r4.v w4 fun w19 => X r ((r.n : Nat) : Int) (IntKind.i64.wrap ((i : Int) + 1)) w19 := by
        refine OT.st o5 (i := i) (j := 0) (by omega) (by decide) _ ha fun ω6 w6 k6 o6 => ?_
        rw [avs_set qi i hii r4] at o6
        rw [wI64 (by omega) (by omega), show (i : Int) + 1 = ((i + 1 : Nat) : Int) by omega]
        refine ih (i + 1) (qi.set i ((qi[i]).1, r4)) ω6 w6 (by omega) (top4.stp k6) o6 ?_ (fun j hj hji => ?_) (fun j hj => ?_)
        · rw [List.map_set, show ((qi[i]).1, r4).1 = (qi.map (·.1))[i]'(by simpa using hii) by simp, List.set_getElem_self]; exact e
        · by_cases hj' : j = i
          · subst hj'
            rw [List.getElem_set_self]
            exact o4'.stp k6 (beq_no (by omega))
          · rw [List.getElem_set_ne (by omega)]
            exact (h15 j (by simpa using hj) (by omega)).stp k6 (beq_no (by omega))
        · rw [List.getElem?_set_ne (by omega)]
          exact h2 j (by omega)
      rwa [← e0] at key2
  exact key ql.length 0 ql ω2 w2 (by omega) top2 o2' eq (fun j hj h => by omega) (fun j _ => rfl)
end Go.Proofs.YtechilkjfhpkpaaGreatDoor.Ru

namespace Go.Proofs.YtechilkjfhpkpaaGreatDoor.Ru
open Go Vm Go.RowKit Num Mem Utf Lib Lab
variable {ω ω' : Tg} {w w' w0 : World} {t v gs gm : Nat} {T : Nat → Bool} {pl : QL} {M : List Av}
def getM (M : List Av) (m : List Lb) : Option Av := M.find? fun a => decide (a.1 = m)
def insM (a : Av) : List Av → List Av
  | [] => [a]
  | b :: r => if b.1 = a.1 then a :: r else if cmpL a.1 b.1 < 0 then a :: b :: r else b :: insM a r
theorem lt_ne {a b : Av} (h : ltA a b) : a.1 ≠ b.1 := fun e => by unfold ltA at h; rw [e, cmpL_cmp.self] at h; omega
theorem uniq (h : M.Pairwise ltA) {a b : Av} (ha : a ∈ M) (hb : b ∈ M) (e : a.1 = b.1) : a = b := by
  induction M with
  | nil => cases ha
  | cons x r ih =>
    have h' := List.pairwise_cons.1 h
    rcases List.mem_cons.1 ha with ea | ha'
    · rcases List.mem_cons.1 hb with eb | hb'
      · rw [ea, eb]
      · exact absurd e (by rw [ea]; exact lt_ne (h'.1 b hb'))
    · rcases List.mem_cons.1 hb with eb | hb'
      · exact absurd e.symm (by rw [eb]; exact lt_ne (h'.1 a ha'))
      · exact ih h'.2 ha' hb'
theorem getM_some (h : M.Pairwise ltA) {m : List Lb} {a : Av} : getM M m = some a ↔ a ∈ M ∧ a.1 = m := by
  unfold getM
  constructor
  · intro e
    exact ⟨List.mem_of_find?_eq_some e, by have := List.find?_some e; simpa using this⟩
  · rintro ⟨h1, rfl⟩
    cases hf : M.find? fun b => decide (b.1 = a.1) with
    | none => exact absurd (List.find?_eq_none.1 hf a h1) (by simp)
    | some b =>
      have e := List.find?_some hf
      rw [uniq h (List.mem_of_find?_eq_some hf) h1 (by simpa using e)]
theorem getM_none {m : List Lb} : getM M m = none ↔ ∀ a ∈ M, a.1 ≠ m := by
  unfold getM
  rw [List.find?_eq_none]; simp
theorem mem_insM {a x : Av} : ∀ {M : List Av}, M.Pairwise ltA → (x ∈ insM a M ↔ x = a ∨ (x ∈ M ∧ x.1 ≠ a.1))
  | [], _ => by simp [insM]
  | b :: r, h => by
    have h' := List.pairwise_cons.1 h
    unfold insM
    split
    · rename_i e
      have hr : ∀ x ∈ r, x.1 ≠ a.1 := fun x hx => by rw [← e]; exact (lt_ne (h'.1 x hx)).symm
      simp only [List.mem_cons]
      constructor
      · rintro (rfl | hx)
        · exact .inl rfl
        · exact .inr ⟨.inr hx, hr x hx⟩
      · rintro (rfl | ⟨rfl | hx, hn⟩)
        · exact .inl rfl
        · exact absurd e hn
        · exact .inr hx
    · rename_i e
      split
      · rename_i hl
        have hr : ∀ x ∈ b :: r, x.1 ≠ a.1 := fun x hx => by
          rcases List.mem_cons.1 hx with rfl | hx
          · exact e
          · exact (lt_ne (cmpL_cmp.trans _ _ _ hl (h'.1 x hx) : ltA a x)).symm
        simp only [List.mem_cons]
        constructor
        · rintro (rfl | rfl | hx)
          · exact .inl rfl
          · exact .inr ⟨.inl rfl, e⟩
          · exact .inr ⟨.inr hx, hr x (List.mem_cons_of_mem _ hx)⟩
        · rintro (rfl | ⟨rfl | hx, hn⟩)
          · exact .inl rfl
          · exact .inr (.inl rfl)
          · exact .inr (.inr hx)
      · rw [List.mem_cons, mem_insM h'.2]
        simp only [List.mem_cons]
        constructor
        · rintro (rfl | rfl | ⟨hx, hn⟩)
          · exact .inr ⟨.inl rfl, e⟩
          · exact .inl rfl
          · exact .inr ⟨.inr hx, hn⟩
        · rintro (rfl | ⟨rfl | hx, hn⟩)
          · exact .inr (.inl rfl)
          · exact .inl rfl
          · exact .inr (.inr ⟨hx, hn⟩)
theorem insM_up {a : Av} : ∀ {M : List Av}, M.Pairwise ltA → (insM a M).Pairwise ltA
  | [], _ => by simp [insM]
  | b :: r, h => by
    have h' := List.pairwise_cons.1 h
    unfold insM
    split
    · rename_i e
      refine List.pairwise_cons.2 ⟨fun x hx => ?_, h'.2⟩
      have := h'.1 x hx
      unfold ltA at this ⊢
      rw [← e]; exact this
    · rename_i e
      split
      · rename_i hl
        refine List.pairwise_cons.2 ⟨fun x hx => ?_, h⟩
        rcases List.mem_cons.1 hx with rfl | hx
        · exact hl
        · exact cmpL_cmp.trans _ _ _ hl (h'.1 x hx)
      · rename_i hl
        refine List.pairwise_cons.2 ⟨fun x hx => ?_, insM_up h'.2⟩
        rcases (mem_insM h'.2).1 hx with rfl | ⟨hx, _⟩
        · have h1 := cmpL_cmp.anti b.1 x.1
          have h2 : cmpL x.1 b.1 ≠ 0 := fun q => e ((cmpL_cmp.eq _ _).1 q).symm
          show cmpL b.1 x.1 < 0
          omega
        · exact h'.1 x hx
theorem insM_len {a : Av} : ∀ {M : List Av}, (insM a M).length ≤ M.length + 1
  | [] => by simp [insM]
  | b :: r => by
    unfold insM
    split
    · simp
    · split
      · simp
      · have := insM_len (a := a) (M := r); simp; omega
theorem mem_perm (hp : (pl.map (·.1)).Perm M) {p : Av × Sl} (h : p ∈ pl) : p.1 ∈ M := hp.mem_iff.1 (List.mem_map_of_mem h)
theorem getV_enc (m : List Lb) : ∀ pl : QL, getV (Lab.keyOf m) (pl.map encP) = (pl.find? fun p => decide (p.1.1 = m)).map encV
  | [] => rfl
  | p :: pl => by
    simp only [List.map_cons, encP, getV, List.find?_cons]
    by_cases e : p.1.1 = m
    · simp [e]
    · simp only [e, decide_false]
      rw [if_neg (show ¬ Lab.keyOf m = Lab.keyOf p.1.1 from fun h => e (key_inj h.symm))]
      exact getV_enc m pl
theorem get_none (hp : (pl.map (·.1)).Perm M) {m : List Lb} (h : getM M m = none) : getV (Lab.keyOf m) (pl.map encP) = none := by
  rw [getV_enc, List.find?_eq_none.2 fun p hm => by simpa using getM_none.1 h _ (mem_perm hp hm)]; rfl
theorem get_some (hp : (pl.map (·.1)).Perm M) (hM : M.Pairwise ltA) {m : List Lb} {a : Av} (h : getM M m = some a) : ∃ p ∈ pl, p.1 = a ∧ getV (Lab.keyOf m) (pl.map encP) = some (encV p) := by
  obtain ⟨h1, h2⟩ := (getM_some hM).1 h
  obtain ⟨q, hq, rfl⟩ := List.mem_map.1 (hp.mem_iff.2 h1)
  rw [getV_enc]
  cases hf : pl.find? fun p => decide (p.1.1 = m) with
  | none => exact absurd (List.find?_eq_none.1 hf q hq) (by simp [h2])
  | some p =>
    have hpm := List.mem_of_find?_eq_some hf
    have hpn : p.1.1 = m := by have := List.find?_some hf; simpa using this
    exact ⟨p, hpm, uniq hM (mem_perm hp hpm) h1 (hpn.trans h2.symm), rfl⟩
def updP (a : Av × Sl) : QL → QL
  | [] => [a]
  | p :: r => if p.1.1 = a.1.1 then a :: r else p :: updP a r
theorem updP_map (a : Av × Sl) : ∀ pl : QL, updA (Lab.keyOf a.1.1) (encV a) (pl.map encP) = (updP a pl).map encP
  | [] => rfl
  | p :: pl => by
    simp only [List.map_cons, encP, updA, updP]
    by_cases e : p.1.1 = a.1.1
    · rw [if_pos e, if_pos (by rw [e])]; rfl
    · rw [if_neg e, if_neg (fun h => e (key_inj h).symm)]
      have ih := updP_map a pl
      simp only [List.map_cons]
      rw [← ih]; rfl
theorem mem_updP {a x : Av × Sl} : ∀ {pl : QL}, (pl.map (·.1.1)).Nodup → (x ∈ updP a pl ↔ x = a ∨ (x ∈ pl ∧ x.1.1 ≠ a.1.1))
  | [], _ => by simp [updP]
  | p :: pl, h => by
    simp only [List.map_cons, List.nodup_cons] at h
    unfold updP
    split
    · rename_i e
      have hr : ∀ x ∈ pl, x.1.1 ≠ a.1.1 := fun x hx q => h.1 (by rw [e, ← q]; exact List.mem_map_of_mem (f := fun p : Av × Sl => p.1.1) hx)
      simp only [List.mem_cons]
      constructor
      · rintro (rfl | hx)
        · exact .inl rfl
        · exact .inr ⟨.inr hx, hr x hx⟩
      · rintro (rfl | ⟨rfl | hx, hn⟩)
        · exact .inl rfl
        · exact absurd e hn
        · exact .inr hx
    · rename_i e
      rw [List.mem_cons, mem_updP h.2]
      simp only [List.mem_cons]
      constructor
      · rintro (rfl | rfl | ⟨hx, hn⟩)
        · exact .inr ⟨.inl rfl, e⟩
        · exact .inl rfl
        · exact .inr ⟨.inr hx, hn⟩
      · rintro (rfl | ⟨rfl | hx, hn⟩)
        · exact .inr (.inl rfl)
        · exact .inl rfl
        · exact .inr (.inr ⟨hx, hn⟩)
theorem nodupM (h : M.Pairwise ltA) : M.Nodup := h.imp fun {a b} h e => by subst e; exact ltA_irr a h
theorem nodupL (h : M.Pairwise ltA) : (M.map (·.1)).Nodup := by
  rw [List.Nodup, List.pairwise_map]
  exact h.imp fun {a b} h => lt_ne h
theorem nodup1 {l : QL} (h : (l.map (·.1.1)).Nodup) : (l.map (·.1)).Nodup := by
  rw [List.Nodup, List.pairwise_map] at h ⊢
  exact h.imp fun h e => h (by rw [e])
def delP (m : List Lb) : QL → QL
  | [] => []
  | p :: r => if p.1.1 = m then r else p :: delP m r
theorem delP_map (m : List Lb) : ∀ pl : QL, delA (Lab.keyOf m) (pl.map encP) = (delP m pl).map encP
  | [] => rfl
  | p :: pl => by
    simp only [List.map_cons, encP, delA, delP]
    by_cases e : p.1.1 = m
    · rw [if_pos e, if_pos (by rw [e])]
    · rw [if_neg e, if_neg (fun h => e (key_inj h).symm)]
      have ih := delP_map m pl
      simp only [List.map_cons]
      rw [← ih]; rfl
theorem mem_delP {m : List Lb} {x : Av × Sl} : ∀ {pl : QL}, (pl.map (·.1.1)).Nodup → (x ∈ delP m pl ↔ x ∈ pl ∧ x.1.1 ≠ m)
  | [], _ => by simp [delP]
  | p :: pl, h => by
    simp only [List.map_cons, List.nodup_cons] at h
    unfold delP
    split
    · rename_i e
      have hr : ∀ x ∈ pl, x.1.1 ≠ m := fun x hx q => h.1 (by rw [e, ← q]; exact List.mem_map_of_mem (f := fun p : Av × Sl => p.1.1) hx)
      simp only [List.mem_cons]
      constructor
      · intro hx; exact ⟨.inr hx, hr x hx⟩
      · rintro ⟨rfl | hx, hn⟩
        · exact absurd e hn
        · exact hx
    · rename_i e
      rw [List.mem_cons, mem_delP h.2]
      simp only [List.mem_cons]
      constructor
      · rintro (rfl | ⟨hx, hn⟩)
        · exact ⟨.inl rfl, e⟩
        · exact ⟨.inr hx, hn⟩
      · rintro ⟨rfl | hx, hn⟩
        · exact .inl rfl
        · exact .inr ⟨hx, hn⟩
def delM (m : List Lb) (M : List Av) : List Av := M.filter fun a => decide (a.1 ≠ m)
theorem names_pl (hp : (pl.map (·.1)).Perm M) (hM : M.Pairwise ltA) : (pl.map (·.1.1)).Nodup := by
  have h := (hp.map (·.1)).nodup_iff.2 (nodupL hM)
  rw [List.map_map] at h; exact h
structure PM (ω : Tg) (w : World) (t v gm : Nat) (pl : QL) : Prop where
  mp : MV ω w t gm (pl.map encP)
  rt : ∀ p ∈ pl, RT ω w v p.2 2 (labs p.1.1)
abbrev MS (ω : Tg) (w : World) (t v gm : Nat) (M : List Av) : Prop := ∃ pl, PM ω w t v gm pl ∧ (pl.map (·.1)).Perm M
theorem PM.stp (h : PM ω w t v gm pl) (k : Stp T ω ω' w w') (h1 : T t = false) (h2 : T v = false) : PM ω' w' t v gm pl := ⟨h.mp.stp k h1, fun p hp => (h.rt p hp).stp k h2⟩
theorem MS.stp (h : MS ω w t v gm M) (k : Stp T ω ω' w w') (h1 : T t = false) (h2 : T v = false) : MS ω' w' t v gm M := let ⟨pl, a, b⟩ := h; ⟨pl, a.stp k h1 h2, b⟩
theorem upd_MS {v : Nat} (hv : v ≠ t) (h : PM ω w t v gm pl) (hp : (pl.map (·.1)).Perm M) (hM : M.Pairwise ltA) {a : Av} {sl : Sl} (k : Stp (Mem.One t) ω ω' w w') (m' : MV ω' w' t gm (updA (Lab.keyOf a.1) (encV (a, sl)) (pl.map encP))) (r : RT ω w v sl 2 (labs a.1)) :
    MS ω' w' t v gm (insM a M) := by
  have hn := names_pl hp hM
  rw [updP_map (a, sl)] at m'
  have hn' : ((updP (a, sl) pl).map (·.1.1)).Nodup := by
    have := m'.nodup
    rw [List.map_map] at this
    rw [List.Nodup, List.pairwise_map] at this ⊢
    exact this.imp fun h e => h (by show Lab.keyOf _ = Lab.keyOf _; rw [e])
  refine ⟨updP (a, sl) pl, ⟨m', fun p hpm => ?_⟩, ?_⟩
  · rcases (mem_updP hn).1 hpm with rfl | ⟨h1, _⟩
    · exact r.stp k (beq_no hv)
    · exact (h.rt p h1).stp k (beq_no hv)
  · refine (List.perm_ext_iff_of_nodup (nodup1 hn') (nodupM (insM_up hM))).2 fun x => ?_
    rw [mem_insM hM, List.mem_map]
    constructor
    · rintro ⟨p, hpm, rfl⟩
      rcases (mem_updP hn).1 hpm with rfl | ⟨h1, h2⟩
      · exact .inl rfl
      · exact .inr ⟨mem_perm hp h1, h2⟩
    · rintro (rfl | ⟨h1, h2⟩)
      · exact ⟨(x, sl), (mem_updP hn).2 (.inl rfl), rfl⟩
      · obtain ⟨q, hq, rfl⟩ := List.mem_map.1 (hp.mem_iff.2 h1)
        exact ⟨q, (mem_updP hn).2 (.inr ⟨hq, h2⟩), rfl⟩
theorem del_MS {v : Nat} (hv : v ≠ t) (h : PM ω w t v gm pl) (hp : (pl.map (·.1)).Perm M) (hM : M.Pairwise ltA) {m : List Lb} (k : Stp (Mem.One t) ω ω' w w') (m' : MV ω' w' t gm (delA (Lab.keyOf m) (pl.map encP))) :
    MS ω' w' t v gm (delM m M) := by
  have hn := names_pl hp hM
  rw [delP_map] at m'
  have hn' : ((delP m pl).map (·.1.1)).Nodup := by
    have := m'.nodup
    rw [List.map_map] at this
    rw [List.Nodup, List.pairwise_map] at this ⊢
    exact this.imp fun h e => h (by show Lab.keyOf _ = Lab.keyOf _; rw [e])
  refine ⟨delP m pl, ⟨m', fun p hpm => (h.rt p ((mem_delP hn).1 hpm).1).stp k (beq_no hv)⟩, ?_⟩
  refine (List.perm_ext_iff_of_nodup (nodup1 hn') (nodupM (hM.filter _))).2 fun x => ?_
  rw [List.mem_filter, List.mem_map]
  constructor
  · rintro ⟨p, hpm, rfl⟩
    obtain ⟨h1, h2⟩ := (mem_delP hn).1 hpm
    exact ⟨mem_perm hp h1, decide_eq_true h2⟩
  · rintro ⟨h1, h2⟩
    obtain ⟨q, hq, rfl⟩ := List.mem_map.1 (hp.mem_iff.2 h1)
    exact ⟨q, (mem_delP hn).2 ⟨hq, of_decide_eq_true h2⟩, rfl⟩
theorem key_ok {s : Sl} {m : List Lb} (ht : UTab w0) (hs : Rd w0 s 2 (labs m)) (hr : (rt m).1 = 0) {K : ByteArray → World → Prop} (hK : ∀ w', Keep w0 w' → K (Lab.keyOf m) w') : C.rules_key s w0 K := by
  unfold C.rules_key
  exact Lab.put_ok ht hs hr fun r w1 k1 o1 => convBS o1.rd (hK w1 k1)
def zeroA : Av := ([], 0, 0, 0, 0, 0)
theorem look_ok {mw : World} {ωm : Tg} (h : MV ωm mw t gm (pl.map encP)) (hp : (pl.map (·.1)).Perm M) (hM : M.Pairwise ltA) {m : List Lb} {K : Value → Bool → Prop}
    (h0 : getM M m = none → K (encV (zeroA, nilS)) false) (h1 : ∀ p ∈ pl, getM M m = some p.1 → K (encV p) true) :
    G.rd2 C.pr (Instr.lookup 73 (.map (some gm)) (.string (Lab.keyOf m)) true) (fun v : Value => v) mw K := by
  cases hf : getM M m with
  | none =>
    refine rd2_V (kt := 9) (et := 41) (a := encV (zeroA, nilS)) h mapT strT Tryz.zeroValue41 (by rw [get_none hp hf]; rfl) ?_
    rw [get_none hp hf]; exact h0 hf
  | some a =>
    obtain ⟨p, hpm, rfl, hg⟩ := get_some hp hM hf
    refine rd2_V (kt := 9) (et := 41) (a := encV p) h mapT strT Tryz.zeroValue41 (by rw [hg]; rfl) ?_
    rw [hg]; exact h1 p hpm hf
end Go.Proofs.YtechilkjfhpkpaaGreatDoor.Ru

namespace Go.Proofs.YtechilkjfhpkpaaGreatDoor.Ru
open Go Vm Go.RowKit Num Mem Utf Lib Lab
variable {ω ω' : Tg} {w w' w0 : World} {t v gs gm : Nat} {T : Nat → Bool} {pl : QL} {M : List Av}
abbrev Pt := List Lb × Nat
abbrev PQ := List (Pt × Sl)
def ptC (p : Pt × Sl) : List Value := [p.2.v, .float .f64 p.1.2]
def pts (l : PQ) : List Value := l.flatMap ptC
theorem pts_len (l : PQ) : (pts l).length = l.length * 2 := by
  induction l with
  | nil => rfl
  | cons s l ih => simp only [pts, List.flatMap_cons, List.length_append, List.length_cons] at *; simp [ptC] at *; omega
theorem pts_at : ∀ (l : PQ) (i : Nat) (p : Pt × Sl), l[i]? = some p → (pts l)[i * 2 + 0]? = some p.2.v ∧ (pts l)[i * 2 + 1]? = some (.float .f64 p.1.2)
  | [], i, p, h => by simp at h
  | x :: l, 0, p, h => by
    simp only [List.getElem?_cons_zero, Option.some.injEq] at h
    subst h
    exact ⟨rfl, rfl⟩
  | x :: l, i + 1, p, h => by
    have ih := pts_at l i p (by simpa using h)
    have e : pts (x :: l) = x.2.v :: .float .f64 x.1.2 :: pts l := rfl
    rw [e, show (i + 1) * 2 + 0 = (i * 2 + 0) + 1 + 1 by omega, show (i + 1) * 2 + 1 = (i * 2 + 1) + 1 + 1 by omega]
    simpa using ih
theorem rdP_n {s : Sl} {l : PQ} (h : Rd w s 2 (pts l)) : s.n = l.length := by have := h.2.1; rw [pts_len] at this; omega
theorem rdP_at {s : Sl} {l : PQ} (h : Rd w s 2 (pts l)) {i : Int} {k : Nat} {p : Pt × Sl} (ei : i = (k : Int)) (hx : l[k]? = some p) {K : Addr → Prop}
    (hK : ∀ a : Addr, w.cell? a = some p.2.v → w.cell? (a.add 1) = some (.float .f64 p.1.2) → K a) : G.ix s.a s.n i 2 K := by
  have hk : k < l.length := (List.getElem?_eq_some_iff.1 hx).1
  have hn := rdP_n h
  subst ei
  obtain ⟨e0, e1⟩ := pts_at l k p hx
  refine Rd.ix h (by decide) (by omega) (by omega) fun a hc => hK a ?_ ?_
  · have := hc 0 _ (by decide) (by rw [Int.toNat_natCast]; exact e0)
    rwa [show a.add 0 = a by simp [Addr.add]] at this
  · exact hc 1 _ (by decide) (by rw [Int.toNat_natCast]; exact e1)
structure RdPs (w : World) (s : Sl) (l : PQ) : Prop where
  row : Rd w s 2 (pts l)
  el : ∀ p ∈ l, Rd w p.2 2 (labs p.1.1)
theorem RdPs.keep {s : Sl} {l : PQ} (h : RdPs w s l) (k : Keep w w') : RdPs w' s l := ⟨h.row.keep k, fun p hp => (h.el p hp).keep k⟩
def tstep (r : Rl) (x : Bool × List Av) (p : Pt) : Bool × List Av := (x.1 || (getM x.2 (labO r p.1)).isSome, insM (labO r p.1, 0, 0, 0, 0, p.2) x.2)
def toldS (r : Rl) (ps : List Pt) : Bool × List Av := ps.foldl (tstep r) (false, [])
def firstE (r : Rl) : List Pt → Int
  | [] => 0
  | p :: ps => if wE p.1 (moreA r) ≠ 0 then wE p.1 (moreA r) else firstE r ps
def toldE (r : Rl) (ps : List Pt) : Int := if firstE r ps ≠ 0 then firstE r ps else if (toldS r ps).1 then 150 else 0
def toldL (r : Rl) (ps : List Pt) : List Av := (toldS r ps).2
theorem toldS_take {r : Rl} {ps : List Pt} {i : Nat} (h : i < ps.length) : toldS r (ps.take (i + 1)) = tstep r (toldS r (ps.take i)) ps[i] := by
  unfold toldS
  rw [List.take_succ_eq_append_getElem h, List.foldl_append]; rfl
theorem labO_rt {r : Rl} {m : List Lb} (hr : RlOk r) (h : wE m (moreA r) = 0) : (rt (labO r m)).1 = 0 := by
  have h1 : (rt m).1 = 0 := by
    by_cases e : (rt m).1 = 0
    · exact e
    · unfold wE at h; rw [if_pos e] at h; exact absurd h (by decide)
  have h2 : (outL m (moreA r)).length ≤ 16 := by
    rcases Nat.lt_or_ge 16 (outL m (moreA r)).length with h' | h'
    · unfold wE at h; rw [if_neg (by rw [h1]; decide), if_pos h'] at h; exact absurd h (by decide)
    · exact h'
  refine outL_rt h1 (moreA_names hr) (fun x hx hne => ?_) h2
  unfold moreA at hx
  rcases List.mem_cons.1 hx with rfl | hx
  · exact absurd rfl hne
  · rcases List.mem_cons.1 hx with rfl | hx
    · exact ⟨goodA, hr.val⟩
    · exact ((rt_iff _).1 hr.rt).2.1 x hx
theorem toldS_up (r : Rl) (ps : List Pt) : (toldS r ps).2.Pairwise ltA := by
  unfold toldS
  have key : ∀ (ps : List Pt) (x : Bool × List Av), x.2.Pairwise ltA → (ps.foldl (tstep r) x).2.Pairwise ltA := by
    intro ps
    induction ps with
    | nil => intro x h; exact h
    | cons p ps ih => intro x h; exact ih _ (insM_up h)
  exact key ps _ List.Pairwise.nil
theorem toldS_len (r : Rl) (ps : List Pt) : (toldS r ps).2.length ≤ ps.length := by
  unfold toldS
  have key : ∀ (ps : List Pt) (x : Bool × List Av), (ps.foldl (tstep r) x).2.length ≤ x.2.length + ps.length := by
    intro ps
    induction ps with
    | nil => intro x; exact Nat.le_refl _
    | cons p ps ih =>
      intro x
      have h1 := ih (tstep r x p)
      have h2 : (tstep r x p).2.length ≤ x.2.length + 1 := insM_len
      rw [List.foldl_cons, List.length_cons]; omega
  have := key ps (false, [])
  rw [List.length_nil] at this; omega
theorem firstE_drop {r : Rl} : ∀ {ps : List Pt} {i : Nat}, (∀ j (h : j < ps.length), j < i → wE (ps[j]).1 (moreA r) = 0) → firstE r ps = firstE r (ps.drop i)
  | _, 0, _ => by rw [List.drop_zero]
  | [], _ + 1, _ => by simp
  | p :: ps, i + 1, h => by
    have h0 : wE p.1 (moreA r) = 0 := h 0 (by simp) (by omega)
    rw [List.drop_succ_cons, firstE, if_neg (by rw [h0]; decide)]
    exact firstE_drop fun j hj hji => h (j + 1) (by simpa using hj) (by omega)
structure KSa (ω : Tg) (w : World) (t gs gm : Nat) (r : Rl) (last : Int) (pl : QL) (rs : Sl) : Prop where
  hd : BT ω w t gs 75 [.bool r.rc, .string r.nm, .string r.ex, .int .i64 r.fo, .int .i64 r.ke, rs.v, .map (some gm), .int .i64 last]
  rl : RT ω w (t + 3) rs 2 (labs r.ls)
  pm : PM ω w (t + 1) (t + 2) gm pl
def KS (ω : Tg) (w : World) (t gs : Nat) (r : Rl) (last : Int) (M : List Av) : Prop := ∃ gm pl rs, KSa ω w t gs gm r last pl rs ∧ (pl.map (·.1)).Perm M
def Off (t : Nat) (T : Nat → Bool) : Prop := T t = false ∧ T (t + 1) = false ∧ T (t + 2) = false ∧ T (t + 3) = false
theorem off_non (t : Nat) : Off t Non := ⟨rfl, rfl, rfl, rfl⟩
theorem off_one {t u : Nat} (h : u < t ∨ t + 3 < u) : Off t (Mem.One u) := ⟨beq_no (by omega), beq_no (by omega), beq_no (by omega), beq_no (by omega)⟩
theorem KSa.stp {r : Rl} {last : Int} {rs : Sl} (h : KSa ω w t gs gm r last pl rs) (k : Stp T ω ω' w w') (hT : Off t T) : KSa ω' w' t gs gm r last pl rs := ⟨h.hd.stp k hT.1, h.rl.stp k hT.2.2.2, h.pm.stp k hT.2.1 hT.2.2.1⟩
theorem KS.stp {r : Rl} {last : Int} (h : KS ω w t gs r last M) (k : Stp T ω ω' w w') (hT : Off t T) : KS ω' w' t gs r last M := let ⟨gm, pl, rs, a, b⟩ := h; ⟨gm, pl, rs, a.stp k hT, b⟩
theorem KSa.aw {r : Rl} {last : Int} {rs : Sl} (h : KSa ω w t gs gm r last pl rs) : AW w gs gm pl := ⟨by rw [h.hd.cell]; rfl, ⟨h.pm.mp.ex, rfl⟩, fun p hp => (h.pm.rt p hp).rd⟩
theorem ks_rule {r : Rl} {last : Int} {rs : Sl} (hb : Blk w gs 75 [.bool r.rc, .string r.nm, .string r.ex, .int .i64 r.fo, .int .i64 r.ke, rs.v, .map (some gm), .int .i64 last]) {Z : Bool → ByteArray → ByteArray → Int → Int → Sl → Prop} (hZ : Z r.rc r.nm r.ex r.fo r.ke rs) :
    G.cB ⟨gs, 0, none⟩ w fun b => G.cS (Addr.add ⟨gs, 0, none⟩ 1) w fun s1 => G.cS (Addr.add ⟨gs, 0, none⟩ 2) w fun s2 => G.cI .i64 (Addr.add ⟨gs, 0, none⟩ 3) w fun n1 => G.cI .i64 (Addr.add ⟨gs, 0, none⟩ 4) w fun n2 => G.cSl (Addr.add ⟨gs, 0, none⟩ 5) w fun l => Z b s1 s2 n1 n2 l :=
  cB_at (b := r.rc) (by rw [hb.cell]; rfl) <| cS_at (b := r.nm) (by rw [addr_add, hb.cell]; rfl) <| cS_at (b := r.ex) (by rw [addr_add, hb.cell]; rfl) <| cI_at (n := r.fo) (by rw [addr_add, hb.cell]; rfl) <| cI_at (n := r.ke) (by rw [addr_add, hb.cell]; rfl) <| cSl_at (s := rs) (by rw [addr_add, hb.cell]; rfl) hZ
theorem isNil_nil {Z : Bool → Prop} (h : Z true) : G.isNilI .nilIface Z := h
theorem isNil_fault {e : Int} {Z : Bool → Prop} (h : Z false) : G.isNilI (fault e) Z := h
def ft (a b x : Nat) : Nat := if x = 5 then a else if x = 6 then b else 0
theorem told_ok (ω : Tg) {r : Rl} {last : Int} {rs s : Sl} {q : PQ} (hr : RlOk r) (ht : UTab w) (hb : Blk w gs 75 [.bool r.rc, .string r.nm, .string r.ex, .int .i64 r.fo, .int .i64 r.ke, rs.v, .map (some gm), .int .i64 last]) (hrs : Rd w rs 2 (labs r.ls))
    (hq : RdPs w s q) (hl : q.length ≤ 10000000) (ta tb : Nat) {K : Option Nat → Value → World → Prop}
    (hK : ∀ m x ω' w', Stp Non ω ω' w w' → (toldE r (q.map (·.1)) ≠ 0 → m = none ∧ x = fault (toldE r (q.map (·.1)))) → (toldE r (q.map (·.1)) = 0 → x = .nilIface ∧ ∃ g, m = some g ∧ MS ω' w' ta tb g (toldL r (q.map (·.1)))) → K m x w') :
    C.rules_Keeper_told (some ⟨gs, 0, none⟩) s w K := by
  unfold C.rules_Keeper_told
  have hsn := rdP_n hq.row
  refine mkV (ω := fun _ => 0) 5 fun go ω1 w1 k1 m1 => ?_
  have top1 := (Top.init w).stp k1
  unfold C.rules_Keeper_told.S9
  refine C.rules_Keeper_told.L5_ind fun X hX => ?_
  generalize hps : q.map (·.1) = ps at *
  have hpl : ps.length = q.length := by rw [← hps, List.length_map]
  have key : ∀ (d i : Nat) (ωl : Tg) (w2 : World), i + d = q.length → Top w ωl w2 → MS ωl w2 5 6 go (toldS r (ps.take i)).2 → (∀ j (h : j < ps.length), j < i → wE (ps[j]).1 (moreA r) = 0) → X (some ⟨gs, 0, none⟩) (some go) (toldS r (ps.take i)).1 s ((s.n : Nat) : Int) (i : Int) w2 := by
    intro d
    induction d with
    | zero =>
      intro i ωl w2 hi top ms h0
      refine hX _ _ _ _ _ _ _ ?_
      unfold C.rules_Keeper_told.S7 C.rules_Keeper_told.S2 C.rules_wrong
      have efe : firstE r ps = 0 := by rw [firstE_drop (i := ps.length) fun j h _ => h0 j h (by omega), List.drop_length]; rfl
      rw [List.take_of_length_le (by omega)] at ms ⊢
      have ee : toldE r ps = if (toldS r ps).1 then 150 else 0 := by unfold toldE; rw [if_neg (by rw [efe]; decide)]
      refine cond_d (fun h => by omega) (fun _ => cond_of (fun htw => ?_) (fun htw => ?_))
      · rw [if_pos htw] at ee
        exact hK none _ (rtg ω ωl w.heap.size (ft ta tb)) w2 (rtg_stp top.k ω ωl _) (fun _ => ⟨rfl, by rw [ee]⟩) (fun h => by rw [ee] at h; exact absurd h (by decide))
      · rw [if_neg (by rw [htw]; decide)] at ee
        obtain ⟨pl, pm, hp⟩ := ms
        exact hK (some go) _ (rtg ω ωl w.heap.size (ft ta tb)) w2 (rtg_stp top.k ω ωl _) (fun h => absurd ee h) (fun _ => ⟨rfl, go, rfl, pl, ⟨pm.mp.rtg top (ft ta tb), fun p hp => (pm.rt p hp).rtg top (ft ta tb)⟩, hp⟩)
    | succ d ih =>
      intro i ωl w2 hi top ms h0
      refine hX _ _ _ _ _ _ _ ?_
      unfold C.rules_Keeper_told.S7
      have hiq : i < q.length := by omega
      have hx : q[i]? = some q[i] := List.getElem?_eq_getElem hiq
      have epi : ps[i]'(by omega) = (q[i]).1 := by simp [← hps]
      have hmem := List.getElem_mem hiq
      have est := toldS_take (r := r) (show i < ps.length by omega)
      rw [epi] at est
      have hup := toldS_up r (ps.take i)
      have hTl := toldS_len r (ps.take i)
      rw [List.length_take] at hTl
      refine cond_d (fun _ => ?_) (fun h => by omega)
      refine rdP_at (hq.row.keep top.k) (k := i) rfl hx fun a a0 a1 => cSl_at a0 <| cF_at a1 ?_
      refine newD fun g3 w3 k3 hg3 b3 => stD hg3 k3 b3 (by simp) fun w4 k4 b4 => stDA hg3 k4 b4 (by simp) fun w5 k5 b5 => ?_
      have b5 : Blk w5 g3 45 [(q[i]).2.v, .float .f64 (q[i]).1.2] := b5
      have k25 : Keep w2 w5.drew := Keep.trans k5.1 (Keep.drew w5)
      have b5d := b5.keep (Keep.drew w5)
      have s5 := k25.stp ωl 7
      have top5 := top.stp s5
      have ms5 := ms.stp s5 rfl rfl
      generalize ext ωl w2.heap.size 7 = ω5 at *
      refine ptr_at <| ks_rule (hb.keep top5.k) <| cSl_at (s := (q[i]).2) (by rw [b5d.cell]; rfl) ?_
      refine alert_ok hr (ht.keep top5.k) (hrs.keep top5.k) ((hq.el _ hmem).keep top5.k) fun l6 x6 w6 k6 h61 h62 => ?_
      by_cases he : wE (q[i]).1.1 (moreA r) = 0
      · obtain ⟨rfl, o6⟩ := h62 he
        have hrt := labO_rt hr he
        have s6 := k6.stp ω5 6
        have r6 : RT (ext ω5 w5.drew.heap.size 6) w6 6 l6 2 (labs (labO r (q[i]).1.1)) := Own.rt o6 (Nat.le_refl _) ω5 6
        have top6 := top5.stp s6
        have ms6 := ms5.stp s6 rfl rfl
        generalize ext ω5 w5.drew.heap.size 6 = ω6 at *
        refine isNil_nil ?_
        refine cond_f rfl ?_
        refine key_ok (ht.keep top6.k) r6.rd hrt fun w7 k7 => ?_
        have s7 := k7.stp0 ω6
        have top7 := top6.stp s7
        have ms7 := ms6.stp s7 rfl rfl
        have r7 := r6.stp s7
        obtain ⟨pl, pm7, hp7⟩ := ms7
        -- behind the look
        have next : ∀ (b : Bool), b = (getM (toldS r (ps.take i)).2 (labO r (q[i]).1.1)).isSome → ∀ w8, Keep w7 w8 →
            G.cond (toldS r (ps.take i)).1 (G.cF .f64 (Addr.add ⟨g3, 0, none⟩ 1) w8.drew fun f65 => C.rules_key l6 w8.drew fun s66 w67 => sameAt (Addr.add ⟨g3, 0, none⟩ 1) 1 w8.drew w67 ∧ (G.runU C.pr (Instr.mapUpdate 73 (.map (some go)) (.string s66) (.agg #[l6.v, (.int .i64 (0 : Int)), (.int .i64 (0 : Int)), (.int .i64 (0 : Int)), (.int .i64 (0 : Int)), (.float .f64 f65)])) w67 fun w68 => X (some ⟨gs, 0, none⟩) (some go) true s ((s.n : Nat) : Int) (IntKind.i64.wrap ((i : Int) + (1 : Int))) w68))
              (G.cF .f64 (Addr.add ⟨g3, 0, none⟩ 1) w8.drew fun f65 => C.rules_key l6 w8.drew fun s66 w67 => sameAt (Addr.add ⟨g3, 0, none⟩ 1) 1 w8.drew w67 ∧ (G.runU C.pr (Instr.mapUpdate 73 (.map (some go)) (.string s66) (.agg #[l6.v, (.int .i64 (0 : Int)), (.int .i64 (0 : Int)), (.int .i64 (0 : Int)), (.int .i64 (0 : Int)), (.float .f64 f65)])) w67 fun w68 => X (some ⟨gs, 0, none⟩) (some go) b s ((s.n : Nat) : Int) (IntKind.i64.wrap ((i : Int) + (1 : Int))) w68)) := by
          intro b eb w8 k8
          have k58 : Keep w5.drew w8.drew := Keep.trans k6 (Keep.trans k7 (Keep.trans k8 (Keep.drew w8)))
          have b8 := b5d.keep k58
          have s8 := (Keep.trans k8 (Keep.drew w8)).stp0 ω6
          have top8 := top7.stp s8
          have pm8 := pm7.stp s8 rfl rfl
          have r8 := r7.stp s8
          have go' : ∀ b', b' = (tstep r (toldS r (ps.take i)) (q[i]).1).1 → G.cF .f64 (Addr.add ⟨g3, 0, none⟩ 1) w8.drew fun f65 => C.rules_key l6 w8.drew fun s66 w67 => sameAt (Addr.add ⟨g3, 0, none⟩ 1) 1 w8.drew w67 ∧ (G.runU C.pr (Instr.mapUpdate 73 (.map (some go)) (.string s66) (.agg #[l6.v, (.int .i64 (0 : Int)), (.int .i64 (0 : Int)), (.int .i64 (0 : Int)), (.int .i64 (0 : Int)), (.float .f64 f65)])) w67 fun w68 => X (some ⟨gs, 0, none⟩) (some go) b' s ((s.n : Nat) : Int) (IntKind.i64.wrap ((i : Int) + (1 : Int))) w68) := by
            intro b' eb'
            refine cF_at (b := (q[i]).1.2) (by rw [addr_add, b8.cell]; rfl) <| key_ok (ht.keep top8.k) r8.rd hrt fun w9 k9 => ⟨by rw [addr_add]; exact sameK b8 k9, ?_⟩
            have s9 := k9.stp0 ω6
            have top9 := top8.stp s9
            have pm9 := pm8.stp s9 rfl rfl
            have r9 := r8.stp s9
            refine updV (v := encV ((labO r (q[i]).1.1, 0, 0, 0, 0, (q[i]).1.2), l6)) pm9.mp mapT strT fun ω10 w10 k10 m10 => ?_
            have ms10 := upd_MS (a := (labO r (q[i]).1.1, 0, 0, 0, 0, (q[i]).1.2)) (sl := l6) (by decide) pm9 hp7 hup k10 m10 r9
            rw [wI64 (by omega) (by omega), show (i : Int) + 1 = ((i + 1 : Nat) : Int) by omega, eb', ← est]
            refine ih (i + 1) ω10 w10 (by omega) (top9.stp k10) (by rw [est]; exact ms10) fun j h hj => ?_
            by_cases e : j = i
            · subst e; rw [epi]; exact he
            · exact h0 j h (by omega)
          refine cond_of (fun htw => go' true ?_) (fun htw => go' b ?_)
          · unfold tstep; rw [htw]; rfl
          · unfold tstep; rw [htw, eb]; rfl
        refine look_ok pm7.mp hp7 hup (fun hn => ?_) (fun p hpm hg => ?_)
        · refine enc_at (zeroA, nilS) <| loc_ok (zeroA, nilS) fun g8 w8 k8 _ _ => ?_
          exact next false (by rw [hn]; rfl) w8 k8.1
        · refine enc_at p <| loc_ok p fun g8 w8 k8 _ _ => ?_
          exact next true (by rw [hg]; rfl) w8 k8.1
      · obtain ⟨rfl, rfl⟩ := h61 he
        have efe : firstE r ps = wE (q[i]).1.1 (moreA r) := by
          rw [firstE_drop h0, List.drop_eq_getElem_cons (show i < ps.length by omega), firstE, epi, if_pos he]
        have ee : toldE r ps = wE (q[i]).1.1 (moreA r) := by unfold toldE; rw [efe, if_pos he]
        have top6 : Top w (ext ω5 w5.drew.heap.size 8) w6 := top5.stp (k6.stp ω5 8)
        refine isNil_fault ?_
        refine cond_t rfl (hK none _ (rtg ω _ w.heap.size (ft ta tb)) w6 (rtg_stp top6.k ω (ext ω5 w5.drew.heap.size 8) _) (fun _ => ⟨rfl, by rw [ee]⟩) (fun h => absurd (ee.symm.trans h) he))
  exact key q.length 0 ω1 w1 (by omega) top1 ⟨[], ⟨m1, by simp⟩, by simp [toldS]⟩ (fun j h hj => by omega)
end Go.Proofs.YtechilkjfhpkpaaGreatDoor.Ru

namespace Go.Proofs.YtechilkjfhpkpaaGreatDoor.Ru
open Go Vm Go.RowKit Num Mem Utf Lib Lab
variable {ω ω' ωb : Tg} {w w' w0 wb : World} {t v v1 v2 ga gx gs gm : Nat} {T : Nat → Bool} {pl : QL} {M : List Av} {r : Rl} {last now : Int} {rs sa sx : Sl}
def nextA (r : Rl) (now : Int) (o : Option Av) (l : List Lb) (b : Nat) : Av :=
  match o with
  | some x => if x.2.1 = 1 ∧ IntKind.i64.wrap (now - x.2.2.1) ≥ r.fo then (l, 2, x.2.2.1, now, -1, b) else (l, x.2.1, x.2.2.1, x.2.2.2.1, -1, b)
  | none => if IntKind.i64.wrap (now - now) ≥ r.fo then (l, 2, now, now, -1, b) else (l, 1, now, -1, -1, b)
def upA (r : Rl) (now : Int) (x : Av) (b : Nat) : Av := if x.2.1 = 1 ∧ IntKind.i64.wrap (now - x.2.2.1) ≥ r.fo then (x.1, 2, x.2.2.1, now, -1, b) else (x.1, x.2.1, x.2.2.1, x.2.2.2.1, -1, b)
theorem nextA_some {x : Av} {l : List Lb} (h : x.1 = l) (b : Nat) : nextA r now (some x) l b = upA r now x b := by subst h; rfl
theorem nextA_none (l : List Lb) (b : Nat) (z : Nat) : nextA r now none l b = upA r now (l, 1, now, -1, 0, z) b := by
  unfold nextA upA
  simp only [true_and]
structure NX (ωb ω : Tg) (wb w w0 : World) (t v1 v2 ga gx gs gm : Nat) (r : Rl) (last : Int) (pl : QL) (rs : Sl) (M : List Av) (q : Av × Sl) : Prop where
  sp : Stp (Mem.One (t + 1)) ωb ω wb w
  top : Top w0 ω w
  tab : UTab w0
  t0 : 0 < t
  f1 : ∀ i, i < wb.heap.size → ωb i ≠ v1
  f2 : ∀ i, i < wb.heap.size → ωb i ≠ v2
  lt1 : t + 3 < v1
  lt2 : v1 < v2
  ks : KSa ω w t gs gm r last pl rs
  hp : (pl.map (·.1)).Perm M
  up : M.Pairwise ltA
  ba : BT ω w v1 ga 41 (avC q)
  qr : RT ω w (t + 2) q.2 2 (labs q.1.1)
  rt : (rt q.1.1).1 = 0
variable {q : Av × Sl}
theorem NX.non (h : NX ωb ω wb w w0 t v1 v2 ga gx gs gm r last pl rs M q) (k : Stp Non ω ω' w w') : NX ωb ω' wb w' w0 t v1 v2 ga gx gs gm r last pl rs M q :=
  { h with sp := h.sp.trans (k.non _), top := h.top.stp k, ks := h.ks.stp k (off_non t), ba := h.ba.stp k, qr := h.qr.stp k }
theorem NX.two (h : NX ωb ω wb w w0 t v1 v2 ga gx gs gm r last pl rs M q) (k : Stp (Mem.One v2) ω ω' w w') : NX ωb ω' wb w' w0 t v1 v2 ga gx gs gm r last pl rs M q :=
  have l1 := h.lt1
  have l2 := h.lt2
  { h with sp := h.sp.fresh k h.f2, top := h.top.stp k (beq_no (by omega)), ks := h.ks.stp k (off_one (by omega)), ba := h.ba.stp k (beq_no (by omega)), qr := h.qr.stp k (beq_no (by omega)) }
theorem next_S2 {x : Av} (h : NX ωb ω wb w w0 t v1 v2 ga gx gs gm r last pl rs M q) (bx : BT ω w v2 gx 41 (avC (x, sx))) (hx : x.1 = q.1.1) (rx : RT ω w (t + 2) sx 2 (labs x.1)) {K : World → Prop}
    (hK : ∀ ω' w', Stp (Mem.One (t + 1)) ωb ω' wb w' → MS ω' w' (t + 1) (t + 2) gm (insM x M) → K w') : C.rules_Keeper_next.S2 K (some ⟨gs, 0, none⟩) (some ⟨ga, 0, none⟩) (some ⟨gx, 0, none⟩) w := by
  unfold C.rules_Keeper_next.S2
  have sd := drew_stp ω w
  have hd := h.non sd
  have bd := bx.stp sd
  have rd := rx.stp sd
  refine ptr_at ⟨some gm, by rw [addr_add, hd.ks.hd.cell]; rfl, ptr_at <| cSl_at (s := q.2) (by rw [hd.ba.cell]; rfl) <| ptr_at <| ac_at (blk_ac bd.blk) ?_⟩
  refine key_ok (hd.tab.keep hd.top.k) hd.qr.rd h.rt fun w2 k2 => ⟨by rw [addr_add]; exact sameK hd.ks.hd.blk k2, sameK bd.blk k2, ?_⟩
  have s2 := k2.stp0 ω
  have h2 := hd.non s2
  have r2 := rd.stp s2
  rw [show Lab.keyOf q.1.1 = Lab.keyOf x.1 by rw [hx]]
  refine updV (v := encV (x, sx)) h2.ks.pm.mp mapT strT fun ω3 w3 k3 m3 => ?_
  exact hK ω3 w3 (h2.sp.trans k3) (upd_MS (by omega) h2.ks.pm h.hp h.up k3 m3 r2)
theorem next_S3 {x : Av} {b : Nat} (hb : q.1.2.2.2.2.2 = b) (h : NX ωb ω wb w w0 t v1 v2 ga gx gs gm r last pl rs M q) (bx : BT ω w v2 gx 41 (avC (x, sx))) (hx : x.1 = q.1.1) (rx : RT ω w (t + 2) sx 2 (labs x.1)) {K : World → Prop}
    (hK : ∀ ω' w', Stp (Mem.One (t + 1)) ωb ω' wb w' → MS ω' w' (t + 1) (t + 2) gm (insM (upA r now x b) M) → K w') : C.rules_Keeper_next.S3 K (some ⟨gs, 0, none⟩) now (some ⟨ga, 0, none⟩) (some ⟨gx, 0, none⟩) w := by
  unfold C.rules_Keeper_next.S3
  have l1 := h.lt1
  have l2 := h.lt2
  have sd := drew_stp ω w
  have hd := h.non sd
  have bd := bx.stp sd
  have rd := rx.stp sd
  refine ptr_at <| cF_at (b := b) (by rw [addr_add, hd.ba.cell, ← hb]; rfl) <| ptr_at <| st_TA bd (by simp [avC]) fun ω1 w1 k1 b1 => ⟨hd.ba.sameA k1 (beq_no (by omega)), ?_⟩
  refine ptr_at <| st_TA b1 (by simp [avC]) fun ω2 w2 k2 b2 => ?_
  have k12 := k1.trans k2
  have h2 := hd.two k12
  have r2 := rd.stp k12 (beq_no (by omega))
  have sd2 := drew_stp ω2 w2
  have h3 := h2.non sd2
  have b3 := b2.stp sd2
  have r3 := r2.stp sd2
  have b3 : BT ω2 w2.drew v2 gx 41 (avC ((x.1, x.2.1, x.2.2.1, x.2.2.2.1, -1, b), sx)) := b3
  refine ptr_at <| cI_at (n := x.2.1) (by rw [addr_add, b3.cell]; rfl) <| cond_eq (fun h1 => ?_) (fun h1 => ?_)
  · refine ptr_at <| cI_at (n := x.2.2.1) (by rw [addr_add, b3.cell]; rfl) <| ptr_at <| cI_at (n := r.fo) (by rw [addr_add, h3.ks.hd.cell]; rfl) <| cond_d (fun hge => ?_) (fun hlt => ?_)
    · refine ptr_at <| st_TA b3 (by simp [avC]) fun ω4 w4 k4 b4 => ptr_at <| st_TA b4 (by simp [avC]) fun ω5 w5 k5 b5 => ?_
      have k45 := k4.trans k5
      refine next_S2 (x := (x.1, 2, x.2.2.1, now, -1, b)) (h3.two k45) b5 hx (r3.stp k45 (beq_no (by omega))) fun ω' w' k m => hK ω' w' k ?_
      unfold upA
      rw [if_pos ⟨h1, hge⟩]; exact m
    · refine next_S2 (x := (x.1, x.2.1, x.2.2.1, x.2.2.2.1, -1, b)) h3 b3 hx r3 fun ω' w' k m => hK ω' w' k ?_
      unfold upA
      rw [if_neg (fun hh => hlt hh.2)]; exact m
  · refine next_S2 (x := (x.1, x.2.1, x.2.2.1, x.2.2.2.1, -1, b)) h3 b3 hx r3 fun ω' w' k m => hK ω' w' k ?_
    unfold upA
    rw [if_neg (fun hh => h1 hh.1)]; exact m
theorem next_tail {x : Av} {b : Nat} {o : Bool} (hb : q.1.2.2.2.2.2 = b) (h : NX ωb ω wb w w0 t v1 v2 ga gx gs gm r last pl rs M q) (bx : BT ω w v2 gx 41 (avC (x, sx)))
    (hn : o = false → getM M q.1.1 = none) (hy : o = true → getM M q.1.1 = some x ∧ x.1 = q.1.1 ∧ RT ω w (t + 2) sx 2 (labs x.1)) {K : World → Prop}
    (hK : ∀ ω' w', Stp (Mem.One (t + 1)) ωb ω' wb w' → MS ω' w' (t + 1) (t + 2) gm (insM (nextA r now (getM M q.1.1) q.1.1 b) M) → K w') :
    G.cond (!o) (G.cSl ⟨ga, 0, none⟩ w fun l => G.st ⟨gx, 0, none⟩ l.v w fun w1 => G.st (Addr.add ⟨gx, 0, none⟩ 1) (.int .i64 (1 : Int)) w1 fun w2 => G.st (Addr.add ⟨gx, 0, none⟩ 2) (.int .i64 now) w2 fun w3 => G.st (Addr.add ⟨gx, 0, none⟩ 3) (.int .i64 (-1 : Int)) w3 fun w4 => G.st (Addr.add ⟨gx, 0, none⟩ 4) (.int .i64 (0 : Int)) w4 fun w5 => G.st (Addr.add ⟨gx, 0, none⟩ 5) (.float .f64 0) w5 fun w6 =>
      C.rules_Keeper_next.S3 K (some ⟨gs, 0, none⟩) now (some ⟨ga, 0, none⟩) (some ⟨gx, 0, none⟩) w6) (C.rules_Keeper_next.S3 K (some ⟨gs, 0, none⟩) now (some ⟨ga, 0, none⟩) (some ⟨gx, 0, none⟩) w) := by
  have l1 := h.lt1
  have l2 := h.lt2
  cases o with
  | false =>
    have hn := hn rfl
    rw [hn, nextA_none q.1.1 b 0] at hK
    refine cond_t rfl <| cSl_at (s := q.2) (by rw [h.ba.cell]; rfl) ?_
    refine st_T bx (by simp [avC]) fun ω1 w1 k1 b1 => st_TA b1 (by simp [avC]) fun ω2 w2 k2 b2 => st_TA b2 (by simp [avC]) fun ω3 w3 k3 b3 => st_TA b3 (by simp [avC]) fun ω4 w4 k4 b4 => st_TA b4 (by simp [avC]) fun ω5 w5 k5 b5 => st_TA b5 (by simp [avC]) fun ω6 w6 k6 b6 => ?_
    have kk := (((((k1.trans k2).trans k3).trans k4).trans k5).trans k6)
    exact next_S3 (x := (q.1.1, 1, now, -1, 0, 0)) (sx := q.2) hb (h.two kk) b6 rfl (h.qr.stp kk (beq_no (by omega))) hK
  | true =>
    obtain ⟨e, hx, rx⟩ := hy rfl
    rw [e, nextA_some hx] at hK
    exact cond_f rfl (next_S3 hb h bx hx rx hK)
theorem next_ok (ks : KSa ω w t gs gm r last pl rs) (hp : (pl.map (·.1)).Perm M) (hM : M.Pairwise ltA) (top : Top w0 ω w) (htab : UTab w0) (t0 : 0 < t) (q : Av × Sl) (qr : RT ω w (t + 2) q.2 2 (labs q.1.1)) (hr : (rt q.1.1).1 = 0) {K : World → Prop}
    (hK : ∀ ω' w', Stp (Mem.One (t + 1)) ω ω' w w' → MS ω' w' (t + 1) (t + 2) gm (insM (nextA r now (getM M q.1.1) q.1.1 q.1.2.2.2.2.2) M) → K w') :
    C.rules_Keeper_next (some ⟨gs, 0, none⟩) now q.2 q.1.2.1 q.1.2.2.1 q.1.2.2.2.1 q.1.2.2.2.2.1 q.1.2.2.2.2.2 w K := by
  unfold C.rules_Keeper_next
  obtain ⟨v1, hv1, hf1⟩ := fresh ω w.heap.size (t + 3)
  obtain ⟨v2, hv2, hf2⟩ := fresh ω w.heap.size v1
  refine new_T (ω := ω) v1 fun ga ω1 w1 k1 b1 => ?_
  have h1 : NX ω ω1 w w1 w0 t v1 v2 ga 0 gs gm r last pl rs M q := ⟨k1.non _, top.stp k1, htab, t0, hf1, hf2, hv1, hv2, ks.stp k1 (off_non t), hp, hM, b1, qr.stp k1, hr⟩
  have h1d := h1.non (drew_stp ω1 w1)
  refine ptr_at ⟨some gm, by rw [addr_add, h1d.ks.hd.cell]; rfl, cSl_at (s := q.2) (by rw [h1d.ba.cell]; rfl) ?_⟩
  -- what stands in the map
  have look : ∀ {ω' : Tg} {w' : World} (_ : NX ω ω' w w' w0 t v1 v2 ga 0 gs gm r last pl rs M q) {Z : Value → Bool → Prop}, (∀ (p : Av × Sl) (o : Bool), (o = false → getM M q.1.1 = none) → (o = true → getM M q.1.1 = some p.1 ∧ p.1.1 = q.1.1 ∧ RT ω' w' (t + 2) p.2 2 (labs p.1.1)) → Z (encV p) o) →
      G.rd2 C.pr (Instr.lookup 73 (.map (some gm)) (.string (Lab.keyOf q.1.1)) true) (fun v : Value => v) w' Z := fun {ω' w'} h {Z} hZ =>
    look_ok h.ks.pm.mp hp hM (fun hn => hZ (zeroA, nilS) false (fun _ => hn) (fun e => by cases e)) (fun p hpm hg => hZ p true (fun e => by cases e) fun _ => ⟨hg, ((getM_some hM).1 hg).2, h.ks.pm.rt p hpm⟩)
  have re : ∀ {ω' : Tg} {w' : World} {gx : Nat}, NX ω ω' w w' w0 t v1 v2 ga 0 gs gm r last pl rs M q → NX ω ω' w w' w0 t v1 v2 ga gx gs gm r last pl rs M q := fun h => ⟨h.sp, h.top, h.tab, h.t0, h.f1, h.f2, h.lt1, h.lt2, h.ks, h.hp, h.up, h.ba, h.qr, h.rt⟩
  refine ⟨?_, ?_⟩
  · refine key_ok (htab.keep h1d.top.k) h1d.qr.rd hr fun w2 k2 => ⟨by rw [addr_add]; exact sameK h1d.ks.hd.blk k2, ?_⟩
    have h2 := h1d.non (k2.stp0 ω1)
    refine ⟨look h2 fun p o hn hy => enc_at p ?_, ?_⟩
    · refine new_T (ω := ω1) v2 fun gx ω3 w3 k3 b3 => ?_
      refine st_T b3 (by simp) fun ω4 w4 k4 b4 => st_TA b4 (by simp) fun ω5 w5 k5 b5 => st_TA b5 (by simp) fun ω6 w6 k6 b6 => st_TA b6 (by simp) fun ω7 w7 k7 b7 => st_TA b7 (by simp) fun ω8 w8 k8 b8 => st_TA b8 (by simp) fun ω9 w9 k9 b9 => ?_
      have kk := (((((k4.trans k5).trans k6).trans k7).trans k8).trans k9)
      have h3 := h2.non k3
      refine next_tail (x := p.1) (sx := p.2) rfl (re (h3.two kk)) b9 hn (fun e => ?_) hK
      obtain ⟨a, b, c⟩ := hy e
      exact ⟨a, b, (c.stp k3).stp kk (beq_no (by omega))⟩
    · refine new_T (ω := ω1) v2 fun gx ω3 w3 k3 b3 => ⟨?_, ?_⟩
      · rw [addr_add]; exact (h1d.ks.hd.sameT ((k2.stp0 ω1).trans k3))
      · have h3 := h2.non k3
        refine look h3 fun p o hn hy => enc_at p ?_
        refine st_T b3 (by simp) fun ω4 w4 k4 b4 => st_TA b4 (by simp) fun ω5 w5 k5 b5 => st_TA b5 (by simp) fun ω6 w6 k6 b6 => st_TA b6 (by simp) fun ω7 w7 k7 b7 => st_TA b7 (by simp) fun ω8 w8 k8 b8 => st_TA b8 (by simp) fun ω9 w9 k9 b9 => ?_
        have kk := (((((k4.trans k5).trans k6).trans k7).trans k8).trans k9)
        refine next_tail (x := p.1) (sx := p.2) rfl (re (h3.two kk)) b9 hn (fun e => ?_) hK
        obtain ⟨a, b, c⟩ := hy e
        exact ⟨a, b, c.stp kk (beq_no (by omega))⟩
  · refine new_T (ω := ω1) v2 fun gx ω2 w2 k2 b2 => ⟨?_, h1d.ba.sameT k2, ?_⟩
    · rw [addr_add]; exact h1d.ks.hd.sameT k2
    · have h2 := h1d.non k2
      refine key_ok (htab.keep h2.top.k) h2.qr.rd hr fun w3 k3 => ⟨?_, ?_⟩
      · rw [addr_add]; exact h1d.ks.hd.sameT (k2.trans (k3.stp0 ω2))
      · have h3 := h2.non (k3.stp0 ω2)
        have b3 := b2.stp (k3.stp0 ω2)
        refine look h3 fun p o hn hy => enc_at p ?_
        refine st_T b3 (by simp) fun ω4 w4 k4 b4 => st_TA b4 (by simp) fun ω5 w5 k5 b5 => st_TA b5 (by simp) fun ω6 w6 k6 b6 => st_TA b6 (by simp) fun ω7 w7 k7 b7 => st_TA b7 (by simp) fun ω8 w8 k8 b8 => st_TA b8 (by simp) fun ω9 w9 k9 b9 => ?_
        have kk := (((((k4.trans k5).trans k6).trans k7).trans k8).trans k9)
        refine next_tail (x := p.1) (sx := p.2) rfl (re (h3.two kk)) b9 hn (fun e => ?_) hK
        obtain ⟨a, b, c⟩ := hy e
        exact ⟨a, b, c.stp kk (beq_no (by omega))⟩
end Go.Proofs.YtechilkjfhpkpaaGreatDoor.Ru

namespace Go.Proofs.YtechilkjfhpkpaaGreatDoor.Ru
open Go Vm Go.RowKit Num Mem Utf Lib Lab
variable {r : Rl} {now : Int} {M T : List Av}
theorem upA_eq {a b : List Av} (ha : a.Pairwise ltA) (hb : b.Pairwise ltA) (h : ∀ x, x ∈ a ↔ x ∈ b) : a = b :=
  perm_up ((List.perm_ext_iff_of_nodup (nodupM ha) (nodupM hb)).2 h) (ha.imp fun {x _} h h' => ltA_irr x (cmpL_cmp.trans _ _ _ h h')) hb
theorem nextA_lab (o : Option Av) (l : List Lb) (b : Nat) : (nextA r now o l b).1 = l := by
  unfold nextA
  cases o <;> simp only <;> split <;> rfl
theorem getM_ins {x : Av} {m : List Lb} (hM : M.Pairwise ltA) (h : x.1 ≠ m) : getM (insM x M) m = getM M m := by
  cases hf : getM M m with
  | none =>
    refine getM_none.2 fun a ha e => ?_
    rcases (mem_insM hM).1 ha with rfl | ⟨h1, _⟩
    · exact h e
    · exact getM_none.1 hf a h1 e
  | some y =>
    obtain ⟨h1, h2⟩ := (getM_some hM).1 hf
    exact (getM_some (insM_up hM)).2 ⟨(mem_insM hM).2 (.inr ⟨h1, fun e => h (by rw [← e, h2])⟩), h2⟩
def nx (r : Rl) (now : Int) (M : List Av) (a : Av) : Av := nextA r now (getM M a.1) a.1 a.2.2.2.2.2
def mergeM (r : Rl) (now : Int) (T M : List Av) : List Av := T.foldl (fun M a => insM (nx r now M a) M) M
theorem nx_lab (M : List Av) (a : Av) : (nx r now M a).1 = a.1 := nextA_lab _ _ _
theorem merge_up : ∀ {T M : List Av}, M.Pairwise ltA → (mergeM r now T M).Pairwise ltA
  | [], _, h => h
  | _ :: T, _, h => merge_up (T := T) (insM_up h)
theorem merge_len : ∀ {T M : List Av}, (mergeM r now T M).length ≤ M.length + T.length
  | [], _ => Nat.le_refl _
  | a :: T, M => by
    have h1 : (mergeM r now T (insM (nx r now M a) M)).length ≤ (insM (nx r now M a) M).length + T.length := merge_len
    have h2 : (insM (nx r now M a) M).length ≤ M.length + 1 := insM_len
    show (mergeM r now T (insM (nx r now M a) M)).length ≤ _
    rw [List.length_cons]; omega
theorem mem_merge : ∀ {T M : List Av}, (T.map (·.1)).Nodup → M.Pairwise ltA → ∀ x, (x ∈ mergeM r now T M ↔ (∃ a ∈ T, x = nx r now M a) ∨ (x ∈ M ∧ ∀ a ∈ T, a.1 ≠ x.1))
  | [], M, _, _, x => by simp [mergeM]
  | a :: T, M, hT, hM, x => by
    have hT' := List.nodup_cons.1 hT
    show x ∈ mergeM r now T (insM (nx r now M a) M) ↔ _
    rw [mem_merge hT'.2 (insM_up hM) x]
    have hne : ∀ b ∈ T, (nx r now M a).1 ≠ b.1 := fun b hb e => hT'.1 (by rw [show (fun x : Av => x.1) a = b.1 from (nx_lab M a).symm.trans e]; exact List.mem_map_of_mem hb)
    have hnx : ∀ b ∈ T, nx r now (insM (nx r now M a) M) b = nx r now M b := fun b hb => by show nextA r now (getM (insM (nx r now M a) M) b.1) b.1 b.2.2.2.2.2 = _; rw [getM_ins hM (hne b hb)]; rfl
    constructor
    · rintro (⟨b, hb, e⟩ | ⟨h1, h2⟩)
      · exact .inl ⟨b, List.mem_cons_of_mem _ hb, by rw [e, hnx b hb]⟩
      · rcases (mem_insM hM).1 h1 with e | ⟨h3, h4⟩
        · exact .inl ⟨a, List.mem_cons_self, e⟩
        · refine .inr ⟨h3, fun b hb => ?_⟩
          rcases List.mem_cons.1 hb with rfl | hb
          · exact fun e => h4 (by rw [nx_lab]; exact e.symm)
          · exact h2 b hb
    · rintro (⟨b, hb, e⟩ | ⟨h1, h2⟩)
      · rcases List.mem_cons.1 hb with rfl | hb
        · exact .inr ⟨(mem_insM hM).2 (.inl e), fun c hc => by rw [e]; exact fun e' => hne c hc e'.symm⟩
        · exact .inl ⟨b, hb, by rw [e, hnx b hb]⟩
      · exact .inr ⟨(mem_insM hM).2 (.inr ⟨h1, by rw [nx_lab]; exact fun e => h2 a List.mem_cons_self e.symm⟩), fun b hb => h2 b (List.mem_cons_of_mem _ hb)⟩
theorem merge_perm {T' : List Av} (hp : T.Perm T') (hT : (T.map (·.1)).Nodup) (hM : M.Pairwise ltA) : mergeM r now T M = mergeM r now T' M := by
  have hT' : (T'.map (·.1)).Nodup := (hp.map (·.1)).nodup_iff.1 hT
  refine upA_eq (merge_up hM) (merge_up hM) fun x => ?_
  rw [mem_merge hT hM, mem_merge hT' hM]
  constructor
  · rintro (⟨a, ha, e⟩ | ⟨h1, h2⟩)
    · exact .inl ⟨a, hp.mem_iff.1 ha, e⟩
    · exact .inr ⟨h1, fun a ha => h2 a (hp.mem_iff.2 ha)⟩
  · rintro (⟨a, ha, e⟩ | ⟨h1, h2⟩)
    · exact .inl ⟨a, hp.mem_iff.2 ha, e⟩
    · exact .inr ⟨h1, fun a ha => h2 a (hp.mem_iff.1 ha)⟩
def goneA (now : Int) (a : Av) : Av := if a.2.2.2.2.1 < 0 then (a.1, a.2.1, a.2.2.1, a.2.2.2.1, now, a.2.2.2.2.2) else a
def inT (T : List Av) (a : Av) : Bool := (getM T a.1).isSome
def goesA (r : Rl) (now : Int) (a : Av) : Prop := IntKind.i64.wrap (now - (goneA now a).2.2.2.2.1) ≥ r.ke
instance (r : Rl) (now : Int) (a : Av) : Decidable (goesA r now a) := inferInstanceAs (Decidable (_ ≥ _))
def stepA (r : Rl) (now : Int) (T : List Av) (a : Av) : Option Av := if inT T a then some a else if a.2.1 = 1 then none else if goesA r now a then none else some (goneA now a)
def overA (r : Rl) (now : Int) (T : List Av) (a : Av) : Option (List Lb) := if inT T a then none else if a.2.1 = 1 then none else if goesA r now a then some a.1 else none
def stepM (r : Rl) (now : Int) (T M : List Av) : List Av := (mergeM r now T M).filterMap (stepA r now T)
def overM (r : Rl) (now : Int) (T M : List Av) : List (List Lb) := (mergeM r now T M).filterMap (overA r now T)
theorem goneA_lab (a : Av) : (goneA now a).1 = a.1 := by unfold goneA; split <;> rfl
theorem stepA_lab {a b : Av} (h : stepA r now T a = some b) : b.1 = a.1 := by
  unfold stepA at h
  split at h
  · injection h with h; rw [h]
  · split at h
    · cases h
    · split at h
      · cases h
      · injection h with h; rw [← h, goneA_lab]
theorem fm_up {f : Av → Option Av} (hf : ∀ a b, f a = some b → b.1 = a.1) (h : M.Pairwise ltA) : (M.filterMap f).Pairwise ltA := by
  rw [List.pairwise_filterMap]
  exact h.imp fun {a b} h x hx y hy => by unfold ltA; rw [hf a x hx, hf b y hy]; exact h
theorem step_up (hM : M.Pairwise ltA) : (stepM r now T M).Pairwise ltA := fm_up (fun _ _ h => stepA_lab h) (merge_up hM)
theorem mid_up {f : Av → Option Av} (hf : ∀ a b, f a = some b → b.1 = a.1) (h : M.Pairwise ltA) (i : Nat) : ((M.take i).filterMap f ++ M.drop i).Pairwise ltA := by
  rw [← List.take_append_drop i M, List.pairwise_append] at h
  rw [List.pairwise_append]
  refine ⟨fm_up hf h.1, h.2.1, fun a ha b hb => ?_⟩
  obtain ⟨c, hc, e⟩ := List.mem_filterMap.1 ha
  unfold ltA
  rw [hf c a e]
  exact h.2.2 c hc b hb
theorem ins_mid {a x : Av} : ∀ {P S : List Av}, (P ++ a :: S).Pairwise ltA → x.1 = a.1 → insM x (P ++ a :: S) = P ++ x :: S := fun {P S} h e => by
  have hx : (P ++ x :: S).Pairwise ltA := by
    rw [List.pairwise_append] at h ⊢
    refine ⟨h.1, ?_, fun p hp b hb => ?_⟩
    · have h' := List.pairwise_cons.1 h.2.1
      exact List.pairwise_cons.2 ⟨fun b hb => by unfold ltA; rw [e]; exact h'.1 b hb, h'.2⟩
    · rcases List.mem_cons.1 hb with rfl | hb
      · unfold ltA; rw [e]; exact h.2.2 p hp a List.mem_cons_self
      · exact h.2.2 p hp b (List.mem_cons_of_mem _ hb)
  refine upA_eq (insM_up h) hx fun y => ?_
  rw [mem_insM h, List.mem_append, List.mem_cons, List.mem_append, List.mem_cons]
  have hn := nodupL hx
  rw [List.map_append, List.map_cons] at hn
  constructor
  · rintro (h1 | ⟨h1 | h1 | h1, h2⟩)
    · exact .inr (.inl h1)
    · exact .inl h1
    · exact absurd (by rw [h1, e]) h2
    · exact .inr (.inr h1)
  · rintro (h1 | h1 | h1)
    · refine .inr ⟨.inl h1, fun e' => ?_⟩
      rw [List.nodup_append] at hn
      exact hn.2.2 _ (List.mem_map_of_mem h1) x.1 List.mem_cons_self e'
    · exact .inl h1
    · refine .inr ⟨.inr (.inr h1), fun e' => ?_⟩
      rw [List.nodup_append] at hn
      exact (List.nodup_cons.1 hn.2.1).1 (by rw [← e']; exact List.mem_map_of_mem h1)
theorem del_mid {a : Av} {P S : List Av} (h : (P ++ a :: S).Pairwise ltA) : delM a.1 (P ++ a :: S) = P ++ S := by
  unfold delM
  have hn := nodupL h
  rw [List.map_append, List.map_cons, List.nodup_append] at hn
  rw [List.filter_append, List.filter_cons, if_neg (by simp), List.filter_eq_self.2 fun x hx => ?_, List.filter_eq_self.2 fun x hx => ?_]
  · exact decide_eq_true fun e => (List.nodup_cons.1 hn.2.1).1 (by rw [← e]; exact List.mem_map_of_mem hx)
  · exact decide_eq_true fun e => hn.2.2 _ (List.mem_map_of_mem hx) a.1 List.mem_cons_self e
end Go.Proofs.YtechilkjfhpkpaaGreatDoor.Ru

namespace Go.Proofs.YtechilkjfhpkpaaGreatDoor.Ru
open Go Vm Go.RowKit Num Mem Utf Lib Lab
variable {ω ω' ωb : Tg} {w w' w0 wb : World} {t ta vp uo vo gt gs gm : Nat} {M : List Av} {r : Rl} {now : Int}
abbrev KSx (ω : Tg) (w : World) (t gs gm : Nat) (r : Rl) (last : Int) (M : List Av) : Prop := ∃ pl rs, KSa ω w t gs gm r last pl rs ∧ (pl.map (·.1)).Perm M
theorem KSx.stp {T : Nat → Bool} {last : Int} (h : KSx ω w t gs gm r last M) (k : Stp T ω ω' w w') (hT : Off t T) : KSx ω' w' t gs gm r last M := let ⟨pl, rs, a, b⟩ := h; ⟨pl, rs, a.stp k hT, b⟩
abbrev DT2 (t : Nat) : Nat → Bool := fun u => Nat.beq u t || Nat.beq u (t + 1)
theorem dt2 (k : Stp (Mem.One (t + 1)) ω ω' w w') : Stp (DT2 t) ω ω' w w' := k.mono fun x hx => by
  unfold DT2 at hx
  cases h : Nat.beq x (t + 1) with
  | false => exact h
  | true => rw [h, Bool.or_true] at hx; cases hx
theorem dt2' (k : Stp (Mem.One t) ω ω' w w') : Stp (DT2 t) ω ω' w w' := k.mono fun x hx => by
  unfold DT2 at hx
  cases h : Nat.beq x t with
  | false => exact h
  | true => rw [h, Bool.true_or] at hx; cases hx
abbrev OQ := List (List Lb × Sl)
def sls (l : OQ) : List Value := l.map fun p => p.2.v
theorem tiO : TI Tryz.prog 32 22 1 24 := TI.of (z := .slice none 0 0) (by kernel_rfl) (by kernel_rfl) rfl (by decide)
theorem sls_n {s : Sl} {l : OQ} (h : Rd w s 1 (sls l)) : s.n = l.length := by have := h.2.1; simp [sls] at this; omega
structure SX (ωb ω : Tg) (wb w w0 : World) (t u1 ta vp uo vo gt gs gm : Nat) (r : Rl) (now : Int) (T M : List Av) (s : Sl) (ql : QL) (vs : Nat → Nat) (o : Sl) (oq : OQ) : Prop where
  sp : Stp (DT2 t) ωb ω wb w
  top : Top w0 ω w
  ks : KSx ω w t gs gm r now M
  tm : MS ω w ta (t + 2) gt T
  row : RT ω w u1 s 6 (avs ql)
  el : ∀ j (hj : j < ql.length), OT ω w (vs j) 99 2 (ql[j]).2 (labs (ql[j]).1.1)
  ov : OT ω w uo 22 1 o (sls oq)
  oe : ∀ p ∈ oq, OT ω w vo 99 2 p.2 (labs p.1)
structure SF (ωb : Tg) (wb w0 : World) (t u1 ta vp uo vo : Nat) (T M1 : List Av) (r : Rl) (now : Int) (ql : QL) (vs : Nat → Nat) : Prop where
  tab : UTab w0
  t0 : 0 < t
  f1 : ∀ i, i < wb.heap.size → ωb i ≠ vp
  f2 : ∀ i, i < wb.heap.size → ωb i ≠ uo
  l0 : t + 3 < u1
  l1 : u1 < ta
  l2 : ta < vp
  l3 : vp < uo
  l4 : uo < vo
  Tu : T.Pairwise ltA
  Mu : M1.Pairwise ltA
  eq : ql.map (·.1) = M1
  ok : ∀ a ∈ M1, (rt a.1).1 = 0
  hv : ∀ j (hj : j < M1.length), vs j = if (overA r now T (M1[j])).isSome then vo else t + 2
  len : M1.length ≤ 50000000
variable {u1 : Nat} {T M1 : List Av} {s o : Sl} {ql : QL} {vs : Nat → Nat} {oq : OQ}
theorem SF.vs_off (F : SF ωb wb w0 t u1 ta vp uo vo T M1 r now ql vs) {j : Nat} (hj : j < ql.length) {x : Nat} (h1 : x ≠ vo) (h2 : x ≠ t + 2) : vs j ≠ x := by
  have e := congrArg List.length F.eq
  rw [List.length_map] at e
  rw [F.hv j (by omega)]
  split
  · exact fun h => h1 h.symm
  · exact fun h => h2 h.symm
theorem SX.non (_F : SF ωb wb w0 t u1 ta vp uo vo T M1 r now ql vs) (h : SX ωb ω wb w w0 t u1 ta vp uo vo gt gs gm r now T M s ql vs o oq) (k : Stp Non ω ω' w w') : SX ωb ω' wb w' w0 t u1 ta vp uo vo gt gs gm r now T M s ql vs o oq :=
  ⟨h.sp.trans (k.non _), h.top.stp k, h.ks.stp k (off_non t), h.tm.stp k rfl rfl, h.row.stp k, fun j hj => (h.el j hj).stp k, h.ov.stp k, fun p hp => (h.oe p hp).stp k⟩
theorem SX.loc (F : SF ωb wb w0 t u1 ta vp uo vo T M1 r now ql vs) (h : SX ωb ω wb w w0 t u1 ta vp uo vo gt gs gm r now T M s ql vs o oq) (k : Stp (Mem.One vp) ω ω' w w') : SX ωb ω' wb w' w0 t u1 ta vp uo vo gt gs gm r now T M s ql vs o oq :=
  have l0 := F.l0
  have l1 := F.l1
  have l2 := F.l2
  have l3 := F.l3
  have l4 := F.l4
  ⟨h.sp.fresh k F.f1, h.top.stp k (beq_no (by omega)), h.ks.stp k (off_one (by omega)), h.tm.stp k (beq_no (by omega)) (beq_no (by omega)), h.row.stp k (beq_no (by omega)), fun j hj => (h.el j hj).stp k (beq_no (F.vs_off hj (by omega) (by omega))), h.ov.stp k (beq_no (by omega)), fun p hp => (h.oe p hp).stp k (beq_no (by omega))⟩
theorem SX.turn (F : SF ωb wb w0 t u1 ta vp uo vo T M1 r now ql vs) (h : SX ωb ω wb w w0 t u1 ta vp uo vo gt gs gm r now T M s ql vs o oq) (k : Stp (Mem.One (t + 1)) ω ω' w w') {M' : List Av} (m : MS ω' w' (t + 1) (t + 2) gm M') : SX ωb ω' wb w' w0 t u1 ta vp uo vo gt gs gm r now T M' s ql vs o oq :=
  have l0 := F.l0
  have l1 := F.l1
  have l2 := F.l2
  have l3 := F.l3
  have l4 := F.l4
  ⟨h.sp.trans (dt2 k), h.top.stp k (beq_no (by omega)), by
    obtain ⟨pl, rs, a, b⟩ := h.ks
    obtain ⟨pl', pm, hp⟩ := m
    exact ⟨pl', rs, ⟨a.hd.stp k (beq_no (by omega)), a.rl.stp k (beq_no (by omega)), pm⟩, hp⟩,
   h.tm.stp k (beq_no (by omega)) (beq_no (by omega)), h.row.stp k (beq_no (by omega)), fun j hj => (h.el j hj).stp k (beq_no (F.vs_off hj (by omega) (by omega))), h.ov.stp k (beq_no (by omega)), fun p hp => (h.oe p hp).stp k (beq_no (by omega))⟩
theorem SX.push (F : SF ωb wb w0 t u1 ta vp uo vo T M1 r now ql vs) (h : SX ωb ω wb w w0 t u1 ta vp uo vo gt gs gm r now T M s ql vs o oq) (k : Stp (Mem.One uo) ω ω' w w') {o' : Sl} {oq' : OQ} (ho : OT ω' w' uo 22 1 o' (sls oq')) (he : ∀ p ∈ oq', p ∈ oq ∨ OT ω w vo 99 2 p.2 (labs p.1)) :
    SX ωb ω' wb w' w0 t u1 ta vp uo vo gt gs gm r now T M s ql vs o' oq' :=
  have l0 := F.l0
  have l1 := F.l1
  have l2 := F.l2
  have l3 := F.l3
  have l4 := F.l4
  ⟨h.sp.fresh k F.f2, h.top.stp k (beq_no (by omega)), h.ks.stp k (off_one (by omega)), h.tm.stp k (beq_no (by omega)) (beq_no (by omega)), h.row.stp k (beq_no (by omega)), fun j hj => (h.el j hj).stp k (beq_no (F.vs_off hj (by omega) (by omega))), ho, fun p hp => by
    rcases he p hp with h1 | h1
    · exact (h.oe p h1).stp k (beq_no (by omega))
    · exact h1.stp k (beq_no (by omega))⟩
end Go.Proofs.YtechilkjfhpkpaaGreatDoor.Ru

namespace Go.Proofs.YtechilkjfhpkpaaGreatDoor.Ru
open Go Vm Go.RowKit Num Mem Utf Lib Lab
variable {ω ω' ωb : Tg} {w w' w0 wb : World} {t u1 ta vp uo vo gt gs gm : Nat} {M : List Av} {r : Rl} {now : Int} {T M1 : List Av} {s o : Sl} {ql : QL} {vs : Nat → Nat} {oq : OQ}
theorem stepA_in {a : Av} (h : inT T a = true) : stepA r now T a = some a ∧ overA r now T a = none := by unfold stepA overA; simp [h]
theorem stepA_pend {a : Av} (h : inT T a = false) (h1 : a.2.1 = 1) : stepA r now T a = none ∧ overA r now T a = none := by unfold stepA overA; simp [h, h1]
theorem stepA_go {a : Av} (h : inT T a = false) (h1 : ¬ a.2.1 = 1) (h2 : goesA r now a) : stepA r now T a = none ∧ overA r now T a = some a.1 := by unfold stepA overA; simp [h, h1, h2]
theorem stepA_stay {a : Av} (h : inT T a = false) (h1 : ¬ a.2.1 = 1) (h2 : ¬ goesA r now a) : stepA r now T a = some (goneA now a) ∧ overA r now T a = none := by unfold stepA overA; simp [h, h1, h2]
theorem fm_take {α β : Type} {f : α → Option β} {l : List α} {i : Nat} (h : i < l.length) : (l.take (i + 1)).filterMap f = (l.take i).filterMap f ++ (f l[i]).toList := by
  rw [List.take_succ_eq_append_getElem h, List.filterMap_append]
  cases e : f l[i] <;> simp [e]
def midM (r : Rl) (now : Int) (T M1 : List Av) (i : Nat) : List Av := (M1.take i).filterMap (stepA r now T) ++ M1.drop i
def overI (r : Rl) (now : Int) (T M1 : List Av) (i : Nat) : List (List Lb) := (M1.take i).filterMap (overA r now T)
theorem gone_loop (F : SF ωb wb w0 t u1 ta vp uo vo T M1 r now ql vs) {K : Sl → Sl → Int → World → Prop}
    (hK : ∀ ω w o oq, SX ωb ω wb w w0 t u1 ta vp uo vo gt gs gm r now T (midM r now T M1 M1.length) s ql vs o oq → oq.map (·.1) = overI r now T M1 M1.length → C.rules_Keeper_Step.S2 K (some ⟨gs, 0, none⟩) o w)
    (hsn : s.n = ql.length) (h0 : SX ωb ω wb w w0 t u1 ta vp uo vo gt gs gm r now T M1 s ql vs nilS []) :
    C.rules_Keeper_Step.L5 K (some ⟨gs, 0, none⟩) now (some gt) nilS s ((s.n : Nat) : Int) (0 : Int) w := by
  have l0 := F.l0
  have l1 := F.l1
  have l2 := F.l2
  have l3 := F.l3
  have l4 := F.l4
  have hql : ql.length = M1.length := by rw [← F.eq, List.length_map]
  have hlen := F.len
  refine C.rules_Keeper_Step.L5_ind fun X hX => ?_
  have key : ∀ (d i : Nat) (o : Sl) (oq : OQ) (ω : Tg) (w : World), i + d = ql.length → SX ωb ω wb w w0 t u1 ta vp uo vo gt gs gm r now T (midM r now T M1 i) s ql vs o oq → oq.map (·.1) = overI r now T M1 i → X (some ⟨gs, 0, none⟩) now (some gt) o s ((s.n : Nat) : Int) (i : Int) w := by
    intro d
    induction d with
    | zero =>
      intro i o oq ω w hi h e
      refine hX _ _ _ _ _ _ _ _ ?_
      unfold C.rules_Keeper_Step.S7
      have : i = M1.length := by omega
      subst this
      exact cond_d (fun h => by omega) (fun _ => hK ω w o oq h e)
    | succ d ih =>
      intro i o oq ω w hi h e
      refine hX _ _ _ _ _ _ _ _ ?_
      unfold C.rules_Keeper_Step.S7
      have hiq : i < ql.length := by omega
      have hiM : i < M1.length := by omega
      have hx : ql[i]? = some ql[i] := List.getElem?_eq_getElem hiq
      have eM : (ql[i]).1 = M1[i] := by simp [← F.eq]
      have eml : (ql[i]).1.1 = (M1[i]).1 := by rw [eM]
      have hup := mid_up (f := stepA r now T) (fun _ _ h => stepA_lab h) F.Mu i
      have hdrop : M1.drop i = M1[i] :: M1.drop (i + 1) := List.drop_eq_getElem_cons hiM
      have hmid : midM r now T M1 i = (M1.take i).filterMap (stepA r now T) ++ M1[i] :: M1.drop (i + 1) := by unfold midM; rw [hdrop]
      have hup' := hup
      rw [hdrop] at hup'
      have hnextM : midM r now T M1 (i + 1) = (M1.take i).filterMap (stepA r now T) ++ ((stepA r now T M1[i]).toList ++ M1.drop (i + 1)) := by unfold midM; rw [fm_take hiM, List.append_assoc]
      have hnextO : overI r now T M1 (i + 1) = overI r now T M1 i ++ (overA r now T M1[i]).toList := fm_take hiM
      have hok := F.ok _ (List.getElem_mem hiM)
      have hvi := F.hv i hiM
      refine cond_d (fun _ => ?_) (fun h => by omega)
      refine rdA_at h.row.rd (k := i) rfl hx fun a ac => ac_at ac ?_
      refine new_T (ω := ω) vp fun gp ω1 w1 k1 b1 => ?_
      have h1 := h.non F k1
      refine st_T b1 (by simp) fun ω2 w2 k2 b2 => st_TA b2 (by simp) fun ω3 w3 k3 b3 => st_TA b3 (by simp) fun ω4 w4 k4 b4 => st_TA b4 (by simp) fun ω5 w5 k5 b5 => st_TA b5 (by simp) fun ω6 w6 k6 b6 => st_TA b6 (by simp) fun ω7 w7 k7 b7 => ?_
      have h7 := h1.loc F (((((k2.trans k3).trans k4).trans k5).trans k6).trans k7)
      have b7 : BT ω7 w7 vp gp 41 (avC ql[i]) := b7
      refine cSl_at (s := (ql[i]).2) (by rw [b7.cell]; rfl) <| key_ok (F.tab.keep h7.top.k) (h7.el i hiq).rd (by rw [eml]; exact hok) fun w8 k8 => ?_
      have s8 := k8.stp0 ω7
      have h8 := h7.non F s8
      have b8 := b7.stp s8
      -- the next one
      have next : ∀ (o' : Sl) (oq' : OQ) (ω' : Tg) (w' : World), SX ωb ω' wb w' w0 t u1 ta vp uo vo gt gs gm r now T (midM r now T M1 (i + 1)) s ql vs o' oq' → oq'.map (·.1) = overI r now T M1 (i + 1) → X (some ⟨gs, 0, none⟩) now (some gt) o' s ((s.n : Nat) : Int) (IntKind.i64.wrap ((i : Int) + 1)) w' := fun o' oq' ω' w' h' e' => by
        rw [wI64 (by omega) (by omega), show (i : Int) + 1 = ((i + 1 : Nat) : Int) by omega]
        exact ih (i + 1) o' oq' ω' w' (by omega) h' e'
      obtain ⟨plT, pmT, hpT⟩ := h8.tm
      -- it is not told, and has fired
      have tail : ∀ (ω9 : Tg) (w9 : World), inT T M1[i] = false → ¬ (M1[i]).2.1 = 1 → SX ωb ω9 wb w9 w0 t u1 ta vp uo vo gt gs gm r now T (midM r now T M1 i) s ql vs o oq → BT ω9 w9 vp gp 41 (avC (goneA now M1[i], (ql[i]).2)) →
          G.ptr (some ⟨gs, 0, none⟩) fun p80 => G.cM (p80.add 6) w9.drew fun m81 => G.cSl ⟨gp, 0, none⟩ w9.drew fun l82 => G.cI .i64 (Addr.add ⟨gp, 0, none⟩ 1) w9.drew fun n83 => G.cI .i64 (Addr.add ⟨gp, 0, none⟩ 2) w9.drew fun n84 => G.cI .i64 (Addr.add ⟨gp, 0, none⟩ 3) w9.drew fun n85 => G.cI .i64 (Addr.add ⟨gp, 0, none⟩ 4) w9.drew fun n86 => G.cF .f64 (Addr.add ⟨gp, 0, none⟩ 5) w9.drew fun f87 => G.runU C.pr (Instr.mapUpdate 73 (.map m81) (.string (Lab.keyOf (ql[i]).1.1)) (.agg #[l82.v, (.int .i64 n83), (.int .i64 n84), (.int .i64 n85), (.int .i64 n86), (.float .f64 f87)])) w9.drew fun w88 =>
            G.cI .i64 (Addr.add ⟨gp, 0, none⟩ 4) w88.drew fun n89 => G.ptr (some ⟨gs, 0, none⟩) fun p90 => G.cI .i64 (p90.add 4) w88.drew fun n91 => G.cond (decide ((IntKind.i64.wrap (now - n89)) ≥ n91)) (G.ptr (some ⟨gs, 0, none⟩) fun p92 => G.cM (p92.add 6) w88.drew fun m93 => G.run C.pr (Builtin.delete_ #[73, 9] 0 #[(.map m93), (.string (Lab.keyOf (ql[i]).1.1))]) w88.drew fun v94 w95 => G.cSl ⟨gp, 0, none⟩ w95 fun l96 => G.new (.cells #[l96.v] 22) w95 fun p97 w98 => G.runSl C.pr (Builtin.append_ #[32, 32] 32 #[o.v, (Sl.v (⟨some p97, 1, 1⟩ : Sl))]) w98 fun l99 w100 => X (some ⟨gs, 0, none⟩) now (some gt) l99 s ((s.n : Nat) : Int) (IntKind.i64.wrap ((i : Int) + (1 : Int))) w100)
              (X (some ⟨gs, 0, none⟩) now (some gt) o s ((s.n : Nat) : Int) (IntKind.i64.wrap ((i : Int) + (1 : Int))) w88.drew) := by
        intro ω9 w9 hin hpend h9 b9
        have sd := drew_stp ω9 w9
        have hd := h9.non F sd
        have bd := b9.stp sd
        obtain ⟨pl, rs, ks, hp⟩ := hd.ks
        have hgl : (goneA now M1[i]).1 = (M1[i]).1 := goneA_lab _
        refine ptr_at ⟨some gm, by rw [addr_add, ks.hd.cell]; rfl, ac_at (blk_ac bd.blk) ?_⟩
        rw [eml, ← hgl]
        refine updV (v := encV (goneA now M1[i], (ql[i]).2)) ks.pm.mp mapT strT fun ω10 w10 k10 m10 => ?_
        -- its labels, where they stay
        have lab : vs i = t + 2 → RT ω9 w9.drew (t + 2) (ql[i]).2 2 (labs (goneA now M1[i]).1) := fun hv2 => by
          have := (hd.el i hiq).rt
          rw [hv2, eml, ← hgl] at this
          exact this
        have uM := F.Mu
        by_cases hgo : goesA r now M1[i]
        · obtain ⟨es, eo⟩ := stepA_go (r := r) (now := now) hin hpend hgo
          rw [eo] at hvi
          have hvi : vs i = vo := hvi
          -- the map as it is for a while
          obtain ⟨plx, hnx⟩ : ∃ plx, plx = updP (goneA now M1[i], (ql[i]).2) pl := ⟨_, rfl⟩
          have m10' := m10
          rw [updP_map (goneA now M1[i], (ql[i]).2), ← hnx] at m10'
          have sx10 := k10
          have hp10 : (Mem.One (t + 1)) 0 = false := beq_no (by omega)
          have top10 := hd.top.stp k10 hp10
          have b10 := bd.stp k10 (beq_no (by omega))
          have b10d := b10.stp (drew_stp ω10 w10)
          have hd10 := ks.hd.stp k10 (beq_no (by omega))
          have hd10d := hd10.stp (drew_stp ω10 w10)
          refine cI_at (n := (goneA now M1[i]).2.2.2.2.1) (by rw [addr_add, b10d.cell]; rfl) <| ptr_at <| cI_at (n := r.ke) (by rw [addr_add, hd10d.cell]; rfl) <| cond_d (fun _ => ?_) (fun hh => absurd hgo hh)
          refine ptr_at ⟨some gm, by rw [addr_add, hd10d.cell]; rfl, ?_⟩
          refine delV (m10.stp (drew_stp ω10 w10) rfl) mapT strT fun v11 ω11 w11 k11 m11 => ?_
          have k911 := (k10.trans ((drew_stp ω10 w10).non _)).trans k11
          have m11' : MV ω11 w11 (t + 1) gm ((delP (goneA now M1[i]).1 plx).map encP) := by
            rw [← delP_map, hnx, ← updP_map]; exact m11
          have hpn := names_pl hp (by rw [hmid]; exact hup')
          have hmemx : ∀ x, x ∈ delP (goneA now M1[i]).1 plx ↔ x ∈ pl ∧ x.1.1 ≠ (goneA now M1[i]).1 := fun x => by
            have nx : (plx.map (·.1.1)).Nodup := by
              have := m10'.nodup
              rw [List.map_map] at this
              rw [List.Nodup, List.pairwise_map] at this ⊢
              exact this.imp fun h e => h (by show Lab.keyOf _ = Lab.keyOf _; rw [e])
            rw [mem_delP nx, hnx, mem_updP hpn]
            constructor
            · rintro ⟨rfl | h1, h2⟩
              · exact absurd rfl h2
              · exact ⟨h1.1, h2⟩
            · rintro ⟨h1, h2⟩
              exact ⟨.inr ⟨h1, h2⟩, h2⟩
          have ms11 : MS ω11 w11 (t + 1) (t + 2) gm (midM r now T M1 (i + 1)) := by
            refine ⟨delP (goneA now M1[i]).1 plx, ⟨m11', fun p hpp => (ks.pm.rt p ((hmemx p).1 hpp).1).stp k911 (beq_no (by omega))⟩, ?_⟩
            have hdm : delM (M1[i]).1 (midM r now T M1 i) = midM r now T M1 (i + 1) := by rw [hmid, del_mid hup', hnextM, es]; rfl
            have nd : ((delP (goneA now M1[i]).1 plx).map (·.1.1)).Nodup := by
              have := m11'.nodup
              rw [List.map_map] at this
              rw [List.Nodup, List.pairwise_map] at this ⊢
              exact this.imp fun h e => h (by show Lab.keyOf _ = Lab.keyOf _; rw [e])
            rw [← hdm]
            refine (List.perm_ext_iff_of_nodup (nodup1 nd) (nodupM ((show (midM r now T M1 i).Pairwise ltA from hup).filter _))).2 fun x => ?_
            rw [List.mem_filter, List.mem_map]
            constructor
            · rintro ⟨p, hpm, rfl⟩
              obtain ⟨h1, h2⟩ := (hmemx p).1 hpm
              exact ⟨mem_perm hp h1, decide_eq_true (by rw [← hgl]; exact h2)⟩
            · rintro ⟨h1, h2⟩
              obtain ⟨q, hq, rfl⟩ := List.mem_map.1 (hp.mem_iff.2 h1)
              exact ⟨q, (hmemx q).2 ⟨hq, by rw [hgl]; exact of_decide_eq_true h2⟩, rfl⟩
          have h11 := hd.turn F k911 ms11
          have b11 := bd.stp k911 (beq_no (by omega))
          refine cSl_at (s := (ql[i]).2) (by rw [b11.cell]; rfl) ?_
          have hon := sls_n h11.ov.rd
          have hol : oq.length ≤ i := by
            have a1 := congrArg List.length e
            rw [List.length_map] at a1
            have a2 : (overI r now T M1 i).length ≤ (M1.take i).length := List.length_filterMap_le _ _
            rw [List.length_take] at a2
            omega
          refine push_T (n := 1) tiO h11.ov rfl (by intro v hv; simp at hv; subst hv; rfl) (by simp only [maxLen]; omega) (by omega) fun o12 ω12 w12 k12 ov12 _ => ?_
          refine next o12 (oq ++ [((M1[i]).1, (ql[i]).2)]) ω12 w12 (h11.push F k12 (by unfold sls; rw [List.map_append]; exact ov12) fun p hp => ?_) ?_
          · rcases List.mem_append.1 hp with hp | hp
            · exact .inl hp
            · rw [List.mem_singleton.1 hp]
              refine .inr ?_
              have := h11.el i hiq
              rw [hvi, eml] at this
              exact this
          · rw [List.map_append, e, hnextO, eo]; rfl
        · obtain ⟨es, eo⟩ := stepA_stay (r := r) (now := now) hin hpend hgo
          rw [eo] at hvi
          have hvi : vs i = t + 2 := hvi
          have ms10 : MS ω10 w10 (t + 1) (t + 2) gm (midM r now T M1 (i + 1)) := by
            have := upd_MS (by omega) ks.pm hp (by rw [hmid]; exact hup') k10 m10 (lab hvi)
            rw [hmid, ins_mid hup' hgl] at this
            rw [hnextM, es]; exact this
          have h10 := hd.turn F k10 ms10
          have h10d := h10.non F (drew_stp ω10 w10)
          have b10d := (bd.stp k10 (beq_no (by omega))).stp (drew_stp ω10 w10)
          obtain ⟨_, _, ks10, _⟩ := h10d.ks
          refine cI_at (n := (goneA now M1[i]).2.2.2.2.1) (by rw [addr_add, b10d.cell]; rfl) <| ptr_at <| cI_at (n := r.ke) (by rw [addr_add, ks10.hd.cell]; rfl) <| cond_d (fun hh => absurd hh hgo) (fun _ => ?_)
          exact next o oq ω10 _ h10d (by rw [hnextO, eo]; exact e.trans (List.append_nil _).symm)
      -- is it told?
      have told : ∀ (b58 : Bool) (w9 : World), b58 = inT T M1[i] → Keep w8 w9 →
          G.cond b58 (X (some ⟨gs, 0, none⟩) now (some gt) o s ((s.n : Nat) : Int) (IntKind.i64.wrap ((i : Int) + (1 : Int))) w9) (G.cI .i64 (Addr.add ⟨gp, 0, none⟩ 1) w9 fun n73 => G.cond (n73 == (1 : Int)) (G.ptr (some ⟨gs, 0, none⟩) fun p74 => G.cM (p74.add 6) w9 fun m75 => G.run C.pr (Builtin.delete_ #[73, 9] 0 #[(.map m75), (.string (Lab.keyOf (ql[i]).1.1))]) w9 fun v76 w77 => X (some ⟨gs, 0, none⟩) now (some gt) o s ((s.n : Nat) : Int) (IntKind.i64.wrap ((i : Int) + (1 : Int))) w77) (G.cI .i64 (Addr.add ⟨gp, 0, none⟩ 4) w9 fun n78 => G.cond (decide (n78 < (0 : Int))) (G.st (Addr.add ⟨gp, 0, none⟩ 4) (.int .i64 now) w9 fun w79 => G.ptr (some ⟨gs, 0, none⟩) fun p80 => G.cM (p80.add 6) w79.drew fun m81 => G.cSl ⟨gp, 0, none⟩ w79.drew fun l82 => G.cI .i64 (Addr.add ⟨gp, 0, none⟩ 1) w79.drew fun n83 => G.cI .i64 (Addr.add ⟨gp, 0, none⟩ 2) w79.drew fun n84 => G.cI .i64 (Addr.add ⟨gp, 0, none⟩ 3) w79.drew fun n85 => G.cI .i64 (Addr.add ⟨gp, 0, none⟩ 4) w79.drew fun n86 => G.cF .f64 (Addr.add ⟨gp, 0, none⟩ 5) w79.drew fun f87 => G.runU C.pr (Instr.mapUpdate 73 (.map m81) (.string (Lab.keyOf (ql[i]).1.1)) (.agg #[l82.v, (.int .i64 n83), (.int .i64 n84), (.int .i64 n85), (.int .i64 n86), (.float .f64 f87)])) w79.drew fun w88 =>
            G.cI .i64 (Addr.add ⟨gp, 0, none⟩ 4) w88.drew fun n89 => G.ptr (some ⟨gs, 0, none⟩) fun p90 => G.cI .i64 (p90.add 4) w88.drew fun n91 => G.cond (decide ((IntKind.i64.wrap (now - n89)) ≥ n91)) (G.ptr (some ⟨gs, 0, none⟩) fun p92 => G.cM (p92.add 6) w88.drew fun m93 => G.run C.pr (Builtin.delete_ #[73, 9] 0 #[(.map m93), (.string (Lab.keyOf (ql[i]).1.1))]) w88.drew fun v94 w95 => G.cSl ⟨gp, 0, none⟩ w95 fun l96 => G.new (.cells #[l96.v] 22) w95 fun p97 w98 => G.runSl C.pr (Builtin.append_ #[32, 32] 32 #[o.v, (Sl.v (⟨some p97, 1, 1⟩ : Sl))]) w98 fun l99 w100 => X (some ⟨gs, 0, none⟩) now (some gt) l99 s ((s.n : Nat) : Int) (IntKind.i64.wrap ((i : Int) + (1 : Int))) w100)
              (X (some ⟨gs, 0, none⟩) now (some gt) o s ((s.n : Nat) : Int) (IntKind.i64.wrap ((i : Int) + (1 : Int))) w88.drew)) (G.ptr (some ⟨gs, 0, none⟩) fun p80 => G.cM (p80.add 6) w9.drew fun m81 => G.cSl ⟨gp, 0, none⟩ w9.drew fun l82 => G.cI .i64 (Addr.add ⟨gp, 0, none⟩ 1) w9.drew fun n83 => G.cI .i64 (Addr.add ⟨gp, 0, none⟩ 2) w9.drew fun n84 => G.cI .i64 (Addr.add ⟨gp, 0, none⟩ 3) w9.drew fun n85 => G.cI .i64 (Addr.add ⟨gp, 0, none⟩ 4) w9.drew fun n86 => G.cF .f64 (Addr.add ⟨gp, 0, none⟩ 5) w9.drew fun f87 => G.runU C.pr (Instr.mapUpdate 73 (.map m81) (.string (Lab.keyOf (ql[i]).1.1)) (.agg #[l82.v, (.int .i64 n83), (.int .i64 n84), (.int .i64 n85), (.int .i64 n86), (.float .f64 f87)])) w9.drew fun w88 =>
            G.cI .i64 (Addr.add ⟨gp, 0, none⟩ 4) w88.drew fun n89 => G.ptr (some ⟨gs, 0, none⟩) fun p90 => G.cI .i64 (p90.add 4) w88.drew fun n91 => G.cond (decide ((IntKind.i64.wrap (now - n89)) ≥ n91)) (G.ptr (some ⟨gs, 0, none⟩) fun p92 => G.cM (p92.add 6) w88.drew fun m93 => G.run C.pr (Builtin.delete_ #[73, 9] 0 #[(.map m93), (.string (Lab.keyOf (ql[i]).1.1))]) w88.drew fun v94 w95 => G.cSl ⟨gp, 0, none⟩ w95 fun l96 => G.new (.cells #[l96.v] 22) w95 fun p97 w98 => G.runSl C.pr (Builtin.append_ #[32, 32] 32 #[o.v, (Sl.v (⟨some p97, 1, 1⟩ : Sl))]) w98 fun l99 w100 => X (some ⟨gs, 0, none⟩) now (some gt) l99 s ((s.n : Nat) : Int) (IntKind.i64.wrap ((i : Int) + (1 : Int))) w100)
              (X (some ⟨gs, 0, none⟩) now (some gt) o s ((s.n : Nat) : Int) (IntKind.i64.wrap ((i : Int) + (1 : Int))) w88.drew)))) := by
        intro b58 w9 hb58 k9
        have s9 := k9.stp0 ω7
        have h9 := h8.non F s9
        have b9 := b8.stp s9
        have eq2 : ql[i] = (M1[i], (ql[i]).2) := Prod.ext eM rfl
        have b9 : BT ω7 w9 vp gp 41 (avC (M1[i], (ql[i]).2)) := by rw [← eq2]; exact b9
        refine cond_of (fun hin => ?_) (fun hin => ?_)
        · rw [hb58] at hin
          obtain ⟨es, eo⟩ := stepA_in (r := r) (now := now) hin
          refine next o oq ω7 w9 ?_ (by rw [hnextO, eo]; exact e.trans (List.append_nil _).symm)
          have : midM r now T M1 (i + 1) = midM r now T M1 i := by rw [hnextM, es, hmid]; rfl
          rw [this]; exact h9
        · rw [hb58] at hin
          refine cI_at (n := (M1[i]).2.1) (by rw [addr_add, b9.cell]; rfl) <| cond_eq (fun hpend => ?_) (fun hpend => ?_)
          · obtain ⟨es, eo⟩ := stepA_pend (r := r) (now := now) hin hpend
            obtain ⟨pl, rs, ks, hp⟩ := h9.ks
            refine ptr_at ⟨some gm, by rw [addr_add, ks.hd.cell]; rfl, ?_⟩
            rw [eml]
            refine delV ks.pm.mp mapT strT fun v10 ω10 w10 k10 m10 => ?_
            have ms10 : MS ω10 w10 (t + 1) (t + 2) gm (midM r now T M1 (i + 1)) := by
              have := del_MS (by omega) ks.pm hp (by rw [hmid]; exact hup') k10 m10
              rw [hmid, del_mid hup'] at this
              rw [hnextM, es]; exact this
            exact next o oq ω10 w10 (h9.turn F k10 ms10) (by rw [hnextO, eo]; exact e.trans (List.append_nil _).symm)
          · refine cI_at (n := (M1[i]).2.2.2.2.1) (by rw [addr_add, b9.cell]; rfl) <| cond_d (fun hneg => ?_) (fun hpos => ?_)
            · refine st_TA b9 (by simp [avC]) fun ω10 w10 k10 b10 => ?_
              refine tail ω10 w10 hin hpend (h9.loc F k10) ?_
              have eg : goneA now M1[i] = ((M1[i]).1, (M1[i]).2.1, (M1[i]).2.2.1, (M1[i]).2.2.2.1, now, (M1[i]).2.2.2.2.2) := by unfold goneA; rw [if_pos hneg]
              rw [eg]; exact b10
            · refine tail ω7 w9 hin hpend h9 ?_
              have eg : goneA now M1[i] = M1[i] := by unfold goneA; rw [if_neg hpos]
              rw [eg]; exact b9
      have hTk : inT T M1[i] = (getM T (ql[i]).1.1).isSome := by rw [eml]; rfl
      refine look_ok pmT.mp hpT F.Tu (fun hn => ?_) (fun p hpm hg => ?_)
      · refine enc_at (zeroA, nilS) <| loc_ok (zeroA, nilS) fun g9 w9 k9 _ _ => told false w9 (by rw [hTk, hn]; rfl) k9.1
      · refine enc_at p <| loc_ok p fun g9 w9 k9 _ _ => told true w9 (by rw [hTk, hg]; rfl) k9.1
  exact key ql.length 0 nilS [] ω w (by omega) (by unfold midM; simpa using h0) (by unfold overI; simp)
end Go.Proofs.YtechilkjfhpkpaaGreatDoor.Ru

namespace Go.Proofs.YtechilkjfhpkpaaGreatDoor.Ru
open Go Vm Go.RowKit Num Mem Utf Lib Lab
variable {ω ω' ωb : Tg} {w w' w0 wb : World} {t u1 ta vp uo vo gt gs gm : Nat} {M : List Av} {r : Rl} {now last : Int} {T M1 : List Av} {s o : Sl} {ql : QL} {vs : Nat → Nat} {oq : OQ}
theorem firstE_of {ps : List Pt} (h : toldE r ps = 0) : firstE r ps = 0 ∧ (toldS r ps).1 = false := by
  unfold toldE at h
  by_cases e : firstE r ps = 0
  · rw [if_neg (by rw [e]; decide)] at h
    refine ⟨e, ?_⟩
    cases hb : (toldS r ps).1 with
    | false => rfl
    | true => rw [hb, if_pos rfl] at h; exact absurd h (by decide)
  · rw [if_pos e] at h; exact absurd h e
theorem firstE_all : ∀ {ps : List Pt}, firstE r ps = 0 → ∀ p ∈ ps, wE p.1 (moreA r) = 0
  | [], _, _, h => by cases h
  | q :: ps, h, p, hp => by
    unfold firstE at h
    by_cases e : wE q.1 (moreA r) = 0
    · rw [if_neg (by rw [e]; decide)] at h
      rcases List.mem_cons.1 hp with rfl | hp
      · exact e
      · exact firstE_all h p hp
    · rw [if_pos e] at h; exact absurd h e
theorem mem_told {a : Av} {ps : List Pt} (h : a ∈ toldL r ps) : ∃ p ∈ ps, a.1 = labO r p.1 := by
  have key : ∀ (ps : List Pt) (x : Bool × List Av), x.2.Pairwise ltA → a ∈ (ps.foldl (tstep r) x).2 → a ∈ x.2 ∨ ∃ p ∈ ps, a.1 = labO r p.1 := by
    intro ps
    induction ps with
    | nil => intro x _ h; exact .inl h
    | cons p ps ih =>
      intro x hx h
      rcases ih _ (insM_up hx) h with h1 | ⟨q, hq, e⟩
      · rcases (mem_insM hx).1 h1 with h2 | h2
        · exact .inr ⟨p, List.mem_cons_self, by rw [h2]⟩
        · exact .inl h2.1
      · exact .inr ⟨q, List.mem_cons_of_mem _ hq, e⟩
  rcases key ps (false, []) List.Pairwise.nil h with h | h
  · cases h
  · exact h
theorem told_rt {ps : List Pt} (hr : RlOk r) (h : toldE r ps = 0) : ∀ a ∈ toldL r ps, (rt a.1).1 = 0 := fun a ha => by
  obtain ⟨p, hp, e⟩ := mem_told ha
  rw [e]
  exact labO_rt hr (firstE_all (firstE_of h).1 p hp)
theorem merge_rt (hT : (T.map (·.1)).Nodup) (hM : M.Pairwise ltA) (h1 : ∀ a ∈ T, (rt a.1).1 = 0) (h2 : ∀ a ∈ M, (rt a.1).1 = 0) : ∀ a ∈ mergeM r now T M, (rt a.1).1 = 0 := fun a ha => by
  rcases (mem_merge hT hM a).1 ha with ⟨b, hb, e⟩ | ⟨h, _⟩
  · rw [e, nx_lab]; exact h1 b hb
  · exact h2 a h
def timeB (n : Int) : Bool := decide (0 ≤ n) && decide (n ≤ 1125899906842624)
theorem time_ok {n : Int} {K : Bool → World → Prop} (hK : K (timeB n) w) : C.rules_time n w K := by
  unfold C.rules_time
  unfold timeB at hK
  refine cond_d (fun h => ?_) (fun h => ?_)
  · rw [decide_eq_true (show 0 ≤ n by omega), Bool.true_and] at hK; exact hK
  · rw [decide_eq_false (show ¬ 0 ≤ n by omega), Bool.false_and] at hK; exact hK
def stepE (r : Rl) (last now : Int) (ps : List Pt) : Int := if timeB now = false ∨ now ≤ last then 1 else toldE r ps
theorem step_ok (m : Nat) {q : PQ} (top : Top w0 ω w) (htab : UTab w0) (het : ETab w0) (t0 : 0 < t) (hm : t + 3 ≤ m) (ks : KS ω w t gs r last M) (hr : RlOk r) (hM : M.Pairwise ltA) (hMr : ∀ a ∈ M, (rt a.1).1 = 0) (hMl : M.length ≤ 20000000) (hq : RdPs w s q) (hql : q.length ≤ 10000000)
    {K : Sl → Sl → Int → World → Prop} (hE : stepE r last now (q.map (·.1)) ≠ 0 → ∀ ω' w', Stp Non ω ω' w w' → K nilS nilS (stepE r last now (q.map (·.1))) w')
    (hOK : stepE r last now (q.map (·.1)) = 0 → ∀ a o ql oq ua va uo vo ω' w', m < ua → ua < va → va < uo → uo < vo → Stp (DT2 t) ω ω' w w' → KS ω' w' t gs r now (stepM r now (toldL r (q.map (·.1))) M) →
      OT ω' w' ua 41 6 a (avs ql) → ql.map (·.1) = stepM r now (toldL r (q.map (·.1))) M → (∀ p ∈ ql, OT ω' w' va 99 2 p.2 (labs p.1.1)) →
      OT ω' w' uo 22 1 o (sls oq) → oq.map (·.1) = overM r now (toldL r (q.map (·.1))) M → (∀ p ∈ oq, OT ω' w' vo 99 2 p.2 (labs p.1)) → K a o 0 w') : C.rules_Keeper_Step (some ⟨gs, 0, none⟩) now s w K := by
  unfold C.rules_Keeper_Step
  obtain ⟨gm, pl, rs, ka, hp⟩ := ks
  obtain ⟨ua, ha1, hfa⟩ := fresh ω w.heap.size m
  obtain ⟨va, ha2, hfva⟩ := fresh ω w.heap.size ua
  obtain ⟨ti, hti, hfti⟩ := fresh ω w.heap.size va
  obtain ⟨u1, hu1, hfu1⟩ := fresh ω w.heap.size ti
  obtain ⟨ta, hta, hfta⟩ := fresh ω w.heap.size u1
  obtain ⟨vp, hvp, hfvp⟩ := fresh ω w.heap.size ta
  obtain ⟨uo, huo, hfuo⟩ := fresh ω w.heap.size vp
  obtain ⟨vo, hvo, hfvo⟩ := fresh ω w.heap.size uo
  generalize hps : q.map (·.1) = ps at *
  have hpl : ps.length = q.length := by rw [← hps, List.length_map]
  refine cond_f rfl <| time_ok <| cond_of (fun hb => ?_) (fun hb => ?_)
  · have e : stepE r last now ps = 1 := by unfold stepE; rw [if_pos (.inl (by simpa using hb))]
    rw [e] at hE
    exact hE (by decide) ω w (Stp.refl _ _ _)
  have hb : timeB now = true := by simpa using hb
  refine ptr_at <| cI_at (n := last) (by rw [addr_add, ka.hd.cell]; rfl) <| cond_d (fun hle => ?_) (fun hgt => ?_)
  · have e : stepE r last now ps = 1 := by unfold stepE; rw [if_pos (.inr hle)]
    rw [e] at hE
    exact hE (by decide) ω w (Stp.refl _ _ _)
  have ee : stepE r last now ps = toldE r ps := by unfold stepE; rw [if_neg (fun h => h.elim (fun h => by rw [hb] at h; cases h) hgt)]
  rw [ee] at hE hOK
  refine told_ok ω hr (htab.keep top.k) ka.hd.blk ka.rl.rd hq hql ta (t + 2) fun mm x ω1 w1 k1 h1 h2 => ?_
  rw [hps] at h1 h2
  have top1 := top.stp k1
  by_cases he : toldE r ps = 0
  · obtain ⟨rfl, gt, rfl, plT, pmT, hpT⟩ := h2 he
    have hOK := hOK he
    have hTup : (toldL r ps).Pairwise ltA := toldS_up r ps
    have hTlen : (toldL r ps).length ≤ ps.length := toldS_len r ps
    have hTrt := told_rt hr he
    generalize toldL r ps = T at *
    have hTn := nodupL hTup
    have ka1 := ka.stp k1 (off_non t)
    refine isNil_nil <| cond_f rfl <| ptr_at <| st_TA ka1.hd (by simp) fun ω2 w2 k2 b2 => ?_
    have ka2 : KSa ω2 w2 t gs gm r now pl rs := ⟨b2, ka1.rl.stp k2 (beq_no (by omega)), ka1.pm.stp k2 (beq_no (by omega)) (beq_no (by omega))⟩
    have top2 := top1.stp k2 (beq_no (by omega))
    have sp2 : Stp (DT2 t) ω ω2 w w2 := (k1.non _).trans (dt2' k2)
    have pmT2 := pmT.stp k2 (beq_no (by omega)) (beq_no (by omega))
    unfold C.rules_Keeper_Step.S18
    refine rangeV ti pmT2.mp mapT fun gi ω3 w3 k3 it3 => ?_
    refine C.rules_Keeper_Step.L14_ind fun X hX => ?_
    have key : ∀ (d : Nat) (a b : QL) (ω4 : Tg) (w4 : World), b.length = d → (a ++ b).Perm plT → Stp (DT2 t) ω ω4 w w4 → Top w0 ω4 w4 → IT ω4 w4 ti gi ta gt (plT.map encP) (b.map encP) → (∀ p ∈ plT, RT ω4 w4 (t + 2) p.2 2 (labs p.1.1)) → KSx ω4 w4 t gs gm r now (mergeM r now (a.map (·.1)) M) → X (some ⟨gs, 0, none⟩) now (some gt) (some ⟨gi, 0, none⟩) w4 := by
      intro d
      induction d with
      | zero =>
        intro a b ω4 w4 hd pm sp top4 it hrt kx
        refine hX _ _ _ _ _ ?_
        unfold C.rules_Keeper_Step.S16
        have hb : b = [] := List.eq_nil_of_length_eq_zero hd
        subst hb
        refine nextV it (fun _ => ?_) (fun ra x rb ω' w' hr => by simp at hr)
        rw [List.append_nil] at pm
        have eM1 : mergeM r now (a.map (·.1)) M = mergeM r now T M := (merge_perm (hpT.symm.trans (pm.symm.map (·.1))) hTn hM).symm
        rw [eM1] at kx
        have hM1u : (mergeM r now T M).Pairwise ltA := merge_up hM
        have hM1r := merge_rt (r := r) (now := now) hTn hM hTrt hMr
        have hM1l : (mergeM r now T M).length ≤ M.length + T.length := merge_len
        unfold C.rules_Keeper_Step.S11 C.rules_Keeper_Step.S9
        obtain ⟨pl4, rs4, ka4, hp4⟩ := kx
        have hp4l := hp4.length_eq
        rw [List.length_map] at hp4l
        have hsh : ∀ p ∈ pl4, p.1.1.length ≤ 16 := fun p hp => (rt_short (hM1r _ (mem_perm hp4 hp))).1
        have hexv : ∃ vs : Nat → Nat, ∀ j (hj : j < (mergeM r now T M).length), vs j = if (overA r now T ((mergeM r now T M)[j])).isSome then vo else t + 2 :=
          ⟨fun j => if hj : j < (mergeM r now T M).length then (if (overA r now T ((mergeM r now T M)[j])).isSome then vo else t + 2) else 0, fun j hj => by simp only [dif_pos hj]⟩
        obtain ⟨vs, hvs⟩ := hexv
        refine active_ok ω4 ka4.aw hp4 hM1u (by omega) hsh u1 vs fun row ql ω5 w5 k5 o5 eq5 he5 => ?_
        have hrn := rdA_n o5.rd
        have F : SF ω w w0 t u1 ta vp uo vo T (mergeM r now T M) r now ql vs := ⟨htab, t0, hfvp, hfuo, by omega, hta, hvp, huo, hvo, hTup, hM1u, eq5, hM1r, hvs, by omega⟩
        have X0 : SX ω ω5 w w5 w0 t u1 ta vp uo vo gt gs gm r now T (mergeM r now T M) row ql vs nilS [] :=
          ⟨sp.trans (k5.non _), top4.stp k5, ⟨pl4, rs4, ka4.stp k5 (off_non t), hp4⟩, ⟨plT, ⟨it.map.stp k5 rfl, fun p hp => (hrt p hp).stp k5⟩, hpT⟩, o5.rt, he5, OT.nil _ _ _ _ _, by simp⟩
        refine gone_loop F (fun ω6 w6 o6 oq6 S6 eo6 => ?_) hrn X0
        unfold C.rules_Keeper_Step.S2
        have emid : midM r now T (mergeM r now T M) (mergeM r now T M).length = stepM r now T M := by unfold midM stepM; rw [List.take_length, List.drop_length, List.append_nil]
        have eov : overI r now T (mergeM r now T M) (mergeM r now T M).length = overM r now T M := by unfold overI overM; rw [List.take_length]
        have S6k := S6.ks
        rw [emid] at S6k
        rw [eov] at eo6
        obtain ⟨pl6, rs6, ka6, hp6⟩ := S6k
        have hsu : (stepM r now T M).Pairwise ltA := step_up hM
        have hsl : (stepM r now T M).length ≤ (mergeM r now T M).length := List.length_filterMap_le _ _
        have hp6l := hp6.length_eq
        rw [List.length_map] at hp6l
        have hsr : ∀ a ∈ stepM r now T M, (rt a.1).1 = 0 := fun a ha => by
          obtain ⟨b, hb, e⟩ := List.mem_filterMap.1 ha
          rw [stepA_lab e]; exact hM1r b hb
        refine active_ok ω6 ka6.aw hp6 hsu (by omega) (fun p hp => (rt_short (hsr _ (mem_perm hp6 hp))).1) ua (fun _ => va) fun a7 ql7 ω7 w7 k7 o7 eq7 he7 => ?_
        refine hOK a7 o6 ql7 oq6 ua va uo vo ω7 w7 ha1 ha2 (by omega) hvo (S6.sp.trans (k7.non _)) ⟨gm, pl6, rs6, ka6.stp k7 (off_non t), hp6⟩ o7 eq7 (fun p hp => ?_) (S6.ov.stp k7) eo6 (fun p hp => (S6.oe p hp).stp k7)
        obtain ⟨j, hj, rfl⟩ := List.mem_iff_getElem.1 hp
        exact he7 j hj
      | succ d ih =>
        intro a b ω4 w4 hd pm sp top4 it hrt kx
        refine hX _ _ _ _ _ ?_
        unfold C.rules_Keeper_Step.S16
        refine nextV it (fun hr => by have := congrArg List.length hr; rw [List.length_map, hd] at this; simp at this) (fun ra x rb ω5 w5 hr5 k5 it5 en k v => en _ ?_)
        obtain ⟨pa, qq, pb, e1, rfl, rfl, rfl⟩ := map_split hr5
        rw [← List.map_append] at it5
        have hqm : qq ∈ plT := pm.mem_iff.1 (by rw [e1]; exact List.mem_append_right _ (List.mem_append_right _ List.mem_cons_self))
        refine enc_at qq <| loc_ok qq fun g6 w6 k6 hg6 b6 => ac_at (blk_ac b6) ?_
        have s6 := k6.1.stp0 ω5
        obtain ⟨pl4, rs4, ka4, hp4⟩ := kx
        have kk5 : Stp (DT2 t) ω ω5 w w5 := sp.fresh k5 hfti
        have top6 := (top4.stp k5 (beq_no (by omega))).stp s6
        have ka6 := (ka4.stp k5 (off_one (by omega))).stp s6 (off_non t)
        have hrt6 : ∀ p ∈ plT, RT ω5 w6 (t + 2) p.2 2 (labs p.1.1) := fun p hp => ((hrt p hp).stp k5 (beq_no (by omega))).stp s6
        have hqT := hTrt _ (mem_perm hpT hqm)
        refine next_ok ka6 hp4 (merge_up hM) top6 htab t0 qq (hrt6 qq hqm) hqT fun ω7 w7 k7 m7 => ?_
        obtain ⟨pl7, pm7, hp7⟩ := m7
        have it7 := (it5.stp s6 rfl rfl).stp k7 (beq_no (by omega)) (beq_no (by omega))
        refine ih (a ++ [qq]) (pa ++ pb) ω7 w7 (by rw [e1] at hd; simp at hd ⊢; omega) ?_ ((kk5.trans (s6.non _)).trans (dt2 k7)) (top6.stp k7 (beq_no (by omega))) it7 (fun p hp => (hrt6 p hp).stp k7 (beq_no (by omega))) ⟨pl7, rs4, ⟨ka6.hd.stp k7 (beq_no (by omega)), ka6.rl.stp k7 (beq_no (by omega)), pm7⟩, ?_⟩
        · rw [e1] at pm
          refine List.Perm.trans ?_ pm
          rw [List.append_assoc]
          exact List.Perm.append_left a (List.perm_middle (l₁ := pa) (l₂ := pb) (a := qq)).symm
        · have em : mergeM r now ((a ++ [qq]).map (·.1)) M = insM (nx r now (mergeM r now (a.map (·.1)) M) qq.1) (mergeM r now (a.map (·.1)) M) := by
            rw [List.map_append]; unfold mergeM; rw [List.foldl_append]; rfl
          rw [em]; exact hp7
    exact key plT.length [] plT ω3 w3 rfl (by simp) (sp2.trans (k3.non _)) (top2.stp k3) it3 (fun p hp => (pmT2.rt p hp).stp k3) ⟨pl, rs, ka2.stp k3 (off_non t), hp⟩
  · obtain ⟨rfl, rfl⟩ := h1 he
    refine isNil_fault <| cond_t rfl <| number_ok (het.keep top1.k) (.inr rfl) fun w2 k2 => ?_
    exact hE he ω1 w2 (k1.trans (k2.stp0 ω1))
end Go.Proofs.YtechilkjfhpkpaaGreatDoor.Ru

namespace Go.Proofs.YtechilkjfhpkpaaGreatDoor.Ru
open Go Vm Go.RowKit Num Mem Utf Lib Lab
variable {ω ω' ωb : Tg} {w w' w0 wb : World} {t gs gm : Nat} {M : List Av} {r : Rl} {now last : Int} {s sl : Sl} {ql : QL}
def newE (r : Rl) (last : Int) : Int := if ruleB r = true ∧ r.rc = false then (if last < -1 ∨ last > 1125899906842624 then 1 else 0) else 201
theorem restore_pre (ω : Tg) (t : Nat) (ht : UTab w) (hs : Rd w s 2 (labs r.ls)) (hl : r.ls.length ≤ 100000000) {K : Option Addr → Int → World → Prop}
    (hE : newE r last ≠ 0 → ∀ ω' w', Stp Non ω ω' w w' → K none (newE r last) w')
    (hK : newE r last = 0 → ∀ gs gm rs ω' w', Stp Non ω ω' w w' → KSa ω' w' t gs gm r last [] rs → C.rules_Restore.S17 K sl last (some ⟨gs, 0, none⟩) w') : C.rules_Restore r.rc r.nm r.ex r.fo r.ke s sl last w K := by
  unfold C.rules_Restore
  obtain ⟨tv, htv, hfv⟩ := fresh ω w.heap.size (t + 3)
  refine new_T (ω := ω) tv fun g ω1 w1 k1 b1 => ?_
  have b1 : BT ω1 w1 tv g 24 (rlC r s) := b1
  refine cB_at (b := r.rc) (by rw [b1.cell]; rfl) <| cS_at (b := r.nm) (by rw [addr_add, b1.cell]; rfl) <| cS_at (b := r.ex) (by rw [addr_add, b1.cell]; rfl) <| cI_at (n := r.fo) (by rw [addr_add, b1.cell]; rfl) <| cI_at (n := r.ke) (by rw [addr_add, b1.cell]; rfl) <| cSl_at (s := s) (by rw [addr_add, b1.cell]; rfl) ?_
  refine rule_ok (ht.keep k1.keep) (hs.keep k1.keep) hl fun w2 k2 => ?_
  have s2 := k2.stp0 ω1
  have k02 := k1.trans s2
  have b2 := b1.stp s2
  unfold ruleE
  by_cases hr : ruleB r = true
  · rw [if_pos hr]
    have ok := rl_of hr
    have h16 := ((rt_iff _).1 ok.rt).1
    refine cond_f rfl <| cB_at (b := r.rc) (by rw [b2.cell]; rfl) <| cond_of (fun hrc => ?_) (fun hrc => ?_)
    · have e : newE r last = 201 := by unfold newE; rw [if_neg (fun h => by rw [hrc] at h; cases h.2)]
      rw [e] at hE
      exact hE (by decide) ω1 w2 k02
    · have e : newE r last = if last < -1 ∨ last > 1125899906842624 then 1 else 0 := by unfold newE; rw [if_pos ⟨hr, hrc⟩]
      refine cond_d (fun h => ?_) (fun h1 => cond_d (fun h => ?_) (fun h2 => ?_))
      · rw [if_pos (.inl h)] at e; rw [e] at hE; exact hE (by decide) ω1 w2 k02
      · rw [if_pos (.inr h)] at e; rw [e] at hE; exact hE (by decide) ω1 w2 k02
      · rw [if_neg (by omega)] at e
        have hK := hK e
        refine cSl_at (s := s) (by rw [addr_add, b2.cell]; rfl) <| cloneL_ok (hs.keep k02.keep) h16 fun rs w3 k3 o3 => ?_
        have s3 := k3.stp ω1 (t + 3)
        have r3 : RT (ext ω1 w2.heap.size (t + 3)) w3 (t + 3) rs 2 (labs r.ls) := Own.rt o3 (Nat.le_refl _) ω1 (t + 3)
        have k03 := k02.trans s3
        have b3 := b2.stp s3
        generalize ext ω1 w2.heap.size (t + 3) = ω3 at *
        refine st_TA b3 (by simp) fun ω4 w4 k4 b4 => ?_
        have k04 : Stp Non ω ω4 w w4 := k03.fresh k4 hfv
        have r4 := r3.stp k4 (beq_no (by omega))
        have b4 : BT ω4 w4 tv g 24 (rlC r rs) := b4
        refine cB_at (b := r.rc) (by rw [b4.cell]; rfl) <| cS_at (b := r.nm) (by rw [addr_add, b4.cell]; rfl) <| cS_at (b := r.ex) (by rw [addr_add, b4.cell]; rfl) <| cI_at (n := r.fo) (by rw [addr_add, b4.cell]; rfl) <| cI_at (n := r.ke) (by rw [addr_add, b4.cell]; rfl) <| cSl_at (s := rs) (by rw [addr_add, b4.cell]; rfl) ?_
        refine mkV (ω := ω4) (t + 1) fun gm ω5 w5 k5 m5 => new_T (ω := ω5) t fun gs ω6 w6 k6 b6 => ?_
        exact hK gs gm rs ω6 w6 ((k04.trans k5).trans k6) ⟨b6, (r4.stp k5).stp k6, ⟨m5.stp k6 rfl, by simp⟩⟩
  · rw [if_neg hr]
    have e : newE r last = 201 := by unfold newE; rw [if_neg (fun h => hr h.1)]
    rw [e] at hE
    exact cond_t rfl (hE (by decide) ω1 w2 k02)
theorem new_ok (ω : Tg) (t : Nat) (ht : UTab w) (hs : Rd w s 2 (labs r.ls)) (hl : r.ls.length ≤ 100000000) {K : Option Addr → Int → World → Prop}
    (hE : newE r (-1) ≠ 0 → ∀ ω' w', Stp Non ω ω' w w' → K none 201 w')
    (hK : newE r (-1) = 0 → ∀ gs ω' w', Stp Non ω ω' w w' → KS ω' w' t gs r (-1) [] → K (some ⟨gs, 0, none⟩) 0 w') : C.rules_New r.rc r.nm r.ex r.fo r.ke s w K := by
  unfold C.rules_New
  refine new_T (ω := ω) (t + 4) fun g ω1 w1 k1 b1 => ?_
  have b1 : BT ω1 w1 (t + 4) g 24 (rlC r s) := b1
  refine cB_at (b := r.rc) (by rw [b1.cell]; rfl) <| cS_at (b := r.nm) (by rw [addr_add, b1.cell]; rfl) <| cS_at (b := r.ex) (by rw [addr_add, b1.cell]; rfl) <| cI_at (n := r.fo) (by rw [addr_add, b1.cell]; rfl) <| cI_at (n := r.ke) (by rw [addr_add, b1.cell]; rfl) <| cSl_at (s := s) (by rw [addr_add, b1.cell]; rfl) ?_
  refine restore_pre ω1 t (ht.keep k1.keep) (hs.keep k1.keep) hl (fun hne ω' w' k => ?_) (fun h0 gs gm rs ω2 w2 k2 ka => ?_)
  · have e : newE r (-1) = 201 := by
      unfold newE at hne ⊢
      split
      · rename_i h; rw [if_pos h, if_neg (by omega)] at hne; exact absurd rfl hne
      · rfl
    rw [e] at hne ⊢
    exact hE (by rw [e]; decide) ω' w' (k1.trans k)
  · unfold C.rules_Restore.S17
    refine C.rules_Restore.L13_ind fun X hX => hX _ _ _ _ _ _ _ ?_
    unfold C.rules_Restore.S15 C.rules_Restore.S9
    refine cond_f (by rfl) ?_
    refine C.rules_Restore.L5_ind fun Y hY => hY _ _ _ _ _ ?_
    unfold C.rules_Restore.S7 C.rules_Restore.S2
    exact cond_f (by rfl) (hK h0 gs ω2 w2 (k1.trans k2) ⟨gm, [], rs, ka, by simp⟩)
end Go.Proofs.YtechilkjfhpkpaaGreatDoor.Ru

namespace Go.Proofs.YtechilkjfhpkpaaGreatDoor.Ru
open Go Vm Go.RowKit Num Mem Utf Lib Lab
variable {ω ω' ωb : Tg} {w w' w0 wb : World} {t gs gm : Nat} {M : List Av} {r : Rl} {now last : Int} {s sl : Sl} {ql : QL}
def rk : Rl := ⟨false, ⟨#[120]⟩, ⟨#[]⟩, 10, 0, []⟩
def p1 : List Pt := [([(⟨#[97]⟩, ⟨#[49]⟩)], 4607182418800017408)]
def lx : List Lb := [(⟨#[97]⟩, ⟨#[49]⟩), (aN, ⟨#[120]⟩)]
theorem rk_ok : ruleB rk = true := by decide +kernel
theorem e0 : stepE rk (-1) 0 p1 = 0 := by decide +kernel
theorem e1 : stepE rk 0 5 p1 = 0 := by decide +kernel
theorem e2 : stepE rk 5 10 p1 = 0 := by decide +kernel
theorem e3 : stepE rk 10 15 [] = 0 := by decide +kernel
theorem m0 : stepM rk 0 (toldL rk p1) [] = [(lx, 1, 0, -1, -1, 4607182418800017408)] := by decide +kernel
theorem m1 : stepM rk 5 (toldL rk p1) [(lx, 1, 0, -1, -1, 4607182418800017408)] = [(lx, 1, 0, -1, -1, 4607182418800017408)] := by decide +kernel
theorem m2 : stepM rk 10 (toldL rk p1) [(lx, 1, 0, -1, -1, 4607182418800017408)] = [(lx, 2, 0, 10, -1, 4607182418800017408)] := by decide +kernel
theorem m3 : stepM rk 15 (toldL rk []) [(lx, 2, 0, 10, -1, 4607182418800017408)] = [] := by decide +kernel
theorem o3 : overM rk 15 (toldL rk []) [(lx, 2, 0, 10, -1, 4607182418800017408)] = [lx] := by decide +kernel
theorem lx_rt : (rt lx).1 = 0 := by decide +kernel
theorem one_ok (ω : Tg) {K : Sl → World → Prop} (hK : ∀ s q ω' w', Stp Non ω ω' w w' → RdPs w' s q → q.map (·.1) = p1 → K s w') : C.tocsinlaw19_one w K := by
  unfold C.tocsinlaw19_one
  refine new_T (ω := ω) 0 fun g1 ω1 w1 k1 b1 => new_T (ω := ω1) 0 fun g2 ω2 w2 k2 b2 => ?_
  refine hK _ [(([(⟨#[97]⟩, ⟨#[49]⟩)], 4607182418800017408), ⟨some ⟨g1, 0, none⟩, 1, 1⟩)] ω2 w2 (k1.trans k2) ⟨Rd.blk (n := 1) (c := 1) (sz := 2) (o := 0) b2.blk (Nat.le_refl _) (by simp), fun p hp => ?_⟩ rfl
  rw [List.mem_singleton.1 hp]
  exact Rd.blk (n := 1) (c := 1) (sz := 2) (o := 0) (b1.stp k2).blk (Nat.le_refl _) (by decide)
theorem dt2_off {t u : Nat} (h : u ≠ t ∧ u ≠ t + 1) : DT2 t u = false := by
  unfold DT2
  rw [show Nat.beq u t = false from beq_no h.1, show Nat.beq u (t + 1) = false from beq_no h.2]; rfl
theorem nil_ps (w : World) : RdPs w nilS [] := ⟨Rd.nil w 2, by simp⟩
theorem known_ok (htab : UTab w) (het : ETab w) {K : Bool → World → Prop} (hK : ∀ w', Keep w w' → K true w') : C.tocsinlaw19_known w K := by
  unfold C.tocsinlaw19_known
  have hne : newE rk (-1) = 0 := by decide +kernel
  have ok := rl_of rk_ok
  have top0 := Top.init w
  refine new_ok (r := rk) (fun _ => 0) 1 htab (Rd.nil w 2) (by decide) (fun h => absurd hne h) fun _ gs ω1 w1 k1 ks1 => ?_
  have top1 := top0.stp k1
  refine cond_f rfl <| cond_f rfl <| one_ok ω1 fun s2 q2 ω2 w2 k2 hq2 eq2 => ?_
  have top2 := top1.stp k2
  have len1 : ∀ {q : PQ}, q.map (·.1) = p1 → q.length ≤ 10000000 := fun {q} h => by have := congrArg List.length h; rw [List.length_map] at this; rw [this]; decide
  refine step_ok 10 top2 htab het (by decide) (by decide) (ks1.stp k2 (off_non 1)) ok List.Pairwise.nil (by simp) (by decide) hq2 (len1 eq2) (fun h => absurd (by rw [eq2]; exact e0) h) fun _ a3 o3' ql3 oq3 ua va uo vo ω3 w3 h1 h2 h3 h4 k3 ks3 _ _ _ _ _ _ => ?_
  rw [eq2, m0] at ks3
  have top3 := top2.stp k3
  refine one_ok ω3 fun s4 q4 ω4 w4 k4 hq4 eq4 => ?_
  have top4 := top3.stp k4
  have rt1 : ∀ {x : Int × Int × Int × Int × Nat}, ∀ a ∈ [((lx, x) : Av)], (rt a.1).1 = 0 := fun a ha => by rw [List.mem_singleton.1 ha]; exact lx_rt
  refine step_ok 10 top4 htab het (by decide) (by decide) (ks3.stp k4 (off_non 1)) ok (List.pairwise_singleton _ _) rt1 (by decide) hq4 (len1 eq4) (fun h => absurd (by rw [eq4]; exact e1) h) fun _ a5 o5 ql5 oq5 ua5 va5 uo5 vo5 ω5 w5 h51 h52 h53 h54 k5 ks5 oa5 eq5 _ _ _ _ => ?_
  rw [eq4, m1] at ks5 eq5
  have top5 := top4.stp k5
  refine one_ok ω5 fun s6 q6 ω6 w6 k6 hq6 eq6 => ?_
  have top6 := top5.stp k6
  refine step_ok 10 top6 htab het (by decide) (by decide) (ks5.stp k6 (off_non 1)) ok (List.pairwise_singleton _ _) rt1 (by decide) hq6 (len1 eq6) (fun h => absurd (by rw [eq6]; exact e2) h) fun _ a7 o7 ql7 oq7 ua7 va7 uo7 vo7 ω7 w7 h71 h72 h73 h74 k7 ks7 oa7 eq7 _ _ _ _ => ?_
  rw [eq6, m2] at ks7 eq7
  have top7 := top6.stp k7
  refine step_ok 10 top7 htab het (by decide) (by decide) ks7 ok (List.pairwise_singleton _ _) rt1 (by decide) (nil_ps w7) (by decide) (fun h => absurd e3 h) fun _ a9 o9 ql9 oq9 ua9 va9 uo9 vo9 ω9 w9 h91 h92 h93 h94 k9 ks9 oa9 eq9 _ ov9 eo9 _ => ?_
  rw [show (List.map (·.1) ([] : PQ)) = [] from rfl, m3] at eq9
  rw [show (List.map (·.1) ([] : PQ)) = [] from rfl, o3] at eo9
  have top9 := top7.stp k9
  refine cond_t rfl <| cond_t rfl <| cond_t rfl ?_
  have oa5' := ((oa5.stp k6).stp k7 (dt2_off (by omega))).stp k9 (dt2_off (by omega))
  have oa7' := oa7.stp k9 (dt2_off (by omega))
  have n5 := rdA_n oa5'.rd
  have n7 := rdA_n oa7'.rd
  have n9 := rdA_n oa9.rd
  have no9 := sls_n ov9.rd
  have l5 := congrArg List.length eq5
  have l7 := congrArg List.length eq7
  have l9 := congrArg List.length eq9
  have lo9 := congrArg List.length eo9
  rw [List.length_map] at l5 l7 l9 lo9
  simp only [List.length_singleton, List.length_nil] at l5 l7 l9 lo9
  obtain ⟨p5, rfl⟩ := List.length_eq_one_iff.1 l5
  obtain ⟨p7, rfl⟩ := List.length_eq_one_iff.1 l7
  simp only [List.map_cons, List.map_nil, List.cons.injEq, and_true] at eq5 eq7
  refine cond_t (by rw [n5]; rfl) <| rdA_at oa5'.rd (k := 0) rfl rfl fun a ac => cI_at ac.2.1 <| cond_t (by rw [eq5]; rfl) ?_
  refine cond_t (by rw [n7]; rfl) <| rdA_at oa7'.rd (k := 0) rfl rfl fun a ac => cI_at ac.2.1 <| cond_t (by rw [eq7]; rfl) ?_
  refine rdA_at oa7'.rd (k := 0) rfl rfl fun a ac => cI_at ac.2.2.1 <| cond_t (by rw [eq7]; rfl) ?_
  refine cond_t (by rw [n9, l9]; rfl) ?_
  rw [no9, lo9]
  exact hK w9 top9.k
end Go.Proofs.YtechilkjfhpkpaaGreatDoor.Ru

namespace Go.Proofs.YtechilkjfhpkpaaGreatDoor.Rep
open Go Vm Go.RowKit Num Mem Go.ChangeShapes Shut
inductive Sh where
  | int (k : IntKind) | bool | str | fl (k : FloatKind) | sl (es : List Sh)
def sumTo (f : Nat → Nat) : Nat → Nat
  | 0 => 0
  | n + 1 => sumTo f n + f n
theorem sumTo_ge (f : Nat → Nat) : ∀ n i, i < n → f i ≤ sumTo f n
  | 0, i, h => absurd h (Nat.not_lt_zero _)
  | n + 1, i, h => by
    rcases Nat.lt_succ_iff_lt_or_eq.1 h with h | rfl
    · have := sumTo_ge f n i h; simp only [sumTo]; omega
    · simp only [sumTo]; omega
theorem sumTo_len (f : Nat → Nat) : ∀ n, (∀ i, i < n → 1 ≤ f i) → n ≤ sumTo f n
  | 0, _ => Nat.le_refl _
  | n + 1, h => by
    have := sumTo_len f n fun i hi => h i (by omega)
    have := h n (by omega)
    simp only [sumTo]; omega
theorem sumTo_bulk {H : Type} : ∀ l : List (DataW H), sumTo (fun i => Rows.uptoBulk (l.getD i .nil)) l.length ≤ Rows.uptoBulkAll l := by
  intro l
  have key : ∀ (l : List (DataW H)) (n : Nat), n ≤ l.length → sumTo (fun i => Rows.uptoBulk (l.getD i .nil)) n = Rows.uptoBulkAll (l.take n) := by
    intro l n
    induction n with
    | zero => intro _; simp [sumTo, Rows.uptoBulkAll]
    | succ n ih =>
      intro h
      simp only [sumTo]
      rw [ih (by omega), List.take_add_one, bulk_app, List.getElem?_eq_getElem (by omega)]
      simp [Rows.uptoBulkAll, List.getD, List.getElem?_eq_getElem (show n < l.length by omega)]
  rw [key l l.length (Nat.le_refl _), List.take_length]; exact Nat.le_refl _
inductive Cl (w : World) : Sh → Value → Nat → Prop
  | int {k : IntKind} {n : Int} {b : Nat} : k.min ≤ n → n ≤ k.max → Cl w (.int k) (.int k n) b
  | bool {x : Bool} {b : Nat} : Cl w .bool (.bool x) b
  | str {s : ByteArray} {b : Nat} : s.size < b → Cl w .str (.string s) b
  | fl {k : FloatKind} {n b : Nat} : (Lit.float k n).wf = true → Cl w (.fl k) (.float k n) b
  | sl {s : Sl} {es : List Sh} {b : Nat} (f : Nat → Nat) (U : Nat → Nat → Value) : s.n ≤ s.c → s.c ≤ maxLen → (∀ i, i < s.n → 1 ≤ f i) → sumTo f s.n < b → (s.a = none → s = nilS) →
      (0 < s.n → ∃ g o, s.a = some ⟨g, o, none⟩ ∧ ∀ i j sh, i < s.n → es[j]? = some sh → w.cell? ⟨g, o + (i * es.length + j), none⟩ = some (U i j)) →
      (∀ i j sh, i < s.n → es[j]? = some sh → Cl w sh (U i j) (f i)) → Cl w (.sl es) s.v b
def Row (w : World) (shs : List Sh) (cs : List Value) (b : Nat) : Prop := cs.length = shs.length ∧ ∀ (j : Nat) (sh : Sh), shs[j]? = some sh → ∃ v, cs[j]? = some v ∧ Cl w sh v b
theorem Cl.mono {w : World} {sh : Sh} {v : Value} {b b' : Nat} (h : Cl w sh v b) (hb : b ≤ b') : Cl w sh v b' := by
  cases h with
  | int h1 h2 => exact .int h1 h2
  | bool => exact .bool
  | str h => exact .str (by omega)
  | fl h => exact .fl h
  | sl f U h1 h2 h3 h4 h5 h6 h7 => exact .sl f U h1 h2 h3 (by omega) h5 h6 h7
theorem Cl.keep {w w' : World} (k : Keep w w') {sh : Sh} {v : Value} {b : Nat} (h : Cl w sh v b) : Cl w' sh v b := by
  induction h with
  | int h1 h2 => exact .int h1 h2
  | bool => exact .bool
  | str h => exact .str h
  | fl h => exact .fl h
  | sl f U h1 h2 h3 h4 h5 h6 _ ih =>
    exact .sl f U h1 h2 h3 h4 h5 (fun hn => let ⟨g, o, ha, hc⟩ := h6 hn; ⟨g, o, ha, fun i j sh hi hj => k.cell (hc i j sh hi hj)⟩) ih
theorem Cl.int_inv {w : World} {k : IntKind} {v : Value} {b : Nat} (h : Cl w (.int k) v b) : ∃ n, v = .int k n ∧ k.min ≤ n ∧ n ≤ k.max := by
  cases h with | int h1 h2 => exact ⟨_, rfl, h1, h2⟩
theorem Cl.bool_inv {w : World} {v : Value} {b : Nat} (h : Cl w .bool v b) : ∃ x, v = .bool x := by
  cases h with | bool => exact ⟨_, rfl⟩
theorem Cl.str_inv {w : World} {v : Value} {b : Nat} (h : Cl w .str v b) : ∃ s, v = .string s ∧ s.size < b := by
  cases h with | str h => exact ⟨_, rfl, h⟩
theorem Cl.fl_inv {w : World} {k : FloatKind} {v : Value} {b : Nat} (h : Cl w (.fl k) v b) : ∃ n, v = .float k n ∧ (Lit.float k n).wf = true := by
  cases h with | fl h => exact ⟨_, rfl, h⟩
theorem Cl.sl_ex {w : World} {es : List Sh} {v : Value} {b : Nat} (h : Cl w (.sl es) v b) : ∃ s : Sl, v = s.v := by
  cases h with | sl => exact ⟨_, rfl⟩
theorem sl_v_inj {s t : Sl} (h : s.v = t.v) : s = t := by
  cases s; cases t; simp only [Value.slice.injEq] at h; obtain ⟨rfl, rfl, rfl⟩ := h; rfl
theorem Cl.sl_inv {w : World} {es : List Sh} {s : Sl} {b : Nat} (h : Cl w (.sl es) s.v b) : ∃ (f : Nat → Nat) (U : Nat → Nat → Value), s.n ≤ s.c ∧ s.c ≤ maxLen ∧ (∀ i, i < s.n → 1 ≤ f i) ∧ sumTo f s.n < b ∧ (s.a = none → s = nilS) ∧
    (0 < s.n → ∃ g o, s.a = some ⟨g, o, none⟩ ∧ ∀ i j sh, i < s.n → es[j]? = some sh → w.cell? ⟨g, o + (i * es.length + j), none⟩ = some (U i j)) ∧
    (∀ i j sh, i < s.n → es[j]? = some sh → Cl w sh (U i j) (f i)) := by
  generalize hv : s.v = v at h
  cases h with
  | sl f U h1 h2 h3 h4 h5 h6 h7 =>
    have := sl_v_inj hv
    subst this
    exact ⟨f, U, h1, h2, h3, h4, h5, h6, h7⟩
theorem Cl.len {w : World} {es : List Sh} {s : Sl} {b : Nat} (h : Cl w (.sl es) s.v b) : s.n < b := by
  obtain ⟨f, U, h1, h2, h3, h4, h5, h6, h7⟩ := h.sl_inv
  have := sumTo_len f s.n h3
  omega
theorem Cl.ix {w : World} {es : List Sh} {s : Sl} {b : Nat} (h : Cl w (.sl es) s.v b) {i : Int} (h0 : 0 ≤ i) (hi : i < s.n) {sz : Nat} (hsz : sz = es.length) {K : Addr → Prop}
    (hK : ∀ (a : Addr) (V : Nat → Value), (∀ j sh, es[j]? = some sh → w.cell? (a.add j) = some (V j) ∧ Cl w sh (V j) b) → K a) : G.ix s.a s.n i sz K := by
  obtain ⟨f, U, h1, h2, h3, h4, h5, h6, h7⟩ := h.sl_inv
  obtain ⟨g, o, ha, hc⟩ := h6 (by omega)
  rw [ha]
  subst hsz
  refine ⟨⟨h0, hi⟩, hK _ (U i.toNat) fun j sh hj => ⟨?_, (h7 i.toNat j sh (by omega) hj).mono ?_⟩⟩
  · rw [addr_add, addr_add, Nat.add_assoc]
    exact hc _ j sh (by omega) hj
  · have := sumTo_ge f s.n i.toNat (by omega)
    omega
def fsOf (P : Program) (go : TypeId → Option (List Sh)) : Nat → List Field → Option (List Sh)
  | _, [] => some []
  | off, f :: r => match go f.type with
    | some l => bif Nat.beq f.offset off && Nat.beq (P.cellsOf f.type) l.length then (fsOf P go (off + l.length) r).map (l ++ ·) else none
    | none => none
def shOf (P : Program) : Nat → TypeId → Option (List Sh)
  | 0, _ => none
  | d + 1, t => match P.underlying t with
    | some (.int k) => some [.int k]
    | some .bool => some [.bool]
    | some .string => some [.str]
    | some (.float k) => some [.fl k]
    | some (.slice e) => match shOf P d e with
      | some l => bif Nat.beq (P.cellsOf e) l.length && Nat.blt 0 l.length then some [.sl l] else none
      | none => none
    | some (.struct fs) => match fsOf P (shOf P d) 0 fs.toList with
      | some l => bif Nat.beq (P.cellsOf t) l.length then some l else none
      | none => none
    | _ => none
theorem nbeq {a b : Nat} {α : Type} {x : Option α} {y : α} (h : (bif Nat.beq a b then x else none) = some y) : a = b ∧ x = some y := by
  cases e : Nat.beq a b with
  | false => rw [e] at h; cases h
  | true => rw [e] at h; exact ⟨Nat.eq_of_beq_eq_true e, h⟩
theorem addr_none {w : World} {a : Addr} {v : Value} (h : w.cell? a = some v) : a.spot = none := by
  obtain ⟨g, o, sp⟩ := a
  cases sp with
  | none => rfl
  | some x =>
    simp only [World.cell?] at h
    simp at h
    split at h <;> simp_all
theorem Row.app {w : World} {xs ys : List Sh} {cs : List Value} {b : Nat} (h1 : Row w xs (cs.take xs.length) b) (h2 : Row w ys (cs.drop xs.length) b) : Row w (xs ++ ys) cs b := by
  obtain ⟨l1, h1⟩ := h1
  obtain ⟨l2, h2⟩ := h2
  rw [List.length_take] at l1
  rw [List.length_drop] at l2
  refine ⟨by simp; omega, fun j sh hj => ?_⟩
  rcases Nat.lt_or_ge j xs.length with hlt | hge
  · rw [List.getElem?_append_left hlt] at hj
    obtain ⟨v, hv, hc⟩ := h1 j sh hj
    rw [List.getElem?_take, if_pos hlt] at hv
    exact ⟨v, hv, hc⟩
  · rw [List.getElem?_append_right hge] at hj
    obtain ⟨v, hv, hc⟩ := h2 _ sh hj
    rw [List.getElem?_drop, show xs.length + (j - xs.length) = j by omega] at hv
    exact ⟨v, hv, hc⟩
theorem Row.mono {w : World} {shs : List Sh} {cs : List Value} {b b' : Nat} (h : Row w shs cs b) (hb : b ≤ b') : Row w shs cs b' :=
  ⟨h.1, fun j sh hj => let ⟨v, hv, hc⟩ := h.2 j sh hj; ⟨v, hv, hc.mono hb⟩⟩
section
variable {H : Type} {enc : TypeId × Value → H} {P : Program} {w : World} {spare : Nat → Bool} {held : Bool}
theorem fields_row {go : TypeId → Option (List Sh)} {fuel : Nat} {cs : List Value} {B : Nat} (ih : ∀ t cs x shs, DataW.trod enc P w 0 spare held fuel t cs = some x → go t = some shs → Row w shs cs (Rows.uptoBulk x.1)) :
    ∀ (r : List Field) (ys : List (DataW H × List MemPlace)) (off : Nat) (l : List Sh), fsOf P go off r = some l → ys.length = r.length →
      (∀ (i : Nat) (f : Field), r[i]? = some f → DataW.trod enc P w 0 spare held fuel f.type ((cs.drop f.offset).take (P.cellsOf f.type)) = ys[i]?) → (∀ y ∈ ys, Rows.uptoBulk y.1 ≤ B) → off + l.length ≤ cs.length →
      Row w l ((cs.drop off).take l.length) B
  | [], ys, off, l, h, _, _, _, _ => by
    cases h
    exact ⟨by simp, fun j sh hj => by simp at hj⟩
  | f :: r, ys, off, l, h, hy, hf, hB, hlen => by
    simp only [fsOf] at h
    split at h
    case h_2 => cases h
    rename_i lf hlf
    cases hc : (Nat.beq f.offset off && Nat.beq (P.cellsOf f.type) lf.length) with
    | false => rw [hc] at h; cases h
    | true =>
      rw [hc] at h
      simp only [Bool.and_eq_true] at hc
      have ho : f.offset = off := Nat.eq_of_beq_eq_true hc.1
      have hcl : P.cellsOf f.type = lf.length := Nat.eq_of_beq_eq_true hc.2
      obtain ⟨l', hl', rfl⟩ := Option.map_eq_some_iff.1 h
      cases ys with
      | nil => simp at hy
      | cons y ys =>
        rw [List.length_append] at hlen
        have h0 := hf 0 f rfl
        rw [ho, hcl] at h0
        have r1 := (ih _ _ _ _ h0 hlf).mono (hB y (List.mem_cons_self ..))
        have r2 := fields_row ih r ys (off + lf.length) l' hl' (by simpa using hy) (fun i f hi => hf (i + 1) f hi) (fun z hz => hB z (List.mem_cons_of_mem _ hz)) (by omega)
        refine Row.app ?_ ?_
        · rw [List.take_take, List.length_append, Nat.min_eq_left (by omega)]; exact r1
        · rw [List.drop_take, List.drop_drop, List.length_append, show lf.length + l'.length - lf.length = l'.length by omega]; exact r2
theorem row_of_trod : ∀ (fuel d : Nat) (t : TypeId) (cs : List Value) (x : DataW H × List MemPlace) (shs : List Sh), DataW.trod enc P w 0 spare held fuel t cs = some x → shOf P d t = some shs → Row w shs cs (Rows.uptoBulk x.1)
  | 0, _, _, _, _, _, h, _ => by simp [DataW.trod] at h
  | _ + 1, 0, _, _, _, _, _, hs => by cases hs
  | fuel + 1, d + 1, t, cs, x, shs, h, hs => by
    simp only [shOf] at hs
    cases hu : P.underlying t with
    | none => rw [hu] at hs; cases hs
    | some ty =>
      rw [hu] at hs
      cases ty with
      | int k =>
        cases hs
        rw [DataW.trod_step] at h
        unfold DataW.trodStep at h
        rw [hu] at h
        split at h <;> simp_all
        obtain ⟨⟨rfl, hw⟩, rfl⟩ := h
        rename_i n _ _
        simp only [Lit.wf, Bool.and_eq_true, decide_eq_true_eq] at hw
        exact ⟨rfl, fun j sh hj => by
          cases j with
          | zero => simp at hj; subst hj; exact ⟨_, rfl, .int hw.1 hw.2⟩
          | succ j => simp at hj⟩
      | bool =>
        cases hs
        rw [DataW.trod_step] at h
        unfold DataW.trodStep at h
        rw [hu] at h
        split at h <;> simp_all
        exact ⟨rfl, fun j sh hj => by
          cases j with
          | zero => simp at hj; subst hj; exact ⟨_, rfl, .bool⟩
          | succ j => simp at hj⟩
      | float k =>
        cases hs
        rw [DataW.trod_step] at h
        unfold DataW.trodStep at h
        rw [hu] at h
        split at h <;> simp_all
        obtain ⟨⟨rfl, hw⟩, rfl⟩ := h
        exact ⟨rfl, fun j sh hj => by
          cases j with
          | zero => simp at hj; subst hj; exact ⟨_, rfl, .fl hw⟩
          | succ j => simp at hj⟩
      | string =>
        cases hs
        rw [DataW.trod_step] at h
        unfold DataW.trodStep at h
        rw [hu] at h
        split at h <;> simp_all
        obtain ⟨hw, rfl⟩ := h
        exact ⟨rfl, fun j sh hj => by
          cases j with
          | zero => simp at hj; subst hj; exact ⟨_, rfl, .str (by show _ < List.length _ + 1; rw [Array.length_toList]; exact Nat.lt_succ_self _)⟩
          | succ j => simp at hj⟩
      | slice e =>
        simp only [] at hs
        split at hs
        case h_2 => cases hs
        rename_i l hl
        cases hc : (Nat.beq (P.cellsOf e) l.length && Nat.blt 0 l.length) with
        | false => rw [hc] at hs; cases hs
        | true =>
          rw [hc] at hs
          cases hs
          simp only [Bool.and_eq_true] at hc
          have hsz : P.cellsOf e = l.length := Nat.eq_of_beq_eq_true hc.1
          have hpos : 0 < l.length := Nat.blt_eq.mp hc.2
          have one : ∀ v, Cl w (.sl l) v (Rows.uptoBulk x.1) → Row w [.sl l] [v] (Rows.uptoBulk x.1) := fun v hv => ⟨rfl, fun j sh hj => by
            cases j with
            | zero => simp at hj; subst hj; exact ⟨_, rfl, hv⟩
            | succ j => simp at hj⟩
          rcases DataW.trod_slice hu h with ⟨rfl, rfl⟩ | ⟨a, len, cap, elems, rest, n, hn, rfl, rfl, _, hlc, hcm, hlen, hel, _, _⟩
          · exact one _ (.sl (s := nilS) (fun _ => 1) (fun _ _ => undef) (Nat.le_refl _) (Nat.zero_le _) (fun _ _ => Nat.le_refl _) (by simp [sumTo, Rows.uptoBulk]) (fun _ => rfl) (fun h => absurd h (Nat.not_lt_zero _)) (fun i j sh h => absurd h (Nat.not_lt_zero _)))
          · have hnf : n = fuel := by omega
            subst hnf
            have hx : ∀ i, i < len → ∃ cs', w.cells? 0 (a.add (i * l.length)) l.length = some cs' ∧ Row w l cs' (Rows.uptoBulk ((elems.map (·.1)).getD i .nil)) := by
              intro i hi
              have hi' : i < elems.length := by omega
              have h1 := hel i hi
              rw [List.getElem?_eq_getElem hi', hsz] at h1
              obtain ⟨cs', h2, h3⟩ := Option.bind_eq_some_iff.1 h1
              refine ⟨cs', h2, ?_⟩
              have := row_of_trod _ d e cs' _ l h3 hl
              simpa [List.getD, List.getElem?_eq_getElem hi'] using this
            have hcell : ∀ i j, i < len → j < l.length → ∃ v, w.cell? (a.add (i * l.length + j)) = some v ∧ ∀ sh, l[j]? = some sh → Cl w sh v (Rows.uptoBulk ((elems.map (·.1)).getD i .nil)) := by
              intro i j hi hj
              obtain ⟨cs', h2, hlc', h3⟩ := hx i hi
              obtain ⟨_, _, h4⟩ := World.cells?_some h2
              obtain ⟨sh, hsh⟩ : ∃ sh, l[j]? = some sh := ⟨l[j], List.getElem?_eq_getElem hj⟩
              obtain ⟨v, hv, hcl⟩ := h3 j sh hsh
              refine ⟨v, ?_, fun sh' hsh' => ?_⟩
              · have := h4 j hj
                rw [hv] at this
                rw [← this]
                congr 1
                unfold Addr.add
                by_cases h1 : i * l.length = 0 <;> by_cases h2 : j = 0 <;> simp [h1, h2, Nat.add_assoc]
              · rw [hsh] at hsh'; cases hsh'; exact hcl
            classical
            let U : Nat → Nat → Value := fun i j => if h : i < len ∧ j < l.length then Classical.choose (hcell i j h.1 h.2) else undef
            have hU : ∀ i j, i < len → j < l.length → w.cell? (a.add (i * l.length + j)) = some (U i j) ∧ ∀ sh, l[j]? = some sh → Cl w sh (U i j) (Rows.uptoBulk ((elems.map (·.1)).getD i .nil)) := by
              intro i j hi hj
              have := Classical.choose_spec (hcell i j hi hj)
              simp only [U, dif_pos (And.intro hi hj)]
              exact this
            refine one _ (.sl (s := ⟨some a, len, cap⟩) (fun i => Rows.uptoBulk ((elems.map (·.1)).getD i .nil)) U hlc hcm (fun i _ => bulk_one _) ?_ (fun h => by cases h) (fun hn => ?_) fun i j sh hi hj => (hU i j hi ((List.getElem?_eq_some_iff.1 hj).1)).2 sh hj)
            · have h1 := sumTo_bulk (elems.map (·.1))
              rw [List.length_map, hlen] at h1
              simp only [Rows.uptoBulk]
              omega
            · have h0 := (hU 0 0 hn hpos).1
              have hs0 : a.spot = none := by
                rw [Nat.zero_mul, Nat.zero_add, show a.add 0 = a by simp [Addr.add]] at h0
                exact addr_none h0
              obtain ⟨g, o, sp⟩ := a
              simp only at hs0
              subst hs0
              refine ⟨g, o, rfl, fun i j sh hi hj => ?_⟩
              have := (hU i j hi ((List.getElem?_eq_some_iff.1 hj).1)).1
              rwa [addr_add] at this
      | struct fs =>
        simp only [] at hs
        split at hs
        case h_2 => cases hs
        rename_i l hl
        obtain ⟨hct, hs⟩ := nbeq hs
        cases hs
        obtain ⟨xs, n, hn, rfl, hlen, hxl, hf⟩ := DataW.trod_struct hu h
        have hnf : n = fuel := by omega
        subst hnf
        have := fields_row (B := Rows.uptoBulkAll (xs.map (·.1)) + 1) (cs := cs) (go := shOf P d) (fun t cs x shs h hs => row_of_trod n d t cs x shs h hs) fs.toList xs 0 shs hl (by simpa using hxl) (fun i f hi => hf i f (by simpa using hi)) (fun x hx => by
          have := bulk_part (l := xs.map (·.1)) (List.mem_map_of_mem hx); omega) (by omega)
        rw [List.drop_zero, List.take_of_length_le (by omega)] at this
        exact this
      | _ => cases hs
theorem open_sl {base : Nat} {t e : TypeId} {v : Value} {d : DataW H} {p : List MemPlace} {es : List Sh} (n : Nat) (hu : P.underlying t = some (.slice e)) (hs : shOf P n t = some [.sl es]) (hval : Value.okWide P w .any base t v)
    (h : DataW.Trod enc P w 0 spare held t v d p) : ∃ s : Sl, v = s.v ∧ Cl w (.sl es) s.v (Rows.uptoBulk d) := by
  obtain ⟨a, m, c, rfl⟩ := WideShapes.okWide_slice hu hval
  obtain ⟨fuel, h⟩ := h
  obtain ⟨hl, hr⟩ := row_of_trod fuel n t _ _ _ h hs
  obtain ⟨v, hv, hc⟩ := hr 0 _ rfl
  have : v = .slice a m c := by simpa [Value.cells] using hv.symm
  subst this
  exact ⟨⟨a, m, c⟩, rfl, hc⟩
theorem open_row {base : Nat} {t : TypeId} {fs : Array Field} {v : Value} {d : DataW H} {p : List MemPlace} {shs : List Sh} (n : Nat) (hu : P.underlying t = some (.struct fs)) (hs : shOf P n t = some shs) (hval : Value.okWide P w .any base t v)
    (h : DataW.Trod enc P w 0 spare held t v d p) : ∃ cs : List Value, v = .agg ⟨cs⟩ ∧ Row w shs cs (Rows.uptoBulk d) := by
  obtain ⟨cs, rfl, _⟩ := WideShapes.okWide_struct hu hval
  obtain ⟨fuel, h⟩ := h
  exact ⟨cs.toList, rfl, row_of_trod fuel n t _ _ _ h hs⟩
end
end Go.Proofs.YtechilkjfhpkpaaGreatDoor.Rep

namespace Go.Proofs.YtechilkjfhpkpaaGreatDoor.Rep
open Go Vm Go.RowKit Num Mem
variable {w : World} {α : Type}
theorem flat_at {enc : α → List Value} {k : Nat} (hk : ∀ x, (enc x).length = k) : ∀ (m : List α) (i j : Nat), j < k → (m.flatMap enc)[i * k + j]? = (m[i]?).bind fun x => (enc x)[j]?
  | [], i, j, _ => by simp
  | x :: m, 0, j, hj => by
    simp only [List.flatMap_cons, Nat.zero_mul, Nat.zero_add]
    rw [List.getElem?_append_left (by rw [hk]; exact hj)]; simp
  | x :: m, i + 1, j, hj => by
    simp only [List.flatMap_cons]
    rw [List.getElem?_append_right (by rw [hk, Nat.add_mul]; omega), hk, show (i + 1) * k + j - k = i * k + j by rw [Nat.add_mul]; omega, flat_at hk m i j hj]
    simp
theorem flat_len {enc : α → List Value} {k : Nat} (hk : ∀ x, (enc x).length = k) : ∀ m : List α, (m.flatMap enc).length = m.length * k
  | [] => by simp
  | x :: m => by simp only [List.flatMap_cons, List.length_append, List.length_cons, hk, flat_len hk m, Nat.add_mul]; omega
theorem rows_of [Inhabited α] {s : Sl} {b : Nat} {es : List Sh} {enc : α → List Value} {Q : α → Prop} (hk : ∀ x, (enc x).length = es.length) (hpos : 0 < es.length) (h : Cl w (.sl es) s.v b)
    (inv : ∀ V : Nat → Value, (∀ j sh, es[j]? = some sh → Cl w sh (V j) b) → ∃ x, (∀ j, j < es.length → (enc x)[j]? = some (V j)) ∧ Q x) :
    ∃ m : List α, Rd w s es.length (m.flatMap enc) ∧ s.n = m.length ∧ s.n < b ∧ s.n ≤ maxLen ∧ ∀ x ∈ m, Q x := by
  have hb := h.len
  obtain ⟨f, U, h1, h2, h3, h4, h5, h6, h7⟩ := h.sl_inv
  have get : ∀ i, i < s.n → ∃ x : α, (∀ j, j < es.length → (enc x)[j]? = some (U i j)) ∧ Q x := fun i hi => inv (U i) fun j sh hj => (h7 i j sh hi hj).mono (by have := sumTo_ge f s.n i hi; omega)
  obtain ⟨g, hg⟩ : ∃ g : Nat → α, ∀ i, i < s.n → (∀ j, j < es.length → (enc (g i))[j]? = some (U i j)) ∧ Q (g i) :=
    ⟨fun i => if hi : i < s.n then (get i hi).choose else default, fun i hi => by simp only [dif_pos hi]; exact (get i hi).choose_spec⟩
  refine ⟨(List.range s.n).map g, ⟨h1, by rw [flat_len hk]; simp, fun hne => ?_⟩, by simp, hb, by omega, fun x hx => ?_⟩
  · have hn : 0 < s.n := by
      rcases Nat.eq_zero_or_pos s.n with e | e
      · rw [e] at hne; exact absurd rfl hne
      · exact e
    obtain ⟨gb, o, ha, hc⟩ := h6 hn
    refine ⟨gb, o, ha, fun j v hv => ?_⟩
    have hj : j < s.n * es.length := by
      have := (List.getElem?_eq_some_iff.1 hv).1
      rwa [flat_len hk, List.length_map, List.length_range] at this
    have hi : j / es.length < s.n := Nat.div_lt_of_lt_mul (by rw [Nat.mul_comm]; exact hj)
    have hr : j % es.length < es.length := Nat.mod_lt _ hpos
    have ej : j = j / es.length * es.length + j % es.length := by rw [Nat.mul_comm]; exact (Nat.div_add_mod j es.length).symm
    rw [ej] at hv ⊢
    rw [flat_at hk _ _ _ hr] at hv
    have hm : ((List.range s.n).map g)[j / es.length]? = some (g (j / es.length)) := by simp [hi]
    rw [hm, Option.bind_some, (hg _ hi).1 _ hr] at hv
    injection hv with hv
    rw [← hv]
    obtain ⟨sh, hsh⟩ : ∃ sh, es[j % es.length]? = some sh := ⟨_, List.getElem?_eq_getElem hr⟩
    exact hc _ _ sh hi hsh
  · obtain ⟨i, hi, rfl⟩ := List.mem_map.1 hx
    exact (hg i (List.mem_range.1 hi)).2
end Go.Proofs.YtechilkjfhpkpaaGreatDoor.Rep

namespace Go.Proofs.YtechilkjfhpkpaaGreatDoor.Utf
open Go Vm Go.RowKit Num Mem
open Go.Lib (VarReads cells_of_tab firstTab firstT accLo accHi array_elem ints_of_struct Utf8Tabs)
theorem utab_of {w : World} (h3 : VarReads Tryz.prog w "unicode/utf8.first" Go.Lib.firstData) (h4 : VarReads Tryz.prog w "unicode/utf8.acceptRanges" Go.Lib.acceptData) : UTab w := by
  refine ⟨fun c hc => ?_, fun i hi => ?_⟩
  · obtain ⟨g, t, cs, fuel, p, hg, hty, hvar, hd⟩ := h3
    obtain rfl := Option.some.inj ((show Tryz.prog.globalNamed "unicode/utf8.first" = some 2 by kernel_rfl).symm.trans hg)
    obtain rfl := Option.some.inj ((show (Tryz.prog.globals[2]?).map (·.type) = some 145 by kernel_rfl).symm.trans hty)
    have hcs := cells_of_tab (e := 5) (n := 256) (by kernel_rfl) (by kernel_rfl) (by kernel_rfl) (by kernel_rfl) hd
    have := World.var?_cell hg hvar c
    rw [this, ← Array.getElem?_toList, hcs]
    simp [firstTab, hc]
  · obtain ⟨g, t, cs, fuel, p, hg, hty, hvar, hd⟩ := h4
    obtain rfl := Option.some.inj ((show Tryz.prog.globalNamed "unicode/utf8.acceptRanges" = some 3 by kernel_rfl).symm.trans hg)
    obtain rfl := Option.some.inj ((show (Tryz.prog.globals[3]?).map (·.type) = some 148 by kernel_rfl).symm.trans hty)
    obtain ⟨fuel', d, q, hdi, he⟩ := array_elem (n := 16) (e := 147) (by kernel_rfl) hd i hi
    simp only [List.getElem?_map, List.getElem?_range hi, Option.map_some, Option.some.injEq] at hdi
    subst hdi
    have hc2 : Tryz.prog.cellsOf 147 = 2 := by kernel_rfl
    rw [hc2] at he
    obtain ⟨f0, f1, hs, hf0, hf1, ho0, ho1⟩ : ∃ f0 f1 : Field, Tryz.prog.underlying 147 = some (.struct #[f0, f1]) ∧ f0.type = 5 ∧ f1.type = 5 ∧ f0.offset = 0 ∧ f1.offset = 1 :=
      ⟨{ name := "lo", type := 5, offset := 0, embedded := false, tag := "", pkgPath := "unicode/utf8", byteOffset := 0 }, { name := "hi", type := 5, offset := 1, embedded := false, tag := "", pkgPath := "unicode/utf8", byteOffset := 1 }, by kernel_rfl, rfl, rfl, rfl, rfl⟩
    have ht5 : Tryz.prog.underlying 5 = some (.int .u8) := by kernel_rfl
    have hc5 : Tryz.prog.cellsOf 5 = 1 := by kernel_rfl
    have hcs := ints_of_struct (k := .u8) hs (fun j f hj => by
      match j, hj with
      | 0, hj => simp at hj; subst hj; rw [hf0]; exact ⟨ht5, ho0, hc5⟩
      | 1, hj => simp at hj; subst hj; rw [hf1]; exact ⟨ht5, ho1, hc5⟩
      | j + 2, hj => simp at hj) (by rw [hc2]; rfl) he
    have e0 := congrArg (·[0]?) hcs
    have e1 := congrArg (·[1]?) hcs
    simp only [List.getElem?_take, List.getElem?_drop] at e0 e1
    constructor
    · rw [World.var?_cell hg hvar (2 * i), ← Array.getElem?_toList]
      simpa [Nat.mul_comm] using e0
    · rw [World.var?_cell hg hvar (2 * i + 1), ← Array.getElem?_toList]
      simpa [Nat.mul_comm] using e1
theorem first_same : (Rows.laid_unicode_utf8_first : DataW Unit) = Go.Lib.firstData := by kernel_rfl
theorem accept_same : (Rows.laid_unicode_utf8_acceptRanges : DataW Unit) = Go.Lib.acceptData := by kernel_rfl
theorem utab_laid {w : World} {l : List (String × DataW Unit)} (h : laidMet Tryz.prog l w) (h1 : ("unicode/utf8.first", Rows.laid_unicode_utf8_first) ∈ l) (h2 : ("unicode/utf8.acceptRanges", Rows.laid_unicode_utf8_acceptRanges) ∈ l) : UTab w :=
  utab_of (by rw [← first_same]; exact Go.Lib.laidMet.reads h h1) (by rw [← accept_same]; exact Go.Lib.laidMet.reads h h2)
end Go.Proofs.YtechilkjfhpkpaaGreatDoor.Utf
namespace Go.Proofs.YtechilkjfhpkpaaGreatDoor.Utf
open Go Vm Go.RowKit Num Mem
theorem own : ownKnob Tryz.prog.godebug = none := by kernel_rfl
noncomputable def utfWorld (w : World) : World :=
  { w with heap := (w.heap.modify 2 fun
      | .cells _ t frozen => .cells (Go.Lib.firstTab.map fun z => Value.int .u8 z).toArray t frozen
      | o => o).modify 3 fun
      | .cells _ t frozen => .cells ((List.range 16).flatMap fun i => [Value.int .u8 (Go.Lib.accLo i), Value.int .u8 (Go.Lib.accHi i)]).toArray t frozen
      | o => o }
end Go.Proofs.YtechilkjfhpkpaaGreatDoor.Utf

namespace Go.Proofs.YtechilkjfhpkpaaGreatDoor.Ru
open Go Vm Go.RowKit Num Mem Utf Lib Lab Rep
abbrev LAID : List (String × DataW Unit) := [("unicode/utf8.acceptRanges", Rows.laid_unicode_utf8_acceptRanges), ("errors.errorType", Rows.laid_errors_errorType), ("tocsin/rules.errWrong", Rows.laid_tocsin_rules_errWrong), ("unicode/utf8.first", Rows.laid_unicode_utf8_first)]
theorem gW : Tryz.prog.globalNamed "tocsin/rules.errWrong" = some 0 := by kernel_rfl
theorem gWType : (Tryz.prog.globals[0]?).map (·.type) = some 77 := by kernel_rfl
theorem cells249 : Tryz.prog.cellsOf 249 = 1 := by kernel_rfl
theorem cells9 : Tryz.prog.cellsOf 9 = 1 := by kernel_rfl
theorem star : "*" ++ "errors.errorString" = "*errors.errorString" := by decide
theorem row228 (u : TypeId) (h : Tryz.prog.typeName? 3 u = some "*errors.errorString") : u = 228 :=
  typeName_ptr_named (nm := "errors.errorString") (by rw [star]; kernel_rfl) (by kernel_rfl) (by decide) u (by rw [star]; exact h)
theorem etG : Tryz.prog.globalNamed "errors.errorType" = some 4 := by kernel_rfl
theorem rtT : (Tryz.prog.cutTypes.find? (·.1 == "internal/reflectlite.rtype")).map (·.2) = some 184 := by kernel_rfl
theorem oneRow : ((List.range 261).filter fun t => Tryz.prog.rowNamed t [101, 114, 114, 111, 114]) = [77] := by kernel_rfl
theorem szT : Tryz.prog.types.size = 261 := by kernel_rfl
theorem split {W : World} (h : laidMetH Tryz.prog LAID W) : laidMet Tryz.prog [("unicode/utf8.acceptRanges", Rows.laid_unicode_utf8_acceptRanges), ("tocsin/rules.errWrong", Rows.laid_tocsin_rules_errWrong), ("unicode/utf8.first", Rows.laid_unicode_utf8_first)] W ∧ handlesMet Tryz.prog [("errors.errorType", Rows.laid_errors_errorType)] W := h
set_option maxRecDepth 100000 in
theorem laid_tabs {W : World} (h : laidMetH Tryz.prog LAID W) : UTab W ∧ ETab W := by
  obtain ⟨h1, h2⟩ := split h
  refine ⟨utab_laid h1 (.tail _ (.tail _ (.head _))) (.head _), ?_, ?_⟩
  · obtain ⟨ps, ⟨gA, tA, csA, fA, pA, qA, _, _, _, _, ⟨g0, t0, cs0, f0, p0, q0, hg0, ht0, hv0, hd0, _, e0⟩, eA⟩, _, hrows⟩ := h1
    obtain rfl := Option.some.inj (gW.symm.trans hg0)
    obtain rfl := Option.some.inj (gWType.symm.trans ht0)
    subst e0
    subst eA
    obtain ⟨l0⟩ := cs0
    have ok0 : ∀ u v, l0 = [.iface u v] → Value.okWide Tryz.prog W .any 0 u v := fun u v e => by
      subst e
      exact (hrows 0 0 (by simp [MemPlace.row])).2 u v (by simpa using World.var?_cell hg0 hv0 0)
    obtain ⟨a0, s0, rfl, hc0, hs0, hz0, _⟩ := errorString_of_trod (tp := 228) (te := 249) (ts := 9) Tryz.underlying77 row228 Tryz.underlying228 Tryz.underlying249 rfl rfl (by kernel_rfl) cells249 cells9 hd0 ok0
    exact ⟨a0, by simpa using World.var?_cell gW hv0 0⟩
  · obtain ⟨name, u, ty, e1, e2, e3, e4, e5⟩ := h2 _ (List.mem_singleton.2 rfl)
    have en : name = [101, 114, 114, 111, 114] := (Option.some.inj e1).symm
    subst en
    obtain rfl := Option.some.inj (rtT.symm.trans e2)
    have hm : ty ∈ (List.range 261).filter fun t => Tryz.prog.rowNamed t [101, 114, 114, 111, 114] := List.mem_filter.2 ⟨List.mem_range.2 (by rw [← szT]; exact e3), e4⟩
    rw [oneRow] at hm
    obtain rfl := List.mem_singleton.1 hm
    have hh : typeHandle Tryz.prog 77 = .pointer (some ⟨6, 77, none⟩) := by kernel_rfl
    rw [hh] at e5
    simpa using World.var?_cell etG e5 0
noncomputable def low : Nat := (World.holding Tryz.prog default ⟨#[], #[], []⟩).heap.size
noncomputable def errWorld (os : Os) : World :=
  let w0 := utfWorld (World.holding Tryz.prog os ⟨#[.cells #[.string ⟨#[99, 97, 110, 32, 110, 111, 116, 32, 98, 101]⟩] 249], #[], []⟩)
  { w0 with heap := (w0.heap.modify 0 fun
      | .cells _ t frozen => .cells #[.iface 228 (.pointer (some ⟨low, 0, none⟩))] t frozen
      | o => o).modify 4 fun
      | .cells _ t frozen => .cells #[.iface 184 (.agg #[.pointer (some ⟨6, 77, none⟩)])] t frozen
      | o => o }
theorem err_met (os : Os) (args : Array Value) : laidMetH Tryz.prog LAID ((errWorld os).forCall (fun _ _ => 0) ⟨#[], args, []⟩).memory :=
  laidMetH_of_parts (laidMet_of_run' 8 (by kernel_rfl) (by kernel_rfl)) (by kernel_rfl)
end Go.Proofs.YtechilkjfhpkpaaGreatDoor.Ru
