/- Ranges over functions: what a sequence tells, and one law for all loops over one. Own work. -/
import Derived.Test.YtfkpehcbijgmnaaGreatDoorTag
namespace Go.Proofs.YtfkpehcbijgmnaaGreatDoor.Mem
open Go Vm Go.RowKit Num
variable {T : Nat → Bool} {ω ω' : Tg} {w w' w0 : World} {t : Nat}

/-- A store of a whole object. -/
theorem put_stp {g : Nat} {o : Obj} (ht : ω g = t) : Stp (One t) ω ω w (w.putObj g o) :=
  ⟨rfl, rfl, rfl, by simp [World.putObj], fun _ _ => rfl, fun k _ hT => World.putObj_heap_other fun e => by subst e; rw [ht, one_self] at hT; cases hT⟩
theorem Stp.obj (s : Stp T ω ω' w w') {g : Nat} {o : Obj} (h : w.heap[g]? = some o) (ht : ω g = t) (ne : T t = false) : w'.heap[g]? = some o ∧ ω' g = t :=
  ⟨by rw [s.block g (heap_lt h) (by rw [ht]; exact ne)]; exact h, (s.same g (heap_lt h)).trans ht⟩
theorem isB_at {b : Bool} {K : Bool → Prop} (h : K b) : G.isB (.bool b) K := h
theorem isNilF_no {f : Fn} {a b : Array Value} {K : Bool → Prop} (h : K false) : G.isNilF (.func f a b) K := h
theorem marks_at {D : Nat} {w : World} {K : World → Prop} (h : w.heap[D]? = some (.deferred (some []))) (hK : K (w.putObj D (.deferred none))) : G.marks (pushMark undef D) w K := by
  show G.marks (.agg ⟨[.int .i64 (D : Int)]⟩) w K
  exact ⟨h, hK⟩
theorem bif_t {i : Nat} {X Y : Prop} (h : X) : bif Nat.beq i i then X else Y := by
  have : Nat.beq i i = true := by simp
  rw [this]; exact h
/-- What is not of tag 0 is new. -/
theorem OT.from {e : TypeId} {sz : Nat} {s : Sl} {xs : List Value} (h : OT ω w t e sz s xs) (top : Top w0 ω w) (ht : t ≠ 0) : Own w w0.heap.size e sz s xs := by
  obtain ⟨hl, ho⟩ := h.own
  refine ⟨hl, ho.imp_right fun ⟨g, cap, cur, hv, hg, r⟩ => ⟨g, cap, cur, hv, ?_, r⟩⟩
  have := h.tag g (by rw [hv]; rfl)
  rcases Nat.lt_or_ge g w0.heap.size with hlt | hge
  · exact absurd (this.symm.trans (top.z g hlt)) ht
  · exact hge

/-- The sequence v tells xs, one after another, wherever C holds. -/
def Tells (P : Program) (Fc : Clee) (v : Value) (xs : List (List Value)) (C : World → Prop) : Prop :=
  match v with
  | .func (.func n) first cap => ∀ (L : Nat) (I : Nat → World → Prop) (K : World → Prop) (w : World),
      (∀ i w, I i w → C w) → (∀ i w w', I i w → Keep w w' → I i w') →
      (∀ i a w R, xs[i]? = some a → I i w → (∀ w', I (i + 1) w' → R (.bool true) w') → (∀ w', K w' → R (.bool false) w') → G.yieldAt P L a w R) →
      (∀ w, I xs.length w → K w) → I 0 w → Fc n (first.toList ++ [.func (.yield L) #[] #[]] ++ cap.toList) (fun _ w' => K w') w
  | _ => False

/-- A loop over a sequence: J holds ahead of round i, E behind a round that leaves the loop; u is the tag of the loop's own objects. -/
theorem range_ok {P : Program} {Fc : Clee} {v : Value} {xs : List (List Value)} {C : World → Prop} {B : List Value → World → (Exit → World → Prop) → Prop} {K : Exit → Nat → World → Prop} {u : Nat}
    {J : Nat → Tg → World → Prop} {E : Exit → Tg → World → Prop} (hv : Tells P Fc v xs C) (hT : T u = false) (hC : ∀ i ω w, J i ω w → C w)
    (hJ : ∀ i ω ω' w w', J i ω w → Stp (One u) ω ω' w w' → J i ω' w') (hE : ∀ e ω ω' w w', E e ω w → Stp (One u) ω ω' w w' → E e ω' w')
    (hB : ∀ i a ω w Rr, xs[i]? = some a → J i ω w → (∀ ω' w', Stp T ω ω' w w' → J (i + 1) ω' w' → Rr .normal w') → (∀ e j ω' w', jump e = some (some j) → Stp T ω ω' w w' → E e ω' w' → Rr e w') → B a w Rr)
    (h0 : J 0 ω w)
    (hK : ∀ ω' w' D, w'.heap[D]? = some (.deferred (some [])) → ω' D = u → J xs.length ω' w' → K .normal D w')
    (hX : ∀ e ω' w' D, w'.heap[D]? = some (.deferred (some [])) → ω' D = u → E e ω' w' → K e D w') : G.rangeF Fc v P B w K := by
  unfold Tells at hv
  split at hv
  case h_2 => exact hv.elim
  rename_i n first cap
  intro rec hcells hY
  obtain ⟨w1, ew1⟩ : ∃ w1, w1 = (w.alloc (.deferred (some []))).alloc (rec .ready none) := ⟨_, rfl⟩
  have s1 : Stp (One u) ω (ext (ext ω w.heap.size u) (w.alloc (.deferred (some []))).heap.size u) w w1 := by
    rw [ew1]
    exact (((Keep.alloc w _).stp ω u).trans ((Keep.alloc _ _).stp _ u)).non _
  have hLn : (w.alloc (.deferred (some []))).heap.size = w.heap.size + 1 := World.size_alloc ..
  have hL : w1.heap[w.heap.size + 1]? = some (rec .ready none) := by
    have := World.alloc_heap_new (w.alloc (.deferred (some []))) (rec .ready none)
    rw [hLn] at this; rw [ew1]; exact this
  have hD : w1.heap[w.heap.size]? = some (.deferred (some [])) := by
    have h1 := World.alloc_heap_new w (.deferred (some []))
    rw [ew1]
    exact (Keep.alloc _ _).heap h1
  show Fc n (first.toList ++ [.func (.yield (w.heap.size + 1)) #[] #[]] ++ cap.toList) _ ((w.alloc (.deferred (some []))).alloc (rec .ready none))
  rw [← ew1]
  have hu : ext (ext ω w.heap.size u) (w.alloc (.deferred (some []))).heap.size u (w.heap.size + 1) = u := ext_new (by omega)
  have hud : ext (ext ω w.heap.size u) (w.alloc (.deferred (some []))).heap.size u w.heap.size = u := by rw [ext_old (by omega), ext_new (Nat.le_refl _)]
  generalize ext (ext ω w.heap.size u) (w.alloc (.deferred (some []))).heap.size u = ω1 at s1 hu hud
  have j1 := hJ _ _ _ _ _ h0 s1
  have hne : w.heap.size ≠ w.heap.size + 1 := by omega
  clear ew1 s1 hLn h0
  generalize w.heap.size + 1 = L at *
  generalize w.heap.size = D at *
  refine hv L (fun i w => ∃ ω, J i ω w ∧ w.heap[L]? = some (rec .ready none) ∧ ω L = u ∧ w.heap[D]? = some (.deferred (some [])) ∧ ω D = u) _ w1 ?_ ?_ ?_ ?_ ⟨ω1, j1, hL, hu, hD, hud⟩
  · rintro i w ⟨ω, h, _⟩; exact hC i ω w h
  · rintro i w w' ⟨ω, h, hl, hlu, hd, hdu⟩ k
    have s := (k.stp ω u)
    exact ⟨_, hJ _ _ _ _ _ h (s.non _), (s.obj hl hlu rfl).1, (s.obj hl hlu rfl).2, (s.obj hd hdu rfl).1, (s.obj hd hdu rfl).2⟩
  · rintro i a w R ha ⟨ω, h, hl, hlu, hd, hdu⟩ hR hRx
    refine hY a w R hl ?_
    have sp := put_stp (w := w) (o := rec .busy none) hlu
    refine hB i a ω _ _ ha (hJ _ _ _ _ _ h sp) (fun ω' w' s j' => ?_) (fun e j ω' w' hj s j' => ?_)
    · have hb := World.putObj_heap_same (o := rec .busy none) (heap_lt hl)
      obtain ⟨hb', hu'⟩ := s.obj hb hlu hT
      have hd0 : (w.putObj L (rec .busy none)).heap[D]? = some (.deferred (some [])) := by rw [World.putObj_heap_other hne]; exact hd
      obtain ⟨hd', hdu'⟩ := s.obj hd0 hdu hT
      have sp2 := put_stp (w := w') (o := rec .ready none) hu'
      refine ⟨hb', none, rfl, hR _ ⟨ω', hJ _ _ _ _ _ j' sp2, World.putObj_heap_same (heap_lt hb'), hu', ?_, hdu'⟩⟩
      show (w'.putObj L (rec .ready none)).heap[D]? = _
      rw [World.putObj_heap_other hne]; exact hd'
    · have hb := World.putObj_heap_same (o := rec .busy none) (heap_lt hl)
      obtain ⟨hb', hu'⟩ := s.obj hb hlu hT
      have hd0 : (w.putObj L (rec .busy none)).heap[D]? = some (.deferred (some [])) := by rw [World.putObj_heap_other hne]; exact hd
      obtain ⟨hd', hdu'⟩ := s.obj hd0 hdu hT
      have sp2 := put_stp (w := w') (o := rec .done (some j)) hu'
      refine ⟨hb', some j, hj, hRx _ ?_⟩
      refine ⟨.done, e, some j, hj, (by intro h; cases h), World.putObj_heap_same (heap_lt hb'), ?_⟩
      have sp3 := put_stp (w := w'.putObj L (rec .done (some j))) (o := rec .exhausted (some j)) hu'
      refine hX e ω' _ D ?_ hdu' (hE _ _ _ _ _ (hE _ _ _ _ _ j' sp2) sp3)
      rw [World.putObj_heap_other hne, World.putObj_heap_other hne]; exact hd'
  · rintro w ⟨ω, h, hl, hlu, hd, hdu⟩
    refine ⟨.ready, .normal, none, rfl, (by intro h; cases h), hl, hK ω _ D ?_ hdu (hJ _ _ _ _ _ h (put_stp hlu))⟩
    rw [World.putObj_heap_other hne]; exact hd
end Go.Proofs.YtfkpehcbijgmnaaGreatDoor.Mem
