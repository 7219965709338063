/- Layer 8: what All tells; every; Last; a chunk that is not there. Own work. -/
import Derived.Test.YtpadehbcjkhegaaDoorChunkB
import Derived.Test.YtpadehbcjkhegaaDoorSeq
namespace Go.Proofs.YtpadehbcjkhegaaDoor.Chunk
open Go Vm Go.RowKit Num Mem Bits Vint
variable {ω ω' : Tg} {w w' w0 : World} {t gc : Nat} {l : List Smp}

/-- A chunk that is only read: its samples. -/
structure CkR (w : World) (c : Option Addr) (sl : Sl) (l : List Smp) : Prop where
  ex : (c = none ∧ l = []) ∨ ∃ gc, c = wp gc ∧ w.cell? ⟨gc, 0, none⟩ = some (Sl.v sl) ∧ Rd w sl 2 (smps l)
  len : l.length ≤ 1000
theorem CkT.r (h : CkT ω w t gc l) : ∃ sl, CkR w (wp gc) sl l := by
  have hlen := h.ok.len
  obtain ⟨gw, sl, hs⟩ := h.ex
  exact ⟨sl, .inr ⟨gc, rfl, by rw [hs.blk.cell]; rfl, hs.own.rd⟩, by omega⟩
theorem CkR.keep {c : Option Addr} {sl : Sl} (h : CkR w c sl l) (k : Keep w w') : CkR w' c sl l :=
  ⟨h.ex.imp_right fun ⟨gc, e, h0, h1⟩ => ⟨gc, e, k.cell h0, h1.keep k⟩, h.len⟩

/-- All's function tells the samples. -/
theorem all_tells {Fc : Clee} {n g : Nat} {c : Option Addr} {sl : Sl} (hF : ∀ args K w, C.chunk_Chunk_All_1.cl args K w → Fc n args K w) :
    Tells Tryd.prog Fc (.func (.func n) #[] #[.pointer (some ⟨g, 0, none⟩)]) (l.map smpC) (fun w => w.cell? ⟨g, 0, none⟩ = some (.pointer c) ∧ CkR w c sl l) := by
  intro L I K w hC hI hy hK h0
  refine hF _ _ _ ?_
  show C.chunk_Chunk_All_1 (.func (.yield L) #[] #[]) (some ⟨g, 0, none⟩) w (C.chunk_Chunk_All_1.Kt fun _ w' => K w')
  unfold C.chunk_Chunk_All_1
  obtain ⟨hb, hc⟩ := hC 0 w h0
  refine ptr_at (cP_at hb ?_)
  rcases hc.ex with ⟨rfl, rfl⟩ | ⟨gc, rfl, e0, e1⟩
  · exact cond_t rfl (hK w h0)
  refine cond_f rfl (ptr_at (cP_at hb (ptr_at (cSl_at e0 ?_))))
  have hn : sl.n = l.length := by have := e1.2.1; rw [smps_len] at this; omega
  have hlen := hc.len
  refine C.chunk_Chunk_All_1.L3_ind fun X hX => ?_
  have rd : ∀ i w, I i w → Rd w sl 2 (smps l) := fun i w h => by
    rcases (hC i w h).2.ex with ⟨e, _⟩ | ⟨gc', e, _, e1⟩
    · cases e
    · exact e1
  have key : ∀ (d i : Nat) (w : World), i + d = l.length → I i w → X (.func (.yield L) #[] #[]) sl ((sl.n : Nat) : Int) (i : Int) w := by
    intro d
    induction d with
    | zero =>
      intro i w hi h
      refine hX _ _ _ _ _ ?_
      unfold C.chunk_Chunk_All_1.S5
      refine cond_d (fun h => by omega) (fun _ => ?_)
      refine hK w ?_
      rw [List.length_map, ← hi]; exact h
    | succ d ih =>
      intro i w hi h
      refine hX _ _ _ _ _ ?_
      unfold C.chunk_Chunk_All_1.S5
      refine cond_d (fun _ => ?_) (fun h => by omega)
      have hx : l[i]? = some l[i] := List.getElem?_eq_getElem (by omega)
      refine rdS_at (rd i w h) (k := i) rfl hx fun a hc0 hc1 => cI_at hc0 <| cF_at hc1 ?_
      refine new_T (ω := fun _ => 0) 7 fun g ω2 w2 k2 b2 => ?_
      refine st_T b2 (by simp) fun ω3 w3 k3 b3 => ?_
      refine st_TA b3 (by simp) fun ω4 w4 k4 b4 => ?_
      refine cI_at (n := l[i].1) (by rw [b4.cell]; rfl) <| cF_at (b := l[i].2) (by rw [addr_add, b4.cell]; rfl) ?_
      have k := ((Top.init w).stp ((k2.non (One 7)).trans (k3.trans k4))).k
      refine hy i (smpC l[i]) w4 _ (by rw [List.getElem?_map, hx]; rfl) (hI _ _ _ h k) (fun w' h' => ?_) (fun w' h' => ?_)
      · refine isB_at (cond_f rfl ?_)
        rw [wI64 (by omega) (by omega), show (i : Int) + 1 = ((i + 1 : Nat) : Int) by omega]
        exact ih (i + 1) w' (by omega) h'
      · exact isB_at (cond_t rfl h')
  exact key l.length 0 w (by omega) h0

theorem take_push {l : List Smp} {i : Nat} (h : i < l.length) : smps (l.take (i + 1)) = smps (l.take i) ++ smpC l[i] := by
  rw [List.take_add_one, List.getElem?_eq_getElem h, smps_app]
  simp [smps]

theorem every_ok {c : Option Addr} {sl : Sl} (h : CkR w0 c sl l) {n : Nat} (hn : 0 < n) {m : Int} (hm : m = (n : Int)) {K : Sl → World → Prop} (hK : ∀ r w', Keep w0 w' → Mem.Own w' w0.heap.size 26 2 r (smps (l.take n)) → K r w') : C.tocsinlaw08_every c m w0 K := by
  subst hm
  unfold C.tocsinlaw08_every
  refine new_T (ω := fun _ => 0) 1 fun g1 ω1 w1 k1 b1 => ?_
  refine new_T (ω := ω1) 4 fun g2 ω2 w2 k2 b2 => ?_
  unfold C.chunk_Chunk_All
  refine new_T (ω := ω2) 1 fun g3 ω3 w3 k3 b3 => ?_
  refine isNilF_no (cond_f rfl ?_)
  unfold C.tocsinlaw08_every.S9 C.tocsinlaw08_every.R5
  have top3 := (Top.init w0).stp ((k1.trans k2).trans k3)
  have hlen := h.len
  refine range_ok (T := Duo 2 4) (u := 3) (J := fun i ω w => i ≤ n ∧ (i < n ∨ i = 0) ∧ Top w0 ω w ∧ BT ω w 1 g1 3 [.int .i64 (n : Int)] ∧ BT ω w 1 g3 32 [.pointer c] ∧ ∃ s, BT ω w 4 g2 24 [Sl.v s] ∧ OS ω w 2 s (l.take i))
    (E := fun e ω w => e = .exit 0 ∧ Top w0 ω w ∧ ∃ s, BT ω w 4 g2 24 [Sl.v s] ∧ OS ω w 2 s (l.take n))
    (all_tells (l := l) (c := c) (sl := sl) (g := g3) fun _ _ _ h => h) rfl ?_ ?_ ?_ ?_ ⟨Nat.zero_le _, .inr rfl, top3, (b1.stp k2).stp k3, b3, nilS, b2.stp k3, ?_⟩ ?_ ?_
  · rintro i ω w ⟨_, _, top, _, b, _⟩
    exact ⟨by rw [b.cell]; rfl, h.keep top.k⟩
  · rintro i ω ω' w w' ⟨a1, a2, top, x1, x3, s, x2, o⟩ k
    exact ⟨a1, a2, top.stp k, x1.stp k, x3.stp k, s, x2.stp k, o.stp k⟩
  · rintro e ω ω' w w' ⟨a1, top, s, x2, o⟩ k
    exact ⟨a1, top.stp k, s, x2.stp k, o.stp k⟩
  · rintro i a ω w Rr ha ⟨a1, a2, top, x1, x3, s, x2, o⟩ hR hRx
    have hil : i < l.length := by
      have := (List.getElem?_eq_some_iff.1 ha).1
      rwa [List.length_map] at this
    obtain rfl : a = smpC l[i] := by
      rw [List.getElem?_map, List.getElem?_eq_getElem hil] at ha
      exact (Option.some.inj ha).symm
    show C.tocsinlaw08_every.S7 Rr _ _ l[i].1 l[i].2 w
    unfold C.tocsinlaw08_every.S7
    have hsn := o.len
    rw [List.length_take, Nat.min_eq_left (by omega)] at hsn
    refine ptr_at (cSl_at (by rw [x2.cell]; rfl) ?_)
    refine push_T tiS o (n := 1) rfl (by intro v hv; simp at hv; rcases hv with rfl | rfl <;> rfl) (by simp only [maxLen]; omega) (by omega) fun r ω4 w4 k4 o4 hr => ?_
    refine ptr_at (st_T (x2.stp k4) (by simp) fun ω5 w5 k5 b5 => ?_)
    refine ptr_at (cSl_at (s := r) (by rw [b5.cell]; rfl) ?_)
    have x1' := (x1.stp k4).stp k5
    refine ptr_at (cI_at (by rw [x1'.cell]; rfl) ?_)
    have s5 : Stp (Duo 2 4) ω ω5 w w5 := k4.one.trans k5.two
    have o5 : OS ω5 w5 2 r (l.take (i + 1)) := by
      rw [OS, take_push hil]
      exact o4.stp k5
    refine cond_d (fun hge => ?_) (fun hlt => ?_)
    · refine hRx (.exit 0) _ ω5 w5 rfl s5 ⟨rfl, top.stp s5, r, b5, ?_⟩
      rwa [show n = i + 1 by omega]
    · exact hR ω5 w5 s5 ⟨by omega, .inl (by omega), top.stp s5, x1', x3.stp s5, r, b5, o5⟩
  · exact OT.nil _ _ _ _ _
  · rintro ω' w' D hd hu ⟨a1, a2, top, x1, x3, s, x2, o⟩
    show C.tocsinlaw08_every.S2 K _ (pushMark undef D) w'
    unfold C.tocsinlaw08_every.S2
    refine ptr_at (cSl_at (by rw [x2.cell]; rfl) (marks_at hd ?_))
    have k := put_stp (w := w') (o := .deferred none) hu
    have top' := top.stp k
    rw [List.length_map, List.take_length] at o
    refine hK s _ top'.k ?_
    rw [List.length_map] at a1
    rw [List.take_of_length_le a1]
    exact (o.stp k).from top' (by decide)
  · rintro e ω' w' D hd hu ⟨rfl, top, s, x2, o⟩
    unfold C.tocsinlaw08_every.O_R5
    refine bif_t ?_
    unfold C.tocsinlaw08_every.S2
    refine ptr_at (cSl_at (by rw [x2.cell]; rfl) (marks_at hd ?_))
    have k := put_stp (w := w') (o := .deferred none) hu
    have top' := top.stp k
    exact hK s _ top'.k ((o.stp k).from top' (by decide))

/-! ## Last -/
theorem lenC_ok {c : Option Addr} {sl : Sl} (h : CkR w c sl l) {K : Int → World → Prop} (hK : K (l.length : Int) w) : C.chunk_Chunk_Len c w K := by
  unfold C.chunk_Chunk_Len
  rcases h.ex with ⟨rfl, rfl⟩ | ⟨gc, rfl, e0, e1⟩
  · exact cond_t rfl hK
  · refine cond_f rfl (ptr_at (cSl_at e0 ?_))
    have hn : sl.n = l.length := by have := e1.2.1; rw [smps_len] at this; omega
    rw [hn]; exact hK
def lastS (l : List Smp) : Smp := (l.getLast?).getD (0, 0)
theorem last_ok {c : Option Addr} {sl : Sl} (h : CkR w c sl l) {K : Int → Nat → Bool → World → Prop} (hK : ∀ w', Keep w w' → K (lastS l).1 (lastS l).2 (decide (0 < l.length)) w') : C.chunk_Chunk_Last c w K := by
  unfold C.chunk_Chunk_Last
  refine new_T (ω := fun _ => 0) 1 fun g ω1 w1 k1 b1 => ?_
  have top1 := (Top.init w).stp k1
  have h1 := h.keep top1.k
  have hlen := h.len
  refine lenC_ok h1 ?_
  refine cond_eq (fun hz => ?_) (fun hz => ?_)
  · have : l = [] := List.eq_nil_of_length_eq_zero (by omega)
    subst this
    refine st_T b1 (by simp) fun ω2 w2 k2 b2 => ?_
    refine st_TA b2 (by simp) fun ω3 w3 k3 b3 => ?_
    refine cI_at (by rw [b3.cell]; rfl) <| cF_at (by rw [addr_add, b3.cell]; rfl) ?_
    exact hK w3 ((top1.stp k2).stp k3).k
  · rcases h1.ex with ⟨rfl, rfl⟩ | ⟨gc, rfl, e0, e1⟩
    · exact absurd rfl hz
    obtain ⟨a, ha⟩ : ∃ a, l[l.length - 1]? = some a := ⟨_, List.getElem?_eq_getElem (by omega)⟩
    have hlast : lastS l = a := by unfold lastS; rw [List.getLast?_eq_getElem?, ha]; rfl
    have hn : sl.n = l.length := by have := e1.2.1; rw [smps_len] at this; omega
    have kd := drew_stp ω1 w1
    have ed := (h1.keep (Keep.drew w1))
    have b1' := b1.stp kd
    refine ptr_at (cSl_at (kd.keep.cell e0) (ptr_at (cSl_at (kd.keep.cell e0) ?_)))
    refine rdS_at (e1.keep kd.keep) (k := l.length - 1) (by rw [hn, wI64 (by omega) (by omega)]; omega) ha fun p hc0 hc1 => cI_at hc0 <| cF_at hc1 ?_
    refine st_T b1' (by simp) fun ω2 w2 k2 b2 => ?_
    refine st_TA b2 (by simp) fun ω3 w3 k3 b3 => ?_
    refine cI_at (n := a.1) (by rw [b3.cell]; rfl) <| cF_at (b := a.2) (by rw [addr_add, b3.cell]; rfl) ?_
    have := hK w3 (((top1.stp kd).stp k2).stp k3).k
    rw [hlast, decide_eq_true (by omega)] at this
    exact this

/-! ## A chunk that is not there -/
theorem ckr_none (w : World) : CkR w none nilS [] := ⟨.inl ⟨rfl, rfl⟩, by decide⟩
theorem nil_law (hT : DTab w0) {t : Int} {v : Nat} {K : Bool → World → Prop} (hK : ∀ w', Keep w0 w' → K true w') : C.tocsinlaw08_ChunkNil t v w0 K := by
  unfold C.tocsinlaw08_ChunkNil
  refine last_ok (ckr_none w0) fun w1 k1 => ?_
  have top1 : Top w0 (fun _ => 0) w1 := ⟨k1, fun _ _ => rfl⟩
  refine new_T (ω := fun _ => 0) 1 fun g ω2 w2 k2 b2 => ?_
  refine st_T b2 (by simp) fun ω3 w3 k3 b3 => ?_
  refine st_TA b3 (by simp) fun ω4 w4 k4 b4 => ?_
  have top4 := ((top1.stp k2).stp k3).stp k4
  unfold C.chunk_Chunk_Append
  refine cond_t rfl (cond_t rfl ?_)
  refine lenC_ok (ckr_none w4) (cond_t rfl (cond_t rfl ?_))
  refine cI_at (n := 0) (by rw [b4.cell]; rfl) <| cF_at (b := 0) (by rw [addr_add, b4.cell]; rfl) ?_
  refine cond_t (by decide +kernel) ?_
  unfold C.chunk_Chunk_Bytes
  refine cond_t rfl (cond_t rfl ?_)
  refine every_ok (ckr_none w4) (n := 1) (by decide) rfl fun r w5 k5 o5 => ?_
  have hr : r.n = 0 := by have := o5.1; simp [smps] at this; omega
  rw [hr]
  refine cond_t rfl ?_
  have k05 := Keep.trans top4.k k5
  exact awake_ok (hT.keep k05) fun w6 k6 => hK w6 (Keep.trans k05 k6)
end Go.Proofs.YtpadehbcjkhegaaDoor.Chunk
