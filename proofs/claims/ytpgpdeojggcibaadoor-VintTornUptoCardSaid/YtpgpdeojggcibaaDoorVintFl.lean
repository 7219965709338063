/- Layer 1: the contract of VintFrames. Own work. -/
import Derived.Test.YtpgpdeojggcibaaDoorVintFr
namespace Go.Proofs.YtpgpdeojggcibaaDoor.Vint
open Go Vm Go.RowKit Num Mem Crc

theorem spoil_keep {w0 w : World} {B : Nat} {b : Sl} {l : List UInt8} (ho : OwnB w B b l) (k : Keep w0 w) (hB : w0.heap.size ≤ B) (hl : l.length ≤ 140737488300000) {K : World → Prop}
    (hK : ∀ w', Keep w0 w' → Turn b.v.ownBlock w w' → K w') : C.tocsinref01_Spoil b w K := by
  refine spoil_ok (Own.mono ho hB) k.size hl fun w' t => hK w' (Turn.below k t k.size fun g hg => ?_) t
  have := (Own.ge ho hg).1
  omega

def pf (l m : List UInt8) : List UInt8 × Nat := if m.length > 65536 then ([], 4) else (l ++ frameOf m, 0)
theorem frameOf_len {m : List UInt8} (h : m.length ≤ 65536) : (frameOf m).length ≤ m.length + 14 := by
  have := putU_len64 (n := m.length) (by omega)
  simp [frameOf, le4]; omega
theorem pf_len (l m : List UInt8) : (pf l m).1.length ≤ l.length + 65550 := by
  unfold pf; split
  · simp
  · have := frameOf_len (m := m) (by omega)
    simp only [List.length_append]; omega
theorem pf_ok {w : World} {b p : Sl} {l m : List UInt8} (ht : Tab w) (hb : RdB w b l) (hp : RdB w p m) (hl : l.length ≤ 140737488000000) {K : Sl → Int → World → Prop}
    (hK : ∀ r w', Keep w w' → OwnB w' w.heap.size r (pf l m).1 → K r ((pf l m).2 : Int) w') : C.vint_PutFrame b p w K := by
  unfold pf at hK
  refine putFrame_ok ht hb hp hl (fun h => ?_) (fun h r w' k o => ?_)
  · rw [if_pos h] at hK; exact hK nilS w (Keep.refl w) (OwnB.nil _ _)
  · rw [if_neg (by omega)] at hK; exact hK r w' k o
theorem rpf_ok {w : World} {b p : Sl} {l m : List UInt8} (hb : RdB w b l) (hp : RdB w p m) (hl : l.length ≤ 140737488000000) {K : Sl → Int → World → Prop}
    (hK : ∀ r w', Keep w w' → OwnB w' w.heap.size r (pf l m).1 → K r ((pf l m).2 : Int) w') : C.tocsinref01_PutFrame b p w K := by
  unfold pf at hK
  refine rputFrame_ok hb hp hl (fun h => ?_) (fun h r w' k o => ?_)
  · rw [if_pos h] at hK; exact hK nilS w (Keep.refl w) (OwnB.nil _ _)
  · rw [if_neg (by omega)] at hK; exact hK r w' k o

theorem frames_law {w : World} (ht : Tab w) {b q : Sl} {l m : List UInt8} {p : Int} (hb : RdB w b l) (hq : RdB w q m) (hl : l.length ≤ 5864062000000) (hm : m.length ≤ 5864062000000)
    {K : Bool → World → Prop} (hK : ∀ w', Keep w w' → K true w') : C.tocsinlaw01_VintFrames b q p w K := by
  unfold C.tocsinlaw01_VintFrames
  have hpl := pf_len l m
  refine lent_ok hb (by omega) fun own wa ka oa => ?_
  refine lent_ok (hq.keep ka) (by omega) fun qq w2 kb oq => ?_
  have k2 := Keep.trans ka kb
  have ow := oa.keep kb
  have ht2 := ht.keep k2
  have hb2 := hb.keep k2
  have hq2 := hq.keep k2
  have hown : w.heap.size ≤ w2.heap.size := k2.size
  refine pf_ok ht2 ow.rd oq.rd (by omega) fun x w3 k3 ox => ?_
  refine rpf_ok (hb2.keep k3) (hq2.keep k3) (by omega) fun y w4 k4 oy => ?_
  have k24 := Keep.trans k3 k4
  refine same_yes (Own.keep ox k4).rd oy.rd (by omega) fun d => ?_
  refine cond_f (by rfl) ?_
  refine cond_f (by simp) ?_
  refine kept_ok (oq.keep (Keep.trans k24 (Keep.drewN w4 d))) (hq2.keep (Keep.trans k24 (Keep.drewN w4 d))) (by omega) fun d2 => ?_
  refine cond_f (by rfl) ?_
  rw [World.drewN_drewN]
  refine spoil_keep (Own.keep ox (Keep.trans k4 (Keep.drewN w4 (d + d2)))) (Keep.trans k24 (Keep.drewN w4 (d + d2))) (Nat.le_refl _) (by omega) fun w5 k25 _ => ?_
  have hfl := fr_len l p
  refine frame_ok (ht2.keep k25) (ow.keep k25).rd (by omega) p fun c w6 k6 oc => ?_
  refine rframe_ok (hb2.keep (Keep.trans k25 k6)) (by omega) p fun c' w7 k7 oc' => ?_
  refine same_yes (Own.keep oc k7).rd oc'.rd (by omega) fun d3 => ?_
  refine cond_f (by rfl) <| cond_f (by simp) <| cond_f (by simp) ?_
  have k57 := Keep.trans (Keep.trans k6 k7) (Keep.drewN w7 d3)
  refine spoil_keep (Own.keep oc (Keep.trans k7 (Keep.drewN w7 d3))) k57 (Nat.le_refl _) (by omega) fun w8 k58 _ => ?_
  have k28 := Keep.trans k25 k58
  have hfsl := frs_len l l.length 0
  have hfse := frs_each l l.length 0
  refine frames_ok (ht2.keep k28) (ow.keep k28).rd (by omega) fun i rs w9 k9 oi => ?_
  refine rframes_ok (hb2.keep (Keep.trans k28 k9)) (by omega) fun j rs' wA kA oj => ?_
  refine sameAll_yes (oi.keep kA).rd oj.rd (by omega) (fun m' h' => by have := hfse m' h'; omega) fun d4 => ?_
  refine cond_f (by rfl) <| cond_f (by simp) <| cond_f (by simp) ?_
  have k9B := Keep.trans kA (Keep.drewN wA d4)
  have oB := oi.keep k9B
  have k8B := Keep.trans k9 k9B
  have hin := oi.rd.n
  unfold C.tocsinlaw01_VintFrames.S9
  refine C.tocsinlaw01_VintFrames.L5_ind fun X hX => ?_
  have key : ∀ (e z : Nat) (w' : World), e + z = (frs l l.length 0).1.length → Keep w8 w' → Own w' w8.heap.size 22 1 i (hdrs rs) →
      (∀ (n : Nat) (r : Sl) (m : List UInt8), z ≤ n → rs[n]? = some r → (frs l l.length 0).1[n]? = some m → OwnB w' w8.heap.size r m) → X b own i (z : Int) w' := by
    intro e
    induction e with
    | zero =>
      intro z w' hz k hh he
      refine hX _ _ _ _ _ ?_
      unfold C.tocsinlaw01_VintFrames.S7 C.tocsinlaw01_VintFrames.S2
      refine cond_d (fun h => by omega) (fun _ => ?_)
      have k2' := Keep.trans k28 k
      refine kept_ok (ow.keep k2') (hb2.keep k2') (by omega) fun d5 => ?_
      refine cond_t rfl ?_
      have k9 := Keep.trans k2' (Keep.drewN w' d5)
      exact known_ok (ht2.keep k9) fun w'' k' => hK w'' (Keep.trans k2 (Keep.trans k9 k'))
    | succ e ih =>
      intro z w' hz k hh he
      have hz' : z < (frs l l.length 0).1.length := by omega
      obtain ⟨r, e1, _⟩ := oi.rd.get hz'
      refine hX _ _ _ _ _ ?_
      unfold C.tocsinlaw01_VintFrames.S7
      refine cond_d (fun _ => ?_) (fun h => by omega)
      refine Rd.hdr (Own.rd hh) e1 ?_
      have hr := he z r _ (Nat.le_refl _) e1 (List.getElem?_eq_getElem hz')
      refine spoil_keep hr k (Nat.le_refl _) (by have := hfse _ (List.getElem_mem hz'); omega) fun w2 kk tt => ?_
      rw [wI64 (by omega) (by omega)]
      refine ih (z + 1) w2 (by omega) kk (Own.turn hh tt fun g hg hg' => oi.ne z r e1 g hg' hg) fun n r' m' hn h1 h2 => ?_
      exact Own.turn (he n r' m' (by omega) h1 h2) tt fun g hg hg' => oi.apart z n r r' (by omega) e1 h1 g hg hg'
  refine key _ 0 _ (by omega) k8B oB.hdr fun n r m' _ h1 h2 => oB.el n r m' h1 h2
end Go.Proofs.YtpgpdeojggcibaaDoor.Vint
