/- Layer 7 (wal): checkpoints read; Open. Own work. -/
import Derived.Test.YtdaghggdmgbpnaaDoorWlD
namespace Go.Proofs.YtdaghggdmgbpnaaDoor.Wl
open Go Vm Go.RowKit Num Mem Dk Wo Vint Crc
variable {ω ω' : Tg} {w w' w0 : World} {T : Nat → Bool} {t u gl gd room at' : Nat} {name : ByteArray} {sl : Sl} {pl : List Pc} {M : List Fl}

def ckR (r : List UInt8) : List UInt8 := putU r.length ++ r
def ckP (first : Nat) (rs : List (List UInt8)) : List UInt8 := putU first ++ (putU rs.length ++ rs.flatMap ckR)
def ckB (first : Nat) (rs : List (List UInt8)) : List UInt8 := frameOf (ckP first rs)
theorem ckR_le {rs : List (List UInt8)} : rs.length ≤ (rs.flatMap ckR).length ∧ ∀ r ∈ rs, r.length ≤ (rs.flatMap ckR).length := by
  induction rs with
  | nil => simp
  | cons r rs ih =>
    have := putU_pos r.length
    simp only [List.flatMap_cons, ckR, List.length_append, List.length_cons] at ih ⊢
    refine ⟨by omega, fun x hx => ?_⟩
    rcases List.mem_cons.1 hx with rfl | hx
    · omega
    · have := ih.2 x hx; omega
theorem fr_frame (m : List UInt8) (hm : m.length ≤ 65536) : fr (frameOf m) 0 = (m, (frameOf m).length, 0) := by
  have := fr_at [] m [] (crcOn 0#32 m) hm
  simp only [List.nil_append, List.append_nil, List.length_nil] at this
  have e : frameOf m = putU m.length ++ (le4 (crcOn 0#32 m) ++ m) := rfl
  rw [e]
  have h4 : (le4 (crcOn 0#32 m)).length = 4 := rfl
  have h0 : ((0 : Nat) : Int) = 0 := rfl
  rw [h0] at this
  rw [this, if_pos trivial]
  simp only [List.length_append, h4]
  refine Prod.ext rfl (Prod.ext ?_ rfl)
  simp only; omega
theorem checkpoint_ok {b : Sl} {first : Nat} {rs : List (List UInt8)} (htab : Tab w) (hb : RdB w b (ckB first rs)) (h1 : 1 ≤ first) (h2 : first ≤ 99999999) (hP : (ckP first rs).length ≤ 65536) (ω : Tg) (t : Nat) {K : Int → Sl → Bool → World → Prop}
    (hK : ∀ s (ps : List Pc) ω' w', Stp (Mem.One (t + 1)) ω ω' w w' → OT ω' w' (t + 1) 31 1 s (hds ps) → ps.map (·.1) = rs → (∀ p ∈ ps, RT ω' w' (t + 2) p.2 1 (vBs p.1)) → K (first : Int) s true w') : C.wal_checkpoint b w K := by
  have hbn := hb.len
  have hfl := frameOf_len hP
  have hbl : (ckB first rs).length ≤ 65550 := by show (frameOf _).length ≤ _; omega
  unfold C.wal_checkpoint
  refine frame_ok htab hb (by omega) 0 fun p w1 k1 o1 => ?_
  rw [show fr (ckB first rs) 0 = _ from fr_frame _ hP] at o1 ⊢
  have hp : RdB w1 p (ckP first rs) := o1.rd
  have hpn := hp.len
  refine cond_f rfl <| cond_f (by have : ((ckB first rs).length : Int) = ((b.n : Nat) : Int) := by omega
                                  rw [show (frameOf (ckP first rs)).length = (ckB first rs).length from rfl, this]; simp) ?_
  have hrl := ckR_le (rs := rs)
  have hPl : (ckP first rs).length = (putU first).length + ((putU rs.length).length + (rs.flatMap ckR).length) := by simp [ckP]
  have u1 := uv_put [] (putU rs.length ++ rs.flatMap ckR) (n := first) (by omega)
  rw [List.nil_append] at u1
  have e1 : uv (ckP first rs) 0 = (first, (putU first).length, 0) := by
    have h0 : (([] : List UInt8).length : Int) = 0 := rfl
    rw [h0] at u1
    rw [show ckP first rs = putU first ++ (putU rs.length ++ rs.flatMap ckR) from rfl, u1]; simp
  refine u_ok hp (by omega) 0 ?_
  rw [e1]
  refine cond_f rfl <| cond_d (fun hh => by omega) fun _ => cond_d (fun hh => by omega) fun _ => ?_
  have e2 : uv (ckP first rs) (((putU first).length : Nat) : Int) = (rs.length, (putU first).length + (putU rs.length).length, 0) := uv_put (putU first) (rs.flatMap ckR) (n := rs.length) (by omega)
  refine u_ok hp (by omega) _ ?_
  rw [e2]
  refine cond_f rfl ?_
  unfold C.wal_checkpoint.S9
  refine C.wal_checkpoint.L5_ind fun X hX => ?_
  have s1 := k1.stp ω t
  have pt := OT.rt (Own.tag o1 (Nat.le_refl _) ω t)
  generalize ext ω w.heap.size t = ω1 at *
  have key : ∀ (qs : List (List UInt8)) (A : List UInt8) (i : Nat) (s : Sl) (ps : List Pc) (ω2 : Tg) (w2 : World), ckP first rs = A ++ qs.flatMap ckR → i + qs.length = rs.length → ps.length = i → RT ω2 w2 t p 1 (vBs (ckP first rs)) → Stp (Mem.One (t + 1)) ω1 ω2 w1 w2 → OT ω2 w2 (t + 1) 31 1 s (hds ps) →
      ps.map (·.1) ++ qs = rs → (∀ p ∈ ps, RT ω2 w2 (t + 2) p.2 1 (vBs p.1)) → X p (first : Int) ((A.length : Nat) : Int) s ((rs.length : Nat) : Int) (i : Int) w2 := by
    intro qs
    induction qs with
    | nil =>
      intro A i s ps ω2 w2 e hi hpi kk sp o hps hrt
      refine hX _ _ _ _ _ _ _ ?_
      unfold C.wal_checkpoint.S7 C.wal_checkpoint.S2
      rw [List.flatMap_nil, List.append_nil] at e
      rw [List.append_nil] at hps
      simp only [List.length_nil] at hi
      refine cond_d (fun hh => by omega) (fun _ => ?_)
      rw [wI64 (by omega) (by omega)]
      have eb : (((A.length : Nat) : Int) == ((p.n : Nat) : Int)) = true := by rw [hpn, e]; simp
      rw [eb]
      exact hK s ps ω2 w2 ((s1.non _).trans sp) o hps hrt
    | cons q qs ih =>
      intro A i s ps ω2 w2 e hi hpi kk sp o hps hrt
      refine hX _ _ _ _ _ _ _ ?_
      unfold C.wal_checkpoint.S7
      simp only [List.length_cons] at hi
      refine cond_d (fun _ => ?_) (fun hh => by omega)
      have eP : ckP first rs = A ++ (putU q.length ++ (q ++ qs.flatMap ckR)) := by rw [e, List.flatMap_cons, ckR, List.append_assoc]
      have lP := congrArg List.length eP
      simp only [List.length_append] at lP
      have hp2 : RdB w2 p (ckP first rs) := kk.rd
      have eu : uv (ckP first rs) ((A.length : Nat) : Int) = (q.length, A.length + (putU q.length).length, 0) := by
        rw [eP]; exact uv_put A (q ++ qs.flatMap ckR) (n := q.length) (by omega)
      refine u_ok hp2 (by omega) _ ?_
      rw [eu]
      dsimp only
      refine cond_f rfl <| cond_d (fun hh => by omega) fun _ => ?_
      rw [wI64 (x := ((p.n : Nat) : Int) - _) (by omega) (by omega), wU64_id (by omega) (by omega)]
      refine cond_d (fun hh => by omega) fun _ => ?_
      rw [wI64 (x := ((q.length : Nat) : Int)) (by omega) (by omega), wI64 (x := ((A.length + (putU q.length).length : Nat) : Int) + _) (by omega) (by omega)]
      refine RdB.slc hp2 (lo := A.length + (putU q.length).length) (hi := A.length + (putU q.length).length + q.length) (by omega) (by omega) (by omega) (by omega) fun s2 hs2 => ?_
      have ed : ((ckP first rs).drop (A.length + (putU q.length).length)).take (A.length + (putU q.length).length + q.length - (A.length + (putU q.length).length)) = q := by
        rw [eP, ← List.append_assoc, ← List.length_append, List.drop_left, List.length_append, show A.length + (putU q.length).length + q.length - (A.length + (putU q.length).length) = q.length by omega, List.take_left]
      rw [ed] at hs2
      refine again_ok hs2 (by omega) fun r w3 k3 r3 => ?_
      have s3 := k3.stp ω2 (t + 2)
      have rr := r3 ω2 (t + 2)
      generalize ext ω2 w2.heap.size (t + 2) = ω3 at *
      have hsn : s.n = ps.length := by have := o.rd.2.1; simp [hds] at this; omega
      refine push_T (n := 1) tiBB (o.stp s3) rfl (by intro v hv; simp at hv; subst hv; rfl) (by simp only [maxLen]; omega) (by omega) fun r4 ω4 w4 k4 o4 hr4 => ?_
      have kk4 := (kk.stp s3).stp k4 (beq_no (by omega))
      rw [wU64_id (by omega) (by omega), show (i : Int) + 1 = ((i + 1 : Nat) : Int) by omega, show ((A.length + (putU q.length).length : Nat) : Int) + (q.length : Int) = (((A ++ ckR q).length : Nat) : Int) by simp [ckR]; omega]
      refine ih (A ++ ckR q) (i + 1) r4 (ps ++ [(q, r)]) ω4 w4 (by rw [e]; simp) (by omega) (by simp; omega) kk4 ((sp.trans (s3.non _)).trans k4) ?_ (by rw [← hps]; simp) fun x hx => ?_
      · have e4 : hds (ps ++ [(q, r)]) = hds ps ++ [r.v] := by simp [hds]
        rw [e4]; exact o4
      · rcases List.mem_append.1 hx with hx | hx
        · exact ((hrt x hx).stp s3).stp k4 (beq_no (by omega))
        · rw [List.mem_singleton.1 hx]; exact rr.stp k4 (beq_no (by omega))
  have := key rs (putU first ++ putU rs.length) 0 nilS [] ω1 w1 (by simp [ckP]) (by omega) rfl pt (Stp.refl _ _ _) (OT.nil ..) (by simp) (by simp)
  rw [List.length_append] at this
  exact this
end Go.Proofs.YtdaghggdmgbpnaaDoor.Wl
