/- Layer 7 (wal): Open. Own work. -/
import Derived.Test.YtdaghggdmgbpnaaDoorWlE
namespace Go.Proofs.YtdaghggdmgbpnaaDoor.Wl
open Go Vm Go.RowKit Num Mem Dk Wo Vint Crc
variable {ω ω' : Tg} {w w' w0 : World} {T : Nat → Bool} {t u gl gd room at' : Nat} {name : ByteArray} {sl : Sl} {pl : List Pc} {M : List Fl}

def nwS (name : ByteArray) : ByteArray := name ++ ⟨#[46, 110, 101, 119]⟩
def ckS (name : ByteArray) : ByteArray := name ++ ⟨#[46, 99, 104, 101, 99, 107]⟩
/-- What the checkpoint's file says, where there is one. -/
def Ckd (name : ByteArray) (M : List Fl) (a0 : Nat) (l0 : List (List UInt8)) : Prop :=
  ((rdM (ckS name) M).2 ≠ 0 ∧ a0 = 1 ∧ l0 = []) ∨ (rdM (ckS name) M = (ckB a0 l0, 0) ∧ 1 ≤ a0 ∧ a0 ≤ 99999999 ∧ (ckP a0 l0).length ≤ 65536)
abbrev TO (t u : Nat) : Nat → Bool := fun v => TW t v || Nat.beq v u
theorem to_w (k : Stp (TW t) ω ω' w w') : Stp (TO t u) ω ω' w w' := k.mono fun v hv => by
  have hv' : (TW t v || Nat.beq v u) = false := hv
  rw [Bool.or_eq_false_iff] at hv'; exact hv'.1
theorem to_u (k : Stp (Mem.One u) ω ω' w w') : Stp (TO t u) ω ω' w w' := k.mono fun v hv => by
  have hv' : (TW t v || Nat.beq v u) = false := hv
  rw [Bool.or_eq_false_iff] at hv'; exact hv'.2
theorem to_off {v : Nat} (h1 : v < t ∨ t + 2 < v) (h2 : v < 1 ∨ 3 < v) (h3 : v ≠ u) : TO t u v = false := by
  show (TW t v || Nat.beq v u) = false
  rw [tw_off h1 h2, beq_no h3]; rfl
theorem repM_each (name : ByteArray) : ∀ (ns : List Nat) (next : Nat) (torn : Bool) (a : Nat) (l : List (List UInt8)) (M : List Fl), (∀ x ∈ l, x.length ≤ 65536) → ∀ x ∈ (repM name ns next torn a l M).2.1, x.length ≤ 65536
  | [], _, _, _, _, _, h => h
  | n :: ns, next, torn, a, l, M, h => by
    have hx : ∀ x ∈ l ++ (frs (rdM (segN name n) M).1 (rdM (segN name n) M).1.length 0).1, x.length ≤ 65536 := fun x hx => by
      rcases List.mem_append.1 hx with hx | hx
      · exact h x hx
      · exact frs_each _ _ _ x hx
    rw [repM]
    split
    · exact repM_each name ns _ _ _ _ _ h
    · split
      · exact repM_each name ns _ _ _ _ _ hx
      · exact repM_each name ns _ _ _ _ _ hx
/-- What Open finds. -/
def opM (name : ByteArray) (M : List Fl) (a0 : Nat) (l0 : List (List UInt8)) : Nat × List (List UInt8) × List Fl := repM name (segsM name (remM (nwS name) M).2) a0 false a0 l0 (remM (nwS name) M).2
theorem open_tail (ht : 10 ≤ t) (hu : t + 2 < u) (top : Top w0 ω w) (htab : Tab w0) (h : LG ω w t gl gd name room at' sl pl) (hs : name.size ≤ 40) (hd : DK ω w 1 gd M) (hM : WF M) (hat : at' < 100000000) (hl : pl.length ≤ 1000000000) (hx : ∀ p ∈ pl, p.1.length ≤ 65536) {K : Option Addr → Sl → Int → World → Prop}
    (hK : ∀ sl pl' out ps ω' w', Stp (TO t u) ω ω' w w' → LG ω' w' t gl gd name room (repM name (segsM name M) at' false at' (pl.map (·.1)) M).1 sl pl' → pl'.map (·.1) = (repM name (segsM name M) at' false at' (pl.map (·.1)) M).2.1 →
      DK ω' w' 1 gd (repM name (segsM name M) at' false at' (pl.map (·.1)) M).2.2 → WF (repM name (segsM name M) at' false at' (pl.map (·.1)) M).2.2 → OT ω' w' u 31 1 out (hds ps) → ps.map (·.1) = (repM name (segsM name M) at' false at' (pl.map (·.1)) M).2.1 →
      (∀ p ∈ ps, RT ω' w' (u + 1) p.2 1 (vBs p.1)) → K (some ⟨gl, 0, none⟩) out 0 w') : C.wal_Open.S11 K (some ⟨gl, 0, none⟩) w := by
  unfold C.wal_Open.S11
  refine replay_ok ht top htab h hs hd hM hat hl fun ω1 w1 sl1 pl1 k1 h1 e1 d1 hw1 hl1 => ?_
  have hE := repM_each name (segsM name M) at' false at' (pl.map (·.1)) M (fun x hxx => by obtain ⟨p, hp, rfl⟩ := List.mem_map.1 hxx; exact hx p hp)
  generalize hR : repM name (segsM name M) at' false at' (pl.map (·.1)) M = R at *
  have hsln : sl1.n = pl1.length := by have := h1.row.rd.2.1; simp [hds] at this; omega
  unfold C.wal_Open.S9
  refine ptr_at <| cSl_at (s := sl1) (by rw [addr_add, h1.hd.cell]; rfl) ?_
  refine C.wal_Open.L5_ind fun X hX => ?_
  have key : ∀ (d i : Nat) (out : Sl) (ps : List Pc) (ω2 : Tg) (w2 : World), i + d = pl1.length → ps.length = i → Stp (Mem.One u) ω1 ω2 w1 w2 → OT ω2 w2 u 31 1 out (hds ps) → ps.map (·.1) = (pl1.take i).map (·.1) → (∀ p ∈ ps, RT ω2 w2 (u + 1) p.2 1 (vBs p.1)) →
      X (some ⟨gl, 0, none⟩) out sl1 ((sl1.n : Nat) : Int) (i : Int) w2 := by
    intro d
    induction d with
    | zero =>
      intro i out ps ω2 w2 hi hpi sp o hps hrt
      refine hX _ _ _ _ _ _ ?_
      unfold C.wal_Open.S7 C.wal_Open.S2
      rw [List.take_of_length_le (by omega), e1] at hps
      exact cond_d (fun hh => by omega) (fun _ => hK sl1 pl1 out ps ω2 w2 ((to_w k1).trans (to_u sp)) (h1.stp sp (off_one (by omega))) e1 (d1.stp sp (off_one (by omega))) hw1 o hps hrt)
    | succ d ih =>
      intro i out ps ω2 w2 hi hpi sp o hps hrt
      refine hX _ _ _ _ _ _ ?_
      unfold C.wal_Open.S7
      have h2 := h1.stp sp (off_one (by omega))
      obtain ⟨p, hp⟩ : ∃ p, pl1[i]? = some p := ⟨_, List.getElem?_eq_getElem (by omega)⟩
      have hpm := List.mem_of_getElem? hp
      have hpl : p.1.length ≤ 65536 := hE p.1 (by rw [← e1]; exact List.mem_map_of_mem hpm)
      refine cond_d (fun _ => ?_) (fun hh => by omega)
      refine Rd.ix h2.row.rd (by decide) (by omega) (by omega) fun a hc => ?_
      have c0 := hc 0 p.2.v (by decide) (by rw [Int.toNat_natCast, Nat.mul_one, Nat.add_zero, hds, List.getElem?_map, hp]; rfl)
      rw [add_zero'] at c0
      refine cSl_at (s := p.2) c0 <| again_ok (h2.rt p hpm).rd (by omega) fun r w3 k3 r3 => ?_
      have s3 := k3.stp ω2 (u + 1)
      have rr := r3 ω2 (u + 1)
      generalize ext ω2 w2.heap.size (u + 1) = ω3 at *
      have hon : out.n = ps.length := by have := o.rd.2.1; simp [hds] at this; omega
      refine push_T (n := 1) tiBB (o.stp s3) rfl (by intro v hv; simp at hv; subst hv; rfl) (by simp only [maxLen]; omega) (by omega) fun r4 ω4 w4 k4 o4 hr4 => ?_
      rw [wI64 (by omega) (by omega), show (i : Int) + 1 = ((i + 1 : Nat) : Int) by omega]
      refine ih (i + 1) r4 (ps ++ [(p.1, r)]) ω4 w4 (by omega) (by simp; omega) ((sp.trans (s3.non _)).trans k4) ?_ (by rw [List.map_append, hps, List.take_add_one, hp]; simp) fun x hx => ?_
      · have e4 : hds (ps ++ [(p.1, r)]) = hds ps ++ [r.v] := by simp [hds]
        rw [e4]; exact o4
      · rcases List.mem_append.1 hx with hx | hx
        · exact ((hrt x hx).stp s3).stp k4 (beq_no (by omega))
        · rw [List.mem_singleton.1 hx]; exact rr.stp k4 (beq_no (by omega))
  exact key pl1.length 0 nilS [] ω1 w1 (by omega) rfl (Stp.refl _ _ _) (OT.nil ..) (by simp) (by simp)
theorem wnam_size (h : wnam name = true) : name.size ≤ 40 := by
  unfold wnam at h
  simp only [Bool.and_eq_true, decide_eq_true_eq] at h
  exact h.1.2
theorem open_ok (ht : 10 ≤ t) (hu : t + 2 < u) (top : Top w0 ω w) (htab : Tab w0) (hn : wnam name = true) (hr1 : 16 ≤ room) (hr2 : room ≤ 1048576) (hd : DK ω w 1 gd M) (hM : WF M) {a0 : Nat} {l0 : List (List UInt8)} (hck : Ckd name (remM (nwS name) M).2 a0 l0) {K : Option Addr → Sl → Int → World → Prop}
    (hK : ∀ gl sl pl out ps ω' w', Stp (TO t u) ω ω' w w' → LG ω' w' t gl gd name room (opM name M a0 l0).1 sl pl → pl.map (·.1) = (opM name M a0 l0).2.1 → DK ω' w' 1 gd (opM name M a0 l0).2.2 → WF (opM name M a0 l0).2.2 → OT ω' w' u 31 1 out (hds ps) → ps.map (·.1) = (opM name M a0 l0).2.1 →
      (∀ p ∈ ps, RT ω' w' (u + 1) p.2 1 (vBs p.1)) → K (some ⟨gl, 0, none⟩) out 0 w') : C.wal_Open (some ⟨gd, 0, none⟩) name (room : Int) w K := by
  have hsz := wnam_size hn
  unfold C.wal_Open
  refine cond_f rfl <| wnamed_ok (by omega) ?_
  rw [hn]
  refine cond_f rfl <| cond_d (fun h => by omega) fun _ => cond_d (fun h => by omega) fun _ => new_T (ω := ω) t fun gl ω1 w1 k1 b1 => ?_
  have hq1 : (nwS name).size = name.size + 4 := by unfold nwS; rw [ByteArray.size_append]; rfl
  have hq2 : (ckS name).size = name.size + 6 := by unfold ckS; rw [ByteArray.size_append]; rfl
  have c1 : ((name.size + 4 : Nat) : Int) ≤ 9223372036854775807 := by omega
  have c2 : ((name.size + 6 : Nat) : Int) ≤ 9223372036854775807 := by omega
  refine ⟨c1, ?_⟩
  refine remove_ok (s := nwS name) (hd.stp k1 (off_non 1)) hM (by omega) fun ω2 w2 k2 d2 hw2 => ⟨c2, ?_⟩
  unfold opM at hK
  generalize (remM (nwS name) M).2 = M1 at *
  have b2 := b1.stp k2 (dt_off (by omega))
  refine read2_ok (s := ckS name) d2 hw2 (by omega) fun rb w3 k3 o3 => ?_
  have b3 := b2.stp (k3.stp0 ω2)
  have d3 := d2.stp (k3.stp0 ω2) (off_non 1)
  have sp3 : Stp (TW t) ω ω2 w w3 := ((tw_n k1).trans (tw_1 k2)).trans (tw_n (k3.stp0 ω2))
  have top3 := top.stp sp3 (tw_off (by omega) (by omega))
  rcases hck with ⟨hc, rfl, rfl⟩ | ⟨hc, ha1, ha2, hP⟩
  · refine cond_eq (fun e => absurd e hc) fun _ => ?_
    have h3 : LG ω2 w3 t gl gd name room 1 nilS [] := ⟨b3, OT.nil .., by simp⟩
    exact open_tail ht hu top3 htab h3 hsz d3 hw2 (by omega) (by simp) (by simp) fun sl pl' out ps ω' w' k h e d hw o hps hrt => hK gl sl pl' out ps ω' w' ((to_w sp3).trans k) h e d hw o hps hrt
  · rw [hc] at o3 ⊢
    refine cond_t rfl <| checkpoint_ok (htab.keep top3.k) (rd_own o3) ha1 ha2 hP ω2 t fun s ps0 ω4 w4 k4 o4 hps0 hrt0 => cond_f rfl ?_
    have b4 := b3.stp k4 (beq_no (by omega))
    have d4 := d3.stp k4 (off_one (by omega))
    refine st_TA b4 (by simp) fun ω5 w5 k5 b5 => st_TA b5 (by simp) fun ω6 w6 k6 b6 => ?_
    have h6 : LG ω6 w6 t gl gd name room a0 s ps0 := ⟨b6, (o4.stp k5 (beq_no (by omega))).stp k6 (beq_no (by omega)), fun p hp => ((hrt0 p hp).stp k5 (beq_no (by omega))).stp k6 (beq_no (by omega))⟩
    have d6 := (d4.stp k5 (off_one (by omega))).stp k6 (off_one (by omega))
    have sp6 : Stp (TW t) ω ω6 w w6 := ((sp3.trans (tw_t (dt_one (by omega) (by omega) k4))).trans (tw_t (dt_one (Nat.le_refl _) (by omega) k5))).trans (tw_t (dt_one (Nat.le_refl _) (by omega) k6))
    have hl0 := ckR_le (rs := l0)
    have hPl : (ckP a0 l0).length = (putU a0).length + ((putU l0.length).length + (l0.flatMap ckR).length) := by simp [ckP]
    have hlen : ps0.length = l0.length := by rw [← hps0, List.length_map]
    refine open_tail ht hu (top.stp sp6 (tw_off (by omega) (by omega))) htab h6 hsz d6 hw2 (by omega) (by omega) (fun p hp => ?_) fun sl pl' out ps ω' w' k h e d hw o hps hrt => ?_
    · have := hl0.2 p.1 (by rw [← hps0]; exact List.mem_map_of_mem hp); omega
    · rw [hps0] at h e d hw hps
      exact hK gl sl pl' out ps ω' w' ((to_w sp6).trans k) h e d hw o hps hrt
end Go.Proofs.YtdaghggdmgbpnaaDoor.Wl
