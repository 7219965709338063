/- Layer 8: the reference writes: its stream of bits. Own work. -/
import Derived.Test.YtpadehbcjkhegaaDoorChunkC
namespace Go.Proofs.YtpadehbcjkhegaaDoor.Bits
open Go Vm Go.RowKit Num Mem
def vb (b : Bool) : Value := .bool b
def vbs (l : List Bool) : List Value := l.map vb
theorem vbs_app (a b : List Bool) : vbs (a ++ b) = vbs a ++ vbs b := List.map_append
theorem tib : TI Tryd.prog 76 4 1 1 := TI.of (z := .bool false) (by kernel_rfl) (by kernel_rfl) rfl (by decide)
abbrev Obl (ω : Tg) (w : World) (t : Nat) (s : Sl) (l : List Bool) : Prop := OT ω w t 4 1 s (vbs l)
theorem Obl.len {ω : Tg} {w : World} {t : Nat} {s : Sl} {l : List Bool} (h : Obl ω w t s l) : s.n = l.length := by
  have := h.own.1
  simp only [vbs, List.length_map] at this
  omega
/-- A stream of the reference, tags t and t + 1, that holds l and stands at a. -/
structure StT (ω : Tg) (w : World) (t g : Nat) (l : List Bool) (a : Int) : Prop where
  ex : ∃ s, BT ω w t g 78 [Sl.v s, .int .i64 a] ∧ Obl ω w (t + 1) s l
variable {ω ω' : Tg} {w w' w0 : World} {t g : Nat} {l : List Bool} {a : Int}
theorem StT.stp {T : Nat → Bool} (h : StT ω w t g l a) (k : Stp T ω ω' w w') (n0 : T t = false := by rfl) (n1 : T (t + 1) = false := by rfl) : StT ω' w' t g l a := by
  obtain ⟨s, b, o⟩ := h.ex
  exact ⟨s, b.stp k n0, o.stp k n1⟩
theorem StT.non (h : StT ω w t g l a) (k : Stp Non ω ω' w w') : StT ω' w' t g l a := h.stp k rfl rfl

theorem write_T {v : Nat} (hv : v < 18446744073709551616) {k : Nat} (hk : k ≤ 64) (h : StT ω w t g l a) (hl : l.length ≤ 8388608) {x m : Int} (hx : x = (v : Int)) (hm : m = (k : Int)) {K : World → Prop}
    (hK : ∀ ω' w', Stp (Duo t (t + 1)) ω ω' w w' → StT ω' w' t g (l ++ low v k) a → K w') : C.tocsinref02_Stream_Write (wp g) x m w K := by
  subst hx hm
  unfold C.tocsinref02_Stream_Write
  refine C.tocsinref02_Stream_Write.L3_ind fun X hX => ?_
  rw [wI64 (by omega) (by omega)]
  have key : ∀ (k : Nat) (l : List Bool) (ω1 : Tg) (w1 : World), k ≤ 64 → l.length + k ≤ 8388672 → Stp (Duo t (t + 1)) ω ω1 w w1 → StT ω1 w1 t g l a →
      (∀ ω' w', Stp (Duo t (t + 1)) ω ω' w w' → StT ω' w' t g (l ++ low v k) a → K w') → X (wp g) (v : Int) ((k : Int) - 1) w1 := by
    intro k
    induction k with
    | zero =>
      intro l ω1 w1 _ _ s h hK
      refine hX _ _ _ _ ?_
      unfold C.tocsinref02_Stream_Write.S5
      exact cond_d (fun h => by omega) (fun _ => hK ω1 w1 s (by simpa [low] using h))
    | succ k ih =>
      intro l ω1 w1 hk hl s h hK
      refine hX _ _ _ _ ?_
      unfold C.tocsinref02_Stream_Write.S5
      rw [show ((k + 1 : Nat) : Int) - 1 = (k : Int) by omega, wU64_id (by omega) (by omega), bit_eq hv (by omega), wI64 (by omega) (by omega)]
      refine cond_d (fun _ => ?_) (fun h => by omega)
      obtain ⟨sl, b, o⟩ := h.ex
      have hn := o.len
      refine ptr_at (cSl_at (by rw [b.cell]; rfl) ⟨by omega, ?_⟩)
      refine push_T tib o (n := 1) rfl (by intro v hv; simp at hv; subst hv; rfl) (by simp only [maxLen]; omega) (by omega) fun r ω2 w2 k2 o2 hr => ?_
      refine ptr_at (st_T (b.stp k2 (beq_no (by omega))) (by simp) fun ω3 w3 k3 b3 => ?_)
      refine ih (l ++ [bitOf v k]) ω3 w3 (by omega) (by simp only [List.length_append, List.length_singleton]; omega) (s.trans (k2.two.trans k3.one)) ⟨r, b3, ?_⟩ fun ω4 w4 s4 h4 => hK ω4 w4 s4 ?_
      · have := o2.stp k3 (beq_no (by omega))
        rw [Obl, vbs_app]; exact this
      · simpa [low] using h4
  exact key k l ω w hk (by omega) (Stp.refl _ _ _) h hK

theorem in_ok {n : Int} {k : Nat} (hk : 0 < k) (hk' : k ≤ 56) {K : Bool → World → Prop} (hK : K (fitsB n k) w) : C.tocsinref02_In n (k : Int) w K := by
  have := fits_cond (n := n) hk hk' (X := K true w) (Y := K false w) (fun e => by rw [e] at hK; exact hK) (fun e => by rw [e] at hK; exact hK)
  unfold C.tocsinref02_In
  refine ⟨by rw [wU64]; omega, cond_of (fun e => ?_) (fun e => ?_)⟩
  · rw [e] at this
    have h1 : G.cond (decide (n ≤ (shl .i64 (1 : Int) (IntKind.u64.wrap (IntKind.i64.wrap ((k : Int) - (1 : Int))))))) (K true w) (K false w) := this
    revert h1
    cases decide (n ≤ (shl .i64 (1 : Int) (IntKind.u64.wrap (IntKind.i64.wrap ((k : Int) - (1 : Int)))))) <;> exact fun h => h
  · rw [e] at this
    exact this
theorem rlow_ok {n : Int} {k : Nat} {K : Int → World → Prop} (hK : K ((lowN n k : Nat) : Int) w) : C.tocsinref02_Low n (k : Int) w K := by
  unfold C.tocsinref02_Low
  refine cond_d (fun h => ?_) (fun h => ⟨by rw [wU64_id (by omega) (by omega)]; omega, ?_⟩)
  · rw [wrapU]
    unfold lowN at hK
    rw [if_neg (by omega)] at hK; exact hK
  · rw [low_and (by omega)]; exact hK
def st8 (o : List UInt8) (i : Nat) (b : Bool) : List UInt8 := if b then o.set (i / 8) (orBit (o.getD (i / 8) 0) (i % 8)) else o
theorem grow_rep {l : List UInt8} {i M : Nat} (hl : l.length = (i + 7) / 8) (hM : (i + 8) / 8 ≤ M) : l ++ List.replicate (M - (i + 7) / 8) 0 = grow l i ++ List.replicate (M - (i + 8) / 8) 0 := by
  unfold grow
  split
  · rw [show M - (i + 7) / 8 = (M - (i + 8) / 8) + 1 by omega, List.replicate_succ]
    simp
  · rw [show (i + 7) / 8 = (i + 8) / 8 by omega]
theorem st8_step {l : List UInt8} {i M : Nat} {b : Bool} (hl : l.length = (i + 7) / 8) (hM : (i + 8) / 8 ≤ M) : st8 (l ++ List.replicate (M - (i + 7) / 8) 0) i b = putB l i b ++ List.replicate (M - (i + 8) / 8) 0 := by
  rw [grow_rep hl hM]
  unfold st8 putB
  have := grow_len hl
  cases b
  · rfl
  · simp only [if_true]
    rw [List.set_append_left _ _ (by omega)]
    congr 2
    rw [List.getD_eq_getElem?_getD, List.getD_eq_getElem?_getD, List.getElem?_append_left (by omega)]

theorem sbytes_T (h : StT ω w t g l a) (hl : l.length ≤ 8388608) {K : Sl → World → Prop} (hK : ∀ r w', Keep w w' → OwnB w' w.heap.size r (pk l) → K r w') : C.tocsinref02_Stream_Bytes (wp g) w K := by
  unfold C.tocsinref02_Stream_Bytes
  obtain ⟨s, hb0, ho0⟩ := h.ex
  have hn := ho0.len
  refine ptr_at (cSl_at (s := s) (by rw [hb0.cell]; rfl) ⟨by decide, ?_⟩)
  have e : IntKind.i64.wrap (Int.tdiv (IntKind.i64.wrap (((s.n : Nat) : Int) + (7 : Int))) (8 : Int)) = (((l.length + 7) / 8 : Nat) : Int) := by
    rw [wI64 (x := ((s.n : Nat) : Int) + 7) (by omega) (by omega), show ((s.n : Nat) : Int) + 7 = ((s.n + 7 : Nat) : Int) by omega, show Int.tdiv ((s.n + 7 : Nat) : Int) (8 : Int) = (((s.n + 7) / 8 : Nat) : Int) from rfl, wI64 (by omega) (by omega), hn]
  rw [e]
  refine make_own tiB (kl := .i64) (kc := .i64) (n := (l.length + 7) / 8) (c := (l.length + 7) / 8) (Keep.refl w) (Nat.le_refl _) (Nat.le_refl _) (by simp only [maxLen]; omega) (by omega) fun z r w1 hz hz1 k1 k1' o1 hrn hrc hra => ?_
  have hz' : z = .int .u8 0 := by
    have : (Tryd.prog.info? 5).map (·.zero) = some (some (.int .u8 0)) := by kernel_rfl
    rw [this] at hz
    simp only [Option.some.injEq] at hz
    exact hz.symm
  subst hz'
  have o1' : OwnB w1 w.heap.size r (List.replicate ((l.length + 7) / 8) 0) := by
    have e2 : ((madeCells (Value.int IntKind.u8 0).cells ((l.length + 7) / 8 * 1)).toList.take ((l.length + 7) / 8 * 1)) = vBs (List.replicate ((l.length + 7) / 8) 0) := by
      rw [show (Value.int IntKind.u8 0).cells = #[Value.int IntKind.u8 0] from rfl, toList_madeCells_one, Nat.mul_one, List.take_of_length_le (by simp)]
      simp [vBs, vB]
    rw [e2] at o1; exact o1
  unfold C.tocsinref02_Stream_Bytes.S9
  refine ptr_at (cSl_at (s := s) (Keep.cell k1' (by rw [hb0.cell]; rfl)) ?_)
  refine C.tocsinref02_Stream_Bytes.L5_ind fun X hX => ?_
  have hrd := ho0.rd.keep k1
  have key : ∀ (d i : Nat) (w' : World), d + i = l.length → Keep w w' → Rd w' s 1 (vbs l) → OwnB w' w.heap.size r (pk (l.take i) ++ List.replicate ((l.length + 7) / 8 - (i + 7) / 8) 0) → X r s ((s.n : Nat) : Int) (i : Int) w' := by
    intro d
    induction d with
    | zero =>
      intro i w' hi k hr o
      refine hX _ _ _ _ _ ?_
      unfold C.tocsinref02_Stream_Bytes.S7 C.tocsinref02_Stream_Bytes.S2
      refine cond_d (fun h => by omega) (fun _ => hK r w' k ?_)
      rw [show i = l.length by omega, List.take_length, Nat.sub_self] at o
      simpa using o
    | succ d ih =>
      intro i w' hi k hr o
      have hil : i < l.length := by omega
      refine hX _ _ _ _ _ ?_
      unfold C.tocsinref02_Stream_Bytes.S7
      refine cond_d (fun _ => ?_) (fun h => by omega)
      refine Rd.ix hr (by decide) (by omega) (by omega) fun a ha => ?_
      have hc := ha 0 (.bool l[i]) (by decide) (by simp [vbs, vb, hil])
      rw [show a.add 0 = a by simp [Addr.add]] at hc
      refine ⟨l[i], hc, ?_⟩
      rw [wI64 (x := (i : Int) + 1) (by omega) (by omega)]
      have hlen : (pk (l.take i)).length = (i + 7) / 8 := by rw [pk_len, List.length_take, Nat.min_eq_left (by omega)]
      have hM : (i + 8) / 8 ≤ (l.length + 7) / 8 := by omega
      have hstep := st8_step (b := l[i]) hlen hM
      have htake : pk (l.take (i + 1)) = putB (pk (l.take i)) i l[i] := by
        rw [List.take_add_one, List.getElem?_eq_getElem hil, pk_app, List.length_take, Nat.min_eq_left (by omega)]; rfl
      have hol := o.len
      rw [List.length_append, hlen, List.length_replicate] at hol
      have next : ∀ w2, Keep w w2 → Rd w2 s 1 (vbs l) → OwnB w2 w.heap.size r (st8 (pk (l.take i) ++ List.replicate ((l.length + 7) / 8 - (i + 7) / 8) 0) i l[i]) → X r s ((s.n : Nat) : Int) ((i + 1 : Nat) : Int) w2 := fun w2 k2 r2 o2 => by
        rw [hstep, ← htake] at o2
        exact ih (i + 1) w2 (by omega) k2 r2 o2
      rw [show (i : Int) + 1 = ((i + 1 : Nat) : Int) by omega]
      cases hb : l[i]
      · refine cond_f rfl (next w' k hr ?_)
        rw [hb]; exact o
      · refine cond_t rfl ⟨by decide, by decide, ?_⟩
        have hlt : i / 8 < (pk (l.take i) ++ List.replicate ((l.length + 7) / 8 - (i + 7) / 8) 0).length := by rw [List.length_append, hlen, List.length_replicate]; omega
        rw [idx8 (by omega)]
        refine RdB.at_ o.rd hlt ⟨by decide, ?_⟩
        rw [mod8]
        refine ⟨by omega, ?_⟩
        rw [orBit_val _ (by omega)]
        refine Own.stC o (by omega) _ fun w2 c2 o2 => ?_
        have hge : ∀ k, r.v.ownBlock = some k → w.heap.size ≤ k := fun k hk => (Own.geC o hk).1
        have k2 : Keep w w2 := Chg.below k c2 k.size hge
        refine next w2 k2 (ho0.rd.keep k2) ?_
        · unfold st8
          rw [hb, if_pos rfl]
          have e1 : ∀ (q : List UInt8) (hq : i / 8 < q.length), q.getD (i / 8) 0 = q[i / 8] := fun q hq => by rw [List.getD_eq_getElem?_getD, List.getElem?_eq_getElem hq, Option.getD_some]
          rw [e1 _ hlt, OwnB]
          have e2 : ∀ (q : List UInt8) (x : UInt8), vBs (q.set (i / 8) x) = (vBs q).set (i / 8) (vB x) := fun q x => by simp [vBs, List.map_set]
          rw [e2]; exact o2
  refine key l.length 0 w1 (by omega) k1 hrd ?_
  simpa [pk, putBs] using o1'
end Go.Proofs.YtpadehbcjkhegaaDoor.Bits
