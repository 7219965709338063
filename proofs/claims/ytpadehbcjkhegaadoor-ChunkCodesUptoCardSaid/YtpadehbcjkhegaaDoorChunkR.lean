/- Layer 8: the reference writes: its stream of bits. Own work. -/
import Derived.Test.YtpadehbcjkhegaaDoorChunkC
import Derived.Test.YtpadehbcjkhegaaDoorChunkF
namespace Go.Proofs.YtpadehbcjkhegaaDoor.Bits
open Go Vm Go.RowKit Num Mem
def vb (b : Bool) : Value := .bool b
def vbs (l : List Bool) : List Value := l.map vb
theorem vbs_app (a b : List Bool) : vbs (a ++ b) = vbs a ++ vbs b := List.map_append
theorem tib : TI Tryd.prog 76 4 1 1 := TI.of (z := .bool false) (by kernel_rfl) (by kernel_rfl) rfl (by decide)
abbrev Obl (ω : Tg) (w : World) (t : Nat) (s : Sl) (l : List Bool) : Prop := OT ω w t 4 1 s (vbs l)
theorem Obl.len {ω : Tg} {w : World} {t : Nat} {s : Sl} {l : List Bool} (h : Obl ω w t s l) : s.n = l.length := by
  have := h.own.1
  simp only [vbs, List.length_map] at this
  omega
/-- A stream of the reference, tags t and t + 1, that holds l and stands at a. -/
structure StT (ω : Tg) (w : World) (t g : Nat) (l : List Bool) (a : Int) : Prop where
  ex : ∃ s, BT ω w t g 78 [Sl.v s, .int .i64 a] ∧ Obl ω w (t + 1) s l
variable {ω ω' : Tg} {w w' w0 : World} {t g : Nat} {l : List Bool} {a : Int}
theorem StT.stp {T : Nat → Bool} (h : StT ω w t g l a) (k : Stp T ω ω' w w') (n0 : T t = false := by rfl) (n1 : T (t + 1) = false := by rfl) : StT ω' w' t g l a := by
  obtain ⟨s, b, o⟩ := h.ex
  exact ⟨s, b.stp k n0, o.stp k n1⟩
theorem StT.non (h : StT ω w t g l a) (k : Stp Non ω ω' w w') : StT ω' w' t g l a := h.stp k rfl rfl

theorem write_T {v : Nat} (hv : v < 18446744073709551616) {k : Nat} (hk : k ≤ 64) (h : StT ω w t g l a) (hl : l.length ≤ 8388608) {x m : Int} (hx : x = (v : Int)) (hm : m = (k : Int)) {K : World → Prop}
    (hK : ∀ ω' w', Stp (Duo t (t + 1)) ω ω' w w' → StT ω' w' t g (l ++ low v k) a → K w') : C.tocsinref02_Stream_Write (wp g) x m w K := by
  subst hx hm
  unfold C.tocsinref02_Stream_Write
  refine C.tocsinref02_Stream_Write.L3_ind fun X hX => ?_
  rw [wI64 (by omega) (by omega)]
  have key : ∀ (k : Nat) (l : List Bool) (ω1 : Tg) (w1 : World), k ≤ 64 → l.length + k ≤ 8388672 → Stp (Duo t (t + 1)) ω ω1 w w1 → StT ω1 w1 t g l a →
      (∀ ω' w', Stp (Duo t (t + 1)) ω ω' w w' → StT ω' w' t g (l ++ low v k) a → K w') → X (wp g) (v : Int) ((k : Int) - 1) w1 := by
    intro k
    induction k with
    | zero =>
      intro l ω1 w1 _ _ s h hK
      refine hX _ _ _ _ ?_
      unfold C.tocsinref02_Stream_Write.S5
      exact cond_d (fun h => by omega) (fun _ => hK ω1 w1 s (by simpa [low] using h))
    | succ k ih =>
      intro l ω1 w1 hk hl s h hK
      refine hX _ _ _ _ ?_
      unfold C.tocsinref02_Stream_Write.S5
      rw [show ((k + 1 : Nat) : Int) - 1 = (k : Int) by omega, wU64_id (by omega) (by omega), bit_eq hv (by omega), wI64 (by omega) (by omega)]
      refine cond_d (fun _ => ?_) (fun h => by omega)
      obtain ⟨sl, b, o⟩ := h.ex
      have hn := o.len
      refine ptr_at (cSl_at (by rw [b.cell]; rfl) ⟨by omega, ?_⟩)
      refine push_T tib o (n := 1) rfl (by intro v hv; simp at hv; subst hv; rfl) (by simp only [maxLen]; omega) (by omega) fun r ω2 w2 k2 o2 hr => ?_
      refine ptr_at (st_T (b.stp k2 (beq_no (by omega))) (by simp) fun ω3 w3 k3 b3 => ?_)
      refine ih (l ++ [bitOf v k]) ω3 w3 (by omega) (by simp only [List.length_append, List.length_singleton]; omega) (s.trans (k2.two.trans k3.one)) ⟨r, b3, ?_⟩ fun ω4 w4 s4 h4 => hK ω4 w4 s4 ?_
      · have := o2.stp k3 (beq_no (by omega))
        rw [Obl, vbs_app]; exact this
      · simpa [low] using h4
  exact key k l ω w hk (by omega) (Stp.refl _ _ _) h hK

theorem in_ok {n : Int} {k : Nat} (hk : 0 < k) (hk' : k ≤ 56) {K : Bool → World → Prop} (hK : K (fitsB n k) w) : C.tocsinref02_In n (k : Int) w K := by
  have := fits_cond (n := n) hk hk' (X := K true w) (Y := K false w) (fun e => by rw [e] at hK; exact hK) (fun e => by rw [e] at hK; exact hK)
  unfold C.tocsinref02_In
  refine ⟨by rw [wU64]; omega, cond_of (fun e => ?_) (fun e => ?_)⟩
  · rw [e] at this
    have h1 : G.cond (decide (n ≤ (shl .i64 (1 : Int) (IntKind.u64.wrap (IntKind.i64.wrap ((k : Int) - (1 : Int))))))) (K true w) (K false w) := this
    revert h1
    cases decide (n ≤ (shl .i64 (1 : Int) (IntKind.u64.wrap (IntKind.i64.wrap ((k : Int) - (1 : Int)))))) <;> exact fun h => h
  · rw [e] at this
    exact this
theorem rlow_ok {n : Int} {k : Nat} {K : Int → World → Prop} (hK : K ((lowN n k : Nat) : Int) w) : C.tocsinref02_Low n (k : Int) w K := by
  unfold C.tocsinref02_Low
  refine cond_d (fun h => ?_) (fun h => ⟨by rw [wU64_id (by omega) (by omega)]; omega, ?_⟩)
  · rw [wrapU]
    unfold lowN at hK
    rw [if_neg (by omega)] at hK; exact hK
  · rw [low_and (by omega)]; exact hK
def st8 (o : List UInt8) (i : Nat) (b : Bool) : List UInt8 := if b then o.set (i / 8) (orBit (o.getD (i / 8) 0) (i % 8)) else o
theorem grow_rep {l : List UInt8} {i M : Nat} (hl : l.length = (i + 7) / 8) (hM : (i + 8) / 8 ≤ M) : l ++ List.replicate (M - (i + 7) / 8) 0 = grow l i ++ List.replicate (M - (i + 8) / 8) 0 := by
  unfold grow
  split
  · rw [show M - (i + 7) / 8 = (M - (i + 8) / 8) + 1 by omega, List.replicate_succ]
    simp
  · rw [show (i + 7) / 8 = (i + 8) / 8 by omega]
theorem st8_step {l : List UInt8} {i M : Nat} {b : Bool} (hl : l.length = (i + 7) / 8) (hM : (i + 8) / 8 ≤ M) : st8 (l ++ List.replicate (M - (i + 7) / 8) 0) i b = putB l i b ++ List.replicate (M - (i + 8) / 8) 0 := by
  rw [grow_rep hl hM]
  unfold st8 putB
  have := grow_len hl
  cases b
  · rfl
  · simp only [if_true]
    rw [List.set_append_left _ _ (by omega)]
    congr 2
    rw [List.getD_eq_getElem?_getD, List.getD_eq_getElem?_getD, List.getElem?_append_left (by omega)]

theorem sbytes_T (h : StT ω w t g l a) (hl : l.length ≤ 8388608) {K : Sl → World → Prop} (hK : ∀ r w', Keep w w' → OwnB w' w.heap.size r (pk l) → K r w') : C.tocsinref02_Stream_Bytes (wp g) w K := by
  unfold C.tocsinref02_Stream_Bytes
  obtain ⟨s, hb0, ho0⟩ := h.ex
  have hn := ho0.len
  refine ptr_at (cSl_at (s := s) (by rw [hb0.cell]; rfl) ⟨by decide, ?_⟩)
  have e : IntKind.i64.wrap (Int.tdiv (IntKind.i64.wrap (((s.n : Nat) : Int) + (7 : Int))) (8 : Int)) = (((l.length + 7) / 8 : Nat) : Int) := by
    rw [wI64 (x := ((s.n : Nat) : Int) + 7) (by omega) (by omega), show ((s.n : Nat) : Int) + 7 = ((s.n + 7 : Nat) : Int) by omega, show Int.tdiv ((s.n + 7 : Nat) : Int) (8 : Int) = (((s.n + 7) / 8 : Nat) : Int) from rfl, wI64 (by omega) (by omega), hn]
  rw [e]
  refine make_own tiB (kl := .i64) (kc := .i64) (n := (l.length + 7) / 8) (c := (l.length + 7) / 8) (Keep.refl w) (Nat.le_refl _) (Nat.le_refl _) (by simp only [maxLen]; omega) (by omega) fun z r w1 hz hz1 k1 k1' o1 hrn hrc hra => ?_
  have hz' : z = .int .u8 0 := by
    have : (Tryd.prog.info? 5).map (·.zero) = some (some (.int .u8 0)) := by kernel_rfl
    rw [this] at hz
    simp only [Option.some.injEq] at hz
    exact hz.symm
  subst hz'
  have o1' : OwnB w1 w.heap.size r (List.replicate ((l.length + 7) / 8) 0) := by
    have e2 : ((madeCells (Value.int IntKind.u8 0).cells ((l.length + 7) / 8 * 1)).toList.take ((l.length + 7) / 8 * 1)) = vBs (List.replicate ((l.length + 7) / 8) 0) := by
      rw [show (Value.int IntKind.u8 0).cells = #[Value.int IntKind.u8 0] from rfl, toList_madeCells_one, Nat.mul_one, List.take_of_length_le (by simp)]
      simp [vBs, vB]
    rw [e2] at o1; exact o1
  unfold C.tocsinref02_Stream_Bytes.S9
  refine ptr_at (cSl_at (s := s) (Keep.cell k1' (by rw [hb0.cell]; rfl)) ?_)
  refine C.tocsinref02_Stream_Bytes.L5_ind fun X hX => ?_
  have hrd := ho0.rd.keep k1
  have key : ∀ (d i : Nat) (w' : World), d + i = l.length → Keep w w' → Rd w' s 1 (vbs l) → OwnB w' w.heap.size r (pk (l.take i) ++ List.replicate ((l.length + 7) / 8 - (i + 7) / 8) 0) → X r s ((s.n : Nat) : Int) (i : Int) w' := by
    intro d
    induction d with
    | zero =>
      intro i w' hi k hr o
      refine hX _ _ _ _ _ ?_
      unfold C.tocsinref02_Stream_Bytes.S7 C.tocsinref02_Stream_Bytes.S2
      refine cond_d (fun h => by omega) (fun _ => hK r w' k ?_)
      rw [show i = l.length by omega, List.take_length, Nat.sub_self] at o
      simpa using o
    | succ d ih =>
      intro i w' hi k hr o
      have hil : i < l.length := by omega
      refine hX _ _ _ _ _ ?_
      unfold C.tocsinref02_Stream_Bytes.S7
      refine cond_d (fun _ => ?_) (fun h => by omega)
      refine Rd.ix hr (by decide) (by omega) (by omega) fun a ha => ?_
      have hc := ha 0 (.bool l[i]) (by decide) (by simp [vbs, vb, hil])
      rw [show a.add 0 = a by simp [Addr.add]] at hc
      refine ⟨l[i], hc, ?_⟩
      rw [wI64 (x := (i : Int) + 1) (by omega) (by omega)]
      have hlen : (pk (l.take i)).length = (i + 7) / 8 := by rw [pk_len, List.length_take, Nat.min_eq_left (by omega)]
      have hM : (i + 8) / 8 ≤ (l.length + 7) / 8 := by omega
      have hstep := st8_step (b := l[i]) hlen hM
      have htake : pk (l.take (i + 1)) = putB (pk (l.take i)) i l[i] := by
        rw [List.take_add_one, List.getElem?_eq_getElem hil, pk_app, List.length_take, Nat.min_eq_left (by omega)]; rfl
      have hol := o.len
      rw [List.length_append, hlen, List.length_replicate] at hol
      have next : ∀ w2, Keep w w2 → Rd w2 s 1 (vbs l) → OwnB w2 w.heap.size r (st8 (pk (l.take i) ++ List.replicate ((l.length + 7) / 8 - (i + 7) / 8) 0) i l[i]) → X r s ((s.n : Nat) : Int) ((i + 1 : Nat) : Int) w2 := fun w2 k2 r2 o2 => by
        rw [hstep, ← htake] at o2
        exact ih (i + 1) w2 (by omega) k2 r2 o2
      rw [show (i : Int) + 1 = ((i + 1 : Nat) : Int) by omega]
      cases hb : l[i]
      · refine cond_f rfl (next w' k hr ?_)
        rw [hb]; exact o
      · refine cond_t rfl ⟨by decide, by decide, ?_⟩
        have hlt : i / 8 < (pk (l.take i) ++ List.replicate ((l.length + 7) / 8 - (i + 7) / 8) 0).length := by rw [List.length_append, hlen, List.length_replicate]; omega
        rw [idx8 (by omega)]
        refine RdB.at_ o.rd hlt ⟨by decide, ?_⟩
        rw [mod8]
        refine ⟨by omega, ?_⟩
        rw [orBit_val _ (by omega)]
        refine Own.stC o (by omega) _ fun w2 c2 o2 => ?_
        have hge : ∀ k, r.v.ownBlock = some k → w.heap.size ≤ k := fun k hk => (Own.geC o hk).1
        have k2 : Keep w w2 := Chg.below k c2 k.size hge
        refine next w2 k2 (ho0.rd.keep k2) ?_
        · unfold st8
          rw [hb, if_pos rfl]
          have e1 : ∀ (q : List UInt8) (hq : i / 8 < q.length), q.getD (i / 8) 0 = q[i / 8] := fun q hq => by rw [List.getD_eq_getElem?_getD, List.getElem?_eq_getElem hq, Option.getD_some]
          rw [e1 _ hlt, OwnB]
          have e2 : ∀ (q : List UInt8) (x : UInt8), vBs (q.set (i / 8) x) = (vBs q).set (i / 8) (vB x) := fun q x => by simp [vBs, List.map_set]
          rw [e2]; exact o2
  refine key l.length 0 w1 (by omega) k1 hrd ?_
  simpa [pk, putBs] using o1'
end Go.Proofs.YtpadehbcjkhegaaDoor.Bits

namespace Go.Proofs.YtpadehbcjkhegaaDoor.Bits
open Go Vm Go.RowKit Num Mem
theorem bitLenAux_up : ∀ f x k, x < 2 ^ k → Lib.bitLenAux f x ≤ k
  | 0, _, _, _ => Nat.zero_le _
  | f + 1, x, k, h => by
    unfold Lib.bitLenAux
    split
    · exact Nat.zero_le _
    · cases k with
      | zero => simp at h; omega
      | succ k =>
        have := bitLenAux_up f (x / 2) k (by rw [Nat.pow_succ] at h; omega)
        omega
theorem lt_bitLen {x k : Nat} (h : k < Lib.bitLen x) : 2 ^ k ≤ x := by
  rcases Nat.lt_or_ge x (2 ^ k) with h1 | h1
  · have : Lib.bitLen x ≤ k := bitLenAux_up 64 x k h1
    omega
  · exact h1
theorem bit_val {v i : Nat} (hv : v < 18446744073709551616) (hi : i ≤ 64) : Go.bits .and .u64 (shr .u64 (v : Int) (i : Int)) (1 : Int) = ((v / 2 ^ i % 2 : Nat) : Int) := by
  have hlt : v / 2 ^ i < 18446744073709551616 := Nat.lt_of_le_of_lt (Nat.div_le_self _ _) hv
  rw [shr64 hi, show (1 : Int) = ((1 : Nat) : Int) from rfl, bits_and rfl (by simp only [IntKind.bits]; omega) (by decide), Nat.and_one_is_mod]
/-- Bits ahead. -/
theorem ahead_0 {x n : Nat} (h : x < 18446744073709551616) (hn : n < lead x) : x / 2 ^ (63 - n) % 2 = 0 := by
  have h1 : x < 2 ^ (63 - n) := by
    refine Nat.lt_of_lt_of_le (lt_lead h (Nat.le_refl _)) (Nat.pow_le_pow_right (by decide) ?_)
    have := lead_le x
    omega
  rw [Nat.div_eq_of_lt h1]
theorem ahead_1 {x : Nat} (h : x < 18446744073709551616) (hn : lead x < 31) : x / 2 ^ (63 - lead x) % 2 = 1 := by
  have hb := bitLen_le x
  have e : Lib.bitLen x = 64 - lead x := by unfold lead at *; omega
  have h1 := lt_bitLen (x := x) (k := 63 - lead x) (by omega)
  have h2 : x < 2 ^ (63 - lead x) * 2 := by
    have := bitLen_lt h
    rw [e, show 64 - lead x = (63 - lead x) + 1 by omega, Nat.pow_succ] at this
    exact this
  have h3 : x / 2 ^ (63 - lead x) = 1 := by
    rw [Nat.div_eq_iff (Nat.pow_pos (by decide))]; omega
  rw [h3]
theorem behind_0 {x n : Nat} (h : x < 18446744073709551616) (h0 : x ≠ 0) (hn : n < trail x) : x / 2 ^ n % 2 = 0 := by
  obtain ⟨m, hm, _⟩ := trail_spec h h0
  have e : 2 ^ trail x = 2 ^ n * (2 * 2 ^ (trail x - n - 1)) := by
    rw [Nat.mul_comm 2, ← Nat.pow_succ, ← Nat.pow_add]
    congr 1; omega
  have : x / 2 ^ n = 2 * (2 ^ (trail x - n - 1) * (2 * m + 1)) := by
    conv => lhs; rw [hm, e]
    rw [Nat.mul_assoc, Nat.mul_div_cancel_left _ (Nat.pow_pos (by decide)), Nat.mul_assoc]
  rw [this]; omega
theorem behind_1 {x : Nat} (h : x < 18446744073709551616) (h0 : x ≠ 0) : x / 2 ^ trail x % 2 = 1 := by
  obtain ⟨m, hm, _⟩ := trail_spec h h0
  have : x / 2 ^ trail x = 2 * m + 1 := by
    conv => lhs; lhs; rw [hm]
    exact Nat.mul_div_cancel_left _ (Nat.pow_pos (by decide))
  rw [this]; omega
end Go.Proofs.YtpadehbcjkhegaaDoor.Bits
namespace Go.Proofs.YtpadehbcjkhegaaDoor.Chunk
open Go Vm Go.RowKit Num Mem Bits Vint
variable {ω ω' : Tg} {w w' w0 : World} {t : Nat}

theorem rlead_ok {x : Nat} (h : x < 18446744073709551616) {K : Int → World → Prop} (hK : K ((lead x : Nat) : Int) w) : C.tocsinref08_lead (x : Int) w K := by
  unfold C.tocsinref08_lead
  refine C.tocsinref08_lead.L5_ind fun X hX => ?_
  have hl := lead_le x
  have key : ∀ (d n : Nat), n + d = lead x → X (x : Int) (n : Int) w := by
    intro d
    induction d with
    | zero =>
      intro n hn
      refine hX _ _ _ ?_
      unfold C.tocsinref08_lead.S7 C.tocsinref08_lead.S2
      have en : n = lead x := by omega
      subst en
      refine cond_d (fun h31 => ⟨by rw [wU64]; omega, ?_⟩) (fun _ => hK)
      rw [wI64 (x := 63 - ((lead x : Nat) : Int)) (by omega) (by omega), wU64_id (by omega) (by omega), show 63 - ((lead x : Nat) : Int) = ((63 - lead x : Nat) : Int) by omega, bit_val h (by omega), ahead_1 h (by omega)]
      exact cond_f rfl hK
    | succ d ih =>
      intro n hn
      refine hX _ _ _ ?_
      unfold C.tocsinref08_lead.S7
      refine cond_d (fun h31 => ⟨by rw [wU64]; omega, ?_⟩) (fun h => by omega)
      rw [wI64 (x := 63 - (n : Int)) (by omega) (by omega), wU64_id (by omega) (by omega), show 63 - (n : Int) = ((63 - n : Nat) : Int) by omega, bit_val h (by omega), ahead_0 h (by omega)]
      refine cond_t rfl ?_
      rw [wI64 (by omega) (by omega), show (n : Int) + 1 = ((n + 1 : Nat) : Int) by omega]
      exact ih (n + 1) (by omega)
  exact key (lead x) 0 (by omega)
theorem rtrail_ok {x : Nat} (h : x < 18446744073709551616) (h0 : x ≠ 0) {K : Int → World → Prop} (hK : K ((trail x : Nat) : Int) w) : C.tocsinref08_trail (x : Int) w K := by
  unfold C.tocsinref08_trail
  refine C.tocsinref08_trail.L5_ind fun X hX => ?_
  obtain ⟨_, _, hl⟩ := trail_spec h h0
  have key : ∀ (d n : Nat), n + d = trail x → X (x : Int) (n : Int) w := by
    intro d
    induction d with
    | zero =>
      intro n hn
      refine hX _ _ _ ?_
      unfold C.tocsinref08_trail.S7 C.tocsinref08_trail.S2
      have en : n = trail x := by omega
      subst en
      refine ⟨by rw [wU64]; omega, ?_⟩
      rw [wU64_id (by omega) (by omega), bit_val h (by omega), behind_1 h h0]
      exact cond_f rfl hK
    | succ d ih =>
      intro n hn
      refine hX _ _ _ ?_
      unfold C.tocsinref08_trail.S7
      refine ⟨by rw [wU64]; omega, ?_⟩
      rw [wU64_id (by omega) (by omega), bit_val h (by omega), behind_0 h h0 (by omega)]
      refine cond_t rfl ?_
      rw [wI64 (by omega) (by omega), show (n : Int) + 1 = ((n + 1 : Nat) : Int) by omega]
      exact ih (n + 1) (by omega)
  exact key (trail x) 0 (by omega)

theorem whole_ok {u gs : Nat} {bs : List Bool} {a : Int} (h : StT ω w t gs bs a) {b : Sl} {m : List UInt8} (hb : OBy ω w u b m) (hu : Duo t (t + 1) u = false) (hn : bs.length + 8 * m.length ≤ 8388608) {K : World → Prop}
    (hK : ∀ ω' w', Stp (Duo t (t + 1)) ω ω' w w' → StT ω' w' t gs (bs ++ byteBits m) a → K w') : C.tocsinref08_whole (wp gs) b w K := by
  unfold C.tocsinref08_whole
  refine C.tocsinref08_whole.L3_ind fun X hX => ?_
  have hbn := hb.len
  have key : ∀ (d i : Nat) (ω' : Tg) (w' : World), d + i = m.length → Stp (Duo t (t + 1)) ω ω' w w' → OBy ω' w' u b m → StT ω' w' t gs (bs ++ byteBits (m.take i)) a → X (wp gs) b ((b.n : Nat) : Int) (i : Int) w' := by
    intro d
    induction d with
    | zero =>
      intro i ω' w' hi k hb' h'
      refine hX _ _ _ _ _ ?_
      unfold C.tocsinref08_whole.S5
      refine cond_d (fun h => by omega) (fun _ => hK ω' w' k ?_)
      rwa [show i = m.length by omega, List.take_length] at h'
    | succ d ih =>
      intro i ω' w' hi k hb' h'
      have him : i < m.length := by omega
      refine hX _ _ _ _ _ ?_
      unfold C.tocsinref08_whole.S5
      refine cond_d (fun _ => ?_) (fun h => by omega)
      refine RdB.at_ hb'.rd him ?_
      have hlt := m[i].toNat_lt
      have htl : (m.take i).length = i := by rw [List.length_take, Nat.min_eq_left (by omega)]
      refine write_T (v := m[i].toNat) (k := 8) (by omega) (by decide) h' (by rw [List.length_append, byteBits_len, htl]; omega) (by rw [wU64_id (by omega) (by omega)]) rfl fun ω2 w2 k2 h2 => ?_
      rw [wI64 (by omega) (by omega), show (i : Int) + 1 = ((i + 1 : Nat) : Int) by omega]
      refine ih (i + 1) ω2 w2 (by omega) (k.trans k2) (hb'.stp k2 hu) ?_
      have e : byteBits (m.take (i + 1)) = byteBits (m.take i) ++ low m[i].toNat 8 := by
        rw [List.take_add_one, List.getElem?_eq_getElem him]
        unfold byteBits
        rw [List.flatMap_append]
        simp
      rw [e, ← List.append_assoc]
      exact h2
  exact key m.length 0 ω w (by omega) (Stp.refl _ _ _) hb (by simpa [byteBits] using h)
end Go.Proofs.YtpadehbcjkhegaaDoor.Chunk

namespace Go.Proofs.YtpadehbcjkhegaaDoor.Chunk
open Go Vm Go.RowKit Num Mem Bits Vint
variable {ω ω' : Tg} {w w' w0 : World} {t gs gp : Nat} {bs : List Bool} {wn : Win}

def rA : Win → Int | some (a, _) => (a : Int) | none => 64
/-- The reference's state (tag t) and stream (tags t + 1, t + 2). -/
structure RfT (ω : Tg) (w : World) (t gp gs : Nat) (T D : Int) (V : Nat) (bs : List Bool) (wn : Win) : Prop where
  st : BT ω w t gp 94 [.int .i64 T, .int .i64 D, .int .u64 (V : Int), .int .i64 (rA wn), .int .i64 (winB wn)]
  str : StT ω w (t + 1) gs bs 0
variable {T D : Int} {V : Nat}
theorem RfT.stp {X : Nat → Bool} (h : RfT ω w t gp gs T D V bs wn) (k : Stp X ω ω' w w') (n0 : X t = false) (n1 : X (t + 1) = false) (n2 : X (t + 2) = false) : RfT ω' w' t gp gs T D V bs wn :=
  ⟨h.st.stp k n0, h.str.stp k n1 n2⟩
theorem RfT.non (h : RfT ω w t gp gs T D V bs wn) (k : Stp Non ω ω' w w') : RfT ω' w' t gp gs T D V bs wn := h.stp k rfl rfl rfl
theorem duo_rng {s n a b : Nat} {u : Nat} (ha : s ≤ a) (ha2 : a < s + n) (hb : s ≤ b) (hb2 : b < s + n) (h : Rng s n u = false) : Duo a b u = false := by
  have h1 := rng_in ha ha2 h
  have h2 := rng_in hb hb2 h
  simp only [Mem.One] at h1 h2
  simp [Duo, h1, h2]
theorem duo_no {a b u : Nat} (h1 : u ≠ a) (h2 : u ≠ b) : Duo a b u = false := by simp [Duo, beq_no h1, beq_no h2]
theorem RfT.write (h : RfT ω w t gp gs T D V bs wn) {v : Nat} (hv : v < 18446744073709551616) {k : Nat} (hk : k ≤ 64) (hl : bs.length ≤ 8388608) {x m : Int} (hx : x = (v : Int)) (hm : m = (k : Int)) {K : World → Prop}
    (hK : ∀ ω' w', Stp (Rng t 3) ω ω' w w' → RfT ω' w' t gp gs T D V (bs ++ low v k) wn → K w') : C.tocsinref02_Stream_Write (wp gs) x m w K :=
  write_T hv hk h.str hl hx hm fun ω' w' s h' => hK ω' w' (s.mono fun u hu => duo_rng (by omega) (by omega) (by omega) (by omega) hu) ⟨h.st.stp s (duo_no (by omega) (by omega)), h'⟩
theorem RfT.set (h : RfT ω w t gp gs T D V bs wn) {j : Nat} (hj : j < 5) {v : Value} {K : World → Prop} {T' D' : Int} {V' : Nat} {wn' : Win}
    (he : [Value.int .i64 T, .int .i64 D, .int .u64 (V : Int), .int .i64 (rA wn), .int .i64 (winB wn)].set j v = [.int .i64 T', .int .i64 D', .int .u64 (V' : Int), .int .i64 (rA wn'), .int .i64 (winB wn')])
    (hK : ∀ ω' w', Stp (Rng t 3) ω ω' w w' → RfT ω' w' t gp gs T' D' V' bs wn' → K w') : G.st ⟨gp, j, none⟩ v w K :=
  st_T h.st (by simpa using hj) fun ω' w' s b => hK ω' w' (s.rng (by omega) (by omega)) ⟨by rw [he] at b; exact b, h.str.stp s (beq_no (by omega)) (beq_no (by omega))⟩
theorem RfT.setA (h : RfT ω w t gp gs T D V bs wn) {j : Nat} (hj : j < 5) {v : Value} {K : World → Prop} {T' D' : Int} {V' : Nat} {wn' : Win}
    (he : [Value.int .i64 T, .int .i64 D, .int .u64 (V : Int), .int .i64 (rA wn), .int .i64 (winB wn)].set j v = [.int .i64 T', .int .i64 D', .int .u64 (V' : Int), .int .i64 (rA wn'), .int .i64 (winB wn')])
    (hK : ∀ ω' w', Stp (Rng t 3) ω ω' w w' → RfT ω' w' t gp gs T' D' V' bs wn' → K w') : G.st (Addr.add ⟨gp, 0, none⟩ j) v w K := by
  rw [addr_add, Nat.zero_add]; exact h.set hj he hK

theorem rtime_ok (h : RfT ω w t gp gs T D V bs wn) {d : Int} (hd : -9223372036854775808 ≤ d ∧ d ≤ 9223372036854775807) (hl : bs.length ≤ 8388000) {K : World → Prop}
    (hK : ∀ ω' w', Stp (Rng t 3) ω ω' w w' → RfT ω' w' t gp gs T D V (bs ++ tform d) wn → K w') : C.tocsinref08_time (wp gs) d w K := by
  unfold C.tocsinref08_time
  unfold tform at hK
  refine cond_eq (fun h0 => ?_) (fun h0 => ?_)
  · rw [if_pos h0] at hK
    exact h.write (v := 0) (k := 1) (by decide) (by decide) (by omega) rfl rfl hK
  rw [if_neg h0] at hK
  refine in_ok (k := 14) (by decide) (by decide) ?_
  have two : ∀ (o a k : Nat) (ho : o < 18446744073709551616) (ha : a ≤ 64) (hk : k ≤ 64), (∀ ω' w', Stp (Rng t 3) ω ω' w w' → RfT ω' w' t gp gs T D V (bs ++ (low o a ++ low (lowN d k) k)) wn → K w') →
      C.tocsinref02_Stream_Write (wp gs) (o : Int) (a : Int) w fun w1 => C.tocsinref02_Low d (k : Int) w1 fun n7 w8 => C.tocsinref02_Stream_Write (wp gs) n7 (k : Int) w8 fun w9 => K w9 := by
    intro o a k ho ha hk hK
    refine h.write ho ha (by omega) rfl rfl fun ω1 w1 s1 h1 => rlow_ok ?_
    refine h1.write (lowN_lt d k) hk (by rw [List.length_append, low_len]; omega) rfl rfl fun ω2 w2 s2 h2 => hK ω2 w2 (s1.trans s2) ?_
    rw [← List.append_assoc]; exact h2
  cases e1 : fitsB d 14 with
  | true =>
    rw [e1, if_pos rfl] at hK
    exact cond_t rfl (two 2 2 14 (by decide) (by decide) (by decide) hK)
  | false =>
    rw [e1, if_neg (by decide)] at hK
    refine cond_f rfl (in_ok (k := 17) (by decide) (by decide) ?_)
    cases e2 : fitsB d 17 with
    | true =>
      rw [e2, if_pos rfl] at hK
      exact cond_t rfl (two 6 3 17 (by decide) (by decide) (by decide) hK)
    | false =>
      rw [e2, if_neg (by decide)] at hK
      refine cond_f rfl (in_ok (k := 20) (by decide) (by decide) ?_)
      cases e3 : fitsB d 20 with
      | true =>
        rw [e3, if_pos rfl] at hK
        exact cond_t rfl (two 14 4 20 (by decide) (by decide) (by decide) hK)
      | false =>
        rw [e3, if_neg (by decide)] at hK
        refine cond_f rfl ?_
        refine h.write (v := 15) (k := 4) (by decide) (by decide) (by omega) rfl rfl fun ω1 w1 s1 h1 => ?_
        refine h1.write (uN_lt d) (k := 64) (by decide) (by rw [List.length_append, low_len]; omega) (wrapU d) rfl fun ω2 w2 s2 h2 => hK ω2 w2 (s1.trans s2) ?_
        rw [← List.append_assoc]; exact h2

theorem low_back {z k : Nat} (hz : z < 18446744073709551616) (hk : k ≤ 64) (h : z < 2 ^ k) : lowN (IntKind.i64.wrap (z : Int)) k = z := by
  have e : uN (IntKind.i64.wrap (z : Int)) = z := by
    unfold uN
    rw [wI64']
    split <;> omega
  unfold lowN
  rw [e]
  split
  · exact Nat.mod_eq_of_lt h
  · rfl

theorem rvalue_ok (h : RfT ω w t gp gs T D V bs wn) (hwn : WinOk wn) (hV : V < 18446744073709551616) {v : Nat} (hv : v < 18446744073709551616) (hl : bs.length ≤ 8388000) {K : World → Prop}
    (hK : ∀ ω' w', Stp (Rng t 3) ω ω' w w' → RfT ω' w' t gp gs T D v (bs ++ (vform wn (v ^^^ V)).1) (vform wn (v ^^^ V)).2 → K w') : C.tocsinref08_State_value (wp gp) (wp gs) (v : Int) w K := by
  unfold C.tocsinref08_State_value
  refine ptr_at (cI_at (n := (V : Int)) (by rw [addr_add, h.st.cell]; rfl) ?_)
  rw [xor_eq hv hV]
  have hx := xor64_lt hv hV
  generalize v ^^^ V = x at *
  refine ptr_at (h.setA (by decide) (T' := T) (D' := D) (V' := v) (wn' := wn) rfl fun ω1 w1 s1 h1 => ?_)
  unfold vform at hK
  refine cond_eq (fun hz => ?_) (fun hz => ?_)
  · have : x = 0 := by omega
    subst this
    rw [if_pos rfl] at hK
    exact h1.write (v := 0) (k := 1) (by decide) (by decide) (by omega) rfl rfl fun ω2 w2 s2 h2 => hK ω2 w2 (s1.trans s2) h2
  have h0 : x ≠ 0 := by omega
  rw [if_neg h0] at hK
  refine h1.write (v := 1) (k := 1) (by decide) (by decide) (by omega) rfl rfl fun ω2 w2 s2 h2 => ?_
  refine rlead_ok hx (rtrail_ok hx h0 ?_)
  have hll := lead_le x
  have hlt := lead_trail hx h0
  have s02 := s1.trans s2
  have neu : holdsW wn x = false → C.tocsinref08_State_value.S2 K (wp gp) (wp gs) (x : Int) ((lead x : Nat) : Int) ((trail x : Nat) : Int) w2 := by
    intro hh
    rw [hh, if_neg (by decide)] at hK
    unfold C.tocsinref08_State_value.S2
    refine h2.write (v := 1) (k := 1) (by decide) (by decide) (by rw [List.length_append, low_len]; omega) rfl rfl fun ω3 w3 s3 h3 => ?_
    refine h3.write (v := lead x) (k := 5) (by omega) (by decide) (by simp only [List.length_append, low_len]; omega) (by rw [wU64_id (by omega) (by omega)]) rfl fun ω4 w4 s4 h4 => ⟨by decide, ?_⟩
    have en : IntKind.i64.wrap ((IntKind.i64.wrap ((64 : Int) - ((lead x : Nat) : Int))) - ((trail x : Nat) : Int)) = ((64 - lead x - trail x : Nat) : Int) := by
      rw [wI64 (x := 64 - ((lead x : Nat) : Int)) (by omega) (by omega), wI64 (by omega) (by omega)]; omega
    rw [en]
    refine h4.write (v := (64 - lead x - trail x) % 64) (k := 6) (by omega) (by decide) (by simp only [List.length_append, low_len]; omega) (by
      rw [show Int.tmod ((64 - lead x - trail x : Nat) : Int) (64 : Int) = (((64 - lead x - trail x) % 64 : Nat) : Int) from rfl, wU64_id (by omega) (by omega)]) rfl fun ω5 w5 s5 h5 => ⟨by rw [wU64]; omega, ?_⟩
    rw [wU64_id (by omega) (by omega), shr64 (by omega)]
    have hmid := mid_lt hx (Nat.le_refl (lead x)) (b := trail x) (by omega)
    refine h5.write (v := x / 2 ^ trail x) (k := 64 - lead x - trail x) (Nat.lt_of_le_of_lt (Nat.div_le_self _ _) hx) (by omega) (by simp only [List.length_append, low_len]; omega) rfl rfl fun ω6 w6 s6 h6 => ?_
    refine ptr_at (st_TA h6.st (by simp) fun ω7 w7 s7 b7 => ?_)
    refine ptr_at (st_TA b7 (by simp) fun ω8 w8 s8 b8 => ?_)
    have s78 := s7.trans s8
    refine hK ω8 w8 ((((((s02.trans s3).trans s4).trans s5).trans s6).trans (s78.rng (by omega) (by omega)))) ⟨b8, ?_⟩
    have := h6.str.stp s78 (beq_no (by omega)) (beq_no (by omega))
    simpa only [List.append_assoc] using this
  refine ptr_at (cI_at (n := rA wn) (by rw [addr_add, h2.st.cell]; rfl) ?_)
  refine cond_d (fun c1 => ?_) (fun c1 => neu ?_)
  · refine ptr_at (cI_at (n := rA wn) (by rw [addr_add, h2.st.cell]; rfl) ?_)
    cases wn with
    | none => exact absurd c1 (by decide)
    | some ab =>
      obtain ⟨a, b⟩ := ab
      obtain ⟨ha, hab⟩ := hwn a b rfl
      show G.cond (decide (((lead x : Nat) : Int) ≥ (a : Int))) _ _
      refine cond_d (fun c2 => ?_) (fun c2 => neu (by unfold holdsW; simp only [Bool.and_eq_false_iff, decide_eq_false_iff_not]; left; omega))
      refine ptr_at (cI_at (n := (b : Int)) (by rw [addr_add, h2.st.cell]; rfl) ?_)
      refine cond_d (fun c3 => ?_) (fun c3 => neu (by unfold holdsW; simp only [Bool.and_eq_false_iff, decide_eq_false_iff_not]; right; omega))
      have hh : holdsW (some (a, b)) x = true := by unfold holdsW; simp only [Bool.and_eq_true, decide_eq_true_eq]; omega
      rw [hh, if_pos rfl] at hK
      have kd := drew_stp ω2 w2
      have hd := h2.non kd
      refine ptr_at (cI_at (n := (a : Int)) (by rw [addr_add, hd.st.cell]; rfl) ?_)
      refine ptr_at (cI_at (n := (b : Int)) (by rw [addr_add, hd.st.cell]; rfl) ?_)
      refine hd.write (v := 0) (k := 1) (by decide) (by decide) (by rw [List.length_append, low_len]; omega) rfl rfl fun ω3 w3 s3 h3 => ?_
      refine ptr_at (cI_at (n := (b : Int)) (by rw [addr_add, h3.st.cell]; rfl) ⟨by rw [wU64]; omega, ?_⟩)
      have en : IntKind.i64.wrap ((IntKind.i64.wrap ((64 : Int) - (a : Int))) - (b : Int)) = ((64 - a - b : Nat) : Int) := by
        rw [wI64 (x := 64 - (a : Int)) (by omega) (by omega), wI64 (by omega) (by omega)]; omega
      rw [en, wU64_id (by omega) (by omega), shr64 (by omega)]
      refine rlow_ok ?_
      have hmid := mid_lt hx (a := a) (b := b) (by omega) (by omega)
      have elow : lowN (IntKind.i64.wrap ((x / 2 ^ b : Nat) : Int)) (64 - a - b) = x / 2 ^ b := by
        refine low_back ?_ ?_ hmid
        · exact Nat.lt_of_le_of_lt (Nat.div_le_self _ _) hx
        · omega
      rw [elow]
      refine h3.write (v := x / 2 ^ b) (k := 64 - a - b) (Nat.lt_of_le_of_lt (Nat.div_le_self _ _) hx) (by omega) (by simp only [List.length_append, low_len]; omega) rfl rfl fun ω4 w4 s4 h4 => ?_
      refine hK ω4 w4 (((s02.trans (kd.non _)).trans s3).trans s4) ?_
      simpa only [List.append_assoc] using h4
  · cases wn with
    | none => rfl
    | some ab =>
      obtain ⟨a, b⟩ := ab
      obtain ⟨ha, hab⟩ := hwn a b rfl
      exact absurd (show (a : Int) < 64 by omega) c1

/-! ## A sample behind others -/
def dlt (l : List Smp) : Int := match l.reverse with | b :: a :: _ => b.1 - a.1 | _ => 0
theorem lastS_rev {l : List Smp} {b : Smp} {r : List Smp} (h : l.reverse = b :: r) : lastS l = b := by
  unfold lastS
  rw [← List.head?_reverse, h]; rfl
theorem lastS_nil : lastS [] = (0, 0) := rfl
theorem lastS_snoc (l : List Smp) (s : Smp) : lastS (l ++ [s]) = s := by simp [lastS]
theorem dlt_snoc {l : List Smp} {s b : Smp} {r : List Smp} (h : l.reverse = b :: r) : dlt (l ++ [s]) = s.1 - b.1 := by
  unfold dlt
  rw [List.reverse_append, h]; rfl
theorem rput_ok {l : List Smp} (h : RfT ω w t gp gs (lastS l).1 (dlt l) (lastS l).2 bs wn) (ht : 0 < t) (hwn : WinOk wn) (hf : Fine l) {s : Smp} (h0 : 0 ≤ s.1) (h1 : s.1 ≤ 1125899906842624) (hv : s.2 < 18446744073709551616) (hl : bs.length ≤ 8380000) {n : Int} (hn : n = (l.length : Int)) {K : World → Prop}
    (hK : ∀ ω' w', Stp (Rng t 6) ω ω' w w' → RfT ω' w' t gp gs (lastS (l ++ [s])).1 (dlt (l ++ [s])) (lastS (l ++ [s])).2 (bs ++ (emit l wn s).1) (emit l wn s).2 → K w') : C.tocsinref08_State_Put (wp gp) (wp gs) n s.1 s.2 w K := by
  subst hn
  have up : ∀ {u n : Nat} {ω ω' : Tg} {w w' : World}, Stp (Rng t n) ω ω' w w' → n ≤ 6 → Stp (Rng t 6) ω ω' w w' := fun h hn => h.mono fun u hu => by
    by_cases a : t ≤ u ∧ u < t + 6
    · have : Rng t 6 u = true := by simp [Rng, Nat.ble_eq_true_of_le a.1, Nat.blt_eq.mpr a.2]
      rw [this] at hu; cases hu
    · exact rng_out (by omega)
  unfold C.tocsinref08_State_Put
  refine new_T (ω := ω) (t + 3) fun g ω1 w1 k1 b1 => ?_
  have h1' := h.non k1
  refine cF_at (b := s.2) (by rw [addr_add, b1.cell]; rfl) (fb_at ?_)
  rcases hr : l.reverse with _ | ⟨b, _ | ⟨a, r⟩⟩
  · have hl0 : l = [] := List.reverse_eq_nil_iff.1 hr
    subst hl0
    refine cond_t rfl (cI_at (n := s.1) (by rw [b1.cell]; rfl) ?_)
    refine rputI_ok (l := []) (by omega) (by omega) (Rd.nil w1 1) (by decide) fun q w2 k2 o2 => ?_
    have s2 := k2.stp ω1 (t + 4)
    have o2' := Own.tag o2 (Nat.le_refl _) ω1 (t + 4)
    rw [List.nil_append] at o2'
    have h2 := h1'.non s2
    have b2 := b1.stp s2
    have hlen := putU_len64 (zz_lt50 h0 h1)
    refine whole_ok h2.str o2' (duo_no (by omega) (by omega)) (by omega) fun ω3 w3 s3 h3 => ?_
    have r3 : RfT ω3 w3 t gp gs (lastS []).1 (dlt []) (lastS []).2 (bs ++ byteBits (putU (zz s.1))) wn := ⟨h2.st.stp s3 (duo_no (by omega) (by omega)), h3⟩
    have b3 := b2.stp s3 (duo_no (by omega) (by omega))
    refine r3.write (v := s.2) (k := 64) hv (by decide) (by rw [List.length_append, byteBits_len]; omega) rfl rfl fun ω4 w4 s4 r4 => ?_
    have b4 := b3.stp s4 (rng_out (by omega))
    refine ptr_at (r4.setA (by decide) (T' := 0) (D' := 0) (V' := s.2) (wn' := wn) rfl fun ω5 w5 s5 r5 => ?_)
    have b5 := b4.stp s5 (rng_out (by omega))
    refine cI_at (n := s.1) (by rw [b5.cell]; rfl) ?_
    refine ptr_at (r5.set (by decide) (T' := s.1) (D' := 0) (V' := s.2) (wn' := wn) rfl fun ω6 w6 s6 r6 => ?_)
    refine hK ω6 w6 (((((((k1.trans s2).non _).trans (s3.mono fun u hu => duo_rng (by omega) (by omega) (by omega) (by omega) hu)).trans (up (u := 0) s4 (by decide))).trans (up (u := 0) s5 (by decide)))).trans (up (u := 0) s6 (by decide))) ?_
    have e : emit [] wn s = (byteBits (putU (zz s.1)) ++ low s.2 64, wn) := rfl
    rw [e, ← List.append_assoc]
    exact r6
  · have hll : l = [b] := by rw [← List.reverse_reverse l, hr]; rfl
    subst hll
    have hb := hf b (List.mem_singleton.2 rfl)
    refine cond_f rfl (cond_t rfl ?_)
    have kd := drew_stp ω1 w1
    have hd := h1'.non kd
    have bd := b1.stp kd
    refine cI_at (n := s.1) (by rw [bd.cell]; rfl) (ptr_at (cI_at (n := b.1) (by rw [hd.st.cell]; rfl) ?_))
    rw [wI64 (x := s.1 - b.1) (by omega) (by omega)]
    refine ptr_at (hd.setA (by decide) (T' := b.1) (D' := s.1 - b.1) (V' := b.2) (wn' := wn) rfl fun ω2 w2 s2 r2 => ?_)
    have b2 := bd.stp s2 (rng_out (by omega))
    refine ptr_at (cI_at (n := s.1 - b.1) (by rw [addr_add, r2.st.cell]; rfl) ?_)
    rw [wrapU]
    refine rputU_ok (l := []) (uN_lt _) (Rd.nil w2 1) (by decide) fun q w3 k3 o3 => ?_
    have s3 := k3.stp ω2 (t + 4)
    have o3' := Own.tag o3 (Nat.le_refl _) ω2 (t + 4)
    rw [List.nil_append] at o3'
    have r3 := r2.non s3
    have b3 := b2.stp s3
    have hlen := putU_len64 (uN_lt (s.1 - b.1))
    refine whole_ok r3.str o3' (duo_no (by omega) (by omega)) (by omega) fun ω4 w4 s4 h4 => ?_
    have r4 : RfT ω4 w4 t gp gs b.1 (s.1 - b.1) b.2 (bs ++ byteBits (putU (uN (s.1 - b.1)))) wn := ⟨r3.st.stp s4 (duo_no (by omega) (by omega)), h4⟩
    have b4 := b3.stp s4 (duo_no (by omega) (by omega))
    refine rvalue_ok r4 hwn hb.2.2 hv (by rw [List.length_append, byteBits_len]; omega) fun ω5 w5 s5 r5 => ?_
    have b5 := b4.stp s5 (rng_out (by omega))
    refine cI_at (n := s.1) (by rw [b5.cell]; rfl) ?_
    refine ptr_at (r5.set (by decide) (T' := s.1) (D' := s.1 - b.1) (V' := s.2) (wn' := (vform wn (s.2 ^^^ b.2)).2) rfl fun ω6 w6 s6 r6 => ?_)
    refine hK ω6 w6 ((((((((k1.trans kd).non _).trans (up (u := 0) s2 (by decide))).trans (s3.non _)).trans (s4.mono fun u hu => duo_rng (by omega) (by omega) (by omega) (by omega) hu)).trans (up (u := 0) s5 (by decide)))).trans (up (u := 0) s6 (by decide))) ?_
    have e : emit [b] wn s = (byteBits (putU (uN (s.1 - b.1))) ++ (vform wn (s.2 ^^^ b.2)).1, (vform wn (s.2 ^^^ b.2)).2) := rfl
    rw [e, ← List.append_assoc]
    exact r6
  · have hll : l = r.reverse ++ [a] ++ [b] := by rw [← List.reverse_reverse l, hr]; simp
    have hb := hf b (by rw [hll]; simp)
    have ha := hf a (by rw [hll]; simp)
    have hlen : 2 ≤ l.length := by rw [hll]; simp
    have eT := lastS_rev hr
    have eD : dlt l = b.1 - a.1 := by unfold dlt; rw [hr]
    rw [eT, eD] at h1'
    refine cond_eq (fun h => by omega) (fun _ => cond_eq (fun h => by omega) (fun _ => ?_))
    have kd := drew_stp ω1 w1
    have hd := h1'.non kd
    have bd := b1.stp kd
    refine cI_at (n := s.1) (by rw [bd.cell]; rfl) (ptr_at (cI_at (n := b.1) (by rw [hd.st.cell]; rfl) (ptr_at (cI_at (n := b.1 - a.1) (by rw [addr_add, hd.st.cell]; rfl) ?_))))
    rw [wI64 (x := s.1 - b.1) (by omega) (by omega), wI64 (x := s.1 - b.1 - (b.1 - a.1)) (by omega) (by omega)]
    refine rtime_ok hd (by omega) (by omega) fun ω2 w2 s2 r2 => ?_
    have b2 := bd.stp s2 (rng_out (by omega))
    refine ptr_at (r2.setA (by decide) (T' := b.1) (D' := s.1 - b.1) (V' := b.2) (wn' := wn) rfl fun ω3 w3 s3 r3 => ?_)
    have b3 := b2.stp s3 (rng_out (by omega))
    have htl := tform_len (s.1 - b.1 - (b.1 - a.1))
    refine rvalue_ok r3 hwn hb.2.2 hv (by rw [List.length_append]; omega) fun ω5 w5 s5 r5 => ?_
    have b5 := b3.stp s5 (rng_out (by omega))
    refine cI_at (n := s.1) (by rw [b5.cell]; rfl) ?_
    refine ptr_at (r5.set (by decide) (T' := s.1) (D' := s.1 - b.1) (V' := s.2) (wn' := (vform wn (s.2 ^^^ b.2)).2) rfl fun ω6 w6 s6 r6 => ?_)
    refine hK ω6 w6 ((((((k1.trans kd).non _).trans (up (u := 0) s2 (by decide))).trans (up (u := 0) s3 (by decide))).trans (up (u := 0) s5 (by decide))).trans (up (u := 0) s6 (by decide))) ?_
    have e : emit l wn s = (tform (s.1 - b.1 - (b.1 - a.1)) ++ (vform wn (s.2 ^^^ b.2)).1, (vform wn (s.2 ^^^ b.2)).2) := by unfold emit; rw [hr]
    rw [e, ← List.append_assoc, lastS_snoc, dlt_snoc hr]
    exact r6
end Go.Proofs.YtpadehbcjkhegaaDoor.Chunk

namespace Go.Proofs.YtpadehbcjkhegaaDoor.Chunk
open Go Vm Go.RowKit Num Mem Bits Vint
variable {ω ω' : Tg} {w w' w0 : World} {t gs gp : Nat} {bs : List Bool} {wn : Win}

theorem run_take {m : List Smp} {i : Nat} (h : i < m.length) : run (m.take (i + 1)) = ((run (m.take i)).1 ++ (emit (m.take i) (run (m.take i)).2 m[i]).1, (emit (m.take i) (run (m.take i)).2 m[i]).2) := by
  rw [List.take_add_one, List.getElem?_eq_getElem h]
  exact run_snoc _ _
theorem Valid.take {m : List Smp} (h : Valid m) (i : Nat) : Valid (m.take i) := by
  rw [← List.take_append_drop i m] at h
  exact h.pre
theorem len2 {n : Nat} (h : n ≤ 120) : (#[(.int .u8 (IntKind.u8.wrap (shr .i64 ((n : Nat) : Int) (8 : Int)))), (.int .u8 (IntKind.u8.wrap ((n : Nat) : Int)))] : Array Value).toList = vBs [UInt8.ofNat (n / 256), UInt8.ofNat (n % 256)] := by
  have e := shr_nat .i64 ((n : Nat) : Int) 8 (by decide)
  have e2 : shr .i64 ((n : Nat) : Int) (8 : Int) = ((n / 256 : Nat) : Int) := by rw [show (8 : Int) = ((8 : Nat) : Int) from rfl, e]; simp
  rw [e2, wU8_id (by omega) (by omega), wU8_id (by omega) (by omega), vB_lit (by omega), vB_lit (by omega), Nat.mod_eq_of_lt (by omega)]
  rfl

theorem rbytes_ok {s : Sl} {m : List Smp} (hs : Rd w0 s 2 (smps m)) (hm : Valid m) {K : Sl → World → Prop} (hK : ∀ r w', Keep w0 w' → OwnB w' w0.heap.size r (enc m) → K r w') : C.tocsinref08_Bytes s w0 K := by
  have hsn : s.n = m.length := by have := hs.2.1; rw [smps_len] at this; omega
  have hlen := hm.len
  unfold C.tocsinref08_Bytes
  refine new_T (ω := fun _ => 0) 2 fun gs ω1 w1 k1 b1 => ?_
  unfold C.tocsinref08_New
  refine new_T (ω := ω1) 1 fun gp ω2 w2 k2 b2 => ?_
  unfold C.tocsinref08_Bytes.S9
  have top2 := ((Top.init w0).stp k1).stp k2
  have r2 : RfT ω2 w2 1 gp gs (lastS (m.take 0)).1 (dlt (m.take 0)) (lastS (m.take 0)).2 (run (m.take 0)).1 (run (m.take 0)).2 := ⟨b2, nilS, b1.stp k2, OT.nil _ _ _ _ _⟩
  refine C.tocsinref08_Bytes.L5_ind fun X hX => ?_
  have key : ∀ (d i : Nat) (ω : Tg) (w : World), i + d = m.length → Top w0 ω w → RfT ω w 1 gp gs (lastS (m.take i)).1 (dlt (m.take i)) (lastS (m.take i)).2 (run (m.take i)).1 (run (m.take i)).2 → X s (wp gs) (wp gp) s ((s.n : Nat) : Int) (i : Int) w := by
    intro d
    induction d with
    | zero =>
      intro i ω w hi top r
      refine hX _ _ _ _ _ _ _ ?_
      unfold C.tocsinref08_Bytes.S7 C.tocsinref08_Bytes.S2
      rw [show i = m.length by omega, List.take_length] at r
      refine cond_d (fun h => by omega) (fun _ => ⟨by decide, ?_⟩)
      rw [hsn]
      refine new_at ?_
      have kA := Keep.alloc w (.cells #[(.int .u8 (IntKind.u8.wrap (shr .i64 ((m.length : Nat) : Int) (8 : Int)))), (.int .u8 (IntKind.u8.wrap ((m.length : Nat) : Int)))] 5)
      have oA := newOwn (w := w) (n := 2) (len2 hlen) rfl (by decide)
      generalize w.alloc (.cells #[(.int .u8 (IntKind.u8.wrap (shr .i64 ((m.length : Nat) : Int) (8 : Int)))), (.int .u8 (IntKind.u8.wrap ((m.length : Nat) : Int)))] 5) = w1 at *
      have hrl := run_len hm
      have hpl := pk_len (run m).1
      refine sbytes_T (r.str.non (kA.stp0 ω)) (by omega) fun q w2 k2 o2 => ?_
      have k01 := Keep.trans top.k kA
      have k02 := Keep.trans k01 k2
      exact appB k02 k02.size (Mem.Own.mono (oA.keep k2) top.k.size) o2.rd (by simp only [List.length_cons, List.length_nil]; omega) fun q w3 k3 o3 => hK q w3 k3 o3
    | succ d ih =>
      intro i ω w hi top r
      have him : i < m.length := by omega
      refine hX _ _ _ _ _ _ _ ?_
      unfold C.tocsinref08_Bytes.S7
      refine cond_d (fun _ => ?_) (fun h => by omega)
      have hx : m[i]? = some m[i] := List.getElem?_eq_getElem him
      refine rdS_at (hs.keep top.k) (k := i) rfl hx fun a hc0 hc1 => cI_at hc0 <| cF_at hc1 ?_
      refine new_T (ω := ω) 8 fun g ω2 w2 k2 b2 => ?_
      refine st_T b2 (by simp) fun ω3 w3 k3 b3 => ?_
      refine st_TA b3 (by simp) fun ω4 w4 k4 b4 => ?_
      refine cI_at (n := m[i].1) (by rw [b4.cell]; rfl) <| cF_at (b := m[i].2) (by rw [addr_add, b4.cell]; rfl) ?_
      have s4 := (k2.non (Mem.One 8)).trans (k3.trans k4)
      have hmem := hm.mem m[i] (List.getElem_mem him)
      have hv := hm.take i
      have hrl := run_len hv
      have htl : (m.take i).length = i := by rw [List.length_take, Nat.min_eq_left (by omega)]
      refine rput_ok (r.stp s4 rfl rfl rfl) (by decide) (run_ok hv) hv.mem hmem.1 hmem.2.1 hmem.2.2 (by omega) (by rw [htl]) fun ω5 w5 s5 r5 => ?_
      rw [wI64 (by omega) (by omega), show (i : Int) + 1 = ((i + 1 : Nat) : Int) by omega]
      refine ih (i + 1) ω5 w5 (by omega) ((top.stp s4).stp s5) ?_
      have et : m.take (i + 1) = m.take i ++ [m[i]] := by rw [List.take_add_one, hx]; rfl
      rw [run_take him, et]
      exact r5
  exact key m.length 0 ω2 w2 (by omega) top2 r2

theorem wrong_ok {s : Sl} {m : List Smp} (hs : Rd w s 2 (smps m)) (hm : m.length ≤ 120) {x : Int} {K : Int → World → Prop} (hK : K (wrong m x) w) : C.tocsinref08_Wrong s x w K := by
  have hsn : s.n = m.length := by have := hs.2.1; rw [smps_len] at this; omega
  unfold C.tocsinref08_Wrong
  unfold wrong at hK
  refine cond_d (fun h1 => by rw [if_pos (.inl h1)] at hK; exact hK) (fun h1 => cond_d (fun h2 => by rw [if_pos (.inr h2)] at hK; exact hK) (fun h2 => ?_))
  rw [if_neg (by omega)] at hK
  have fin : late m x = false → G.cond (decide (((s.n : Nat) : Int) ≥ (120 : Int))) (K (8 : Int) w) (K (0 : Int) w) := fun hq => by
    rw [hq, if_neg (by decide)] at hK
    exact cond_d (fun h => by rw [if_pos (by omega)] at hK; exact hK) (fun h => by rw [if_neg (by omega)] at hK; exact hK)
  refine cond_d (fun h3 => ?_) (fun h3 => fin ?_)
  · obtain ⟨a, ha⟩ : ∃ a, m[m.length - 1]? = some a := ⟨_, List.getElem?_eq_getElem (by omega)⟩
    have hlast : m.getLast? = some a := by rw [List.getLast?_eq_getElem?]; exact ha
    refine rdS_at hs (k := m.length - 1) (by rw [wI64 (by omega) (by omega)]; omega) ha fun p hc0 _ => cI_at hc0 ?_
    refine cond_d (fun h4 => ?_) (fun h4 => fin ?_)
    · have : late m x = true := by unfold late; rw [hlast]; simp only [decide_eq_true_eq]; exact h4
      rw [this, if_pos rfl] at hK; exact hK
    · unfold late; rw [hlast]; simp only [decide_eq_false_iff_not]; exact h4
  · have : m = [] := List.eq_nil_of_length_eq_zero (by omega)
    subst this; rfl

theorem same_ok {a b : Sl} {m n : List Smp} (ha : Rd w0 a 2 (smps m)) (hb : Rd w0 b 2 (smps n)) (hl : m.length ≤ 9223372036854775807) {K : Bool → World → Prop}
    (hE : m = n → ∀ w', Keep w0 w' → K true w') (hN : m ≠ n → ∀ w', Keep w0 w' → K false w') : C.tocsinref08_Same a b w0 K := by
  have han : a.n = m.length := by have := ha.2.1; rw [smps_len] at this; omega
  have hbn : b.n = n.length := by have := hb.2.1; rw [smps_len] at this; omega
  unfold C.tocsinref08_Same
  refine cond_ne (fun h => hN (fun e => h (by rw [han, hbn, e])) w0 (Keep.refl w0)) (fun h => ?_)
  have hmn : m.length = n.length := by omega
  unfold C.tocsinref08_Same.S9
  refine C.tocsinref08_Same.L5_ind fun X hX => ?_
  have key : ∀ (d i : Nat) (w : World), i + d = m.length → Keep w0 w → m.take i = n.take i → X a b ((a.n : Nat) : Int) (i : Int) w := by
    intro d
    induction d with
    | zero =>
      intro i w hi k e
      refine hX _ _ _ _ _ ?_
      unfold C.tocsinref08_Same.S7 C.tocsinref08_Same.S2
      refine cond_d (fun h => by omega) (fun _ => hE ?_ w k)
      rw [List.take_of_length_le (by omega), List.take_of_length_le (by omega)] at e
      exact e
    | succ d ih =>
      intro i w hi k e
      refine hX _ _ _ _ _ ?_
      unfold C.tocsinref08_Same.S7
      have him : i < m.length := by omega
      have hin : i < n.length := by omega
      refine cond_d (fun _ => ?_) (fun h => by omega)
      have kd := Keep.trans k (Keep.drew w)
      have hx : m[i]? = some m[i] := List.getElem?_eq_getElem him
      have hy : n[i]? = some n[i] := List.getElem?_eq_getElem hin
      refine rdS_at (ha.keep kd) (k := i) rfl hx fun p hp0 hp1 => cI_at hp0 ?_
      refine rdS_at (hb.keep kd) (k := i) rfl hy fun q hq0 hq1 => cI_at hq0 ?_
      have no : m[i] ≠ n[i] → K false w.drew := fun hne => hN (fun h => hne (by subst h; rfl)) _ kd
      refine cond_ne (fun h1 => no fun h => h1 (by rw [h])) (fun h1 => ?_)
      refine rdS_at (ha.keep kd) (k := i) rfl hx fun p hp0 hp1 => cF_at hp1 ?_
      refine rdS_at (hb.keep kd) (k := i) rfl hy fun q hq0 hq1 => cF_at hq1 ?_
      refine fb_at ⟨same_refl _ _ _, fb_at ?_⟩
      refine cond_ne (fun h2 => no fun h => h2 (by rw [h])) (fun h2 => ?_)
      rw [wI64 (by omega) (by omega), show (i : Int) + 1 = ((i + 1 : Nat) : Int) by omega]
      refine ih (i + 1) _ (by omega) kd ?_
      rw [List.take_add_one, List.take_add_one, hx, hy, e, show m[i] = n[i] from Prod.ext h1 (by omega)]
  exact key m.length 0 w0 (by omega) (Keep.refl w0) rfl
end Go.Proofs.YtpadehbcjkhegaaDoor.Chunk
