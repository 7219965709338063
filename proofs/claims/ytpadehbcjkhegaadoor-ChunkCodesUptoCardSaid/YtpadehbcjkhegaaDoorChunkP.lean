/- Layer 8: a chunk is written. Own work. -/
import Derived.Test.YtpadehbcjkhegaaDoorChunkS
namespace Go.Proofs.YtpadehbcjkhegaaDoor.Mem
open Go Vm Go.RowKit Num
/-- Tags from t on, n of them. -/
abbrev Rng (t n : Nat) : Nat → Bool := fun u => Nat.ble t u && Nat.blt u (t + n)
theorem rng_in {t n s : Nat} (h1 : t ≤ s) (h2 : s < t + n) {u : Nat} (h : Rng t n u = false) : One s u = false := by
  cases hb : Nat.beq u s with
  | false => exact hb
  | true =>
    have e : u = s := Nat.eq_of_beq_eq_true hb
    subst e
    have a : Nat.ble t u = true := Nat.ble_eq_true_of_le h1
    have b : Nat.blt u (t + n) = true := Nat.blt_eq.mpr h2
    simp [Rng, a, b] at h
theorem Stp.rng {s t n : Nat} {ω ω' : Tg} {w w' : World} (h : Stp (One s) ω ω' w w') (h1 : t ≤ s) (h2 : s < t + n) : Stp (Rng t n) ω ω' w w' := h.mono fun _ hu => rng_in h1 h2 hu
theorem rng_out {t n u : Nat} (h : u < t ∨ t + n ≤ u) : Rng t n u = false := by
  cases a : Nat.ble t u
  · simp [Rng, a]
  · cases b : Nat.blt u (t + n)
    · simp [Rng, b]
    · have := Nat.le_of_ble_eq_true a
      have := Nat.blt_eq.mp b
      omega
end Go.Proofs.YtpadehbcjkhegaaDoor.Mem
namespace Go.Proofs.YtpadehbcjkhegaaDoor.Chunk
open Go Vm Go.RowKit Num Mem Bits Vint

theorem tiS : TI Tryd.prog 24 26 2 16 := TI.of (z := .agg #[.int .i64 0, .float .f64 0]) (by kernel_rfl) (by kernel_rfl) rfl (by decide)
abbrev OS (ω : Tg) (w : World) (t : Nat) (s : Sl) (l : List Smp) : Prop := OT ω w t 26 2 s (smps l)
theorem OS.len {ω : Tg} {w : World} {t : Nat} {s : Sl} {l : List Smp} (h : OS ω w t s l) : s.n = l.length := by
  have := h.own.1
  rw [smps_len] at this
  omega
abbrev OBy (ω : Tg) (w : World) (t : Nat) (s : Sl) (l : List UInt8) : Prop := OT ω w t 5 1 s (vBs l)
theorem OBy.len {ω : Tg} {w : World} {t : Nat} {s : Sl} {l : List UInt8} (h : OBy ω w t s l) : s.n = l.length := OwnB.len h.own

def winA : Win → Int | some (a, _) => (a : Int) | none => 0
def winB : Win → Int | some (_, b) => (b : Int) | none => 0
/-- A chunk, of the tags t, t + 1 (samples), t + 2 (its writer). -/
structure CkS (ω : Tg) (w : World) (t gc gw : Nat) (sl : Sl) (l : List Smp) (bs : List Bool) (wn : Win) : Prop where
  blk : BT ω w t gc 67 [sl.v, .pointer (wp gw), .int .i64 (winA wn), .int .i64 (winB wn), .bool wn.isSome]
  own : OS ω w (t + 1) sl l
  wr : WrT ω w (t + 2) gw bs
variable {ω ω' : Tg} {w w' w0 : World} {t gc gw : Nat} {sl : Sl} {l : List Smp} {bs : List Bool} {wn : Win}
theorem CkS.stp {T : Nat → Bool} (h : CkS ω w t gc gw sl l bs wn) (k : Stp T ω ω' w w') (n0 : T t = false) (n1 : T (t + 1) = false) (n2 : T (t + 2) = false) : CkS ω' w' t gc gw sl l bs wn :=
  ⟨h.blk.stp k n0, h.own.stp k n1, h.wr.stp k n2⟩
theorem CkS.non (h : CkS ω w t gc gw sl l bs wn) (k : Stp Non ω ω' w w') : CkS ω' w' t gc gw sl l bs wn := h.stp k rfl rfl rfl
theorem CkS.drew (h : CkS ω w t gc gw sl l bs wn) : CkS ω w.drew t gc gw sl l bs wn := h.non (drew_stp ω w)
/-- A tag apart. -/
theorem CkS.loc (h : CkS ω w t gc gw sl l bs wn) (k : Stp (One (t + 3)) ω ω' w w') : CkS ω' w' t gc gw sl l bs wn := h.stp k (beq_no (by omega)) (beq_no (by omega)) (beq_no (by omega))
theorem CkS.rdW (h : CkS ω w t gc gw sl l bs wn) {K : Option Addr → Prop} (hK : K (wp gw)) : G.ptr (wp gc) fun p => G.cP (p.add 1) w K := ptr_at (cP_at (by rw [addr_add, h.blk.cell]; rfl) hK)
theorem CkS.rdL (h : CkS ω w t gc gw sl l bs wn) {K : Sl → Prop} (hK : K sl) : G.ptr (wp gc) fun p => G.cSl p w K := ptr_at (cSl_at (by rw [h.blk.cell]; rfl) hK)
theorem CkS.bits (h : CkS ω w t gc gw sl l bs wn) {v k : Nat} {m x : Int} (hm : m = (k : Int)) (hk : k ≤ 64) (hv : v < 2 ^ k) (hn : bs.length + k ≤ 8388608) (hx : x = (v : Int)) {K : Int → World → Prop}
    (hK : ∀ ω' w', Stp (One (t + 2)) ω ω' w w' → CkS ω' w' t gc gw sl l (bs ++ low v k) wn → K 0 w') : C.bits_Writer_Bits (wp gw) x m w K :=
  bits_T h.wr hm hk hv hn hx fun ω' w' k h' => hK ω' w' k ⟨h.blk.stp k (beq_no (by omega)), h.own.stp k (beq_no (by omega)), h'⟩

theorem bytes_ok (h : CkS ω w t gc gw sl l bs wn) {b : Sl} {m : List UInt8} (hb : OBy ω w (t + 3) b m) (hn : bs.length + 8 * m.length ≤ 8388608) {K : World → Prop}
    (hK : ∀ ω' w', Stp (One (t + 2)) ω ω' w w' → CkS ω' w' t gc gw sl l (bs ++ byteBits m) wn → K w') : C.chunk_Chunk_bytes (wp gc) b w K := by
  unfold C.chunk_Chunk_bytes
  refine C.chunk_Chunk_bytes.L3_ind fun X hX => ?_
  have hbn := hb.len
  have key : ∀ (d i : Nat) (ω' : Tg) (w' : World), d + i = m.length → Stp (One (t + 2)) ω ω' w w' → OBy ω' w' (t + 3) b m → CkS ω' w' t gc gw sl l (bs ++ byteBits (m.take i)) wn → X (wp gc) b ((b.n : Nat) : Int) (i : Int) w' := by
    intro d
    induction d with
    | zero =>
      intro i ω' w' hi k hb' h'
      refine hX _ _ _ _ _ ?_
      unfold C.chunk_Chunk_bytes.S5
      refine cond_d (fun h => by omega) (fun _ => hK ω' w' k ?_)
      rwa [show i = m.length by omega, List.take_length] at h'
    | succ d ih =>
      intro i ω' w' hi k hb' h'
      have him : i < m.length := by omega
      refine hX _ _ _ _ _ ?_
      unfold C.chunk_Chunk_bytes.S5
      refine cond_d (fun _ => ?_) (fun h => by omega)
      refine RdB.at_ hb'.rd him ?_
      refine h'.rdW ?_
      have hlt := m[i].toNat_lt
      have htl : (m.take i).length = i := by rw [List.length_take, Nat.min_eq_left (by omega)]
      refine h'.bits (v := m[i].toNat) (k := 8) rfl (by decide) hlt (by rw [List.length_append, byteBits_len, htl]; omega) (by rw [wU64_id (by omega) (by omega)]) fun ω2 w2 k2 h2 => ?_
      rw [wI64 (by omega) (by omega), show (i : Int) + 1 = ((i + 1 : Nat) : Int) by omega]
      refine ih (i + 1) ω2 w2 (by omega) (k.trans k2) (hb'.stp k2 (beq_no (by omega))) ?_
      have e : byteBits (m.take (i + 1)) = byteBits (m.take i) ++ low m[i].toNat 8 := by
        rw [List.take_add_one, List.getElem?_eq_getElem him]
        unfold byteBits
        rw [List.flatMap_append]
        simp
      rw [e, ← List.append_assoc]
      exact h2
  exact key m.length 0 ω w (by omega) (Stp.refl _ _ _) hb (by simpa [byteBits] using h)

/-- The table of forms. -/
def formA (i : Nat) : Nat := [2, 3, 4].getD i 0
def formO (i : Nat) : Nat := [2, 6, 14].getD i 0
def formW (i : Nat) : Nat := [14, 17, 20].getD i 0
/-- From form i on, k of them left. -/
def tfrom (d : Int) : Nat → Nat → List Bool
  | 0, _ => low 15 4 ++ low (uN d) 64
  | k + 1, i => if fitsB d (formW i) then low (formO i) (formA i) ++ low (lowN d (formW i)) (formW i) else tfrom d k (i + 1)
theorem tform_from (d : Int) (h : d ≠ 0) : tform d = tfrom d 3 0 := by
  unfold tform
  rw [if_neg h]
  rfl
theorem tfrom_len (d : Int) : ∀ k i, i + k = 3 → (tfrom d k i).length ≤ 68 := by
  intro k i h
  have : ∀ j : Fin 3, formA j.val + formW j.val ≤ 68 := by decide
  induction k generalizing i with
  | zero => simp [tfrom, low_len]
  | succ k ih =>
    rw [tfrom]
    split
    · have := this ⟨i, by omega⟩
      simp only [List.length_append, low_len]
      exact this
    · exact ih (i + 1) (by omega)

theorem wU64_nn (x : Int) : 0 ≤ IntKind.u64.wrap x := by rw [wU64]; omega
theorem rng3 {u : Nat} {t : Nat} {ω ω' : Tg} {w w' : World} (h : Stp (One u) ω ω' w w') (h1 : t ≤ u := by omega) (h2 : u < t + 4 := by omega) : Stp (Rng t 4) ω ω' w w' := h.rng h1 h2

theorem forms_at (i : Nat) (hi : i < 3) : (#[(.int .i64 (2 : Int)), (.int .i64 (2 : Int)), (.int .i64 (14 : Int)), (.int .i64 (3 : Int)), (.int .i64 (6 : Int)), (.int .i64 (17 : Int)), (.int .i64 (4 : Int)), (.int .i64 (14 : Int)), (.int .i64 (20 : Int))] : Array Value)[((i : Nat) : Int).toNat * 3 + 0]? = some (.int .i64 (formA i : Nat)) ∧
    (#[(.int .i64 (2 : Int)), (.int .i64 (2 : Int)), (.int .i64 (14 : Int)), (.int .i64 (3 : Int)), (.int .i64 (6 : Int)), (.int .i64 (17 : Int)), (.int .i64 (4 : Int)), (.int .i64 (14 : Int)), (.int .i64 (20 : Int))] : Array Value)[((i : Nat) : Int).toNat * 3 + 1]? = some (.int .i64 (formO i : Nat)) ∧
    (#[(.int .i64 (2 : Int)), (.int .i64 (2 : Int)), (.int .i64 (14 : Int)), (.int .i64 (3 : Int)), (.int .i64 (6 : Int)), (.int .i64 (17 : Int)), (.int .i64 (4 : Int)), (.int .i64 (14 : Int)), (.int .i64 (20 : Int))] : Array Value)[((i : Nat) : Int).toNat * 3 + 2]? = some (.int .i64 (formW i : Nat)) := by
  match i, hi with
  | 0, _ => exact ⟨rfl, rfl, rfl⟩
  | 1, _ => exact ⟨rfl, rfl, rfl⟩
  | 2, _ => exact ⟨rfl, rfl, rfl⟩

theorem time_ok (h : CkS ω w t gc gw sl l bs wn) {d : Int} (hn : bs.length + 68 ≤ 8388608) {K : World → Prop}
    (hK : ∀ ω' w', Stp (Rng t 4) ω ω' w w' → CkS ω' w' t gc gw sl l (bs ++ tform d) wn → K w') : C.chunk_Chunk_time (wp gc) d w K := by
  unfold C.chunk_Chunk_time C.chunk_Chunk_time.S8
  -- the local table
  refine new_T (ω := ω) (t + 3) fun g ω1 w1 k1 b1 => ?_
  have s1 : Stp (One (t + 3)) ω ω1 w w1 := k1.non _
  refine st_T b1 (by simp) fun ω2 w2 k2 b2 => ?_
  refine st_TA b2 (by simp) fun ω3 w3 k3 b3 => ?_
  refine st_TA b3 (by simp) fun ω4 w4 k4 b4 => ?_
  refine st_TA b4 (by simp) fun ω5 w5 k5 b5 => ?_
  refine st_TA b5 (by simp) fun ω6 w6 k6 b6 => ?_
  refine st_TA b6 (by simp) fun ω7 w7 k7 b7 => ?_
  refine st_TA b7 (by simp) fun ω8 w8 k8 b8 => ?_
  refine st_TA b8 (by simp) fun ω9 w9 k9 b9 => ?_
  refine st_TA b9 (by simp) fun ωa wa ka ba => ?_
  have sa : Stp (One (t + 3)) ω ωa w wa := s1.trans (k2.trans (k3.trans (k4.trans (k5.trans (k6.trans (k7.trans (k8.trans (k9.trans ka))))))))
  have ha := h.loc sa
  have sa := rng3 (t := t) sa
  refine cond_eq (fun hd => ?_) (fun hd => ?_)
  · refine ha.rdW (ha.bits (v := 0) (k := 1) rfl (by decide) (by decide) (by omega) rfl fun ωb wb kb hb => ?_)
    refine hK ωb wb (sa.trans (rng3 kb)) ?_
    have : tform d = low 0 1 := by unfold tform; rw [if_pos hd]
    rw [this]; exact hb
  refine cI_at (n := 2) (by rw [ba.cell]; rfl) <| cI_at (n := 2) (by rw [addr_add, ba.cell]; rfl) <| cI_at (n := 14) (by rw [addr_add, ba.cell]; rfl) <| cI_at (n := 3) (by rw [addr_add, ba.cell]; rfl) <| cI_at (n := 6) (by rw [addr_add, ba.cell]; rfl) <| cI_at (n := 17) (by rw [addr_add, ba.cell]; rfl) <|
    cI_at (n := 4) (by rw [addr_add, ba.cell]; rfl) <| cI_at (n := 14) (by rw [addr_add, ba.cell]; rfl) <| cI_at (n := 20) (by rw [addr_add, ba.cell]; rfl) ?_
  refine C.chunk_Chunk_time.L4_ind fun X hX => ?_
  rw [tform_from d hd] at hK
  clear b1 b2 b3 b4 b5 b6 b7 b8 b9 ba
  have key : ∀ (k i : Nat) (ω' : Tg) (w' : World), i + (k + 1) = 3 → Stp (Rng t 4) ω ω' w w' → CkS ω' w' t gc gw sl l bs wn → (∀ ω' w', Stp (Rng t 4) ω ω' w w' → CkS ω' w' t gc gw sl l (bs ++ tfrom d (k + 1) i) wn → K w') → X (wp gc) d 2 2 14 3 6 17 4 14 20 (i : Int) w' := by
    intro k
    induction k with
    | zero =>
      intro i ω' w' hi s h hK
      have hi2 : i = 2 := by omega
      subst hi2
      refine hX _ _ _ _ _ _ _ _ _ _ _ _ _ ?_
      unfold C.chunk_Chunk_time.S6
      refine cond_d (fun _ => ⟨⟨by omega, by omega⟩, ?_⟩) (fun h => absurd h (by decide))
      obtain ⟨f0, f1, f2⟩ := forms_at 2 (by decide)
      refine ⟨_, f0, _, f1, _, f2, ?_⟩
      refine new_T (ω := ω') (t + 3) fun g ω1 w1 k1 b1 => ?_
      refine st_T b1 (by simp) fun ω2 w2 k2 b2 => ?_
      refine st_TA b2 (by simp) fun ω3 w3 k3 b3 => ?_
      refine st_TA b3 (by simp) fun ω4 w4 k4 b4 => ?_
      have s4' : Stp (One (t + 3)) ω' ω4 w' w4 := (k1.non _).trans (k2.trans (k3.trans k4))
      have h4 := h.loc s4'
      have s4 := s.trans (rng3 s4')
      refine cI_at (n := 20) (by rw [addr_add, b4.cell]; rfl) ⟨wU64_nn _, ?_⟩
      refine fits_cond (k := 20) (by decide) (by decide) (fun hf => ?_) (fun hf => ?_)
      · refine h4.drew.rdW ?_
        have bd := b4.stp (drew_stp ω4 w4)
        refine cI_at (n := 14) (by rw [addr_add, bd.cell]; rfl) <| cI_at (n := 4) (by rw [bd.cell]; rfl) ?_
        refine h4.drew.bits (v := 14) (k := 4) rfl (by decide) (by decide) (by omega) rfl fun ω5 w5 k5 h5 => ?_
        have s5 := s4.trans (((drew_stp ω4 w4).non _).trans (rng3 k5))
        have b5 := (bd.stp k5 (beq_no (by omega))).stp (drew_stp ω5 w5)
        refine h5.drew.rdW ?_
        refine cI_at (n := 20) (by rw [addr_add, b5.cell]; rfl) ⟨wU64_nn _, cI_at (n := 20) (by rw [addr_add, b5.cell]; rfl) ?_⟩
        have hl := low_and (n := d) (k := 20) (by decide)
        refine h5.drew.bits (v := lowN d 20) (k := 20) rfl (by decide) (lowN_lt2 d (by decide)) (by simp only [List.length_append, low_len]; omega) hl fun ω6 w6 k6 h6 => ?_
        refine hK ω6 w6 (s5.trans (((drew_stp ω5 w5).non _).trans (rng3 k6))) ?_
        have : tfrom d (0 + 1) 2 = low 14 4 ++ low (lowN d 20) 20 := by
          rw [tfrom, show formW 2 = 20 from rfl, hf, if_pos rfl]; rfl
        rw [this, ← List.append_assoc]; exact h6
      · refine cI_at (n := 20) (by rw [addr_add, b4.cell]; rfl) (cond_t rfl ?_)
        refine h4.rdW (h4.bits (v := 15) (k := 4) rfl (by decide) (by decide) (by omega) rfl fun ω5 w5 k5 h5 => ?_)
        refine h5.rdW (h5.bits (v := uN d) (k := 64) rfl (by decide) (uN_lt d) (by simp only [List.length_append, low_len]; omega) (wrapU d) fun ω6 w6 k6 h6 => ?_)
        refine hX _ _ _ _ _ _ _ _ _ _ _ _ _ ?_
        unfold C.chunk_Chunk_time.S6
        refine cond_f rfl (hK ω6 w6 (s4.trans ((rng3 k5).trans (rng3 k6))) ?_)
        have : tfrom d (0 + 1) 2 = low 15 4 ++ low (uN d) 64 := by
          rw [tfrom, show formW 2 = 20 from rfl, hf, if_neg (by decide)]; rfl
        rw [this, ← List.append_assoc]; exact h6
    | succ k ih =>
      intro i ω' w' hi s h hK
      have hi3 : i < 3 := by omega
      refine hX _ _ _ _ _ _ _ _ _ _ _ _ _ ?_
      unfold C.chunk_Chunk_time.S6
      refine cond_d (fun _ => ⟨⟨by omega, by omega⟩, ?_⟩) (fun h => by omega)
      obtain ⟨f0, f1, f2⟩ := forms_at i hi3
      refine ⟨_, f0, _, f1, _, f2, ?_⟩
      have hw : 0 < formW i ∧ formW i ≤ 17 ∧ formA i ≤ 4 ∧ formO i < 2 ^ formA i := (show ∀ j : Fin 2, 0 < formW j.val ∧ formW j.val ≤ 17 ∧ formA j.val ≤ 4 ∧ formO j.val < 2 ^ formA j.val by decide) ⟨i, by omega⟩
      refine new_T (ω := ω') (t + 3) fun g ω1 w1 k1 b1 => ?_
      refine st_T b1 (by simp) fun ω2 w2 k2 b2 => ?_
      refine st_TA b2 (by simp) fun ω3 w3 k3 b3 => ?_
      refine st_TA b3 (by simp) fun ω4 w4 k4 b4 => ?_
      have s4' : Stp (One (t + 3)) ω' ω4 w' w4 := (k1.non _).trans (k2.trans (k3.trans k4))
      have h4 := h.loc s4'
      have s4 := s.trans (rng3 s4')
      refine cI_at (n := ((formW i : Nat) : Int)) (by rw [addr_add, b4.cell]; rfl) ⟨wU64_nn _, ?_⟩
      refine fits_cond (k := formW i) hw.1 (by omega) (fun hf => ?_) (fun hf => ?_)
      · refine h4.drew.rdW ?_
        have bd := b4.stp (drew_stp ω4 w4)
        refine cI_at (n := ((formO i : Nat) : Int)) (by rw [addr_add, bd.cell]; rfl) <| cI_at (n := ((formA i : Nat) : Int)) (by rw [bd.cell]; rfl) ?_
        have ho : formO i < 18446744073709551616 := Nat.lt_of_lt_of_le hw.2.2.2 (Nat.pow_le_pow_right (by decide : 0 < 2) (by omega : formA i ≤ 64))
        refine h4.drew.bits (v := formO i) (k := formA i) rfl (by omega) hw.2.2.2 (by omega) (by rw [wU64_id (by omega) (by omega)]) fun ω5 w5 k5 h5 => ?_
        have s5 := s4.trans (((drew_stp ω4 w4).non _).trans (rng3 k5))
        have b5 := (bd.stp k5 (beq_no (by omega))).stp (drew_stp ω5 w5)
        refine h5.drew.rdW ?_
        refine cI_at (n := ((formW i : Nat) : Int)) (by rw [addr_add, b5.cell]; rfl) ⟨wU64_nn _, cI_at (n := ((formW i : Nat) : Int)) (by rw [addr_add, b5.cell]; rfl) ?_⟩
        have hl := low_and (n := d) (k := formW i) (by omega)
        refine h5.drew.bits (v := lowN d (formW i)) (k := formW i) rfl (by omega) (lowN_lt2 d (by omega)) (by simp only [List.length_append, low_len]; omega) hl fun ω6 w6 k6 h6 => ?_
        refine hK ω6 w6 (s5.trans (((drew_stp ω5 w5).non _).trans (rng3 k6))) ?_
        rw [tfrom, if_pos hf, ← List.append_assoc]; exact h6
      · have hne : formW i ≠ 20 := by omega
        refine cI_at (n := ((formW i : Nat) : Int)) (by rw [addr_add, b4.cell]; rfl) (cond_f (by simp; omega) ?_)
        rw [wI64 (by omega) (by omega), show (i : Int) + 1 = ((i + 1 : Nat) : Int) by omega]
        refine ih (i + 1) ω4 w4 (by omega) s4 h4 fun ω5 w5 s5 h5 => hK ω5 w5 s5 ?_
        rw [tfrom, if_neg (by rw [hf]; decide)]; exact h5
  exact key 2 0 ωa wa rfl sa ha hK
end Go.Proofs.YtpadehbcjkhegaaDoor.Chunk
