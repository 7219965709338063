/- Layer 8: a value is written; a sample is put. Own work. -/
import Derived.Test.YtpadehbcjkhegaaDoorChunkP
namespace Go.Proofs.YtpadehbcjkhegaaDoor.Bits
open Go Vm Go.RowKit Num Mem
/-- The library's table, which nobody turns. -/
structure DT (ω : Tg) (w : World) : Prop where
  tab : DTab w
  z : ω 1 = 0
theorem DT.lt {ω : Tg} {w : World} (h : DT ω w) : 1 < w.heap.size := cell_lt (h.tab 0 (by decide))
theorem DT.stp {T : Nat → Bool} {ω ω' : Tg} {w w' : World} (h : DT ω w) (k : Stp T ω ω' w w') (h0 : T 0 = false := by rfl) : DT ω' w' :=
  ⟨fun j hj => by rw [World.cell?_of_block (w := w) (k.block _ h.lt (by rw [h.z]; exact h0))]; exact h.tab j hj, (k.same _ h.lt).trans h.z⟩
theorem DT.rng {t n : Nat} {ω ω' : Tg} {w w' : World} (h : DT ω w) (k : Stp (Rng t n) ω ω' w w') (ht : 0 < t) : DT ω' w' := h.stp k (rng_out (.inl ht))
theorem DT.one {t : Nat} {ω ω' : Tg} {w w' : World} (h : DT ω w) (k : Stp (One t) ω ω' w w') (ht : 0 < t) : DT ω' w' := h.stp k (beq_no (by omega))
end Go.Proofs.YtpadehbcjkhegaaDoor.Bits
namespace Go.Proofs.YtpadehbcjkhegaaDoor.Chunk
open Go Vm Go.RowKit Num Mem Bits Vint
variable {ω ω' : Tg} {w w' w0 : World} {t gc gw : Nat} {sl : Sl} {l : List Smp} {bs : List Bool} {wn : Win}

theorem same_refl (a : Addr) (n : Nat) (w : World) : sameAt a n w w := ⟨rfl, fun _ _ => rfl⟩

theorem valueNew {g : Nat} (h : CkS ω w t gc gw sl l bs wn) {x : Nat} (hx : x < 18446744073709551616) (h0 : x ≠ 0) (hb : BT ω w (t + 3) g 65 [.int .i64 ((lead x : Nat) : Int), .int .i64 ((trail x : Nat) : Int)]) (hn : bs.length + 77 ≤ 8388608) {K : World → Prop}
    (hK : ∀ ω' w', Stp (Rng t 4) ω ω' w w' → CkS ω' w' t gc gw sl l (bs ++ (low 1 1 ++ low (lead x) 5 ++ low ((64 - lead x - trail x) % 64) 6 ++ low (x / 2 ^ trail x) (64 - lead x - trail x))) (some (lead x, trail x)) → K w') :
    C.chunk_Chunk_value.S2 K (wp gc) (x : Int) (wp g) w := by
  unfold C.chunk_Chunk_value.S2
  have hlt := lead_trail hx h0
  have hl31 := lead_le x
  have hmid := mid_lt (a := lead x) (b := trail x) hx (Nat.le_refl _) (by omega)
  refine ptr_at (cI_at (n := ((lead x : Nat) : Int)) (by rw [hb.cell]; rfl) <| ptr_at <| cI_at (n := ((trail x : Nat) : Int)) (by rw [addr_add, hb.cell]; rfl) ?_)
  have en : IntKind.i64.wrap ((IntKind.i64.wrap ((64 : Int) - ((lead x : Nat) : Int))) - ((trail x : Nat) : Int)) = ((64 - lead x - trail x : Nat) : Int) := by
    rw [wI64 (x := (64 : Int) - _) (by omega) (by omega), wI64 (by omega) (by omega)]; omega
  rw [en]
  refine h.rdW (h.bits (v := 1) (k := 1) rfl (by decide) (by decide) (by omega) rfl fun ω1 w1 k1 h1 => ?_)
  have b1 := (hb.stp k1 (beq_no (by omega))).stp (drew_stp ω1 w1)
  refine h1.drew.rdW ?_
  refine ptr_at (cI_at (n := ((lead x : Nat) : Int)) (by rw [b1.cell]; rfl) ?_)
  refine h1.drew.bits (v := lead x) (k := 5) rfl (by decide) (by have : (2:Nat)^5 = 32 := rfl; omega) (by simp only [List.length_append, low_len]; omega) (by rw [wU64_id (by omega) (by omega)]) fun ω2 w2 k2 h2 => ?_
  refine h2.rdW ⟨by decide, ?_⟩
  have e6 : IntKind.u64.wrap (Int.tmod ((64 - lead x - trail x : Nat) : Int) (64 : Int)) = (((64 - lead x - trail x) % 64 : Nat) : Int) := by
    rw [show Int.tmod ((64 - lead x - trail x : Nat) : Int) (64 : Int) = (((64 - lead x - trail x) % 64 : Nat) : Int) from rfl, wU64_id (by omega) (by omega)]
  refine h2.bits (v := (64 - lead x - trail x) % 64) (k := 6) rfl (by decide) (Nat.mod_lt _ (by decide)) (by simp only [List.length_append, low_len]; omega) e6 fun ω3 w3 k3 h3 => ?_
  have b3 := ((b1.stp k2 (beq_no (by omega))).stp k3 (beq_no (by omega))).stp (drew_stp ω3 w3)
  refine h3.drew.rdW ?_
  refine ptr_at (cI_at (n := ((trail x : Nat) : Int)) (by rw [addr_add, b3.cell]; rfl) ⟨wU64_nn _, ?_⟩)
  refine mask_ok (n := 64 - lead x - trail x) (by omega) ⟨same_refl _ _ _, same_refl _ _ _, ?_⟩
  have es : shr .u64 (x : Int) (IntKind.u64.wrap ((trail x : Nat) : Int)) = ((x / 2 ^ trail x : Nat) : Int) := by rw [wU64_id (by omega) (by omega), shr64 (by omega)]
  refine h3.drew.bits (v := x / 2 ^ trail x) (k := 64 - lead x - trail x) rfl (by omega) hmid (by simp only [List.length_append, low_len]; omega) (by rw [es, and_mask hmid (by omega)]) fun ω4 w4 k4 h4 => ?_
  have b4 := b3.stp k4 (beq_no (by omega))
  refine ptr_at (cI_at (n := ((lead x : Nat) : Int)) (by rw [b4.cell]; rfl) <| cI_at (n := ((trail x : Nat) : Int)) (by rw [addr_add, b4.cell]; rfl) <| ptr_at ?_)
  refine st_TA h4.blk (by simp) fun ω5 w5 k5 b5 => ?_
  rw [addr_add, addr_add]
  refine st_T b5 (by simp) fun ω6 w6 k6 b6 => ?_
  refine ptr_at (st_TA b6 (by simp) fun ω7 w7 k7 b7 => ?_)
  have sA : Stp (Rng t 4) ω ω4 w w4 := (rng3 k1).trans (((drew_stp ω1 w1).non _).trans ((rng3 k2).trans ((rng3 k3).trans (((drew_stp ω3 w3).non _).trans (rng3 k4)))))
  have k57 := k5.trans (k6.trans k7)
  refine hK ω7 w7 (sA.trans (rng3 k57)) ⟨b7, h4.own.stp k57 (beq_no (by omega)), ?_⟩
  have := h4.wr.stp k57 (beq_no (by omega))
  simpa only [List.append_assoc] using this

theorem value_ok (h : CkS ω w t gc gw sl l bs wn) (ht : 0 < t) (hT : DT ω w) (hwn : WinOk wn) {x : Nat} (hx : x < 18446744073709551616) (hn : bs.length + 100 ≤ 8388608) {K : World → Prop}
    (hK : ∀ ω' w', Stp (Rng t 4) ω ω' w w' → CkS ω' w' t gc gw sl l (bs ++ (vform wn x).1) (vform wn x).2 → K w') : C.chunk_Chunk_value (wp gc) (x : Int) w K := by
  unfold C.chunk_Chunk_value
  refine cond_eq (fun hz => ?_) (fun hz => ?_)
  · refine h.rdW (h.bits (v := 0) (k := 1) rfl (by decide) (by decide) (by omega) rfl fun ω1 w1 k1 h1 => ?_)
    have e : vform wn x = (low 0 1, wn) := by unfold vform; rw [if_pos (by omega)]
    rw [e] at hK
    exact hK ω1 w1 (rng3 k1) h1
  have h0 : x ≠ 0 := by omega
  have hlt := lead_trail hx h0
  have hl31 := lead_le x
  have hbl := bitLen_le x
  refine h.rdW (h.bits (v := 1) (k := 1) rfl (by decide) (by decide) (by omega) rfl fun ω1 w1 k1 h1 => ?_)
  refine leading_ok hx (trailing_ok hx h0 (hT.one k1 (by omega)).tab ?_)
  refine new_T (ω := ω1) (t + 3) fun g ω2 w2 k2 b2 => ?_
  have el : (if (31 : Int) < ((64 - Lib.bitLen x : Nat) : Int) then (31 : Int) else ((64 - Lib.bitLen x : Nat) : Int)) = ((lead x : Nat) : Int) := by
    unfold lead
    by_cases hq : 31 < 64 - Lib.bitLen x
    · rw [if_pos (by omega), Nat.min_eq_right (by omega)]; rfl
    · rw [if_neg (by omega), Nat.min_eq_left (by omega)]
  rw [el]
  refine st_T b2 (by simp) fun ω3 w3 k3 b3 => ?_
  refine st_TA b3 (by simp) fun ω4 w4 k4 b4 => ?_
  have s4' : Stp (One (t + 3)) ω1 ω4 w1 w4 := (k2.non _).trans (k3.trans k4)
  have h4 := (h1.loc s4').drew
  have b4 := b4.stp (drew_stp ω4 w4)
  have s4 : Stp (Rng t 4) ω ω4 w w4.drew := (rng3 k1).trans ((rng3 s4').trans ((drew_stp ω4 w4).non _))
  have new : holdsW wn x = false → C.chunk_Chunk_value.S2 K (wp gc) (x : Int) (wp g) w4.drew := fun hh => by
    refine valueNew h4 hx h0 b4 (by simp only [List.length_append, low_len]; omega) fun ω5 w5 s5 h5 => hK ω5 w5 (s4.trans s5) ?_
    have e : vform wn x = (low 1 1 ++ low 1 1 ++ low (lead x) 5 ++ low ((64 - lead x - trail x) % 64) 6 ++ low (x / 2 ^ trail x) (64 - lead x - trail x), some (lead x, trail x)) := by
      unfold vform; rw [if_neg h0, hh, if_neg (by decide)]
    rw [e]
    simpa only [List.append_assoc] using h5
  refine ptr_at (cB_at (b := wn.isSome) (by rw [addr_add, h4.blk.cell]; rfl) ?_)
  cases wn with
  | none => exact cond_f rfl (new rfl)
  | some ab =>
    obtain ⟨a, b⟩ := ab
    obtain ⟨ha31, hab⟩ := hwn a b rfl
    refine cond_t rfl ?_
    refine cI_at (n := ((lead x : Nat) : Int)) (by rw [b4.cell]; rfl) <| ptr_at <| cI_at (n := (a : Int)) (by rw [addr_add, h4.blk.cell]; rfl) ?_
    refine cond_d (fun hla => ?_) (fun hla => new (by unfold holdsW; simp; omega))
    refine cI_at (n := ((trail x : Nat) : Int)) (by rw [addr_add, b4.cell]; rfl) <| ptr_at <| cI_at (n := (b : Int)) (by rw [addr_add, addr_add, h4.blk.cell]; rfl) ?_
    refine cond_d (fun hlb => ?_) (fun hlb => new (by unfold holdsW; simp; omega))
    have hh : holdsW (some (a, b)) x = true := by unfold holdsW; simp; omega
    have hmid := mid_lt (a := a) (b := b) hx (by omega) (by omega)
    have h5 := h4.drew
    refine ptr_at (cI_at (n := (a : Int)) (by rw [addr_add, h5.blk.cell]; rfl) <| ptr_at <| cI_at (n := (b : Int)) (by rw [addr_add, addr_add, h5.blk.cell]; rfl) ?_)
    have en : IntKind.i64.wrap ((IntKind.i64.wrap ((64 : Int) - (a : Int))) - (b : Int)) = ((64 - a - b : Nat) : Int) := by
      rw [wI64 (x := (64 : Int) - _) (by omega) (by omega), wI64 (by omega) (by omega)]; omega
    rw [en]
    refine h5.rdW (h5.bits (v := 0) (k := 1) rfl (by decide) (by decide) (by simp only [List.length_append, low_len]; omega) rfl fun ω6 w6 k6 h6 => ?_)
    refine h6.drew.rdW ?_
    refine ptr_at (cI_at (n := (b : Int)) (by rw [addr_add, addr_add, h6.drew.blk.cell]; rfl) ⟨wU64_nn _, ?_⟩)
    refine mask_ok (n := 64 - a - b) (by omega) ⟨same_refl _ _ _, same_refl _ _ _, ?_⟩
    have es : shr .u64 (x : Int) (IntKind.u64.wrap (b : Int)) = ((x / 2 ^ b : Nat) : Int) := by rw [wU64_id (by omega) (by omega), shr64 (by omega)]
    refine h6.drew.bits (v := x / 2 ^ b) (k := 64 - a - b) rfl (by omega) hmid (by simp only [List.length_append, low_len]; omega) (by rw [es, and_mask hmid (by omega)]) fun ω7 w7 k7 h7 => ?_
    have e : vform (some (a, b)) x = (low 1 1 ++ low 0 1 ++ low (x / 2 ^ b) (64 - a - b), some (a, b)) := by
      unfold vform; rw [if_neg h0, hh, if_pos rfl]
    rw [e] at hK
    refine hK ω7 w7 (s4.trans (((drew_stp _ _).non _).trans ((rng3 k6).trans (((drew_stp _ _).non _).trans (rng3 k7))))) ?_
    simpa only [List.append_assoc] using h7
end Go.Proofs.YtpadehbcjkhegaaDoor.Chunk
