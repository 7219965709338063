/- From a call's own tags to those of the whole; tags that nothing bears yet. Own work. -/
import Derived.Test.YtfkpehcbijgmnaaGreatDoorRowT
import Derived.Test.YtfkpehcbijgmnaaGreatDoorMapV
namespace Go.Proofs.YtfkpehcbijgmnaaGreatDoor.Mem
open Go Vm Go.RowKit Num
variable {ω ω' ω'' ωl : Tg} {w w' w'' : World} {t u g : Nat} {T : Nat → Bool} {e : TypeId} {sz : Nat} {s : Sl} {xs : List Value}

/-- New blocks bear what f says of the tags that they had. -/
def rtg (ω ωl : Tg) (n : Nat) (f : Nat → Nat) : Tg := fun k => if k < n then ω k else f (ωl k)
theorem rtg_new {n : Nat} {f : Nat → Nat} {k v : Nat} (h : n ≤ k) (hv : ωl k = v) : rtg ω ωl n f k = f v := by unfold rtg; rw [if_neg (by omega), hv]
theorem rtg_stp (k : Keep w w') (ω ωl : Tg) (f : Nat → Nat) : Stp Non ω (rtg ω ωl w.heap.size f) w w' := ⟨k.os, k.tape, k.output, k.size, fun i hi => by unfold rtg; rw [if_pos hi], fun i hi _ => k.block i hi⟩
theorem Top.ge {v : Nat} (top : Top w ω' w') {k : Nat} (h : ω' k = v) (hv : v ≠ 0) : w.heap.size ≤ k := by
  rcases Nat.lt_or_ge k w.heap.size with hlt | hge
  · rw [top.z k hlt] at h; exact absurd h.symm hv
  · exact hge
theorem BT.rtg {cs : List Value} (h : BT ωl w' u g e cs) (top : Top w ωl w') (f : Nat → Nat) (hu : u ≠ 0 := by decide) : BT (rtg ω ωl w.heap.size f) w' (f u) g e cs := ⟨h.blk, rtg_new (top.ge h.tag hu) h.tag⟩
theorem OT.rtg (h : OT ωl w' u e sz s xs) (top : Top w ωl w') (f : Nat → Nat) (hu : u ≠ 0 := by decide) : OT (rtg ω ωl w.heap.size f) w' (f u) e sz s xs := ⟨h.own, fun k hk => rtg_new (top.ge (h.tag k hk) hu) (h.tag k hk)⟩
theorem RT.rtg (h : RT ωl w' u s sz xs) (top : Top w ωl w') (f : Nat → Nat) (hu : u ≠ 0 := by decide) : RT (rtg ω ωl w.heap.size f) w' (f u) s sz xs := ⟨h.rd, fun g o ha hne => rtg_new (top.ge (h.tag g o ha hne) hu) (h.tag g o ha hne)⟩
theorem MV.rtg {al : AL} (h : MV ωl w' u g al) (top : Top w ωl w') (f : Nat → Nat) (hu : u ≠ 0 := by decide) : MV (rtg ω ωl w.heap.size f) w' (f u) g al := ⟨h.ex, rtg_new (top.ge h.tag hu) h.tag⟩
/-- A tag that nothing bears yet. -/
theorem fresh (ω : Tg) (n m : Nat) : ∃ v, m < v ∧ ∀ k, k < n → ω k ≠ v := by
  induction n with
  | zero => exact ⟨m + 1, by omega, fun k hk => absurd hk (Nat.not_lt_zero _)⟩
  | succ n ih =>
    obtain ⟨b, hb⟩ : ∃ b, ∀ k, k < n + 1 → ω k ≤ b := by
      clear ih
      induction n with
      | zero => exact ⟨ω 0, fun k hk => by have : k = 0 := by omega
                                           rw [this]; exact Nat.le_refl _⟩
      | succ n ih =>
        obtain ⟨b, hb⟩ := ih
        refine ⟨max b (ω (n + 1)), fun k hk => ?_⟩
        rcases Nat.lt_succ_iff_lt_or_eq.1 hk with h | rfl
        · exact Nat.le_trans (hb k h) (Nat.le_max_left ..)
        · exact Nat.le_max_right ..
    exact ⟨max m b + 1, by omega, fun k hk e => by have := hb k hk; omega⟩
/-- What turns blocks of such a tag alone turns nothing of what was there. -/
theorem Stp.fresh {v : Nat} (h : Stp T ω ω' w w') (k : Stp (One v) ω' ω'' w' w'') (hv : ∀ i, i < w.heap.size → ω i ≠ v) : Stp T ω ω'' w w'' :=
  ⟨k.os.trans h.os, k.tape.trans h.tape, k.output.trans h.output, Nat.le_trans h.size k.size, fun i hi => (k.same i (Nat.lt_of_lt_of_le hi h.size)).trans (h.same i hi), fun i hi hT => by
    rw [k.block i (Nat.lt_of_lt_of_le hi h.size) (by rw [h.same i hi]; exact beq_no (hv i hi))]
    exact h.block i hi hT⟩
end Go.Proofs.YtfkpehcbijgmnaaGreatDoor.Mem
