/- Rows that are only read, by tags; make and copy. Own work. -/
import Derived.Test.YtfkpehcbijgmnaaGreatDoorTag
import Derived.Test.YtfkpehcbijgmnaaGreatDoorBytes
import Derived.Laws.CopyRow
import Derived.Laws.IdiomCopy
namespace Go.Proofs.YtfkpehcbijgmnaaGreatDoor.Mem
open Go Vm Go.RowKit Num
variable {ω ω' : Tg} {w w' : World} {t u g : Nat} {T : Nat → Bool} {e : TypeId} {sz : Nat} {s : Sl} {xs : List Value}

/-- A row of blocks of tag t. -/
structure RT (ω : Tg) (w : World) (t : Nat) (s : Sl) (sz : Nat) (xs : List Value) : Prop where
  rd : Rd w s sz xs
  tag : ∀ g o, s.a = some ⟨g, o, none⟩ → xs ≠ [] → ω g = t
theorem RT.lt (h : RT ω w t s sz xs) {g o : Nat} (ha : s.a = some ⟨g, o, none⟩) (hne : xs ≠ []) : g < w.heap.size := by
  obtain ⟨g', o', ha', hc⟩ := h.rd.2.2 hne
  rw [ha] at ha'
  simp only [Option.some.injEq, Addr.mk.injEq] at ha'
  obtain ⟨rfl, rfl, _⟩ := ha'
  have hpos : 0 < xs.length := List.length_pos_iff.2 hne
  exact cell_lt (hc 0 xs[0] (List.getElem?_eq_getElem hpos))
theorem RT.stp (h : RT ω w t s sz xs) (k : Stp T ω ω' w w') (ne : T t = false := by rfl) : RT ω' w' t s sz xs := by
  refine ⟨⟨h.rd.1, h.rd.2.1, fun hne => ?_⟩, fun g o ha hne => (k.same g (h.lt ha hne)).trans (h.tag g o ha hne)⟩
  obtain ⟨g, o, ha, hc⟩ := h.rd.2.2 hne
  refine ⟨g, o, ha, fun j v hv => ?_⟩
  rw [World.cell?_of_block (w := w) (k.block g (h.lt ha hne) (by rw [h.tag g o ha hne]; exact ne))]
  exact hc j v hv
theorem RT.nil (ω : Tg) (w : World) (t sz : Nat) : RT ω w t nilS sz [] := ⟨Rd.nil w sz, fun _ _ _ h => absurd rfl h⟩
theorem OT.rt (h : OT ω w t e sz s xs) : RT ω w t s sz xs := ⟨h.rd, fun g o ha _ => h.tag g (by show (Value.slice s.a s.n s.c).ownBlock = _; rw [ha]; rfl)⟩
/-- A row of new memory, whatever tag is wanted. -/
theorem Own.rt {B : Nat} (h : Mem.Own w' B e sz s xs) (hB : w.heap.size ≤ B) (ω : Tg) (t : Nat) : RT (ext ω w.heap.size t) w' t s sz xs := (Own.tag h hB ω t).rt
/-- s[:n]. -/
theorem RT.pre (h : RT ω w t s sz xs) {n : Nat} (hn : n ≤ s.n) {i : Int} (ei : i = (n : Int)) {K : Sl → Prop} (hK : ∀ r : Sl, RT ω w t r sz (xs.take (n * sz)) → r.n = n → K r) : G.slc s 0 i sz K := by
  subst ei
  have h1 := h.rd.1
  refine ⟨⟨by omega, by omega, by omega⟩, hK _ ⟨⟨by simp; omega, ?_, fun hne => ?_⟩, fun g o ha hne => ?_⟩ (by simp)⟩
  · rw [List.length_take, h.rd.2.1]
    simp only [Int.toNat_natCast, Int.toNat_zero, Nat.sub_zero]
    exact Nat.min_eq_left (Nat.mul_le_mul_right _ hn)
  · have hx : xs ≠ [] := by rintro rfl; simp at hne
    obtain ⟨g, o, ha, hc⟩ := h.rd.2.2 hx
    refine ⟨g, o, ?_, fun j v hv => hc j v ?_⟩
    · simp only [Int.toNat_zero, Nat.zero_mul]
      split
      · exact ha
      · rw [ha]; simp [Addr.add]
    · rw [List.getElem?_take] at hv
      split at hv
      · exact hv
      · cases hv
  · have hx : xs ≠ [] := by rintro rfl; simp at hne
    obtain ⟨g', o', ha', hc⟩ := h.rd.2.2 hx
    simp only [Int.toNat_zero, Nat.zero_mul] at ha
    have : s.a = some ⟨g, o, none⟩ := by
      split at ha
      · exact ha
      · rw [ha'] at ha ⊢; simpa [Addr.add] using ha
    exact h.tag g o this hx
/-- make([]T, n, c). -/
theorem make_T {P : Program} {tt : TypeId} {bytes : Nat} (ti : TI P tt e sz bytes) (t : Nat) {n c : Nat} {i j : Int} (ei : i = n) (ej : j = c) (hnc : n ≤ c) (hm : c ≤ maxLen) (hy : bytes * c ≤ 281474976710656) {K : Sl → World → Prop}
    (hK : ∀ r ω' w', Stp Non ω ω' w w' → (∃ z, OT ω' w' t e sz r z) → r.n = n → r.c = c → K r w') : G.runSl P (Instr.makeSlice tt (.int .i64 i) (.int .i64 j)) w K := by
  subst ei ej
  exact make_own ti (kl := .i64) (kc := .i64) (Below.refl w.heap.size w) (Nat.le_refl _) hnc hm hy fun z r w' _ _ _ k o hn hc _ => hK r (ext ω w.heap.size t) w' (k.stp ω t) ⟨_, Own.tag o (Nat.le_refl _) ω t⟩ hn hc
theorem setRow_stp {cs : Array Value} (hg : ω g = t) : Stp (One t) ω ω w (w.setRow g cs) :=
  ⟨rfl, rfl, rfl, by simp [World.setRow], fun _ _ => rfl, fun k hk hT => setRow_other w g k cs (fun e => by subst e; rw [hg, one_self] at hT; cases hT)⟩
/-- copy over all of a row of one's own. -/
theorem copy_T {P : Program} {tt ty : TypeId} {bytes : Nat} (ti : TI P tt e 1 bytes) {x : Sl} {ys : List Value} (h : OT ω w t e 1 s xs) (hx : Rd w x 1 ys) (h1 : ∀ v ∈ ys, v.oneCell' = true) (hle : s.n ≤ x.n)
    {K : Int → World → Prop} (hK : ∀ ω' w', Stp (One t) ω ω' w w' → OT ω' w' t e 1 s (ys.take s.n) → K s.n w') : G.runI P (Builtin.copy_ #[tt, tt] ty #[s.v, x.v]) .i64 w K := by
  obtain ⟨i, z, hi, hz, hsz, hby, hzs⟩ := ti.hi
  have hmin : Nat.min x.n s.n = s.n := Nat.min_eq_right hle
  have hs1 : (P.info? e).map (·.size) = some 1 := by rw [hi]; simp [hsz]
  by_cases h0 : s.n = 0
  · refine ⟨0, w, ?_, ?_⟩
    · have := run_copy_none (P := P) w tt tt ty e s.a x.a s.n s.c x.n x.c ti.ht hs1 (by rw [hmin, h0])
      exact this
    · have hlen := h.own.len
      have hxs : xs = [] := List.eq_nil_of_length_eq_zero (by rw [hlen, h0])
      subst hxs
      have := hK ω w (Stp.refl _ _ _) (by rw [h0]; exact h)
      rw [h0] at this
      exact this
  · rcases h.cases with ⟨rfl, rfl⟩ | ⟨g, cur, ha, hb, hn, hm, hl, ht⟩
    · exact absurd rfl h0
    · have hyl : ys.length = x.n := by have := hx.2.1; omega
      obtain ⟨g2, o2, ha2, hc2⟩ := hx.at_ (i := 0) (by omega) (by decide)
      have hcl : (ys.take s.n).length = s.n := by rw [List.length_take]; omega
      have hrun := run_copy_row (P := P) w tt tt ty e g 0 s.n s.c ⟨g2, o2, none⟩ x.n x.c cur.toArray e (ys.take s.n) ti.ht hs1 hb.blk (by rw [hcl, hmin])
        (fun j v hv => by
          rw [addr_add]
          refine hc2 j v ?_
          rw [List.getElem?_take] at hv
          split at hv
          · exact hv
          · cases hv) (by rw [hcl]; simp; omega) (fun v hv => h1 v (List.mem_of_mem_take hv))
      have e1 : s.v = .slice (some ⟨g, 0, none⟩) s.n s.c := by show Value.slice s.a s.n s.c = _; rw [ha]
      have e2 : x.v = .slice (some ⟨g2, o2, none⟩) x.n x.c := by show Value.slice x.a x.n x.c = _; rw [ha2]
      refine ⟨(s.n : Int), _, by rw [e1, e2, hrun, hcl]; rfl, hK ω _ (setRow_stp hb.tag) ⟨?_, fun k hk => ?_⟩⟩
      · have hs : s = ⟨some ⟨g, 0, none⟩, s.n, s.c⟩ := by rw [← ha]
        rw [hs]
        refine Own.mk' (cur := (ys.take s.n) ++ cur.drop s.n) (Nat.zero_le _) ?_ hn hm ?_ ?_
        · unfold Blk
          rw [setRow_heap w g cur.toArray _ e _ hb.blk]
          simp [hcl]
        · rw [List.length_append, List.length_drop, hcl, hl]; omega
        · rw [Nat.mul_one, List.take_append_of_le_length (by rw [hcl]; exact Nat.le_refl _), List.take_of_length_le (by rw [hcl]; exact Nat.le_refl _)]
      · have : s.v.ownBlock = some g := by rw [e1]; rfl
        rw [this] at hk
        injection hk with hk
        subst hk; exact hb.tag
end Go.Proofs.YtfkpehcbijgmnaaGreatDoor.Mem
