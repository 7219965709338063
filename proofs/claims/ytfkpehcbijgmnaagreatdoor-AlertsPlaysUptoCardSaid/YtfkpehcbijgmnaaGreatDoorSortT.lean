/- The library's sort of texts, of a row of one's own. Own work. -/
import Derived.Test.YtfkpehcbijgmnaaGreatDoorSortS
import Derived.Test.YtfkpehcbijgmnaaGreatDoorTag
import Derived.Sort.KeysCollected
namespace Go.Proofs.YtfkpehcbijgmnaaGreatDoor.Srt
open Go Vm Go.RowKit Num Mem Go.Sort Go.Proofs
variable {ω ω' : Tg} {w w' : World} {t : Nat} {e : TypeId} {s : Sl}

theorem sort_T {ss : List (List UInt8)} (h : OT ω w t e 1 s (ss.map encStr)) (hb : s.n < 4611686018427387904) {K : World → Prop} (hK : ∀ ω' w', Stp (One t) ω ω' w w' → OT ω' w' t e 1 s ((ss.mergeSort leS).map encStr) → K w') : sortS s w K := by
  have hlen := h.own.len
  rw [List.length_map] at hlen
  rcases h.cases with ⟨rfl, hx⟩ | ⟨g, cur, ha, hb', hn, hm, hl, ht⟩
  · have hs : ss = [] := by simpa using hx
    subst hs
    exact .inl ⟨rfl, hK ω w (Stp.refl _ _ _) (by simpa using h)⟩
  · have hbk : s.v.ownBlock = some g := by show (Value.slice s.a s.n s.c).ownBlock = _; rw [ha]; rfl
    refine .inr ⟨g, 0, ss, ha, by omega, holds_of_block hb'.blk (by rw [show ss.length = s.n * 1 by omega]; simpa using ht), hb'.blk.lt, hb, fun n os => ?_⟩
    have hg := grownBy_sorted (w := w) (g := g) (n := n) (os := os) (ss.mergeSort leS).toArray
    have st : Stp (One t) ω (ext ω w.heap.size t) w (grow (putRow encStr (Sort.ahead w n) g 0 (ss.mergeSort leS).toArray) os) := Chg.stp (grown_chg hg) fun k hk => by injection hk with hk; subst hk; exact hb'.tag
    refine hK _ _ st ⟨?_, fun k hk => ?_⟩
    · have hs : s = ⟨some ⟨g, 0, none⟩, s.n, s.c⟩ := by rw [← ha]
      have := ownsRow_sorted (w := w) (base := 0) (n := n) (os := os) (e := e) (cap := s.c) (ss := ss) (ts := ss.mergeSort leS) (by simp) (Nat.zero_le _) hb'.blk (by omega) hm (by simp; omega)
      rw [show ss.length = s.n by omega] at this
      rw [hs]; exact this
    · rw [hbk] at hk
      injection hk with hk
      subst hk
      rw [ext_old hb'.blk.lt]; exact hb'.tag

/-! ## Texts in order -/
theorem encStr_ba (b : ByteArray) : encStr b.data.toList = Value.string b := by simp [encStr]
theorem le_of_less : ∀ {a b : List UInt8}, Op.bytesLess a b = true → a ≤ b
  | _, [], h => by simp [Op.bytesLess] at h
  | [], _ :: _, _ => List.nil_le _
  | x :: a, y :: b, h => by
    simp only [Op.bytesLess, Bool.or_eq_true, decide_eq_true_eq, Bool.and_eq_true, beq_iff_eq] at h
    rw [List.cons_le_cons_iff]
    rcases h with h | ⟨h1, h2⟩
    · exact .inl h
    · exact .inr ⟨h1, le_of_less h2⟩
theorem sort_up {ss ts : List (List UInt8)} (hp : ss.Perm ts) (hs : ts.Pairwise fun a b => Op.bytesLess a b = true) : ss.mergeSort leS = ts := by
  have h1 : ss.mergeSort leS = ts.mergeSort leS := mergeSort_of_perm hp
  rw [h1]
  refine List.mergeSort_of_pairwise (hs.imp fun h => ?_)
  unfold leS
  exact decide_eq_true (le_of_less h)
end Go.Proofs.YtfkpehcbijgmnaaGreatDoor.Srt
