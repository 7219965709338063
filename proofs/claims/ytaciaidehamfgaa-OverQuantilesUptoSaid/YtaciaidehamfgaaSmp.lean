/- Samples in memory; copies in new memory. Own work. -/
import Derived.Test.YtaciaidehamfgaaTag
namespace Go.Proofs.Ytaciaidehamfgaa.Sm
open Go Vm Go.RowKit Num Mem
variable {ω ω' : Tg} {w w' w0 : World}

abbrev Smp := Int × Nat
def smpC (s : Smp) : List Value := [.int .i64 s.1, .float .f64 s.2]
def smps (l : List Smp) : List Value := l.flatMap smpC
theorem smps_app (a b : List Smp) : smps (a ++ b) = smps a ++ smps b := List.flatMap_append
theorem smps_len (l : List Smp) : (smps l).length = l.length * 2 := by
  induction l with
  | nil => rfl
  | cons s l ih => simp only [smps, List.flatMap_cons, List.length_append, List.length_cons] at *; simp [smpC] at *; omega
theorem smps_at : ∀ (l : List Smp) (i : Nat) (s : Smp), l[i]? = some s → (smps l)[i * 2 + 0]? = some (.int .i64 s.1) ∧ (smps l)[i * 2 + 1]? = some (.float .f64 s.2)
  | [], i, s, h => by simp at h
  | x :: l, 0, s, h => by
    simp only [List.getElem?_cons_zero, Option.some.injEq] at h
    subst h
    exact ⟨rfl, rfl⟩
  | x :: l, i + 1, s, h => by
    have ih := smps_at l i s (by simpa using h)
    have e : smps (x :: l) = .int .i64 x.1 :: .float .f64 x.2 :: smps l := rfl
    rw [e, show (i + 1) * 2 + 0 = (i * 2 + 0) + 1 + 1 by omega, show (i + 1) * 2 + 1 = (i * 2 + 1) + 1 + 1 by omega]
    simpa using ih
theorem smps_one {l : List Smp} : ∀ v ∈ smps l, v.oneCell' = true := by
  intro v hv
  obtain ⟨s, _, hs⟩ := List.mem_flatMap.1 hv
  simp only [smpC, List.mem_cons, List.not_mem_nil, or_false] at hs
  rcases hs with rfl | rfl <;> rfl
theorem smps_inj : ∀ {a b : List Smp}, smps a = smps b → a = b
  | [], [], _ => rfl
  | [], y :: b, h => by simp [smps, smpC] at h
  | x :: a, [], h => by simp [smps, smpC] at h
  | x :: a, y :: b, h => by
    simp only [smps, smpC, List.flatMap_cons, List.cons_append, List.nil_append, List.cons.injEq, Value.int.injEq, Value.float.injEq, true_and] at h
    obtain ⟨h1, h2, h3⟩ := h
    rw [Prod.ext h1 h2, smps_inj h3]
theorem rdS_len {s : Sl} {m : List Smp} (h : Rd w s 2 (smps m)) : s.n = m.length := by have := h.2.1; rw [smps_len] at this; omega
/-- A sample that is only read. -/
theorem rdS_at {s : Sl} {m : List Smp} (h : Rd w s 2 (smps m)) {i : Int} {k : Nat} {x : Smp} (ei : i = (k : Int)) (hx : m[k]? = some x) {K : Addr → Prop}
    (hK : ∀ a : Addr, w.cell? a = some (.int .i64 x.1) → w.cell? (a.add 1) = some (.float .f64 x.2) → K a) : G.ix s.a s.n i 2 K := by
  have hk : k < m.length := (List.getElem?_eq_some_iff.1 hx).1
  have hn := rdS_len h
  subst ei
  obtain ⟨e0, e1⟩ := smps_at m k x hx
  refine Rd.ix h (by decide) (by omega) (by omega) fun a hc => hK a ?_ ?_
  · have := hc 0 _ (by decide) (by rw [Int.toNat_natCast]; exact e0)
    rwa [show a.add 0 = a by simp [Addr.add]] at this
  · exact hc 1 _ (by decide) (by rw [Int.toNat_natCast]; exact e1)
theorem rd_none {s : Sl} {sz : Nat} {xs : List Value} (h : Rd w s sz xs) (hs : 0 < sz) (hn : s.a.isNone = true) : xs = [] ∧ s.n = 0 := by
  have e : xs = [] := by
    by_cases e : xs = []
    · exact e
    · obtain ⟨g, o, ha, _⟩ := h.2.2 e
      rw [ha] at hn; cases hn
  refine ⟨e, ?_⟩
  have := h.2.1
  rw [e] at this
  rcases Nat.mul_eq_zero.1 this.symm with h | h
  · exact h
  · omega
/-- slices.Clone. -/
theorem clone_ok {P : Program} {t e : TypeId} {sz bytes : Nat} (ti : TI P t e sz bytes) {s : Sl} {xs : List Value} (h : Rd w s sz xs) (h1 : ∀ v ∈ xs, v.oneCell' = true) (hm : s.n ≤ maxLen) (hy : s.n * bytes ≤ 140737488355328)
    {K : Sl → World → Prop} (hK : ∀ r w', Keep w w' → Mem.Own w' w.heap.size e sz r xs → r.n = s.n → K r w') :
    G.cond s.a.isNone (K nilS w) (G.new (.cells #[] e) w fun p w4 => G.runSl P (Builtin.append_ #[t, t] t #[(Sl.v (⟨some p, 0, 0⟩ : Sl)), s.v]) w4 fun l w6 => K l w6) := by
  refine cond_of (fun h0 => ?_) (fun h0 => new_at ?_)
  · obtain ⟨rfl, hn⟩ := rd_none h ti.pos h0
    exact hK nilS w (Keep.refl w) (Own.nil w _ _ _) hn.symm
  · have k := Keep.alloc w (.cells #[] e)
    have o : Mem.Own (w.alloc (.cells #[] e)) w.heap.size e sz ⟨some ⟨w.heap.size, 0, none⟩, 0, 0⟩ [] := Own.mk' (Nat.le_refl _) (Blk.new w e #[]) (Nat.le_refl _) (Nat.zero_le _) (by simp) (by simp)
    refine append_own ti k k.size o (h.keep k) h1 (by simpa using hm) (by simpa using hy) fun r w' k' o' hr _ => hK r w' k' (by simpa using o') (by simpa using hr)
end Go.Proofs.Ytaciaidehamfgaa.Sm
