/- Bytes in memory. Own work. -/
import Derived.Test.YtaciaidehamfgaaProg
import Derived.Test.YtaciaidehamfgaaMem
import Derived.Test.YtaciaidehamfgaaNum
namespace Go.Proofs.Ytaciaidehamfgaa.Mem
open Go Vm Go.RowKit Num

def vB (b : UInt8) : Value := .int .u8 (b.toNat : Int)
def vBs (l : List UInt8) : List Value := l.map vB
theorem vBs_append (a b : List UInt8) : vBs (a ++ b) = vBs a ++ vBs b := List.map_append
theorem vBs_length (a : List UInt8) : (vBs a).length = a.length := List.length_map _
theorem vBs_one {l : List UInt8} : ∀ v ∈ vBs l, v.oneCell' = true := by
  intro v hv
  obtain ⟨b, _, rfl⟩ := List.mem_map.1 hv
  rfl
theorem vB_inj {a b : UInt8} (h : vB a = vB b) : a = b := by
  simp only [vB, Value.int.injEq, true_and] at h
  exact UInt8.toNat_inj.1 (by exact_mod_cast h)
theorem vBs_inj : ∀ {a b : List UInt8}, vBs a = vBs b → a = b
  | [], [], _ => rfl
  | x :: a, y :: b, h => by
    simp only [vBs, List.map_cons, List.cons.injEq] at h
    rw [vB_inj h.1, vBs_inj (a := a) (b := b) h.2]
theorem vB_u8 (n : Int) : Value.int .u8 (IntKind.u8.wrap n) = vB (u8 n) := by
  unfold vB
  rw [u8_toNat, wU8]
theorem vB_lit {n : Nat} (h : n < 256) : Value.int .u8 (n : Int) = vB (UInt8.ofNat n) := by
  unfold vB
  rw [UInt8.toNat_ofNat', Nat.mod_eq_of_lt h]

/-- A slice of bytes reads as l. -/
abbrev RdB (w : World) (s : Sl) (l : List UInt8) : Prop := Rd w s 1 (vBs l)
theorem RdB.len {w : World} {s : Sl} {l : List UInt8} (h : RdB w s l) : s.n = l.length := by
  have := h.2.1
  rw [vBs_length] at this
  omega
theorem RdB.at_ {w : World} {s : Sl} {l : List UInt8} (h : RdB w s l) {k : Nat} (hk : k < l.length) {K : Int → Prop} (hK : K (l[k].toNat : Int)) :
    G.ix s.a s.n (k : Int) 1 fun p => G.cI .u8 p w K := by
  refine Rd.ix h (by omega) (by omega) (by have := h.len; omega) fun a ha => ⟨_, ?_, hK⟩
  have := ha 0 (vB l[k]) (by omega) (by simp [vBs, hk])
  rw [show a.add 0 = a by simp [Addr.add]] at this
  exact this
theorem RdB.ati {w : World} {s : Sl} {l : List UInt8} (h : RdB w s l) {i : Int} {k : Nat} (hi : i = (k : Int)) (hk : k < l.length) {K : Int → Prop} (hK : K (l[k].toNat : Int)) :
    G.ix s.a s.n i 1 fun p => G.cI .u8 p w K := by subst hi; exact h.at_ hk hK

/-- s[lo:hi]. -/
theorem Rd.slc {w : World} {s : Sl} {sz : Nat} {cs : List Value} (h : Rd w s sz cs) {lo hi : Nat} (h1 : lo ≤ hi) (h2 : hi ≤ s.n) {i j : Int} (ei : i = lo) (ej : j = hi) {K : Sl → Prop}
    (hK : ∀ r : Sl, Rd w r sz ((cs.drop (lo * sz)).take ((hi - lo) * sz)) → r.n = hi - lo → r.c = s.c - lo → K r) : G.slc s i j sz K := by
  subst ei ej
  have hnc := h.1
  refine ⟨⟨by omega, by omega, by omega⟩, hK _ ?_ (by simp) (by simp)⟩
  have hl := h.2.1
  refine ⟨by simp; omega, ?_, fun hne => ?_⟩
  · rw [List.length_take, List.length_drop, hl]
    simp only [Int.toNat_natCast]
    rw [Nat.min_eq_left]
    rw [← Nat.sub_mul]
    exact Nat.mul_le_mul_right _ (by omega)
  · have hcs : cs ≠ [] := by rintro rfl; simp at hne
    obtain ⟨g, o, ha, hc⟩ := h.2.2 hcs
    have hlo : s.c ≠ lo := by
      intro e
      apply hne
      apply List.eq_nil_of_length_eq_zero
      rw [List.length_take, List.length_drop, hl]
      have : hi - lo = 0 := by omega
      rw [this]; simp
    rw [Int.toNat_natCast, if_neg hlo, ha]
    refine ⟨g, o + lo * sz, by rw [Option.map_some, addr_add], fun k v hv => ?_⟩
    rw [List.getElem?_take] at hv
    split at hv
    · rw [List.getElem?_drop] at hv
      rw [Nat.add_assoc]
      exact hc _ v hv
    · cases hv
theorem RdB.slc {w : World} {s : Sl} {l : List UInt8} (h : RdB w s l) {lo hi : Nat} (h1 : lo ≤ hi) (h2 : hi ≤ l.length) {i j : Int} (ei : i = lo) (ej : j = hi) {K : Sl → Prop}
    (hK : ∀ r : Sl, RdB w r ((l.drop lo).take (hi - lo)) → K r) : G.slc s i j 1 K :=
  Rd.slc (cs := vBs l) h h1 (by have := h.len; omega) ei ej fun r hr _ _ => hK r (by
    have e : vBs ((l.drop lo).take (hi - lo)) = ((vBs l).drop (lo * 1)).take ((hi - lo) * 1) := by simp [vBs, List.map_take, List.map_drop]
    rw [RdB, e]; exact hr)

/-- A slice of bytes of the call's own. -/
abbrev OwnB (w : World) (B : Nat) (s : Sl) (l : List UInt8) : Prop := Own w B 5 1 s (vBs l)
theorem OwnB.rd {w : World} {B : Nat} {s : Sl} {l : List UInt8} (h : OwnB w B s l) : RdB w s l := Own.rd h
theorem OwnB.len {w : World} {B : Nat} {s : Sl} {l : List UInt8} (h : OwnB w B s l) : s.n = l.length := h.rd.len

theorem OwnB.nil (w : World) (B : Nat) : OwnB w B nilS [] := Own.nil w B _ 1

end Go.Proofs.Ytaciaidehamfgaa.Mem
