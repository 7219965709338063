/- Slices of int. Own work. -/
import Derived.Test.YtpgpdeojggcibaaDoorLent
namespace Go.Proofs.YtpgpdeojggcibaaDoor.Mem
open Go Vm Go.RowKit Num
def vI (n : Int) : Value := .int .i64 n
def vIs (l : List Int) : List Value := l.map vI
theorem vIs_app (a b : List Int) : vIs (a ++ b) = vIs a ++ vIs b := List.map_append
theorem vIs_one {l : List Int} : ∀ v ∈ vIs l, v.oneCell' = true := by
  intro v hv
  obtain ⟨b, _, rfl⟩ := List.mem_map.1 hv
  rfl
theorem tiI : TI Tryd.prog 49 3 1 8 := TI.of (z := .int .i64 0) (by kernel_rfl) (by kernel_rfl) rfl (by decide)
abbrev RdI (w : World) (s : Sl) (l : List Int) : Prop := Rd w s 1 (vIs l)
abbrev OwnI (w : World) (B : Nat) (s : Sl) (l : List Int) : Prop := Own w B 3 1 s (vIs l)
theorem RdI.len {w : World} {s : Sl} {l : List Int} (h : RdI w s l) : s.n = l.length := by
  have := h.2.1
  simp [vIs] at this
  omega
theorem RdI.at_ {w : World} {s : Sl} {l : List Int} (h : RdI w s l) {k : Nat} {x : Int} (hk : l[k]? = some x) {K : Int → Prop} (hK : K x) : G.ix s.a s.n (k : Int) 1 fun p => G.cI .i64 p w K := by
  have hlt := (List.getElem?_eq_some_iff.1 hk).1
  refine Rd.ix h (by omega) (by omega) (by have := RdI.len h; omega) fun a ha => ⟨_, ?_, hK⟩
  have := ha 0 (vI x) (by omega) (by simp [vIs, hk])
  rw [show a.add 0 = a by simp [Addr.add]] at this
  exact this
theorem pushI {w0 w : World} {B : Nat} {s : Sl} {l : List Int} {x : Int} (hb : Below B w0 w) (hB : B ≤ w.heap.size) (ho : OwnI w B s l) (hm : l.length ≤ 17592186044400) {K : Sl → World → Prop} (hK : ∀ r w', Below B w0 w' → OwnI w' B r (l ++ [x]) → Turn s.v.ownBlock w w' → K r w') :
    G.new (.cells #[.int .i64 x] 3) w fun p w1 => G.runSl Tryd.prog (Builtin.append_ #[49, 49] 49 #[s.v, (⟨some p, 1, 1⟩ : Sl).v]) w1 K := by
  have hn := RdI.len ho.rd
  refine append_own tiI (Below.alloc hb hB _) (by simp; omega) (Own.keep ho (Keep.alloc w _)) (rd_new (n := 1) (sz := 1) (by rfl)) (by intro v hv; simp at hv; subst hv; rfl) (by simp only [maxLen]; omega) (by simp only; omega) fun r w' k1 o1 _ hT => ?_
  exact hK r w' k1 (by rw [OwnI, vIs_app]; exact o1) (Turn.trans (Keep.turn (Keep.alloc w _) _) hT.1)
end Go.Proofs.YtpgpdeojggcibaaDoor.Mem
