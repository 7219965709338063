/- The library's sort by a function, at rows of three cells, as a clean text: by the library's contract at this translation's numbers (LayF). Own work. -/
import Derived.Test.YtfkpehcbijgmnaaGreatDoorVmLift
import Derived.Test.YtfkpehcbijgmnaaGreatDoorLayF
namespace Go.Proofs.YtfkpehcbijgmnaaGreatDoor.Srt
open Go Vm Go.Sort Go.Proofs

def sortF (x : Sl) (fv : Value) (w : World) (K : World → Prop) : Prop :=
  (x.n = 0 ∧ K w) ∨ ∃ (g o : Nat) (enc : Nat → List Value) (cf : Nat → Nat → Int) (gf : Nat) (cb : Array Value),
    x.a = some ⟨g, o, none⟩ ∧ fv = .func (.func gf) #[] cb ∧ (∀ i, (enc i).length = 3) ∧ (∀ i, ∀ v ∈ enc i, v.oneCell' = true) ∧ SWO (ltOf cf) ∧
    (∀ args w, (callFunc gf args).run Tryz.prog w = .ok (.enter gf args) w) ∧ CmpLays Tryz.prog gf cb enc 3 cf g o x.n w ∧ HoldsK enc 3 w g o (Array.range x.n) ∧ g < w.heap.size ∧ x.n < 4611686018427387904 ∧
    ∀ (d' : Array Nat) n os, PermIn 0 x.n (Array.range x.n) d' → SortedIn (ltOf cf) 0 x.n d' → K (sortWorldK enc 3 w g o n d' os)
theorem sortF_ok {a : Option Addr} {n c : Nat} {fv : Value} {w : World} {K : Value → World → Prop} (h : sortF ⟨a, n, c⟩ fv w fun w' => K (.tuple #[]) w') :
    HasBody Tryz.prog 34 ∧ Calls Tryz.prog 34 ([Value.slice a n c, fv] : List Value).toArray w (fun e w' => ∃ v, e = .returned v ∧ K v w') := by
  refine ⟨⟨_, Tryz.func34, by kernel_rfl, by kernel_rfl⟩, ?_⟩
  rcases h with ⟨hn, hk⟩ | ⟨g, o, enc, cf, gf, cb, ha, hf, h3, h1, hO, eg, hc, hH, hg, hb, hk⟩
  · simp only at hn
    subst hn
    exact (AnyF.slices_SortFunc_none LayF.lay a c fv w).mono fun e w' ⟨he, hw⟩ => ⟨_, he, by rw [hw]; exact hk⟩
  · simp only at ha hc hH hb hk
    subst ha hf
    have key := AnyQ.slices_SortFunc LayF.lay 3 Tryz.isAgg34 Tryz.sizeOf34 enc h3 h1 cf hO gf cb g o c (Array.range n) w eg (by rw [Array.size_range]; exact hc) hH hg (by rw [Array.size_range]; exact hb)
    rw [Array.size_range] at key
    exact key.mono fun e w' ⟨he, d', m, os, hp, hs, hw⟩ => ⟨_, he, by rw [hw]; exact hk d' m os hp hs⟩
end Go.Proofs.YtfkpehcbijgmnaaGreatDoor.Srt
