/- The library's sort by a function, at rows of one cell, as a clean text: by the library's contract at this translation's numbers (LayF). Own work. -/
import Derived.Test.YtaciaidehamfgaaVmLift
import Derived.Test.YtaciaidehamfgaaLayF
namespace Go.Proofs.Ytaciaidehamfgaa.Srt
open Go Vm Go.Sort Go.Proofs

def sortF (x : Sl) (fv : Value) (w : World) (K : World → Prop) : Prop :=
  ∃ (g o : Nat) (enc : Nat → Value) (cf : Nat → Nat → Int) (gf : Nat) (cb : Array Value) (d : Array Nat),
    x.a = some ⟨g, o, none⟩ ∧ d.size = x.n ∧ fv = .func (.func gf) #[] cb ∧ OneCell enc ∧ SWO (ltOf cf) ∧
    (∀ args w, (callFunc gf args).run Try.prog w = .ok (.enter gf args) w) ∧ CmpLays1 Try.prog gf cb enc cf g o x.n w ∧ Holds enc w g o d ∧ g < w.heap.size ∧ x.n < 4611686018427387904 ∧
    ∀ (d' : Array Nat) n os, PermIn 0 x.n d d' → SortedIn (ltOf cf) 0 x.n d' → K (sortWorld enc w g o n d' os)
theorem sortF_ok {a : Option Addr} {n c : Nat} {fv : Value} {w : World} {K : Value → World → Prop} (h : sortF ⟨a, n, c⟩ fv w fun w' => K (.tuple #[]) w') :
    HasBody Try.prog 18 ∧ Calls Try.prog 18 ([Value.slice a n c, fv] : List Value).toArray w (fun e w' => ∃ v, e = .returned v ∧ K v w') := by
  refine ⟨⟨_, Try.func18, by kernel_rfl, by kernel_rfl⟩, ?_⟩
  obtain ⟨g, o, enc, cf, gf, cb, d, ha, hd, hf, h1, hO, eg, hc, hH, hg, hb, hk⟩ := h
  simp only at ha hd hc hb hk
  subst ha hf hd
  exact (Any.slices_SortFunc LayF.lay enc h1 cf hO gf cb g o c d w eg hc hH hg hb).mono fun e w' ⟨he, d', m, os, hp, hs, hw⟩ => ⟨_, he, by rw [hw]; exact hk d' m os hp hs⟩
end Go.Proofs.Ytaciaidehamfgaa.Srt
