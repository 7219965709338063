/- The library's sort of texts, as a clean text: by the library's contract at this translation's numbers (LayS). Own work. -/
import Derived.Test.YtfkpehcbijgmnaaGreatDoorVmLift
import Derived.Test.YtfkpehcbijgmnaaGreatDoorLayS
import Derived.Sort.OwnSorted
namespace Go.Proofs.YtfkpehcbijgmnaaGreatDoor.Srt
open Go Vm Go.Sort Go.Proofs

def leS (x y : List UInt8) : Bool := decide (x ≤ y)
def sortS (x : Sl) (w : World) (K : World → Prop) : Prop :=
  (x.n = 0 ∧ K w) ∨ ∃ (g o : Nat) (ss : List (List UInt8)), x.a = some ⟨g, o, none⟩ ∧ ss.length = x.n ∧ Holds encStr w g o ss.toArray ∧ g < w.heap.size ∧ x.n < 4611686018427387904 ∧
    ∀ n os, K (grow (putRow encStr (Sort.ahead w n) g o (ss.mergeSort leS).toArray) os)
theorem sortS_ok {a : Option Addr} {n c : Nat} {w : World} {K : Value → World → Prop} (h : sortS ⟨a, n, c⟩ w fun w' => K (.tuple #[]) w') :
    HasBody Tryz.prog 74 ∧ Calls Tryz.prog 74 ([Value.slice a n c] : List Value).toArray w (fun e w' => ∃ v, e = .returned v ∧ K v w') := by
  refine ⟨⟨_, Tryz.func74, by kernel_rfl, by kernel_rfl⟩, ?_⟩
  rcases h with ⟨hn, hk⟩ | ⟨g, o, ss, ha, hl, hH, hg, hb, hk⟩
  · simp only at hn
    subst hn
    exact (AnyM.slices_Sort_string_none LayS.lay a c w).mono fun e w' ⟨he, hw⟩ => ⟨_, he, by rw [hw]; exact hk⟩
  · simp only at ha hl
    subst ha hl
    exact (AnyM.slices_Sort_string LayS.lay g o c ss w hH hg hb).mono fun e w' ⟨he, m, os, hw⟩ => ⟨_, he, by rw [hw]; exact hk m os⟩
end Go.Proofs.YtfkpehcbijgmnaaGreatDoor.Srt
