/- Texts, byte by byte. Own work. -/
import Derived.Test.YtfkpehcbijgmnaaGreatDoorChg
import Derived.Test.YtfkpehcbijgmnaaGreatDoorBytes
import Derived.Lib.ValidAsc
namespace Go.Proofs.YtfkpehcbijgmnaaGreatDoor.Utf
open Go Vm Go.RowKit Num Mem Lib

set_option maxRecDepth 10000
abbrev bytes (s : ByteArray) : List UInt8 := s.data.toList
theorem ixS_at {s : ByteArray} {i : Int} {k : Nat} (hi : i = (k : Int)) (hk : k < s.size) {K : Int → Prop} (hK : K (((bytes s).getD k 0).toNat : Int)) : G.ixS s i K := by
  subst hi
  refine ⟨(bytes s).getD k 0, by omega, ?_, hK⟩
  rw [Int.toNat_natCast, getElem?_pos s k hk]
  have hk' : k < s.data.toList.length := by rw [← size_eq]; exact hk
  congr 1
  rw [List.getD_eq_getElem?_getD, List.getElem?_eq_getElem hk', Option.getD_some]
  rfl
theorem slcS_at {s : ByteArray} {i : Int} {k : Nat} (hi : i = (k : Int)) (hk : k ≤ s.size) {K : ByteArray → Prop} (hK : K (s.extract k s.size)) : G.slcS s i ((s.size : Nat) : Int) K := by
  subst hi
  exact ⟨⟨by omega, by omega, by omega⟩, by simpa using hK⟩

end Go.Proofs.YtfkpehcbijgmnaaGreatDoor.Utf
