/- Texts from bytes, bytes from texts. Own work. -/
import Derived.Test.YtfkpehcbijgmnaaGreatDoorStrB
import Derived.Laws.BytesString
import Derived.Lib.ConvBytes
namespace Go.Proofs.YtfkpehcbijgmnaaGreatDoor.Utf
open Go Vm Go.RowKit Num Mem Lib

/-- []byte(s). -/
theorem convSB {w : World} {s : ByteArray} {K : Sl → World → Prop} (hK : ∀ r w', Keep w w' → RdB w' r (bytes s) → K r w') :
    G.runSl Tryz.prog (Go.convert 9 81 (.string s)) w K := by
  refine ⟨⟨some ⟨w.heap.size, 0, none⟩, s.size, grownCap w s.size 0 5⟩, _, Go.Lib.run_convert_string_bytes (P := Tryz.prog) w 9 81 5 s (u := .string) (by kernel_rfl) (by kernel_rfl) (by kernel_rfl), hK _ _ ?_ ?_⟩
  · refine ⟨?_, ?_, ?_, ?_, fun k hk => bytesWorld_at_old w _ s k hk⟩
    · simp [bytesWorld, World.freeze, World.alloc, World.drew, -World.alloc_eq, -World.drew_eq]
    · simp [bytesWorld, World.freeze, World.alloc, World.drew, -World.alloc_eq, -World.drew_eq]
    · simp [bytesWorld, World.freeze, World.alloc, World.drew, -World.alloc_eq, -World.drew_eq]
    · rw [bytesWorld_size]; omega
  · refine ⟨grownCap_ge w s.size 0 _, by rw [vBs_length, Nat.mul_one, size_eq], fun _ => ⟨_, 0, rfl, fun j v hv => ?_⟩⟩
    rw [Nat.zero_add]
    obtain ⟨hj, he⟩ := List.getElem?_eq_some_iff.1 hv
    rw [vBs_length, ← size_eq] at hj
    rw [bytesWorld_cell w _ s j hj, ← he]
    simp only [vBs, List.getElem_map, vB]
    rw [List.getD_eq_getElem?_getD, List.getElem?_eq_getElem (by rw [← size_eq]; exact hj), Option.getD_some]

theorem fold_push : ∀ (l m : List UInt8), (l.map fun b => (b.toNat : Int)).foldl (fun r n => r.push (UInt8.ofNat n.toNat)) (⟨m.toArray⟩ : ByteArray) = ⟨(m ++ l).toArray⟩
  | [], m => by rw [List.append_nil]; rfl
  | b :: l, m => by
    simp only [List.map_cons, List.foldl_cons]
    have e : (⟨m.toArray⟩ : ByteArray).push (UInt8.ofNat ((b.toNat : Int)).toNat) = ⟨(m ++ [b]).toArray⟩ := by
      simp [ByteArray.push]
    rw [e, fold_push l (m ++ [b])]
    simp
abbrev str (l : List UInt8) : ByteArray := ⟨l.toArray⟩
theorem bytes_str (l : List UInt8) : bytes (str l) = l := by simp [bytes, str]
theorem str_size (l : List UInt8) : (str l).size = l.length := by rw [size_eq]
/-- string(b). -/
theorem convBS {P : Program} {w : World} {b : Sl} {l : List UInt8} (h : RdB w b l) {K : ByteArray → Prop} (hK : K (str l)) : G.rdS P (Conv.bytesToString b.v) w K := by
  refine ⟨_, fun d => ?_, hK⟩
  have hd := Rd.drewN h d
  have hn := RdB.len h
  cases b with
  | mk a n c =>
    simp only at hn
    subst hn
    have go : ∀ x : Addr, (∀ j v, (vBs l)[j]? = some v → (w.drewN d).cell? (x.add j) = some v) → (Conv.bytesToString (.slice (some x) l.length c)).run P (w.drewN d) = .ok (.string (str l)) (w.drewN d) := by
      intro x hx
      have e : vBs l = (l.map fun b => (b.toNat : Int)).map (Value.int .u8) := by
        rw [List.map_map]; rfl
      have hl : (loadCells x l.length).run P (w.drewN d) = .ok ((l.map fun b => (b.toNat : Int)).map (Value.int .u8)).toArray (w.drewN d) := by
        rw [← e]
        have := run_loadCells_list (P := P) (w.drewN d) x (vBs l) hx
        rw [vBs_length] at this
        exact this
      rw [run_bytesToString (w.drewN d) x l.length c _ hl]
      have := fold_push l []
      simp only [List.nil_append] at this
      exact congrArg (fun s => Result.ok (Value.string s) (w.drewN d)) this
    by_cases h0 : vBs l = []
    · have hl0 : l = [] := by cases l with | nil => rfl | cons => simp [vBs] at h0
      subst hl0
      cases a with
      | none => rfl
      | some x => exact go x (by intro j v hv; simp [vBs] at hv)
    · obtain ⟨g, o, ha, hc⟩ := hd.2.2 h0
      simp only at ha
      subst ha
      exact go _ fun j v hv => by rw [addr_add]; exact hc j v hv
end Go.Proofs.YtfkpehcbijgmnaaGreatDoor.Utf
