/- Layer 7 (wal): the texts of segments' names, and back. Own work. -/
import Derived.Test.YtdaghggdmgbpnaaDoorWlA
namespace Go.Proofs.YtdaghggdmgbpnaaDoor.Wl
open Go Vm Go.RowKit Num Mem Dk
variable {ω ω' : Tg} {w w' w0 : World} {T : Nat → Bool}

/-! ## A text's bytes that are written out, and written on -/
structure LitF (ω : Tg) (w : World) (t g : Nat) (cs : List Value) : Prop where
  blk : w.heap[g]? = some (.cells cs.toArray 5 (cs.length, cs.length + 1))
  tag : ω g = t
variable {t g n : Nat} {cs : List Value}
theorem LitF.stp (h : LitF ω w t g cs) (k : Stp T ω ω' w w') (ne : T t = false := by rfl) : LitF ω' w' t g cs := by
  have hlt := heap_lt h.blk
  exact ⟨by rw [k.block g hlt (by rw [h.tag]; exact ne)]; exact h.blk, (k.same g hlt).trans h.tag⟩
theorem LitF.cell (h : LitF ω w t g cs) (j : Nat) : w.cell? ⟨g, j, none⟩ = cs[j]? := by simp [World.cell?, h.blk]
theorem LitF.rt (h : LitF ω w t g cs) (hn : cs.length = n) : RT ω w t ⟨some ⟨g, 0, none⟩, n, n⟩ 1 cs := by
  refine ⟨⟨Nat.le_refl _, by rw [hn]; exact (Nat.mul_one n).symm, fun _ => ⟨g, 0, rfl, fun j v hv => ?_⟩⟩, fun g' o ha _ => by cases ha; exact h.tag⟩
  rw [Nat.zero_add, h.cell]
  exact hv
theorem lit_T (t : Nat) {ds : Array Value} (hn : ds.size = n) {K : Sl → World → Prop} (hK : ∀ g ω' w', Stp Non ω ω' w w' → LitF ω' w' t g ds.toList → K ⟨some ⟨g, 0, none⟩, n, n⟩ w') :
    G.new (.cells ds 5) w fun p w1 => G.runSl C.pr (Go.convert 31 31 (Sl.v (⟨some p, n, n⟩ : Sl))) w1 K := by
  refine ⟨⟨some ⟨w.heap.size, 0, none⟩, n, n⟩, _, Lib.run_convert_bytes_const (P := Tryd.prog) w 31 5 ds n n (by kernel_rfl) (by kernel_rfl), hK w.heap.size (ext ω w.heap.size t) _ ((Keep.alloc w _).stp ω t) ⟨?_, ext_new (Nat.le_refl _)⟩⟩
  have hh : (w.alloc (.cells ds 5 (ds.size, ds.size + 1))).heap[w.heap.size]? = some (.cells ds 5 (ds.size, ds.size + 1)) := World.alloc_heap_new _ _
  rw [hh]
  simp
theorem LitF.st (h : LitF ω w t g cs) {j : Nat} (hj : j < cs.length) {v : Value} {K : World → Prop} (hK : ∀ w', Stp (Mem.One t) ω ω w w' → LitF ω w' t g (cs.set j v) → K w') : G.st ⟨g, j, none⟩ v w K := by
  refine ⟨⟨cs[j], by rw [h.cell, List.getElem?_eq_getElem hj]⟩, ?_, hK _ ⟨rfl, rfl, rfl, ?_, fun _ _ => rfl, fun k hk hT => ?_⟩ ⟨?_, h.tag⟩⟩
  · simp only [World.frozen?, h.blk]
    simp; omega
  · simp [World.setCell]
  · have hne : k ≠ g := by rintro rfl; rw [h.tag, one_self] at hT; cases hT
    exact Below.heap_setCell _ _ _ _ hne
  · have hlt := heap_lt h.blk
    simp only [World.setCell]
    rw [Array.getElem?_eq_getElem (by rw [Array.size_modify]; exact hlt), Array.getElem_modify_self]
    have e : w.heap[g] = .cells cs.toArray 5 (cs.length, cs.length + 1) := by
      have := Array.getElem?_eq_getElem hlt
      rw [h.blk] at this
      exact (Option.some.inj this).symm
    rw [e]
    simp

/-! ## segment -/
def dot : ByteArray := ⟨#[46]⟩
def segN (name : ByteArray) (n : Nat) : ByteArray := name ++ dot ++ Utf.str (dg 8 n)
theorem dg_step (k n : Nat) {b : List UInt8} (hb : k < b.length) : dg (k + 1) n ++ b.drop (k + 1) = dg k (n / 10) ++ (b.set k (UInt8.ofNat (48 + n % 10))).drop k := by
  rw [dg, List.append_assoc, List.drop_eq_getElem_cons (i := k) (by rw [List.length_set]; exact hb), List.getElem_set_self, List.drop_set_of_lt (by omega)]
  rfl
theorem segment_ok {gl : Nat} {name : ByteArray} (h1 : w.cell? ⟨gl, 1, none⟩ = some (.string name)) (hs : name.size ≤ 100000) {n : Nat} (hn : n < 100000000) {K : ByteArray → World → Prop} (hK : ∀ w', Keep w w' → K (segN name n) w') :
    C.wal_Log_segment (some ⟨gl, 0, none⟩) (n : Int) w K := by
  unfold C.wal_Log_segment
  refine lit_T (ω := fun _ => 0) 1 rfl fun g ω1 w1 k1 b1 => ?_
  have t1 := (Top.init w).stp k1
  unfold C.wal_Log_segment.S9
  refine C.wal_Log_segment.L5_ind fun X hX => ?_
  have key : ∀ (k m : Nat) (b : List UInt8) (w2 : World), k ≤ 8 → m ≤ n → b.length = 8 → Top w ω1 w2 → LitF ω1 w2 1 g (vBs b) → dg k m ++ b.drop k = dg 8 n → X (some ⟨gl, 0, none⟩) (m : Int) ⟨some ⟨g, 0, none⟩, 8, 8⟩ ((k : Int) - 1) w2 := by
    intro k
    induction k with
    | zero =>
      intro m b w2 _ hm hb top lb e
      refine hX _ _ _ _ _ ?_
      unfold C.wal_Log_segment.S7 C.wal_Log_segment.S2
      refine cond_d (fun h => by omega) (fun _ => ?_)
      have hsz : (Utf.str b).size = 8 := by rw [Utf.str_size, hb]
      have hd : dot.size = 1 := rfl
      have hbd : b = dg 8 n := e
      refine ptr_at <| cS_at (b := name) (by rw [addr_add]; exact (top.k).cell h1) ⟨by show ((name.size + 1 : Nat) : Int) ≤ 9223372036854775807; omega, ?_⟩
      have hrb : RdB w2 ⟨some ⟨g, 0, none⟩, 8, 8⟩ b := (lb.rt (by rw [vBs_length]; exact hb)).rd
      refine Utf.convBS (Rd.keep hrb (Keep.drew w2)) ⟨?_, ?_⟩
      · have hq : (name ++ dot).size = name.size + 1 := by rw [ByteArray.size_append, hd]
        have hm : IntKind.i64.max = 9223372036854775807 := rfl
        have hq2 : (((name ++ dot).size + (Utf.str b).size : Nat) : Int) ≤ 9223372036854775807 := by rw [hq, hsz]; omega
        exact hq2
      · rw [hbd]
        exact hK _ (Keep.trans top.k (Keep.drew w2))
    | succ k ih =>
      intro m b w2 hk hm hb top lb e
      refine hX _ _ _ _ _ ?_
      unfold C.wal_Log_segment.S7
      rw [show ((k + 1 : Nat) : Int) - 1 = (k : Int) by omega]
      refine cond_d (fun _ => ⟨by decide, ?_⟩) (fun h => by omega)
      have hmod : Int.tmod (m : Int) (10 : Int) = ((m % 10 : Nat) : Int) := by rw [Int.tmod_eq_emod_of_nonneg (by omega)]; omega
      have hdiv : Int.tdiv (m : Int) (10 : Int) = ((m / 10 : Nat) : Int) := by rw [Int.tdiv_eq_ediv_of_nonneg (by omega)]; omega
      have hv : Value.int .u8 (IntKind.u8.wrap (IntKind.i64.wrap ((48 : Int) + (Int.tmod (m : Int) (10 : Int))))) = vB (UInt8.ofNat (48 + m % 10)) := by
        rw [hmod, wI64 (by omega) (by omega), show (48 : Int) + ((m % 10 : Nat) : Int) = ((48 + m % 10 : Nat) : Int) by omega, wU8_id (by omega) (by omega), vB_lit (by omega)]
      rw [hv, hdiv, wI64 (x := ((m / 10 : Nat) : Int)) (by omega) (by omega)]
      refine ⟨⟨by omega, by show (k : Int) < ((8 : Nat) : Int); omega⟩, ?_⟩
      rw [Int.toNat_natCast, Nat.mul_one, addr_add, Nat.zero_add]
      refine lb.st (by rw [vBs_length]; omega) fun w3 k3 l3 => ⟨by decide, ?_⟩
      rw [wI64 (by omega) (by omega)]
      have e3 : (vBs b).set k (vB (UInt8.ofNat (48 + m % 10))) = vBs (b.set k (UInt8.ofNat (48 + m % 10))) := by simp [vBs, List.map_set]
      rw [e3] at l3
      refine ih (m / 10) _ w3 (by omega) (by omega) (by rw [List.length_set]; exact hb) (top.stp k3 rfl) l3 ?_
      rw [← dg_step k m (by omega)]
      exact e
  exact key 8 n [48, 48, 48, 48, 48, 48, 48, 48] w1 (by omega) (Nat.le_refl _) rfl t1 b1 (by simp)
end Go.Proofs.YtdaghggdmgbpnaaDoor.Wl
