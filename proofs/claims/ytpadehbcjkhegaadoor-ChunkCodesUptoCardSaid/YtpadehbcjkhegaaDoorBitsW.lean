/- Layer 2: writing bits. Own work. -/
import Derived.Test.YtpadehbcjkhegaaDoorChg
import Derived.Test.YtpadehbcjkhegaaDoorCa
namespace Go.Proofs.YtpadehbcjkhegaaDoor.Bits
open Go Vm Go.RowKit Num Mem

def orBit (c : UInt8) (j : Nat) : UInt8 := UInt8.ofNat (c.toNat ||| 128 / 2 ^ j)
theorem orBit_val (c : UInt8) {j : Nat} (hj : j < 8) : Value.int .u8 (Go.bits .or .u8 (c.toNat : Int) (shr .u8 (128 : Int) (j : Int))) = vB (orBit c j) := by
  have hc := c.toNat_lt
  have e := shr_nat .u8 (128 : Int) j (by simp only [IntKind.bits]; omega)
  have e' : (128 : Int) / 2 ^ j = ((128 / 2 ^ j : Nat) : Int) := by simp
  have hlt : 128 / 2 ^ j < 256 := Nat.lt_of_le_of_lt (Nat.div_le_self _ _) (by decide)
  rw [e, e', bits_or rfl (by simp only [IntKind.bits]; omega) (by simp only [IntKind.bits]; omega)]
  exact vB_lit (Nat.or_lt_two_pow (n := 8) hc hlt)

/-- One bit behind n. -/
def grow (l : List UInt8) (n : Nat) : List UInt8 := if n % 8 = 0 then l ++ [0] else l
def putB (l : List UInt8) (n : Nat) (b : Bool) : List UInt8 := if b then (grow l n).set (n / 8) (orBit ((grow l n).getD (n / 8) 0) (n % 8)) else grow l n
theorem grow_len {l : List UInt8} {n : Nat} (h : l.length = (n + 7) / 8) : (grow l n).length = n / 8 + 1 := by
  unfold grow; split
  · simp; omega
  · omega
theorem putB_len {l : List UInt8} {n : Nat} (b : Bool) (h : l.length = (n + 7) / 8) : (putB l n b).length = (n + 1 + 7) / 8 := by
  unfold putB; split
  · rw [List.length_set, grow_len h]; omega
  · rw [grow_len h]; omega

/-- A writer, of the call's own. -/
structure Wr (w : World) (B g : Nat) (s : Sl) (l : List UInt8) (n : Nat) : Prop where
  blk : Blk w g 101 [s.v, .int .i64 (n : Int)]
  own : OwnB w B s l
  ge : B ≤ g
  ne : s.v.ownBlock ≠ some g
  len : l.length = (n + 7) / 8
abbrev wp (g : Nat) : Option Addr := some ⟨g, 0, none⟩
abbrev foot (g : Nat) (s : Sl) : Nat → Prop := fun k => k = g ∨ s.v.ownBlock = some k
theorem Wr.keep {w w' : World} {B g : Nat} {s : Sl} {l : List UInt8} {n : Nat} (h : Wr w B g s l n) (k : Keep w w') : Wr w' B g s l n := ⟨h.blk.keep k, Own.keep h.own k, h.ge, h.ne, h.len⟩
theorem Wr.chg {X : Nat → Prop} {w w' : World} {B g : Nat} {s : Sl} {l : List UInt8} {n : Nat} (h : Wr w B g s l n) (k : Chg X w w') (hX : ∀ k, foot g s k → ¬ X k) : Wr w' B g s l n :=
  ⟨h.blk.chg k (hX g (.inl rfl)), Own.chg h.own k fun g' hg' => hX g' (.inr hg'), h.ge, h.ne, h.len⟩
theorem Wr.lt {w : World} {B g : Nat} {s : Sl} {l : List UInt8} {n : Nat} (h : Wr w B g s l n) {k : Nat} (hk : foot g s k) : B ≤ k ∧ k < w.heap.size := by
  rcases hk with rfl | hk
  · exact ⟨h.ge, h.blk.lt⟩
  · exact Own.geC h.own hk
theorem Wr.rd0 {w : World} {B g : Nat} {s : Sl} {l : List UInt8} {n : Nat} (h : Wr w B g s l n) {K : Sl → Prop} (hK : K s) : G.ptr (wp g) fun p => G.cSl p w K := ptr_at (cSl_at (by rw [h.blk.cell]; rfl) hK)
theorem Wr.rd1 {w : World} {B g : Nat} {s : Sl} {l : List UInt8} {n : Nat} (h : Wr w B g s l n) {K : Int → Prop} (hK : K (n : Int)) : G.ptr (wp g) fun p => G.cI .i64 (p.add 1) w K := ⟨n, by rw [addr_add, h.blk.cell]; rfl, hK⟩

theorem new_ok {w : World} {K : Option Addr → World → Prop} (hK : ∀ w', Keep w w' → Wr w' w.heap.size w.heap.size nilS [] 0 → w'.heap.size = w.heap.size + 1 → K (wp w.heap.size) w') : C.bits_NewWriter w K := by
  unfold C.bits_NewWriter
  refine hK _ (Keep.alloc w _) ⟨Blk.new w _ _, OwnB.nil _ _, Nat.le_refl _, by simp [Value.ownBlock], rfl⟩ (by simp)

theorem idx8 {n : Nat} (h : n < 9223372036854775800) : IntKind.i64.wrap (Int.tdiv (n : Int) (8 : Int)) = ((n / 8 : Nat) : Int) := by
  rw [show Int.tdiv (n : Int) (8 : Int) = ((n / 8 : Nat) : Int) from rfl, wI64 (by omega) (by omega)]
theorem mod8 {n : Nat} : IntKind.u64.wrap (Int.tmod (n : Int) (8 : Int)) = ((n % 8 : Nat) : Int) := by
  rw [show Int.tmod (n : Int) (8 : Int) = ((n % 8 : Nat) : Int) from rfl, wU64_id (by omega) (by omega)]

/-- The count goes up. -/
theorem up_ok {w : World} {B g : Nat} {s : Sl} {l' : List UInt8} {n : Nat} (hb : Blk w g 101 [s.v, .int .i64 (n : Int)]) (ho : OwnB w B s l') (hg : B ≤ g) (hne : s.v.ownBlock ≠ some g) (hl : l'.length = (n + 1 + 7) / 8) (hn : n < 9000000)
    {K : World → Prop} (hK : ∀ w', Chg (fun k => k = g) w w' → Wr w' B g s l' (n + 1) → K w') :
    C.bits_Writer_put.S2 (fun w => K w) (wp g) w := by
  unfold C.bits_Writer_put.S2
  refine ptr_at (cI_at (n := (n : Int)) (by rw [addr_add, hb.cell]; rfl) (ptr_at ?_))
  rw [wI64 (by omega) (by omega), addr_add]
  refine st_at (by rw [hb.cell]; rfl) (hb.frozen _) ?_
  refine hK _ (setCell_chg w g 1 _) ⟨hb.set 1 _, Own.chg ho (setCell_chg w g 1 _) (fun k hk e => hne (by rw [hk, e])), hg, hne, hl⟩

theorem tail_ok {w : World} {B g : Nat} {s : Sl} {l : List UInt8} {n : Nat} (hb : Blk w g 101 [s.v, .int .i64 (n : Int)]) (ho : OwnB w B s l) (hg : B ≤ g) (hne : s.v.ownBlock ≠ some g) (hl : l.length = n / 8 + 1) (hn : n < 9000000) (b : Bool)
    {K : World → Prop} (hK : ∀ w', Chg (foot g s) w w' → Wr w' B g s (if b then l.set (n / 8) (orBit (l.getD (n / 8) 0) (n % 8)) else l) (n + 1) → K w') :
    C.bits_Writer_put.S3 (fun w => K w) (wp g) b w := by
  unfold C.bits_Writer_put.S3
  cases b
  · refine cond_f rfl (up_ok hb ho hg hne (by omega) hn fun w' k1 h1 => hK w' (k1.mono fun k hk => .inl (.inl hk)) h1)
  · refine cond_t rfl ?_
    have hbd := Blk.drew hb
    refine ptr_at (cSl_at (s := s) (by rw [hbd.cell]; rfl) ?_)
    refine ptr_at (cI_at (n := (n : Int)) (by rw [addr_add, hbd.cell]; rfl) ⟨by decide, ?_⟩)
    rw [idx8 (by omega)]
    have hsn := ho.len
    have hlt : n / 8 < l.length := by omega
    refine RdB.at_ (w := w.drew) ho.rd hlt ?_
    refine ptr_at (cI_at (n := (n : Int)) (by rw [addr_add, hbd.cell]; rfl) ⟨by decide, ?_⟩)
    rw [mod8]
    refine ⟨by omega, ?_⟩
    rw [orBit_val _ (by omega)]
    refine Own.stC (Own.keep ho (Keep.drew w)) (by omega) _ fun w2 k2 o2 => ?_
    have e1 : l.getD (n / 8) 0 = l[n / 8] := by rw [List.getD_eq_getElem?_getD, List.getElem?_eq_getElem hlt, Option.getD_some]
    have e2 : (vBs l).set (n / 8) (vB (orBit l[n / 8] (n % 8))) = vBs (l.set (n / 8) (orBit l[n / 8] (n % 8))) := by simp [vBs, List.map_set]
    rw [e2] at o2
    have hb2 : Blk w2 g 101 [s.v, .int .i64 (n : Int)] := Blk.chg (Blk.drew hb) k2 (fun e => hne e)
    refine up_ok hb2 o2 hg hne (by rw [List.length_set]; omega) hn fun w3 k3 h3 => ?_
    refine hK w3 ?_ (by simpa only [if_true, e1] using h3)
    exact Chg.then (Chg.then (Keep.chg (Keep.drew w) (foot g s)) k2 fun k hk => .inl (.inr hk)) k3 fun k hk => .inl (.inl hk)

theorem put_ok {w : World} {B g : Nat} {s : Sl} {l : List UInt8} {n : Nat} (h : Wr w B g s l n) (hB : B ≤ w.heap.size) (hn : n < 9000000) (b : Bool) {K : World → Prop}
    (hK : ∀ s' w', Chg (foot g s) w w' → Wr w' B g s' (putB l n b) (n + 1) → (∀ k, foot g s' k → foot g s k ∨ w.heap.size ≤ k) → K w') : C.bits_Writer_put (wp g) b w K := by
  unfold C.bits_Writer_put
  refine h.rd1 ⟨by decide, ?_⟩
  have hlen := h.len
  rw [show Int.tmod (n : Int) (8 : Int) = ((n % 8 : Nat) : Int) from rfl]
  refine cond_eq (fun hz => ?_) (fun hz => ?_)
  · have hz' : n % 8 = 0 := by omega
    have hg : grow l n = l ++ [0] := if_pos hz'
    refine h.rd0 ?_
    have hsn := h.own.len
    refine pushC tiB (n := 1) hB h.own (by rfl) (by intro v hv; simp at hv; subst hv; rfl) (by simp only [maxLen]; omega) (by omega) fun r w1 k1 o1 hr hf => ?_
    have hb1 := h.blk.chg k1 h.ne
    refine ptr_at (st_at (by rw [hb1.cell]; rfl) (hb1.frozen 0) ?_)
    have k2 := setCell_chg w1 g 0 r.v
    have hrg : r.v.ownBlock ≠ some g := by
      rcases hf with e | e
      · rw [e]; exact h.ne
      · intro e'
        have := e g e'
        have := h.blk.lt
        omega
    have o2 := Own.chg o1 k2 (fun k hk e => hrg (by rw [hk, e]))
    have hb2 := hb1.set 0 r.v
    have k12 : Chg (foot g s) w _ := Chg.then (k1.mono fun k hk => .inl (.inr hk)) k2 fun k hk => .inl (.inl hk)
    have fr : ∀ k, foot g r k → foot g s k ∨ w.heap.size ≤ k := fun k hk => by
      rcases hk with hk | hk
      · exact .inl (.inl hk)
      · rcases hf with e | e
        · rw [e] at hk; exact .inl (.inr hk)
        · exact .inr (e k hk)
    have o2' : OwnB (w1.setCell ⟨g, 0, none⟩ r.v) B r (grow l n) := by rw [hg, OwnB, vBs_append]; exact o2
    refine tail_ok hb2 o2' h.ge hrg (by rw [grow_len hlen]) hn b fun w3 k3 h3 => ?_
    exact hK r w3 (Chg.then k12 k3 fr) h3 fr
  · have hz' : ¬ n % 8 = 0 := by omega
    have hg : grow l n = l := if_neg hz'
    refine tail_ok h.blk h.own h.ge h.ne (by omega) hn b fun w3 k3 h3 => ?_
    refine hK s w3 k3 ?_ fun k hk => .inl hk
    unfold putB
    rw [hg]; exact h3

/-- Many bits. -/
def putBs : List UInt8 → Nat → List Bool → List UInt8
  | l, _, [] => l
  | l, n, b :: r => putBs (putB l n b) (n + 1) r
def bitOf (v i : Nat) : Bool := v / 2 ^ i % 2 == 1
/-- The lowest k bits of v, the high one first. -/
def low (v : Nat) : Nat → List Bool
  | 0 => []
  | k + 1 => bitOf v k :: low v k
theorem low_len (v : Nat) : ∀ k, (low v k).length = k
  | 0 => rfl
  | k + 1 => by simp [low, low_len v k]
theorem bit_eq {v i : Nat} (hv : v < 18446744073709551616) (hi : i < 64) : ((Go.bits .and .u64 (shr .u64 (v : Int) (i : Int)) (1 : Int)) == (1 : Int)) = bitOf v i := by
  have e := shr_nat .u64 (v : Int) i (by simp only [IntKind.bits]; omega)
  have e' : (v : Int) / 2 ^ i = ((v / 2 ^ i : Nat) : Int) := by simp
  have hlt : v / 2 ^ i < 18446744073709551616 := Nat.lt_of_le_of_lt (Nat.div_le_self _ _) hv
  rw [e, e', show (1 : Int) = ((1 : Nat) : Int) from rfl, bits_and rfl (by simp only [IntKind.bits]; omega) (by decide), Nat.and_one_is_mod]
  unfold bitOf
  rcases Nat.mod_two_eq_zero_or_one (v / 2 ^ i) with h | h <;> rw [h] <;> rfl
end Go.Proofs.YtpadehbcjkhegaaDoor.Bits
