/- Layer 1: the sums. Own work. -/
import Derived.Test.YtpgpdeojggcibaaDoorVint
import Derived.Test.YtpgpdeojggcibaaDoorCrc
import Derived.Test.YtpgpdeojggcibaaDoorLent
namespace Go.Proofs.YtpgpdeojggcibaaDoor.Vint
open Go Vm Go.RowKit Num Mem Crc

/-- The table of half bytes stands in the program's variable. -/
def Tab (w : World) : Prop := ∀ i, i < 16 → w.cell? ⟨0, i, none⟩ = some (.int .u32 ((tab.getD i 0#32).toNat : Int))
theorem Tab.turn {o : Option Nat} {w w' : World} (h : Tab w) (k : Turn o w w') (ho : o ≠ some 0) : Tab w' := fun i hi => k.cell (h i hi) ho
theorem Tab.lt {w : World} (h : Tab w) : 0 < w.heap.size := cell_lt (h 0 (by decide))
theorem Tab.keep {w w' : World} (h : Tab w) (k : Keep w w') : Tab w' := fun i hi => k.cell (h i hi)

theorem tab_at {w : World} (ht : Tab w) {x : B32} (hx : x.toNat < 16) {K : Int → Prop} (hK : K ((tab.getD x.toNat 0#32).toNat : Int)) :
    G.ix (some ⟨0, 0, none⟩) 16 (x.toNat : Int) 1 fun p => G.cI .u32 p w K := by
  refine ⟨⟨by omega, by exact_mod_cast hx⟩, _, ?_, hK⟩
  rw [addr_add, Int.toNat_natCast, Nat.mul_one, Nat.zero_add]
  exact ht _ hx

theorem byte32 (c : UInt8) : IntKind.u32.wrap (c.toNat : Int) = ((BitVec.ofNat 32 c.toNat).toNat : Int) := by
  have := c.toNat_lt
  rw [wU32_id (by omega) (by omega), BitVec.toNat_ofNat, Nat.mod_eq_of_lt (by omega)]
theorem shr32_4 (a : B32) : shr .u32 (a.toNat : Int) (4 : Int) = ((a >>> 4).toNat : Int) := shr32 a 4 (by decide)
theorem shr32_1 (a : B32) : shr .u32 (a.toNat : Int) (1 : Int) = ((a >>> 1).toNat : Int) := shr32 a 1 (by decide)
theorem and32_15 (a : B32) : Go.bits .and .u32 (a.toNat : Int) (15 : Int) = ((a &&& 15#32).toNat : Int) := and32 a 15#32
theorem and32_1 (a : B32) : Go.bits .and .u32 (a.toNat : Int) (1 : Int) = ((a &&& 1#32).toNat : Int) := and32 a 1#32
theorem not32' (a : B32) : Go.bits .xor .u32 (notK .u32) (a.toNat : Int) = ((~~~a).toNat : Int) := by
  rw [not32, xor32]
  congr 2
theorem poly32 (a : B32) : Go.bits .xor .u32 (a.toNat : Int) (2197175160 : Int) = ((a ^^^ poly).toNat : Int) := xor32 a poly
theorem bit0 (r : B32) : (r &&& 1#32).toNat = if r.getLsbD 0 then 1 else 0 := by
  have : r &&& 1#32 = if r.getLsbD 0 then 1#32 else 0#32 := by
    apply BitVec.eq_of_getLsbD_eq
    intro i hi
    rw [BitVec.getLsbD_and]
    by_cases h : i = 0
    · subst h; cases r.getLsbD 0 <;> simp
    · have h1 : (1#32).getLsbD i = false := by
        rw [BitVec.getLsbD_one]; simp [h]
      rw [h1]; cases r.getLsbD 0 <;> simp [h]
  rw [this]; cases r.getLsbD 0 <;> rfl

theorem on_ok {w : World} {b : Sl} {l : List UInt8} (ht : Tab w) (hb : RdB w b l) (hl : l.length ≤ 140737488355328) (s : B32) {K : Int → World → Prop} (hK : K ((crcOn s l).toNat : Int) w) :
    C.vint_On (s.toNat : Int) b w K := by
  unfold C.vint_On C.vint_On.S9
  rw [not32']
  refine C.vint_On.L5_ind fun X hX => ?_
  have hn := hb.len
  have key : ∀ (d k : Nat) (r : B32), d + k = l.length → crc r (l.drop k) = crc (~~~s) l → X (r.toNat : Int) b ((b.n : Nat) : Int) (k : Int) w := by
    intro d
    induction d with
    | zero =>
      intro k r hk hr
      refine hX _ _ _ _ _ ?_
      unfold C.vint_On.S7 C.vint_On.S2
      refine cond_d (fun h => by omega) (fun _ => ?_)
      rw [List.drop_of_length_le (by omega)] at hr
      rw [not32']
      have : r = crc (~~~s) l := hr
      rw [this]
      exact hK
    | succ d ih =>
      intro k r hk hr
      have hlt : k < l.length := by omega
      refine hX _ _ _ _ _ ?_
      unfold C.vint_On.S7
      refine cond_d (fun _ => ?_) (fun h => by omega)
      refine hb.at_ hlt ?_
      refine ⟨by decide, ?_⟩
      rw [byte32, xor32, and32_15]
      refine tab_at ht (low_lt _) ?_
      refine ⟨by decide, ?_⟩
      rw [shr32_4, xor32, ← steps4, and32_15]
      refine tab_at ht (low_lt _) ?_
      rw [shr32_4, xor32, ← steps4, ← steps8, wI64 (by omega) (by omega)]
      refine ih (k + 1) _ (by omega) ?_
      rw [← hr, List.drop_eq_getElem_cons hlt]
      rfl
  exact key l.length 0 (~~~s) (by omega) (by simp)

theorem ron_ok {w : World} {b : Sl} {l : List UInt8} (hb : RdB w b l) (hl : l.length ≤ 140737488355328) (s : B32) {K : Int → World → Prop} (hK : K ((crcOn s l).toNat : Int) w) :
    C.tocsinref01_On (s.toNat : Int) b w K := by
  unfold C.tocsinref01_On C.tocsinref01_On.S20
  rw [not32']
  refine C.tocsinref01_On.L5_ind fun X hX => ?_
  have hn := hb.len
  have key : ∀ (d k : Nat) (r : B32), d + k = l.length → crc r (l.drop k) = crc (~~~s) l → X b (r.toNat : Int) (k : Int) w := by
    intro d
    induction d with
    | zero =>
      intro k r hk hr
      refine hX _ _ _ _ ?_
      unfold C.tocsinref01_On.S18 C.tocsinref01_On.S2
      refine cond_d (fun h => by omega) (fun _ => ?_)
      rw [List.drop_of_length_le (by omega)] at hr
      rw [not32']
      have : r = crc (~~~s) l := hr
      rw [this]
      exact hK
    | succ d ih =>
      intro k r hk hr
      have hlt : k < l.length := by omega
      refine hX _ _ _ _ ?_
      unfold C.tocsinref01_On.S18 C.tocsinref01_On.S15
      refine cond_d (fun _ => ?_) (fun h => by omega)
      refine hb.at_ hlt ?_
      rw [byte32, xor32]
      refine C.tocsinref01_On.L11_ind fun Y hY => ?_
      have inner : ∀ (e j : Nat) (q : B32), e + j = 8 → steps e q = crcB r l[k] → Y b (q.toNat : Int) (k : Int) (j : Int) w := by
        intro e
        induction e with
        | zero =>
          intro j q hj hq
          refine hY _ _ _ _ _ ?_
          unfold C.tocsinref01_On.S13 C.tocsinref01_On.S7
          refine cond_d (fun h => by omega) (fun _ => ?_)
          rw [wI64 (by omega) (by omega)]
          refine ih (k + 1) _ (by omega) ?_
          rw [← hr, List.drop_eq_getElem_cons hlt]
          have : q = crcB r l[k] := hq
          rw [this]
          rfl
        | succ e ihe =>
          intro j q hj hq
          refine hY _ _ _ _ _ ?_
          unfold C.tocsinref01_On.S13
          refine cond_d (fun _ => ?_) (fun h => by omega)
          have hs : ∀ h : q.getLsbD 0 = true, step1 q = (q >>> 1) ^^^ poly := fun h => by unfold step1; rw [h]; rfl
          have hs' : ∀ h : q.getLsbD 0 = false, step1 q = q >>> 1 := step1_even
          rw [and32_1, bit0]
          cases h0 : q.getLsbD 0
          · refine cond_f (by rfl) ⟨by decide, ?_⟩
            rw [shr32_1, wI64 (by omega) (by omega)]
            exact ihe (j + 1) _ (by omega) (by rw [← hq, ← hs' h0]; rfl)
          · refine cond_t (by rfl) ⟨by decide, ?_⟩
            rw [shr32_1, poly32, wI64 (by omega) (by omega)]
            exact ihe (j + 1) _ (by omega) (by rw [← hq, ← hs h0]; rfl)
      exact inner 8 0 _ (by omega) rfl
  exact key l.length 0 (~~~s) (by omega) (by simp)

theorem sum_ok {w : World} {b : Sl} {l : List UInt8} (ht : Tab w) (hb : RdB w b l) (hl : l.length ≤ 140737488355328) {K : Int → World → Prop} (hK : K ((crcOn 0#32 l).toNat : Int) w) : C.vint_Sum b w K := by
  unfold C.vint_Sum
  exact on_ok ht hb hl 0#32 hK
theorem rsum_ok {w : World} {b : Sl} {l : List UInt8} (hb : RdB w b l) (hl : l.length ≤ 140737488355328) {K : Int → World → Prop} (hK : K ((crcOn 0#32 l).toNat : Int) w) : C.tocsinref01_Sum b w K := by
  unfold C.tocsinref01_Sum
  exact ron_ok hb hl 0#32 hK

end Go.Proofs.YtpgpdeojggcibaaDoor.Vint
