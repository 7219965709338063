/- Layer 1: reading frames; VintFrames. Own work. -/
import Derived.Test.YtpgpdeojggcibaaDoorVintI
import Derived.Test.YtpgpdeojggcibaaDoorRowsB
namespace Go.Proofs.YtpgpdeojggcibaaDoor.Vint
open Go Vm Go.RowKit Num Mem Crc

theorem uvGo_end (p : Nat) : ∀ (l : List UInt8) (i n : Nat), (uvGo p l i n).2.2 = 0 → p + i < (uvGo p l i n).2.1 ∧ (uvGo p l i n).2.1 ≤ p + i + l.length
  | [], _, _, h => by simp [uvGo] at h
  | c :: t, i, n, h => by
    rw [uvGo] at h ⊢
    split
    · rw [if_pos ‹_›] at h; simp at h
    rw [if_neg ‹_›] at h
    split
    · rw [if_pos ‹_›] at h; simp at h
    rw [if_neg ‹_›] at h
    split
    · simp only [List.length_cons]; omega
    · rw [if_neg ‹_›] at h
      have := uvGo_end p t _ _ h
      simp only [List.length_cons]; omega
theorem uv_end {l : List UInt8} {p : Int} (h : (uv l p).2.2 = 0) : 0 ≤ p ∧ p < ((uv l p).2.1 : Int) ∧ (uv l p).2.1 ≤ l.length := by
  unfold uv at h ⊢; split
  · rw [if_pos ‹_›] at h; simp at h
  · rw [if_neg ‹_›] at h
    have := uvGo_end _ _ _ _ h
    rw [List.length_drop] at this
    omega

/-- Four bytes, the low one first. -/
def n4 (c0 c1 c2 c3 : UInt8) : Nat := c0.toNat + c1.toNat * 256 + c2.toNat * 65536 + c3.toNat * 16777216
theorem or_add {a b k m : Nat} (hm : m = 2 ^ k) (h : a < m) : a ||| b * m = a + b * m := by
  subst hm
  rw [Nat.or_comm, Nat.mul_comm, ← Nat.two_pow_add_eq_or_of_lt h, Nat.add_comm]
theorem n4_or (c0 c1 c2 c3 : UInt8) : n4 c0 c1 c2 c3 = c0.toNat ||| c1.toNat * 256 ||| c2.toNat * 65536 ||| c3.toNat * 16777216 := by
  have h0 := c0.toNat_lt
  have h1 := c1.toNat_lt
  have h2 := c2.toNat_lt
  rw [or_add (k := 8) rfl (by omega), or_add (k := 16) rfl (by omega), or_add (k := 24) rfl (by omega)]
  rfl
theorem byU32 (c : UInt8) : IntKind.u32.wrap (c.toNat : Int) = ((c.toNat : Nat) : Int) := by
  have := c.toNat_lt
  rw [wU32_id (by omega) (by omega)]
theorem shlU32 (c : UInt8) {k m : Nat} (hk : k ≤ 24) (hm : m = 2 ^ k) : shl .u32 (c.toNat : Int) (k : Int) = ((c.toNat * m : Nat) : Int) := by
  have := c.toNat_lt
  subst hm
  rw [shl_nat .u32 _ k (by simp only [IntKind.bits]; omega), show (c.toNat : Int) * 2 ^ k = ((c.toNat * 2 ^ k : Nat) : Int) by simp]
  have hp : 2 ^ k ≤ 2 ^ 24 := Nat.pow_le_pow_right (by decide) hk
  have : c.toNat * 2 ^ k ≤ 255 * 2 ^ 24 := Nat.mul_le_mul (by omega) hp
  rw [wU32_id (by omega) (by omega)]
theorem orU32 {a b : Nat} (ha : a < 4294967296) (hb : b < 4294967296) : Go.bits .or .u32 (a : Int) (b : Int) = ((a ||| b : Nat) : Int) := bits_or rfl (by simp only [IntKind.bits]; omega) (by simp only [IntKind.bits]; omega)
theorem or_lt32 {a b : Nat} (ha : a < 4294967296) (hb : b < 4294967296) : a ||| b < 4294967296 := Nat.or_lt_two_pow (n := 32) ha hb
theorem word_ref (c0 c1 c2 c3 : UInt8) : Go.bits .or .u32 (Go.bits .or .u32 (Go.bits .or .u32 (IntKind.u32.wrap (c0.toNat : Int)) (shl .u32 (IntKind.u32.wrap (c1.toNat : Int)) (8 : Int))) (shl .u32 (IntKind.u32.wrap (c2.toNat : Int)) (16 : Int))) (shl .u32 (IntKind.u32.wrap (c3.toNat : Int)) (24 : Int)) = ((n4 c0 c1 c2 c3 : Nat) : Int) := by
  have h0 := c0.toNat_lt
  have h1 := c1.toNat_lt
  have h2 := c2.toNat_lt
  have h3 := c3.toNat_lt
  have e1 := shlU32 c1 (k := 8) (m := 256) (by decide) rfl
  have e2 := shlU32 c2 (k := 16) (m := 65536) (by decide) rfl
  have e3 := shlU32 c3 (k := 24) (m := 16777216) (by decide) rfl
  rw [byU32, byU32, byU32, byU32]
  rw [show ((8 : Nat) : Int) = (8 : Int) from rfl] at e1
  rw [show ((16 : Nat) : Int) = (16 : Int) from rfl] at e2
  rw [show ((24 : Nat) : Int) = (24 : Int) from rfl] at e3
  rw [e1, e2, e3, orU32 (by omega) (by omega), orU32 (or_lt32 (by omega) (by omega)) (by omega), orU32 (or_lt32 (or_lt32 (by omega) (by omega)) (by omega)) (by omega), n4_or]
theorem word_own (c0 c1 c2 c3 : UInt8) : Go.bits .or .u32 (Go.bits .or .u32 (0 : Int) (shl .u32 (IntKind.u32.wrap (c3.toNat : Int)) (24 : Int))) (Go.bits .or .u32 (Go.bits .or .u32 (IntKind.u32.wrap (c0.toNat : Int)) (shl .u32 (IntKind.u32.wrap (c1.toNat : Int)) (8 : Int))) (shl .u32 (IntKind.u32.wrap (c2.toNat : Int)) (16 : Int))) = ((n4 c0 c1 c2 c3 : Nat) : Int) := by
  have h0 := c0.toNat_lt
  have h1 := c1.toNat_lt
  have h2 := c2.toNat_lt
  have h3 := c3.toNat_lt
  have e1 := shlU32 c1 (k := 8) (m := 256) (by decide) rfl
  have e2 := shlU32 c2 (k := 16) (m := 65536) (by decide) rfl
  have e3 := shlU32 c3 (k := 24) (m := 16777216) (by decide) rfl
  rw [byU32, byU32, byU32, byU32]
  rw [show ((8 : Nat) : Int) = (8 : Int) from rfl] at e1
  rw [show ((16 : Nat) : Int) = (16 : Int) from rfl] at e2
  rw [show ((24 : Nat) : Int) = (24 : Int) from rfl] at e3
  have ez : (0 : Int) = ((0 : Nat) : Int) := rfl
  rw [e1, e2, e3, ez, orU32 (by omega) (by omega), orU32 (by omega) (by omega), orU32 (or_lt32 (by omega) (by omega)) (by omega), orU32 (or_lt32 (by omega) (by omega)) (or_lt32 (or_lt32 (by omega) (by omega)) (by omega)), n4_or,
    Nat.zero_or, Nat.or_comm]

/-- The frame at a place. -/
def fr (l : List UInt8) (p : Int) : List UInt8 × Nat × Nat :=
  let u := uv l p
  if u.2.2 ≠ 0 then ([], 0, u.2.2) else if u.1 > 65536 then ([], 0, 4) else if l.length < u.2.1 + 4 + u.1 then ([], 0, 9) else
  let d := (l.drop (u.2.1 + 4)).take u.1
  if (crcOn 0#32 d).toNat ≠ n4 (l.getD u.2.1 0) (l.getD (u.2.1 + 1) 0) (l.getD (u.2.1 + 2) 0) (l.getD (u.2.1 + 3) 0) then ([], 0, 11) else (d, u.2.1 + 4 + u.1, 0)

theorem getD_at {l : List UInt8} {k : Nat} (h : k < l.length) : l[k] = l.getD k 0 := by simp [List.getD_eq_getElem?_getD, h]

theorem fr_end {l : List UInt8} {p : Int} (h : (fr l p).2.2 = 0) : 0 ≤ p ∧ p < ((fr l p).2.1 : Int) ∧ (fr l p).2.1 ≤ l.length ∧ (fr l p).1.length ≤ 65536 := by
  unfold fr at h ⊢
  simp only at h ⊢
  split
  · rw [if_pos ‹_›] at h; exact absurd h ‹_›
  rw [if_neg ‹_›] at h
  have hu : (uv l p).2.2 = 0 := by
    by_cases e : (uv l p).2.2 = 0
    · exact e
    · contradiction
  have := uv_end hu
  split
  · rw [if_pos ‹_›] at h; cases h
  rw [if_neg ‹_›] at h
  split
  · rw [if_pos ‹_›] at h; cases h
  rw [if_neg ‹_›] at h
  split
  · rw [if_pos ‹_›] at h; cases h
  simp only [List.length_take]
  omega
theorem fr_len (l : List UInt8) (p : Int) : (fr l p).1.length ≤ 65536 := by
  unfold fr
  simp only
  split
  · simp
  split
  · simp
  split
  · simp
  split
  · simp
  simp only [List.length_take]
  omega

theorem atD {w : World} {s : Sl} {l : List UInt8} (h : RdB w s l) {i : Int} {k : Nat} (hi : i = (k : Int)) (hk : k < l.length) {K : Int → Prop} (hK : K ((l.getD k 0).toNat : Int)) :
    G.ix s.a s.n i 1 fun p => G.cI .u8 p w K := RdB.ati h hi hk (by rw [getD_at hk]; exact hK)

theorem frame_ok {w : World} {b : Sl} {l : List UInt8} (ht : Tab w) (hb : RdB w b l) (hl : l.length ≤ 140737488300000) (p : Int) {K : Sl → Int → Int → World → Prop}
    (hK : ∀ r w', Keep w w' → OwnB w' w.heap.size r (fr l p).1 → K r ((fr l p).2.1 : Int) ((fr l p).2.2 : Int) w') : C.vint_Frame b p w K := by
  have hn := hb.len
  unfold C.vint_Frame
  refine u_ok hb (by omega) p ?_
  unfold fr at hK
  simp only at hK
  have hnil := OwnB.nil w w.heap.size
  refine cond_ne (fun h => ?_) (fun h => ?_)
  · rw [if_pos (fun e => h (by rw [e]; rfl))] at hK
    exact hK nilS w (Keep.refl w) hnil
  have hu : (uv l p).2.2 = 0 := by exact_mod_cast h
  rw [if_neg (fun e => e hu)] at hK
  have he := uv_end hu
  refine cond_d (fun h1 => ?_) (fun h1 => ?_)
  · rw [if_pos (by omega)] at hK
    exact hK nilS w (Keep.refl w) hnil
  rw [if_neg (by omega)] at hK
  rw [wI64 (x := (((uv l p).1 : Nat) : Int)) (by omega) (by omega), wI64 (x := ((b.n : Nat) : Int) - _) (by omega) (by omega), wI64 (x := (4 : Int) + _) (by omega) (by omega)]
  refine cond_d (fun h2 => ?_) (fun h2 => ?_)
  · rw [if_pos (by omega)] at hK
    exact hK nilS w (Keep.refl w) hnil
  rw [if_neg (by omega)] at hK
  generalize hf : (uv l p).2.1 = f at *
  generalize hv : (uv l p).1 = v at *
  rw [wI64 (x := (f : Int) + 3) (by omega) (by omega), wI64 (x := (f : Int) + 1) (by omega) (by omega), wI64 (x := (f : Int) + 2) (by omega) (by omega), wI64 (x := (f : Int) + 4) (by omega) (by omega), wI64 (x := (f : Int) + 4 + _) (by omega) (by omega)]
  refine atD hb (k := f + 3) (by omega) (by omega) ⟨by decide, ?_⟩
  refine atD hb (k := f) (by omega) (by omega) ?_
  refine atD hb (k := f + 1) (by omega) (by omega) ⟨by decide, ?_⟩
  refine atD hb (k := f + 2) (by omega) (by omega) ⟨by decide, fun d => ?_⟩
  refine RdB.slc hb (lo := f + 4) (hi := f + 4 + v) (by omega) (by omega) (by omega) (by omega) fun s hs => ?_
  rw [show f + 4 + v - (f + 4) = v by omega] at hs
  refine joined_ok (RdB.nil _) (Rd.drewN hs d) (by simp; omega) fun r w1 k1 o1 => ?_
  rw [List.nil_append] at o1
  have k0 := Keep.trans (Keep.drewN w d) k1
  refine sum_ok (ht.keep k0) o1.rd (by simp; omega) ?_
  rw [word_own]
  refine cond_ne (fun h3 => ?_) (fun h3 => ?_)
  · rw [if_pos (fun e => h3 (by exact_mod_cast e))] at hK
    exact hK nilS w1 k0 (OwnB.nil _ _)
  · rw [if_neg (fun e => e (by exact_mod_cast h3))] at hK
    have := hK r w1 k0 o1
    simpa using this

theorem rframe_ok {w : World} {b : Sl} {l : List UInt8} (hb : RdB w b l) (hl : l.length ≤ 140737488300000) (p : Int) {K : Sl → Int → Int → World → Prop}
    (hK : ∀ r w', Keep w w' → OwnB w' w.heap.size r (fr l p).1 → K r ((fr l p).2.1 : Int) ((fr l p).2.2 : Int) w') : C.tocsinref01_Frame b p w K := by
  have hn := hb.len
  unfold C.tocsinref01_Frame
  refine ru_ok hb (by omega) p ?_
  unfold fr at hK
  simp only at hK
  have hnil := OwnB.nil w w.heap.size
  refine cond_ne (fun h => ?_) (fun h => ?_)
  · rw [if_pos (fun e => h (by rw [e]; rfl))] at hK
    exact hK nilS w (Keep.refl w) hnil
  have hu : (uv l p).2.2 = 0 := by exact_mod_cast h
  rw [if_neg (fun e => e hu)] at hK
  have he := uv_end hu
  refine cond_d (fun h1 => ?_) (fun h1 => ?_)
  · rw [if_pos (by omega)] at hK
    exact hK nilS w (Keep.refl w) hnil
  rw [if_neg (by omega)] at hK
  rw [wU64_id (x := (((uv l p).1 : Nat) : Int) + 4) (by omega) (by omega), wI64 (x := ((b.n : Nat) : Int) - _) (by omega) (by omega), wU64_id (by omega) (by omega)]
  refine cond_d (fun h2 => ?_) (fun h2 => ?_)
  · rw [if_pos (by omega)] at hK
    exact hK nilS w (Keep.refl w) hnil
  rw [if_neg (by omega)] at hK
  generalize hf : (uv l p).2.1 = f at *
  generalize hv : (uv l p).1 = v at *
  rw [wI64 (x := (f : Int) + 3) (by omega) (by omega), wI64 (x := (f : Int) + 1) (by omega) (by omega), wI64 (x := (f : Int) + 2) (by omega) (by omega), wI64 (x := (f : Int) + 4) (by omega) (by omega), wI64 (x := (v : Int)) (by omega) (by omega), wI64 (x := (f : Int) + 4 + _) (by omega) (by omega)]
  refine atD hb (k := f) (by omega) (by omega) ?_
  refine atD hb (k := f + 1) (by omega) (by omega) ⟨by decide, ?_⟩
  refine atD hb (k := f + 2) (by omega) (by omega) ⟨by decide, ?_⟩
  refine atD hb (k := f + 3) (by omega) (by omega) ⟨by decide, fun d => ?_⟩
  refine RdB.slc hb (lo := f + 4) (hi := f + 4 + v) (by omega) (by omega) (by omega) (by omega) fun s hs => ?_
  rw [show f + 4 + v - (f + 4) = v by omega] at hs
  refine rjoined_ok (RdB.nil _) (Rd.drewN hs d) (by simp; omega) fun r w1 k1 o1 => ?_
  rw [List.nil_append] at o1
  have k0 := Keep.trans (Keep.drewN w d) k1
  refine rsum_ok o1.rd (by simp; omega) ?_
  rw [word_ref]
  refine cond_ne (fun h3 => ?_) (fun h3 => ?_)
  · rw [if_pos (fun e => h3 (by exact_mod_cast e))] at hK
    exact hK nilS w1 k0 (OwnB.nil _ _)
  · rw [if_neg (fun e => e (by exact_mod_cast h3))] at hK
    have := hK r w1 k0 o1
    simpa using this

/-! ## All frames -/
def frs (l : List UInt8) : Nat → Nat → List (List UInt8) × Nat × Nat
  | 0, p => ([], p, 0)
  | d + 1, p => if p < l.length then (if (fr l p).2.2 ≠ 0 then ([], p, (fr l p).2.2) else ((fr l p).1 :: (frs l d (fr l p).2.1).1, (frs l d (fr l p).2.1).2)) else ([], p, 0)

theorem frames_ok {w0 : World} {b : Sl} {l : List UInt8} (ht : Tab w0) (hb : RdB w0 b l) (hl : l.length ≤ 5864062014700) {K : Sl → Int → Int → World → Prop}
    (hK : ∀ s rs w', Keep w0 w' → OwnBB w' w0.heap.size s rs (frs l l.length 0).1 → K s ((frs l l.length 0).2.1 : Int) ((frs l l.length 0).2.2 : Int) w') : C.vint_Frames b w0 K := by
  have hn := hb.len
  unfold C.vint_Frames C.vint_Frames.S11
  refine C.vint_Frames.L6_ind fun X hX => ?_
  have key : ∀ (d p : Nat) (s : Sl) (rs : List Sl) (ls : List (List UInt8)) (w : World), l.length ≤ p + d → ls.length ≤ p → p ≤ l.length → Keep w0 w → OwnBB w w0.heap.size s rs ls →
      (∀ s rs w', Keep w0 w' → OwnBB w' w0.heap.size s rs (ls ++ (frs l d p).1) → K s ((frs l d p).2.1 : Int) ((frs l d p).2.2 : Int) w') → X b s (p : Int) 0 w := by
    intro d
    induction d with
    | zero =>
      intro p s rs ls w hd hls hp k o hK
      refine hX _ _ _ _ _ ?_
      unfold C.vint_Frames.S8 C.vint_Frames.S3
      refine cond_d (fun h => by omega) (fun _ => ?_)
      exact hK s rs w k (by simpa [frs] using o)
    | succ d ih =>
      intro p s rs ls w hd hls hp k o hK
      refine hX _ _ _ _ _ ?_
      unfold C.vint_Frames.S8 C.vint_Frames.S3
      rw [frs] at hK
      refine cond_d (fun h => ?_) (fun h => ?_)
      · rw [if_pos (by omega)] at hK
        refine frame_ok (ht.keep k) (hb.keep k) (by omega) _ fun r w1 k1 o1 => ?_
        refine cond_ne (fun h3 => ?_) (fun h3 => ?_)
        · rw [if_pos (fun e => h3 (by rw [e]; rfl))] at hK
          exact hK s rs w1 (Keep.trans k k1) (by simpa using o.keep k1)
        · have hz : (fr l p).2.2 = 0 := by exact_mod_cast h3
          rw [if_neg (fun e => e hz)] at hK
          have he := fr_end hz
          refine pushBB (Keep.trans k k1) (by have := k.size; have := k1.size; omega) (o.keep k1) (Own.mono o1 k.size) (o.fresh o1 (Nat.le_refl _)) (by omega) fun s' w2 k2 o2 _ => ?_
          refine ih _ s' (rs ++ [r]) (ls ++ [(fr l p).1]) w2 (by omega) (by simp; omega) he.2.2.1 k2 o2 fun s rs w' k o => hK s rs w' k (by simpa using o)
      · rw [if_neg (by omega)] at hK
        exact hK s rs w k (by simpa using o)
  exact key l.length 0 nilS [] [] w0 (by omega) (by simp) (by omega) (Keep.refl _) (OwnBB.nil _ _) (by simpa using hK)

theorem rframes_ok {w0 : World} {b : Sl} {l : List UInt8} (hb : RdB w0 b l) (hl : l.length ≤ 5864062014700) {K : Sl → Int → Int → World → Prop}
    (hK : ∀ s rs w', Keep w0 w' → OwnBB w' w0.heap.size s rs (frs l l.length 0).1 → K s ((frs l l.length 0).2.1 : Int) ((frs l l.length 0).2.2 : Int) w') : C.tocsinref01_Frames b w0 K := by
  have hn := hb.len
  unfold C.tocsinref01_Frames
  refine C.tocsinref01_Frames.L5_ind fun X hX => ?_
  have key : ∀ (d p : Nat) (s : Sl) (rs : List Sl) (ls : List (List UInt8)) (w : World), l.length ≤ p + d → ls.length ≤ p → p ≤ l.length → Keep w0 w → OwnBB w w0.heap.size s rs ls →
      (∀ s rs w', Keep w0 w' → OwnBB w' w0.heap.size s rs (ls ++ (frs l d p).1) → K s ((frs l d p).2.1 : Int) ((frs l d p).2.2 : Int) w') → X b s (p : Int) w := by
    intro d
    induction d with
    | zero =>
      intro p s rs ls w hd hls hp k o hK
      refine hX _ _ _ _ ?_
      unfold C.tocsinref01_Frames.S7 C.tocsinref01_Frames.S2
      refine cond_d (fun h => by omega) (fun _ => ?_)
      exact hK s rs w k (by simpa [frs] using o)
    | succ d ih =>
      intro p s rs ls w hd hls hp k o hK
      refine hX _ _ _ _ ?_
      unfold C.tocsinref01_Frames.S7 C.tocsinref01_Frames.S2
      rw [frs] at hK
      refine cond_d (fun h => ?_) (fun h => ?_)
      · rw [if_pos (by omega)] at hK
        refine rframe_ok (hb.keep k) (by omega) _ fun r w1 k1 o1 => ?_
        refine cond_ne (fun h3 => ?_) (fun h3 => ?_)
        · rw [if_pos (fun e => h3 (by rw [e]; rfl))] at hK
          exact hK s rs w1 (Keep.trans k k1) (by simpa using o.keep k1)
        · have hz : (fr l p).2.2 = 0 := by exact_mod_cast h3
          rw [if_neg (fun e => e hz)] at hK
          have he := fr_end hz
          refine pushBB (Keep.trans k k1) (by have := k.size; have := k1.size; omega) (o.keep k1) (Own.mono o1 k.size) (o.fresh o1 (Nat.le_refl _)) (by omega) fun s' w2 k2 o2 _ => ?_
          refine ih _ s' (rs ++ [r]) (ls ++ [(fr l p).1]) w2 (by omega) (by simp; omega) he.2.2.1 k2 o2 fun s rs w' k o => hK s rs w' k (by simpa using o)
      · rw [if_neg (by omega)] at hK
        exact hK s rs w k (by simpa using o)
  exact key l.length 0 nilS [] [] w0 (by omega) (by simp) (by omega) (Keep.refl _) (OwnBB.nil _ _) (by simpa using hK)

theorem frs_len (l : List UInt8) : ∀ (d p : Nat), (frs l d p).1.length ≤ d
  | 0, p => by simp [frs]
  | d + 1, p => by
    rw [frs]
    split
    · split
      · simp
      · have := frs_len l d (fr l p).2.1
        simp only [List.length_cons]; omega
    · simp
theorem frs_each (l : List UInt8) : ∀ (d p : Nat), ∀ m ∈ (frs l d p).1, m.length ≤ 65536
  | 0, p, m, h => by simp [frs] at h
  | d + 1, p, m, h => by
    rw [frs] at h
    split at h
    · split at h
      · simp at h
      · rcases List.mem_cons.1 h with e | e
        · rw [e]; exact fr_len l p
        · exact frs_each l d _ m e
    · simp at h
end Go.Proofs.YtpgpdeojggcibaaDoor.Vint
