/- (of elder texts, own side alone) Sums, reading uvarints, frames. Own work. -/
import Derived.Test.YtdaghggdmgbpnaaDoorVintO
import Derived.Test.YtdaghggdmgbpnaaDoorCrc
import Derived.Test.YtdaghggdmgbpnaaDoorRowsO
namespace Go.Proofs.YtdaghggdmgbpnaaDoor.Vint
open Go Vm Go.RowKit Num Mem Crc
/-- The table of half bytes stands in the program's variable. -/
def Tab (w : World) : Prop := ∀ i, i < 16 → w.cell? ⟨0, i, none⟩ = some (.int .u32 ((tab.getD i 0#32).toNat : Int))
theorem Tab.lt {w : World} (h : Tab w) : 0 < w.heap.size := cell_lt (h 0 (by decide))
theorem Tab.keep {w w' : World} (h : Tab w) (k : Keep w w') : Tab w' := fun i hi => k.cell (h i hi)
theorem tab_at {w : World} (ht : Tab w) {x : B32} (hx : x.toNat < 16) {K : Int → Prop} (hK : K ((tab.getD x.toNat 0#32).toNat : Int)) :
    G.ix (some ⟨0, 0, none⟩) 16 (x.toNat : Int) 1 fun p => G.cI .u32 p w K := by
  refine ⟨⟨by omega, by exact_mod_cast hx⟩, _, ?_, hK⟩
  rw [addr_add, Int.toNat_natCast, Nat.mul_one, Nat.zero_add]
  exact ht _ hx
theorem byte32 (c : UInt8) : IntKind.u32.wrap (c.toNat : Int) = ((BitVec.ofNat 32 c.toNat).toNat : Int) := by
  have := c.toNat_lt
  rw [wU32_id (by omega) (by omega), BitVec.toNat_ofNat, Nat.mod_eq_of_lt (by omega)]
theorem shr32_4 (a : B32) : shr .u32 (a.toNat : Int) (4 : Int) = ((a >>> 4).toNat : Int) := shr32 a 4 (by decide)
theorem and32_15 (a : B32) : Go.bits .and .u32 (a.toNat : Int) (15 : Int) = ((a &&& 15#32).toNat : Int) := and32 a 15#32
theorem not32' (a : B32) : Go.bits .xor .u32 (notK .u32) (a.toNat : Int) = ((~~~a).toNat : Int) := by
  rw [not32, xor32]
  congr 2
theorem on_ok {w : World} {b : Sl} {l : List UInt8} (ht : Tab w) (hb : RdB w b l) (hl : l.length ≤ 140737488355328) (s : B32) {K : Int → World → Prop} (hK : K ((crcOn s l).toNat : Int) w) :
    C.vint_On (s.toNat : Int) b w K := by
  unfold C.vint_On C.vint_On.S9
  rw [not32']
  refine C.vint_On.L5_ind fun X hX => ?_
  have hn := hb.len
  have key : ∀ (d k : Nat) (r : B32), d + k = l.length → crc r (l.drop k) = crc (~~~s) l → X (r.toNat : Int) b ((b.n : Nat) : Int) (k : Int) w := by
    intro d
    induction d with
    | zero =>
      intro k r hk hr
      refine hX _ _ _ _ _ ?_
      unfold C.vint_On.S7 C.vint_On.S2
      refine cond_d (fun h => by omega) (fun _ => ?_)
      rw [List.drop_of_length_le (by omega)] at hr
      rw [not32']
      have : r = crc (~~~s) l := hr
      rw [this]
      exact hK
    | succ d ih =>
      intro k r hk hr
      have hlt : k < l.length := by omega
      refine hX _ _ _ _ _ ?_
      unfold C.vint_On.S7
      refine cond_d (fun _ => ?_) (fun h => by omega)
      refine hb.at_ hlt ?_
      refine ⟨by decide, ?_⟩
      rw [byte32, xor32, and32_15]
      refine tab_at ht (low_lt _) ?_
      refine ⟨by decide, ?_⟩
      rw [shr32_4, xor32, ← steps4, and32_15]
      refine tab_at ht (low_lt _) ?_
      rw [shr32_4, xor32, ← steps4, ← steps8, wI64 (by omega) (by omega)]
      refine ih (k + 1) _ (by omega) ?_
      rw [← hr, List.drop_eq_getElem_cons hlt]
      rfl
  exact key l.length 0 (~~~s) (by omega) (by simp)
theorem sum_ok {w : World} {b : Sl} {l : List UInt8} (ht : Tab w) (hb : RdB w b l) (hl : l.length ≤ 140737488355328) {K : Int → World → Prop} (hK : K ((crcOn 0#32 l).toNat : Int) w) : C.vint_Sum b w K := by
  unfold C.vint_Sum
  exact on_ok ht hb hl 0#32 hK
theorem RdB.nil (w : World) : RdB w nilS [] := Rd.nil w 1
def uvGo (at0 : Nat) : List UInt8 → Nat → Nat → Nat × Nat × Nat
  | [], _, _ => (0, 0, 9)
  | c :: t, i, n =>
    if i = 9 ∧ 1 < c.toNat then (0, 0, 7) else
    if c.toNat = 0 ∧ 0 < i then (0, 0, 3) else
    if c.toNat < 128 then (n + c.toNat % 128 * 128 ^ i, at0 + i + 1, 0) else uvGo at0 t (i + 1) (n + c.toNat % 128 * 128 ^ i)
def uv (l : List UInt8) (at' : Int) : Nat × Nat × Nat :=
  if at' < 0 ∨ at' > l.length then (0, 0, 1) else uvGo at'.toNat (l.drop at'.toNat) 0 0
theorem orStep {n x i : Nat} {X Y : Int} (hi : i ≤ 9) (hn : n < 128 ^ i) (hx : x < 128) (h9 : i = 9 → x ≤ 1) (hX : X = (x : Int)) (hY : Y = ((7 * i : Nat) : Int)) :
    Go.bits .or .u64 (n : Int) (shl .u64 X Y) = ((n + x * 128 ^ i : Nat) : Int) ∧ n + x * 128 ^ i < 128 ^ (i + 1) ∧ n + x * 128 ^ i < 18446744073709551616 := by
  subst hX hY
  have e : (128 : Nat) ^ i = 2 ^ (7 * i) := by rw [Nat.pow_mul]
  have hb : n + x * 128 ^ i < 128 ^ (i + 1) := by
    rw [Nat.pow_succ, Nat.mul_comm (128 ^ i)]
    have : (x + 1) * 128 ^ i ≤ 128 * 128 ^ i := Nat.mul_le_mul_right _ hx
    rw [Nat.add_mul] at this; omega
  have hlt : n + x * 128 ^ i < 18446744073709551616 := by
    rcases Nat.lt_or_ge i 9 with h | h
    · have : (128 : Nat) ^ (i + 1) ≤ 128 ^ 9 := Nat.pow_le_pow_right (by decide) (by omega)
      have h9 : (128 : Nat) ^ 9 < 18446744073709551616 := by decide +kernel
      generalize (128 : Nat) ^ 9 = q at *
      omega
    · have : i = 9 := by omega
      subst this
      have hx1 := h9 rfl
      have h1 : x * 128 ^ 9 ≤ 1 * 128 ^ 9 := Nat.mul_le_mul_right _ hx1
      have h2 : (128 : Nat) ^ 9 = 9223372036854775808 := by decide +kernel
      rw [h2] at *
      omega
  refine ⟨?_, hb, hlt⟩
  have hs := shl_nat .u64 (x : Int) (7 * i) (by simp [IntKind.bits]; omega)
  rw [hs, show (x : Int) * 2 ^ (7 * i) = ((x * 128 ^ i : Nat) : Int) by rw [e]; simp, wU64_id (by omega) (by omega),
    bits_or rfl (by simp only [IntKind.bits]; omega) (by simp only [IntKind.bits]; omega)]
  congr 1
  rw [e, Nat.mul_comm x, Nat.or_comm, Nat.add_comm]
  exact (Nat.two_pow_add_eq_or_of_lt (by rw [← e]; exact hn) x).symm
theorem and127 (c : UInt8) : IntKind.u64.wrap (Go.bits .and .u8 (c.toNat : Int) (127 : Int)) = ((c.toNat % 128 : Nat) : Int) := by
  have hc := c.toNat_lt
  rw [show (127 : Int) = ((127 : Nat) : Int) from rfl, bits_and rfl (by simp only [IntKind.bits]; omega) (by decide),
    show c.toNat &&& 127 = c.toNat % 128 from Nat.and_two_pow_sub_one_eq_mod c.toNat 7, wU64_id (by omega) (by omega)]
theorem uTail {c i : Int} {A T : Prop} (hA : c = 0 → i > 0 → A) (hT : ¬ (c = 0 ∧ i > 0) → T) : G.cond (decide (c < 128)) (G.cond (c == 0) (G.cond (decide (i > 0)) A T) T) T :=
  cond_d (fun _ => cond_eq (fun h => cond_d (hA h) (fun h' => hT fun x => h' x.2)) (fun h => hT fun x => h x.1)) (fun h => hT fun x => h (by omega))
theorem uHead {c i : Int} {E T : Prop} (hE : i = 9 → c > 1 → E) (hT : ¬ (i = 9 ∧ c > 1) → T) : G.cond (i == 9) (G.cond (decide (c > 1)) E T) T :=
  cond_eq (fun h => cond_d (hE h) (fun h' => hT fun x => h' x.2)) (fun h => hT fun x => h x.1)
set_option maxRecDepth 4000 in
theorem u_ok {w : World} {b : Sl} {l : List UInt8} (hb : RdB w b l) (hl : l.length ≤ 140737488355328) (at' : Int) {K : Int → Int → Int → World → Prop}
    (hK : K ((uv l at').1 : Int) ((uv l at').2.1 : Int) ((uv l at').2.2 : Int) w) : C.vint_U b at' w K := by
  have hn := hb.len
  unfold C.vint_U
  unfold uv at hK
  refine cond_d (fun h => ?_) (fun h0 => cond_d (fun h => ?_) (fun h1 => ?_))
  · rw [if_pos (.inl h)] at hK; exact hK
  · rw [if_pos (.inr (by omega))] at hK; exact hK
  rw [if_neg (by omega)] at hK
  obtain ⟨p, rfl⟩ : ∃ p : Nat, at' = (p : Int) := ⟨at'.toNat, by omega⟩
  rw [Int.toNat_natCast] at hK
  refine C.vint_U.L3_ind fun X hX => ?_
  have key : ∀ (t : List UInt8) (i n : Nat), t = l.drop (p + i) → p + i ≤ l.length → i ≤ 9 → n < 128 ^ i →
      K ((uvGo p t i n).1 : Int) ((uvGo p t i n).2.1 : Int) ((uvGo p t i n).2.2 : Int) w → X b (p : Int) (n : Int) (i : Int) w := by
    intro t
    induction t with
    | nil =>
      intro i n ht hp hi hn1 hK
      have : l.length ≤ p + i := by
        rcases Nat.lt_or_ge (p + i) l.length with h | h
        · rw [List.drop_eq_getElem_cons h] at ht; cases ht
        · exact h
      refine hX _ _ _ _ _ ?_
      unfold C.vint_U.S5
      rw [wI64 (by omega) (by omega)]
      exact cond_d (fun _ => hK) (fun h => by omega)
    | cons c t ih =>
      intro i n ht hp hi hn1 hK
      have hlt : p + i < l.length := by
        rcases Nat.lt_or_ge (p + i) l.length with h | h
        · exact h
        · rw [List.drop_of_length_le h] at ht; cases ht
      rw [List.drop_eq_getElem_cons hlt] at ht
      injection ht with hc ht
      refine hX _ _ _ _ _ ?_
      unfold C.vint_U.S5
      rw [wI64 (x := (p : Int) + (i : Int)) (by omega) (by omega)]
      refine cond_d (fun h => by omega) (fun _ => ?_)
      refine hb.ati (k := p + i) (by omega) hlt ?_
      rw [← hc]
      rw [uvGo] at hK
      refine uHead (fun h h' => ?_) (fun hne => ?_)
      · rw [if_pos (by omega)] at hK; exact hK
      rw [if_neg (by omega)] at hK
      refine uTail (T := G.nn _ _) (fun h h' => ?_) (fun hne' => ?_)
      · rw [if_pos (by omega)] at hK; exact hK
      rw [if_neg (by omega)] at hK
      rw [wI64 (x := (7 : Int) * (i : Int)) (by omega) (by omega)]
      refine ⟨by omega, ?_⟩
      have eq := orStep (x := c.toNat % 128) hi hn1 (Nat.mod_lt _ (by decide)) (fun h => by omega) (and127 c) (Y := (7 : Int) * (i : Int)) (by omega)
      have e := eq.1
      have q1 := eq.2.1
      rw [e]
      refine cond_d (fun h => ?_) (fun h => ?_)
      · rw [if_pos (by omega)] at hK
        rw [wI64 (by omega) (by omega)]
        exact hK
      · rw [if_neg (by omega)] at hK
        rw [wI64 (x := (i : Int) + 1) (by omega) (by omega)]
        refine ih (i + 1) _ (by rw [ht]; congr 1) (by omega) ?_ q1 hK
        rcases Nat.lt_or_ge i 9 with h9 | h9
        · omega
        · have := c.toNat_lt; omega
  exact key _ 0 0 (by simp) (by omega) (by omega) (by decide) hK
def le4 (s : B32) : List UInt8 := [u8 (s.toNat : Int), u8 (shr .u32 (s.toNat : Int) (8 : Int)), u8 (shr .u32 (s.toNat : Int) (16 : Int)), u8 (shr .u32 (s.toNat : Int) (24 : Int))]
def frameOf (p : List UInt8) : List UInt8 := putU p.length ++ (le4 (crcOn 0#32 p) ++ p)
theorem le4_cells (s : B32) : [Value.int .u8 (IntKind.u8.wrap (s.toNat : Int)), .int .u8 (IntKind.u8.wrap (shr .u32 (s.toNat : Int) (8 : Int))), .int .u8 (IntKind.u8.wrap (shr .u32 (s.toNat : Int) (16 : Int))), .int .u8 (IntKind.u8.wrap (shr .u32 (s.toNat : Int) (24 : Int)))] = vBs (le4 s) := by
  rw [vB_u8, vB_u8, vB_u8, vB_u8]; rfl
theorem putFrame_ok {w : World} {b p : Sl} {l m : List UInt8} (ht : Tab w) (hb : RdB w b l) (hp : RdB w p m) (hl : l.length ≤ 140737488000000) {K : Sl → Int → World → Prop}
    (hS : m.length > 65536 → K nilS 4 w) (hK : m.length ≤ 65536 → ∀ r w', Keep w w' → OwnB w' w.heap.size r (l ++ frameOf m) → K r 0 w') : C.vint_PutFrame b p w K := by
  have hn := hp.len
  unfold C.vint_PutFrame
  refine cond_d (fun h => hS (by omega)) (fun h => ?_)
  refine sum_ok ht hp (by omega) ?_
  rw [wU64_id (by omega) (by omega), hn]
  refine putU_ok (by omega) hb (by omega) fun r w1 k1 o1 => ?_
  refine ⟨by decide, by decide, by decide, ?_⟩
  have hpl := putU_len64 (n := m.length) (by omega)
  refine pushB (m := le4 (crcOn 0#32 m)) k1 k1.size o1 (le4_cells _) (by rfl) (by rw [List.length_append]; omega) fun r2 w2 k2 o2 => ?_
  refine appB k2 k2.size o2 (hp.keep k2) (by simp [le4]; omega) fun r3 w3 k3 o3 => ?_
  exact hK (by omega) r3 w3 k3 (by simpa [frameOf] using o3)
theorem uvGo_end (p : Nat) : ∀ (l : List UInt8) (i n : Nat), (uvGo p l i n).2.2 = 0 → p + i < (uvGo p l i n).2.1 ∧ (uvGo p l i n).2.1 ≤ p + i + l.length
  | [], _, _, h => by simp [uvGo] at h
  | c :: t, i, n, h => by
    rw [uvGo] at h ⊢
    split
    · rw [if_pos ‹_›] at h; simp at h
    rw [if_neg ‹_›] at h
    split
    · rw [if_pos ‹_›] at h; simp at h
    rw [if_neg ‹_›] at h
    split
    · simp only [List.length_cons]; omega
    · rw [if_neg ‹_›] at h
      have := uvGo_end p t _ _ h
      simp only [List.length_cons]; omega
theorem uv_end {l : List UInt8} {p : Int} (h : (uv l p).2.2 = 0) : 0 ≤ p ∧ p < ((uv l p).2.1 : Int) ∧ (uv l p).2.1 ≤ l.length := by
  unfold uv at h ⊢; split
  · rw [if_pos ‹_›] at h; simp at h
  · rw [if_neg ‹_›] at h
    have := uvGo_end _ _ _ _ h
    rw [List.length_drop] at this
    omega
/-- Four bytes, the low one first. -/
def n4 (c0 c1 c2 c3 : UInt8) : Nat := c0.toNat + c1.toNat * 256 + c2.toNat * 65536 + c3.toNat * 16777216
theorem or_add {a b k m : Nat} (hm : m = 2 ^ k) (h : a < m) : a ||| b * m = a + b * m := by
  subst hm
  rw [Nat.or_comm, Nat.mul_comm, ← Nat.two_pow_add_eq_or_of_lt h, Nat.add_comm]
theorem n4_or (c0 c1 c2 c3 : UInt8) : n4 c0 c1 c2 c3 = c0.toNat ||| c1.toNat * 256 ||| c2.toNat * 65536 ||| c3.toNat * 16777216 := by
  have h0 := c0.toNat_lt
  have h1 := c1.toNat_lt
  have h2 := c2.toNat_lt
  rw [or_add (k := 8) rfl (by omega), or_add (k := 16) rfl (by omega), or_add (k := 24) rfl (by omega)]
  rfl
theorem byU32 (c : UInt8) : IntKind.u32.wrap (c.toNat : Int) = ((c.toNat : Nat) : Int) := by
  have := c.toNat_lt
  rw [wU32_id (by omega) (by omega)]
theorem shlU32 (c : UInt8) {k m : Nat} (hk : k ≤ 24) (hm : m = 2 ^ k) : shl .u32 (c.toNat : Int) (k : Int) = ((c.toNat * m : Nat) : Int) := by
  have := c.toNat_lt
  subst hm
  rw [shl_nat .u32 _ k (by simp only [IntKind.bits]; omega), show (c.toNat : Int) * 2 ^ k = ((c.toNat * 2 ^ k : Nat) : Int) by simp]
  have hp : 2 ^ k ≤ 2 ^ 24 := Nat.pow_le_pow_right (by decide) hk
  have : c.toNat * 2 ^ k ≤ 255 * 2 ^ 24 := Nat.mul_le_mul (by omega) hp
  rw [wU32_id (by omega) (by omega)]
theorem orU32 {a b : Nat} (ha : a < 4294967296) (hb : b < 4294967296) : Go.bits .or .u32 (a : Int) (b : Int) = ((a ||| b : Nat) : Int) := bits_or rfl (by simp only [IntKind.bits]; omega) (by simp only [IntKind.bits]; omega)
theorem or_lt32 {a b : Nat} (ha : a < 4294967296) (hb : b < 4294967296) : a ||| b < 4294967296 := Nat.or_lt_two_pow (n := 32) ha hb
theorem word_own (c0 c1 c2 c3 : UInt8) : Go.bits .or .u32 (Go.bits .or .u32 (0 : Int) (shl .u32 (IntKind.u32.wrap (c3.toNat : Int)) (24 : Int))) (Go.bits .or .u32 (Go.bits .or .u32 (IntKind.u32.wrap (c0.toNat : Int)) (shl .u32 (IntKind.u32.wrap (c1.toNat : Int)) (8 : Int))) (shl .u32 (IntKind.u32.wrap (c2.toNat : Int)) (16 : Int))) = ((n4 c0 c1 c2 c3 : Nat) : Int) := by
  have h0 := c0.toNat_lt
  have h1 := c1.toNat_lt
  have h2 := c2.toNat_lt
  have h3 := c3.toNat_lt
  have e1 := shlU32 c1 (k := 8) (m := 256) (by decide) rfl
  have e2 := shlU32 c2 (k := 16) (m := 65536) (by decide) rfl
  have e3 := shlU32 c3 (k := 24) (m := 16777216) (by decide) rfl
  rw [byU32, byU32, byU32, byU32]
  rw [show ((8 : Nat) : Int) = (8 : Int) from rfl] at e1
  rw [show ((16 : Nat) : Int) = (16 : Int) from rfl] at e2
  rw [show ((24 : Nat) : Int) = (24 : Int) from rfl] at e3
  have ez : (0 : Int) = ((0 : Nat) : Int) := rfl
  rw [e1, e2, e3, ez, orU32 (by omega) (by omega), orU32 (by omega) (by omega), orU32 (or_lt32 (by omega) (by omega)) (by omega), orU32 (or_lt32 (by omega) (by omega)) (or_lt32 (or_lt32 (by omega) (by omega)) (by omega)), n4_or,
    Nat.zero_or, Nat.or_comm]
/-- The frame at a place. -/
def fr (l : List UInt8) (p : Int) : List UInt8 × Nat × Nat :=
  let u := uv l p
  if u.2.2 ≠ 0 then ([], 0, u.2.2) else if u.1 > 65536 then ([], 0, 4) else if l.length < u.2.1 + 4 + u.1 then ([], 0, 9) else
  let d := (l.drop (u.2.1 + 4)).take u.1
  if (crcOn 0#32 d).toNat ≠ n4 (l.getD u.2.1 0) (l.getD (u.2.1 + 1) 0) (l.getD (u.2.1 + 2) 0) (l.getD (u.2.1 + 3) 0) then ([], 0, 11) else (d, u.2.1 + 4 + u.1, 0)
theorem getD_at {l : List UInt8} {k : Nat} (h : k < l.length) : l[k] = l.getD k 0 := by simp [List.getD_eq_getElem?_getD, h]
theorem fr_end {l : List UInt8} {p : Int} (h : (fr l p).2.2 = 0) : 0 ≤ p ∧ p < ((fr l p).2.1 : Int) ∧ (fr l p).2.1 ≤ l.length ∧ (fr l p).1.length ≤ 65536 := by
  unfold fr at h ⊢
  simp only at h ⊢
  split
  · rw [if_pos ‹_›] at h; exact absurd h ‹_›
  rw [if_neg ‹_›] at h
  have hu : (uv l p).2.2 = 0 := by
    by_cases e : (uv l p).2.2 = 0
    · exact e
    · contradiction
  have := uv_end hu
  split
  · rw [if_pos ‹_›] at h; cases h
  rw [if_neg ‹_›] at h
  split
  · rw [if_pos ‹_›] at h; cases h
  rw [if_neg ‹_›] at h
  split
  · rw [if_pos ‹_›] at h; cases h
  simp only [List.length_take]
  omega
theorem fr_len (l : List UInt8) (p : Int) : (fr l p).1.length ≤ 65536 := by
  unfold fr
  simp only
  split
  · simp
  split
  · simp
  split
  · simp
  split
  · simp
  simp only [List.length_take]
  omega
theorem atD {w : World} {s : Sl} {l : List UInt8} (h : RdB w s l) {i : Int} {k : Nat} (hi : i = (k : Int)) (hk : k < l.length) {K : Int → Prop} (hK : K ((l.getD k 0).toNat : Int)) :
    G.ix s.a s.n i 1 fun p => G.cI .u8 p w K := RdB.ati h hi hk (by rw [getD_at hk]; exact hK)
theorem frame_ok {w : World} {b : Sl} {l : List UInt8} (ht : Tab w) (hb : RdB w b l) (hl : l.length ≤ 140737488300000) (p : Int) {K : Sl → Int → Int → World → Prop}
    (hK : ∀ r w', Keep w w' → OwnB w' w.heap.size r (fr l p).1 → K r ((fr l p).2.1 : Int) ((fr l p).2.2 : Int) w') : C.vint_Frame b p w K := by
  have hn := hb.len
  unfold C.vint_Frame
  refine u_ok hb (by omega) p ?_
  unfold fr at hK
  simp only at hK
  have hnil := OwnB.nil w w.heap.size
  refine cond_ne (fun h => ?_) (fun h => ?_)
  · rw [if_pos (fun e => h (by rw [e]; rfl))] at hK
    exact hK nilS w (Keep.refl w) hnil
  have hu : (uv l p).2.2 = 0 := by exact_mod_cast h
  rw [if_neg (fun e => e hu)] at hK
  have he := uv_end hu
  refine cond_d (fun h1 => ?_) (fun h1 => ?_)
  · rw [if_pos (by omega)] at hK
    exact hK nilS w (Keep.refl w) hnil
  rw [if_neg (by omega)] at hK
  rw [wI64 (x := (((uv l p).1 : Nat) : Int)) (by omega) (by omega), wI64 (x := ((b.n : Nat) : Int) - _) (by omega) (by omega), wI64 (x := (4 : Int) + _) (by omega) (by omega)]
  refine cond_d (fun h2 => ?_) (fun h2 => ?_)
  · rw [if_pos (by omega)] at hK
    exact hK nilS w (Keep.refl w) hnil
  rw [if_neg (by omega)] at hK
  generalize hf : (uv l p).2.1 = f at *
  generalize hv : (uv l p).1 = v at *
  rw [wI64 (x := (f : Int) + 3) (by omega) (by omega), wI64 (x := (f : Int) + 1) (by omega) (by omega), wI64 (x := (f : Int) + 2) (by omega) (by omega), wI64 (x := (f : Int) + 4) (by omega) (by omega), wI64 (x := (f : Int) + 4 + _) (by omega) (by omega)]
  refine atD hb (k := f + 3) (by omega) (by omega) ⟨by decide, ?_⟩
  refine atD hb (k := f) (by omega) (by omega) ?_
  refine atD hb (k := f + 1) (by omega) (by omega) ⟨by decide, ?_⟩
  refine atD hb (k := f + 2) (by omega) (by omega) ⟨by decide, ?_⟩
  refine RdB.slc hb (lo := f + 4) (hi := f + 4 + v) (by omega) (by omega) (by omega) (by omega) fun s hs => ?_
  rw [show f + 4 + v - (f + 4) = v by omega] at hs
  refine joined_ok (RdB.nil _) (Rd.keep hs (Keep.drew w)) (by simp; omega) fun r w1 k1 o1 => ?_
  rw [List.nil_append] at o1
  have k0 := Keep.trans (Keep.drew w) k1
  refine sum_ok (ht.keep k0) o1.rd (by simp; omega) ?_
  rw [word_own]
  refine cond_ne (fun h3 => ?_) (fun h3 => ?_)
  · rw [if_pos (fun e => h3 (by exact_mod_cast e))] at hK
    exact hK nilS w1 k0 (OwnB.nil _ _)
  · rw [if_neg (fun e => e (by exact_mod_cast h3))] at hK
    have := hK r w1 k0 o1
    simpa using this
def frs (l : List UInt8) : Nat → Nat → List (List UInt8) × Nat × Nat
  | 0, p => ([], p, 0)
  | d + 1, p => if p < l.length then (if (fr l p).2.2 ≠ 0 then ([], p, (fr l p).2.2) else ((fr l p).1 :: (frs l d (fr l p).2.1).1, (frs l d (fr l p).2.1).2)) else ([], p, 0)
theorem frames_ok {w0 : World} {b : Sl} {l : List UInt8} (ht : Tab w0) (hb : RdB w0 b l) (hl : l.length ≤ 5864062014700) {K : Sl → Int → Int → World → Prop}
    (hK : ∀ s rs w', Keep w0 w' → OwnBB w' w0.heap.size s rs (frs l l.length 0).1 → K s ((frs l l.length 0).2.1 : Int) ((frs l l.length 0).2.2 : Int) w') : C.vint_Frames b w0 K := by
  have hn := hb.len
  unfold C.vint_Frames C.vint_Frames.S11
  refine C.vint_Frames.L6_ind fun X hX => ?_
  have key : ∀ (d p : Nat) (s : Sl) (rs : List Sl) (ls : List (List UInt8)) (w : World), l.length ≤ p + d → ls.length ≤ p → p ≤ l.length → Keep w0 w → OwnBB w w0.heap.size s rs ls →
      (∀ s rs w', Keep w0 w' → OwnBB w' w0.heap.size s rs (ls ++ (frs l d p).1) → K s ((frs l d p).2.1 : Int) ((frs l d p).2.2 : Int) w') → X b s (p : Int) 0 w := by
    intro d
    induction d with
    | zero =>
      intro p s rs ls w hd hls hp k o hK
      refine hX _ _ _ _ _ ?_
      unfold C.vint_Frames.S8 C.vint_Frames.S3
      refine cond_d (fun h => by omega) (fun _ => ?_)
      exact hK s rs w k (by simpa [frs] using o)
    | succ d ih =>
      intro p s rs ls w hd hls hp k o hK
      refine hX _ _ _ _ _ ?_
      unfold C.vint_Frames.S8 C.vint_Frames.S3
      rw [frs] at hK
      refine cond_d (fun h => ?_) (fun h => ?_)
      · rw [if_pos (by omega)] at hK
        refine frame_ok (ht.keep k) (hb.keep k) (by omega) _ fun r w1 k1 o1 => ?_
        refine cond_ne (fun h3 => ?_) (fun h3 => ?_)
        · rw [if_pos (fun e => h3 (by rw [e]; rfl))] at hK
          exact hK s rs w1 (Keep.trans k k1) (by simpa using o.keep k1)
        · have hz : (fr l p).2.2 = 0 := by exact_mod_cast h3
          rw [if_neg (fun e => e hz)] at hK
          have he := fr_end hz
          refine pushBB (Keep.trans k k1) (by have := k.size; have := k1.size; omega) (o.keep k1) (Own.mono o1 k.size) (o.fresh o1 (Nat.le_refl _)) (by omega) fun s' w2 k2 o2 _ => ?_
          refine ih _ s' (rs ++ [r]) (ls ++ [(fr l p).1]) w2 (by omega) (by simp; omega) he.2.2.1 k2 o2 fun s rs w' k o => hK s rs w' k (by simpa using o)
      · rw [if_neg (by omega)] at hK
        exact hK s rs w k (by simpa using o)
  exact key l.length 0 nilS [] [] w0 (by omega) (by simp) (by omega) (Keep.refl _) (OwnBB.nil _ _) (by simpa using hK)
theorem frs_len (l : List UInt8) : ∀ (d p : Nat), (frs l d p).1.length ≤ d
  | 0, p => by simp [frs]
  | d + 1, p => by
    rw [frs]
    split
    · split
      · simp
      · have := frs_len l d (fr l p).2.1
        simp only [List.length_cons]; omega
    · simp
theorem frs_each (l : List UInt8) : ∀ (d p : Nat), ∀ m ∈ (frs l d p).1, m.length ≤ 65536
  | 0, p, m, h => by simp [frs] at h
  | d + 1, p, m, h => by
    rw [frs] at h
    split at h
    · split at h
      · simp at h
      · rcases List.mem_cons.1 h with e | e
        · rw [e]; exact fr_len l p
        · exact frs_each l d _ m e
    · simp at h
def pf (l m : List UInt8) : List UInt8 × Nat := if m.length > 65536 then ([], 4) else (l ++ frameOf m, 0)
theorem frameOf_len {m : List UInt8} (h : m.length ≤ 65536) : (frameOf m).length ≤ m.length + 14 := by
  have := putU_len64 (n := m.length) (by omega)
  simp [frameOf, le4]; omega
theorem pf_len (l m : List UInt8) : (pf l m).1.length ≤ l.length + 65550 := by
  unfold pf; split
  · simp
  · have := frameOf_len (m := m) (by omega)
    simp only [List.length_append]; omega
theorem pf_ok {w : World} {b p : Sl} {l m : List UInt8} (ht : Tab w) (hb : RdB w b l) (hp : RdB w p m) (hl : l.length ≤ 140737488000000) {K : Sl → Int → World → Prop}
    (hK : ∀ r w', Keep w w' → OwnB w' w.heap.size r (pf l m).1 → K r ((pf l m).2 : Int) w') : C.vint_PutFrame b p w K := by
  unfold pf at hK
  refine putFrame_ok ht hb hp hl (fun h => ?_) (fun h r w' k o => ?_)
  · rw [if_pos h] at hK; exact hK nilS w (Keep.refl w) (OwnB.nil _ _)
  · rw [if_neg (by omega)] at hK; exact hK r w' k o
end Go.Proofs.YtdaghggdmgbpnaaDoor.Vint
