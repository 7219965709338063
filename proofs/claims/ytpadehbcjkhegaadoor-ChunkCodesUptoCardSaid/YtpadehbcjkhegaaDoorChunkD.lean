/- Layer 8: a chunk's bits are read. Own work. -/
import Derived.Test.YtpadehbcjkhegaaDoorBitR
import Derived.Test.YtpadehbcjkhegaaDoorChunkB
namespace Go.Proofs.YtpadehbcjkhegaaDoor.Chunk
open Go Vm Go.RowKit Num Mem Bits Vint
variable {ω ω' : Tg} {w w' w0 : World} {t g p k : Nat} {bs : List UInt8}

/-- The bits ahead. -/
def rest (bs : List UInt8) (p : Nat) : List Bool := (byteBits bs).drop p
theorem rest_len (bs : List UInt8) (p : Nat) : (rest bs p).length = 8 * bs.length - p := by rw [rest, List.length_drop, byteBits_len]
/-- A reader of bits, of the tags t and t + 1. -/
structure RdrT (ω : Tg) (w : World) (t g : Nat) (bs : List UInt8) (p : Nat) : Prop where
  ex : ∃ s, BT ω w t g 112 [Sl.v s, .int .i64 ((8 * bs.length : Nat) : Int), .int .i64 (p : Int)] ∧ OBy ω w (t + 1) s bs
  le : p ≤ 8 * bs.length
  small : bs.length ≤ 1048576
theorem RdrT.stp {T : Nat → Bool} (h : RdrT ω w t g bs p) (s : Stp T ω ω' w w') (n0 : T t = false := by rfl) (n1 : T (t + 1) = false := by rfl) : RdrT ω' w' t g bs p := by
  obtain ⟨q, b, o⟩ := h.ex
  exact ⟨⟨q, b.stp s n0, o.stp s n1⟩, h.le, h.small⟩

theorem newRdr_ok {b : Sl} (hb : RdB w b bs) (hs : bs.length ≤ 1048576) (t : Nat) {x : Int} (hx : x = ((8 * bs.length : Nat) : Int)) {K : Option Addr → World → Prop} (hK : ∀ g ω' w', Stp Non ω ω' w w' → RdrT ω' w' t g bs 0 → K (wp g) w') : C.bits_NewReader b x w K := by
  subst hx
  unfold C.bits_NewReader
  have hn := hb.len
  refine cond_d (fun h => by omega) (fun _ => cond_d (fun h => by omega) (fun _ => ?_))
  rw [wI64 (by omega) (by omega)]
  refine cond_d (fun h => by omega) (fun _ => ?_)
  refine appB (Keep.refl w) (Nat.le_refl _) (OwnB.nil _ _) hb (by simp only [List.length_nil]; omega) fun r w1 k1 o1 => ?_
  rw [List.nil_append] at o1
  have s1 := Keep.stp k1 ω (t + 1)
  have o1' : OBy _ w1 (t + 1) r bs := Own.tag o1 (Nat.le_refl _) ω (t + 1)
  refine new_T (ω := ext ω w.heap.size (t + 1)) t fun g ω2 w2 k2 b2 => ?_
  exact hK g ω2 w2 (s1.trans k2) ⟨⟨r, b2, o1'.stp k2⟩, Nat.zero_le _, hs⟩

theorem at_ok (h : RdrT ω w t g bs p) {i : Nat} (hi : i < 8 * bs.length) {b : Bool} (hb : (byteBits bs)[i]? = some b) {K : Int → World → Prop} (hK : K ((b2n b : Nat) : Int) w) : C.bits_Reader_at (wp g) (i : Int) w K := by
  unfold C.bits_Reader_at
  obtain ⟨s, bt, o⟩ := h.ex
  have hs := h.small
  refine ptr_at (cSl_at (by rw [bt.cell]; rfl) ⟨by decide, ?_⟩)
  rw [idx8 (by omega)]
  have h8 : i / 8 < bs.length := by omega
  refine RdB.at_ o.rd h8 ⟨by decide, ?_⟩
  have e7 : IntKind.u64.wrap (IntKind.i64.wrap ((7 : Int) - (Int.tmod (i : Int) (8 : Int)))) = ((7 - i % 8 : Nat) : Int) := by
    rw [show Int.tmod (i : Int) (8 : Int) = ((i % 8 : Nat) : Int) from rfl, wI64 (by omega) (by omega), wU64_id (by omega) (by omega)]; omega
  rw [e7]
  refine ⟨by omega, ?_⟩
  have hlt := bs[i / 8].toNat_lt
  have e := shr_nat .u8 (bs[i / 8].toNat : Int) (7 - i % 8) (by simp only [IntKind.bits]; omega)
  have e' : (bs[i / 8].toNat : Int) / 2 ^ (7 - i % 8) = ((bs[i / 8].toNat / 2 ^ (7 - i % 8) : Nat) : Int) := by simp
  have hq : bs[i / 8].toNat / 2 ^ (7 - i % 8) < 256 := Nat.lt_of_le_of_lt (Nat.div_le_self _ _) hlt
  have eb := bitOf_eq bs[i / 8].toNat (7 - i % 8)
  rw [e, e']
  generalize bs[i / 8].toNat / 2 ^ (7 - i % 8) = q at hq eb
  rw [wU64_id (by omega) (by omega), show (1 : Int) = ((1 : Nat) : Int) from rfl, bits_and rfl (by simp only [IntKind.bits]; omega) (by decide), Nat.and_one_is_mod, eb]
  have hat := byteBits_at bs (i / 8) (i % 8) _ (by omega) (List.getElem?_eq_getElem h8)
  rw [show 8 * (i / 8) + i % 8 = i by omega, hb] at hat
  rw [← Option.some.inj hat]
  exact hK

theorem or_bit {v : Nat} {b : Bool} (hv : v < 9223372036854775808) : Go.bits .or .u64 (shl .u64 (v : Int) (1 : Int)) ((b2n b : Nat) : Int) = ((2 * v + b2n b : Nat) : Int) := by
  have e := shl_nat .u64 (v : Int) 1 (by decide)
  rw [show (1 : Int) = ((1 : Nat) : Int) from rfl, e, wU64_id (by omega) (by omega), show (v : Int) * 2 ^ 1 = ((2 * v : Nat) : Int) by omega]
  have := b2n_le b
  rw [bits_or rfl (by simp only [IntKind.bits]; omega) (by simp only [IntKind.bits]; omega)]
  congr 1
  have h2 := Nat.two_pow_add_eq_or_of_lt (b := b2n b) (i := 1) (by omega) v
  rw [show 2 * v + b2n b = 2 ^ 1 * v + b2n b by omega, h2]

theorem look_ok (h : RdrT ω w t g bs p) (hk : k ≤ 64) (hp : p + k ≤ 8 * bs.length) {K : Int → World → Prop} (hK : K ((num ((rest bs p).take k) : Nat) : Int) w) : C.bits_Reader_look (wp g) (p : Int) (k : Int) w K := by
  unfold C.bits_Reader_look C.bits_Reader_look.S9
  have hs := h.small
  refine C.bits_Reader_look.L5_ind fun X hX => ?_
  have key : ∀ (d i : Nat), i + d = k → X (wp g) (p : Int) ((num ((rest bs p).take i) : Nat) : Int) (k : Int) (i : Int) w := by
    intro d
    induction d with
    | zero =>
      intro i hi
      refine hX _ _ _ _ _ _ ?_
      unfold C.bits_Reader_look.S7 C.bits_Reader_look.S2
      rw [show i = k by omega]
      exact cond_d (fun h => by omega) (fun _ => hK)
    | succ d ih =>
      intro i hi
      refine hX _ _ _ _ _ _ ?_
      unfold C.bits_Reader_look.S7
      refine cond_d (fun _ => ⟨by decide, ?_⟩) (fun h => by omega)
      have hl := byteBits_len bs
      obtain ⟨b, hb⟩ : ∃ b, (byteBits bs)[p + i]? = some b := ⟨_, List.getElem?_eq_getElem (by omega)⟩
      rw [wI64 (x := (p : Int) + (i : Int)) (by omega) (by omega), show (p : Int) + (i : Int) = ((p + i : Nat) : Int) by omega]
      refine at_ok h (by omega) hb ?_
      have hlt := num_lt ((rest bs p).take i)
      have hil : ((rest bs p).take i).length = i := by rw [List.length_take, rest_len]; omega
      have hpw : 2 ^ i ≤ 2 ^ 63 := Nat.pow_le_pow_right (by decide) (by omega)
      rw [hil] at hlt
      rw [or_bit (by omega), wI64 (by omega) (by omega), show (i : Int) + 1 = ((i + 1 : Nat) : Int) by omega]
      have e : (rest bs p).take (i + 1) = (rest bs p).take i ++ [b] := by
        have hr : (rest bs p)[i]? = some b := by rw [rest, List.getElem?_drop]; exact hb
        rw [List.take_add_one, hr]; rfl
      have := ih (i + 1) (by omega)
      rwa [e, num_snoc] at this
  exact key k 0 (by omega)

theorem rbitsC_ok (h : RdrT ω w t g bs p) (hk : k ≤ 64) {x : Int} (hx : x = (k : Int)) {K : Int → Int → World → Prop} (hS : 8 * bs.length < p + k → K 0 9 w.drew)
    (hK : p + k ≤ 8 * bs.length → ∀ ω' w', Stp (Mem.One t) ω ω' w w' → RdrT ω' w' t g bs (p + k) → K ((num ((rest bs p).take k) : Nat) : Int) 0 w') : C.bits_Reader_Bits (wp g) x w K := by
  subst hx
  unfold C.bits_Reader_Bits
  have hs := h.small
  have hle := h.le
  have hd := h.stp (drew_stp ω w)
  obtain ⟨s, b, o⟩ := hd.ex
  refine cond_f rfl (cond_d (fun h => by omega) (fun _ => cond_d (fun h => by omega) (fun _ => ?_)))
  refine ptr_at (cI_at (n := ((8 * bs.length : Nat) : Int)) (by rw [addr_add, b.cell]; rfl) (ptr_at (cI_at (n := (p : Int)) (by rw [addr_add, b.cell]; rfl) ?_)))
  rw [wI64 (by omega) (by omega)]
  refine cond_d (fun h => hS (by omega)) (fun hp => ?_)
  refine ptr_at (cI_at (n := (p : Int)) (by rw [addr_add, b.cell]; rfl) ?_)
  refine look_ok hd hk (by omega) ?_
  refine ptr_at (cI_at (n := (p : Int)) (by rw [addr_add, b.cell]; rfl) (ptr_at (st_TA b (by simp) fun ω2 w2 s2 b2 => ?_)))
  rw [wI64 (by omega) (by omega)] at b2
  exact hK (by omega) ω2 w2 (((drew_stp ω w).non _).trans s2) ⟨⟨s, b2, o.stp s2 (beq_no (by omega))⟩, by omega, hs⟩

/-! ## A chunk's reader -/
structure RdS (ω : Tg) (w : World) (t gd : Nat) (bs : List UInt8) (p : Nat) (A B : Int) (kn bad : Bool) : Prop where
  ex : ∃ gr, BT ω w t gd 86 [.pointer (wp gr), .int .i64 A, .int .i64 B, .bool kn, .bool bad] ∧ RdrT ω w (t + 1) gr bs p
variable {A B : Int} {kn bad : Bool} {gd : Nat}
theorem RdS.stp {T : Nat → Bool} (h : RdS ω w t gd bs p A B kn bad) (s : Stp T ω ω' w w') (n0 : T t = false) (n1 : T (t + 1) = false) (n2 : T (t + 2) = false) : RdS ω' w' t gd bs p A B kn bad := by
  obtain ⟨gr, b, r⟩ := h.ex
  exact ⟨gr, b.stp s n0, r.stp s n1 n2⟩
theorem RdS.non (h : RdS ω w t gd bs p A B kn bad) (s : Stp Non ω ω' w w') : RdS ω' w' t gd bs p A B kn bad := h.stp s rfl rfl rfl
/-- What a call of the reader has done with the bits pre ahead of it. -/
def Took (bs : List UInt8) (p : Nat) (bad : Bool) (p' : Nat) (bad' : Bool) (pre : List Bool) : Prop := ∀ tail, rest bs p = pre ++ tail → rest bs p' = tail ∧ bad' = bad

theorem dbits_ok (h : RdS ω w t gd bs p A B kn bad) (hk : k ≤ 64) {x : Int} (hx : x = (k : Int)) {K : Int → World → Prop}
    (hK : ∀ (v p' : Nat) bad' ω' w', v < 2 ^ k → (∀ y tail, y < 2 ^ k → rest bs p = low y k ++ tail → v = y ∧ rest bs p' = tail ∧ bad' = bad) → Stp (Rng t 3) ω ω' w w' → RdS ω' w' t gd bs p' A B kn bad' → K (v : Int) w') : C.chunk_reader_bits (wp gd) x w K := by
  unfold C.chunk_reader_bits
  obtain ⟨gr, b, r⟩ := h.ex
  refine ptr_at (cP_at (b := wp gr) (by rw [b.cell]; rfl) ?_)
  refine rbitsC_ok r hk hx (fun hp => ?_) (fun hp ω1 w1 s1 r1 => ?_)
  · have kd := drew_stp ω w
    have b' := b.stp kd
    have r' := r.stp kd
    have no : ∀ (y : Nat) (tail : List Bool), y < 2 ^ k → rest bs p = low y k ++ tail → False := fun y tail _ e => by
      have := congrArg List.length e
      rw [rest_len, List.length_append, low_len] at this
      have := r.le
      omega
    have fin : ∀ ω2 w2 (s2 : Stp (Mem.One t) ω ω2 w.drew w2) (b2 : BT ω2 w2 t gd 86 [.pointer (wp gr), .int .i64 A, .int .i64 B, .bool kn, .bool true]), K 0 w2 := fun ω2 w2 s2 b2 =>
      hK 0 p true ω2 w2 (Nat.pow_pos (by decide)) (fun y tail hy e => (no y tail hy e).elim) ((kd.non _).trans (s2.rng (by omega) (by omega))) ⟨gr, b2, r'.stp s2 (beq_no (by omega)) (beq_no (by omega))⟩
    refine ptr_at (cB_at (b := bad) (by rw [addr_add, b'.cell]; rfl) ?_)
    refine cond_of (fun _ => ptr_at (st_TA b' (by simp) fun ω2 w2 s2 b2 => fin ω2 w2 s2 b2)) (fun _ => ptr_at (st_TA b' (by simp) fun ω2 w2 s2 b2 => fin ω2 w2 s2 b2))
  · have b1 := b.stp s1 (beq_no (by omega))
    have hlt := num_lt ((rest bs p).take k)
    have hil : ((rest bs p).take k).length = k := by rw [List.length_take, rest_len]; omega
    rw [hil] at hlt
    have good : ∀ y tail, y < 2 ^ k → rest bs p = low y k ++ tail → num ((rest bs p).take k) = y ∧ rest bs (p + k) = tail := fun y tail hy e => by
      obtain ⟨e1, e2⟩ := take_low y k tail
      refine ⟨by rw [e, e1, num_low hy], ?_⟩
      have : rest bs (p + k) = (rest bs p).drop k := by rw [rest, rest, List.drop_drop]
      rw [this, e, e2]
    refine ptr_at (cB_at (b := bad) (by rw [addr_add, b1.cell]; rfl) ?_)
    refine cond_of (fun hb => ptr_at (st_TA b1 (by simp) fun ω2 w2 s2 b2 => ?_)) (fun hb => ptr_at (st_TA b1 (by simp) fun ω2 w2 s2 b2 => ?_))
    · subst hb
      exact hK _ (p + k) true ω2 w2 hlt (fun y tail hy e => ⟨(good y tail hy e).1, (good y tail hy e).2, rfl⟩) ((s1.rng (by omega) (by omega)).trans (s2.rng (by omega) (by omega))) ⟨gr, b2, r1.stp s2 (beq_no (by omega)) (beq_no (by omega))⟩
    · subst hb
      exact hK _ (p + k) false ω2 w2 hlt (fun y tail hy e => ⟨(good y tail hy e).1, (good y tail hy e).2, rfl⟩) ((s1.rng (by omega) (by omega)).trans (s2.rng (by omega) (by omega))) ⟨gr, b2, r1.stp s2 (beq_no (by omega)) (beq_no (by omega))⟩
end Go.Proofs.YtpadehbcjkhegaaDoor.Chunk
