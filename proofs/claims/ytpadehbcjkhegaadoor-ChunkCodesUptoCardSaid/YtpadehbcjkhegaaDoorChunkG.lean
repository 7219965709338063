/- Layer 8: the reference reads: bits. Own work. -/
import Derived.Test.YtpadehbcjkhegaaDoorChunkE5
import Derived.Test.YtpadehbcjkhegaaDoorChunkR
import Derived.Test.YtpadehbcjkhegaaDoorVintX
namespace Go.Proofs.YtpadehbcjkhegaaDoor.Chunk
open Go Vm Go.RowKit Num Mem Bits Vint
variable {ω ω' : Tg} {w w' w0 : World} {t gr gs gp p k : Nat} {bs : List UInt8} {T D A B : Int} {V : Nat} {bad : Bool}

theorem newStr_ok {b : Sl} (hb : RdB w0 b bs) (hs : bs.length ≤ 4000) (t : Nat) (ht : 0 < t) {x : Int} (hx : x = ((8 * bs.length : Nat) : Int)) {K : Option Addr → World → Prop} {ω0 : Tg} (top0 : Top w0 ω0 w) (hK : ∀ g ω' w', Stp (Duo t (t + 1)) ω0 ω' w w' → StT ω' w' t g (byteBits bs) 0 → K (wp g) w') : C.tocsinref02_New b x w K := by
  subst hx
  have hn := hb.len
  have hlen := byteBits_len bs
  unfold C.tocsinref02_New
  refine cond_d (fun h => by omega) (fun _ => cond_d (fun h => by omega) (fun _ => ?_))
  rw [wI64 (by omega) (by omega)]
  refine cond_d (fun h => by omega) (fun _ => ?_)
  refine new_T (ω := ω0) t fun g ω1 w1 k1 b1 => ?_
  unfold C.tocsinref02_New.S9
  refine C.tocsinref02_New.L5_ind fun X hX => ?_
  have key : ∀ (d i : Nat) (ω2 : Tg) (w2 : World), i + d = 8 * bs.length → Stp (Duo t (t + 1)) ω0 ω2 w w2 → StT ω2 w2 t g ((byteBits bs).take i) 0 → X b ((8 * bs.length : Nat) : Int) (wp g) (i : Int) w2 := by
    intro d
    induction d with
    | zero =>
      intro i ω2 w2 hi s h
      refine hX _ _ _ _ _ ?_
      unfold C.tocsinref02_New.S7 C.tocsinref02_New.S2
      refine cond_d (fun h => by omega) (fun _ => hK g ω2 w2 s ?_)
      rw [List.take_of_length_le (by omega)] at h
      exact h
    | succ d ih =>
      intro i ω2 w2 hi s h
      refine hX _ _ _ _ _ ?_
      unfold C.tocsinref02_New.S7
      refine cond_d (fun _ => ?_) (fun h => by omega)
      have kd := drew_stp ω2 w2
      obtain ⟨sl, bt, o⟩ := (h.non kd).ex
      have hbl := o.len
      rw [List.length_take, Nat.min_eq_left (by omega)] at hbl
      have sd := s.trans (kd.non _)
      have topd := top0.stp sd (by
        have h1 : Nat.beq 0 t = false := beq_no (by omega)
        have h2 : Nat.beq 0 (t + 1) = false := beq_no (by omega)
        show (Nat.beq 0 t || Nat.beq 0 (t + 1)) = false
        rw [h1, h2]; rfl)
      refine ptr_at (cSl_at (by rw [bt.cell]; rfl) ⟨by decide, ?_⟩)
      rw [idx8 (by omega)]
      have h8 : i / 8 < bs.length := by omega
      refine RdB.at_ (hb.keep topd.k) h8 ⟨by decide, ?_⟩
      have e7 : IntKind.u64.wrap (IntKind.i64.wrap ((7 : Int) - (Int.tmod (i : Int) (8 : Int)))) = ((7 - i % 8 : Nat) : Int) := by
        rw [show Int.tmod (i : Int) (8 : Int) = ((i % 8 : Nat) : Int) from rfl, wI64 (by omega) (by omega), wU64_id (by omega) (by omega)]; omega
      rw [e7]
      refine ⟨by omega, ?_⟩
      have hat := byteBits_at bs (i / 8) (i % 8) _ (by omega) (List.getElem?_eq_getElem h8)
      rw [show 8 * (i / 8) + i % 8 = i by omega] at hat
      have ebit : ((Go.bits .and .u8 (shr .u8 (bs[i / 8].toNat : Int) ((7 - i % 8 : Nat) : Int)) (1 : Int)) == (1 : Int)) = bitOf bs[i / 8].toNat (7 - i % 8) := by
        have hlt := bs[i / 8].toNat_lt
        have e := shr_nat .u8 (bs[i / 8].toNat : Int) (7 - i % 8) (by simp only [IntKind.bits]; omega)
        have e' : (bs[i / 8].toNat : Int) / 2 ^ (7 - i % 8) = ((bs[i / 8].toNat / 2 ^ (7 - i % 8) : Nat) : Int) := by simp
        have hq : bs[i / 8].toNat / 2 ^ (7 - i % 8) < 256 := Nat.lt_of_le_of_lt (Nat.div_le_self _ _) hlt
        unfold bitOf
        rw [e, e']
        generalize bs[i / 8].toNat / 2 ^ (7 - i % 8) = q at hq
        rw [show (1 : Int) = ((1 : Nat) : Int) from rfl, bits_and rfl (by simp only [IntKind.bits]; omega) (by decide), Nat.and_one_is_mod]
        rcases Nat.mod_two_eq_zero_or_one q with h | h <;> rw [h] <;> rfl
      rw [ebit]
      have e : (byteBits bs).take (i + 1) = (byteBits bs).take i ++ [bitOf bs[i / 8].toNat (7 - i % 8)] := by rw [List.take_add_one, hat]; rfl
      refine new_at ⟨same_keep (Keep.alloc _ _) bt.blk.lt, ?_⟩
      have := push_T (ty := 76) tib o (n := 1) (ds := #[.bool (bitOf bs[i / 8].toNat (7 - i % 8))]) rfl (by intro v hv; simp at hv; subst hv; rfl) (by simp only [maxLen]; omega) (by omega) (K := fun l25 w26 => G.ptr (wp g) fun p27 => G.st p27 l25.v w26 fun w28 => X b ((8 * bs.length : Nat) : Int) (wp g) (IntKind.i64.wrap ((i : Int) + 1)) w28) fun r ω3 w3 k3 o3 hr => ?_
      · exact this
      · refine ptr_at (st_T (bt.stp k3 (beq_no (by omega))) (by simp) fun ω4 w4 k4 b4 => ?_)
        rw [wI64 (by omega) (by omega), show (i : Int) + 1 = ((i + 1 : Nat) : Int) by omega]
        refine ih (i + 1) ω4 w4 (by omega) (sd.trans (k3.two.trans k4.one)) ⟨r, b4, ?_⟩
        have := o3.stp k4 (beq_no (by omega))
        rw [e, Obl, vbs_app]; exact this
  exact key (8 * bs.length) 0 ω1 w1 (by omega) (k1.non _) ⟨nilS, b1, OT.nil _ _ _ _ _⟩

theorem sread_ok {a : Nat} (h : StT ω w t gs (byteBits bs) (a : Int)) (hs : bs.length ≤ 4000) (ha : a ≤ 8 * bs.length) (hk : k ≤ 64) {x : Int} (hx : x = (k : Int)) {K : Int → Int → World → Prop}
    (hS : 8 * bs.length < a + k → ∀ w', Keep w w' → K 0 9 w')
    (hK : a + k ≤ 8 * bs.length → ∀ ω' w', Stp (Mem.One t) ω ω' w w' → StT ω' w' t gs (byteBits bs) ((a + k : Nat) : Int) → K ((num ((rest bs a).take k) : Nat) : Int) 0 w') : C.tocsinref02_Stream_ReadBits (wp gs) x w K := by
  subst hx
  have hlen := byteBits_len bs
  unfold C.tocsinref02_Stream_ReadBits
  refine cond_d (fun h => by omega) (fun _ => cond_d (fun h => by omega) (fun _ => ?_))
  unfold C.tocsinref02_Stream_Left
  have kd := drew_stp ω w
  obtain ⟨s, b, o⟩ := (h.non kd).ex
  have hsn := o.len
  refine ptr_at (cSl_at (by rw [b.cell]; rfl) (ptr_at (cI_at (n := (a : Int)) (by rw [addr_add, b.cell]; rfl) ?_)))
  rw [wI64 (by omega) (by omega)]
  refine cond_d (fun h => hS (by omega) _ (Keep.drew w)) (fun hp => ?_)
  unfold C.tocsinref02_Stream_ReadBits.S9
  refine C.tocsinref02_Stream_ReadBits.L5_ind fun X hX => ?_
  have key : ∀ (d i : Nat) (ω2 : Tg) (w2 : World), i + d = k → Stp Non ω ω2 w w2 → BT ω2 w2 t gs 78 [Sl.v s, .int .i64 (a : Int)] → Obl ω2 w2 (t + 1) s (byteBits bs) → X (wp gs) (k : Int) ((num ((rest bs a).take i) : Nat) : Int) (i : Int) w2 := by
    intro d
    induction d with
    | zero =>
      intro i ω2 w2 hi s2 b2 o2
      refine hX _ _ _ _ _ ?_
      unfold C.tocsinref02_Stream_ReadBits.S7 C.tocsinref02_Stream_ReadBits.S2
      refine cond_d (fun h => by omega) (fun _ => ?_)
      refine ptr_at (cI_at (n := (a : Int)) (by rw [addr_add, b2.cell]; rfl) (ptr_at (st_TA b2 (by simp) fun ω3 w3 s3 b3 => ?_)))
      rw [wI64 (by omega) (by omega)] at b3
      have := hK (by omega) ω3 w3 ((s2.non _).trans s3) ⟨s, b3, o2.stp s3 (beq_no (by omega))⟩
      rw [show i = k by omega]
      exact this
    | succ d ih =>
      intro i ω2 w2 hi s2 b2 o2
      refine hX _ _ _ _ _ ?_
      unfold C.tocsinref02_Stream_ReadBits.S7
      refine cond_d (fun _ => ⟨by decide, ?_⟩) (fun h => by omega)
      have kd2 := drew_stp ω2 w2
      have b2' := b2.stp kd2
      have o2' := o2.stp kd2
      refine ptr_at (cSl_at (by rw [b2'.cell]; rfl) (ptr_at (cI_at (n := (a : Int)) (by rw [addr_add, b2'.cell]; rfl) ?_)))
      rw [wI64 (x := (a : Int) + (i : Int)) (by omega) (by omega)]
      obtain ⟨c, hc⟩ : ∃ c, (byteBits bs)[a + i]? = some c := ⟨_, List.getElem?_eq_getElem (by omega)⟩
      refine OT.ix o2' (by decide) (i := (a : Int) + (i : Int)) (by omega) (by omega) fun q _ _ hq => ?_
      have hcell := hq 0 (.bool c) (by decide) (by
        rw [show ((a : Int) + (i : Int)).toNat * 1 + 0 = a + i by omega]
        simp only [vbs, List.getElem?_map, hc]; rfl)
      rw [show q.add 0 = q by simp [Addr.add]] at hcell
      refine cB_at hcell ?_
      have hlt := num_lt ((rest bs a).take i)
      have hil : ((rest bs a).take i).length = i := by rw [List.length_take, rest_len]; omega
      have hpw : 2 ^ i ≤ 2 ^ 63 := Nat.pow_le_pow_right (by decide) (by omega)
      rw [hil] at hlt
      have e : (rest bs a).take (i + 1) = (rest bs a).take i ++ [c] := by
        have hr : (rest bs a)[i]? = some c := by rw [rest, List.getElem?_drop]; exact hc
        rw [List.take_add_one, hr]; rfl
      have es : shl .u64 ((num ((rest bs a).take i) : Nat) : Int) (1 : Int) = ((2 * num ((rest bs a).take i) : Nat) : Int) := by
        have := shl64 (num ((rest bs a).take i)) 1 (by decide)
        rw [show ((1 : Nat) : Int) = (1 : Int) from rfl] at this
        rw [this]
        congr 1
        omega
      have nx := ih (i + 1) ω2 _ (by omega) (s2.trans kd2) b2' o2'
      rw [e, num_snoc] at nx
      rw [es, wI64 (by omega) (by omega), show (i : Int) + 1 = ((i + 1 : Nat) : Int) by omega]
      refine cond_of (fun hb => ?_) (fun hb => ?_)
      · rw [hb] at nx
        rw [wU64_id (by omega) (by omega)]
        exact nx
      · rw [hb] at nx
        exact nx
  exact key k 0 ω _ (by omega) kd b o

/-! ## The reference's reader -/
structure RrS (ω : Tg) (w : World) (t gr gp gs : Nat) (bs : List UInt8) (p : Nat) (T D : Int) (V : Nat) (A B : Int) (bad : Bool) : Prop where
  blk : BT ω w t gr 91 [.pointer (wp gs), .pointer (wp gp), .bool bad]
  st : BT ω w (t + 1) gp 94 [.int .i64 T, .int .i64 D, .int .u64 (V : Int), .int .i64 A, .int .i64 B]
  str : StT ω w (t + 2) gs (byteBits bs) (p : Int)
  le : p ≤ 8 * bs.length
  small : bs.length ≤ 4000
theorem RrS.stp {X : Nat → Bool} (h : RrS ω w t gr gp gs bs p T D V A B bad) (s : Stp X ω ω' w w') (n0 : X t = false) (n1 : X (t + 1) = false) (n2 : X (t + 2) = false) (n3 : X (t + 3) = false) : RrS ω' w' t gr gp gs bs p T D V A B bad :=
  ⟨h.blk.stp s n0, h.st.stp s n1, h.str.stp s n2 n3, h.le, h.small⟩
theorem RrS.non (h : RrS ω w t gr gp gs bs p T D V A B bad) (s : Stp Non ω ω' w w') : RrS ω' w' t gr gp gs bs p T D V A B bad := h.stp s rfl rfl rfl rfl
theorem RrS.setBad (h : RrS ω w t gr gp gs bs p T D V A B bad) (b : Bool) {K : World → Prop} (hK : ∀ ω' w', Stp (Rng t 4) ω ω' w w' → RrS ω' w' t gr gp gs bs p T D V A B b → K w') : G.st (Addr.add ⟨gr, 0, none⟩ 2) (.bool b) w K :=
  st_TA h.blk (by simp) fun ω2 w2 s2 b2 => hK ω2 w2 (s2.rng (by omega) (by omega)) ⟨b2, h.st.stp s2 (beq_no (by omega)), h.str.stp s2 (beq_no (by omega)) (beq_no (by omega)), h.le, h.small⟩
theorem RrS.setA (h : RrS ω w t gr gp gs bs p T D V A B bad) {j : Nat} (hj : j < 5) {v : Value} {K : World → Prop} {T' D' : Int} {V' : Nat} {A' B' : Int}
    (he : [Value.int .i64 T, .int .i64 D, .int .u64 (V : Int), .int .i64 A, .int .i64 B].set j v = [.int .i64 T', .int .i64 D', .int .u64 (V' : Int), .int .i64 A', .int .i64 B'])
    (hK : ∀ ω' w', Stp (Rng t 4) ω ω' w w' → RrS ω' w' t gr gp gs bs p T' D' V' A' B' bad → K w') : G.st (Addr.add ⟨gp, 0, none⟩ j) v w K :=
  st_TA h.st (by simpa using hj) fun ω' w' s b => hK ω' w' (s.rng (by omega) (by omega)) ⟨h.blk.stp s (beq_no (by omega)), by rw [Nat.zero_add, he] at b; exact b, h.str.stp s (beq_no (by omega)) (beq_no (by omega)), h.le, h.small⟩
theorem RrS.set0 (h : RrS ω w t gr gp gs bs p T D V A B bad) {K : World → Prop} {T' : Int}
    (hK : ∀ ω' w', Stp (Rng t 4) ω ω' w w' → RrS ω' w' t gr gp gs bs p T' D V A B bad → K w') : G.st ⟨gp, 0, none⟩ (.int .i64 T') w K := by
  have := h.setA (j := 0) (by decide) (v := .int .i64 T') (T' := T') (D' := D) (V' := V) (A' := A) (B' := B) rfl hK
  rwa [addr_add] at this
theorem RrS.rdP (h : RrS ω w t gr gp gs bs p T D V A B bad) {K : Option Addr → Prop} (hK : K (wp gp)) : G.ptr (wp gr) fun p => G.cP (p.add 1) w K := ptr_at (cP_at (by rw [addr_add, h.blk.cell]; rfl) hK)
theorem RrS.rdB (h : RrS ω w t gr gp gs bs p T D V A B bad) {K : Bool → Prop} (hK : K bad) : G.ptr (wp gr) fun p => G.cB (p.add 2) w K := ptr_at (cB_at (by rw [addr_add, h.blk.cell]; rfl) hK)

theorem gbits_ok (h : RrS ω w t gr gp gs bs p T D V A B bad) (hk : k ≤ 64) {x : Int} (hx : x = (k : Int)) {K : Int → World → Prop}
    (hK : ∀ (v p' : Nat) bad' ω' w', v < 2 ^ k → (∀ y tail, y < 2 ^ k → rest bs p = low y k ++ tail → v = y ∧ rest bs p' = tail ∧ bad' = bad) → Stp (Rng t 4) ω ω' w w' → RrS ω' w' t gr gp gs bs p' T D V A B bad' → K (v : Int) w') : C.tocsinref08_Reader_bits (wp gr) x w K := by
  unfold C.tocsinref08_Reader_bits
  refine ptr_at (cP_at (b := wp gs) (by rw [h.blk.cell]; rfl) ?_)
  have hle := h.le
  refine sread_ok h.str h.small h.le hk hx (fun hp w1 k1 => ?_) (fun hp ω1 w1 s1 r1 => ?_)
  · have s1 := k1.stp0 ω
    have h1 := h.non s1
    have no : ∀ (y : Nat) (tail : List Bool), y < 2 ^ k → rest bs p = low y k ++ tail → False := fun y tail _ e => by
      have := congrArg List.length e
      rw [rest_len, List.length_append, low_len] at this
      omega
    refine h1.rdB ?_
    have fin : ∀ ω2 w2, Stp (Rng t 4) ω ω2 w1 w2 → RrS ω2 w2 t gr gp gs bs p T D V A B true → K 0 w2 := fun ω2 w2 s2 r2 => hK 0 p true ω2 w2 (Nat.pow_pos (by decide)) (fun y tail hy e => (no y tail hy e).elim) ((s1.non _).trans s2) r2
    exact cond_of (fun _ => ptr_at (h1.setBad true fin)) (fun _ => ptr_at (h1.setBad true fin))
  · have h1 : RrS ω1 w1 t gr gp gs bs (p + k) T D V A B bad := ⟨h.blk.stp s1 (beq_no (by omega)), h.st.stp s1 (beq_no (by omega)), r1, hp, h.small⟩
    have hlt := num_lt ((rest bs p).take k)
    have hil : ((rest bs p).take k).length = k := by rw [List.length_take, rest_len]; omega
    rw [hil] at hlt
    have good : ∀ y tail, y < 2 ^ k → rest bs p = low y k ++ tail → num ((rest bs p).take k) = y ∧ rest bs (p + k) = tail := fun y tail hy e => by
      obtain ⟨e1, e2⟩ := take_low y k tail
      refine ⟨by rw [e, e1, num_low hy], ?_⟩
      have : rest bs (p + k) = (rest bs p).drop k := by rw [rest, rest, List.drop_drop]
      rw [this, e, e2]
    have s1' := s1.rng (t := t) (n := 4) (by omega) (by omega)
    refine h1.rdB ?_
    refine cond_of (fun hb => ptr_at (h1.setBad true fun ω2 w2 s2 r2 => ?_)) (fun hb => ptr_at (h1.setBad false fun ω2 w2 s2 r2 => ?_))
    · subst hb
      exact hK _ (p + k) true ω2 w2 hlt (fun y tail hy e => ⟨(good y tail hy e).1, (good y tail hy e).2, rfl⟩) (s1'.trans s2) r2
    · subst hb
      exact hK _ (p + k) false ω2 w2 hlt (fun y tail hy e => ⟨(good y tail hy e).1, (good y tail hy e).2, rfl⟩) (s1'.trans s2) r2
end Go.Proofs.YtpadehbcjkhegaaDoor.Chunk

namespace Go.Proofs.YtpadehbcjkhegaaDoor.Chunk
open Go Vm Go.RowKit Num Mem Bits Vint
variable {ω ω' : Tg} {w w' w0 : World} {t gr gs gp p k : Nat} {bs : List UInt8} {T D A B : Int} {V : Nat} {bad : Bool}

theorem rng_up {t a b : Nat} (hab : a ≤ b) (h : Stp (Rng t a) ω ω' w w') : Stp (Rng t b) ω ω' w w' := h.mono fun u hu => by
  by_cases c : t ≤ u ∧ u < t + b
  · have : Rng t b u = true := by simp [Rng, Nat.ble_eq_true_of_le c.1, Nat.blt_eq.mpr c.2]
    rw [this] at hu; cases hu
  · exact rng_out (by omega)
theorem putU_ne (n : Nat) : 1 ≤ (putU n).length := by
  rcases Nat.lt_or_ge n 128 with h | h
  · rw [putU_lt h]; simp
  · rw [putU_ge (by omega)]; simp

set_option maxRecDepth 20000 in
theorem number_ok (h : RrS ω w t gr gp gs bs p T D V A B bad) {K : Int → World → Prop}
    (hK : ∀ (v p' : Nat) bad' ω' w', v < 18446744073709551616 → (bad = false → ∀ n tail, n < 18446744073709551616 → rest bs p = byteBits (putU n) ++ tail → v = n ∧ rest bs p' = tail ∧ bad' = false) → Stp (Rng t 6) ω ω' w w' → RrS ω' w' t gr gp gs bs p' T D V A B bad' → K (v : Int) w') : C.tocsinref08_Reader_number (wp gr) w K := by
  unfold C.tocsinref08_Reader_number C.tocsinref08_Reader_number.S9
  refine C.tocsinref08_Reader_number.L5_ind fun X hX => ?_
  have s2 : ∀ (b : Sl) (bl : List UInt8) (p1 : Nat) (b1 : Bool) (ω1 : Tg) (w1 : World), RdB w1 b bl → bl.length ≤ 100 → Stp (Rng t 6) ω ω1 w w1 → RrS ω1 w1 t gr gp gs bs p1 T D V A B b1 →
      (bad = false → ∀ n tail, n < 18446744073709551616 → rest bs p = byteBits (putU n) ++ tail → bl = putU n ∧ rest bs p1 = tail ∧ b1 = false) → C.tocsinref08_Reader_number.S2 K (wp gr) b w1 := by
    intro b bl p1 b1 ω1 w1 hb hl s r good
    unfold C.tocsinref08_Reader_number.S2
    refine ru_ok hb (by omega) 0 (r.rdB ?_)
    have hlt := uv_lt bl 0
    have val : ∀ n, n < 18446744073709551616 → bl = putU n → uv bl 0 = (n, 0 + (putU n).length, 0) := fun n hn e => by
      have := uv_put [] [] hn
      rw [List.nil_append, List.append_nil] at this
      rw [e]; exact this
    refine cond_of (fun hb1 => ptr_at (r.setBad true fun ω2 w2 s2 r2 => ?_)) (fun hb1 => ptr_at (r.setBad _ fun ω2 w2 s2 r2 => ?_))
    · exact hK _ p1 true ω2 w2 hlt (fun hb n tail hn e => by
        obtain ⟨_, _, u3⟩ := good hb n tail hn e
        rw [u3] at hb1; cases hb1) (s.trans (rng_up (by decide) s2)) r2
    · exact hK _ p1 _ ω2 w2 hlt (fun hb n tail hn e => by
        obtain ⟨u1, u2, u3⟩ := good hb n tail hn e
        have hv := val n hn u1
        rw [hv]
        exact ⟨rfl, u2, rfl⟩) (s.trans (rng_up (by decide) s2)) r2
  have key : ∀ (d i : Nat) (b : Sl) (bl : List UInt8) (p1 : Nat) (b1 : Bool) (ω1 : Tg) (w1 : World), i + d = 11 → bl.length = i → OBy ω1 w1 (t + 4) b bl → Stp (Rng t 6) ω ω1 w w1 → RrS ω1 w1 t gr gp gs bs p1 T D V A B b1 →
      (bad = false → ∀ n tail, n < 18446744073709551616 → rest bs p = byteBits (putU n) ++ tail → ∃ m, putU n = bl ++ putU m ∧ rest bs p1 = byteBits (putU m) ++ tail ∧ b1 = false) → X (wp gr) b (i : Int) w1 := by
    intro d
    induction d with
    | zero =>
      intro i b bl p1 b1 ω1 w1 hi hbl o s r good
      refine hX _ _ _ _ ?_
      unfold C.tocsinref08_Reader_number.S7
      refine cond_d (fun h => by omega) (fun _ => s2 b bl p1 b1 ω1 w1 o.rd (by omega) s r fun hb n tail hn e => ?_)
      obtain ⟨m, h1, _⟩ := good hb n tail hn e
      have l1 := putU_len64 hn
      have l2 := putU_ne m
      have := congrArg List.length h1
      rw [List.length_append] at this
      omega
    | succ d ih =>
      intro i b bl p1 b1 ω1 w1 hi hbl o s r good
      refine hX _ _ _ _ ?_
      unfold C.tocsinref08_Reader_number.S7
      refine cond_d (fun _ => ?_) (fun h => by omega)
      refine r.rdB (cond_of (fun hb1 => ?_) (fun hb1 => ?_))
      · refine gbits_ok r (k := 8) (by decide) rfl fun v p2 b2 ω2 w2 hv hg s2' r2 => ?_
        have o2 := o.stp s2' (rng_out (by omega))
        have hbn := OBy.len o2
        refine push_T tiB o2 (n := 1) rfl (by intro v hv; simp at hv; subst hv; rfl) (by simp only [maxLen]; omega) (by omega) fun q ω3 w3 k3 o3 hq => ?_
        have e8 : (#[Value.int .u8 (IntKind.u8.wrap (v : Int))] : Array Value).toList = vBs [UInt8.ofNat v] := by
          rw [wU8_id (by omega) (by omega)]
          simp only [vBs, vB, List.map_cons, List.map_nil]
          rw [ofNat_val (by omega)]
        rw [e8] at o3
        have o3' : OBy ω3 w3 (t + 4) q (bl ++ [UInt8.ofNat v]) := by
          rw [OBy, show vBs (bl ++ [UInt8.ofNat v]) = vBs bl ++ vBs [UInt8.ofNat v] by simp [vBs]]; exact o3
        have s3 := s.trans ((rng_up (b := 6) (by decide) s2').trans (k3.rng (t := t) (n := 6) (by omega) (by omega)))
        have r3 := r2.stp k3 (beq_no (by omega)) (beq_no (by omega)) (beq_no (by omega)) (beq_no (by omega))
        refine RdB.at_ o3'.rd (by rw [List.length_append, hbl]; simp) ?_
        have ei : (bl ++ [UInt8.ofNat v])[i]'(by rw [List.length_append, hbl]; simp) = UInt8.ofNat v := by
          rw [List.getElem_append_right (by omega)]
          simp [hbl]
        rw [ei, ofNat_val (by omega)]
        have look : bad = false → ∀ n tail, n < 18446744073709551616 → rest bs p = byteBits (putU n) ++ tail → (v < 128 ∧ putU n = bl ++ [UInt8.ofNat v] ∧ rest bs p2 = tail ∧ b2 = false) ∨ (128 ≤ v ∧ ∃ m, putU n = bl ++ [UInt8.ofNat v] ++ putU m ∧ rest bs p2 = byteBits (putU m) ++ tail ∧ b2 = false) := by
          intro hb n tail hn e
          obtain ⟨m, h1, h3, h4⟩ := good hb n tail hn e
          rcases Nat.lt_or_ge m 128 with hm | hm
          · rw [putU_lt hm, byteBits_one, ofNat_val (by omega)] at h3
            obtain ⟨q1, q2, q3⟩ := hg m tail (by omega) (by rw [h3]; simp [byteBits])
            refine .inl ⟨by omega, ?_, q2, q3.trans h4⟩
            rw [h1, putU_lt hm, q1]
          · rw [putU_ge (by omega), byteBits_one, ofNat_val (by omega), List.append_assoc] at h3
            obtain ⟨q1, q2, q3⟩ := hg (m % 128 + 128) _ (by omega) h3
            refine .inr ⟨by omega, m / 128, ?_, q2, q3.trans h4⟩
            rw [h1, putU_ge (by omega), q1]
            simp
        refine cond_d (fun hlt => ?_) (fun hge => ?_)
        · refine s2 q _ p2 b2 ω3 w3 o3'.rd (by rw [List.length_append, hbl, List.length_singleton]; omega) s3 r3 fun hb n tail hn e => ?_
          rcases look hb n tail hn e with ⟨_, h1, h2, h3⟩ | ⟨h1, _⟩
          · exact ⟨h1.symm, h2, h3⟩
          · omega
        · rw [wI64 (by omega) (by omega), show (i : Int) + 1 = ((i + 1 : Nat) : Int) by omega]
          refine ih (i + 1) q _ p2 b2 ω3 w3 (by omega) (by rw [List.length_append, hbl, List.length_singleton]) o3' s3 r3 fun hb n tail hn e => ?_
          rcases look hb n tail hn e with ⟨h1, _⟩ | ⟨_, m, h1, h2, h3⟩
          · omega
          · exact ⟨m, h1, h2, h3⟩
      · refine s2 b bl p1 b1 ω1 w1 o.rd (by omega) s r fun hb n tail hn e => ?_
        obtain ⟨m, _, _, h4⟩ := good hb n tail hn e
        rw [h4] at hb1; cases hb1
  exact key 11 0 nilS [] p bad ω w (by decide) rfl (OT.nil _ _ _ _ _) (Stp.refl _ _ _) h fun hb n tail hn e => ⟨n, by simp, e, hb⟩

/-! ## Values -/
def okR (A B : Int) : Prop := A = 64 ∨ (0 ≤ A ∧ A ≤ 31 ∧ 1 ≤ 64 - A - B ∧ 64 - A - B ≤ 64)
def reprR (wn : Win) (A B : Int) : Prop := match wn with | none => A = 64 | some (a, b) => A = (a : Int) ∧ B = (b : Int)

theorem gvalS2_ok (h : RrS ω w t gr gp gs bs p T D V A B bad) (hV : V < 18446744073709551616) (hW : okR A B) {K : Int → World → Prop}
    (hK : ∀ (v p' : Nat) bad' ω' w', v < 18446744073709551616 → (∀ a b x tail, A = ((a : Nat) : Int) → B = ((b : Nat) : Int) → a ≤ 31 → a + b ≤ 63 → x < 18446744073709551616 → x ≠ 0 → a ≤ lead x → b ≤ trail x → rest bs p = low (x / 2 ^ b) (64 - a - b) ++ tail → v = V ^^^ x ∧ rest bs p' = tail ∧ bad' = bad) →
      Stp (Rng t 4) ω ω' w w' → RrS ω' w' t gr gp gs bs p' T D V A B bad' → K (v : Int) w') : C.tocsinref08_Reader_value.S2 K (wp gr) w := by
  unfold C.tocsinref08_Reader_value.S2
  refine h.rdP (ptr_at (cI_at (n := A) (by rw [addr_add, h.st.cell]; rfl) ?_))
  refine cond_d (fun hA => ptr_at (h.setBad true fun ω2 w2 s2 r2 => ?_)) (fun hA => ?_)
  · exact hK 0 p true ω2 w2 (by decide) (fun a b x tail ea eb => by omega) s2 r2
  have hW' : 0 ≤ A ∧ A ≤ 31 ∧ 1 ≤ 64 - A - B ∧ 64 - A - B ≤ 64 := by rcases hW with h | h; omega; exact h
  obtain ⟨hA0, hA1, hn1, hn2⟩ := hW'
  refine h.rdP (ptr_at (cI_at (n := B) (by rw [addr_add, h.st.cell]; rfl) ?_))
  refine cond_d (fun hB => ptr_at (h.setBad true fun ω2 w2 s2 r2 => ?_)) (fun hB => ?_)
  · exact hK 0 p true ω2 w2 (by decide) (fun a b x tail ea eb => by omega) s2 r2
  have kd := drew_stp ω w
  have hd := h.non kd
  refine ptr_at (cP_at (b := wp gp) (by rw [addr_add, hd.blk.cell]; rfl) <| ptr_at (cI_at (n := (V : Int)) (by rw [addr_add, hd.st.cell]; rfl) ?_))
  refine ptr_at (cP_at (b := wp gp) (by rw [addr_add, hd.blk.cell]; rfl) <| ptr_at (cI_at (n := A) (by rw [addr_add, hd.st.cell]; rfl) ?_))
  refine ptr_at (cP_at (b := wp gp) (by rw [addr_add, hd.blk.cell]; rfl) <| ptr_at (cI_at (n := B) (by rw [addr_add, hd.st.cell]; rfl) ?_))
  refine ptr_at (cP_at (b := wp gp) (by rw [addr_add, hd.blk.cell]; rfl) <| ptr_at (cI_at (n := B) (by rw [addr_add, hd.st.cell]; rfl) ?_))
  rw [wI64 (x := 64 - A) (by omega) (by omega), wI64 (by omega) (by omega)]
  refine gbits_ok hd (k := (64 - A - B).toNat) (by omega) (by omega) fun v p2 b2 ω2 w2 hv hg s2 r2 => ⟨?_, ?_, ?_, ?_, by rw [wU64]; omega, ?_⟩
  · rw [addr_add]; exact same_cell (v := .pointer (wp gp)) (by rw [hd.blk.cell]; rfl) (by rw [r2.blk.cell]; rfl)
  · rw [addr_add]; exact same_cell (v := .int .u64 (V : Int)) (by rw [hd.st.cell]; rfl) (by rw [r2.st.cell]; rfl)
  · rw [addr_add]; exact same_cell (v := .pointer (wp gp)) (by rw [hd.blk.cell]; rfl) (by rw [r2.blk.cell]; rfl)
  · rw [addr_add]; exact same_cell (v := .int .i64 B) (by rw [hd.st.cell]; rfl) (by rw [r2.st.cell]; rfl)
  rw [wU64_id (by omega) (by omega), show B = ((B.toNat : Nat) : Int) by omega, shl64 _ _ (by omega)]
  obtain ⟨q, eq⟩ : ∃ q, q = v * 2 ^ B.toNat % 18446744073709551616 := ⟨_, rfl⟩
  have hq : q < 18446744073709551616 := by rw [eq]; exact Nat.mod_lt _ (by decide)
  rw [← eq, xor_eq hV hq]
  refine hK _ p2 b2 ω2 w2 (xor64_lt hV hq) (fun a c x tail ea eb ha hab hx hx0 hla htb e => ?_) ((kd.non _).trans s2) r2
  have en : (64 - A - B).toNat = 64 - a - c := by omega
  rw [en] at hg hv
  obtain ⟨q1, q2, q3⟩ := hg _ tail (mid_lt hx hla (by omega)) e
  refine ⟨?_, q2, q3⟩
  rw [eq, q1, show B.toNat = c by omega, mul_div_trail hx hx0 htb, Nat.mod_eq_of_lt hx]

end Go.Proofs.YtpadehbcjkhegaaDoor.Chunk

namespace Go.Proofs.YtpadehbcjkhegaaDoor.Chunk
open Go Vm Go.RowKit Num Mem Bits Vint
variable {ω ω' : Tg} {w w' w0 : World} {t gr gs gp p k : Nat} {bs : List UInt8} {T D A B : Int} {V : Nat} {bad : Bool}

theorem gvalue_ok (h : RrS ω w t gr gp gs bs p T D V A B bad) (hV : V < 18446744073709551616) (hW : okR A B) {K : Int → World → Prop}
    (hK : ∀ (v p' : Nat) bad' A' B' ω' w', v < 18446744073709551616 → okR A' B' → (∀ wn x tail, WinOk wn → reprR wn A B → x < 18446744073709551616 → rest bs p = (vform wn x).1 ++ tail → v = V ^^^ x ∧ rest bs p' = tail ∧ bad' = bad ∧ reprR (vform wn x).2 A' B') →
      Stp (Rng t 4) ω ω' w w' → RrS ω' w' t gr gp gs bs p' T D V A' B' bad' → K (v : Int) w') : C.tocsinref08_Reader_value (wp gr) w K := by
  unfold C.tocsinref08_Reader_value
  refine gbits_ok h (k := 1) (by decide) rfl fun v1 p1 b1 ω1 w1 hv1 hg1 s1 r1 => ?_
  have g0 : ∀ wn x tail, rest bs p = (vform wn x).1 ++ tail → (x = 0 ∧ vform wn x = (low 0 1, wn) ∧ v1 = 0 ∧ rest bs p1 = tail ∧ b1 = bad) ∨ (v1 = 1 ∧ b1 = bad ∧ x ≠ 0 ∧
      ((∃ a b, wn = some (a, b) ∧ a ≤ lead x ∧ b ≤ trail x ∧ vform wn x = (low 1 1 ++ low 0 1 ++ low (x / 2 ^ b) (64 - a - b), wn) ∧ rest bs p1 = low 0 1 ++ (low (x / 2 ^ b) (64 - a - b) ++ tail)) ∨
       ((vform wn x).2 = some (lead x, trail x) ∧ rest bs p1 = low 1 1 ++ (low (lead x) 5 ++ (low ((64 - lead x - trail x) % 64) 6 ++ (low (x / 2 ^ trail x) (64 - lead x - trail x) ++ tail)))))) := by
    intro wn x tail e
    rcases vform_cases wn x with ⟨h0, hf⟩ | ⟨h0, a, b, hw, ha, hb, hf⟩ | ⟨h0, hf⟩
    · rw [hf] at e
      obtain ⟨q1, q2, q3⟩ := hg1 0 tail (by decide) e
      exact .inl ⟨h0, hf, q1, q2, q3⟩
    · rw [hf] at e
      simp only [List.append_assoc] at e
      obtain ⟨q1, q2, q3⟩ := hg1 1 _ (by decide) e
      exact .inr ⟨q1, q3, h0, .inl ⟨a, b, hw, ha, hb, hf, q2⟩⟩
    · rw [hf] at e
      simp only [List.append_assoc] at e
      obtain ⟨q1, q2, q3⟩ := hg1 1 _ (by decide) e
      exact .inr ⟨q1, q3, h0, .inr ⟨by rw [hf], q2⟩⟩
  refine cond_eq (fun hz => ?_) (fun hz => ?_)
  · refine r1.rdP (ptr_at (cI_at (n := (V : Int)) (by rw [addr_add, r1.st.cell]; rfl) ?_))
    refine hK V p1 b1 A B ω1 w1 hV hW (fun wn x tail _ hr _ e => ?_) s1 r1
    rcases g0 wn x tail e with ⟨h0, hf, _, q2, q3⟩ | ⟨q1, _⟩
    · exact ⟨by rw [h0, Nat.xor_zero], q2, q3, by rw [hf]; exact hr⟩
    · omega
  have one : v1 = 1 := by omega
  refine gbits_ok r1 (k := 1) (by decide) rfl fun v2 p2 b2 ω2 w2 hv2 hg2 s2 r2 => ?_
  have s02 := s1.trans s2
  have fin : ∀ (A' B' : Int) (p3 : Nat) (b3 : Bool) (ω3 : Tg) (w3 : World), Stp (Rng t 4) ω ω3 w w3 → RrS ω3 w3 t gr gp gs bs p3 T D V A' B' b3 → okR A' B' →
      (∀ wn x tail, WinOk wn → reprR wn A B → x < 18446744073709551616 → rest bs p = (vform wn x).1 ++ tail → ∃ a b, A' = ((a : Nat) : Int) ∧ B' = ((b : Nat) : Int) ∧ a ≤ 31 ∧ a + b ≤ 63 ∧ x ≠ 0 ∧ a ≤ lead x ∧ b ≤ trail x ∧ (vform wn x).2 = some (a, b) ∧ rest bs p3 = low (x / 2 ^ b) (64 - a - b) ++ tail ∧ b3 = bad) → C.tocsinref08_Reader_value.S2 K (wp gr) w3 := by
    intro A' B' p3 b3 ω3 w3 s3 r3 hW3 good
    refine gvalS2_ok r3 hV hW3 fun v p4 b4 ω4 w4 hv hg s4 r4 => hK v p4 b4 A' B' ω4 w4 hv hW3 (fun wn x tail hwn hr hx e => ?_) (s3.trans s4) r4
    obtain ⟨a, b, c2, c3, c4, c5, c6, c7, c8, c9, c10, c11⟩ := good wn x tail hwn hr hx e
    obtain ⟨q1, q2, q3⟩ := hg a b x tail c2 c3 c4 c5 hx c6 c7 c8 c10
    exact ⟨q1, q2, q3.trans c11, by rw [c9]; exact ⟨c2, c3⟩⟩
  refine cond_eq (fun h1 => ?_) (fun h1 => ?_)
  · have kd := drew_stp ω2 w2
    have rd := r2.non kd
    refine ptr_at (cP_at (b := wp gp) (by rw [addr_add, rd.blk.cell]; rfl) ?_)
    refine gbits_ok rd (k := 5) (by decide) rfl fun v5 p5 b5 ω5 w5 hv5 hg5 s5 r5 => ⟨?_, ?_⟩
    · rw [addr_add]; exact same_cell (v := .pointer (wp gp)) (by rw [rd.blk.cell]; rfl) (by rw [r5.blk.cell]; rfl)
    rw [wI64 (x := (v5 : Int)) (by omega) (by omega)]
    refine ptr_at (r5.setA (by decide) (T' := T) (D' := D) (V' := V) (A' := (v5 : Int)) (B' := B) rfl fun ω6 w6 s6 r6 => ?_)
    refine gbits_ok r6 (k := 6) (by decide) rfl fun v6 p7 b7 ω7 w7 hv6 hg6 s7 r7 => ?_
    have s07 := (((s02.trans (kd.non _)).trans s5).trans s6).trans s7
    have kd7 := drew_stp ω7 w7
    have rd7 := r7.non kd7
    have g2 : ∀ wn x tail, rest bs p = (vform wn x).1 ++ tail → x ≠ 0 ∧ (vform wn x).2 = some (lead x, trail x) ∧ (lead x < 32 → v5 = lead x ∧ v6 = (64 - lead x - trail x) % 64 ∧ rest bs p7 = low (x / 2 ^ trail x) (64 - lead x - trail x) ++ tail ∧ b7 = bad) := by
      intro wn x tail e
      rcases g0 wn x tail e with ⟨_, _, q1, _⟩ | ⟨_, q3, h0, ⟨a, b, _, _, _, _, q2⟩ | ⟨hf, q2⟩⟩
      · omega
      · have := (hg2 0 _ (by decide) q2).1
        omega
      · refine ⟨h0, hf, fun hl => ?_⟩
        obtain ⟨_, u2, u3⟩ := hg2 1 _ (by decide) q2
        obtain ⟨y1, y2, y3⟩ := hg5 _ _ (by omega) u2
        obtain ⟨z1, z2, z3⟩ := hg6 _ _ (by omega) y2
        exact ⟨y1, z1, z2, ((z3.trans y3).trans u3).trans q3⟩
    have put : ∀ (B' : Int), -9223372036854775808 ≤ B' ∧ B' < 9223372036854775808 → okR (v5 : Int) B' → (∀ wn x tail, x < 18446744073709551616 → rest bs p = (vform wn x).1 ++ tail → B' = ((trail x : Nat) : Int)) →
        G.st (Addr.add ⟨gp, 0, none⟩ 4) (.int .i64 B') w7.drew fun w60 => C.tocsinref08_Reader_value.S2 K (wp gr) w60 := by
      intro B' hB' hok hB
      refine rd7.setA (by decide) (T' := T) (D' := D) (V' := V) (A' := (v5 : Int)) (B' := B') rfl fun ω9 w9 s9 r9 => ?_
      refine fin (v5 : Int) B' p7 b7 ω9 w9 ((s07.trans (kd7.non _)).trans s9) r9 hok fun wn x tail hwn hr hx e => ?_
      obtain ⟨h0, hf, hh⟩ := g2 wn x tail e
      have hl := lead_le x
      have hlt := lead_trail hx h0
      obtain ⟨q1, q2, q3, q4⟩ := hh (by omega)
      exact ⟨lead x, trail x, by rw [q1], hB wn x tail hx e, hl, hlt, h0, Nat.le_refl _, Nat.le_refl _, hf, q3, q4⟩
    have tr : ∀ wn x tail, x < 18446744073709551616 → rest bs p = (vform wn x).1 ++ tail → v5 = lead x ∧ v6 = (64 - lead x - trail x) % 64 ∧ lead x + trail x ≤ 63 := by
      intro wn x tail hx e
      obtain ⟨h0, hf, hh⟩ := g2 wn x tail e
      have hl := lead_le x
      obtain ⟨q1, q2, _⟩ := hh (by omega)
      exact ⟨q1, q2, lead_trail hx h0⟩
    rw [wI64 (x := (v6 : Int)) (by omega) (by omega)]
    refine cond_eq (fun h6 => ?_) (fun h6 => ?_)
    · refine rd7.rdP (rd7.rdP (ptr_at (cI_at (n := (v5 : Int)) (by rw [addr_add, rd7.st.cell]; rfl) (ptr_at ?_))))
      rw [wI64 (x := 64 - (v5 : Int)) (by omega) (by omega), wI64 (by omega) (by omega)]
      refine put _ (by omega) (.inr (by omega)) fun wn x tail hx e => ?_
      obtain ⟨q1, q2, q3⟩ := tr wn x tail hx e
      omega
    · refine rd7.rdP (rd7.rdP (ptr_at (cI_at (n := (v5 : Int)) (by rw [addr_add, rd7.st.cell]; rfl) (ptr_at ?_))))
      rw [wI64 (x := 64 - (v5 : Int)) (by omega) (by omega), wI64 (by omega) (by omega)]
      refine put _ (by omega) (.inr (by omega)) fun wn x tail hx e => ?_
      obtain ⟨q1, q2, q3⟩ := tr wn x tail hx e
      omega
  · refine fin A B p2 b2 ω2 w2 s02 r2 hW fun wn x tail hwn hr hx e => ?_
    rcases g0 wn x tail e with ⟨_, _, q1, _⟩ | ⟨_, q3, h0, ⟨a, b, hw, ha, hb, hf, q2⟩ | ⟨hf, q2⟩⟩
    · omega
    · obtain ⟨_, u2, u3⟩ := hg2 0 _ (by decide) q2
      rw [hw] at hr
      obtain ⟨c2, c3⟩ := hr
      obtain ⟨c4, c5⟩ := hwn a b hw
      exact ⟨a, b, c2, c3, c4, c5, h0, ha, hb, by rw [hf]; exact hw, u2, u3.trans q3⟩
    · have := (hg2 1 _ (by decide) q2).1
      omega
end Go.Proofs.YtpadehbcjkhegaaDoor.Chunk

namespace Go.Proofs.YtpadehbcjkhegaaDoor.Chunk
open Go Vm Go.RowKit Num Mem Bits Vint
variable {ω ω' : Tg} {w w' w0 : World} {t gr gs gp p k : Nat} {bs : List UInt8} {T D A B : Int} {V : Nat} {bad : Bool}

/-- What a number of k bits says. -/
noncomputable def saysK (v k : Nat) : Int := if 64 ≤ k then IntKind.i64.wrap (v : Int) else if v ≤ 2 ^ (k - 1) then (v : Int) else (v : Int) - 2 ^ k
set_option maxRecDepth 20000 in
theorem says_ok {v k : Nat} (hk : 0 < k) (hk' : k = 64 ∨ k ≤ 56) (hv : v < 2 ^ k) {K : Int → World → Prop} (hK : K (saysK v k) w) : C.tocsinref02_Says (v : Int) (k : Int) w K := by
  unfold C.tocsinref02_Says
  unfold saysK at hK
  refine cond_d (fun h => by rw [if_pos (by omega)] at hK; exact hK) (fun h => ?_)
  rw [if_neg (by omega)] at hK
  have hp : 2 ^ (k - 1) ≤ 2 ^ 55 := Nat.pow_le_pow_right (by decide) (by omega)
  have e2 : 2 ^ k = 2 ^ (k - 1) * 2 := by rw [← Nat.pow_succ]; congr 1; omega
  have e1 : IntKind.u64.wrap (IntKind.i64.wrap ((k : Int) - (1 : Int))) = ((k - 1 : Nat) : Int) := by
    rw [wI64 (by omega) (by omega), wU64_id (by omega) (by omega)]; omega
  have es : shl .u64 (1 : Int) ((k - 1 : Nat) : Int) = ((2 ^ (k - 1) : Nat) : Int) := by
    have := shl64 1 (k - 1) (by omega)
    rw [Nat.one_mul, Nat.mod_eq_of_lt (by omega)] at this
    exact this
  have es2 : shl .i64 (1 : Int) ((k : Nat) : Int) = ((2 ^ k : Nat) : Int) := by
    have := shl_nat .i64 (1 : Int) k (by simp only [IntKind.bits]; omega)
    rw [this, show (1 : Int) * 2 ^ k = ((2 ^ k : Nat) : Int) by simp, wI64 (by omega) (by omega)]
  have e5 : (2 : Int) ^ k = ((2 ^ k : Nat) : Int) := by simp
  rw [e1, es]
  have vv : IntKind.i64.wrap (v : Int) = (v : Int) := wI64 (by omega) (by omega)
  refine ⟨by omega, cond_d (fun h1 => ?_) (fun h1 => ⟨by rw [wU64]; omega, ?_⟩)⟩
  · rw [vv]; rw [if_pos (by omega)] at hK; exact hK
  · rw [wU64_id (by omega) (by omega), es2, vv, wI64 (by omega) (by omega)]
    rw [if_neg (by omega), e5] at hK; exact hK
theorem saysK_low {d : Int} (hd1 : -9223372036854775808 ≤ d) (hd2 : d < 9223372036854775808) (h0 : tcls d ≠ 0) : saysK (lowN d (tw (tcls d))) (tw (tcls d)) = d := by
  have h4 := tcls_le d
  unfold saysK
  rcases Nat.lt_or_ge (tcls d) 4 with h | h
  · have hw : 0 < tw (tcls d) ∧ tw (tcls d) ≤ 56 := by
      have : ∀ i : Fin 4, 0 < i.val → 0 < tw i.val ∧ tw i.val ≤ 56 := by decide
      exact this ⟨tcls d, h⟩ (Nat.pos_of_ne_zero h0)
    rw [if_neg (by omega)]
    rcases says hw.1 hw.2 (tcls_fits h0 h) with ⟨a1, a2⟩ | ⟨a1, a2⟩
    · rw [if_pos a1]; exact a2.symm
    · rw [if_neg (Nat.not_le.2 a1)]; exact a2.symm
  · have e : tcls d = 4 := by omega
    rw [e, show tw 4 = 64 from rfl, if_pos (by decide)]
    have : lowN d 64 = uN d := by unfold lowN; rw [if_neg (by decide)]
    rw [this, wI64']
    unfold uN
    split <;> omega

theorem gtime_ok (h : RrS ω w t gr gp gs bs p T D V A B bad) {K : Int → World → Prop}
    (hK : ∀ (v : Int) (p' : Nat) bad' ω' w', -9223372036854775808 ≤ v → v < 9223372036854775808 → (∀ d tail, -9223372036854775808 ≤ d → d < 9223372036854775808 → rest bs p = tform d ++ tail → v = d ∧ rest bs p' = tail ∧ bad' = bad) → Stp (Rng t 6) ω ω' w w' → RrS ω' w' t gr gp gs bs p' T D V A B bad' → K v w') : C.tocsinref08_Reader_time (wp gr) w K := by
  unfold C.tocsinref08_Reader_time
  refine new_T (ω := ω) (t + 4) fun gk ω0 w0' k0 b0 => ?_
  have h0 := h.non k0
  have kk : ∀ (ω1 : Tg) (w1 : World) (i : Nat), i ≤ 4 → BT ω1 w1 (t + 4) gk 3 [.int .i64 0, .int .i64 14, .int .i64 17, .int .i64 20, .int .i64 64] → ∀ {K : Addr → Prop}, (∀ a : Addr, w1.cell? a = some (.int .i64 ((tw i : Nat) : Int)) → (∀ w', w'.cell? ⟨gk, i, none⟩ = some (.int .i64 ((tw i : Nat) : Int)) → sameAt a 1 w1 w') → K a) → G.ix (some ⟨gk, 0, none⟩) 5 (i : Int) 1 K := by
    intro ω1 w1 i hi b K hK
    have e : w1.cell? ⟨gk, i, none⟩ = some (.int .i64 ((tw i : Nat) : Int)) := by
      rw [b.cell]
      match i, hi with
      | 0, _ => rfl
      | 1, _ => rfl
      | 2, _ => rfl
      | 3, _ => rfl
      | 4, _ => rfl
    refine ⟨⟨by omega, by omega⟩, ?_⟩
    rw [Int.toNat_natCast, Nat.mul_one, addr_add, Nat.zero_add]
    exact hK _ e fun w' hw' => same_cell e hw'
  refine C.tocsinref08_Reader_time.L5_ind fun X hX => ?_
  have s3 : ∀ (i p1 : Nat) (b1 : Bool) (ω1 : Tg) (w1 : World), i ≤ 4 → Stp (Rng t 6) ω ω1 w w1 → RrS ω1 w1 t gr gp gs bs p1 T D V A B b1 → BT ω1 w1 (t + 4) gk 3 [.int .i64 0, .int .i64 14, .int .i64 17, .int .i64 20, .int .i64 64] →
      (∀ d tail, rest bs p = tform d ++ tail → tcls d = i ∧ rest bs p1 = tbody d ++ tail ∧ b1 = bad) → C.tocsinref08_Reader_time.S2 K (wp gr) (⟨some ⟨gk, 0, none⟩, 5, 5⟩ : Sl) (i : Int) w1 := by
    intro i p1 b1 ω1 w1 hi s r bk good
    unfold C.tocsinref08_Reader_time.S2
    refine cond_eq (fun hz => ?_) (fun hz => ?_)
    · refine hK 0 p1 b1 ω1 w1 (by decide) (by decide) (fun d tail _ _ e => ?_) s r
      obtain ⟨u1, u2, u3⟩ := good d tail e
      obtain rfl := tcls_zero (d := d) (by omega)
      exact ⟨rfl, u2, u3⟩
    · have kd := drew_stp ω1 w1
      have bd := bk.stp kd
      have rd := r.non kd
      have hw : 0 < tw i ∧ (tw i = 64 ∨ tw i ≤ 56) := by
        have : ∀ i : Fin 5, 0 < i.val → 0 < tw i.val ∧ (tw i.val = 64 ∨ tw i.val ≤ 56) := by decide
        exact this ⟨i, by omega⟩ (by simp only; omega)
      refine kk ω1 _ i hi bd fun a ha _ => cI_at ha ?_
      refine kk ω1 _ i hi bd fun a' ha' hs' => cI_at ha' ?_
      refine gbits_ok rd (k := tw i) (by omega) rfl fun v p2 b2 ω2 w2 hv hg s2 r2 => ⟨hs' w2 ?_, ?_⟩
      · have b2' := bd.stp s2 (rng_out (by omega))
        rw [b2'.cell]
        match i, hi with
        | 0, _ => rfl
        | 1, _ => rfl
        | 2, _ => rfl
        | 3, _ => rfl
        | 4, _ => rfl
      refine says_ok hw.1 hw.2 hv ?_
      have hpow : 2 ^ tw i ≤ 2 ^ 64 := Nat.pow_le_pow_right (by decide) (by omega)
      have rng : -9223372036854775808 ≤ saysK v (tw i) ∧ saysK v (tw i) < 9223372036854775808 := by
        unfold saysK
        split
        · rw [wI64']
          split <;> omega
        · have h56 : tw i ≤ 56 := by omega
          have h3 : 2 ^ tw i ≤ 2 ^ 56 := Nat.pow_le_pow_right (by decide) h56
          have e5 : (2 : Int) ^ tw i = ((2 ^ tw i : Nat) : Int) := by simp
          split
          · omega
          · rw [e5]; omega
      refine hK _ p2 b2 ω2 w2 rng.1 rng.2 (fun d tail hd1 hd2 e => ?_) ((s.trans (kd.non _)).trans (rng_up (by decide) s2)) r2
      obtain ⟨u1, u2, u3⟩ := good d tail e
      unfold tbody at u2
      rw [u1] at u2
      obtain ⟨q1, q2, q3⟩ := hg _ tail (lowN_lt2 d (by omega)) u2
      refine ⟨?_, q2, q3.trans u3⟩
      have := saysK_low hd1 hd2 (by omega : tcls d ≠ 0)
      rw [u1, ← q1] at this
      exact this
  have key : ∀ (j i p1 : Nat) (b1 : Bool) (ω1 : Tg) (w1 : World), i + j = 4 → Stp (Rng t 6) ω ω1 w w1 → RrS ω1 w1 t gr gp gs bs p1 T D V A B b1 → BT ω1 w1 (t + 4) gk 3 [.int .i64 0, .int .i64 14, .int .i64 17, .int .i64 20, .int .i64 64] →
      (∀ d tail, rest bs p = tform d ++ tail → i ≤ tcls d ∧ rest bs p1 = List.replicate (tcls d - i) true ++ ((if tcls d < 4 then [false] else []) ++ (tbody d ++ tail)) ∧ b1 = bad) → X (wp gr) (⟨some ⟨gk, 0, none⟩, 5, 5⟩ : Sl) (i : Int) w1 := by
    intro j
    induction j with
    | zero =>
      intro i p1 b1 ω1 w1 hi s r bk good
      refine hX _ _ _ _ ?_
      unfold C.tocsinref08_Reader_time.S7
      refine cond_d (fun h => by omega) (fun _ => s3 i p1 b1 ω1 w1 (by omega) s r bk fun d tail e => ?_)
      obtain ⟨u1, u2, u3⟩ := good d tail e
      have := tcls_le d
      refine ⟨by omega, ?_, u3⟩
      rw [show tcls d - i = 0 by omega, if_neg (by omega)] at u2
      exact u2
    | succ j ih =>
      intro i p1 b1 ω1 w1 hi s r bk good
      refine hX _ _ _ _ ?_
      unfold C.tocsinref08_Reader_time.S7
      refine cond_d (fun _ => ?_) (fun h => by omega)
      refine gbits_ok r (k := 1) (by decide) rfl fun v p2 b2 ω2 w2 hv hg s2 r2 => ?_
      have bk2 := bk.stp s2 (rng_out (by omega))
      have s02 := s.trans (rng_up (b := 6) (by decide) s2)
      refine cond_eq (fun h1 => ?_) (fun h1 => ?_)
      · rw [wI64 (by omega) (by omega), show (i : Int) + 1 = ((i + 1 : Nat) : Int) by omega]
        refine ih (i + 1) p2 b2 ω2 w2 (by omega) s02 r2 bk2 fun d tail e => ?_
        obtain ⟨u1, u2, u3⟩ := good d tail e
        rcases Nat.eq_or_lt_of_le u1 with h | h
        · rw [← h, Nat.sub_self, if_pos (by omega)] at u2
          have := (hg 0 _ (by decide) u2).1
          omega
        · rw [show tcls d - i = (tcls d - (i + 1)) + 1 by omega, List.replicate_succ, List.cons_append] at u2
          obtain ⟨q1, q2, q3⟩ := hg 1 _ (by decide) u2
          exact ⟨by omega, q2, q3.trans u3⟩
      · refine s3 i p2 b2 ω2 w2 (by omega) s02 r2 bk2 fun d tail e => ?_
        obtain ⟨u1, u2, u3⟩ := good d tail e
        rcases Nat.eq_or_lt_of_le u1 with h | h
        · rw [← h, Nat.sub_self, if_pos (by omega)] at u2
          obtain ⟨q1, q2, q3⟩ := hg 0 _ (by decide) u2
          exact ⟨h.symm, q2, q3.trans u3⟩
        · rw [show tcls d - i = (tcls d - (i + 1)) + 1 by omega, List.replicate_succ, List.cons_append] at u2
          obtain ⟨q1, q2, q3⟩ := hg 1 _ (by decide) u2
          omega
  refine key 4 0 p bad ω0 w0' (by omega) (k0.non _) h0 b0 fun d tail e => ⟨by omega, ?_, rfl⟩
  rw [e, tform_cls, Nat.sub_zero]
  simp only [List.append_assoc]
end Go.Proofs.YtpadehbcjkhegaaDoor.Chunk
