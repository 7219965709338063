/- (for layers above the first: no text of a law) utf8.ValidString, and the reference's own test: both tell what Lib.validD tells. Own work. -/
import Derived.Test.YtfkpehcbijgmnaaGreatDoorChg
import Derived.Test.YtfkpehcbijgmnaaGreatDoorCa
import Derived.Test.YtfkpehcbijgmnaaGreatDoorStrB
import Derived.Lib.ValidAsc
import Derived.Lib.LaidU8
namespace Go.Proofs.YtfkpehcbijgmnaaGreatDoor.Utf
open Go Vm Go.RowKit Num Mem Lib

set_option maxRecDepth 10000
/-- The two tables of the decoder. -/
abbrev UTab (w : World) : Prop := Utf8Tabs 1 2 w
theorem UTab.keep {w w' : World} (h : UTab w) (k : Keep w w') : UTab w' := ⟨fun c hc => k.cell (h.1 c hc), fun i hi => ⟨k.cell (h.2 i hi).1, k.cell (h.2 i hi).2⟩⟩

/-! ## Eight bytes at once -/
theorem orByte {a k m : Nat} {c : UInt8} (hk : k ≤ 56) (hm : m = 2 ^ k) (ha : a < m) : Go.bits .or .u64 (a : Int) (shl .u64 (IntKind.u64.wrap (c.toNat : Int)) (k : Int)) = ((a + c.toNat * m : Nat) : Int) := by
  have hc := c.toNat_lt
  subst hm
  have hp : 2 ^ k ≤ 2 ^ 56 := Nat.pow_le_pow_right (by decide) hk
  have hx : c.toNat * 2 ^ k ≤ 255 * 2 ^ 56 := Nat.mul_le_mul (by omega) hp
  rw [wU64_id (x := (c.toNat : Int)) (by omega) (by omega), shl_nat .u64 _ k (by simp only [IntKind.bits]; omega), show (c.toNat : Int) * 2 ^ k = ((c.toNat * 2 ^ k : Nat) : Int) by simp, wU64_id (by omega) (by omega),
    bits_or rfl (by simp only [IntKind.bits]; omega) (by simp only [IntKind.bits]; omega), Nat.or_comm, Nat.mul_comm, ← Nat.two_pow_add_eq_or_of_lt ha, Nat.add_comm]
abbrev word (s : ByteArray) : Nat := leNat [s.get! 0, s.get! 1, s.get! 2, s.get! 3, s.get! 4, s.get! 5, s.get! 6, s.get! 7]
theorem word_ok {s : ByteArray} (hs : 8 ≤ s.size) {w : World} {K : Int → World → Prop} (hK : K ((word s : Nat) : Int) w.drew) : C.utf8_word_string s w K := by
  unfold C.utf8_word_string
  have e8 : (8 : Int) = ((8 : Nat) : Int) := rfl
  have e16 : (16 : Int) = ((16 : Nat) : Int) := rfl
  have e24 : (24 : Int) = ((24 : Nat) : Int) := rfl
  have e32 : (32 : Int) = ((32 : Nat) : Int) := rfl
  have e40 : (40 : Int) = ((40 : Nat) : Int) := rfl
  have e48 : (48 : Int) = ((48 : Nat) : Int) := rfl
  have e56 : (56 : Int) = ((56 : Nat) : Int) := rfl
  have h0 := ((bytes s).getD 0 0).toNat_lt
  have h1 := ((bytes s).getD 1 0).toNat_lt
  have h2 := ((bytes s).getD 2 0).toNat_lt
  have h3 := ((bytes s).getD 3 0).toNat_lt
  have h4 := ((bytes s).getD 4 0).toNat_lt
  have h5 := ((bytes s).getD 5 0).toNat_lt
  have h6 := ((bytes s).getD 6 0).toNat_lt
  have h7 := ((bytes s).getD 7 0).toNat_lt
  refine ixS_at (k := 0) rfl (by omega) ?_
  refine ixS_at (k := 1) rfl (by omega) ⟨by decide, ?_⟩
  refine ixS_at (k := 2) rfl (by omega) ⟨by decide, ?_⟩
  refine ixS_at (k := 3) rfl (by omega) ⟨by decide, ?_⟩
  refine ixS_at (k := 4) rfl (by omega) ⟨by decide, ?_⟩
  refine ixS_at (k := 5) rfl (by omega) ⟨by decide, ?_⟩
  refine ixS_at (k := 6) rfl (by omega) ⟨by decide, ?_⟩
  refine ixS_at (k := 7) rfl (by omega) ⟨by decide, ?_⟩
  unfold word at hK
  simp only [← Lib.getD_get!', leNat] at hK
  rw [wU64_id (x := (((bytes s).getD 0 0).toNat : Int)) (by omega) (by omega), e8, orByte (m := 256) (by decide) rfl (by omega), e16, orByte (m := 65536) (by decide) rfl (by omega), e24, orByte (m := 16777216) (by decide) rfl (by omega),
    e32, orByte (m := 4294967296) (by decide) rfl (by omega), e40, orByte (m := 1099511627776) (by decide) rfl (by omega), e48, orByte (m := 281474976710656) (by decide) rfl (by omega), e56, orByte (m := 72057594037927936) (by decide) rfl (by omega)]
  refine Eq.mp (congrArg (fun x : Nat => K (x : Int) w.drew) ?_) hK
  simp only [bytes]
  omega
theorem maskInt {n : Nat} (h : n < 18446744073709551616) : Go.bits .and .u64 (n : Int) (9259542123273814144 : Int) = ((n &&& 9259542123273814144 : Nat) : Int) :=
  bits_and rfl (by simp only [IntKind.bits]; omega) (by decide)
theorem or64 {a b : Nat} (ha : a < 18446744073709551616) (hb : b < 18446744073709551616) : Go.bits .or .u64 (a : Int) (b : Int) = ((a ||| b : Nat) : Int) :=
  bits_or rfl (by simp only [IntKind.bits]; omega) (by simp only [IntKind.bits]; omega)
theorem or64_lt {a b : Nat} (ha : a < 18446744073709551616) (hb : b < 18446744073709551616) : a ||| b < 18446744073709551616 := Nat.or_lt_two_pow (n := 64) ha hb

/-! ## A lead byte -/
theorem newPair {w : World} {t : TypeId} {x y a b : Value} (ha : a.oneCell' = true) (hb : b.oneCell' = true) {K : Addr → World → Prop} (hK : ∀ p w', Keep w w' → w'.cell? p = some a → w'.cell? (p.add 1) = some b → K p w') :
    G.new (.cells #[x, y] t) w fun p w1 => G.st p a w1 fun w2 => G.st (p.add 1) b w2 fun w3 => K p w3 := by
  have b1 := Blk.new w t #[x, y]
  have b2 := b1.set 0 a
  have b3 := b2.set 1 b
  have k1 : Keep w (((w.alloc (.cells #[x, y] t)).setCell ⟨w.heap.size, 0, none⟩ a).setCell ⟨w.heap.size, 1, none⟩ b) :=
    ((Keep.alloc w _).setCell (p := ⟨w.heap.size, 0, none⟩) (Nat.le_refl _) a).setCell (p := ⟨w.heap.size, 1, none⟩) (Nat.le_refl _) b
  refine ⟨⟨x, by rw [b1.cell]; rfl⟩, b1.frozen 0, ⟨y, ?_⟩, ?_, ?_⟩
  · rw [addr_add, b2.cell]; rfl
  · rw [addr_add]; exact b2.frozen _
  · rw [addr_add]
    exact hK _ _ k1 (by rw [b3.cell]; rfl) (by rw [addr_add, b3.cell]; rfl)

theorem chk2 {s : ByteArray} {p : Addr} {w : World} {lo hi : Nat} {F N : Prop} (h1 : w.cell? p = some (.int .u8 (lo : Int))) (h2 : w.cell? (p.add 1) = some (.int .u8 (hi : Int))) (hs : 1 < s.size)
    (hF : ((bytes s).getD 1 0).toNat < lo ∨ hi < ((bytes s).getD 1 0).toNat → F) (hN : ¬ (((bytes s).getD 1 0).toNat < lo ∨ hi < ((bytes s).getD 1 0).toNat) → N) :
    G.ixS s (1 : Int) fun n => G.cI .u8 p w fun m => G.cond (decide (n < m)) F (G.cI .u8 (p.add 1) w fun m' => G.ixS s (1 : Int) fun n' => G.cond (decide (m' < n')) F N) := by
  refine ixS_at (k := 1) rfl hs ⟨_, h1, ?_⟩
  refine cond_d (fun h => hF (.inl (by omega))) (fun h => ?_)
  refine ⟨_, h2, ixS_at (k := 1) rfl hs ?_⟩
  exact cond_d (fun h' => hF (.inr (by omega))) (fun h' => hN (by omega))
theorem chkC {s : ByteArray} {i : Int} {k : Nat} {F N : Prop} (hi : i = (k : Int)) (hs : k < s.size) (hF : ((bytes s).getD k 0).toNat < 128 ∨ 191 < ((bytes s).getD k 0).toNat → F)
    (hN : ¬ (((bytes s).getD k 0).toNat < 128 ∨ 191 < ((bytes s).getD k 0).toNat) → N) :
    G.ixS s i fun n => G.cond (decide (n < (128 : Int))) F (G.ixS s i fun n' => G.cond (decide ((191 : Int) < n')) F N) := by
  refine ixS_at hi hs ?_
  refine cond_d (fun h => hF (.inl (by omega))) (fun h => ?_)
  refine ixS_at hi hs ?_
  exact cond_d (fun h' => hF (.inr (by omega))) (fun h' => hN (by omega))

theorem firstT_lt (c : Nat) : firstT c < 256 := by
  rcases firstT_cases c with h | h | h | h | h | h | h | h | h <;> omega
theorem bits7 {f : Nat} (h : f < 256) : IntKind.i64.wrap (Go.bits .and .u8 (f : Int) (7 : Int)) = ((f % 8 : Nat) : Int) := by
  rw [show (7 : Int) = ((7 : Nat) : Int) from rfl, bits_and rfl (by simp only [IntKind.bits]; omega) (by decide), show f &&& 7 = f % 8 from Nat.and_two_pow_sub_one_eq_mod f 3, wI64 (by omega) (by omega)]
theorem shr4 {f : Nat} : shr .u8 (f : Int) (4 : Int) = ((f / 16 : Nat) : Int) := by
  have := shr_nat .u8 (f : Int) 4 (by decide)
  rw [show ((4 : Nat) : Int) = (4 : Int) from rfl] at this
  rw [this]; omega

theorem lead_ok {K : C.utf8_ValidString.KT} {kc : Cur C.utf8_ValidString.g5} {s : ByteArray} {w0 w : World} (ht : UTab w) (h0 : 0 < s.size) (hc : 128 ≤ ((bytes s).getD 0 0).toNat) (k0 : Keep w0 w)
    (hF : validD (bytes s) = false → ∀ w', Keep w0 w' → K false w') (hN : ∀ k w', 0 < k → k ≤ s.size → validD (bytes s) = validD (bytes (s.extract k s.size)) → Keep w0 w' → kc (s.extract k s.size) w') :
    C.utf8_ValidString.S8 K kc s (((bytes s).getD 0 0).toNat : Int) w := by
  have hlen : (bytes s).length = s.size := (size_eq s).symm
  have hv := validD_lead (bytes s) (fun e => by rw [e] at hlen; simp at hlen; omega) hc
  rw [hlen] at hv
  have hc' := ((bytes s).getD 0 0).toNat_lt
  have hf := firstT_lt ((bytes s).getD 0 0).toNat
  have hcell := ht.1 _ (show ((bytes s).getD 0 0).toNat < 256 from hc')
  generalize ((bytes s).getD 0 0).toNat = c at *
  generalize firstT c = f at *
  obtain ⟨a1, a2⟩ := ht.2 (f / 16) (by omega)
  generalize accLo (f / 16) = lo at *
  generalize accHi (f / 16) = hi at *
  have drop : ∀ k, bytes (s.extract k s.size) = (bytes s).drop k := fun k => ext_list s k
  unfold C.utf8_ValidString.S8
  refine ⟨⟨by omega, by omega⟩, (f : Int), ?_, by decide, ?_⟩
  · rw [addr_add]; simpa using hcell
  rw [shr4]
  refine ⟨⟨by omega, by omega⟩, (lo : Int), ?_, (hi : Int), ?_, ?_⟩
  · rw [addr_add, Int.toNat_natCast, Nat.zero_add, Nat.mul_comm]; exact a1
  · rw [addr_add, addr_add, Int.toNat_natCast, Nat.zero_add, Nat.mul_comm]; exact a2
  refine newPair rfl rfl fun p w1 k1 c1 c2 => ?_
  have k2 : Keep w0 w1.drew := Keep.trans (Keep.trans k0 k1) (Keep.drew w1)
  rw [bits7 hf]
  have d1 : w1.drew.cell? p = some (.int .u8 (lo : Int)) := c1
  have d2 : w1.drew.cell? (p.add 1) = some (.int .u8 (hi : Int)) := c2
  refine cond_eq (fun h2 => ?_) (fun h2 => cond_eq (fun h3 => ?_) (fun h3 => cond_eq (fun h4 => ?_) (fun h4 => ?_)))
  · have hm : f % 8 = 2 := by omega
    simp only [hm, checkN, if_true] at hv
    refine cond_d (fun h => ?_) (fun h => ?_)
    · rw [if_pos (by omega)] at hv; exact hF hv _ k2
    refine chk2 d1 d2 (by omega) (fun hb => ?_) (fun hb => ?_)
    · rw [if_pos (by omega)] at hv; exact hF hv _ k2
    rw [if_neg (by omega)] at hv
    exact slcS_at (k := 2) rfl (by omega) (hN 2 _ (by decide) (by omega) (by rw [drop]; exact hv) k2)
  · have hm : f % 8 = 3 := by omega
    simp only [hm, checkN, if_true, show ((3 : Nat) = 2) = False by simp, if_false] at hv
    refine cond_d (fun h => ?_) (fun h => ?_)
    · rw [if_pos (by omega)] at hv; exact hF hv _ k2
    refine chk2 d1 d2 (by omega) (fun hb => ?_) (fun hb => ?_)
    · rw [if_pos (by omega)] at hv; exact hF hv _ k2
    refine chkC (k := 2) rfl (by omega) (fun hb' => ?_) (fun hb' => ?_)
    · rw [if_pos (by omega)] at hv; exact hF hv _ k2
    rw [if_neg (by omega)] at hv
    exact slcS_at (k := 3) rfl (by omega) (hN 3 _ (by decide) (by omega) (by rw [drop]; exact hv) k2)
  · have hm : f % 8 = 4 := by omega
    simp only [hm, checkN, if_true, show ((4 : Nat) = 2) = False by simp, show ((4 : Nat) = 3) = False by simp, if_false] at hv
    refine cond_d (fun h => ?_) (fun h => ?_)
    · rw [if_pos (by omega)] at hv; exact hF hv _ k2
    refine chk2 d1 d2 (by omega) (fun hb => ?_) (fun hb => ?_)
    · rw [if_pos (by omega)] at hv; exact hF hv _ k2
    refine chkC (k := 2) rfl (by omega) (fun hb' => ?_) (fun hb' => ?_)
    · rw [if_pos (by omega)] at hv; exact hF hv _ k2
    refine chkC (k := 3) rfl (by omega) (fun hb'' => ?_) (fun hb'' => ?_)
    · rw [if_pos (by omega)] at hv; exact hF hv _ k2
    rw [if_neg (by omega)] at hv
    exact slcS_at (k := 4) rfl (by omega) (hN 4 _ (by decide) (by omega) (by rw [drop]; exact hv) k2)
  · have h2' : ¬ f % 8 = 2 := by omega
    have h3' : ¬ f % 8 = 3 := by omega
    have h4' : ¬ f % 8 = 4 := by omega
    simp only [checkN, if_neg h2', if_neg h3', if_neg h4'] at hv
    exact hF hv _ (Keep.trans k0 k1)

/-! ## ValidString -/
theorem skip {t : ByteArray} {k : Nat} (h : Asc t k) {b : Bool} (hv : validD (bytes t) = b) : validD (bytes (t.extract k t.size)) = b := by rw [← hv]; exact valid_skip t k h

theorem valid_ok {s : ByteArray} {w0 : World} (ht : UTab w0) (hs : s.size ≤ 140737488355328) {K : Bool → World → Prop} (hK : ∀ w', Keep w0 w' → K (validD (bytes s)) w') : C.utf8_ValidString s w0 K := by
  unfold C.utf8_ValidString
  refine C.utf8_ValidString.L5_ind fun X hX => ?_
  have key : ∀ (N : Nat) (t : ByteArray) (w : World), t.size < N → Keep w0 w → (∀ w', Keep w0 w' → K (validD (bytes t)) w') → X t w := by
    intro N
    induction N with
    | zero => intro t w h; omega
    | succ N ih =>
      intro t w hN k hK
      refine hX _ _ ?_
      unfold C.utf8_ValidString.S32 C.utf8_ValidString.S2
      refine cond_d (fun h0 => ?_) (fun h0 => ?_)
      · have hpos : 0 < t.size := by omega
        unfold C.utf8_ValidString.S30
        refine ixS_at (k := 0) rfl hpos ?_
        unfold C.utf8_ValidString.S28 C.utf8_ValidString.D27
        refine cond_d (fun hc => ?_) (fun hc => ?_)
        · have a1 : Asc t 1 := asc_one t hpos (by rw [← Lib.getD_get!']; exact_mod_cast hc)
          have next : ∀ (u : ByteArray) (w' : World), u.size < t.size → validD (bytes u) = validD (bytes t) → Keep w0 w' → X u w' := fun u w' hu hv k' => ih u w' (by omega) k' (by rw [hv]; exact hK)
          unfold C.utf8_ValidString.S25
          refine slcS_at (k := 1) rfl (by omega) ?_
          have e1 := ext_size t 1
          have v1 := skip a1 rfl
          generalize t.extract 1 t.size = t1 at *
          have out : ∀ w', Keep w0 w' → X t1 w' := fun w' k' => next t1 w' (by omega) v1 k'
          unfold C.utf8_ValidString.S23 C.utf8_ValidString.D22 C.utf8_ValidString.S21 C.utf8_ValidString.S10
          refine cond_d (fun h8 => ?_) (fun _ => cond_f rfl (out w k))
          refine word_ok (by omega) ?_
          have kd : Keep w0 w.drew := Keep.trans k (Keep.drew w)
          rw [maskInt (word_lt t1)]
          refine cond_eq (fun hm => ?_) (fun _ => out _ kd)
          have a8 : Asc t1 8 := (word_asc t1 (by omega)).1 (by exact_mod_cast hm)
          unfold C.utf8_ValidString.S20
          refine slcS_at (k := 8) rfl (by omega) ?_
          have e2 := ext_size t1 8
          have v2 := skip a8 v1
          generalize t1.extract 8 t1.size = t2 at *
          have out2 : ∀ w', Keep w0 w' → X t2 w' := fun w' k' => next t2 w' (by omega) v2 k'
          have kd2 : Keep w0 w.drew.drew := Keep.trans kd (Keep.drew _)
          unfold C.utf8_ValidString.D19 C.utf8_ValidString.S18 C.utf8_ValidString.S10
          refine cond_d (fun h16 => ?_) (fun _ => cond_f rfl (out2 _ kd2))
          refine slcS_at (k := 8) rfl (by omega) ?_
          have e3 := ext_size t2 8
          refine word_ok (by omega) ?_
          refine word_ok (by omega) ?_
          have kd4 : Keep w0 w.drew.drew.drew.drew := Keep.trans (Keep.trans kd2 (Keep.drew _)) (Keep.drew _)
          rw [or64 (word_lt _) (word_lt _), maskInt (or64_lt (word_lt _) (word_lt _))]
          refine cond_eq (fun hm => ?_) (fun _ => out2 _ kd4)
          have hm' : (word t2 ||| word (t2.extract 8 t2.size)) &&& 9259542123273814144 = 0 := by exact_mod_cast hm
          rw [or_mask] at hm'
          have b1 : Asc t2 8 := (word_asc t2 (by omega)).1 hm'.1
          have b2 : Asc (t2.extract 8 t2.size) 8 := (word_asc _ (by omega)).1 hm'.2
          have a16 : Asc t2 16 := asc_add t2 8 8 b1 b2
          unfold C.utf8_ValidString.S17
          refine slcS_at (k := 16) rfl (by omega) ?_
          have e4 := ext_size t2 16
          have v3 := skip a16 v2
          generalize t2.extract 16 t2.size = t3 at *
          refine C.utf8_ValidString.L13_ind fun Y hY => ?_
          have inner : ∀ (M : Nat) (u : ByteArray) (w' : World), u.size < M → u.size < t.size → validD (bytes u) = validD (bytes t) → Keep w0 w' → Y u w' := by
            intro M
            induction M with
            | zero => intro u w' h; omega
            | succ M ihm =>
              intro u w' hM hu hv kk
              refine hY _ _ ?_
              have kk1 : Keep w0 w'.drew := Keep.trans kk (Keep.drew _)
              unfold C.utf8_ValidString.S15 C.utf8_ValidString.S10
              refine cond_d (fun h32 => ?_) (fun _ => next u _ hu hv kk1)
              have f1 := ext_size u 8
              have f2 := ext_size u 16
              have f3 := ext_size u 24
              refine slcS_at (k := 8) rfl (by omega) ?_
              refine slcS_at (k := 16) rfl (by omega) ?_
              refine slcS_at (k := 24) rfl (by omega) ?_
              refine word_ok (by omega) <| word_ok (by omega) <| word_ok (by omega) <| word_ok (by omega) ?_
              have kk5 : Keep w0 w'.drew.drew.drew.drew.drew := Keep.trans (Keep.trans (Keep.trans (Keep.trans kk1 (Keep.drew _)) (Keep.drew _)) (Keep.drew _)) (Keep.drew _)
              rw [or64 (word_lt _) (word_lt _), or64 (word_lt _) (word_lt _), or64 (or64_lt (word_lt _) (word_lt _)) (or64_lt (word_lt _) (word_lt _)), maskInt (or64_lt (or64_lt (word_lt _) (word_lt _)) (or64_lt (word_lt _) (word_lt _)))]
              refine cond_eq (fun hm => ?_) (fun _ => next u _ hu hv kk5)
              have hm' : ((word u ||| word (u.extract 8 u.size)) ||| (word (u.extract 16 u.size) ||| word (u.extract 24 u.size))) &&& 9259542123273814144 = 0 := by exact_mod_cast hm
              rw [or_mask, or_mask, or_mask] at hm'
              have q1 : Asc u 8 := (word_asc u (by omega)).1 hm'.1.1
              have q2 : Asc u 16 := asc_add u 8 8 q1 ((word_asc _ (by omega)).1 hm'.1.2)
              have q3 : Asc u 24 := asc_add u 16 8 q2 ((word_asc _ (by omega)).1 hm'.2.1)
              have q4 : Asc u 32 := asc_add u 24 8 q3 ((word_asc _ (by omega)).1 hm'.2.2)
              refine slcS_at (k := 32) rfl (by omega) ?_
              have f4 := ext_size u 32
              exact ihm _ _ (by omega) (by omega) (skip q4 hv) kk5
          exact inner (t3.size + 1) t3 _ (by omega) (by omega) v3 kd4
        · unfold C.utf8_ValidString.S26
          refine lead_ok (UTab.keep ht k) hpos (by omega) k (fun hv w' k' => by rw [hv] at hK; exact hK w' k') fun n w' h1 h2 hv k' => ?_
          have := ext_size t n
          exact ih _ w' (by omega) k' (by rw [← hv]; exact hK)
      · have hz : bytes t = [] := List.eq_nil_of_length_eq_zero (by rw [← size_eq]; omega)
        rw [hz, validD_nil] at hK
        exact hK w k
  exact key (s.size + 1) s w0 (by omega) (Keep.refl _) hK
end Go.Proofs.YtfkpehcbijgmnaaGreatDoor.Utf
