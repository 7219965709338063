/- (several texts in one: UtfB, ConvB, Lab, Tag, LabR, Lbc, UtfRB, Lbr, Maps, MapV, RuP, VintO, LabP, Smp, LabK, RowT, SortG, Seq, SeqG, RuA, SortT, RuK, RuW, RuV, RuS, RuG, RuR, RuT) Own work. -/
import Derived.Lib.ValidAsc
import Derived.Lib.LaidU8
import Derived.Laws.BytesString
import Derived.Lib.ConvBytes
import Derived.Lib.Bytealg
import Derived.WideMake
import Derived.RangeFuncRecord
import Derived.Maps.RangeRun
import Derived.Laws.CopyRow
import Derived.Laws.IdiomCopy
import Derived.Sort.KeysCollected
import Derived.Test.YtechilkjfhpkpaaGreatDoorPN2
namespace Go.Proofs.YtechilkjfhpkpaaGreatDoor.Utf
open Go Vm Go.RowKit Num Mem Lib
set_option maxRecDepth 10000
abbrev UTab (w : World) : Prop := Utf8Tabs 2 3 w
theorem UTab.keep {w w' : World} (h : UTab w) (k : Keep w w') : UTab w' := ⟨fun c hc => k.cell (h.1 c hc), fun i hi => ⟨k.cell (h.2 i hi).1, k.cell (h.2 i hi).2⟩⟩
theorem orByte {a k m : Nat} {c : UInt8} (hk : k ≤ 56) (hm : m = 2 ^ k) (ha : a < m) : Go.bits .or .u64 (a : Int) (shl .u64 (IntKind.u64.wrap (c.toNat : Int)) (k : Int)) = ((a + c.toNat * m : Nat) : Int) := by
  have hc := c.toNat_lt
  subst hm
  have hp : 2 ^ k ≤ 2 ^ 56 := Nat.pow_le_pow_right (by decide) hk
  have hx : c.toNat * 2 ^ k ≤ 255 * 2 ^ 56 := Nat.mul_le_mul (by omega) hp
  rw [wU64_id (x := (c.toNat : Int)) (by omega) (by omega), shl_nat .u64 _ k (by simp only [IntKind.bits]; omega), show (c.toNat : Int) * 2 ^ k = ((c.toNat * 2 ^ k : Nat) : Int) by simp, wU64_id (by omega) (by omega),
    bits_or rfl (by simp only [IntKind.bits]; omega) (by simp only [IntKind.bits]; omega), Nat.or_comm, Nat.mul_comm, ← Nat.two_pow_add_eq_or_of_lt ha, Nat.add_comm]
abbrev word (s : ByteArray) : Nat := leNat [s.get! 0, s.get! 1, s.get! 2, s.get! 3, s.get! 4, s.get! 5, s.get! 6, s.get! 7]
theorem word_ok {s : ByteArray} (hs : 8 ≤ s.size) {w : World} {K : Int → World → Prop} (hK : K ((word s : Nat) : Int) w.drew) : C.utf8_word_string s w K := by
  unfold C.utf8_word_string
  have e8 : (8 : Int) = ((8 : Nat) : Int) := rfl
  have e16 : (16 : Int) = ((16 : Nat) : Int) := rfl
  have e24 : (24 : Int) = ((24 : Nat) : Int) := rfl
  have e32 : (32 : Int) = ((32 : Nat) : Int) := rfl
  have e40 : (40 : Int) = ((40 : Nat) : Int) := rfl
  have e48 : (48 : Int) = ((48 : Nat) : Int) := rfl
  have e56 : (56 : Int) = ((56 : Nat) : Int) := rfl
  have h0 := ((bytes s).getD 0 0).toNat_lt
  have h1 := ((bytes s).getD 1 0).toNat_lt
  have h2 := ((bytes s).getD 2 0).toNat_lt
  have h3 := ((bytes s).getD 3 0).toNat_lt
  have h4 := ((bytes s).getD 4 0).toNat_lt
  have h5 := ((bytes s).getD 5 0).toNat_lt
  have h6 := ((bytes s).getD 6 0).toNat_lt
  have h7 := ((bytes s).getD 7 0).toNat_lt
  refine ixS_at (k := 0) rfl (by omega) ?_
  refine ixS_at (k := 1) rfl (by omega) ⟨by decide, ?_⟩
  refine ixS_at (k := 2) rfl (by omega) ⟨by decide, ?_⟩
  refine ixS_at (k := 3) rfl (by omega) ⟨by decide, ?_⟩
  refine ixS_at (k := 4) rfl (by omega) ⟨by decide, ?_⟩
  refine ixS_at (k := 5) rfl (by omega) ⟨by decide, ?_⟩
  refine ixS_at (k := 6) rfl (by omega) ⟨by decide, ?_⟩
  refine ixS_at (k := 7) rfl (by omega) ⟨by decide, ?_⟩
  unfold word at hK
  simp only [← Lib.getD_get!', leNat] at hK
  rw [wU64_id (x := (((bytes s).getD 0 0).toNat : Int)) (by omega) (by omega), e8, orByte (m := 256) (by decide) rfl (by omega), e16, orByte (m := 65536) (by decide) rfl (by omega), e24, orByte (m := 16777216) (by decide) rfl (by omega),
    e32, orByte (m := 4294967296) (by decide) rfl (by omega), e40, orByte (m := 1099511627776) (by decide) rfl (by omega), e48, orByte (m := 281474976710656) (by decide) rfl (by omega), e56, orByte (m := 72057594037927936) (by decide) rfl (by omega)]
  refine Eq.mp (congrArg (fun x : Nat => K (x : Int) w.drew) ?_) hK
  simp only [bytes]
  omega
theorem maskInt {n : Nat} (h : n < 18446744073709551616) : Go.bits .and .u64 (n : Int) (9259542123273814144 : Int) = ((n &&& 9259542123273814144 : Nat) : Int) :=
  bits_and rfl (by simp only [IntKind.bits]; omega) (by decide)
theorem or64 {a b : Nat} (ha : a < 18446744073709551616) (hb : b < 18446744073709551616) : Go.bits .or .u64 (a : Int) (b : Int) = ((a ||| b : Nat) : Int) :=
  bits_or rfl (by simp only [IntKind.bits]; omega) (by simp only [IntKind.bits]; omega)
theorem or64_lt {a b : Nat} (ha : a < 18446744073709551616) (hb : b < 18446744073709551616) : a ||| b < 18446744073709551616 := Nat.or_lt_two_pow (n := 64) ha hb
theorem newPair {w : World} {t : TypeId} {x y a b : Value} (ha : a.oneCell' = true) (hb : b.oneCell' = true) {K : Addr → World → Prop} (hK : ∀ p w', Keep w w' → w'.cell? p = some a → w'.cell? (p.add 1) = some b → K p w') :
    G.new (.cells #[x, y] t) w fun p w1 => G.st p a w1 fun w2 => G.st (p.add 1) b w2 fun w3 => K p w3 := by
  have b1 := Blk.new w t #[x, y]
  have b2 := b1.set 0 a
  have b3 := b2.set 1 b
  have k1 : Keep w (((w.alloc (.cells #[x, y] t)).setCell ⟨w.heap.size, 0, none⟩ a).setCell ⟨w.heap.size, 1, none⟩ b) :=
    ((Keep.alloc w _).setCell (p := ⟨w.heap.size, 0, none⟩) (Nat.le_refl _) a).setCell (p := ⟨w.heap.size, 1, none⟩) (Nat.le_refl _) b
  refine ⟨⟨x, by rw [b1.cell]; rfl⟩, b1.frozen 0, ⟨y, ?_⟩, ?_, ?_⟩
  · rw [addr_add, b2.cell]; rfl
  · rw [addr_add]; exact b2.frozen _
  · rw [addr_add]
    exact hK _ _ k1 (by rw [b3.cell]; rfl) (by rw [addr_add, b3.cell]; rfl)
theorem chk2 {s : ByteArray} {p : Addr} {w : World} {lo hi : Nat} {F N : Prop} (h1 : w.cell? p = some (.int .u8 (lo : Int))) (h2 : w.cell? (p.add 1) = some (.int .u8 (hi : Int))) (hs : 1 < s.size)
    (hF : ((bytes s).getD 1 0).toNat < lo ∨ hi < ((bytes s).getD 1 0).toNat → F) (hN : ¬ (((bytes s).getD 1 0).toNat < lo ∨ hi < ((bytes s).getD 1 0).toNat) → N) :
    G.ixS s (1 : Int) fun n => G.cI .u8 p w fun m => G.cond (decide (n < m)) F (G.cI .u8 (p.add 1) w fun m' => G.ixS s (1 : Int) fun n' => G.cond (decide (m' < n')) F N) := by
  refine ixS_at (k := 1) rfl hs ⟨_, h1, ?_⟩
  refine cond_d (fun h => hF (.inl (by omega))) (fun h => ?_)
  refine ⟨_, h2, ixS_at (k := 1) rfl hs ?_⟩
  exact cond_d (fun h' => hF (.inr (by omega))) (fun h' => hN (by omega))
theorem chkC {s : ByteArray} {i : Int} {k : Nat} {F N : Prop} (hi : i = (k : Int)) (hs : k < s.size) (hF : ((bytes s).getD k 0).toNat < 128 ∨ 191 < ((bytes s).getD k 0).toNat → F)
    (hN : ¬ (((bytes s).getD k 0).toNat < 128 ∨ 191 < ((bytes s).getD k 0).toNat) → N) :
    G.ixS s i fun n => G.cond (decide (n < (128 : Int))) F (G.ixS s i fun n' => G.cond (decide ((191 : Int) < n')) F N) := by
  refine ixS_at hi hs ?_
  refine cond_d (fun h => hF (.inl (by omega))) (fun h => ?_)
  refine ixS_at hi hs ?_
  exact cond_d (fun h' => hF (.inr (by omega))) (fun h' => hN (by omega))
theorem firstT_lt (c : Nat) : firstT c < 256 := by
  rcases firstT_cases c with h | h | h | h | h | h | h | h | h <;> omega
theorem bits7 {f : Nat} (h : f < 256) : IntKind.i64.wrap (Go.bits .and .u8 (f : Int) (7 : Int)) = ((f % 8 : Nat) : Int) := by
  rw [show (7 : Int) = ((7 : Nat) : Int) from rfl, bits_and rfl (by simp only [IntKind.bits]; omega) (by decide), show f &&& 7 = f % 8 from Nat.and_two_pow_sub_one_eq_mod f 3, wI64 (by omega) (by omega)]
theorem shr4 {f : Nat} : shr .u8 (f : Int) (4 : Int) = ((f / 16 : Nat) : Int) := by
  have := shr_nat .u8 (f : Int) 4 (by decide)
  rw [show ((4 : Nat) : Int) = (4 : Int) from rfl] at this
  rw [this]; omega
theorem lead_ok {K : C.utf8_ValidString.KT} {kc : Cur C.utf8_ValidString.g5} {s : ByteArray} {w0 w : World} (ht : UTab w) (h0 : 0 < s.size) (hc : 128 ≤ ((bytes s).getD 0 0).toNat) (k0 : Keep w0 w)
    (hF : validD (bytes s) = false → ∀ w', Keep w0 w' → K false w') (hN : ∀ k w', 0 < k → k ≤ s.size → validD (bytes s) = validD (bytes (s.extract k s.size)) → Keep w0 w' → kc (s.extract k s.size) w') :
    C.utf8_ValidString.S8 K kc s (((bytes s).getD 0 0).toNat : Int) w := by
  have hlen : (bytes s).length = s.size := (size_eq s).symm
  have hv := validD_lead (bytes s) (fun e => by rw [e] at hlen; simp at hlen; omega) hc
  rw [hlen] at hv
  have hc' := ((bytes s).getD 0 0).toNat_lt
  have hf := firstT_lt ((bytes s).getD 0 0).toNat
  have hcell := ht.1 _ (show ((bytes s).getD 0 0).toNat < 256 from hc')
  generalize ((bytes s).getD 0 0).toNat = c at *
  generalize firstT c = f at *
  obtain ⟨a1, a2⟩ := ht.2 (f / 16) (by omega)
  generalize accLo (f / 16) = lo at *
  generalize accHi (f / 16) = hi at *
  have drop : ∀ k, bytes (s.extract k s.size) = (bytes s).drop k := fun k => ext_list s k
  unfold C.utf8_ValidString.S8
  refine ⟨⟨by omega, by omega⟩, (f : Int), ?_, by decide, ?_⟩
  · rw [addr_add]; simpa using hcell
  rw [shr4]
  refine ⟨⟨by omega, by omega⟩, (lo : Int), ?_, (hi : Int), ?_, ?_⟩
  · rw [addr_add, Int.toNat_natCast, Nat.zero_add, Nat.mul_comm]; exact a1
  · rw [addr_add, addr_add, Int.toNat_natCast, Nat.zero_add, Nat.mul_comm]; exact a2
  refine newPair rfl rfl fun p w1 k1 c1 c2 => ?_
  have k2 : Keep w0 w1.drew := Keep.trans (Keep.trans k0 k1) (Keep.drew w1)
  rw [bits7 hf]
  have d1 : w1.drew.cell? p = some (.int .u8 (lo : Int)) := c1
  have d2 : w1.drew.cell? (p.add 1) = some (.int .u8 (hi : Int)) := c2
  refine cond_eq (fun h2 => ?_) (fun h2 => cond_eq (fun h3 => ?_) (fun h3 => cond_eq (fun h4 => ?_) (fun h4 => ?_)))
  · have hm : f % 8 = 2 := by omega
    simp only [hm, checkN, if_true] at hv
    refine cond_d (fun h => ?_) (fun h => ?_)
    · rw [if_pos (by omega)] at hv; exact hF hv _ k2
    refine chk2 d1 d2 (by omega) (fun hb => ?_) (fun hb => ?_)
    · rw [if_pos (by omega)] at hv; exact hF hv _ k2
    rw [if_neg (by omega)] at hv
    exact slcS_at (k := 2) rfl (by omega) (hN 2 _ (by decide) (by omega) (by rw [drop]; exact hv) k2)
  · have hm : f % 8 = 3 := by omega
    simp only [hm, checkN, if_true, show ((3 : Nat) = 2) = False by simp, if_false] at hv
    refine cond_d (fun h => ?_) (fun h => ?_)
    · rw [if_pos (by omega)] at hv; exact hF hv _ k2
    refine chk2 d1 d2 (by omega) (fun hb => ?_) (fun hb => ?_)
    · rw [if_pos (by omega)] at hv; exact hF hv _ k2
    refine chkC (k := 2) rfl (by omega) (fun hb' => ?_) (fun hb' => ?_)
    · rw [if_pos (by omega)] at hv; exact hF hv _ k2
    rw [if_neg (by omega)] at hv
    exact slcS_at (k := 3) rfl (by omega) (hN 3 _ (by decide) (by omega) (by rw [drop]; exact hv) k2)
  · have hm : f % 8 = 4 := by omega
    simp only [hm, checkN, if_true, show ((4 : Nat) = 2) = False by simp, show ((4 : Nat) = 3) = False by simp, if_false] at hv
    refine cond_d (fun h => ?_) (fun h => ?_)
    · rw [if_pos (by omega)] at hv; exact hF hv _ k2
    refine chk2 d1 d2 (by omega) (fun hb => ?_) (fun hb => ?_)
    · rw [if_pos (by omega)] at hv; exact hF hv _ k2
    refine chkC (k := 2) rfl (by omega) (fun hb' => ?_) (fun hb' => ?_)
    · rw [if_pos (by omega)] at hv; exact hF hv _ k2
    refine chkC (k := 3) rfl (by omega) (fun hb'' => ?_) (fun hb'' => ?_)
    · rw [if_pos (by omega)] at hv; exact hF hv _ k2
    rw [if_neg (by omega)] at hv
    exact slcS_at (k := 4) rfl (by omega) (hN 4 _ (by decide) (by omega) (by rw [drop]; exact hv) k2)
  · have h2' : ¬ f % 8 = 2 := by omega
    have h3' : ¬ f % 8 = 3 := by omega
    have h4' : ¬ f % 8 = 4 := by omega
    simp only [checkN, if_neg h2', if_neg h3', if_neg h4'] at hv
    exact hF hv _ (Keep.trans k0 k1)
theorem skip {t : ByteArray} {k : Nat} (h : Asc t k) {b : Bool} (hv : validD (bytes t) = b) : validD (bytes (t.extract k t.size)) = b := by rw [← hv]; exact valid_skip t k h
theorem valid_ok {s : ByteArray} {w0 : World} (ht : UTab w0) (hs : s.size ≤ 140737488355328) {K : Bool → World → Prop} (hK : ∀ w', Keep w0 w' → K (validD (bytes s)) w') : C.utf8_ValidString s w0 K := by
  unfold C.utf8_ValidString
  refine C.utf8_ValidString.L5_ind fun X hX => ?_
  have key : ∀ (N : Nat) (t : ByteArray) (w : World), t.size < N → Keep w0 w → (∀ w', Keep w0 w' → K (validD (bytes t)) w') → X t w := by
    intro N
    induction N with
    | zero => intro t w h; omega
    | succ N ih =>
      intro t w hN k hK
      refine hX _ _ ?_
      unfold C.utf8_ValidString.S32 C.utf8_ValidString.S2
      refine cond_d (fun h0 => ?_) (fun h0 => ?_)
      · have hpos : 0 < t.size := by omega
        unfold C.utf8_ValidString.S30
        refine ixS_at (k := 0) rfl hpos ?_
        unfold C.utf8_ValidString.S28 C.utf8_ValidString.D27
        refine cond_d (fun hc => ?_) (fun hc => ?_)
        · have a1 : Asc t 1 := asc_one t hpos (by rw [← Lib.getD_get!']; exact_mod_cast hc)
          have next : ∀ (u : ByteArray) (w' : World), u.size < t.size → validD (bytes u) = validD (bytes t) → Keep w0 w' → X u w' := fun u w' hu hv k' => ih u w' (by omega) k' (by rw [hv]; exact hK)
          unfold C.utf8_ValidString.S25
          refine slcS_at (k := 1) rfl (by omega) ?_
          have e1 := ext_size t 1
          have v1 := skip a1 rfl
          generalize t.extract 1 t.size = t1 at *
          have out : ∀ w', Keep w0 w' → X t1 w' := fun w' k' => next t1 w' (by omega) v1 k'
          unfold C.utf8_ValidString.S23 C.utf8_ValidString.D22 C.utf8_ValidString.S21 C.utf8_ValidString.S10
          refine cond_d (fun h8 => ?_) (fun _ => cond_f rfl (out w k))
          refine word_ok (by omega) ?_
          have kd : Keep w0 w.drew := Keep.trans k (Keep.drew w)
          rw [maskInt (word_lt t1)]
          refine cond_eq (fun hm => ?_) (fun _ => out _ kd)
          have a8 : Asc t1 8 := (word_asc t1 (by omega)).1 (by exact_mod_cast hm)
          unfold C.utf8_ValidString.S20
          refine slcS_at (k := 8) rfl (by omega) ?_
          have e2 := ext_size t1 8
          have v2 := skip a8 v1
          generalize t1.extract 8 t1.size = t2 at *
          have out2 : ∀ w', Keep w0 w' → X t2 w' := fun w' k' => next t2 w' (by omega) v2 k'
          have kd2 : Keep w0 w.drew.drew := Keep.trans kd (Keep.drew _)
          unfold C.utf8_ValidString.D19 C.utf8_ValidString.S18 C.utf8_ValidString.S10
          refine cond_d (fun h16 => ?_) (fun _ => cond_f rfl (out2 _ kd2))
          refine slcS_at (k := 8) rfl (by omega) ?_
          have e3 := ext_size t2 8
          refine word_ok (by omega) ?_
          refine word_ok (by omega) ?_
          have kd4 : Keep w0 w.drew.drew.drew.drew := Keep.trans (Keep.trans kd2 (Keep.drew _)) (Keep.drew _)
          rw [or64 (word_lt _) (word_lt _), maskInt (or64_lt (word_lt _) (word_lt _))]
          refine cond_eq (fun hm => ?_) (fun _ => out2 _ kd4)
          have hm' : (word t2 ||| word (t2.extract 8 t2.size)) &&& 9259542123273814144 = 0 := by exact_mod_cast hm
          rw [or_mask] at hm'
          have b1 : Asc t2 8 := (word_asc t2 (by omega)).1 hm'.1
          have b2 : Asc (t2.extract 8 t2.size) 8 := (word_asc _ (by omega)).1 hm'.2
          have a16 : Asc t2 16 := asc_add t2 8 8 b1 b2
          unfold C.utf8_ValidString.S17
          refine slcS_at (k := 16) rfl (by omega) ?_
          have e4 := ext_size t2 16
          have v3 := skip a16 v2
          generalize t2.extract 16 t2.size = t3 at *
          refine C.utf8_ValidString.L13_ind fun Y hY => ?_
          have inner : ∀ (M : Nat) (u : ByteArray) (w' : World), u.size < M → u.size < t.size → validD (bytes u) = validD (bytes t) → Keep w0 w' → Y u w' := by
            intro M
            induction M with
            | zero => intro u w' h; omega
            | succ M ihm =>
              intro u w' hM hu hv kk
              refine hY _ _ ?_
              have kk1 : Keep w0 w'.drew := Keep.trans kk (Keep.drew _)
              unfold C.utf8_ValidString.S15 C.utf8_ValidString.S10
              refine cond_d (fun h32 => ?_) (fun _ => next u _ hu hv kk1)
              have f1 := ext_size u 8
              have f2 := ext_size u 16
              have f3 := ext_size u 24
              refine slcS_at (k := 8) rfl (by omega) ?_
              refine slcS_at (k := 16) rfl (by omega) ?_
              refine slcS_at (k := 24) rfl (by omega) ?_
              refine word_ok (by omega) <| word_ok (by omega) <| word_ok (by omega) <| word_ok (by omega) ?_
              have kk5 : Keep w0 w'.drew.drew.drew.drew.drew := Keep.trans (Keep.trans (Keep.trans (Keep.trans kk1 (Keep.drew _)) (Keep.drew _)) (Keep.drew _)) (Keep.drew _)
              rw [or64 (word_lt _) (word_lt _), or64 (word_lt _) (word_lt _), or64 (or64_lt (word_lt _) (word_lt _)) (or64_lt (word_lt _) (word_lt _)), maskInt (or64_lt (or64_lt (word_lt _) (word_lt _)) (or64_lt (word_lt _) (word_lt _)))]
              refine cond_eq (fun hm => ?_) (fun _ => next u _ hu hv kk5)
              have hm' : ((word u ||| word (u.extract 8 u.size)) ||| (word (u.extract 16 u.size) ||| word (u.extract 24 u.size))) &&& 9259542123273814144 = 0 := by exact_mod_cast hm
              rw [or_mask, or_mask, or_mask] at hm'
              have q1 : Asc u 8 := (word_asc u (by omega)).1 hm'.1.1
              have q2 : Asc u 16 := asc_add u 8 8 q1 ((word_asc _ (by omega)).1 hm'.1.2)
              have q3 : Asc u 24 := asc_add u 16 8 q2 ((word_asc _ (by omega)).1 hm'.2.1)
              have q4 : Asc u 32 := asc_add u 24 8 q3 ((word_asc _ (by omega)).1 hm'.2.2)
              refine slcS_at (k := 32) rfl (by omega) ?_
              have f4 := ext_size u 32
              exact ihm _ _ (by omega) (by omega) (skip q4 hv) kk5
          exact inner (t3.size + 1) t3 _ (by omega) (by omega) v3 kd4
        · unfold C.utf8_ValidString.S26
          refine lead_ok (UTab.keep ht k) hpos (by omega) k (fun hv w' k' => by rw [hv] at hK; exact hK w' k') fun n w' h1 h2 hv k' => ?_
          have := ext_size t n
          exact ih _ w' (by omega) k' (by rw [← hv]; exact hK)
      · have hz : bytes t = [] := List.eq_nil_of_length_eq_zero (by rw [← size_eq]; omega)
        rw [hz, validD_nil] at hK
        exact hK w k
  exact key (s.size + 1) s w0 (by omega) (Keep.refl _) hK
end Go.Proofs.YtechilkjfhpkpaaGreatDoor.Utf

namespace Go.Proofs.YtechilkjfhpkpaaGreatDoor.Utf
open Go Vm Go.RowKit Num Mem Lib
theorem convSB {w : World} {s : ByteArray} {K : Sl → World → Prop} (hK : ∀ r w', Keep w w' → RdB w' r (bytes s) → K r w') :
    G.runSl Tryz.prog (Go.convert 9 120 (.string s)) w K := by
  refine ⟨⟨some ⟨w.heap.size, 0, none⟩, s.size, grownCap w s.size 0 5⟩, _, Go.Lib.run_convert_string_bytes (P := Tryz.prog) w 9 120 5 s (u := .string) (by kernel_rfl) (by kernel_rfl) (by kernel_rfl), hK _ _ ?_ ?_⟩
  · refine ⟨?_, ?_, ?_, ?_, fun k hk => bytesWorld_at_old w _ s k hk⟩
    · simp [bytesWorld, World.freeze, World.alloc, World.drew, -World.alloc_eq, -World.drew_eq]
    · simp [bytesWorld, World.freeze, World.alloc, World.drew, -World.alloc_eq, -World.drew_eq]
    · simp [bytesWorld, World.freeze, World.alloc, World.drew, -World.alloc_eq, -World.drew_eq]
    · rw [bytesWorld_size]; omega
  · refine ⟨grownCap_ge w s.size 0 _, by rw [vBs_length, Nat.mul_one, size_eq], fun _ => ⟨_, 0, rfl, fun j v hv => ?_⟩⟩
    rw [Nat.zero_add]
    obtain ⟨hj, he⟩ := List.getElem?_eq_some_iff.1 hv
    rw [vBs_length, ← size_eq] at hj
    rw [bytesWorld_cell w _ s j hj, ← he]
    simp only [vBs, List.getElem_map, vB]
    rw [List.getD_eq_getElem?_getD, List.getElem?_eq_getElem (by rw [← size_eq]; exact hj), Option.getD_some]
theorem fold_push : ∀ (l m : List UInt8), (l.map fun b => (b.toNat : Int)).foldl (fun r n => r.push (UInt8.ofNat n.toNat)) (⟨m.toArray⟩ : ByteArray) = ⟨(m ++ l).toArray⟩
  | [], m => by rw [List.append_nil]; rfl
  | b :: l, m => by
    simp only [List.map_cons, List.foldl_cons]
    have e : (⟨m.toArray⟩ : ByteArray).push (UInt8.ofNat ((b.toNat : Int)).toNat) = ⟨(m ++ [b]).toArray⟩ := by
      simp [ByteArray.push]
    rw [e, fold_push l (m ++ [b])]
    simp
abbrev str (l : List UInt8) : ByteArray := ⟨l.toArray⟩
theorem bytes_str (l : List UInt8) : bytes (str l) = l := by simp [bytes]
theorem convBS {P : Program} {w : World} {b : Sl} {l : List UInt8} (h : RdB w b l) {K : ByteArray → Prop} (hK : K (str l)) : G.rdS P (Conv.bytesToString b.v) w K := by
  refine ⟨_, fun d => ?_, hK⟩
  have hd := Rd.drewN h d
  have hn := RdB.len h
  cases b with
  | mk a n c =>
    simp only at hn
    subst hn
    have go : ∀ x : Addr, (∀ j v, (vBs l)[j]? = some v → (w.drewN d).cell? (x.add j) = some v) → (Conv.bytesToString (.slice (some x) l.length c)).run P (w.drewN d) = .ok (.string (str l)) (w.drewN d) := by
      intro x hx
      have e : vBs l = (l.map fun b => (b.toNat : Int)).map (Value.int .u8) := by
        rw [List.map_map]; rfl
      have hl : (loadCells x l.length).run P (w.drewN d) = .ok ((l.map fun b => (b.toNat : Int)).map (Value.int .u8)).toArray (w.drewN d) := by
        rw [← e]
        have := run_loadCells_list (P := P) (w.drewN d) x (vBs l) hx
        rw [vBs_length] at this
        exact this
      rw [run_bytesToString (w.drewN d) x l.length c _ hl]
      have := fold_push l []
      simp only [List.nil_append] at this
      exact congrArg (fun s => Result.ok (Value.string s) (w.drewN d)) this
    by_cases h0 : vBs l = []
    · have hl0 : l = [] := by cases l with | nil => rfl | cons => simp [vBs] at h0
      subst hl0
      cases a with
      | none => rfl
      | some x => exact go x (by intro j v hv; simp [vBs] at hv)
    · obtain ⟨g, o, ha, hc⟩ := hd.2.2 h0
      simp only at ha
      subst ha
      exact go _ fun j v hv => by rw [addr_add]; exact hc j v hv
end Go.Proofs.YtechilkjfhpkpaaGreatDoor.Utf

namespace Go.Proofs.YtechilkjfhpkpaaGreatDoor.Lab
open Go Vm Num Mem Utf Lib
variable {w w' w0 : World}
def letterB (c : Nat) : Bool := (decide (97 ≤ c) && decide (c ≤ 122)) || (decide (65 ≤ c) && decide (c ≤ 90)) || c == 95
def digitB (c : Nat) : Bool := decide (48 ≤ c) && decide (c ≤ 57)
theorem letter_ok {c : Nat} {K : Bool → World → Prop} (hK : K (letterB c) w) : C.labels_letter (c : Int) w K := by
  unfold C.labels_letter
  have e95 : ∀ b : Bool, letterB c = b → (((c : Int) == (95 : Int)) = (c == 95)) := fun _ _ => by
    cases h : (c == 95) with
    | true => simp at h; subst h; rfl
    | false => simp at h; simp; omega
  have e := e95 _ rfl
  have yes : letterB c = true → K true w := fun h => by rw [h] at hK; exact hK
  have els : (letterB c = (c == 95)) → K ((c : Int) == (95 : Int)) w := fun h => by rw [e, ← h]; exact hK
  refine cond_d (fun h1 => cond_d (fun h2 => yes ?_) (fun h2 => cond_d (fun h3 => cond_d (fun h4 => by omega) (fun h4 => els ?_)) (fun h3 => by omega))) (fun h1 => cond_d (fun h3 => cond_d (fun h4 => yes ?_) (fun h4 => els ?_)) (fun h3 => els ?_))
  all_goals (unfold letterB; simp; try omega)
theorem digit_ok {c : Nat} {K : Bool → World → Prop} (hK : K (digitB c) w) : C.labels_digit (c : Int) w K := by
  unfold C.labels_digit
  unfold digitB at hK
  refine cond_d (fun h => ?_) (fun h => ?_)
  · have e : decide ((c : Int) ≤ 57) = decide (c ≤ 57) := by simp only [decide_eq_decide]; omega
    rw [e]
    rw [decide_eq_true (by omega : 48 ≤ c)] at hK
    exact hK
  · rw [decide_eq_false (by omega : ¬ 48 ≤ c)] at hK
    exact hK
def okB (colon : Bool) (c : Nat) : Bool := letterB c || (digitB c || (colon && c == 58))
def namedB (l : List UInt8) (most : Nat) (colon : Bool) : Bool := !l.isEmpty && (decide (l.length ≤ most) && (!digitB (l.getD 0 0).toNat && l.all fun c => okB colon c.toNat))
theorem named_ok {s : ByteArray} {most : Nat} {m : Int} (hm : m = (most : Int)) (hmm : most ≤ 100000) {colon : Bool} {K : Bool → World → Prop} (hK : ∀ w', Keep w0 w' → K (namedB (Utf.bytes s) most colon) w') : C.labels_named s m colon w0 K := by
  subst hm
  have hsz := size_eq s
  have hl : (Utf.bytes s).length = s.size := hsz.symm
  unfold C.labels_named
  have no : namedB (Utf.bytes s) most colon = false → ∀ w', Keep w0 w' → K false w' := fun h w' k => by have := hK w' k; rwa [h] at this
  have etl : s.toList = Utf.bytes s := ByteArray.toList_eq s
  have e0 : (⟨#[]⟩ : ByteArray).toList = [] := by rw [ByteArray.toList_eq]
  rw [etl, e0]
  refine cond_of (fun h => no ?_ w0 (Keep.refl w0)) (fun h => ?_)
  · have : Utf.bytes s = [] := by simpa using h
    unfold namedB; rw [this]; rfl
  have hne : Utf.bytes s ≠ [] := by intro e; rw [e] at h; simp at h
  have hpos : 0 < s.size := by rw [← hl]; exact List.length_pos_iff.2 hne
  refine cond_d (fun h => no ?_ w0 (Keep.refl w0)) (fun h => ?_)
  · unfold namedB; rw [decide_eq_false (by omega)]; simp
  refine ixS_at (k := 0) rfl hpos (digit_ok ?_)
  have hemp : (Utf.bytes s).isEmpty = false := by cases hb : Utf.bytes s with | nil => exact absurd hb hne | cons _ _ => rfl
  have hle : decide ((Utf.bytes s).length ≤ most) = true := decide_eq_true (by omega)
  refine cond_of (fun h => no ?_ w0 (Keep.refl w0)) (fun hd => ?_)
  · unfold namedB; rw [h]; simp
  have hn : namedB (Utf.bytes s) most colon = (Utf.bytes s).all fun c => okB colon c.toNat := by unfold namedB; rw [hemp, hle, hd]; simp
  rw [hn] at hK no
  unfold C.labels_named.S9
  refine convSB fun r w1 k1 o1 => ?_
  have hr := o1.len
  clear hn hd hle hemp hne etl hsz
  generalize Utf.bytes s = l at *
  refine C.labels_named.L5_ind fun X hX => ?_
  have key : ∀ (d i : Nat), i + d = l.length → (l.take i).all (fun c => okB colon c.toNat) = true → X colon r ((r.n : Nat) : Int) (i : Int) w1 := by
    intro d
    induction d with
    | zero =>
      intro i hi ha
      refine hX _ _ _ _ _ ?_
      unfold C.labels_named.S7 C.labels_named.S2
      refine cond_d (fun h => by omega) (fun _ => ?_)
      rw [List.take_of_length_le (by omega)] at ha
      have := hK w1 k1
      rwa [ha] at this
    | succ d ih =>
      intro i hi ha
      refine hX _ _ _ _ _ ?_
      unfold C.labels_named.S7
      have hil : i < l.length := by omega
      refine cond_d (fun _ => ?_) (fun h => by omega)
      refine RdB.at_ o1 hil ?_
      have next : okB colon l[i].toNat = true → X colon r ((r.n : Nat) : Int) (IntKind.i64.wrap ((i : Int) + 1)) w1 := fun hok => by
        rw [wI64 (by omega) (by omega), show (i : Int) + 1 = ((i + 1 : Nat) : Int) by omega]
        refine ih (i + 1) (by omega) ?_
        rw [List.take_add_one, List.getElem?_eq_getElem hil, List.all_append, ha]
        simp [hok]
      have stop : okB colon l[i].toNat = false → K false w1 := fun hok => no (by
        rw [List.all_eq_false]
        exact ⟨l[i], List.getElem_mem hil, by simp [hok]⟩) w1 k1
      refine letter_ok (cond_of (fun hlt => ?_) (fun hlt => next (by unfold okB; simp at hlt; simp [hlt])))
      refine digit_ok (cond_of (fun hdt => ?_) (fun hdt => next (by unfold okB; simp at hdt; simp [hdt])))
      simp only [Bool.not_eq_true'] at hlt hdt
      refine cond_of (fun hc => ?_) (fun hc => stop (by unfold okB; simp [hlt, hdt, hc]))
      have e58 : ((l[i].toNat : Int) == (58 : Int)) = (l[i].toNat == 58) := by
        cases h : (l[i].toNat == 58) with
        | true => simp at h; simp [h]
        | false => simp at h; simp; omega
      rw [e58]
      refine cond_of (fun h5 => stop (by unfold okB; simp at h5; simp [hlt, hdt, h5])) (fun h5 => next (by unfold okB; simp at h5; simp [hc, h5]))
  exact key l.length 0 (by omega) rfl
end Go.Proofs.YtechilkjfhpkpaaGreatDoor.Lab

namespace Go.Proofs.YtechilkjfhpkpaaGreatDoor.Mem
open Go Vm Go.RowKit Num
abbrev Tg := Nat → Nat
def ext (ω : Tg) (n t : Nat) : Tg := fun k => if k < n then ω k else t
theorem ext_old {ω : Tg} {n t k : Nat} (h : k < n) : ext ω n t k = ω k := if_pos h
theorem ext_new {ω : Tg} {n t k : Nat} (h : n ≤ k) : ext ω n t k = t := if_neg (by omega)
structure Stp (T : Nat → Bool) (ω ω' : Tg) (w w' : World) : Prop where
  os : w'.os = w.os
  tape : w'.tape = w.tape
  output : w'.output = w.output
  size : w.heap.size ≤ w'.heap.size
  same : ∀ k, k < w.heap.size → ω' k = ω k
  block : ∀ k, k < w.heap.size → T (ω k) = false → w'.heap[k]? = w.heap[k]?
abbrev Non : Nat → Bool := fun _ => false
abbrev One (t : Nat) : Nat → Bool := fun u => Nat.beq u t
abbrev Duo (t s : Nat) : Nat → Bool := fun u => Nat.beq u t || Nat.beq u s
theorem beq_no {a b : Nat} (h : a ≠ b) : Nat.beq a b = false := beq_ff h
theorem one_self (t : Nat) : One t t = true := by simp [One]
variable {T T' : Nat → Bool} {ω ω' ω'' : Tg} {w w' w'' w0 : World}
theorem Stp.refl (T : Nat → Bool) (ω : Tg) (w : World) : Stp T ω ω w w := ⟨rfl, rfl, rfl, Nat.le_refl _, fun _ _ => rfl, fun _ _ _ => rfl⟩
theorem Stp.trans (h : Stp T ω ω' w w') (k : Stp T ω' ω'' w' w'') : Stp T ω ω'' w w'' :=
  ⟨k.os.trans h.os, k.tape.trans h.tape, k.output.trans h.output, Nat.le_trans h.size k.size, fun i hi => (k.same i (Nat.lt_of_lt_of_le hi h.size)).trans (h.same i hi), fun i hi hT =>
    (k.block i (Nat.lt_of_lt_of_le hi h.size) (by rw [h.same i hi]; exact hT)).trans (h.block i hi hT)⟩
theorem Stp.mono (h : Stp T ω ω' w w') (hT : ∀ u, T' u = false → T u = false) : Stp T' ω ω' w w' := ⟨h.os, h.tape, h.output, h.size, h.same, fun k hk hn => h.block k hk (hT _ hn)⟩
theorem Stp.non (h : Stp Non ω ω' w w') (T : Nat → Bool) : Stp T ω ω' w w' := h.mono fun _ _ => rfl
theorem Stp.one {t s : Nat} (h : Stp (One t) ω ω' w w') : Stp (Duo t s) ω ω' w w' := h.mono fun u hu => by simp only [Duo, Bool.or_eq_false_iff] at hu; exact hu.1
theorem Stp.two {t s : Nat} (h : Stp (One s) ω ω' w w') : Stp (Duo t s) ω ω' w w' := h.mono fun u hu => by simp only [Duo, Bool.or_eq_false_iff] at hu; exact hu.2
theorem Keep.stp (k : Keep w w') (ω : Tg) (t : Nat) : Stp Non ω (ext ω w.heap.size t) w w' := ⟨k.os, k.tape, k.output, k.size, fun _ hi => ext_old hi, fun i hi _ => k.block i hi⟩
theorem Keep.stp0 (k : Keep w w') (ω : Tg) : Stp Non ω ω w w' := ⟨k.os, k.tape, k.output, k.size, fun _ _ => rfl, fun i hi _ => k.block i hi⟩
theorem Stp.keep (h : Stp Non ω ω' w w') : Keep w w' := ⟨h.os, h.tape, h.output, h.size, fun k hk => h.block k hk rfl⟩
theorem Chg.stp {X : Nat → Prop} {t : Nat} (h : Chg X w w') (hX : ∀ k, X k → ω k = t) : Stp (One t) ω (ext ω w.heap.size t) w w' :=
  ⟨h.os, h.tape, h.output, h.size, fun _ hi => ext_old hi, fun k hk hT => h.block k hk fun hx => by rw [hX k hx, one_self] at hT; cases hT⟩
theorem drew_stp (ω : Tg) (w : World) : Stp Non ω ω w w.drew := (Keep.drew w).stp0 ω
structure Top (w0 : World) (ω : Tg) (w : World) : Prop where
  k : Keep w0 w
  z : ∀ k, k < w0.heap.size → ω k = 0
theorem Top.init (w : World) : Top w (fun _ => 0) w := ⟨Keep.refl w, fun _ _ => rfl⟩
theorem Top.stp (h : Top w0 ω w) (s : Stp T ω ω' w w') (h0 : T 0 = false := by rfl) : Top w0 ω' w' :=
  ⟨Below.trans h.k ⟨s.os, s.tape, s.output, s.size, fun i hi => s.block i (Nat.lt_of_lt_of_le hi h.k.size) (by rw [h.z i hi]; exact h0)⟩, fun i hi => (s.same i (Nat.lt_of_lt_of_le hi h.k.size)).trans (h.z i hi)⟩
structure BT (ω : Tg) (w : World) (t g : Nat) (e : TypeId) (cs : List Value) : Prop where
  blk : Blk w g e cs
  tag : ω g = t
variable {t u g : Nat} {e : TypeId} {cs : List Value}
theorem BT.stp (h : BT ω w t g e cs) (s : Stp T ω ω' w w') (ne : T t = false := by rfl) : BT ω' w' t g e cs :=
  ⟨by unfold Blk; rw [s.block g h.blk.lt (by rw [h.tag]; exact ne)]; exact h.blk, (s.same g h.blk.lt).trans h.tag⟩
theorem BT.cell (h : BT ω w t g e cs) (j : Nat) : w.cell? ⟨g, j, none⟩ = cs[j]? := h.blk.cell j
theorem BT.same (h : BT ω w t g e cs) (s : Stp T ω ω' w w') (ne : T t = false) (j n : Nat) : sameAt ⟨g, j, none⟩ n w w' := by
  have hb : w'.heap[g]? = w.heap[g]? := s.block g h.blk.lt (by rw [h.tag]; exact ne)
  refine ⟨World.cell?_of_block hb, fun i _ => World.cell?_of_block ?_⟩
  rw [add_block]; exact hb
theorem BT.sameT (h : BT ω w t g e cs) (s : Stp T ω ω' w w') {j n : Nat} (ne : T t = false := by rfl) : sameAt ⟨g, j, none⟩ n w w' := h.same s ne j n
theorem BT.sameA (h : BT ω w t g e cs) (s : Stp T ω ω' w w') {i j n : Nat} (ne : T t = false := by rfl) : sameAt (Addr.add ⟨g, i, none⟩ j) n w w' := by rw [addr_add]; exact h.same s ne _ n
theorem new_T (t : Nat) {o : Array Value} {K : Addr → World → Prop} (hK : ∀ g ω' w', Stp Non ω ω' w w' → BT ω' w' t g e o.toList → K ⟨g, 0, none⟩ w') : G.new (.cells o e) w K :=
  hK w.heap.size (ext ω w.heap.size t) _ ((Keep.alloc w _).stp ω t) ⟨Blk.new w e o, ext_new (Nat.le_refl _)⟩
theorem st_T {j : Nat} {v : Value} (h : BT ω w t g e cs) (hj : j < cs.length) {K : World → Prop} (hK : ∀ ω' w', Stp (One t) ω ω' w w' → BT ω' w' t g e (cs.set j v) → K w') : G.st ⟨g, j, none⟩ v w K := by
  refine st_at (by rw [h.cell, List.getElem?_eq_getElem hj]) (h.blk.frozen j) (hK (ext ω w.heap.size t) _ (Chg.stp (setCell_chg w g j v) fun k hk => by rw [hk]; exact h.tag) ⟨h.blk.set j v, ?_⟩)
  rw [ext_old h.blk.lt]; exact h.tag
theorem st_TA {i j : Nat} {v : Value} (h : BT ω w t g e cs) (hj : i + j < cs.length) {K : World → Prop} (hK : ∀ ω' w', Stp (One t) ω ω' w w' → BT ω' w' t g e (cs.set (i + j) v) → K w') : G.st (Addr.add ⟨g, i, none⟩ j) v w K := by
  rw [addr_add]; exact st_T h hj hK
structure OT (ω : Tg) (w : World) (t : Nat) (e : TypeId) (sz : Nat) (s : Sl) (xs : List Value) : Prop where
  own : Own w 0 e sz s xs
  tag : ∀ k, s.v.ownBlock = some k → ω k = t
variable {sz : Nat} {s : Sl} {xs : List Value}
theorem OT.lt (h : OT ω w t e sz s xs) {k : Nat} (hk : s.v.ownBlock = some k) : k < w.heap.size := (Own.geC h.own hk).2
theorem OT.nil (ω : Tg) (w : World) (t : Nat) (e : TypeId) (sz : Nat) : OT ω w t e sz nilS [] := ⟨Own.nil w 0 e sz, fun k hk => by simp [Value.ownBlock] at hk⟩
theorem OT.stp (h : OT ω w t e sz s xs) (k : Stp T ω ω' w w') (ne : T t = false := by rfl) : OT ω' w' t e sz s xs := by
  refine ⟨?_, fun g hg => (k.same g (h.lt hg)).trans (h.tag g hg)⟩
  obtain ⟨hl, ho⟩ := h.own
  refine ⟨hl, ?_⟩
  rcases ho with ho | ⟨g, cap, cur, hv, hg, hh, r⟩
  · exact .inl ho
  · have hb : s.v.ownBlock = some g := by rw [hv]; rfl
    refine .inr ⟨g, cap, cur, hv, hg, ?_, r⟩
    rw [k.block g (h.lt hb) (by rw [h.tag g hb]; exact ne)]; exact hh
theorem Own.tag {B : Nat} (h : Own w' B e sz s xs) (hB : w.heap.size ≤ B) (ω : Tg) (t : Nat) : OT (ext ω w.heap.size t) w' t e sz s xs :=
  ⟨Own.mono h (Nat.zero_le _), fun _ hk => ext_new (Nat.le_trans hB (Own.geC h hk).1)⟩
theorem OT.rd (h : OT ω w t e sz s xs) : Rd w s sz xs := Own.rd h.own
theorem OT.ix (h : OT ω w t e sz s xs) (_ : 0 < sz) {i : Int} (h0 : 0 ≤ i) (h1 : i < s.n) {K : Addr → Prop}
    (hK : ∀ a : Addr, a.block < w.heap.size → ω a.block = t → (∀ j v, j < sz → xs[i.toNat * sz + j]? = some v → w.cell? (a.add j) = some v) → K a) : G.ix s.a s.n i sz K := by
  rcases h.own.cases with ⟨rfl, rfl⟩ | ⟨g, cur, ha, hg, hb, hn, hm, hl, ht⟩
  · simp at h1; omega
  · rw [ha]
    have hbk : s.v.ownBlock = some g := by show (Value.slice s.a s.n s.c).ownBlock = _; rw [ha]; rfl
    refine ⟨⟨h0, h1⟩, hK _ (by rw [add_block]; exact hb.lt) (by rw [add_block]; exact h.tag g hbk) fun j v hj hv => ?_⟩
    rw [addr_add, addr_add, Nat.zero_add, hb.cell]
    rw [← ht, List.getElem?_take] at hv
    split at hv
    · exact hv
    · cases hv
theorem same_stp {a : Addr} {n : Nat} (s : Stp T ω ω' w w') (hb : a.block < w.heap.size) (hT : T (ω a.block) = false) : sameAt a n w w' :=
  ⟨World.cell?_of_block (s.block _ hb hT), fun i _ => World.cell?_of_block (s.block _ (by rw [add_block]; exact hb) (by rw [add_block]; exact hT))⟩
theorem app_T {P : Program} {ty tt : TypeId} {bytes : Nat} (ti : TI P tt e sz bytes) {x : Sl} {ys : List Value} (h : OT ω w t e sz s xs) (hx : Rd w x sz ys) (h1 : ∀ v ∈ ys, v.oneCell' = true) (hm : s.n + x.n ≤ maxLen) (hy : (s.n + x.n) * bytes ≤ 140737488355328)
    {K : Sl → World → Prop} (hK : ∀ r ω' w', Stp (One t) ω ω' w w' → OT ω' w' t e sz r (xs ++ ys) → r.n = s.n + x.n → K r w') : G.runSl P (Builtin.append_ #[tt, tt] ty #[s.v, x.v]) w K :=
  appC ti (Nat.zero_le _) h.own hx h1 hm hy fun r w' c o hn hf => hK r (ext ω w.heap.size t) w' (Chg.stp c h.tag) ⟨o, fun k hk => by
    rcases hf with hf | hf
    · rw [hf] at hk; rw [ext_old (h.lt hk)]; exact h.tag k hk
    · exact ext_new (hf k hk)⟩ hn
theorem push_T {P : Program} {ty tt : TypeId} {bytes n : Nat} (ti : TI P tt e sz bytes) {ds : Array Value} (h : OT ω w t e sz s xs) (hl : ds.size = n * sz) (h1 : ∀ v ∈ ds.toList, v.oneCell' = true) (hm : s.n + n ≤ maxLen) (hy : (s.n + n) * bytes ≤ 140737488355328)
    {K : Sl → World → Prop} (hK : ∀ r ω' w', Stp (One t) ω ω' w w' → OT ω' w' t e sz r (xs ++ ds.toList) → r.n = s.n + n → K r w') :
    G.new (.cells ds e) w fun p w1 => G.runSl P (Builtin.append_ #[tt, tt] ty #[s.v, (⟨some p, n, n⟩ : Sl).v]) w1 K :=
  pushC ti (Nat.zero_le _) h.own hl h1 hm hy fun r w' c o hn hf => hK r (ext ω w.heap.size t) w' (Chg.stp c h.tag) ⟨o, fun k hk => by
    rcases hf with hf | hf
    · rw [hf] at hk; rw [ext_old (h.lt hk)]; exact h.tag k hk
    · exact ext_new (hf k hk)⟩ hn
theorem OT.cases (h : OT ω w t e sz s xs) : (s = nilS ∧ xs = []) ∨ ∃ g cur, s.a = some ⟨g, 0, none⟩ ∧ BT ω w t g e cur ∧ s.n ≤ s.c ∧ s.c ≤ maxLen ∧ cur.length = s.c * sz ∧ cur.take (s.n * sz) = xs := by
  rcases h.own.cases with h' | ⟨g, cur, ha, hg, hb, hn, hm, hl, ht⟩
  · exact .inl h'
  · exact .inr ⟨g, cur, ha, ⟨hb, h.tag g (by show (Value.slice s.a s.n s.c).ownBlock = _; rw [ha]; rfl)⟩, hn, hm, hl, ht⟩
theorem OT.st (h : OT ω w t e sz s xs) {i j : Nat} (hi : i < s.n) (hj : j < sz) (v : Value) {a : Addr} (ha : s.a.map (fun a => a.add (i * sz)) = some a) {K : World → Prop}
    (hK : ∀ ω' w', Stp (One t) ω ω' w w' → OT ω' w' t e sz s (xs.set (i * sz + j) v) → K w') : G.st (a.add j) v w K := by
  rcases h.cases with ⟨rfl, rfl⟩ | ⟨g, cur, ha', hb, hn, hm, hl, ht⟩
  · exact absurd hi (Nat.not_lt_zero _)
  · rw [ha'] at ha
    simp only [Option.map_some, Option.some.injEq] at ha
    subst ha
    have hlt : i * sz + j < cur.length := by
      rw [hl]
      have : (i + 1) * sz ≤ s.c * sz := Nat.mul_le_mul_right _ (by omega)
      rw [Nat.add_mul] at this; omega
    rw [addr_add, Nat.zero_add]
    refine st_TA hb hlt fun ω' w' k b => hK ω' w' k ⟨?_, fun k' hk' => ?_⟩
    · have hs : s = ⟨some ⟨g, 0, none⟩, s.n, s.c⟩ := by rw [← ha']
      rw [hs]
      refine Own.mk' (Nat.zero_le _) b.blk hn hm (by rw [List.length_set]; exact hl) ?_
      rw [← ht, List.take_set]
    · exact (k.same k' (h.lt hk')).trans (h.tag k' hk')
theorem OT.at_ (h : OT ω w t e sz s xs) {i : Int} {k : Nat} (ei : i = k) (hi : k < s.n) {K : Addr → Prop} (hK : ∀ a : Addr, s.a.map (fun a => a.add (k * sz)) = some a → a.block < w.heap.size → ω a.block = t → (∀ j v, j < sz → xs[k * sz + j]? = some v → w.cell? (a.add j) = some v) → K a) : G.ix s.a s.n i sz K := by
  subst ei
  rcases h.cases with ⟨rfl, rfl⟩ | ⟨g, cur, ha, hb, hn, hm, hl, ht⟩
  · exact absurd hi (Nat.not_lt_zero _)
  · rw [ha]
    refine ⟨⟨by omega, by omega⟩, ?_⟩
    rw [Int.toNat_natCast]
    refine hK _ (by rw [ha]; rfl) (by rw [add_block]; exact hb.blk.lt) (by rw [add_block]; exact hb.tag) fun j v hj hv => ?_
    rw [addr_add, addr_add, Nat.zero_add, hb.cell]
    rw [← ht, List.getElem?_take] at hv
    split at hv
    · exact hv
    · cases hv
theorem cB_at {a : Addr} {b : Bool} (h : w.cell? a = some (.bool b)) {K : Bool → Prop} (hK : K b) : G.cB a w K := ⟨b, h, hK⟩
theorem cF_at {k : FloatKind} {a : Addr} {b : Nat} (h : w.cell? a = some (.float k b)) {K : Nat → Prop} (hK : K b) : G.cF k a w K := ⟨b, h, hK⟩
theorem cS_at {a : Addr} {b : ByteArray} (h : w.cell? a = some (.string b)) {K : ByteArray → Prop} (hK : K b) : G.cS a w K := ⟨b, h, hK⟩
theorem cV_at {a : Addr} {b : Value} (h : w.cell? a = some b) {K : Value → Prop} (hK : K b) : G.cV a w K := ⟨b, h, hK⟩
end Go.Proofs.YtechilkjfhpkpaaGreatDoor.Mem

namespace Go.Proofs.YtechilkjfhpkpaaGreatDoor.Lab
open Go Vm Num Mem Utf Lib
variable {ω ω' : Tg} {w w' w0 : World}
abbrev Lb := ByteArray × ByteArray
def labC (x : Lb) : List Value := [.string x.1, .string x.2]
def labs (l : List Lb) : List Value := l.flatMap labC
theorem labs_app (a b : List Lb) : labs (a ++ b) = labs a ++ labs b := List.flatMap_append
theorem labs_len (l : List Lb) : (labs l).length = l.length * 2 := by
  induction l with
  | nil => rfl
  | cons s l ih => simp only [labs, List.flatMap_cons, List.length_append, List.length_cons] at *; simp [labC] at *; omega
theorem labs_at : ∀ (l : List Lb) (i : Nat) (s : Lb), l[i]? = some s → (labs l)[i * 2 + 0]? = some (.string s.1) ∧ (labs l)[i * 2 + 1]? = some (.string s.2)
  | [], i, s, h => by simp at h
  | x :: l, 0, s, h => by
    simp only [List.getElem?_cons_zero, Option.some.injEq] at h
    subst h
    exact ⟨rfl, rfl⟩
  | x :: l, i + 1, s, h => by
    have ih := labs_at l i s (by simpa using h)
    have e : labs (x :: l) = .string x.1 :: .string x.2 :: labs l := rfl
    rw [e, show (i + 1) * 2 + 0 = (i * 2 + 0) + 1 + 1 by omega, show (i + 1) * 2 + 1 = (i * 2 + 1) + 1 + 1 by omega]
    simpa using ih
theorem rdL_at {s : Sl} {m : List Lb} (h : Rd w s 2 (labs m)) {i : Int} {k : Nat} {x : Lb} (ei : i = (k : Int)) (hx : m[k]? = some x) {K : Addr → Prop}
    (hK : ∀ a : Addr, w.cell? a = some (.string x.1) → w.cell? (a.add 1) = some (.string x.2) → K a) : G.ix s.a s.n i 2 K := by
  have hk : k < m.length := (List.getElem?_eq_some_iff.1 hx).1
  have hn : s.n = m.length := by have := h.2.1; rw [labs_len] at this; omega
  subst ei
  obtain ⟨e0, e1⟩ := labs_at m k x hx
  refine Rd.ix h (by decide) (by omega) (by omega) fun a hc => hK a ?_ ?_
  · have := hc 0 _ (by decide) (by rw [Int.toNat_natCast]; exact e0)
    rwa [show a.add 0 = a by simp [Addr.add]] at this
  · exact hc 1 _ (by decide) (by rw [Int.toNat_natCast]; exact e1)
def valE (l : List UInt8) : Int := if l = [] then 41 else if l.length > 256 then 4 else if validD l = true then 0 else 12
theorem value_ok {s : ByteArray} (ht : UTab w0) {K : Int → World → Prop} (hK : ∀ w', Keep w0 w' → K (valE (Utf.bytes s)) w') : C.labels_value s w0 K := by
  have hsz := size_eq s
  have hl : (Utf.bytes s).length = s.size := hsz.symm
  have etl : s.toList = Utf.bytes s := ByteArray.toList_eq s
  have e0 : (⟨#[]⟩ : ByteArray).toList = [] := by rw [ByteArray.toList_eq]
  unfold C.labels_value
  unfold valE at hK
  rw [etl, e0]
  refine cond_of (fun h => ?_) (fun h => ?_)
  · rw [if_pos (by simpa using h)] at hK; exact hK w0 (Keep.refl w0)
  rw [if_neg (by intro e; rw [e] at h; simp at h)] at hK
  refine cond_d (fun h => ?_) (fun h => ?_)
  · rw [if_pos (by omega)] at hK; exact hK w0 (Keep.refl w0)
  rw [if_neg (by omega)] at hK
  refine valid_ok ht (by omega) fun w1 k1 => ?_
  refine cond_of (fun h => ?_) (fun h => ?_)
  · rw [if_neg (by simpa using h)] at hK; exact hK w1 k1
  · rw [if_pos (by simpa using h)] at hK; exact hK w1 k1
def backB (p : Option ByteArray) (x : ByteArray) : Bool := match p with | some q => (Op.bytesLess x.toList q.toList) || (x.toList == q.toList) | none => false
def rtGo : Option ByteArray → List Lb → Nat → Int × Nat
  | _, [], _ => (0, 0)
  | p, x :: r, i => if namedB (Utf.bytes x.1) 64 false = false then (40, i) else if valE (Utf.bytes x.2) ≠ 0 then (valE (Utf.bytes x.2), i) else if backB p x.1 = true then (3, i) else rtGo (some x.1) r (i + 1)
def rt (l : List Lb) : Int × Nat := if l.length > 16 then (8, 0) else rtGo none l 0
theorem right_ok {s : Sl} {m : List Lb} (ht : UTab w0) (hs : Rd w0 s 2 (labs m)) {K : Int → Int → World → Prop} (hK : ∀ w', Keep w0 w' → K (rt m).1 ((rt m).2 : Int) w') : C.labels_Right s w0 K := by
  have hsn : s.n = m.length := by have := hs.2.1; rw [labs_len] at this; omega
  unfold C.labels_Right
  unfold rt at hK
  refine cond_d (fun h => ?_) (fun h => ?_)
  · rw [if_pos (by omega)] at hK; exact hK w0 (Keep.refl w0)
  rw [if_neg (by omega)] at hK
  unfold C.labels_Right.S9
  refine C.labels_Right.L5_ind fun X hX => ?_
  have key : ∀ (d i : Nat) (w : World), i + d = m.length → Keep w0 w → rtGo (if i = 0 then none else (m[i - 1]?).map (·.1)) (m.drop i) i = rtGo none m 0 → X s s ((s.n : Nat) : Int) (i : Int) w := by
    intro d
    induction d with
    | zero =>
      intro i w hi k e
      refine hX _ _ _ _ _ ?_
      unfold C.labels_Right.S7 C.labels_Right.S2
      refine cond_d (fun h => by omega) (fun _ => ?_)
      rw [List.drop_of_length_le (by omega)] at e
      have := hK w k
      rwa [← e] at this
    | succ d ih =>
      intro i w hi k e
      have him : i < m.length := by omega
      refine hX _ _ _ _ _ ?_
      unfold C.labels_Right.S7
      refine cond_d (fun _ => ?_) (fun h => by omega)
      have hx : m[i]? = some m[i] := List.getElem?_eq_getElem him
      refine rdL_at (hs.keep k) (k := i) rfl hx fun a hc0 hc1 => cS_at hc0 <| cS_at hc1 ?_
      refine new_T (ω := fun _ => 0) 7 fun g ω2 w2 k2 b2 => ?_
      refine st_T b2 (by simp) fun ω3 w3 k3 b3 => ?_
      refine st_TA b3 (by simp) fun ω4 w4 k4 b4 => ?_
      have k04 := Keep.trans k ((Top.init w).stp ((k2.non (Mem.One 7)).trans (k3.trans k4))).k
      rw [List.drop_eq_getElem_cons him, rtGo] at e
      have out : ∀ (c : Int) w', (c, i) = rtGo none m 0 → Keep w0 w' → K c (i : Int) w' := fun c w' ec kk => by
        have := hK w' kk
        rwa [← ec] at this
      refine cS_at (b := m[i].1) (by rw [b4.cell]; rfl) ?_
      unfold C.labels_Name
      refine named_ok (most := 64) rfl (by decide) fun w5 k5 => ?_
      have k05 := Keep.trans k04 k5
      have b5 := b4.stp (k5.stp0 ω4)
      refine cond_of (fun hn => ?_) (fun hn => ?_)
      · rw [if_pos (by simpa using hn)] at e; exact out 40 w5 e k05
      rw [if_neg (by simpa using hn)] at e
      refine cS_at (b := m[i].2) (by rw [addr_add, b5.cell]; rfl) ?_
      refine value_ok (ht.keep k05) fun w6 k6 => ?_
      have k06 := Keep.trans k05 k6
      have b6 := b5.stp (k6.stp0 ω4)
      refine cond_ne (fun hv => ?_) (fun hv => ?_)
      · rw [if_pos hv] at e; exact out _ w6 e k06
      rw [if_neg (by simpa using hv)] at e
      have k07 := Keep.trans k06 (Keep.drew w6)
      have next : backB (if i = 0 then none else (m[i - 1]?).map (·.1)) m[i].1 = false → ∀ w', Keep w0 w' → X s s ((s.n : Nat) : Int) (IntKind.i64.wrap ((i : Int) + 1)) w' := fun hb w' kk => by
        rw [hb, if_neg (by decide)] at e
        rw [wI64 (by omega) (by omega), show (i : Int) + 1 = ((i + 1 : Nat) : Int) by omega]
        refine ih (i + 1) w' (by omega) kk ?_
        rw [if_neg (by omega), Nat.add_sub_cancel, hx]; exact e
      refine cond_d (fun hi0 => ?_) (fun hi0 => next ?_ _ k07)
      · have hy : m[i - 1]? = some m[i - 1] := List.getElem?_eq_getElem (by omega)
        refine cS_at (b := m[i].1) (by rw [(b6.stp (drew_stp ω4 w6)).cell]; rfl) ?_
        refine rdL_at (hs.keep k07) (k := i - 1) (by rw [wI64 (by omega) (by omega)]; omega) hy fun p hp0 _ => cS_at hp0 ?_
        have eb : backB (if i = 0 then none else (m[i - 1]?).map (·.1)) m[i].1 = ((Op.bytesLess m[i].1.toList m[i - 1].1.toList) || (m[i].1.toList == m[i - 1].1.toList)) := by
          rw [if_neg (by omega), hy]; rfl
        refine cond_of (fun hb => ?_) (fun hb => next (by rw [eb]; exact hb) _ k07)
        rw [eb, hb, if_pos rfl] at e
        exact out 3 _ e k07
      · rw [if_pos (by omega)]; rfl
  exact key m.length 0 w0 (by omega) (Keep.refl w0) rfl
end Go.Proofs.YtechilkjfhpkpaaGreatDoor.Lab

namespace Go.Proofs.YtechilkjfhpkpaaGreatDoor.Lab
open Go Vm Go.RowKit Num Mem Utf Lib
variable {ω ω' : Tg} {w w' w0 : World}
structure Cmp {α : Type} (c : α → α → Int) : Prop where
  vals : ∀ x y, c x y = -1 ∨ c x y = 0 ∨ c x y = 1
  eq : ∀ x y, c x y = 0 ↔ x = y
  anti : ∀ x y, c y x = - c x y
  trans : ∀ x y z, c x y < 0 → c y z < 0 → c x z < 0
def lexL {α : Type} (c : α → α → Int) : List α → List α → Int
  | [], [] => 0
  | [], _ :: _ => -1
  | _ :: _, [] => 1
  | a :: xs, b :: bs => if c a b ≠ 0 then c a b else lexL c xs bs
def pairC {α β : Type} (c : α → α → Int) (d : β → β → Int) (x y : α × β) : Int := if c x.1 y.1 ≠ 0 then c x.1 y.1 else d x.2 y.2
section
variable {α β : Type} {c : α → α → Int} {d : β → β → Int}
theorem Cmp.self (h : Cmp c) (x : α) : c x x = 0 := (h.eq x x).2 rfl
theorem Cmp.lex (h : Cmp c) : Cmp (lexL c) := by
  refine ⟨?_, ?_, ?_, ?_⟩
  · intro x
    induction x with
    | nil => intro y; cases y <;> simp [lexL]
    | cons a xs ih =>
      intro y
      cases y with
      | nil => simp [lexL]
      | cons b bs =>
        unfold lexL
        split
        · exact h.vals a b
        · exact ih bs
  · intro x
    induction x with
    | nil => intro y; cases y <;> simp [lexL]
    | cons a xs ih =>
      intro y
      cases y with
      | nil => simp [lexL]
      | cons b bs =>
        unfold lexL
        split
        · rename_i h0
          constructor
          · intro e; exact absurd e h0
          · intro e; cases e; exact absurd (h.self a) h0
        · rename_i h0
          have h0 : c a b = 0 := by simpa using h0
          have e := (h.eq a b).1 h0
          subst e
          rw [ih bs]; simp
  · intro x
    induction x with
    | nil => intro y; cases y <;> simp [lexL]
    | cons a xs ih =>
      intro y
      cases y with
      | nil => simp [lexL]
      | cons b bs =>
        unfold lexL
        rw [h.anti a b, ih bs]
        split <;> split <;> omega
  · intro x
    induction x with
    | nil => intro y z h1 h2; cases y with
      | nil => simp [lexL] at h1
      | cons b bs => cases z with
        | nil => simp [lexL] at h2
        | cons d ds => simp [lexL]
    | cons a xs ih => intro y z h1 h2; cases y with
      | nil => simp [lexL] at h1
      | cons b bs => cases z with
        | nil => simp [lexL] at h2
        | cons d ds =>
          unfold lexL at h1 h2 ⊢
          by_cases e1 : c a b = 0
          · have := (h.eq a b).1 e1
            subst this
            rw [if_neg (by simpa using e1)] at h1
            by_cases e2 : c a d = 0
            · rw [if_neg (by simpa using e2)] at h2 ⊢
              exact ih bs ds h1 h2
            · rw [if_pos e2] at h2 ⊢; exact h2
          · rw [if_pos e1] at h1
            by_cases e2 : c b d = 0
            · have := (h.eq b d).1 e2
              subst this
              rw [if_pos e1]; exact h1
            · rw [if_pos e2] at h2
              have := h.trans a b d h1 h2
              rw [if_pos (by omega)]; exact this
theorem Cmp.pair (h : Cmp c) (k : Cmp d) : Cmp (pairC c d) := by
  refine ⟨?_, ?_, ?_, ?_⟩
  · intro x y
    unfold pairC
    split
    · exact h.vals _ _
    · exact k.vals _ _
  · rintro ⟨x1, x2⟩ ⟨y1, y2⟩
    unfold pairC
    dsimp only
    by_cases e1 : c x1 y1 = 0
    · have := (h.eq x1 y1).1 e1
      subst this
      rw [if_neg (by simpa using e1), k.eq]; simp
    · rw [if_pos e1]
      constructor
      · intro e; exact absurd e e1
      · intro e; cases e; exact absurd (h.self x1) e1
  · intro x y
    unfold pairC
    rw [h.anti x.1 y.1, k.anti x.2 y.2]
    split <;> split <;> omega
  · rintro ⟨x1, x2⟩ ⟨y1, y2⟩ ⟨z1, z2⟩ h1 h2
    unfold pairC at h1 h2 ⊢
    dsimp only at h1 h2 ⊢
    by_cases e1 : c x1 y1 = 0
    · have := (h.eq _ _).1 e1
      subst this
      rw [if_neg (by simpa using e1)] at h1
      by_cases e2 : c x1 z1 = 0
      · rw [if_neg (by simpa using e2)] at h2 ⊢
        exact k.trans _ _ _ h1 h2
      · rw [if_pos e2] at h2 ⊢; exact h2
    · rw [if_pos e1] at h1
      by_cases e2 : c y1 z1 = 0
      · have := (h.eq _ _).1 e2
        subst this
        rw [if_pos e1]; exact h1
      · rw [if_pos e2] at h2
        have := h.trans _ _ _ h1 h2
        rw [if_pos (by omega)]; exact this
end
def cU (a b : UInt8) : Int := if a < b then -1 else if b < a then 1 else 0
theorem cU_cmp : Cmp cU := by
  refine ⟨fun x y => ?_, fun x y => ?_, fun x y => ?_, fun x y z h1 h2 => ?_⟩
  · unfold cU; split; · simp
    split <;> simp
  · unfold cU
    simp only [UInt8.lt_iff_toNat_lt, ← UInt8.toNat_inj]
    split
    · simp; omega
    · split
      · simp; omega
      · simp; omega
  · unfold cU
    simp only [UInt8.lt_iff_toNat_lt]
    split <;> split <;> first | omega | (split <;> omega) | rfl
  · unfold cU at *
    simp only [UInt8.lt_iff_toNat_lt] at *
    split at h1
    · split at h2
      · rw [if_pos (by omega)]; omega
      · split at h2 <;> omega
    · split at h1 <;> omega
theorem cb_lex : ∀ a b : List UInt8, compareBytes a b = lexL cU a b
  | [], [] => rfl
  | [], _ :: _ => rfl
  | _ :: _, [] => rfl
  | a :: xs, b :: bs => by
    unfold compareBytes lexL cU
    rw [cb_lex xs bs]
    split
    · rfl
    · split
      · rfl
      · rfl
def cB (a b : ByteArray) : Int := compareBytes a.data.toList b.data.toList
theorem cB_cmp : Cmp cB := by
  have h := cU_cmp.lex
  refine ⟨fun x y => ?_, fun x y => ?_, fun x y => ?_, fun x y z h1 h2 => ?_⟩
  · unfold cB; rw [cb_lex]; exact h.vals _ _
  · unfold cB; rw [cb_lex, h.eq]
    constructor
    · intro e
      have := Array.toList_inj.1 e
      cases x; cases y; simp at this; rw [this]
    · rintro rfl; rfl
  · unfold cB; rw [cb_lex, cb_lex]; exact h.anti _ _
  · unfold cB at *; rw [cb_lex] at *; exact h.trans _ _ _ h1 h2
def cL : Lb → Lb → Int := pairC cB cB
def cmpL : List Lb → List Lb → Int := lexL cL
theorem cL_cmp : Cmp cL := cB_cmp.pair cB_cmp
theorem cmpL_cmp : Cmp cmpL := cL_cmp.lex
theorem less_cb : ∀ a b : List UInt8, Op.bytesLess a b = decide (compareBytes a b = -1)
  | [], [] => by simp [Op.bytesLess, compareBytes]
  | [], _ :: _ => by simp [Op.bytesLess, compareBytes]
  | _ :: _, [] => by simp [Op.bytesLess, compareBytes]
  | a :: xs, b :: bs => by
    unfold Op.bytesLess compareBytes
    rw [less_cb xs bs]
    simp only [UInt8.lt_iff_toNat_lt]
    by_cases h1 : a.toNat < b.toNat
    · simp [h1]
    · by_cases h2 : b.toNat < a.toNat
      · have : ¬ a = b := fun e => by subst e; omega
        simp [h1, h2, this]
      · have : a = b := UInt8.toNat_inj.1 (by omega)
        subst this
        simp
theorem lessB (a b : ByteArray) : Op.bytesLess a.toList b.toList = decide (cB a b = -1) := by
  rw [ByteArray.toList_eq, ByteArray.toList_eq, less_cb]; rfl
theorem eqB (a b : ByteArray) : (a.toList == b.toList) = decide (cB a b = 0) := by
  rw [ByteArray.toList_eq, ByteArray.toList_eq]
  by_cases h : a = b
  · subst h; simp [cB_cmp.self]
  · rw [decide_eq_false (fun e => h ((cB_cmp.eq a b).1 e)), beq_eq_false_iff_ne]
    intro e
    refine h ?_
    cases a; cases b
    simpa using e
def KD (w w' : World) : Prop := Keep w w' ∧ w'.drawn = w.drawn
theorem KD.refl (w : World) : KD w w := ⟨Keep.refl w, rfl⟩
theorem KD.trans {a b c : World} (h : KD a b) (k : KD b c) : KD a c := ⟨Keep.trans h.1 k.1, k.2.trans h.2⟩
theorem newD {e : TypeId} {o : Array Value} {Z : Addr → World → Prop} (hK : ∀ g w', KD w w' → w.heap.size ≤ g → Blk w' g e o.toList → Z ⟨g, 0, none⟩ w') : G.new (.cells o e) w Z :=
  new_at (hK _ _ ⟨Keep.alloc _ _, rfl⟩ (Nat.le_refl _) (Blk.new w e o))
theorem stD {g j : Nat} {e : TypeId} {cs : List Value} {w1 : World} (hg : w.heap.size ≤ g) (k : KD w w1) (hb : Blk w1 g e cs) {v : Value} (hj : j < cs.length) {Z : World → Prop} (hK : ∀ w', KD w w' → Blk w' g e (cs.set j v) → Z w') : G.st ⟨g, j, none⟩ v w1 Z := by
  refine st_at (by rw [hb.cell, List.getElem?_eq_getElem hj]) (hb.frozen j) (hK _ ⟨⟨k.1.os, k.1.tape, k.1.output, ?_, fun i hi => ?_⟩, k.2⟩ (hb.set j v))
  · have := k.1.size; simpa [World.setCell] using this
  · rw [Below.heap_setCell _ _ _ _ (show i ≠ g by omega)]; exact k.1.block i hi
theorem stDA {g i j : Nat} {e : TypeId} {cs : List Value} {w1 : World} (hg : w.heap.size ≤ g) (k : KD w w1) (hb : Blk w1 g e cs) {v : Value} (hj : i + j < cs.length) {Z : World → Prop} (hK : ∀ w', KD w w' → Blk w' g e (cs.set (i + j) v) → Z w') : G.st (Addr.add ⟨g, i, none⟩ j) v w1 Z := by
  rw [addr_add]; exact stD hg k hb hj hK
theorem scmp_ok {a b : ByteArray} {K : Int → World → Prop} (hK : K (cB a b) w) : C.strings_Compare a b w K := hK
theorem cmp1_ok {x y : Lb} {K : Int → World → Prop} (hK : ∀ w', KD w w' → K (cL x y) w') : C.labels_Compare_1 x.1 x.2 y.1 y.2 w K := by
  unfold C.labels_Compare_1
  refine newD fun g w1 k1 _ b1 => newD fun g2 w2 k2 _ b2 => ?_
  have k12 := k1.trans k2
  have b12 := b1.keep k2.1
  refine cS_at (b := x.1) (by rw [b12.cell]; rfl) <| cS_at (b := y.1) (by rw [b2.cell]; rfl) <| scmp_ok ?_
  have := hK w2 k12
  unfold cL pairC at this
  refine cond_ne (fun h => ?_) (fun h => ?_)
  · rw [if_pos h] at this; exact this
  · rw [if_neg (by simpa using h)] at this
    exact cS_at (b := x.2) (by rw [addr_add, b12.cell]; rfl) <| cS_at (b := y.2) (by rw [addr_add, b2.cell]; rfl) <| scmp_ok this
theorem rdL_n {s : Sl} {m : List Lb} (h : Rd w s 2 (labs m)) : s.n = m.length := by have := h.2.1; rw [labs_len] at this; omega
theorem lexL_nil_l {α : Type} {c : α → α → Int} (y : List α) : lexL c [] y = if y.length = 0 then 0 else -1 := by cases y <;> rfl
theorem compare_ok {a b : Sl} {x y : List Lb} (ha : Rd w0 a 2 (labs x)) (hb : Rd w0 b 2 (labs y)) (hx : x.length ≤ 9000000000000000000) {K : Int → World → Prop} (hK : ∀ w', KD w0 w' → K (cmpL x y) w') : C.labels_Compare a b w0 K := by
  have han := rdL_n ha
  have hbn := rdL_n hb
  unfold C.labels_Compare C.slices_CompareFunc_Label_Label_Label_Label C.slices_CompareFunc_Label_Label_Label_Label.S9
  refine C.slices_CompareFunc_Label_Label_Label_Label.L5_ind fun X hX => ?_
  have key : ∀ (d i : Nat) (w : World), i + d = x.length → i ≤ y.length → KD w0 w → (∀ w', KD w0 w' → K (lexL cL (x.drop i) (y.drop i)) w') → X a b (.func (.func 82) #[] #[]) a ((a.n : Nat) : Int) (i : Int) w := by
    intro d
    induction d with
    | zero =>
      intro i w hi hy k hK
      refine hX _ _ _ _ _ _ _ ?_
      unfold C.slices_CompareFunc_Label_Label_Label_Label.S7 C.slices_CompareFunc_Label_Label_Label_Label.S2
      have := hK w k
      rw [List.drop_of_length_le (by omega), lexL_nil_l, List.length_drop] at this
      refine cond_d (fun h => by omega) (fun _ => cond_d (fun h => ?_) (fun h => ?_))
      · rw [if_neg (by omega)] at this; exact this
      · rw [if_pos (by omega)] at this; exact this
    | succ d ih =>
      intro i w hi hy k hK
      refine hX _ _ _ _ _ _ _ ?_
      unfold C.slices_CompareFunc_Label_Label_Label_Label.S7
      have hxi : x[i]? = some x[i] := List.getElem?_eq_getElem (by omega)
      refine cond_d (fun _ => ?_) (fun h => by omega)
      refine rdL_at (ha.keep k.1) (k := i) rfl hxi fun p p0 p1 => cS_at p0 <| cS_at p1 ?_
      refine newD fun g1 w1 k1 hg1 b1 => stD hg1 k1 b1 (by simp) fun w2 k2 b2 => stDA hg1 k2 b2 (by simp) fun w3 k3 b3 => ?_
      refine cond_d (fun h => ?_) (fun h => ?_)
      · have := hK w3 (k.trans k3)
        rw [List.drop_eq_getElem_cons (by omega), List.drop_of_length_le (l := y) (by omega)] at this
        exact this
      have hyi : y[i]? = some y[i] := List.getElem?_eq_getElem (by omega)
      have k03 := k.trans k3
      refine rdL_at (hb.keep k03.1) (k := i) rfl hyi fun q q0 q1 => cS_at q0 <| cS_at q1 ?_
      refine newD fun g4 w4 k4 hg4 b4 => stD hg4 k4 b4 (by simp) fun w5 k5 b5 => stDA hg4 k5 b5 (by simp) fun w6 k6 b6 => ?_
      have b36 := b3.keep k6.1
      have k06 := k03.trans k6
      refine cS_at (b := x[i].1) (by rw [b36.cell]; rfl) <| cS_at (b := x[i].2) (by rw [addr_add, b36.cell]; rfl) <| cS_at (b := y[i].1) (by rw [b6.cell]; rfl) <| cS_at (b := y[i].2) (by rw [addr_add, b6.cell]; rfl) ?_
      show C.labels_Compare_1 x[i].1 x[i].2 y[i].1 y[i].2 w6 _
      refine cmp1_ok fun w7 k7 => ?_
      have k07 := k06.trans k7
      rw [List.drop_eq_getElem_cons (by omega), List.drop_eq_getElem_cons (l := y) (by omega)] at hK
      unfold lexL at hK
      refine show G.cond _ _ _ from cond_ne (fun h => ?_) (fun h => ?_)
      · have := hK w7 k07
        rw [if_pos h] at this; exact this
      · rw [if_neg (by simpa using h)] at hK
        rw [wI64 (by omega) (by omega), show (i : Int) + 1 = ((i + 1 : Nat) : Int) by omega]
        exact ih (i + 1) w7 (by omega) (by omega) k07 hK
  exact key x.length 0 w0 (by omega) (by omega) (KD.refl w0) hK
theorem rside_ok {a b : ByteArray} {K : Int → World → Prop} (hK : K (cB a b) w) : C.tocsinref04_side a b w K := by
  unfold C.tocsinref04_side
  rw [lessB, eqB]
  refine cond_d (fun h => by rw [h] at hK; exact hK) (fun h => ?_)
  rw [decide_eq_false h, Bool.false_or]
  rcases cB_cmp.vals a b with e | e | e
  · exact absurd e h
  · rw [e] at hK ⊢
    exact cond_f rfl hK
  · rw [e] at hK ⊢
    exact cond_t rfl hK
theorem rcmp_ok {a b : Sl} {x y : List Lb} (ha : Rd w0 a 2 (labs x)) (hb : Rd w0 b 2 (labs y)) (hx : x.length ≤ 9000000000000000000) {K : Int → World → Prop} (hK : ∀ w', Keep w0 w' → K (cmpL x y) w') : C.tocsinref04_Compare a b w0 K := by
  have han := rdL_n ha
  have hbn := rdL_n hb
  unfold C.tocsinref04_Compare C.tocsinref04_Compare.S9
  refine C.tocsinref04_Compare.L5_ind fun X hX => ?_
  have key : ∀ (d i : Nat) (w : World), i + d = x.length → i ≤ y.length → Keep w0 w → (∀ w', Keep w0 w' → K (lexL cL (x.drop i) (y.drop i)) w') → X a b (i : Int) w := by
    intro d
    induction d with
    | zero =>
      intro i w hi hy k hK
      refine hX _ _ _ _ ?_
      unfold C.tocsinref04_Compare.S7 C.tocsinref04_Compare.S2
      have := hK w k
      rw [List.drop_of_length_le (by omega), lexL_nil_l, List.length_drop] at this
      refine cond_d (fun h => by omega) (fun _ => cond_d (fun h => ?_) (fun h => cond_d (fun h2 => by omega) fun h2 => ?_))
      · rw [if_neg (by omega)] at this; exact this
      · rw [if_pos (by omega)] at this; exact this
    | succ d ih =>
      intro i w hi hy k hK
      refine hX _ _ _ _ ?_
      unfold C.tocsinref04_Compare.S7 C.tocsinref04_Compare.S2
      have hxi : x[i]? = some x[i] := List.getElem?_eq_getElem (by omega)
      refine cond_d (fun _ => ?_) (fun h => by omega)
      refine cond_d (fun h => ?_) (fun h => ?_)
      · have hyi : y[i]? = some y[i] := List.getElem?_eq_getElem (by omega)
        have kd := Keep.trans k (Keep.drew w)
        rw [List.drop_eq_getElem_cons (by omega), List.drop_eq_getElem_cons (l := y) (by omega)] at hK
        unfold lexL at hK
        have hc : cL x[i] y[i] = if cB x[i].1 y[i].1 ≠ 0 then cB x[i].1 y[i].1 else cB x[i].2 y[i].2 := rfl
        refine rdL_at (ha.keep kd) (k := i) rfl hxi fun p p0 p1 => cS_at p0 <| rdL_at (hb.keep kd) (k := i) rfl hyi fun q q0 q1 => cS_at q0 ?_
        refine rside_ok <| cond_ne (fun h0 => ?_) (fun h0 => ?_)
        · have := hK _ kd
          have hc1 : cL x[i] y[i] = cB x[i].1 y[i].1 := by rw [hc, if_pos h0]
          rw [hc1, if_pos h0] at this; exact this
        have kd2 := Keep.trans kd (Keep.drew _)
        have hc2 : cL x[i] y[i] = cB x[i].2 y[i].2 := by rw [hc, if_neg (by simpa using h0)]
        rw [hc2] at hK
        refine rdL_at (ha.keep kd2) (k := i) rfl hxi fun p p0 p1 => cS_at p1 <| rdL_at (hb.keep kd2) (k := i) rfl hyi fun q q0 q1 => cS_at q1 ?_
        refine rside_ok <| cond_ne (fun h1 => ?_) (fun h1 => ?_)
        · have := hK _ kd2
          rw [if_pos h1] at this; exact this
        rw [if_neg (by simpa using h1)] at hK
        rw [wI64 (by omega) (by omega), show (i : Int) + 1 = ((i + 1 : Nat) : Int) by omega]
        exact ih (i + 1) _ (by omega) (by omega) kd2 hK
      · have := hK w k
        rw [List.drop_eq_getElem_cons (by omega), List.drop_of_length_le (l := y) (by omega)] at this
        exact cond_d (fun h => by omega) (fun h => cond_d (fun h2 => this) (fun h2 => by omega))
  exact key x.length 0 w0 (by omega) (by omega) (Keep.refl w0) hK
theorem rsame_ok {a b : Sl} {x y : List Lb} (ha : Rd w0 a 2 (labs x)) (hb : Rd w0 b 2 (labs y)) (hx : x.length ≤ 9000000000000000000) {K : Bool → World → Prop} (hK : ∀ w', Keep w0 w' → K (decide (x = y)) w') : C.tocsinref04_Same a b w0 K := by
  unfold C.tocsinref04_Same
  refine rcmp_ok ha hb hx fun w' k => ?_
  have e : (cmpL x y == 0) = decide (x = y) := by
    by_cases h : x = y
    · rw [decide_eq_true h, beq_iff_eq]; exact (cmpL_cmp.eq x y).2 h
    · rw [decide_eq_false h, beq_eq_false_iff_ne]; exact fun q => h ((cmpL_cmp.eq x y).1 q)
  rw [e]; exact hK w' k
end Go.Proofs.YtechilkjfhpkpaaGreatDoor.Lab

namespace Go.Proofs.YtechilkjfhpkpaaGreatDoor.Utf
open Go Vm Go.RowKit Num Mem Lib
set_option maxRecDepth 10000
theorem andc {p q : Prop} [Decidable p] [Decidable q] {T E : Prop} (hT : p → q → T) (hE : ¬ (p ∧ q) → E) : G.cond (decide p) (G.cond (decide q) T E) E :=
  cond_d (fun h => cond_d (hT h) (fun h' => hE fun x => h' x.2)) (fun h => hE fun x => h x.1)
theorem and_i64 {x y : Nat} (hx : x < 9223372036854775808) (hy : y < 9223372036854775808) : Go.bits .and .i64 (x : Int) (y : Int) = ((x &&& y : Nat) : Int) := by
  have e : (BitVec.ofNat 64 x &&& BitVec.ofNat 64 y).toNat = x &&& y := by
    rw [BitVec.toNat_and, BitVec.toNat_ofNat, BitVec.toNat_ofNat, Nat.mod_eq_of_lt (by omega), Nat.mod_eq_of_lt (by omega)]
  have hlt : x &&& y < 9223372036854775808 := Nat.and_lt_two_pow (n := 63) x hy
  unfold Go.bits
  simp only [ofInt_nat]
  refine Eq.trans (congrArg (fun t : Nat => IntKind.i64.wrap (t : Int)) e) ?_
  rw [wI64 (by omega) (by omega)]
theorem and63 {b : Nat} (h : b < 256) : IntKind.i64.wrap (Go.bits .and .u8 (b : Int) (63 : Int)) = ((b % 64 : Nat) : Int) := by
  rw [show (63 : Int) = ((63 : Nat) : Int) from rfl, bits_and rfl (by simp only [IntKind.bits]; omega) (by decide), show b &&& 63 = b % 64 from Nat.and_two_pow_sub_one_eq_mod b 6, wI64 (by omega) (by omega)]
theorem top2 : ∀ b : Fin 256, (b.val &&& 192 = 128) = (128 ≤ b.val ∧ b.val ≤ 191) := by decide +kernel
theorem and192 {b : Nat} (h : b < 256) : Go.bits .and .u8 (b : Int) (192 : Int) = ((b &&& 192 : Nat) : Int) :=
  bits_and rfl (by simp only [IntKind.bits]; omega) (by decide)
theorem cls1 : ∀ c : Fin 256, 194 ≤ c.val → c.val < 224 → firstT c.val % 8 = 2 ∧ accLo (firstT c.val / 16) = 128 ∧ accHi (firstT c.val / 16) = 191 := by decide +kernel
theorem cls2 : ∀ c : Fin 256, 224 ≤ c.val → c.val < 240 → firstT c.val % 8 = 3 ∧ (c.val = 224 ∧ accLo (firstT c.val / 16) = 160 ∨ c.val ≠ 224 ∧ accLo (firstT c.val / 16) = 128) ∧ (c.val = 237 ∧ accHi (firstT c.val / 16) = 159 ∨ c.val ≠ 237 ∧ accHi (firstT c.val / 16) = 191) := by decide +kernel
theorem cls3 : ∀ c : Fin 256, 240 ≤ c.val → c.val < 245 → firstT c.val % 8 = 4 ∧ (c.val = 240 ∧ accLo (firstT c.val / 16) = 144 ∨ c.val ≠ 240 ∧ accLo (firstT c.val / 16) = 128) ∧ (c.val = 244 ∧ accHi (firstT c.val / 16) = 143 ∨ c.val ≠ 244 ∧ accHi (firstT c.val / 16) = 191) := by decide +kernel
theorem cls0 : ∀ c : Fin 256, 128 ≤ c.val → (c.val < 194 ∨ 245 ≤ c.val) → firstT c.val % 8 = 1 := by decide +kernel
theorem ck2 (d b1 b2 b3 lo hi : Nat) : checkN d b1 b2 b3 2 lo hi = if d < 2 ∨ b1 < lo ∨ hi < b1 then none else some 2 := rfl
theorem ck3 (d b1 b2 b3 lo hi : Nat) : checkN d b1 b2 b3 3 lo hi = if d < 3 ∨ b1 < lo ∨ hi < b1 ∨ b2 < 128 ∨ 191 < b2 then none else some 3 := rfl
theorem ck4 (d b1 b2 b3 lo hi : Nat) : checkN d b1 b2 b3 4 lo hi = if d < 4 ∨ b1 < lo ∨ hi < b1 ∨ b2 < 128 ∨ 191 < b2 ∨ b3 < 128 ∨ 191 < b3 then none else some 4 := rfl
theorem rutf_ok {s : ByteArray} {w : World} (hs : s.size ≤ 140737488355300) {K : Bool → World → Prop} (hK : K (validD (bytes s)) w) : C.tocsinref01_Utf8 s w K := by
  have hlen : (bytes s).length = s.size := (size_eq s).symm
  unfold C.tocsinref01_Utf8 C.tocsinref01_Utf8.S21
  refine C.tocsinref01_Utf8.L5_ind fun X hX => ?_
  have key : ∀ (d i : Nat), s.size = i + d → K (validD ((bytes s).drop i)) w → X s (i : Int) w := by
    intro d
    induction d using Nat.strongRecOn with
    | _ d ih =>
      intro i hi hK
      refine hX _ _ _ ?_
      unfold C.tocsinref01_Utf8.S19 C.tocsinref01_Utf8.S2
      refine cond_d (fun h0 => ?_) (fun h0 => ?_)
      · have hpos : i < s.size := by omega
        have hg : ∀ j, ((bytes s).drop i).getD j 0 = (bytes s).getD (i + j) 0 := fun j => by simp [List.getD_eq_getElem?_getD, List.getElem?_drop]
        have hdl : ((bytes s).drop i).length = d := by rw [List.length_drop, hlen]; omega
        have hne : (bytes s).drop i ≠ [] := fun e => by rw [e] at hdl; simp at hdl; omega
        unfold C.tocsinref01_Utf8.S17
        refine ixS_at (k := i) rfl hpos ?_
        have hc := ((bytes s).getD i 0).toNat_lt
        have v1 : ((bytes s).getD i 0).toNat < 128 → validD ((bytes s).drop i) = validD ((bytes s).drop (i + 1)) := fun h => by
          rw [List.drop_eq_getElem_cons (by omega), validD_cons _ _ (by
            have : (bytes s).getD i 0 = (bytes s)[i]'(by omega) := by rw [List.getD_eq_getElem?_getD, List.getElem?_eq_getElem (by omega), Option.getD_some]
            rw [← this]; exact h)]
        have v2 := fun h : 128 ≤ ((bytes s).getD i 0).toNat => validD_lead _ hne (by rw [hg, Nat.add_zero]; exact h)
        simp only [hg, hdl, Nat.add_zero] at v2
        have h1 := ((bytes s).getD (i + 1) 0).toNat_lt
        have h2 := ((bytes s).getD (i + 2) 0).toNat_lt
        have h3 := ((bytes s).getD (i + 3) 0).toNat_lt
        rw [wI64 (x := (((bytes s).getD i 0).toNat : Int)) (by omega) (by omega)]
        -- one round of the inner loop
        have round : ∀ (Y : Cur C.tocsinref01_Utf8.g11), (∀ s_10 i_11 n_12 least_13 r_14 k_15 w, C.tocsinref01_Utf8.S13 K X Y s_10 i_11 n_12 least_13 r_14 k_15 w → Y s_10 i_11 n_12 least_13 r_14 k_15 w) →
            ∀ (n k r : Nat) (least : Int), k ≤ n → k ≤ 3 → r < 1000000 → (s.size ≤ i + k ∨ (((bytes s).getD (i + k) 0).toNat < 128 ∨ 191 < ((bytes s).getD (i + k) 0).toNat) → K false w) →
            (¬ (s.size ≤ i + k) → 128 ≤ ((bytes s).getD (i + k) 0).toNat → ((bytes s).getD (i + k) 0).toNat ≤ 191 → Y s (i : Int) (n : Int) least ((r * 64 + ((bytes s).getD (i + k) 0).toNat % 64 : Nat) : Int) ((k + 1 : Nat) : Int) w) →
            Y s (i : Int) (n : Int) least (r : Int) (k : Int) w := by
          intro Y hY n k r least hk hk3 hr hF hN
          refine hY _ _ _ _ _ _ _ ?_
          unfold C.tocsinref01_Utf8.S13
          refine cond_d (fun _ => ?_) (fun h => by omega)
          rw [wI64 (x := (i : Int) + (k : Int)) (by omega) (by omega)]
          refine cond_d (fun h => hF (.inl (by omega))) (fun h => ?_)
          have hb := ((bytes s).getD (i + k) 0).toNat_lt
          refine ixS_at (k := i + k) (by omega) (by omega) ?_
          rw [and192 hb]
          have ht2 := top2 ⟨_, hb⟩
          simp only at ht2
          refine cond_ne (fun h' => ?_) (fun h' => ?_)
          · refine hF (.inr ?_)
            have : ¬ (((bytes s).getD (i + k) 0).toNat &&& 192 = 128) := fun e => h' (by rw [e]; rfl)
            rw [ht2] at this; omega
          · have h'' : ((bytes s).getD (i + k) 0).toNat &&& 192 = 128 := by exact_mod_cast h'
            rw [ht2] at h''
            refine ixS_at (k := i + k) (by omega) (by omega) ?_
            rw [and63 hb, wI64 (x := (r : Int) * 64) (by omega) (by omega), wI64 (by omega) (by omega), wI64 (by omega) (by omega),
              show (r : Int) * 64 + ((((bytes s).getD (i + k) 0).toNat % 64 : Nat) : Int) = ((r * 64 + ((bytes s).getD (i + k) 0).toNat % 64 : Nat) : Int) by omega, show (k : Int) + 1 = ((k + 1 : Nat) : Int) by omega]
            exact hN (by omega) h''.1 h''.2
        have done : ∀ (Y : Cur C.tocsinref01_Utf8.g11), (∀ s_10 i_11 n_12 least_13 r_14 k_15 w, C.tocsinref01_Utf8.S13 K X Y s_10 i_11 n_12 least_13 r_14 k_15 w → Y s_10 i_11 n_12 least_13 r_14 k_15 w) →
            ∀ (n r : Nat) (least : Nat), n ≤ 3 → i + n < s.size → ((r < least ∨ r > 1114111 ∨ (r ≥ 55296 ∧ r < 57344)) → K false w) →
            (¬ (r < least ∨ r > 1114111 ∨ (r ≥ 55296 ∧ r < 57344)) → K (validD ((bytes s).drop (i + (n + 1)))) w) → Y s (i : Int) (n : Int) (least : Int) (r : Int) ((n + 1 : Nat) : Int) w := by
          intro Y hY n r least hn hsz hF hN
          refine hY _ _ _ _ _ _ _ ?_
          unfold C.tocsinref01_Utf8.S13 C.tocsinref01_Utf8.S8
          refine cond_d (fun h => by omega) (fun _ => ?_)
          refine cond_d (fun h => hF (.inl (by omega))) (fun q1 => ?_)
          refine cond_d (fun h => hF (.inr (.inl (by omega)))) (fun q2 => ?_)
          refine andc (fun q3 q4 => hF (.inr (.inr (by omega)))) (fun q3 => ?_)
          rw [wI64 (x := (i : Int) + (n : Int)) (by omega) (by omega), wI64 (by omega) (by omega), show (i : Int) + (n : Int) + 1 = ((i + (n + 1) : Nat) : Int) by omega]
          exact ih (d - (n + 1)) (by omega) (i + (n + 1)) (by omega) (hN (by omega))
        refine cond_d (fun ha => ?_) (fun ha => ?_)
        · rw [wI64 (by omega) (by omega), show (i : Int) + 1 = ((i + 1 : Nat) : Int) by omega]
          refine ih (d - 1) (by omega) (i + 1) (by omega) ?_
          rw [v1 (by omega)] at hK; exact hK
        have hv := v2 (by omega)
        generalize hcc : ((bytes s).getD i 0).toNat = c at *
        clear v1 v2
        refine andc (fun p1 p2 => ?_) (fun p1 => andc (fun p3 p4 => ?_) (fun p3 => andc (fun p5 p6 => ?_) (fun p5 => ?_)))
        · obtain ⟨z1, z2, z3⟩ := cls1 ⟨c, hc⟩ (by simp only; omega) (by simp only; omega)
          simp only at z1 z2 z3
          rw [z1, ck2] at hv
          generalize accLo (firstT c / 16) = lo at *
          generalize accHi (firstT c / 16) = hi' at *
          rw [show Go.bits .and .i64 (c : Int) (31 : Int) = ((c % 32 : Nat) : Int) by rw [show (31 : Int) = ((31 : Nat) : Int) from rfl, and_i64 (by omega) (by omega), show c &&& 31 = c % 32 from Nat.and_two_pow_sub_one_eq_mod c 5]]
          unfold C.tocsinref01_Utf8.S15
          refine C.tocsinref01_Utf8.L11_ind fun Y hY => ?_
          refine round Y hY 1 1 _ _ (by omega) (by omega) (by omega) (fun hF => ?_) (fun q1 q2 q3 => ?_)
          · rw [if_pos (by omega)] at hv
            have hv' : validD ((bytes s).drop i) = false := hv
            rw [hv'] at hK; exact hK
          refine done Y hY 1 _ 128 (by omega) (by omega) (fun hF => ?_) (fun hN => ?_)
          · omega
          rw [if_neg (by omega)] at hv
          have hv' : validD ((bytes s).drop i) = validD (((bytes s).drop i).drop 2) := hv
          rw [hv', List.drop_drop] at hK; exact hK
        · obtain ⟨z1, z2, z3⟩ := cls2 ⟨c, hc⟩ (by simp only; omega) (by simp only; omega)
          simp only at z1 z2 z3
          rw [z1, ck3] at hv
          generalize accLo (firstT c / 16) = lo at *
          generalize accHi (firstT c / 16) = hi' at *
          rw [show Go.bits .and .i64 (c : Int) (15 : Int) = ((c % 16 : Nat) : Int) by rw [show (15 : Int) = ((15 : Nat) : Int) from rfl, and_i64 (by omega) (by omega), show c &&& 15 = c % 16 from Nat.and_two_pow_sub_one_eq_mod c 4]]
          unfold C.tocsinref01_Utf8.S15
          refine C.tocsinref01_Utf8.L11_ind fun Y hY => ?_
          refine round Y hY 2 1 _ _ (by omega) (by omega) (by omega) (fun hF => ?_) (fun q1 q2 q3 => ?_)
          · rw [if_pos (by omega)] at hv
            have hv' : validD ((bytes s).drop i) = false := hv
            rw [hv'] at hK; exact hK
          refine round Y hY 2 2 _ _ (by omega) (by omega) (by omega) (fun hF => ?_) (fun q4 q5 q6 => ?_)
          · rw [if_pos (by omega)] at hv
            have hv' : validD ((bytes s).drop i) = false := hv
            rw [hv'] at hK; exact hK
          refine done Y hY 2 _ 2048 (by omega) (by omega) (fun hF => ?_) (fun hN => ?_)
          · rw [if_pos (by omega)] at hv
            have hv' : validD ((bytes s).drop i) = false := hv
            rw [hv'] at hK; exact hK
          rw [if_neg (by omega)] at hv
          have hv' : validD ((bytes s).drop i) = validD (((bytes s).drop i).drop 3) := hv
          rw [hv', List.drop_drop] at hK; exact hK
        · obtain ⟨z1, z2, z3⟩ := cls3 ⟨c, hc⟩ (by simp only; omega) (by simp only; omega)
          simp only at z1 z2 z3
          rw [z1, ck4] at hv
          generalize accLo (firstT c / 16) = lo at *
          generalize accHi (firstT c / 16) = hi' at *
          rw [show Go.bits .and .i64 (c : Int) (7 : Int) = ((c % 8 : Nat) : Int) by rw [show (7 : Int) = ((7 : Nat) : Int) from rfl, and_i64 (by omega) (by omega), show c &&& 7 = c % 8 from Nat.and_two_pow_sub_one_eq_mod c 3]]
          unfold C.tocsinref01_Utf8.S15
          refine C.tocsinref01_Utf8.L11_ind fun Y hY => ?_
          refine round Y hY 3 1 _ _ (by omega) (by omega) (by omega) (fun hF => ?_) (fun q1 q2 q3 => ?_)
          · rw [if_pos (by omega)] at hv
            have hv' : validD ((bytes s).drop i) = false := hv
            rw [hv'] at hK; exact hK
          refine round Y hY 3 2 _ _ (by omega) (by omega) (by omega) (fun hF => ?_) (fun q4 q5 q6 => ?_)
          · rw [if_pos (by omega)] at hv
            have hv' : validD ((bytes s).drop i) = false := hv
            rw [hv'] at hK; exact hK
          refine round Y hY 3 3 _ _ (by omega) (by omega) (by omega) (fun hF => ?_) (fun q7 q8 q9 => ?_)
          · rw [if_pos (by omega)] at hv
            have hv' : validD ((bytes s).drop i) = false := hv
            rw [hv'] at hK; exact hK
          refine done Y hY 3 _ 65536 (by omega) (by omega) (fun hF => ?_) (fun hN => ?_)
          · rw [if_pos (by omega)] at hv
            have hv' : validD ((bytes s).drop i) = false := hv
            rw [hv'] at hK; exact hK
          rw [if_neg (by omega)] at hv
          have hv' : validD ((bytes s).drop i) = validD (((bytes s).drop i).drop 4) := hv
          rw [hv', List.drop_drop] at hK; exact hK
        · have z := cls0 ⟨c, hc⟩ (by simp only; omega) (by simp only; omega)
          simp only at z
          rw [z] at hv
          have hv' : validD ((bytes s).drop i) = false := hv
          rw [hv'] at hK; exact hK
      · rw [List.drop_of_length_le (by omega), validD_nil] at hK
        exact hK
  exact key s.size 0 (by omega) (by simpa using hK)
end Go.Proofs.YtechilkjfhpkpaaGreatDoor.Utf

namespace Go.Proofs.YtechilkjfhpkpaaGreatDoor.Lab
open Go Vm Go.RowKit Num Mem Utf Lib
variable {ω ω' : Tg} {w w' w0 : World}
theorem rletter_ok {c : Nat} {K : Bool → World → Prop} (hK : K (letterB c) w) : C.tocsinref04_letter (c : Int) w K := by
  unfold C.tocsinref04_letter
  have e95 : ∀ b : Bool, letterB c = b → (((c : Int) == (95 : Int)) = (c == 95)) := fun _ _ => by
    cases h : (c == 95) with
    | true => simp at h; subst h; rfl
    | false => simp at h; simp; omega
  have e := e95 _ rfl
  have yes : letterB c = true → K true w := fun h => by rw [h] at hK; exact hK
  have els : (letterB c = (c == 95)) → K ((c : Int) == (95 : Int)) w := fun h => by rw [e, ← h]; exact hK
  refine cond_d (fun h1 => cond_d (fun h2 => yes ?_) (fun h2 => cond_d (fun h3 => cond_d (fun h4 => by omega) (fun h4 => els ?_)) (fun h3 => by omega))) (fun h1 => cond_d (fun h3 => cond_d (fun h4 => yes ?_) (fun h4 => els ?_)) (fun h3 => els ?_))
  all_goals (unfold letterB; simp; try omega)
theorem rdigit_ok {c : Nat} {K : Bool → World → Prop} (hK : K (digitB c) w) : C.tocsinref04_digit (c : Int) w K := by
  unfold C.tocsinref04_digit
  unfold digitB at hK
  refine cond_d (fun h => ?_) (fun h => ?_)
  · have e : decide ((c : Int) ≤ 57) = decide (c ≤ 57) := by simp only [decide_eq_decide]; omega
    rw [e]
    rw [decide_eq_true (by omega : 48 ≤ c)] at hK
    exact hK
  · rw [decide_eq_false (by omega : ¬ 48 ≤ c)] at hK
    exact hK
theorem let_dig {c : Nat} (h : letterB c = true) : digitB c = false := by
  unfold letterB at h
  unfold digitB
  simp at h ⊢
  omega
theorem okB_eq {c : Nat} {a b : Bool} (h1 : letterB c = a) (h2 : digitB c = b) : okB false c = (a || b) := by unfold okB; rw [h1, h2]; simp
theorem rname_ok {s : ByteArray} {K : Bool → World → Prop} (hK : K (namedB (Utf.bytes s) 64 false) w0) : C.tocsinref04_Name s w0 K := by
  have hsz := size_eq s
  have hl : (Utf.bytes s).length = s.size := hsz.symm
  unfold C.tocsinref04_Name
  have no : namedB (Utf.bytes s) 64 false = false → K false w0 := fun h => by rwa [h] at hK
  have etl : s.toList = Utf.bytes s := ByteArray.toList_eq s
  have e0 : (⟨#[]⟩ : ByteArray).toList = [] := by rw [ByteArray.toList_eq]
  rw [etl, e0]
  refine cond_of (fun h => no ?_) (fun h => ?_)
  · have : Utf.bytes s = [] := by simpa using h
    unfold namedB; rw [this]; rfl
  have hne : Utf.bytes s ≠ [] := by intro e; rw [e] at h; simp at h
  have hpos : 0 < s.size := by rw [← hl]; exact List.length_pos_iff.2 hne
  refine cond_d (fun h => no ?_) (fun h => ?_)
  · unfold namedB; rw [decide_eq_false (by omega)]; simp
  have hemp : (Utf.bytes s).isEmpty = false := by cases hb : Utf.bytes s with | nil => exact absurd hb hne | cons _ _ => rfl
  have hle : decide ((Utf.bytes s).length ≤ 64) = true := decide_eq_true (by omega)
  have hn : namedB (Utf.bytes s) 64 false = (!digitB ((Utf.bytes s).getD 0 0).toNat && (Utf.bytes s).all fun c => okB false c.toNat) := by unfold namedB; rw [hemp, hle]; simp
  rw [hn] at hK no
  unfold C.tocsinref04_Name.S9
  refine C.tocsinref04_Name.L5_ind fun X hX => ?_
  have key : ∀ (d i : Nat), i + d = s.size → ((Utf.bytes s).take i).all (fun c => okB false c.toNat) = true → (0 < i → digitB ((Utf.bytes s).getD 0 0).toNat = false) → X s ((s.size : Nat) : Int) (i : Int) w0 := by
    intro d
    induction d with
    | zero =>
      intro i hi ha h0
      refine hX _ _ _ _ ?_
      unfold C.tocsinref04_Name.S7 C.tocsinref04_Name.S2
      refine cond_d (fun h => by omega) (fun _ => ?_)
      rw [List.take_of_length_le (by omega)] at ha
      rw [ha, h0 (by omega)] at hK
      exact hK
    | succ d ih =>
      intro i hi ha h0
      refine hX _ _ _ _ ?_
      unfold C.tocsinref04_Name.S7
      have hil : i < (Utf.bytes s).length := by omega
      have hg : (Utf.bytes s).getD i 0 = (Utf.bytes s)[i] := by rw [List.getD_eq_getElem?_getD, List.getElem?_eq_getElem hil, Option.getD_some]
      refine cond_d (fun _ => ?_) (fun h => by omega)
      have next : okB false (Utf.bytes s)[i].toNat = true → (i = 0 → digitB ((Utf.bytes s).getD 0 0).toNat = false) → X s ((s.size : Nat) : Int) (IntKind.i64.wrap ((i : Int) + 1)) w0 := fun hok hz => by
        rw [wI64 (by omega) (by omega), show (i : Int) + 1 = ((i + 1 : Nat) : Int) by omega]
        refine ih (i + 1) (by omega) ?_ (fun _ => if h : i = 0 then hz h else h0 (by omega))
        rw [List.take_add_one, List.getElem?_eq_getElem hil, List.all_append, ha]
        show (true && (okB false (Utf.bytes s)[i].toNat && true)) = true
        rw [hok]; rfl
      have stop : okB false (Utf.bytes s)[i].toNat = false → K false w0 := fun hok => no (by
        have : (Utf.bytes s).all (fun c => okB false c.toNat) = false := by
          rw [List.all_eq_false]
          exact ⟨(Utf.bytes s)[i], List.getElem_mem hil, by rw [hok]; decide⟩
        rw [this, Bool.and_false])
      refine ixS_at (k := i) rfl (by omega) ?_
      rw [hg]
      refine rletter_ok (cond_of (fun hlt => ?_) (fun hlt => ?_))
      · simp only [Bool.not_eq_true'] at hlt
        refine cond_eq (fun hz => ?_) (fun hz => ?_)
        · have hz : i = 0 := by omega
          subst hz
          by_cases hdg : digitB (Utf.bytes s)[0].toNat = true
          · exact no (by rw [hg, hdg]; rfl)
          · exact stop (by rw [okB_eq hlt (Bool.eq_false_iff.2 hdg)]; rfl)
        · refine ixS_at (k := i) rfl (by omega) ?_
          rw [hg]
          refine rdigit_ok (cond_of (fun hdt => stop ?_) (fun hdt => next ?_ (fun e => by omega)))
          · simp only [Bool.not_eq_true'] at hdt
            rw [okB_eq hlt hdt]; rfl
          · simp only [Bool.not_eq_false'] at hdt
            rw [okB_eq hlt hdt]; rfl
      · have hlt : letterB (Utf.bytes s)[i].toNat = true := by simpa only [Bool.not_eq_false'] using hlt
        exact next (by rw [okB_eq hlt (let_dig hlt)]; rfl) (fun e => by subst e; rw [hg]; exact let_dig hlt)
  exact key s.size 0 (by omega) rfl (fun h => absurd h (Nat.lt_irrefl _))
def oneE (x : Lb) : Int := if namedB (Utf.bytes x.1) 64 false = false then 40 else valE (Utf.bytes x.2)
theorem rone_ok {x : Lb} (hs : x.2.size ≤ 140737488355300) {K : Int → World → Prop} (hK : ∀ w', Keep w0 w' → K (oneE x) w') : C.tocsinref04_one x.1 x.2 w0 K := by
  unfold C.tocsinref04_one
  refine new_T (ω := fun _ => 0) 7 fun g ω1 w1 k1 b1 => ?_
  have hl : (Utf.bytes x.2).length = x.2.size := (size_eq x.2).symm
  have etl : x.2.toList = Utf.bytes x.2 := ByteArray.toList_eq x.2
  have e0 : (⟨#[]⟩ : ByteArray).toList = [] := by rw [ByteArray.toList_eq]
  have key := hK w1 k1.keep
  unfold oneE valE at key
  refine cS_at (b := x.1) (by rw [b1.cell]; rfl) <| rname_ok <| cond_of (fun h => ?_) (fun h => ?_)
  · rw [if_pos (by simpa using h)] at key; exact key
  rw [if_neg (by simpa using h)] at key
  refine cS_at (b := x.2) (by rw [addr_add, b1.cell]; rfl) ?_
  rw [etl, e0]
  refine cond_of (fun h => ?_) (fun h => ?_)
  · rw [if_pos (by simpa using h)] at key; exact key
  rw [if_neg (by intro e; rw [e] at h; simp at h)] at key
  refine cS_at (b := x.2) (by rw [addr_add, b1.cell]; rfl) <| cond_d (fun h => ?_) (fun h => ?_)
  · rw [if_pos (by omega)] at key; exact key
  rw [if_neg (by omega)] at key
  refine cS_at (b := x.2) (by rw [addr_add, b1.cell]; rfl) <| rutf_ok hs <| cond_of (fun h => ?_) (fun h => ?_)
  · rw [if_neg (by simpa using h)] at key; exact key
  · rw [if_pos (by simpa using h)] at key; exact key
theorem back_cb (p x : ByteArray) : (!(Op.bytesLess p.toList x.toList)) = backB (some p) x := by
  show _ = ((Op.bytesLess x.toList p.toList) || (x.toList == p.toList))
  rw [lessB, lessB, eqB]
  have h1 := cB_cmp.vals x p
  have h2 := cB_cmp.anti x p
  rcases h1 with e | e | e <;> rw [e] at h2 ⊢ <;> rw [h2] <;> rfl
theorem rright_ok {s : Sl} {m : List Lb} (hs : Rd w0 s 2 (labs m)) (hz : ∀ x ∈ m, x.2.size ≤ 140737488355300) {K : Int → Int → World → Prop} (hK : ∀ w', Keep w0 w' → K (rt m).1 ((rt m).2 : Int) w') : C.tocsinref04_Right s w0 K := by
  have hsn : s.n = m.length := by have := hs.2.1; rw [labs_len] at this; omega
  unfold C.tocsinref04_Right
  unfold rt at hK
  refine cond_d (fun h => ?_) (fun h => ?_)
  · rw [if_pos (by omega)] at hK; exact hK w0 (Keep.refl w0)
  rw [if_neg (by omega)] at hK
  unfold C.tocsinref04_Right.S9
  refine C.tocsinref04_Right.L5_ind fun X hX => ?_
  have key : ∀ (d i : Nat) (w : World), i + d = m.length → Keep w0 w → rtGo (if i = 0 then none else (m[i - 1]?).map (·.1)) (m.drop i) i = rtGo none m 0 → X s s ((s.n : Nat) : Int) (i : Int) w := by
    intro d
    induction d with
    | zero =>
      intro i w hi k e
      refine hX _ _ _ _ _ ?_
      unfold C.tocsinref04_Right.S7 C.tocsinref04_Right.S2
      refine cond_d (fun h => by omega) (fun _ => ?_)
      rw [List.drop_of_length_le (by omega)] at e
      have := hK w k
      rwa [← e] at this
    | succ d ih =>
      intro i w hi k e
      have him : i < m.length := by omega
      refine hX _ _ _ _ _ ?_
      unfold C.tocsinref04_Right.S7
      refine cond_d (fun _ => ?_) (fun h => by omega)
      have hx : m[i]? = some m[i] := List.getElem?_eq_getElem him
      refine rdL_at (hs.keep k) (k := i) rfl hx fun a hc0 hc1 => cS_at hc0 <| cS_at hc1 ?_
      refine new_T (ω := fun _ => 0) 7 fun g ω2 w2 k2 b2 => ?_
      refine st_T b2 (by simp) fun ω3 w3 k3 b3 => ?_
      refine st_TA b3 (by simp) fun ω4 w4 k4 b4 => ?_
      have k04 := Keep.trans k ((Top.init w).stp ((k2.non (Mem.One 7)).trans (k3.trans k4))).k
      rw [List.drop_eq_getElem_cons him, rtGo] at e
      have out : ∀ (c : Int) w', (c, i) = rtGo none m 0 → Keep w0 w' → K c (i : Int) w' := fun c w' ec kk => by
        have := hK w' kk
        rwa [← ec] at this
      refine cS_at (b := m[i].1) (by rw [b4.cell]; rfl) <| cS_at (b := m[i].2) (by rw [addr_add, b4.cell]; rfl) ?_
      refine rone_ok (hz _ (List.getElem_mem him)) fun w5 k5 => ?_
      have k05 := Keep.trans k04 k5
      have b5 := b4.stp (k5.stp0 ω4)
      unfold oneE
      refine cond_ne (fun hn => ?_) (fun hn => ?_)
      · split at hn
        · rename_i h1
          rw [if_pos h1] at e ⊢; exact out 40 w5 e k05
        · rename_i h1
          rw [if_neg h1] at e ⊢
          rw [if_pos hn] at e; exact out _ w5 e k05
      have h1 : ¬ namedB (Utf.bytes m[i].1) 64 false = false := fun h => by rw [if_pos h] at hn; cases hn
      rw [if_neg h1] at hn e
      rw [if_neg (by simpa using hn)] at e
      have next : backB (if i = 0 then none else (m[i - 1]?).map (·.1)) m[i].1 = false → ∀ w', Keep w0 w' → X s s ((s.n : Nat) : Int) (IntKind.i64.wrap ((i : Int) + 1)) w' := fun hb w' kk => by
        rw [hb, if_neg (by decide)] at e
        rw [wI64 (by omega) (by omega), show (i : Int) + 1 = ((i + 1 : Nat) : Int) by omega]
        refine ih (i + 1) w' (by omega) kk ?_
        rw [if_neg (by omega), Nat.add_sub_cancel, hx]; exact e
      have k06 := Keep.trans k05 (Keep.drew w5)
      refine cond_d (fun hi0 => ?_) (fun hi0 => next ?_ _ k06)
      · have hy : m[i - 1]? = some m[i - 1] := List.getElem?_eq_getElem (by omega)
        refine rdL_at (hs.keep k06) (k := i - 1) (by rw [wI64 (by omega) (by omega)]; omega) hy fun p hp0 _ => cS_at hp0 <| cS_at (b := m[i].1) (by rw [(b5.stp (drew_stp ω4 w5)).cell]; rfl) ?_
        have eb : backB (if i = 0 then none else (m[i - 1]?).map (·.1)) m[i].1 = backB (some m[i - 1].1) m[i].1 := by
          rw [if_neg (by omega), hy]; rfl
        rw [back_cb]
        refine cond_of (fun hb => ?_) (fun hb => next (by rw [eb]; exact hb) _ k06)
        rw [eb, hb, if_pos rfl] at e
        exact out 3 _ e k06
      · rw [if_pos (by omega)]; rfl
  exact key m.length 0 w0 (by omega) (Keep.refl w0) rfl
end Go.Proofs.YtechilkjfhpkpaaGreatDoor.Lab

namespace Go.Proofs.YtechilkjfhpkpaaGreatDoor.Mem
open Go Vm Go.RowKit Num
theorem put_stp' {ω : Tg} {w : World} {t g : Nat} {o : Obj} (ht : ω g = t) : Stp (One t) ω ω w (w.putObj g o) :=
  ⟨rfl, rfl, rfl, by simp [World.putObj], fun _ _ => rfl, fun k _ hT => World.putObj_heap_other fun e => by subst e; rw [ht, one_self] at hT; cases hT⟩
structure MT (ω : Tg) (w : World) (t g : Nat) (al : List (ByteArray × Value)) : Prop where
  ex : ∃ es clock, w.heap[g]? = some (.map es clock) ∧ es.toList.map (fun e => (e.key, e.val)) = al.map (fun p => (Value.string p.1, p.2))
  tag : ω g = t
variable {ω ω' : Tg} {w w' : World} {t g : Nat} {al : List (ByteArray × Value)} {P : Program}
theorem MT.stp {T : Nat → Bool} (h : MT ω w t g al) (s : Stp T ω ω' w w') (ne : T t = false) : MT ω' w' t g al := by
  obtain ⟨es, clock, hb, he⟩ := h.ex
  exact ⟨⟨es, clock, by rw [s.block g (heap_lt hb) (by rw [h.tag]; exact ne)]; exact hb, he⟩, (s.same g (heap_lt hb)).trans h.tag⟩
end Go.Proofs.YtechilkjfhpkpaaGreatDoor.Mem

namespace Go.Proofs.YtechilkjfhpkpaaGreatDoor.Mem
open Go Vm Go.RowKit Num
abbrev AL := List (ByteArray × Value)
def encE (p : ByteArray × Value) : Value × Value := (.string p.1, p.2)
structure MV (ω : Tg) (w : World) (t g : Nat) (al : AL) : Prop where
  ex : ∃ es clock, w.heap[g]? = some (.map es clock) ∧ MapKept.Stamped es clock ∧ es.toList.map (fun e => (e.key, e.val)) = al.map encE
  tag : ω g = t
def getV (s : ByteArray) : AL → Option Value
  | [] => none
  | (k, v) :: r => if s = k then some v else getV s r
def updA (s : ByteArray) (v : Value) : AL → AL
  | [] => [(s, v)]
  | (k, x) :: r => if s = k then (s, v) :: r else (k, x) :: updA s v r
def delA (s : ByteArray) : AL → AL
  | [] => []
  | (k, x) :: r => if s = k then r else (k, x) :: delA s r
variable {ω ω' : Tg} {w w' : World} {t g : Nat} {al : AL} {P : Program} {T : Nat → Bool}
theorem MV.stp (h : MV ω w t g al) (s : Stp T ω ω' w w') (ne : T t = false) : MV ω' w' t g al := by
  obtain ⟨es, clock, hb, hs, he⟩ := h.ex
  exact ⟨⟨es, clock, by rw [s.block g (heap_lt hb) (by rw [h.tag]; exact ne)]; exact hb, hs, he⟩, (s.same g (heap_lt hb)).trans h.tag⟩
theorem MV.lt (h : MV ω w t g al) : g < w.heap.size := by obtain ⟨es, clock, hb, _⟩ := h.ex; exact heap_lt hb
theorem MV.nodup (h : MV ω w t g al) : (al.map (·.1)).Nodup := by
  obtain ⟨es, clock, hb, hs, he⟩ := h.ex
  have h1 := ((MapKept.stamped_iff es clock).1 hs).2.2
  have h2 : (es.toList.map (·.key)).Nodup := by rw [List.Nodup, List.pairwise_map]; exact h1
  have e3 : es.toList.map (·.key) = (al.map (·.1)).map Value.string := by
    have := congrArg (List.map Prod.fst) he
    rw [List.map_map, List.map_map] at this
    rw [List.map_map]
    exact this
  rw [e3] at h2
  exact (List.pairwise_map.1 h2).imp fun h e => h (by rw [e])
theorem find_al (s : ByteArray) : ∀ (es : List MapEntry) (al : AL) (i : Nat), es.map (fun e => (e.key, e.val)) = al.map encE →
    (getV s al = none ∧ Instr.findNow .string (.string s) es i = some none) ∨
    ∃ j e v, getV s al = some v ∧ Instr.findNow .string (.string s) es i = some (some (i + j, v)) ∧ es[j]? = some e ∧ e.key = .string s ∧ e.val = v ∧ j < al.length ∧
      (∀ x, al.set j (s, x) = updA s x al) ∧ al.eraseIdx j = delA s al
  | [], [], i, _ => .inl ⟨rfl, rfl⟩
  | [], _ :: _, i, h => by simp at h
  | _ :: _, [], i, h => by simp at h
  | e :: es, (k, v) :: al, i, h => by
    simp only [List.map_cons, List.cons.injEq, encE, Prod.mk.injEq] at h
    obtain ⟨⟨h1, h2⟩, h3⟩ := h
    by_cases hs : s = k
    · subst hs
      have hb : (s == s) = true := (MapKept.bytes_beq s s).2 rfl
      refine .inr ⟨0, e, v, by simp [getV], ?_, rfl, h1, h2, by simp, fun x => by simp [updA], by simp [delA]⟩
      unfold Instr.findNow
      rw [h1]
      simp [Instr.sameNow, hb, h2]
    · have hb : (s == k) = false := by
        cases hc : (s == k) with
        | true => exact absurd ((MapKept.bytes_beq s k).1 hc) hs
        | false => rfl
      have fn : ∀ x, Instr.findNow .string (.string s) es (i + 1) = some x → Instr.findNow .string (.string s) (e :: es) i = some x := fun x hx => by
        unfold Instr.findNow
        rw [h1]
        simp [Instr.sameNow, hb, hx]
      rcases find_al s es al (i + 1) (by simpa [encE] using h3) with ⟨g1, g2⟩ | ⟨j, e', v', g1, g2, g3, g4, g5, g6, g7, g8⟩
      · exact .inl ⟨by simp [getV, hs, g1], fn _ g2⟩
      · refine .inr ⟨j + 1, e', v', by simp [getV, hs, g1], ?_, by simpa using g3, g4, g5, by simp; omega, fun x => by simp [updA, hs, g7 x], by simp [delA, hs, g8]⟩
        rw [fn _ g2]; congr 3; omega
theorem chk_key {kt : TypeId} (hk : P.underlying kt = some .string) (s : ByteArray) (w : World) (e : Bool) : (Instr.checkKey e 10000 kt (.string s)).run P w = .ok () w := MapKept.run_checkKey (k := .string s) hk (by simp [MapKept.IsKey]) e 9999
theorem run_look_V {mt kt et : TypeId} (h : MV ω w t g al) (hm : P.underlying mt = some (.map kt et)) (hk : P.underlying kt = some .string) {z : Value} (hz : ∀ w, (zeroValue et).run P w = .ok z w) (s : ByteArray) (ok : Bool) (d : Nat) :
    (Instr.lookup mt (.map (some g)) (.string s) ok).run P (w.drewN d) = .ok (if ok then .tuple #[(getV s al).getD z, .bool (getV s al).isSome] else (getV s al).getD z) (w.drewN d) := by
  obtain ⟨es, clock, hb, hs, he⟩ := h.ex
  have hb' : (w.drewN d).heap[g]? = some (.map es clock) := hb
  have hc := fun e => chk_key (P := P) hk s (w.drewN d) e
  rcases find_al s es.toList al 0 he with ⟨g1, g2⟩ | ⟨j, e', v', g1, g2, _⟩
  · simp [Instr.lookup, run_underlying hm, MapKept.run_getObj_map hb', hc, MapKept.run_findKey hk g2, hz, Result.andThen, g1]
  · simp [Instr.lookup, run_underlying hm, MapKept.run_getObj_map hb', hc, MapKept.run_findKey hk g2, Result.andThen, g1]
theorem rd2_V {α : Type} {f : α → Value} {mt kt et : TypeId} (h : MV ω w t g al) (hm : P.underlying mt = some (.map kt et)) (hk : P.underlying kt = some .string) {z : Value} (hz : ∀ w, (zeroValue et).run P w = .ok z w) {s : ByteArray} {K : α → Bool → Prop} {a : α}
    (e : (getV s al).getD z = f a) (hK : K a (getV s al).isSome) : G.rd2 P (Instr.lookup mt (.map (some g)) (.string s) true) f w K :=
  ⟨a, _, fun d => by rw [run_look_V h hm hk hz s true d, e]; rfl, hK⟩
theorem rd1_V {α : Type} {f : α → Value} {mt kt et : TypeId} (h : MV ω w t g al) (hm : P.underlying mt = some (.map kt et)) (hk : P.underlying kt = some .string) {z : Value} (hz : ∀ w, (zeroValue et).run P w = .ok z w) {s : ByteArray} {K : α → Prop} {a : α}
    (e : (getV s al).getD z = f a) (hK : K a) : G.rd1 P (Instr.lookup mt (.map (some g)) (.string s) false) f w K :=
  ⟨a, fun d => by rw [run_look_V h hm hk hz s false d, e]; rfl, hK⟩
theorem mkV {mt : TypeId} (t : Nat) {K : Option Nat → World → Prop} (hK : ∀ g ω' w', Stp Non ω ω' w w' → MV ω' w' t g [] → K (some g) w') : G.runM P (Instr.makeMap mt none) w K :=
  ⟨some w.heap.size, _, run_makeMap_plain w mt, hK w.heap.size (ext ω w.heap.size t) _ ((Keep.alloc w _).stp ω t) ⟨⟨#[], 0, World.alloc_heap_new w _, MapKept.stamped_empty 0, rfl⟩, ext_new (Nat.le_refl _)⟩⟩
theorem updV {mt kt et : TypeId} (h : MV ω w t g al) (hm : P.underlying mt = some (.map kt et)) (hk : P.underlying kt = some .string) {s : ByteArray} {v : Value} {K : World → Prop}
    (hK : ∀ ω' w', Stp (One t) ω ω' w w' → MV ω' w' t g (updA s v al) → K w') : G.runU P (Instr.mapUpdate mt (.map (some g)) (.string s) v) w K := by
  obtain ⟨es, clock, hb, hs, he⟩ := h.ex
  have hc := fun e => chk_key (P := P) hk s w e
  rcases find_al s es.toList al 0 he with ⟨g1, g2⟩ | ⟨j, e', v', g1, g2, g3, g4, g5, g6, g7, _⟩
  · have app : ∀ al : AL, getV s al = none → updA s v al = al ++ [(s, v)] := by
      intro al
      induction al with
      | nil => intro _; rfl
      | cons p r ih =>
        intro h
        obtain ⟨k, x⟩ := p
        by_cases e : s = k
        · simp [getV, e] at h
        · simp only [getV, if_neg e] at h
          simp [updA, if_neg e, ih h]
    have hne : ∀ al : AL, getV s al = none → ∀ p ∈ al, p.1 ≠ s := by
      intro al
      induction al with
      | nil => intro _ p hp; cases hp
      | cons p r ih =>
        intro h q hq
        obtain ⟨k, x⟩ := p
        by_cases e : s = k
        · simp [getV, e] at h
        · simp only [getV, if_neg e] at h
          rcases List.mem_cons.1 hq with rfl | hq
          · exact fun e' => e e'.symm
          · exact ih h q hq
    refine ⟨w.putObj g (.map (es.push { key := .string s, val := v, born := clock }) (clock + 1)), ?_, hK ω _ (put_stp' h.tag) ⟨⟨_, _, World.putObj_heap_same (heap_lt hb), MapKept.stamped_push hs fun x hx hxe => ?_, ?_⟩, h.tag⟩⟩
    · simp [Instr.mapUpdate, run_underlying hm, MapKept.run_getObj_map hb, hc, MapKept.run_findKey hk g2, MapKept.run_setObj_map _ hb, Result.andThen, World.putObj]
    · have : (x.key, x.val) ∈ es.toList.map (fun e => (e.key, e.val)) := List.mem_map_of_mem hx
      rw [he] at this
      obtain ⟨p, hp, hpe⟩ := List.mem_map.1 this
      simp only [encE, Prod.mk.injEq] at hpe
      rw [hxe] at hpe
      injection hpe.1 with q
      exact hne al g1 p hp q
    · rw [app al g1]; simp [he, encE]
  · have hj : es[j]? = some e' := by simpa using g3
    refine ⟨w.putObj g (.map (es.modify j fun e => { e with key := .string s, val := v }) clock), ?_, hK ω _ (put_stp' h.tag) ⟨⟨_, _, World.putObj_heap_same (heap_lt hb), MapKept.stamped_modify hs _ _ (fun _ _ => rfl) (fun e'' _ he'' => by rw [hj] at he''; cases he''; exact g4.symm), ?_⟩, h.tag⟩⟩
    · simp [Instr.mapUpdate, run_underlying hm, MapKept.run_getObj_map hb, hc, MapKept.run_findKey hk g2, hj, g4, MapKept.run_keyThatStays (d := .string) (k := .string s) (by simp [MapKept.IsKey]), MapKept.run_setObj_map _ hb, Result.andThen, World.putObj]
    · rw [← g7 v, Array.toList_modify, List.map_set, ← he]
      apply List.ext_getElem?
      intro i
      simp only [List.getElem?_map, List.getElem?_modify, List.getElem?_set]
      by_cases e : j = i
      · subst e
        have hlt : j < es.toList.length := (List.getElem?_eq_some_iff.1 g3).1
        have hlt' : j < es.size := by simpa using hlt
        simp [encE, hlt']
      · simp [e]
theorem erase_map {α β : Type} (f : α → β) : ∀ (l : List α) (j : Nat), (l.map f).eraseIdx j = (l.eraseIdx j).map f
  | [], j => by simp
  | a :: l, 0 => by simp
  | a :: l, j + 1 => by simp [erase_map f l j]
theorem delV {mt kt et ty : TypeId} (h : MV ω w t g al) (hm : P.underlying mt = some (.map kt et)) (hk : P.underlying kt = some .string) {s : ByteArray} {K : Value → World → Prop}
    (hK : ∀ v ω' w', Stp (One t) ω ω' w w' → MV ω' w' t g (delA s al) → K v w') : G.run P (Builtin.delete_ #[mt, kt] ty #[.map (some g), .string s]) w K := by
  obtain ⟨es, clock, hb, hs, he⟩ := h.ex
  have hc := fun e => chk_key (P := P) hk s w e
  rcases find_al s es.toList al 0 he with ⟨g1, g2⟩ | ⟨j, e', v', g1, g2, g3, g4, g5, g6, _, g8⟩
  · have dn : ∀ al : AL, getV s al = none → delA s al = al := by
      intro al
      induction al with
      | nil => intro _; rfl
      | cons p r ih =>
        intro h
        obtain ⟨k, x⟩ := p
        by_cases e : s = k
        · simp [getV, e] at h
        · simp only [getV, if_neg e] at h
          simp [delA, if_neg e, ih h]
    refine ⟨.tuple #[], w.putObj g (.map es clock), ?_, hK _ ω _ (put_stp' h.tag) ⟨⟨_, _, World.putObj_heap_same (heap_lt hb), hs, by rw [dn al g1]; exact he⟩, h.tag⟩⟩
    simp [Builtin.delete_, run_underlying hm, MapKept.run_getObj_map hb, hc, MapKept.run_findKey hk g2, MapKept.run_setObj_map _ hb, Result.andThen, World.putObj]
  · have hlt : j < es.size := by have := (List.getElem?_eq_some_iff.1 g3).1; simpa using this
    refine ⟨.tuple #[], w.putObj g (.map (es.eraseIdxIfInBounds j) clock), ?_, hK _ ω _ (put_stp' h.tag) ⟨⟨_, _, World.putObj_heap_same (heap_lt hb), MapKept.stamped_erase hs _, ?_⟩, h.tag⟩⟩
    · simp [Builtin.delete_, run_underlying hm, MapKept.run_getObj_map hb, hc, MapKept.run_findKey hk g2, MapKept.run_setObj_map _ hb, Result.andThen, World.putObj]
    · rw [← g8, ← erase_map, ← he, Array.eraseIdxIfInBounds, dif_pos hlt, Array.toList_eraseIdx, erase_map]
structure IT (ω : Tg) (w : World) (u r t g : Nat) (al rest : AL) : Prop where
  ex : ∃ es clock since seen c0, w.heap[g]? = some (.map es clock) ∧ MapKept.Stamped es clock ∧ es.toList.map (fun e => (e.key, e.val)) = al.map encE ∧
    w.heap[r]? = some (.mapIter (some g) since seen c0) ∧ (∀ x ∈ es.toList, x.born < since) ∧ since ≤ c0 ∧ since ≤ clock ∧ (leftOf es seen).toList.map (fun e => (e.key, e.val)) = rest.map encE
  tg : ω g = t
  tr : ω r = u
variable {u r : Nat} {rest : AL}
theorem IT.map (h : IT ω w u r t g al rest) : MV ω w t g al := by
  obtain ⟨es, clock, since, seen, c0, hb, hs, he, _⟩ := h.ex
  exact ⟨⟨es, clock, hb, hs, he⟩, h.tg⟩
theorem IT.stp (h : IT ω w u r t g al rest) (s : Stp T ω ω' w w') (n1 : T u = false) (n2 : T t = false) : IT ω' w' u r t g al rest := by
  obtain ⟨es, clock, since, seen, c0, hb, hs, he, hr, x⟩ := h.ex
  exact ⟨⟨es, clock, since, seen, c0, by rw [s.block g (heap_lt hb) (by rw [h.tg]; exact n2)]; exact hb, hs, he, by rw [s.block r (heap_lt hr) (by rw [h.tr]; exact n1)]; exact hr, x⟩, (s.same g (heap_lt hb)).trans h.tg, (s.same r (heap_lt hr)).trans h.tr⟩
theorem rangeV {mt kt et : TypeId} (u : Nat) (h : MV ω w t g al) (hm : P.underlying mt = some (.map kt et)) {K : Option Addr → World → Prop}
    (hK : ∀ r ω' w', Stp Non ω ω' w w' → IT ω' w' u r t g al al → K (some ⟨r, 0, none⟩) w') : G.runP P (Instr.range mt (.map (some g))) w K := by
  obtain ⟨es, clock, hb, hs, he⟩ := h.ex
  have hg := heap_lt hb
  refine ⟨some ⟨w.heap.size, 0, none⟩, w.alloc (.mapIter (some g) clock #[] clock), ?_, hK w.heap.size (ext ω w.heap.size u) _ ((Keep.alloc w _).stp ω u) ⟨⟨es, clock, clock, #[], clock, (Keep.alloc w _).heap hb, hs, he, World.alloc_heap_new w _, ((MapKept.stamped_iff es clock).1 hs).1, Nat.le_refl _, Nat.le_refl _, ?_⟩, ?_, ext_new (Nat.le_refl _)⟩⟩
  · simp [Instr.range, run_underlying hm, MapKept.run_getObj_map hb, Result.andThen, newObj, Sem.run]
  · rw [← he]; simp only [leftOf, Array.toList_filter]; rw [List.filter_eq_self.2 (by simp)]
  · rw [ext_old hg]; exact h.tag
theorem setBlock_stp {o : Obj} (hr : ω r = u) : Stp (One u) ω ω w (ChangeMaps.setBlock w r o) :=
  ⟨rfl, rfl, rfl, by simp [ChangeMaps.setBlock], fun _ _ => rfl, fun k hk hT => by
    have hne : r ≠ k := fun e => by subst e; rw [hr, one_self] at hT; cases hT
    simp [ChangeMaps.setBlock, hne]⟩
theorem left_push {es : Array MapEntry} {seen : Array Nat} {e : MapEntry} (hn : (es.toList.map (·.born)).Nodup) (he : e ∈ (leftOf es seen).toList) :
    ∃ a b, (leftOf es seen).toList = a ++ e :: b ∧ (leftOf es (seen.push e.born)).toList = a ++ b := by
  have h1 : (leftOf es (seen.push e.born)).toList = (leftOf es seen).toList.filter fun x => !(x.born == e.born) := by
    simp only [leftOf, Array.toList_filter, List.filter_filter]
    congr 1
    funext x
    simp only [Array.contains_push, Bool.not_or]
    rw [Bool.and_comm]
  have hn' : ((leftOf es seen).toList.map (·.born)).Nodup := by
    have : (leftOf es seen).toList.Sublist es.toList := by simp only [leftOf, Array.toList_filter]; exact List.filter_sublist
    exact (this.map _).nodup hn
  obtain ⟨a, b, hab⟩ := List.append_of_mem he
  refine ⟨a, b, hab, ?_⟩
  rw [h1, hab, List.filter_append, List.filter_cons]
  simp only [beq_self_eq_true, Bool.not_true, Bool.false_eq_true, if_false]
  rw [hab] at hn'
  simp only [List.map_append, List.map_cons] at hn'
  have hd := List.nodup_append.1 hn'
  have fa : ∀ x ∈ a, (!(x.born == e.born)) = true := fun x hx => by
    have := hd.2.2 _ (List.mem_map_of_mem hx) _ (List.mem_cons_self ..)
    simpa using this
  have fb : ∀ x ∈ b, (!(x.born == e.born)) = true := fun x hx => by
    have := (List.nodup_cons.1 hd.2.1).1
    simp only [Bool.not_eq_true', beq_eq_false_iff_ne]
    intro q
    exact this (by rw [← q]; exact List.mem_map_of_mem hx)
  rw [List.filter_eq_self.2 fa, List.filter_eq_self.2 fb]
theorem nextV {ty : TypeId} (h : IT ω w u r t g al rest) {K0 : World → Prop} {K1 : Value → Value → World → Prop} (h0 : rest = [] → K0 w)
    (h1 : ∀ a x b ω' w', rest = a ++ x :: b → Stp (One u) ω ω' w w' → IT ω' w' u r t g al (a ++ b) → (∀ K : Value → Value → Prop, K (.string x.1) x.2 → G.ent P (Instr.entry (.pointer (some ⟨r, 0, none⟩))) w' K) → ∀ k v, K1 k v w') :
    G.nxt P (Instr.next (.pointer (some ⟨r, 0, none⟩)) false ty) w K0 K1 := by
  obtain ⟨es, clock, since, seen, c0, hb, hs, he, hr, hold, hsc, hcl, hl⟩ := h.ex
  have hn := ((MapKept.stamped_iff es clock).1 hs).2.1
  have hne : r ≠ g := fun e => by subst e; rw [hb] at hr; cases hr
  rcases run_next_at (P := P) w ty r g since c0 seen es clock hr hb hold hsc with ⟨hz, hrun⟩ | ⟨e, hem, w1, hw1, hrun⟩
  · refine ⟨w, .inl ⟨hrun, h0 ?_⟩⟩
    have : rest.length = 0 := by have := congrArg List.length hl; simpa [hz] using this.symm
    exact List.eq_nil_of_length_eq_zero this
  · obtain ⟨a, b, hab, hab'⟩ := left_push hn hem
    rw [hab] at hl
    simp only [List.map_append, List.map_cons] at hl
    obtain ⟨ra, rb, hrab, h2, h3⟩ := List.map_eq_append_iff.1 hl.symm
    cases rb with
    | nil => simp at h3
    | cons x rb =>
      simp only [List.map_cons, List.cons.injEq, encE, Prod.mk.injEq] at h3
      have s1 : Stp (One u) ω ω w w1 := by
        rcases hw1 with rfl | rfl
        · exact Stp.refl _ _ _
        · exact (drew_stp ω w).non _
      have hb1 : w1.heap[g]? = some (.map es clock) := by rcases hw1 with rfl | rfl <;> exact hb
      have hr1 : w1.heap[r]? = some (.mapIter (some g) since seen c0) := by rcases hw1 with rfl | rfl <;> exact hr
      have hb2 : (ChangeMaps.setBlock w1 r (.mapIter (some g) since (seen.push e.born) clock)).heap[g]? = some (.map es clock) := by
        simp [ChangeMaps.setBlock, hne, hb1]
      have hr2 : (ChangeMaps.setBlock w1 r (.mapIter (some g) since (seen.push e.born) clock)).heap[r]? = some (.mapIter (some g) since (seen.push e.born) clock) := by
        have := heap_lt hr1
        simp [ChangeMaps.setBlock, this]
      have hes : e ∈ es.toList := by
        have : (leftOf es seen).toList.Sublist es.toList := by simp only [leftOf, Array.toList_filter]; exact List.filter_sublist
        exact this.subset hem
      refine ⟨_, .inr ⟨e.key, e.val, hrun, h1 ra x rb ω _ hrab (s1.trans (setBlock_stp h.tr)) ⟨⟨es, clock, since, seen.push e.born, clock, hb2, hs, he, hr2, hold, hcl, hcl, ?_⟩, h.tg, h.tr⟩ (fun K hK => ⟨_, _, run_entry_at _ r g since seen es clock e hr2 hb2 hes hn, ?_⟩) _ _⟩⟩
      · rw [hab', List.map_append, List.map_append, h2, ← h3.2]
      · have e1 : e.key = .string x.1 := h3.1.1.symm
        have e2 : e.val = x.2 := h3.1.2.symm
        rw [e1, e2]; exact hK
end Go.Proofs.YtechilkjfhpkpaaGreatDoor.Mem

namespace Go.Proofs.YtechilkjfhpkpaaGreatDoor.Ru
open Go Vm Num Mem Utf Lib Lab
abbrev noB : ByteArray := ⟨#[]⟩
abbrev ltN (a b : Lb) : Prop := cB a.1 b.1 < 0
theorem ltN_irr (a : Lb) : ¬ ltN a a := by unfold ltN; rw [cB_cmp.self]; decide
theorem lt_or {a b : ByteArray} (h : a ≠ b) : cB a b < 0 ∨ cB b a < 0 := by
  have h1 := cB_cmp.vals a b
  have h2 := cB_cmp.anti a b
  have h3 : cB a b ≠ 0 := fun e => h ((cB_cmp.eq a b).1 e)
  omega
theorem lt_not {a b : ByteArray} (h : cB a b < 0) : ¬ cB b a < 0 := by have := cB_cmp.anti a b; omega
theorem ltB_ne {a b : ByteArray} (h : cB a b < 0) : a ≠ b := fun e => by rw [e, cB_cmp.self] at h; exact absurd h (by decide)
def insN (x : Lb) : List Lb → List Lb
  | [] => [x]
  | y :: l => if cB x.1 y.1 < 0 then x :: y :: l else y :: insN x l
def srtN (l : List Lb) : List Lb := l.foldl (fun acc x => insN x acc) []
theorem insN_perm (x : Lb) : ∀ l, (insN x l).Perm (x :: l)
  | [] => List.Perm.refl _
  | y :: l => by
    unfold insN
    split
    · exact List.Perm.refl _
    · exact ((insN_perm x l).cons y).trans (List.Perm.swap x y l)
theorem insN_up {x : Lb} : ∀ {l : List Lb}, l.Pairwise ltN → (∀ y ∈ l, y.1 ≠ x.1) → (insN x l).Pairwise ltN
  | [], _, _ => List.pairwise_singleton _ _
  | y :: l, h, hn => by
    have h' := List.pairwise_cons.1 h
    unfold insN
    split
    · rename_i hlt
      refine List.pairwise_cons.2 ⟨fun z hz => ?_, h⟩
      rcases List.mem_cons.1 hz with rfl | hz
      · exact hlt
      · exact cB_cmp.trans _ _ _ hlt (h'.1 z hz)
    · rename_i hge
      refine List.pairwise_cons.2 ⟨fun z hz => ?_, insN_up h'.2 fun z hz => hn z (List.mem_cons_of_mem _ hz)⟩
      rcases List.mem_cons.1 ((insN_perm x l).mem_iff.1 hz) with rfl | hz
      · rcases lt_or (hn y List.mem_cons_self) with h1 | h1
        · exact h1
        · exact absurd h1 hge
      · exact h'.1 z hz
theorem srt_go : ∀ (l acc : List Lb), (l.foldl (fun acc x => insN x acc) acc).Perm (acc ++ l)
  | [], acc => by simp
  | x :: l, acc => by
    refine (srt_go l (insN x acc)).trans ?_
    refine ((insN_perm x acc).append_right l).trans ?_
    exact (List.perm_middle (a := x) (l₁ := acc) (l₂ := l)).symm
theorem srtN_perm (l : List Lb) : (srtN l).Perm l := by have := srt_go l []; rw [List.nil_append] at this; exact this
theorem srtN_up {l : List Lb} (h : (l.map (·.1)).Nodup) : (srtN l).Pairwise ltN := by
  have key : ∀ (l acc : List Lb), acc.Pairwise ltN → ((acc ++ l).map (·.1)).Nodup → (l.foldl (fun acc x => insN x acc) acc).Pairwise ltN := by
    intro l
    induction l with
    | nil => intro acc h _; exact h
    | cons x l ih =>
      intro acc h hn
      have hn' : ((insN x acc ++ l).map (·.1)).Nodup := by
        refine List.Perm.nodup ?_ hn
        refine List.Perm.map _ ?_
        exact (List.perm_middle (a := x) (l₁ := acc) (l₂ := l)).trans ((insN_perm x acc).symm.append_right l)
      refine ih _ (insN_up h fun y hy e => ?_) hn'
      rw [List.map_append, List.nodup_append] at hn
      exact hn.2.2 y.1 (List.mem_map_of_mem hy) x.1 (by simp) e
  exact key l [] List.Pairwise.nil (by simpa using h)
theorem up_eq : ∀ {a b : List Lb}, a.Pairwise ltN → b.Pairwise ltN → (∀ x, x ∈ a ↔ x ∈ b) → a = b
  | [], [], _, _, _ => rfl
  | [], y :: b, _, _, h => by have := (h y).2 List.mem_cons_self; cases this
  | x :: a, [], _, _, h => by have := (h x).1 List.mem_cons_self; cases this
  | x :: a, y :: b, ha, hb, h => by
    have ha' := List.pairwise_cons.1 ha
    have hb' := List.pairwise_cons.1 hb
    have e : x = y := by
      rcases List.mem_cons.1 ((h x).1 List.mem_cons_self) with e | h1
      · exact e
      · rcases List.mem_cons.1 ((h y).2 List.mem_cons_self) with e | h2
        · exact e.symm
        · exact absurd (hb'.1 x h1) (lt_not (ha'.1 y h2))
    subst e
    rw [up_eq ha'.2 hb'.2 fun z => ⟨fun hz => ?_, fun hz => ?_⟩]
    · rcases List.mem_cons.1 ((h z).1 (List.mem_cons_of_mem _ hz)) with e | h1
      · rw [e] at hz; exact absurd (ha'.1 x hz) (ltN_irr x)
      · exact h1
    · rcases List.mem_cons.1 ((h z).2 (List.mem_cons_of_mem _ hz)) with e | h1
      · rw [e] at hz; exact absurd (hb'.1 x hz) (ltN_irr x)
      · exact h1
theorem up_names {l : List Lb} (h : l.Pairwise ltN) : (l.map (·.1)).Nodup := by
  rw [List.Nodup, List.pairwise_map]
  exact h.imp fun h => ltB_ne h
instance decMem (n : ByteArray) (l : List ByteArray) : Decidable (n ∈ l) := decidable_of_iff (l.any (fun y => decide (y = n)) = true) (by simp)
def namesL (l : List Lb) : List ByteArray := l.map (·.1)
def pickN (ns : List ByteArray) (l : List Lb) : List Lb := l.filter fun x => !decide (x.1 ∈ ns)
def fullN (l : List Lb) : List Lb := l.filter fun x => decide (x.2 ≠ noB)
def outL (l more : List Lb) : List Lb := srtN (fullN (pickN (namesL more) l ++ more))
theorem mem_pickN {ns : List ByteArray} {l : List Lb} {x : Lb} : x ∈ pickN ns l ↔ x ∈ l ∧ x.1 ∉ ns := by unfold pickN; rw [List.mem_filter]; simp
theorem mem_fullN {l : List Lb} {x : Lb} : x ∈ fullN l ↔ x ∈ l ∧ x.2 ≠ noB := by unfold fullN; rw [List.mem_filter]; simp
theorem mem_outL {l more : List Lb} {x : Lb} : x ∈ outL l more ↔ x.2 ≠ noB ∧ (x ∈ more ∨ (x ∈ l ∧ x.1 ∉ namesL more)) := by
  unfold outL
  rw [(srtN_perm _).mem_iff, mem_fullN, List.mem_append, mem_pickN]
  constructor
  · rintro ⟨h1 | h1, h2⟩
    · exact ⟨h2, .inr h1⟩
    · exact ⟨h2, .inl h1⟩
  · rintro ⟨h2, h1 | h1⟩
    · exact ⟨.inr h1, h2⟩
    · exact ⟨.inl h1, h2⟩
theorem both_names {l more : List Lb} (hl : (namesL l).Nodup) (hm : (namesL more).Nodup) : (namesL (pickN (namesL more) l ++ more)).Nodup := by
  unfold namesL
  rw [List.map_append, List.nodup_append]
  refine ⟨((List.filter_sublist (l := l) (p := fun x : Lb => !decide (x.1 ∈ namesL more))).map (fun x : Lb => x.1)).nodup hl, hm, fun a ha b hb e => ?_⟩
  obtain ⟨x, hx, rfl⟩ := List.mem_map.1 ha
  exact (mem_pickN.1 hx).2 (by rw [e]; exact hb)
theorem outL_up {l more : List Lb} (hl : (namesL l).Nodup) (hm : (namesL more).Nodup) : (outL l more).Pairwise ltN :=
  srtN_up (((List.filter_sublist (p := fun x : Lb => decide (x.2 ≠ noB))).map (fun x : Lb => x.1)).nodup (both_names hl hm))
theorem outL_eq {l more r : List Lb} (hl : (namesL l).Nodup) (hm : (namesL more).Nodup) (hr : r.Pairwise ltN) (h : ∀ x, x ∈ r ↔ x.2 ≠ noB ∧ (x ∈ more ∨ (x ∈ l ∧ x.1 ∉ namesL more))) : r = outL l more :=
  up_eq hr (outL_up hl hm) fun x => by rw [h, mem_outL]
def encN (x : Lb) : ByteArray × Value := (x.1, .string x.2)
def updN (x : Lb) : List Lb → List Lb
  | [] => [x]
  | y :: l => if x.1 = y.1 then x :: l else y :: updN x l
theorem updN_map (x : Lb) : ∀ l : List Lb, updA x.1 (.string x.2) (l.map encN) = (updN x l).map encN
  | [] => rfl
  | y :: l => by
    rw [List.map_cons]
    show updA x.1 (.string x.2) ((y.1, Value.string y.2) :: l.map encN) = _
    unfold updA updN
    by_cases h : x.1 = y.1
    · rw [if_pos h, if_pos h]; rfl
    · rw [if_neg h, if_neg h, updN_map x l]; rfl
theorem mem_updN {x y : Lb} : ∀ {l : List Lb}, (namesL l).Nodup → (y ∈ updN x l ↔ y = x ∨ (y ∈ l ∧ y.1 ≠ x.1))
  | [], _ => by simp [updN]
  | z :: l, h => by
    have h' := List.nodup_cons.1 h
    unfold updN
    by_cases e : x.1 = z.1
    · rw [if_pos e, List.mem_cons, List.mem_cons]
      constructor
      · rintro (h1 | h1)
        · exact .inl h1
        · refine .inr ⟨.inr h1, fun e' => h'.1 ?_⟩
          rw [show ((fun x : Lb => x.1) z) = y.1 from (e'.trans e).symm]
          exact List.mem_map_of_mem h1
      · rintro (h1 | ⟨h1 | h1, h2⟩)
        · exact .inl h1
        · exact absurd (by rw [h1, e]) h2
        · exact .inr h1
    · rw [if_neg e, List.mem_cons, List.mem_cons, mem_updN h'.2]
      constructor
      · rintro (h1 | h1 | ⟨h1, h2⟩)
        · exact .inr ⟨.inl h1, by rw [h1]; exact fun h => e h.symm⟩
        · exact .inl h1
        · exact .inr ⟨.inr h1, h2⟩
      · rintro (h1 | ⟨h1 | h1, h2⟩)
        · exact .inr (.inl h1)
        · exact .inl h1
        · exact .inr (.inr ⟨h1, h2⟩)
theorem updN_sub {x : Lb} {n : ByteArray} : ∀ {l : List Lb}, n ∈ namesL (updN x l) → n = x.1 ∨ n ∈ namesL l
  | [], h => by simp [updN, namesL] at h; exact .inl h
  | z :: l, h => by
    unfold updN at h
    split at h
    · rcases List.mem_cons.1 h with h | h
      · exact .inl h
      · exact .inr (List.mem_cons_of_mem _ h)
    · rcases List.mem_cons.1 h with h | h
      · exact .inr (by rw [h]; exact List.mem_cons_self)
      · rcases updN_sub h with h | h
        · exact .inl h
        · exact .inr (List.mem_cons_of_mem _ h)
theorem updN_names {x : Lb} : ∀ {l : List Lb}, (namesL l).Nodup → (namesL (updN x l)).Nodup
  | [], _ => by simp [updN, namesL]
  | z :: l, h => by
    have h' := List.nodup_cons.1 h
    unfold updN
    by_cases e : x.1 = z.1
    · rw [if_pos e]
      show (x.1 :: namesL l).Nodup
      rw [e]; exact h
    · rw [if_neg e]
      refine List.nodup_cons.2 ⟨fun hm => ?_, updN_names h'.2⟩
      rcases updN_sub hm with h1 | h1
      · exact e h1.symm
      · exact h'.1 h1
def updAll (b l : List Lb) : List Lb := l.foldl (fun b x => updN x b) b
theorem updAll_names : ∀ (l : List Lb) {b : List Lb}, (namesL b).Nodup → (namesL (updAll b l)).Nodup
  | [], _, h => h
  | x :: l, b, h => updAll_names l (updN_names h)
theorem mem_updAll {y : Lb} : ∀ {l b : List Lb}, (namesL b).Nodup → (namesL l).Nodup → (y ∈ updAll b l ↔ y ∈ l ∨ (y ∈ b ∧ y.1 ∉ namesL l))
  | [], b, _, _ => by simp [updAll, namesL]
  | x :: l, b, hb, hl => by
    have h' := List.nodup_cons.1 hl
    show y ∈ updAll (updN x b) l ↔ _
    rw [mem_updAll (updN_names hb) h'.2, mem_updN hb]
    show _ ↔ y ∈ x :: l ∨ (y ∈ b ∧ y.1 ∉ x.1 :: namesL l)
    rw [List.mem_cons, List.mem_cons, not_or]
    constructor
    · rintro (h1 | ⟨h1 | ⟨h1, h2⟩, h3⟩)
      · exact .inl (.inr h1)
      · exact .inl (.inl h1)
      · exact .inr ⟨h1, h2, h3⟩
    · rintro ((h1 | h1) | ⟨h1, h2, h3⟩)
      · exact .inr ⟨.inl h1, by rw [h1]; exact h'.1⟩
      · exact .inl h1
      · exact .inr ⟨.inr ⟨h1, h2⟩, h3⟩
def atN (b : List Lb) (n : ByteArray) : ByteArray := match b.find? (fun x => decide (x.1 = n)) with | some x => x.2 | none => noB
def listN (b : List Lb) (ks : List ByteArray) : List Lb := ks.filterMap fun n => if atN b n = noB then none else some (n, atN b n)
theorem atN_mem {b : List Lb} (hb : (namesL b).Nodup) {x : Lb} (hx : x ∈ b) : atN b x.1 = x.2 := by
  unfold atN
  cases hf : b.find? (fun y => decide (y.1 = x.1)) with
  | none => have := List.find?_eq_none.1 hf x hx; simp at this
  | some y =>
    have h1 := List.mem_of_find?_eq_some hf
    have h2 : y.1 = x.1 := by have := List.find?_some hf; simpa using this
    have : y = x := by
      clear hf
      induction b with
      | nil => cases hx
      | cons z b ih =>
        have h' := List.nodup_cons.1 hb
        rcases List.mem_cons.1 hx with e | hx' <;> rcases List.mem_cons.1 h1 with e' | h1'
        · rw [e, e']
        · exact absurd (show z.1 ∈ namesL b by rw [← e, ← h2]; exact List.mem_map_of_mem h1') h'.1
        · exact absurd (show z.1 ∈ namesL b by rw [← e', h2]; exact List.mem_map_of_mem hx') h'.1
        · exact ih h'.2 hx' h1'
    rw [this]
theorem getV_atN (b : List Lb) (n : ByteArray) : getV n (b.map encN) = (b.find? (fun x => decide (x.1 = n))).map fun x => Value.string x.2 := by
  induction b with
  | nil => rfl
  | cons y b ih =>
    rw [List.map_cons]
    show getV n ((y.1, Value.string y.2) :: b.map encN) = _
    unfold getV
    rw [List.find?_cons]
    by_cases h : n = y.1
    · rw [if_pos h, decide_eq_true (show y.1 = n from h.symm)]; rfl
    · rw [if_neg h, decide_eq_false (fun e => h e.symm), ih]
theorem listN_out {l more : List Lb} {ks : List ByteArray} (hl : (namesL l).Nodup) (hm : (namesL more).Nodup) (hk : ks.Pairwise fun a b => cB a b < 0) (hp : ∀ n, n ∈ ks ↔ n ∈ namesL (updAll (updAll [] l) more)) : listN (updAll (updAll [] l) more) ks = outL l more := by
  have n0 : (namesL (updAll [] l)).Nodup := updAll_names l (b := []) List.nodup_nil
  have nb := updAll_names more n0
  refine outL_eq hl hm ?_ fun x => ?_
  · unfold listN
    rw [List.pairwise_filterMap]
    refine hk.imp fun {a b} h x hx y hy => ?_
    split at hx
    · cases hx
    · split at hy
      · cases hy
      · injection hx with hx; injection hy with hy
        rw [← hx, ← hy]; exact h
  · have hmem : x ∈ updAll (updAll [] l) more ↔ x ∈ more ∨ (x ∈ l ∧ x.1 ∉ namesL more) := by
      rw [mem_updAll n0 hm, mem_updAll (b := []) List.nodup_nil hl]
      simp
    rw [← hmem]
    unfold listN
    rw [List.mem_filterMap]
    constructor
    · rintro ⟨n, hn, h⟩
      split at h
      · cases h
      · rename_i hne
        injection h with h
        obtain ⟨y, hy, e⟩ := List.mem_map.1 ((hp n).1 hn)
        subst e
        rw [atN_mem nb hy] at h hne
        rw [← h]; exact ⟨hne, hy⟩
    · rintro ⟨h1, h2⟩
      refine ⟨x.1, (hp x.1).2 (List.mem_map_of_mem h2), ?_⟩
      rw [atN_mem nb h2, if_neg h1]
theorem back_lt {q x : ByteArray} : backB (some q) x = false ↔ cB q x < 0 := by
  rw [← back_cb, lessB]
  have h1 := cB_cmp.vals q x
  constructor
  · intro h
    have : cB q x = -1 := by simpa using h
    omega
  · intro h
    rw [decide_eq_true (show cB q x = -1 by omega)]; rfl
def goodL (x : Lb) : Prop := namedB (Utf.bytes x.1) 64 false = true ∧ valE (Utf.bytes x.2) = 0
theorem rtGo_iff : ∀ (r : List Lb) (p : Option ByteArray) (i : Nat), (rtGo p r i).1 = 0 ↔ (∀ x ∈ r, goodL x) ∧ r.Pairwise ltN ∧ (∀ x, r.head? = some x → ∀ q, p = some q → cB q x.1 < 0)
  | [], p, i => by simp [rtGo]
  | y :: r, p, i => by
    have ih := rtGo_iff r (some y.1) (i + 1)
    rw [rtGo]
    by_cases h1 : namedB (Utf.bytes y.1) 64 false = false
    · rw [if_pos h1]
      refine ⟨fun h => absurd (show (40 : Int) = 0 from h) (by decide), fun h => ?_⟩
      have := (h.1 y List.mem_cons_self).1
      rw [h1] at this; cases this
    rw [if_neg h1]
    by_cases h2 : valE (Utf.bytes y.2) ≠ 0
    · rw [if_pos h2]
      exact ⟨fun h => absurd h h2, fun h => absurd (h.1 y List.mem_cons_self).2 h2⟩
    rw [if_neg h2]
    have gy : goodL y := ⟨by simpa using h1, by simpa using h2⟩
    by_cases h3 : backB p y.1 = true
    · rw [if_pos h3]
      refine ⟨fun h => absurd (show (3 : Int) = 0 from h) (by decide), fun h => ?_⟩
      cases p with
      | none => cases h3
      | some q =>
        have := back_lt.2 (h.2.2 y rfl q rfl)
        rw [h3] at this; cases this
    rw [if_neg h3, ih]
    have hp : ∀ q, p = some q → cB q y.1 < 0 := fun q hq => by subst hq; exact back_lt.1 (by simpa using h3)
    constructor
    · rintro ⟨a, b, c⟩
      refine ⟨fun x hx => ?_, List.pairwise_cons.2 ⟨fun x hx => ?_, b⟩, fun x hx q hq => ?_⟩
      · rcases List.mem_cons.1 hx with rfl | hx
        · exact gy
        · exact a x hx
      · cases r with
        | nil => cases hx
        | cons z r =>
          have hz := c z rfl y.1 rfl
          rcases List.mem_cons.1 hx with rfl | hx
          · exact hz
          · exact cB_cmp.trans _ _ _ hz ((List.pairwise_cons.1 b).1 x hx)
      · simp only [List.head?_cons, Option.some.injEq] at hx
        subst hx; exact hp q hq
    · rintro ⟨a, b, c⟩
      have b' := List.pairwise_cons.1 b
      refine ⟨fun x hx => a x (List.mem_cons_of_mem _ hx), b'.2, fun x hx q hq => ?_⟩
      injection hq with hq
      subst hq
      exact b'.1 x (List.mem_of_mem_head? hx)
theorem rt_iff (l : List Lb) : (rt l).1 = 0 ↔ l.length ≤ 16 ∧ (∀ x ∈ l, goodL x) ∧ l.Pairwise ltN := by
  unfold rt
  by_cases h : l.length > 16
  · rw [if_pos h]
    exact ⟨fun h => absurd (show (8 : Int) = 0 from h) (by decide), fun h' => by omega⟩
  · rw [if_neg h, rtGo_iff]
    exact ⟨fun h' => ⟨by omega, h'.1, h'.2.1⟩, fun h' => ⟨h'.2.1, h'.2.2, fun _ _ _ e => by cases e⟩⟩
theorem rt_ns {l : List Lb} (h : (rt l).1 = 0) : (namesL l).Nodup := up_names ((rt_iff l).1 h).2.2
theorem good_ne {x : Lb} (h : goodL x) : x.2 ≠ noB := fun e => by
  have h2 := h.2
  rw [e] at h2
  exact absurd h2 (by decide +kernel)
theorem outL_rt {l more : List Lb} (hl : (rt l).1 = 0) (hm : (namesL more).Nodup) (hg : ∀ x ∈ more, x.2 ≠ noB → goodL x) (h16 : (outL l more).length ≤ 16) : (rt (outL l more)).1 = 0 := by
  refine (rt_iff _).2 ⟨h16, fun x hx => ?_, outL_up (rt_ns hl) hm⟩
  obtain ⟨h1, h2 | h2⟩ := mem_outL.1 hx
  · exact hg x h2 h1
  · exact ((rt_iff l).1 hl).2.1 x h2.1
end Go.Proofs.YtechilkjfhpkpaaGreatDoor.Ru

namespace Go.Proofs.YtechilkjfhpkpaaGreatDoor.Vint
open Go Vm Go.RowKit Num Mem
def putU (n : Nat) : List UInt8 := if n < 128 then [UInt8.ofNat n] else UInt8.ofNat (n % 128 + 128) :: putU (n / 128)
termination_by n
decreasing_by omega
theorem putU_lt {n : Nat} (h : n < 128) : putU n = [UInt8.ofNat n] := by rw [putU, if_pos h]
theorem putU_ge {n : Nat} (h : ¬ n < 128) : putU n = UInt8.ofNat (n % 128 + 128) :: putU (n / 128) := by rw [putU, if_neg h]
theorem putU_len : ∀ (k n : Nat), n < 128 ^ (k + 1) → (putU n).length ≤ k + 1
  | 0, n, h => by rw [putU_lt (by simpa using h)]; simp
  | k + 1, n, h => by
    by_cases hn : n < 128
    · rw [putU_lt hn]; simp
    · rw [putU_ge hn]
      have := putU_len k (n / 128) (Nat.div_lt_of_lt_mul (by rw [Nat.pow_succ] at h; omega))
      simp; omega
theorem p128 : (18446744073709551616 : Nat) ≤ 128 ^ (9 + 1) := by decide +kernel
theorem putU_len64 {n : Nat} (h : n < 18446744073709551616) : (putU n).length ≤ 10 := by
  have h1 := p128
  have := putU_len 9 n (by generalize 128 ^ (9 + 1) = q at *; omega)
  omega
theorem or128 : ∀ m : Fin 256, (m.val ||| 128) = m.val % 128 + 128 := by decide +kernel
theorem elem_or (n : Nat) : Value.int .u8 (Go.bits .or .u8 (IntKind.u8.wrap (n : Int)) (128 : Int)) = vB (UInt8.ofNat (n % 128 + 128)) := by
  have e1 : IntKind.u8.wrap (n : Int) = ((n % 256 : Nat) : Int) := by rw [wU8]; omega
  have e2 : (128 : Int) = ((128 : Nat) : Int) := rfl
  rw [e1, e2, bits_or rfl (by simp [IntKind.bits]; omega) (by simp [IntKind.bits]), ← vB_lit (by omega)]
  have := or128 ⟨n % 256, by omega⟩
  simp only at this
  rw [this]
  congr 1
  omega
theorem elem_low {n : Nat} (h : n < 128) : Value.int .u8 (IntKind.u8.wrap (n : Int)) = vB (UInt8.ofNat n) := by
  rw [wU8_id (by omega) (by omega), vB_lit (by omega)]
theorem joined_ok {w : World} {b c : Sl} {l m : List UInt8} (hb : RdB w b l) (hc : RdB w c m) (hl : l.length + m.length ≤ 140737488355328) {K : Sl → World → Prop}
    (hK : ∀ r w', Keep w w' → OwnB w' w.heap.size r (l ++ m) → K r w') : C.vint_joined b c w K := by
  have h1 := hb.len
  have h2 := hc.len
  unfold C.vint_joined
  refine make0B (c := l.length + m.length) (by rw [wI64 (by omega) (by omega), h1, h2]; rfl) (Keep.refl w) (Nat.le_refl _) hl fun r0 w1 k1 o1 => ?_
  refine appB k1 k1.size o1 (hb.keep k1) (by simp; omega) fun r1 w2 k2 o2 => ?_
  refine appB k2 k2.size o2 (hc.keep k2) (by simp; omega) fun r2 w3 k3 o3 => ?_
  exact hK r2 w3 k3 (by simpa using o3)
theorem putU_ok {w0 : World} {b : Sl} {l : List UInt8} {n : Nat} (hn : n < 18446744073709551616) (hb : RdB w0 b l) (hl : l.length ≤ 140737488355300) {K : Sl → World → Prop}
    (hK : ∀ r w', Keep w0 w' → OwnB w' w0.heap.size r (l ++ putU n) → K r w') : C.vint_PutU b (n : Int) w0 K := by
  unfold C.vint_PutU
  refine C.vint_PutU.L5_ind fun X hX => ?_
  have key : ∀ (n : Nat) (pre : List UInt8) (c : Sl) (w : World), n < 18446744073709551616 → (pre ++ putU n).length ≤ 10 → Keep w0 w → OwnB w w0.heap.size c pre →
      (∀ r w', Keep w0 w' → OwnB w' w0.heap.size r (l ++ (pre ++ putU n)) → K r w') → X b (n : Int) c w := by
    intro n
    induction n using Nat.strongRecOn with
    | _ n ih =>
      intro pre c w hn hlen hk ho hK
      refine hX _ _ _ _ ?_
      unfold C.vint_PutU.S7
      have hpre : pre.length ≤ 10 := by simp at hlen; omega
      refine cond_d (fun h => ?_) (fun h => ?_)
      · have h' : ¬ n < 128 := by omega
        rw [putU_ge h'] at hlen hK
        refine pushB (m := [UInt8.ofNat (n % 128 + 128)]) hk hk.size ho (by rw [elem_or]; rfl) (by rfl) (by omega) fun r w' k1 k2 => ?_
        refine ⟨by decide, ?_⟩
        have e : shr .u64 (n : Int) (7 : Int) = ((n / 128 : Nat) : Int) := by
          have := shr_nat .u64 (n : Int) 7 (by decide)
          rw [show ((7 : Nat) : Int) = (7 : Int) from rfl] at this
          rw [this]; omega
        rw [e]
        refine ih (n / 128) (by omega) _ r w' (by omega) (by simpa using hlen) k1 k2 fun r w' k o => hK r w' k (by simpa using o)
      · have h' : n < 128 := by omega
        rw [putU_lt h'] at hK
        unfold C.vint_PutU.S2
        refine pushB (m := [UInt8.ofNat n]) hk hk.size ho (by rw [elem_low h']; rfl) (by rfl) (by omega) fun r w' k1 k2 => ?_
        refine joined_ok (hb.keep k1) k2.rd (by simp; omega) fun r w2 k3 o3 => ?_
        exact hK r w2 (Keep.trans k1 k3) (o3.mono k1.size)
  exact key n [] nilS w0 hn (by simpa using putU_len64 hn) (Keep.refl _) (OwnB.nil _ _) (by simpa using hK)
end Go.Proofs.YtechilkjfhpkpaaGreatDoor.Vint

namespace Go.Proofs.YtechilkjfhpkpaaGreatDoor.Lab
open Go Vm Num Mem Utf Lib Vint
variable {ω ω' : Tg} {w w' w0 : World}
theorem putText_ok {b : Sl} {l : List UInt8} {s : ByteArray} (hb : RdB w b l) (hl : l.length + s.size ≤ 140737488000000) {K : Sl → World → Prop}
    (hK : ∀ r w', Keep w w' → OwnB w' w.heap.size r (l ++ (putU s.size ++ Utf.bytes s)) → K r w') : C.vint_PutText b s w K := by
  have hz : (Utf.bytes s).length = s.size := (size_eq s).symm
  have hp := putU_len64 (n := s.size) (by omega)
  unfold C.vint_PutText
  rw [wU64_id (by omega) (by omega)]
  refine putU_ok (by omega) hb (by omega) fun r w1 k1 o1 => ?_
  refine convSB fun t w2 k2 o2 => ?_
  refine joined_ok (Own.keep o1 k2).rd o2 (by simp only [List.length_append]; omega) fun r3 w3 k3 o3 => ?_
  have k12 := Keep.trans k1 k2
  exact hK r3 w3 (Keep.trans k12 k3) (by have := o3.mono k12.size; simpa using this)
theorem szB (s : ByteArray) : s.size = (Utf.bytes s).length := size_eq s
def txt (s : ByteArray) : List UInt8 := putU s.size ++ Utf.bytes s
def labB (x : Lb) : List UInt8 := txt x.1 ++ txt x.2
def put (l : List Lb) : List UInt8 := putU l.length ++ l.flatMap labB
theorem named_len {l : List UInt8} {m : Nat} {c : Bool} (h : namedB l m c = true) : l.length ≤ m := by
  unfold namedB at h
  simp only [Bool.and_eq_true, decide_eq_true_eq] at h
  exact h.2.1
theorem valE_len {l : List UInt8} (h : valE l = 0) : l.length ≤ 256 := by
  unfold valE at h
  split at h
  · cases h
  · split at h
    · cases h
    · omega
theorem rt_short {l : List Lb} (h : (rt l).1 = 0) : l.length ≤ 16 ∧ ∀ x ∈ l, x.1.size ≤ 64 ∧ x.2.size ≤ 256 := by
  unfold rt at h
  split at h
  · exact absurd (show (8 : Int) = 0 from h) (by decide)
  · refine ⟨by omega, ?_⟩
    have key : ∀ (r : List Lb) (p : Option ByteArray) (i : Nat), (rtGo p r i).1 = 0 → ∀ x ∈ r, x.1.size ≤ 64 ∧ x.2.size ≤ 256 := by
      intro r
      induction r with
      | nil => intro p i _ x hx; cases hx
      | cons y r ih =>
        intro p i h x hx
        rw [rtGo] at h
        split at h
        · exact absurd (show (40 : Int) = 0 from h) (by decide)
        · rename_i h1
          split at h
          · rename_i h2; exact absurd h h2
          · rename_i h2
            split at h
            · exact absurd (show (3 : Int) = 0 from h) (by decide)
            · rcases List.mem_cons.1 hx with rfl | hx
              · have a := named_len (by simpa using h1 : namedB (Utf.bytes x.1) 64 false = true)
                have b := valE_len (by simpa using h2)
                have e1 := szB x.1
                have e2 := szB x.2
                exact ⟨by omega, by omega⟩
              · exact ih _ _ h x hx
    exact key l none 0 h
theorem labB_len {x : Lb} (h : x.1.size ≤ 64 ∧ x.2.size ≤ 256) : (labB x).length ≤ 340 := by
  have e1 := szB x.1
  have e2 := szB x.2
  have p1 := putU_len64 (n := x.1.size) (by omega)
  have p2 := putU_len64 (n := x.2.size) (by omega)
  simp only [labB, txt, List.length_append]
  omega
theorem flat_len : ∀ (l : List Lb), (∀ x ∈ l, x.1.size ≤ 64 ∧ x.2.size ≤ 256) → (l.flatMap labB).length ≤ 340 * l.length
  | [], _ => by simp
  | x :: l, h => by
    have a := labB_len (h x (List.mem_cons_self ..))
    have b := flat_len l fun y hy => h y (List.mem_cons_of_mem _ hy)
    simp only [List.flatMap_cons, List.length_append, List.length_cons]
    omega
theorem put_ok {s : Sl} {m : List Lb} (ht : UTab w0) (hs : Rd w0 s 2 (labs m)) (hr : (rt m).1 = 0) {K : Sl → Int → World → Prop} (hK : ∀ r w', Keep w0 w' → OwnB w' w0.heap.size r (put m) → K r 0 w') : C.labels_Put nilS s w0 K := by
  have hsn : s.n = m.length := by have := hs.2.1; rw [labs_len] at this; omega
  obtain ⟨h16, hsh⟩ := rt_short hr
  unfold C.labels_Put C.labels_right
  refine right_ok ht hs fun w1 k1 => ?_
  refine cond_f (by rw [hr]; rfl) ?_
  rw [wU64_id (by omega) (by omega), hsn]
  refine putU_ok (l := []) (by omega) (Rd.nil w1 1) (by decide) fun r w2 k2 o2 => ?_
  unfold C.labels_Put.S9
  have k02 := Keep.trans k1 k2
  have hp := putU_len64 (n := m.length) (by omega)
  refine C.labels_Put.L5_ind fun X hX => ?_
  have key : ∀ (d i : Nat) (q : Sl) (w : World), i + d = m.length → Keep w0 w → OwnB w w0.heap.size q (putU m.length ++ (m.take i).flatMap labB) → X q s ((s.n : Nat) : Int) (i : Int) w := by
    intro d
    induction d with
    | zero =>
      intro i q w hi k o
      refine hX _ _ _ _ _ ?_
      unfold C.labels_Put.S7 C.labels_Put.S2
      rw [List.take_of_length_le (by omega)] at o
      exact cond_d (fun h => by omega) (fun _ => hK q w k o)
    | succ d ih =>
      intro i q w hi k o
      have him : i < m.length := by omega
      refine hX _ _ _ _ _ ?_
      unfold C.labels_Put.S7
      refine cond_d (fun _ => ?_) (fun h => by omega)
      have hx : m[i]? = some m[i] := List.getElem?_eq_getElem him
      refine rdL_at (hs.keep k) (k := i) rfl hx fun a hc0 hc1 => cS_at hc0 <| cS_at hc1 ?_
      refine new_T (ω := fun _ => 0) 7 fun g ω2 w2 k2 b2 => ?_
      refine st_T b2 (by simp) fun ω3 w3 k3 b3 => ?_
      refine st_TA b3 (by simp) fun ω4 w4 k4 b4 => ?_
      have kT := ((Top.init w).stp ((k2.non (Mem.One 7)).trans (k3.trans k4))).k
      have kd := drew_stp ω4 w4
      have bd := b4.stp kd
      have k5 := Keep.trans kT kd.keep
      refine cS_at (b := m[i].1) (by rw [bd.cell]; rfl) <| cS_at (b := m[i].2) (by rw [addr_add, bd.cell]; rfl) ?_
      have hsx := hsh _ (List.getElem_mem him)
      have hfl := flat_len (m.take i) fun y hy => hsh y (List.mem_of_mem_take hy)
      rw [List.length_take, Nat.min_eq_left (by omega)] at hfl
      have e1 := szB m[i].1
      have p1 := putU_len64 (n := m[i].1.size) (by omega)
      refine putText_ok (Own.keep o k5).rd (by rw [List.length_append]; omega) fun r1 w5 k6 o5 => ⟨bd.sameA (k6.stp0 ω4), ?_⟩
      refine putText_ok o5.rd (by simp only [List.length_append]; omega) fun r2 w6 k7 o6 => ?_
      rw [wI64 (by omega) (by omega), show (i : Int) + 1 = ((i + 1 : Nat) : Int) by omega]
      have k57 := Keep.trans k (Keep.trans k5 (Keep.trans k6 k7))
      refine ih (i + 1) r2 w6 (by omega) k57 ?_
      have ef : (m.take (i + 1)).flatMap labB = (m.take i).flatMap labB ++ labB m[i] := by
        rw [List.take_add_one, hx, List.flatMap_append]; simp
      rw [ef]
      have o7 := o6.mono (Keep.trans k (Keep.trans k5 k6)).size
      simpa only [labB, txt, List.append_assoc] using o7
  refine key m.length 0 r w2 (by omega) k02 ?_
  simpa using o2.mono k1.size
end Go.Proofs.YtechilkjfhpkpaaGreatDoor.Lab

namespace Go.Proofs.YtechilkjfhpkpaaGreatDoor.Sm
open Go Vm Go.RowKit Num Mem
variable {ω ω' : Tg} {w w' w0 : World}
theorem rd_none {s : Sl} {sz : Nat} {xs : List Value} (h : Rd w s sz xs) (hs : 0 < sz) (hn : s.a.isNone = true) : xs = [] ∧ s.n = 0 := by
  have e : xs = [] := by
    by_cases e : xs = []
    · exact e
    · obtain ⟨g, o, ha, _⟩ := h.2.2 e
      rw [ha] at hn; cases hn
  refine ⟨e, ?_⟩
  have := h.2.1
  rw [e] at this
  rcases Nat.mul_eq_zero.1 this.symm with h | h
  · exact h
  · omega
theorem clone_ok {P : Program} {t e : TypeId} {sz bytes : Nat} (ti : TI P t e sz bytes) {s : Sl} {xs : List Value} (h : Rd w s sz xs) (h1 : ∀ v ∈ xs, v.oneCell' = true) (hm : s.n ≤ maxLen) (hy : s.n * bytes ≤ 140737488355328)
    {K : Sl → World → Prop} (hK : ∀ r w', Keep w w' → Mem.Own w' w.heap.size e sz r xs → r.n = s.n → K r w') :
    G.cond s.a.isNone (K nilS w) (G.new (.cells #[] e) w fun p w4 => G.runSl P (Builtin.append_ #[t, t] t #[(Sl.v (⟨some p, 0, 0⟩ : Sl)), s.v]) w4 fun l w6 => K l w6) := by
  refine cond_of (fun h0 => ?_) (fun h0 => new_at ?_)
  · obtain ⟨rfl, hn⟩ := rd_none h ti.pos h0
    exact hK nilS w (Keep.refl w) (Own.nil w _ _ _) hn.symm
  · have k := Keep.alloc w (.cells #[] e)
    have o : Mem.Own (w.alloc (.cells #[] e)) w.heap.size e sz ⟨some ⟨w.heap.size, 0, none⟩, 0, 0⟩ [] := Own.mk' (Nat.le_refl _) (Blk.new w e #[]) (Nat.le_refl _) (Nat.zero_le _) (by simp) (by simp)
    refine append_own ti k k.size o (h.keep k) h1 (by simpa using hm) (by simpa using hy) fun r w' k' o' hr _ => hK r w' k' (by simpa using o') (by simpa using hr)
end Go.Proofs.YtechilkjfhpkpaaGreatDoor.Sm

namespace Go.Proofs.YtechilkjfhpkpaaGreatDoor.Lab
open Go Vm Go.RowKit Num Mem Utf Lib Vint
variable {ω ω' : Tg} {w w' w0 : World}
theorem tiL : TI Tryz.prog 22 99 2 32 := TI.of (z := .agg #[.string ⟨#[]⟩, .string ⟨#[]⟩]) (by kernel_rfl) (by kernel_rfl) rfl (by decide)
theorem labs_one {l : List Lb} : ∀ v ∈ labs l, v.oneCell' = true := by
  intro v hv
  obtain ⟨s, _, hs⟩ := List.mem_flatMap.1 hv
  simp only [labC, List.mem_cons, List.not_mem_nil, or_false] at hs
  rcases hs with rfl | rfl <;> rfl
def keyOf (m : List Lb) : ByteArray := str (Lab.put m)
theorem u8_inj {a b : Nat} (ha : a < 256) (hb : b < 256) (h : UInt8.ofNat a = UInt8.ofNat b) : a = b := by
  have := congrArg UInt8.toNat h
  rw [UInt8.toNat_ofNat', UInt8.toNat_ofNat', Nat.mod_eq_of_lt ha, Nat.mod_eq_of_lt hb] at this
  exact this
theorem putU_inj : ∀ (f n n' : Nat) (y y' : List UInt8), n < f → putU n ++ y = putU n' ++ y' → n = n' ∧ y = y'
  | 0, n, n', y, y', h, _ => absurd h (Nat.not_lt_zero _)
  | f + 1, n, n', y, y', h, e => by
    by_cases h1 : n < 128 <;> by_cases h2 : n' < 128
    · rw [putU_lt h1, putU_lt h2] at e
      simp only [List.cons_append, List.nil_append, List.cons.injEq] at e
      exact ⟨u8_inj (by omega) (by omega) e.1, e.2⟩
    · rw [putU_lt h1, putU_ge h2] at e
      simp only [List.cons_append, List.nil_append, List.cons.injEq] at e
      have := u8_inj (by omega) (by omega) e.1
      omega
    · rw [putU_ge h1, putU_lt h2] at e
      simp only [List.cons_append, List.nil_append, List.cons.injEq] at e
      have := u8_inj (by omega) (by omega) e.1
      omega
    · rw [putU_ge h1, putU_ge h2] at e
      simp only [List.cons_append, List.cons.injEq] at e
      have e1 := u8_inj (by omega) (by omega) e.1
      obtain ⟨e2, e3⟩ := putU_inj f (n / 128) (n' / 128) y y' (by omega) e.2
      exact ⟨by omega, e3⟩
theorem txt_inj {s s' : ByteArray} {y y' : List UInt8} (h : txt s ++ y = txt s' ++ y') : s = s' ∧ y = y' := by
  unfold txt at h
  rw [List.append_assoc, List.append_assoc] at h
  obtain ⟨h1, h2⟩ := putU_inj _ _ _ _ _ (Nat.lt_succ_self _) h
  obtain ⟨h3, h4⟩ := List.append_inj h2 (by rw [← szB, ← szB, h1])
  refine ⟨?_, h4⟩
  have : s.data = s'.data := Array.toList_inj.1 h3
  cases s; cases s'; simp at this; rw [this]
theorem flat_inj : ∀ {a b : List Lb}, a.length = b.length → a.flatMap labB = b.flatMap labB → a = b
  | [], [], _, _ => rfl
  | [], y :: b, h, _ => by simp at h
  | x :: a, [], h, _ => by simp at h
  | x :: a, y :: b, h, e => by
    simp only [List.flatMap_cons, labB, List.append_assoc] at e
    obtain ⟨e1, e⟩ := txt_inj e
    obtain ⟨e2, e⟩ := txt_inj e
    rw [Prod.ext e1 e2, flat_inj (by simpa using h) e]
theorem put_inj {a b : List Lb} (h : Lab.put a = Lab.put b) : a = b := by
  unfold Lab.put at h
  obtain ⟨h1, h2⟩ := putU_inj _ _ _ _ _ (Nat.lt_succ_self _) h
  exact flat_inj h1 h2
theorem key_inj {a b : List Lb} (h : keyOf a = keyOf b) : a = b := by
  refine put_inj ?_
  have := congrArg Utf.bytes h
  rwa [keyOf, keyOf, bytes_str, bytes_str] at this
end Go.Proofs.YtechilkjfhpkpaaGreatDoor.Lab

namespace Go.Proofs.YtechilkjfhpkpaaGreatDoor.Mem
open Go Vm Go.RowKit Num
variable {ω ω' : Tg} {w w' : World} {t u g : Nat} {T : Nat → Bool} {e : TypeId} {sz : Nat} {s : Sl} {xs : List Value}
structure RT (ω : Tg) (w : World) (t : Nat) (s : Sl) (sz : Nat) (xs : List Value) : Prop where
  rd : Rd w s sz xs
  tag : ∀ g o, s.a = some ⟨g, o, none⟩ → xs ≠ [] → ω g = t
theorem RT.lt (h : RT ω w t s sz xs) {g o : Nat} (ha : s.a = some ⟨g, o, none⟩) (hne : xs ≠ []) : g < w.heap.size := by
  obtain ⟨g', o', ha', hc⟩ := h.rd.2.2 hne
  rw [ha] at ha'
  simp only [Option.some.injEq, Addr.mk.injEq] at ha'
  obtain ⟨rfl, rfl, _⟩ := ha'
  have hpos : 0 < xs.length := List.length_pos_iff.2 hne
  exact cell_lt (hc 0 xs[0] (List.getElem?_eq_getElem hpos))
theorem RT.stp (h : RT ω w t s sz xs) (k : Stp T ω ω' w w') (ne : T t = false := by rfl) : RT ω' w' t s sz xs := by
  refine ⟨⟨h.rd.1, h.rd.2.1, fun hne => ?_⟩, fun g o ha hne => (k.same g (h.lt ha hne)).trans (h.tag g o ha hne)⟩
  obtain ⟨g, o, ha, hc⟩ := h.rd.2.2 hne
  refine ⟨g, o, ha, fun j v hv => ?_⟩
  rw [World.cell?_of_block (w := w) (k.block g (h.lt ha hne) (by rw [h.tag g o ha hne]; exact ne))]
  exact hc j v hv
theorem RT.nil (ω : Tg) (w : World) (t sz : Nat) : RT ω w t nilS sz [] := ⟨Rd.nil w sz, fun _ _ _ h => absurd rfl h⟩
theorem OT.rt (h : OT ω w t e sz s xs) : RT ω w t s sz xs := ⟨h.rd, fun g o ha _ => h.tag g (by show (Value.slice s.a s.n s.c).ownBlock = _; rw [ha]; rfl)⟩
theorem Own.rt {B : Nat} (h : Mem.Own w' B e sz s xs) (hB : w.heap.size ≤ B) (ω : Tg) (t : Nat) : RT (ext ω w.heap.size t) w' t s sz xs := (Own.tag h hB ω t).rt
theorem RT.pre (h : RT ω w t s sz xs) {n : Nat} (hn : n ≤ s.n) {i : Int} (ei : i = (n : Int)) {K : Sl → Prop} (hK : ∀ r : Sl, RT ω w t r sz (xs.take (n * sz)) → r.n = n → K r) : G.slc s 0 i sz K := by
  subst ei
  have h1 := h.rd.1
  refine ⟨⟨by omega, by omega, by omega⟩, hK _ ⟨⟨by simp; omega, ?_, fun hne => ?_⟩, fun g o ha hne => ?_⟩ (by simp)⟩
  · rw [List.length_take, h.rd.2.1]
    simp only [Int.toNat_natCast, Int.toNat_zero, Nat.sub_zero]
    exact Nat.min_eq_left (Nat.mul_le_mul_right _ hn)
  · have hx : xs ≠ [] := by rintro rfl; simp at hne
    obtain ⟨g, o, ha, hc⟩ := h.rd.2.2 hx
    refine ⟨g, o, ?_, fun j v hv => hc j v ?_⟩
    · simp only [Int.toNat_zero, Nat.zero_mul]
      split
      · exact ha
      · rw [ha]; simp [Addr.add]
    · rw [List.getElem?_take] at hv
      split at hv
      · exact hv
      · cases hv
  · have hx : xs ≠ [] := by rintro rfl; simp at hne
    obtain ⟨g', o', ha', hc⟩ := h.rd.2.2 hx
    simp only [Int.toNat_zero, Nat.zero_mul] at ha
    have : s.a = some ⟨g, o, none⟩ := by
      split at ha
      · exact ha
      · rw [ha'] at ha ⊢; simpa [Addr.add] using ha
    exact h.tag g o this hx
end Go.Proofs.YtechilkjfhpkpaaGreatDoor.Mem

namespace Go.Proofs.YtechilkjfhpkpaaGreatDoor.Srt
open Go Vm Go.RowKit Num Mem Go.Sort Go.Proofs Lab
variable {ω ω' : Tg} {w w' : World} {t : Nat} {e : TypeId} {s : Sl}
theorem swo {α β : Type} {c : α → α → Int} (h : Cmp c) (f : β → α) : SWO (ltOf fun i j => c (f i) (f j)) := by
  refine ⟨fun x => ?_, fun x y z h1 h2 => ?_, fun x y z h1 h2 => ?_⟩
  · exact decide_eq_false (show ¬ c (f x) (f x) < 0 by rw [h.self]; decide)
  · unfold ltOf at *
    exact decide_eq_true (h.trans _ _ _ (of_decide_eq_true h1) (of_decide_eq_true h2))
  · unfold ltOf at *
    have h1 : ¬ c (f x) (f y) < 0 := of_decide_eq_false h1
    have h2 : ¬ c (f y) (f z) < 0 := of_decide_eq_false h2
    refine decide_eq_false fun h3 => ?_
    have h3 : c (f x) (f z) < 0 := h3
    have a1 := h.anti (f x) (f y)
    by_cases e : c (f x) (f y) = 0
    · have := (h.eq _ _).1 e
      rw [this] at h3; exact h2 h3
    · exact h2 (h.trans _ (f x) _ (by omega) h3)
theorem kd_grow (k : KD w w') : ∃ q os, w' = grow (w.drewN q) os := by
  refine ⟨0, w'.heap.extract w.heap.size w'.heap.size, ?_⟩
  have hh : w'.heap = w.heap ++ w'.heap.extract w.heap.size w'.heap.size := by
    apply Array.ext_getElem?
    intro i
    rcases Nat.lt_or_ge i w.heap.size with hi | hi
    · rw [k.1.block i hi, Array.getElem?_append_left hi]
    · rw [Array.getElem?_append_right hi]
      simp only [Array.getElem?_extract]
      have hs := k.1.size
      by_cases h : i < w'.heap.size
      · rw [if_pos (by omega)]; congr 1; omega
      · rw [if_neg (by omega), Array.getElem?_eq_none (by omega)]
  obtain ⟨k1, k2⟩ := k
  have e1 := k1.os
  have e2 := k1.tape
  have e3 := k1.output
  cases w; cases w'
  simp only at hh e1 e2 e3 k2
  subst e1 e2 e3 k2
  unfold grow World.drewN
  simp only [World.mk.injEq, and_true, Nat.add_zero]
  exact hh
section
variable {enc : Nat → List Value} {k : Nat}
theorem flatK_list (hk : ∀ i, (enc i).length = k) (h0 : 0 < k) : ∀ (l : List Nat), (flatK enc k l.toArray).toList = l.flatMap enc := by
  intro l
  apply List.ext_getElem?
  intro j
  have hl : ∀ l : List Nat, (l.flatMap enc).length = l.length * k := fun l => by
    induction l with
    | nil => simp
    | cons a l ih => rw [List.flatMap_cons, List.length_append, ih, hk, List.length_cons, Nat.add_mul]; omega
  have at_ : ∀ (l : List Nat) (i j : Nat), j < k → (l.flatMap enc)[i * k + j]? = (l[i]?).bind fun x => (enc x)[j]? := by
    intro l
    induction l with
    | nil => intro i j _; simp
    | cons a l ih =>
      intro i j hj
      rw [List.flatMap_cons]
      cases i with
      | zero => rw [Nat.zero_mul, Nat.zero_add, List.getElem?_append_left (by rw [hk]; exact hj)]; rfl
      | succ i =>
        rw [List.getElem?_append_right (by rw [hk, Nat.add_mul]; omega), hk, show (i + 1) * k + j - k = i * k + j by rw [Nat.add_mul]; omega, ih i j hj]
        simp
  by_cases hj : j < l.length * k
  · have hd : j / k < l.length := Nat.div_lt_of_lt_mul (by rw [Nat.mul_comm]; exact hj)
    have hm := Nat.mod_lt j h0
    have ej : j = j / k * k + j % k := by rw [Nat.mul_comm]; exact (Nat.div_add_mod j k).symm
    rw [Array.getElem?_toList, Array.getElem?_eq_getElem (by simpa using hj), ← getElem!_pos, get_flatK _ _ _ _ (by simpa using hj)]
    conv => rhs; rw [ej]
    rw [at_ l _ _ hm, List.getElem?_eq_getElem hd, Option.bind_some, List.getElem?_eq_getElem (by rw [hk]; exact hm)]
    congr 1
    have e1 : l.toArray[j / k]! = l[j / k] := by rw [getElem!_pos l.toArray (j / k) (by simpa using hd)]; simp
    rw [e1, getElem!_pos (enc l[j / k]) (j % k) (by rw [hk]; exact hm)]
  · rw [List.getElem?_eq_none (by simp; omega), List.getElem?_eq_none (by rw [hl]; omega)]
theorem putRow_chg (F : Array Value) (n g : Nat) (os : Array Obj) : w.grownBy (grow (putRow id (Sort.ahead w n) g 0 F) os) (some g) := by
  refine ⟨rfl, rfl, rfl, by simp, fun k hk hne => ?_⟩
  rw [heap_grow_old _ _ (by simpa using hk)]
  have : g ≠ k := fun e => hne (by rw [e])
  simp [putRow, mapBlock, Sort.ahead, Array.getElem?_modify, this]
theorem putRow_blk {F cur : Array Value} {n g : Nat} {os : Array Obj} {fr : Nat × Nat} (hb : w.heap[g]? = some (.cells cur e fr)) :
    (grow (putRow id (Sort.ahead w n) g 0 F) os).heap[g]? = some (.cells (putCells id 0 F cur) e fr) := by
  have hg : g < w.heap.size := (Array.getElem?_eq_some_iff.1 hb).1
  rw [heap_grow_old _ _ (by simpa using hg)]
  simp [putRow, mapBlock, Sort.ahead, Array.getElem?_modify, hb, onCells]
theorem take_put (cur F : Array Value) (h : F.size ≤ cur.size) : (putCells id 0 F cur).toList.take F.size = F.toList := by
  apply List.ext_getElem?
  intro j
  by_cases hj : j < F.size
  · rw [List.getElem?_take_of_lt hj, Array.getElem?_toList]
    simp [putCells, hj, show j < cur.size by omega]
  · rw [List.getElem?_take_eq_none (by omega), List.getElem?_eq_none (by simp; omega)]
end
theorem holds_blk {g : Nat} {cur : List Value} {F : Array Value} (hb : Blk w g e cur) (ht : cur.take F.size = F.toList) : Holds id w g 0 F := by
  intro j hj
  refine ⟨?_, hb.frozen _⟩
  have h1 : (cur.take F.size)[j]? = F.toList[j]? := by rw [ht]
  rw [List.getElem?_take_of_lt hj] at h1
  rw [hb.cell, Nat.zero_add, h1, Array.getElem?_toList, Array.getElem?_eq_getElem hj, getElem!_pos F j hj]; rfl
theorem sort_rows {k : Nat} (kpos : 0 < k) {enc : Nat → List Value} (h3 : ∀ i, (enc i).length = k) (h1 : ∀ i, ∀ v ∈ enc i, v.oneCell' = true) (h : OT ω w t e k s ((List.range s.n).flatMap enc)) (hn : s.n < 4611686018427387904) {cf : Nat → Nat → Int} (hO : SWO (ltOf cf)) {gf : Nat}
    (eg : ∀ args w, (callFunc gf args).run Tryz.prog w = .ok (.enter gf args) w)
    (hc : ∀ W, Stp (One t) ω (ext ω w.heap.size t) w W → ∀ x y : Nat, Calls Tryz.prog gf #[.agg (enc x).toArray, .agg (enc y).toArray] W fun e w' => e = .returned (.int .i64 (cf x y)) ∧ KD W w')
    {K : World → Prop} (hK : ∀ (is : List Nat) ω' w', is.Perm (List.range s.n) → is.Pairwise (fun a b => ¬ cf b a < 0) → Stp (One t) ω ω' w w' → OT ω' w' t e k s (is.flatMap enc) → K w') : sortF k s (.func (.func gf) #[] #[]) w K := by
  rcases h.cases with ⟨rfl, hx⟩ | ⟨g, cur, ha, hb', hle, hm, hl, ht⟩
  · refine .inl ⟨rfl, hK [] ω w (List.Perm.refl _) List.Pairwise.nil (Stp.refl _ _ _) (OT.nil ..)⟩
  · have hbk : s.v.ownBlock = some g := by show (Value.slice s.a s.n s.c).ownBlock = _; rw [ha]; rfl
    have er : (Array.range s.n) = (List.range s.n).toArray := by simp
    have stp : ∀ (n : Nat) (os : Array Obj) (d : Array Nat), Stp (One t) ω (ext ω w.heap.size t) w (sortWorldK enc k w g 0 n d os) := fun n os d => Chg.stp (grown_chg (putRow_chg _ n g os)) fun k hk => by injection hk with hk; subst hk; exact hb'.tag
    refine .inr ⟨g, 0, enc, cf, gf, #[], ha, rfl, h3, h1, hO, eg, fun m os dk hs x y => ?_, ?_, hb'.blk.lt, hn, fun d' n os hp hs => ?_⟩
    · exact (hc _ (stp m os dk) x y).mono fun e w' ⟨he, k⟩ => ⟨he, kd_grow k⟩
    · unfold HoldsK
      refine holds_blk hb'.blk ?_
      rw [size_flatK, Array.size_range, ht, er, flatK_list h3 kpos]
    · have hsz : d'.size = s.n := by have := hp.1; simpa using this
      have p1 : d'.toList.Perm (List.range s.n) := by
        have := hp.2.2
        have e1 : d'.extract 0 s.n = d' := by rw [← hsz]; exact Array.extract_size
        have e2 : (Array.range s.n).extract 0 s.n = Array.range s.n := by have := Array.extract_size (xs := Array.range s.n); rwa [Array.size_range] at this
        rw [e1, e2] at this
        simpa using this
      have p2 : d'.toList.Pairwise (fun a b => ¬ cf b a < 0) := by
        rw [List.pairwise_iff_getElem]
        intro i j hi hj hij
        have hi' : i < d'.size := by simpa using hi
        have hj' : j < d'.size := by simpa using hj
        have := hs i j (Nat.zero_le _) hij (by omega)
        rw [getElem!_pos d' i hi', getElem!_pos d' j hj'] at this
        unfold ltOf at this
        have := of_decide_eq_false this
        simpa using this
      refine hK d'.toList _ _ p1 p2 (stp n os d') ⟨?_, fun k hk => ?_⟩
      · have hss : s = ⟨some ⟨g, 0, none⟩, s.n, s.c⟩ := by rw [← ha]
        have ef : (flatK enc k d').toList = d'.toList.flatMap enc := by have := flatK_list h3 kpos d'.toList; simpa using this
        have hcs : (flatK enc k d').size ≤ cur.toArray.size := by
          rw [size_flatK, hsz, List.size_toArray, hl]; exact Nat.mul_le_mul_right _ hle
        rw [hss]
        refine Own.mk' (cur := (putCells id 0 (flatK enc k d') cur.toArray).toList) (Nat.zero_le _) ?_ hle hm (by simp [putCells, hl]) ?_
        · unfold Blk
          have := putRow_blk (w := w) (n := n) (os := os) (F := flatK enc k d') hb'.blk
          refine Eq.trans this ?_
          simp
        · have := take_put cur.toArray (flatK enc k d') hcs
          rw [size_flatK, hsz] at this
          rw [this, ef]
      · rw [hbk] at hk
        injection hk with hk
        subst hk
        rw [ext_old hb'.blk.lt]; exact hb'.tag
end Go.Proofs.YtechilkjfhpkpaaGreatDoor.Srt

namespace Go.Proofs.YtechilkjfhpkpaaGreatDoor.Mem
open Go Vm Go.RowKit Num
variable {T : Nat → Bool} {ω ω' : Tg} {w w' w0 : World} {t : Nat}
theorem put_stp {g : Nat} {o : Obj} (ht : ω g = t) : Stp (One t) ω ω w (w.putObj g o) :=
  ⟨rfl, rfl, rfl, by simp [World.putObj], fun _ _ => rfl, fun k _ hT => World.putObj_heap_other fun e => by subst e; rw [ht, one_self] at hT; cases hT⟩
theorem Stp.obj (s : Stp T ω ω' w w') {g : Nat} {o : Obj} (h : w.heap[g]? = some o) (ht : ω g = t) (ne : T t = false) : w'.heap[g]? = some o ∧ ω' g = t :=
  ⟨by rw [s.block g (heap_lt h) (by rw [ht]; exact ne)]; exact h, (s.same g (heap_lt h)).trans ht⟩
theorem isB_at {b : Bool} {K : Bool → Prop} (h : K b) : G.isB (.bool b) K := h
theorem marks_at {D : Nat} {w : World} {K : World → Prop} (h : w.heap[D]? = some (.deferred (some []))) (hK : K (w.putObj D (.deferred none))) : G.marks (pushMark undef D) w K := by
  show G.marks (.agg ⟨[.int .i64 (D : Int)]⟩) w K
  exact ⟨h, hK⟩
theorem OT.from {e : TypeId} {sz : Nat} {s : Sl} {xs : List Value} (h : OT ω w t e sz s xs) (top : Top w0 ω w) (ht : t ≠ 0) : Own w w0.heap.size e sz s xs := by
  obtain ⟨hl, ho⟩ := h.own
  refine ⟨hl, ho.imp_right fun ⟨g, cap, cur, hv, hg, r⟩ => ⟨g, cap, cur, hv, ?_, r⟩⟩
  have := h.tag g (by rw [hv]; rfl)
  rcases Nat.lt_or_ge g w0.heap.size with hlt | hge
  · exact absurd (this.symm.trans (top.z g hlt)) ht
  · exact hge
end Go.Proofs.YtechilkjfhpkpaaGreatDoor.Mem

namespace Go.Proofs.YtechilkjfhpkpaaGreatDoor.Mem
open Go Vm Go.RowKit Num
variable {T : Nat → Bool} {ω ω' : Tg} {w w' w0 : World} {t : Nat} {ι : Type}
def TellsG (P : Program) (Fc : Clee) (v : Value) (s0 : ι) (Q0 : ι → ι → List Value → Tg → World → Prop) (dn : ι → Prop) (C : Tg → World → Prop) (Pt Ct : Nat → Bool) : Prop :=
  match v with
  | .func (.func n) first cap => ∀ (L : Nat) (I : ι → Tg → World → Prop) (Kk : Tg → World → Prop) (Q : World → Prop) (ω : Tg) (w : World),
      (∀ i ω w, I i ω w → C ω w) → (∀ i ω ω' w w', I i ω w → Stp Pt ω ω' w w' → I i ω' w') → (∀ ω ω' w w', Kk ω w → Stp Pt ω ω' w w' → Kk ω' w') →
      (∀ i j a ω w R, Q0 i j a ω w → I i ω w → (∀ ω' w', Stp Ct ω ω' w w' → I j ω' w' → R (.bool true) w') → (∀ ω' w', Stp Ct ω ω' w w' → Kk ω' w' → R (.bool false) w') → G.yieldAt P L a w R) →
      (∀ i ω w, dn i → I i ω w → Kk ω w) → (∀ ω w, Kk ω w → Q w) → I s0 ω w → Fc n (first.toList ++ [.func (.yield L) #[] #[]] ++ cap.toList) (fun _ w' => Q w') w
  | _ => False
theorem rangeG_ok {P : Program} {Fc : Clee} {v : Value} {s0 : ι} {Q0 : ι → ι → List Value → Tg → World → Prop} {dn : ι → Prop} {C : Tg → World → Prop} {B : List Value → World → (Exit → World → Prop) → Prop} {K : Exit → Nat → World → Prop} {u : Nat} {Pt : Nat → Bool}
    {J : ι → Tg → World → Prop} {E : Exit → Tg → World → Prop} (hv : TellsG P Fc v s0 Q0 dn C Pt (fun x => T x || Nat.beq x u)) (hT : T u = false) (hP : Pt u = false) (hQ : ∀ i j a ω ω' w w', Q0 i j a ω w → Stp (One u) ω ω' w w' → Q0 i j a ω' w') (hC : ∀ i ω w, J i ω w → C ω w)
    (hJ : ∀ S, S = One u ∨ S = Pt → ∀ i ω ω' w w', J i ω w → Stp S ω ω' w w' → J i ω' w') (hE : ∀ S, S = One u ∨ S = Pt → ∀ e ω ω' w w', E e ω w → Stp S ω ω' w w' → E e ω' w')
    (hB : ∀ i k a ω w Rr, Q0 i k a ω w → J i ω w → (∀ ω' w', Stp T ω ω' w w' → J k ω' w' → Rr .normal w') → (∀ e j ω' w', jump e = some (some j) → Stp T ω ω' w w' → E e ω' w' → Rr e w') → B a w Rr)
    (h0 : J s0 ω w)
    (hK : ∀ ω' w' D, w'.heap[D]? = some (.deferred (some [])) → ω' D = u → (∃ i, dn i ∧ J i ω' w') → K .normal D w')
    (hX : ∀ e ω' w' D, w'.heap[D]? = some (.deferred (some [])) → ω' D = u → E e ω' w' → K e D w') : G.rangeF Fc v P B w K := by
  have oJ := hJ _ (.inl rfl)
  have oE := hE _ (.inl rfl)
  have pJ := hJ _ (.inr rfl)
  have pE := hE _ (.inr rfl)
  unfold TellsG at hv
  split at hv
  case h_2 => exact hv.elim
  rename_i n first cap
  intro rec hcells hY
  obtain ⟨w1, ew1⟩ : ∃ w1, w1 = (w.alloc (.deferred (some []))).alloc (rec .ready none) := ⟨_, rfl⟩
  have s1 : Stp (One u) ω (ext (ext ω w.heap.size u) (w.alloc (.deferred (some []))).heap.size u) w w1 := by
    rw [ew1]
    exact (((Keep.alloc w _).stp ω u).trans ((Keep.alloc _ _).stp _ u)).non _
  have hLn : (w.alloc (.deferred (some []))).heap.size = w.heap.size + 1 := World.size_alloc ..
  have hL : w1.heap[w.heap.size + 1]? = some (rec .ready none) := by
    have := World.alloc_heap_new (w.alloc (.deferred (some []))) (rec .ready none)
    rw [hLn] at this; rw [ew1]; exact this
  have hD : w1.heap[w.heap.size]? = some (.deferred (some [])) := by
    have h1 := World.alloc_heap_new w (.deferred (some []))
    rw [ew1]
    exact (Keep.alloc _ _).heap h1
  show Fc n (first.toList ++ [.func (.yield (w.heap.size + 1)) #[] #[]] ++ cap.toList) _ ((w.alloc (.deferred (some []))).alloc (rec .ready none))
  rw [← ew1]
  have hu : ext (ext ω w.heap.size u) (w.alloc (.deferred (some []))).heap.size u (w.heap.size + 1) = u := ext_new (by omega)
  have hud : ext (ext ω w.heap.size u) (w.alloc (.deferred (some []))).heap.size u w.heap.size = u := by rw [ext_old (by omega), ext_new (Nat.le_refl _)]
  generalize ext (ext ω w.heap.size u) (w.alloc (.deferred (some []))).heap.size u = ω1 at s1 hu hud
  have j1 := oJ _ _ _ _ _ h0 s1
  have hne : w.heap.size ≠ w.heap.size + 1 := by omega
  clear ew1 s1 hLn h0
  generalize w.heap.size + 1 = L at *
  generalize w.heap.size = D at *
  refine hv L (fun i ω w => J i ω w ∧ w.heap[L]? = some (rec .ready none) ∧ ω L = u ∧ w.heap[D]? = some (.deferred (some [])) ∧ ω D = u)
    (fun ω w => w.heap[D]? = some (.deferred (some [])) ∧ ω D = u ∧ ω L = u ∧ ∃ st e j, jump e = some j ∧ st ≠ LoopState.busy ∧ w.heap[L]? = some (rec st j) ∧ ((e = .normal ∧ ∃ i, dn i ∧ J i ω w) ∨ E e ω w)) _ ω1 w1 ?_ ?_ ?_ ?_ ?_ ?_ ⟨j1, hL, hu, hD, hud⟩
  · rintro i ω w ⟨h, _⟩; exact hC i ω w h
  · rintro i ω ω' w w' ⟨h, hl, hlu, hd, hdu⟩ s
    exact ⟨pJ _ _ _ _ _ h s, (s.obj hl hlu hP).1, (s.obj hl hlu hP).2, (s.obj hd hdu hP).1, (s.obj hd hdu hP).2⟩
  · rintro ω ω' w w' ⟨hd, hdu, hlu, st, e, j, hj, hst, hl, hh⟩ s
    exact ⟨(s.obj hd hdu hP).1, (s.obj hd hdu hP).2, (s.obj hl hlu hP).2, st, e, j, hj, hst, (s.obj hl hlu hP).1, hh.imp (fun ⟨h1, i, h2, h3⟩ => ⟨h1, i, h2, pJ _ _ _ _ _ h3 s⟩) (fun h => pE _ _ _ _ _ h s)⟩
  · rintro i k a ω w R ha ⟨h, hl, hlu, hd, hdu⟩ hR hRx
    refine hY a w R hl ?_
    have sp := put_stp (w := w) (o := rec .busy none) hlu
    have up : ∀ {ω ω' : Tg} {w w' : World}, Stp (One u) ω ω' w w' → Stp (fun x => T x || Nat.beq x u) ω ω' w w' := fun s => s.mono fun x hx => by
      simp only [Bool.or_eq_false_iff] at hx; exact hx.2
    have upT : ∀ {ω ω' : Tg} {w w' : World}, Stp T ω ω' w w' → Stp (fun x => T x || Nat.beq x u) ω ω' w w' := fun s => s.mono fun x hx => by
      simp only [Bool.or_eq_false_iff] at hx; exact hx.1
    refine hB i k a ω _ _ (hQ _ _ _ _ _ _ _ ha sp) (oJ _ _ _ _ _ h sp) (fun ω' w' s j' => ?_) (fun e j ω' w' hj s j' => ?_)
    · have hb := World.putObj_heap_same (o := rec .busy none) (heap_lt hl)
      obtain ⟨hb', hu'⟩ := s.obj hb hlu hT
      have hd0 : (w.putObj L (rec .busy none)).heap[D]? = some (.deferred (some [])) := by rw [World.putObj_heap_other hne]; exact hd
      obtain ⟨hd', hdu'⟩ := s.obj hd0 hdu hT
      have sp2 := put_stp (w := w') (o := rec .ready none) hu'
      refine ⟨hb', none, rfl, hR ω' _ ((up sp).trans ((upT s).trans (up sp2))) ⟨oJ _ _ _ _ _ j' sp2, World.putObj_heap_same (heap_lt hb'), hu', ?_, hdu'⟩⟩
      show (w'.putObj L (rec .ready none)).heap[D]? = _
      rw [World.putObj_heap_other hne]; exact hd'
    · have hb := World.putObj_heap_same (o := rec .busy none) (heap_lt hl)
      obtain ⟨hb', hu'⟩ := s.obj hb hlu hT
      have hd0 : (w.putObj L (rec .busy none)).heap[D]? = some (.deferred (some [])) := by rw [World.putObj_heap_other hne]; exact hd
      obtain ⟨hd', hdu'⟩ := s.obj hd0 hdu hT
      have sp2 := put_stp (w := w') (o := rec .done (some j)) hu'
      refine ⟨hb', some j, hj, hRx ω' _ ((up sp).trans ((upT s).trans (up sp2))) ⟨?_, hdu', hu', .done, e, some j, hj, (by intro h; cases h), World.putObj_heap_same (heap_lt hb'), .inr (oE _ _ _ _ _ j' sp2)⟩⟩
      show (w'.putObj L (rec .done (some j))).heap[D]? = _
      rw [World.putObj_heap_other hne]; exact hd'
  · rintro i ω w hdn ⟨h, hl, hlu, hd, hdu⟩
    exact ⟨hd, hdu, hlu, .ready, .normal, none, rfl, (by intro h; cases h), hl, .inl ⟨rfl, i, hdn, h⟩⟩
  · rintro ω w ⟨hd, hdu, hlu, st, e, j, hj, hst, hl, hh⟩
    have sp := put_stp (w := w) (o := rec .exhausted j) hlu
    have hd' : (w.putObj L (rec .exhausted j)).heap[D]? = some (.deferred (some [])) := by rw [World.putObj_heap_other hne]; exact hd
    refine ⟨st, e, j, hj, hst, hl, ?_⟩
    rcases hh with ⟨rfl, h⟩ | h
    · obtain ⟨i, h2, h3⟩ := h
      exact hK ω _ D hd' hdu ⟨i, h2, oJ _ _ _ _ _ h3 sp⟩
    · exact hX e ω _ D hd' hdu (oE _ _ _ _ _ h sp)
theorem rangeGW_ok {P : Program} {Fc : Clee} {v : Value} {s0 : ι} {Q0 : ι → ι → List Value → Tg → World → Prop} {dn : ι → Prop} {C : Tg → World → Prop} {B : List Value → World → ((World → Prop) → World → Prop) → (Exit → World → Prop) → Prop} {K : Exit → Nat → World → Prop} {u : Nat} {Pt : Nat → Bool}
    {J : ι → Tg → World → Prop} {E : Exit → Tg → World → Prop} (hv : TellsG P Fc v s0 Q0 dn C Pt (fun x => T x || Nat.beq x u)) (hT : T u = false) (hP : Pt u = false) (_hQ : ∀ i j a ω ω' w w', Q0 i j a ω w → Stp (One u) ω ω' w w' → Q0 i j a ω' w') (hC : ∀ i ω w, J i ω w → C ω w)
    (hJ : ∀ S, S = One u ∨ S = Pt → ∀ i ω ω' w w', J i ω w → Stp S ω ω' w w' → J i ω' w') (hE : ∀ S, S = One u ∨ S = Pt → ∀ e ω ω' w w', E e ω w → Stp S ω ω' w w' → E e ω' w')
    (hB : ∀ i k a ω w bz Rr, Q0 i k a ω w → J i ω w → (∀ X ω1 w1, Stp Non ω ω1 w w1 → (∀ w2, Stp (One u) ω1 ω1 w1 w2 → (∀ ω' w', Stp T ω1 ω' w2 w' → J k ω' w' → Rr .normal w') → (∀ e j ω' w', jump e = some (some j) → Stp T ω1 ω' w2 w' → E e ω' w' → Rr e w') → X w2) → bz X w1) → B a w bz Rr)
    (h0 : J s0 ω w)
    (hK : ∀ ω' w' D, w'.heap[D]? = some (.deferred (some [])) → ω' D = u → (∃ i, dn i ∧ J i ω' w') → K .normal D w')
    (hX : ∀ e ω' w' D, w'.heap[D]? = some (.deferred (some [])) → ω' D = u → E e ω' w' → K e D w') : G.rangeW Fc v P B w K := by
  have oJ := hJ _ (.inl rfl)
  have oE := hE _ (.inl rfl)
  have pJ := hJ _ (.inr rfl)
  have pE := hE _ (.inr rfl)
  unfold TellsG at hv
  split at hv
  case h_2 => exact hv.elim
  rename_i n first cap
  intro rec hcells hY
  obtain ⟨w1, ew1⟩ : ∃ w1, w1 = (w.alloc (.deferred (some []))).alloc (rec .ready none) := ⟨_, rfl⟩
  have s1 : Stp (One u) ω (ext (ext ω w.heap.size u) (w.alloc (.deferred (some []))).heap.size u) w w1 := by
    rw [ew1]
    exact (((Keep.alloc w _).stp ω u).trans ((Keep.alloc _ _).stp _ u)).non _
  have hLn : (w.alloc (.deferred (some []))).heap.size = w.heap.size + 1 := World.size_alloc ..
  have hL : w1.heap[w.heap.size + 1]? = some (rec .ready none) := by
    have := World.alloc_heap_new (w.alloc (.deferred (some []))) (rec .ready none)
    rw [hLn] at this; rw [ew1]; exact this
  have hD : w1.heap[w.heap.size]? = some (.deferred (some [])) := by
    have h1 := World.alloc_heap_new w (.deferred (some []))
    rw [ew1]
    exact (Keep.alloc _ _).heap h1
  show Fc n (first.toList ++ [.func (.yield (w.heap.size + 1)) #[] #[]] ++ cap.toList) _ ((w.alloc (.deferred (some []))).alloc (rec .ready none))
  rw [← ew1]
  have hu : ext (ext ω w.heap.size u) (w.alloc (.deferred (some []))).heap.size u (w.heap.size + 1) = u := ext_new (by omega)
  have hud : ext (ext ω w.heap.size u) (w.alloc (.deferred (some []))).heap.size u w.heap.size = u := by rw [ext_old (by omega), ext_new (Nat.le_refl _)]
  generalize ext (ext ω w.heap.size u) (w.alloc (.deferred (some []))).heap.size u = ω1 at s1 hu hud
  have j1 := oJ _ _ _ _ _ h0 s1
  have hne : w.heap.size ≠ w.heap.size + 1 := by omega
  clear ew1 s1 hLn h0
  generalize w.heap.size + 1 = L at *
  generalize w.heap.size = D at *
  refine hv L (fun i ω w => J i ω w ∧ w.heap[L]? = some (rec .ready none) ∧ ω L = u ∧ w.heap[D]? = some (.deferred (some [])) ∧ ω D = u)
    (fun ω w => w.heap[D]? = some (.deferred (some [])) ∧ ω D = u ∧ ω L = u ∧ ∃ st e j, jump e = some j ∧ st ≠ LoopState.busy ∧ w.heap[L]? = some (rec st j) ∧ ((e = .normal ∧ ∃ i, dn i ∧ J i ω w) ∨ E e ω w)) _ ω1 w1 ?_ ?_ ?_ ?_ ?_ ?_ ⟨j1, hL, hu, hD, hud⟩
  · rintro i ω w ⟨h, _⟩; exact hC i ω w h
  · rintro i ω ω' w w' ⟨h, hl, hlu, hd, hdu⟩ s
    exact ⟨pJ _ _ _ _ _ h s, (s.obj hl hlu hP).1, (s.obj hl hlu hP).2, (s.obj hd hdu hP).1, (s.obj hd hdu hP).2⟩
  · rintro ω ω' w w' ⟨hd, hdu, hlu, st, e, j, hj, hst, hl, hh⟩ s
    exact ⟨(s.obj hd hdu hP).1, (s.obj hd hdu hP).2, (s.obj hl hlu hP).2, st, e, j, hj, hst, (s.obj hl hlu hP).1, hh.imp (fun ⟨h1, i, h2, h3⟩ => ⟨h1, i, h2, pJ _ _ _ _ _ h3 s⟩) (fun h => pE _ _ _ _ _ h s)⟩
  · rintro i k a ω w R ha ⟨h, hl, hlu, hd, hdu⟩ hR hRx
    refine hY a w R hl ?_
    have up : ∀ {ω ω' : Tg} {w w' : World}, Stp (One u) ω ω' w w' → Stp (fun x => T x || Nat.beq x u) ω ω' w w' := fun s => s.mono fun x hx => by
      simp only [Bool.or_eq_false_iff] at hx; exact hx.2
    have upT : ∀ {ω ω' : Tg} {w w' : World}, Stp T ω ω' w w' → Stp (fun x => T x || Nat.beq x u) ω ω' w w' := fun s => s.mono fun x hx => by
      simp only [Bool.or_eq_false_iff] at hx; exact hx.1
    refine hB i k a ω _ _ _ ha h fun X ω1 w1 s1 hX => ?_
    obtain ⟨hl1, hlu1⟩ := s1.obj hl hlu rfl
    obtain ⟨hd1, hdu1⟩ := s1.obj hd hdu rfl
    have sp := put_stp (w := w1) (o := rec .busy none) hlu1
    have hb := World.putObj_heap_same (o := rec .busy none) (heap_lt hl1)
    have hd0 : (w1.putObj L (rec .busy none)).heap[D]? = some (.deferred (some [])) := by rw [World.putObj_heap_other hne]; exact hd1
    refine ⟨hl1, hX _ sp (fun ω' w' s j' => ?_) (fun e j ω' w' hj s j' => ?_)⟩
    · obtain ⟨hb', hu'⟩ := s.obj hb hlu1 hT
      obtain ⟨hd', hdu'⟩ := s.obj hd0 hdu1 hT
      have sp2 := put_stp (w := w') (o := rec .ready none) hu'
      refine ⟨hb', none, rfl, hR ω' _ ((s1.non _).trans ((up sp).trans ((upT s).trans (up sp2)))) ⟨oJ _ _ _ _ _ j' sp2, World.putObj_heap_same (heap_lt hb'), hu', ?_, hdu'⟩⟩
      show (w'.putObj L (rec .ready none)).heap[D]? = _
      rw [World.putObj_heap_other hne]; exact hd'
    · obtain ⟨hb', hu'⟩ := s.obj hb hlu1 hT
      obtain ⟨hd', hdu'⟩ := s.obj hd0 hdu1 hT
      have sp2 := put_stp (w := w') (o := rec .done (some j)) hu'
      refine ⟨hb', some j, hj, hRx ω' _ ((s1.non _).trans ((up sp).trans ((upT s).trans (up sp2)))) ⟨?_, hdu', hu', .done, e, some j, hj, (by intro h; cases h), World.putObj_heap_same (heap_lt hb'), .inr (oE _ _ _ _ _ j' sp2)⟩⟩
      show (w'.putObj L (rec .done (some j))).heap[D]? = _
      rw [World.putObj_heap_other hne]; exact hd'
  · rintro i ω w hdn ⟨h, hl, hlu, hd, hdu⟩
    exact ⟨hd, hdu, hlu, .ready, .normal, none, rfl, (by intro h; cases h), hl, .inl ⟨rfl, i, hdn, h⟩⟩
  · rintro ω w ⟨hd, hdu, hlu, st, e, j, hj, hst, hl, hh⟩
    have sp := put_stp (w := w) (o := rec .exhausted j) hlu
    have hd' : (w.putObj L (rec .exhausted j)).heap[D]? = some (.deferred (some [])) := by rw [World.putObj_heap_other hne]; exact hd
    refine ⟨st, e, j, hj, hst, hl, ?_⟩
    rcases hh with ⟨rfl, h⟩ | h
    · obtain ⟨i, h2, h3⟩ := h
      exact hK ω _ D hd' hdu ⟨i, h2, oJ _ _ _ _ _ h3 sp⟩
    · exact hX e ω _ D hd' hdu (oE _ _ _ _ _ h sp)
end Go.Proofs.YtechilkjfhpkpaaGreatDoor.Mem

namespace Go.Proofs.YtechilkjfhpkpaaGreatDoor.Ru
open Go Vm Go.RowKit Num Mem Utf Lib Lab
variable {ω ω' : Tg} {w w' w0 : World} {t gs gm : Nat} {T : Nat → Bool}
abbrev Av := List Lb × Int × Int × Int × Int × Nat
abbrev QL := List (Av × Sl)
def avC (p : Av × Sl) : List Value := [p.2.v, .int .i64 p.1.2.1, .int .i64 p.1.2.2.1, .int .i64 p.1.2.2.2.1, .int .i64 p.1.2.2.2.2.1, .float .f64 p.1.2.2.2.2.2]
def encV (p : Av × Sl) : Value := .agg ⟨avC p⟩
def encP (p : Av × Sl) : ByteArray × Value := (Lab.keyOf p.1.1, encV p)
def avs (l : QL) : List Value := l.flatMap avC
theorem avs_app (a b : QL) : avs (a ++ b) = avs a ++ avs b := List.flatMap_append
theorem avs_len (l : QL) : (avs l).length = l.length * 6 := by
  induction l with
  | nil => rfl
  | cons s l ih => simp only [avs, List.flatMap_cons, List.length_append, List.length_cons] at *; simp [avC] at *; omega
theorem avs_at : ∀ (l : QL) (i : Nat) (p : Av × Sl), l[i]? = some p → ∀ j, j < 6 → (avs l)[i * 6 + j]? = (avC p)[j]?
  | [], i, p, h => by simp at h
  | x :: l, 0, p, h => fun j hj => by
    simp only [List.getElem?_cons_zero, Option.some.injEq] at h
    subst h
    rw [avs, List.flatMap_cons, Nat.zero_mul, Nat.zero_add, List.getElem?_append_left (by simpa [avC] using hj)]
  | x :: l, i + 1, p, h => fun j hj => by
    have ih := avs_at l i p (by simpa using h) j hj
    rw [avs, List.flatMap_cons, List.getElem?_append_right (by simp [avC]; omega), ← ih]
    unfold avs
    congr 1
    simp [avC]; omega
theorem rdA_n {s : Sl} {l : QL} (h : Rd w s 6 (avs l)) : s.n = l.length := by have := h.2.1; rw [avs_len] at this; omega
def AC (w : World) (a : Addr) (p : Av × Sl) : Prop := w.cell? a = some p.2.v ∧ w.cell? (a.add 1) = some (.int .i64 p.1.2.1) ∧ w.cell? (a.add 2) = some (.int .i64 p.1.2.2.1) ∧ w.cell? (a.add 3) = some (.int .i64 p.1.2.2.2.1) ∧ w.cell? (a.add 4) = some (.int .i64 p.1.2.2.2.2.1) ∧ w.cell? (a.add 5) = some (.float .f64 p.1.2.2.2.2.2)
theorem rdA_at {s : Sl} {l : QL} (h : Rd w s 6 (avs l)) {i : Int} {k : Nat} {p : Av × Sl} (ei : i = (k : Int)) (hx : l[k]? = some p) {K : Addr → Prop} (hK : ∀ a : Addr, AC w a p → K a) : G.ix s.a s.n i 6 K := by
  have hk : k < l.length := (List.getElem?_eq_some_iff.1 hx).1
  have hn := rdA_n h
  subst ei
  have hat := avs_at l k p hx
  refine Rd.ix h (by decide) (by omega) (by omega) fun a hc => hK a ?_
  have c : ∀ j v, j < 6 → (avC p)[j]? = some v → w.cell? (a.add j) = some v := fun j v hj hv => hc j v hj (by rw [Int.toNat_natCast, hat j hj]; exact hv)
  refine ⟨?_, c 1 _ (by decide) rfl, c 2 _ (by decide) rfl, c 3 _ (by decide) rfl, c 4 _ (by decide) rfl, c 5 _ (by decide) rfl⟩
  have := c 0 _ (by decide) rfl
  rwa [show a.add 0 = a by simp [Addr.add]] at this
theorem tiA : TI Tryz.prog 31 41 6 64 := TI.of (z := .agg #[.slice none 0 0, .int .i64 0, .int .i64 0, .int .i64 0, .int .i64 0, .float .f64 0]) (by kernel_rfl) (by kernel_rfl) rfl (by decide)
theorem mapT : Tryz.prog.underlying 73 = some (.map 9 41) := by kernel_rfl
theorem strT : Tryz.prog.underlying 9 = some .string := by kernel_rfl
theorem OT.new {u sz : Nat} {e : TypeId} {s : Sl} {xs : List Value} (h : OT ω' w' u e sz s xs) (top : Top w ω' w') (hu : u ≠ 0 := by decide) : Mem.Own w' w.heap.size e sz s xs := by
  obtain ⟨hl, ho⟩ := h.own
  refine ⟨hl, ?_⟩
  rcases ho with ho | ⟨g, cap, cur, hv, hg, r⟩
  · exact .inl ho
  · refine .inr ⟨g, cap, cur, hv, ?_, r⟩
    have ht := h.tag g (by rw [hv]; rfl)
    rcases Nat.lt_or_ge g w.heap.size with hlt | hge
    · rw [top.z g hlt] at ht; exact absurd ht.symm hu
    · exact hge
theorem ag_at {cs : Array Value} {n : Nat} {K : Array Value → Prop} (hn : cs.size = n) (hK : K cs) : G.ag (.agg cs) n K := by
  subst hn
  show bif Nat.beq cs.size cs.size then K cs else False
  rw [Nat.beq_refl]; exact hK
theorem map_split {p : QL} {a b : AL} {x : ByteArray × Value} (h : p.map encP = a ++ x :: b) : ∃ pa q pb, p = pa ++ q :: pb ∧ a = pa.map encP ∧ x = encP q ∧ b = pb.map encP := by
  obtain ⟨pa, pr, h1, h2, h3⟩ := List.map_eq_append_iff.1 h
  cases pr with
  | nil => simp at h3
  | cons q pb =>
    simp only [List.map_cons, List.cons.injEq] at h3
    exact ⟨pa, q, pb, h1, h2.symm, h3.1.symm, h3.2.symm⟩
theorem loc_ok (q : Av × Sl) {Z : Addr → World → Prop} (hK : ∀ g w', KD w w' → w.heap.size ≤ g → Blk w' g 41 (avC q) → Z ⟨g, 0, none⟩ w') :
    G.new (.cells #[nilS.v, (.int .i64 (0 : Int)), (.int .i64 (0 : Int)), (.int .i64 (0 : Int)), (.int .i64 (0 : Int)), (.float .f64 0)] 41) w fun p w1 => G.st p q.2.v w1 fun w2 => G.st (p.add 1) (.int .i64 q.1.2.1) w2 fun w3 => G.st (p.add 2) (.int .i64 q.1.2.2.1) w3 fun w4 =>
      G.st (p.add 3) (.int .i64 q.1.2.2.2.1) w4 fun w5 => G.st (p.add 4) (.int .i64 q.1.2.2.2.2.1) w5 fun w6 => G.st (p.add 5) (.float .f64 q.1.2.2.2.2.2) w6 fun w7 => Z p w7 :=
  newD fun g w1 k1 hg b1 => stD hg k1 b1 (by simp) fun w2 k2 b2 => stDA hg k2 b2 (by simp) fun w3 k3 b3 => stDA hg k3 b3 (by simp) fun w4 k4 b4 => stDA hg k4 b4 (by simp) fun w5 k5 b5 => stDA hg k5 b5 (by simp) fun w6 k6 b6 => stDA hg k6 b6 (by simp) fun w7 k7 b7 => hK g w7 k7 hg b7
theorem blk_ac {g : Nat} {q : Av × Sl} (b : Blk w g 41 (avC q)) : AC w ⟨g, 0, none⟩ q :=
  ⟨by rw [b.cell]; rfl, by rw [addr_add, b.cell]; rfl, by rw [addr_add, b.cell]; rfl, by rw [addr_add, b.cell]; rfl, by rw [addr_add, b.cell]; rfl, by rw [addr_add, b.cell]; rfl⟩
theorem ac_at {a : Addr} {q : Av × Sl} (h : AC w a q) {Z : Sl → Int → Int → Int → Int → Nat → Prop} (hZ : Z q.2 q.1.2.1 q.1.2.2.1 q.1.2.2.2.1 q.1.2.2.2.2.1 q.1.2.2.2.2.2) :
    G.cSl a w fun s => G.cI .i64 (a.add 1) w fun n1 => G.cI .i64 (a.add 2) w fun n2 => G.cI .i64 (a.add 3) w fun n3 => G.cI .i64 (a.add 4) w fun n4 => G.cF .f64 (a.add 5) w fun f => Z s n1 n2 n3 n4 f :=
  cSl_at h.1 <| cI_at h.2.1 <| cI_at h.2.2.1 <| cI_at h.2.2.2.1 <| cI_at h.2.2.2.2.1 <| cF_at h.2.2.2.2.2 hZ
theorem enc_at (q : Av × Sl) {Z : Sl → Int → Int → Int → Int → Nat → Prop} (hZ : Z q.2 q.1.2.1 q.1.2.2.1 q.1.2.2.2.1 q.1.2.2.2.2.1 q.1.2.2.2.2.2) :
    G.ag (encV q) 6 fun c => G.vSl c[0 + 0]? fun s => G.vI .i64 c[0 + 1]? fun n1 => G.vI .i64 c[0 + 2]? fun n2 => G.vI .i64 c[0 + 3]? fun n3 => G.vI .i64 c[0 + 4]? fun n4 => G.vF .f64 c[0 + 5]? fun f => Z s n1 n2 n3 n4 f :=
  ag_at rfl ⟨q.2, rfl, q.1.2.1, rfl, q.1.2.2.1, rfl, q.1.2.2.2.1, rfl, q.1.2.2.2.2.1, rfl, q.1.2.2.2.2.2, rfl, hZ⟩
abbrev VS := QL × QL
def VQ (i j : VS) (a : List Value) (_ : Tg) (_ : World) : Prop := ∃ q b1 b2, i.2 = b1 ++ q :: b2 ∧ j = (i.1 ++ [q], b1 ++ b2) ∧ a = [encV q]
def VC (g gm : Nat) (pl : QL) (ω : Tg) (w : World) : Prop := w.cell? ⟨g, 0, none⟩ = some (.map (some gm)) ∧ MV ω w 0 gm (pl.map encP)
theorem values_tells {Fc : Clee} {n g : Nat} {pl : QL} {Ct : Nat → Bool} (h0 : Ct 0 = false) (h1 : Ct 40 = false) (hF : ∀ args K w, C.maps_Values_1_map_string_Active_string_Active.cl args K w → Fc n args K w) :
    TellsG Tryz.prog Fc (.func (.func n) #[] #[.pointer (some ⟨g, 0, none⟩)]) (([], pl) : VS) VQ (fun i => i.2 = []) (VC g gm pl) (Duo 40 41) Ct := by
  intro L I Kk Q ω w hC hI hKI hy hK hQ h0'
  refine hF _ _ _ ?_
  show C.maps_Values_1_map_string_Active_string_Active (.func (.yield L) #[] #[]) (some ⟨g, 0, none⟩) w (C.maps_Values_1_map_string_Active_string_Active.Kt fun _ w' => Q w')
  unfold C.maps_Values_1_map_string_Active_string_Active
  obtain ⟨hb, hm⟩ := hC _ ω w h0'
  refine ptr_at ⟨some gm, hb, rangeV 40 hm mapT fun r ω1 w1 k1 i1 => ?_⟩
  refine C.maps_Values_1_map_string_Active_string_Active.L3_ind fun X hX => ?_
  have key : ∀ (d : Nat) (a b : QL) (ω : Tg) (w : World), b.length = d → I (a, b) ω w → IT ω w 40 r 0 gm (pl.map encP) (b.map encP) → X (.func (.yield L) #[] #[]) (some ⟨r, 0, none⟩) w := by
    intro d
    induction d with
    | zero =>
      intro a b ω w hd hi it
      refine hX _ _ _ ?_
      unfold C.maps_Values_1_map_string_Active_string_Active.S5
      have hb : b = [] := List.eq_nil_of_length_eq_zero hd
      subst hb
      exact nextV it (fun _ => hQ ω w (hK _ ω w rfl hi)) (fun a x b ω' w' hr => by simp at hr)
    | succ d ih =>
      intro a b ω w hd hi it
      refine hX _ _ _ ?_
      unfold C.maps_Values_1_map_string_Active_string_Active.S5
      refine nextV it (fun hr => by have := congrArg List.length hr; rw [List.length_map, hd] at this; simp at this) (fun ra x rb ω2 w2 hr k2 it2 en k v => en _ ?_)
      obtain ⟨pa, q, pb, e1, rfl, rfl, rfl⟩ := map_split hr
      refine enc_at q ?_
      refine loc_ok q fun g3 w3 k3 hg3 b3 => ?_
      refine ac_at (blk_ac b3) ?_
      have s3 := k3.1.stp ω2 41
      have it3 := it2.stp s3 rfl rfl
      have hi2 := hI _ _ _ _ _ hi k2.one
      have hi3 := hI _ _ _ _ _ hi2 (s3.non _)
      generalize ext ω2 w2.heap.size 41 = ω3 at *
      rw [← List.map_append] at it3
      refine hy (a, b) (a ++ [q], pa ++ pb) _ ω3 w3 _ ⟨q, pa, pb, e1, rfl, rfl⟩ hi3 (fun ω' w' s h' => ?_) (fun ω' w' s h' => ?_)
      · refine isB_at (cond_f rfl ?_)
        exact ih _ _ ω' w' (by rw [e1] at hd; simp at hd ⊢; omega) h' (it3.stp s h1 h0)
      · exact isB_at (cond_t rfl (hQ _ _ h'))
  exact key pl.length [] pl ω1 w1 rfl (hI _ _ _ _ _ h0' (k1.non _)) i1
theorem collect_ok {pl : QL} {g : Nat} (hbox : w.cell? ⟨g, 0, none⟩ = some (.map (some gm))) (hmp : MV (fun _ => 0) w 0 gm (pl.map encP)) (hl : pl.length ≤ 100000000) {K : Sl → World → Prop}
    (hK : ∀ r ql w', Keep w w' → ql.Perm pl → Mem.Own w' w.heap.size 41 6 r (avs ql) → K r w') : C.slices_Collect_Active (.func (.func 80) #[] #[.pointer (some ⟨g, 0, none⟩)]) w K := by
  unfold C.slices_Collect_Active C.slices_AppendSeq_Active_Active
  refine new_T (ω := fun _ => 0) 4 fun g2 ω2 w2 k2 b2 => ?_
  unfold C.slices_AppendSeq_Active_Active.S9 C.slices_AppendSeq_Active_Active.R5
  have top2 := (Top.init w).stp k2
  have hgm := hmp.lt
  refine rangeGW_ok (T := Duo 2 4) (u := 3) (J := fun i ω w2 => Top w ω w2 ∧ (i.1 ++ i.2).Perm pl ∧ ∃ s, BT ω w2 4 g2 31 [Sl.v s] ∧ OT ω w2 2 41 6 s (avs i.1))
    (E := fun e ω w => False) (values_tells (g := g) (gm := gm) (pl := pl) rfl rfl fun _ _ _ h => h) rfl rfl ?_ ?_ ?_ ?_ ?_ ⟨top2, by simp, nilS, b2, OT.nil ..⟩ ?_ ?_
  · rintro i j a ω ω' w w' h k
    exact h
  · rintro i ω w2 ⟨top, _⟩
    obtain ⟨es, clock, hb, hs, he⟩ := hmp.ex
    exact ⟨top.k.cell hbox, ⟨es, clock, top.k.heap hb, hs, he⟩, top.z gm hgm⟩
  · rintro S hS i ω ω' w w' ⟨top, pm, s, x1, x2⟩ k
    have z : S 0 = false ∧ S 2 = false ∧ S 4 = false := by rcases hS with rfl | rfl <;> exact ⟨rfl, rfl, rfl⟩
    exact ⟨top.stp k z.1, pm, s, x1.stp k z.2.2, x2.stp k z.2.1⟩
  · rintro S hS e ω ω' w w' h k
    exact h
  · rintro ⟨a, b⟩ j args ω w4 bz Rr ⟨q, b1, b2, e1, rfl, rfl⟩ ⟨top, pm, s, x1, o⟩ hz
    dsimp only at e1 pm o
    subst e1
    unfold C.slices_AppendSeq_Active_Active.B_R5 encV avC Sl.v
    dsimp only
    refine loc_ok q fun g5 w5 k5 hg5 b5 => ?_
    have s5 := k5.1.stp ω 5
    refine hz _ (ext ω w4.heap.size 5) w5 s5 fun w6 s6 hR _ => ?_
    have b5t : BT (ext ω w4.heap.size 5) w5 5 g5 41 [q.2.v, .int .i64 q.1.2.1, .int .i64 q.1.2.2.1, .int .i64 q.1.2.2.2.1, .int .i64 q.1.2.2.2.2.1, .float .f64 q.1.2.2.2.2.2] := ⟨b5, ext_new hg5⟩
    generalize ext ω w4.heap.size 5 = ω5 at *
    have b6 := b5t.stp s6
    have x16 := (x1.stp s5).stp s6
    have o6 := (o.stp s5).stp s6
    have top6 := (top.stp s5).stp s6
    unfold C.slices_AppendSeq_Active_Active.S7
    have hsn := rdA_n o.rd
    have hlen : a.length + 1 ≤ 100000000 := by have := pm.length_eq; simp at this; omega
    refine ptr_at <| cSl_at (s := s) (by rw [x16.cell]; rfl) <| ptr_at <| ac_at (blk_ac b6.blk) ?_
    refine push_T (n := 1) tiA o6 rfl (by intro v hv; simp at hv; rcases hv with rfl | rfl | rfl | rfl | rfl | rfl <;> rfl) (by simp only [maxLen]; omega) (by omega) fun r7 ω7 w7 k7 o7 _ => ?_
    refine ptr_at (st_T (x16.stp k7) (by simp) fun ω8 w8 k8 b8 => ?_)
    refine hR ω8 w8 (k7.one.trans k8.two) ⟨(top6.stp k7).stp k8, by
      show (a ++ [q] ++ (b1 ++ b2)).Perm pl
      rw [List.append_assoc]
      exact (List.Perm.append_left a (List.perm_middle (l₁ := b1) (l₂ := b2) (a := q)).symm).trans pm, r7, b8, ?_⟩
    have e4 : avs (a ++ [q]) = avs a ++ [q.2.v, .int .i64 q.1.2.1, .int .i64 q.1.2.2.1, .int .i64 q.1.2.2.2.1, .int .i64 q.1.2.2.2.2.1, .float .f64 q.1.2.2.2.2.2] := by rw [avs_app]; rfl
    rw [e4]; exact o7.stp k8
  · rintro ω' w' D hD hDu ⟨⟨a, b⟩, hdn, top, pm, s, x1, o⟩
    dsimp only at hdn pm o
    subst hdn
    show C.slices_AppendSeq_Active_Active.S2 _ _ (pushMark undef D) w'
    unfold C.slices_AppendSeq_Active_Active.S2
    have sp := put_stp (ω := ω') (w := w') (o := .deferred none) hDu
    refine ptr_at (cSl_at (s := s) (by rw [x1.cell]; rfl) (marks_at hD ?_))
    have tp := top.stp sp
    exact hK s a _ tp.k (by simpa using pm) (OT.new (o.stp sp) tp)
  · rintro e ω' w' D _ _ h
    exact h.elim
end Go.Proofs.YtechilkjfhpkpaaGreatDoor.Ru

namespace Go.Proofs.YtechilkjfhpkpaaGreatDoor.Srt
open Go Vm Go.RowKit Num Mem Go.Sort Go.Proofs
variable {ω ω' : Tg} {w w' : World} {t : Nat} {e : TypeId} {s : Sl}
theorem sort_T {ss : List (List UInt8)} (h : OT ω w t e 1 s (ss.map encStr)) (hb : s.n < 4611686018427387904) {K : World → Prop} (hK : ∀ ω' w', Stp (One t) ω ω' w w' → OT ω' w' t e 1 s ((ss.mergeSort leS).map encStr) → K w') : sortS s w K := by
  have hlen := h.own.len
  rw [List.length_map] at hlen
  rcases h.cases with ⟨rfl, hx⟩ | ⟨g, cur, ha, hb', hn, hm, hl, ht⟩
  · have hs : ss = [] := by simpa using hx
    subst hs
    exact .inl ⟨rfl, hK ω w (Stp.refl _ _ _) (by simpa using h)⟩
  · have hbk : s.v.ownBlock = some g := by show (Value.slice s.a s.n s.c).ownBlock = _; rw [ha]; rfl
    refine .inr ⟨g, 0, ss, ha, by omega, holds_of_block hb'.blk (by rw [show ss.length = s.n * 1 by omega]; simpa using ht), hb'.blk.lt, hb, fun n os => ?_⟩
    have hg := grownBy_sorted (w := w) (g := g) (n := n) (os := os) (ss.mergeSort leS).toArray
    have st : Stp (One t) ω (ext ω w.heap.size t) w (grow (putRow encStr (Sort.ahead w n) g 0 (ss.mergeSort leS).toArray) os) := Chg.stp (grown_chg hg) fun k hk => by injection hk with hk; subst hk; exact hb'.tag
    refine hK _ _ st ⟨?_, fun k hk => ?_⟩
    · have hs : s = ⟨some ⟨g, 0, none⟩, s.n, s.c⟩ := by rw [← ha]
      have := ownsRow_sorted (w := w) (base := 0) (n := n) (os := os) (e := e) (cap := s.c) (ss := ss) (ts := ss.mergeSort leS) (by simp) (Nat.zero_le _) hb'.blk (by omega) hm (by simp; omega)
      rw [show ss.length = s.n by omega] at this
      rw [hs]; exact this
    · rw [hbk] at hk
      injection hk with hk
      subst hk
      rw [ext_old hb'.blk.lt]; exact hb'.tag
theorem encStr_ba (b : ByteArray) : encStr b.data.toList = Value.string b := by simp [encStr]
theorem le_of_less : ∀ {a b : List UInt8}, Op.bytesLess a b = true → a ≤ b
  | _, [], h => by simp [Op.bytesLess] at h
  | [], _ :: _, _ => List.nil_le _
  | x :: a, y :: b, h => by
    simp only [Op.bytesLess, Bool.or_eq_true, decide_eq_true_eq, Bool.and_eq_true, beq_iff_eq] at h
    rw [List.cons_le_cons_iff]
    rcases h with h | ⟨h1, h2⟩
    · exact .inl h
    · exact .inr ⟨h1, le_of_less h2⟩
theorem sort_up {ss ts : List (List UInt8)} (hp : ss.Perm ts) (hs : ts.Pairwise fun a b => Op.bytesLess a b = true) : ss.mergeSort leS = ts := by
  have h1 : ss.mergeSort leS = ts.mergeSort leS := mergeSort_of_perm hp
  rw [h1]
  refine List.mergeSort_of_pairwise (hs.imp fun h => ?_)
  unfold leS
  exact decide_eq_true (le_of_less h)
end Go.Proofs.YtechilkjfhpkpaaGreatDoor.Srt

namespace Go.Proofs.YtechilkjfhpkpaaGreatDoor.Ru
open Go Vm Go.RowKit Num Mem Utf Lib Lab
variable {ω ω' ωb : Tg} {w w' w0 wb : World} {t u gs gm : Nat} {T : Nat → Bool} {pl : List Lb}
theorem mapS : Tryz.prog.underlying 136 = some (.map 9 9) := by kernel_rfl
theorem tiSt : TI Tryz.prog 88 9 1 16 := TI.of (z := .string ⟨#[]⟩) (by kernel_rfl) (by kernel_rfl) rfl (by decide)
def strs (l : List ByteArray) : List Value := l.map Value.string
theorem strs_enc (l : List ByteArray) : strs l = (l.map fun b => b.data.toList).map Go.Proofs.encStr := by
  unfold strs
  rw [List.map_map]
  exact List.map_congr_left fun b _ => (Srt.encStr_ba b).symm
abbrev VT := List Lb × List Lb
def TC (g gm : Nat) (pl : List Lb) (ω : Tg) (w : World) : Prop := w.cell? ⟨g, 0, none⟩ = some (.map (some gm)) ∧ MV ω w 0 gm (pl.map encN)
theorem map_splitN {p : List Lb} {a b : AL} {x : ByteArray × Value} (h : p.map encN = a ++ x :: b) : ∃ pa q pb, p = pa ++ q :: pb ∧ a = pa.map encN ∧ x = encN q ∧ b = pb.map encN := by
  obtain ⟨pa, pr, h1, h2, h3⟩ := List.map_eq_append_iff.1 h
  cases pr with
  | nil => simp at h3
  | cons q pb =>
    simp only [List.map_cons, List.cons.injEq] at h3
    exact ⟨pa, q, pb, h1, h2.symm, h3.1.symm, h3.2.symm⟩
def KQ (i j : VT) (a : List Value) (_ : Tg) (_ : World) : Prop := ∃ q b1 b2, i.2 = b1 ++ q :: b2 ∧ j = (i.1 ++ [q], b1 ++ b2) ∧ a = [.string q.1]
theorem keys_tells {Fc : Clee} {n g : Nat} {pl : List Lb} {Ct : Nat → Bool} (h0 : Ct 0 = false) (h1 : Ct 40 = false) (hF : ∀ args K w, C.maps_Keys_1_map_string_string_string_string.cl args K w → Fc n args K w) :
    TellsG Tryz.prog Fc (.func (.func n) #[] #[.pointer (some ⟨g, 0, none⟩)]) (([], pl) : VT) KQ (fun i => i.2 = []) (TC g gm pl) (Duo 40 41) Ct := by
  intro L I Kk Q ω w hC hI hKI hy hK hQ h0'
  refine hF _ _ _ ?_
  show C.maps_Keys_1_map_string_string_string_string (.func (.yield L) #[] #[]) (some ⟨g, 0, none⟩) w (C.maps_Keys_1_map_string_string_string_string.Kt fun _ w' => Q w')
  unfold C.maps_Keys_1_map_string_string_string_string
  obtain ⟨hb, hm⟩ := hC _ ω w h0'
  refine ptr_at ⟨some gm, hb, rangeV 40 hm mapS fun r ω1 w1 k1 i1 => ?_⟩
  refine C.maps_Keys_1_map_string_string_string_string.L3_ind fun X hX => ?_
  have key : ∀ (d : Nat) (a b : List Lb) (ω : Tg) (w : World), b.length = d → I (a, b) ω w → IT ω w 40 r 0 gm (pl.map encN) (b.map encN) → X (.func (.yield L) #[] #[]) (some ⟨r, 0, none⟩) w := by
    intro d
    induction d with
    | zero =>
      intro a b ω w hd hi it
      refine hX _ _ _ ?_
      unfold C.maps_Keys_1_map_string_string_string_string.S5
      have hb : b = [] := List.eq_nil_of_length_eq_zero hd
      subst hb
      exact nextV it (fun _ => hQ ω w (hK _ ω w rfl hi)) (fun a x b ω' w' hr => by simp at hr)
    | succ d ih =>
      intro a b ω w hd hi it
      refine hX _ _ _ ?_
      unfold C.maps_Keys_1_map_string_string_string_string.S5
      refine nextV it (fun hr => by have := congrArg List.length hr; rw [List.length_map, hd] at this; simp at this) (fun ra x rb ω2 w2 hr k2 it2 en k v => en _ ?_)
      obtain ⟨pa, q, pb, e1, rfl, rfl, rfl⟩ := map_splitN hr
      have hi2 := hI _ _ _ _ _ hi k2.one
      rw [← List.map_append] at it2
      refine ⟨q.1, rfl, ?_⟩
      refine hy (a, b) (a ++ [q], pa ++ pb) _ ω2 w2 _ ⟨q, pa, pb, e1, rfl, rfl⟩ hi2 (fun ω' w' s h' => ?_) (fun ω' w' s h' => ?_)
      · refine isB_at (cond_f rfl ?_)
        exact ih _ _ ω' w' (by rw [e1] at hd; simp at hd ⊢; omega) h' (it2.stp s h1 h0)
      · exact isB_at (cond_t rfl (hQ _ _ h'))
  exact key pl.length [] pl ω1 w1 rfl (hI _ _ _ _ _ h0' (k1.non _)) i1
theorem collectK_ok {g : Nat} (hbox : w.cell? ⟨g, 0, none⟩ = some (.map (some gm))) (hmp : MV (fun _ => 0) w 0 gm (pl.map encN)) (hl : pl.length ≤ 100000) {K : Sl → World → Prop}
    (hK : ∀ r (ql : List Lb) w', Keep w w' → ql.Perm pl → Mem.Own w' w.heap.size 9 1 r (strs (namesL ql)) → K r w') : C.slices_Collect_string (.func (.func 113) #[] #[.pointer (some ⟨g, 0, none⟩)]) w K := by
  unfold C.slices_Collect_string C.slices_AppendSeq_string_string
  refine new_T (ω := fun _ => 0) 4 fun g2 ω2 w2 k2 b2 => ?_
  unfold C.slices_AppendSeq_string_string.S9 C.slices_AppendSeq_string_string.R5
  have top2 := (Top.init w).stp k2
  have hgm := hmp.lt
  refine rangeG_ok (T := Duo 2 4) (u := 3) (J := fun i ω w2 => Top w ω w2 ∧ (i.1 ++ i.2).Perm pl ∧ ∃ s, BT ω w2 4 g2 88 [Sl.v s] ∧ OT ω w2 2 9 1 s (strs (namesL i.1)))
    (E := fun e ω w => False) (keys_tells (g := g) (gm := gm) (pl := pl) rfl rfl fun _ _ _ h => h) rfl rfl ?_ ?_ ?_ ?_ ?_ ⟨top2, by simp, nilS, b2, OT.nil ..⟩ ?_ ?_
  · rintro i j a ω ω' w w' h k
    exact h
  · rintro i ω w2 ⟨top, _⟩
    obtain ⟨es, clock, hb, hs, he⟩ := hmp.ex
    exact ⟨top.k.cell hbox, ⟨es, clock, top.k.heap hb, hs, he⟩, top.z gm hgm⟩
  · rintro S hS i ω ω' w w' ⟨top, pm, s, x1, x2⟩ k
    have z : S 0 = false ∧ S 2 = false ∧ S 4 = false := by rcases hS with rfl | rfl <;> exact ⟨rfl, rfl, rfl⟩
    exact ⟨top.stp k z.1, pm, s, x1.stp k z.2.2, x2.stp k z.2.1⟩
  · rintro S hS e ω ω' w w' h k
    exact h
  · rintro ⟨a, b⟩ j args ω w6 Rr ⟨q, b1, b2, e1, rfl, rfl⟩ ⟨top6, pm, s, x16, o6⟩ hR _
    dsimp only at e1 pm o6
    subst e1
    show C.slices_AppendSeq_string_string.S7 Rr _ _ w6
    unfold C.slices_AppendSeq_string_string.S7
    have hsn : s.n = a.length := by have := o6.own.len; simp [strs, namesL] at this; omega
    have hlen : a.length + 1 ≤ 100000 := by have := pm.length_eq; simp at this; omega
    refine ptr_at <| cSl_at (s := s) (by rw [x16.cell]; rfl) ?_
    refine push_T (n := 1) tiSt o6 rfl (by intro v hv; simp at hv; subst hv; rfl) (by simp only [maxLen]; omega) (by omega) fun r7 ω7 w7 k7 o7 _ => ?_
    refine ptr_at (st_T (x16.stp k7) (by simp) fun ω8 w8 k8 b8 => ?_)
    refine hR ω8 w8 (k7.one.trans k8.two) ⟨(top6.stp k7).stp k8, by
      show (a ++ [q] ++ (b1 ++ b2)).Perm pl
      rw [List.append_assoc]
      exact (List.Perm.append_left a (List.perm_middle (l₁ := b1) (l₂ := b2) (a := q)).symm).trans pm, r7, b8, ?_⟩
    have e4 : strs (namesL (a ++ [q])) = strs (namesL a) ++ [.string q.1] := by simp [strs, namesL]
    rw [e4]; exact o7.stp k8
  · rintro ω' w' D hD hDu ⟨⟨a, b⟩, hdn, top, pm, s, x1, o⟩
    dsimp only at hdn pm o
    subst hdn
    show C.slices_AppendSeq_string_string.S2 _ _ (pushMark undef D) w'
    unfold C.slices_AppendSeq_string_string.S2
    have sp := put_stp (ω := ω') (w := w') (o := .deferred none) hDu
    refine ptr_at (cSl_at (s := s) (by rw [x1.cell]; rfl) (marks_at hD ?_))
    have tp := top.stp sp
    exact hK s a _ tp.k (by simpa using pm) (OT.new (o.stp sp) tp)
  · rintro e ω' w' D _ _ h
    exact h.elim
theorem names_srt {l : List Lb} (h : (namesL l).Nodup) : (namesL (srtN l)).Pairwise fun a b => cB a b < 0 := by
  unfold namesL
  rw [List.pairwise_map]
  exact srtN_up h
theorem keys_ok (ω : Tg) (v : Nat) (hmp : MV (fun _ => 0) w 0 gm (pl.map encN)) (hn : (namesL pl).Nodup) (hl : pl.length ≤ 100000) {K : Sl → World → Prop}
    (hK : ∀ r ω' w', Stp Non ω ω' w w' → OT ω' w' v 9 1 r (strs (namesL (srtN pl))) → K r w') : C.maps_Keys_map_string_string_string_string (some gm) w fun v35 w36 => C.slices_Sorted_string v35 w36 fun l37 w38 => K l37 w38 := by
  unfold C.maps_Keys_map_string_string_string_string
  refine newD fun g w1 k1 hg1 b1 => ?_
  unfold C.slices_Sorted_string
  refine collectK_ok (by rw [b1.cell]; rfl) (hmp.stp (k1.1.stp0 _) rfl) hl fun r ql w2 k2 pm o2 => ?_
  have k02 := Keep.trans k1.1 k2
  have o2' := o2.mono k1.1.size
  have top2 : Top w (ext (fun _ => 0) w.heap.size 2) w2 := (Top.init w).stp (k02.stp _ 2)
  have o3 : OT (ext (fun _ => 0) w.heap.size 2) w2 2 9 1 r (strs (namesL ql)) := Own.tag o2' (Nat.le_refl _) _ 2
  have hrn : r.n = ql.length := by have := o3.own.len; simp [strs, namesL] at this; omega
  have hql := pm.length_eq
  show Srt.sortS r w2 _
  rw [strs_enc] at o3
  refine Srt.sort_T o3 (by omega) fun ω' w' k' o' => ?_
  have top3 := top2.stp k'
  have hp : ((namesL ql).map fun b => b.data.toList).Perm ((namesL (srtN pl)).map fun b => b.data.toList) := ((pm.trans (srtN_perm pl).symm).map (·.1)).map _
  have hu : ((namesL (srtN pl)).map fun b => b.data.toList).Pairwise fun a b => Op.bytesLess a b = true := by
    rw [List.pairwise_map]
    refine (names_srt hn).imp fun {a b} h => ?_
    have := lessB a b
    rw [ByteArray.toList_eq, ByteArray.toList_eq] at this
    rw [this]
    have h1 := cB_cmp.vals a b
    exact decide_eq_true (by omega)
  rw [Srt.sort_up hp hu, ← strs_enc] at o'
  refine hK r (ext ω w.heap.size v) w' (top3.k.stp ω v) ⟨o'.own, fun k hk => ext_new ?_⟩
  have := o'.tag k hk
  rcases Nat.lt_or_ge k w.heap.size with hlt | hge
  · rw [top3.z k hlt] at this; cases this
  · exact hge
end Go.Proofs.YtechilkjfhpkpaaGreatDoor.Ru

namespace Go.Proofs.YtechilkjfhpkpaaGreatDoor.Ru
open Go Vm Go.RowKit Num Mem Utf Lib Lab
variable {ω ω' ωb : Tg} {w w' w0 wb : World} {t u gs gm : Nat} {T : Nat → Bool} {pl : List Lb}
theorem emptyB (b : ByteArray) : (!(b.toList == noB.toList)) = decide (b ≠ noB) := by
  rw [ByteArray.toList_eq, ByteArray.toList_eq]
  by_cases h : b = noB
  · subst h; simp
  · have : ¬ b.data.toList = noB.data.toList := fun e => h (by cases b; simp at e; simp [e])
    rw [decide_eq_true h]
    simpa using this
theorem upd_all_cons (b : List Lb) (x : Lb) (l : List Lb) : updAll b (x :: l) = updAll (updN x b) l := rfl
theorem atN_get {b : List Lb} {n : ByteArray} (h : n ∈ namesL b) : getV n (b.map encN) = some (.string (atN b n)) := by
  rw [getV_atN]
  unfold atN
  cases hf : b.find? (fun x => decide (x.1 = n)) with
  | none =>
    obtain ⟨x, hx, e⟩ := List.mem_map.1 h
    have := List.find?_eq_none.1 hf x hx
    exact absurd e (by simpa using this)
  | some x => rfl
theorem zeroS (w : World) : (zeroValue 9).run Tryz.prog w = .ok (.string noB) w := by kernel_rfl
theorem with_S11 {more l : List Lb} (top : Top w0 ω w) (hl : (namesL l).Nodup) (hm : (namesL more).Nodup) (hmp : MV ω w 5 gm ((updAll (updAll [] l) more).map encN)) (hlen : (updAll (updAll [] l) more).length ≤ 100000) (v : Nat) (hv : v = 9) {K : Sl → Value → World → Prop}
    (hK : ∀ r x ω' w', Top w0 ω' w' → ((outL l more).length ≤ 16 → x = .nilIface ∧ OT ω' w' v 99 2 r (labs (outL l more))) → (16 < (outL l more).length → r = nilS ∧ x = .iface 116 (.agg #[.int .i64 8])) → K r x w') :
    C.rules_with.S11 K (some gm) w := by
  subst hv
  unfold C.rules_with.S11 C.rules_with.S9
  have nb : (namesL (updAll (updAll [] l) more)).Nodup := updAll_names more (updAll_names l (b := []) List.nodup_nil)
  refine keys_ok ω 8 ⟨hmp.ex, rfl⟩ nb hlen fun r ω1 w1 k1 o1 => ?_
  have top1 := top.stp k1
  have hmp1 := hmp.stp k1 rfl
  have hkn : ∀ n, n ∈ namesL (srtN (updAll (updAll [] l) more)) ↔ n ∈ namesL (updAll (updAll [] l) more) := fun n => ((srtN_perm _).map (·.1)).mem_iff
  have eout := listN_out hl hm (names_srt nb) hkn
  generalize updAll (updAll [] l) more = b at *
  generalize hks : namesL (srtN b) = ks at *
  have hkl : ks.length = b.length := by rw [← hks]; unfold namesL; rw [List.length_map, (srtN_perm b).length_eq]
  have hrn : r.n = ks.length := by have := o1.own.len; simp [strs] at this; omega
  refine C.rules_with.L5_ind fun X hX => ?_
  have key : ∀ (d i : Nat) (v : Sl) (ω : Tg) (w : World), i + d = ks.length → Top w0 ω w → MV ω w 5 gm (b.map encN) → OT ω w 8 9 1 r (strs ks) → OT ω w 9 99 2 v (labs (listN b (ks.take i))) → X (some gm) v r ((r.n : Nat) : Int) (i : Int) w := by
    intro d
    induction d with
    | zero =>
      intro i v ω w hi top mp o ov
      refine hX _ _ _ _ _ _ ?_
      unfold C.rules_with.S7 C.rules_with.S2 C.rules_wrong
      rw [List.take_of_length_le (by omega), eout] at ov
      have hvn : v.n = (outL l more).length := by have := ov.own.len; rw [labs_len] at this; omega
      refine cond_d (fun h => by omega) (fun _ => cond_d (fun h => ?_) (fun h => ?_))
      · exact hK nilS _ ω w top (fun h' => by omega) (fun _ => ⟨rfl, rfl⟩)
      · exact hK v _ ω w top (fun _ => ⟨rfl, ov⟩) (fun h' => by omega)
    | succ d ih =>
      intro i v ω w hi top mp o ov
      refine hX _ _ _ _ _ _ ?_
      unfold C.rules_with.S7
      have him : i < ks.length := by omega
      have hmem : ks[i] ∈ namesL b := (hkn _).1 (List.getElem_mem him)
      have hg := atN_get hmem
      refine cond_d (fun _ => ?_) (fun h => by omega)
      refine OT.ix o (by decide) (by omega) (by omega) fun a _ _ hc => ?_
      have ca := hc 0 (.string ks[i]) (by decide) (by rw [Int.toNat_natCast, Nat.mul_one, Nat.add_zero]; simp [strs, him])
      rw [show a.add 0 = a by simp [Addr.add]] at ca
      have hlk : listN b (ks.take (i + 1)) = listN b (ks.take i) ++ (if atN b ks[i] = noB then [] else [(ks[i], atN b ks[i])]) := by
        rw [List.take_succ_eq_append_getElem him]
        unfold listN
        rw [List.filterMap_append]
        congr 1
        by_cases e : atN b ks[i] = noB
        · simp [e]
        · simp [e]
      refine cS_at ca <| rd1_V mp mapS strT zeroS (a := atN b ks[i]) (by rw [hg]; rfl) ?_
      rw [emptyB]
      have next : ∀ v' ω' w', Top w0 ω' w' → MV ω' w' 5 gm (b.map encN) → OT ω' w' 8 9 1 r (strs ks) → OT ω' w' 9 99 2 v' (labs (listN b (ks.take (i + 1)))) → X (some gm) v' r ((r.n : Nat) : Int) (IntKind.i64.wrap ((i : Int) + 1)) w' := fun v' ω' w' h1 h2 h3 h4 => by
        rw [wI64 (by omega) (by omega), show (i : Int) + 1 = ((i + 1 : Nat) : Int) by omega]
        exact ih (i + 1) v' ω' w' (by omega) h1 h2 h3 h4
      refine cond_d (fun hne => ?_) (fun he => ?_)
      · rw [if_neg hne] at hlk
        refine rd1_V mp mapS strT zeroS (a := atN b ks[i]) (by rw [hg]; rfl) ?_
        have hvn : v.n ≤ ks.length := by
          have := ov.own.len
          rw [labs_len] at this
          have h2 : (listN b (ks.take i)).length ≤ (ks.take i).length := by unfold listN; exact List.length_filterMap_le _ _
          rw [List.length_take] at h2
          omega
        refine push_T (n := 1) tiL ov rfl (by intro v hv; simp at hv; rcases hv with rfl | rfl <;> rfl) (by simp only [maxLen]; omega) (by omega) fun r2 ω2 w2 k2 o2 _ => ?_
        refine next r2 ω2 w2 (top.stp k2) (mp.stp k2 rfl) (o.stp k2) ?_
        rw [hlk, labs_app]; exact o2
      · have he : atN b ks[i] = noB := Decidable.not_not.1 he
        rw [if_pos he, List.append_nil] at hlk
        exact next v ω w top mp o (by rw [hlk]; exact ov)
  exact key ks.length 0 nilS ω1 w1 (by omega) top1 hmp1 o1 (OT.nil _ _ _ _ _)
theorem locL {a b : ByteArray} {Z : Addr → World → Prop} (hK : ∀ g w', KD w w' → w.heap.size ≤ g → Blk w' g 99 [.string a, .string b] → Z ⟨g, 0, none⟩ w') :
    G.new (.cells #[(.string (⟨#[]⟩ : ByteArray)), (.string (⟨#[]⟩ : ByteArray))] 99) w fun p w1 => G.st p (.string a) w1 fun w2 => G.st (p.add 1) (.string b) w2 fun w3 => Z p w3 :=
  newD fun g w1 k1 hg b1 => stD hg k1 b1 (by simp) fun w2 k2 b2 => stDA hg k2 b2 (by simp) fun w3 k3 b3 => hK g w3 k3 hg b3
theorem updAll_len : ∀ (l b : List Lb), (updAll b l).length ≤ b.length + l.length
  | [], b => Nat.le_refl _
  | x :: l, b => by
    have h1 := updAll_len l (updN x b)
    have h2 : ∀ b : List Lb, (updN x b).length ≤ b.length + 1 := fun b => by
      induction b with
      | nil => simp [updN]
      | cons y b ih => unfold updN; split <;> simp <;> omega
    have := h2 b
    rw [upd_all_cons, List.length_cons]; omega
theorem upd_step {x : Lb} {b : List Lb} (top : Top w0 ω w) (mp : MV ω w 5 gm (b.map encN)) {a : Addr} (c0 : w.cell? a = some (.string x.1)) (c1 : w.cell? (a.add 1) = some (.string x.2)) {Z : World → Prop}
    (hZ : ∀ ω' w', Top w0 ω' w' → MV ω' w' 5 gm ((updN x b).map encN) → Z w') :
    G.cS a w fun s53 => G.cS (a.add 1) w fun s54 => G.new (.cells #[(.string (⟨#[]⟩ : ByteArray)), (.string (⟨#[]⟩ : ByteArray))] 99) w fun p55 w56 => G.st p55 (.string s53) w56 fun w57 => G.st (p55.add 1) (.string s54) w57 fun w58 => G.cS p55 w58 fun s59 => G.cS (p55.add 1) w58 fun s60 => G.runU C.pr (Instr.mapUpdate 136 (.map (some gm)) (.string s59) (.string s60)) w58 fun w61 => Z w61 := by
  refine cS_at c0 <| cS_at c1 <| locL fun g w3 k3 hg b3 => cS_at (b := x.1) (by rw [b3.cell]; rfl) <| cS_at (b := x.2) (by rw [addr_add, b3.cell]; rfl) ?_
  have s3 := k3.1.stp ω 41
  have top3 := top.stp s3
  have mp3 := mp.stp s3 rfl
  generalize ext ω w.heap.size 41 = ω3 at *
  refine updV mp3 mapS strT fun ω4 w4 k4 m4 => hZ ω4 w4 (top3.stp k4) ?_
  rw [updN_map] at m4; exact m4
def wE (l more : List Lb) : Int := if (rt l).1 ≠ 0 then 41 else if 16 < (outL l more).length then 8 else 0
abbrev fault (e : Int) : Value := .iface 116 (.agg #[.int .i64 e])
theorem with_ok {s ms : Sl} {l more : List Lb} (ht : UTab w0) (hs : Rd w0 s 2 (labs l)) (hms : Rd w0 ms 2 (labs more)) (hm : (namesL more).Nodup) (hml : more.length ≤ 1000) {K : Sl → Value → World → Prop}
    (hK : ∀ r x w', Keep w0 w' → (wE l more ≠ 0 → r = nilS ∧ x = fault (wE l more)) → (wE l more = 0 → x = .nilIface ∧ Mem.Own w' w0.heap.size 99 2 r (labs (outL l more))) → K r x w') : C.rules_with s ms w0 K := by
  unfold C.rules_with
  refine right_ok ht hs fun w1 k1 => cond_ne (fun hne => ?_) (fun he => ?_)
  · have e : wE l more = 41 := by unfold wE; rw [if_pos hne]
    exact hK nilS _ w1 k1 (fun _ => ⟨rfl, by rw [e]⟩) (fun h => by rw [e] at h; exact absurd h (by decide))
  have hl := rt_ns he
  have hll : l.length ≤ 16 := ((rt_iff l).1 he).1
  have top1 : Top w0 (ext (fun _ => 0) w0.heap.size 1) w1 := (Top.init w0).stp (k1.stp _ 1)
  generalize ext (fun _ => 0) w0.heap.size 1 = ω1 at *
  refine mkV (ω := ω1) 5 fun gm ω2 w2 k2 m2 => ?_
  have top2 := top1.stp k2
  have hsn := rdL_n hs
  have hmn := rdL_n hms
  unfold C.rules_with.S26
  refine C.rules_with.L22_ind fun X hX => ?_
  have key : ∀ (d i : Nat) (ω : Tg) (w : World), i + d = l.length → Top w0 ω w → MV ω w 5 gm ((updAll [] (l.take i)).map encN) → X ms (some gm) s ((s.n : Nat) : Int) (i : Int) w := by
    intro d
    induction d with
    | zero =>
      intro i ω w hi top mp
      refine hX _ _ _ _ _ _ ?_
      unfold C.rules_with.S24 C.rules_with.S18
      rw [List.take_of_length_le (by omega)] at mp
      refine cond_d (fun h => by omega) (fun _ => ?_)
      refine C.rules_with.L14_ind fun X hX => ?_
      have key : ∀ (d i : Nat) (ω : Tg) (w : World), i + d = more.length → Top w0 ω w → MV ω w 5 gm ((updAll (updAll [] l) (more.take i)).map encN) → X (some gm) ms ((ms.n : Nat) : Int) (i : Int) w := by
        intro d
        induction d with
        | zero =>
          intro i ω w hi top mp
          refine hX _ _ _ _ _ ?_
          unfold C.rules_with.S16
          rw [List.take_of_length_le (by omega)] at mp
          have hlen := updAll_len more (updAll [] l)
          have hlen2 := updAll_len l []
          rw [List.length_nil] at hlen2
          refine cond_d (fun h => by omega) (fun _ => with_S11 top hl hm mp (by omega) 9 rfl fun r x ω' w' top' h1 h2 => hK r x w' top'.k (fun hne => ?_) (fun h0 => ?_))
          · have h16 : 16 < (outL l more).length := by
              rcases Nat.lt_or_ge 16 (outL l more).length with h | h
              · exact h
              · exact absurd (by unfold wE; rw [if_neg (by rw [he]; decide), if_neg (by omega)]) hne
            have e : wE l more = 8 := by unfold wE; rw [if_neg (by rw [he]; decide), if_pos h16]
            rw [e]; exact h2 h16
          · have h16 : (outL l more).length ≤ 16 := by
              rcases Nat.lt_or_ge 16 (outL l more).length with h | h
              · unfold wE at h0; rw [if_neg (by rw [he]; decide), if_pos h] at h0; exact absurd h0 (by decide)
              · exact h
            exact ⟨(h1 h16).1, OT.new (h1 h16).2 top'⟩
        | succ d ih =>
          intro i ω w hi top mp
          refine hX _ _ _ _ _ ?_
          unfold C.rules_with.S16
          have him : i < more.length := by omega
          refine cond_d (fun _ => ?_) (fun h => by omega)
          refine rdL_at (hms.keep top.k) (k := i) rfl (List.getElem?_eq_getElem him) fun a a0 a1 => upd_step top mp a0 a1 fun ω' w' top' m' => ?_
          rw [wI64 (by omega) (by omega), show (i : Int) + 1 = ((i + 1 : Nat) : Int) by omega]
          refine ih (i + 1) ω' w' (by omega) top' ?_
          rw [List.take_succ_eq_append_getElem him]
          unfold updAll at m' ⊢
          rw [List.foldl_append]; exact m'
      exact key more.length 0 ω w (by omega) top mp
    | succ d ih =>
      intro i ω w hi top mp
      refine hX _ _ _ _ _ _ ?_
      unfold C.rules_with.S24
      have him : i < l.length := by omega
      refine cond_d (fun _ => ?_) (fun h => by omega)
      refine rdL_at (hs.keep top.k) (k := i) rfl (List.getElem?_eq_getElem him) fun a a0 a1 => upd_step top mp a0 a1 fun ω' w' top' m' => ?_
      rw [wI64 (by omega) (by omega), show (i : Int) + 1 = ((i + 1 : Nat) : Int) by omega]
      refine ih (i + 1) ω' w' (by omega) top' ?_
      rw [List.take_succ_eq_append_getElem him]
      unfold updAll at m' ⊢
      rw [List.foldl_append]; exact m'
  exact key l.length 0 ω2 w2 (by omega) top2 m2
end Go.Proofs.YtechilkjfhpkpaaGreatDoor.Ru

namespace Go.Proofs.YtechilkjfhpkpaaGreatDoor.Ru
open Go Vm Go.RowKit Num Mem Utf Lib Lab
variable {ω ω' ωb : Tg} {w w' w0 wb : World} {t u gs gm : Nat} {T : Nat → Bool} {pl : List Lb}
theorem ba_eq (a b : ByteArray) : (a.toList == b.toList) = decide (a = b) := by
  rw [eqB]
  exact decide_eq_decide.2 (cB_cmp.eq a b)
theorem rdT_n {s : Sl} {l : List ByteArray} (h : Rd w s 1 (strs l)) : s.n = l.length := by have := h.2.1; simp [strs] at this; omega
theorem rdT_at {s : Sl} {l : List ByteArray} (h : Rd w s 1 (strs l)) {i : Int} {k : Nat} {b : ByteArray} (ei : i = (k : Int)) (hx : l[k]? = some b) {K : Addr → Prop} (hK : ∀ a : Addr, w.cell? a = some (.string b) → K a) : G.ix s.a s.n i 1 K := by
  have hk : k < l.length := (List.getElem?_eq_some_iff.1 hx).1
  have hn := rdT_n h
  subst ei
  refine Rd.ix h (by decide) (by omega) (by omega) fun a hc => hK a ?_
  have := hc 0 (.string b) (by decide) (by rw [Int.toNat_natCast, Nat.mul_one, Nat.add_zero]; unfold strs; rw [List.getElem?_map, hx]; rfl)
  rwa [show a.add 0 = a by simp [Addr.add]] at this
theorem rhas_ok {s : Sl} {l : List ByteArray} (h : Rd w s 1 (strs l)) (hl : l.length ≤ 100000) {n : ByteArray} {K : Bool → World → Prop} (hK : K (decide (n ∈ l)) w) : C.tocsinref04_has s n w K := by
  unfold C.tocsinref04_has C.tocsinref04_has.S9
  have hsn := rdT_n h
  refine C.tocsinref04_has.L5_ind fun X hX => ?_
  have key : ∀ (d i : Nat), i + d = l.length → decide (n ∈ l) = decide (n ∈ l.drop i) → X n s ((s.n : Nat) : Int) (i : Int) w := by
    intro d
    induction d with
    | zero =>
      intro i hi e
      refine hX _ _ _ _ _ ?_
      unfold C.tocsinref04_has.S7 C.tocsinref04_has.S2
      rw [List.drop_of_length_le (by omega)] at e
      refine cond_d (fun h => by omega) (fun _ => ?_)
      rw [e] at hK; exact hK
    | succ d ih =>
      intro i hi e
      refine hX _ _ _ _ _ ?_
      unfold C.tocsinref04_has.S7
      have him : i < l.length := by omega
      rw [List.drop_eq_getElem_cons him] at e
      refine cond_d (fun _ => ?_) (fun h => by omega)
      refine rdT_at h (k := i) rfl (List.getElem?_eq_getElem him) fun a ha => cS_at ha ?_
      rw [ba_eq]
      refine cond_d (fun hh => ?_) (fun hh => ?_)
      · rw [e, decide_eq_true (show n ∈ l[i] :: l.drop (i + 1) by rw [hh]; exact List.mem_cons_self)] at hK; exact hK
      · rw [wI64 (by omega) (by omega), show (i : Int) + 1 = ((i + 1 : Nat) : Int) by omega]
        refine ih (i + 1) (by omega) ?_
        rw [e]
        exact decide_eq_decide.2 ⟨fun h => by rcases List.mem_cons.1 h with h | h; exact absurd h.symm hh; exact h, fun h => List.mem_cons_of_mem _ h⟩
  exact key l.length 0 (by omega) rfl
theorem rpick_ok {s ns : Sl} {l : List Lb} {nl : List ByteArray} (h : Rd w0 s 2 (labs l)) (hn : Rd w0 ns 1 (strs nl)) (hl : l.length ≤ 100000) (hnl : nl.length ≤ 100000) {K : Sl → World → Prop}
    (hK : ∀ r w', Keep w0 w' → Mem.Own w' w0.heap.size 99 2 r (labs (pickN nl l)) → K r w') : C.tocsinref04_Pick s ns false w0 K := by
  unfold C.tocsinref04_Pick C.tocsinref04_Pick.S9
  have hsn := rdL_n h
  refine C.tocsinref04_Pick.L5_ind fun X hX => ?_
  have key : ∀ (d i : Nat) (v : Sl) (ω : Tg) (w : World), i + d = l.length → Top w0 ω w → OT ω w 9 99 2 v (labs (pickN nl (l.take i))) → X ns false v s ((s.n : Nat) : Int) (i : Int) w := by
    intro d
    induction d with
    | zero =>
      intro i v ω w hi top o
      refine hX _ _ _ _ _ _ _ ?_
      unfold C.tocsinref04_Pick.S7 C.tocsinref04_Pick.S2
      rw [List.take_of_length_le (by omega)] at o
      exact cond_d (fun h => by omega) (fun _ => hK v w top.k (OT.new o top))
    | succ d ih =>
      intro i v ω w hi top o
      refine hX _ _ _ _ _ _ _ ?_
      unfold C.tocsinref04_Pick.S7
      have him : i < l.length := by omega
      refine cond_d (fun _ => ?_) (fun h => by omega)
      refine rdL_at (h.keep top.k) (k := i) rfl (List.getElem?_eq_getElem him) fun a a0 a1 => cS_at a0 <| cS_at a1 ?_
      refine locL fun g w3 k3 hg b3 => cS_at (b := l[i].1) (by rw [b3.cell]; rfl) ?_
      have s3 := k3.1.stp ω 41
      have top3 := top.stp s3
      have o3 := o.stp s3
      generalize ext ω w.heap.size 41 = ω3 at *
      refine rhas_ok (hn.keep top3.k) hnl ?_
      have ep : pickN nl (l.take (i + 1)) = pickN nl (l.take i) ++ (if l[i].1 ∈ nl then [] else [l[i]]) := by
        rw [List.take_succ_eq_append_getElem him]
        unfold pickN
        rw [List.filter_append]
        congr 1
        by_cases e : l[i].1 ∈ nl
        · simp [e]
        · simp [e]
      rw [wI64 (by omega) (by omega), show (i : Int) + 1 = ((i + 1 : Nat) : Int) by omega]
      by_cases e : l[i].1 ∈ nl
      · rw [decide_eq_true e]
        rw [if_pos e, List.append_nil] at ep
        exact cond_f rfl (ih (i + 1) v ω3 w3 (by omega) top3 (by rw [ep]; exact o3))
      · rw [decide_eq_false e]
        rw [if_neg e] at ep
        refine cond_t rfl <| cS_at (b := l[i].1) (by rw [b3.cell]; rfl) <| cS_at (b := l[i].2) (by rw [addr_add, b3.cell]; rfl) ?_
        have hvn := rdL_n o3.rd
        have hpl : (pickN nl (l.take i)).length ≤ (l.take i).length := List.length_filter_le _ _
        rw [List.length_take] at hpl
        refine push_T (n := 1) tiL o3 rfl (by intro v hv; simp at hv; rcases hv with rfl | rfl <;> rfl) (by simp only [maxLen]; omega) (by omega) fun r ω4 w4 k4 o4 _ => ?_
        refine ih (i + 1) r ω4 w4 (by omega) (top3.stp k4) ?_
        rw [ep, labs_app]; exact o4
  exact key l.length 0 nilS (fun _ => 0) w0 (by omega) (Top.init w0) (OT.nil _ _ _ _ _)
theorem rfull_ok {s : Sl} {l : List Lb} (h : Rd w0 s 2 (labs l)) (hl : l.length ≤ 100000) {K : Sl → World → Prop}
    (hK : ∀ r w', Keep w0 w' → Mem.Own w' w0.heap.size 99 2 r (labs (fullN l)) → K r w') : C.tocsinref04_full s w0 K := by
  unfold C.tocsinref04_full C.tocsinref04_full.S9
  have hsn := rdL_n h
  refine C.tocsinref04_full.L5_ind fun X hX => ?_
  have key : ∀ (d i : Nat) (v : Sl) (ω : Tg) (w : World), i + d = l.length → Top w0 ω w → OT ω w 9 99 2 v (labs (fullN (l.take i))) → X v s ((s.n : Nat) : Int) (i : Int) w := by
    intro d
    induction d with
    | zero =>
      intro i v ω w hi top o
      refine hX _ _ _ _ _ ?_
      unfold C.tocsinref04_full.S7 C.tocsinref04_full.S2
      rw [List.take_of_length_le (by omega)] at o
      exact cond_d (fun h => by omega) (fun _ => hK v w top.k (OT.new o top))
    | succ d ih =>
      intro i v ω w hi top o
      refine hX _ _ _ _ _ ?_
      unfold C.tocsinref04_full.S7
      have him : i < l.length := by omega
      refine cond_d (fun _ => ?_) (fun h => by omega)
      refine rdL_at (h.keep top.k) (k := i) rfl (List.getElem?_eq_getElem him) fun a a0 a1 => cS_at a0 <| cS_at a1 ?_
      refine locL fun g w3 k3 hg b3 => cS_at (b := l[i].2) (by rw [addr_add, b3.cell]; rfl) ?_
      have s3 := k3.1.stp ω 41
      have top3 := top.stp s3
      have o3 := o.stp s3
      generalize ext ω w.heap.size 41 = ω3 at *
      have ep : fullN (l.take (i + 1)) = fullN (l.take i) ++ (if l[i].2 ≠ noB then [l[i]] else []) := by
        rw [List.take_succ_eq_append_getElem him]
        unfold fullN
        rw [List.filter_append]
        congr 1
        by_cases e : l[i].2 = noB
        · simp [e]
        · simp [e]
      rw [emptyB, wI64 (by omega) (by omega), show (i : Int) + 1 = ((i + 1 : Nat) : Int) by omega]
      refine cond_d (fun e => ?_) (fun e => ?_)
      · rw [if_pos e] at ep
        refine cS_at (b := l[i].1) (by rw [b3.cell]; rfl) <| cS_at (b := l[i].2) (by rw [addr_add, b3.cell]; rfl) ?_
        have hvn := rdL_n o3.rd
        have hpl : (fullN (l.take i)).length ≤ (l.take i).length := List.length_filter_le _ _
        rw [List.length_take] at hpl
        refine push_T (n := 1) tiL o3 rfl (by intro v hv; simp at hv; rcases hv with rfl | rfl <;> rfl) (by simp only [maxLen]; omega) (by omega) fun r ω4 w4 k4 o4 _ => ?_
        refine ih (i + 1) r ω4 w4 (by omega) (top3.stp k4) ?_
        rw [ep, labs_app]; exact o4
      · rw [if_neg e, List.append_nil] at ep
        exact ih (i + 1) v ω3 w3 (by omega) top3 (by rw [ep]; exact o3)
  exact key l.length 0 nilS (fun _ => 0) w0 (by omega) (Top.init w0) (OT.nil _ _ _ _ _)
theorem labs_take (l : List Lb) (n : Nat) : (labs l).take (n * 2) = labs (l.take n) := by
  have e : l = l.take n ++ l.drop n := (List.take_append_drop n l).symm
  rcases Nat.lt_or_ge n l.length with h | h
  · conv => lhs; rw [e, labs_app, List.take_append_of_le_length (by rw [labs_len, List.length_take]; omega), List.take_of_length_le (by rw [labs_len, List.length_take]; omega)]
  · rw [List.take_of_length_le (by rw [labs_len]; omega), List.take_of_length_le h]
theorem rtwice_ok {s : Sl} {l : List Lb} (h : Rd w0 s 2 (labs l)) (hl : l.length ≤ 100000) (hn : (namesL l).Nodup) {K : Bool → World → Prop} (hK : ∀ w', Keep w0 w' → K false w') : C.tocsinref04_twice s w0 K := by
  unfold C.tocsinref04_twice C.tocsinref04_twice.S20
  have hsn := rdL_n h
  refine C.tocsinref04_twice.L5_ind fun X hX => ?_
  have key : ∀ (d i : Nat) (w : World), i + d = l.length → Keep w0 w → X s s ((s.n : Nat) : Int) (i : Int) w := by
    intro d
    induction d with
    | zero =>
      intro i w hi k
      refine hX _ _ _ _ _ ?_
      unfold C.tocsinref04_twice.S18 C.tocsinref04_twice.S2
      exact cond_d (fun h => by omega) (fun _ => hK w k)
    | succ d ih =>
      intro i w hi k
      refine hX _ _ _ _ _ ?_
      unfold C.tocsinref04_twice.S18 C.tocsinref04_twice.S15
      have him : i < l.length := by omega
      refine cond_d (fun _ => ?_) (fun h => by omega)
      refine rdL_at (h.keep k) (k := i) rfl (List.getElem?_eq_getElem him) fun a a0 a1 => cS_at a0 <| cS_at a1 ?_
      refine locL fun g w3 k3 hg b3 => ?_
      have k03 := Keep.trans k k3.1
      refine Rd.slc h (lo := 0) (hi := i) (by omega) (by omega) rfl rfl fun q hq hqn _ => ?_
      rw [Nat.zero_mul, List.drop_zero, Nat.sub_zero, labs_take] at hq
      rw [Nat.sub_zero] at hqn
      refine C.tocsinref04_twice.L11_ind fun Y hY => ?_
      have inner : ∀ (d j : Nat) (w : World), j + d = i → Keep w3 w → Y s (some ⟨g, 0, none⟩) s ((s.n : Nat) : Int) (i : Int) q ((q.n : Nat) : Int) (j : Int) w := by
        intro d
        induction d with
        | zero =>
          intro j w hj k4
          refine hY _ _ _ _ _ _ _ _ _ ?_
          unfold C.tocsinref04_twice.S13 C.tocsinref04_twice.S7
          refine cond_d (fun h => by omega) (fun _ => ?_)
          rw [wI64 (by omega) (by omega), show (i : Int) + 1 = ((i + 1 : Nat) : Int) by omega]
          exact ih (i + 1) w (by omega) (Keep.trans k03 k4)
        | succ d ihd =>
          intro j w hj k4
          refine hY _ _ _ _ _ _ _ _ _ ?_
          unfold C.tocsinref04_twice.S13
          refine cond_d (fun _ => ?_) (fun h => by omega)
          have hjl : (l.take i)[j]? = some (l[j]'(by omega)) := by rw [List.getElem?_take_of_lt (by omega)]; exact List.getElem?_eq_getElem _
          refine rdL_at (hq.keep (Keep.trans k03 k4)) (k := j) rfl hjl fun a a0 a1 => cS_at a0 <| cS_at a1 ?_
          refine locL fun g5 w5 k5 hg5 b5 => ?_
          have b35 := (b3.keep k4).keep k5.1
          refine ptr_at <| cS_at (b := l[i].1) (by rw [b35.cell]; rfl) <| cS_at (b := (l[j]'(by omega)).1) (by rw [b5.cell]; rfl) ?_
          rw [ba_eq]
          refine cond_f (decide_eq_false fun e => ?_) ?_
          · have := List.pairwise_iff_getElem.1 hn j i (by unfold namesL; rw [List.length_map]; omega) (by unfold namesL; rw [List.length_map]; omega) (by omega)
            unfold namesL at this
            rw [List.getElem_map, List.getElem_map] at this
            exact this e.symm
          · rw [wI64 (by omega) (by omega), show (j : Int) + 1 = ((j + 1 : Nat) : Int) by omega]
            exact ihd (j + 1) w5 (by omega) (Keep.trans k4 k5.1)
      exact inner i 0 w3 (by omega) (Keep.refl w3)
  exact key l.length 0 w0 (by omega) (Keep.refl w0)
theorem insN_at {x : Lb} : ∀ {A B : List Lb}, (∀ a ∈ A, ¬ cB x.1 a.1 < 0) → (∀ b ∈ B, cB x.1 b.1 < 0) → insN x (A ++ B) = A ++ x :: B
  | [], [], _, _ => rfl
  | [], b :: B, _, h => by rw [List.nil_append, insN, if_pos (h b (List.mem_cons_self ..))]; rfl
  | a :: A, B, h1, h2 => by
    rw [List.cons_append, insN, if_neg (h1 a (List.mem_cons_self ..)), insN_at (fun y hy => h1 y (List.mem_cons_of_mem _ hy)) h2]; rfl
theorem labs_set : ∀ (l : List Lb) (k : Nat) (p : Lb), ((labs l).set (k * 2 + 0) (.string p.1)).set (k * 2 + 1) (.string p.2) = labs (l.set k p)
  | [], k, p => by simp [labs]
  | x :: l, 0, p => rfl
  | x :: l, k + 1, p => by
    have ih := labs_set l k p
    rw [Nat.add_zero] at ih
    have e : ∀ (y : Lb) (m : List Lb), labs (y :: m) = .string y.1 :: .string y.2 :: labs m := fun _ _ => rfl
    rw [e, show (k + 1) * 2 + 0 = (k * 2 + 0) + 1 + 1 by omega, show (k + 1) * 2 + 1 = (k * 2 + 1) + 1 + 1 by omega, List.set_cons_succ, List.set_cons_succ, List.set_cons_succ, List.set_cons_succ, ih, List.set_cons_succ, e]
theorem stL_ok {t : Nat} {s : Sl} {l : List Lb} (h : OT ω w t 99 2 s (labs l)) {i : Int} {k : Nat} (ei : i = (k : Int)) (hk : k < l.length) (p : Lb) {Z : World → Prop}
    (hK : ∀ ω' w', Stp (Mem.One t) ω ω' w w' → OT ω' w' t 99 2 s (labs (l.set k p)) → Z w') :
    G.ix s.a s.n i 2 fun a => G.st a (.string p.1) w fun w1 => G.st (a.add 1) (.string p.2) w1 Z := by
  have hn := rdL_n h.rd
  refine OT.at_ h ei (by omega) fun a ha _ _ _ => ?_
  have e0 : a = a.add 0 := by simp [Addr.add]
  have key : G.st (a.add 0) (.string p.1) w fun w1 => G.st (a.add 1) (.string p.2) w1 Z := by
    refine OT.st h (i := k) (j := 0) (by omega) (by decide) _ ha fun ω1 w1 k1 o1 => ?_
    refine OT.st o1 (i := k) (j := 1) (by omega) (by decide) _ ha fun ω2 w2 k2 o2 => hK ω2 w2 (k1.trans k2) ?_
    rw [labs_set] at o2
    exact o2
  rwa [← e0] at key
theorem ins_step {α : Type} (A : List α) (k : Nat) (hk : k < A.length) (z : α) : (A.take (k + 1) ++ z :: A.drop (k + 1)).set (k + 1) A[k] = A.take k ++ A[k] :: A.drop k := by
  have e : (A.take (k + 1)).length = k + 1 := by rw [List.length_take]; omega
  rw [List.set_append_right _ _ (by omega), e, Nat.sub_self, List.set_cons_zero, List.take_succ_eq_append_getElem hk, List.append_assoc, List.drop_eq_getElem_cons hk]
  rfl
end Go.Proofs.YtechilkjfhpkpaaGreatDoor.Ru

namespace Go.Proofs.YtechilkjfhpkpaaGreatDoor.Ru
open Go Vm Go.RowKit Num Mem Utf Lib Lab
variable {ω ω' ωb : Tg} {w w' w0 wb : World} {t u gs gm : Nat} {T : Nat → Bool} {pl : List Lb}
theorem srtN_take {l : List Lb} {i : Nat} (h : i < l.length) : srtN (l.take (i + 1)) = insN l[i] (srtN (l.take i)) := by
  rw [List.take_succ_eq_append_getElem h]; unfold srtN; rw [List.foldl_append]; rfl
theorem gtB (a b : ByteArray) : (!((Op.bytesLess a.toList b.toList) || (a.toList == b.toList))) = decide (cB b a < 0) := by
  rw [lessB, eqB]
  have h1 := cB_cmp.vals a b
  have h2 := cB_cmp.anti a b
  rcases h1 with h | h | h <;> rw [h] at h2 ⊢ <;> rw [h2] <;> rfl
theorem rsorted_ok {s : Sl} {q : List Lb} (h : Rd w0 s 2 (labs q)) (hl : q.length ≤ 100000) (hn : (namesL q).Nodup) {K : Sl → World → Prop}
    (hK : ∀ r w', Keep w0 w' → Mem.Own w' w0.heap.size 99 2 r (labs (srtN q)) → K r w') : C.tocsinref04_sorted s w0 K := by
  have hsn := rdL_n h
  unfold C.tocsinref04_sorted C.tocsinref04_sorted.S23
  refine C.tocsinref04_sorted.L5_ind fun X hX => ?_
  have key : ∀ (d i : Nat) (out : Sl) (ω : Tg) (w : World), i + d = q.length → Top w0 ω w → OT ω w 2 99 2 out (labs (srtN (q.take i))) → X out s ((s.n : Nat) : Int) (i : Int) w := by
    intro d
    induction d with
    | zero =>
      intro i out ω w hi top o
      refine hX _ _ _ _ _ ?_
      unfold C.tocsinref04_sorted.S21 C.tocsinref04_sorted.S2
      refine cond_d (fun h => by omega) (fun _ => ?_)
      rw [List.take_of_length_le (by omega)] at o
      exact hK out w top.k (OT.new o top)
    | succ d ih =>
      intro i out ω w hi top o
      refine hX _ _ _ _ _ ?_
      unfold C.tocsinref04_sorted.S21 C.tocsinref04_sorted.S18
      have hiq : i < q.length := by omega
      have esr := srtN_take hiq
      have hAl : (srtN (q.take i)).length = i := by rw [(srtN_perm _).length_eq, List.length_take]; omega
      have upA : (srtN (q.take i)).Pairwise ltN := srtN_up (((List.take_sublist i q).map (fun x : Lb => x.1)).nodup hn)
      have hmem : ∀ y ∈ srtN (q.take i), y ∈ q.take i := fun y hy => (srtN_perm _).mem_iff.1 hy
      have hneq : ∀ y ∈ srtN (q.take i), y.1 ≠ q[i].1 := fun y hy e => by
        obtain ⟨j, hj, ej⟩ := List.mem_iff_getElem.1 (hmem y hy)
        rw [List.length_take] at hj
        rw [List.getElem_take] at ej
        have := List.pairwise_iff_getElem.1 hn j i (by unfold namesL; rw [List.length_map]; omega) (by unfold namesL; rw [List.length_map]; omega) (by omega)
        unfold namesL at this
        rw [List.getElem_map, List.getElem_map] at this
        exact this (by rw [ej]; exact e)
      generalize srtN (q.take i) = A at *
      refine cond_d (fun _ => ?_) (fun h => by omega)
      refine rdL_at (h.keep top.k) (k := i) rfl (List.getElem?_eq_getElem hiq) fun a e0 e1 => cS_at e0 <| cS_at e1 ?_
      refine locL fun g w3 k3 hg b3 => ?_
      have s3 := k3.1.stp ω 7
      have bt : BT (ext ω w.heap.size 7) w3 7 g _ _ := ⟨b3, ext_new hg⟩
      have top3 := top.stp s3
      have o3 := o.stp s3
      generalize ext ω w.heap.size 7 = ω3 at *
      refine cS_at (b := q[i].1) (by rw [bt.cell]; rfl) <| cS_at (b := q[i].2) (by rw [addr_add, bt.cell]; rfl) ?_
      have hon := rdL_n o.rd
      refine push_T tiL o3 (n := 1) rfl (by intro v hv; simp at hv; rcases hv with rfl | rfl <;> rfl) (by simp only [maxLen]; omega) (by omega) fun r ω4 w4 k4 o4 _ => ?_
      have top4 := top3.stp k4
      have b4 := bt.stp k4
      have e4 : labs A ++ [.string q[i].1, .string q[i].2] = labs (A ++ [q[i]]) := by rw [labs_app]; rfl
      have o4' : OT ω4 w4 2 99 2 r (labs (A.take i ++ q[i] :: A.drop i)) := by
        rw [List.take_of_length_le (by omega), List.drop_of_length_le (by omega), ← e4]; exact o4
      have hrn : r.n = A.length + 1 := by have := rdL_n o4'.rd; rw [List.length_append, List.length_cons, List.length_take, List.length_drop] at this; omega
      refine C.tocsinref04_sorted.L13_ind fun Y hY => ?_
      have done : ∀ (k : Nat) (z : Lb) (ω : Tg) (w : World), k ≤ i → Top w0 ω w → BT ω w 7 g 99 [.string q[i].1, .string q[i].2] → OT ω w 2 99 2 r (labs (A.take k ++ z :: A.drop k)) → (∀ b ∈ A.drop k, cB q[i].1 b.1 < 0) → (∀ b ∈ A.take k, ¬ cB q[i].1 b.1 < 0) →
          C.tocsinref04_sorted.S10 K X r (some ⟨g, 0, none⟩) (k : Int) s ((s.n : Nat) : Int) (i : Int) w := by
        intro k z ω w hki top bt o h1 h2
        unfold C.tocsinref04_sorted.S10 C.tocsinref04_sorted.S7
        refine ptr_at <| cS_at (b := q[i].1) (by rw [bt.cell]; rfl) <| cS_at (b := q[i].2) (by rw [addr_add, bt.cell]; rfl) ?_
        have hkl : (A.take k).length = k := by rw [List.length_take]; omega
        refine stL_ok (k := k) o rfl (by rw [List.length_append, hkl, List.length_cons]; omega) q[i] fun ω6 w6 k6 o6 => ?_
        rw [List.set_append_right _ _ (by omega), hkl, Nat.sub_self, List.set_cons_zero] at o6
        rw [wI64 (by omega) (by omega), show (i : Int) + 1 = ((i + 1 : Nat) : Int) by omega]
        refine ih (i + 1) r ω6 w6 (by omega) (top.stp k6) ?_
        have eA := insN_at h2 h1
        rw [List.take_append_drop] at eA
        rw [esr, eA]
        exact o6
      have loop : ∀ (k : Nat) (z : Lb) (ω : Tg) (w : World), k ≤ i → Top w0 ω w → BT ω w 7 g 99 [.string q[i].1, .string q[i].2] → OT ω w 2 99 2 r (labs (A.take k ++ z :: A.drop k)) → (∀ b ∈ A.drop k, cB q[i].1 b.1 < 0) →
          Y r (some ⟨g, 0, none⟩) (k : Int) s ((s.n : Nat) : Int) (i : Int) w := by
        intro k
        induction k with
        | zero =>
          intro z ω w hki top bt o h1
          refine hY _ _ _ _ _ _ _ ?_
          unfold C.tocsinref04_sorted.S15
          have sd := drew_stp ω w
          exact cond_d (fun h => by omega) (fun _ => done 0 z ω _ (by omega) (top.stp sd) (bt.stp sd) (o.stp sd) h1 (by simp))
        | succ k ihk =>
          intro z ω w hki top bt o h1
          refine hY _ _ _ _ _ _ _ ?_
          unfold C.tocsinref04_sorted.S15
          have sd := drew_stp ω w
          have topd := top.stp sd
          have bd := bt.stp sd
          have od := o.stp sd
          have hkA : k < A.length := by omega
          have hkl : (A.take (k + 1)).length = k + 1 := by rw [List.length_take]; omega
          have hgk : (A.take (k + 1) ++ z :: A.drop (k + 1))[k]? = some A[k] := by
            rw [List.getElem?_append_left (by omega), List.getElem?_take, if_pos (by omega), List.getElem?_eq_getElem hkA]
          have ek : IntKind.i64.wrap (((k + 1 : Nat) : Int) - 1) = (k : Int) := by rw [wI64 (by omega) (by omega)]; omega
          refine cond_d (fun _ => ?_) (fun h => by omega)
          rw [ek]
          refine rdL_at od.rd (k := k) rfl hgk fun p f0 f1 => cS_at f0 <| ptr_at <| cS_at (b := q[i].1) (by rw [bd.cell]; rfl) ?_
          rw [gtB]
          refine cond_d (fun hlt => ?_) (fun hge => ?_)
          · refine rdL_at od.rd (k := k) rfl hgk fun p f0 f1 => cS_at f0 <| cS_at f1 ?_
            refine stL_ok (k := k + 1) od rfl (by rw [List.length_append, hkl, List.length_cons]; omega) A[k] fun ω6 w6 k6 o6 => ?_
            rw [ins_step A k hkA z] at o6
            refine ihk A[k] ω6 w6 (by omega) (topd.stp k6) (bd.stp k6) o6 fun b hb => ?_
            rw [List.drop_eq_getElem_cons hkA] at hb
            rcases List.mem_cons.1 hb with rfl | hb
            · exact hlt
            · exact h1 b hb
          · refine done (k + 1) z ω _ hki topd bd od h1 fun b hb hlt => ?_
            obtain ⟨j, hj, ej⟩ := List.mem_iff_getElem.1 hb
            rw [List.length_take] at hj
            rw [List.getElem_take] at ej
            by_cases e : j = k
            · subst e; rw [← ej] at hlt; exact hge hlt
            · have := List.pairwise_iff_getElem.1 upA j k (by omega) hkA (by omega)
              rw [ej] at this
              exact hge (cB_cmp.trans _ _ _ hlt this)
      rw [hon, hAl]
      exact loop i q[i] ω4 w4 (Nat.le_refl _) top4 b4 o4' (by rw [List.drop_of_length_le (by omega)]; simp)
  exact key q.length 0 nilS (fun _ => 0) w0 (by omega) (Top.init w0) (OT.nil _ _ _ _ _)
theorem own_keep {B : Nat} {e : TypeId} {sz : Nat} {s : Sl} {xs : List Value} (h : Mem.Own w B e sz s xs) (k : Keep w w') (hB : w0.heap.size ≤ B) : Mem.Own w' w0.heap.size e sz s xs := (Own.keep h k).mono hB
theorem rmake_ok {s : Sl} {q : List Lb} (h : Rd w0 s 2 (labs q)) (hl : q.length ≤ 100000) (hn : (namesL q).Nodup) (hr : (rt (srtN (fullN q))).1 = 0) {K : Sl → Int → World → Prop}
    (hK : ∀ r w', Keep w0 w' → Mem.Own w' w0.heap.size 99 2 r (labs (srtN (fullN q))) → K r 0 w') : C.tocsinref04_Make s w0 K := by
  unfold C.tocsinref04_Make
  refine rtwice_ok h hl hn fun w1 k1 => cond_f rfl ?_
  refine rfull_ok (h.keep k1) hl fun r2 w2 k2 o2 => ?_
  have hfl : (fullN q).length ≤ q.length := List.length_filter_le _ _
  have hfn : (namesL (fullN q)).Nodup := ((List.filter_sublist (p := fun x : Lb => decide (x.2 ≠ noB))).map (fun x : Lb => x.1)).nodup hn
  refine rsorted_ok (Own.rd o2) (by omega) hfn fun r3 w3 k3 o3 => ?_
  have k13 := Keep.trans k2 k3
  have hsz : ∀ x ∈ srtN (fullN q), x.2.size ≤ 140737488355300 := fun x hx => by
    have := ((rt_short hr).2 x hx).2; omega
  refine rright_ok (Own.rd o3) hsz fun w4 k4 => cond_ne (fun h => absurd hr h) (fun _ => ?_)
  exact hK r3 w4 (Keep.trans k1 (Keep.trans k13 k4)) (own_keep o3 k4 (Keep.trans k1 k2).size)
theorem rwith_ok {s ms : Sl} {l more : List Lb} (hs : Rd w0 s 2 (labs l)) (hms : Rd w0 ms 2 (labs more)) (hsz : ∀ x ∈ l, x.2.size ≤ 140737488355300) (hm : (namesL more).Nodup) (hml : more.length ≤ 1000) (hg : ∀ x ∈ more, goodL x) {K : Sl → Int → World → Prop}
    (hK : ∀ r w', Keep w0 w' → (wE l more ≠ 0 → r = nilS) → (wE l more = 0 → Mem.Own w' w0.heap.size 99 2 r (labs (outL l more))) → K r (wE l more) w') : C.tocsinref19_with s ms w0 K := by
  unfold C.tocsinref19_with
  refine rright_ok hs hsz fun w1 k1 => cond_ne (fun hne => ?_) (fun he => ?_)
  · have e : wE l more = 41 := by unfold wE; rw [if_pos hne]
    have := hK nilS w1 k1 (fun _ => rfl) (fun h => by rw [e] at h; exact absurd h (by decide))
    rw [e] at this; exact this
  have hl := rt_ns he
  have hll : l.length ≤ 16 := ((rt_iff l).1 he).1
  have hmn := rdL_n hms
  have top1 : Top w0 (ext (fun _ => 0) w0.heap.size 1) w1 := (Top.init w0).stp (k1.stp _ 1)
  generalize ext (fun _ => 0) w0.heap.size 1 = ω1 at *
  unfold C.tocsinref19_with.S9
  refine C.tocsinref19_with.L5_ind fun X hX => ?_
  have key : ∀ (d i : Nat) (v : Sl) (ω : Tg) (w : World), i + d = more.length → Top w0 ω w → OT ω w 3 9 1 v (strs (namesL (more.take i))) → X s ms v (i : Int) w := by
    intro d
    induction d with
    | zero =>
      intro i v ω w hi top o
      refine hX _ _ _ _ _ ?_
      unfold C.tocsinref19_with.S7 C.tocsinref19_with.S2
      rw [List.take_of_length_le (by omega)] at o
      refine cond_d (fun h => by omega) (fun _ => ?_)
      refine rpick_ok (hs.keep top.k) o.rd (by omega) (by unfold namesL; rw [List.length_map]; omega) fun r2 w2 k2 o2 => ?_
      have hpl : (pickN (namesL more) l).length ≤ l.length := List.length_filter_le _ _
      have hrn := rdL_n (Own.rd o2)
      have top2 : Top w0 (ext ω w.heap.size 9) w2 := top.stp (k2.stp ω 9)
      have o2' : OT (ext ω w.heap.size 9) w2 9 99 2 r2 (labs (pickN (namesL more) l)) := Own.tag o2 (Nat.le_refl _) ω 9
      generalize ext ω w.heap.size 9 = ω2 at *
      refine app_T tiL o2' (hms.keep top2.k) labs_one (by simp only [maxLen]; omega) (by omega) fun r3 ω3 w3 k3 o3 hn3 => ?_
      have top3 := top2.stp k3
      rw [← labs_app] at o3
      have hrn3 := rdL_n o3.rd
      have hfull : fullN (pickN (namesL more) l ++ more) = pickN (namesL more) l ++ more := by
        unfold fullN
        rw [List.filter_eq_self]
        intro x hx
        refine decide_eq_true ?_
        rcases List.mem_append.1 hx with h | h
        · exact good_ne (((rt_iff l).1 he).2.1 x (mem_pickN.1 h).1)
        · exact good_ne (hg x h)
      have hlen : (outL l more).length = (pickN (namesL more) l ++ more).length := by unfold outL; rw [hfull, (srtN_perm _).length_eq]
      refine cond_d (fun hb => ?_) (fun hb => ?_)
      · have e : wE l more = 8 := by unfold wE; rw [if_neg (by rw [he]; decide), if_pos (by omega)]
        have := hK nilS w3 top3.k (fun _ => rfl) (fun h => by rw [e] at h; exact absurd h (by decide))
        rw [e] at this; exact this
      · have h16 : (outL l more).length ≤ 16 := by omega
        have e : wE l more = 0 := by unfold wE; rw [if_neg (by rw [he]; decide), if_neg (by omega)]
        refine rmake_ok o3.rd (by omega) (both_names hl hm) (outL_rt he hm (fun x hx _ => hg x hx) h16) fun r4 w4 k4 o4 => ?_
        have := hK r4 w4 (Keep.trans top3.k k4) (fun h => absurd e h) (fun _ => o4.mono top3.k.size)
        rw [e] at this; exact this
    | succ d ih =>
      intro i v ω w hi top o
      refine hX _ _ _ _ _ ?_
      unfold C.tocsinref19_with.S7
      have him : i < more.length := by omega
      refine cond_d (fun _ => ?_) (fun h => by omega)
      refine rdL_at (hms.keep top.k) (k := i) rfl (List.getElem?_eq_getElem him) fun a a0 _ => cS_at a0 ?_
      have hvn := rdT_n o.rd
      unfold namesL at hvn
      rw [List.length_map, List.length_take] at hvn
      refine push_T (n := 1) tiSt o rfl (by intro v hv; simp at hv; subst hv; rfl) (by simp only [maxLen]; omega) (by omega) fun r ω4 w4 k4 o4 _ => ?_
      rw [wI64 (by omega) (by omega), show (i : Int) + 1 = ((i + 1 : Nat) : Int) by omega]
      refine ih (i + 1) r ω4 w4 (by omega) (top.stp k4) ?_
      have e : strs (namesL (more.take (i + 1))) = strs (namesL (more.take i)) ++ [.string more[i].1] := by rw [List.take_succ_eq_append_getElem him]; unfold strs namesL; rw [List.map_append, List.map_append]; rfl
      rw [e]; exact o4
  exact key more.length 0 nilS ω1 w1 (by omega) top1 (OT.nil _ _ _ _ _)
end Go.Proofs.YtechilkjfhpkpaaGreatDoor.Ru

namespace Go.Proofs.YtechilkjfhpkpaaGreatDoor.Ru
open Go Vm Go.RowKit Num Mem Utf Lib Lab
variable {ω ω' ωb : Tg} {w w' w0 wb : World} {t u gs gm : Nat} {T : Nat → Bool} {pl : List Lb}
theorem ba_ne {a b : ByteArray} : (a.toList == b.toList) = decide (a = b) := ba_eq a b
def getF (n : ByteArray) : List Lb → ByteArray
  | [] => ⟨#[]⟩
  | p :: r => if p.1 = n then p.2 else getF n r
theorem get_ok {s : Sl} {m : List Lb} (h : Rd w0 s 2 (labs m)) (hl : m.length ≤ 100000000) {n : ByteArray} {K : ByteArray → World → Prop} (hK : ∀ w', Keep w0 w' → K (getF n m) w') : C.labels_Get s n w0 K := by
  have hsn := rdL_n h
  unfold C.labels_Get C.labels_Get.S9
  refine C.labels_Get.L5_ind fun X hX => ?_
  have key : ∀ (d i : Nat) (w : World), i + d = m.length → Keep w0 w → getF n (m.drop i) = getF n m → X n s ((s.n : Nat) : Int) (i : Int) w := by
    intro d
    induction d with
    | zero =>
      intro i w hi k e
      refine hX _ _ _ _ _ ?_
      unfold C.labels_Get.S7 C.labels_Get.S2
      refine cond_d (fun h => by omega) (fun _ => ?_)
      rw [List.drop_of_length_le (by omega)] at e
      have := hK w k
      rw [← e] at this
      exact this
    | succ d ih =>
      intro i w hi k e
      refine hX _ _ _ _ _ ?_
      unfold C.labels_Get.S7
      have him : i < m.length := by omega
      have hx : m[i]? = some m[i] := List.getElem?_eq_getElem him
      rw [List.drop_eq_getElem_cons him, getF] at e
      refine cond_d (fun _ => ?_) (fun h => by omega)
      refine rdL_at (h.keep k) (k := i) rfl hx fun a a0 a1 => cS_at a0 <| cS_at a1 ?_
      refine locL fun g w3 k3 hg b3 => cS_at (b := m[i].1) (by rw [b3.cell]; rfl) ?_
      have k03 := Keep.trans k k3.1
      rw [ba_ne]
      refine cond_d (fun he => ?_) (fun he => ?_)
      · rw [if_pos he] at e
        refine cS_at (b := m[i].2) (by rw [addr_add, b3.cell]; rfl) ?_
        rw [e]; exact hK w3 k03
      · rw [if_neg he] at e
        rw [wI64 (by omega) (by omega), show (i : Int) + 1 = ((i + 1 : Nat) : Int) by omega]
        exact ih (i + 1) w3 (by omega) k03 e
  exact key m.length 0 w0 (by omega) (Keep.refl w0) rfl
theorem rget_ok {s : Sl} {m : List Lb} (h : Rd w0 s 2 (labs m)) (hl : m.length ≤ 100000000) {n : ByteArray} {K : ByteArray → World → Prop} (hK : ∀ w', Keep w0 w' → K (getF n m) w') : C.tocsinref04_Get s n w0 K := by
  have hsn := rdL_n h
  unfold C.tocsinref04_Get C.tocsinref04_Get.S9
  refine C.tocsinref04_Get.L5_ind fun X hX => ?_
  have key : ∀ (d i : Nat) (w : World), i + d = m.length → Keep w0 w → getF n (m.drop i) = getF n m → X n s ((s.n : Nat) : Int) (i : Int) w := by
    intro d
    induction d with
    | zero =>
      intro i w hi k e
      refine hX _ _ _ _ _ ?_
      unfold C.tocsinref04_Get.S7 C.tocsinref04_Get.S2
      refine cond_d (fun h => by omega) (fun _ => ?_)
      rw [List.drop_of_length_le (by omega)] at e
      have := hK w k
      rw [← e] at this
      exact this
    | succ d ih =>
      intro i w hi k e
      refine hX _ _ _ _ _ ?_
      unfold C.tocsinref04_Get.S7
      have him : i < m.length := by omega
      have hx : m[i]? = some m[i] := List.getElem?_eq_getElem him
      rw [List.drop_eq_getElem_cons him, getF] at e
      refine cond_d (fun _ => ?_) (fun h => by omega)
      refine rdL_at (h.keep k) (k := i) rfl hx fun a a0 a1 => cS_at a0 <| cS_at a1 ?_
      refine locL fun g w3 k3 hg b3 => cS_at (b := m[i].1) (by rw [b3.cell]; rfl) ?_
      have k03 := Keep.trans k k3.1
      rw [ba_ne]
      refine cond_d (fun he => ?_) (fun he => ?_)
      · rw [if_pos he] at e
        refine cS_at (b := m[i].2) (by rw [addr_add, b3.cell]; rfl) ?_
        rw [e]; exact hK w3 k03
      · rw [if_neg he] at e
        rw [wI64 (by omega) (by omega), show (i : Int) + 1 = ((i + 1 : Nat) : Int) by omega]
        exact ih (i + 1) w3 (by omega) k03 e
  exact key m.length 0 w0 (by omega) (Keep.refl w0) rfl
theorem metric_ok {s : ByteArray} {K : Bool → World → Prop} (hK : ∀ w', Keep w0 w' → K (namedB (Utf.bytes s) 256 true) w') : C.labels_Metric s w0 K := by
  unfold C.labels_Metric
  exact named_ok (most := 256) rfl (by decide) fun w' k => hK w' k
theorem ok58 {c : Nat} (h1 : letterB c = false) (h2 : digitB c = false) : okB true c = (c == 58) := by unfold okB; rw [h1, h2]; simp
theorem okT {c : Nat} (h : letterB c = true ∨ digitB c = true) : okB true c = true := by unfold okB; rcases h with h | h <;> rw [h] <;> simp
theorem dig58 : digitB 58 = false := by decide
theorem rmetric_ok {s : ByteArray} {K : Bool → World → Prop} (hK : K (namedB (Utf.bytes s) 256 true) w0) : C.tocsinref04_Metric s w0 K := by
  have hsz := size_eq s
  have hl : (Utf.bytes s).length = s.size := hsz.symm
  unfold C.tocsinref04_Metric
  have no : namedB (Utf.bytes s) 256 true = false → K false w0 := fun h => by rwa [h] at hK
  have etl : s.toList = Utf.bytes s := ByteArray.toList_eq s
  have e0 : (⟨#[]⟩ : ByteArray).toList = [] := by rw [ByteArray.toList_eq]
  rw [etl, e0]
  refine cond_of (fun h => no ?_) (fun h => ?_)
  · have : Utf.bytes s = [] := by simpa using h
    unfold namedB; rw [this]; rfl
  have hne : Utf.bytes s ≠ [] := by intro e; rw [e] at h; simp at h
  have hpos : 0 < s.size := by rw [← hl]; exact List.length_pos_iff.2 hne
  refine cond_d (fun h => no ?_) (fun h => ?_)
  · unfold namedB; rw [decide_eq_false (by omega)]; simp
  have hemp : (Utf.bytes s).isEmpty = false := by cases hb : Utf.bytes s with | nil => exact absurd hb hne | cons _ _ => rfl
  have hle : decide ((Utf.bytes s).length ≤ 256) = true := decide_eq_true (by omega)
  have hn : namedB (Utf.bytes s) 256 true = (!digitB ((Utf.bytes s).getD 0 0).toNat && (Utf.bytes s).all fun c => okB true c.toNat) := by unfold namedB; rw [hemp, hle]; simp
  rw [hn] at hK no
  unfold C.tocsinref04_Metric.S9
  refine C.tocsinref04_Metric.L5_ind fun X hX => ?_
  have key : ∀ (d i : Nat), i + d = s.size → ((Utf.bytes s).take i).all (fun c => okB true c.toNat) = true → (0 < i → digitB ((Utf.bytes s).getD 0 0).toNat = false) → X s ((s.size : Nat) : Int) (i : Int) w0 := by
    intro d
    induction d with
    | zero =>
      intro i hi ha h0
      refine hX _ _ _ _ ?_
      unfold C.tocsinref04_Metric.S7 C.tocsinref04_Metric.S2
      refine cond_d (fun h => by omega) (fun _ => ?_)
      rw [List.take_of_length_le (by omega)] at ha
      rw [ha, h0 (by omega)] at hK
      exact hK
    | succ d ih =>
      intro i hi ha h0
      refine hX _ _ _ _ ?_
      unfold C.tocsinref04_Metric.S7
      have hil : i < (Utf.bytes s).length := by omega
      have hg : (Utf.bytes s).getD i 0 = (Utf.bytes s)[i] := by rw [List.getD_eq_getElem?_getD, List.getElem?_eq_getElem hil, Option.getD_some]
      refine cond_d (fun _ => ?_) (fun h => by omega)
      have next : okB true (Utf.bytes s)[i].toNat = true → (i = 0 → digitB ((Utf.bytes s).getD 0 0).toNat = false) → X s ((s.size : Nat) : Int) (IntKind.i64.wrap ((i : Int) + 1)) w0 := fun hok hz => by
        rw [wI64 (by omega) (by omega), show (i : Int) + 1 = ((i + 1 : Nat) : Int) by omega]
        refine ih (i + 1) (by omega) ?_ (fun _ => if h : i = 0 then hz h else h0 (by omega))
        rw [List.take_add_one, List.getElem?_eq_getElem hil, List.all_append, ha]
        show (true && (okB true (Utf.bytes s)[i].toNat && true)) = true
        rw [hok]; rfl
      have stop : okB true (Utf.bytes s)[i].toNat = false → K false w0 := fun hok => no (by
        have : (Utf.bytes s).all (fun c => okB true c.toNat) = false := by
          rw [List.all_eq_false]
          exact ⟨(Utf.bytes s)[i], List.getElem_mem hil, by rw [hok]; decide⟩
        rw [this, Bool.and_false])
      refine ixS_at (k := i) rfl (by omega) ?_
      rw [hg]
      refine rletter_ok (cond_of (fun hlt => ?_) (fun hlt => ?_))
      · simp only [Bool.not_eq_true'] at hlt
        refine ixS_at (k := i) rfl (by omega) ?_
        rw [hg]
        refine cond_ne (fun h58 => ?_) (fun h58 => ?_)
        · have hc : ((Utf.bytes s)[i].toNat == 58) = false := by
            rw [beq_eq_false_iff_ne]; intro e; exact h58 (by rw [e]; rfl)
          refine cond_eq (fun hz => ?_) (fun hz => ?_)
          · have hz : i = 0 := by omega
            subst hz
            by_cases hdg : digitB (Utf.bytes s)[0].toNat = true
            · exact no (by rw [hg, hdg]; rfl)
            · exact stop (by rw [ok58 hlt (Bool.eq_false_iff.2 hdg)]; exact hc)
          · refine ixS_at (k := i) rfl (by omega) ?_
            rw [hg]
            refine rdigit_ok (cond_of (fun hdt => stop ?_) (fun hdt => next ?_ (fun e => by omega)))
            · simp only [Bool.not_eq_true'] at hdt
              rw [ok58 hlt hdt]; exact hc
            · simp only [Bool.not_eq_false'] at hdt
              exact okT (.inr hdt)
        · have e58 : (Utf.bytes s)[i].toNat = 58 := by omega
          exact next (by rw [ok58 hlt (by rw [e58]; exact dig58), e58]; rfl) (fun e => by subst e; rw [hg, e58]; exact dig58)
      · have hlt : letterB (Utf.bytes s)[i].toNat = true := by simpa only [Bool.not_eq_false'] using hlt
        exact next (okT (.inl hlt)) (fun e => by subst e; rw [hg]; exact let_dig hlt)
  exact key s.size 0 (by omega) rfl (fun h => absurd h (Nat.lt_irrefl _))
def ETab (w : World) : Prop := (∃ b, w.cell? ⟨0, 0, none⟩ = some (.iface 228 (.pointer (some b)))) ∧ w.cell? ⟨4, 0, none⟩ = some (.iface 184 (.agg #[.pointer (some ⟨6, 77, none⟩)]))
theorem ETab.keep (h : ETab w) (k : Keep w w') : ETab w' := ⟨h.1.imp fun _ hb => k.cell hb, k.cell h.2⟩
theorem number_ok {x : Value} {e : Int} (ht : ETab w0) (hx : (x = .nilIface ∧ e = 0) ∨ x = fault e) {K : Int → World → Prop} (hK : ∀ w', Keep w0 w' → K e w') : C.rules_number x w0 K := by
  unfold C.rules_number
  obtain ⟨⟨b, hb⟩, h4⟩ := ht
  refine newD fun g w1 k1 hg b1 => cV_at (b := .iface 228 (.pointer (some b))) (k1.1.cell hb) ?_
  show ErrN.isK x _ w1 _
  rcases hx with ⟨rfl, rfl⟩ | rfl
  · exact ⟨b, rfl, .inl ⟨rfl, cond_f rfl (hK w1 k1.1)⟩⟩
  refine ⟨b, rfl, .inr ⟨e, rfl, k1.1.cell hb, cond_t rfl ?_⟩⟩
  show ErrN.asK _ _ _ _
  have ka : Keep w1 (w1.alloc (.cells #[.int .i64 e] 116)) := Keep.alloc _ _
  have b2 := b1.keep ka
  refine ⟨⟨g, 0, none⟩, .int .i64 0, e, rfl, rfl, by rw [b2.cell]; rfl, b2.frozen 0, ka.cell (k1.1.cell h4), cond_t rfl ?_⟩
  unfold ErrN.asW
  generalize w1.alloc (.cells #[.int .i64 e] 116) = w2 at *
  have k25 : Keep w2 ((((w2.alloc (.cells #[.pointer (some ⟨g, 0, none⟩)] 119)).alloc (.cells #[.pointer (some ⟨6, 119, none⟩), .pointer (some ⟨w2.heap.size, 0, none⟩), .int .u64 150] 159)).alloc (.cells #[.pointer (some ⟨6, 119, none⟩), .pointer (some ⟨w2.heap.size, 0, none⟩), .int .u64 150] 159)).alloc (.cells #[.int .i64 e] 116)) :=
    Keep.trans (Keep.trans (Keep.trans (Keep.alloc _ _) (Keep.alloc _ _)) (Keep.alloc _ _)) (Keep.alloc _ _)
  generalize (((w2.alloc (.cells #[.pointer (some ⟨g, 0, none⟩)] 119)).alloc (.cells #[.pointer (some ⟨6, 119, none⟩), .pointer (some ⟨w2.heap.size, 0, none⟩), .int .u64 150] 159)).alloc (.cells #[.pointer (some ⟨6, 119, none⟩), .pointer (some ⟨w2.heap.size, 0, none⟩), .int .u64 150] 159)).alloc (.cells #[.int .i64 e] 116) = w5 at *
  have b5 := b2.keep k25
  have k05 : Keep w0 w5 := Keep.trans k1.1 (Keep.trans ka k25)
  have kf : Keep w0 (w5.setCell ⟨g, 0, none⟩ (.int .i64 e)) := Only.below (Only.setCell g w5 0 (.int .i64 e)) k05 k05.size hg
  exact cI_at (n := e) (by rw [(b5.set 0 (.int .i64 e)).cell]; rfl) (hK _ kf)
end Go.Proofs.YtechilkjfhpkpaaGreatDoor.Ru

namespace Go.Proofs.YtechilkjfhpkpaaGreatDoor.Ru
open Go Vm Go.RowKit Num Mem Utf Lib Lab
variable {ω ω' ωb : Tg} {w w' w0 wb : World} {t u gs gm : Nat} {T : Nat → Bool} {pl : List Lb}
structure Rl where
  rc : Bool
  nm : ByteArray
  ex : ByteArray
  fo : Int
  ke : Int
  ls : List Lb
abbrev nN : ByteArray := ⟨#[95, 95, 110, 97, 109, 101, 95, 95]⟩
abbrev aN : ByteArray := ⟨#[97, 108, 101, 114, 116, 110, 97, 109, 101]⟩
def spanB (n : Int) : Bool := decide (0 ≤ n) && decide (n ≤ 1099511627776)
def nameB (r : Rl) : Bool :=
  if r.rc then decide (r.nm.size ≤ 64) && (namedB (Utf.bytes r.nm) 256 true && (decide (r.fo = 0) && decide (r.ke = 0)))
  else decide (1 ≤ r.nm.size) && (decide (r.nm.size ≤ 256) && validD (Utf.bytes r.nm))
def restB (r : Rl) : Bool := decide (r.ex.size ≤ 65536) && (spanB r.fo && (spanB r.ke && (decide ((rt r.ls).1 = 0) && (decide (getF nN r.ls = noB) && decide (getF aN r.ls = noB)))))
def ruleB (r : Rl) : Bool := nameB r && restB r
def ruleE (r : Rl) : Int := if ruleB r then 0 else 201
abbrev rlC (r : Rl) (s : Sl) : List Value := [.bool r.rc, .string r.nm, .string r.ex, .int .i64 r.fo, .int .i64 r.ke, s.v]
theorem span_ok {n : Int} {K : Bool → World → Prop} (hK : K (spanB n) w) : C.rules_span n w K := by
  unfold C.rules_span
  unfold spanB at hK
  refine cond_d (fun h => ?_) (fun h => ?_)
  · rw [decide_eq_true (show 0 ≤ n by omega), Bool.true_and] at hK; exact hK
  · rw [decide_eq_false (show ¬ 0 ≤ n by omega), Bool.false_and] at hK; exact hK
theorem rule_S2 {r : Rl} {s : Sl} {g : Nat} {nb : Bool} (ht : UTab w) (hs : Rd w s 2 (labs r.ls)) (hl : r.ls.length ≤ 100000000) (b : Blk w g 24 (rlC r s)) {K : Int → World → Prop}
    (hK : ∀ w', Keep w w' → K (if nb && restB r then 0 else 201) w') : C.rules_Rule.S2 K (some ⟨g, 0, none⟩) nb w := by
  unfold C.rules_Rule.S2
  refine ptr_at <| cSl_at (s := s) (by rw [addr_add, b.cell]; rfl) <| right_ok ht hs fun w1 k1 => ?_
  have b1 := b.keep k1
  have no : (nb && restB r) = false → ∀ w', Keep w w' → K 201 w' := fun h w' k => by have := hK w' k; rw [if_neg (by rw [h]; decide)] at this; exact this
  have er : restB r = (decide (r.ex.size ≤ 65536) && (spanB r.fo && (spanB r.ke && (decide ((rt r.ls).1 = 0) && (decide (getF nN r.ls = noB) && decide (getF aN r.ls = noB)))))) := rfl
  cases nb with
  | false => exact cond_t rfl (no rfl w1 k1)
  | true =>
  rw [Bool.true_and] at no hK
  refine cond_f rfl <| ptr_at <| cS_at (b := r.ex) (by rw [addr_add, b1.cell]; rfl) <| cond_d (fun h => no (by rw [er, decide_eq_false (by omega)]; rfl) w1 k1) (fun h1 => ?_)
  rw [decide_eq_true (show r.ex.size ≤ 65536 by omega), Bool.true_and] at er
  refine ptr_at <| cI_at (n := r.fo) (by rw [addr_add, b1.cell]; rfl) <| span_ok <| cond_of (fun h => no (by rw [er]; simp only [Bool.not_eq_true'] at h; rw [h]; rfl) w1 k1) (fun h2 => ?_)
  simp only [Bool.not_eq_false'] at h2
  rw [h2, Bool.true_and] at er
  refine ptr_at <| cI_at (n := r.ke) (by rw [addr_add, b1.cell]; rfl) <| span_ok <| cond_of (fun h => no (by rw [er]; simp only [Bool.not_eq_true'] at h; rw [h]; rfl) w1 k1) (fun h3 => ?_)
  simp only [Bool.not_eq_false'] at h3
  rw [h3, Bool.true_and] at er
  refine cond_ne (fun h => no (by rw [er, decide_eq_false h]; rfl) w1 k1) (fun h4 => ?_)
  rw [decide_eq_true h4, Bool.true_and] at er
  refine ptr_at <| cSl_at (s := s) (by rw [addr_add, b1.cell]; rfl) <| get_ok (hs.keep k1) hl fun w2 k2 => ?_
  have k02 := Keep.trans k1 k2
  have b2 := b1.keep k2
  rw [emptyB]
  refine cond_d (fun h => no (by rw [er, decide_eq_false h]; rfl) w2 k02) (fun h5 => ?_)
  rw [decide_eq_true (Decidable.not_not.1 h5), Bool.true_and] at er
  refine ptr_at <| cSl_at (s := s) (by rw [addr_add, b2.cell]; rfl) <| get_ok (hs.keep k02) hl fun w3 k3 => ?_
  have k03 := Keep.trans k02 k3
  rw [emptyB]
  refine cond_d (fun h => no (by rw [er, decide_eq_false h]) w3 k03) (fun h6 => ?_)
  rw [decide_eq_true (Decidable.not_not.1 h6)] at er
  have := hK w3 k03
  rw [if_pos er] at this
  exact this
theorem rule_ok {r : Rl} {s : Sl} (ht : UTab w0) (hs : Rd w0 s 2 (labs r.ls)) (hl : r.ls.length ≤ 100000000) {K : Int → World → Prop} (hK : ∀ w', Keep w0 w' → K (ruleE r) w') : C.rules_Rule r.rc r.nm r.ex r.fo r.ke s w0 K := by
  unfold C.rules_Rule
  refine newD fun g w1 k1 hg b1 => ?_
  have b1 : Blk w1 g 24 (rlC r s) := b1
  have S3 : ∀ (nb : Bool) (w2 : World), Keep w1 w2 → (r.rc = false → nb = nameB r) → C.rules_Rule.S3 K (some ⟨g, 0, none⟩) nb w2 := fun nb w2 k2 hnb => by
    have k02 := Keep.trans k1.1 k2
    have b2 := b1.keep k2
    have fin : ∀ (nb : Bool) (w3 : World), Keep w2 w3 → nb = nameB r → C.rules_Rule.S2 K (some ⟨g, 0, none⟩) nb w3 := fun nb w3 k3 e => by
      have k03 := Keep.trans k02 k3
      exact rule_S2 (ht.keep k03) (hs.keep k03) hl (b2.keep k3) fun w4 k4 => by rw [e]; exact hK w4 (Keep.trans k03 k4)
    unfold C.rules_Rule.S3
    refine ptr_at <| cB_at (b := r.rc) (by rw [b2.cell]; rfl) <| cond_of (fun hr => ?_) (fun hr => fin nb w2 (Keep.refl _) (hnb hr))
    have en : nameB r = (decide (r.nm.size ≤ 64) && (namedB (Utf.bytes r.nm) 256 true && (decide (r.fo = 0) && decide (r.ke = 0)))) := by unfold nameB; rw [if_pos hr]
    refine ptr_at <| cS_at (b := r.nm) (by rw [addr_add, b2.cell]; rfl) <| cond_d (fun h1 => ?_) (fun h1 => fin false w2 (Keep.refl _) (by rw [en, decide_eq_false (by omega)]; rfl))
    rw [decide_eq_true (show r.nm.size ≤ 64 by omega), Bool.true_and] at en
    refine ptr_at <| cS_at (b := r.nm) (by rw [addr_add, b2.cell]; rfl) <| metric_ok fun w3 k3 => ?_
    have b3 := b2.keep k3
    refine cond_of (fun h2 => ?_) (fun h2 => fin false w3 k3 (by rw [en, h2]; rfl))
    rw [h2, Bool.true_and] at en
    refine ptr_at <| cI_at (n := r.fo) (by rw [addr_add, b3.cell]; rfl) <| cond_eq (fun h3 => ?_) (fun h3 => fin false w3 k3 (by rw [en, decide_eq_false h3]; rfl))
    rw [decide_eq_true h3, Bool.true_and] at en
    refine ptr_at <| cI_at (n := r.ke) (by rw [addr_add, b3.cell]; rfl) <| fin _ w3 k3 ?_
    rw [en]
    by_cases h : r.ke = 0
    · rw [h]; rfl
    · rw [decide_eq_false h]; exact beq_eq_false_iff_ne.2 h
  have en : r.rc = false → nameB r = (decide (1 ≤ r.nm.size) && (decide (r.nm.size ≤ 256) && validD (Utf.bytes r.nm))) := fun h => by unfold nameB; rw [if_neg (by rw [h]; decide)]
  refine cS_at (b := r.nm) (by rw [addr_add, b1.cell]; rfl) <| cond_d (fun h1 => ?_) (fun h1 => S3 false w1 (Keep.refl _) fun h => by rw [en h, decide_eq_false (by omega)]; rfl)
  refine cS_at (b := r.nm) (by rw [addr_add, b1.cell]; rfl) <| cond_d (fun h2 => ?_) (fun h2 => S3 false w1 (Keep.refl _) fun h => by rw [en h, decide_eq_true (show 1 ≤ r.nm.size by omega), decide_eq_false (by omega)]; rfl)
  refine cS_at (b := r.nm) (by rw [addr_add, b1.cell]; rfl) <| valid_ok (ht.keep k1.1) (by omega) fun w2 k2 => S3 _ w2 k2 fun h => ?_
  rw [en h, decide_eq_true (show 1 ≤ r.nm.size by omega), decide_eq_true (show r.nm.size ≤ 256 by omega)]; rfl
end Go.Proofs.YtechilkjfhpkpaaGreatDoor.Ru

namespace Go.Proofs.YtechilkjfhpkpaaGreatDoor.Ru
open Go Vm Go.RowKit Num Mem Utf Lib Lab
variable {ω ω' ωb : Tg} {w w' w0 wb : World} {t u gs gm : Nat} {T : Nat → Bool} {pl : List Lb}
def nmB (r : Rl) : Bool := if r.rc then namedB (Utf.bytes r.nm) 256 true && decide (r.nm.size ≤ 64) else decide (1 ≤ r.nm.size) && (decide (r.nm.size ≤ 256) && validD (Utf.bytes r.nm))
def spB (r : Rl) : Bool := (spanB r.fo && spanB r.ke) && (if r.rc then decide (r.fo = 0) && decide (r.ke = 0) else true)
def rest2B (r : Rl) : Bool := decide (r.ex.size ≤ 65536) && (decide ((rt r.ls).1 = 0) && (decide (getF nN r.ls = noB) && decide (getF aN r.ls = noB)))
theorem ruleB_eq (r : Rl) : ruleB r = (nmB r && (spB r && rest2B r)) := by
  unfold ruleB nameB restB nmB spB rest2B
  cases r.rc <;> simp only [Bool.false_eq_true, if_false, if_true, Bool.and_true] <;> generalize decide (r.ex.size ≤ 65536) = a <;> generalize spanB r.fo = b <;> generalize spanB r.ke = c <;> generalize decide ((rt r.ls).1 = 0) = d <;> generalize decide (getF nN r.ls = noB) = e <;> generalize decide (getF aN r.ls = noB) = f
  · generalize (decide (1 ≤ r.nm.size) && (decide (r.nm.size ≤ 256) && validD (Utf.bytes r.nm))) = g
    cases a <;> cases b <;> cases c <;> cases d <;> cases e <;> cases f <;> cases g <;> rfl
  · generalize decide (r.nm.size ≤ 64) = g
    generalize namedB (Utf.bytes r.nm) 256 true = h
    generalize decide (r.fo = 0) = i
    generalize decide (r.ke = 0) = j
    cases g <;> cases h <;> cases i <;> cases j <;> cases a <;> cases b <;> cases c <;> cases d <;> rfl
theorem rrule_S2 {r : Rl} {s : Sl} {g : Nat} {nb sb : Bool} (hs : Rd w s 2 (labs r.ls)) (hsz : ∀ x ∈ r.ls, x.2.size ≤ 140737488355300) (hl : r.ls.length ≤ 100000000) (b : Blk w g 24 (rlC r s)) {K : Int → World → Prop}
    (hK : ∀ w', Keep w w' → K (if nb && (sb && rest2B r) then 0 else 201) w') : C.tocsinref19_Rule.S2 K (some ⟨g, 0, none⟩) nb sb w := by
  unfold C.tocsinref19_Rule.S2
  refine ptr_at <| cSl_at (s := s) (by rw [addr_add, b.cell]; rfl) <| rright_ok hs hsz fun w1 k1 => ?_
  have b1 := b.keep k1
  have no : (nb && (sb && rest2B r)) = false → ∀ w', Keep w w' → K 201 w' := fun h w' k => by have := hK w' k; rw [if_neg (by rw [h]; decide)] at this; exact this
  have er : rest2B r = (decide (r.ex.size ≤ 65536) && (decide ((rt r.ls).1 = 0) && (decide (getF nN r.ls = noB) && decide (getF aN r.ls = noB)))) := rfl
  cases nb with
  | false => exact cond_t rfl (no rfl w1 k1)
  | true =>
  rw [Bool.true_and] at no hK
  refine cond_f rfl ?_
  cases sb with
  | false => exact cond_t rfl (no rfl w1 k1)
  | true =>
  rw [Bool.true_and] at no hK
  refine cond_f rfl <| ptr_at <| cS_at (b := r.ex) (by rw [addr_add, b1.cell]; rfl) <| cond_d (fun h => no (by rw [er, decide_eq_false (by omega)]; rfl) w1 k1) (fun h1 => ?_)
  rw [decide_eq_true (show r.ex.size ≤ 65536 by omega), Bool.true_and] at er
  refine cond_ne (fun h => no (by rw [er, decide_eq_false h]; rfl) w1 k1) (fun h4 => ?_)
  rw [decide_eq_true h4, Bool.true_and] at er
  refine ptr_at <| cSl_at (s := s) (by rw [addr_add, b1.cell]; rfl) <| rget_ok (hs.keep k1) hl fun w2 k2 => ?_
  have k02 := Keep.trans k1 k2
  have b2 := b1.keep k2
  rw [emptyB]
  refine cond_d (fun h => no (by rw [er, decide_eq_false h]; rfl) w2 k02) (fun h5 => ?_)
  rw [decide_eq_true (Decidable.not_not.1 h5), Bool.true_and] at er
  refine ptr_at <| cSl_at (s := s) (by rw [addr_add, b2.cell]; rfl) <| rget_ok (hs.keep k02) hl fun w3 k3 => ?_
  have k03 := Keep.trans k02 k3
  rw [emptyB]
  refine cond_d (fun h => no (by rw [er, decide_eq_false h]) w3 k03) (fun h6 => ?_)
  rw [decide_eq_true (Decidable.not_not.1 h6)] at er
  have := hK w3 k03
  rw [if_pos er] at this
  exact this
theorem rrule_ok {r : Rl} {s : Sl} (hs : Rd w0 s 2 (labs r.ls)) (hsz : ∀ x ∈ r.ls, x.2.size ≤ 140737488355300) (hl : r.ls.length ≤ 100000000) {K : Int → World → Prop} (hK : ∀ w', Keep w0 w' → K (ruleE r) w') : C.tocsinref19_Rule r.rc r.nm r.ex r.fo r.ke s w0 K := by
  unfold C.tocsinref19_Rule
  refine newD fun g w1 k1 hg b1 => ?_
  have b1 : Blk w1 g 24 (rlC r s) := b1
  have fin : ∀ nb sb : Bool, nb = nmB r → sb = spB r → C.tocsinref19_Rule.S2 K (some ⟨g, 0, none⟩) nb sb w1 := fun nb sb e1 e2 =>
    rrule_S2 (hs.keep k1.1) hsz hl b1 fun w2 k2 => by
      have := hK w2 (Keep.trans k1.1 k2)
      unfold ruleE at this
      rw [ruleB_eq] at this
      rw [e1, e2]; exact this
  have S3 : ∀ nb : Bool, nb = nmB r → C.tocsinref19_Rule.S3 K (some ⟨g, 0, none⟩) nb (spanB r.fo && spanB r.ke) w1 := fun nb e1 => by
    unfold C.tocsinref19_Rule.S3
    refine ptr_at <| cB_at (b := r.rc) (by rw [b1.cell]; rfl) <| cond_of (fun hr => ?_) (fun hr => fin nb _ e1 (by unfold spB; rw [hr]; simp))
    refine ptr_at <| cI_at (n := r.fo) (by rw [addr_add, b1.cell]; rfl) <| cond_ne (fun h => fin nb false e1 (by unfold spB; rw [hr, decide_eq_false h]; simp)) (fun h1 => ?_)
    refine ptr_at <| cI_at (n := r.ke) (by rw [addr_add, b1.cell]; rfl) <| cond_ne (fun h => fin nb false e1 (by unfold spB; rw [hr, decide_eq_false h]; simp)) (fun h2 => ?_)
    exact fin nb _ e1 (by unfold spB; rw [hr, h1, h2]; simp)
  have S4 : ∀ nb : Bool, nb = nmB r → C.tocsinref19_Rule.S4 K (some ⟨g, 0, none⟩) nb w1 := fun nb e1 => by
    unfold C.tocsinref19_Rule.S4
    have S3 := S3 nb e1
    unfold spanB at S3
    refine ptr_at <| cI_at (n := r.fo) (by rw [addr_add, b1.cell]; rfl) <| cond_d (fun h1 => ?_) (fun h1 => by rw [decide_eq_false (show ¬ 0 ≤ r.fo by omega), Bool.false_and, Bool.false_and] at S3; exact S3)
    refine ptr_at <| cI_at (n := r.fo) (by rw [addr_add, b1.cell]; rfl) <| cond_d (fun h2 => ?_) (fun h2 => by rw [decide_eq_false h2, Bool.and_false, Bool.false_and] at S3; exact S3)
    rw [decide_eq_true (show 0 ≤ r.fo by omega), decide_eq_true h2, Bool.true_and, Bool.true_and] at S3
    refine ptr_at <| cI_at (n := r.ke) (by rw [addr_add, b1.cell]; rfl) <| cond_d (fun h3 => ?_) (fun h3 => by rw [decide_eq_false (show ¬ 0 ≤ r.ke by omega), Bool.false_and] at S3; exact S3)
    rw [decide_eq_true (show 0 ≤ r.ke by omega), Bool.true_and] at S3
    exact ptr_at <| cI_at (n := r.ke) (by rw [addr_add, b1.cell]; rfl) S3
  have S5 : ∀ nb : Bool, (r.rc = false → nb = nmB r) → C.tocsinref19_Rule.S5 K (some ⟨g, 0, none⟩) nb w1 := fun nb e1 => by
    unfold C.tocsinref19_Rule.S5
    refine ptr_at <| cB_at (b := r.rc) (by rw [b1.cell]; rfl) <| cond_of (fun hr => ?_) (fun hr => S4 nb (e1 hr))
    have en : nmB r = (namedB (Utf.bytes r.nm) 256 true && decide (r.nm.size ≤ 64)) := by unfold nmB; rw [if_pos hr]
    refine ptr_at <| cS_at (b := r.nm) (by rw [addr_add, b1.cell]; rfl) <| rmetric_ok <| cond_of (fun h1 => ?_) (fun h1 => S4 false (by rw [en, h1]; rfl))
    refine ptr_at <| cS_at (b := r.nm) (by rw [addr_add, b1.cell]; rfl) <| S4 _ ?_
    rw [en, h1, Bool.true_and]
    exact decide_eq_decide.2 (by omega)
  have en : r.rc = false → nmB r = (decide (1 ≤ r.nm.size) && (decide (r.nm.size ≤ 256) && validD (Utf.bytes r.nm))) := fun h => by unfold nmB; rw [if_neg (by rw [h]; decide)]
  refine cS_at (b := r.nm) (by rw [addr_add, b1.cell]; rfl) <| cond_d (fun h1 => ?_) (fun h1 => S5 false fun h => by rw [en h, decide_eq_false (by omega)]; rfl)
  refine cS_at (b := r.nm) (by rw [addr_add, b1.cell]; rfl) <| cond_d (fun h2 => ?_) (fun h2 => S5 false fun h => by rw [en h, decide_eq_true (show 1 ≤ r.nm.size by omega), decide_eq_false (by omega)]; rfl)
  refine cS_at (b := r.nm) (by rw [addr_add, b1.cell]; rfl) <| rutf_ok (by omega) <| S5 _ fun h => ?_
  rw [en h, decide_eq_true (show 1 ≤ r.nm.size by omega), decide_eq_true (show r.nm.size ≤ 256 by omega)]; rfl
def moreA (r : Rl) : List Lb := (nN, noB) :: (aN, r.nm) :: r.ls
def moreR (r : Rl) : List Lb := r.ls ++ [(aN, r.nm)]
theorem getF_no {n : ByteArray} : ∀ {l : List Lb}, (∀ x ∈ l, x.2 ≠ noB) → getF n l = noB → n ∉ namesL l
  | [], _, _ => by simp [namesL]
  | x :: l, h, e => by
    unfold getF at e
    intro hm
    rcases List.mem_cons.1 hm with hm | hm
    · rw [if_pos hm.symm] at e; exact h x List.mem_cons_self e
    · by_cases hx : x.1 = n
      · rw [if_pos hx] at e; exact h x List.mem_cons_self e
      · rw [if_neg hx] at e
        exact getF_no (fun y hy => h y (List.mem_cons_of_mem _ hy)) e hm
structure RlOk (r : Rl) : Prop where
  rt : (Lab.rt r.ls).1 = 0
  nn : nN ∉ namesL r.ls
  an : aN ∉ namesL r.ls
  val : valE (Utf.bytes r.nm) = 0
theorem metric_valid {s : ByteArray} (h : namedB (Utf.bytes s) 256 true = true) : validD (Utf.bytes s) = true := by
  unfold namedB at h
  simp only [Bool.and_eq_true] at h
  have key := h.2.2.2
  rw [List.all_eq_true] at key
  have hc : ∀ c ∈ Utf.bytes s, c.toNat < 128 := fun c hc => by
    have := key c hc
    unfold okB letterB digitB at this
    simp at this
    omega
  have := Go.Lib.validD_ascii (Utf.bytes s).length (Utf.bytes s) (by rw [List.take_length]; exact hc)
  rw [this, List.drop_length]
  exact Go.Lib.validD_nil
theorem rl_of {r : Rl} (h : ruleB r = true) : RlOk r := by
  have h' := h
  unfold ruleB restB at h
  simp only [Bool.and_eq_true, decide_eq_true_eq] at h
  obtain ⟨h1, h2, h3, h4, h5, h6, h7⟩ := h
  have hv : ∀ x ∈ r.ls, x.2 ≠ noB := fun x hx => good_ne (((rt_iff _).1 h5).2.1 x hx)
  refine ⟨h5, getF_no hv h6, getF_no hv h7, ?_⟩
  have hl : (Utf.bytes r.nm).length = r.nm.size := (size_eq r.nm).symm
  have hne : r.nm.size ≠ 0 → Utf.bytes r.nm ≠ [] := fun h e => h (by rw [← hl, e]; rfl)
  unfold nameB at h1
  by_cases hr : r.rc = true
  · rw [if_pos hr] at h1
    simp only [Bool.and_eq_true, decide_eq_true_eq] at h1
    obtain ⟨a, b, _⟩ := h1
    have hs : r.nm.size ≠ 0 := fun e => by
      have : Utf.bytes r.nm = [] := List.eq_nil_of_length_eq_zero (by rw [hl, e])
      rw [this] at b; exact absurd b (by decide)
    unfold valE
    rw [if_neg (hne hs), if_neg (by omega), if_pos (metric_valid b)]
  · rw [if_neg hr] at h1
    simp only [Bool.and_eq_true, decide_eq_true_eq] at h1
    obtain ⟨a, b, c⟩ := h1
    unfold valE
    rw [if_neg (hne (by omega)), if_neg (by omega), if_pos c]
theorem moreA_names {r : Rl} (h : RlOk r) : (namesL (moreA r)).Nodup := by
  show (nN :: aN :: namesL r.ls).Nodup
  refine List.nodup_cons.2 ⟨fun hm => ?_, List.nodup_cons.2 ⟨h.an, rt_ns h.rt⟩⟩
  rcases List.mem_cons.1 hm with hm | hm
  · exact absurd hm (by decide)
  · exact h.nn hm
theorem moreR_names {r : Rl} (h : RlOk r) : (namesL (moreR r)).Nodup := by
  unfold moreR namesL
  rw [List.map_append, List.nodup_append]
  refine ⟨rt_ns h.rt, by simp, fun a ha b hb e => ?_⟩
  simp at hb
  rw [hb] at e
  exact h.an (by rw [← e]; exact ha)
theorem goodA : namedB (Utf.bytes aN) 64 false = true := by decide +kernel
theorem moreR_good {r : Rl} (h : RlOk r) : ∀ x ∈ moreR r, goodL x := fun x hx => by
  rcases List.mem_append.1 hx with hx | hx
  · exact ((rt_iff _).1 h.rt).2.1 x hx
  · rw [List.mem_singleton] at hx; subst hx; exact ⟨goodA, h.val⟩
theorem pick_rt {l : List Lb} {ns : List ByteArray} (h : (rt l).1 = 0) : (rt (pickN ns l)).1 = 0 := by
  obtain ⟨h1, h2, h3⟩ := (rt_iff l).1 h
  exact (rt_iff _).2 ⟨Nat.le_trans (List.length_filter_le _ _) h1, fun x hx => h2 x (mem_pickN.1 hx).1, h3.sublist List.filter_sublist⟩
theorem out_same {r : Rl} {l : List Lb} (h : RlOk r) (hl : (rt l).1 = 0) : outL (pickN [nN] l) (moreR r) = outL l (moreA r) := by
  refine up_eq (outL_up (rt_ns (pick_rt hl)) (moreR_names h)) (outL_up (rt_ns hl) (moreA_names h)) fun x => ?_
  rw [mem_outL, mem_outL, mem_pickN]
  have e1 : x ∈ moreR r ↔ x = (aN, r.nm) ∨ x ∈ r.ls := by unfold moreR; rw [List.mem_append, List.mem_singleton, or_comm]
  have e2 : x ∈ moreA r ↔ x = (nN, noB) ∨ x = (aN, r.nm) ∨ x ∈ r.ls := by unfold moreA; rw [List.mem_cons, List.mem_cons]
  have e3 : x.1 ∈ namesL (moreR r) ↔ x.1 = aN ∨ x.1 ∈ namesL r.ls := by unfold moreR namesL; rw [List.map_append, List.mem_append, or_comm]; simp
  have e4 : x.1 ∈ namesL (moreA r) ↔ x.1 = nN ∨ x.1 = aN ∨ x.1 ∈ namesL r.ls := by
    show x.1 ∈ nN :: aN :: namesL r.ls ↔ _
    rw [List.mem_cons, List.mem_cons]
  rw [e1, e2, e3, e4, List.mem_singleton]
  refine and_congr_right fun hne => ?_
  constructor
  · rintro (h1 | ⟨⟨h1, h2⟩, h3⟩)
    · exact .inl (.inr h1)
    · exact .inr ⟨h1, fun h => h.elim h2 h3⟩
  · rintro ((h1 | h1) | ⟨h1, h2⟩)
    · exact absurd (by rw [h1]) hne
    · exact .inl h1
    · exact .inr ⟨⟨h1, fun e => h2 (.inl e)⟩, fun e => h2 (.inr e)⟩
theorem wE_same {r : Rl} {l : List Lb} (h : RlOk r) (hl : (rt l).1 = 0) : wE (pickN [nN] l) (moreR r) = wE l (moreA r) := by
  unfold wE
  rw [if_neg (show ¬ (rt (pickN [nN] l)).1 ≠ 0 by rw [pick_rt hl]; decide), if_neg (show ¬ (rt l).1 ≠ 0 by rw [hl]; decide), out_same h hl]
def labE (r : Rl) (l : List Lb) : Int := if ruleB r then wE l (moreA r) else 201
def labO (r : Rl) (l : List Lb) : List Lb := outL l (moreA r)
end Go.Proofs.YtechilkjfhpkpaaGreatDoor.Ru
