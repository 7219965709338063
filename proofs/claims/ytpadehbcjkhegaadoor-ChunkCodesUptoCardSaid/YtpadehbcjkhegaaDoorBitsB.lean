/- Layer 2: a writer's calls, as other layers use them; texts of bytes. Own work. -/
import Derived.Test.YtpadehbcjkhegaaDoorBitsW
import Derived.Laws.BytesString
import Derived.Test.YtpadehbcjkhegaaDoorTag
namespace Go.Proofs.YtpadehbcjkhegaaDoor.Bits
open Go Vm Go.RowKit Num Mem

def badB (v : Nat) (m : Int) : Prop := m < 0 ∨ m > 64 ∨ (m < 64 ∧ v / 2 ^ m.toNat ≠ 0)
theorem shrZ {v : Nat} {m : Int} (h0 : 0 ≤ m) (h1 : m < 64) : shr .u64 (v : Int) (IntKind.u64.wrap m) = ((v / 2 ^ m.toNat : Nat) : Int) := by
  rw [wU64_id h0 (by omega)]
  have e := shr_nat .u64 (v : Int) m.toNat (by simp only [IntKind.bits]; omega)
  rw [show ((m.toNat : Nat) : Int) = m by omega] at e
  rw [e]; simp

theorem loop_ok {w0 : World} {B g : Nat} {s0 : Sl} {v : Nat} (hv : v < 18446744073709551616) {K : C.bits_Writer_Bits.KT} {X : Cur C.bits_Writer_Bits.g5}
    (hX : ∀ w_5 v_6 i_7 w, C.bits_Writer_Bits.S7 K X w_5 v_6 i_7 w → X w_5 v_6 i_7 w) :
    ∀ (k : Nat) (l : List UInt8) (n : Nat) (s : Sl) (w : World), k ≤ 64 → n + k ≤ 8388608 → B ≤ w.heap.size → Wr w B g s l n → Chg (foot g s0) w0 w → (∀ j, foot g s j → foot g s0 j ∨ w0.heap.size ≤ j) →
      (∀ s' w', Chg (foot g s0) w0 w' → Wr w' B g s' (putBs l n (low v k)) (n + k) → (∀ j, foot g s' j → foot g s0 j ∨ w0.heap.size ≤ j) → K 0 w') → X (wp g) (v : Int) ((k : Int) - 1) w := by
  intro k
  induction k with
  | zero =>
    intro l n s w _ _ _ h hc hf hK
    refine hX _ _ _ _ ?_
    unfold C.bits_Writer_Bits.S7 C.bits_Writer_Bits.S2
    refine cond_d (fun h => by omega) (fun _ => hK s w hc h hf)
  | succ k ih =>
    intro l n s w hk hn hB h hc hf hK
    refine hX _ _ _ _ ?_
    unfold C.bits_Writer_Bits.S7
    rw [show ((k + 1 : Nat) : Int) - 1 = (k : Int) by omega, wU64_id (by omega) (by omega), bit_eq hv (by omega), wI64 (by omega) (by omega)]
    refine cond_d (fun _ => ⟨by omega, ?_⟩) (fun h => by omega)
    refine put_ok h hB (by omega) _ fun s' w' k1 h1 f1 => ?_
    have f2 : ∀ j, foot g s' j → foot g s0 j ∨ w0.heap.size ≤ j := fun j hj => (f1 j hj).elim (hf j) fun e => .inr (Nat.le_trans hc.size e)
    refine ih _ (n + 1) s' w' (by omega) (by omega) (Nat.le_trans hB k1.size) h1 (Chg.then hc k1 hf) f2 fun s'' w'' k2 h2 f3 => hK s'' w'' k2 ?_ f3
    rw [show n + 1 + k = n + (k + 1) by omega] at h2
    exact h2

theorem bits_ok {w : World} {B g : Nat} {s : Sl} {l : List UInt8} {n v : Nat} {m : Int} (h : Wr w B g s l n) (hB : B ≤ w.heap.size) (hn : n ≤ 8388608) (hv : v < 18446744073709551616) {K : Int → World → Prop}
    (hE : badB v m → K 1 w) (hF : ¬ badB v m → m > 8388608 - (n : Int) → K 8 w)
    (hK : ¬ badB v m → m ≤ 8388608 - (n : Int) → ∀ s' w', Chg (foot g s) w w' → Wr w' B g s' (putBs l n (low v m.toNat)) (n + m.toNat) → (∀ j, foot g s' j → foot g s j ∨ w.heap.size ≤ j) → K 0 w') :
    C.bits_Writer_Bits (wp g) (v : Int) m w K := by
  unfold C.bits_Writer_Bits
  refine cond_f rfl ?_
  refine cond_d (fun h1 => hE (.inl h1)) (fun h1 => cond_d (fun h2 => hE (.inr (.inl h2))) (fun h2 => ?_))
  have fin : ¬ badB v m → G.ptr (wp g) fun p17 => G.cI .i64 (p17.add 1) w fun n18 => G.cond (decide (m > (IntKind.i64.wrap ((8388608 : Int) - n18)))) (K (8 : Int) w) (C.bits_Writer_Bits.S9 K (wp g) (v : Int) m w) := by
    intro hb
    refine h.rd1 ?_
    rw [wI64 (by omega) (by omega)]
    refine cond_d (fun h3 => hF hb h3) (fun h3 => ?_)
    unfold C.bits_Writer_Bits.S9
    refine C.bits_Writer_Bits.L5_ind fun X hX => ?_
    rw [wI64 (by omega) (by omega)]
    have := loop_ok hv hX m.toNat l n s w (by omega) (by omega) hB h (Chg.refl _ _) (fun j hj => .inl hj) (hK hb (by omega))
    rwa [show ((m.toNat : Nat) : Int) = m by omega] at this
  refine cond_d (fun h3 => ⟨by rw [wU64_id (by omega) (by omega)]; omega, ?_⟩) (fun h3 => fin fun hb => ?_)
  · rw [shrZ (by omega) h3]
    refine cond_ne (fun h4 => hE (.inr (.inr ⟨h3, fun e => h4 (by rw [e]; rfl)⟩))) (fun h4 => fin fun hb => ?_)
    rcases hb with hb | hb | hb
    · omega
    · omega
    · exact hb.2 (by exact_mod_cast h4)
  · rcases hb with hb | hb | hb <;> omega

theorem bytes_ok {w : World} {B g : Nat} {s : Sl} {l : List UInt8} {n : Nat} (h : Wr w B g s l n) (hn : n ≤ 8388608) {K : Sl → World → Prop} (hK : ∀ r w', Keep w w' → OwnB w' w.heap.size r l → K r w') : C.bits_Writer_Bytes (wp g) w K := by
  unfold C.bits_Writer_Bytes
  have := h.len
  refine cond_f rfl (h.rd0 ?_)
  exact appB (Keep.refl w) (Nat.le_refl _) (OwnB.nil _ _) h.own.rd (by simp only [List.length_nil]; omega) fun r w' k o => hK r w' k o

/-! Texts. -/
theorem fold_push : ∀ (l m : List UInt8), (l.map fun b => (b.toNat : Int)).foldl (fun r n => r.push (UInt8.ofNat n.toNat)) (⟨m.toArray⟩ : ByteArray) = ⟨(m ++ l).toArray⟩
  | [], m => by rw [List.append_nil]; rfl
  | b :: l, m => by
    simp only [List.map_cons, List.foldl_cons]
    have e : (⟨m.toArray⟩ : ByteArray).push (UInt8.ofNat ((b.toNat : Int)).toNat) = ⟨(m ++ [b]).toArray⟩ := by
      simp [ByteArray.push]
    rw [e, fold_push l (m ++ [b])]
    simp
abbrev str (l : List UInt8) : ByteArray := ⟨l.toArray⟩
theorem convBS {P : Program} {w : World} {b : Sl} {l : List UInt8} (h : RdB w b l) {K : ByteArray → Prop} (hK : K (str l)) : G.rdS P (Conv.bytesToString b.v) w K := by
  refine ⟨_, fun d => ?_, hK⟩
  have hd := Rd.drewN h d
  have hn := RdB.len h
  cases b with
  | mk a n c =>
    simp only at hn
    subst hn
    have go : ∀ x : Addr, (∀ j v, (vBs l)[j]? = some v → (w.drewN d).cell? (x.add j) = some v) → (Conv.bytesToString (.slice (some x) l.length c)).run P (w.drewN d) = .ok (.string (str l)) (w.drewN d) := by
      intro x hx
      have e : vBs l = (l.map fun b => (b.toNat : Int)).map (Value.int .u8) := by
        rw [List.map_map]; rfl
      have hl : (loadCells x l.length).run P (w.drewN d) = .ok ((l.map fun b => (b.toNat : Int)).map (Value.int .u8)).toArray (w.drewN d) := by
        rw [← e]
        have := run_loadCells_list (P := P) (w.drewN d) x (vBs l) hx
        rw [vBs_length] at this
        exact this
      rw [run_bytesToString (w.drewN d) x l.length c _ hl]
      have := fold_push l []
      simp only [List.nil_append] at this
      exact congrArg (fun s => Result.ok (Value.string s) (w.drewN d)) this
    by_cases h0 : vBs l = []
    · have hl0 : l = [] := by cases l with | nil => rfl | cons => simp [vBs] at h0
      subst hl0
      cases a with
      | none => rfl
      | some x => exact go x (by intro j v hv; simp [vBs] at hv)
    · obtain ⟨g, o, ha, hc⟩ := hd.2.2 h0
      simp only at ha
      subst ha
      exact go _ fun j v hv => by rw [addr_add]; exact hc j v hv
theorem newB {w : World} {n : Nat} {cs : Array Value} {l : List UInt8} (hc : cs.toList = vBs l) (hn : l.length = n) {K : Addr → World → Prop}
    (hK : ∀ p w', Keep w w' → RdB w' ⟨some p, n, n⟩ l → K p w') : G.new (.cells cs 5) w K := by
  have hs : cs.size = n := by rw [← Array.length_toList, hc, vBs_length, hn]
  exact hK _ _ (Keep.alloc w _) (by have := rd_new (w := w) (e := 5) (cs := cs) (n := n) (sz := 1) (by omega); rw [hc] at this; exact this)


theorem putBs_app : ∀ (xs ys : List Bool) (l : List UInt8) (n : Nat), putBs l n (xs ++ ys) = putBs (putBs l n xs) (n + xs.length) ys
  | [], ys, l, n => rfl
  | x :: xs, ys, l, n => by
    show putBs (putB l n x) (n + 1) (xs ++ ys) = putBs (putBs (putB l n x) (n + 1) xs) (n + (xs.length + 1)) ys
    rw [putBs_app xs ys, show n + (xs.length + 1) = n + 1 + xs.length by omega]
def pk (bs : List Bool) : List UInt8 := putBs [] 0 bs
theorem putBs_len : ∀ (bs : List Bool) (l : List UInt8) (n : Nat), l.length = (n + 7) / 8 → (putBs l n bs).length = (n + bs.length + 7) / 8
  | [], l, n, h => by simpa [putBs] using h
  | b :: bs, l, n, h => by
    rw [putBs, putBs_len bs _ _ (putB_len b h), List.length_cons]
    congr 1; omega
theorem pk_len (bs : List Bool) : (pk bs).length = (bs.length + 7) / 8 := by
  have := putBs_len bs [] 0 (by rfl)
  simpa [pk] using this
theorem pk_app (xs ys : List Bool) : pk (xs ++ ys) = putBs (pk xs) xs.length ys := by
  unfold pk; rw [putBs_app, Nat.zero_add]

/-- A writer, of tag t, that holds bs. -/
structure WrT (ω : Tg) (w : World) (t g : Nat) (bs : List Bool) : Prop where
  ex : ∃ s, Wr w 0 g s (pk bs) bs.length ∧ ∀ k, foot g s k → ω k = t
theorem WrT.stp {T : Nat → Bool} {ω ω' : Tg} {w w' : World} {t g : Nat} {bs : List Bool} (h : WrT ω w t g bs) (k : Stp T ω ω' w w') (ne : T t = false := by rfl) : WrT ω' w' t g bs := by
  obtain ⟨s, h, ht⟩ := h.ex
  have lt : ∀ k, foot g s k → k < w.heap.size := fun k hk => (h.lt hk).2
  have hb : ∀ j, foot g s j → w'.heap[j]? = w.heap[j]? := fun j hj => k.block j (lt j hj) (by rw [ht j hj]; exact ne)
  refine ⟨s, ⟨by unfold Blk; rw [hb g (.inl rfl)]; exact h.blk, ?_, h.ge, h.ne, h.len⟩, fun j hj => (k.same j (lt j hj)).trans (ht j hj)⟩
  exact (OT.stp (t := t) ⟨h.own, fun j hj => ht j (.inr hj)⟩ k ne).own
theorem new_T' {ω : Tg} {w : World} (t : Nat) {K : Option Addr → World → Prop} (hK : ∀ g ω' w', Stp Non ω ω' w w' → WrT ω' w' t g [] → K (wp g) w') : C.bits_NewWriter w K :=
  new_ok fun w' k h _ => hK w.heap.size (ext ω w.heap.size t) w' (k.stp ω t) ⟨nilS, ⟨h.blk, Own.mono h.own (Nat.zero_le _), Nat.zero_le _, h.ne, h.len⟩, fun j hj => ext_new (by
    rcases hj with rfl | hj
    · exact Nat.le_refl _
    · simp [Value.ownBlock] at hj)⟩
/-- Bits of a number that has so many. -/
theorem bits_T {ω : Tg} {w : World} {t g : Nat} {bs : List Bool} {v : Nat} {m : Int} {k : Nat} (h : WrT ω w t g bs) (hm : m = (k : Int)) (hk : k ≤ 64) (hv : v < 2 ^ k) (hn : bs.length + k ≤ 8388608) {x : Int} (hx : x = (v : Int)) {K : Int → World → Prop}
    (hK : ∀ ω' w', Stp (One t) ω ω' w w' → WrT ω' w' t g (bs ++ low v k) → K 0 w') : C.bits_Writer_Bits (wp g) x m w K := by
  subst hm hx
  obtain ⟨s, h, ht⟩ := h.ex
  have hv64 : v < 18446744073709551616 := Nat.lt_of_lt_of_le hv (Nat.pow_le_pow_right (by decide : 0 < 2) hk : 2 ^ k ≤ 2 ^ 64)
  refine bits_ok h (Nat.zero_le _) (by omega) hv64 (fun hb => ?_) (fun _ hF => by omega) fun _ _ s' w' c h' f => ?_
  · rcases hb with e | e | ⟨e, e'⟩
    · omega
    · omega
    · exact absurd (Nat.div_eq_of_lt (by rw [Int.toNat_natCast]; exact hv)) e'
  · rw [Int.toNat_natCast] at h'
    have e1 : (bs ++ low v k).length = bs.length + k := by rw [List.length_append, low_len]
    refine hK (ext ω w.heap.size t) w' (Chg.stp c ht) ⟨s', by rw [e1, pk_app]; exact h', fun j hj => ?_⟩
    · rcases f j hj with e | e
      · rw [ext_old (h.lt e).2]; exact ht j e
      · exact ext_new e
theorem bytes_T {ω : Tg} {w : World} {t g : Nat} {bs : List Bool} (h : WrT ω w t g bs) (hn : bs.length ≤ 8388608) {K : Sl → World → Prop} (hK : ∀ r w', Keep w w' → OwnB w' w.heap.size r (pk bs) → K r w') : C.bits_Writer_Bytes (wp g) w K := by
  obtain ⟨s, h, ht⟩ := h.ex
  exact bytes_ok h hn hK
end Go.Proofs.YtpadehbcjkhegaaDoor.Bits
