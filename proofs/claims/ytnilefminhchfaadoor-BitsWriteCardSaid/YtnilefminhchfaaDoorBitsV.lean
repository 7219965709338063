/- Layer 2: the writer's calls, and what is awake. Own work. -/
import Derived.Test.YtnilefminhchfaaDoorBitsW
import Derived.Laws.BytesString
namespace Go.Proofs.YtnilefminhchfaaDoor.Bits
open Go Vm Go.RowKit Num Mem

def badB (v : Nat) (m : Int) : Prop := m < 0 ∨ m > 64 ∨ (m < 64 ∧ v / 2 ^ m.toNat ≠ 0)
theorem shrZ {v : Nat} {m : Int} (h0 : 0 ≤ m) (h1 : m < 64) : shr .u64 (v : Int) (IntKind.u64.wrap m) = ((v / 2 ^ m.toNat : Nat) : Int) := by
  rw [wU64_id h0 (by omega)]
  have e := shr_nat .u64 (v : Int) m.toNat (by simp only [IntKind.bits]; omega)
  rw [show ((m.toNat : Nat) : Int) = m by omega] at e
  rw [e]; simp

theorem loop_ok {w0 : World} {B g : Nat} {s0 : Sl} {v : Nat} (hv : v < 18446744073709551616) {K : C.bits_Writer_Bits.KT} {X : Cur C.bits_Writer_Bits.g5}
    (hX : ∀ w_5 v_6 i_7 w, C.bits_Writer_Bits.S7 K X w_5 v_6 i_7 w → X w_5 v_6 i_7 w) :
    ∀ (k : Nat) (l : List UInt8) (n : Nat) (s : Sl) (w : World), k ≤ 64 → n + k ≤ 8388608 → B ≤ w.heap.size → Wr w B g s l n → Chg (foot g s0) w0 w → (∀ j, foot g s j → foot g s0 j ∨ w0.heap.size ≤ j) →
      (∀ s' w', Chg (foot g s0) w0 w' → Wr w' B g s' (putBs l n (low v k)) (n + k) → (∀ j, foot g s' j → foot g s0 j ∨ w0.heap.size ≤ j) → K 0 w') → X (wp g) (v : Int) ((k : Int) - 1) w := by
  intro k
  induction k with
  | zero =>
    intro l n s w _ _ _ h hc hf hK
    refine hX _ _ _ _ ?_
    unfold C.bits_Writer_Bits.S7 C.bits_Writer_Bits.S2
    refine cond_d (fun h => by omega) (fun _ => hK s w hc h hf)
  | succ k ih =>
    intro l n s w hk hn hB h hc hf hK
    refine hX _ _ _ _ ?_
    unfold C.bits_Writer_Bits.S7
    rw [show ((k + 1 : Nat) : Int) - 1 = (k : Int) by omega, wU64_id (by omega) (by omega), bit_eq hv (by omega), wI64 (by omega) (by omega)]
    refine cond_d (fun _ => ⟨by omega, ?_⟩) (fun h => by omega)
    refine put_ok h hB (by omega) _ fun s' w' k1 h1 f1 => ?_
    have f2 : ∀ j, foot g s' j → foot g s0 j ∨ w0.heap.size ≤ j := fun j hj => (f1 j hj).elim (hf j) fun e => .inr (Nat.le_trans hc.size e)
    refine ih _ (n + 1) s' w' (by omega) (by omega) (Nat.le_trans hB k1.size) h1 (Chg.then hc k1 hf) f2 fun s'' w'' k2 h2 f3 => hK s'' w'' k2 ?_ f3
    rw [show n + 1 + k = n + (k + 1) by omega] at h2
    exact h2

theorem bits_ok {w : World} {B g : Nat} {s : Sl} {l : List UInt8} {n v : Nat} {m : Int} (h : Wr w B g s l n) (hB : B ≤ w.heap.size) (hn : n ≤ 8388608) (hv : v < 18446744073709551616) {K : Int → World → Prop}
    (hE : badB v m → K 1 w) (hF : ¬ badB v m → m > 8388608 - (n : Int) → K 8 w)
    (hK : ¬ badB v m → m ≤ 8388608 - (n : Int) → ∀ s' w', Chg (foot g s) w w' → Wr w' B g s' (putBs l n (low v m.toNat)) (n + m.toNat) → (∀ j, foot g s' j → foot g s j ∨ w.heap.size ≤ j) → K 0 w') :
    C.bits_Writer_Bits (wp g) (v : Int) m w K := by
  unfold C.bits_Writer_Bits
  refine cond_f rfl ?_
  refine cond_d (fun h1 => hE (.inl h1)) (fun h1 => cond_d (fun h2 => hE (.inr (.inl h2))) (fun h2 => ?_))
  have fin : ¬ badB v m → G.ptr (wp g) fun p17 => G.cI .i64 (p17.add 1) w fun n18 => G.cond (decide (m > (IntKind.i64.wrap ((8388608 : Int) - n18)))) (K (8 : Int) w) (C.bits_Writer_Bits.S9 K (wp g) (v : Int) m w) := by
    intro hb
    refine h.rd1 ?_
    rw [wI64 (by omega) (by omega)]
    refine cond_d (fun h3 => hF hb h3) (fun h3 => ?_)
    unfold C.bits_Writer_Bits.S9
    refine C.bits_Writer_Bits.L5_ind fun X hX => ?_
    rw [wI64 (by omega) (by omega)]
    have := loop_ok hv hX m.toNat l n s w (by omega) (by omega) hB h (Chg.refl _ _) (fun j hj => .inl hj) (hK hb (by omega))
    rwa [show ((m.toNat : Nat) : Int) = m by omega] at this
  refine cond_d (fun h3 => ⟨by rw [wU64_id (by omega) (by omega)]; omega, ?_⟩) (fun h3 => fin fun hb => ?_)
  · rw [shrZ (by omega) h3]
    refine cond_ne (fun h4 => hE (.inr (.inr ⟨h3, fun e => h4 (by rw [e]; rfl)⟩))) (fun h4 => fin fun hb => ?_)
    rcases hb with hb | hb | hb
    · omega
    · omega
    · exact hb.2 (by exact_mod_cast h4)
  · rcases hb with hb | hb | hb <;> omega

theorem bit_ok {w : World} {B g : Nat} {s : Sl} {l : List UInt8} {n : Nat} {b : Bool} (h : Wr w B g s l n) (hB : B ≤ w.heap.size) (hn : n ≤ 8388608) {K : Int → World → Prop}
    (hF : 8388608 ≤ n → K 8 w) (hK : n < 8388608 → ∀ s' w', Chg (foot g s) w w' → Wr w' B g s' (putB l n b) (n + 1) → (∀ j, foot g s' j → foot g s j ∨ w.heap.size ≤ j) → K 0 w') :
    C.bits_Writer_Bit (wp g) b w K := by
  unfold C.bits_Writer_Bit
  refine cond_f rfl (h.rd1 ?_)
  refine cond_d (fun h1 => hF (by omega)) (fun h1 => ?_)
  exact put_ok h hB (by omega) b fun s' w' k1 h1' f => hK (by omega) s' w' k1 h1' f
theorem len_ok {w : World} {B g : Nat} {s : Sl} {l : List UInt8} {n : Nat} (h : Wr w B g s l n) {K : Int → World → Prop} (hK : K (n : Int) w) : C.bits_Writer_Len (wp g) w K := by
  unfold C.bits_Writer_Len
  exact cond_f rfl (h.rd1 hK)
theorem bytes_ok {w : World} {B g : Nat} {s : Sl} {l : List UInt8} {n : Nat} (h : Wr w B g s l n) (hn : n ≤ 8388608) {K : Sl → World → Prop} (hK : ∀ r w', Keep w w' → OwnB w' w.heap.size r l → K r w') : C.bits_Writer_Bytes (wp g) w K := by
  unfold C.bits_Writer_Bytes
  have := h.len
  refine cond_f rfl (h.rd0 ?_)
  exact appB (Keep.refl w) (Nat.le_refl _) (OwnB.nil _ _) h.own.rd (by simp only [List.length_nil]; omega) fun r w' k o => hK r w' k o

/-! Texts. -/
theorem fold_push : ∀ (l m : List UInt8), (l.map fun b => (b.toNat : Int)).foldl (fun r n => r.push (UInt8.ofNat n.toNat)) (⟨m.toArray⟩ : ByteArray) = ⟨(m ++ l).toArray⟩
  | [], m => by rw [List.append_nil]; rfl
  | b :: l, m => by
    simp only [List.map_cons, List.foldl_cons]
    have e : (⟨m.toArray⟩ : ByteArray).push (UInt8.ofNat ((b.toNat : Int)).toNat) = ⟨(m ++ [b]).toArray⟩ := by
      simp [ByteArray.push]
    rw [e, fold_push l (m ++ [b])]
    simp
abbrev str (l : List UInt8) : ByteArray := ⟨l.toArray⟩
theorem convBS {P : Program} {w : World} {b : Sl} {l : List UInt8} (h : RdB w b l) {K : ByteArray → Prop} (hK : K (str l)) : G.rdS P (Conv.bytesToString b.v) w K := by
  refine ⟨_, fun d => ?_, hK⟩
  have hd := Rd.drewN h d
  have hn := RdB.len h
  cases b with
  | mk a n c =>
    simp only at hn
    subst hn
    have go : ∀ x : Addr, (∀ j v, (vBs l)[j]? = some v → (w.drewN d).cell? (x.add j) = some v) → (Conv.bytesToString (.slice (some x) l.length c)).run P (w.drewN d) = .ok (.string (str l)) (w.drewN d) := by
      intro x hx
      have e : vBs l = (l.map fun b => (b.toNat : Int)).map (Value.int .u8) := by
        rw [List.map_map]; rfl
      have hl : (loadCells x l.length).run P (w.drewN d) = .ok ((l.map fun b => (b.toNat : Int)).map (Value.int .u8)).toArray (w.drewN d) := by
        rw [← e]
        have := run_loadCells_list (P := P) (w.drewN d) x (vBs l) hx
        rw [vBs_length] at this
        exact this
      rw [run_bytesToString (w.drewN d) x l.length c _ hl]
      have := fold_push l []
      simp only [List.nil_append] at this
      exact congrArg (fun s => Result.ok (Value.string s) (w.drewN d)) this
    by_cases h0 : vBs l = []
    · have hl0 : l = [] := by cases l with | nil => rfl | cons => simp [vBs] at h0
      subst hl0
      cases a with
      | none => rfl
      | some x => exact go x (by intro j v hv; simp [vBs] at hv)
    · obtain ⟨g, o, ha, hc⟩ := hd.2.2 h0
      simp only at ha
      subst ha
      exact go _ fun j v hv => by rw [addr_add]; exact hc j v hv
theorem same_yes {w : World} {a b : Sl} {l : List UInt8} (ha : RdB w a l) (hb : RdB w b l) {K : Bool → World → Prop} (hK : K true w) : C.tocsinlaw02_same a b w K := by
  unfold C.tocsinlaw02_same
  refine convBS ha (convBS hb ?_)
  rw [beq_self_eq_true]; exact hK
theorem newB {w : World} {n : Nat} {cs : Array Value} {l : List UInt8} (hc : cs.toList = vBs l) (hn : l.length = n) {K : Addr → World → Prop}
    (hK : ∀ p w', Keep w w' → RdB w' ⟨some p, n, n⟩ l → K p w') : G.new (.cells cs 5) w K := by
  have hs : cs.size = n := by rw [← Array.length_toList, hc, vBs_length, hn]
  exact hK _ _ (Keep.alloc w _) (by have := rd_new (w := w) (e := 5) (cs := cs) (n := n) (sz := 1) (by omega); rw [hc] at this; exact this)

/-! ## What is awake -/
theorem at_ok {w : World} {gr : Nat} {s : Sl} {x y : Value} {l : List UInt8} {i c : Nat} (hb : Blk w gr 60 [s.v, x, y]) (hl : RdB w s l) (hi : l[i / 8]? = some (UInt8.ofNat c)) (hc : c < 256) (hi' : i < 70000000) {K : Int → World → Prop}
    (hK : K ((c / 2 ^ (7 - i % 8) % 2 : Nat) : Int) w) : C.bits_Reader_at (wp gr) (i : Int) w K := by
  unfold C.bits_Reader_at
  obtain ⟨hlt, he⟩ := List.getElem?_eq_some_iff.1 hi
  refine ptr_at (cSl_at (s := s) (by rw [hb.cell]; rfl) ⟨by decide, ?_⟩)
  rw [idx8 (by omega)]
  refine RdB.at_ hl hlt ⟨by decide, ?_⟩
  rw [he, UInt8.toNat_ofNat', Nat.mod_eq_of_lt (by omega), show Int.tmod (i : Int) (8 : Int) = ((i % 8 : Nat) : Int) from rfl, wI64 (by omega) (by omega), wU64_id (by omega) (by omega), show (7 : Int) - ((i % 8 : Nat) : Int) = ((7 - i % 8 : Nat) : Int) by omega]
  refine ⟨by omega, ?_⟩
  have e := shr_nat .u8 (c : Int) (7 - i % 8) (by simp only [IntKind.bits]; omega)
  have hlt2 : c / 2 ^ (7 - i % 8) < 256 := Nat.lt_of_le_of_lt (Nat.div_le_self _ _) hc
  have e2 : shr .u8 (c : Int) ((7 - i % 8 : Nat) : Int) = ((c / 2 ^ (7 - i % 8) : Nat) : Int) := by rw [e]; simp
  rw [e2]
  generalize c / 2 ^ (7 - i % 8) = q at *
  rw [wU64_id (by omega) (by omega), show (1 : Int) = ((1 : Nat) : Int) from rfl, bits_and rfl (by simp only [IntKind.bits]; omega) (by decide), Nat.and_one_is_mod]
  exact hK

theorem awake_ok {w : World} {K : Bool → World → Prop} (hK : ∀ w', Keep w w' → K true w') : C.tocsinlaw02_awake w K := by
  unfold C.tocsinlaw02_awake
  refine new_ok fun w1 k1 h1 _ => ?_
  refine cond_f rfl ?_
  have hge : ∀ k, foot w.heap.size nilS k → w.heap.size ≤ k := fun k hk => by
    rcases hk with hk | hk
    · omega
    · simp [nilS, Value.ownBlock] at hk
  refine bit_ok h1 k1.size (by decide) (fun h => absurd h (by decide)) fun _ s2 w2 c2 h2 f2 => ?_
  have k2 : Keep w w2 := Chg.below k1 c2 k1.size hge
  refine cond_f rfl ?_
  refine bits_ok (v := 5) (m := 3) h2 k2.size (by decide) (by decide) (fun h => absurd h (by unfold badB; decide)) (fun _ h => absurd h (by decide)) fun _ _ s3 w3 c3 h3 f3 => ?_
  have hge2 : ∀ k, foot w.heap.size s2 k → w.heap.size ≤ k := fun k hk => (h2.lt hk).1
  have k3 : Keep w w3 := Chg.below k2 c3 k2.size hge2
  refine cond_f rfl ?_
  have hb : putBs (putB [] 0 true) 1 (low 5 3) = [208] := by decide +kernel
  have h3' : Wr w3 w.heap.size w.heap.size s3 [208] 4 := by
    have : putBs (putB [] 0 true) (0 + 1) (low 5 (Int.toNat 3)) = [208] := hb
    rw [this] at h3; exact h3
  refine bytes_ok h3' (by decide) fun r4 w4 k4 o4 => ?_
  unfold C.bits_NewReader
  have hn4 := o4.len
  refine cond_f rfl <| cond_f rfl <| cond_f (by rw [hn4]; rfl) ?_
  refine appB (Keep.refl w4) (Nat.le_refl _) (OwnB.nil _ _) o4.rd (by decide) fun r5 w5 k5 o5 => ?_
  rw [List.nil_append] at o5
  have k45 := Keep.trans k4 k5
  have k05 := Keep.trans k3 k45
  have hR := Blk.new w5 60 #[r5.v, .int .i64 (4 : Int), .int .i64 (0 : Int)]
  have kA := Keep.alloc w5 (.cells #[r5.v, .int .i64 (4 : Int), .int .i64 (0 : Int)] 60)
  have o6 := o5.rd.keep kA
  have h6 := (h3'.keep k45).keep kA
  refine new_at ?_
  refine cond_f rfl ?_
  have k06 := Keep.trans k05 kA
  have hne : ¬ foot w.heap.size s3 w5.heap.size := fun hk => by
    have := ((h3'.keep k45).lt hk).2
    omega
  have hro : r5.v.ownBlock ≠ some w5.heap.size := fun e => by have := (Own.geC o5 e).2; omega
  generalize w5.alloc (.cells #[r5.v, .int .i64 (4 : Int), .int .i64 (0 : Int)] 60) = w6 at *
  have hg6 : w.heap.size ≤ w5.heap.size := k05.size
  generalize w5.heap.size = gr at *
  unfold C.bits_Reader_Bits
  refine cond_f rfl <| cond_f rfl <| cond_f rfl ?_
  refine ptr_at (cI_at (n := 4) (by rw [addr_add, hR.cell]; rfl) (ptr_at (cI_at (n := 0) (by rw [addr_add, hR.cell]; rfl) fun d => ?_)))
  refine cond_f rfl ?_
  have hRd := hR.drewN d
  refine ptr_at (cI_at (n := 0) (by rw [addr_add, hRd.cell]; rfl) ?_)
  unfold C.bits_Reader_look C.bits_Reader_look.S9
  refine C.bits_Reader_look.L5_ind fun X hX => ?_
  have o6d := Rd.drewN o6 d
  refine hX _ _ _ _ _ _ ?_
  unfold C.bits_Reader_look.S7
  refine cond_t rfl ⟨by decide, ?_⟩
  refine at_ok (i := 0) (c := 208) hRd o6d rfl (by decide) (by decide) ?_
  refine hX _ _ _ _ _ _ ?_
  unfold C.bits_Reader_look.S7
  refine cond_t rfl ⟨by decide, ?_⟩
  refine at_ok (i := 1) (c := 208) hRd o6d rfl (by decide) (by decide) ?_
  refine hX _ _ _ _ _ _ ?_
  unfold C.bits_Reader_look.S7
  refine cond_t rfl ⟨by decide, ?_⟩
  refine at_ok (i := 2) (c := 208) hRd o6d rfl (by decide) (by decide) ?_
  refine hX _ _ _ _ _ _ ?_
  unfold C.bits_Reader_look.S7
  refine cond_t rfl ⟨by decide, ?_⟩
  refine at_ok (i := 3) (c := 208) hRd o6d rfl (by decide) (by decide) ?_
  refine hX _ _ _ _ _ _ ?_
  unfold C.bits_Reader_look.S7 C.bits_Reader_look.S2
  refine cond_f rfl ?_
  refine ptr_at (cI_at (n := 0) (by rw [addr_add, hRd.cell]; rfl) (ptr_at ?_))
  rw [addr_add]
  refine st_at (by rw [hRd.cell]; rfl) (hRd.frozen _) ?_
  have h7 := Wr.chg (h6.keep (Keep.drewN w6 d)) (setCell_chg (w6.drewN d) gr (0 + 2) (.int .i64 (IntKind.i64.wrap ((0 : Int) + (4 : Int))))) (fun k hk e => hne (e ▸ hk))
  have hR7 := hRd.set (0 + 2) (.int .i64 (IntKind.i64.wrap ((0 : Int) + (4 : Int))))
  have k07 : Keep w ((w6.drewN d).setCell ⟨gr, 0 + 2, none⟩ (.int .i64 (IntKind.i64.wrap ((0 : Int) + (4 : Int))))) := Chg.below (Keep.trans k06 (Keep.drewN w6 d)) (setCell_chg _ _ _ _) (Keep.trans k06 (Keep.drewN w6 d)).size (fun k hk => by rw [hk]; exact hg6)
  generalize (w6.drewN d).setCell ⟨gr, 0 + 2, none⟩ (.int .i64 (IntKind.i64.wrap ((0 : Int) + (4 : Int)))) = w7 at *
  refine len_ok h7 ?_
  refine cond_t rfl ?_
  refine bytes_ok h7 (by decide) fun r8 w8 k8 o8 => ?_
  refine newB (l := [208]) (by rfl) (by rfl) fun p w9 k9 o9 => ?_
  refine same_yes (o8.rd.keep k9) o9 ?_
  refine cond_t rfl <| cond_t rfl <| cond_t (by decide +kernel) ?_
  unfold C.bits_Reader_Left
  have k79 := Keep.trans k8 k9
  have hR9 := hR7.keep k79
  refine cond_f rfl ?_
  refine ptr_at (cI_at (n := 4) (by rw [addr_add, hR9.cell]; rfl) (ptr_at (cI_at (n := 4) (by rw [addr_add, hR9.cell]; rfl) fun d' => ?_)))
  exact hK _ (Keep.trans (Keep.trans k07 k79) (Keep.drewN w9 d'))
end Go.Proofs.YtnilefminhchfaaDoor.Bits
