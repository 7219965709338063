/- Layer 2: the reference's form; the contract of BitsFull. Own work. -/
import Derived.Test.YtnilefminhchfaaDoorBitsR
namespace Go.Proofs.YtnilefminhchfaaDoor.Bits
open Go Vm Go.RowKit Num Mem

theorem rform_ok {n : Int} {w : World} {K : Sl → World → Prop} (hK : ∀ r w', Keep w w' → Ownb w' w.heap.size r (form n) → K r w') : C.tocsinref02_Form n w K := by
  unfold C.tocsinref02_Form
  refine new_at ?_
  have kA := Keep.alloc w (.cells #[nilS.v, (.int .i64 (0 : Int))] 28)
  have hS : St (w.alloc (.cells #[nilS.v, (.int .i64 (0 : Int))] 28)) w.heap.size w.heap.size nilS [] := ⟨Blk.new w _ _, Own.nil _ _ _ 1, Nat.le_refl _, by simp [nilS, Value.ownBlock]⟩
  generalize w.alloc (.cells #[nilS.v, (.int .i64 (0 : Int))] 28) = w1 at *
  refine rrow_ok fun w2 k2 => ?_
  have hS := hS.keep k2
  have k02 := Keep.trans kA k2
  have hge : ∀ k, foot w.heap.size nilS k → w.heap.size ≤ k := fun k hk => by
    rcases hk with hk | hk
    · omega
    · simp [nilS, Value.ownBlock] at hk
  have hr := row_le n
  have hwid : wid (row n) ≤ 64 := wid_le ⟨row n, by omega⟩
  -- the end
  have fin : ∀ (l : List Bool) (s : Sl) (w' : World), l.length ≤ 9 → l ++ low (lowN n (wid (row n))) (wid (row n)) = form n → St w' w.heap.size w.heap.size s l → Chg (foot w.heap.size nilS) w2 w' → (∀ j, foot w.heap.size s j → foot w.heap.size nilS j ∨ w2.heap.size ≤ j) →
      C.tocsinref02_width ((row n : Nat) : Int) w' fun n14 w15 => C.tocsinref02_Low n n14 w15 fun n16 w17 => C.tocsinref02_Stream_Write (wp w.heap.size) n16 n14 w17 fun w18 => G.ptr (wp w.heap.size) fun p19 => G.cSl p19 w18 fun l20 => K l20 w18 := by
    intro l s w' hl he h hc hf
    refine rwid_ok hr fun w3 k3 => rlow_ok hwid ?_
    have hc3 := Chg.then hc (Keep.chg k3 (fun _ => False)) fun g hg => hg.elim
    refine write_ok (lowN_lt n _) hwid (h.keep k3) (Nat.le_trans k02.size hc3.size) (by omega) hc3 hf fun s4 w4 c4 h4 f4 => ?_
    rw [he] at h4
    refine ptr_at (cSl_at (s := s4) (by rw [h4.blk.cell]; rfl) ?_)
    exact hK s4 w4 (Chg.below k02 c4 k02.size hge) h4.own
  unfold C.tocsinref02_Form.S9
  refine C.tocsinref02_Form.L5_ind fun X hX => ?_
  have key : ∀ (e i : Nat) (s : Sl) (w' : World), e + i = row n → St w' w.heap.size w.heap.size s (List.replicate i true) → Chg (foot w.heap.size nilS) w2 w' → (∀ j, foot w.heap.size s j → foot w.heap.size nilS j ∨ w2.heap.size ≤ j) →
      X n (wp w.heap.size) ((row n : Nat) : Int) (i : Int) w' := by
    intro e
    induction e with
    | zero =>
      intro i s w' hi h hc hf
      have hi' : i = row n := by omega
      subst hi'
      have hB : w.heap.size ≤ w'.heap.size := Nat.le_trans k02.size hc.size
      refine hX _ _ _ _ _ ?_
      unfold C.tocsinref02_Form.S7 C.tocsinref02_Form.S2
      refine cond_d (fun h => by omega) (fun _ => ?_)
      refine cond_d (fun h8 => ?_) (fun h8 => ?_)
      · refine add_ok h hB (by simp; omega) fun s3 w3 c3 h3 f3 => ?_
        refine fin _ s3 w3 (by simp; omega) ?_ h3 (Chg.then hc c3 hf) fun j hj => (f3 j hj).elim (hf j) fun e => .inr (Nat.le_trans hc.size e)
        unfold form
        rw [if_pos (by omega), List.append_assoc]
      · refine fin _ s w' (by simp; omega) ?_ h hc hf
        unfold form
        rw [if_neg (by omega)]; rfl
    | succ e ih =>
      intro i s w' hi h hc hf
      have hB : w.heap.size ≤ w'.heap.size := Nat.le_trans k02.size hc.size
      refine hX _ _ _ _ _ ?_
      unfold C.tocsinref02_Form.S7
      refine cond_d (fun _ => ?_) (fun h => by omega)
      rw [wI64 (x := (i : Int) + 1) (by omega) (by omega)]
      refine add_ok h hB (by simp; omega) fun s3 w3 c3 h3 f3 => ?_
      refine ih (i + 1) s3 w3 (by omega) ?_ (Chg.then hc c3 hf) fun j hj => (f3 j hj).elim (hf j) fun e => .inr (Nat.le_trans hc.size e)
      rw [List.replicate_succ']; exact h3
  exact key (row n) 0 nilS w2 rfl hS (Chg.refl _ _) fun j hj => .inl hj

theorem full_end {w0 w : World} {g : Nat} {s : Sl} {l : List UInt8} {there n v : Nat} {m i : Int} {e : Int} (k0 : Keep w0 w) (ht0 : WTab w0) (h : Wr w w0.heap.size g s l n) (hn : n ≤ 8388608) (hv : v < 18446744073709551616)
    (he : (badB v m ∧ e = 1 ∧ there = n) ∨ (¬ badB v m ∧ m > 8388608 - (n : Int) ∧ e = 8 ∧ there = n) ∨ (¬ badB v m ∧ m ≤ 8388608 - (n : Int) ∧ e = 0 ∧ there = n + m.toNat)) {K : Bool → World → Prop} (hK : ∀ w', Keep w0 w' → K true w') :
    C.tocsinlaw02_BitsFull.S2 K (v : Int) m i (wp g) (there : Int) e w := by
  have hfl := form_len i
  have hrow := row_le i
  have hwid : wid (row i) ≤ 64 := wid_le ⟨row i, by omega⟩
  have ha : (if row i < 8 then 1 else 0) ≤ 1 := by split <;> omega
  -- behind the bits
  have rest : ∀ (s : Sl) (l : List UInt8) (w : World), Keep w0 w → there ≤ 8388608 → Wr w w0.heap.size g s l there →
      C.bits_Writer_Len (wp g) w fun n19 w20 => G.cond (n19 != (there : Int)) (K false w20) (G.cond (decide ((there : Int) ≥ (8388608 : Int))) (C.tocsinref02_Form i w20 fun l21 w22 => G.cond (decide ((IntKind.i64.wrap ((there : Int) + ((l21.n : Nat) : Int))) > (8388608 : Int))) (C.bits_Writer_Bit (wp g) true w22 fun n23 w24 => G.cond (n23 == (8 : Int)) (C.bits_Writer_Int (wp g) i w24 fun n25 w26 => G.cond (n25 == (8 : Int)) (C.bits_Writer_Len (wp g) w26 fun n27 w28 => G.cond (n27 == (there : Int)) (C.tocsinlaw02_awake w28 fun b29 w30 => K b29 w30) (K false w28)) (K false w26)) (K false w24)) (C.tocsinref02_Form i w22 fun l31 w32 => C.bits_Writer_Bit (wp g) true w32 fun n33 w34 => G.cond (n33 == (8 : Int)) (C.bits_Writer_Int (wp g) i w34 fun n35 w36 => G.cond (n35 == (0 : Int)) (C.bits_Writer_Len (wp g) w36 fun n37 w38 => G.cond (n37 == (IntKind.i64.wrap ((there : Int) + ((l31.n : Nat) : Int)))) (C.tocsinlaw02_awake w38 fun b39 w40 => K b39 w40) (K false w38)) (K false w36)) (K false w34))) (C.tocsinref02_Form i w20 fun l41 w42 => G.cond (decide ((IntKind.i64.wrap ((IntKind.i64.wrap ((there : Int) + (1 : Int))) + ((l41.n : Nat) : Int))) > (8388608 : Int))) (C.bits_Writer_Bit (wp g) true w42 fun n43 w44 => G.cond (n43 == (0 : Int)) (C.bits_Writer_Int (wp g) i w44 fun n45 w46 => G.cond (n45 == (8 : Int)) (C.bits_Writer_Len (wp g) w46 fun n47 w48 => G.cond (n47 == (IntKind.i64.wrap ((there : Int) + (1 : Int)))) (C.tocsinlaw02_awake w48 fun b49 w50 => K b49 w50) (K false w48)) (K false w46)) (K false w44)) (C.tocsinref02_Form i w42 fun l51 w52 => C.bits_Writer_Bit (wp g) true w52 fun n53 w54 => G.cond (n53 == (0 : Int)) (C.bits_Writer_Int (wp g) i w54 fun n55 w56 => G.cond (n55 == (0 : Int)) (C.bits_Writer_Len (wp g) w56 fun n57 w58 => G.cond (n57 == (IntKind.i64.wrap ((IntKind.i64.wrap ((there : Int) + (1 : Int))) + ((l51.n : Nat) : Int)))) (C.tocsinlaw02_awake w58 fun b59 w60 => K b59 w60) (K false w58)) (K false w56)) (K false w54)))) := by
    intro s l w k hth h
    refine len_ok h (cond_f (by simp) ?_)
    refine cond_d (fun hfull => ?_) (fun hfull => ?_)
    · refine rform_ok fun f1 w1 k1 o1 => ?_
      have hf1 := Ownb.len o1
      rw [wI64 (by omega) (by omega)]
      by_cases hz : 0 < (form i).length
      · refine cond_t (by simp; omega) ?_
        have k01 := Keep.trans k k1
        refine bit_ok (h.keep k1) k01.size hth (fun _ => ?_) (fun hlt => by omega)
        refine cond_t rfl ?_
        refine int_ok (ht0.keep k01) (h.keep k1) k01.size hth (fun hF => ?_) (fun hle => by omega)
        refine cond_t rfl (len_ok ((h.keep k1).keep (Keep.drew w1)) (cond_t (by simp) ?_))
        exact awake_ok fun w' k' => hK w' (Keep.trans (Keep.trans k01 (Keep.drew w1)) k')
      · have hz' : (form i).length = 0 := by omega
        exfalso
        rw [hfl] at hz'
        have : row i = 0 := by omega
        rw [if_pos (by omega)] at hz'
        omega
    · refine rform_ok fun f1 w1 k1 o1 => ?_
      have hf1 := Ownb.len o1
      rw [wI64 (x := (there : Int) + 1) (by omega) (by omega), wI64 (x := (there : Int) + 1 + _) (by omega) (by omega)]
      have k01 := Keep.trans k k1
      refine cond_d (fun hbig => ?_) (fun hbig => ?_)
      · refine bit_ok (h.keep k1) k01.size hth (fun hge => by omega) (fun _ s2 w2 c2 h2 f2 => ?_)
        have k02 : Keep w0 w2 := Chg.below k01 c2 k01.size fun j hj => ((h.keep k1).lt hj).1
        have ht2 : WTab w2 := ht0.keep k02
        refine cond_t rfl ?_
        refine int_ok ht2 h2 k02.size (by omega) (fun hF => ?_) (fun hle => by omega)
        refine cond_t rfl (len_ok (h2.keep (Keep.drew w2)) (cond_t (by simp) ?_))
        exact awake_ok fun w' k' => hK w' (Keep.trans (Keep.trans k02 (Keep.drew w2)) k')
      · refine rform_ok fun f2 w2 k2 o2 => ?_
        have hf2 := Ownb.len o2
        have k02 := Keep.trans k01 k2
        have hk2 := (h.keep k1).keep k2
        refine bit_ok hk2 k02.size hth (fun hge => by omega) (fun _ s3 w3 c3 h3 f3 => ?_)
        have k03 : Keep w0 w3 := Chg.below k02 c3 k02.size fun j hj => (hk2.lt hj).1
        have ht3 : WTab w3 := ht0.keep k03
        refine cond_t rfl ?_
        refine int_ok ht3 h3 k03.size (by omega) (fun hF => by omega) (fun hle s4 w4 c4 h4 f4 => ?_)
        have k04 : Keep w0 w4 := Chg.below k03 c4 k03.size fun j hj => (h3.lt hj).1
        refine cond_t rfl (len_ok h4 (cond_t ?_ ?_))
        · rw [wI64 (by omega) (by omega)]
          simp; omega
        · exact awake_ok fun w' k' => hK w' (Keep.trans k04 k')
  unfold C.tocsinlaw02_BitsFull.S2
  refine bits_ok h k0.size hn hv (fun hb => ?_) (fun hb hF => ?_) fun hb hF s' w' c1 h1 f1 => ?_
  · rcases he with ⟨_, rfl, rfl⟩ | ⟨h', _⟩ | ⟨h', _⟩
    · exact cond_f rfl (rest s l w k0 hn h)
    · exact absurd hb h'
    · exact absurd hb h'
  · rcases he with ⟨h', _⟩ | ⟨_, _, rfl, rfl⟩ | ⟨_, h', _⟩
    · exact absurd h' hb
    · exact cond_f rfl (rest s l w k0 hn h)
    · omega
  · rcases he with ⟨h', _⟩ | ⟨_, h', _⟩ | ⟨_, _, rfl, rfl⟩
    · exact absurd h' hb
    · omega
    · have k1 : Keep w0 w' := Chg.below k0 c1 k0.size fun j hj => (h.lt hj).1
      have hb1 : 0 ≤ m := by unfold badB at hb; omega
      exact cond_f rfl (rest s' _ w' k1 (by omega) h1)
theorem full_law {w0 : World} (ht0 : WTab w0) {v : Nat} (hv : v < 18446744073709551616) {times m i : Int} (hm1 : -9223372036854775808 ≤ m) (hm2 : m < 9223372036854775808) {K : Bool → World → Prop} (hK : ∀ w', Keep w0 w' → K true w') : C.tocsinlaw02_BitsFull times (v : Int) m i w0 K := by
  unfold C.tocsinlaw02_BitsFull
  refine new_ok fun w1 k1 h1 _ => cond_f rfl ?_
  have go : ∀ t : Nat, t ≤ 131072 → C.tocsinlaw02_BitsFull.S10 K (t : Int) (v : Int) m i (wp w0.heap.size) w1 := by
    intro t ht
    unfold C.tocsinlaw02_BitsFull.S10
    refine C.tocsinlaw02_BitsFull.L6_ind fun X hX => ?_
    have key : ∀ (d k : Nat) (s : Sl) (l : List UInt8) (w : World), d + k = t → Keep w0 w → Wr w w0.heap.size w0.heap.size s l (64 * k) → X (t : Int) (v : Int) m i (wp w0.heap.size) (k : Int) w := by
      intro d
      induction d with
      | zero =>
        intro k s l w hk k0 h
        have hk' : k = t := by omega
        subst hk'
        refine hX _ _ _ _ _ _ _ ?_
        unfold C.tocsinlaw02_BitsFull.S8 C.tocsinlaw02_BitsFull.S3
        rw [wI64 (x := (64 : Int) * (k : Int)) (by omega) (by omega), show (64 : Int) * (k : Int) = ((64 * k : Nat) : Int) by omega]
        refine cond_d (fun h => by omega) (fun _ => ?_)
        have bad : badB v m → C.tocsinlaw02_BitsFull.S2 K (v : Int) m i (wp w0.heap.size) ((64 * k : Nat) : Int) 1 w := fun hb => full_end k0 ht0 h (by omega) hv (.inl ⟨hb, rfl, rfl⟩) hK
        have good : ¬ badB v m → 0 ≤ m → m ≤ 64 → G.cond (decide ((IntKind.i64.wrap (((64 * k : Nat) : Int) + m)) > (8388608 : Int))) (C.tocsinlaw02_BitsFull.S2 K (v : Int) m i (wp w0.heap.size) ((64 * k : Nat) : Int) (8 : Int) w) (C.tocsinlaw02_BitsFull.S2 K (v : Int) m i (wp w0.heap.size) (IntKind.i64.wrap (((64 * k : Nat) : Int) + m)) (0 : Int) w) := by
          intro hb h0 h64
          rw [wI64 (by omega) (by omega)]
          refine cond_d (fun hf => full_end k0 ht0 h (by omega) hv (.inr (.inl ⟨hb, by omega, rfl, rfl⟩)) hK) (fun hf => ?_)
          rw [show ((64 * k : Nat) : Int) + m = ((64 * k + m.toNat : Nat) : Int) by omega]
          exact full_end k0 ht0 h (by omega) hv (.inr (.inr ⟨hb, by omega, rfl, rfl⟩)) hK
        refine cond_d (fun b1 => bad (.inl b1)) (fun b1 => cond_d (fun b2 => bad (.inr (.inl b2))) (fun b2 => ?_))
        refine cond_d (fun b3 => ⟨by rw [wU64_id (by omega) (by omega)]; omega, ?_⟩) (fun b3 => good (fun hb => by rcases hb with e | e | e <;> omega) (by omega) (by omega))
        rw [shrZ (by omega) b3]
        refine cond_ne (fun e => bad (.inr (.inr ⟨b3, fun x => e (by rw [x]; rfl)⟩))) (fun e => good (fun hb => ?_) (by omega) (by omega))
        rcases hb with x | x | x
        · omega
        · omega
        · exact x.2 (by exact_mod_cast e)
      | succ d ih =>
        intro k s l w hk k0 h
        refine hX _ _ _ _ _ _ _ ?_
        unfold C.tocsinlaw02_BitsFull.S8
        refine cond_d (fun _ => ?_) (fun h => by omega)
        have hg : ¬ badB v 64 := by
          rintro (e | e | e) <;> omega
        refine bits_ok (m := 64) h k0.size (by omega) hv (fun hb => absurd hb hg) (fun _ hF => by omega) fun _ _ s2 w2 c2 h2 f2 => ?_
        refine cond_f rfl ?_
        rw [wI64 (by omega) (by omega)]
        refine ih (k + 1) s2 (putBs l (64 * k) (low v (Int.toNat 64))) w2 (by omega) (Chg.below k0 c2 k0.size fun j hj => (h.lt hj).1) ?_
        rw [show 64 * (k + 1) = 64 * k + Int.toNat 64 by simp; omega]
        exact h2
    exact key t 0 nilS [] w1 (by omega) k1 h1
  refine cond_d (fun h => cond_f rfl (go 0 (by omega))) (fun h => cond_d (fun h2 => go 131072 (by omega)) (fun h2 => ?_))
  have := go times.toNat (by omega)
  rwa [show ((times.toNat : Nat) : Int) = times by omega] at this
end Go.Proofs.YtnilefminhchfaaDoor.Bits
