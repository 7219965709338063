/- Layer 2: the contract of BitsPieces. Own work. -/
import Derived.Test.YtelijolncmeipaaBitsV
namespace Go.Proofs.Ytelijolncmeipaa.Bits
open Go Vm Go.RowKit Num Mem

theorem pieces_law {w : World} {v : Nat} {m : Int} (hv : v < 18446744073709551616) {K : Bool → World → Prop} (hK : ∀ w', Keep w w' → K true w') : C.tocsinlaw02_BitsPieces (v : Int) m w K := by
  unfold C.tocsinlaw02_BitsPieces
  refine new_ok fun w1 k1 h1 z1 => new_ok fun w2 k2 h2 z2 => ?_
  refine cond_f rfl <| cond_f rfl ?_
  have k02 := Keep.trans k1 k2
  have h1 := h1.keep k2
  have hge : ∀ k, foot w.heap.size nilS k → w.heap.size ≤ k := fun k hk => by
    rcases hk with hk | hk
    · omega
    · simp [nilS, Value.ownBlock] at hk
  refine bits_ok h1 k02.size (by decide) hv (fun hb => ?_) (fun hb h => ?_) fun hb hm s3 w3 c3 h3 f3 => ?_
  · refine cond_t rfl (len_ok h1 ?_)
    refine cond_t rfl ?_
    have aw : ∀ K : Bool → World → Prop, (∀ w', Keep w w' → K true w') → C.tocsinlaw02_awake w2 K := fun K hK => awake_ok fun w' k => hK w' (Keep.trans k02 k)
    refine cond_d (fun _ => aw _ hK) (fun b1 => cond_d (fun _ => aw _ hK) (fun b2 => ?_))
    have hb' : m < 64 ∧ v / 2 ^ m.toNat ≠ 0 := by
      rcases hb with h | h | h
      · omega
      · omega
      · exact h
    refine cond_d (fun b3 => ⟨by rw [wU64_id (by omega) (by omega)]; omega, ?_⟩) (fun b3 => absurd hb'.1 b3)
    rw [shrZ (by omega) b3]
    exact cond_ne (fun _ => aw _ hK) (fun e => absurd (by exact_mod_cast e) hb'.2)
  · exfalso
    unfold badB at hb
    omega
  · have hb1 : 0 ≤ m ∧ m ≤ 64 := by unfold badB at hb; omega
    refine cond_f rfl ?_
    have k03 : Keep w w3 := Chg.below k02 c3 k02.size hge
    have hgb : w1.heap.size = w.heap.size + 1 := z1
    have h2 : Wr w3 w1.heap.size w1.heap.size nilS [] 0 := Wr.chg h2 c3 fun k hk e => by
      rcases hk with hk | hk
      · rcases e with e | e
        · omega
        · simp [nilS, Value.ownBlock] at e
      · simp [nilS, Value.ownBlock] at hk
    have hk1 : m.toNat ≤ 64 := by omega
    rw [Nat.zero_add] at h3
    have hsep : ¬ foot w.heap.size s3 w1.heap.size := fun hk => by
      rcases f3 _ hk with e | e
      · rcases e with e | e
        · omega
        · simp [nilS, Value.ownBlock] at e
      · omega
    unfold C.tocsinlaw02_BitsPieces.S9
    refine C.tocsinlaw02_BitsPieces.L5_ind fun X hX => ?_
    rw [wI64 (by omega) (by omega)]
    have key : ∀ (k : Nat) (l : List UInt8) (n : Nat) (s : Sl) (w' : World), n + k = m.toNat → Keep w w' → Wr w' w.heap.size w.heap.size s3 (putBs [] 0 (low v m.toNat)) m.toNat → Wr w' w1.heap.size w1.heap.size s l n →
        w3.heap.size ≤ w'.heap.size → (∀ j, foot w1.heap.size s j → j = w1.heap.size ∨ w3.heap.size ≤ j) → putBs l n (low v k) = putBs [] 0 (low v m.toNat) → X (v : Int) (wp w.heap.size) (wp w1.heap.size) ((k : Int) - 1) w' := by
      intro k
      induction k with
      | zero =>
        intro l n s w' hn kk ha hb' hs hf he
        refine hX _ _ _ _ _ ?_
        unfold C.tocsinlaw02_BitsPieces.S7 C.tocsinlaw02_BitsPieces.S2
        refine cond_d (fun h => by omega) (fun _ => ?_)
        have he' : l = putBs [] 0 (low v m.toNat) := he
        subst he'
        have hn' : n = m.toNat := by omega
        subst hn'
        refine len_ok ha (len_ok hb' ?_)
        refine cond_t (by simp) ?_
        refine bytes_ok ha (by omega) fun r1 w4 k4 o4 => ?_
        refine bytes_ok (hb'.keep k4) (by omega) fun r2 w5 k5 o5 => ?_
        refine same_yes (o4.rd.keep k5) o5.rd ?_
        refine cond_t rfl ?_
        have k45 := Keep.trans k4 k5
        exact awake_ok fun w'' k'' => hK w'' (Keep.trans kk (Keep.trans k45 k''))
      | succ k ih =>
        intro l n s w' hn kk ha hb' hs hf he
        refine hX _ _ _ _ _ ?_
        unfold C.tocsinlaw02_BitsPieces.S7
        rw [show ((k + 1 : Nat) : Int) - 1 = (k : Int) by omega, wU64_id (by omega) (by omega), bit_eq hv (by omega), wI64 (by omega) (by omega)]
        refine cond_d (fun _ => ⟨by omega, ?_⟩) (fun h => by omega)
        refine bit_ok hb' (Nat.le_of_lt hb'.blk.lt) (by omega) (fun h => by omega) fun _ s' w'' c1 h1' f1 => ?_
        refine cond_f rfl ?_
        have hfoot : ∀ j, foot w1.heap.size s j → w.heap.size ≤ j := fun j hj => by have := (hb'.lt hj).1; omega
        have hs3 : ∀ j, foot w.heap.size s3 j → j < w3.heap.size := fun j hj => (h3.lt hj).2
        refine ih _ (n + 1) s' w'' (by omega) (Chg.below kk c1 kk.size hfoot) (Wr.chg ha c1 fun j hj e => ?_) h1' (Nat.le_trans hs c1.size) (fun j hj => ?_) he
        · rcases hf j e with e' | e'
          · exact hsep (e' ▸ hj)
          · have := hs3 j hj; omega
        · rcases f1 j hj with e | e
          · exact hf j e
          · exact .inr (Nat.le_trans hs e)
    have := key m.toNat [] 0 nilS w3 (by omega) k03 h3 h2 (Nat.le_refl _) (fun j hj => by
      rcases hj with hj | hj
      · exact .inl hj
      · simp [nilS, Value.ownBlock] at hj) rfl
    rwa [show ((m.toNat : Nat) : Int) = m by omega] at this
end Go.Proofs.Ytelijolncmeipaa.Bits
