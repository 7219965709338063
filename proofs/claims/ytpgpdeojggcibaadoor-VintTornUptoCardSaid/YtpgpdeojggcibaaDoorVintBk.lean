/- Layer 1: what is put can be read back. Own work. -/
import Derived.Test.YtpgpdeojggcibaaDoorVintTx
namespace Go.Proofs.YtpgpdeojggcibaaDoor.Vint
open Go Vm Go.RowKit Num Mem Crc Utf
open Go.Lib (validD size_eq)

/-! ## Plain -/
theorem putU_pos (n : Nat) : 0 < (putU n).length := by rw [putU]; split <;> simp
theorem p128_10 : (18446744073709551616 : Nat) ≤ 128 ^ 10 := by decide +kernel
theorem pow_big {n i : Nat} (h : n * 128 ^ i < 18446744073709551616) (hn : 2 ≤ n) : i < 9 := by
  rcases Nat.lt_or_ge i 9 with h' | h'
  · exact h'
  · have h1 : (128 : Nat) ^ 9 ≤ 128 ^ i := Nat.pow_le_pow_right (by decide) h'
    have h2 : 2 * 128 ^ 9 ≤ n * 128 ^ i := Nat.mul_le_mul hn h1
    have h3 : (18446744073709551616 : Nat) = 2 * 128 ^ 9 := by decide +kernel
    omega
theorem uvGo_put (p : Nat) (rest : List UInt8) : ∀ (n i acc : Nat), n * 128 ^ i < 18446744073709551616 → i ≤ 9 → (n = 0 → i = 0) → uvGo p (putU n ++ rest) i acc = (acc + n * 128 ^ i, p + i + (putU n).length, 0) := by
  intro n
  induction n using Nat.strongRecOn with
  | _ n ih =>
    intro i acc hn hi hz
    by_cases h : n < 128
    · rw [putU_lt h, List.singleton_append, uvGo]
      have e : (UInt8.ofNat n).toNat = n := by rw [UInt8.toNat_ofNat', Nat.mod_eq_of_lt (by omega)]
      rw [e, if_neg (fun x => by have := pow_big hn (by omega); omega), if_neg (fun x => by have := hz x.1; omega), if_pos h, Nat.mod_eq_of_lt h]
      simp
    · rw [putU_ge h, List.cons_append, uvGo]
      have e : (UInt8.ofNat (n % 128 + 128)).toNat = n % 128 + 128 := by rw [UInt8.toNat_ofNat', Nat.mod_eq_of_lt (by omega)]
      have hi9 := pow_big hn (by omega)
      rw [e, if_neg (by omega), if_neg (by omega), if_neg (by omega), show (n % 128 + 128) % 128 = n % 128 by omega]
      have hp : n / 128 * 128 ^ (i + 1) ≤ n * 128 ^ i := by
        rw [Nat.pow_succ, Nat.mul_comm (128 ^ i), ← Nat.mul_assoc]
        exact Nat.mul_le_mul_right _ (by omega)
      rw [ih (n / 128) (by omega) (i + 1) _ (by omega) (by omega) (fun x => by omega)]
      have ev : n % 128 * 128 ^ i + n / 128 * 128 ^ (i + 1) = n * 128 ^ i := by
        rw [Nat.pow_succ, Nat.mul_comm (128 ^ i), ← Nat.mul_assoc, ← Nat.add_mul]
        congr 1
        omega
      refine Prod.ext ?_ (Prod.ext ?_ rfl)
      · simp only; omega
      · simp only [List.length_cons]; omega
theorem uv_put (l rest : List UInt8) {n : Nat} (hn : n < 18446744073709551616) : uv (l ++ (putU n ++ rest)) (l.length : Int) = (n, l.length + (putU n).length, 0) := by
  unfold uv
  rw [if_neg (by simp; omega), Int.toNat_natCast, List.drop_left, uvGo_put _ _ _ _ _ (by omega) (by omega) (fun _ => rfl)]
  simp
theorem uvGo_back (p : Nat) : ∀ (t : List UInt8) (i acc : Nat), (uvGo p t i acc).2.2 = 0 → ∃ n, (uvGo p t i acc).1 = acc + n * 128 ^ i ∧ putU n = t.take ((uvGo p t i acc).2.1 - p - i) ∧ (n = 0 → i = 0)
  | [], i, acc, h => by simp [uvGo] at h
  | c :: t, i, acc, h => by
    rw [uvGo] at h ⊢
    split
    · rw [if_pos ‹_›] at h; simp at h
    rw [if_neg ‹_›] at h
    split
    · rw [if_pos ‹_›] at h; simp at h
    rename_i hf
    rw [if_neg hf] at h
    split
    · rename_i hc
      refine ⟨c.toNat, ?_, ?_, fun e => by omega⟩
      · simp only; rw [Nat.mod_eq_of_lt hc]
      · rw [putU_lt hc]
        simp only
        rw [show p + i + 1 - p - i = 1 by omega]
        simp
    · rename_i hc
      rw [if_neg hc] at h
      obtain ⟨n, h1, h2, h3⟩ := uvGo_back p t _ _ h
      have hn : n ≠ 0 := fun e => by have := h3 e; omega
      have hlt := c.toNat_lt
      have he := uvGo_end p t _ _ h
      refine ⟨c.toNat % 128 + 128 * n, ?_, ?_, fun e => by omega⟩
      · rw [h1, Nat.pow_succ, Nat.add_mul, Nat.mul_comm (128 ^ i) 128, ← Nat.mul_assoc, Nat.mul_comm n 128]; omega
      · rw [putU_ge (by omega), show (c.toNat % 128 + 128 * n) % 128 + 128 = c.toNat by omega, show (c.toNat % 128 + 128 * n) / 128 = n by omega, h2]
        rw [show (uvGo p t (i + 1) (acc + c.toNat % 128 * 128 ^ i)).2.1 - p - i = ((uvGo p t (i + 1) (acc + c.toNat % 128 * 128 ^ i)).2.1 - p - (i + 1)) + 1 by omega, List.take_succ_cons]
        simp
theorem uv_back {l : List UInt8} {p : Int} (h : (uv l p).2.2 = 0) : putU (uv l p).1 = (l.drop p.toNat).take ((uv l p).2.1 - p.toNat) := by
  unfold uv at h ⊢; split
  · rw [if_pos ‹_›] at h; simp at h
  · rw [if_neg ‹_›] at h
    obtain ⟨n, h1, h2, _⟩ := uvGo_back _ _ _ _ h
    rw [h1]
    simpa using h2

theorem n4_le4 (s : B32) : n4 (u8 (s.toNat : Int)) (u8 (shr .u32 (s.toNat : Int) (8 : Int))) (u8 (shr .u32 (s.toNat : Int) (16 : Int))) (u8 (shr .u32 (s.toNat : Int) (24 : Int))) = s.toNat := by
  have hs := s.isLt
  have e1 := shr_nat .u32 (s.toNat : Int) 8 (by decide)
  have e2 := shr_nat .u32 (s.toNat : Int) 16 (by decide)
  have e3 := shr_nat .u32 (s.toNat : Int) 24 (by decide)
  rw [show ((8 : Nat) : Int) = (8 : Int) from rfl] at e1
  rw [show ((16 : Nat) : Int) = (16 : Int) from rfl] at e2
  rw [show ((24 : Nat) : Int) = (24 : Int) from rfl] at e3
  have h0 := u8_toNat (s.toNat : Int)
  have h1 := u8_toNat (shr .u32 (s.toNat : Int) (8 : Int))
  have h2 := u8_toNat (shr .u32 (s.toNat : Int) (16 : Int))
  have h3 := u8_toNat (shr .u32 (s.toNat : Int) (24 : Int))
  rw [e1] at h1
  rw [e2] at h2
  rw [e3] at h3
  unfold n4
  rw [e1, e2, e3]
  generalize (u8 (s.toNat : Int)).toNat = b0 at *
  generalize (u8 ((s.toNat : Int) / 2 ^ 8)).toNat = b1 at *
  generalize (u8 ((s.toNat : Int) / 2 ^ 16)).toNat = b2 at *
  generalize (u8 ((s.toNat : Int) / 2 ^ 24)).toNat = b3 at *
  omega
/-- A frame's read: at the place where it lies. -/
theorem fr_at (l m rest : List UInt8) (s : B32) (hm : m.length ≤ 65536) : fr (l ++ (putU m.length ++ (le4 s ++ (m ++ rest)))) (l.length : Int) = if crcOn 0#32 m = s then (m, l.length + (putU m.length).length + 4 + m.length, 0) else ([], 0, 11) := by
  unfold fr
  rw [uv_put l _ (by omega)]
  have h4 : (le4 s).length = 4 := rfl
  simp only [ne_eq, not_true_eq_false, if_false]
  rw [if_neg (by omega), if_neg (by simp only [List.length_append]; omega)]
  have e : l ++ (putU m.length ++ (le4 s ++ (m ++ rest))) = (l ++ putU m.length ++ le4 s) ++ (m ++ rest) := by simp
  have e' : l ++ (putU m.length ++ (le4 s ++ (m ++ rest))) = (l ++ putU m.length) ++ (le4 s ++ (m ++ rest)) := by simp
  have d : ((l ++ (putU m.length ++ (le4 s ++ (m ++ rest)))).drop (l.length + (putU m.length).length + 4)).take m.length = m := by
    rw [e, List.drop_append_of_le_length (by simp only [List.length_append]; omega), List.drop_of_length_le (by simp only [List.length_append]; omega), List.nil_append, List.take_left]
  have g : ∀ k, k < 4 → (l ++ (putU m.length ++ (le4 s ++ (m ++ rest)))).getD (l.length + (putU m.length).length + k) 0 = (le4 s).getD k 0 := fun k hk => by
    rw [e', List.getD_eq_getElem?_getD, List.getD_eq_getElem?_getD, List.getElem?_append_right (by simp only [List.length_append]; omega), List.length_append, show l.length + (putU m.length).length + k - (l.length + (putU m.length).length) = k by omega, List.getElem?_append_left (by omega)]
  have g0 := g 0 (by omega)
  rw [Nat.add_zero] at g0
  rw [d, g0, g 1 (by omega), g 2 (by omega), g 3 (by omega)]
  have := n4_le4 s
  rw [show n4 ((le4 s).getD 0 0) ((le4 s).getD 1 0) ((le4 s).getD 2 0) ((le4 s).getD 3 0) = s.toNat from this]
  by_cases h : crcOn 0#32 m = s
  · rw [if_pos h, if_neg (fun x => x (by rw [h]))]
  · rw [if_neg h, if_pos (fun x => h (BitVec.eq_of_toNat_eq x))]
theorem fr_put (l m : List UInt8) (hm : m.length ≤ 65536) : fr (l ++ frameOf m) (l.length : Int) = (m, (l ++ frameOf m).length, 0) := by
  have := fr_at l m [] (crcOn 0#32 m) hm
  rw [if_pos rfl, List.append_nil] at this
  unfold frameOf
  rw [this]
  have h4 : (le4 (crcOn 0#32 m)).length = 4 := rfl
  simp only [List.length_append, h4]
  refine Prod.ext rfl (Prod.ext ?_ rfl)
  simp only; omega
theorem tx_put (l s : List UInt8) (hs : s.length < 18446744073709551616) : tx (l ++ (putU s.length ++ s)) (l.length : Int) (s.length : Int) = if validD s then (s, l.length + (putU s.length).length + s.length, 0) else ([], 0, 12) := by
  unfold tx
  rw [if_neg (by simp only [List.length_append]; omega), uv_put l s hs]
  simp only [ne_eq, not_true_eq_false, if_false]
  rw [if_neg (by omega), if_neg (by simp only [List.length_append]; omega)]
  have e : l ++ (putU s.length ++ s) = (l ++ putU s.length) ++ s := by simp
  rw [e, List.drop_append_of_le_length (by simp), List.drop_of_length_le (by simp), List.nil_append, List.take_length]

/-! ## The law -/
theorem back_tail {w : World} (ht : Tab w) {b : Sl} {l : List UInt8} {p : Int} (hb : RdB w b l) (hl : l.length ≤ 140737487000000) {K : Bool → World → Prop} (hK : ∀ w', Keep w w' → K true w') :
    C.vint_U b p w fun n37 n38 n39 w40 => G.cond (n39 == (0 : Int)) (G.cond (decide (n38 ≤ p)) (K false w40.drew) (G.cond (decide (n38 > ((b.n : Nat) : Int))) (K false w40.drew) (G.slc b p n38 1 fun l41 => C.vint_PutU nilS n37 w40.drew fun l42 w43 => C.tocsinref01_Same l42 l41 w43 fun b44 w45 => G.cond (!b44) (K false w45) (C.tocsinlaw01_known w45 fun b46 w47 => K b46 w47)))) (C.tocsinlaw01_known w40 fun b48 w49 => K b48 w49) := by
  have hn := hb.len
  refine u_ok hb (by omega) p ?_
  refine cond_eq (fun h => ?_) (fun h => known_ok ht hK)
  have hu : (uv l p).2.2 = 0 := by exact_mod_cast h
  have he := uv_end hu
  have hlt := uv_lt l p
  have hbk := uv_back hu
  refine cond_d (fun h => by omega) (fun _ => cond_d (fun h => by omega) (fun _ => ?_))
  refine RdB.slc hb (lo := p.toNat) (hi := (uv l p).2.1) (by omega) he.2.2 (by omega) rfl fun s hs => ?_
  refine putU_ok hlt (RdB.nil _) (by simp) fun r w1 k1 o1 => ?_
  rw [List.nil_append, hbk] at o1
  have k := Keep.trans (Keep.drew w) k1
  refine same_yes o1.rd (Rd.keep hs k) (by simp only [List.length_take, List.length_drop]; omega) fun d => ?_
  refine cond_f rfl ?_
  have k' := Keep.trans k (Keep.drewN w1 d)
  exact known_ok (ht.keep k') fun w' k'' => hK w' (Keep.trans k' k'')
theorem back_mid {w : World} (hu : UTab w) {b q : Sl} {l m : List UInt8} (hb : RdB w b l) (hq : RdB w q m) (hl : l.length + m.length ≤ 140737487000000) {T F : World → Prop} (hT : ∀ w', Keep w w' → T w') :
    G.rdS Tryd.prog (Conv.bytesToString q.v) w fun s28 => C.vint_PutText b s28 w fun l29 w30 => C.vint_Text l29 ((b.n : Nat) : Int) ((s28.size : Nat) : Int) w30 fun s31 n32 n33 w34 => C.tocsinref01_Utf8 s28 w34 fun b35 w36 => G.cond (!(b35 == (n33 == (0 : Int)))) (F w36) (G.cond (n33 == (0 : Int)) (G.cond (!(s31.toList == s28.toList)) (F w36) (G.cond (decide (n32 ≤ ((b.n : Nat) : Int))) (F w36) (T w36))) (T w36)) := by
  have hn := hb.len
  refine convBS hq ?_
  have hz := str_size m
  refine putText_ok hb (by omega) fun r w1 k1 o1 => ?_
  rw [bytes_str] at o1
  have hp := putU_len64 (n := m.length) (by omega)
  rw [hz] at o1
  rw [hn, hz]
  refine text_ok (hu.keep k1) o1.rd (by simp only [List.length_append]; omega) (by omega) fun w2 k2 => ?_
  refine rutf_ok (by rw [hz]; omega) ?_
  rw [bytes_str, tx_put l m (by omega)]
  have hT := hT w2 (Keep.trans k1 k2)
  have hpos := putU_pos m.length
  by_cases hv : validD m = true
  · rw [if_pos hv, hv]
    refine cond_f rfl <| cond_t rfl ?_
    refine cond_f (by simp) ?_
    exact cond_d (fun h => by simp only at h; omega) (fun _ => hT)
  · have hv' : validD m = false := by simpa using hv
    rw [if_neg hv, hv']
    exact cond_f rfl <| cond_f rfl hT

theorem back_law {w : World} (ht : Tab w) (hu : UTab w) {b q : Sl} {l m : List UInt8} {n : Nat} {z p : Int} (hb : RdB w b l) (hq : RdB w q m) (hl : l.length + m.length ≤ 140737486000000) (hn : n < 18446744073709551616)
    (h1 : -9223372036854775808 ≤ z) (h2 : z < 9223372036854775808) {K : Bool → World → Prop} (hK : ∀ w', Keep w w' → K true w') : C.tocsinlaw01_VintBack b (n : Int) z q p w K := by
  have hbn := hb.len
  unfold C.tocsinlaw01_VintBack
  refine putU_ok hn hb (by omega) fun x w1 k1 o1 => ?_
  have p1 := putU_len64 hn
  have p2 := putU_len64 (zz_lt h1 h2)
  have l1 := o1.len
  have u1 := uv_put l [] hn
  rw [List.append_nil] at u1
  refine u_ok o1.rd (by simp only [List.length_append]; omega) _ ?_
  rw [hbn, u1]
  refine putI_ok h1 h2 (hb.keep k1) (by omega) fun y w2 k2 o2 => ?_
  have l2 := o2.len
  have u2 := uv_put l [] (zz_lt h1 h2)
  rw [List.append_nil] at u2
  refine i_ok o2.rd (by simp only [List.length_append]; omega) _ ?_
  rw [u2, bk_zz]
  refine cond_f (by simp) <| cond_f (by rw [l1, List.length_append]; simp) <| cond_f (by simp) <| cond_f (by simp) <| cond_f (by rw [l2, List.length_append]; simp) <| cond_f (by simp) ?_
  have k12 := Keep.trans k1 k2
  refine pf_ok (ht.keep k12) (hb.keep k12) (hq.keep k12) (by omega) fun f w3 k3 o3 => ?_
  have k13 := Keep.trans k12 k3
  rw [← hbn]
  unfold pf at o3 ⊢
  by_cases hm : m.length > 65536
  · rw [if_pos hm]
    refine cond_f rfl ?_
    exact back_mid (F := fun w => K false w) (hu.keep k13) (hb.keep k13) (hq.keep k13) (by omega) fun w4 k4 => back_tail (ht.keep (Keep.trans k13 k4)) (hb.keep (Keep.trans k13 k4)) (by omega) fun w' k => hK w' (Keep.trans (Keep.trans k13 k4) k)
  · rw [if_neg hm] at o3 ⊢
    have l3 := o3.len
    have hfl := frameOf_len (m := m) (by omega)
    refine cond_t rfl ?_
    refine frame_ok (ht.keep k13) o3.rd (by simp only [List.length_append]; omega) _ fun r w4 k4 o4 => ?_
    rw [hbn, fr_put l m (by omega)] at o4 ⊢
    refine cond_f rfl <| cond_f (by rw [l3]; simp) ?_
    have k14 := Keep.trans k13 k4
    refine same_yes o4.rd (hq.keep k14) (by simp only; omega) fun d => ?_
    refine cond_f rfl ?_
    have k15 := Keep.trans k14 (Keep.drewN w4 d)
    rw [← hbn]
    exact back_mid (F := fun w => K false w) (hu.keep k15) (hb.keep k15) (hq.keep k15) (by omega) fun w4 k4 => back_tail (ht.keep (Keep.trans k15 k4)) (hb.keep (Keep.trans k15 k4)) (by omega) fun w' k => hK w' (Keep.trans (Keep.trans k15 k4) k)
end Go.Proofs.YtpgpdeojggcibaaDoor.Vint
