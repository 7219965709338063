/- The reference's own test of UTF-8. Own work. -/
import Derived.Test.YtfkpehcbijgmnaaGreatDoorUtfB
namespace Go.Proofs.YtfkpehcbijgmnaaGreatDoor.Utf
open Go Vm Go.RowKit Num Mem Lib
set_option maxRecDepth 10000

theorem andc {p q : Prop} [Decidable p] [Decidable q] {T E : Prop} (hT : p → q → T) (hE : ¬ (p ∧ q) → E) : G.cond (decide p) (G.cond (decide q) T E) E :=
  cond_d (fun h => cond_d (hT h) (fun h' => hE fun x => h' x.2)) (fun h => hE fun x => h x.1)
theorem and_i64 {x y : Nat} (hx : x < 9223372036854775808) (hy : y < 9223372036854775808) : Go.bits .and .i64 (x : Int) (y : Int) = ((x &&& y : Nat) : Int) := by
  have e : (BitVec.ofNat 64 x &&& BitVec.ofNat 64 y).toNat = x &&& y := by
    rw [BitVec.toNat_and, BitVec.toNat_ofNat, BitVec.toNat_ofNat, Nat.mod_eq_of_lt (by omega), Nat.mod_eq_of_lt (by omega)]
  have hlt : x &&& y < 9223372036854775808 := Nat.and_lt_two_pow (n := 63) x hy
  unfold Go.bits
  simp only [ofInt_nat]
  refine Eq.trans (congrArg (fun t : Nat => IntKind.i64.wrap (t : Int)) e) ?_
  rw [wI64 (by omega) (by omega)]
theorem and63 {b : Nat} (h : b < 256) : IntKind.i64.wrap (Go.bits .and .u8 (b : Int) (63 : Int)) = ((b % 64 : Nat) : Int) := by
  rw [show (63 : Int) = ((63 : Nat) : Int) from rfl, bits_and rfl (by simp only [IntKind.bits]; omega) (by decide), show b &&& 63 = b % 64 from Nat.and_two_pow_sub_one_eq_mod b 6, wI64 (by omega) (by omega)]
theorem top2 : ∀ b : Fin 256, (b.val &&& 192 = 128) = (128 ≤ b.val ∧ b.val ≤ 191) := by decide +kernel
theorem and192 {b : Nat} (h : b < 256) : Go.bits .and .u8 (b : Int) (192 : Int) = ((b &&& 192 : Nat) : Int) :=
  bits_and rfl (by simp only [IntKind.bits]; omega) (by decide)

theorem cls1 : ∀ c : Fin 256, 194 ≤ c.val → c.val < 224 → firstT c.val % 8 = 2 ∧ accLo (firstT c.val / 16) = 128 ∧ accHi (firstT c.val / 16) = 191 := by decide +kernel
theorem cls2 : ∀ c : Fin 256, 224 ≤ c.val → c.val < 240 → firstT c.val % 8 = 3 ∧ (c.val = 224 ∧ accLo (firstT c.val / 16) = 160 ∨ c.val ≠ 224 ∧ accLo (firstT c.val / 16) = 128) ∧ (c.val = 237 ∧ accHi (firstT c.val / 16) = 159 ∨ c.val ≠ 237 ∧ accHi (firstT c.val / 16) = 191) := by decide +kernel
theorem cls3 : ∀ c : Fin 256, 240 ≤ c.val → c.val < 245 → firstT c.val % 8 = 4 ∧ (c.val = 240 ∧ accLo (firstT c.val / 16) = 144 ∨ c.val ≠ 240 ∧ accLo (firstT c.val / 16) = 128) ∧ (c.val = 244 ∧ accHi (firstT c.val / 16) = 143 ∨ c.val ≠ 244 ∧ accHi (firstT c.val / 16) = 191) := by decide +kernel
theorem cls0 : ∀ c : Fin 256, 128 ≤ c.val → (c.val < 194 ∨ 245 ≤ c.val) → firstT c.val % 8 = 1 := by decide +kernel
theorem ck2 (d b1 b2 b3 lo hi : Nat) : checkN d b1 b2 b3 2 lo hi = if d < 2 ∨ b1 < lo ∨ hi < b1 then none else some 2 := rfl
theorem ck3 (d b1 b2 b3 lo hi : Nat) : checkN d b1 b2 b3 3 lo hi = if d < 3 ∨ b1 < lo ∨ hi < b1 ∨ b2 < 128 ∨ 191 < b2 then none else some 3 := rfl
theorem ck4 (d b1 b2 b3 lo hi : Nat) : checkN d b1 b2 b3 4 lo hi = if d < 4 ∨ b1 < lo ∨ hi < b1 ∨ b2 < 128 ∨ 191 < b2 ∨ b3 < 128 ∨ 191 < b3 then none else some 4 := rfl

theorem rutf_ok {s : ByteArray} {w : World} (hs : s.size ≤ 140737488355300) {K : Bool → World → Prop} (hK : K (validD (bytes s)) w) : C.tocsinref01_Utf8 s w K := by
  have hlen : (bytes s).length = s.size := (size_eq s).symm
  unfold C.tocsinref01_Utf8 C.tocsinref01_Utf8.S21
  refine C.tocsinref01_Utf8.L5_ind fun X hX => ?_
  have key : ∀ (d i : Nat), s.size = i + d → K (validD ((bytes s).drop i)) w → X s (i : Int) w := by
    intro d
    induction d using Nat.strongRecOn with
    | _ d ih =>
      intro i hi hK
      refine hX _ _ _ ?_
      unfold C.tocsinref01_Utf8.S19 C.tocsinref01_Utf8.S2
      refine cond_d (fun h0 => ?_) (fun h0 => ?_)
      · have hpos : i < s.size := by omega
        have hg : ∀ j, ((bytes s).drop i).getD j 0 = (bytes s).getD (i + j) 0 := fun j => by simp [List.getD_eq_getElem?_getD, List.getElem?_drop]
        have hdl : ((bytes s).drop i).length = d := by rw [List.length_drop, hlen]; omega
        have hne : (bytes s).drop i ≠ [] := fun e => by rw [e] at hdl; simp at hdl; omega
        unfold C.tocsinref01_Utf8.S17
        refine ixS_at (k := i) rfl hpos ?_
        have hc := ((bytes s).getD i 0).toNat_lt
        have v1 : ((bytes s).getD i 0).toNat < 128 → validD ((bytes s).drop i) = validD ((bytes s).drop (i + 1)) := fun h => by
          rw [List.drop_eq_getElem_cons (by omega), validD_cons _ _ (by
            have : (bytes s).getD i 0 = (bytes s)[i]'(by omega) := by rw [List.getD_eq_getElem?_getD, List.getElem?_eq_getElem (by omega), Option.getD_some]
            rw [← this]; exact h)]
        have v2 := fun h : 128 ≤ ((bytes s).getD i 0).toNat => validD_lead _ hne (by rw [hg, Nat.add_zero]; exact h)
        simp only [hg, hdl, Nat.add_zero] at v2
        have h1 := ((bytes s).getD (i + 1) 0).toNat_lt
        have h2 := ((bytes s).getD (i + 2) 0).toNat_lt
        have h3 := ((bytes s).getD (i + 3) 0).toNat_lt
        rw [wI64 (x := (((bytes s).getD i 0).toNat : Int)) (by omega) (by omega)]
        -- one round of the inner loop
        have round : ∀ (Y : Cur C.tocsinref01_Utf8.g11), (∀ s_10 i_11 n_12 least_13 r_14 k_15 w, C.tocsinref01_Utf8.S13 K X Y s_10 i_11 n_12 least_13 r_14 k_15 w → Y s_10 i_11 n_12 least_13 r_14 k_15 w) →
            ∀ (n k r : Nat) (least : Int), k ≤ n → k ≤ 3 → r < 1000000 → (s.size ≤ i + k ∨ (((bytes s).getD (i + k) 0).toNat < 128 ∨ 191 < ((bytes s).getD (i + k) 0).toNat) → K false w) →
            (¬ (s.size ≤ i + k) → 128 ≤ ((bytes s).getD (i + k) 0).toNat → ((bytes s).getD (i + k) 0).toNat ≤ 191 → Y s (i : Int) (n : Int) least ((r * 64 + ((bytes s).getD (i + k) 0).toNat % 64 : Nat) : Int) ((k + 1 : Nat) : Int) w) →
            Y s (i : Int) (n : Int) least (r : Int) (k : Int) w := by
          intro Y hY n k r least hk hk3 hr hF hN
          refine hY _ _ _ _ _ _ _ ?_
          unfold C.tocsinref01_Utf8.S13
          refine cond_d (fun _ => ?_) (fun h => by omega)
          rw [wI64 (x := (i : Int) + (k : Int)) (by omega) (by omega)]
          refine cond_d (fun h => hF (.inl (by omega))) (fun h => ?_)
          have hb := ((bytes s).getD (i + k) 0).toNat_lt
          refine ixS_at (k := i + k) (by omega) (by omega) ?_
          rw [and192 hb]
          have ht2 := top2 ⟨_, hb⟩
          simp only at ht2
          refine cond_ne (fun h' => ?_) (fun h' => ?_)
          · refine hF (.inr ?_)
            have : ¬ (((bytes s).getD (i + k) 0).toNat &&& 192 = 128) := fun e => h' (by rw [e]; rfl)
            rw [ht2] at this; omega
          · have h'' : ((bytes s).getD (i + k) 0).toNat &&& 192 = 128 := by exact_mod_cast h'
            rw [ht2] at h''
            refine ixS_at (k := i + k) (by omega) (by omega) ?_
            rw [and63 hb, wI64 (x := (r : Int) * 64) (by omega) (by omega), wI64 (by omega) (by omega), wI64 (by omega) (by omega),
              show (r : Int) * 64 + ((((bytes s).getD (i + k) 0).toNat % 64 : Nat) : Int) = ((r * 64 + ((bytes s).getD (i + k) 0).toNat % 64 : Nat) : Int) by omega, show (k : Int) + 1 = ((k + 1 : Nat) : Int) by omega]
            exact hN (by omega) h''.1 h''.2
        have done : ∀ (Y : Cur C.tocsinref01_Utf8.g11), (∀ s_10 i_11 n_12 least_13 r_14 k_15 w, C.tocsinref01_Utf8.S13 K X Y s_10 i_11 n_12 least_13 r_14 k_15 w → Y s_10 i_11 n_12 least_13 r_14 k_15 w) →
            ∀ (n r : Nat) (least : Nat), n ≤ 3 → i + n < s.size → ((r < least ∨ r > 1114111 ∨ (r ≥ 55296 ∧ r < 57344)) → K false w) →
            (¬ (r < least ∨ r > 1114111 ∨ (r ≥ 55296 ∧ r < 57344)) → K (validD ((bytes s).drop (i + (n + 1)))) w) → Y s (i : Int) (n : Int) (least : Int) (r : Int) ((n + 1 : Nat) : Int) w := by
          intro Y hY n r least hn hsz hF hN
          refine hY _ _ _ _ _ _ _ ?_
          unfold C.tocsinref01_Utf8.S13 C.tocsinref01_Utf8.S8
          refine cond_d (fun h => by omega) (fun _ => ?_)
          refine cond_d (fun h => hF (.inl (by omega))) (fun q1 => ?_)
          refine cond_d (fun h => hF (.inr (.inl (by omega)))) (fun q2 => ?_)
          refine andc (fun q3 q4 => hF (.inr (.inr (by omega)))) (fun q3 => ?_)
          rw [wI64 (x := (i : Int) + (n : Int)) (by omega) (by omega), wI64 (by omega) (by omega), show (i : Int) + (n : Int) + 1 = ((i + (n + 1) : Nat) : Int) by omega]
          exact ih (d - (n + 1)) (by omega) (i + (n + 1)) (by omega) (hN (by omega))
        refine cond_d (fun ha => ?_) (fun ha => ?_)
        · rw [wI64 (by omega) (by omega), show (i : Int) + 1 = ((i + 1 : Nat) : Int) by omega]
          refine ih (d - 1) (by omega) (i + 1) (by omega) ?_
          rw [v1 (by omega)] at hK; exact hK
        have hv := v2 (by omega)
        generalize hcc : ((bytes s).getD i 0).toNat = c at *
        clear v1 v2
        refine andc (fun p1 p2 => ?_) (fun p1 => andc (fun p3 p4 => ?_) (fun p3 => andc (fun p5 p6 => ?_) (fun p5 => ?_)))
        · obtain ⟨z1, z2, z3⟩ := cls1 ⟨c, hc⟩ (by simp only; omega) (by simp only; omega)
          simp only at z1 z2 z3
          rw [z1, ck2] at hv
          generalize accLo (firstT c / 16) = lo at *
          generalize accHi (firstT c / 16) = hi' at *
          rw [show Go.bits .and .i64 (c : Int) (31 : Int) = ((c % 32 : Nat) : Int) by rw [show (31 : Int) = ((31 : Nat) : Int) from rfl, and_i64 (by omega) (by omega), show c &&& 31 = c % 32 from Nat.and_two_pow_sub_one_eq_mod c 5]]
          unfold C.tocsinref01_Utf8.S15
          refine C.tocsinref01_Utf8.L11_ind fun Y hY => ?_
          refine round Y hY 1 1 _ _ (by omega) (by omega) (by omega) (fun hF => ?_) (fun q1 q2 q3 => ?_)
          · rw [if_pos (by omega)] at hv
            have hv' : validD ((bytes s).drop i) = false := hv
            rw [hv'] at hK; exact hK
          refine done Y hY 1 _ 128 (by omega) (by omega) (fun hF => ?_) (fun hN => ?_)
          · omega
          rw [if_neg (by omega)] at hv
          have hv' : validD ((bytes s).drop i) = validD (((bytes s).drop i).drop 2) := hv
          rw [hv', List.drop_drop] at hK; exact hK
        · obtain ⟨z1, z2, z3⟩ := cls2 ⟨c, hc⟩ (by simp only; omega) (by simp only; omega)
          simp only at z1 z2 z3
          rw [z1, ck3] at hv
          generalize accLo (firstT c / 16) = lo at *
          generalize accHi (firstT c / 16) = hi' at *
          rw [show Go.bits .and .i64 (c : Int) (15 : Int) = ((c % 16 : Nat) : Int) by rw [show (15 : Int) = ((15 : Nat) : Int) from rfl, and_i64 (by omega) (by omega), show c &&& 15 = c % 16 from Nat.and_two_pow_sub_one_eq_mod c 4]]
          unfold C.tocsinref01_Utf8.S15
          refine C.tocsinref01_Utf8.L11_ind fun Y hY => ?_
          refine round Y hY 2 1 _ _ (by omega) (by omega) (by omega) (fun hF => ?_) (fun q1 q2 q3 => ?_)
          · rw [if_pos (by omega)] at hv
            have hv' : validD ((bytes s).drop i) = false := hv
            rw [hv'] at hK; exact hK
          refine round Y hY 2 2 _ _ (by omega) (by omega) (by omega) (fun hF => ?_) (fun q4 q5 q6 => ?_)
          · rw [if_pos (by omega)] at hv
            have hv' : validD ((bytes s).drop i) = false := hv
            rw [hv'] at hK; exact hK
          refine done Y hY 2 _ 2048 (by omega) (by omega) (fun hF => ?_) (fun hN => ?_)
          · rw [if_pos (by omega)] at hv
            have hv' : validD ((bytes s).drop i) = false := hv
            rw [hv'] at hK; exact hK
          rw [if_neg (by omega)] at hv
          have hv' : validD ((bytes s).drop i) = validD (((bytes s).drop i).drop 3) := hv
          rw [hv', List.drop_drop] at hK; exact hK
        · obtain ⟨z1, z2, z3⟩ := cls3 ⟨c, hc⟩ (by simp only; omega) (by simp only; omega)
          simp only at z1 z2 z3
          rw [z1, ck4] at hv
          generalize accLo (firstT c / 16) = lo at *
          generalize accHi (firstT c / 16) = hi' at *
          rw [show Go.bits .and .i64 (c : Int) (7 : Int) = ((c % 8 : Nat) : Int) by rw [show (7 : Int) = ((7 : Nat) : Int) from rfl, and_i64 (by omega) (by omega), show c &&& 7 = c % 8 from Nat.and_two_pow_sub_one_eq_mod c 3]]
          unfold C.tocsinref01_Utf8.S15
          refine C.tocsinref01_Utf8.L11_ind fun Y hY => ?_
          refine round Y hY 3 1 _ _ (by omega) (by omega) (by omega) (fun hF => ?_) (fun q1 q2 q3 => ?_)
          · rw [if_pos (by omega)] at hv
            have hv' : validD ((bytes s).drop i) = false := hv
            rw [hv'] at hK; exact hK
          refine round Y hY 3 2 _ _ (by omega) (by omega) (by omega) (fun hF => ?_) (fun q4 q5 q6 => ?_)
          · rw [if_pos (by omega)] at hv
            have hv' : validD ((bytes s).drop i) = false := hv
            rw [hv'] at hK; exact hK
          refine round Y hY 3 3 _ _ (by omega) (by omega) (by omega) (fun hF => ?_) (fun q7 q8 q9 => ?_)
          · rw [if_pos (by omega)] at hv
            have hv' : validD ((bytes s).drop i) = false := hv
            rw [hv'] at hK; exact hK
          refine done Y hY 3 _ 65536 (by omega) (by omega) (fun hF => ?_) (fun hN => ?_)
          · rw [if_pos (by omega)] at hv
            have hv' : validD ((bytes s).drop i) = false := hv
            rw [hv'] at hK; exact hK
          rw [if_neg (by omega)] at hv
          have hv' : validD ((bytes s).drop i) = validD (((bytes s).drop i).drop 4) := hv
          rw [hv', List.drop_drop] at hK; exact hK
        · have z := cls0 ⟨c, hc⟩ (by simp only; omega) (by simp only; omega)
          simp only at z
          rw [z] at hv
          have hv' : validD ((bytes s).drop i) = false := hv
          rw [hv'] at hK; exact hK
      · rw [List.drop_of_length_le (by omega), validD_nil] at hK
        exact hK
  exact key s.size 0 (by omega) (by simpa using hK)
end Go.Proofs.YtfkpehcbijgmnaaGreatDoor.Utf
