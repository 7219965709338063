/- Layer 8: the reference writes samples. Own work. -/
import Derived.Test.YtpadehbcjkhegaaDoorChunkR2
namespace Go.Proofs.YtpadehbcjkhegaaDoor.Chunk
open Go Vm Go.RowKit Num Mem Bits Vint
variable {ω ω' : Tg} {w w' w0 : World} {t gs gp : Nat} {bs : List Bool} {wn : Win}

def rA : Win → Int | some (a, _) => (a : Int) | none => 64
/-- The reference's state (tag t) and stream (tags t + 1, t + 2). -/
structure RfT (ω : Tg) (w : World) (t gp gs : Nat) (T D : Int) (V : Nat) (bs : List Bool) (wn : Win) : Prop where
  st : BT ω w t gp 94 [.int .i64 T, .int .i64 D, .int .u64 (V : Int), .int .i64 (rA wn), .int .i64 (winB wn)]
  str : StT ω w (t + 1) gs bs 0
variable {T D : Int} {V : Nat}
theorem RfT.stp {X : Nat → Bool} (h : RfT ω w t gp gs T D V bs wn) (k : Stp X ω ω' w w') (n0 : X t = false) (n1 : X (t + 1) = false) (n2 : X (t + 2) = false) : RfT ω' w' t gp gs T D V bs wn :=
  ⟨h.st.stp k n0, h.str.stp k n1 n2⟩
theorem RfT.non (h : RfT ω w t gp gs T D V bs wn) (k : Stp Non ω ω' w w') : RfT ω' w' t gp gs T D V bs wn := h.stp k rfl rfl rfl
theorem duo_rng {s n a b : Nat} {u : Nat} (ha : s ≤ a) (ha2 : a < s + n) (hb : s ≤ b) (hb2 : b < s + n) (h : Rng s n u = false) : Duo a b u = false := by
  have h1 := rng_in ha ha2 h
  have h2 := rng_in hb hb2 h
  simp only [Mem.One] at h1 h2
  simp [Duo, h1, h2]
theorem duo_no {a b u : Nat} (h1 : u ≠ a) (h2 : u ≠ b) : Duo a b u = false := by simp [Duo, beq_no h1, beq_no h2]
theorem RfT.write (h : RfT ω w t gp gs T D V bs wn) {v : Nat} (hv : v < 18446744073709551616) {k : Nat} (hk : k ≤ 64) (hl : bs.length ≤ 8388608) {x m : Int} (hx : x = (v : Int)) (hm : m = (k : Int)) {K : World → Prop}
    (hK : ∀ ω' w', Stp (Rng t 3) ω ω' w w' → RfT ω' w' t gp gs T D V (bs ++ low v k) wn → K w') : C.tocsinref02_Stream_Write (wp gs) x m w K :=
  write_T hv hk h.str hl hx hm fun ω' w' s h' => hK ω' w' (s.mono fun u hu => duo_rng (by omega) (by omega) (by omega) (by omega) hu) ⟨h.st.stp s (duo_no (by omega) (by omega)), h'⟩
theorem RfT.set (h : RfT ω w t gp gs T D V bs wn) {j : Nat} (hj : j < 5) {v : Value} {K : World → Prop} {T' D' : Int} {V' : Nat} {wn' : Win}
    (he : [Value.int .i64 T, .int .i64 D, .int .u64 (V : Int), .int .i64 (rA wn), .int .i64 (winB wn)].set j v = [.int .i64 T', .int .i64 D', .int .u64 (V' : Int), .int .i64 (rA wn'), .int .i64 (winB wn')])
    (hK : ∀ ω' w', Stp (Rng t 3) ω ω' w w' → RfT ω' w' t gp gs T' D' V' bs wn' → K w') : G.st ⟨gp, j, none⟩ v w K :=
  st_T h.st (by simpa using hj) fun ω' w' s b => hK ω' w' (s.rng (by omega) (by omega)) ⟨by rw [he] at b; exact b, h.str.stp s (beq_no (by omega)) (beq_no (by omega))⟩
theorem RfT.setA (h : RfT ω w t gp gs T D V bs wn) {j : Nat} (hj : j < 5) {v : Value} {K : World → Prop} {T' D' : Int} {V' : Nat} {wn' : Win}
    (he : [Value.int .i64 T, .int .i64 D, .int .u64 (V : Int), .int .i64 (rA wn), .int .i64 (winB wn)].set j v = [.int .i64 T', .int .i64 D', .int .u64 (V' : Int), .int .i64 (rA wn'), .int .i64 (winB wn')])
    (hK : ∀ ω' w', Stp (Rng t 3) ω ω' w w' → RfT ω' w' t gp gs T' D' V' bs wn' → K w') : G.st (Addr.add ⟨gp, 0, none⟩ j) v w K := by
  rw [addr_add, Nat.zero_add]; exact h.set hj he hK

theorem rtime_ok (h : RfT ω w t gp gs T D V bs wn) {d : Int} (hd : -9223372036854775808 ≤ d ∧ d ≤ 9223372036854775807) (hl : bs.length ≤ 8388000) {K : World → Prop}
    (hK : ∀ ω' w', Stp (Rng t 3) ω ω' w w' → RfT ω' w' t gp gs T D V (bs ++ tform d) wn → K w') : C.tocsinref08_time (wp gs) d w K := by
  unfold C.tocsinref08_time
  unfold tform at hK
  refine cond_eq (fun h0 => ?_) (fun h0 => ?_)
  · rw [if_pos h0] at hK
    exact h.write (v := 0) (k := 1) (by decide) (by decide) (by omega) rfl rfl hK
  rw [if_neg h0] at hK
  refine in_ok (k := 14) (by decide) (by decide) ?_
  have two : ∀ (o a k : Nat) (ho : o < 18446744073709551616) (ha : a ≤ 64) (hk : k ≤ 64), (∀ ω' w', Stp (Rng t 3) ω ω' w w' → RfT ω' w' t gp gs T D V (bs ++ (low o a ++ low (lowN d k) k)) wn → K w') →
      C.tocsinref02_Stream_Write (wp gs) (o : Int) (a : Int) w fun w1 => C.tocsinref02_Low d (k : Int) w1 fun n7 w8 => C.tocsinref02_Stream_Write (wp gs) n7 (k : Int) w8 fun w9 => K w9 := by
    intro o a k ho ha hk hK
    refine h.write ho ha (by omega) rfl rfl fun ω1 w1 s1 h1 => rlow_ok ?_
    refine h1.write (lowN_lt d k) hk (by rw [List.length_append, low_len]; omega) rfl rfl fun ω2 w2 s2 h2 => hK ω2 w2 (s1.trans s2) ?_
    rw [← List.append_assoc]; exact h2
  cases e1 : fitsB d 14 with
  | true =>
    rw [e1, if_pos rfl] at hK
    exact cond_t rfl (two 2 2 14 (by decide) (by decide) (by decide) hK)
  | false =>
    rw [e1, if_neg (by decide)] at hK
    refine cond_f rfl (in_ok (k := 17) (by decide) (by decide) ?_)
    cases e2 : fitsB d 17 with
    | true =>
      rw [e2, if_pos rfl] at hK
      exact cond_t rfl (two 6 3 17 (by decide) (by decide) (by decide) hK)
    | false =>
      rw [e2, if_neg (by decide)] at hK
      refine cond_f rfl (in_ok (k := 20) (by decide) (by decide) ?_)
      cases e3 : fitsB d 20 with
      | true =>
        rw [e3, if_pos rfl] at hK
        exact cond_t rfl (two 14 4 20 (by decide) (by decide) (by decide) hK)
      | false =>
        rw [e3, if_neg (by decide)] at hK
        refine cond_f rfl ?_
        refine h.write (v := 15) (k := 4) (by decide) (by decide) (by omega) rfl rfl fun ω1 w1 s1 h1 => ?_
        refine h1.write (uN_lt d) (k := 64) (by decide) (by rw [List.length_append, low_len]; omega) (wrapU d) rfl fun ω2 w2 s2 h2 => hK ω2 w2 (s1.trans s2) ?_
        rw [← List.append_assoc]; exact h2

theorem low_back {z k : Nat} (hz : z < 18446744073709551616) (hk : k ≤ 64) (h : z < 2 ^ k) : lowN (IntKind.i64.wrap (z : Int)) k = z := by
  have e : uN (IntKind.i64.wrap (z : Int)) = z := by
    unfold uN
    rw [wI64']
    split <;> omega
  unfold lowN
  rw [e]
  split
  · exact Nat.mod_eq_of_lt h
  · rfl

theorem rvalue_ok (h : RfT ω w t gp gs T D V bs wn) (hwn : WinOk wn) (hV : V < 18446744073709551616) {v : Nat} (hv : v < 18446744073709551616) (hl : bs.length ≤ 8388000) {K : World → Prop}
    (hK : ∀ ω' w', Stp (Rng t 3) ω ω' w w' → RfT ω' w' t gp gs T D v (bs ++ (vform wn (v ^^^ V)).1) (vform wn (v ^^^ V)).2 → K w') : C.tocsinref08_State_value (wp gp) (wp gs) (v : Int) w K := by
  unfold C.tocsinref08_State_value
  refine ptr_at (cI_at (n := (V : Int)) (by rw [addr_add, h.st.cell]; rfl) ?_)
  rw [xor_eq hv hV]
  have hx := xor64_lt hv hV
  generalize v ^^^ V = x at *
  refine ptr_at (h.setA (by decide) (T' := T) (D' := D) (V' := v) (wn' := wn) rfl fun ω1 w1 s1 h1 => ?_)
  unfold vform at hK
  refine cond_eq (fun hz => ?_) (fun hz => ?_)
  · have : x = 0 := by omega
    subst this
    rw [if_pos rfl] at hK
    exact h1.write (v := 0) (k := 1) (by decide) (by decide) (by omega) rfl rfl fun ω2 w2 s2 h2 => hK ω2 w2 (s1.trans s2) h2
  have h0 : x ≠ 0 := by omega
  rw [if_neg h0] at hK
  refine h1.write (v := 1) (k := 1) (by decide) (by decide) (by omega) rfl rfl fun ω2 w2 s2 h2 => ?_
  refine rlead_ok hx (rtrail_ok hx h0 ?_)
  have hll := lead_le x
  have hlt := lead_trail hx h0
  have s02 := s1.trans s2
  have neu : holdsW wn x = false → C.tocsinref08_State_value.S2 K (wp gp) (wp gs) (x : Int) ((lead x : Nat) : Int) ((trail x : Nat) : Int) w2 := by
    intro hh
    rw [hh, if_neg (by decide)] at hK
    unfold C.tocsinref08_State_value.S2
    refine h2.write (v := 1) (k := 1) (by decide) (by decide) (by rw [List.length_append, low_len]; omega) rfl rfl fun ω3 w3 s3 h3 => ?_
    refine h3.write (v := lead x) (k := 5) (by omega) (by decide) (by simp only [List.length_append, low_len]; omega) (by rw [wU64_id (by omega) (by omega)]) rfl fun ω4 w4 s4 h4 => ⟨by decide, ?_⟩
    have en : IntKind.i64.wrap ((IntKind.i64.wrap ((64 : Int) - ((lead x : Nat) : Int))) - ((trail x : Nat) : Int)) = ((64 - lead x - trail x : Nat) : Int) := by
      rw [wI64 (x := 64 - ((lead x : Nat) : Int)) (by omega) (by omega), wI64 (by omega) (by omega)]; omega
    rw [en]
    refine h4.write (v := (64 - lead x - trail x) % 64) (k := 6) (by omega) (by decide) (by simp only [List.length_append, low_len]; omega) (by
      rw [show Int.tmod ((64 - lead x - trail x : Nat) : Int) (64 : Int) = (((64 - lead x - trail x) % 64 : Nat) : Int) from rfl, wU64_id (by omega) (by omega)]) rfl fun ω5 w5 s5 h5 => ⟨by rw [wU64]; omega, ?_⟩
    rw [wU64_id (by omega) (by omega), shr64 (by omega)]
    have hmid := mid_lt hx (Nat.le_refl (lead x)) (b := trail x) (by omega)
    refine h5.write (v := x / 2 ^ trail x) (k := 64 - lead x - trail x) (Nat.lt_of_le_of_lt (Nat.div_le_self _ _) hx) (by omega) (by simp only [List.length_append, low_len]; omega) rfl rfl fun ω6 w6 s6 h6 => ?_
    refine ptr_at (st_TA h6.st (by simp) fun ω7 w7 s7 b7 => ?_)
    refine ptr_at (st_TA b7 (by simp) fun ω8 w8 s8 b8 => ?_)
    have s78 := s7.trans s8
    refine hK ω8 w8 ((((((s02.trans s3).trans s4).trans s5).trans s6).trans (s78.rng (by omega) (by omega)))) ⟨b8, ?_⟩
    have := h6.str.stp s78 (beq_no (by omega)) (beq_no (by omega))
    simpa only [List.append_assoc] using this
  refine ptr_at (cI_at (n := rA wn) (by rw [addr_add, h2.st.cell]; rfl) ?_)
  refine cond_d (fun c1 => ?_) (fun c1 => neu ?_)
  · refine ptr_at (cI_at (n := rA wn) (by rw [addr_add, h2.st.cell]; rfl) ?_)
    cases wn with
    | none => exact absurd c1 (by decide)
    | some ab =>
      obtain ⟨a, b⟩ := ab
      obtain ⟨ha, hab⟩ := hwn a b rfl
      show G.cond (decide (((lead x : Nat) : Int) ≥ (a : Int))) _ _
      refine cond_d (fun c2 => ?_) (fun c2 => neu (by unfold holdsW; simp only [Bool.and_eq_false_iff, decide_eq_false_iff_not]; left; omega))
      refine ptr_at (cI_at (n := (b : Int)) (by rw [addr_add, h2.st.cell]; rfl) ?_)
      refine cond_d (fun c3 => ?_) (fun c3 => neu (by unfold holdsW; simp only [Bool.and_eq_false_iff, decide_eq_false_iff_not]; right; omega))
      have hh : holdsW (some (a, b)) x = true := by unfold holdsW; simp only [Bool.and_eq_true, decide_eq_true_eq]; omega
      rw [hh, if_pos rfl] at hK
      have kd := drew_stp ω2 w2
      have hd := h2.non kd
      refine ptr_at (cI_at (n := (a : Int)) (by rw [addr_add, hd.st.cell]; rfl) ?_)
      refine ptr_at (cI_at (n := (b : Int)) (by rw [addr_add, hd.st.cell]; rfl) ?_)
      refine hd.write (v := 0) (k := 1) (by decide) (by decide) (by rw [List.length_append, low_len]; omega) rfl rfl fun ω3 w3 s3 h3 => ?_
      refine ptr_at (cI_at (n := (b : Int)) (by rw [addr_add, h3.st.cell]; rfl) ⟨by rw [wU64]; omega, ?_⟩)
      have en : IntKind.i64.wrap ((IntKind.i64.wrap ((64 : Int) - (a : Int))) - (b : Int)) = ((64 - a - b : Nat) : Int) := by
        rw [wI64 (x := 64 - (a : Int)) (by omega) (by omega), wI64 (by omega) (by omega)]; omega
      rw [en, wU64_id (by omega) (by omega), shr64 (by omega)]
      refine rlow_ok ?_
      have hmid := mid_lt hx (a := a) (b := b) (by omega) (by omega)
      have elow : lowN (IntKind.i64.wrap ((x / 2 ^ b : Nat) : Int)) (64 - a - b) = x / 2 ^ b := by
        refine low_back ?_ ?_ hmid
        · exact Nat.lt_of_le_of_lt (Nat.div_le_self _ _) hx
        · omega
      rw [elow]
      refine h3.write (v := x / 2 ^ b) (k := 64 - a - b) (Nat.lt_of_le_of_lt (Nat.div_le_self _ _) hx) (by omega) (by simp only [List.length_append, low_len]; omega) rfl rfl fun ω4 w4 s4 h4 => ?_
      refine hK ω4 w4 (((s02.trans (kd.non _)).trans s3).trans s4) ?_
      simpa only [List.append_assoc] using h4
  · cases wn with
    | none => rfl
    | some ab =>
      obtain ⟨a, b⟩ := ab
      obtain ⟨ha, hab⟩ := hwn a b rfl
      exact absurd (show (a : Int) < 64 by omega) c1

/-! ## A sample behind others -/
def dlt (l : List Smp) : Int := match l.reverse with | b :: a :: _ => b.1 - a.1 | _ => 0
theorem lastS_rev {l : List Smp} {b : Smp} {r : List Smp} (h : l.reverse = b :: r) : lastS l = b := by
  unfold lastS
  rw [← List.head?_reverse, h]; rfl
theorem lastS_nil : lastS [] = (0, 0) := rfl
theorem lastS_snoc (l : List Smp) (s : Smp) : lastS (l ++ [s]) = s := by simp [lastS]
theorem dlt_snoc {l : List Smp} {s b : Smp} {r : List Smp} (h : l.reverse = b :: r) : dlt (l ++ [s]) = s.1 - b.1 := by
  unfold dlt
  rw [List.reverse_append, h]; rfl
theorem rput_ok {l : List Smp} (h : RfT ω w t gp gs (lastS l).1 (dlt l) (lastS l).2 bs wn) (ht : 0 < t) (hwn : WinOk wn) (hf : Fine l) {s : Smp} (h0 : 0 ≤ s.1) (h1 : s.1 ≤ 1125899906842624) (hv : s.2 < 18446744073709551616) (hl : bs.length ≤ 8380000) {n : Int} (hn : n = (l.length : Int)) {K : World → Prop}
    (hK : ∀ ω' w', Stp (Rng t 6) ω ω' w w' → RfT ω' w' t gp gs (lastS (l ++ [s])).1 (dlt (l ++ [s])) (lastS (l ++ [s])).2 (bs ++ (emit l wn s).1) (emit l wn s).2 → K w') : C.tocsinref08_State_Put (wp gp) (wp gs) n s.1 s.2 w K := by
  subst hn
  have up : ∀ {u n : Nat} {ω ω' : Tg} {w w' : World}, Stp (Rng t n) ω ω' w w' → n ≤ 6 → Stp (Rng t 6) ω ω' w w' := fun h hn => h.mono fun u hu => by
    by_cases a : t ≤ u ∧ u < t + 6
    · have : Rng t 6 u = true := by simp [Rng, Nat.ble_eq_true_of_le a.1, Nat.blt_eq.mpr a.2]
      rw [this] at hu; cases hu
    · exact rng_out (by omega)
  unfold C.tocsinref08_State_Put
  refine new_T (ω := ω) (t + 3) fun g ω1 w1 k1 b1 => ?_
  have h1' := h.non k1
  refine cF_at (b := s.2) (by rw [addr_add, b1.cell]; rfl) (fb_at ?_)
  rcases hr : l.reverse with _ | ⟨b, _ | ⟨a, r⟩⟩
  · have hl0 : l = [] := List.reverse_eq_nil_iff.1 hr
    subst hl0
    refine cond_t rfl (cI_at (n := s.1) (by rw [b1.cell]; rfl) ?_)
    refine rputI_ok (l := []) (by omega) (by omega) (Rd.nil w1 1) (by decide) fun q w2 k2 o2 => ?_
    have s2 := k2.stp ω1 (t + 4)
    have o2' := Own.tag o2 (Nat.le_refl _) ω1 (t + 4)
    rw [List.nil_append] at o2'
    have h2 := h1'.non s2
    have b2 := b1.stp s2
    have hlen := putU_len64 (zz_lt50 h0 h1)
    refine whole_ok h2.str o2' (duo_no (by omega) (by omega)) (by omega) fun ω3 w3 s3 h3 => ?_
    have r3 : RfT ω3 w3 t gp gs (lastS []).1 (dlt []) (lastS []).2 (bs ++ byteBits (putU (zz s.1))) wn := ⟨h2.st.stp s3 (duo_no (by omega) (by omega)), h3⟩
    have b3 := b2.stp s3 (duo_no (by omega) (by omega))
    refine r3.write (v := s.2) (k := 64) hv (by decide) (by rw [List.length_append, byteBits_len]; omega) rfl rfl fun ω4 w4 s4 r4 => ?_
    have b4 := b3.stp s4 (rng_out (by omega))
    refine ptr_at (r4.setA (by decide) (T' := 0) (D' := 0) (V' := s.2) (wn' := wn) rfl fun ω5 w5 s5 r5 => ?_)
    have b5 := b4.stp s5 (rng_out (by omega))
    refine cI_at (n := s.1) (by rw [b5.cell]; rfl) ?_
    refine ptr_at (r5.set (by decide) (T' := s.1) (D' := 0) (V' := s.2) (wn' := wn) rfl fun ω6 w6 s6 r6 => ?_)
    refine hK ω6 w6 (((((((k1.trans s2).non _).trans (s3.mono fun u hu => duo_rng (by omega) (by omega) (by omega) (by omega) hu)).trans (up (u := 0) s4 (by decide))).trans (up (u := 0) s5 (by decide)))).trans (up (u := 0) s6 (by decide))) ?_
    have e : emit [] wn s = (byteBits (putU (zz s.1)) ++ low s.2 64, wn) := rfl
    rw [e, ← List.append_assoc]
    exact r6
  · have hll : l = [b] := by rw [← List.reverse_reverse l, hr]; rfl
    subst hll
    have hb := hf b (List.mem_singleton.2 rfl)
    refine cond_f rfl (cond_t rfl ?_)
    have kd := drew_stp ω1 w1
    have hd := h1'.non kd
    have bd := b1.stp kd
    refine cI_at (n := s.1) (by rw [bd.cell]; rfl) (ptr_at (cI_at (n := b.1) (by rw [hd.st.cell]; rfl) ?_))
    rw [wI64 (x := s.1 - b.1) (by omega) (by omega)]
    refine ptr_at (hd.setA (by decide) (T' := b.1) (D' := s.1 - b.1) (V' := b.2) (wn' := wn) rfl fun ω2 w2 s2 r2 => ?_)
    have b2 := bd.stp s2 (rng_out (by omega))
    refine ptr_at (cI_at (n := s.1 - b.1) (by rw [addr_add, r2.st.cell]; rfl) ?_)
    rw [wrapU]
    refine rputU_ok (l := []) (uN_lt _) (Rd.nil w2 1) (by decide) fun q w3 k3 o3 => ?_
    have s3 := k3.stp ω2 (t + 4)
    have o3' := Own.tag o3 (Nat.le_refl _) ω2 (t + 4)
    rw [List.nil_append] at o3'
    have r3 := r2.non s3
    have b3 := b2.stp s3
    have hlen := putU_len64 (uN_lt (s.1 - b.1))
    refine whole_ok r3.str o3' (duo_no (by omega) (by omega)) (by omega) fun ω4 w4 s4 h4 => ?_
    have r4 : RfT ω4 w4 t gp gs b.1 (s.1 - b.1) b.2 (bs ++ byteBits (putU (uN (s.1 - b.1)))) wn := ⟨r3.st.stp s4 (duo_no (by omega) (by omega)), h4⟩
    have b4 := b3.stp s4 (duo_no (by omega) (by omega))
    refine rvalue_ok r4 hwn hb.2.2 hv (by rw [List.length_append, byteBits_len]; omega) fun ω5 w5 s5 r5 => ?_
    have b5 := b4.stp s5 (rng_out (by omega))
    refine cI_at (n := s.1) (by rw [b5.cell]; rfl) ?_
    refine ptr_at (r5.set (by decide) (T' := s.1) (D' := s.1 - b.1) (V' := s.2) (wn' := (vform wn (s.2 ^^^ b.2)).2) rfl fun ω6 w6 s6 r6 => ?_)
    refine hK ω6 w6 ((((((((k1.trans kd).non _).trans (up (u := 0) s2 (by decide))).trans (s3.non _)).trans (s4.mono fun u hu => duo_rng (by omega) (by omega) (by omega) (by omega) hu)).trans (up (u := 0) s5 (by decide)))).trans (up (u := 0) s6 (by decide))) ?_
    have e : emit [b] wn s = (byteBits (putU (uN (s.1 - b.1))) ++ (vform wn (s.2 ^^^ b.2)).1, (vform wn (s.2 ^^^ b.2)).2) := rfl
    rw [e, ← List.append_assoc]
    exact r6
  · have hll : l = r.reverse ++ [a] ++ [b] := by rw [← List.reverse_reverse l, hr]; simp
    have hb := hf b (by rw [hll]; simp)
    have ha := hf a (by rw [hll]; simp)
    have hlen : 2 ≤ l.length := by rw [hll]; simp
    have eT := lastS_rev hr
    have eD : dlt l = b.1 - a.1 := by unfold dlt; rw [hr]
    rw [eT, eD] at h1'
    refine cond_eq (fun h => by omega) (fun _ => cond_eq (fun h => by omega) (fun _ => ?_))
    have kd := drew_stp ω1 w1
    have hd := h1'.non kd
    have bd := b1.stp kd
    refine cI_at (n := s.1) (by rw [bd.cell]; rfl) (ptr_at (cI_at (n := b.1) (by rw [hd.st.cell]; rfl) (ptr_at (cI_at (n := b.1 - a.1) (by rw [addr_add, hd.st.cell]; rfl) ?_))))
    rw [wI64 (x := s.1 - b.1) (by omega) (by omega), wI64 (x := s.1 - b.1 - (b.1 - a.1)) (by omega) (by omega)]
    refine rtime_ok hd (by omega) (by omega) fun ω2 w2 s2 r2 => ?_
    have b2 := bd.stp s2 (rng_out (by omega))
    refine ptr_at (r2.setA (by decide) (T' := b.1) (D' := s.1 - b.1) (V' := b.2) (wn' := wn) rfl fun ω3 w3 s3 r3 => ?_)
    have b3 := b2.stp s3 (rng_out (by omega))
    have htl := tform_len (s.1 - b.1 - (b.1 - a.1))
    refine rvalue_ok r3 hwn hb.2.2 hv (by rw [List.length_append]; omega) fun ω5 w5 s5 r5 => ?_
    have b5 := b3.stp s5 (rng_out (by omega))
    refine cI_at (n := s.1) (by rw [b5.cell]; rfl) ?_
    refine ptr_at (r5.set (by decide) (T' := s.1) (D' := s.1 - b.1) (V' := s.2) (wn' := (vform wn (s.2 ^^^ b.2)).2) rfl fun ω6 w6 s6 r6 => ?_)
    refine hK ω6 w6 ((((((k1.trans kd).non _).trans (up (u := 0) s2 (by decide))).trans (up (u := 0) s3 (by decide))).trans (up (u := 0) s5 (by decide))).trans (up (u := 0) s6 (by decide))) ?_
    have e : emit l wn s = (tform (s.1 - b.1 - (b.1 - a.1)) ++ (vform wn (s.2 ^^^ b.2)).1, (vform wn (s.2 ^^^ b.2)).2) := by unfold emit; rw [hr]
    rw [e, ← List.append_assoc, lastS_snoc, dlt_snoc hr]
    exact r6
end Go.Proofs.YtpadehbcjkhegaaDoor.Chunk
