/- Layer 1: reading uvarints, frames, and what is known. Own work. -/
import Derived.Test.YtpgpdeojggcibaaDoorVintOn
import Derived.Lib.SlBytesConst
namespace Go.Proofs.YtpgpdeojggcibaaDoor.Vint
open Go Vm Go.RowKit Num Mem Crc

theorem RdB.nil (w : World) : RdB w nilS [] := Rd.nil w 1
/-- Bytes that are written out. -/
theorem newB {w : World} {n : Nat} {cs : Array Value} {l : List UInt8} (hc : cs.toList = vBs l) (hn : l.length = n) {K : Addr → World → Prop}
    (hK : ∀ p w', Keep w w' → RdB w' ⟨some p, n, n⟩ l → K p w') : G.new (.cells cs 5) w K := by
  have hs : cs.size = n := by rw [← Array.length_toList, hc, vBs_length, hn]
  exact hK _ _ (Keep.alloc w _) (by have := rd_new (w := w) (e := 5) (cs := cs) (n := n) (sz := 1) (by omega); rw [hc] at this; exact this)
/-- Bytes of a text that is written out. -/
theorem convB {w : World} {n : Nat} {cs : Array Value} {l : List UInt8} (hc : cs.toList = vBs l) (hn : l.length = n) {K : Sl → World → Prop}
    (hK : ∀ r w', Keep w w' → RdB w' r l → K r w') :
    G.new (.cells cs 5) w fun p w1 => G.runSl Tryd.prog (Go.convert 22 22 (⟨some p, n, n⟩ : Sl).v) w1 K := by
  have hs : cs.size = n := by rw [← Array.length_toList, hc, vBs_length, hn]
  refine ⟨⟨some ⟨w.heap.size, 0, none⟩, n, n⟩, _, Lib.run_convert_bytes_const (P := Tryd.prog) w 22 5 cs n n (by kernel_rfl) (by kernel_rfl), hK _ _ (Keep.alloc w _) ⟨Nat.le_refl _, by rw [vBs_length, hn]; exact (Nat.mul_one n).symm, fun _ => ⟨_, 0, rfl, fun j v hv => ?_⟩⟩⟩
  rw [Nat.zero_add]
  have : (w.alloc (.cells cs 5 (cs.size, cs.size + 1))).heap[w.heap.size]? = some (.cells cs 5 (cs.size, cs.size + 1)) := by
    show (w.heap.push _)[w.heap.size]? = _
    simp
  simp only [World.cell?, this, Option.bind_some]
  rw [← hc] at hv
  simpa using hv

/-! ## U -/
def uvGo (at0 : Nat) : List UInt8 → Nat → Nat → Nat × Nat × Nat
  | [], _, _ => (0, 0, 9)
  | c :: t, i, n =>
    if i = 9 ∧ 1 < c.toNat then (0, 0, 7) else
    if c.toNat = 0 ∧ 0 < i then (0, 0, 3) else
    if c.toNat < 128 then (n + c.toNat % 128 * 128 ^ i, at0 + i + 1, 0) else uvGo at0 t (i + 1) (n + c.toNat % 128 * 128 ^ i)
def uv (l : List UInt8) (at' : Int) : Nat × Nat × Nat :=
  if at' < 0 ∨ at' > l.length then (0, 0, 1) else uvGo at'.toNat (l.drop at'.toNat) 0 0

theorem orStep {n x i : Nat} {X Y : Int} (hi : i ≤ 9) (hn : n < 128 ^ i) (hx : x < 128) (h9 : i = 9 → x ≤ 1) (hX : X = (x : Int)) (hY : Y = ((7 * i : Nat) : Int)) :
    Go.bits .or .u64 (n : Int) (shl .u64 X Y) = ((n + x * 128 ^ i : Nat) : Int) ∧ n + x * 128 ^ i < 128 ^ (i + 1) ∧ n + x * 128 ^ i < 18446744073709551616 := by
  subst hX hY
  have e : (128 : Nat) ^ i = 2 ^ (7 * i) := by rw [Nat.pow_mul]
  have hb : n + x * 128 ^ i < 128 ^ (i + 1) := by
    rw [Nat.pow_succ, Nat.mul_comm (128 ^ i)]
    have : (x + 1) * 128 ^ i ≤ 128 * 128 ^ i := Nat.mul_le_mul_right _ hx
    rw [Nat.add_mul] at this; omega
  have hlt : n + x * 128 ^ i < 18446744073709551616 := by
    rcases Nat.lt_or_ge i 9 with h | h
    · have : (128 : Nat) ^ (i + 1) ≤ 128 ^ 9 := Nat.pow_le_pow_right (by decide) (by omega)
      have h9 : (128 : Nat) ^ 9 < 18446744073709551616 := by decide +kernel
      generalize (128 : Nat) ^ 9 = q at *
      omega
    · have : i = 9 := by omega
      subst this
      have hx1 := h9 rfl
      have h1 : x * 128 ^ 9 ≤ 1 * 128 ^ 9 := Nat.mul_le_mul_right _ hx1
      have h2 : (128 : Nat) ^ 9 = 9223372036854775808 := by decide +kernel
      rw [h2] at *
      omega
  refine ⟨?_, hb, hlt⟩
  have hs := shl_nat .u64 (x : Int) (7 * i) (by simp [IntKind.bits]; omega)
  rw [hs, show (x : Int) * 2 ^ (7 * i) = ((x * 128 ^ i : Nat) : Int) by rw [e]; simp, wU64_id (by omega) (by omega),
    bits_or rfl (by simp only [IntKind.bits]; omega) (by simp only [IntKind.bits]; omega)]
  congr 1
  rw [e, Nat.mul_comm x, Nat.or_comm, Nat.add_comm]
  exact (Nat.two_pow_add_eq_or_of_lt (by rw [← e]; exact hn) x).symm

theorem and127 (c : UInt8) : IntKind.u64.wrap (Go.bits .and .u8 (c.toNat : Int) (127 : Int)) = ((c.toNat % 128 : Nat) : Int) := by
  have hc := c.toNat_lt
  rw [show (127 : Int) = ((127 : Nat) : Int) from rfl, bits_and rfl (by simp only [IntKind.bits]; omega) (by decide),
    show c.toNat &&& 127 = c.toNat % 128 from Nat.and_two_pow_sub_one_eq_mod c.toNat 7, wU64_id (by omega) (by omega)]
theorem mod128 (c : UInt8) : IntKind.u64.wrap (Int.tmod (c.toNat : Int) (128 : Int)) = ((c.toNat % 128 : Nat) : Int) := by
  have hc := c.toNat_lt
  rw [show Int.tmod (c.toNat : Int) (128 : Int) = ((c.toNat % 128 : Nat) : Int) from rfl, wU64_id (by omega) (by omega)]

theorem uTail {c i : Int} {A T : Prop} (hA : c = 0 → i > 0 → A) (hT : ¬ (c = 0 ∧ i > 0) → T) : G.cond (decide (c < 128)) (G.cond (c == 0) (G.cond (decide (i > 0)) A T) T) T :=
  cond_d (fun _ => cond_eq (fun h => cond_d (hA h) (fun h' => hT fun x => h' x.2)) (fun h => hT fun x => h x.1)) (fun h => hT fun x => h (by omega))
theorem uHead {c i : Int} {E T : Prop} (hE : i = 9 → c > 1 → E) (hT : ¬ (i = 9 ∧ c > 1) → T) : G.cond (i == 9) (G.cond (decide (c > 1)) E T) T :=
  cond_eq (fun h => cond_d (hE h) (fun h' => hT fun x => h' x.2)) (fun h => hT fun x => h x.1)

set_option maxRecDepth 4000 in
theorem u_ok {w : World} {b : Sl} {l : List UInt8} (hb : RdB w b l) (hl : l.length ≤ 140737488355328) (at' : Int) {K : Int → Int → Int → World → Prop}
    (hK : K ((uv l at').1 : Int) ((uv l at').2.1 : Int) ((uv l at').2.2 : Int) w) : C.vint_U b at' w K := by
  have hn := hb.len
  unfold C.vint_U
  unfold uv at hK
  refine cond_d (fun h => ?_) (fun h0 => cond_d (fun h => ?_) (fun h1 => ?_))
  · rw [if_pos (.inl h)] at hK; exact hK
  · rw [if_pos (.inr (by omega))] at hK; exact hK
  rw [if_neg (by omega)] at hK
  obtain ⟨p, rfl⟩ : ∃ p : Nat, at' = (p : Int) := ⟨at'.toNat, by omega⟩
  rw [Int.toNat_natCast] at hK
  refine C.vint_U.L3_ind fun X hX => ?_
  have key : ∀ (t : List UInt8) (i n : Nat), t = l.drop (p + i) → p + i ≤ l.length → i ≤ 9 → n < 128 ^ i →
      K ((uvGo p t i n).1 : Int) ((uvGo p t i n).2.1 : Int) ((uvGo p t i n).2.2 : Int) w → X b (p : Int) (n : Int) (i : Int) w := by
    intro t
    induction t with
    | nil =>
      intro i n ht hp hi hn1 hK
      have : l.length ≤ p + i := by
        rcases Nat.lt_or_ge (p + i) l.length with h | h
        · rw [List.drop_eq_getElem_cons h] at ht; cases ht
        · exact h
      refine hX _ _ _ _ _ ?_
      unfold C.vint_U.S5
      rw [wI64 (by omega) (by omega)]
      exact cond_d (fun _ => hK) (fun h => by omega)
    | cons c t ih =>
      intro i n ht hp hi hn1 hK
      have hlt : p + i < l.length := by
        rcases Nat.lt_or_ge (p + i) l.length with h | h
        · exact h
        · rw [List.drop_of_length_le h] at ht; cases ht
      rw [List.drop_eq_getElem_cons hlt] at ht
      injection ht with hc ht
      refine hX _ _ _ _ _ ?_
      unfold C.vint_U.S5
      rw [wI64 (x := (p : Int) + (i : Int)) (by omega) (by omega)]
      refine cond_d (fun h => by omega) (fun _ => ?_)
      refine hb.ati (k := p + i) (by omega) hlt ?_
      rw [← hc]
      rw [uvGo] at hK
      refine uHead (fun h h' => ?_) (fun hne => ?_)
      · rw [if_pos (by omega)] at hK; exact hK
      rw [if_neg (by omega)] at hK
      refine uTail (T := G.nn _ _) (fun h h' => ?_) (fun hne' => ?_)
      · rw [if_pos (by omega)] at hK; exact hK
      rw [if_neg (by omega)] at hK
      rw [wI64 (x := (7 : Int) * (i : Int)) (by omega) (by omega)]
      refine ⟨by omega, ?_⟩
      have eq := orStep (x := c.toNat % 128) hi hn1 (Nat.mod_lt _ (by decide)) (fun h => by omega) (and127 c) (Y := (7 : Int) * (i : Int)) (by omega)
      have e := eq.1
      have q1 := eq.2.1
      rw [e]
      refine cond_d (fun h => ?_) (fun h => ?_)
      · rw [if_pos (by omega)] at hK
        rw [wI64 (by omega) (by omega)]
        exact hK
      · rw [if_neg (by omega)] at hK
        rw [wI64 (x := (i : Int) + 1) (by omega) (by omega)]
        refine ih (i + 1) _ (by rw [ht]; congr 1) (by omega) ?_ q1 hK
        rcases Nat.lt_or_ge i 9 with h9 | h9
        · omega
        · have := c.toNat_lt; omega
  exact key _ 0 0 (by simp) (by omega) (by omega) (by decide) hK

set_option maxRecDepth 4000 in
theorem ru_ok {w : World} {b : Sl} {l : List UInt8} (hb : RdB w b l) (hl : l.length ≤ 140737488355328) (at' : Int) {K : Int → Int → Int → World → Prop}
    (hK : K ((uv l at').1 : Int) ((uv l at').2.1 : Int) ((uv l at').2.2 : Int) w) : C.tocsinref01_U b at' w K := by
  have hn := hb.len
  unfold C.tocsinref01_U
  unfold uv at hK
  refine cond_d (fun h => ?_) (fun h0 => cond_d (fun h => ?_) (fun h1 => ?_))
  · rw [if_pos (.inl h)] at hK; exact hK
  · rw [if_pos (.inr (by omega))] at hK; exact hK
  rw [if_neg (by omega)] at hK
  obtain ⟨p, rfl⟩ : ∃ p : Nat, at' = (p : Int) := ⟨at'.toNat, by omega⟩
  rw [Int.toNat_natCast] at hK
  unfold C.tocsinref01_U.S9
  refine C.tocsinref01_U.L5_ind fun X hX => ?_
  have key : ∀ (t : List UInt8) (i n : Nat), t = l.drop (p + i) → p + i ≤ l.length → i ≤ 9 → n < 128 ^ i →
      K ((uvGo p t i n).1 : Int) ((uvGo p t i n).2.1 : Int) ((uvGo p t i n).2.2 : Int) w → X b (p : Int) (n : Int) (i : Int) w := by
    intro t
    induction t with
    | nil =>
      intro i n ht hp hi hn1 hK
      have : l.length ≤ p + i := by
        rcases Nat.lt_or_ge (p + i) l.length with h | h
        · rw [List.drop_eq_getElem_cons h] at ht; cases ht
        · exact h
      refine hX _ _ _ _ _ ?_
      unfold C.tocsinref01_U.S7
      rw [wI64 (x := ((b.n : Nat) : Int) - (p : Int)) (by omega) (by omega)]
      exact cond_d (fun _ => cond_d (fun _ => hK) (fun h => by omega)) (fun h => by omega)
    | cons c t ih =>
      intro i n ht hp hi hn1 hK
      have hlt : p + i < l.length := by
        rcases Nat.lt_or_ge (p + i) l.length with h | h
        · exact h
        · rw [List.drop_of_length_le h] at ht; cases ht
      rw [List.drop_eq_getElem_cons hlt] at ht
      injection ht with hc ht
      refine hX _ _ _ _ _ ?_
      unfold C.tocsinref01_U.S7
      rw [wI64 (x := ((b.n : Nat) : Int) - (p : Int)) (by omega) (by omega), wI64 (x := (p : Int) + (i : Int)) (by omega) (by omega)]
      refine cond_d (fun _ => cond_d (fun h => by omega) (fun _ => ?_)) (fun h => by omega)
      refine hb.ati (k := p + i) (by omega) hlt ?_
      rw [← hc]
      rw [uvGo] at hK
      refine uHead (fun h h' => ?_) (fun hne => ?_)
      · rw [if_pos (by omega)] at hK; exact hK
      rw [if_neg (by omega)] at hK
      rw [wI64 (x := (7 : Int) * (i : Int)) (by omega) (by omega), wU64_id (x := (7 : Int) * (i : Int)) (by omega) (by omega)]
      refine ⟨by decide, by omega, ?_⟩
      have eq := orStep (x := c.toNat % 128) hi hn1 (Nat.mod_lt _ (by decide)) (fun h => by omega) (mod128 c) (Y := (7 : Int) * (i : Int)) (by omega)
      have e := eq.1
      have q1 := eq.2.1
      rw [e]
      refine cond_d (fun h => ?_) (fun h => ?_)
      · refine cond_eq (fun h0 => cond_d (fun hi0 => ?_) (fun hi0 => ?_)) (fun h0 => ?_)
        · rw [if_pos (by omega)] at hK; exact hK
        · rw [if_neg (by omega), if_pos (by omega)] at hK
          rw [wI64 (by omega) (by omega)]
          exact hK
        · rw [if_neg (by omega), if_pos (by omega)] at hK
          rw [wI64 (by omega) (by omega)]
          exact hK
      · rw [if_neg (by omega), if_neg (by omega)] at hK
        rw [wI64 (x := (i : Int) + 1) (by omega) (by omega)]
        refine ih (i + 1) _ (by rw [ht]; congr 1) (by omega) ?_ q1 hK
        rcases Nat.lt_or_ge i 9 with h9 | h9
        · omega
        · have := c.toNat_lt; omega
  exact key _ 0 0 (by simp) (by omega) (by omega) (by decide) hK

/-! ## PutFrame -/
def le4 (s : B32) : List UInt8 := [u8 (s.toNat : Int), u8 (shr .u32 (s.toNat : Int) (8 : Int)), u8 (shr .u32 (s.toNat : Int) (16 : Int)), u8 (shr .u32 (s.toNat : Int) (24 : Int))]
def frameOf (p : List UInt8) : List UInt8 := putU p.length ++ (le4 (crcOn 0#32 p) ++ p)
theorem le4_cells (s : B32) : [Value.int .u8 (IntKind.u8.wrap (s.toNat : Int)), .int .u8 (IntKind.u8.wrap (shr .u32 (s.toNat : Int) (8 : Int))), .int .u8 (IntKind.u8.wrap (shr .u32 (s.toNat : Int) (16 : Int))), .int .u8 (IntKind.u8.wrap (shr .u32 (s.toNat : Int) (24 : Int)))] = vBs (le4 s) := by
  rw [vB_u8, vB_u8, vB_u8, vB_u8]; rfl

theorem putFrame_ok {w : World} {b p : Sl} {l m : List UInt8} (ht : Tab w) (hb : RdB w b l) (hp : RdB w p m) (hl : l.length ≤ 140737488000000) {K : Sl → Int → World → Prop}
    (hS : m.length > 65536 → K nilS 4 w) (hK : m.length ≤ 65536 → ∀ r w', Keep w w' → OwnB w' w.heap.size r (l ++ frameOf m) → K r 0 w') : C.vint_PutFrame b p w K := by
  have hn := hp.len
  unfold C.vint_PutFrame
  refine cond_d (fun h => hS (by omega)) (fun h => ?_)
  refine sum_ok ht hp (by omega) ?_
  rw [wU64_id (by omega) (by omega), hn]
  refine putU_ok (by omega) hb (by omega) fun r w1 k1 o1 => ?_
  refine ⟨by decide, by decide, by decide, ?_⟩
  have hpl := putU_len64 (n := m.length) (by omega)
  refine pushB (m := le4 (crcOn 0#32 m)) k1 k1.size o1 (le4_cells _) (by rfl) (by rw [List.length_append]; omega) fun r2 w2 k2 o2 => ?_
  refine appB k2 k2.size o2 (hp.keep k2) (by simp [le4]; omega) fun r3 w3 k3 o3 => ?_
  exact hK (by omega) r3 w3 k3 (by simpa [frameOf] using o3)
theorem rputFrame_ok {w : World} {b p : Sl} {l m : List UInt8} (hb : RdB w b l) (hp : RdB w p m) (hl : l.length ≤ 140737488000000) {K : Sl → Int → World → Prop}
    (hS : m.length > 65536 → K nilS 4 w) (hK : m.length ≤ 65536 → ∀ r w', Keep w w' → OwnB w' w.heap.size r (l ++ frameOf m) → K r 0 w') : C.tocsinref01_PutFrame b p w K := by
  have hn := hp.len
  unfold C.tocsinref01_PutFrame
  refine cond_d (fun h => hS (by omega)) (fun h => ?_)
  refine rsum_ok hp (by omega) ?_
  rw [wU64_id (by omega) (by omega), hn]
  refine rputU_ok (by omega) hb (by omega) fun r w1 k1 o1 => ?_
  refine ⟨by decide, by decide, by decide, ?_⟩
  have hpl := putU_len64 (n := m.length) (by omega)
  refine pushB (m := le4 (crcOn 0#32 m)) k1 k1.size o1 (le4_cells _) (by rfl) (by rw [List.length_append]; omega) fun r2 w2 k2 o2 => ?_
  refine rjoined_ok o2.rd (hp.keep k2) (by simp [le4]; omega) fun r3 w3 k3 o3 => ?_
  exact hK (by omega) r3 w3 (Keep.trans k2 k3) ((o3.mono k2.size) |> fun o => by simpa [frameOf] using o)

/-! ## What is known -/
theorem putU300 : putU 300 = [172, 2] := by rw [putU_ge (by decide), putU_lt (by decide)]; rfl
theorem putU1 : putU 1 = [1] := by rw [putU_lt (by decide)]; rfl
theorem frameA : frameOf [97] = [1, 48, 67, 208, 193, 97] := by
  unfold frameOf
  rw [show [(97 : UInt8)].length = 1 from rfl, putU1]
  decide +kernel
theorem sum9 : crcOn 0#32 [49, 50, 51, 52, 53, 54, 55, 56, 57] = 3808858755#32 := by decide +kernel

theorem known_ok {w : World} (ht : Tab w) {K : Bool → World → Prop} (hK : ∀ w', Keep w w' → K true w') : C.tocsinlaw01_known w K := by
  unfold C.tocsinlaw01_known
  refine putU_ok (n := 300) (by decide) (RdB.nil w) (by decide) fun r w1 k1 o1 => ?_
  rw [putU300, List.nil_append] at o1
  have hn := o1.len
  refine u_ok o1.rd (by decide) 0 ?_
  rw [show uv [172, 2] 0 = (300, 2, 0) by decide +kernel]
  refine convB (l := [97]) (by rfl) (by rfl) fun r2 w2 k2 o2 => ?_
  have k12 := Keep.trans k1 k2
  refine putFrame_ok (ht.keep k12) (RdB.nil w2) o2 (by decide) (fun h => absurd h (by decide)) fun _ r3 w3 k3 o3 => ?_
  have k13 := Keep.trans k12 k3
  rw [frameA, List.nil_append] at o3
  rw [hn]
  have o1' := o1.rd.keep (Keep.trans k2 k3)
  have g : ∀ {k : Nat} {c : UInt8} {K : Int → Prop}, ([172, 2] : List UInt8)[k]? = some c → K (c.toNat : Int) → G.ix r.a r.n (k : Int) 1 fun p => G.cI .u8 p w3 K := by
    intro k c K hk hK
    obtain ⟨hk', e⟩ := List.getElem?_eq_some_iff.1 hk
    refine RdB.at_ o1' hk' ?_
    rw [e]; exact hK
  refine cond_t (by rfl) ?_
  rw [← hn]
  refine g (k := 0) (c := 172) rfl ?_
  refine cond_t (by rfl) ?_
  refine g (k := 1) (c := 2) rfl ?_
  refine cond_t (by rfl) <| cond_t (by rfl) <| cond_t (by rfl) <| cond_t (by rfl) <| cond_t (by rfl) ?_
  refine newB (l := [1, 48, 67, 208, 193, 97]) (by rfl) (by rfl) fun p w4 k4 o4 => ?_
  refine same_ok (o3.rd.keep k4) o4 (by decide) (by decide) fun d => ?_
  refine cond_t (by rfl) ?_
  refine convB (l := [49, 50, 51, 52, 53, 54, 55, 56, 57]) (by rfl) (by rfl) fun r5 w5 k5 o5 => ?_
  have k15 := Keep.trans (Keep.trans (Keep.trans k13 k4) (Keep.drewN w4 d)) k5
  refine sum_ok (ht.keep k15) o5 (by decide) ?_
  rw [sum9]
  exact hK _ k15

theorem sums_ok {w : World} (ht : Tab w) {a b : Sl} {l m : List UInt8} (ha : RdB w a l) (hb : RdB w b m) (hl : l.length + m.length ≤ 140737488000000) (s : B32) {K : Bool → World → Prop}
    (hK : ∀ w', Keep w w' → K true w') : C.tocsinlaw01_VintSums a b (s.toNat : Int) w K := by
  unfold C.tocsinlaw01_VintSums
  refine appB (Keep.refl w) (Nat.le_refl _) (OwnB.nil _ _) ha (by simp; omega) fun r1 w1 k1 o1 => ?_
  refine appB k1 k1.size o1 (hb.keep k1) (by simp; omega) fun r2 w2 k2 o2 => ?_
  have ht := ht.keep k2
  have ha := ha.keep k2
  have hb := hb.keep k2
  refine sum_ok ht ha (by omega) ?_
  refine rsum_ok ha (by omega) ?_
  refine cond_t (by simp) ?_
  refine on_ok ht hb (by omega) s ?_
  refine ron_ok hb (by omega) s ?_
  refine cond_t (by simp) ?_
  refine sum_ok ht ha (by omega) ?_
  refine on_ok ht hb (by omega) _ ?_
  refine sum_ok ht o2.rd (by simp; omega) ?_
  rw [crcOn_append]
  refine cond_t (by simp) ?_
  exact known_ok ht fun w' k => hK w' (Keep.trans k2 k)
end Go.Proofs.YtpgpdeojggcibaaDoor.Vint
