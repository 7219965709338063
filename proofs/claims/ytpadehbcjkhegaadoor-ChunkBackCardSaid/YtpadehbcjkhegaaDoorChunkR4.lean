/- Layer 8: the reference's Bytes, Wrong and Same. Own work. -/
import Derived.Test.YtpadehbcjkhegaaDoorChunkR3
import Derived.Test.YtpadehbcjkhegaaDoorChunkF
namespace Go.Proofs.YtpadehbcjkhegaaDoor.Chunk
open Go Vm Go.RowKit Num Mem Bits Vint
variable {ω ω' : Tg} {w w' w0 : World} {t gs gp : Nat} {bs : List Bool} {wn : Win}

theorem run_take {m : List Smp} {i : Nat} (h : i < m.length) : run (m.take (i + 1)) = ((run (m.take i)).1 ++ (emit (m.take i) (run (m.take i)).2 m[i]).1, (emit (m.take i) (run (m.take i)).2 m[i]).2) := by
  rw [List.take_add_one, List.getElem?_eq_getElem h]
  exact run_snoc _ _
theorem Valid.take {m : List Smp} (h : Valid m) (i : Nat) : Valid (m.take i) := by
  rw [← List.take_append_drop i m] at h
  exact h.pre
theorem len2 {n : Nat} (h : n ≤ 120) : (#[(.int .u8 (IntKind.u8.wrap (shr .i64 ((n : Nat) : Int) (8 : Int)))), (.int .u8 (IntKind.u8.wrap ((n : Nat) : Int)))] : Array Value).toList = vBs [UInt8.ofNat (n / 256), UInt8.ofNat (n % 256)] := by
  have e := shr_nat .i64 ((n : Nat) : Int) 8 (by decide)
  have e2 : shr .i64 ((n : Nat) : Int) (8 : Int) = ((n / 256 : Nat) : Int) := by rw [show (8 : Int) = ((8 : Nat) : Int) from rfl, e]; simp
  rw [e2, wU8_id (by omega) (by omega), wU8_id (by omega) (by omega), vB_lit (by omega), vB_lit (by omega), Nat.mod_eq_of_lt (by omega)]
  rfl

theorem rbytes_ok {s : Sl} {m : List Smp} (hs : Rd w0 s 2 (smps m)) (hm : Valid m) {K : Sl → World → Prop} (hK : ∀ r w', Keep w0 w' → OwnB w' w0.heap.size r (enc m) → K r w') : C.tocsinref08_Bytes s w0 K := by
  have hsn : s.n = m.length := by have := hs.2.1; rw [smps_len] at this; omega
  have hlen := hm.len
  unfold C.tocsinref08_Bytes
  refine new_T (ω := fun _ => 0) 2 fun gs ω1 w1 k1 b1 => ?_
  unfold C.tocsinref08_New
  refine new_T (ω := ω1) 1 fun gp ω2 w2 k2 b2 => ?_
  unfold C.tocsinref08_Bytes.S9
  have top2 := ((Top.init w0).stp k1).stp k2
  have r2 : RfT ω2 w2 1 gp gs (lastS (m.take 0)).1 (dlt (m.take 0)) (lastS (m.take 0)).2 (run (m.take 0)).1 (run (m.take 0)).2 := ⟨b2, nilS, b1.stp k2, OT.nil _ _ _ _ _⟩
  refine C.tocsinref08_Bytes.L5_ind fun X hX => ?_
  have key : ∀ (d i : Nat) (ω : Tg) (w : World), i + d = m.length → Top w0 ω w → RfT ω w 1 gp gs (lastS (m.take i)).1 (dlt (m.take i)) (lastS (m.take i)).2 (run (m.take i)).1 (run (m.take i)).2 → X s (wp gs) (wp gp) s ((s.n : Nat) : Int) (i : Int) w := by
    intro d
    induction d with
    | zero =>
      intro i ω w hi top r
      refine hX _ _ _ _ _ _ _ ?_
      unfold C.tocsinref08_Bytes.S7 C.tocsinref08_Bytes.S2
      rw [show i = m.length by omega, List.take_length] at r
      refine cond_d (fun h => by omega) (fun _ => ⟨by decide, ?_⟩)
      rw [hsn]
      refine new_at ?_
      have kA := Keep.alloc w (.cells #[(.int .u8 (IntKind.u8.wrap (shr .i64 ((m.length : Nat) : Int) (8 : Int)))), (.int .u8 (IntKind.u8.wrap ((m.length : Nat) : Int)))] 5)
      have oA := newOwn (w := w) (n := 2) (len2 hlen) rfl (by decide)
      generalize w.alloc (.cells #[(.int .u8 (IntKind.u8.wrap (shr .i64 ((m.length : Nat) : Int) (8 : Int)))), (.int .u8 (IntKind.u8.wrap ((m.length : Nat) : Int)))] 5) = w1 at *
      have hrl := run_len hm
      have hpl := pk_len (run m).1
      refine sbytes_T (r.str.non (kA.stp0 ω)) (by omega) fun q w2 k2 o2 => ?_
      have k01 := Keep.trans top.k kA
      have k02 := Keep.trans k01 k2
      exact appB k02 k02.size (Mem.Own.mono (oA.keep k2) top.k.size) o2.rd (by simp only [List.length_cons, List.length_nil]; omega) fun q w3 k3 o3 => hK q w3 k3 o3
    | succ d ih =>
      intro i ω w hi top r
      have him : i < m.length := by omega
      refine hX _ _ _ _ _ _ _ ?_
      unfold C.tocsinref08_Bytes.S7
      refine cond_d (fun _ => ?_) (fun h => by omega)
      have hx : m[i]? = some m[i] := List.getElem?_eq_getElem him
      refine rdS_at (hs.keep top.k) (k := i) rfl hx fun a hc0 hc1 => cI_at hc0 <| cF_at hc1 ?_
      refine new_T (ω := ω) 8 fun g ω2 w2 k2 b2 => ?_
      refine st_T b2 (by simp) fun ω3 w3 k3 b3 => ?_
      refine st_TA b3 (by simp) fun ω4 w4 k4 b4 => ?_
      refine cI_at (n := m[i].1) (by rw [b4.cell]; rfl) <| cF_at (b := m[i].2) (by rw [addr_add, b4.cell]; rfl) ?_
      have s4 := (k2.non (Mem.One 8)).trans (k3.trans k4)
      have hmem := hm.mem m[i] (List.getElem_mem him)
      have hv := hm.take i
      have hrl := run_len hv
      have htl : (m.take i).length = i := by rw [List.length_take, Nat.min_eq_left (by omega)]
      refine rput_ok (r.stp s4 rfl rfl rfl) (by decide) (run_ok hv) hv.mem hmem.1 hmem.2.1 hmem.2.2 (by omega) (by rw [htl]) fun ω5 w5 s5 r5 => ?_
      rw [wI64 (by omega) (by omega), show (i : Int) + 1 = ((i + 1 : Nat) : Int) by omega]
      refine ih (i + 1) ω5 w5 (by omega) ((top.stp s4).stp s5) ?_
      have et : m.take (i + 1) = m.take i ++ [m[i]] := by rw [List.take_add_one, hx]; rfl
      rw [run_take him, et]
      exact r5
  exact key m.length 0 ω2 w2 (by omega) top2 r2

theorem wrong_ok {s : Sl} {m : List Smp} (hs : Rd w s 2 (smps m)) (hm : m.length ≤ 120) {x : Int} {K : Int → World → Prop} (hK : K (wrong m x) w) : C.tocsinref08_Wrong s x w K := by
  have hsn : s.n = m.length := by have := hs.2.1; rw [smps_len] at this; omega
  unfold C.tocsinref08_Wrong
  unfold wrong at hK
  refine cond_d (fun h1 => by rw [if_pos (.inl h1)] at hK; exact hK) (fun h1 => cond_d (fun h2 => by rw [if_pos (.inr h2)] at hK; exact hK) (fun h2 => ?_))
  rw [if_neg (by omega)] at hK
  have fin : late m x = false → G.cond (decide (((s.n : Nat) : Int) ≥ (120 : Int))) (K (8 : Int) w) (K (0 : Int) w) := fun hq => by
    rw [hq, if_neg (by decide)] at hK
    exact cond_d (fun h => by rw [if_pos (by omega)] at hK; exact hK) (fun h => by rw [if_neg (by omega)] at hK; exact hK)
  refine cond_d (fun h3 => ?_) (fun h3 => fin ?_)
  · obtain ⟨a, ha⟩ : ∃ a, m[m.length - 1]? = some a := ⟨_, List.getElem?_eq_getElem (by omega)⟩
    have hlast : m.getLast? = some a := by rw [List.getLast?_eq_getElem?]; exact ha
    refine rdS_at hs (k := m.length - 1) (by rw [wI64 (by omega) (by omega)]; omega) ha fun p hc0 _ => cI_at hc0 ?_
    refine cond_d (fun h4 => ?_) (fun h4 => fin ?_)
    · have : late m x = true := by unfold late; rw [hlast]; simp only [decide_eq_true_eq]; exact h4
      rw [this, if_pos rfl] at hK; exact hK
    · unfold late; rw [hlast]; simp only [decide_eq_false_iff_not]; exact h4
  · have : m = [] := List.eq_nil_of_length_eq_zero (by omega)
    subst this; rfl

theorem same_ok {a b : Sl} {m n : List Smp} (ha : Rd w0 a 2 (smps m)) (hb : Rd w0 b 2 (smps n)) (hl : m.length ≤ 9223372036854775807) {K : Bool → World → Prop}
    (hE : m = n → ∀ w', Keep w0 w' → K true w') (hN : m ≠ n → ∀ w', Keep w0 w' → K false w') : C.tocsinref08_Same a b w0 K := by
  have han : a.n = m.length := by have := ha.2.1; rw [smps_len] at this; omega
  have hbn : b.n = n.length := by have := hb.2.1; rw [smps_len] at this; omega
  unfold C.tocsinref08_Same
  refine cond_ne (fun h => hN (fun e => h (by rw [han, hbn, e])) w0 (Keep.refl w0)) (fun h => ?_)
  have hmn : m.length = n.length := by omega
  unfold C.tocsinref08_Same.S9
  refine C.tocsinref08_Same.L5_ind fun X hX => ?_
  have key : ∀ (d i : Nat) (w : World), i + d = m.length → Keep w0 w → m.take i = n.take i → X a b ((a.n : Nat) : Int) (i : Int) w := by
    intro d
    induction d with
    | zero =>
      intro i w hi k e
      refine hX _ _ _ _ _ ?_
      unfold C.tocsinref08_Same.S7 C.tocsinref08_Same.S2
      refine cond_d (fun h => by omega) (fun _ => hE ?_ w k)
      rw [List.take_of_length_le (by omega), List.take_of_length_le (by omega)] at e
      exact e
    | succ d ih =>
      intro i w hi k e
      refine hX _ _ _ _ _ ?_
      unfold C.tocsinref08_Same.S7
      have him : i < m.length := by omega
      have hin : i < n.length := by omega
      refine cond_d (fun _ => ?_) (fun h => by omega)
      have kd := Keep.trans k (Keep.drew w)
      have hx : m[i]? = some m[i] := List.getElem?_eq_getElem him
      have hy : n[i]? = some n[i] := List.getElem?_eq_getElem hin
      refine rdS_at (ha.keep kd) (k := i) rfl hx fun p hp0 hp1 => cI_at hp0 ?_
      refine rdS_at (hb.keep kd) (k := i) rfl hy fun q hq0 hq1 => cI_at hq0 ?_
      have no : m[i] ≠ n[i] → K false w.drew := fun hne => hN (fun h => hne (by subst h; rfl)) _ kd
      refine cond_ne (fun h1 => no fun h => h1 (by rw [h])) (fun h1 => ?_)
      refine rdS_at (ha.keep kd) (k := i) rfl hx fun p hp0 hp1 => cF_at hp1 ?_
      refine rdS_at (hb.keep kd) (k := i) rfl hy fun q hq0 hq1 => cF_at hq1 ?_
      refine fb_at ⟨same_refl _ _ _, fb_at ?_⟩
      refine cond_ne (fun h2 => no fun h => h2 (by rw [h])) (fun h2 => ?_)
      rw [wI64 (by omega) (by omega), show (i : Int) + 1 = ((i + 1 : Nat) : Int) by omega]
      refine ih (i + 1) _ (by omega) kd ?_
      rw [List.take_add_one, List.take_add_one, hx, hy, e, show m[i] = n[i] from Prod.ext h1 (by omega)]
  exact key m.length 0 w0 (by omega) (Keep.refl w0) rfl
end Go.Proofs.YtpadehbcjkhegaaDoor.Chunk
