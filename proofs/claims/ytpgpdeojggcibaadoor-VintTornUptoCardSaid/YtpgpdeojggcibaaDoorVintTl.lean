/- Layer 1: the contract of VintTorn. Own work. -/
import Derived.Test.YtpgpdeojggcibaaDoorVintTr
namespace Go.Proofs.YtpgpdeojggcibaaDoor.Vint
open Go Vm Go.RowKit Num Mem Crc

theorem count_ok {n : Int} {m : Nat} (hm : 0 < m) (hm' : m < 4611686018427387904) {w : World} {K : Int → World → Prop} (hK : ∀ k : Nat, k < m → K (k : Int) w) : C.tocsinref01_Count n (m : Int) w K := by
  unfold C.tocsinref01_Count
  refine ⟨by omega, ?_⟩
  have h1 : -(m : Int) < Int.tmod n m := Int.lt_tmod_of_pos n (by omega)
  have h2 : Int.tmod n m < (m : Int) := Int.tmod_lt_of_pos n (by omega)
  refine cond_d (fun h => ?_) (fun h => ?_)
  · rw [wI64 (by omega) (by omega)]
    have := hK (Int.tmod n m + m).toNat (by omega)
    rwa [show (((Int.tmod n m + m).toNat : Nat) : Int) = Int.tmod n m + m by omega] at this
  · have := hK (Int.tmod n m).toNat (by omega)
    rwa [show (((Int.tmod n m).toNat : Nat) : Int) = Int.tmod n m by omega] at this

theorem flip (x : UInt8) {j : Nat} (hj : j < 8) : ∃ c : UInt8, c ≠ x ∧ Value.int .u8 (Go.bits .xor .u8 (x.toNat : Int) (shl .u8 (1 : Int) (j : Int))) = vB c := by
  have hx := x.toNat_lt
  have e := shl_nat .u8 (1 : Int) j (by simp only [IntKind.bits]; omega)
  have hp : 2 ^ j ≤ 2 ^ 7 := Nat.pow_le_pow_right (by decide) (by omega)
  have hp0 : 0 < 2 ^ j := Nat.pow_pos (by decide)
  rw [show (1 : Int) * 2 ^ j = ((2 ^ j : Nat) : Int) by simp, wU8_id (by omega) (by omega)] at e
  rw [e, bits_xor rfl (by simp only [IntKind.bits]; omega) (by simp only [IntKind.bits]; omega)]
  have hlt : x.toNat ^^^ 2 ^ j < 256 := Nat.xor_lt_two_pow (n := 8) hx (by omega)
  refine ⟨UInt8.ofNat (x.toNat ^^^ 2 ^ j), fun e => ?_, vB_lit hlt⟩
  have h1 := congrArg UInt8.toNat e
  rw [UInt8.toNat_ofNat', Nat.mod_eq_of_lt (by omega)] at h1
  have h2 : x.toNat ^^^ (x.toNat ^^^ 2 ^ j) = x.toNat ^^^ x.toNat := by rw [h1]
  rw [← Nat.xor_assoc, Nat.xor_self, Nat.zero_xor] at h2
  omega

def ends (fs : List (List UInt8)) : List Int := (List.range fs.length).map fun i => ((endAt fs (i + 1) : Nat) : Int)
theorem endAt_app {fs : List (List UInt8)} {m : List UInt8} {i : Nat} (h : i ≤ fs.length) : endAt (fs ++ [m]) i = endAt fs i := by
  unfold endAt
  rw [List.take_append_of_le_length h]
theorem ends_app (fs : List (List UInt8)) (m : List UInt8) : ends (fs ++ [m]) = ends fs ++ [(((flat fs ++ frameOf m).length : Nat) : Int)] := by
  unfold ends
  rw [List.length_append, List.length_singleton, List.range_succ, List.map_append]
  congr 1
  · apply List.map_congr_left
    intro i hi
    rw [endAt_app (by have := List.mem_range.1 hi; omega)]
  · simp only [List.map_cons, List.map_nil]
    congr 2
    unfold endAt
    rw [List.take_of_length_le (by simp), flat_app]
    simp [flat]
theorem ends_at {fs : List (List UInt8)} {i : Nat} (h : i < fs.length) : (ends fs)[i]? = some ((endAt fs (i + 1) : Nat) : Int) := by simp [ends, h]
theorem flat_len : ∀ {fs : List (List UInt8)}, (∀ m ∈ fs, m.length ≤ 65536) → (flat fs).length ≤ fs.length * 65550
  | [], _ => by simp [flat]
  | m :: fs, h => by
    have := flat_len (fs := fs) fun x hx => h x (List.mem_cons_of_mem _ hx)
    have hm := h m (List.mem_cons_self ..)
    have := frameOf_len hm
    have e : flat (m :: fs) = frameOf m ++ flat fs := List.flatMap_cons
    rw [e, List.length_append, List.length_cons]
    omega

theorem torn_law {w0 : World} (ht0 : Tab w0) {l : Sl} {rs : List Sl} {ls : List (List UInt8)} {cut bit : Int} (hb : RdBB w0 l rs ls) (hl : ls.length ≤ 140737488000000) (hl' : ∀ m ∈ ls, m.length ≤ 140737488000000)
    {K : Bool → World → Prop} (hK : ∀ w', Keep w0 w' → K true w') : C.tocsinlaw01_VintTorn l cut bit w0 K := by
  have hn := hb.n
  -- the end: a bit is turned
  have last : ∀ (fs : List (List UInt8)) (b e : Sl) (w : World), fs.length ≤ 20 → (∀ m ∈ fs, m.length ≤ 65536) → (∀ (i : Nat) (m : List UInt8), fs[i]? = some m → ls[i]? = some m) → Keep w0 w → RdB w b (flat fs) → RdI w e (ends fs) → C.tocsinlaw01_VintTorn.S2 K l bit b e w := by
    intro fs b e w hfl hfs hpre k hrb hre
    have hel := RdI.len hre
    have hbn := hrb.len
    have hflat := flat_len hfs
    rw [show (ends fs).length = fs.length by simp [ends]] at hel
    unfold C.tocsinlaw01_VintTorn.S2
    refine cond_eq (fun _ => known_ok (ht0.keep k) fun w' k' => hK w' (Keep.trans k k')) (fun h => ?_)
    have hpos : 0 < fs.length := by omega
    have h0 := hpre 0 fs[0] (List.getElem?_eq_getElem hpos)
    have hls : 0 < ls.length := (List.getElem?_eq_some_iff.1 h0).1
    obtain ⟨r0, e1, hr0⟩ := hb.get hls
    have e0 : ls[0] = fs[0] := (List.getElem?_eq_some_iff.1 h0).2
    have hm0 := hfs fs[0] (List.getElem_mem hpos)
    have hpre' := e0
    generalize hmm : fs[0] = m0 at *
    rw [e0] at hr0
    have hrn := hr0.len
    have hgo : ∀ w', Keep w0 w' → ∀ {K : Sl → Prop}, K r0 → G.ix l.a l.n (0 : Int) 1 fun p => G.cSl p w' K := fun w' k' K hK => Rd.hdr (i := 0) (Rd.keep hb.hdr k') e1 hK
    refine hgo w k ?_
    refine cond_eq (fun _ => known_ok (ht0.keep k) fun w' k' => hK w' (Keep.trans k k')) (fun hz => ?_)
    refine hgo w k ?_
    have hmpos : 0 < m0.length := by omega
    rw [hrn, wI64 (by omega) (by omega), show (8 : Int) * ((m0.length : Nat) : Int) = ((8 * m0.length : Nat) : Int) by omega]
    refine count_ok (by omega) (by omega) fun q hq => ?_
    refine appB (Keep.refl w) (Nat.le_refl _) (OwnB.nil _ _) hrb (by simp only [List.length_nil]; omega) fun c w1 k1 o1 => ?_
    rw [List.nil_append] at o1
    have k01 := Keep.trans k k1
    refine RdI.at_ (k := 0) (Rd.keep hre k1) (ends_at hpos) ?_
    refine hgo w1 k01 ?_
    refine ⟨by decide, fun d => ?_⟩
    have e1' : endAt fs 1 = (frameOf m0).length := by
      have := endAt_succ hpos
      unfold endAt
      rw [show (0 : Nat) + 1 = 1 from rfl] at this
      rw [this, hmm]; simp [flat]
    have hfm := frameOf_len hm0
    have h4 : (le4 (crcOn 0#32 m0)).length = 4 := rfl
    have hfr : (frameOf m0).length = (putU m0.length).length + 4 + m0.length := by simp only [frameOf, List.length_append, h4]; omega
    have hfl0 : flat fs = frameOf m0 ++ flat (fs.drop 1) := by
      have : fs = fs[0] :: fs.drop 1 := by
        have := List.drop_eq_getElem_cons hpos
        simpa using this
      conv => lhs; rw [this, hmm]
      exact List.flatMap_cons
    have hlt : (putU m0.length).length + 4 + q / 8 < (flat fs).length := by
      rw [hfl0, List.length_append, hfr]; omega
    have eidx : IntKind.i64.wrap ((IntKind.i64.wrap (((endAt fs (0 + 1) : Nat) : Int) - ((r0.n : Nat) : Int))) + (IntKind.i64.wrap (Int.tdiv (q : Int) (8 : Int)))) = (((putU m0.length).length + 4 + q / 8 : Nat) : Int) := by
      rw [show (0 : Nat) + 1 = 1 from rfl, e1', hrn, show Int.tdiv (q : Int) (8 : Int) = ((q / 8 : Nat) : Int) from rfl, wI64 (x := ((q / 8 : Nat) : Int)) (by omega) (by omega), wI64 (x := (((frameOf m0).length : Nat) : Int) - _) (by omega) (by omega), wI64 (by omega) (by omega)]
      omega
    rw [eidx]
    have o1d : OwnB (w1.drewN d) w.heap.size c (flat fs) := Own.keep o1 (Keep.drewN w1 d)
    refine RdB.at_ o1d.rd hlt ?_
    have hmod : IntKind.u64.wrap (Int.tmod (q : Int) (8 : Int)) = ((q % 8 : Nat) : Int) := by
      rw [show Int.tmod (q : Int) (8 : Int) = ((q % 8 : Nat) : Int) from rfl, wU64_id (by omega) (by omega)]
    rw [hmod]
    refine ⟨by decide, by omega, ?_⟩
    obtain ⟨x, hx, ex⟩ := flip (flat fs)[(putU m0.length).length + 4 + q / 8] (j := q % 8) (by omega)
    rw [ex]
    have hcn := o1.len
    refine Own.st o1d (i := (putU m0.length).length + 4 + q / 8) (by omega) _ fun w2 t2 o2 => ?_
    have k1d := Keep.trans k1 (Keep.drewN w1 d)
    have k2 : Keep w w2 := Turn.below k1d t2 k1d.size fun g hg => (Own.ge o1d hg).1
    have k02 := Keep.trans k k2
    have ev : (vBs (flat fs)).set ((putU m0.length).length + 4 + q / 8) (vB x) = vBs ((flat fs).set ((putU m0.length).length + 4 + q / 8) x) := by simp [vBs, List.map_set]
    rw [ev] at o2
    have hq8 : q / 8 < m0.length := by omega
    have hset : (flat fs).set ((putU m0.length).length + 4 + q / 8) x = putU m0.length ++ (le4 (crcOn 0#32 m0) ++ (m0.set (q / 8) x ++ flat (fs.drop 1))) := by
      rw [hfl0, frameOf]
      have : putU m0.length ++ (le4 (crcOn 0#32 m0) ++ m0) ++ flat (fs.drop 1) = putU m0.length ++ (le4 (crcOn 0#32 m0) ++ (m0 ++ flat (fs.drop 1))) := by simp
      rw [this, List.set_append_right _ _ (by omega), List.set_append_right _ _ (by omega), List.set_append_left _ _ (by omega), show (putU m0.length).length + 4 + q / 8 - (putU m0.length).length - (le4 (crcOn 0#32 m0)).length = q / 8 by omega]
    have hget : (flat fs)[(putU m0.length).length + 4 + q / 8] = m0[q / 8] := by
      have : (flat fs)[(putU m0.length).length + 4 + q / 8]? = m0[q / 8]? := by
        rw [hfl0, frameOf]
        have : putU m0.length ++ (le4 (crcOn 0#32 m0) ++ m0) ++ flat (fs.drop 1) = putU m0.length ++ (le4 (crcOn 0#32 m0) ++ (m0 ++ flat (fs.drop 1))) := by simp
        rw [this, List.getElem?_append_right (by omega), List.getElem?_append_right (by omega), List.getElem?_append_left (by omega)]
        congr 1
        omega
      rw [List.getElem?_eq_getElem hlt, List.getElem?_eq_getElem hq8] at this
      exact Option.some.inj this
    rw [hget] at hx
    have hfr0 : fr (putU m0.length ++ (le4 (crcOn 0#32 m0) ++ (m0.set (q / 8) x ++ flat (fs.drop 1)))) 0 = ([], 0, 11) := by
      have := fr_at [] (m0.set (q / 8) x) (flat (fs.drop 1)) (crcOn 0#32 m0) (by rw [List.length_set]; exact hm0)
      rw [List.length_set, if_neg (fun e => hx (crcOn_set hq8 e).symm)] at this
      exact this
    have hlen2 : ((flat fs).set ((putU m0.length).length + 4 + q / 8) x).length = (flat fs).length := List.length_set
    have hfrs : frs ((flat fs).set ((putU m0.length).length + 4 + q / 8) x) ((flat fs).set ((putU m0.length).length + 4 + q / 8) x).length 0 = ([], 0, 11) := by
      rw [hlen2]
      obtain ⟨z, hz⟩ : ∃ z, (flat fs).length = z + 1 := ⟨(flat fs).length - 1, by omega⟩
      rw [hz, frs, hlen2, if_pos (by omega), hset]
      have hfr1 : fr (putU m0.length ++ (le4 (crcOn 0#32 m0) ++ (m0.set (q / 8) x ++ flat (fs.drop 1)))) ((0 : Nat) : Int) = ([], 0, 11) := hfr0
      rw [hfr1]
      rfl
    refine frames_ok (ht0.keep k02) o2.rd (by rw [hlen2]; omega) fun mm rs' w3 k3 o3 => ?_
    rw [hfrs] at o3 ⊢
    have hmn := o3.rd.n
    refine cond_t (by rw [hmn]; rfl) <| cond_t rfl <| cond_t rfl ?_
    have k03 := Keep.trans k02 k3
    exact known_ok (ht0.keep k03) fun w' k' => hK w' (Keep.trans k03 k')
  -- the middle
  have mid : ∀ (fs : List (List UInt8)) (b e : Sl) (w : World), fs.length ≤ 20 → (∀ m ∈ fs, m.length ≤ 65536) → (∀ (i : Nat) (m : List UInt8), fs[i]? = some m → ls[i]? = some m) → Keep w0 w → RdB w b (flat fs) → RdI w e (ends fs) → C.tocsinlaw01_VintTorn.S19 K l cut bit b e w := by
    intro fs b e w hfl hfs hpre k hrb hre
    have hel := RdI.len hre
    rw [show (ends fs).length = fs.length by simp [ends]] at hel
    have hbn := hrb.len
    have hflat := flat_len hfs
    unfold C.tocsinlaw01_VintTorn.S19
    rw [hbn, wI64 (by omega) (by omega), show ((((flat fs).length : Nat) : Int) + 1) = (((flat fs).length + 1 : Nat) : Int) by omega]
    refine count_ok (by omega) (by omega) fun n hcn => ?_
    refine C.tocsinlaw01_VintTorn.L14_ind fun X hX => ?_
    have out : ∀ wh : Nat, wh ≤ fs.length → endAt fs wh ≤ n → (wh = fs.length ∨ n < endAt fs (wh + 1)) → C.tocsinlaw01_VintTorn.S11 K l bit b e (n : Int) (wh : Int) w := by
      intro wh hwh h1 h2
      unfold C.tocsinlaw01_VintTorn.S11
      refine RdB.slc hrb (lo := 0) (hi := n) (by omega) (by omega) rfl rfl fun s hs => ?_
      rw [List.drop_zero, Nat.sub_zero] at hs
      obtain ⟨t, et, htt, htl⟩ := torn_take fs hfs hwh h1 h2 (by omega)
      rw [et] at hs
      have htake : ∀ m ∈ fs.take wh, m.length ≤ 65536 := fun m hm => hfs m (List.mem_of_mem_take hm)
      have hlen : (flat (fs.take wh) ++ t).length = n := by
        rw [List.length_append, htl]
        have : (flat (fs.take wh)).length = endAt fs wh := rfl
        omega
      have hfrs := frs_flat (fs.take wh) [] t (flat (fs.take wh) ++ t).length htake htt (by simp)
      simp only [List.nil_append, List.length_nil, Nat.zero_add] at hfrs
      refine frames_ok (ht0.keep k) hs (by rw [hlen]; omega) fun m rs' w3 k3 o3 => ?_
      rw [hfrs] at o3 ⊢
      have hmn := o3.rd.n
      rw [List.length_take, Nat.min_eq_left hwh] at hmn
      simp only
      refine cond_f (by rw [hmn]; simp) ?_
      have hwe : (flat (fs.take wh)).length = endAt fs wh := rfl
      refine cond_f ?_ ?_
      · by_cases h : t = []
        · subst h
          simp only [List.length_nil] at htl
          rw [if_pos rfl]
          have : (flat (fs.take wh)).length = n := by omega
          rw [this]; simp
        · have : 0 < t.length := List.length_pos_iff.2 h
          rw [if_neg h]
          have : ((flat (fs.take wh)).length : Int) ≠ (n : Int) := by omega
          simp [this]
      have k03 := Keep.trans k k3
      unfold C.tocsinlaw01_VintTorn.S9
      refine C.tocsinlaw01_VintTorn.L5_ind fun Y hY => ?_
      have key : ∀ (r i d : Nat), r + i = wh → Y l bit b e (wh : Int) m (i : Int) (w3.drewN d) := by
        intro r
        induction r with
        | zero =>
          intro i d hi
          refine hY _ _ _ _ _ _ _ _ ?_
          unfold C.tocsinlaw01_VintTorn.S7
          refine cond_d (fun h => by omega) (fun _ => ?_)
          have kd := Keep.trans k3 (Keep.drewN w3 d)
          exact last fs b e _ hfl hfs hpre (Keep.trans k kd) (hrb.keep kd) (Rd.keep hre kd)
        | succ r ih =>
          intro i d hi
          have hiw : i < wh := by omega
          refine hY _ _ _ _ _ _ _ _ ?_
          unfold C.tocsinlaw01_VintTorn.S7
          refine cond_d (fun _ => ?_) (fun h => by omega)
          have hi1 : i < (fs.take wh).length := by rw [List.length_take]; omega
          obtain ⟨r1, e1, hr1⟩ := o3.rd.get hi1
          have hfi : fs[i]? = some (fs.take wh)[i] := by
            rw [List.getElem_take]; exact List.getElem?_eq_getElem (by omega)
          have hli := hpre i _ hfi
          have hlt : i < ls.length := (List.getElem?_eq_some_iff.1 hli).1
          obtain ⟨r2, e2, hr2⟩ := (hb.keep k03).get hlt
          rw [(List.getElem?_eq_some_iff.1 hli).2] at hr2
          refine Rd.hdr (Rd.drewN o3.rd.hdr d) e1 ?_
          refine Rd.hdr (Rd.drewN (hb.keep k03).hdr d) e2 ?_
          have hml : ((fs.take wh)[i]).length ≤ 65536 := htake _ (List.getElem_mem hi1)
          refine ⟨true, fun d' => ?_, fun d' => ?_⟩
          · rw [World.drewN_drewN]
            refine same_yes (l := (fs.take wh)[i]) (Rd.drewN hr1 _) (Rd.drewN hr2 _) (by omega) fun d2 => ⟨rfl, d' + d2, ?_⟩
            rw [World.drewN_drewN, World.drewN_drewN]
            congr 1
            omega
          · rw [World.drewN_drewN]
            refine cond_f rfl ?_
            rw [wI64 (by omega) (by omega)]
            exact ih (i + 1) _ (by omega)
      exact key wh 0 0 (by omega)
    have key : ∀ (d wh : Nat), d + wh = fs.length → endAt fs wh ≤ n → X l bit b e (n : Int) (wh : Int) w := by
      intro d
      induction d with
      | zero =>
        intro wh hwh h1
        refine hX _ _ _ _ _ _ _ ?_
        unfold C.tocsinlaw01_VintTorn.S16
        refine cond_d (fun h => by omega) (fun _ => out wh (by omega) h1 (.inl (by omega)))
      | succ d ih =>
        intro wh hwh h1
        refine hX _ _ _ _ _ _ _ ?_
        unfold C.tocsinlaw01_VintTorn.S16
        refine cond_d (fun _ => ?_) (fun h => by omega)
        refine RdI.at_ (k := wh) hre (ends_at (by omega)) ?_
        refine cond_d (fun h => ?_) (fun h => out wh (by omega) h1 (.inr (by omega)))
        rw [wI64 (by omega) (by omega)]
        exact ih (wh + 1) (by omega) (by omega)
    exact key fs.length 0 (by omega) (by simp [endAt, flat])
  -- the frames are laid
  unfold C.tocsinlaw01_VintTorn C.tocsinlaw01_VintTorn.S26
  refine C.tocsinlaw01_VintTorn.L22_ind fun X hX => ?_
  have key : ∀ (d i : Nat) (b e : Sl) (w : World), d + i = ls.length → i ≤ 20 → (∀ m ∈ ls.take i, m.length ≤ 65536) → Keep w0 w → RdB w b (flat (ls.take i)) → OwnI w w0.heap.size e (ends (ls.take i)) → X l cut bit b e (i : Int) w := by
    intro d
    have stop : ∀ (i : Nat) (b e : Sl) (w : World), i ≤ ls.length → i ≤ 20 → (∀ m ∈ ls.take i, m.length ≤ 65536) → Keep w0 w → RdB w b (flat (ls.take i)) → OwnI w w0.heap.size e (ends (ls.take i)) → C.tocsinlaw01_VintTorn.S19 K l cut bit b e w := by
      intro i b e w hi hi20 hfs k hrb ho
      refine mid (ls.take i) b e w (by rw [List.length_take]; omega) hfs (fun j m hj => ?_) k hrb ho.rd
      rw [List.getElem?_take] at hj
      split at hj
      · exact hj
      · cases hj
    induction d with
    | zero =>
      intro i b e w hi hi20 hfs k hrb ho
      refine hX _ _ _ _ _ _ _ ?_
      unfold C.tocsinlaw01_VintTorn.S24
      exact cond_d (fun h => by omega) (fun _ => stop i b e w (by omega) hi20 hfs k hrb ho)
    | succ d ih =>
      intro i b e w hi hi20 hfs k hrb ho
      refine hX _ _ _ _ _ _ _ ?_
      unfold C.tocsinlaw01_VintTorn.S24
      refine cond_d (fun _ => ?_) (fun h => by omega)
      refine cond_d (fun h20 => ?_) (fun _ => stop i b e w (by omega) hi20 hfs k hrb ho)
      have hlt : i < ls.length := by omega
      obtain ⟨r, e1, hr⟩ := hb.get hlt
      have hflat := flat_len hfs
      rw [List.length_take, Nat.min_eq_left (by omega)] at hflat
      refine Rd.hdr (Rd.keep hb.hdr k) e1 ?_
      refine pf_ok (ht0.keep k) hrb (hr.keep k) (by omega) fun c w1 k1 o1 => ?_
      have k01 := Keep.trans k k1
      unfold pf at o1 ⊢
      by_cases hm : ls[i].length > 65536
      · rw [if_pos hm]
        refine cond_t rfl ?_
        refine Rd.hdr (Rd.keep hb.hdr k01) e1 ?_
        have := hr.len
        refine cond_d (fun _ => ?_) (fun h => by omega)
        exact known_ok (ht0.keep k01) fun w' k' => hK w' (Keep.trans k01 k')
      · rw [if_neg hm] at o1 ⊢
        refine cond_f rfl ?_
        have hcl := o1.len
        rw [hcl]
        refine pushI k01 k01.size (Own.keep ho k1) (by simp [ends]; omega) fun e' w2 k2 o2 t2 => ?_
        rw [wI64 (by omega) (by omega)]
        have et : ls.take (i + 1) = ls.take i ++ [ls[i]] := List.take_succ_eq_append_getElem hlt
        have ef : flat (ls.take (i + 1)) = flat (ls.take i) ++ frameOf ls[i] := by rw [et, flat_app]; simp [flat]
        refine ih (i + 1) c e' w2 (by omega) (by omega) (fun m hm' => ?_) k2 ?_ ?_
        · rw [et] at hm'
          rcases List.mem_append.1 hm' with h | h
          · exact hfs m h
          · have : m = ls[i] := by simpa using h
            rw [this]; omega
        · rw [ef]
          refine Rd.turn o1.rd t2 fun g hg hg' => ?_
          have := (Own.ge ho hg).2
          have := (Own.ge o1 hg').1
          omega
        · rw [et, ends_app]; exact o2
  exact key ls.length 0 nilS nilS w0 (by omega) (by omega) (by simp) (Keep.refl _) (Rd.nil w0 1) (Own.nil w0 _ _ 1)
end Go.Proofs.YtpgpdeojggcibaaDoor.Vint
