/- (several texts in one: RuO, RuX, RuY, RuZ, RulK, RulL, RulF, RulG, RulH) Own work. -/
import Derived.Test.YtechilkjfhpkpaaGreatDoorPK4
namespace Go.Proofs.YtechilkjfhpkpaaGreatDoor.Ru
open Go Vm Go.RowKit Num Mem Utf Lib Lab
variable {ω ω' ωb : Tg} {w w' w0 wb : World} {t gs gm : Nat} {M : List Av} {r : Rl} {now last : Int} {s sl : Sl}
theorem bits_ok {n : Nat} {K : Int → World → Prop} (hK : K (n : Int) w) : C.math_Float64bits n w K := hK
abbrev RdAs (w : World) (s : Sl) (x : QL) : Prop := Rd w s 6 (avs x) ∧ ∀ p ∈ x, Rd w p.2 2 (labs p.1.1) ∧ p.1.1.length ≤ 9000000000000000000
abbrev RdOs (w : World) (s : Sl) (x : OQ) : Prop := Rd w s 1 (sls x) ∧ ∀ p ∈ x, Rd w p.2 2 (labs p.1) ∧ p.1.length ≤ 9000000000000000000
theorem asame_ok {a b : Sl} {x y : QL} (ha : RdAs w0 a x) (hb : RdAs w0 b y) (hl : x.length ≤ 1000000000000) {K : Bool → World → Prop} (hK : ∀ w', Keep w0 w' → K (decide (x.map (·.1) = y.map (·.1))) w') : C.tocsinref19_Same a b w0 K := by
  unfold C.tocsinref19_Same
  have hna := rdA_n ha.1
  have hnb := rdA_n hb.1
  have no : (∃ i : Nat, (x[i]?).map (fun p : Av × Sl => p.1) ≠ (y[i]?).map (fun p : Av × Sl => p.1)) → ∀ w', Keep w0 w' → K false w' := fun ⟨i, h⟩ w' k => by
    have := hK w' k
    rw [decide_eq_false fun e => h (by rw [← List.getElem?_map, ← List.getElem?_map, e])] at this
    exact this
  refine cond_ne (fun h => no ⟨min x.length y.length, fun e => ?_⟩ w0 (Keep.refl w0)) (fun h => ?_)
  · have hne : x.length ≠ y.length := fun e => h (by rw [hna, hnb, e])
    rcases Nat.lt_or_gt_of_ne hne with hlt | hlt
    · rw [Nat.min_eq_left (by omega), List.getElem?_eq_none (Nat.le_refl _), List.getElem?_eq_getElem hlt] at e; cases e
    · rw [Nat.min_eq_right (by omega), List.getElem?_eq_none (Nat.le_refl y.length), List.getElem?_eq_getElem hlt] at e; cases e
  have el : x.length = y.length := by omega
  unfold C.tocsinref19_Same.S9
  refine C.tocsinref19_Same.L5_ind fun X hX => ?_
  have key : ∀ (d i : Nat) (w1 : World), i + d = x.length → Keep w0 w1 → (∀ j, j < i → (x[j]?).map (·.1) = (y[j]?).map (·.1)) → X a b (i : Int) w1 := by
    intro d
    induction d with
    | zero =>
      intro i w1 hi k h0
      refine hX _ _ _ _ ?_
      unfold C.tocsinref19_Same.S7 C.tocsinref19_Same.S2
      have := hK w1 k
      rw [decide_eq_true (show x.map (·.1) = y.map (·.1) from List.ext_getElem? fun j => by
        rw [List.getElem?_map, List.getElem?_map]
        rcases Nat.lt_or_ge j i with hj | hj
        · exact h0 j hj
        · rw [List.getElem?_eq_none (by omega), List.getElem?_eq_none (by omega)])] at this
      exact cond_d (fun h => by omega) (fun _ => this)
    | succ d ih =>
      intro i w1 hi k h0
      refine hX _ _ _ _ ?_
      unfold C.tocsinref19_Same.S7
      have hix : i < x.length := by omega
      have hiy : i < y.length := by omega
      have hxi : x[i]? = some x[i] := List.getElem?_eq_getElem hix
      have hyi : y[i]? = some y[i] := List.getElem?_eq_getElem hiy
      obtain ⟨hpx, hlx⟩ := ha.2 _ (List.getElem_mem hix)
      obtain ⟨hpy, hly⟩ := hb.2 _ (List.getElem_mem hiy)
      have no' : (x[i]).1 ≠ (y[i]).1 → ∀ w', Keep w0 w' → K false w' := fun h => no ⟨i, by rw [hxi, hyi]; exact fun e => h (Option.some.inj e)⟩
      have yes : (x[i]).1 = (y[i]).1 → ∀ w', Keep w0 w' → X a b (IntKind.i64.wrap ((i : Int) + 1)) w' := fun h w' k' => by
        rw [wI64 (by omega) (by omega), show (i : Int) + 1 = ((i + 1 : Nat) : Int) by omega]
        refine ih (i + 1) w' (by omega) k' fun j hj => ?_
        rcases Nat.lt_or_ge j i with hj' | hj'
        · exact h0 j hj'
        · rw [show j = i by omega, hxi, hyi]; exact congrArg some h
      generalize x[i] = p at *
      generalize y[i] = q at *
      refine cond_d (fun _ => ?_) (fun h => by omega)
      refine rdA_at (ha.1.keep k) (k := i) rfl hxi fun a1 ac => ac_at ac <| loc_ok p fun g2 w2 k2 hg2 b2 => ?_
      have k02 := Keep.trans k k2.1
      refine rdA_at (hb.1.keep k02) (k := i) rfl hyi fun a3 ac3 => ac_at ac3 <| loc_ok q fun g4 w4 k4 hg4 b4 => ?_
      have k04 := Keep.trans (Keep.trans k02 k4.1) (Keep.drew w4)
      have b2' := b2.keep (Keep.trans k4.1 (Keep.drew w4))
      have b4' := b4.keep (Keep.drew w4)
      refine cSl_at (s := p.2) (by rw [b2'.cell]; rfl) <| cSl_at (s := q.2) (by rw [b4'.cell]; rfl) ?_
      refine rsame_ok (hpx.keep k04) (hpy.keep k04) hlx fun w5 k5 => ?_
      have k05 := Keep.trans k04 k5
      have c2 := blk_ac (b2'.keep k5)
      have c4 := blk_ac (b4'.keep k5)
      refine cond_not (fun h => no' (fun e => of_decide_eq_false h (by rw [e])) w5 k05) (fun h1 => ?_)
      refine cI_at c2.2.1 <| cI_at c4.2.1 <| cond_ne (fun h => no' (fun e => h (by rw [e])) w5 k05) (fun h2 => ?_)
      refine cI_at c2.2.2.1 <| cI_at c4.2.2.1 <| cond_ne (fun h => no' (fun e => h (by rw [e])) w5 k05) (fun h3 => ?_)
      refine cI_at c2.2.2.2.1 <| cI_at c4.2.2.2.1 <| cond_ne (fun h => no' (fun e => h (by rw [e])) w5 k05) (fun h4 => ?_)
      refine cI_at c2.2.2.2.2.1 <| cI_at c4.2.2.2.2.1 <| cond_ne (fun h => no' (fun e => h (by rw [e])) w5 k05) (fun h5 => ?_)
      refine cF_at c2.2.2.2.2.2 <| cF_at c4.2.2.2.2.2 <| bits_ok ⟨by rw [addr_add]; exact sameK (b4'.keep k5) (Keep.refl w5), bits_ok <| cond_ne (fun h => no' (fun e => h (by rw [e])) w5 k05) (fun h6 => ?_)⟩
      refine yes ?_ w5 k05
      have h1 := of_decide_eq_true h1
      have h6 : p.1.2.2.2.2.2 = q.1.2.2.2.2.2 := by omega
      obtain ⟨⟨m, a1, a2, a3, a4, a5⟩, _⟩ := p
      obtain ⟨⟨m', b1, b2, b3, b4, b5⟩, _⟩ := q
      dsimp only at h1 h2 h3 h4 h5 h6 ⊢
      rw [h1, h2, h3, h4, h5, h6]
  exact key x.length 0 w0 (by omega) (Keep.refl w0) (fun j hj => by omega)
theorem rdO_at {s : Sl} {l : OQ} (h : Rd w s 1 (sls l)) {i : Int} {k : Nat} {p : List Lb × Sl} (ei : i = (k : Int)) (hx : l[k]? = some p) {K : Addr → Prop} (hK : ∀ a : Addr, w.cell? a = some p.2.v → K a) : G.ix s.a s.n i 1 K := by
  have hk : k < l.length := (List.getElem?_eq_some_iff.1 hx).1
  have hn := sls_n h
  subst ei
  refine Rd.ix h (by decide) (by omega) (by omega) fun a hc => hK a ?_
  have := hc 0 p.2.v (by decide) (by rw [Int.toNat_natCast, Nat.mul_one, Nat.add_zero, sls, List.getElem?_map, hx]; rfl)
  rwa [show a.add 0 = a by simp [Addr.add]] at this
def tA (r : Rl) (p : Pt) : Av := (labO r p.1, 0, 0, 0, 0, p.2)
theorem getM_insN {x : Av} {m : List Lb} (hM : M.Pairwise ltA) : getM (insM x M) m = none ↔ x.1 ≠ m ∧ getM M m = none := by
  rw [getM_none, getM_none]
  constructor
  · intro h
    refine ⟨h x ((mem_insM hM).2 (.inl rfl)), fun a ha e => ?_⟩
    by_cases e' : a.1 = x.1
    · exact h x ((mem_insM hM).2 (.inl rfl)) (e'.symm.trans e)
    · exact h a ((mem_insM hM).2 (.inr ⟨ha, e'⟩)) e
  · rintro ⟨h1, h2⟩ a ha
    rcases (mem_insM hM).1 ha with rfl | ⟨h3, _⟩
    · exact h1
    · exact h2 a h3
theorem tS_iff : ∀ (ps : List Pt) (x : Bool × List Av), x.2.Pairwise ltA → ((ps.foldl (tstep r) x).1 = false ↔ x.1 = false ∧ (ps.map fun p => labO r p.1).Nodup ∧ ∀ p ∈ ps, getM x.2 (labO r p.1) = none)
  | [], x, _ => by simp
  | p :: ps, x, hx => by
    rw [List.foldl_cons, tS_iff ps _ (insM_up hx), List.map_cons, List.nodup_cons]
    show ((x.1 || (getM x.2 (labO r p.1)).isSome) = false ∧ _ ∧ ∀ q ∈ ps, getM (insM (tA r p) x.2) (labO r q.1) = none) ↔ _
    rw [Bool.or_eq_false_iff]
    constructor
    · rintro ⟨⟨h1, h2⟩, h3, h4⟩
      refine ⟨h1, ⟨fun hm => ?_, h3⟩, fun q hq => ?_⟩
      · obtain ⟨q, hq, e⟩ := List.mem_map.1 hm
        exact ((getM_insN hx).1 (h4 q hq)).1 e.symm
      · rcases List.mem_cons.1 hq with rfl | hq
        · cases hg : getM x.2 (labO r q.1) with
          | none => rfl
          | some y => rw [hg] at h2; cases h2
        · exact ((getM_insN hx).1 (h4 q hq)).2
    · rintro ⟨h1, ⟨h2, h3⟩, h4⟩
      refine ⟨⟨h1, by rw [h4 p List.mem_cons_self]; rfl⟩, h3, fun q hq => (getM_insN hx).2 ⟨fun e => h2 ?_, h4 q (List.mem_cons_of_mem _ hq)⟩⟩
      rw [show labO r p.1 = labO r q.1 from e]
      exact List.mem_map_of_mem (f := fun p : Pt => labO r p.1) hq
theorem tS_mem {a : Av} : ∀ (ps : List Pt) (x : Bool × List Av), x.2.Pairwise ltA → (ps.foldl (tstep r) x).1 = false → (a ∈ (ps.foldl (tstep r) x).2 ↔ a ∈ x.2 ∨ ∃ p ∈ ps, a = tA r p)
  | [], x, _, _ => by simp
  | p :: ps, x, hx, h => by
    have h' := (tS_iff (p :: ps) x hx).1 h
    rw [List.foldl_cons, tS_mem ps _ (insM_up hx) h]
    show (a ∈ insM (tA r p) x.2 ∨ _) ↔ _
    rw [mem_insM hx]
    have hn := getM_none.1 (h'.2.2 p List.mem_cons_self)
    constructor
    · rintro ((e | ⟨h1, _⟩) | ⟨q, hq, e⟩)
      · exact .inr ⟨p, List.mem_cons_self, e⟩
      · exact .inl h1
      · exact .inr ⟨q, List.mem_cons_of_mem _ hq, e⟩
    · rintro (h1 | ⟨q, hq, e⟩)
      · exact .inl (.inr ⟨h1, hn a h1⟩)
      · rcases List.mem_cons.1 hq with rfl | hq
        · exact .inl (.inl e)
        · exact .inr ⟨q, hq, e⟩
theorem firstE_iff : ∀ {ps : List Pt}, firstE r ps = 0 ↔ ∀ p ∈ ps, wE p.1 (moreA r) = 0
  | [] => by simp [firstE]
  | q :: ps => ⟨firstE_all, fun h => by
    unfold firstE
    rw [if_neg (fun h' => h' (h q List.mem_cons_self))]
    exact firstE_iff.2 fun p hp => h p (List.mem_cons_of_mem _ hp)⟩
theorem toldE_iff {ps : List Pt} : toldE r ps = 0 ↔ (∀ p ∈ ps, wE p.1 (moreA r) = 0) ∧ (ps.map fun p => labO r p.1).Nodup := by
  constructor
  · intro h
    obtain ⟨h1, h2⟩ := firstE_of h
    exact ⟨firstE_all h1, ((tS_iff ps _ List.Pairwise.nil).1 h2).2.1⟩
  · rintro ⟨h1, h2⟩
    unfold toldE
    have hf : (toldS r ps).1 = false := (tS_iff ps _ List.Pairwise.nil).2 ⟨rfl, h2, fun p _ => rfl⟩
    rw [firstE_iff.2 h1, if_neg (by decide), hf]; rfl
theorem mem_toldL {ps : List Pt} (h : toldE r ps = 0) {a : Av} : a ∈ toldL r ps ↔ ∃ p ∈ ps, a = tA r p := by
  refine (tS_mem (a := a) ps (false, []) List.Pairwise.nil (firstE_of h).2).trans ⟨fun h => ?_, .inr⟩
  rcases h with h | h
  · cases h
  · exact h
theorem over_len {T M : List Av} : (overM r now T M).length ≤ M.length + T.length := Nat.le_trans (List.length_filterMap_le _ _) merge_len
theorem step_len {T M : List Av} : (stepM r now T M).length ≤ M.length + T.length := Nat.le_trans (List.length_filterMap_le _ _) merge_len
structure Good (M : List Av) : Prop where
  up : M.Pairwise ltA
  rt : ∀ a ∈ M, (rt a.1).1 = 0
theorem Good.nil : Good [] := ⟨List.Pairwise.nil, by simp⟩
theorem Good.step {ps : List Pt} (h : Good M) (hr : RlOk r) (he : toldE r ps = 0) : Good (stepM r now (toldL r ps) M) := ⟨step_up h.up, fun a ha => by
  obtain ⟨b, hb, e⟩ := List.mem_filterMap.1 ha
  rw [stepA_lab e]
  exact merge_rt (nodupL (toldS_up r ps)) h.up (told_rt hr he) h.rt b hb⟩
theorem stepE_told {ps : List Pt} (h : stepE r last now ps = 0) : toldE r ps = 0 ∧ timeB now = true ∧ last < now := by
  unfold stepE at h
  by_cases h' : timeB now = false ∨ now ≤ last
  · rw [if_pos h'] at h; exact absurd h (by decide)
  · rw [if_neg h'] at h
    refine ⟨h, ?_, ?_⟩
    · cases e : timeB now with
      | false => exact absurd (.inl e) h'
      | true => rfl
    · exact Int.not_le.1 fun h2 => h' (.inr h2)
end Go.Proofs.YtechilkjfhpkpaaGreatDoor.Ru

namespace Go.Proofs.YtechilkjfhpkpaaGreatDoor.Ru
open Go Vm Go.RowKit Num Mem Utf Lib Lab Rep
variable {w w' : World} {α : Type}
instance : Inhabited Sl := ⟨nilS⟩
theorem rows_ofS [Inhabited α] {s : Sl} {b : Nat} {es : List Sh} {enc : α → List Value} {Q : α → Nat → Prop} (hk : ∀ x, (enc x).length = es.length) (hpos : 0 < es.length) (h : Cl w (.sl es) s.v b)
    (inv : ∀ (V : Nat → Value) (c : Nat), c < b → (∀ j sh, es[j]? = some sh → Cl w sh (V j) c) → ∃ x, (∀ j, j < es.length → (enc x)[j]? = some (V j)) ∧ Q x c) :
    ∃ (m : List α) (f : Nat → Nat), Rd w s es.length (m.flatMap enc) ∧ s.n = m.length ∧ sumTo f m.length < b ∧ s.n ≤ maxLen ∧ s.n < b ∧ ∀ i x, m[i]? = some x → Q x (f i) := by
  have hb := h.len
  obtain ⟨f, U, h1, h2, h3, h4, h5, h6, h7⟩ := h.sl_inv
  have get : ∀ i, i < s.n → ∃ x : α, (∀ j, j < es.length → (enc x)[j]? = some (U i j)) ∧ Q x (f i) := fun i hi => inv (U i) (f i) (by have := sumTo_ge f s.n i hi; omega) fun j sh hj => h7 i j sh hi hj
  obtain ⟨g, hg⟩ : ∃ g : Nat → α, ∀ i, i < s.n → (∀ j, j < es.length → (enc (g i))[j]? = some (U i j)) ∧ Q (g i) (f i) :=
    ⟨fun i => if hi : i < s.n then (get i hi).choose else default, fun i hi => by simp only [dif_pos hi]; exact (get i hi).choose_spec⟩
  refine ⟨(List.range s.n).map g, f, ⟨h1, by rw [flat_len hk]; simp, fun hne => ?_⟩, by simp, by simpa using h4, by omega, hb, fun i x hx => ?_⟩
  · have hn : 0 < s.n := by
      rcases Nat.eq_zero_or_pos s.n with e | e
      · rw [e] at hne; exact absurd rfl hne
      · exact e
    obtain ⟨gb, o, ha, hc⟩ := h6 hn
    refine ⟨gb, o, ha, fun j v hv => ?_⟩
    have hj : j < s.n * es.length := by
      have := (List.getElem?_eq_some_iff.1 hv).1
      rwa [flat_len hk, List.length_map, List.length_range] at this
    have hi : j / es.length < s.n := Nat.div_lt_of_lt_mul (by rw [Nat.mul_comm]; exact hj)
    have hr : j % es.length < es.length := Nat.mod_lt _ hpos
    have ej : j = j / es.length * es.length + j % es.length := by rw [Nat.mul_comm]; exact (Nat.div_add_mod j es.length).symm
    rw [ej] at hv ⊢
    rw [flat_at hk _ _ _ hr] at hv
    have hm : ((List.range s.n).map g)[j / es.length]? = some (g (j / es.length)) := by simp [hi]
    rw [hm, Option.bind_some, (hg _ hi).1 _ hr] at hv
    injection hv with hv
    rw [← hv]
    obtain ⟨sh, hsh⟩ : ∃ sh, es[j % es.length]? = some sh := ⟨_, List.getElem?_eq_getElem hr⟩
    exact hc _ _ sh hi hsh
  · rw [List.getElem?_map] at hx
    rcases Nat.lt_or_ge i s.n with hi | hi
    · rw [List.getElem?_range hi] at hx
      injection hx with hx
      rw [← hx]; exact (hg i hi).2
    · rw [List.getElem?_eq_none (by simpa using hi)] at hx; cases hx
def LbSm (b : Nat) (m : List Lb) : Prop := m.length < b ∧ ∀ x ∈ m, x.1.size < b ∧ x.2.size < b
theorem labs_of {s : Sl} {b : Nat} (h : Cl w (.sl [.str, .str]) s.v b) : ∃ m : List Lb, Rd w s 2 (labs m) ∧ s.n = m.length ∧ s.n ≤ maxLen ∧ LbSm b m := by
  obtain ⟨m, h1, h2, h3, h4, h5⟩ := rows_of (α := Lb) (enc := labC) (Q := fun x => x.1.size < b ∧ x.2.size < b) (fun _ => rfl) (by decide) h fun V hV => by
    obtain ⟨s0, e0, h0⟩ := (hV 0 _ rfl).str_inv
    obtain ⟨s1, e1, h1⟩ := (hV 1 _ rfl).str_inv
    refine ⟨(s0, s1), fun j hj => ?_, h0, h1⟩
    match j, hj with
    | 0, _ => rw [e0]; rfl
    | 1, _ => rw [e1]; rfl
  exact ⟨m, h1, h2, h4, by omega, h5⟩
abbrev shL : Sh := .sl [.str, .str]
abbrev shP : Sh := .sl [shL, .fl .f64]
theorem points_of {s : Sl} {b : Nat} (h : Cl w shP s.v b) : ∃ q : PQ, RdPs w s q ∧ s.n = q.length ∧ q.length < b ∧ ∀ p ∈ q, LbSm b p.1.1 := by
  obtain ⟨m, h1, h2, h3, h4, h5⟩ := rows_of (α := Pt × Sl) (enc := ptC) (Q := fun x => Rd w x.2 2 (labs x.1.1) ∧ LbSm b x.1.1) (fun _ => rfl) (by decide) h fun V hV => by
    have c0 := hV 0 _ rfl
    obtain ⟨s0, e0⟩ := c0.sl_ex
    obtain ⟨n1, e1, h1⟩ := (hV 1 _ rfl).fl_inv
    rw [e0] at c0
    obtain ⟨m, g1, g2, g3, g4⟩ := labs_of c0
    refine ⟨((m, n1), s0), fun j hj => ?_, g1, g4⟩
    match j, hj with
    | 0, _ => rw [e0]; rfl
    | 1, _ => rw [e1]; rfl
  exact ⟨m, ⟨h1, fun p hp => (h5 p hp).1⟩, h2, by omega, fun p hp => (h5 p hp).2⟩
abbrev Tk := Int × Sl × PQ
def tkC (x : Tk) : List Value := [.int .i64 x.1, x.2.1.v]
def tks (m : List Tk) : List Value := m.flatMap tkC
structure Scr (w : World) (s : Sl) (m : List Tk) (f : Nat → Nat) (b : Nat) : Prop where
  row : Rd w s 2 (tks m)
  len : s.n = m.length
  sum : sumTo f m.length < b
  el : ∀ i x, m[i]? = some x → RdPs w x.2.1 x.2.2 ∧ x.2.2.length ≤ f i ∧ ∀ p ∈ x.2.2, LbSm b p.1.1
theorem Scr.keep {s : Sl} {m : List Tk} {f : Nat → Nat} {b : Nat} (h : Scr w s m f b) (k : Keep w w') : Scr w' s m f b := ⟨h.row.keep k, h.len, h.sum, fun i x hx => ⟨(h.el i x hx).1.keep k, (h.el i x hx).2⟩⟩
theorem sumTo_mono (f : Nat → Nat) {i n : Nat} (h : i ≤ n) : sumTo f i ≤ sumTo f n := by
  induction n with
  | zero => rw [Nat.le_zero.1 h]; exact Nat.le_refl _
  | succ n ih =>
    rcases Nat.lt_or_ge n i with h' | h'
    · rw [show i = n + 1 by omega]; exact Nat.le_refl _
    · have := ih h'
      simp only [sumTo]; omega
theorem Scr.up {s : Sl} {m : List Tk} {f : Nat → Nat} {b i : Nat} (h : Scr w s m f b) (hi : i ≤ m.length) : sumTo f i < b := Nat.lt_of_le_of_lt (sumTo_mono f hi) h.sum
theorem LbSm.mono {b c : Nat} {m : List Lb} (h : LbSm b m) (hb : b ≤ c) : LbSm c m := ⟨by have := h.1; omega, fun x hx => ⟨by have := (h.2 x hx).1; omega, by have := (h.2 x hx).2; omega⟩⟩
theorem Scr.mono {s : Sl} {m : List Tk} {f : Nat → Nat} {b c : Nat} (h : Scr w s m f b) (hb : b ≤ c) : Scr w s m f c := ⟨h.row, h.len, by have := h.sum; omega, fun i x hx => ⟨(h.el i x hx).1, (h.el i x hx).2.1, fun p hp => ((h.el i x hx).2.2 p hp).mono hb⟩⟩
theorem script_of {s : Sl} {b : Nat} (h : Cl w (.sl [.int .i64, shP]) s.v b) : ∃ m f, Scr w s m f b ∧ m.length < b := by
  obtain ⟨m, f, h1, h2, h3, h4, h4', h5⟩ := rows_ofS (α := Tk) (enc := tkC) (Q := fun x c => RdPs w x.2.1 x.2.2 ∧ x.2.2.length ≤ c ∧ ∀ p ∈ x.2.2, LbSm b p.1.1) (fun _ => rfl) (by decide) h fun V c hc hV => by
    obtain ⟨n0, e0, _⟩ := (hV 0 _ rfl).int_inv
    have c1 := hV 1 _ rfl
    obtain ⟨s1, e1⟩ := c1.sl_ex
    rw [e1] at c1
    obtain ⟨q, g1, g2, g3, g4⟩ := points_of c1
    refine ⟨(n0, s1, q), fun j hj => ?_, g1, (by show q.length ≤ c; omega), fun p hp => (g4 p hp).mono (by omega)⟩
    match j, hj with
    | 0, _ => rw [e0]; rfl
    | 1, _ => rw [e1]; rfl
  exact ⟨m, f, ⟨h1, h2, h3, h5⟩, by omega⟩
theorem rdK_at {s : Sl} {m : List Tk} {f : Nat → Nat} {b : Nat} (h : Scr w s m f b) {i : Int} {k : Nat} {x : Tk} (ei : i = (k : Int)) (hx : m[k]? = some x) {K : Addr → Prop}
    (hK : ∀ a : Addr, w.cell? a = some (.int .i64 x.1) → w.cell? (a.add 1) = some x.2.1.v → K a) : G.ix s.a s.n i 2 K := by
  have hk : k < m.length := (List.getElem?_eq_some_iff.1 hx).1
  have hn := h.len
  subst ei
  refine Rd.ix h.row (by decide) (by omega) (by omega) fun a hc => hK a ?_ ?_
  · have := hc 0 (.int .i64 x.1) (by decide) (by rw [Int.toNat_natCast, tks, flat_at (enc := tkC) (k := 2) (fun _ => rfl) m k 0 (by decide), hx]; rfl)
    rwa [show a.add 0 = a by simp [Addr.add]] at this
  · exact hc 1 x.2.1.v (by decide) (by rw [Int.toNat_natCast, tks, flat_at (enc := tkC) (k := 2) (fun _ => rfl) m k 1 (by decide), hx]; rfl)
def RlSm (b : Nat) (r : Rl) : Prop := r.nm.size < b ∧ r.ex.size < b ∧ LbSm b r.ls
theorem RlSm.mono {b c : Nat} {r : Rl} (h : RlSm b r) (hb : b ≤ c) : RlSm c r := ⟨by have := h.1; omega, by have := h.2.1; omega, h.2.2.mono hb⟩
set_option maxRecDepth 100000 in
theorem open_rule {H : Type} {enc : TypeId × Value → H} {base : Nat} {v : Value} {d : DataW H} {p : List MemPlace} {spare held} (hval : Value.okWide Tryz.prog w .any base 24 v) (h : DataW.Trod enc Tryz.prog w 0 spare held 24 v d p) :
    ∃ (r : Rl) (s : Sl), v = .agg ⟨[.bool r.rc, .string r.nm, .string r.ex, .int .i64 r.fo, .int .i64 r.ke, s.v]⟩ ∧ Rd w s 2 (labs r.ls) ∧ RlSm (Rows.uptoBulk d) r := by
  obtain ⟨cs, rfl, hl, hr⟩ := open_row (fs := match Tryz.prog.underlying 24 with | some (.struct fs) => fs | _ => #[]) (shs := [.bool, .str, .str, .int .i64, .int .i64, shL]) 8 (by kernel_rfl) (by kernel_rfl) hval h
  obtain ⟨v0, e0, h0⟩ := hr 0 _ rfl
  obtain ⟨v1, e1, h1⟩ := hr 1 _ rfl
  obtain ⟨v2, e2, h2⟩ := hr 2 _ rfl
  obtain ⟨v3, e3, h3⟩ := hr 3 _ rfl
  obtain ⟨v4, e4, h4⟩ := hr 4 _ rfl
  obtain ⟨v5, e5, h5⟩ := hr 5 _ rfl
  obtain ⟨b0, rfl⟩ := h0.bool_inv
  obtain ⟨s1, rfl, g1⟩ := h1.str_inv
  obtain ⟨s2, rfl, g2⟩ := h2.str_inv
  obtain ⟨n3, rfl, _⟩ := h3.int_inv
  obtain ⟨n4, rfl, _⟩ := h4.int_inv
  obtain ⟨s5, rfl⟩ := h5.sl_ex
  obtain ⟨m, k1, k2, k3, k4⟩ := labs_of h5
  refine ⟨⟨b0, s1, s2, n3, n4, m⟩, s5, ?_, k1, g1, g2, k4⟩
  match cs, hl, e0, e1, e2, e3, e4, e5 with
  | [c0, c1, c2, c3, c4, c5], _, e0, e1, e2, e3, e4, e5 =>
    simp only [List.getElem?_cons_zero, List.getElem?_cons_succ, Option.some.injEq] at e0 e1 e2 e3 e4 e5
    rw [e0, e1, e2, e3, e4, e5]
end Go.Proofs.YtechilkjfhpkpaaGreatDoor.Ru

namespace Go.Proofs.YtechilkjfhpkpaaGreatDoor.Ru
open Go Vm Go.RowKit Num Mem Utf Lib Lab Rep
variable {ω ω' ωb : Tg} {w w' w0 wb : World} {t gs gm : Nat} {M : List Av} {r : Rl} {now last : Int} {s sl : Sl}
theorem newE_rl (h : newE r (-1) = 0) : ruleB r = true ∧ r.rc = false := by
  unfold newE at h
  by_cases h' : ruleB r = true ∧ r.rc = false
  · exact h'
  · rw [if_neg h'] at h; exact absurd h (by decide)
theorem rl_cells {g : Nat} (b1 : Blk w g 24 (rlC r s)) {Z : Bool → ByteArray → ByteArray → Int → Int → Sl → Prop} (hZ : Z r.rc r.nm r.ex r.fo r.ke s) :
    G.cB ⟨g, 0, none⟩ w fun b67 => G.cS (Addr.add ⟨g, 0, none⟩ 1) w fun s68 => G.cS (Addr.add ⟨g, 0, none⟩ 2) w fun s69 => G.cI .i64 (Addr.add ⟨g, 0, none⟩ 3) w fun n70 => G.cI .i64 (Addr.add ⟨g, 0, none⟩ 4) w fun n71 => G.cSl (Addr.add ⟨g, 0, none⟩ 5) w fun l72 => Z b67 s68 s69 n70 n71 l72 :=
  cB_at (b := r.rc) (by rw [b1.cell]; rfl) <| cS_at (b := r.nm) (by rw [addr_add, b1.cell]; rfl) <| cS_at (b := r.ex) (by rw [addr_add, b1.cell]; rfl) <| cI_at (n := r.fo) (by rw [addr_add, b1.cell]; rfl) <| cI_at (n := r.ke) (by rw [addr_add, b1.cell]; rfl) <| cSl_at (s := s) (by rw [addr_add, b1.cell]; rfl) hZ
def nextL (r : Rl) (last now : Int) (ps : List Pt) : Int := if stepE r last now ps = 0 then now else last
def nextM (r : Rl) (last now : Int) (ps : List Pt) (M : List Av) : List Av := if stepE r last now ps = 0 then stepM r now (toldL r ps) M else M
theorem rdA_of {u v : Nat} {a : Sl} {ql : QL} {M : List Av} (h : OT ω w u 41 6 a (avs ql)) (e : ql.map (·.1) = M) (he : ∀ p ∈ ql, OT ω w v 99 2 p.2 (labs p.1.1)) (hM : ∀ a ∈ M, (rt a.1).1 = 0) : RdAs w a ql :=
  ⟨h.rd, fun p hp => ⟨(he p hp).rd, by
    have := (rt_short (hM p.1 (by rw [← e]; exact List.mem_map_of_mem hp))).1
    omega⟩⟩
theorem RdAs.keep {a : Sl} {x : QL} (h : RdAs w a x) (k : Keep w w') : RdAs w' a x := ⟨h.1.keep k, fun p hp => ⟨(h.2 p hp).1.keep k, (h.2 p hp).2⟩⟩
theorem RdOs.keep {a : Sl} {x : OQ} (h : RdOs w a x) (k : Keep w w') : RdOs w' a x := ⟨h.1.keep k, fun p hp => ⟨(h.2 p hp).1.keep k, (h.2 p hp).2⟩⟩
theorem RdAs.nil (w : World) : RdAs w nilS [] := ⟨Rd.nil w 6, by simp⟩
theorem RdOs.nil (w : World) : RdOs w nilS [] := ⟨Rd.nil w 1, by simp⟩
theorem over_rt {T M : List Av} {ps : List Pt} (h : Good M) (hr : RlOk r) (he : toldE r ps = 0) : ∀ m ∈ overM r now (toldL r ps) M, (rt m).1 = 0 := fun m hm => by
  obtain ⟨b, hb, e⟩ := List.mem_filterMap.1 hm
  have eb : m = b.1 := by
    unfold overA at e
    split at e
    · cases e
    · split at e
      · cases e
      · split at e
        · injection e with e; exact e.symm
        · cases e
  rw [eb]
  exact merge_rt (nodupL (toldS_up r ps)) h.up (told_rt hr he) h.rt b hb
theorem rdO_of {u v : Nat} {a : Sl} {oq : OQ} {O : List (List Lb)} (h : OT ω w u 22 1 a (sls oq)) (e : oq.map (·.1) = O) (he : ∀ p ∈ oq, OT ω w v 99 2 p.2 (labs p.1)) (hO : ∀ m ∈ O, (rt m).1 = 0) : RdOs w a oq :=
  ⟨h.rd, fun p hp => ⟨(he p hp).rd, by
    have := (rt_short (hO p.1 (by rw [← e]; exact List.mem_map_of_mem hp))).1
    omega⟩⟩
theorem step1_ok (m : Nat) {q : PQ} (top : Top w0 ω w) (htab : UTab w0) (het : ETab w0) (t0 : 0 < t) (hm : t + 3 ≤ m) (ks : KS ω w t gs r last M) (hr : RlOk r) (hM : Good M) (hMl : M.length ≤ 20000000) (hq : RdPs w s q) (hql : q.length ≤ 10000000)
    {K : Sl → Sl → Int → World → Prop}
    (hK : ∀ a o ql oq ua va uo vo ω' w', m < ua → ua < va → va < uo → uo < vo → Stp (DT2 t) ω ω' w w' → KS ω' w' t gs r (nextL r last now (q.map (·.1))) (nextM r last now (q.map (·.1)) M) → Good (nextM r last now (q.map (·.1)) M) → (nextM r last now (q.map (·.1)) M).length ≤ M.length + q.length →
      OT ω' w' ua 41 6 a (avs ql) → (∀ p ∈ ql, OT ω' w' va 99 2 p.2 (labs p.1.1)) → RdAs w' a ql →
      OT ω' w' uo 22 1 o (sls oq) → (∀ p ∈ oq, OT ω' w' vo 99 2 p.2 (labs p.1)) → RdOs w' o oq → ql.length ≤ M.length + q.length → oq.length ≤ M.length + q.length →
      (stepE r last now (q.map (·.1)) ≠ 0 → ql = [] ∧ oq = []) → (stepE r last now (q.map (·.1)) = 0 → ql.map (·.1) = nextM r last now (q.map (·.1)) M ∧ oq.map (·.1) = overM r now (toldL r (q.map (·.1))) M) → K a o (stepE r last now (q.map (·.1))) w') : C.rules_Keeper_Step (some ⟨gs, 0, none⟩) now s w K := by
  refine step_ok m top htab het t0 hm ks hr hM.up hM.rt hMl hq hql (fun hne ω' w' k => ?_) (fun he a o ql oq ua va uo vo ω' w' h1 h2 h3 h4 k ks' oa eq hea oo eo heo => ?_)
  · have eL : nextL r last now (q.map (·.1)) = last := if_neg hne
    have eM : nextM r last now (q.map (·.1)) M = M := if_neg hne
    rw [eL, eM] at hK
    exact hK nilS nilS [] [] (m + 1) (m + 2) (m + 3) (m + 4) ω' w' (by omega) (by omega) (by omega) (by omega) (k.non _) (ks.stp k (off_non t)) hM (by omega) (OT.nil ..) (by simp) (RdAs.nil w') (OT.nil ..) (by simp) (RdOs.nil w') (by simp) (by simp) (fun _ => ⟨rfl, rfl⟩) (fun h => absurd h hne)
  · have het := (stepE_told he).1
    have eL : nextL r last now (q.map (·.1)) = now := if_pos he
    have eM : nextM r last now (q.map (·.1)) M = stepM r now (toldL r (q.map (·.1))) M := if_pos he
    rw [eL, eM] at hK
    have hT : (toldL r (q.map (·.1))).length ≤ q.length := by have := toldS_len r (q.map (·.1)); rw [List.length_map] at this; exact this
    have g := Good.step (r := r) (now := now) hM hr het
    have l1 := step_len (r := r) (now := now) (T := toldL r (q.map (·.1))) (M := M)
    have l2 := over_len (r := r) (now := now) (T := toldL r (q.map (·.1))) (M := M)
    have e1 := congrArg List.length eq
    have e2 := congrArg List.length eo
    rw [List.length_map] at e1 e2
    have := hK a o ql oq ua va uo vo ω' w' h1 h2 h3 h4 k ks' g (by omega) oa hea (rdA_of oa eq hea g.rt) oo heo (rdO_of oo eo heo (over_rt (T := []) hM hr het)) (by omega) (by omega) (fun h => absurd he h) (fun _ => ⟨eq, eo⟩)
    rw [he] at this; exact this
end Go.Proofs.YtechilkjfhpkpaaGreatDoor.Ru

namespace Go.Proofs.YtechilkjfhpkpaaGreatDoor.Ru
open Go Vm Go.RowKit Num Mem Utf Lib Lab Rep
variable {ω ω' ωb : Tg} {w w' w0 wb : World} {t gs gm : Nat} {M : List Av} {r : Rl} {now last : Int} {s sl rs xs : Sl}
def tells (r : Rl) (ps : List Pt) (x : List Lb) : Bool := ps.any fun p => decide (labE r p.1 = 0) && decide (labO r p.1 = x)
theorem tells_iff {ps : List Pt} {x : List Lb} : tells r ps x = true ↔ ∃ p ∈ ps, labE r p.1 = 0 ∧ labO r p.1 = x := by
  unfold tells
  rw [List.any_eq_true]
  constructor
  · rintro ⟨p, hp, h⟩
    rw [Bool.and_eq_true] at h
    exact ⟨p, hp, of_decide_eq_true h.1, of_decide_eq_true h.2⟩
  · rintro ⟨p, hp, h1, h2⟩
    exact ⟨p, hp, by rw [decide_eq_true h1, decide_eq_true h2]; rfl⟩
theorem labE_wE (hr : ruleB r = true) (l : List Lb) : labE r l = wE l (moreA r) := by unfold labE; rw [if_pos hr]
theorem labO_len (hr : ruleB r = true) {l : List Lb} (h : labE r l = 0) : (labO r l).length ≤ 16 := by
  rw [labE_wE hr] at h
  exact (rt_short (labO_rt (rl_of hr) h)).1
theorem tells_get (hr : ruleB r = true) {ps : List Pt} (h : toldE r ps = 0) (x : List Lb) : tells r ps x = (getM (toldL r ps) x).isSome := by
  cases hg : getM (toldL r ps) x with
  | none =>
    cases ht : tells r ps x with
    | false => rfl
    | true =>
      obtain ⟨p, hp, _, e⟩ := tells_iff.1 ht
      exact absurd e (getM_none.1 hg (tA r p) ((mem_toldL h).2 ⟨p, hp, rfl⟩))
  | some a =>
    obtain ⟨h1, h2⟩ := (getM_some (toldS_up r ps)).1 hg
    obtain ⟨p, hp, e⟩ := (mem_toldL h).1 h1
    refine tells_iff.2 ⟨p, hp, ?_, by rw [← h2, e]; rfl⟩
    rw [labE_wE hr]
    exact (toldE_iff.1 h).1 p hp
theorem tell_ok {q : PQ} {x : List Lb} {b : Nat} (hr : ruleB r = true) (hs : Rd w0 rs 2 (labs r.ls)) (hq : RdPs w0 s q) (hql : q.length ≤ 10000000) (hqz : ∀ p ∈ q, LbSm b p.1.1) (hb : b ≤ 2000000) (hx : Rd w0 xs 2 (labs x)) {K : Bool → World → Prop}
    (hK : ∀ w', Keep w0 w' → K (tells r (q.map (·.1)) x) w') : C.tocsinlaw19_told r.rc r.nm r.ex r.fo r.ke rs s xs w0 K := by
  unfold C.tocsinlaw19_told
  have hsn := rdP_n hq.row
  obtain ⟨r16, rsz⟩ := rt_short (rl_of hr).rt
  refine newD fun g w1 k1 hg b1 => ?_
  have b1 : Blk w1 g 24 (rlC r rs) := b1
  unfold C.tocsinlaw19_told.S9
  refine C.tocsinlaw19_told.L5_ind fun X hX => ?_
  have key : ∀ (d i : Nat) (w2 : World), i + d = q.length → Keep w1 w2 → (∀ j (h : j < q.length), j < i → ¬ (labE r (q[j]).1.1 = 0 ∧ labO r (q[j]).1.1 = x)) → X s xs (some ⟨g, 0, none⟩) (i : Int) w2 := by
    intro d
    induction d with
    | zero =>
      intro i w2 hi k h0
      refine hX _ _ _ _ _ ?_
      unfold C.tocsinlaw19_told.S7 C.tocsinlaw19_told.S2
      refine cond_d (fun h => by omega) (fun _ => ?_)
      have := hK w2 (Keep.trans k1.1 k)
      rw [show tells r (q.map (·.1)) x = false from Bool.eq_false_iff.2 fun h => by
        obtain ⟨p, hp, h1, h2⟩ := tells_iff.1 h
        obtain ⟨c, hc, rfl⟩ := List.mem_map.1 hp
        obtain ⟨j, hj, rfl⟩ := List.mem_iff_getElem.1 hc
        exact h0 j hj (by omega) ⟨h1, h2⟩] at this
      exact this
    | succ d ih =>
      intro i w2 hi k h0
      refine hX _ _ _ _ _ ?_
      unfold C.tocsinlaw19_told.S7
      have hiq : i < q.length := by omega
      have hx' : q[i]? = some q[i] := List.getElem?_eq_getElem hiq
      have hmem := List.getElem_mem hiq
      have next : ¬ (labE r (q[i]).1.1 = 0 ∧ labO r (q[i]).1.1 = x) → ∀ w3, Keep w1 w3 → X s xs (some ⟨g, 0, none⟩) (IntKind.i64.wrap ((i : Int) + 1)) w3 := fun hn w3 k3 => by
        rw [wI64 (by omega) (by omega), show (i : Int) + 1 = ((i + 1 : Nat) : Int) by omega]
        refine ih (i + 1) w3 (by omega) k3 fun j hj hji => ?_
        rcases Nat.lt_or_ge j i with h | h
        · exact h0 j hj h
        · obtain rfl : j = i := by omega
          exact hn
      have kd := Keep.trans k (Keep.drew w2)
      have k0d := Keep.trans k1.1 kd
      refine cond_d (fun _ => ptr_at <| rl_cells (b1.keep kd) ?_) (fun h => by omega)
      refine rdP_at (hq.row.keep k0d) (k := i) rfl hx' fun a a0 a1 => cSl_at a0 ?_
      refine rlabels_ok (hs.keep k0d) (fun y hy => by have := (rsz y hy).2; omega) (by omega) ((hq.el _ hmem).keep k0d) (fun y hy => by have := ((hqz _ hmem).2 y hy).2; omega) fun l3 w3 k3 h1 h2 => ?_
      have kk := Keep.trans kd k3
      refine cond_eq (fun he => ?_) (fun hne => next (fun h => hne h.1) w3 kk)
      have o3 := h2 he
      refine rsame_ok (Own.rd o3) (hx.keep (Keep.trans k1.1 kk)) (by have := labO_len hr he; omega) fun w4 k4 => cond_of (fun h => ?_) (fun h => next (fun h' => of_decide_eq_false h h'.2) w4 (Keep.trans kk k4))
      have := hK w4 (Keep.trans k1.1 (Keep.trans kk k4))
      rw [tells_iff.2 ⟨(q[i]).1, List.mem_map_of_mem hmem, he, of_decide_eq_true h⟩] at this
      exact this
  exact key q.length 0 w1 (by omega) (Keep.refl _) (fun j hj h => by omega)
theorem kactive_ok (ω : Tg) (ks : KS ω w t gs r last M) (hM : Good M) (hl : M.length ≤ 100000000) (u v : Nat) {K : Sl → World → Prop}
    (hK : ∀ a ql ω' w', Stp Non ω ω' w w' → OT ω' w' u 41 6 a (avs ql) → ql.map (·.1) = M → (∀ p ∈ ql, OT ω' w' v 99 2 p.2 (labs p.1.1)) → K a w') : C.rules_Keeper_Active (some ⟨gs, 0, none⟩) w K := by
  obtain ⟨gm, pl, rs, ka, hp⟩ := ks
  have hpl := hp.length_eq
  rw [List.length_map] at hpl
  refine active_ok ω ka.aw hp hM.up (by omega) (fun p hpm => (rt_short (hM.rt _ (mem_perm hp hpm))).1) u (fun _ => v) fun a ql ω' w' k o e he => hK a ql ω' w' k o e fun p hp => ?_
  obtain ⟨j, hj, rfl⟩ := List.mem_iff_getElem.1 hp
  exact he j hj
end Go.Proofs.YtechilkjfhpkpaaGreatDoor.Ru

namespace Go.Proofs.YtechilkjfhpkpaaGreatDoor.Ru
open Go Vm Go.RowKit Num Mem Utf Lib Lab Rep
variable {ω ω' ωb : Tg} {w w' w0 wb : World} {t gs gm : Nat} {T M : List Av} {r : Rl} {now last : Int} {s sl rs xs : Sl}
def hereB (M : List Av) (x : List Lb) : Bool := M.any fun a => decide (a.1 = x)
def leftN (O : List (List Lb)) (x : List Lb) : Nat := (O.filter fun m => decide (m = x)).length
theorem hereB_iff {x : List Lb} : hereB M x = true ↔ ∃ a ∈ M, a.1 = x := by
  unfold hereB
  rw [List.any_eq_true]
  exact ⟨fun ⟨a, h1, h2⟩ => ⟨a, h1, of_decide_eq_true h2⟩, fun ⟨a, h1, h2⟩ => ⟨a, h1, decide_eq_true h2⟩⟩
theorem hereB_take {x : List Lb} {n : Nat} (h : n < M.length) : hereB (M.take (n + 1)) x = (hereB (M.take n) x || decide ((M[n]).1 = x)) := by
  unfold hereB
  rw [List.take_succ_eq_append_getElem h, List.any_append]
  simp
theorem leftN_take {O : List (List Lb)} {x : List Lb} {n : Nat} (h : n < O.length) : leftN (O.take (n + 1)) x = leftN (O.take n) x + (if O[n] = x then 1 else 0) := by
  unfold leftN
  rw [List.take_succ_eq_append_getElem h, List.filter_append, List.length_append]
  by_cases e : O[n] = x
  · simp [e]
  · simp [e]
theorem overA_lab {a : Av} {m : List Lb} (h : overA r now T a = some m) : m = a.1 ∧ inT T a = false ∧ ¬ a.2.1 = 1 ∧ goesA r now a := by
  unfold overA at h
  split at h
  · cases h
  · rename_i h1
    split at h
    · cases h
    · rename_i h2
      split at h
      · rename_i h3
        injection h with h
        exact ⟨h.symm, by simpa using h1, h2, h3⟩
      · cases h
theorem over_nodup (hM : M.Pairwise ltA) : (overM r now T M).Nodup := by
  unfold overM
  rw [List.Nodup, List.pairwise_filterMap]
  refine (merge_up hM).imp fun {a b} h x hx y hy e => lt_ne h ?_
  rw [← (overA_lab hx).1, ← (overA_lab hy).1, e]
instance decMemL (x : List Lb) (O : List (List Lb)) : Decidable (x ∈ O) := decidable_of_iff (O.any (fun y => decide (y = x)) = true) (by simp)
theorem left_le (hM : M.Pairwise ltA) (x : List Lb) : leftN (overM r now T M) x = if x ∈ overM r now T M then 1 else 0 := by
  have hn := over_nodup (r := r) (now := now) (T := T) hM
  generalize overM r now T M = O at *
  unfold leftN
  induction O with
  | nil => rfl
  | cons y O ih =>
    have h' := List.nodup_cons.1 hn
    have ih := ih h'.2
    by_cases e : y = x
    · subst e
      rw [if_neg h'.1] at ih
      rw [List.filter_cons_of_pos (by simp), List.length_cons, ih, if_pos List.mem_cons_self]
    · rw [List.filter_cons_of_neg (by simpa using e), ih]
      by_cases hx : x ∈ O
      · rw [if_pos hx, if_pos (List.mem_cons_of_mem _ hx)]
      · rw [if_neg hx, if_neg (fun h => (List.mem_cons.1 h).elim (fun h => e h.symm) hx)]
theorem inT_iff {a : Av} : inT T a = false ↔ ∀ b ∈ T, b.1 ≠ a.1 := by
  unfold inT
  rw [← getM_none]
  cases getM T a.1 <;> simp
theorem kept_fate (hT : T.Pairwise ltA) (hM : M.Pairwise ltA) {m : Av} (hm : m ∈ M) :
    (inT T m = true → hereB (stepM r now T M) m.1 = true ∧ leftN (overM r now T M) m.1 = 0) ∧
    (inT T m = false → m.2.1 = 1 → leftN (overM r now T M) m.1 = 0) ∧
    (inT T m = false → ¬ m.2.1 = 1 → hereB (stepM r now T M) m.1 = decide (leftN (overM r now T M) m.1 = 0)) := by
  have mem := mem_merge (r := r) (now := now) (nodupL hT) hM
  have un : ∀ a ∈ mergeM r now T M, ∀ b ∈ mergeM r now T M, a.1 = b.1 → a = b := fun a ha b hb e => uniq (merge_up hM) ha hb e
  have left0 : (¬ m.1 ∈ overM r now T M) → leftN (overM r now T M) m.1 = 0 := fun h => by rw [left_le hM, if_neg h]
  refine ⟨fun h => ?_, fun h h1 => ?_, fun h h1 => ?_⟩
  · obtain ⟨a, ha, e⟩ : ∃ a ∈ T, a.1 = m.1 := by
      refine Classical.byContradiction fun hn => ?_
      rw [inT_iff.2 fun b hb e => hn ⟨b, hb, e⟩] at h
      cases h
    have hb : nx r now M a ∈ mergeM r now T M := (mem _).2 (.inl ⟨a, ha, rfl⟩)
    have hl : (nx r now M a).1 = m.1 := (nx_lab M a).trans e
    have hin : inT T (nx r now M a) = true := by
      cases h' : inT T (nx r now M a) with
      | true => rfl
      | false => exact absurd (nx_lab M a).symm (inT_iff.1 h' a ha)
    refine ⟨hereB_iff.2 ⟨nx r now M a, List.mem_filterMap.2 ⟨_, hb, (stepA_in hin).1⟩, hl⟩, left0 fun hx => ?_⟩
    obtain ⟨b, hb', eb⟩ := List.mem_filterMap.1 hx
    obtain ⟨e1, e2, _⟩ := overA_lab eb
    rw [un _ hb' _ hb (by rw [hl, ← e1]), hin] at e2
    cases e2
  · refine left0 fun hx => ?_
    have hb : m ∈ mergeM r now T M := (mem _).2 (.inr ⟨hm, inT_iff.1 h⟩)
    obtain ⟨b, hb', eb⟩ := List.mem_filterMap.1 hx
    obtain ⟨e1, _, e3, _⟩ := overA_lab eb
    rw [un _ hb' _ hb e1.symm] at e3
    exact e3 h1
  · have hb : m ∈ mergeM r now T M := (mem _).2 (.inr ⟨hm, inT_iff.1 h⟩)
    by_cases hg : goesA r now m
    · obtain ⟨e1, e2⟩ := stepA_go h h1 hg
      have hx : m.1 ∈ overM r now T M := List.mem_filterMap.2 ⟨m, hb, e2⟩
      rw [left_le hM, if_pos hx]
      refine Bool.eq_false_iff.2 fun hh => ?_
      obtain ⟨a, ha, e⟩ := hereB_iff.1 hh
      obtain ⟨b, hb', eb⟩ := List.mem_filterMap.1 ha
      rw [un _ hb' _ hb (by rw [← stepA_lab eb, e]), e1] at eb
      cases eb
    · obtain ⟨e1, e2⟩ := stepA_stay h h1 hg
      rw [left0 fun hx => ?_]
      · exact hereB_iff.2 ⟨goneA now m, List.mem_filterMap.2 ⟨m, hb, e1⟩, goneA_lab m⟩
      · obtain ⟨b, hb', eb⟩ := List.mem_filterMap.1 hx
        obtain ⟨e3, _, _, e4⟩ := overA_lab eb
        rw [un _ hb' _ hb e3.symm] at e4
        exact hg e4
open C.tocsinlaw19_RulesKept in
theorem kept_here {a was gone : Sl} {x y : QL} {j : Nat} {p : Av × Sl} (ha : RdAs w0 a x) (hw : RdAs w0 was y) (hj : y[j]? = some p) (hl : x.length ≤ 1000000000000) {K : KT} {kc5 : Cur g5} {kc13 : Cur g13} {sc : Sl} {rp kp : Option Addr} {i : Int}
    (hK : ∀ w', Keep w0 w' → S28 K kc5 kc13 sc rp kp was i a gone (j : Int) (hereB (x.map (·.1)) p.1.1) w') : S35 K kc5 kc13 sc rp kp was i a gone (j : Int) false w0 := by
  unfold S35
  have hna := rdA_n ha.1
  refine L31_ind fun X hX => ?_
  have key : ∀ (d n : Nat) (h : Bool) (w1 : World), n + d = x.length → Keep w0 w1 → h = hereB ((x.map (·.1)).take n) p.1.1 → X sc rp kp was i a gone (j : Int) h (n : Int) w1 := by
    intro d
    induction d with
    | zero =>
      intro n h w1 hn k e
      refine hX _ _ _ _ _ _ _ _ _ _ _ ?_
      unfold S33
      rw [List.take_of_length_le (by rw [List.length_map]; omega)] at e
      exact cond_d (fun h => by omega) (fun _ => by rw [e]; exact hK w1 k)
    | succ d ih =>
      intro n h w1 hn k e
      refine hX _ _ _ _ _ _ _ _ _ _ _ ?_
      unfold S33
      have hnx : n < x.length := by omega
      have hx' : x[n]? = some x[n] := List.getElem?_eq_getElem hnx
      have et := hereB_take (M := x.map (·.1)) (x := p.1.1) (n := n) (by rw [List.length_map]; exact hnx)
      rw [← e, List.getElem_map] at et
      have next : ∀ h' w2, Keep w0 w2 → h' = (h || decide ((x[n]).1.1 = p.1.1)) → X sc rp kp was i a gone (j : Int) h' (IntKind.i64.wrap ((n : Int) + 1)) w2 := fun h' w2 k2 e2 => by
        rw [wI64 (by omega) (by omega), show (n : Int) + 1 = ((n + 1 : Nat) : Int) by omega]
        exact ih (n + 1) h' w2 (by omega) k2 (e2.trans et.symm)
      have kd := Keep.trans k (Keep.drew w1)
      refine cond_d (fun _ => cond_of (fun h1 => next true _ kd (by rw [h1]; rfl)) (fun h1 => ?_)) (fun h => by omega)
      refine rdA_at (ha.1.keep kd) (k := n) rfl hx' fun b bc => cSl_at bc.1 <| rdA_at (hw.1.keep kd) (k := j) rfl hj fun c cc => cSl_at cc.1 ?_
      refine rsame_ok ((ha.2 _ (List.getElem_mem hnx)).1.keep kd) ((hw.2 _ (List.mem_of_getElem? hj)).1.keep kd) (ha.2 _ (List.getElem_mem hnx)).2 fun w2 k2 => next _ w2 (Keep.trans kd k2) (by rw [h1]; rfl)
  exact key x.length 0 false w0 (by omega) (Keep.refl _) rfl
open C.tocsinlaw19_RulesKept in
theorem kept_left {a was gone : Sl} {x : OQ} {y : QL} {j : Nat} {p : Av × Sl} {here : Bool} (ha : RdOs w0 gone x) (hw : RdAs w0 was y) (hj : y[j]? = some p) (hl : x.length ≤ 1000000000000) {K : KT} {kc5 : Cur g5} {kc13 : Cur g13} {sc : Sl} {rp kp : Option Addr} {i : Int}
    (hK : ∀ w', Keep w0 w' → S19 K kc5 kc13 sc rp kp was i a gone (j : Int) here ((leftN (x.map (·.1)) p.1.1 : Nat) : Int) w') : S28 K kc5 kc13 sc rp kp was i a gone (j : Int) here w0 := by
  unfold S28 S26
  have hna := sls_n ha.1
  refine L22_ind fun X hX => ?_
  have key : ∀ (d n c : Nat) (w1 : World), n + d = x.length → Keep w0 w1 → c = leftN ((x.map (·.1)).take n) p.1.1 → c ≤ n → X sc rp kp was i a gone (j : Int) here (c : Int) (n : Int) w1 := by
    intro d
    induction d with
    | zero =>
      intro n c w1 hn k e hc
      refine hX _ _ _ _ _ _ _ _ _ _ _ _ ?_
      unfold S24
      rw [List.take_of_length_le (by rw [List.length_map]; omega)] at e
      exact cond_d (fun h => by omega) (fun _ => by rw [e]; exact hK w1 k)
    | succ d ih =>
      intro n c w1 hn k e hc
      refine hX _ _ _ _ _ _ _ _ _ _ _ _ ?_
      unfold S24
      have hnx : n < x.length := by omega
      have hx' : x[n]? = some x[n] := List.getElem?_eq_getElem hnx
      have et := leftN_take (O := x.map (·.1)) (x := p.1.1) (n := n) (by rw [List.length_map]; exact hnx)
      rw [← e, List.getElem_map] at et
      have kd := Keep.trans k (Keep.drew w1)
      refine cond_d (fun _ => ?_) (fun h => by omega)
      refine rdO_at (ha.1.keep kd) (k := n) rfl hx' fun b bc => cSl_at bc <| rdA_at (hw.1.keep kd) (k := j) rfl hj fun c' cc => cSl_at cc.1 ?_
      refine rsame_ok ((ha.2 _ (List.getElem_mem hnx)).1.keep kd) ((hw.2 _ (List.mem_of_getElem? hj)).1.keep kd) (ha.2 _ (List.getElem_mem hnx)).2 fun w2 k2 => ?_
      have k02 := Keep.trans kd k2
      rw [wI64 (x := (n : Int) + 1) (by omega) (by omega), show (n : Int) + 1 = ((n + 1 : Nat) : Int) by omega]
      refine cond_d (fun h => ?_) (fun h => ?_)
      · rw [wI64 (by omega) (by omega), show (c : Int) + 1 = ((c + 1 : Nat) : Int) by omega]
        rw [if_pos h] at et
        exact ih (n + 1) (c + 1) w2 (by omega) k02 et.symm (by omega)
      · rw [if_neg h] at et
        exact ih (n + 1) c w2 (by omega) k02 et.symm (by omega)
  exact key x.length 0 0 w0 (by omega) (Keep.refl _) rfl (Nat.le_refl _)
open C.tocsinlaw19_RulesKept in
theorem kept_one {a was gone : Sl} {y : QL} {j : Nat} {p : Av × Sl} {here : Bool} {L : Nat} {g b : Nat} {K : KT} {kc5 : Cur g5} {kc13 : Cur g13} {sc : Sl} {kp : Option Addr} {i : Nat} {m : List Tk} {f : Nat → Nat} {tk : Tk}
    (hr : ruleB r = true) (hb : b ≤ 2000000) (hg : Blk w0 g 24 (rlC r rs)) (hrs : Rd w0 rs 2 (labs r.ls)) (hsc : Scr w0 sc m f b) (hi : m[i]? = some tk) (hw : RdAs w0 was y) (hj : y[j]? = some p)
    (h2 : p.1.2.1 = 2 → here = decide (L ≠ 1)) (hle : L ≤ 1) (h1 : p.1.2.1 = 1 → L = 0) (htl : L = 1 → tells r (tk.2.2.map (·.1)) p.1.1 = false)
    (hK : ∀ w', Keep w0 w' → S15 K kc5 kc13 sc (some ⟨g, 0, none⟩) kp was (i : Int) a gone (j : Int) w') : S19 K kc5 kc13 sc (some ⟨g, 0, none⟩) kp was (i : Int) a gone (j : Int) here (L : Int) w0 := by
  have S18' : S18 K kc5 kc13 sc (some ⟨g, 0, none⟩) kp was (i : Int) a gone (j : Int) (L : Int) w0 := by
    unfold S18
    have kd := Keep.drew w0
    refine cond_eq (fun h => ?_) (fun _ => hK _ kd)
    obtain ⟨hq, hql, hqz⟩ := hsc.el i _ hi
    have hul := hsc.up (show i + 1 ≤ m.length by have := (List.getElem?_eq_some_iff.1 hi).1; omega)
    simp only [sumTo] at hul
    refine ptr_at <| rl_cells (hg.keep kd) <| rdK_at (hsc.keep kd) (k := i) rfl hi fun c c0 c1 => cSl_at c1 <| rdA_at (hw.1.keep kd) (k := j) rfl hj fun d dc => cSl_at dc.1 ?_
    refine tell_ok hr (hrs.keep kd) (hq.keep kd) (by omega) hqz hb ((hw.2 _ (List.mem_of_getElem? hj)).1.keep kd) fun w1 k1 => ?_
    rw [htl (by omega)]
    exact cond_f rfl (hK w1 (Keep.trans kd k1))
  unfold S19
  have rest : G.cond (decide ((L : Int) > (1 : Int))) (K false w0) (G.ix was.a was.n (j : Int) 6 fun p101 => G.cI .i64 (p101.add 1) w0 fun n102 => G.cond (n102 == (1 : Int)) (G.cond (decide ((L : Int) > (0 : Int))) (K false w0) (S18 K kc5 kc13 sc (some ⟨g, 0, none⟩) kp was (i : Int) a gone (j : Int) (L : Int) w0)) (S18 K kc5 kc13 sc (some ⟨g, 0, none⟩) kp was (i : Int) a gone (j : Int) (L : Int) w0)) := by
    refine cond_d (fun h => by omega) (fun _ => rdA_at hw.1 (k := j) rfl hj fun d dc => cI_at dc.2.1 <| cond_eq (fun h => ?_) (fun _ => S18'))
    have := h1 h
    exact cond_d (fun h => by omega) (fun _ => S18')
  refine rdA_at hw.1 (k := j) rfl hj fun d dc => cI_at dc.2.1 <| cond_eq (fun h => ?_) (fun _ => rest)
  refine cond_f ?_ rest
  rw [h2 h]
  rcases (show L = 0 ∨ L = 1 by omega) with rfl | rfl <;> rfl
end Go.Proofs.YtechilkjfhpkpaaGreatDoor.Ru

namespace Go.Proofs.YtechilkjfhpkpaaGreatDoor.Ru
open Go Vm Go.RowKit Num Mem Utf Lib Lab Rep
variable {ω ω' ωb : Tg} {w w' w0 wb : World} {t gs gm : Nat} {T M : List Av} {r : Rl} {now last : Int} {s sl rs xs : Sl}
theorem kept_law (htab : UTab w0) (het : ETab w0) (hs : Rd w0 s 2 (labs r.ls)) {b : Nat} (hz : RlSm b r) (hb : b ≤ 2000000) {m : List Tk} {f : Nat → Nat} (hc : Scr w0 sl m f b) (hml : m.length < b) {K : Bool → World → Prop} (hK : ∀ w', Keep w0 w' → K true w') :
    C.tocsinlaw19_RulesKept r.rc r.nm r.ex r.fo r.ke s sl w0 K := by
  unfold C.tocsinlaw19_RulesKept
  have hzl := hz.2.2.1
  have hsn := hc.len
  refine new_T (ω := fun _ => 0) 9 fun g ω1 w1 k1 b1 => ?_
  have b1 : BT ω1 w1 9 g 24 (rlC r s) := b1
  have top1 := (Top.init w0).stp k1
  refine rl_cells b1.blk ?_
  refine new_ok ω1 1 (htab.keep top1.k) (hs.keep top1.k) (by omega) (fun hne ω2 w2 k2 => ?_) (fun h0 g2 ω2 w2 k2 ks2 => ?_)
  · have top2 := top1.stp k2
    exact cond_t rfl <| cond_t rfl <| known_ok (htab.keep top2.k) (het.keep top2.k) fun w' k' => hK w' (Keep.trans top2.k k')
  have hrb := (newE_rl h0).1
  have hr := rl_of hrb
  have top2 := top1.stp k2
  refine cond_f rfl <| cond_f rfl ?_
  have S2 : ∀ w1, Keep w0 w1 → C.tocsinlaw19_RulesKept.S2 K w1 := fun w1 k1 => known_ok (htab.keep k1) (het.keep k1) fun w' k' => hK w' (Keep.trans k1 k')
  unfold C.tocsinlaw19_RulesKept.S49
  refine C.tocsinlaw19_RulesKept.L5_ind fun X hX => ?_
  have key : ∀ (d i : Nat) (last : Int) (M : List Av) (wq : QL) (was : Sl) (ω : Tg) (w4 : World), i + d = m.length → Top w0 ω w4 → BT ω w4 9 g 24 (rlC r s) → KS ω w4 1 g2 r last M → Good M → M.length ≤ sumTo f i → OT ω w4 20 41 6 was (avs wq) → wq.map (·.1) = M → (∀ p ∈ wq, OT ω w4 21 99 2 p.2 (labs p.1.1)) →
      X sl (some ⟨g, 0, none⟩) (some ⟨g2, 0, none⟩) was (i : Int) w4 := by
    intro d
    induction d with
    | zero =>
      intro i last M wq was ω w4 hi top bg ka hM hMl ow ew hw
      refine hX _ _ _ _ _ _ ?_
      unfold C.tocsinlaw19_RulesKept.S47
      exact cond_d (fun h => by omega) (fun _ => S2 w4 top.k)
    | succ d ih =>
      intro i last M wq was ω w4 hi top bg ka hM hMl ow ew hw
      refine hX _ _ _ _ _ _ ?_
      unfold C.tocsinlaw19_RulesKept.S47
      have him : i < m.length := by omega
      refine cond_d (fun _ => cond_d (fun _ => ?_) (fun _ => S2 w4 top.k)) (fun h => by omega)
      unfold C.tocsinlaw19_RulesKept.S44
      have hx : m[i]? = some m[i] := List.getElem?_eq_getElem him
      obtain ⟨hq, hql, hqz⟩ := hc.el i _ hx
      generalize m[i] = x at *
      obtain ⟨now, qs, q⟩ := x
      dsimp only at hq hql hqz
      have hsum := hc.up (show i + 1 ≤ m.length by omega)
      have hsum1 : sumTo f (i + 1) = sumTo f i + f i := rfl
      have kd := Keep.trans top.k (Keep.drew w4)
      refine rdK_at (hc.keep kd) (k := i) rfl hx fun a a0 a1 => cI_at a0 <| rdK_at (hc.keep kd) (k := i) rfl hx fun a' a0' a1' => cSl_at a1' ?_
      have sd := drew_stp ω w4
      have topd := top.stp sd
      have next : ∀ (last' : Int) (M' : List Av) (wq' : QL) (was' : Sl) (ω' : Tg) (w' : World), Top w0 ω' w' → BT ω' w' 9 g 24 (rlC r s) → KS ω' w' 1 g2 r last' M' → Good M' → M'.length ≤ sumTo f (i + 1) → OT ω' w' 20 41 6 was' (avs wq') → wq'.map (·.1) = M' → (∀ p ∈ wq', OT ω' w' 21 99 2 p.2 (labs p.1.1)) →
          C.tocsinlaw19_RulesKept.S7 K X sl (some ⟨g, 0, none⟩) (some ⟨g2, 0, none⟩) was' (i : Int) w' := fun last' M' wq' was' ω' w' h1 h2 h3 h4 h5 h6 h7 h8 => by
        unfold C.tocsinlaw19_RulesKept.S7
        rw [wI64 (by omega) (by omega), show (i : Int) + 1 = ((i + 1 : Nat) : Int) by omega]
        exact ih (i + 1) last' M' wq' was' ω' w' (by omega) h1 h2 h3 h4 h5 h6 h7 h8
      have d9 : DT2 1 9 = false := dt2_off (by omega)
      have d20 : DT2 1 20 = false := dt2_off (by omega)
      have d21 : DT2 1 21 = false := dt2_off (by omega)
      refine step1_ok 30 topd htab het (by decide) (by decide) (ka.stp sd (off_non 1)) hr hM (by omega) (hq.keep topd.k) (by omega) fun l35 l36 ql oq ua va uo vo ω5 w5 h1 h2 h3 h4 k5 ks5 hM5 hM5l oa hea ra oo heo ro hqll hoql hE hOK => ?_
      dsimp only at ks5 hM5 hM5l hOK hE
      have top5 := topd.stp k5 (dt2_off (by omega))
      have ow5 := (ow.stp sd).stp k5 d20
      have hw5 : ∀ p ∈ wq, OT ω5 w5 21 99 2 p.2 (labs p.1.1) := fun p hp => ((hw p hp).stp sd).stp k5 d21
      have bg5 := (bg.stp sd).stp k5 d9
      have rw5 : RdAs w5 was wq := rdA_of ow5 ew hw5 hM.rt
      by_cases he : stepE r last now (q.map (·.1)) = 0
      · obtain ⟨eq, eo⟩ := hOK he
        refine cond_ne (fun h => absurd he h) (fun _ => ?_)
        have ht := (stepE_told he).1
        have eM : nextM r last now (q.map (·.1)) M = stepM r now (toldL r (q.map (·.1))) M := if_pos he
        unfold C.tocsinlaw19_RulesKept.S42
        refine C.tocsinlaw19_RulesKept.L13_ind fun Y hY => ?_
        have hwn := rdA_n ow5.rd
        have hwl : wq.length = M.length := by rw [← ew, List.length_map]
        have key2 : ∀ (e j : Nat) (w6 : World), j + e = wq.length → Keep w5 w6 → Y sl (some ⟨g, 0, none⟩) (some ⟨g2, 0, none⟩) was (i : Int) l35 l36 (j : Int) w6 := by
          intro e
          induction e with
          | zero =>
            intro j w6 hj k6
            refine hY _ _ _ _ _ _ _ _ _ ?_
            unfold C.tocsinlaw19_RulesKept.S40
            refine cond_d (fun h => by omega) (fun _ => ?_)
            unfold C.tocsinlaw19_RulesKept.S10
            have s6 := k6.stp0 ω5
            refine kactive_ok ω5 (ks5.stp s6 (off_non 1)) hM5 (by omega) 20 21 fun a7 ql7 ω7 w7 k7 oa7 e7 he7 => ?_
            have s7 : Stp Non ω5 ω7 w5 w7 := s6.trans k7
            exact next _ _ ql7 a7 ω7 w7 (top5.stp s7) (bg5.stp s7) (ks5.stp s7 (off_non 1)) hM5 (by omega) oa7 e7 he7
          | succ e ih2 =>
            intro j w6 hj k6
            refine hY _ _ _ _ _ _ _ _ _ ?_
            unfold C.tocsinlaw19_RulesKept.S40
            refine cond_d (fun _ => ?_) (fun h => by omega)
            unfold C.tocsinlaw19_RulesKept.S37
            have hjw : j < wq.length := by omega
            have hx' : wq[j]? = some wq[j] := List.getElem?_eq_getElem hjw
            have hmM : (wq[j]).1 ∈ M := by rw [← ew]; exact List.mem_map_of_mem (List.getElem_mem hjw)
            have hTu : (toldL r (q.map (·.1))).Pairwise ltA := toldS_up r _
            obtain ⟨f1, f2, f3⟩ := kept_fate (r := r) (now := now) hTu hM.up hmM
            have htl := tells_get hrb ht (wq[j]).1.1
            have k06 := Keep.trans top5.k k6
            refine kept_here (ra.keep k6) (rw5.keep k6) hx' (by omega) fun w7 k7 => ?_
            have k57 := Keep.trans k6 k7
            refine kept_left (ro.keep k57) (rw5.keep k57) hx' (by omega) fun w8 k8 => ?_
            have k58 := Keep.trans k57 k8
            have k08 := Keep.trans top5.k k58
            rw [eq, eM, eo]
            have hle := left_le (r := r) (now := now) (T := toldL r (q.map (·.1))) hM.up (wq[j]).1.1
            have hle1 : leftN (overM r now (toldL r (q.map (·.1))) M) (wq[j]).1.1 ≤ 1 := by rw [hle]; split <;> omega
            have hin : tells r (q.map (·.1)) (wq[j]).1.1 = inT (toldL r (q.map (·.1))) (wq[j]).1 := htl
            refine kept_one (f := f) hrb hb (bg5.blk.keep k58) (hs.keep k08) (hc.keep k08) hx (rw5.keep k58) hx' (fun h => ?_) hle1 (fun h => ?_) (fun h => ?_) fun w9 k9 => ?_
            · cases hi : inT (toldL r (q.map (·.1))) (wq[j]).1 with
              | true =>
                obtain ⟨g1, g2⟩ := f1 hi
                rw [g1, g2]; rfl
              | false =>
                have := f3 hi (by rw [h]; decide)
                rw [this]
                rcases (show leftN (overM r now (toldL r (q.map (·.1))) M) (wq[j]).1.1 = 0 ∨ leftN (overM r now (toldL r (q.map (·.1))) M) (wq[j]).1.1 = 1 by omega) with e | e <;> rw [e] <;> rfl
            · cases hi : inT (toldL r (q.map (·.1))) (wq[j]).1 with
              | true => exact (f1 hi).2
              | false => exact f2 hi h
            · show tells r (q.map (·.1)) (wq[j]).1.1 = false
              rw [hin]
              cases hi : inT (toldL r (q.map (·.1))) (wq[j]).1 with
              | true => rw [(f1 hi).2] at h; exact absurd h (by decide)
              | false => rfl
            · unfold C.tocsinlaw19_RulesKept.S15
              rw [wI64 (by omega) (by omega), show (j : Int) + 1 = ((j + 1 : Nat) : Int) by omega]
              exact ih2 (j + 1) w9 (by omega) (Keep.trans k58 k9)
        exact key2 wq.length 0 w5 (by omega) (Keep.refl _)
      · have eM : nextM r last now (q.map (·.1)) M = M := if_neg he
        have eL : nextL r last now (q.map (·.1)) = last := if_neg he
        refine cond_ne (fun _ => ?_) (fun h => absurd h he)
        rw [eM, eL] at ks5
        refine kactive_ok ω5 ks5 hM (by omega) 30 31 fun a7 ql7 ω7 w7 k7 oa7 e7 he7 => ?_
        refine asame_ok (rdA_of oa7 e7 he7 hM.rt) (rw5.keep k7.keep) (by have := congrArg List.length e7; rw [List.length_map] at this; omega) fun w8 k8 => ?_
        rw [decide_eq_true (e7.trans ew.symm)]
        have s8 : Stp Non ω5 ω7 w5 w8 := k7.trans (k8.stp0 ω7)
        exact cond_f rfl (next last M wq was ω7 w8 (top5.stp s8) (bg5.stp s8) (ks5.stp s8 (off_non 1)) hM (by omega) (ow5.stp s8) ew fun p hp => (hw5 p hp).stp s8)
  exact key m.length 0 (-1) [] [] nilS ω2 w2 (by omega) top2 (b1.stp k2) ks2 Good.nil (Nat.zero_le _) (OT.nil ..) rfl (by simp)
end Go.Proofs.YtechilkjfhpkpaaGreatDoor.Ru

namespace Go.Proofs.YtechilkjfhpkpaaGreatDoor.Ru
open Go Vm Go.RowKit Num Mem Utf Lib Lab Rep
variable {T M : List Av} {r : Rl} {now last : Int}
abbrev Dn := List (Int × List Pt)
def run (r : Rl) : Dn → List Lb → Option Int
  | [], _ => none
  | (t, ps) :: D, x => if tells r ps x then some ((run r D x).getD t) else none
def longB (r : Rl) (now : Int) : Dn → List Lb → Bool
  | [], _ => false
  | (t, ps) :: D, x => if tells r ps x then (if IntKind.i64.wrap (now - t) ≥ r.fo then true else longB r now D x) else false
structure OkD (D : Dn) (last : Int) : Prop where
  up : D.Pairwise fun a b => b.1 < a.1
  le : ∀ e ∈ D, 0 ≤ e.1 ∧ e.1 ≤ last
theorem OkD.nil (last : Int) : OkD [] last := ⟨List.Pairwise.nil, by simp⟩
theorem OkD.cons {D : Dn} {ps : List Pt} (h : OkD D last) (h1 : 0 ≤ now) (h2 : last < now) : OkD ((now, ps) :: D) now :=
  ⟨List.pairwise_cons.2 ⟨fun e he => by have := (h.le e he).2; show e.1 < now; omega, h.up⟩, fun e he => by
    rcases List.mem_cons.1 he with rfl | he
    · exact ⟨h1, Int.le_refl _⟩
    · have := h.le e he; omega⟩
theorem run_mem : ∀ {D : Dn} {x : List Lb} {t : Int}, run r D x = some t → ∃ e ∈ D, e.1 = t
  | [], _, _, h => by cases h
  | (u, ps) :: D, x, t, h => by
    unfold run at h
    split at h
    · injection h with h
      cases e : run r D x with
      | none => rw [e] at h; exact ⟨(u, ps), List.mem_cons_self, h⟩
      | some v =>
        rw [e] at h
        obtain ⟨e', he, h'⟩ := run_mem e
        exact ⟨e', List.mem_cons_of_mem _ he, h'.trans h⟩
    · cases h
theorem long_iff (hn : now ≤ 1125899906842624) : ∀ {D : Dn} {x : List Lb}, OkD D now → (longB r now D x = true ↔ ∃ t, run r D x = some t ∧ now - t ≥ r.fo)
  | [], _, _ => by simp [longB, run]
  | (u, ps) :: D, x, h => by
    have hu := h.le (u, ps) List.mem_cons_self
    have hD : OkD D now := ⟨(List.pairwise_cons.1 h.up).2, fun e he => h.le e (List.mem_cons_of_mem _ he)⟩
    dsimp only at hu
    unfold longB run
    by_cases ht : tells r ps x = true
    · rw [if_pos ht, if_pos ht]
      have ew : IntKind.i64.wrap (now - u) = now - u := wI64 (by omega) (by omega)
      rw [ew]
      by_cases hg : now - u ≥ r.fo
      · rw [if_pos hg]
        refine ⟨fun _ => ⟨_, rfl, ?_⟩, fun _ => rfl⟩
        cases e : run r D x with
        | none => exact hg
        | some v =>
          obtain ⟨e', he, h'⟩ := run_mem e
          have := (List.pairwise_cons.1 h.up).1 e' he
          dsimp only at this
          show now - v ≥ r.fo
          omega
      · rw [if_neg hg, long_iff hn hD]
        constructor
        · rintro ⟨t, h1, h2⟩
          exact ⟨_, rfl, by rw [h1]; exact h2⟩
        · rintro ⟨t, h1, h2⟩
          injection h1 with h1
          cases e : run r D x with
          | none => rw [e] at h1; exact absurd (show now - u ≥ r.fo by rw [show u = t from h1]; exact h2) hg
          | some v => rw [e] at h1; exact ⟨v, rfl, by rw [show v = t from h1]; exact h2⟩
    · rw [if_neg ht, if_neg ht]
      simp
structure ForI (r : Rl) (D : Dn) (last : Int) (M : List Av) : Prop where
  lab : ∀ x, (∃ a ∈ M, a.1 = x) ↔ (run r D x).isSome = true
  st : ∀ a ∈ M, ∃ t, run r D a.1 = some t ∧ a.2.2.1 = t ∧ (a.2.1 = 1 ∨ a.2.1 = 2) ∧ (a.2.1 = 2 ↔ last - t ≥ r.fo) ∧ a.2.2.2.2.1 = -1
theorem ForI.nil (r : Rl) (last : Int) : ForI r [] last [] := ⟨fun x => by simp [run], by simp⟩
theorem for_mem (hke : r.ke = 0) (hT : T.Pairwise ltA) (hM : M.Pairwise ltA) (hg : ∀ a ∈ M, a.2.2.2.2.1 = -1) {a : Av} : a ∈ stepM r now T M ↔ ∃ c ∈ T, a = nx r now M c := by
  have mem := mem_merge (r := r) (now := now) (nodupL hT) hM
  have hin : ∀ c ∈ T, inT T (nx r now M c) = true := fun c hc => by
    cases h : inT T (nx r now M c) with
    | true => rfl
    | false =>
      unfold inT at h
      have : getM T (nx r now M c).1 = none := by cases e : getM T (nx r now M c).1 <;> simp_all
      exact absurd (nx_lab M c).symm (getM_none.1 this c hc)
  unfold stepM
  rw [List.mem_filterMap]
  constructor
  · rintro ⟨b, hb, e⟩
    rcases (mem b).1 hb with ⟨c, hc, rfl⟩ | ⟨h1, h2⟩
    · rw [(stepA_in (hin c hc)).1] at e
      injection e with e
      exact ⟨c, hc, e.symm⟩
    · have hi : inT T b = false := by
        unfold inT
        rw [getM_none.2 h2]; rfl
      by_cases hs : b.2.1 = 1
      · rw [(stepA_pend hi hs).1] at e; cases e
      · have hgo : goesA r now b := by
          unfold goesA goneA
          rw [if_pos (by rw [hg b h1]; decide), hke]
          dsimp only
          rw [Int.sub_self]; decide
        rw [(stepA_go hi hs hgo).1] at e; cases e
  · rintro ⟨c, hc, rfl⟩
    exact ⟨_, (mem _).2 (.inl ⟨c, hc, rfl⟩), (stepA_in (hin c hc)).1⟩
theorem wrap_0 : IntKind.i64.wrap 0 = 0 := by decide
theorem for_step {D : Dn} {ps : List Pt} (hr : ruleB r = true) (hke : r.ke = 0) (hM : M.Pairwise ltA) (h : ForI r D last M) (hD : OkD D last) (he : stepE r last now ps = 0) :
    ForI r ((now, ps) :: D) now (stepM r now (toldL r ps) M) ∧ OkD ((now, ps) :: D) now := by
  obtain ⟨ht, htb, hl⟩ := stepE_told he
  unfold timeB at htb
  rw [Bool.and_eq_true] at htb
  have t1 := of_decide_eq_true htb.1
  have t2 := of_decide_eq_true htb.2
  have hT : (toldL r ps).Pairwise ltA := toldS_up r ps
  have mem := fun a => for_mem (r := r) (now := now) (T := toldL r ps) (M := M) (a := a) hke hT hM fun a ha => (h.st a ha).choose_spec.2.2.2.2
  have get := tells_get hr ht
  have tc : ∀ c ∈ toldL r ps, tells r ps c.1 = true := fun c hc => by
    rw [get, (getM_some hT).2 ⟨hc, rfl⟩]; rfl
  refine ⟨⟨fun x => ?_, fun a ha => ?_⟩, hD.cons t1 hl⟩
  · have e1 : (run r ((now, ps) :: D) x).isSome = tells r ps x := by
      show (if tells r ps x then some ((run r D x).getD now) else none).isSome = _
      cases tells r ps x <;> rfl
    rw [e1, get]
    constructor
    · rintro ⟨a, ha, rfl⟩
      obtain ⟨c, hc, rfl⟩ := (mem a).1 ha
      rw [nx_lab, (getM_some hT).2 ⟨hc, rfl⟩]; rfl
    · intro hs
      cases e : getM (toldL r ps) x with
      | none => rw [e] at hs; cases hs
      | some c =>
        obtain ⟨hc, rfl⟩ := (getM_some hT).1 e
        exact ⟨_, (mem _).2 ⟨c, hc, rfl⟩, nx_lab M c⟩
  · obtain ⟨c, hc, rfl⟩ := (mem a).1 ha
    have e1 : run r ((now, ps) :: D) (nx r now M c).1 = some ((run r D c.1).getD now) := by
      rw [nx_lab]
      show (if tells r ps c.1 then some ((run r D c.1).getD now) else none) = _
      rw [if_pos (tc c hc)]
    rw [e1]
    unfold nx
    cases hg : getM M c.1 with
    | none =>
      have hn : run r D c.1 = none := by
        cases e : run r D c.1 with
        | none => rfl
        | some t =>
          obtain ⟨a, ha, e'⟩ := (h.lab c.1).2 (by rw [e]; rfl)
          exact absurd e' (getM_none.1 hg a ha)
      rw [hn]
      refine ⟨now, rfl, ?_⟩
      unfold nextA
      simp only [Int.sub_self, wrap_0]
      by_cases hf : (0 : Int) ≥ r.fo
      · rw [if_pos hf]
        exact ⟨rfl, .inr rfl, ⟨fun _ => hf, fun _ => rfl⟩, rfl⟩
      · rw [if_neg hf]
        exact ⟨rfl, .inl rfl, ⟨fun h => absurd (show (1 : Int) = 2 from h) (by decide), fun h => absurd h hf⟩, rfl⟩
    | some x =>
      obtain ⟨hx, hxl⟩ := (getM_some hM).1 hg
      obtain ⟨t, g1, g2, g3, g4, g5⟩ := h.st x hx
      rw [hxl] at g1
      rw [g1]
      obtain ⟨e', he', ee⟩ := run_mem g1
      have hle := hD.le e' he'
      refine ⟨t, rfl, ?_⟩
      unfold nextA
      simp only [g2]
      have ew : IntKind.i64.wrap (now - t) = now - t := wI64 (by omega) (by omega)
      rw [ew]
      by_cases hf : x.2.1 = 1 ∧ now - t ≥ r.fo
      · rw [if_pos hf]
        exact ⟨rfl, .inr rfl, ⟨fun _ => hf.2, fun _ => rfl⟩, rfl⟩
      · rw [if_neg hf]
        refine ⟨rfl, g3, ⟨fun h2 => ?_, fun h2 => ?_⟩, rfl⟩
        · have := g4.1 h2
          omega
        · rcases g3 with h3 | h3
          · exact absurd ⟨h3, h2⟩ hf
          · exact h3
theorem for_asks {D : Dn} {ps : List Pt} (hr : ruleB r = true) (hn : now ≤ 1125899906842624) (h : ForI r ((now, ps) :: D) now M) (hD : OkD ((now, ps) :: D) now) {a : Av} (ha : a ∈ M) :
    tells r ps a.1 = true ∧ (r.fo = 0 → a.2.1 = 2) ∧ longB r now ((now, ps) :: D) a.1 = decide (a.2.1 = 2) := by
  obtain ⟨t, g1, g2, g3, g4, g5⟩ := h.st a ha
  have h1 : tells r ps a.1 = true := by
    have := (h.lab a.1).1 ⟨a, ha, rfl⟩
    have e1 : (run r ((now, ps) :: D) a.1).isSome = tells r ps a.1 := by
      show (if tells r ps a.1 then some ((run r D a.1).getD now) else none).isSome = _
      cases tells r ps a.1 <;> rfl
    rw [← e1]; exact this
  obtain ⟨e', he', ee⟩ := run_mem g1
  have hle := hD.le e' he'
  refine ⟨h1, fun h0 => g4.2 (by omega), ?_⟩
  have hl := long_iff (r := r) (x := a.1) hn hD
  by_cases hs : a.2.1 = 2
  · rw [decide_eq_true hs]
    exact hl.2 ⟨t, g1, g4.1 hs⟩
  · rw [decide_eq_false hs]
    refine Bool.eq_false_iff.2 fun h' => hs ?_
    obtain ⟨t', e1, e2⟩ := hl.1 h'
    rw [g1] at e1
    injection e1 with e1
    exact g4.2 (by omega)
theorem for_met {D : Dn} {ps : List Pt} (hr : ruleB r = true) (hT : toldE r ps = 0) (h : ForI r ((now, ps) :: D) now M) {p : Pt} (hp : p ∈ ps) : ∃ a ∈ M, a.1 = labO r p.1 := by
  refine (h.lab _).2 ?_
  show (if tells r ps (labO r p.1) then some ((run r D (labO r p.1)).getD now) else none).isSome = true
  rw [if_pos (tells_iff.2 ⟨p, hp, by rw [labE_wE hr]; exact (toldE_iff.1 hT).1 p hp, rfl⟩)]; rfl
end Go.Proofs.YtechilkjfhpkpaaGreatDoor.Ru

namespace Go.Proofs.YtechilkjfhpkpaaGreatDoor.Ru
open Go Vm Go.RowKit Num Mem Utf Lib Lab Rep
variable {ω ω' ωb : Tg} {w w' w0 wb : World} {t gs gm : Nat} {T M : List Av} {r : Rl} {now last : Int} {s sl rs xs : Sl}
theorem tks_app (a b : List Tk) : tks (a ++ b) = tks a ++ tks b := List.flatMap_append
theorem tks_n {s : Sl} {l : List Tk} (h : Rd w s 2 (tks l)) : s.n = l.length := by have := h.2.1; rw [tks, flat_len (k := 2) (fun _ => rfl)] at this; omega
theorem rdD_at {s : Sl} {m : List Tk} (h : Rd w s 2 (tks m)) {i : Int} {k : Nat} {x : Tk} (ei : i = (k : Int)) (hx : m[k]? = some x) {K : Addr → Prop}
    (hK : ∀ a : Addr, w.cell? a = some (.int .i64 x.1) → w.cell? (a.add 1) = some x.2.1.v → K a) : G.ix s.a s.n i 2 K := by
  have hk : k < m.length := (List.getElem?_eq_some_iff.1 hx).1
  have hn := tks_n h
  subst ei
  refine Rd.ix h (by decide) (by omega) (by omega) fun a hc => hK a ?_ ?_
  · have := hc 0 (.int .i64 x.1) (by decide) (by rw [Int.toNat_natCast, tks, flat_at (enc := tkC) (k := 2) (fun _ => rfl) m k 0 (by decide), hx]; rfl)
    rwa [show a.add 0 = a by simp [Addr.add]] at this
  · exact hc 1 x.2.1.v (by decide) (by rw [Int.toNat_natCast, tks, flat_at (enc := tkC) (k := 2) (fun _ => rfl) m k 1 (by decide), hx]; rfl)
theorem tiD : TI Tryz.prog 25 37 2 32 := TI.of (z := .agg #[.int .i64 0, .slice none 0 0]) (by kernel_rfl) (by kernel_rfl) rfl (by decide)
def dnF (x : Tk) : Int × List Pt := (x.1, x.2.2.map (·.1))
def dnK (dl : List Tk) (k : Nat) : Dn := ((dl.take k).map dnF).reverse
theorem dnK_succ {dl : List Tk} {k : Nat} (h : k < dl.length) : dnK dl (k + 1) = dnF dl[k] :: dnK dl k := by
  unfold dnK
  rw [List.take_succ_eq_append_getElem h, List.map_append, List.reverse_append]; rfl
structure TkOk (w : World) (b : Nat) (x : Tk) : Prop where
  rd : RdPs w x.2.1 x.2.2
  len : x.2.2.length ≤ 10000000
  sm : ∀ p ∈ x.2.2, LbSm b p.1.1
theorem TkOk.keep {b : Nat} {x : Tk} (h : TkOk w b x) (k : Keep w w') : TkOk w' b x := ⟨h.rd.keep k, h.len, h.sm⟩
structure FR (w : World) (r : Rl) (rs sc done a : Sl) (g b : Nat) (m dl : List Tk) (f : Nat → Nat) (y : QL) : Prop where
  bg : Blk w g 24 (rlC r rs)
  hs : Rd w rs 2 (labs r.ls)
  sc : Scr w sc m f b
  dn : Rd w done 2 (tks dl)
  de : ∀ x ∈ dl, TkOk w b x
  ra : RdAs w a y
theorem FR.keep {done a : Sl} {g b : Nat} {m dl : List Tk} {f : Nat → Nat} {y : QL} (h : FR w r rs sl done a g b m dl f y) (k : Keep w w') : FR w' r rs sl done a g b m dl f y :=
  ⟨h.bg.keep k, h.hs.keep k, h.sc.keep k, h.dn.keep k, fun x hx => (h.de x hx).keep k, h.ra.keep k⟩
variable {done a : Sl} {g b : Nat} {m dl : List Tk} {f : Nat → Nat} {y : QL}
open C.tocsinlaw19_RulesFor in
theorem for_long {j : Nat} {p : Av × Sl} {i : Nat} (h : FR w0 r rs sl done a g b m dl f y) (hr : ruleB r = true) (hb : b ≤ 2000000) (hj : y[j]? = some p) (hdl : dl.length ≤ 1000000) {K : KT} {kc5 : Cur g5} {kc33 : Cur g33} {kp : Option Addr}
    (hK : ∀ w', Keep w0 w' → S38 K kc5 kc33 sl (some ⟨g, 0, none⟩) kp done (i : Int) a now (j : Int) (longB r now (dnK dl dl.length) p.1.1) w') : S47 K kc5 kc33 sl (some ⟨g, 0, none⟩) kp done (i : Int) a now (j : Int) w0 := by
  unfold S47 S45
  have hdn := tks_n h.dn
  refine L41_ind fun X hX => ?_
  have key : ∀ (k : Nat) (w1 : World), k ≤ dl.length → Keep w0 w1 → longB r now (dnK dl dl.length) p.1.1 = longB r now (dnK dl k) p.1.1 → X sl (some ⟨g, 0, none⟩) kp done (i : Int) a now (j : Int) false ((k : Int) - 1) w1 := by
    intro k
    induction k with
    | zero =>
      intro w1 hk k1 e
      refine hX _ _ _ _ _ _ _ _ _ _ _ ?_
      unfold S43
      refine cond_d (fun h => by omega) (fun _ => ?_)
      have := hK w1 k1
      rw [e] at this; exact this
    | succ k ih =>
      intro w1 hk k1 e
      refine hX _ _ _ _ _ _ _ _ _ _ _ ?_
      unfold S43
      rw [show ((k + 1 : Nat) : Int) - 1 = (k : Int) by omega]
      have hkl : k < dl.length := by omega
      have hx : dl[k]? = some dl[k] := List.getElem?_eq_getElem hkl
      have hmem := List.getElem_mem hkl
      rw [dnK_succ hkl] at e
      have kd := Keep.trans k1 (Keep.drew w1)
      have hd := h.keep kd
      refine cond_d (fun _ => ptr_at <| rl_cells hd.bg ?_) (fun h => by omega)
      refine rdD_at hd.dn (k := k) rfl hx fun c c0 c1 => cSl_at c1 <| rdA_at hd.ra.1 (k := j) rfl hj fun d dc => cSl_at dc.1 ?_
      have htk := hd.de _ hmem
      refine tell_ok hr hd.hs htk.rd htk.len htk.sm hb ((hd.ra.2 _ (List.mem_of_getElem? hj)).1) fun w2 k2 => ?_
      have k02 := Keep.trans kd k2
      refine cond_not (fun ht => ?_) (fun ht => ?_)
      · have := hK w2 k02
        rw [e] at this
        unfold dnF longB at this
        rw [ht] at this
        exact this
      · have h2 := h.keep (Keep.trans k02 (Keep.drew w2))
        refine rdD_at h2.dn (k := k) rfl hx fun c' c0' c1' => cI_at c0' <| ptr_at <| cI_at (n := r.fo) (by rw [addr_add, h2.bg.cell]; rfl) <| cond_d (fun hge => ?_) (fun hlt => ?_)
        · have := hK w2.drew (Keep.trans k02 (Keep.drew w2))
          rw [e] at this
          unfold dnF longB at this
          rw [ht, if_pos rfl, if_pos hge] at this
          exact this
        · rw [wI64 (x := (k : Int) - 1) (by omega) (by omega)]
          refine ih w2.drew (by omega) (Keep.trans k02 (Keep.drew w2)) ?_
          rw [e]
          show longB r now ((dl[k].1, dl[k].2.2.map (·.1)) :: dnK dl k) p.1.1 = _
          unfold longB
          rw [ht, if_pos rfl, if_neg hlt]
          cases dnK dl k <;> rfl
  rw [wI64 (by omega) (by omega), hdn]
  exact key dl.length w0 (Nat.le_refl _) (Keep.refl _) rfl
open C.tocsinlaw19_RulesFor in
theorem for_one {j : Nat} {p : Av × Sl} {i : Nat} {tk : Tk} (h : FR w0 r rs sl done a g b m dl f y) (hr : ruleB r = true) (hb : b ≤ 2000000) (hi : m[i]? = some tk) (hj : y[j]? = some p) (hdl : dl.length ≤ 1000000)
    (a1 : tells r (tk.2.2.map (·.1)) p.1.1 = true) (a2 : r.fo = 0 → p.1.2.1 = 2) (a3 : longB r now (dnK dl dl.length) p.1.1 = decide (p.1.2.1 = 2)) {K : KT} {kc5 : Cur g5} {kc33 : Cur g33} {kp : Option Addr}
    (hK : ∀ w', Keep w0 w' → S35 K kc5 kc33 sl (some ⟨g, 0, none⟩) kp done (i : Int) a now (j : Int) w') : S48 K kc5 kc33 sl (some ⟨g, 0, none⟩) kp done (i : Int) a now (j : Int) w0 := by
  have last : ∀ w1, Keep w0 w1 → S47 K kc5 kc33 sl (some ⟨g, 0, none⟩) kp done (i : Int) a now (j : Int) w1 := fun w1 k1 => by
    have h1 := h.keep k1
    refine for_long h1 hr hb hj hdl fun w2 k2 => ?_
    rw [a3]
    unfold S38
    refine rdA_at (h1.keep k2).ra.1 (k := j) rfl hj fun d dc => cI_at dc.2.1 <| cond_f ?_ (hK w2 (Keep.trans k1 k2))
    by_cases e : p.1.2.1 = 2
    · rw [e]; rfl
    · rw [decide_eq_false e, beq_eq_false_iff_ne.2 e]; rfl
  unfold S48
  have kd := Keep.drew w0
  have hd := h.keep kd
  obtain ⟨hq, hql, hqz⟩ := hd.sc.el i _ hi
  have hul := hd.sc.up (show i + 1 ≤ m.length by have := (List.getElem?_eq_some_iff.1 hi).1; omega)
  simp only [sumTo] at hul
  refine ptr_at <| rl_cells hd.bg <| rdK_at hd.sc (k := i) rfl hi fun c c0 c1 => cSl_at c1 <| rdA_at hd.ra.1 (k := j) rfl hj fun d dc => cSl_at dc.1 ?_
  refine tell_ok hr hd.hs hq (by omega) hqz hb ((hd.ra.2 _ (List.mem_of_getElem? hj)).1) fun w1 k1 => ?_
  rw [a1]
  have k01 := Keep.trans kd k1
  have h1 := h.keep k01
  refine cond_f rfl <| ptr_at <| cI_at (n := r.fo) (by rw [addr_add, h1.bg.cell]; rfl) <| cond_eq (fun h0 => ?_) (fun _ => last w1 k01)
  exact rdA_at h1.ra.1 (k := j) rfl hj fun d dc => cI_at dc.2.1 <| cond_ne (fun hne => absurd (a2 h0) hne) (fun _ => last w1 k01)
open C.tocsinlaw19_RulesFor in
theorem for_point {j : Nat} {i : Nat} {tk : Tk} {c : Pt × Sl} (h : FR w0 r rs sl done a g b m dl f y) (hr : ruleB r = true) (hb : b ≤ 2000000) (hi : m[i]? = some tk) (hj : tk.2.2[j]? = some c) (hy : y.length ≤ 1000000000000)
    (a1 : labE r c.1.1 = 0) (a2 : hereB (y.map (·.1)) (labO r c.1.1) = true) {K : KT} {kc5 : Cur g5} {kc11 : Cur g11} {kp : Option Addr}
    (hK : ∀ w', Keep w0 w' → S13 K kc5 kc11 sl (some ⟨g, 0, none⟩) kp done (i : Int) a (j : Int) w') : S25 K kc5 kc11 sl (some ⟨g, 0, none⟩) kp done (i : Int) a (j : Int) w0 := by
  unfold S25
  have kd := Keep.drew w0
  have hd := h.keep kd
  obtain ⟨hq, hql, hqz⟩ := hd.sc.el i _ hi
  obtain ⟨r16, rsz⟩ := rt_short (rl_of hr).rt
  have hmem := List.mem_of_getElem? hj
  refine ptr_at <| rl_cells hd.bg <| rdK_at hd.sc (k := i) rfl hi fun c0 _ c1 => cSl_at c1 <| rdP_at hq.row (k := j) rfl hj fun d d0 _ => cSl_at d0 ?_
  refine rlabels_ok hd.hs (fun y hy => by have := (rsz y hy).2; omega) (by omega) (hq.el _ hmem) (fun y hy => by have := ((hqz _ hmem).2 y hy).2; omega) fun l3 w3 k3 _ h2 => ?_
  have o3 := Own.rd (h2 a1)
  rw [a1]
  have k03 := Keep.trans kd k3
  unfold S23
  have hna := rdA_n h.ra.1
  refine L19_ind fun X hX => ?_
  have key : ∀ (d n : Nat) (hh : Bool) (w1 : World), n + d = y.length → Keep w3 w1 → hh = hereB ((y.map (·.1)).take n) (labO r c.1.1) → X sl (some ⟨g, 0, none⟩) kp done (i : Int) a (j : Int) l3 0 hh (n : Int) w1 := by
    intro d
    induction d with
    | zero =>
      intro n hh w1 hn k e
      refine hX _ _ _ _ _ _ _ _ _ _ _ _ ?_
      unfold S21 S16
      rw [List.take_of_length_le (by rw [List.length_map]; omega), a2] at e
      exact cond_d (fun h => by omega) (fun _ => cond_f (by rw [e]; rfl) (hK w1 (Keep.trans k03 k)))
    | succ d ih =>
      intro n hh w1 hn k e
      refine hX _ _ _ _ _ _ _ _ _ _ _ _ ?_
      unfold S21
      have hnx : n < y.length := by omega
      have hx' : y[n]? = some y[n] := List.getElem?_eq_getElem hnx
      have et := hereB_take (M := y.map (·.1)) (x := labO r c.1.1) (n := n) (by rw [List.length_map]; exact hnx)
      rw [← e, List.getElem_map] at et
      have next : ∀ h' w2, Keep w3 w2 → h' = (hh || decide ((y[n]).1.1 = labO r c.1.1)) → X sl (some ⟨g, 0, none⟩) kp done (i : Int) a (j : Int) l3 0 h' (IntKind.i64.wrap ((n : Int) + 1)) w2 := fun h' w2 k2 e2 => by
        rw [wI64 (by omega) (by omega), show (n : Int) + 1 = ((n + 1 : Nat) : Int) by omega]
        exact ih (n + 1) h' w2 (by omega) k2 (e2.trans et.symm)
      refine cond_d (fun _ => cond_of (fun h1 => next true _ k (by rw [h1]; rfl)) (fun h1 => cond_t rfl ?_)) (fun h => by omega)
      have h' := h.keep (Keep.trans k03 k)
      refine rdA_at h'.ra.1 (k := n) rfl hx' fun b bc => cSl_at bc.1 ?_
      exact rsame_ok (h'.ra.2 _ (List.getElem_mem hnx)).1 (o3.keep k) (h'.ra.2 _ (List.getElem_mem hnx)).2 fun w2 k2 => next _ w2 (Keep.trans k k2) (by rw [h1]; rfl)
  exact key y.length 0 false w3 (by omega) (Keep.refl _) rfl
end Go.Proofs.YtechilkjfhpkpaaGreatDoor.Ru

namespace Go.Proofs.YtechilkjfhpkpaaGreatDoor.Ru
open Go Vm Go.RowKit Num Mem Utf Lib Lab Rep
variable {ω ω' ωb : Tg} {w w' w0 wb : World} {t gs gm : Nat} {T M : List Av} {r : Rl} {now last : Int} {s sl rs xs : Sl}
theorem dnK_snoc (dl : List Tk) (x : Tk) : dnK (dl ++ [x]) (dl ++ [x]).length = dnF x :: dnK dl dl.length := by
  unfold dnK
  rw [List.take_length, List.take_length, List.map_append, List.reverse_append]; rfl
abbrev r0 (r : Rl) : Rl := ⟨r.rc, r.nm, r.ex, r.fo, 0, r.ls⟩
theorem for_law (htab : UTab w0) (het : ETab w0) (hs : Rd w0 s 2 (labs r.ls)) {b : Nat} (hz : RlSm b r) (hb : b ≤ 2000000) {m : List Tk} {f : Nat → Nat} (hc : Scr w0 sl m f b) (hml : m.length < b) {K : Bool → World → Prop} (hK : ∀ w', Keep w0 w' → K true w') :
    C.tocsinlaw19_RulesFor r.rc r.nm r.ex r.fo r.ke s sl w0 K := by
  unfold C.tocsinlaw19_RulesFor
  have hzl := hz.2.2.1
  have hsn := hc.len
  refine new_T (ω := fun _ => 0) 9 fun g ω0 wx k0 b0 => st_TA b0 (by simp) fun ω1 w1 k1 b1 => ?_
  have b1 : BT ω1 w1 9 g 24 (rlC (r0 r) s) := b1
  have top1 := ((Top.init w0).stp k0).stp k1
  have hls : (r0 r).ls = r.ls := rfl
  have hke : (r0 r).ke = 0 := rfl
  rw [← hls] at hs hzl
  generalize r0 r = r at *
  refine rl_cells b1.blk ?_
  refine new_ok ω1 1 (htab.keep top1.k) (hs.keep top1.k) (by omega) (fun hne ω2 w2 k2 => ?_) (fun h0 g2 ω2 w2 k2 ks2 => ?_)
  · have top2 := top1.stp k2
    exact cond_t rfl <| cond_t rfl <| known_ok (htab.keep top2.k) (het.keep top2.k) fun w' k' => hK w' (Keep.trans top2.k k')
  have hrb := (newE_rl h0).1
  have hr := rl_of hrb
  have top2 := top1.stp k2
  refine cond_f rfl <| cond_f rfl ?_
  have S2 : ∀ w1, Keep w0 w1 → C.tocsinlaw19_RulesFor.S2 K w1 := fun w1 k1 => known_ok (htab.keep k1) (het.keep k1) fun w' k' => hK w' (Keep.trans k1 k')
  unfold C.tocsinlaw19_RulesFor.S60
  refine C.tocsinlaw19_RulesFor.L5_ind fun X hX => ?_
  have key : ∀ (d i : Nat) (last : Int) (M : List Av) (dl : List Tk) (done : Sl) (ω : Tg) (w4 : World), i + d = m.length → Top w0 ω w4 → BT ω w4 9 g 24 (rlC r s) → KS ω w4 1 g2 r last M → Good M → M.length ≤ sumTo f i →
      ForI r (dnK dl dl.length) last M → OkD (dnK dl dl.length) last → OT ω w4 20 37 2 done (tks dl) → (∀ x ∈ dl, TkOk w0 b x) → dl.length ≤ i →
      X sl (some ⟨g, 0, none⟩) (some ⟨g2, 0, none⟩) done (i : Int) w4 := by
    intro d
    induction d with
    | zero =>
      intro i last M dl done ω w4 hi top bg ka hM hMl hF hD od hdk hdl
      refine hX _ _ _ _ _ _ ?_
      unfold C.tocsinlaw19_RulesFor.S58
      exact cond_d (fun h => by omega) (fun _ => S2 w4 top.k)
    | succ d ih =>
      intro i last M dl done ω w4 hi top bg ka hM hMl hF hD od hdk hdl
      refine hX _ _ _ _ _ _ ?_
      unfold C.tocsinlaw19_RulesFor.S58
      have him : i < m.length := by omega
      refine cond_d (fun _ => cond_d (fun _ => ?_) (fun _ => S2 w4 top.k)) (fun h => by omega)
      unfold C.tocsinlaw19_RulesFor.S55
      have hx : m[i]? = some m[i] := List.getElem?_eq_getElem him
      obtain ⟨hq, hql, hqz⟩ := hc.el i _ hx
      generalize m[i] = x at *
      obtain ⟨now, qs, q⟩ := x
      dsimp only at hq hql hqz
      have hsum := hc.up (show i + 1 ≤ m.length by omega)
      have hsum1 : sumTo f (i + 1) = sumTo f i + f i := rfl
      have kd := Keep.trans top.k (Keep.drew w4)
      refine rdK_at (hc.keep kd) (k := i) rfl hx fun a a0 a1 => cI_at a0 <| rdK_at (hc.keep kd) (k := i) rfl hx fun a' a0' a1' => cSl_at a1' ?_
      have sd := drew_stp ω w4
      have topd := top.stp sd
      have next : ∀ (last' : Int) (M' : List Av) (dl' : List Tk) (done' : Sl) (ω' : Tg) (w' : World), Top w0 ω' w' → BT ω' w' 9 g 24 (rlC r s) → KS ω' w' 1 g2 r last' M' → Good M' → M'.length ≤ sumTo f (i + 1) →
          ForI r (dnK dl' dl'.length) last' M' → OkD (dnK dl' dl'.length) last' → OT ω' w' 20 37 2 done' (tks dl') → (∀ x ∈ dl', TkOk w0 b x) → dl'.length ≤ i + 1 →
          C.tocsinlaw19_RulesFor.S7 K X sl (some ⟨g, 0, none⟩) (some ⟨g2, 0, none⟩) done' (i : Int) w' := fun last' M' dl' done' ω' w' h1 h2 h3 h4 h5 h6 h7 h8 h9 h10 => by
        unfold C.tocsinlaw19_RulesFor.S7
        rw [wI64 (by omega) (by omega), show (i : Int) + 1 = ((i + 1 : Nat) : Int) by omega]
        exact ih (i + 1) last' M' dl' done' ω' w' (by omega) h1 h2 h3 h4 h5 h6 h7 h8 h9 h10
      have d9 : DT2 1 9 = false := dt2_off (by omega)
      have d20 : DT2 1 20 = false := dt2_off (by omega)
      refine step1_ok 30 topd htab het (by decide) (by decide) (ka.stp sd (off_non 1)) hr hM (by omega) (hq.keep topd.k) (by omega) fun l35 l36 ql oq ua va uo vo ω5 w5 h1 h2 h3 h4 k5 ks5 hM5 hM5l oa hea ra oo heo ro hqll hoql hE hOK => ?_
      dsimp only at ks5 hM5 hM5l hOK hE
      have top5 := topd.stp k5 (dt2_off (by omega))
      have od5 := (od.stp sd).stp k5 d20
      have bg5 := (bg.stp sd).stp k5 d9
      by_cases he : stepE r last now (q.map (·.1)) = 0
      · obtain ⟨eq, eo⟩ := hOK he
        have ht := (stepE_told he).1
        have htb := (stepE_told he).2.1
        unfold timeB at htb
        rw [Bool.and_eq_true] at htb
        have hn2 := of_decide_eq_true htb.2
        have eM : nextM r last now (q.map (·.1)) M = stepM r now (toldL r (q.map (·.1))) M := if_pos he
        have eL : nextL r last now (q.map (·.1)) = now := if_pos he
        rw [eM, eL] at ks5
        rw [eM] at eq hM5 hM5l
        obtain ⟨hF5, hD5⟩ := for_step hrb hke hM.up hF hD he
        have edn := dnK_snoc dl (now, qs, q)
        have ednF : dnF (now, qs, q) = (now, q.map (·.1)) := rfl
        rw [ednF] at edn
        refine cond_ne (fun h => absurd he h) (fun _ => ?_)
        have hdn := tks_n od5.rd
        refine rdK_at (hc.keep top5.k) (k := i) rfl hx fun c c0 c1 => cI_at c0 <| cSl_at c1 ?_
        refine push_T (n := 1) tiD od5 rfl (by intro v hv; simp at hv; rcases hv with rfl | rfl <;> rfl) (by simp only [maxLen]; omega) (by omega) fun dn ω6 w6 k6 o6 _ => ?_
        have o6 : OT ω6 w6 20 37 2 dn (tks (dl ++ [(now, qs, q)])) := by rw [tks_app]; exact o6
        have hdk6 : ∀ x ∈ dl ++ [(now, qs, q)], TkOk w0 b x := fun x hx => by
          rcases List.mem_append.1 hx with hx | hx
          · exact hdk x hx
          · rw [List.mem_singleton.1 hx]; exact ⟨hq, by show q.length ≤ _; omega, hqz⟩
        have hdl6 : (dl ++ [(now, qs, q)]).length ≤ i + 1 := by rw [List.length_append]; simp; omega
        rw [← edn] at hF5 hD5
        generalize dl ++ [(now, qs, q)] = dl6 at *
        have top6 := top5.stp k6
        have bg6 := bg5.stp k6
        have ks6 := ks5.stp k6 (off_one (by omega))
        have ra6 : RdAs w6 l35 ql := rdA_of (oa.stp k6 (beq_no (by omega))) eq (fun p hp => (hea p hp).stp k6 (beq_no (by omega))) hM5.rt
        have fr6 : FR w6 r s sl dn l35 g b m dl6 f ql := ⟨bg6.blk, hs.keep top6.k, hc.keep top6.k, o6.rd, fun x hx => (hdk6 x hx).keep top6.k, ra6⟩
        refine rdK_at (hc.keep top6.k) (k := i) rfl hx fun c' c0' c1' => cI_at c0' ?_
        unfold C.tocsinlaw19_RulesFor.S53
        refine C.tocsinlaw19_RulesFor.L33_ind fun Y hY => ?_
        have hql6 := rdA_n ra6.1
        have key2 : ∀ (e j : Nat) (w7 : World), j + e = ql.length → Keep w6 w7 → Y sl (some ⟨g, 0, none⟩) (some ⟨g2, 0, none⟩) dn (i : Int) l35 now (j : Int) w7 := by
          intro e
          induction e with
          | zero =>
            intro j w7 hj k7
            refine hY _ _ _ _ _ _ _ _ _ ?_
            unfold C.tocsinlaw19_RulesFor.S51
            refine cond_d (fun h => by omega) (fun _ => ?_)
            unfold C.tocsinlaw19_RulesFor.S30
            refine C.tocsinlaw19_RulesFor.L11_ind fun Z hZ => ?_
            have hqn := rdP_n hq.row
            have key3 : ∀ (e j : Nat) (w8 : World), j + e = q.length → Keep w6 w8 → Z sl (some ⟨g, 0, none⟩) (some ⟨g2, 0, none⟩) dn (i : Int) l35 (j : Int) w8 := by
              intro e
              induction e with
              | zero =>
                intro j w8 hj k8
                refine hZ _ _ _ _ _ _ _ _ ?_
                unfold C.tocsinlaw19_RulesFor.S28
                refine rdK_at (fr6.keep k8).sc (k := i) rfl hx fun c c0 c1 => cSl_at c1 <| cond_d (fun h => by dsimp only at h; omega) (fun _ => ?_)
                have s8 := k8.stp0 ω6
                exact next _ _ dl6 dn ω6 w8 (top6.stp s8) (bg6.stp s8) (ks6.stp s8 (off_non 1)) hM5 (by omega) hF5 hD5 (o6.stp s8) hdk6 hdl6
              | succ e ih3 =>
                intro j w8 hj k8
                refine hZ _ _ _ _ _ _ _ _ ?_
                unfold C.tocsinlaw19_RulesFor.S28
                have hjq : j < q.length := by omega
                have hpm : (q[j]).1 ∈ q.map (·.1) := List.mem_map_of_mem (List.getElem_mem hjq)
                refine rdK_at (fr6.keep k8).sc (k := i) rfl hx fun c c0 c1 => cSl_at c1 <| cond_d (fun _ => ?_) (fun h => by dsimp only at h; omega)
                refine for_point (fr6.keep k8) hrb hb hx (c := q[j]) (List.getElem?_eq_getElem hjq) (by omega) (by rw [labE_wE hrb]; exact (toldE_iff.1 ht).1 _ hpm) ?_ fun w9 k9 => ?_
                · rw [eq]
                  rw [edn] at hF5
                  exact hereB_iff.2 (for_met hrb ht hF5 hpm)
                · unfold C.tocsinlaw19_RulesFor.S13
                  rw [wI64 (by omega) (by omega), show (j : Int) + 1 = ((j + 1 : Nat) : Int) by omega]
                  exact ih3 (j + 1) w9 (by omega) (Keep.trans k8 k9)
            exact key3 q.length 0 w7 (by omega) k7
          | succ e ih2 =>
            intro j w7 hj k7
            refine hY _ _ _ _ _ _ _ _ _ ?_
            unfold C.tocsinlaw19_RulesFor.S51
            have hjl : j < ql.length := by omega
            have hpm : (ql[j]).1 ∈ stepM r now (toldL r (q.map (·.1))) M := by rw [← eq]; exact List.mem_map_of_mem (List.getElem_mem hjl)
            have hask : tells r (q.map (·.1)) (ql[j]).1.1 = true ∧ (r.fo = 0 → (ql[j]).1.2.1 = 2) ∧ longB r now (dnK dl6 dl6.length) (ql[j]).1.1 = decide ((ql[j]).1.2.1 = 2) := by
              rw [edn] at hF5 hD5 ⊢
              exact for_asks hrb hn2 hF5 hD5 hpm
            refine cond_d (fun _ => ?_) (fun h => by omega)
            refine for_one (fr6.keep k7) hrb hb hx (List.getElem?_eq_getElem hjl) (by omega) hask.1 hask.2.1 hask.2.2 fun w8 k8 => ?_
            unfold C.tocsinlaw19_RulesFor.S35
            rw [wI64 (by omega) (by omega), show (j : Int) + 1 = ((j + 1 : Nat) : Int) by omega]
            exact ih2 (j + 1) w8 (by omega) (Keep.trans k7 k8)
        exact key2 ql.length 0 w6 (by omega) (Keep.refl _)
      · have eM : nextM r last now (q.map (·.1)) M = M := if_neg he
        have eL : nextL r last now (q.map (·.1)) = last := if_neg he
        refine cond_ne (fun _ => ?_) (fun h => absurd h he)
        rw [eM, eL] at ks5
        exact next last M dl done ω5 w5 top5 bg5 ks5 hM (by omega) hF hD od5 hdk (by omega)
  exact key m.length 0 (-1) [] [] nilS ω2 w2 (by omega) top2 (b1.stp k2) ks2 Good.nil (Nat.zero_le _) (ForI.nil r _) (OkD.nil _) (OT.nil ..) (by simp) (Nat.le_refl _)
end Go.Proofs.YtechilkjfhpkpaaGreatDoor.Ru
