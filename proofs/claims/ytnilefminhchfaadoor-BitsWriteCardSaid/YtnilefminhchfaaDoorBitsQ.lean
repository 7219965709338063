/- Layer 2: the reference's stream, call by call; bits packed into bytes. Own work. -/
import Derived.Test.YtnilefminhchfaaDoorBitsG
namespace Go.Proofs.YtnilefminhchfaaDoor.Mem
open Go Vm Go.RowKit Num

theorem add_block (a : Addr) (n : Nat) : (a.add n).block = a.block := by unfold Addr.add; split <;> rfl
theorem same_chg {X : Nat → Prop} {w w' : World} {a : Addr} {n : Nat} (h : Chg X w w') (hb : a.block < w.heap.size) (hn : ¬ X a.block) : sameAt a n w w' :=
  ⟨World.cell?_of_block (h.block _ hb hn), fun i _ => World.cell?_of_block (h.block _ (by rw [add_block]; exact hb) (by rw [add_block]; exact hn))⟩
theorem same_keep {w w' : World} {a : Addr} {n : Nat} (h : Keep w w') (hb : a.block < w.heap.size) : sameAt a n w w' := same_chg (X := fun _ => False) (Keep.chg h _) hb (fun h => h)
/-- append, with what has turned. -/
theorem appC {P : Program} {t ty e : TypeId} {sz bytes : Nat} (ti : TI P t e sz bytes) {w : World} {B : Nat} {s x : Sl} {xs ys : List Value}
    (hB : B ≤ w.heap.size) (ho : Own w B e sz s xs) (hx : Rd w x sz ys) (h1 : ∀ v ∈ ys, v.oneCell' = true) (hm : s.n + x.n ≤ maxLen) (hy : (s.n + x.n) * bytes ≤ 140737488355328)
    {K : Sl → World → Prop} (hK : ∀ r w', Chg (fun k => s.v.ownBlock = some k) w w' → Own w' B e sz r (xs ++ ys) → r.n = s.n + x.n → (r.v.ownBlock = s.v.ownBlock ∨ ∀ k, r.v.ownBlock = some k → w.heap.size ≤ k) → K r w') :
    G.runSl P (Builtin.append_ #[t, t] ty #[s.v, x.v]) w K :=
  append_own ti (Below.refl B w) hB ho hx h1 hm hy fun r w' _ k2 k3 hT => hK r w' (grown_chg hT.1) k2 k3 (by
    rcases hT.2 with e | e
    · exact .inl e
    · right
      intro k hk
      rw [e] at hk
      injection hk with hk
      omega)
end Go.Proofs.YtnilefminhchfaaDoor.Mem
namespace Go.Proofs.YtnilefminhchfaaDoor.Bits
open Go Vm Go.RowKit Num Mem

theorem fresh_trans {X Y : Nat → Prop} {Z : Nat → Prop} {a b : Nat} (h1 : ∀ k, Y k → X k ∨ a ≤ k) (h2 : ∀ k, Z k → Y k ∨ b ≤ k) (hab : a ≤ b) : ∀ k, Z k → X k ∨ a ≤ k := fun k hk => (h2 k hk).elim (h1 k) fun e => .inr (Nat.le_trans hab e)

theorem sbit_ok {w : World} {B g : Nat} {s : Sl} {l : List Bool} {b : Bool} (h : St w B g s l) (hB : B ≤ w.heap.size) {K : Int → World → Prop}
    (hF : 8388608 ≤ l.length → K 8 w) (hK : l.length < 8388608 → ∀ s' w', Chg (foot g s) w w' → St w' B g s' (l ++ [b]) → (∀ j, foot g s' j → foot g s j ∨ w.heap.size ≤ j) → K 0 w') :
    C.tocsinref02_Stream_Bit (wp g) b w K := by
  unfold C.tocsinref02_Stream_Bit
  have hn := Ownb.len h.own
  refine ptr_at (cSl_at (s := s) (by rw [h.blk.cell]; rfl) ?_)
  refine cond_d (fun h1 => hF (by omega)) (fun h1 => ?_)
  exact add_ok h hB (by omega) fun s' w' c1 h1' f => hK (by omega) s' w' c1 h1' f

theorem sbits_ok {w : World} {B g : Nat} {s : Sl} {l : List Bool} {v : Nat} {m : Int} (h : St w B g s l) (hB : B ≤ w.heap.size) (hl : l.length ≤ 8388608) (hv : v < 18446744073709551616) {K : Int → World → Prop}
    (hE : badB v m → K 1 w) (hF : ¬ badB v m → m > 8388608 - (l.length : Int) → K 8 w)
    (hK : ¬ badB v m → m ≤ 8388608 - (l.length : Int) → ∀ s' w', Chg (foot g s) w w' → St w' B g s' (l ++ low v m.toNat) → (∀ j, foot g s' j → foot g s j ∨ w.heap.size ≤ j) → K 0 w') :
    C.tocsinref02_Stream_Bits (wp g) (v : Int) m w K := by
  unfold C.tocsinref02_Stream_Bits
  have hn := Ownb.len h.own
  refine cond_d (fun h1 => hE (.inl h1)) (fun h1 => cond_d (fun h2 => hE (.inr (.inl h2))) (fun h2 => ?_))
  have fin : ¬ badB v m → G.ptr (wp g) fun p8 => G.cSl p8 w fun l9 => G.cond (decide ((IntKind.i64.wrap (((l9.n : Nat) : Int) + m)) > (8388608 : Int))) (K (8 : Int) w) (C.tocsinref02_Stream_Write (wp g) (v : Int) m w fun w10 => K (0 : Int) w10) := by
    intro hb
    refine ptr_at (cSl_at (s := s) (by rw [h.blk.cell]; rfl) ?_)
    rw [wI64 (by omega) (by omega)]
    refine cond_d (fun h3 => hF hb (by omega)) (fun h3 => ?_)
    have := write_ok (k := m.toNat) hv (by omega) h hB (by omega) (Chg.refl _ _) (fun j hj => .inl hj) (K := fun w10 => K (0 : Int) w10) fun s' w' c1 h1 f1 => hK hb (by omega) s' w' c1 h1 f1
    rwa [show ((m.toNat : Nat) : Int) = m by omega] at this
  refine cond_d (fun h3 => ⟨by rw [wU64_id (by omega) (by omega)]; omega, ?_⟩) (fun h3 => fin fun hb => ?_)
  · rw [shrZ (by omega) h3]
    refine cond_ne (fun h4 => hE (.inr (.inr ⟨h3, fun e => h4 (by rw [e]; rfl)⟩))) (fun h4 => fin fun hb => ?_)
    rcases hb with hb | hb | hb
    · omega
    · omega
    · exact hb.2 (by exact_mod_cast h4)
  · rcases hb with hb | hb | hb <;> omega

theorem sint_ok {w : World} {B g : Nat} {s : Sl} {l : List Bool} {n : Int} (h : St w B g s l) (hB : B ≤ w.heap.size) (hl : l.length ≤ 8388608) {K : Int → World → Prop}
    (hF : 8388608 < l.length + (form n).length → ∀ w', Keep w w' → K 8 w')
    (hK : l.length + (form n).length ≤ 8388608 → ∀ s' w', Chg (foot g s) w w' → St w' B g s' (l ++ form n) → (∀ j, foot g s' j → foot g s j ∨ w.heap.size ≤ j) → K 0 w') :
    C.tocsinref02_Stream_Int (wp g) n w K := by
  unfold C.tocsinref02_Stream_Int
  have hfl := form_len n
  have hrow := row_le n
  have hwid : wid (row n) ≤ 64 := wid_le ⟨row n, by omega⟩
  have ha : (if row n < 8 then 1 else 0) ≤ 1 := by split <;> omega
  refine rform_ok fun r w1 k1 o1 => ?_
  have h1 := h.keep k1
  have hn := Ownb.len h1.own
  have hr := Ownb.len o1
  refine ptr_at (cSl_at (s := s) (by rw [h1.blk.cell]; rfl) ?_)
  rw [wI64 (by omega) (by omega)]
  refine cond_d (fun h3 => hF (by omega) w1 k1) (fun h3 => ?_)
  refine ptr_at (cSl_at (s := s) (by rw [h1.blk.cell]; rfl) ?_)
  have hB1 := Nat.le_trans hB k1.size
  refine appC tib hB1 h1.own (Own.rd o1) (by intro v hv; obtain ⟨b, _, rfl⟩ := List.mem_map.1 hv; rfl) (by simp only [maxLen]; omega) (by omega) fun q w2 c2 o2 hq hf => ?_
  have hb2 := h1.blk.chg c2 h1.ne
  refine ptr_at (st_at (by rw [hb2.cell]; rfl) (hb2.frozen 0) ?_)
  have k2 := setCell_chg w2 g 0 q.v
  have hqg : q.v.ownBlock ≠ some g := by
    rcases hf with e | e
    · rw [e]; exact h.ne
    · intro e'
      have := e g e'
      have := h1.blk.lt
      omega
  have o3 := Own.chg o2 k2 (fun k hk e => hqg (by rw [hk, e]))
  refine hK (by omega) q _ (Chg.then (Keep.chg k1 _) (Chg.then (c2.mono fun k hk => .inl (.inr hk)) k2 fun k hk => .inl (.inl hk)) fun k hk => .inl hk) ⟨hb2.set 0 q.v, by rw [Ownb, vbs_app]; exact o3, h.ge, hqg⟩ fun k hk => ?_
  rcases hk with hk | hk
  · exact .inl (.inl hk)
  · rcases hf with e | e
    · rw [e] at hk; exact .inl (.inr hk)
    · exact .inr (Nat.le_trans k1.size (e k hk))

/-! ## Packed -/
def pk (bs : List Bool) : List UInt8 := putBs [] 0 bs
theorem putBs_len : ∀ (bs : List Bool) (l : List UInt8) (n : Nat), l.length = (n + 7) / 8 → (putBs l n bs).length = (n + bs.length + 7) / 8
  | [], l, n, h => by simpa [putBs] using h
  | b :: bs, l, n, h => by
    rw [putBs, putBs_len bs _ _ (putB_len b h), List.length_cons]
    congr 1; omega
theorem pk_len (bs : List Bool) : (pk bs).length = (bs.length + 7) / 8 := by
  have := putBs_len bs [] 0 (by rfl)
  simpa [pk] using this
theorem pk_app (xs ys : List Bool) : pk (xs ++ ys) = putBs (pk xs) xs.length ys := by
  unfold pk; rw [putBs_app, Nat.zero_add]
def st8 (o : List UInt8) (i : Nat) (b : Bool) : List UInt8 := if b then o.set (i / 8) (orBit (o.getD (i / 8) 0) (i % 8)) else o
theorem grow_rep {l : List UInt8} {i M : Nat} (hl : l.length = (i + 7) / 8) (hM : (i + 8) / 8 ≤ M) : l ++ List.replicate (M - (i + 7) / 8) 0 = grow l i ++ List.replicate (M - (i + 8) / 8) 0 := by
  unfold grow
  split
  · rw [show M - (i + 7) / 8 = (M - (i + 8) / 8) + 1 by omega, List.replicate_succ]
    simp
  · rw [show (i + 7) / 8 = (i + 8) / 8 by omega]
theorem st8_step {l : List UInt8} {i M : Nat} {b : Bool} (hl : l.length = (i + 7) / 8) (hM : (i + 8) / 8 ≤ M) : st8 (l ++ List.replicate (M - (i + 7) / 8) 0) i b = putB l i b ++ List.replicate (M - (i + 8) / 8) 0 := by
  rw [grow_rep hl hM]
  unfold st8 putB
  have := grow_len hl
  cases b
  · rfl
  · simp only [if_true]
    rw [List.set_append_left _ _ (by omega)]
    congr 2
    rw [List.getD_eq_getElem?_getD, List.getD_eq_getElem?_getD, List.getElem?_append_left (by omega)]

theorem sbytes_ok {w : World} {B g : Nat} {s : Sl} {l : List Bool} (h : St w B g s l) (hl : l.length ≤ 8388608) {K : Sl → World → Prop} (hK : ∀ r w', Keep w w' → OwnB w' w.heap.size r (pk l) → K r w') : C.tocsinref02_Stream_Bytes (wp g) w K := by
  unfold C.tocsinref02_Stream_Bytes
  have hn := Ownb.len h.own
  refine ptr_at (cSl_at (s := s) (by rw [h.blk.cell]; rfl) ⟨by decide, ?_⟩)
  have e : IntKind.i64.wrap (Int.tdiv (IntKind.i64.wrap (((s.n : Nat) : Int) + (7 : Int))) (8 : Int)) = (((l.length + 7) / 8 : Nat) : Int) := by
    rw [wI64 (x := ((s.n : Nat) : Int) + 7) (by omega) (by omega), show ((s.n : Nat) : Int) + 7 = ((s.n + 7 : Nat) : Int) by omega, show Int.tdiv ((s.n + 7 : Nat) : Int) (8 : Int) = (((s.n + 7) / 8 : Nat) : Int) from rfl, wI64 (by omega) (by omega), hn]
  rw [e]
  refine make_own tiB (kl := .i64) (kc := .i64) (n := (l.length + 7) / 8) (c := (l.length + 7) / 8) (Keep.refl w) (Nat.le_refl _) (Nat.le_refl _) (by simp only [maxLen]; omega) (by omega) fun z r w1 hz hz1 k1 k1' o1 hrn hrc hra => ?_
  have hz' : z = .int .u8 0 := by
    have : (Tryd.prog.info? 5).map (·.zero) = some (some (.int .u8 0)) := by kernel_rfl
    rw [this] at hz
    simp only [Option.some.injEq] at hz
    exact hz.symm
  subst hz'
  have o1' : OwnB w1 w.heap.size r (List.replicate ((l.length + 7) / 8) 0) := by
    have e2 : ((madeCells (Value.int IntKind.u8 0).cells ((l.length + 7) / 8 * 1)).toList.take ((l.length + 7) / 8 * 1)) = vBs (List.replicate ((l.length + 7) / 8) 0) := by
      rw [show (Value.int IntKind.u8 0).cells = #[Value.int IntKind.u8 0] from rfl, toList_madeCells_one, Nat.mul_one, List.take_of_length_le (by simp)]
      simp [vBs, vB]
    rw [e2] at o1; exact o1
  unfold C.tocsinref02_Stream_Bytes.S9
  have h1 := h.keep k1
  refine ptr_at (cSl_at (s := s) (by rw [h1.blk.cell]; rfl) ?_)
  refine C.tocsinref02_Stream_Bytes.L5_ind fun X hX => ?_
  have hrd := Own.rd h1.own
  have key : ∀ (d i : Nat) (w' : World), d + i = l.length → Keep w w' → Rd w' s 1 (vbs l) → OwnB w' w.heap.size r (pk (l.take i) ++ List.replicate ((l.length + 7) / 8 - (i + 7) / 8) 0) → X r s ((s.n : Nat) : Int) (i : Int) w' := by
    intro d
    induction d with
    | zero =>
      intro i w' hi k hr o
      refine hX _ _ _ _ _ ?_
      unfold C.tocsinref02_Stream_Bytes.S7 C.tocsinref02_Stream_Bytes.S2
      refine cond_d (fun h => by omega) (fun _ => hK r w' k ?_)
      rw [show i = l.length by omega, List.take_length, Nat.sub_self] at o
      simpa using o
    | succ d ih =>
      intro i w' hi k hr o
      have hil : i < l.length := by omega
      refine hX _ _ _ _ _ ?_
      unfold C.tocsinref02_Stream_Bytes.S7
      refine cond_d (fun _ => ?_) (fun h => by omega)
      refine Rd.ix hr (by decide) (by omega) (by omega) fun a ha => ?_
      have hc := ha 0 (.bool l[i]) (by decide) (by simp [vbs, vb, hil])
      rw [show a.add 0 = a by simp [Addr.add]] at hc
      refine ⟨l[i], hc, ?_⟩
      rw [wI64 (x := (i : Int) + 1) (by omega) (by omega)]
      have hlen : (pk (l.take i)).length = (i + 7) / 8 := by rw [pk_len, List.length_take, Nat.min_eq_left (by omega)]
      have hM : (i + 8) / 8 ≤ (l.length + 7) / 8 := by omega
      have hstep := st8_step (b := l[i]) hlen hM
      have htake : pk (l.take (i + 1)) = putB (pk (l.take i)) i l[i] := by
        rw [List.take_add_one, List.getElem?_eq_getElem hil, pk_app, List.length_take, Nat.min_eq_left (by omega)]; rfl
      have hol := o.len
      rw [List.length_append, hlen, List.length_replicate] at hol
      have next : ∀ w2, Keep w w2 → Rd w2 s 1 (vbs l) → OwnB w2 w.heap.size r (st8 (pk (l.take i) ++ List.replicate ((l.length + 7) / 8 - (i + 7) / 8) 0) i l[i]) → X r s ((s.n : Nat) : Int) ((i + 1 : Nat) : Int) w2 := fun w2 k2 r2 o2 => by
        rw [hstep, ← htake] at o2
        exact ih (i + 1) w2 (by omega) k2 r2 o2
      rw [show (i : Int) + 1 = ((i + 1 : Nat) : Int) by omega]
      cases hb : l[i]
      · refine cond_f rfl (next w' k hr ?_)
        rw [hb]; exact o
      · refine cond_t rfl ⟨by decide, by decide, ?_⟩
        have hlt : i / 8 < (pk (l.take i) ++ List.replicate ((l.length + 7) / 8 - (i + 7) / 8) 0).length := by rw [List.length_append, hlen, List.length_replicate]; omega
        rw [idx8 (by omega)]
        refine RdB.at_ o.rd hlt ⟨by decide, ?_⟩
        rw [mod8]
        refine ⟨by omega, ?_⟩
        rw [orBit_val _ (by omega)]
        refine Own.stC o (by omega) _ fun w2 c2 o2 => ?_
        have hge : ∀ k, r.v.ownBlock = some k → w.heap.size ≤ k := fun k hk => (Own.geC o hk).1
        have k2 : Keep w w2 := Chg.below k c2 k.size hge
        refine next w2 k2 ((Own.rd h.own).keep k2) ?_
        · unfold st8
          rw [hb, if_pos rfl]
          have e1 : ∀ (q : List UInt8) (hq : i / 8 < q.length), q.getD (i / 8) 0 = q[i / 8] := fun q hq => by rw [List.getD_eq_getElem?_getD, List.getElem?_eq_getElem hq, Option.getD_some]
          rw [e1 _ hlt, OwnB]
          have e2 : ∀ (q : List UInt8) (x : UInt8), vBs (q.set (i / 8) x) = (vBs q).set (i / 8) (vB x) := fun q x => by simp [vBs, List.map_set]
          rw [e2]; exact o2
  refine key l.length 0 w1 (by omega) k1 hrd ?_
  simpa [pk, putBs] using o1'
end Go.Proofs.YtnilefminhchfaaDoor.Bits
