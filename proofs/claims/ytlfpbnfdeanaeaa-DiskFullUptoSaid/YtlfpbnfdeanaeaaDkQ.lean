/- Layer 3: DiskAppends, DiskFull. Own work. -/
import Derived.Test.YtlfpbnfdeanaeaaDkP
namespace Go.Proofs.Ytlfpbnfdeanaeaa.Dk
open Go Vm Go.RowKit Num Mem Wo Rep
variable {ω ω' : Tg} {w w' w0 : World} {t gd gr : Nat} {T : Nat → Bool} {M : List Fl}

set_option maxRecDepth 100000 in
theorem open_op2 {H : Type} {enc : TypeId × Value → H} {spare : Nat → Bool} {held : Bool} {base : Nat} {t : TypeId} {v : Value} {d : DataW H} {p : List MemPlace} (hu : (match Try.prog.underlying t with | some (.struct _) => true | _ => false) = true) (hs : shOf Try.prog 8 t = some opSh) (hval : Value.okWide Try.prog w .any base t v)
    (h : DataW.Trod enc Try.prog w 0 spare held t v d p) : ∃ (o : Opn) (b k : Sl), v = .agg ⟨opC (o, b, k)⟩ ∧ (Rows.uptoBulk d ≤ 1048577 → OpI w o b k) := by
  split at hu
  · rename_i fs he
    exact open_op he hs hval h
  · cases hu

/-! ## DiskAppends -/
abbrev Pc := List UInt8 × Sl
def pcC (x : Pc) : List Value := [x.2.v]
def pcs (l : List Pc) : List Value := l.flatMap pcC
instance : Inhabited Pc := ⟨([], nilS)⟩
theorem pcs_of {s : Sl} {b : Nat} (h : Cl w (.sl [.sl [.int .u8]]) s.v b) : ∃ l : List Pc, Rd w s 1 (pcs l) ∧ s.n = l.length ∧ s.n < b ∧ ∀ x ∈ l, RdB w x.2 x.1 ∧ x.1.length < b := by
  obtain ⟨m, h1, h2, h3, _, h5⟩ := rows_of (α := Pc) (enc := pcC) (Q := fun x => RdB w x.2 x.1 ∧ x.1.length < b) (fun _ => rfl) (by decide) h fun V hV => by
    obtain ⟨s0, e0, h0⟩ := sl_of (hV 0 _ rfl)
    obtain ⟨l, r, n, m⟩ := bytes_of h0
    exact ⟨(l, s0), fun j hj => by match j, hj with | 0, _ => rw [e0]; rfl, r, show l.length < b by omega⟩
  exact ⟨m, h1, h2, h3, h5⟩
theorem rdP_len {s : Sl} {l : List Pc} (h : Rd w s 1 (pcs l)) : s.n = l.length := by have := h.2.1; rw [pcs, Rep.flat_len (enc := pcC) (k := 1) (fun _ => rfl)] at this; omega
theorem rdP_at {s : Sl} {l : List Pc} (h : Rd w s 1 (pcs l)) {k : Nat} {x : Pc} (hx : l[k]? = some x) {K : Addr → Prop} (hK : ∀ a : Addr, w.cell? a = some x.2.v → K a) : G.ix s.a s.n (k : Int) 1 K := by
  have hk : k < l.length := (List.getElem?_eq_some_iff.1 hx).1
  have hn := rdP_len h
  refine Rd.ix h (by decide) (by omega) (by omega) fun a hc => ?_
  have c0 := hc 0 x.2.v (by decide) (by rw [Int.toNat_natCast, pcs, Rep.flat_at (enc := pcC) (k := 1) (fun _ => rfl) _ _ _ (by decide), hx]; rfl)
  rw [add_zero'] at c0
  exact hK a c0
def cat' (l : List Pc) : List UInt8 := l.flatMap (·.1)
theorem cat_snoc (l : List Pc) (x : Pc) : cat' (l ++ [x]) = cat' l ++ x.1 := by simp [cat']
theorem cat_len {b : Nat} : ∀ l : List Pc, (∀ x ∈ l, x.1.length < b) → (cat' l).length ≤ l.length * b
  | [], _ => by simp [cat']
  | x :: l, h => by
    have := cat_len l fun y hy => h y (by simp [hy])
    have hx := h x (by simp)
    simp only [cat', List.flatMap_cons, List.length_append, List.length_cons] at this ⊢
    rw [Nat.succ_mul]; omega
/-- What the pieces so far have come to. -/
def At (s : ByteArray) (l : List Pc) (M : List Fl) : Prop :=
  (namF s = false → M = []) ∧ (namF s = true → (cat' l).length ≤ 1048576 → M = if l = [] then [] else [⟨s, cat' l, 0⟩])
theorem findM_one (s : ByteArray) (b : List UInt8) : findM s [⟨s, b, 0⟩] = some ⟨s, b, 0⟩ := by simp [findM]
theorem At.next {s : ByteArray} {l : List Pc} {M : List Fl} (h : At s l M) (x : Pc) : At s (l ++ [x]) (apM s x.1 M).2 := by
  constructor
  · intro hn
    obtain rfl := h.1 hn
    unfold apM; rw [if_pos hn]
  · intro hn hl
    rw [cat_snoc, List.length_append] at hl
    have hM := h.2 hn (by omega)
    rw [if_neg (show l ++ [x] ≠ [] by simp), cat_snoc]
    by_cases e : l = []
    · subst e
      rw [if_pos rfl] at hM
      subst hM
      unfold apM
      rw [if_neg (by simp [hn])]
      simp only [findM, List.find?_nil, List.length_nil]
      simp only [cat', List.flatMap_nil, List.length_nil] at hl
      simp only [cat', List.flatMap_nil, List.nil_append]
      rw [if_neg (by omega), if_neg (by omega)]
      simp [putM, findM, insM]
    · rw [if_neg e] at hM
      subst hM
      unfold apM
      rw [if_neg (by simp [hn]), findM_one]
      simp only []
      rw [if_neg (by omega)]
      simp only [putM, findM_one]
      simp [setM]
theorem appends_law {s : ByteArray} {p : Sl} {l : List Pc} (hs : s.size ≤ 9223372036854775807) (hp : Rd w0 p 1 (pcs l)) (hl : l.length ≤ 1048577) (ho : ∀ x ∈ l, RdB w0 x.2 x.1 ∧ x.1.length < 1048578) {K : Bool → World → Prop} (hK : ∀ w', Keep w0 w' → K true w') : C.tocsinlaw03_DiskAppends s p w0 K := by
  have hn := rdP_len hp
  unfold C.tocsinlaw03_DiskAppends
  refine new_ok (ω := fun _ => 0) 1 fun ga ω1 w1 k1 d1 => new_ok (ω := ω1) 7 fun gb ω2 w2 k2 d2 => cond_f rfl <| cond_f rfl ?_
  unfold C.tocsinlaw03_DiskAppends.S9
  refine C.tocsinlaw03_DiskAppends.L5_ind fun X hX => ?_
  have key : ∀ (d i : Nat) (M : List Fl) (r : Sl) (ω3 : Tg) (w3 : World), i + d = l.length → Top w0 ω3 w3 → DK ω3 w3 1 ga M → WF M → DK ω3 w3 7 gb [] → OT ω3 w3 20 5 1 r (vBs (cat' (l.take i))) → At s (l.take i) M →
      X s p (some ⟨ga, 0, none⟩) (some ⟨gb, 0, none⟩) r (i : Int) w3 := by
    intro d
    induction d with
    | succ d ih =>
      intro i M r ω3 w3 hi top da hM db o ha
      refine hX _ _ _ _ _ _ _ ?_
      obtain ⟨x, hx⟩ : ∃ x, l[i]? = some x := ⟨_, List.getElem?_eq_getElem (by omega)⟩
      obtain ⟨hr, hxl⟩ := ho x (List.mem_of_getElem? hx)
      have htk : l.take (i + 1) = l.take i ++ [x] := by rw [List.take_add_one, hx]; rfl
      have hcl := cat_len (b := 1048578) (l.take i) fun y hy => (ho y (List.mem_of_mem_take hy)).2
      rw [List.length_take] at hcl
      have hcl2 : (cat' (l.take i)).length ≤ 1048577 * 1048578 := Nat.le_trans hcl (Nat.mul_le_mul_right _ (by omega))
      have hxn := hr.len
      have hor : RdB w3 r (cat' (l.take i)) := o.rd
      have hon := hor.len
      unfold C.tocsinlaw03_DiskAppends.S7
      refine cond_d (fun _ => ?_) (fun hh => by omega)
      refine rdP_at (hp.keep top.k) hx fun a a0 => cSl_at (s := x.2) a0 ?_
      refine app_T tiB o (hr.keep top.k) vBs_one (by simp only [maxLen]; omega) (by omega) fun r1 ω4 w4 k4 o4 hr4 => ?_
      have top4 := top.stp k4
      refine rdP_at (hp.keep top4.k) hx fun a a0 => cSl_at (s := x.2) a0 ?_
      refine append_ok (s := s) (da.stp k4 ⟨rfl, rfl, rfl⟩) hM hs (hr.keep top4.k) (by omega) fun ω5 w5 k5 d5 hw5 => ?_
      rw [wI64 (by omega) (by omega), show (i : Int) + 1 = ((i + 1 : Nat) : Int) by omega]
      have e : vBs (cat' (l.take i)) ++ vBs x.1 = vBs (cat' (l.take (i + 1))) := by rw [htk, cat_snoc]; simp [vBs]
      rw [e] at o4
      refine ih (i + 1) _ r1 ω5 w5 (by omega) (top4.stp k5 rfl) d5 hw5 ((db.stp k4 ⟨rfl, rfl, rfl⟩).stp k5 ⟨rfl, rfl, rfl⟩) (o4.stp k5 rfl) ?_
      rw [htk]
      exact ha.next x
    | zero =>
      intro i M r ω3 w3 hi top da hM db o ha
      refine hX _ _ _ _ _ _ _ ?_
      have hil : l.take i = l := List.take_of_length_le (by omega)
      rw [hil] at o ha
      have hor : RdB w3 r (cat' l) := o.rd
      have hon := hor.len
      unfold C.tocsinlaw03_DiskAppends.S7
      refine cond_d (fun hh => by omega) (fun _ => ?_)
      unfold C.tocsinlaw03_DiskAppends.S2
      refine cond_d (fun _ => known_ok top hK) (fun hbig => ?_)
      refine cond_eq (fun _ => known_ok top hK) (fun hne => ?_)
      have hlt : (cat' l).length ≤ 1048576 := by omega
      have hlt3 : (cat' l).length ≤ 9223372036854775807 := by omega
      have hl0 : l ≠ [] := by rintro rfl; simp at hn; omega
      refine append_ok (s := s) db wf_nil hs hor (by omega) fun ω4 w4 k4 d4 hw4 => ?_
      have top4 := top.stp k4 rfl
      have da4 := da.stp k4 ⟨rfl, rfl, rfl⟩
      have or4 := o.stp k4 rfl
      refine read2_ok da4 hM hs fun r1 w5 k5 o5 => read2_ok (d4.stp (k5.stp0 ω4) (off_non 7)) hw4 hs fun r2 w6 k6 o6 => rname_ok hs ?_
      have k46 := Keep.trans k5 k6
      by_cases hnm : namF s = true
      · have hMe := ha.2 hnm hlt
        rw [if_neg hl0] at hMe
        subst hMe
        have e1 : apM s (cat' l) [] = (0, [⟨s, cat' l, 0⟩]) := by
          unfold apM
          rw [if_neg (by simp [hnm])]
          simp only [findM, List.find?_nil, List.length_nil]
          rw [if_neg (by omega), if_neg (by omega)]
          simp [putM, findM, insM]
        have e2 : rdM s [⟨s, cat' l, 0⟩] = (cat' l, 0) := by
          unfold rdM
          rw [if_neg (by simp [hnm]), findM_one]
        rw [e1] at o6 ⊢
        rw [e2] at o5 o6 ⊢
        rw [hnm]
        refine cond_f rfl <| cond_t rfl <| cond_t rfl <| cond_t rfl ?_
        refine same_ok (rd_own (o5.keep k6)) (rd_own o6) hlt3 fun w7 k7 => ?_
        rw [decide_eq_true rfl]
        have hr7 : RdB w7 r (cat' l) := Rd.keep or4.rd (Keep.trans k46 k7)
        refine cond_t rfl <| same_ok (rd_own (o5.keep (Keep.trans k6 k7))) hr7 hlt3 fun w8 k8 => ?_
        rw [decide_eq_true rfl]
        exact cond_t rfl <| known_ok (top4.stp ((Keep.trans k46 (Keep.trans k7 k8)).stp0 ω4)) hK
      · have hnm : namF s = false := by simpa using hnm
        have e1 : apM s (cat' l) [] = (40, []) := by unfold apM; rw [if_pos hnm]
        have e2 : ∀ M, rdM s M = ([], 40) := fun M => by unfold rdM; rw [if_pos hnm]
        rw [e1]
        simp only [e2]
        rw [hnm]
        exact cond_t rfl <| cond_t rfl <| cond_t rfl <| cond_t rfl <| known_ok (top4.stp (k46.stp0 ω4)) hK
  exact key l.length 0 [] nilS ω2 w2 (by omega) (((Top.init w0).stp k1).stp k2) (d1.stp k2 (off_non 1)) wf_nil d2 (OT.nil ..) ⟨fun _ => rfl, fun _ _ => rfl⟩

/-! ## DiskFull -/
/-- A row that is written out, and is marked. -/
structure LitT (ω : Tg) (w : World) (t g : Nat) (cs : List Value) : Prop where
  blk : ∃ f, w.heap[g]? = some (.cells cs.toArray 5 f)
  tag : ω g = t
theorem LitT.stp {g : Nat} {cs : List Value} (h : LitT ω w t g cs) (k : Stp T ω ω' w w') (ne : T t = false := by rfl) : LitT ω' w' t g cs := by
  obtain ⟨f, hf⟩ := h.blk
  have hlt := heap_lt hf
  exact ⟨⟨f, by rw [k.block g hlt (by rw [h.tag]; exact ne)]; exact hf⟩, (k.same g hlt).trans h.tag⟩
theorem LitT.rt {g n : Nat} {cs : List Value} (h : LitT ω w t g cs) (hn : cs.length = n) : RT ω w t ⟨some ⟨g, 0, none⟩, n, n⟩ 1 cs := by
  obtain ⟨f, hf⟩ := h.blk
  refine ⟨⟨Nat.le_refl _, by rw [hn]; exact (Nat.mul_one n).symm, fun _ => ⟨g, 0, rfl, fun j v hv => ?_⟩⟩, fun g' o ha _ => by cases ha; exact h.tag⟩
  rw [Nat.zero_add]
  simp only [World.cell?, hf]
  simpa using hv
theorem conv_T {g n : Nat} {cs : List Value} (h : BT ω w t g 5 cs) (hn : cs.length = n) {K : Sl → World → Prop} (hK : ∀ w', Stp (Mem.One t) ω ω w w' → LitT ω w' t g cs → K ⟨some ⟨g, 0, none⟩, n, n⟩ w') :
    G.runSl C.pr (Go.convert 25 25 (Sl.v (⟨some ⟨g, 0, none⟩, n, n⟩ : Sl))) w K := by
  have hb : w.heap[g]? = some (.cells cs.toArray 5 (0, 0)) := h.blk
  have hlt := heap_lt hb
  have hsh : w.shape? g = some (5, cs.length) := by
    unfold World.shape?
    rw [hb]; simp
  have hnew : (w.freeze ⟨g, cs.length, none⟩ 1).heap[g]? = some (.cells cs.toArray 5 (cs.length, cs.length + 1)) := by
    unfold World.freeze
    rw [if_neg (by decide)]
    show (w.heap.modify g _)[g]? = _
    rw [Array.getElem?_eq_getElem (by rw [Array.size_modify]; exact hlt), Array.getElem_modify_self]
    have e : w.heap[g] = .cells cs.toArray 5 (0, 0) := by
      have := Array.getElem?_eq_getElem hlt
      rw [hb] at this
      exact (Option.some.inj this).symm
    rw [e]
    rfl
  refine ⟨⟨some ⟨g, 0, none⟩, n, n⟩, w.freeze ⟨g, cs.length, none⟩ 1, ?_, hK _ ⟨by unfold World.freeze; split <;> rfl, by unfold World.freeze; split <;> rfl, by unfold World.freeze; split <;> rfl, ?_, fun _ _ => rfl, fun k hk hT => ?_⟩ ⟨⟨_, hnew⟩, h.tag⟩⟩
  · have ht : C.pr.underlying 25 = some (.slice 5) := by kernel_rfl
    have he : C.pr.underlying 5 = some (.int .u8) := by kernel_rfl
    simp [convert, run_underlying ht, run_underlying he, markStringish, hsh, Sl.v]
  · unfold World.freeze
    rw [if_neg (by decide)]
    show w.heap.size ≤ (w.heap.modify g _).size
    rw [Array.size_modify]; exact Nat.le_refl _
  · have hne : k ≠ g := by rintro rfl; rw [h.tag, one_self] at hT; cases hT
    unfold World.freeze
    rw [if_neg (by decide)]
    show (w.heap.modify g _)[k]? = _
    rw [Array.getElem?_eq_getElem (by rw [Array.size_modify]; exact hk), Array.getElem_modify_of_ne (by omega), Array.getElem?_eq_getElem hk]
theorem newL (t : Nat) {K : Addr → World → Prop} (hK : ∀ g ω' w', Stp Non ω ω' w w' → BT ω' w' t g 5 (vBs [120]) → K ⟨g, 0, none⟩ w') : G.new (.cells #[(.int .u8 (120 : Int))] 5) w K :=
  new_T (ω := ω) t fun g ω' w' k b => hK g ω' w' k b
theorem ST.off (h : ST w0 ω w gd gr M) (k : Stp T ω ω' w w') (h0 : T 0 = false := by rfl) (h1 : Off 1 T := by exact ⟨rfl, rfl, rfl⟩) (h4 : Off 4 T := by exact ⟨rfl, rfl, rfl⟩) : ST w0 ω' w' gd gr M := ⟨h.top.stp k h0, h.d.stp k h1, h.r.stp k h4, h.wf⟩
/-- Between the two calls. -/
structure HS (w0 : World) (ω : Tg) (w : World) (gd gr : Nat) (s : ByteArray) (M : List Fl) : Prop where
  top : Top w0 ω w
  d : DK ω w 1 gd (apM s [120] M).2
  r : RD ω w 4 gr M
  wf : WF M
  wf' : WF (apM s [120] M).2
theorem HS.off {s : ByteArray} (h : HS w0 ω w gd gr s M) (k : Stp T ω ω' w w') (h0 : T 0 = false := by rfl) (h1 : Off 1 T := by exact ⟨rfl, rfl, rfl⟩) (h4 : Off 4 T := by exact ⟨rfl, rfl, rfl⟩) : HS w0 ω' w' gd gr s M := ⟨h.top.stp k h0, h.d.stp k h1, h.r.stp k h4, h.wf, h.wf'⟩
theorem doA (h : ST w0 ω w gd gr M) {s : ByteArray} (hs : s.size ≤ 9223372036854775807) {b : Sl} (hb : Rd w b 1 (vBs [120])) {K : Int → World → Prop} (hK : ∀ ω' w', Stp (DT 1) ω ω' w w' → HS w0 ω' w' gd gr s M → K (apM s [120] M).1 w') : C.disk_Disk_Append (some ⟨gd, 0, none⟩) s b w K :=
  append_ok (s := s) h.d h.wf hs hb (by decide) fun ω' w' k d' hw' => hK ω' w' k ⟨h.top.stp k rfl, d', h.r.stp k ⟨rfl, rfl, rfl⟩, h.wf, hw'⟩
theorem doR {s : ByteArray} (h : HS w0 ω w gd gr s M) (hs : s.size ≤ 9223372036854775807) {b : Sl} {u : Nat} (hb : RT ω w u b 1 (vBs [120])) (hu : DT 4 u = false) {K : Int → World → Prop} (hK : ∀ ω' w', ST w0 ω' w' gd gr (apM s [120] M).2 → K (apM s [120] M).1 w') : C.tocsinref03_Disk_Append (some ⟨gr, 0, none⟩) s b w K :=
  rappend_ok (s := s) h.r h.wf hs hb hu (by decide) fun ω' w' k r' => hK ω' w' ⟨h.top.stp k rfl, h.d.stp k off14, r', h.wf'⟩
theorem full_tail {K : Bool → World → Prop} (hK : ∀ w', Keep w0 w' → K true w') (h : ST w0 ω w gd gr M) {n m : Int} (e : n = m) :
    G.cond (n == m) (G.ptr (some ⟨gr, 0, none⟩) fun p21 => G.cSl p21 w fun l22 => C.disk_Disk_List (some ⟨gd, 0, none⟩) w fun l23 w24 => sameAt p21 1 w w24 ∧ (G.cond (((l23.n : Nat) : Int) == ((l22.n : Nat) : Int)) (C.tocsinlaw03_known w24 fun b25 w26 => K b25 w26) (K false w24))) (K false w) := by
  obtain ⟨sl, pl, hR, hpl⟩ := h.r
  have hpn : pl.length = M.length := by rw [← hpl, List.length_map]
  have hsn := rdF_len hR.row.rd
  refine cond_t (by simpa using e) <| ptr_at <| cSl_at (s := sl) (by rw [hR.hd.cell]; rfl) <| list_ok h.d h.wf fun r w1 k1 o1 => ⟨hR.hd.sameT (k1.stp0 ω), ?_⟩
  have hrn := strs_len (Own.rd o1)
  rw [List.length_map] at hrn
  exact cond_t (by simp; omega) (known_ok (h.top.stp (k1.stp0 ω)) hK)
theorem full_S2 {s : ByteArray} (hs : s.size ≤ 9223372036854775807) {K : Bool → World → Prop} (hK : ∀ w', Keep w0 w' → K true w') (h : ST w0 ω w gd gr M) : C.tocsinlaw03_DiskFull.S2 K s (some ⟨gd, 0, none⟩) (some ⟨gr, 0, none⟩) w := by
  have h0 := h.keep (Keep.drew w)
  unfold C.tocsinlaw03_DiskFull.S2
  refine ⟨?_, ?_⟩
  · skip
    refine newL (ω := ω) 50 fun g1 ω1 w1 k1 b1 => ?_
    have h1 := h0.off k1
    refine ⟨?_, ?_⟩
    · skip
      refine conv_T b1 rfl fun w2 k2 c2 => ?_
      have h2 := h1.off k2
      refine ⟨?_, ?_⟩
      · skip
        refine doA h2 hs (c2.rt rfl).rd fun ω3 w3 k3 h3 => ?_
        refine newL (ω := ω3) 51 fun g4 ω4 w4 k4 b4 => ?_
        have h4 := h3.off k4
        refine conv_T b4 rfl fun w5 k5 c5 => ?_
        have h5 := h4.off k5
        refine doR h5 hs (c5.rt rfl) rfl fun ω6 w6 h6 => ?_
        exact full_tail hK h6 rfl
      · skip
        refine newL (ω := ω1) 51 fun g7 ω7 w7 k7 b7 => ?_
        have l1_7 := c2.stp k7
        have h7 := h2.off k7
        refine ⟨?_, ?_⟩
        · skip
          refine doA h7 hs (l1_7.rt rfl).rd fun ω8 w8 k8 h8 => ?_
          have l2_8 := b7.stp k8
          refine conv_T l2_8 rfl fun w9 k9 c9 => ?_
          have h9 := h8.off k9
          refine doR h9 hs (c9.rt rfl) rfl fun ω10 w10 h10 => ?_
          exact full_tail hK h10 rfl
        · skip
          refine conv_T b7 rfl fun w11 k11 c11 => ?_
          have l1_11 := l1_7.stp k11
          have h11 := h7.off k11
          refine doA h11 hs (l1_11.rt rfl).rd fun ω12 w12 k12 h12 => ?_
          have l2_12 := c11.stp k12
          refine doR h12 hs (l2_12.rt rfl) rfl fun ω13 w13 h13 => ?_
          exact full_tail hK h13 rfl
    · skip
      refine newL (ω := ω1) 51 fun g14 ω14 w14 k14 b14 => ?_
      have l1_14 := b1.stp k14
      have h14 := h1.off k14
      refine ⟨?_, ?_⟩
      · skip
        refine conv_T l1_14 rfl fun w15 k15 c15 => ?_
        have l2_15 := b14.stp k15
        have h15 := h14.off k15
        refine ⟨?_, ?_⟩
        · skip
          refine doA h15 hs (c15.rt rfl).rd fun ω16 w16 k16 h16 => ?_
          have l2_16 := l2_15.stp k16
          refine conv_T l2_16 rfl fun w17 k17 c17 => ?_
          have h17 := h16.off k17
          refine doR h17 hs (c17.rt rfl) rfl fun ω18 w18 h18 => ?_
          exact full_tail hK h18 rfl
        · skip
          refine conv_T l2_15 rfl fun w19 k19 c19 => ?_
          have l1_19 := c15.stp k19
          have h19 := h15.off k19
          refine doA h19 hs (l1_19.rt rfl).rd fun ω20 w20 k20 h20 => ?_
          have l2_20 := c19.stp k20
          refine doR h20 hs (l2_20.rt rfl) rfl fun ω21 w21 h21 => ?_
          exact full_tail hK h21 rfl
      · skip
        refine conv_T b14 rfl fun w22 k22 c22 => ?_
        have l1_22 := l1_14.stp k22
        have h22 := h14.off k22
        refine conv_T l1_22 rfl fun w23 k23 c23 => ?_
        have l2_23 := c22.stp k23
        have h23 := h22.off k23
        refine doA h23 hs (c23.rt rfl).rd fun ω24 w24 k24 h24 => ?_
        have l2_24 := l2_23.stp k24
        refine doR h24 hs (l2_24.rt rfl) rfl fun ω25 w25 h25 => ?_
        exact full_tail hK h25 rfl
  · skip
    refine newL (ω := ω) 51 fun g26 ω26 w26 k26 b26 => ?_
    have h26 := h0.off k26
    refine ⟨?_, ?_⟩
    · skip
      refine newL (ω := ω26) 50 fun g27 ω27 w27 k27 b27 => ?_
      have l2_27 := b26.stp k27
      have h27 := h26.off k27
      refine ⟨?_, ?_⟩
      · skip
        refine conv_T b27 rfl fun w28 k28 c28 => ?_
        have l2_28 := l2_27.stp k28
        have h28 := h27.off k28
        refine ⟨?_, ?_⟩
        · skip
          refine doA h28 hs (c28.rt rfl).rd fun ω29 w29 k29 h29 => ?_
          have l2_29 := l2_28.stp k29
          refine conv_T l2_29 rfl fun w30 k30 c30 => ?_
          have h30 := h29.off k30
          refine doR h30 hs (c30.rt rfl) rfl fun ω31 w31 h31 => ?_
          exact full_tail hK h31 rfl
        · skip
          refine conv_T l2_28 rfl fun w32 k32 c32 => ?_
          have l1_32 := c28.stp k32
          have h32 := h28.off k32
          refine doA h32 hs (l1_32.rt rfl).rd fun ω33 w33 k33 h33 => ?_
          have l2_33 := c32.stp k33
          refine doR h33 hs (l2_33.rt rfl) rfl fun ω34 w34 h34 => ?_
          exact full_tail hK h34 rfl
      · skip
        refine conv_T l2_27 rfl fun w35 k35 c35 => ?_
        have l1_35 := b27.stp k35
        have h35 := h27.off k35
        refine conv_T l1_35 rfl fun w36 k36 c36 => ?_
        have l2_36 := c35.stp k36
        have h36 := h35.off k36
        refine doA h36 hs (c36.rt rfl).rd fun ω37 w37 k37 h37 => ?_
        have l2_37 := l2_36.stp k37
        refine doR h37 hs (l2_37.rt rfl) rfl fun ω38 w38 h38 => ?_
        exact full_tail hK h38 rfl
    · skip
      refine conv_T b26 rfl fun w39 k39 c39 => ?_
      have h39 := h26.off k39
      refine newL (ω := ω26) 50 fun g40 ω40 w40 k40 b40 => ?_
      have l2_40 := c39.stp k40
      have h40 := h39.off k40
      refine conv_T b40 rfl fun w41 k41 c41 => ?_
      have l2_41 := l2_40.stp k41
      have h41 := h40.off k41
      refine doA h41 hs (c41.rt rfl).rd fun ω42 w42 k42 h42 => ?_
      have l2_42 := l2_41.stp k42
      refine doR h42 hs (l2_42.rt rfl) rfl fun ω43 w43 h43 => ?_
      exact full_tail hK h43 rfl
theorem u8_ex (n : Int) : ∃ c : UInt8, Value.int .u8 (IntKind.u8.wrap n) = vB c := ⟨_, vB_u8 n⟩
theorem full_law {n : Int} {s : ByteArray} (h1 : -9223372036854775808 ≤ n) (h2 : n ≤ 9223372036854775807) (hs : s.size ≤ 9223372036854775807) {K : Bool → World → Prop} (hK : ∀ w', Keep w0 w' → K true w') : C.tocsinlaw03_DiskFull n s w0 K := by
  unfold C.tocsinlaw03_DiskFull
  refine new_ok (ω := fun _ => 0) 1 fun gd ω1 w1 k1 d1 => cond_f rfl <| new_T (ω := ω1) 4 fun gr ω2 w2 k2 b2 => count_ok (m := 10) (by decide) (by decide) h1 h2 fun k hk => ?_
  rw [show IntKind.i64.wrap ((250 : Int) + (k : Int)) = ((250 + k : Nat) : Int) by rw [wI64 (by omega) (by omega)]; omega]
  unfold C.tocsinlaw03_DiskFull.S9
  refine C.tocsinlaw03_DiskFull.L5_ind fun X hX => ?_
  have key : ∀ (d i : Nat) (M : List Fl) (ω3 : Tg) (w3 : World), i + d = 250 + k → ST w0 ω3 w3 gd gr M → X ((250 + k : Nat) : Int) s (some ⟨gd, 0, none⟩) (some ⟨gr, 0, none⟩) (i : Int) w3 := by
    intro d
    induction d with
    | zero =>
      intro i M ω3 w3 hi h
      refine hX _ _ _ _ _ _ ?_
      unfold C.tocsinlaw03_DiskFull.S7
      exact cond_d (fun hh => by omega) (fun _ => full_S2 hs hK h)
    | succ d ih =>
      intro i M ω3 w3 hi h
      refine hX _ _ _ _ _ _ ?_
      unfold C.tocsinlaw03_DiskFull.S7
      refine cond_d (fun _ => ⟨by decide, by decide, ?_⟩) (fun hh => by omega)
      obtain ⟨c1, e1⟩ := u8_ex (IntKind.i64.wrap ((97 : Int) + (IntKind.i64.wrap (Int.tdiv (i : Int) (16 : Int)))))
      obtain ⟨c2, e2⟩ := u8_ex (IntKind.i64.wrap ((97 : Int) + (Int.tmod (i : Int) (16 : Int))))
      rw [e1, e2]
      refine new_T (ω := ω3) 50 fun g ω4 w4 k4 b4 => ?_
      have h4 := h.off k4
      have hb : RdB w4 ⟨some ⟨g, 0, none⟩, 2, 2⟩ [c1, c2] := Rd.blk (o := 0) (n := 2) (c := 2) (sz := 1) b4.blk (Nat.le_refl _) (by simp)
      have hsz : (Utf.str [c1, c2]).size = 2 := rfl
      have hss : ((⟨#[102]⟩ : ByteArray) ++ Utf.str [c1, c2]).size ≤ 9223372036854775807 := by
        rw [ByteArray.size_append, hsz]; decide
      refine Utf.convBS hb ⟨by rw [hsz]; decide, ?_⟩
      refine append_ok (l := []) h4.d h4.wf hss (Rd.nil w4 1) (by decide) fun ω5 w5 k5 d5 hw5 => ?_
      have r5 := h4.r.stp k5 off41
      refine rappend_ok (l := []) (u := 0) r5 h4.wf hss (RT.nil ..) rfl (by decide) fun ω6 w6 k6 r6 => ?_
      rw [wI64 (by omega) (by omega), show (i : Int) + 1 = ((i + 1 : Nat) : Int) by omega]
      refine cond_f (by simp) (ih (i + 1) _ ω6 w6 (by omega) ⟨(h4.top.stp k5 rfl).stp k6 rfl, d5.stp k6 off14, r6, hw5⟩)
  exact key (250 + k) 0 [] ω2 w2 (by omega) ⟨((Top.init w0).stp k1).stp k2, d1.stp k2 (off_non 1), ⟨nilS, [], ⟨b2, OT.nil .., by simp⟩, rfl⟩, wf_nil⟩
end Go.Proofs.Ytlfpbnfdeanaeaa.Dk
