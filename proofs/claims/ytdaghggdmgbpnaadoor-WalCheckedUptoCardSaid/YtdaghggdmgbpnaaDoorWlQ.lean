/- Layer 7 (wal): Append and Open on a log's own disk: plain. Own work. -/
import Derived.Test.YtdaghggdmgbpnaaDoorWlP
namespace Go.Proofs.YtdaghggdmgbpnaaDoor.Wl
open Go Vm Go.RowKit Num Mem Dk Wo Vint Crc
variable {name : ByteArray} {room : Nat} {M ck : List Fl}

theorem flat_one (r : Rec) : flat [r] = frameOf r := by simp [flat]
theorem flat_snoc (l : List Rec) (r : Rec) : flat (l ++ [r]) = flat l ++ frameOf r := by rw [flat_app, flat_one]
theorem nw_size (name : ByteArray) : (nwS name).size = name.size + 4 := by unfold nwS; rw [ByteArray.size_append]; rfl
theorem ck_size (name : ByteArray) : (ckS name).size = name.size + 6 := by unfold ckS; rw [ByteArray.size_append]; rfl
theorem seg_nw (n : Nat) : segN name n ≠ nwS name := fun e => by have := congrArg ByteArray.size e; rw [segN_size, nw_size] at this; omega
theorem seg_ck (n : Nat) : segN name n ≠ ckS name := fun e => by have := congrArg ByteArray.size e; rw [segN_size, ck_size] at this; omega
theorem rem_nw {l : List Sgm} {a : Nat} (hck : Beh name ck) : (remM (nwS name) (mkS name a l ++ ck)).2 = mkS name a l ++ ck := by
  have hf : findM (nwS name) (mkS name a l ++ ck) = none := by
    rw [findM_none]
    intro f hf
    rcases List.mem_append.1 hf with hf | hf
    · obtain ⟨k, _, e⟩ := mem_mkS hf
      rw [e]; exact seg_nw _
    · exact hck.nw f hf
  unfold remM onF
  split
  · rfl
  · rw [hf]
theorem op_mk (hn : wnam name = true) (hck : Beh name ck) {l : List Sgm} {a : Nat} {l0 : List Rec} (hw : Whole l) (h0 : 0 < a) (hb : a + l.length + 1 < 100000000) :
    opM name (mkS name a l ++ ck) a l0 = ((if l = [] then a else a + l.length - 1), l0 ++ recs l, mkS name a (trim l) ++ ck) := by
  unfold opM
  rw [rem_nw hck, segsM_mk hck l a h0 (by omega)]
  have := rep_mk hn hck l [] a l0 a hw (by simpa using hb)
  simpa using this
theorem no_ck {l : List Sgm} {a : Nat} : Ckd name (remM (nwS name) (mkS name a l ++ [])).2 1 [] := by
  refine .inl ⟨?_, rfl, rfl⟩
  rw [rem_nw (Beh.nil name)]
  have hf : findM (ckS name) (mkS name a l ++ []) = none := by
    rw [findM_none]
    intro f hf
    rw [List.append_nil] at hf
    obtain ⟨k, _, e⟩ := mem_mkS hf
    rw [e]; exact seg_ck _
  unfold rdM
  split
  · decide
  · rw [hf]; decide
theorem frame_le {r : Rec} (hr : r.length ≤ 65536) : (frameOf r).length ≤ 65550 := by have := frameOf_len hr; omega
theorem app_first (hn : wnam name = true) (hck : Beh name ck) {a : Nat} {r : Rec} (hr : r.length ≤ 65536) (hc : ck.length < 256) (hb : a + 1 < 100000000) :
    appL name room a (mkS name a [] ++ ck) r = (0, a, mkS name a [([r], [], 0)] ++ ck) := by
  have hnm := nam_seg hn a
  have hf : findM (segN name a) (mkS name a [] ++ ck) = none := find_no (A := []) hck (by simpa using (by omega : a < 100000000))
  have hno : ¬ rolls name room a (mkS name a [] ++ ck) r := fun h => by
    have := h.1
    unfold szM at this
    rw [if_neg (by simp [hnm]), hf] at this
    cases this
  have hfl := frame_le hr
  unfold appL
  rw [if_neg (by omega), if_neg hno]
  unfold putL apM
  rw [if_neg (by simp [hnm]), hf]
  dsimp only
  rw [if_neg (by simp [mkS]; omega), if_neg (by omega)]
  have := put_new (A := []) (y := ([r], [], 0)) (a := a) hck (by simpa using (by omega : a < 100000000))
  simp only [fileS, flat_one, List.append_nil, List.length_nil, Nat.add_zero, List.nil_append] at this
  rw [this]
theorem sz_last (hn : wnam name = true) {pre : List Sgm} {x : Sgm} {a : Nat} (hb : a + pre.length < 100000000) : szM (segN name (a + pre.length)) (mkS name a (pre ++ [x]) ++ ck) = (((flat x.1 ++ x.2.1).length : Int), (x.2.2 : Int), 0) := by
  unfold szM
  rw [if_neg (by simp [nam_seg hn]), find_at hb]
  rfl
theorem app_more (hn : wnam name = true) (hck : Beh name ck) {pre : List Sgm} {x : List Rec} {sy a : Nat} {r : Rec} (hr : r.length ≤ 65536) (hb : a + pre.length + 1 < 100000000) (h : (flat x).length + (frameOf r).length ≤ room) (hroom : room ≤ 1048576) :
    appL name room (a + pre.length) (mkS name a (pre ++ [(x, [], sy)]) ++ ck) r = (0, a + pre.length, mkS name a (pre ++ [(x ++ [r], [], sy)]) ++ ck) := by
  have hnm := nam_seg hn (a + pre.length)
  have hno : ¬ rolls name room (a + pre.length) (mkS name a (pre ++ [(x, [], sy)]) ++ ck) r := fun hh => by
    have := hh.2.2
    rw [sz_last hn (by omega)] at this
    simp only [List.append_nil] at this
    omega
  unfold appL
  rw [if_neg (by omega), if_neg hno]
  unfold putL apM
  rw [if_neg (by simp [hnm]), find_at (by omega)]
  dsimp only
  rw [if_neg (by simp only [fileS, List.append_nil]; omega)]
  have := put_at (A := pre) (B := []) (x := (x, [], sy)) (y := (x ++ [r], [], sy)) (a := a) hck (by simpa using hb)
  simp only [fileS, flat_snoc, List.append_nil] at this ⊢
  rw [this]
theorem app_roll (hn : wnam name = true) (hck : Beh name ck) {pre : List Sgm} {x : List Rec} {sy a : Nat} {r : Rec} (hr : r.length ≤ 65536) (hb : a + pre.length + 1 < 99999999) (hx : x ≠ []) (h : room < (flat x).length + (frameOf r).length) (hc : pre.length + 1 + ck.length < 256) :
    appL name room (a + pre.length) (mkS name a (pre ++ [(x, [], sy)]) ++ ck) r = (0, a + pre.length + 1, mkS name a (pre ++ [(x, [], (flat x).length), ([r], [], 0)]) ++ ck) := by
  have hnm := nam_seg hn (a + pre.length)
  have hnm1 := nam_seg hn (a + pre.length + 1)
  have hpos : 0 < (flat x).length := by
    cases x with
    | nil => exact absurd rfl hx
    | cons m x =>
      have := frameOf_pos m
      have e : flat (m :: x) = frameOf m ++ flat x := List.flatMap_cons
      rw [e, List.length_append]; omega
  have hyes : rolls name room (a + pre.length) (mkS name a (pre ++ [(x, [], sy)]) ++ ck) r := by
    unfold rolls
    rw [sz_last hn (by omega)]
    simp only [List.append_nil]
    refine ⟨trivial, by omega, by omega⟩
  have hfl := frame_le hr
  unfold appL
  rw [if_neg (by omega), if_pos hyes, if_neg (by omega)]
  have hsy : (syM (segN name (a + pre.length)) (mkS name a (pre ++ [(x, [], sy)]) ++ ck)).2 = mkS name a (pre ++ [(x, [], (flat x).length)]) ++ ck := by
    unfold syM onF
    rw [if_neg (by simp [hnm]), find_at (by omega)]
    dsimp only
    have := put_at (A := pre) (B := []) (x := (x, [], sy)) (y := (x, [], (flat x).length)) (a := a) hck (by simpa using (by omega : a + pre.length + 1 < 100000000))
    simp only [fileS, List.append_nil] at this ⊢
    rw [this]
  rw [hsy]
  have hA : a + (pre ++ [(x, [], (flat x).length)]).length = a + pre.length + 1 := by simp; omega
  have hf := find_no (A := pre ++ [((x, [], (flat x).length) : Sgm)]) (a := a) hck (by rw [hA]; omega)
  rw [hA] at hf
  unfold putL apM
  rw [if_neg (by simp [hnm1]), hf]
  dsimp only
  rw [if_neg (by rw [List.length_append, mkS_len]; simp; omega), if_neg (by omega)]
  have := put_new (A := pre ++ [((x, [], (flat x).length) : Sgm)]) (y := ([r], [], 0)) (a := a) hck (by rw [hA]; omega)
  rw [hA] at this
  simp only [fileS, flat_one, List.append_nil, List.append_assoc, List.singleton_append] at this
  rw [this]

/-! ## A log that was only appended to -/
structure Good (l : List Sgm) : Prop where
  each : ∀ x ∈ l, x.1 ≠ [] ∧ x.2.1 = [] ∧ (∀ m ∈ x.1, m.length ≤ 65536) ∧ (flat x.1).length ≤ 65550
  syn : ∀ pre x, l = pre ++ [x] → (∀ y ∈ pre, y.2.2 = (flat y.1).length) ∧ x.2.2 ≤ (flat x.1).length
theorem Good.nil : Good [] := ⟨by simp, fun pre x h => by simp at h⟩
/-- Of the records at least C are synced. -/
def Sy (C : Nat) (l : List Sgm) : Prop := (l = [] → C = 0) ∧ ∀ pre x, l = pre ++ [x] → ∃ c, c ≤ x.1.length ∧ C ≤ (recs pre).length + c ∧ endAt x.1 c ≤ x.2.2
theorem recs_app (a b : List Sgm) : recs (a ++ b) = recs a ++ recs b := List.flatMap_append
theorem recs_one (x : Sgm) : recs [x] = x.1 := by simp [recs]
theorem app_mk (hn : wnam name = true) (hck : Beh name ck) {l : List Sgm} {a : Nat} {r : Rec} (hg : Good l) (hr : r.length ≤ 65536) (hroom : room ≤ 65550) (hc : l.length + ck.length + 1 < 256) (hb : a + l.length + 1 < 99999999) :
    ∃ l', appL name room (a + (l.length - 1)) (mkS name a l ++ ck) r = (0, a + (l'.length - 1), mkS name a l' ++ ck) ∧ Good l' ∧ recs l' = recs l ++ [r] ∧ l'.length ≤ l.length + 1 ∧ l' ≠ [] ∧ ∀ C, Sy C l → Sy C l' := by
  have hfl := frame_le hr
  rcases List.eq_nil_or_concat l with rfl | ⟨pre, x, rfl⟩
  · refine ⟨[([r], [], 0)], (by have := app_first (room := room) hn hck (a := a) (r := r) hr (by omega) (by simp only [List.length_nil] at hb; omega); exact this), ⟨fun x hx => ?_, fun pre x h => ?_⟩, by simp [recs], by simp, by simp, fun C hC => ⟨by simp, fun pre x h => ⟨0, Nat.zero_le _, by rw [hC.1 rfl]; exact Nat.zero_le _, by simp [endAt, flat]⟩⟩⟩
    · rw [List.mem_singleton.1 hx]
      refine ⟨by simp, rfl, by simpa using hr, by rw [flat_one]; exact hfl⟩
    · have : pre = [] ∧ [x] = [(([r], [], 0) : Sgm)] := by
        have hl := congrArg List.length h
        simp only [List.length_append, List.length_singleton] at hl
        have hp : pre = [] := List.eq_nil_of_length_eq_zero (by omega)
        subst hp
        exact ⟨rfl, h.symm⟩
      obtain ⟨rfl, hx⟩ := this
      injection hx with hx
      subst hx
      exact ⟨by simp, Nat.zero_le _⟩
  · obtain ⟨rs, t, sy⟩ := x
    rw [List.concat_eq_append] at *
    obtain ⟨h1, h2, h3, h4⟩ := hg.each (rs, t, sy) (by simp)
    obtain ⟨s1, s2⟩ := hg.syn pre _ rfl
    dsimp only at h1 h2 h3 h4 s2
    subst h2
    simp only [List.length_append, List.length_singleton] at hb hc
    have last : ∀ (p : List Sgm) (y z : Sgm) (q : List Sgm), q ++ [y] = p ++ [z] → q = p ∧ y = z := fun p y z q h => by
      have := List.append_inj' h rfl
      exact ⟨this.1, by simpa using this.2⟩
    rw [show (pre ++ [((rs, [], sy) : Sgm)]).length - 1 = pre.length by simp]
    by_cases hroll : room < (flat rs).length + (frameOf r).length
    · refine ⟨pre ++ [(rs, [], (flat rs).length), ([r], [], 0)], ?_, ⟨fun x hx => ?_, fun p x h => ?_⟩, by simp [recs], by simp, by simp, fun C hC => ⟨by simp, fun p x h => ?_⟩⟩
      rotate_left 3
      · rw [show pre ++ [((rs, [], (flat rs).length) : Sgm), ([r], [], 0)] = (pre ++ [(rs, [], (flat rs).length)]) ++ [([r], [], 0)] by simp] at h
        obtain ⟨rfl, rfl⟩ := last _ _ _ _ h
        obtain ⟨c, c1, c2, c3⟩ := hC.2 pre _ rfl
        dsimp only at c1
        exact ⟨0, Nat.zero_le _, by rw [recs_app, recs_one, List.length_append]; dsimp only; omega, by simp [endAt, flat]⟩
      · rw [app_roll hn hck hr (by omega) h1 hroll (by omega)]
        simp only [List.length_append, List.length_cons, List.length_nil]
        rw [show a + (pre.length + (0 + 1 + 1) - 1) = a + pre.length + 1 by omega]
      · rcases List.mem_append.1 hx with hx | hx
        · exact hg.each x (by simp [hx])
        · rcases List.mem_cons.1 hx with rfl | hx
          · exact ⟨h1, rfl, h3, h4⟩
          · rw [List.mem_singleton.1 hx]
            exact ⟨by simp, rfl, by simpa using hr, by rw [flat_one]; exact hfl⟩
      · rw [show pre ++ [((rs, [], (flat rs).length) : Sgm), ([r], [], 0)] = (pre ++ [(rs, [], (flat rs).length)]) ++ [([r], [], 0)] by simp] at h
        obtain ⟨rfl, rfl⟩ := last _ _ _ _ h
        refine ⟨fun y hy => ?_, Nat.zero_le _⟩
        rcases List.mem_append.1 hy with hy | hy
        · exact s1 y hy
        · rw [List.mem_singleton.1 hy]
    · refine ⟨pre ++ [(rs ++ [r], [], sy)], ?_, ⟨fun x hx => ?_, fun p x h => ?_⟩, by simp [recs], by simp, by simp, fun C hC => ⟨by simp, fun p x h => ?_⟩⟩
      rotate_left 3
      · obtain ⟨rfl, rfl⟩ := last _ _ _ _ h
        obtain ⟨c, c1, c2, c3⟩ := hC.2 pre _ rfl
        dsimp only at c1 c3
        refine ⟨c, by show c ≤ (rs ++ [r]).length; rw [List.length_append]; omega, c2, ?_⟩
        unfold endAt at c3 ⊢
        dsimp only
        rw [List.take_append_of_le_length c1]; exact c3
      · rw [app_more hn hck hr (by omega) (by omega) (by omega)]
        simp
      · rcases List.mem_append.1 hx with hx | hx
        · exact hg.each x (by simp [hx])
        · rw [List.mem_singleton.1 hx]
          refine ⟨by simp, rfl, fun m hm => ?_, by rw [flat_snoc, List.length_append]; omega⟩
          rcases List.mem_append.1 hm with hm | hm
          · exact h3 m hm
          · rw [List.mem_singleton.1 hm]; exact hr
      · obtain ⟨rfl, rfl⟩ := last _ _ _ _ h
        exact ⟨s1, by rw [flat_snoc, List.length_append]; dsimp only; omega⟩
theorem Good.whole : ∀ {l : List Sgm}, (∀ x ∈ l, x.1 ≠ [] ∧ x.2.1 = [] ∧ (∀ m ∈ x.1, m.length ≤ 65536) ∧ (flat x.1).length ≤ 65550) → Whole l ∧ trim l = l
  | [], _ => ⟨trivial, rfl⟩
  | [x], h => by
    have := h x (by simp)
    refine ⟨⟨this.2.2.1, .inl this.2.1⟩, ?_⟩
    simp [trim, trimS, this.2.1]
  | x :: y :: r, h => by
    have h1 := h x (by simp)
    have ih := Good.whole (l := y :: r) fun z hz => h z (List.mem_cons_of_mem _ hz)
    refine ⟨⟨h1.2.2.1, h1.2.1, ih.1⟩, ?_⟩
    show x :: trim (y :: r) = _
    rw [ih.2]
end Go.Proofs.YtdaghggdmgbpnaaDoor.Wl
