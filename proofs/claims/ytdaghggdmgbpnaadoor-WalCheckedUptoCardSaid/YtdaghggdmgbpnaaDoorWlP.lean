/- Layer 7 (wal): what a log's own disk is, and what the calls make of it: plain. Own work. -/
import Derived.Test.YtdaghggdmgbpnaaDoorWlH
namespace Go.Proofs.YtdaghggdmgbpnaaDoor.Wl
open Go Vm Go.RowKit Num Mem Dk Wo Vint Crc
variable {name : ByteArray} {room : Nat} {M : List Fl}

abbrev Rec := List UInt8
/-- A segment: whole records, what is torn behind them, how much is synced. -/
abbrev Sgm := List Rec × List UInt8 × Nat
def fileS (name : ByteArray) (n : Nat) (x : Sgm) : Fl := ⟨segN name n, flat x.1 ++ x.2.1, x.2.2⟩
def mkS (name : ByteArray) : Nat → List Sgm → List Fl
  | _, [] => []
  | a, x :: r => fileS name a x :: mkS name (a + 1) r
theorem mkS_app (name : ByteArray) : ∀ (l m : List Sgm) (a : Nat), mkS name a (l ++ m) = mkS name a l ++ mkS name (a + l.length) m
  | [], m, a => rfl
  | x :: l, m, a => by
    rw [List.cons_append, mkS, mkS, mkS_app name l m (a + 1), List.cons_append, List.length_cons, show a + 1 + l.length = a + (l.length + 1) by omega]
theorem mkS_len (name : ByteArray) : ∀ (l : List Sgm) (a : Nat), (mkS name a l).length = l.length
  | [], _ => rfl
  | x :: l, a => by rw [mkS, List.length_cons, mkS_len name l, List.length_cons]
theorem mem_mkS {f : Fl} : ∀ {l : List Sgm} {a : Nat}, f ∈ mkS name a l → ∃ k, k < l.length ∧ f.name = segN name (a + k)
  | [], _, h => by cases h
  | x :: l, a, h => by
    rcases List.mem_cons.1 h with rfl | h
    · exact ⟨0, by simp, rfl⟩
    · obtain ⟨k, hk, e⟩ := mem_mkS h
      exact ⟨k + 1, by simp only [List.length_cons]; omega, by rw [e, show a + 1 + k = a + (k + 1) by omega]⟩

/-! ## Names -/
theorem by_seg (name : ByteArray) (n : Nat) : Utf.bytes (segN name n) = Utf.bytes name ++ (46 :: dg 8 n) := by
  unfold segN
  rw [by_app, by_app, List.append_assoc]
  rfl
theorem num_seg {n : Nat} (h : n < 100000000) : numF name (segN name n) = n := by
  have hsz : (name ++ dot).size = name.size + 1 := by rw [ByteArray.size_append]; rfl
  have hb : Utf.bytes (name ++ dot) = Utf.bytes name ++ [46] := by rw [by_app]; rfl
  have hl : (Utf.bytes (name ++ dot)).length = (name ++ dot).size := (by_size _).symm
  have e0 : Utf.bytes (segN name n) = Utf.bytes (name ++ dot) ++ dg 8 n := by rw [by_seg, hb]; simp
  have e1 : (segN name n).extract 0 (name ++ dot).size = name ++ dot := by
    refine by_ext ?_
    rw [by_ex, e0, List.drop_zero, Nat.sub_zero, ← hl, List.take_left]
  have e2 : Utf.bytes ((segN name n).extract (name ++ dot).size (segN name n).size) = dg 8 n := by
    rw [by_ex, e0, ← hl, List.drop_left, List.take_of_length_le]
    rw [by_size, e0, List.length_append, dg_len]; omega
  have hp : preF (name ++ dot) (segN name n) = true := by
    unfold preF
    rw [e1, segN_size, hsz]
    simp
  unfold numF
  rw [if_pos hp, e2]
  unfold numR
  rw [if_pos ⟨dg_len _ _, dg_isD _ _⟩, numD_dg 8 n h]
theorem seg_inj {i j : Nat} (hi : i < 100000000) (hj : j < 100000000) (h : segN name i = segN name j) : i = j := by
  have := num_seg (name := name) hi
  rw [h, num_seg hj] at this
  exact this.symm
theorem seg_less {i j : Nat} (h : i < j) (hj : j < 100000000) : bl (segN name i) (segN name j) := by
  unfold bl
  rw [ByteArray.toList_eq, ByteArray.toList_eq]
  show Op.bytesLess (Utf.bytes (segN name i)) (Utf.bytes (segN name j)) = true
  rw [by_seg, by_seg, show (46 :: dg 8 i) = [46] ++ dg 8 i from rfl, show (46 :: dg 8 j) = [46] ++ dg 8 j from rfl]
  exact less_pre _ (less_pre _ (dg_less 8 i j h hj))
/-- Files that are no segments, and stand behind all of these. -/
structure Beh (name : ByteArray) (ck : List Fl) : Prop where
  num : ∀ f ∈ ck, numF name f.name = 0
  ne : ∀ f ∈ ck, ∀ n, f.name ≠ segN name n
  lt : ∀ f ∈ ck, ∀ n, bl (segN name n) f.name
  nw : ∀ f ∈ ck, f.name ≠ nwS name
theorem Beh.nil (name : ByteArray) : Beh name [] := ⟨by simp, by simp, by simp, by simp⟩
theorem okN_W {c : Nat} (h : okW c) : okN c := by unfold okW at h; unfold okN; omega
theorem okL_of_w {l : List UInt8} (h : wokL l = true) : okL l = true := by
  unfold wokL at h; unfold okL
  rw [List.all_eq_true] at h ⊢
  intro c hc
  have := h c hc
  simp only [decide_eq_true_eq] at this ⊢
  exact okN_W this
theorem nam_of {s : ByteArray} {e : List UInt8} (hn : wnam name = true) (h : Utf.bytes s = Utf.bytes name ++ e) (he : okL e = true) (hl : e.length ≤ 24) : namF s = true := by
  unfold wnam at hn
  simp only [Bool.and_eq_true, decide_eq_true_eq] at hn
  have hs : s.size = name.size + e.length := by rw [by_size, h, List.length_append, by_size]
  unfold namF
  rw [h, show okL (Utf.bytes name ++ e) = true by rw [okL, List.all_append, Bool.and_eq_true]; exact ⟨okL_of_w hn.2, he⟩]
  simp only [Bool.and_eq_true, decide_eq_true_eq, Bool.and_true]
  omega
theorem dg_okL (k n : Nat) : okL (dg k n) = true := by
  have := dg_isD k n
  unfold okL
  rw [List.all_eq_true] at this ⊢
  intro c hc
  have := isD_iff.1 (this c hc)
  simp only [decide_eq_true_eq]
  unfold okN; omega
theorem nam_seg (hn : wnam name = true) (n : Nat) : namF (segN name n) = true := by
  refine nam_of hn (by_seg name n) ?_ (by simp [dg_len])
  have := dg_okL 8 n
  unfold okL at this ⊢
  rw [List.all_cons, this]
  decide
theorem nam_nw (hn : wnam name = true) : namF (nwS name) = true := nam_of (e := [46, 110, 101, 119]) hn (by unfold nwS; rw [by_app]) (by decide) (by decide)
theorem nam_ck (hn : wnam name = true) : namF (ckS name) = true := nam_of (e := [46, 99, 104, 101, 99, 107]) hn (by unfold ckS; rw [by_app]) (by decide) (by decide)

/-! ## Finding, putting -/
variable {ck : List Fl}
theorem find_mid {A B : List Fl} {g : Fl} (h : ∀ f ∈ A, f.name ≠ g.name) : findM g.name (A ++ g :: B) = some g := by
  unfold findM
  rw [List.find?_append, List.find?_eq_none.2 (by simpa using h)]
  simp
theorem set_mid {A B : List Fl} {f g : Fl} (e : g.name = f.name) (hA : ∀ x ∈ A, x.name ≠ f.name) (hB : ∀ x ∈ B, x.name ≠ f.name) : setM f (A ++ g :: B) = A ++ f :: B := by
  unfold setM
  rw [List.map_append, List.map_cons, if_pos e]
  have hh : ∀ l : List Fl, (∀ x ∈ l, x.name ≠ f.name) → l.map (fun y => if y.name = f.name then f else y) = l := fun l hl => by
    conv => rhs; rw [← List.map_id l]
    exact List.map_congr_left fun x hx => if_neg (hl x hx)
  rw [hh A hA, hh B hB]
theorem ins_mid {A B : List Fl} {f : Fl} (hA : ∀ x ∈ A, bl x.name f.name) (hB : ∀ x ∈ B, bl f.name x.name) : insM f (A ++ B) = A ++ f :: B := by
  induction A with
  | nil =>
    cases B with
    | nil => rfl
    | cons y r =>
      have hn : Op.bytesLess y.name.toList f.name.toList = false := by
        have := bl_asym (hB y (List.mem_cons_self ..))
        unfold bl at this
        simpa using this
      show insM f (y :: r) = f :: y :: r
      unfold insM
      rw [hn]; rfl
  | cons y A ih =>
    have hy : Op.bytesLess y.name.toList f.name.toList = true := hA y (List.mem_cons_self ..)
    rw [List.cons_append, insM, if_pos hy, ih fun x hx => hA x (List.mem_cons_of_mem _ hx)]
    rfl
theorem pre_ne {l : List Sgm} {a k : Nat} (hk : l.length ≤ k) (hb : a + k < 100000000) : ∀ f ∈ mkS name a l, f.name ≠ segN name (a + k) := fun f hf e => by
  obtain ⟨j, hj, e'⟩ := mem_mkS hf
  rw [e'] at e
  have := seg_inj (by omega) hb e
  omega
theorem suf_ne {l : List Sgm} {a k : Nat} (hk : k < a) (hb : a + l.length < 100000000) : ∀ f ∈ mkS name a l, f.name ≠ segN name k := fun f hf e => by
  obtain ⟨j, hj, e'⟩ := mem_mkS hf
  rw [e'] at e
  have := seg_inj (by omega) (by omega) e
  omega
theorem find_at {A B : List Sgm} {x : Sgm} {a : Nat} (hb : a + A.length < 100000000) : findM (segN name (a + A.length)) (mkS name a (A ++ x :: B) ++ ck) = some (fileS name (a + A.length) x) := by
  rw [mkS_app, mkS, List.append_assoc, List.cons_append]
  exact find_mid (g := fileS name (a + A.length) x) (pre_ne (Nat.le_refl _) hb)
theorem find_no {A : List Sgm} {a : Nat} (hck : Beh name ck) (hb : a + A.length < 100000000) : findM (segN name (a + A.length)) (mkS name a A ++ ck) = none := by
  rw [findM_none]
  intro f hf
  rcases List.mem_append.1 hf with hf | hf
  · exact pre_ne (Nat.le_refl _) hb f hf
  · exact hck.ne f hf _
theorem put_at {A B : List Sgm} {x y : Sgm} {a : Nat} (hck : Beh name ck) (hb : a + A.length + B.length + 1 < 100000000) : putM (fileS name (a + A.length) y) (mkS name a (A ++ x :: B) ++ ck) = mkS name a (A ++ y :: B) ++ ck := by
  have hf : findM (fileS name (a + A.length) y).name (mkS name a (A ++ x :: B) ++ ck) = some (fileS name (a + A.length) x) := find_at (by omega)
  unfold putM
  rw [hf, if_neg (by simp), mkS_app, mkS, List.append_assoc, List.cons_append, mkS_app, mkS, List.append_assoc, List.cons_append]
  refine set_mid rfl (pre_ne (Nat.le_refl _) (by omega)) fun f hf => ?_
  rcases List.mem_append.1 hf with hf | hf
  · exact suf_ne (by omega) (by omega) f hf
  · exact hck.ne f hf _
theorem put_new {A : List Sgm} {y : Sgm} {a : Nat} (hck : Beh name ck) (hb : a + A.length < 100000000) : putM (fileS name (a + A.length) y) (mkS name a A ++ ck) = mkS name a (A ++ [y]) ++ ck := by
  have hf : findM (fileS name (a + A.length) y).name (mkS name a A ++ ck) = none := find_no hck hb
  unfold putM
  rw [if_pos hf, mkS_app, mkS, mkS, List.append_assoc]
  refine ins_mid (fun f hf => ?_) fun f hf => hck.lt f hf _
  obtain ⟨k, hk, e⟩ := mem_mkS hf
  rw [e]
  exact seg_less (by omega) hb
theorem segsM_mk {ck : List Fl} (hck : Beh name ck) : ∀ (l : List Sgm) (a : Nat), 0 < a → a + l.length < 100000000 → segsM name (mkS name a l ++ ck) = List.range' a l.length
  | [], a, _, _ => by
    show segsM name ck = []
    unfold segsM
    rw [List.filter_eq_nil_iff]
    intro n hn
    obtain ⟨f, hf, rfl⟩ := List.mem_map.1 hn
    simp [hck.num f hf]
  | x :: l, a, h0, hb => by
    simp only [List.length_cons] at hb
    have ih := segsM_mk hck l (a + 1) (by omega) (by omega)
    unfold segsM at ih ⊢
    rw [mkS, List.cons_append, List.map_cons, show numF name (fileS name a x).name = a from num_seg (by omega), List.filter_cons, if_pos (by simpa using h0), ih]
    rfl

/-! ## Reading it all again -/
def Torn (t : List UInt8) : Prop := ∃ m j, t = (frameOf m).take j ∧ j < (frameOf m).length ∧ m.length ≤ 65536
/-- Each segment whole but the last one, that may be torn. -/
def Whole : List Sgm → Prop
  | [] => True
  | [x] => (∀ m ∈ x.1, m.length ≤ 65536) ∧ (x.2.1 = [] ∨ Torn x.2.1)
  | x :: r => (∀ m ∈ x.1, m.length ≤ 65536) ∧ x.2.1 = [] ∧ Whole r
def trimS (x : Sgm) : Sgm := if x.2.1 = [] then x else (x.1, [], min x.2.2 (flat x.1).length)
def trim : List Sgm → List Sgm
  | [] => []
  | [x] => [trimS x]
  | x :: r => x :: trim r
def recs (l : List Sgm) : List Rec := l.flatMap (·.1)
theorem frs_seg {x : List Rec} {t : List UInt8} (h1 : ∀ m ∈ x, m.length ≤ 65536) (h2 : t = [] ∨ Torn t) : frs (flat x ++ t) (flat x ++ t).length 0 = (x, (flat x).length, if t = [] then 0 else 9) := by
  have := frs_flat x [] t (flat x ++ t).length h1 h2 (by simp)
  simpa using this
theorem rep_mk (hn : wnam name = true) (hck : Beh name ck) : ∀ (B : List Sgm) (A : List Sgm) (a : Nat) (l : List Rec) (a0 : Nat), Whole B → a + A.length + B.length + 1 < 100000000 →
    repM name (List.range' (a + A.length) B.length) (a + A.length) false a0 l (mkS name a (A ++ B) ++ ck) = ((if B = [] then a0 else a + A.length + B.length - 1), l ++ recs B, mkS name a (A ++ trim B) ++ ck)
  | [], A, a, l, a0, _, _ => by simp [repM, recs, trim]
  | x :: B, A, a, l, a0, hw, hb => by
    simp only [List.length_cons] at hb
    have hnm := nam_seg hn (a + A.length)
    have hr : rdM (segN name (a + A.length)) (mkS name a (A ++ x :: B) ++ ck) = (flat x.1 ++ x.2.1, 0) := by
      unfold rdM
      rw [if_neg (by simp [hnm]), find_at (by omega)]
      rfl
    have hx : (∀ m ∈ x.1, m.length ≤ 65536) ∧ (x.2.1 = [] ∨ Torn x.2.1) := by
      cases B with
      | nil => exact hw
      | cons y r => exact ⟨hw.1, .inl hw.2.1⟩
    rw [List.length_cons, List.range'_succ, repM, if_neg (by simp), hr]
    dsimp only
    rw [frs_seg hx.1 hx.2]
    dsimp only
    by_cases ht : x.2.1 = []
    · rw [if_pos ht, if_neg (by simp)]
      have hWB : Whole B := by
        cases B with
        | nil => trivial
        | cons y r => exact hw.2.2
      have ih := rep_mk hn hck B (A ++ [x]) a (l ++ x.1) (a + A.length) hWB (by simp only [List.length_append, List.length_singleton]; omega)
      rw [List.length_append, List.length_singleton, show a + (A.length + 1) = a + A.length + 1 by omega] at ih
      simp only [List.append_assoc, List.singleton_append] at ih
      rw [ih]
      have e1 : trim (x :: B) = x :: trim B := by
        cases B with
        | nil => simp [trim, trimS, ht]
        | cons y r => rfl
      rw [e1]
      refine Prod.ext ?_ (Prod.ext ?_ rfl)
      · show (if B = [] then a + A.length else a + A.length + 1 + B.length - 1) = if x :: B = [] then a0 else a + A.length + (B.length + 1) - 1
        rw [if_neg (List.cons_ne_nil x B)]
        split
        · rename_i e; subst e; simp
        · omega
      · show l ++ (x.1 ++ recs B) = l ++ recs (x :: B)
        simp [recs]
    · have hB : B = [] := by
        cases B with
        | nil => rfl
        | cons y r => exact absurd hw.2.1 ht
      subst hB
      rw [if_neg ht, if_pos (by decide)]
      have hcut : (cutM (segN name (a + A.length)) (((flat x.1).length : Nat) : Int) (mkS name a (A ++ [x]) ++ ck)).2 = mkS name a (A ++ trim [x]) ++ ck := by
        unfold cutM onF
        rw [if_neg (by simp [hnm]), find_at (by omega)]
        dsimp only
        rw [if_neg (by simp only [fileS, List.length_append]; omega), Int.toNat_natCast]
        have e2 : (⟨segN name (a + A.length), (fileS name (a + A.length) x).bytes.take (flat x.1).length, min (fileS name (a + A.length) x).synced (flat x.1).length⟩ : Fl) = fileS name (a + A.length) (trimS x) := by
          simp only [fileS, trimS, if_neg ht, List.take_left, List.append_nil]
        rw [e2, put_at hck (by simp; omega)]
        rfl
      rw [hcut]
      simp [repM, recs]
end Go.Proofs.YtdaghggdmgbpnaaDoor.Wl
