/- Layer 3: files, by definition; names. Own work. -/
import Derived.Test.YtdaghggdmgbpnaaDoorMapV
import Derived.Test.YtdaghggdmgbpnaaDoorRowT
import Derived.Test.YtdaghggdmgbpnaaDoorConvB
import Derived.Test.YtdaghggdmgbpnaaDoorCa
namespace Go.Proofs.YtdaghggdmgbpnaaDoor.Dk
open Go Vm Go.RowKit Num Mem Utf
variable {ω ω' : Tg} {w w' w0 : World}

/-! ## Names -/
def okN (c : Nat) : Prop := (97 ≤ c ∧ c ≤ 122) ∨ (65 ≤ c ∧ c ≤ 90) ∨ (48 ≤ c ∧ c ≤ 57) ∨ c = 46 ∨ c = 95 ∨ c = 45 ∨ c = 47
instance (c : Nat) : Decidable (okN c) := by unfold okN; infer_instance
def okL (l : List UInt8) : Bool := l.all fun c => decide (okN c.toNat)
def namF (s : ByteArray) : Bool := decide (1 ≤ s.size) && decide (s.size ≤ 64) && okL (Utf.bytes s)
theorem cond_neq {a b : Int} {X Y : Prop} (h1 : a ≠ b → X) (h2 : a = b → Y) : G.cond (!(a == b)) X Y :=
  cond_of (fun h => h1 (by simpa using h)) (fun h => h2 (by simpa using h))
/-- One byte's test. -/
theorem one_ok {c : Nat} {X Y : Prop} (hX : okN c → X) (hY : ¬ okN c → Y) :
    G.cond (decide ((c : Int) ≥ (97 : Int))) (G.cond (decide ((c : Int) ≤ (122 : Int))) X (G.cond (decide ((c : Int) ≥ (65 : Int))) (G.cond (decide ((c : Int) ≤ (90 : Int))) X (G.cond (decide ((c : Int) ≥ (48 : Int))) (G.cond (decide ((c : Int) ≤ (57 : Int))) X (G.cond ((c : Int) == (46 : Int)) X (G.cond ((c : Int) == (95 : Int)) X (G.cond ((c : Int) == (45 : Int)) X (G.cond (!((c : Int) == (47 : Int))) Y X))))) (G.cond ((c : Int) == (46 : Int)) X (G.cond ((c : Int) == (95 : Int)) X (G.cond ((c : Int) == (45 : Int)) X (G.cond (!((c : Int) == (47 : Int))) Y X)))))) (G.cond (decide ((c : Int) ≥ (48 : Int))) (G.cond (decide ((c : Int) ≤ (57 : Int))) X (G.cond ((c : Int) == (46 : Int)) X (G.cond ((c : Int) == (95 : Int)) X (G.cond ((c : Int) == (45 : Int)) X (G.cond (!((c : Int) == (47 : Int))) Y X))))) (G.cond ((c : Int) == (46 : Int)) X (G.cond ((c : Int) == (95 : Int)) X (G.cond ((c : Int) == (45 : Int)) X (G.cond (!((c : Int) == (47 : Int))) Y X))))))) (G.cond (decide ((c : Int) ≥ (65 : Int))) (G.cond (decide ((c : Int) ≤ (90 : Int))) X (G.cond (decide ((c : Int) ≥ (48 : Int))) (G.cond (decide ((c : Int) ≤ (57 : Int))) X (G.cond ((c : Int) == (46 : Int)) X (G.cond ((c : Int) == (95 : Int)) X (G.cond ((c : Int) == (45 : Int)) X (G.cond (!((c : Int) == (47 : Int))) Y X))))) (G.cond ((c : Int) == (46 : Int)) X (G.cond ((c : Int) == (95 : Int)) X (G.cond ((c : Int) == (45 : Int)) X (G.cond (!((c : Int) == (47 : Int))) Y X)))))) (G.cond (decide ((c : Int) ≥ (48 : Int))) (G.cond (decide ((c : Int) ≤ (57 : Int))) X (G.cond ((c : Int) == (46 : Int)) X (G.cond ((c : Int) == (95 : Int)) X (G.cond ((c : Int) == (45 : Int)) X (G.cond (!((c : Int) == (47 : Int))) Y X))))) (G.cond ((c : Int) == (46 : Int)) X (G.cond ((c : Int) == (95 : Int)) X (G.cond ((c : Int) == (45 : Int)) X (G.cond (!((c : Int) == (47 : Int))) Y X)))))) := by
  have T : ∀ {Z : Prop}, Z → Z := fun h => h
  repeat' first
    | refine cond_d (fun _ => ?_) (fun _ => ?_)
    | refine cond_eq (fun _ => ?_) (fun _ => ?_)
    | refine cond_neq (fun _ => ?_) (fun _ => ?_)
  all_goals first
    | exact hX (by unfold okN; omega)
    | exact hY (by unfold okN; omega)
    | omega
theorem bytes_at {s : ByteArray} {k : Nat} (hk : k < s.size) : (Utf.bytes s)[k]? = some ((Utf.bytes s).getD k 0) := by
  have : k < (Utf.bytes s).length := by rw [← Go.Lib.size_eq]; exact hk
  rw [List.getD_eq_getElem?_getD, List.getElem?_eq_getElem this]; rfl
theorem okL_step {l : List UInt8} {k : Nat} {c : UInt8} (h : okL (l.take k) = true) (hc : l[k]? = some c) (ho : okN c.toNat) : okL (l.take (k + 1)) = true := by
  rw [List.take_add_one, hc, okL, List.all_append]
  simp only [okL] at h
  simp [h, ho]
theorem okL_no {l : List UInt8} {k : Nat} {c : UInt8} (hc : l[k]? = some c) (ho : ¬ okN c.toNat) : okL l = false := by
  rw [okL, List.all_eq_false]
  exact ⟨c, List.mem_of_getElem? hc, by simp [ho]⟩
theorem named_ok {s : ByteArray} (hs : s.size ≤ 9223372036854775807) {K : Bool → World → Prop} (hK : K (namF s) w) : C.disk_named s w K := by
  unfold C.disk_named C.disk_named.S9
  refine C.disk_named.L5_ind fun X hX => ?_
  have key : ∀ d k : Nat, k + d = s.size → okL ((Utf.bytes s).take k) = true → X s ((s.size : Nat) : Int) (k : Int) w := by
    intro d
    induction d with
    | zero =>
      intro k hk ho
      refine hX _ _ _ _ ?_
      unfold C.disk_named.S7 C.disk_named.S2
      refine cond_d (fun h => by omega) (fun _ => ?_)
      rw [List.take_of_length_le (by rw [← Go.Lib.size_eq]; omega)] at ho
      unfold namF at hK
      rw [ho, Bool.and_true] at hK
      refine cond_d (fun h => ?_) (fun h => ?_)
      · have e : decide (((s.size : Nat) : Int) ≤ 64) = decide (s.size ≤ 64) := by simp only [decide_eq_decide]; omega
        rw [e]; rwa [decide_eq_true (by omega : 1 ≤ s.size), Bool.true_and] at hK
      · rwa [decide_eq_false (by omega : ¬ 1 ≤ s.size), Bool.false_and] at hK
    | succ d ih =>
      intro k hk ho
      refine hX _ _ _ _ ?_
      unfold C.disk_named.S7
      have hb := bytes_at (s := s) (k := k) (by omega)
      refine cond_d (fun _ => ?_) (fun h => by omega)
      refine ixS_at (k := k) rfl (by omega) (one_ok (fun h => ?_) (fun h => ?_))
      · rw [wI64 (by omega) (by omega), show (k : Int) + 1 = ((k + 1 : Nat) : Int) by omega]
        exact ih (k + 1) (by omega) (okL_step ho hb h)
      · unfold namF at hK
        rwa [okL_no hb h, Bool.and_false] at hK
  exact key s.size 0 (by omega) rfl

/-! ## Files by their names -/
structure Fl where
  name : ByteArray
  bytes : List UInt8
  synced : Nat
def bl (a b : ByteArray) : Prop := Op.bytesLess a.toList b.toList = true
/-- Files, rising. -/
structure WF (M : List Fl) : Prop where
  up : M.Pairwise fun a b => bl a.name b.name
  nam : ∀ f ∈ M, namF f.name = true
  syn : ∀ f ∈ M, f.synced ≤ f.bytes.length
  len : ∀ f ∈ M, f.bytes.length ≤ 1048576
  cnt : M.length ≤ 256
def findM (s : ByteArray) (M : List Fl) : Option Fl := M.find? fun f => decide (f.name = s)
theorem less_self : ∀ l : List UInt8, Op.bytesLess l l = false
  | [] => rfl
  | a :: l => by simp [Op.bytesLess, less_self l]
theorem less_trans : ∀ {a b c : List UInt8}, Op.bytesLess a b = true → Op.bytesLess b c = true → Op.bytesLess a c = true
  | _, [], _, h, _ => by simp [Op.bytesLess] at h
  | _, _ :: _, [], _, h => by simp [Op.bytesLess] at h
  | [], _ :: _, _ :: _, _, _ => rfl
  | x :: a, y :: b, z :: c, h1, h2 => by
    simp only [Op.bytesLess, Bool.or_eq_true, decide_eq_true_eq, Bool.and_eq_true, beq_iff_eq] at *
    rcases h1 with h1 | ⟨rfl, h1⟩
    · rcases h2 with h2 | ⟨rfl, h2⟩
      · exact .inl (UInt8.lt_trans h1 h2)
      · exact .inl h1
    · rcases h2 with h2 | ⟨rfl, h2⟩
      · exact .inl h2
      · exact .inr ⟨rfl, less_trans h1 h2⟩
theorem less_tri : ∀ {a b : List UInt8}, Op.bytesLess a b = false → a ≠ b → Op.bytesLess b a = true
  | [], [], _, h => absurd rfl h
  | [], _ :: _, h, _ => by simp [Op.bytesLess] at h
  | _ :: _, [], _, _ => rfl
  | x :: a, y :: b, h, hne => by
    simp only [Op.bytesLess, Bool.or_eq_false_iff, decide_eq_false_iff_not, Bool.and_eq_false_iff, Bool.or_eq_true, decide_eq_true_eq, Bool.and_eq_true, beq_iff_eq] at *
    rcases UInt8.lt_or_lt_of_ne (a := x) (b := y) |> fun f => Decidable.em (x = y) with e | e
    · subst e
      rcases h.2 with h2 | h2
      · simp at h2
      · exact .inr ⟨rfl, less_tri h2 (fun e => hne (by rw [e]))⟩
    · rcases UInt8.lt_or_lt_of_ne e with h3 | h3
      · exact absurd h3 h.1
      · exact .inl h3
theorem ba_inj {a b : ByteArray} (h : a.toList = b.toList) : a = b := by
  rw [ByteArray.toList_eq, ByteArray.toList_eq] at h
  cases a; cases b
  simpa using h
theorem bl_ne {a b : ByteArray} (h : bl a b) : a ≠ b := by rintro rfl; unfold bl at h; rw [less_self] at h; cases h
theorem bl_asym {a b : ByteArray} (h : bl a b) : ¬ bl b a := fun h' => by have := less_trans h h'; rw [less_self] at this; cases this
theorem WF.nodup {M : List Fl} (h : WF M) : (M.map (·.name)).Nodup := by
  rw [List.Nodup, List.pairwise_map]
  exact h.up.imp fun h => bl_ne h
theorem findM_some {M : List Fl} (hn : (M.map (·.name)).Nodup) {s : ByteArray} {f : Fl} : findM s M = some f ↔ f ∈ M ∧ f.name = s := by
  induction M with
  | nil => simp [findM]
  | cons x M ih =>
    have hx := List.nodup_cons.1 hn
    unfold findM
    rw [List.find?_cons]
    by_cases e : x.name = s
    · simp only [e, decide_true, Option.some.injEq]
      constructor
      · rintro rfl; exact ⟨List.mem_cons_self .., e⟩
      · rintro ⟨h1, h2⟩
        rcases List.mem_cons.1 h1 with rfl | h1
        · rfl
        · exact absurd (List.mem_map_of_mem (f := (·.name)) h1) (by rw [h2, ← e]; exact hx.1)
    · simp only [e, decide_false]
      rw [show M.find? (fun f => decide (f.name = s)) = findM s M from rfl, ih hx.2]
      constructor
      · rintro ⟨h1, h2⟩; exact ⟨List.mem_cons_of_mem _ h1, h2⟩
      · rintro ⟨h1, h2⟩
        rcases List.mem_cons.1 h1 with rfl | h1
        · exact absurd h2 e
        · exact ⟨h1, h2⟩
theorem findM_none {M : List Fl} {s : ByteArray} : findM s M = none ↔ ∀ f ∈ M, f.name ≠ s := by
  simp [findM, List.find?_eq_none]
/-- A file replaced; put in its place; gone. -/
def setM (f : Fl) (M : List Fl) : List Fl := M.map fun y => if y.name = f.name then f else y
def insM (f : Fl) : List Fl → List Fl
  | [] => [f]
  | y :: r => if Op.bytesLess y.name.toList f.name.toList then y :: insM f r else f :: y :: r
def delM (s : ByteArray) (M : List Fl) : List Fl := M.filter fun y => decide (y.name ≠ s)
theorem mem_insM {f x : Fl} : ∀ {M : List Fl}, x ∈ insM f M ↔ x = f ∨ x ∈ M
  | [] => by simp [insM]
  | y :: r => by
    unfold insM
    split
    · rw [List.mem_cons, mem_insM, List.mem_cons]
      constructor
      · rintro (h | h | h) <;> simp [h]
      · rintro (h | h | h) <;> simp [h]
    · simp
theorem len_insM {f : Fl} : ∀ {M : List Fl}, (insM f M).length = M.length + 1
  | [] => rfl
  | y :: r => by unfold insM; split <;> simp [len_insM]
theorem up_insM {f : Fl} : ∀ {M : List Fl}, M.Pairwise (fun a b => bl a.name b.name) → (∀ y ∈ M, y.name ≠ f.name) → (insM f M).Pairwise fun a b => bl a.name b.name
  | [], _, _ => by simp [insM]
  | y :: r, h, hne => by
    have h' := List.pairwise_cons.1 h
    unfold insM
    split
    · rename_i hl
      refine List.pairwise_cons.2 ⟨fun x hx => ?_, up_insM h'.2 fun z hz => hne z (List.mem_cons_of_mem _ hz)⟩
      rcases mem_insM.1 hx with rfl | hx
      · exact hl
      · exact h'.1 x hx
    · rename_i hl
      have hfy : bl f.name y.name := less_tri (by simpa using hl) fun e => hne y (List.mem_cons_self ..) (ba_inj e)
      refine List.pairwise_cons.2 ⟨fun x hx => ?_, h⟩
      rcases List.mem_cons.1 hx with rfl | hx
      · exact hfy
      · exact less_trans hfy (h'.1 x hx)
theorem WF.ins {M : List Fl} {f : Fl} (h : WF M) (hn : findM f.name M = none) (h1 : namF f.name = true) (h2 : f.synced ≤ f.bytes.length) (h3 : f.bytes.length ≤ 1048576) (h4 : M.length < 256) : WF (insM f M) := by
  refine ⟨up_insM h.up (findM_none.1 hn), fun x hx => ?_, fun x hx => ?_, fun x hx => ?_, by rw [len_insM]; omega⟩ <;> rcases mem_insM.1 hx with rfl | hx
  · exact h1
  · exact h.nam x hx
  · exact h2
  · exact h.syn x hx
  · exact h3
  · exact h.len x hx
theorem mem_setM {M : List Fl} {f x : Fl} : x ∈ setM f M → x = f ∨ (x ∈ M ∧ x.name ≠ f.name) := by
  unfold setM
  intro h
  obtain ⟨y, hy, rfl⟩ := List.mem_map.1 h
  split
  · exact .inl rfl
  · rename_i e; exact .inr ⟨hy, e⟩
theorem setM_names (f : Fl) (M : List Fl) : (setM f M).map (·.name) = M.map (·.name) := by
  unfold setM
  rw [List.map_map]
  refine List.map_congr_left fun y _ => ?_
  simp only [Function.comp]
  split
  · rename_i e; exact e.symm
  · rfl
theorem up_names {M M' : List Fl} (h : M.Pairwise fun a b => bl a.name b.name) (e : M'.map (·.name) = M.map (·.name)) : M'.Pairwise fun a b => bl a.name b.name := by
  have h1 : (M.map (·.name)).Pairwise bl := by rw [List.pairwise_map]; exact h
  rw [← e, List.pairwise_map] at h1
  exact h1
theorem WF.set {M : List Fl} {f : Fl} (h : WF M) (h1 : namF f.name = true) (h2 : f.synced ≤ f.bytes.length) (h3 : f.bytes.length ≤ 1048576) : WF (setM f M) := by
  refine ⟨up_names h.up (setM_names f M), fun x hx => ?_, fun x hx => ?_, fun x hx => ?_, by unfold setM; rw [List.length_map]; exact h.cnt⟩ <;> rcases mem_setM hx with rfl | ⟨hx, _⟩
  · exact h1
  · exact h.nam x hx
  · exact h2
  · exact h.syn x hx
  · exact h3
  · exact h.len x hx
theorem mem_delM {M : List Fl} {s : ByteArray} {x : Fl} : x ∈ delM s M ↔ x ∈ M ∧ x.name ≠ s := by simp [delM]
theorem WF.del {M : List Fl} (h : WF M) (s : ByteArray) : WF (delM s M) :=
  ⟨h.up.filter _, fun x hx => h.nam x (mem_delM.1 hx).1, fun x hx => h.syn x (mem_delM.1 hx).1, fun x hx => h.len x (mem_delM.1 hx).1, Nat.le_trans (List.length_filter_le _ _) h.cnt⟩
end Go.Proofs.YtdaghggdmgbpnaaDoor.Dk
