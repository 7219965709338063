/- Layer 9: a head in memory, and what its calls answer. Own work. -/
import Derived.Test.YtkeabflhjjpmmaaDoorLabP
import Derived.Test.YtkeabflhjjpmmaaDoorMaps
import Derived.Test.YtkeabflhjjpmmaaDoorSmp
namespace Go.Proofs.YtkeabflhjjpmmaaDoor.Hd
open Go Vm Go.RowKit Num Mem Utf Lib Lab Sm
variable {ω ω' : Tg} {w w' w0 : World}

theorem tiS : TI Tryd.prog 23 32 2 16 := TI.of (z := .agg #[.int .i64 0, .float .f64 0]) (by kernel_rfl) (by kernel_rfl) rfl (by decide)
theorem tiL : TI Tryd.prog 22 58 2 32 := TI.of (z := .agg #[.string ⟨#[]⟩, .string ⟨#[]⟩]) (by kernel_rfl) (by kernel_rfl) rfl (by decide)
theorem labs_one {l : List Lb} : ∀ v ∈ labs l, v.oneCell' = true := by
  intro v hv
  obtain ⟨s, _, hs⟩ := List.mem_flatMap.1 hv
  simp only [labC, List.mem_cons, List.not_mem_nil, or_false] at hs
  rcases hs with rfl | rfl <;> rfl
theorem rdL_len {s : Sl} {m : List Lb} (h : Rd w s 2 (labs m)) : s.n = m.length := by have := h.2.1; rw [labs_len] at this; omega

def keyOf (m : List Lb) : ByteArray := str (Lab.put m)
theorem key_ok {s : Sl} {m : List Lb} (ht : UTab w0) (hs : Rd w0 s 2 (labs m)) (hr : (rt m).1 = 0) {K : ByteArray → World → Prop} (hK : ∀ w', Keep w0 w' → K (keyOf m) w') : C.head_key s w0 K := by
  unfold C.head_key
  exact put_ok ht hs hr fun r w1 k1 o1 => convBS o1.rd (hK w1 k1)

/-- Where a key is. -/
def pos (s : ByteArray) : List ByteArray → Nat → Option Nat
  | [], _ => none
  | k :: r, i => if (s == k) = true then some i else pos s r (i + 1)
theorem pos_ge {s : ByteArray} : ∀ {ks : List ByteArray} {i j : Nat}, pos s ks i = some j → i ≤ j ∧ ks[j - i]? = some s
  | [], i, j, h => by cases h
  | k :: r, i, j, h => by
    unfold pos at h
    split at h
    · rename_i he
      injection h with h; subst h
      refine ⟨Nat.le_refl _, ?_⟩
      rw [Nat.sub_self, (MapKept.bytes_beq s k).1 he]; rfl
    · obtain ⟨h1, h2⟩ := pos_ge h
      refine ⟨by omega, ?_⟩
      rw [show j - i = (j - (i + 1)) + 1 by omega]
      simpa using h2
theorem pos_none {s : ByteArray} : ∀ {ks : List ByteArray} {i : Nat}, pos s ks i = none ↔ s ∉ ks
  | [], i => by simp [pos]
  | k :: r, i => by
    unfold pos
    split
    · rename_i he
      have := (MapKept.bytes_beq s k).1 he
      subst this
      simp
    · rename_i he
      have hne : s ≠ k := fun e => he ((MapKept.bytes_beq s k).2 e)
      rw [pos_none (ks := r)]
      simp [hne]
theorem fnd_pos (s : ByteArray) : ∀ (al : List (ByteArray × Value)) (i : Nat), fnd s al i = (pos s (al.map (·.1)) i).bind fun j => (al[j - i]?).map fun p => (j, p.2)
  | [], i => rfl
  | (k, v) :: al, i => by
    unfold fnd
    simp only [List.map_cons, pos]
    split
    · simp
    · rw [fnd_pos s al (i + 1)]
      cases h : pos s (al.map (·.1)) (i + 1) with
      | none => rfl
      | some j =>
        have := (pos_ge h).1
        simp only [Option.bind_some]
        rw [show j - i = (j - (i + 1)) + 1 by omega]
        simp

abbrev St := List (ByteArray × List Smp)
def total : St → Nat
  | [] => 0
  | e :: r => e.2.length + total r
theorem total_app (a b : St) : total (a ++ b) = total a + total b := by
  induction a with
  | nil => simp [total]
  | cons e r ih => simp only [List.cons_append, total, ih]; omega

/-- Series i of a head. -/
structure Ent (ω : Tg) (w : World) (i : Nat) (v : Value) (l : List Smp) : Prop where
  ex : ∃ b lab sl, v = .pointer (some ⟨b, 0, none⟩) ∧ BT ω w (10 + 2 * i) b 52 [Sl.v lab, Sl.v sl] ∧ OT ω w (11 + 2 * i) 32 2 sl (smps l)
theorem Ent.stp {T : Nat → Bool} {i : Nat} {v : Value} {l : List Smp} (h : Ent ω w i v l) (k : Stp T ω ω' w w') (h1 : T (10 + 2 * i) = false) (h2 : T (11 + 2 * i) = false) : Ent ω' w' i v l := by
  obtain ⟨b, lab, sl, rfl, hb, ho⟩ := h.ex
  exact ⟨b, lab, sl, rfl, hb.stp k h1, ho.stp k h2⟩
structure HDa (ω : Tg) (w : World) (gh gm : Nat) (al : List (ByteArray × Value)) (room most : Nat) (st : St) (rf : Nat) (sn tn : Nat) : Prop where
  hd : BT ω w 1 gh 44 [.int .i64 (room : Int), .int .i64 (most : Int), .map (some gm), .int .i64 (sn : Int), .int .i64 (tn : Int), .int .i64 (rf : Int)]
  mp : MT ω w 2 gm al
  ks : al.map (·.1) = st.map (·.1)
  en : ∀ i k l, st[i]? = some (k, l) → ∃ v, al[i]? = some (k, v) ∧ Ent ω w i v l
abbrev HD (ω : Tg) (w : World) (gh : Nat) (room most : Nat) (st : St) (rf : Nat) : Prop := ∃ gm al, HDa ω w gh gm al room most st rf st.length (total st)
/-- What leaves a head alone. -/
def Far (T : Nat → Bool) : Prop := T 1 = false ∧ T 2 = false ∧ ∀ t, 10 ≤ t → T t = false
theorem far_non : Far Non := ⟨rfl, rfl, fun _ _ => rfl⟩
theorem far_one {t : Nat} (h1 : t ≠ 1) (h2 : t ≠ 2) (h3 : t < 10) : Far (One t) := ⟨beq_no (Ne.symm h1), beq_no (Ne.symm h2), fun u hu => beq_no (by omega)⟩
variable {gh gm : Nat} {al : List (ByteArray × Value)} {room most rf sn tn : Nat} {st : St} {T : Nat → Bool}
theorem HDa.stp (h : HDa ω w gh gm al room most st rf sn tn) (k : Stp T ω ω' w w') (hT : Far T) : HDa ω' w' gh gm al room most st rf sn tn :=
  ⟨h.hd.stp k hT.1, h.mp.stp k hT.2.1, h.ks, fun i kk l hi => let ⟨v, hv, he⟩ := h.en i kk l hi; ⟨v, hv, he.stp k (hT.2.2 _ (by omega)) (hT.2.2 _ (by omega))⟩⟩
theorem HDa.len (h : HDa ω w gh gm al room most st rf sn tn) : al.length = st.length := by have := congrArg List.length h.ks; simpa using this

theorem run_len_mt {mt : TypeId} (h : MT ω w 2 gm al) (hm : Tryd.prog.underlying mt = some (.map (Tryd.prog.mapKeyOf mt) (Tryd.prog.mapElemOf mt))) {ty : TypeId} {K : Int → Prop} (hK : K (al.length : Int)) : G.rdI Tryd.prog (Builtin.len_ #[mt] ty #[.map (some gm)]) .i64 w K := by
  obtain ⟨es, clock, hb, he⟩ := h.ex
  have hl : es.size = al.length := by have := congrArg List.length he; simpa using this
  refine ⟨al.length, fun d => ?_, hK⟩
  rw [run_len_map mt ty gm es clock hm (w := w.drewN d) hb, hl]; rfl

/-- A lookup. -/
theorem look_ok (h : HDa ω w gh gm al room most st rf sn tn) (s : ByteArray) {K : Option Addr → Bool → Prop}
    (h0 : pos s (st.map (·.1)) 0 = none → K none false)
    (h1 : ∀ j l b lab sl, pos s (st.map (·.1)) 0 = some j → st[j]? = some (s, l) → al[j]? = some (s, .pointer (some ⟨b, 0, none⟩)) → BT ω w (10 + 2 * j) b 52 [Sl.v lab, Sl.v sl] → OT ω w (11 + 2 * j) 32 2 sl (smps l) → K (some ⟨b, 0, none⟩) true) :
    G.rd2 Tryd.prog (Instr.lookup 37 (.map (some gm)) (.string s) true) (fun a : Option Addr => Value.pointer a) w K := by
  have run := fun d => run_lookup_T (P := Tryd.prog) (mt := 37) (kt := 9) (et := 47) h.mp (by kernel_rfl) (by kernel_rfl) (z := .pointer none) Tryd.zeroValue47 s true d
  have ef := fnd_pos s al 0
  rw [h.ks] at ef
  cases hp : pos s (st.map (·.1)) 0 with
  | none =>
    rw [hp] at ef
    refine ⟨none, false, fun d => ?_, h0 hp⟩
    rw [run d, ef]; rfl
  | some j =>
    have hj := (pos_ge hp).2
    rw [Nat.sub_zero, List.getElem?_map] at hj
    cases hs : st[j]? with
    | none => rw [hs] at hj; cases hj
    | some e =>
      rw [hs, Option.map_some, Option.some.injEq] at hj
      obtain ⟨k, l⟩ := e
      simp only at hj
      subst hj
      obtain ⟨v, hv, he⟩ := h.en j k l hs
      obtain ⟨b, lab, sl, rfl, hb, ho⟩ := he.ex
      refine ⟨some ⟨b, 0, none⟩, true, fun d => ?_, h1 j l b lab sl hp hs hv hb ho⟩
      rw [run d, ef, hp]
      simp [hv]
end Go.Proofs.YtkeabflhjjpmmaaDoor.Hd
