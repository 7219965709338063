/- Maps with texts as keys, whatever their values: looked up, written, gone through; by tags. Own work. -/
import Derived.Test.YtfkpehcbijgmnaaGreatDoorMaps
import Derived.Maps.RangeRun
namespace Go.Proofs.YtfkpehcbijgmnaaGreatDoor.Mem
open Go Vm Go.RowKit Num

abbrev AL := List (ByteArray × Value)
def encE (p : ByteArray × Value) : Value × Value := (.string p.1, p.2)
/-- A map of tag t. -/
structure MV (ω : Tg) (w : World) (t g : Nat) (al : AL) : Prop where
  ex : ∃ es clock, w.heap[g]? = some (.map es clock) ∧ MapKept.Stamped es clock ∧ es.toList.map (fun e => (e.key, e.val)) = al.map encE
  tag : ω g = t
def getV (s : ByteArray) : AL → Option Value
  | [] => none
  | (k, v) :: r => if s = k then some v else getV s r
def updA (s : ByteArray) (v : Value) : AL → AL
  | [] => [(s, v)]
  | (k, x) :: r => if s = k then (s, v) :: r else (k, x) :: updA s v r
def delA (s : ByteArray) : AL → AL
  | [] => []
  | (k, x) :: r => if s = k then r else (k, x) :: delA s r
variable {ω ω' : Tg} {w w' : World} {t g : Nat} {al : AL} {P : Program} {T : Nat → Bool}
theorem MV.stp (h : MV ω w t g al) (s : Stp T ω ω' w w') (ne : T t = false) : MV ω' w' t g al := by
  obtain ⟨es, clock, hb, hs, he⟩ := h.ex
  exact ⟨⟨es, clock, by rw [s.block g (heap_lt hb) (by rw [h.tag]; exact ne)]; exact hb, hs, he⟩, (s.same g (heap_lt hb)).trans h.tag⟩
theorem MV.lt (h : MV ω w t g al) : g < w.heap.size := by obtain ⟨es, clock, hb, _⟩ := h.ex; exact heap_lt hb
theorem MV.nodup (h : MV ω w t g al) : (al.map (·.1)).Nodup := by
  obtain ⟨es, clock, hb, hs, he⟩ := h.ex
  have h1 := ((MapKept.stamped_iff es clock).1 hs).2.2
  have h2 : (es.toList.map (·.key)).Nodup := by rw [List.Nodup, List.pairwise_map]; exact h1
  have e3 : es.toList.map (·.key) = (al.map (·.1)).map Value.string := by
    have := congrArg (List.map Prod.fst) he
    rw [List.map_map, List.map_map] at this
    rw [List.map_map]
    exact this
  rw [e3] at h2
  exact (List.pairwise_map.1 h2).imp fun h e => h (by rw [e])
/-- What finding a key answers. -/
theorem find_al (s : ByteArray) : ∀ (es : List MapEntry) (al : AL) (i : Nat), es.map (fun e => (e.key, e.val)) = al.map encE →
    (getV s al = none ∧ Instr.findNow .string (.string s) es i = some none) ∨
    ∃ j e v, getV s al = some v ∧ Instr.findNow .string (.string s) es i = some (some (i + j, v)) ∧ es[j]? = some e ∧ e.key = .string s ∧ e.val = v ∧ j < al.length ∧
      (∀ x, al.set j (s, x) = updA s x al) ∧ al.eraseIdx j = delA s al
  | [], [], i, _ => .inl ⟨rfl, rfl⟩
  | [], _ :: _, i, h => by simp at h
  | _ :: _, [], i, h => by simp at h
  | e :: es, (k, v) :: al, i, h => by
    simp only [List.map_cons, List.cons.injEq, encE, Prod.mk.injEq] at h
    obtain ⟨⟨h1, h2⟩, h3⟩ := h
    by_cases hs : s = k
    · subst hs
      have hb : (s == s) = true := (MapKept.bytes_beq s s).2 rfl
      refine .inr ⟨0, e, v, by simp [getV], ?_, rfl, h1, h2, by simp, fun x => by simp [updA], by simp [delA]⟩
      unfold Instr.findNow
      rw [h1]
      simp [Instr.sameNow, hb, h2]
    · have hb : (s == k) = false := by
        cases hc : (s == k) with
        | true => exact absurd ((MapKept.bytes_beq s k).1 hc) hs
        | false => rfl
      have fn : ∀ x, Instr.findNow .string (.string s) es (i + 1) = some x → Instr.findNow .string (.string s) (e :: es) i = some x := fun x hx => by
        unfold Instr.findNow
        rw [h1]
        simp [Instr.sameNow, hb, hx]
      rcases find_al s es al (i + 1) (by simpa [encE] using h3) with ⟨g1, g2⟩ | ⟨j, e', v', g1, g2, g3, g4, g5, g6, g7, g8⟩
      · exact .inl ⟨by simp [getV, hs, g1], fn _ g2⟩
      · refine .inr ⟨j + 1, e', v', by simp [getV, hs, g1], ?_, by simpa using g3, g4, g5, by simp; omega, fun x => by simp [updA, hs, g7 x], by simp [delA, hs, g8]⟩
        rw [fn _ g2]; congr 3; omega
theorem chk_key {kt : TypeId} (hk : P.underlying kt = some .string) (s : ByteArray) (w : World) (e : Bool) : (Instr.checkKey e 10000 kt (.string s)).run P w = .ok () w := MapKept.run_checkKey (k := .string s) hk (by simp [MapKept.IsKey]) e 9999

theorem run_look_V {mt kt et : TypeId} (h : MV ω w t g al) (hm : P.underlying mt = some (.map kt et)) (hk : P.underlying kt = some .string) {z : Value} (hz : ∀ w, (zeroValue et).run P w = .ok z w) (s : ByteArray) (ok : Bool) (d : Nat) :
    (Instr.lookup mt (.map (some g)) (.string s) ok).run P (w.drewN d) = .ok (if ok then .tuple #[(getV s al).getD z, .bool (getV s al).isSome] else (getV s al).getD z) (w.drewN d) := by
  obtain ⟨es, clock, hb, hs, he⟩ := h.ex
  have hb' : (w.drewN d).heap[g]? = some (.map es clock) := hb
  have hc := fun e => chk_key (P := P) hk s (w.drewN d) e
  rcases find_al s es.toList al 0 he with ⟨g1, g2⟩ | ⟨j, e', v', g1, g2, _⟩
  · simp [Instr.lookup, run_underlying hm, MapKept.run_getObj_map hb', hc, MapKept.run_findKey hk g2, hz, Result.andThen, g1]
  · simp [Instr.lookup, run_underlying hm, MapKept.run_getObj_map hb', hc, MapKept.run_findKey hk g2, Result.andThen, g1]
/-- m[k] with ok. -/
theorem rd2_V {α : Type} {f : α → Value} {mt kt et : TypeId} (h : MV ω w t g al) (hm : P.underlying mt = some (.map kt et)) (hk : P.underlying kt = some .string) {z : Value} (hz : ∀ w, (zeroValue et).run P w = .ok z w) {s : ByteArray} {K : α → Bool → Prop} {a : α}
    (e : (getV s al).getD z = f a) (hK : K a (getV s al).isSome) : G.rd2 P (Instr.lookup mt (.map (some g)) (.string s) true) f w K :=
  ⟨a, _, fun d => by rw [run_look_V h hm hk hz s true d, e]; rfl, hK⟩
theorem rd1_V {α : Type} {f : α → Value} {mt kt et : TypeId} (h : MV ω w t g al) (hm : P.underlying mt = some (.map kt et)) (hk : P.underlying kt = some .string) {z : Value} (hz : ∀ w, (zeroValue et).run P w = .ok z w) {s : ByteArray} {K : α → Prop} {a : α}
    (e : (getV s al).getD z = f a) (hK : K a) : G.rd1 P (Instr.lookup mt (.map (some g)) (.string s) false) f w K :=
  ⟨a, fun d => by rw [run_look_V h hm hk hz s false d, e]; rfl, hK⟩
theorem mkV {mt : TypeId} (t : Nat) {K : Option Nat → World → Prop} (hK : ∀ g ω' w', Stp Non ω ω' w w' → MV ω' w' t g [] → K (some g) w') : G.runM P (Instr.makeMap mt none) w K :=
  ⟨some w.heap.size, _, run_makeMap_plain w mt, hK w.heap.size (ext ω w.heap.size t) _ ((Keep.alloc w _).stp ω t) ⟨⟨#[], 0, World.alloc_heap_new w _, MapKept.stamped_empty 0, rfl⟩, ext_new (Nat.le_refl _)⟩⟩
theorem updV {mt kt et : TypeId} (h : MV ω w t g al) (hm : P.underlying mt = some (.map kt et)) (hk : P.underlying kt = some .string) {s : ByteArray} {v : Value} {K : World → Prop}
    (hK : ∀ ω' w', Stp (One t) ω ω' w w' → MV ω' w' t g (updA s v al) → K w') : G.runU P (Instr.mapUpdate mt (.map (some g)) (.string s) v) w K := by
  obtain ⟨es, clock, hb, hs, he⟩ := h.ex
  have hc := fun e => chk_key (P := P) hk s w e
  rcases find_al s es.toList al 0 he with ⟨g1, g2⟩ | ⟨j, e', v', g1, g2, g3, g4, g5, g6, g7, _⟩
  · have app : ∀ al : AL, getV s al = none → updA s v al = al ++ [(s, v)] := by
      intro al
      induction al with
      | nil => intro _; rfl
      | cons p r ih =>
        intro h
        obtain ⟨k, x⟩ := p
        by_cases e : s = k
        · simp [getV, e] at h
        · simp only [getV, if_neg e] at h
          simp [updA, if_neg e, ih h]
    have hne : ∀ al : AL, getV s al = none → ∀ p ∈ al, p.1 ≠ s := by
      intro al
      induction al with
      | nil => intro _ p hp; cases hp
      | cons p r ih =>
        intro h q hq
        obtain ⟨k, x⟩ := p
        by_cases e : s = k
        · simp [getV, e] at h
        · simp only [getV, if_neg e] at h
          rcases List.mem_cons.1 hq with rfl | hq
          · exact fun e' => e e'.symm
          · exact ih h q hq
    refine ⟨w.putObj g (.map (es.push { key := .string s, val := v, born := clock }) (clock + 1)), ?_, hK ω _ (put_stp' h.tag) ⟨⟨_, _, World.putObj_heap_same (heap_lt hb), MapKept.stamped_push hs fun x hx hxe => ?_, ?_⟩, h.tag⟩⟩
    · simp [Instr.mapUpdate, run_underlying hm, MapKept.run_getObj_map hb, hc, MapKept.run_findKey hk g2, MapKept.run_setObj_map _ hb, Result.andThen, World.putObj]
    · have : (x.key, x.val) ∈ es.toList.map (fun e => (e.key, e.val)) := List.mem_map_of_mem hx
      rw [he] at this
      obtain ⟨p, hp, hpe⟩ := List.mem_map.1 this
      simp only [encE, Prod.mk.injEq] at hpe
      rw [hxe] at hpe
      injection hpe.1 with q
      exact hne al g1 p hp q
    · rw [app al g1]; simp [he, encE]
  · have hj : es[j]? = some e' := by simpa using g3
    refine ⟨w.putObj g (.map (es.modify j fun e => { e with key := .string s, val := v }) clock), ?_, hK ω _ (put_stp' h.tag) ⟨⟨_, _, World.putObj_heap_same (heap_lt hb), MapKept.stamped_modify hs _ _ (fun _ _ => rfl) (fun e'' _ he'' => by rw [hj] at he''; cases he''; exact g4.symm), ?_⟩, h.tag⟩⟩
    · simp [Instr.mapUpdate, run_underlying hm, MapKept.run_getObj_map hb, hc, MapKept.run_findKey hk g2, hj, g4, MapKept.run_keyThatStays (d := .string) (k := .string s) (by simp [MapKept.IsKey]), MapKept.run_setObj_map _ hb, Result.andThen, World.putObj]
    · rw [← g7 v, Array.toList_modify, List.map_set, ← he]
      apply List.ext_getElem?
      intro i
      simp only [List.getElem?_map, List.getElem?_modify, List.getElem?_set]
      by_cases e : j = i
      · subst e
        have hlt : j < es.toList.length := (List.getElem?_eq_some_iff.1 g3).1
        have hlt' : j < es.size := by simpa using hlt
        simp [encE, hj, hlt']
      · simp [e]
theorem erase_map {α β : Type} (f : α → β) : ∀ (l : List α) (j : Nat), (l.map f).eraseIdx j = (l.eraseIdx j).map f
  | [], j => by simp
  | a :: l, 0 => by simp
  | a :: l, j + 1 => by simp [erase_map f l j]
theorem delV {mt kt et ty : TypeId} (h : MV ω w t g al) (hm : P.underlying mt = some (.map kt et)) (hk : P.underlying kt = some .string) {s : ByteArray} {K : Value → World → Prop}
    (hK : ∀ v ω' w', Stp (One t) ω ω' w w' → MV ω' w' t g (delA s al) → K v w') : G.run P (Builtin.delete_ #[mt, kt] ty #[.map (some g), .string s]) w K := by
  obtain ⟨es, clock, hb, hs, he⟩ := h.ex
  have hc := fun e => chk_key (P := P) hk s w e
  rcases find_al s es.toList al 0 he with ⟨g1, g2⟩ | ⟨j, e', v', g1, g2, g3, g4, g5, g6, _, g8⟩
  · have dn : ∀ al : AL, getV s al = none → delA s al = al := by
      intro al
      induction al with
      | nil => intro _; rfl
      | cons p r ih =>
        intro h
        obtain ⟨k, x⟩ := p
        by_cases e : s = k
        · simp [getV, e] at h
        · simp only [getV, if_neg e] at h
          simp [delA, if_neg e, ih h]
    refine ⟨.tuple #[], w.putObj g (.map es clock), ?_, hK _ ω _ (put_stp' h.tag) ⟨⟨_, _, World.putObj_heap_same (heap_lt hb), hs, by rw [dn al g1]; exact he⟩, h.tag⟩⟩
    simp [Builtin.delete_, run_underlying hm, MapKept.run_getObj_map hb, hc, MapKept.run_findKey hk g2, MapKept.run_setObj_map _ hb, Result.andThen, World.putObj]
  · have hlt : j < es.size := by have := (List.getElem?_eq_some_iff.1 g3).1; simpa using this
    refine ⟨.tuple #[], w.putObj g (.map (es.eraseIdxIfInBounds j) clock), ?_, hK _ ω _ (put_stp' h.tag) ⟨⟨_, _, World.putObj_heap_same (heap_lt hb), MapKept.stamped_erase hs _, ?_⟩, h.tag⟩⟩
    · simp [Builtin.delete_, run_underlying hm, MapKept.run_getObj_map hb, hc, MapKept.run_findKey hk g2, MapKept.run_setObj_map _ hb, Result.andThen, World.putObj]
    · rw [← g8, ← erase_map, ← he, Array.eraseIdxIfInBounds, dif_pos hlt, Array.toList_eraseIdx, erase_map]
theorem lenV {mt ty : TypeId} (h : MV ω w t g al) (hm : P.underlying mt = some (.map (P.mapKeyOf mt) (P.mapElemOf mt))) {K : Int → Prop} (hK : K (al.length : Int)) : G.rdI P (Builtin.len_ #[mt] ty #[.map (some g)]) .i64 w K := by
  obtain ⟨es, clock, hb, hs, he⟩ := h.ex
  have hl : es.size = al.length := by have := congrArg List.length he; simpa using this
  refine ⟨al.length, fun d => ?_, hK⟩
  rw [run_len_map mt ty g es clock hm (w := w.drewN d) hb, hl]; rfl

/-! ## Gone through -/
/-- Iterator r, of tag u, over map g, of tag t, that holds al; rest is still to come. -/
structure IT (ω : Tg) (w : World) (u r t g : Nat) (al rest : AL) : Prop where
  ex : ∃ es clock since seen c0, w.heap[g]? = some (.map es clock) ∧ MapKept.Stamped es clock ∧ es.toList.map (fun e => (e.key, e.val)) = al.map encE ∧
    w.heap[r]? = some (.mapIter (some g) since seen c0) ∧ (∀ x ∈ es.toList, x.born < since) ∧ since ≤ c0 ∧ since ≤ clock ∧ (leftOf es seen).toList.map (fun e => (e.key, e.val)) = rest.map encE
  tg : ω g = t
  tr : ω r = u
variable {u r : Nat} {rest : AL}
theorem IT.map (h : IT ω w u r t g al rest) : MV ω w t g al := by
  obtain ⟨es, clock, since, seen, c0, hb, hs, he, _⟩ := h.ex
  exact ⟨⟨es, clock, hb, hs, he⟩, h.tg⟩
theorem IT.stp (h : IT ω w u r t g al rest) (s : Stp T ω ω' w w') (n1 : T u = false) (n2 : T t = false) : IT ω' w' u r t g al rest := by
  obtain ⟨es, clock, since, seen, c0, hb, hs, he, hr, x⟩ := h.ex
  exact ⟨⟨es, clock, since, seen, c0, by rw [s.block g (heap_lt hb) (by rw [h.tg]; exact n2)]; exact hb, hs, he, by rw [s.block r (heap_lt hr) (by rw [h.tr]; exact n1)]; exact hr, x⟩, (s.same g (heap_lt hb)).trans h.tg, (s.same r (heap_lt hr)).trans h.tr⟩
theorem rangeV {mt kt et : TypeId} (u : Nat) (h : MV ω w t g al) (hm : P.underlying mt = some (.map kt et)) {K : Option Addr → World → Prop}
    (hK : ∀ r ω' w', Stp Non ω ω' w w' → IT ω' w' u r t g al al → K (some ⟨r, 0, none⟩) w') : G.runP P (Instr.range mt (.map (some g))) w K := by
  obtain ⟨es, clock, hb, hs, he⟩ := h.ex
  have hg := heap_lt hb
  refine ⟨some ⟨w.heap.size, 0, none⟩, w.alloc (.mapIter (some g) clock #[] clock), ?_, hK w.heap.size (ext ω w.heap.size u) _ ((Keep.alloc w _).stp ω u) ⟨⟨es, clock, clock, #[], clock, (Keep.alloc w _).heap hb, hs, he, World.alloc_heap_new w _, ((MapKept.stamped_iff es clock).1 hs).1, Nat.le_refl _, Nat.le_refl _, ?_⟩, ?_, ext_new (Nat.le_refl _)⟩⟩
  · simp [Instr.range, run_underlying hm, MapKept.run_getObj_map hb, Result.andThen, newObj, Sem.run]
  · rw [← he]; simp only [leftOf, Array.toList_filter]; rw [List.filter_eq_self.2 (by simp)]
  · rw [ext_old hg]; exact h.tag
theorem setBlock_stp {o : Obj} (hr : ω r = u) : Stp (One u) ω ω w (ChangeMaps.setBlock w r o) :=
  ⟨rfl, rfl, rfl, by simp [ChangeMaps.setBlock], fun _ _ => rfl, fun k hk hT => by
    have hne : r ≠ k := fun e => by subst e; rw [hr, one_self] at hT; cases hT
    simp [ChangeMaps.setBlock, hne]⟩
theorem left_push {es : Array MapEntry} {seen : Array Nat} {e : MapEntry} (hn : (es.toList.map (·.born)).Nodup) (he : e ∈ (leftOf es seen).toList) :
    ∃ a b, (leftOf es seen).toList = a ++ e :: b ∧ (leftOf es (seen.push e.born)).toList = a ++ b := by
  have h1 : (leftOf es (seen.push e.born)).toList = (leftOf es seen).toList.filter fun x => !(x.born == e.born) := by
    simp only [leftOf, Array.toList_filter, List.filter_filter]
    congr 1
    funext x
    simp only [Array.contains_push, Bool.not_or]
    rw [Bool.and_comm]
  have hn' : ((leftOf es seen).toList.map (·.born)).Nodup := by
    have : (leftOf es seen).toList.Sublist es.toList := by simp only [leftOf, Array.toList_filter]; exact List.filter_sublist
    exact (this.map _).nodup hn
  obtain ⟨a, b, hab⟩ := List.append_of_mem he
  refine ⟨a, b, hab, ?_⟩
  rw [h1, hab, List.filter_append, List.filter_cons]
  simp only [beq_self_eq_true, Bool.not_true, Bool.false_eq_true, if_false]
  rw [hab] at hn'
  simp only [List.map_append, List.map_cons] at hn'
  have hd := List.nodup_append.1 hn'
  have fa : ∀ x ∈ a, (!(x.born == e.born)) = true := fun x hx => by
    have := hd.2.2 _ (List.mem_map_of_mem hx) _ (List.mem_cons_self ..)
    simpa using this
  have fb : ∀ x ∈ b, (!(x.born == e.born)) = true := fun x hx => by
    have := (List.nodup_cons.1 hd.2.1).1
    simp only [Bool.not_eq_true', beq_eq_false_iff_ne]
    intro q
    exact this (by rw [← q]; exact List.mem_map_of_mem hx)
  rw [List.filter_eq_self.2 fa, List.filter_eq_self.2 fb]
theorem nextV {ty : TypeId} (h : IT ω w u r t g al rest) {K0 : World → Prop} {K1 : Value → Value → World → Prop} (h0 : rest = [] → K0 w)
    (h1 : ∀ a x b ω' w', rest = a ++ x :: b → Stp (One u) ω ω' w w' → IT ω' w' u r t g al (a ++ b) → (∀ K : Value → Value → Prop, K (.string x.1) x.2 → G.ent P (Instr.entry (.pointer (some ⟨r, 0, none⟩))) w' K) → ∀ k v, K1 k v w') :
    G.nxt P (Instr.next (.pointer (some ⟨r, 0, none⟩)) false ty) w K0 K1 := by
  obtain ⟨es, clock, since, seen, c0, hb, hs, he, hr, hold, hsc, hcl, hl⟩ := h.ex
  have hn := ((MapKept.stamped_iff es clock).1 hs).2.1
  have hne : r ≠ g := fun e => by subst e; rw [hb] at hr; cases hr
  rcases run_next_at (P := P) w ty r g since c0 seen es clock hr hb hold hsc with ⟨hz, hrun⟩ | ⟨e, hem, w1, hw1, hrun⟩
  · refine ⟨w, .inl ⟨hrun, h0 ?_⟩⟩
    have : rest.length = 0 := by have := congrArg List.length hl; simpa [hz] using this.symm
    exact List.eq_nil_of_length_eq_zero this
  · obtain ⟨a, b, hab, hab'⟩ := left_push hn hem
    rw [hab] at hl
    simp only [List.map_append, List.map_cons] at hl
    obtain ⟨ra, rb, hrab, h2, h3⟩ := List.map_eq_append_iff.1 hl.symm
    cases rb with
    | nil => simp at h3
    | cons x rb =>
      simp only [List.map_cons, List.cons.injEq, encE, Prod.mk.injEq] at h3
      have s1 : Stp (One u) ω ω w w1 := by
        rcases hw1 with rfl | rfl
        · exact Stp.refl _ _ _
        · exact (drew_stp ω w).non _
      have hb1 : w1.heap[g]? = some (.map es clock) := by rcases hw1 with rfl | rfl <;> exact hb
      have hr1 : w1.heap[r]? = some (.mapIter (some g) since seen c0) := by rcases hw1 with rfl | rfl <;> exact hr
      have hb2 : (ChangeMaps.setBlock w1 r (.mapIter (some g) since (seen.push e.born) clock)).heap[g]? = some (.map es clock) := by
        simp [ChangeMaps.setBlock, hne, hb1]
      have hr2 : (ChangeMaps.setBlock w1 r (.mapIter (some g) since (seen.push e.born) clock)).heap[r]? = some (.mapIter (some g) since (seen.push e.born) clock) := by
        have := heap_lt hr1
        simp [ChangeMaps.setBlock, this]
      have hes : e ∈ es.toList := by
        have : (leftOf es seen).toList.Sublist es.toList := by simp only [leftOf, Array.toList_filter]; exact List.filter_sublist
        exact this.subset hem
      refine ⟨_, .inr ⟨e.key, e.val, hrun, h1 ra x rb ω _ hrab (s1.trans (setBlock_stp h.tr)) ⟨⟨es, clock, since, seen.push e.born, clock, hb2, hs, he, hr2, hold, hcl, hcl, ?_⟩, h.tg, h.tr⟩ (fun K hK => ⟨_, _, run_entry_at _ r g since seen es clock e hr2 hb2 hes hn, ?_⟩) _ _⟩⟩
      · rw [hab', List.map_append, List.map_append, h2, ← h3.2]
      · have e1 : e.key = .string x.1 := h3.1.1.symm
        have e2 : e.val = x.2 := h3.1.2.symm
        rw [e1, e2]; exact hK
end Go.Proofs.YtfkpehcbijgmnaaGreatDoor.Mem
