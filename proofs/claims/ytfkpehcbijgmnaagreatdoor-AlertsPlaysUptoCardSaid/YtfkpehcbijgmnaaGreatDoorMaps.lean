/- Maps with texts as keys, by tags. Own work. -/
import Derived.Test.YtfkpehcbijgmnaaGreatDoorTag
import Derived.WideMake
import Derived.RangeFuncRecord
namespace Go.Proofs.YtfkpehcbijgmnaaGreatDoor.Mem
open Go Vm Go.RowKit Num

/-- Where a key is, and what lies there. -/
def fnd (s : ByteArray) : List (ByteArray × Value) → Nat → Option (Nat × Value)
  | [], _ => none
  | (k, v) :: r, i => if (s == k) = true then some (i, v) else fnd s r (i + 1)
theorem findNow_fnd (s : ByteArray) : ∀ (es : List MapEntry) (al : List (ByteArray × Value)) (i : Nat), es.map (fun e => (e.key, e.val)) = al.map (fun p => (Value.string p.1, p.2)) →
    Instr.findNow .string (.string s) es i = some (fnd s al i)
  | [], [], i, _ => rfl
  | [], _ :: _, i, h => by simp at h
  | _ :: _, [], i, h => by simp at h
  | e :: es, (k, v) :: al, i, h => by
    simp only [List.map_cons, List.cons.injEq, Prod.mk.injEq] at h
    obtain ⟨⟨h1, h2⟩, h3⟩ := h
    have ih := findNow_fnd s es al (i + 1) h3
    unfold Instr.findNow fnd
    rw [h1]
    simp only [Instr.sameNow]
    cases hb : (s == k) with
    | true => simp [h2]
    | false => simpa using ih
theorem put_stp' {ω : Tg} {w : World} {t g : Nat} {o : Obj} (ht : ω g = t) : Stp (One t) ω ω w (w.putObj g o) :=
  ⟨rfl, rfl, rfl, by simp [World.putObj], fun _ _ => rfl, fun k _ hT => World.putObj_heap_other fun e => by subst e; rw [ht, one_self] at hT; cases hT⟩
/-- A map of tag t. -/
structure MT (ω : Tg) (w : World) (t g : Nat) (al : List (ByteArray × Value)) : Prop where
  ex : ∃ es clock, w.heap[g]? = some (.map es clock) ∧ es.toList.map (fun e => (e.key, e.val)) = al.map (fun p => (Value.string p.1, p.2))
  tag : ω g = t
variable {ω ω' : Tg} {w w' : World} {t g : Nat} {al : List (ByteArray × Value)} {P : Program}
theorem MT.stp {T : Nat → Bool} (h : MT ω w t g al) (s : Stp T ω ω' w w') (ne : T t = false) : MT ω' w' t g al := by
  obtain ⟨es, clock, hb, he⟩ := h.ex
  exact ⟨⟨es, clock, by rw [s.block g (heap_lt hb) (by rw [h.tag]; exact ne)]; exact hb, he⟩, (s.same g (heap_lt hb)).trans h.tag⟩
theorem run_lookup_T {mt kt et : TypeId} (h : MT ω w t g al) (hm : P.underlying mt = some (.map kt et)) (hk : P.underlying kt = some .string) {z : Value} (hz : ∀ w, (zeroValue et).run P w = .ok z w) (s : ByteArray) (ok : Bool) (d : Nat) :
    (Instr.lookup mt (.map (some g)) (.string s) ok).run P (w.drewN d) = .ok (if ok then .tuple #[((fnd s al 0).map (·.2)).getD z, .bool (fnd s al 0).isSome] else ((fnd s al 0).map (·.2)).getD z) (w.drewN d) := by
  obtain ⟨es, clock, hb, he⟩ := h.ex
  have hb' : (w.drewN d).heap[g]? = some (.map es clock) := hb
  have hf := findNow_fnd s es.toList al 0 he
  have hc : ∀ e, (Instr.checkKey e 10000 kt (.string s)).run P (w.drewN d) = .ok () (w.drewN d) := fun e => MapKept.run_checkKey (k := .string s) hk (by simp [MapKept.IsKey]) e 9999
  cases hfn : fnd s al 0 with
  | none =>
    rw [hfn] at hf
    simp [Instr.lookup, run_underlying hm, MapKept.run_getObj_map hb', hc, MapKept.run_findKey hk hf, hz, Result.andThen]
  | some x =>
    rw [hfn] at hf
    simp [Instr.lookup, run_underlying hm, MapKept.run_getObj_map hb', hc, MapKept.run_findKey hk hf, Result.andThen]

/-- A new map. -/
theorem mk_T {mt : TypeId} (t : Nat) {K : Option Nat → World → Prop} (hK : ∀ g ω' w', Stp Non ω ω' w w' → MT ω' w' t g [] → K (some g) w') : G.runM P (Instr.makeMap mt none) w K :=
  ⟨some w.heap.size, _, run_makeMap_plain w mt, hK w.heap.size (ext ω w.heap.size t) _ ((Keep.alloc w _).stp ω t) ⟨⟨#[], 0, World.alloc_heap_new w _, rfl⟩, ext_new (Nat.le_refl _)⟩⟩
/-- A key that is not there is put behind the others. -/
theorem ins_T {mt kt et : TypeId} (h : MT ω w t g al) (hm : P.underlying mt = some (.map kt et)) (hk : P.underlying kt = some .string) {s : ByteArray} (hn : fnd s al 0 = none) {v : Value} {K : World → Prop}
    (hK : ∀ ω' w', Stp (One t) ω ω' w w' → MT ω' w' t g (al ++ [(s, v)]) → K w') : G.runU P (Instr.mapUpdate mt (.map (some g)) (.string s) v) w K := by
  obtain ⟨es, clock, hb, he⟩ := h.ex
  have hf := findNow_fnd s es.toList al 0 he
  rw [hn] at hf
  have hc : (Instr.checkKey false 10000 kt (.string s)).run P w = .ok () w := MapKept.run_checkKey (k := .string s) hk (by simp [MapKept.IsKey]) false 9999
  refine ⟨w.putObj g (.map (es.push { key := .string s, val := v, born := clock }) (clock + 1)), ?_, hK ω _ (put_stp' h.tag) ⟨⟨_, _, World.putObj_heap_same (heap_lt hb), ?_⟩, h.tag⟩⟩
  · simp [Instr.mapUpdate, run_underlying hm, MapKept.run_getObj_map hb, hc, MapKept.run_findKey hk hf, MapKept.run_setObj_map _ hb, Result.andThen, World.putObj]
  · simp [he]
end Go.Proofs.YtfkpehcbijgmnaaGreatDoor.Mem
