/- (several texts in one: MapL, Rtg, BkG, BkH, SeqG, BkI, SortT, BkM, BkL, BkD, BkE, BkN, RepR, BkJ, BkK, MapR, BkO, BkR, BkV, BkS, BkT, BkU, BkX, UtfWB, BkW) Own work. -/
import Derived.WideKeyEntry
import Derived.DeepKeys3
import Derived.Sort.KeysCollected
import Derived.Lib.SliceRun
import Derived.Test.YtmfgmcajelmgbaaGreatDoorPB5
namespace Go.Proofs.YtmfgmcajelmgbaaGreatDoor.Mem
open Go Vm Go.RowKit Num
abbrev L2 := ByteArray × ByteArray
abbrev LL := List (L2 × Value)
def lbV (x : L2) : Value := .agg #[.string x.1, .string x.2]
def encL (p : L2 × Value) : Value × Value := (lbV p.1, p.2)
theorem lbV_inj {x y : L2} (h : lbV x = lbV y) : x = y := by
  unfold lbV at h
  injection h with h
  have h := congrArg Array.toList h
  simp only [List.cons.injEq, Value.string.injEq, and_true] at h
  exact Prod.ext h.1 h.2
def sml (x : L2) : Prop := x.1.size ≤ maxLen ∧ x.2.size ≤ maxLen
theorem lawL : WideMaps.KeyLaw Tryz.prog 93 := deep_law (m := 2) (by decide) (by kernel_rfl) (by kernel_rfl) (by kernel_rfl)
theorem keyOf_lb {x : L2} (h : sml x) : ∃ l, keyOf Tryz.prog 93 (lbV x) = some l := by
  obtain ⟨h1, h2⟩ := h
  have hk : Tryz.prog.keyType 93 = true := by kernel_rfl
  have hc : Tryz.prog.cellsOf 93 = 2 := by kernel_rfl
  have hs : Tryz.prog.cellsOf 9 = 1 := by kernel_rfl
  have hst : Tryz.prog.underlying 9 = some .string := by kernel_rfl
  obtain ⟨m, hm⟩ : ∃ m, Tryz.prog.types.size = m + 2 := ⟨Tryz.prog.types.size - 2, by kernel_rfl⟩
  unfold keyOf lbV
  simp only [Tryz.underlying93]
  rw [if_pos (by simp [hk, Value.formed, Tryz.underlying93, hc]), hm]
  unfold Program.keyLits
  simp only [Tryz.underlying93, Value.cells]
  rw [if_pos (by rw [hc]; exact ⟨rfl, by simp⟩)]
  simp [Program.keyLits, hst, hs, h1, h2]
structure ML (ω : Tg) (w : World) (t g : Nat) (al : LL) : Prop where
  ex : ∃ es clock, w.heap[g]? = some (.map es clock) ∧ MapKept.Stamped es clock ∧ es.toList.map (fun e => (e.key, e.val)) = al.map encL
  tag : ω g = t
  sm : ∀ p ∈ al, sml p.1
def getL (s : L2) : LL → Option Value
  | [] => none
  | (k, v) :: r => if s = k then some v else getL s r
def updL (s : L2) (v : Value) : LL → LL
  | [] => [(s, v)]
  | (k, x) :: r => if s = k then (s, v) :: r else (k, x) :: updL s v r
variable {ω ω' : Tg} {w w' : World} {t g : Nat} {al : LL} {T : Nat → Bool}
theorem ML.stp (h : ML ω w t g al) (s : Stp T ω ω' w w') (ne : T t = false) : ML ω' w' t g al := by
  obtain ⟨es, clock, hb, hs, he⟩ := h.ex
  exact ⟨⟨es, clock, by rw [s.block g (heap_lt hb) (by rw [h.tag]; exact ne)]; exact hb, hs, he⟩, (s.same g (heap_lt hb)).trans h.tag, h.sm⟩
theorem ML.lt (h : ML ω w t g al) : g < w.heap.size := by obtain ⟨es, clock, hb, _⟩ := h.ex; exact heap_lt hb
theorem nodupL {es : Array MapEntry} {clock : Nat} (hs : MapKept.Stamped es clock) (he : es.toList.map (fun e => (e.key, e.val)) = al.map encL) : (al.map (·.1)).Nodup := by
  have h1 := ((MapKept.stamped_iff es clock).1 hs).2.2
  have h2 : (es.toList.map (·.key)).Nodup := by rw [List.Nodup, List.pairwise_map]; exact h1
  have e3 : es.toList.map (·.key) = (al.map (·.1)).map lbV := by
    have := congrArg (List.map Prod.fst) he
    rw [List.map_map, List.map_map] at this
    rw [List.map_map]
    exact this
  rw [e3] at h2
  exact (List.pairwise_map.1 h2).imp fun h e => h (by rw [e])
theorem ML.nodup (h : ML ω w t g al) : (al.map (·.1)).Nodup := by
  obtain ⟨es, clock, hb, hs, he⟩ := h.ex
  exact nodupL hs he
theorem getL_at {s : L2} {v : Value} : ∀ {al : LL} {j : Nat}, (al.map (·.1)).Nodup → al[j]? = some (s, v) → getL s al = some v ∧ ∀ u, al.set j (s, u) = updL s u al
  | [], j, _, h => by simp at h
  | (k, x) :: r, 0, _, h => by
    simp only [List.getElem?_cons_zero, Option.some.injEq, Prod.mk.injEq] at h
    obtain ⟨rfl, rfl⟩ := h
    exact ⟨by simp [getL], fun u => by simp [updL]⟩
  | (k, x) :: r, j + 1, hn, h => by
    rw [List.map_cons, List.nodup_cons] at hn
    have hr : r[j]? = some (s, v) := by simpa using h
    obtain ⟨h1, h2⟩ := getL_at hn.2 hr
    have hne : ¬ s = k := fun e => hn.1 (by rw [← e]; exact List.mem_map.2 ⟨_, List.mem_of_getElem? hr, rfl⟩)
    exact ⟨by simp [getL, if_neg hne, h1], fun u => by simp [updL, if_neg hne, h2 u]⟩
theorem getL_none {s : L2} : ∀ {al : LL}, (∀ p ∈ al, p.1 ≠ s) → getL s al = none ∧ ∀ u, updL s u al = al ++ [(s, u)]
  | [], _ => ⟨rfl, fun _ => rfl⟩
  | (k, x) :: r, h => by
    obtain ⟨h1, h2⟩ := getL_none fun p hp => h p (List.mem_cons_of_mem _ hp)
    have hne : ¬ s = k := fun e => h (k, x) (List.mem_cons_self ..) e.symm
    exact ⟨by simp [getL, if_neg hne, h1], fun u => by simp [updL, if_neg hne, h2 u]⟩
theorem find_L {s : L2} (hs : sml s) {es : Array MapEntry} {clock : Nat} (st : MapKept.Stamped es clock) (he : es.toList.map (fun e => (e.key, e.val)) = al.map encL) (hsm : ∀ p ∈ al, sml p.1) (w : World) :
    (getL s al = none ∧ (Instr.findKey 93 (lbV s) es.toList).run Tryz.prog w = .ok none w ∧ (∀ e ∈ es.toList, e.key ≠ lbV s) ∧ ∀ u, updL s u al = al ++ [(s, u)]) ∨
    ∃ j e v, getL s al = some v ∧ (Instr.findKey 93 (lbV s) es.toList).run Tryz.prog w = .ok (some (j, v)) w ∧ es.toList[j]? = some e ∧ e.key = lbV s ∧ e.val = v ∧ ∀ u, al.set j (s, u) = updL s u al := by
  obtain ⟨l, hl⟩ := keyOf_lb hs
  have hall : ∀ e ∈ es.toList, ∃ l, keyOf Tryz.prog 93 e.key = some l := fun e hm => by
    have : (e.key, e.val) ∈ es.toList.map (fun e => (e.key, e.val)) := List.mem_map_of_mem hm
    rw [he] at this
    obtain ⟨p, hp, hpe⟩ := List.mem_map.1 this
    simp only [encL, Prod.mk.injEq] at hpe
    rw [← hpe.1]; exact keyOf_lb (hsm p hp)
  rcases lawL.find w hl es.toList hall with ⟨h1, h2⟩ | ⟨j, e, h1, h2, h3⟩
  · have := getL_none (s := s) (al := al) fun p hp e => by
      have : encL p ∈ al.map encL := List.mem_map_of_mem hp
      rw [← he] at this
      obtain ⟨y, hy, hye⟩ := List.mem_map.1 this
      simp only [encL, Prod.mk.injEq] at hye
      exact h2 y hy (by rw [hye.1, e])
    exact .inl ⟨this.1, h1, h2, this.2⟩
  · have hj : (es.toList.map (fun e => (e.key, e.val)))[j]? = some (e.key, e.val) := by rw [List.getElem?_map, h2]; rfl
    rw [he, List.getElem?_map] at hj
    cases hp : al[j]? with
    | none => rw [hp] at hj; cases hj
    | some p =>
      rw [hp] at hj
      simp only [Option.map_some, encL, Option.some.injEq, Prod.mk.injEq] at hj
      obtain ⟨k, v⟩ := p
      have hk : k = s := lbV_inj (by rw [hj.1, h3])
      subst hk
      have hv : v = e.val := hj.2
      obtain ⟨g1, g2⟩ := getL_at (nodupL st he) hp
      exact .inr ⟨j, e, v, g1, by rw [h1, hv], h2, h3, hv.symm, g2⟩
theorem run_look_L {mt et : TypeId} (h : ML ω w t g al) (hm : Tryz.prog.underlying mt = some (.map 93 et)) {z : Value} (hz : ∀ w, (zeroValue et).run Tryz.prog w = .ok z w) {s : L2} (hs : sml s) (ok : Bool) (d : Nat) :
    (Instr.lookup mt (.map (some g)) (lbV s) ok).run Tryz.prog (w.drewN d) = .ok (if ok then .tuple #[(getL s al).getD z, .bool (getL s al).isSome] else (getL s al).getD z) (w.drewN d) := by
  obtain ⟨es, clock, hb, st, he⟩ := h.ex
  have hb' : (w.drewN d).heap[g]? = some (.map es clock) := hb
  obtain ⟨l, hl⟩ := keyOf_lb hs
  have hc := fun e => lawL.check (w.drewN d) e hl
  rcases find_L hs st he h.sm (w.drewN d) with ⟨g1, g2, _⟩ | ⟨j, e', v', g1, g2, _⟩
  · simp [Instr.lookup, run_underlying hm, MapKept.run_getObj_map hb', hc, g2, hz, Result.andThen, g1]
  · simp [Instr.lookup, run_underlying hm, MapKept.run_getObj_map hb', hc, g2, Result.andThen, g1]
theorem rd1_L {α : Type} {f : α → Value} {mt et : TypeId} (h : ML ω w t g al) (hm : Tryz.prog.underlying mt = some (.map 93 et)) {z : Value} (hz : ∀ w, (zeroValue et).run Tryz.prog w = .ok z w) {s : L2} (hs : sml s) {K : α → Prop} {a : α}
    (e : (getL s al).getD z = f a) (hK : K a) : G.rd1 Tryz.prog (Instr.lookup mt (.map (some g)) (lbV s) false) f w K :=
  ⟨a, fun d => by rw [run_look_L h hm hz hs false d, e]; rfl, hK⟩
theorem mkL {P : Program} {mt : TypeId} (t : Nat) {K : Option Nat → World → Prop} (hK : ∀ g ω' w', Stp Non ω ω' w w' → ML ω' w' t g [] → K (some g) w') : G.runM P (Instr.makeMap mt none) w K :=
  ⟨some w.heap.size, _, run_makeMap_plain w mt, hK w.heap.size (ext ω w.heap.size t) _ ((Keep.alloc w _).stp ω t) ⟨⟨#[], 0, World.alloc_heap_new w _, MapKept.stamped_empty 0, rfl⟩, ext_new (Nat.le_refl _), by simp⟩⟩
theorem find_born : ∀ {l : List MapEntry} {j : Nat} {e0 : MapEntry}, (l.map (·.born)).Nodup → l[j]? = some e0 → l.findIdx? (fun e => ((e.born : Nat) : Int) == ((e0.born : Nat) : Int)) = some j
  | [], j, e0, _, h => by simp at h
  | a :: l, 0, e0, _, h => by simp at h; subst h; simp [List.findIdx?_cons]
  | a :: l, j + 1, e0, hn, h => by
    rw [List.map_cons, List.nodup_cons] at hn
    simp only [List.getElem?_cons_succ] at h
    have hne : a.born ≠ e0.born := fun e1 => hn.1 (List.mem_map.2 ⟨e0, List.mem_of_getElem? h, e1.symm⟩)
    have hb : (((a.born : Nat) : Int) == ((e0.born : Nat) : Int)) = false := by
      simp only [beq_eq_false_iff_ne, ne_eq, Int.natCast_inj]
      exact hne
    rw [List.findIdx?_cons, hb]
    simp [find_born hn.2 h]
theorem entL {mt et : TypeId} (h : ML ω w t g al) (hm : Tryz.prog.underlying mt = some (.map 93 et)) (hz : ∀ w, (zeroValue et).run Tryz.prog w = .ok nilS.v w) {s : L2} (hs : sml s) {x : Sl} (ex : (getL s al).getD nilS.v = x.v) {K : Sl → Int → World → Prop}
    (hK : ∀ n ω1 w1, Stp (One t) ω ω1 w w1 → (∀ ω2 w2 T, Stp T ω1 ω2 w1 w2 → T t = false → ∀ (v : Value) (Z : World → Prop), (∀ ω3 w3, Stp (One t) ω2 ω3 w2 w3 → ML ω3 w3 t g (updL s v al) → Z w3) → G.runU Tryz.prog (Instr.entryStore mt (.map (some g)) (.int .i64 n) v) w2 Z) → K x n w1) :
    G.runE Tryz.prog (Instr.mapEntry mt (.map (some g)) (lbV s)) w K := by
  obtain ⟨es, clock, hb, st, he⟩ := h.ex
  obtain ⟨l, hl⟩ := keyOf_lb hs
  have hc := lawL.check w false hl
  obtain ⟨s1, s2, s3⟩ := (MapKept.stamped_iff es clock).1 st
  have hsmu : ∀ v, ∀ p ∈ updL s v al, sml p.1 := fun v p hp => by
    have key : ∀ (al : LL), (∀ p ∈ al, sml p.1) → p ∈ updL s v al → sml p.1 := by
      intro al
      induction al with
      | nil => intro _ hp; simp only [updL, List.mem_singleton] at hp; subst hp; exact hs
      | cons q r ih =>
        intro ha hp
        obtain ⟨k, y⟩ := q
        rw [updL] at hp
        split at hp
        · rcases List.mem_cons.1 hp with rfl | hp
          · exact hs
          · exact ha _ (List.mem_cons_of_mem _ hp)
        · rcases List.mem_cons.1 hp with rfl | hp
          · exact ha _ (List.mem_cons_self ..)
          · exact ih (fun q hq => ha q (List.mem_cons_of_mem _ hq)) hp
    exact key al h.sm hp
  -- writing back
  have back : ∀ (es1 : Array MapEntry) (clock1 : Nat) (j : Nat) (e0 : MapEntry) (w1 : World), MapKept.Stamped es1 clock1 → es1.toList[j]? = some e0 → w1.heap[g]? = some (.map es1 clock1) → e0.key = lbV s →
      (∀ v, (es1.toList.map (fun e => (e.key, e.val))).set j (lbV s, v) = (updL s v al).map encL) → Stp (One t) ω ω w w1 →
      ∀ ω2 w2 T, Stp T ω ω2 w1 w2 → T t = false → ∀ (v : Value) (Z : World → Prop), (∀ ω3 w3, Stp (One t) ω2 ω3 w2 w3 → ML ω3 w3 t g (updL s v al) → Z w3) → G.runU Tryz.prog (Instr.entryStore mt (.map (some g)) (.int .i64 (e0.born : Int)) v) w2 Z := by
    intro es1 clock1 j e0 w1 st1 hj hb1 hk hset _ ω2 w2 T k2 hT v Z hZ
    have hb2 : w2.heap[g]? = some (.map es1 clock1) := by rw [k2.block g (heap_lt hb1) (by rw [h.tag]; exact hT)]; exact hb1
    have htag : ω2 g = t := (k2.same g (heap_lt hb1)).trans h.tag
    have hjs : es1[j]? = some e0 := by simpa using hj
    have hidx : es1.findIdx? (fun e => ((e.born : Nat) : Int) == ((e0.born : Nat) : Int)) = some j := by
      have : es1.findIdx? (fun e => ((e.born : Nat) : Int) == ((e0.born : Nat) : Int)) = es1.toList.findIdx? (fun e => ((e.born : Nat) : Int) == ((e0.born : Nat) : Int)) := by cases es1; simp
      rw [this]; exact find_born ((MapKept.stamped_iff es1 clock1).1 st1).2.1 hj
    refine ⟨w2.putObj g (.map (es1.modify j fun e => { e with val := v }) clock1), ?_, hZ ω2 _ (put_stp' htag) ⟨⟨_, _, World.putObj_heap_same (heap_lt hb2), MapKept.stamped_modify st1 _ _ (fun _ _ => rfl) (fun e'' _ _ => rfl), ?_⟩, htag, hsmu v⟩⟩
    · simp [Instr.entryStore, MapKept.run_getObj_map hb2, asInt, asIntOf, hidx, MapKept.run_setObj_map _ hb2, Result.andThen, World.putObj]
    · rw [← hset v, Array.toList_modify]
      apply List.ext_getElem?
      intro i
      simp only [List.getElem?_map, List.getElem?_modify, List.getElem?_set]
      by_cases e : j = i
      · subst e
        have hlt : j < es1.toList.length := (List.getElem?_eq_some_iff.1 hj).1
        have hlt' : j < es1.size := by simpa using hlt
        have hge : es1[j] = e0 := by have := Array.getElem?_eq_getElem hlt'; rw [hjs] at this; exact (Option.some.inj this).symm
        simp [hge, hk, hlt']
      · simp [e]
  rcases find_L hs st he h.sm w with ⟨g1, g2, g3, g4⟩ | ⟨j, e', v', g1, g2, g3, g4, g5, g6⟩
  · rw [g1] at ex
    have st1 : MapKept.Stamped (es.push { key := lbV s, val := nilS.v, born := clock }) (clock + 1) := MapKept.stamped_push st fun x hx hxe => g3 x hx hxe
    have hb1 : (w.putObj g (.map (es.push { key := lbV s, val := nilS.v, born := clock }) (clock + 1))).heap[g]? = some (.map (es.push { key := lbV s, val := nilS.v, born := clock }) (clock + 1)) := World.putObj_heap_same (heap_lt hb)
    have ex' : x.v = nilS.v := ex.symm
    refine ⟨x, (clock : Int), w.putObj g (.map (es.push { key := lbV s, val := nilS.v, born := clock }) (clock + 1)), ?_, hK (clock : Int) ω _ (put_stp' h.tag) (back _ _ es.size { key := lbV s, val := nilS.v, born := clock } _ st1 ?_ hb1 rfl (fun v => ?_) (put_stp' h.tag))⟩
    · rw [ex']
      simp [Instr.mapEntry, run_underlying hm, MapKept.run_getObj_map hb, hc, g2, hz, MapKept.run_setObj_map _ hb, Result.andThen, World.putObj, goInt]
    · rw [Array.toList_push, List.getElem?_append_right (by simp)]; simp
    · rw [Array.toList_push, List.map_append, he, g4 v, List.map_append]
      have hl : (al.map encL).length = es.size := by rw [← he]; simp
      rw [List.set_append_right _ _ (by omega), hl, Nat.sub_self]
      rfl
  · rw [g1] at ex
    have ex' : v' = x.v := ex
    have hj : es[j]? = some e' := by simpa using g3
    have hsame : (es.modify j fun e => { e with key := lbV s }) = es := by
      apply Array.ext'
      rw [Array.toList_modify]
      apply List.ext_getElem?
      intro i
      rw [List.getElem?_modify]
      by_cases e : j = i
      · subst e
        rw [g3]
        simp [← g4]
      · simp [e]
    refine ⟨x, (e'.born : Int), w.putObj g (.map es clock), ?_, hK (e'.born : Int) ω _ (put_stp' h.tag) (back es clock j e' _ st g3 (World.putObj_heap_same (heap_lt hb)) g4 (fun v => ?_) (put_stp' h.tag))⟩
    · rw [← ex']
      simp [Instr.mapEntry, run_underlying hm, MapKept.run_getObj_map hb, hc, g2, hj, g4, lawL.stays w hl, hsame, MapKept.run_setObj_map _ hb, Result.andThen, World.putObj, goInt]
    · rw [he, ← g6 v, List.map_set]; rfl
end Go.Proofs.YtmfgmcajelmgbaaGreatDoor.Mem

namespace Go.Proofs.YtmfgmcajelmgbaaGreatDoor.Mem
open Go Vm Go.RowKit Num
variable {ω ω' ω'' ωl : Tg} {w w' w'' : World} {t u g : Nat} {T : Nat → Bool} {e : TypeId} {sz : Nat} {s : Sl} {xs : List Value}
def rtg (ω ωl : Tg) (n : Nat) (f : Nat → Nat) : Tg := fun k => if k < n then ω k else f (ωl k)
theorem rtg_new {n : Nat} {f : Nat → Nat} {k v : Nat} (h : n ≤ k) (hv : ωl k = v) : rtg ω ωl n f k = f v := by unfold rtg; rw [if_neg (by omega), hv]
theorem rtg_stp (k : Keep w w') (ω ωl : Tg) (f : Nat → Nat) : Stp Non ω (rtg ω ωl w.heap.size f) w w' := ⟨k.os, k.tape, k.output, k.size, fun i hi => by unfold rtg; rw [if_pos hi], fun i hi _ => k.block i hi⟩
theorem Top.ge {v : Nat} (top : Top w ω' w') {k : Nat} (h : ω' k = v) (hv : v ≠ 0) : w.heap.size ≤ k := by
  rcases Nat.lt_or_ge k w.heap.size with hlt | hge
  · rw [top.z k hlt] at h; exact absurd h.symm hv
  · exact hge
theorem BT.rtg {cs : List Value} (h : BT ωl w' u g e cs) (top : Top w ωl w') (f : Nat → Nat) (hu : u ≠ 0 := by decide) : BT (rtg ω ωl w.heap.size f) w' (f u) g e cs := ⟨h.blk, rtg_new (top.ge h.tag hu) h.tag⟩
theorem OT.rtg (h : OT ωl w' u e sz s xs) (top : Top w ωl w') (f : Nat → Nat) (hu : u ≠ 0 := by decide) : OT (rtg ω ωl w.heap.size f) w' (f u) e sz s xs := ⟨h.own, fun k hk => rtg_new (top.ge (h.tag k hk) hu) (h.tag k hk)⟩
theorem RT.rtg (h : RT ωl w' u s sz xs) (top : Top w ωl w') (f : Nat → Nat) (hu : u ≠ 0 := by decide) : RT (rtg ω ωl w.heap.size f) w' (f u) s sz xs := ⟨h.rd, fun g o ha hne => rtg_new (top.ge (h.tag g o ha hne) hu) (h.tag g o ha hne)⟩
theorem MV.rtg {al : AL} (h : MV ωl w' u g al) (top : Top w ωl w') (f : Nat → Nat) (hu : u ≠ 0 := by decide) : MV (rtg ω ωl w.heap.size f) w' (f u) g al := ⟨h.ex, rtg_new (top.ge h.tag hu) h.tag⟩
theorem fresh (ω : Tg) (n m : Nat) : ∃ v, m < v ∧ ∀ k, k < n → ω k ≠ v := by
  induction n with
  | zero => exact ⟨m + 1, by omega, fun k hk => absurd hk (Nat.not_lt_zero _)⟩
  | succ n ih =>
    obtain ⟨b, hb⟩ : ∃ b, ∀ k, k < n + 1 → ω k ≤ b := by
      clear ih
      induction n with
      | zero => exact ⟨ω 0, fun k hk => by have : k = 0 := by omega
                                           rw [this]; exact Nat.le_refl _⟩
      | succ n ih =>
        obtain ⟨b, hb⟩ := ih
        refine ⟨max b (ω (n + 1)), fun k hk => ?_⟩
        rcases Nat.lt_succ_iff_lt_or_eq.1 hk with h | rfl
        · exact Nat.le_trans (hb k h) (Nat.le_max_left ..)
        · exact Nat.le_max_right ..
    exact ⟨max m b + 1, by omega, fun k hk e => by have := hb k hk; omega⟩
theorem Stp.fresh {v : Nat} (h : Stp T ω ω' w w') (k : Stp (One v) ω' ω'' w' w'') (hv : ∀ i, i < w.heap.size → ω i ≠ v) : Stp T ω ω'' w w'' :=
  ⟨k.os.trans h.os, k.tape.trans h.tape, k.output.trans h.output, Nat.le_trans h.size k.size, fun i hi => (k.same i (Nat.lt_of_lt_of_le hi h.size)).trans (h.same i hi), fun i hi hT => by
    rw [k.block i (Nat.lt_of_lt_of_le hi h.size) (by rw [h.same i hi]; exact beq_no (hv i hi))]
    exact h.block i hi hT⟩
end Go.Proofs.YtmfgmcajelmgbaaGreatDoor.Mem

namespace Go.Proofs.YtmfgmcajelmgbaaGreatDoor.Bk
open Go Vm Go.RowKit Num Mem Utf Lib Lab Vint Bits
variable {ω ω' : Tg} {w w' w0 : World} {T : Nat → Bool} {t u g gm : Nat}
def hasL (m : List Lb) (x : Lb) : Bool := m.any fun y => decide (y = x)
theorem hasL_iff {m : List Lb} {x : Lb} : hasL m x = true ↔ x ∈ m := by
  unfold hasL
  rw [List.any_eq_true]
  simp
def postGo (x : Lb) : List Ser → Nat → List Nat
  | [], _ => []
  | s :: r, i => if hasL s.1 x = true then i :: postGo x r (i + 1) else postGo x r (i + 1)
def post (l : List Ser) (x : Lb) : List Nat := postGo x l 0
theorem postGo_snoc (x : Lb) (s : Ser) : ∀ (l : List Ser) (i : Nat), postGo x (l ++ [s]) i = postGo x l i ++ (if hasL s.1 x = true then [i + l.length] else [])
  | [], i => by simp [postGo]
  | y :: l, i => by
    rw [List.cons_append, postGo, postGo_snoc x s l (i + 1), postGo]
    split
    · rw [List.cons_append, List.length_cons, show i + 1 + l.length = i + (l.length + 1) by omega]
    · rw [List.length_cons, show i + 1 + l.length = i + (l.length + 1) by omega]
theorem post_snoc (l : List Ser) (s : Ser) (x : Lb) : post (l ++ [s]) x = post l x ++ (if hasL s.1 x = true then [l.length] else []) := by
  unfold post; rw [postGo_snoc, Nat.zero_add]
theorem postGo_len (x : Lb) : ∀ (l : List Ser) (i : Nat), (postGo x l i).length ≤ l.length
  | [], i => by simp [postGo]
  | y :: l, i => by
    have := postGo_len x l (i + 1)
    rw [postGo]
    split <;> simp only [List.length_cons] <;> omega
abbrev IE := Lb × Sl × List Nat
def encI (e : IE) : L2 × Value := (e.1, e.2.1.v)
def ints (l : List Nat) : List Value := l.map fun n : Nat => Value.int .i64 (n : Int)
theorem ints_app (a b : List Nat) : ints (a ++ b) = ints a ++ ints b := List.map_append
theorem ints_len (a : List Nat) : (ints a).length = a.length := List.length_map _
theorem ints_one {l : List Nat} : ∀ v ∈ ints l, v.oneCell' = true := by
  intro v hv
  obtain ⟨s, _, rfl⟩ := List.mem_map.1 hv
  rfl
theorem tiN : TI Tryz.prog 46 3 1 8 := TI.of (z := .int .i64 0) (by kernel_rfl) (by kernel_rfl) rfl (by decide)
theorem mapX : Tryz.prog.underlying 82 = some (.map 93 46) := by kernel_rfl
abbrev Rg (t n : Nat) : Nat → Bool := fun u => decide (t ≤ u ∧ u < n)
def BIG : Nat := 100000000
theorem rg_no {a n u : Nat} (h : u < a ∨ n ≤ u) : Rg a n u = false := decide_eq_false (by omega)
theorem one_rg {a n u : Nat} (h1 : a ≤ u) (h2 : u < n) (h : Stp (Mem.One u) ω ω' w w') : Stp (Rg a n) ω ω' w w' := h.mono fun x hx => beq_no fun e => by
  have := of_decide_eq_false hx; omega
structure IX (ω : Tg) (w : World) (t u gm : Nat) (F : Lb → List Nat) (es : List IE) : Prop where
  mp : ML ω w t gm (es.map encI)
  own : ∀ j e, es[j]? = some e → OT ω w (u + j) 3 1 e.2.1 (ints e.2.2)
  eq : ∀ e ∈ es, e.2.2 = F e.1
  all : ∀ x, F x ≠ [] → x ∈ es.map (·.1)
  ne : ∀ e ∈ es, F e.1 ≠ []
theorem IX.stp {F : Lb → List Nat} {es : List IE} (h : IX ω w t u gm F es) (k : Stp T ω ω' w w') (h1 : T t = false) (h2 : ∀ j, j < es.length → T (u + j) = false) : IX ω' w' t u gm F es :=
  ⟨h.mp.stp k h1, fun j e he => (h.own j e he).stp k (h2 j (List.getElem?_eq_some_iff.1 he).1), h.eq, h.all, h.ne⟩
theorem keysI (es : List IE) : (es.map encI).map (·.1) = es.map (·.1) := by rw [List.map_map]; rfl
theorem idx_step {F : Lb → List Nat} {es : List IE} {n : Nat} (h : IX ω w t (t + 1) gm F es) (hes : t + 1 + es.length < n) {x : Lb} (hx : sml x) {i : Nat} (hF : (F x).length ≤ 10000000) {p : Sl} {v : Nat} (hv : v < t ∨ n ≤ v) (hp : BT ω w v g 3 [.int .i64 (i : Int)]) (ep : p = ⟨some ⟨g, 0, none⟩, 1, 1⟩) {Z : World → Prop}
    (hK : ∀ es' ω' w', Stp (Rg t n) ω ω' w w' → IX ω' w' t (t + 1) gm (fun y => if y = x then F y ++ [i] else F y) es' → es'.length ≤ es.length + 1 → Z w') :
    G.runE Tryz.prog (Instr.mapEntry 82 (.map (some gm)) (lbV x)) w fun l n w1 => G.runSl Tryz.prog (Builtin.append_ #[46, 46] 46 #[l.v, p.v]) w1 fun l2 w2 =>
      G.runU Tryz.prog (Instr.entryStore 82 (.map (some gm)) (.int .i64 n) l2.v) w2 Z := by
  have hpt : Mem.One t v = false := beq_no (by omega)
  by_cases hm : x ∈ es.map (·.1)
  · obtain ⟨e, he, hex⟩ := List.mem_map.1 hm
    obtain ⟨j, hj, rfl⟩ := List.mem_iff_getElem.1 he
    have hje : es[j]? = some es[j] := List.getElem?_eq_getElem hj
    have hjm : (es.map encI)[j]? = some (x, es[j].2.1.v) := by rw [List.getElem?_map, hje]; show some (encI es[j]) = _; unfold encI; rw [hex]
    obtain ⟨g1, g2⟩ := getL_at h.mp.nodup hjm
    have o := h.own j _ hje
    have hlen := h.eq _ he
    have hon : es[j].2.1.n = es[j].2.2.length := by have := o.own.len; rw [ints_len] at this; omega
    rw [hex] at hlen
    have hll : es[j].2.2.length ≤ 10000000 := by rw [hlen]; exact hF
    refine entL (x := es[j].2.1) h.mp mapX Tryz.zeroValue46 hx (by rw [g1]; rfl) fun st ω1 w1 k1 back => ?_
    have o1 := o.stp k1 (beq_no (by omega))
    have hp1 := hp.stp k1 hpt
    subst ep
    refine app_T tiN o1 (x := ⟨some ⟨g, 0, none⟩, 1, 1⟩) (ys := ints [i]) (by have := Rd.blk (o := 0) (n := 1) (c := 1) (sz := 1) hp1.blk (Nat.le_refl _) (by simp); simpa [ints] using this) ints_one (by simp only [maxLen]; omega) (by simp only; omega) fun r ω2 w2 k2 o2 _ => ?_
    refine back ω2 w2 _ k2 (beq_no (by omega)) _ Z fun ω3 w3 k3 m3 => ?_
    rw [← g2] at m3
    have em : (es.map encI).set j (x, r.v) = (es.set j (x, r, es[j].2.2 ++ [i])).map encI := by rw [List.map_set]; rfl
    rw [em] at m3
    refine hK (es.set j (x, r, es[j].2.2 ++ [i])) ω3 w3 (((one_rg (by omega) (by omega) k1).trans (one_rg (by omega) (by omega) k2)).trans (one_rg (by omega) (by omega) k3)) ⟨m3, fun j' e' he' => ?_, fun e' he' => ?_, fun y hy => ?_, fun e' he' => ?_⟩ (by rw [List.length_set]; omega)
    · by_cases hjj : j = j'
      · subst hjj
        rw [List.getElem?_set_self hj] at he'
        injection he' with he'
        subst he'
        rw [ints_app]
        exact o2.stp k3 (beq_no (by omega))
      · rw [List.getElem?_set_ne hjj] at he'
        exact (((h.own j' e' he').stp k1 (beq_no (by omega))).stp k2 (beq_no (by omega))).stp k3 (beq_no (by omega))
    · obtain ⟨j', hj', rfl⟩ := List.mem_iff_getElem.1 he'
      rw [List.length_set] at hj'
      rw [List.getElem_set]
      split
      · rw [if_pos rfl, hlen]
      · rename_i hjj
        have hne : ¬ es[j'].1 = x := fun e => by
          have hn := h.mp.nodup
          rw [keysI] at hn
          have l1 : j < (es.map (·.1)).length := by rw [List.length_map]; exact hj
          have l2 : j' < (es.map (·.1)).length := by rw [List.length_map]; exact hj'
          have pw := List.pairwise_iff_getElem.1 hn
          rcases Nat.lt_or_gt_of_ne hjj with hlt | hlt
          · exact pw j j' l1 l2 hlt (by rw [List.getElem_map, List.getElem_map, e, hex])
          · exact pw j' j l2 l1 hlt (by rw [List.getElem_map, List.getElem_map, e, hex])
        rw [if_neg hne]
        exact h.eq _ (List.getElem_mem hj')
    · rw [List.map_set]
      by_cases hyx : y = x
      · subst hyx
        exact List.mem_iff_getElem.2 ⟨j, by rw [List.length_set, List.length_map]; exact hj, by rw [List.getElem_set_self]⟩
      · rw [if_neg hyx] at hy
        have hy' := h.all y hy
        obtain ⟨j', hj', e'⟩ := List.mem_iff_getElem.1 hy'
        rw [List.length_map] at hj'
        refine List.mem_iff_getElem.2 ⟨j', by rw [List.length_set, List.length_map]; exact hj', ?_⟩
        rw [List.getElem_set_ne (fun e => hyx ?_)]
        · exact e'
        · subst e; rw [List.getElem_map] at e'; rw [← e', hex]
    · by_cases hex' : e'.1 = x
      · rw [if_pos hex']; simp
      · rw [if_neg hex']
        obtain ⟨j', hj', rfl⟩ := List.mem_iff_getElem.1 he'
        rw [List.length_set] at hj'
        rw [List.getElem_set] at hex' ⊢
        split at hex'
        · exact absurd rfl hex'
        · rename_i hjj
          rw [if_neg hjj]
          exact h.ne _ (List.getElem_mem hj')
  · have hF0 : F x = [] := Classical.byContradiction fun hne => hm (h.all x hne)
    have hnk : ∀ q ∈ es.map encI, q.1 ≠ x := fun q hq e => hm (by
      have := List.mem_map_of_mem (f := (·.1)) hq
      rw [keysI, e] at this; exact this)
    obtain ⟨g1, g2⟩ := getL_none hnk
    refine entL (x := nilS) h.mp mapX Tryz.zeroValue46 hx (by rw [g1]; rfl) fun st ω1 w1 k1 back => ?_
    have hp1 := hp.stp k1 hpt
    subst ep
    refine app_T (ω := ω1) (t := t + 1 + es.length) tiN (OT.nil _ _ _ _ _) (x := ⟨some ⟨g, 0, none⟩, 1, 1⟩) (ys := ints [i]) (by have := Rd.blk (o := 0) (n := 1) (c := 1) (sz := 1) hp1.blk (Nat.le_refl _) (by simp); simpa [ints] using this) ints_one (by simp only [maxLen]; simp) (by simp) fun r ω2 w2 k2 o2 _ => ?_
    refine back ω2 w2 _ k2 (beq_no (by omega)) _ Z fun ω3 w3 k3 m3 => ?_
    rw [g2] at m3
    have em : es.map encI ++ [(x, r.v)] = (es ++ [(x, r, [i])]).map encI := by rw [List.map_append]; rfl
    rw [em] at m3
    refine hK (es ++ [(x, r, [i])]) ω3 w3 (((one_rg (by omega) (by omega) k1).trans (one_rg (by omega) (by omega) k2)).trans (one_rg (by omega) (by omega) k3)) ⟨m3, fun j' e' he' => ?_, fun e' he' => ?_, fun y hy => ?_, fun e' he' => ?_⟩ (by rw [List.length_append]; exact Nat.le_refl _)
    · rcases Nat.lt_or_ge j' es.length with hj | hj
      · rw [List.getElem?_append_left hj] at he'
        exact (((h.own j' e' he').stp k1 (beq_no (by omega))).stp k2 (beq_no (by omega))).stp k3 (beq_no (by omega))
      · rw [List.getElem?_append_right hj] at he'
        rcases Nat.eq_zero_or_pos (j' - es.length) with e0 | e0
        · rw [e0] at he'
          simp only [List.getElem?_cons_zero, Option.some.injEq] at he'
          subst he'
          have : j' = es.length := by omega
          subst this
          exact o2.stp k3 (beq_no (by omega))
        · rw [List.getElem?_eq_none (by simp; omega)] at he'; cases he'
    · rcases List.mem_append.1 he' with he' | he'
      · have : e'.1 ≠ x := fun e => hm (by rw [← e]; exact List.mem_map_of_mem he')
        rw [if_neg this]; exact h.eq e' he'
      · rw [List.mem_singleton] at he'
        subst he'
        rw [if_pos rfl, hF0]; rfl
    · rw [List.map_append]
      by_cases hyx : y = x
      · subst hyx; exact List.mem_append_right _ (List.mem_singleton.2 rfl)
      · rw [if_neg hyx] at hy
        exact List.mem_append_left _ (h.all y hy)
    · by_cases hex' : e'.1 = x
      · rw [if_pos hex']; simp
      · rw [if_neg hex']
        rcases List.mem_append.1 he' with he' | he'
        · exact h.ne e' he'
        · rw [List.mem_singleton] at he'
          subst he'
          exact absurd rfl hex'
structure SeT (ω : Tg) (w : World) (t : Nat) (p : SQ) : Prop where
  lb : RT ω w t p.2.1 2 (labs p.1.1)
  sm : RT ω w t p.2.2 2 (Chunk.smps p.1.2)
  fl : ∀ x ∈ p.1.2, x.2 < 18446744073709551616
  sl : p.1.2.length ≤ 11000000
  rt : (Lab.rt p.1.1).1 = 0
theorem SeT.stp {p : SQ} (h : SeT ω w t p) (k : Stp T ω ω' w w') (ne : T t = false) : SeT ω' w' t p := ⟨h.lb.stp k ne, h.sm.stp k ne, h.fl, h.sl, h.rt⟩
theorem SeT.ok {p : SQ} (h : SeT ω w t p) : SeOk w p := ⟨h.lb.rd, h.sm.rd, h.fl, h.sl, (rt_sizes h.rt).1, (rt_sizes h.rt).2⟩
structure BK (ω : Tg) (w : World) (t g gm : Nat) (bs rs : Sl) (b : List UInt8) (q : QS) (F : Lb → List Nat) (es : List IE) (k : Int) : Prop where
  hd : BT ω w t g 89 [bs.v, rs.v, .map (some gm), .int .i64 k]
  by_ : OT ω w (t + 1) 5 1 bs (vBs b)
  row : OT ω w (t + 2) 57 2 rs (sers q)
  ix : IX ω w (t + 4) (t + 5) gm F es
  el : ∀ p ∈ q, SeT ω w (t + 3) p
  n : es.length ≤ 20000000
def Off (t : Nat) (T : Nat → Bool) : Prop := ∀ u, t ≤ u → u < t + BIG → T u = false
theorem BK.stp {bs rs : Sl} {b : List UInt8} {q : QS} {F : Lb → List Nat} {es : List IE} {k : Int} (h : BK ω w t g gm bs rs b q F es k) (s : Stp T ω ω' w w') (ne : Off t T) : BK ω' w' t g gm bs rs b q F es k :=
  ⟨h.hd.stp s (ne _ (by omega) (by unfold BIG; omega)), h.by_.stp s (ne _ (by omega) (by unfold BIG; omega)), h.row.stp s (ne _ (by omega) (by unfold BIG; omega)),
    h.ix.stp s (ne _ (by omega) (by unfold BIG; omega)) (fun j hj => ne _ (by omega) (by have := h.n; unfold BIG; omega)), fun p hp => (h.el p hp).stp s (ne _ (by omega) (by unfold BIG; omega)), h.n⟩
theorem off_one {u : Nat} (h : u < t ∨ t + BIG ≤ u) : Off t (Mem.One u) := fun x h1 h2 => beq_no (by omega)
theorem off_non (t : Nat) : Off t Non := fun _ _ _ => rfl
theorem BK.rd {bs rs : Sl} {b : List UInt8} {q : QS} {F : Lb → List Nat} {es : List IE} {k : Int} (h : BK ω w t g gm bs rs b q F es k) : RdQ w rs q := ⟨h.row.rd, fun p hp => (h.el p hp).ok⟩
end Go.Proofs.YtmfgmcajelmgbaaGreatDoor.Bk

namespace Go.Proofs.YtmfgmcajelmgbaaGreatDoor.Bk
open Go Vm Go.RowKit Num Mem Utf Lib Lab Vint Bits
variable {ω ω' : Tg} {w w' w0 : World} {T : Nat → Bool} {t u g gm : Nat}
theorem cM_at {a : Addr} {b : Option Nat} (h : w.cell? a = some (.map b)) {K : Option Nat → Prop} (hK : K b) : G.cM a w K := ⟨b, h, hK⟩
theorem bytes_take (s : ByteArray) (n : Nat) : Utf.bytes (s.extract 0 n) = (Utf.bytes s).take n := by
  unfold Utf.bytes
  rw [Lib.extract_data]
  simp
theorem prefix_ok {l : List UInt8} {K : Bool → World → Prop} (hK : K (decide (l.take 8 = magicB)) w) : C.strings_HasPrefix (Utf.str l) (⟨#[84, 79, 67, 66, 76, 75, 48, 49]⟩ : ByteArray) w K := by
  have hz : (Utf.str l).size = l.length := str_size l
  unfold C.strings_HasPrefix C.stringslite_HasPrefix
  have h8 : (⟨#[84, 79, 67, 66, 76, 75, 48, 49]⟩ : ByteArray).size = 8 := rfl
  rw [h8]
  have hm : magicB.length = 8 := rfl
  refine cond_d (fun h => ?_) (fun h => ?_)
  · refine ⟨⟨by omega, by omega, by omega⟩, ?_⟩
    have e : (((Utf.str l).extract (0 : Int).toNat ((8 : Nat) : Int).toNat).toList == (⟨#[84, 79, 67, 66, 76, 75, 48, 49]⟩ : ByteArray).toList) = decide (l.take 8 = magicB) := by
      have e1 : ((Utf.str l).extract (0 : Int).toNat ((8 : Nat) : Int).toNat).toList = l.take 8 := by
        rw [ByteArray.toList_eq]
        have := bytes_take (Utf.str l) 8
        rw [bytes_str] at this
        exact this
      have e2 : (⟨#[84, 79, 67, 66, 76, 75, 48, 49]⟩ : ByteArray).toList = magicB := by rw [ByteArray.toList_eq]; rfl
      rw [e1, e2]
      by_cases h : l.take 8 = magicB
      · rw [decide_eq_true h, h]; simp
      · rw [decide_eq_false h]; simp [h]
    show K (((Utf.str l).extract (0 : Int).toNat ((8 : Nat) : Int).toNat).toList == (⟨#[84, 79, 67, 66, 76, 75, 48, 49]⟩ : ByteArray).toList) w
    rw [e]; exact hK
  · have e : l.take 8 ≠ magicB := fun e => by
      have := congrArg List.length e
      rw [List.length_take] at this
      omega
    rwa [decide_eq_false e] at hK
theorem cloneB_ok {s : Sl} {l : List UInt8} (h : RdB w s l) (hm : l.length ≤ 100000000) {K : Sl → World → Prop} (hK : ∀ r w', Keep w w' → OwnB w' w.heap.size r l → K r w') : C.slices_Clone_byte_byte s w K := by
  have hn := h.len
  unfold C.slices_Clone_byte_byte
  exact Sm.clone_ok (P := Tryz.prog) tiB h vBs_one (by simp only [maxLen]; omega) (by omega) fun r w' k o _ => hK r w' k o
theorem Top.of (k : Keep w0 w) (top : Top w ω w') : Top w0 ω w' := ⟨Keep.trans k top.k, fun i hi => top.z i (Nat.lt_of_lt_of_le hi k.size)⟩
def partF (l : List Ser) (ms : List Lb) : Lb → List Nat := fun x => post l x ++ (if hasL ms x = true then [l.length] else [])
theorem partF_nil (l : List Ser) : partF l [] = post l := by funext x; unfold partF; simp [hasL]
theorem partF_all (l : List Ser) (s : Ser) : partF l s.1 = post (l ++ [s]) := by funext x; rw [post_snoc]; rfl
theorem rt_names {l : List Lb} (h : (rt l).1 = 0) : (l.map (·.1)).Nodup := by
  have key : ∀ (r : List Lb) (p : Option ByteArray) (i : Nat), (rtGo p r i).1 = 0 → (∀ x ∈ r, ∀ q, p = some q → cB q x.1 < 0) ∧ (r.map (·.1)).Nodup := by
    intro r
    induction r with
    | nil => intro p i _; exact ⟨(fun x hx => by cases hx), List.nodup_nil⟩
    | cons y r ih =>
      intro p i h
      rw [rtGo] at h
      split at h
      · exact absurd (show (40 : Int) = 0 from h) (by decide)
      · split at h
        · rename_i h2; exact absurd h h2
        · split at h
          · exact absurd (show (3 : Int) = 0 from h) (by decide)
          · rename_i h3
            obtain ⟨i1, i2⟩ := ih _ _ h
            have hy : ∀ x ∈ r, cB y.1 x.1 < 0 := fun x hx => i1 x hx y.1 rfl
            have hp : ∀ q, p = some q → cB q y.1 < 0 := fun q hq => by
              subst hq
              have : backB (some q) y.1 = false := by simpa using h3
              rw [← back_cb] at this
              rw [lessB] at this
              have : cB q y.1 = -1 := by simpa using this
              omega
            refine ⟨fun x hx q hq => ?_, ?_⟩
            · rcases List.mem_cons.1 hx with rfl | hx
              · exact hp q hq
              · exact cB_cmp.trans _ _ _ (hp q hq) (hy x hx)
            · rw [List.map_cons, List.nodup_cons]
              refine ⟨fun hm => ?_, i2⟩
              obtain ⟨x, hx, e⟩ := List.mem_map.1 hm
              have := hy x hx
              rw [e, cB_cmp.self] at this
              exact absurd this (by decide)
  unfold rt at h
  split at h
  · exact absurd (show (8 : Int) = 0 from h) (by decide)
  · exact (key l none 0 h).2
theorem rt_nodup {l : List Lb} (h : (rt l).1 = 0) : l.Nodup := by
  have := rt_names h
  rw [List.Nodup, List.pairwise_map] at this
  exact this.imp fun h e => h (by rw [e])
theorem sml_of {l : List Lb} (h : (rt l).1 = 0) {x : Lb} (hx : x ∈ l) : sml x := by
  have := (rt_short h).2 x hx
  exact ⟨by simp only [maxLen]; omega, by simp only [maxLen]; omega⟩
theorem post_len (l : List Ser) (x : Lb) : (post l x).length ≤ l.length := postGo_len x l 0
theorem open_ok (hT : DTab w0) (ht : UTab w0) (hv : Vint.Tab w0) {s : Sl} {b : List UInt8} (hb : RdB w0 s b) (hl : b.length ≤ 100000000) (t : Nat) (h1000 : 1000 ≤ t) {K : Option Addr → Int → World → Prop}
    (hE : openM b = none → ∀ w', Keep w0 w' → K none 3 w')
    (hK : ∀ l, openM b = some l → ∀ g gm bs rs q es ω' w', Top w0 ω' w' → q.map (·.1) = l → BK ω' w' t g gm bs rs b q (post l) es 0 → K (some ⟨g, 0, none⟩) 0 w') : C.block_Open s w0 K := by
  have hsn := hb.len
  unfold C.block_Open
  unfold openM at hE hK
  refine cond_d (fun h1 => ?_) (fun h1 => ?_)
  · rw [if_pos (.inl (by omega))] at hE; exact hE rfl w0 (Keep.refl _)
  refine Utf.convBS hb <| prefix_ok ?_
  refine cond_not (fun h2 => ?_) (fun h2 => ?_)
  · rw [if_pos (.inr (of_decide_eq_false h2))] at hE; exact hE rfl w0 (Keep.refl _)
  have h2 := of_decide_eq_true h2
  rw [if_neg (by rintro (h | h); omega; exact h h2)] at hE hK
  have h8 : 8 ≤ b.length := by
    have := congrArg List.length h2
    rw [List.length_take] at this
    have : magicB.length = 8 := rfl
    omega
  refine RdB.slc hb (lo := 8) (hi := b.length) (by omega) (by omega) rfl (by omega) fun s8 hs8 => ?_
  rw [List.take_of_length_le (by rw [List.length_drop]; omega)] at hs8
  refine frames_ok hv hs8 (by rw [List.length_drop]; omega) fun fr rs w1 k1 o1 => ?_
  have hfrs : frs (b.drop 8) (b.drop 8).length 0 = frsOf b := rfl
  rw [hfrs] at o1 ⊢
  have hflen : (frsOf b).1.length ≤ b.length := by have := frs_len (b.drop 8) (b.drop 8).length 0; rw [hfrs, List.length_drop] at this; omega
  have hfe : ∀ m ∈ (frsOf b).1, m.length ≤ 65536 := frs_each (b.drop 8) (b.drop 8).length 0
  have hrd := o1.rd
  have hfn := hrd.n
  refine cond_ne (fun he => ?_) (fun he => ?_)
  · rw [if_pos (.inl (fun e => he (by rw [e]; rfl)))] at hE; exact hE rfl w1 k1
  have he : (frsOf b).2.2 = 0 := by exact_mod_cast he
  refine cond_eq (fun h0 => ?_) (fun h0 => ?_)
  · rw [if_pos (.inr (List.eq_nil_of_length_eq_zero (by omega)))] at hE; exact hE rfl w1 k1
  rw [if_neg (by rintro (h | h); exact h he; exact h0 (by rw [hfn, h]; rfl))] at hE hK
  generalize (frsOf b).1 = fs at *
  cases fs with
  | nil => exact absurd (by rw [hfn]; rfl) h0
  | cons f0 fs =>
  rw [List.tail_cons] at hE hK
  -- the rows behind the head
  cases rs with
  | nil => have := hrd.len; simp at this
  | cons r0 rs =>
  have hrl : rs.length = fs.length := by have := hrd.len; simpa using this
  rw [List.length_cons] at hfn hflen
  refine cloneB_ok (hb.keep k1) (by omega) fun bs w2 k2 o2 => ?_
  have t2 := Own.tag o2 (Nat.le_refl _) (fun _ => 0) (t + 1)
  have top2 := (Top.init w1).stp (k2.stp (fun _ => 0) (t + 1))
  generalize ext (fun _ => 0) w1.heap.size (t + 1) = ω2 at *
  refine mkL (ω := ω2) (t + 4) fun gm ω3 w3 k3 m3 => ?_
  refine new_T (ω := ω3) t fun g ω4 w4 k4 b4 => ?_
  have top4 := (top2.stp k3).stp k4
  have bk4 : BK ω4 w4 t g gm bs nilS b [] (post []) [] 0 := ⟨b4, (t2.stp k3).stp k4, OT.nil _ _ _ _ _, ⟨m3.stp k4 rfl, fun j e h => by simp at h, fun e h => by simp at h, fun x h => absurd rfl h, fun e h => by simp at h⟩, (fun p hp => by cases hp), by simp⟩
  unfold C.block_Open.S20
  have hhdr : Rd w1 fr 1 (hdrs (r0 :: rs)) := hrd.hdr
  refine Rd.slc hhdr (lo := 1) (hi := fr.n) (by omega) (Nat.le_refl _) rfl rfl fun l1 hl1 hln _ => ?_
  have hl1' : Rd w1 l1 1 (hdrs rs) := by
    have e : ((hdrs (r0 :: rs)).drop (1 * 1)).take ((fr.n - 1) * 1) = hdrs rs := by
      unfold hdrs
      rw [List.map_cons, Nat.one_mul, List.drop_succ_cons, List.drop_zero, List.take_of_length_le (by rw [List.length_map]; omega)]
    rwa [e] at hl1
  clear hl1
  have hel : ∀ (i : Nat) (r : Sl) (p : List UInt8), rs[i]? = some r → fs[i]? = some p → RdB w1 r p := fun i r p h1 h2 => hrd.el (i + 1) r p (by simpa using h1) (by simpa using h2)
  have hl1n : l1.n = fs.length := by omega
  refine C.block_Open.L5_ind fun X hX => ?_
  have key : ∀ (d i : Nat) (ω : Tg) (w : World) (q : QS) (es : List IE) (rw' : Sl), i + d = fs.length → Top w1 ω w → BK ω w t g gm bs rw' b q (post (q.map (·.1))) es 0 → q.length = i → es.length ≤ 16 * i →
      (match rdAll (fs.drop i) with | none => none | some l => some (q.map (·.1) ++ l)) = rdAll fs → X s (some ⟨g, 0, none⟩) l1 ((l1.n : Nat) : Int) (i : Int) w := by
    intro d
    induction d with
    | zero =>
      intro i ω w q es rw' hi top bk hq hes e
      refine hX _ _ _ _ _ _ ?_
      unfold C.block_Open.S18 C.block_Open.S2
      rw [List.drop_of_length_le (by omega)] at e
      rw [rdAll] at e
      simp only [List.append_nil] at e
      rw [← e] at hE hK
      simp only at hE hK
      have k0 := Keep.trans k1 top.k
      refine cond_d (fun h => by omega) (fun _ => ptr_at <| cSl_at (s := rw') (by rw [addr_add, bk.hd.cell]; rfl) ?_)
      refine build_ok (hT.keep k0) (ht.keep k0) (hv.keep k0) bk.rd (by omega) fun r w6 k6 o6 => ?_
      have k06 := Keep.trans k0 k6
      refine cond_ne (fun hbad => ?_) (fun hok => ?_)
      · rw [if_pos (.inl hbad)] at hE; exact hE rfl w6 k06
      refine Utf.convBS (OwnB.rd o6) <| Utf.convBS (hb.keep k06) ?_
      have eb : ((Utf.str (buildR (q.map (·.1))).1).toList == (Utf.str b).toList) = decide ((buildR (q.map (·.1))).1 = b) := by
        rw [ByteArray.toList_eq, ByteArray.toList_eq]
        change (Utf.bytes (Utf.str _) == Utf.bytes (Utf.str _)) = _
        rw [bytes_str, bytes_str]
        by_cases h : (buildR (q.map (·.1))).1 = b
        · rw [decide_eq_true h, h]; simp
        · rw [decide_eq_false h]; simp [h]
      rw [eb]
      refine cond_not (fun h6 => ?_) (fun h6 => ?_)
      · rw [if_pos (.inr (of_decide_eq_false h6))] at hE; exact hE rfl w6 k06
      · have h6 := of_decide_eq_true h6
        rw [if_neg (by rintro (h | h); exact h hok; exact h h6)] at hK
        have s6 := k6.stp0 ω
        exact hK _ rfl g gm bs rw' q es ω w6 (Top.of k1 (top.stp s6)) rfl (bk.stp s6 (off_non t))
    | succ d ih =>
      intro i ω w q es rw' hi top bk hq hes e
      refine hX _ _ _ _ _ _ ?_
      unfold C.block_Open.S18 C.block_Open.S15
      have hif : i < fs.length := by omega
      have hir : i < rs.length := by omega
      have hri : rs[i]? = some rs[i] := List.getElem?_eq_getElem hir
      have hfi : fs[i]? = some fs[i] := List.getElem?_eq_getElem hif
      rw [List.drop_eq_getElem_cons hif, rdAll] at e
      refine cond_d (fun _ => ?_) (fun h => by omega)
      refine Mem.Rd.hdr (hl1'.keep top.k) hri ?_
      have hp := (hel i _ _ hri hfi).keep top.k
      have hpl := hfe fs[i] (List.mem_cons_of_mem _ (List.getElem_mem hif))
      have k0 := Keep.trans k1 top.k
      refine series_ok (hT.keep k0) (ht.keep k0) hp hpl (fun hn a c w5 k5 => ?_) (fun x ex hs a c w5 k5 sk ol os => ?_)
      · rw [hn] at e
        simp only at e
        rw [← e] at hE
        refine locS fun g6 w6 k6 hg6 b6 => cond_t rfl ?_
        exact hE rfl w6 (Keep.trans k0 (Keep.trans k5 k6.1))
      rw [hs] at e
      simp only at e
      have s5 := k5.stp ω (t + 3)
      have tl := Own.tag ol (Nat.le_refl _) ω (t + 3)
      have ts := Own.tag os (Nat.le_refl _) ω (t + 3)
      have bk5 := bk.stp s5 (off_non t)
      have top5 := top.stp s5
      generalize ext ω w.heap.size (t + 3) = ω5 at *
      have hxrt : (rt x.1).1 = 0 := by
        unfold rdSer at hs
        split at hs
        · cases hs
        · rename_i l a' hr
          split at hs
          · cases hs
          · split at hs
            · cases hs
            · split at hs
              · cases hs
              · split at hs
                · cases hs
                · injection hs with hs
                  injection hs with hs _
                  rw [← hs]; exact rl_rt hr
      have set5 : SeT ω5 w5 (t + 3) (x, a, c) := ⟨tl.rt, ts.rt, sk.fl, sk.sl, hxrt⟩
      refine locS fun g6 w6 k6 hg6 b6 => ?_
      have s6 := k6.1.stp ω5 7
      have b6 : BT (ext ω5 w5.heap.size 7) w6 7 g6 _ _ := ⟨b6, ext_new hg6⟩
      have bk6 := bk5.stp s6 (off_non t)
      have set6 := set5.stp s6 rfl
      have top6 := top5.stp s6
      generalize ext ω5 w5.heap.size 7 = ω6 at *
      refine cond_f rfl <| ptr_at ?_
      have sd := drew_stp ω6 w6
      have bkd := bk6.stp sd (off_non t)
      have bd := b6.stp sd
      have topd := top6.stp sd
      refine cSl_at (s := rw') (by rw [addr_add, bkd.hd.cell]; rfl) <| cSl_at (s := a) (by rw [bd.cell]; rfl) <| cSl_at (s := c) (by rw [addr_add, bd.cell]; rfl) ?_
      have hrn := rdQ_n bkd.row.rd
      -- append of the series
      refine new_T (ω := ω6) 8 fun g7 ω7 w7 k7 b7 => ⟨?_, ?_⟩
      · exact bkd.hd.sameA k7
      have bk7 := bkd.stp k7 (off_non t)
      have set7 := (set6.stp sd rfl).stp k7 rfl
      have bd7 := bd.stp k7
      have top7 := topd.stp k7
      refine app_T tiQ bk7.row (x := ⟨some ⟨g7, 0, none⟩, 1, 1⟩) (ys := sers [(x, a, c)]) (by have := Rd.blk (o := 0) (n := 1) (c := 1) (sz := 2) b7.blk (Nat.le_refl _) (by simp); simpa [sers, serC] using this) sers_one (by simp only [maxLen]; omega) (by simp only; omega) fun r8 ω8 w8 k8 o8 _ => ?_
      have e8 : sers q ++ sers [(x, a, c)] = sers (q ++ [(x, a, c)]) := by rw [sers_app]
      rw [e8] at o8
      have hT8 : ∀ u, t + 2 ≠ u → Mem.One (t + 2) u = false := fun u h => beq_no (fun e => h e.symm)
      have hd8 := bk7.hd.stp k8 (hT8 _ (by omega))
      refine ptr_at <| st_TA hd8 (by simp) fun ω9 w9 k9 hd9 => ?_
      have hT9 : ∀ u, t ≠ u → Mem.One t u = false := fun u h => beq_no (fun e => h e.symm)
      have top9 := (top7.stp k8 (hT8 _ (by omega))).stp k9 (hT9 _ (by omega))
      have bk9 : BK ω9 w9 t g gm bs r8 b (q ++ [(x, a, c)]) (post (q.map (·.1))) es 0 :=
        ⟨hd9, (bk7.by_.stp k8 (hT8 _ (by omega))).stp k9 (hT9 _ (by omega)), o8.stp k9 (hT9 _ (by omega)), (bk7.ix.stp k8 (hT8 _ (by omega)) fun j _ => hT8 _ (by omega)).stp k9 (hT9 _ (by omega)) (fun j _ => hT9 _ (by omega)),
          fun p hp => by
            rcases List.mem_append.1 hp with hp | hp
            · exact ((bk7.el p hp).stp k8 (hT8 _ (by omega))).stp k9 (hT9 _ (by omega))
            · rw [List.mem_singleton] at hp; subst hp; exact (set7.stp k8 (hT8 _ (by omega))).stp k9 (hT9 _ (by omega)), bk7.n⟩
      have bd9 := (bd7.stp k8 (hT8 _ (by omega))).stp k9 (hT9 _ (by omega))
      refine cSl_at (s := a) (by rw [bd9.cell]; rfl) ?_
      have h16 := (rt_short hxrt).1
      -- the index
      have hqi : (q.map (·.1)).length = i := by rw [List.length_map]; exact hq
      refine C.block_Open.L11_ind fun Y hY => ?_
      have inner : ∀ (d' j : Nat) (ω : Tg) (w : World) (es' : List IE), j + d' = x.1.length → Top w1 ω w → BK ω w t g gm bs r8 b (q ++ [(x, a, c)]) (partF (q.map (·.1)) (x.1.take j)) es' 0 → es'.length ≤ es.length + j →
          Y s (some ⟨g, 0, none⟩) (i : Int) l1 ((l1.n : Nat) : Int) (i : Int) a ((a.n : Nat) : Int) (j : Int) w := by
        intro d'
        induction d' with
        | zero =>
          intro j ω w es' hj top bk hle
          refine hY _ _ _ _ _ _ _ _ _ _ ?_
          unfold C.block_Open.S13 C.block_Open.S7
          have han := rdL_n (bk.el _ (List.mem_append_right _ (List.mem_singleton.2 rfl))).lb.rd
          dsimp only at han
          refine cond_d (fun h => by omega) (fun _ => ?_)
          rw [wI64 (by omega) (by omega), show (i : Int) + 1 = ((i + 1 : Nat) : Int) by omega]
          rw [List.take_of_length_le (by omega), partF_all] at bk
          have em : (q ++ [(x, a, c)]).map (·.1) = q.map (·.1) ++ [x] := by rw [List.map_append]; rfl
          refine ih (i + 1) ω w (q ++ [(x, a, c)]) es' r8 (by omega) top (by rw [em]; exact bk) (by rw [List.length_append, hq]; rfl) (by omega) ?_
          rw [← e, em]
          cases rdAll (fs.drop (i + 1)) with
          | none => rfl
          | some l => simp
        | succ d' ihd =>
          intro j ω w es' hj top bk hle
          refine hY _ _ _ _ _ _ _ _ _ _ ?_
          unfold C.block_Open.S13
          have hjx : j < x.1.length := by omega
          have hsx := bk.el _ (List.mem_append_right q (List.mem_singleton.2 (rfl : (x, a, c) = (x, a, c))))
          have han := rdL_n hsx.lb.rd
          dsimp only at han
          have hxj : x.1[j]? = some x.1[j] := List.getElem?_eq_getElem hjx
          refine cond_d (fun _ => ?_) (fun h => by omega)
          refine rdL_at hsx.lb.rd (k := j) rfl hxj fun p e0 e1 => cS_at e0 <| cS_at e1 ?_
          refine new_T (ω := ω) 7 fun g1 ω1 w1' k1' b1 => st_T b1 (by simp) fun ω2 w2 k2 b2 => st_TA b2 (by simp) fun ω3 w3 k3 b3 => ptr_at ?_
          have k13 := ((k1'.non (Mem.One 7)).trans k2).trans k3
          have off7 : Off t (Mem.One 7) := off_one (by omega)
          have bk3 := bk.stp k13 off7
          have top3 := top.stp k13
          have sd := drew_stp ω3 w3
          have bkd := bk3.stp sd (off_non t)
          have bd := b3.stp sd
          have topd := top3.stp sd
          refine cM_at (b := some gm) (by rw [addr_add, bkd.hd.cell]; rfl) <| cS_at (b := x.1[j].1) (by rw [bd.cell]; rfl) <| cS_at (b := x.1[j].2) (by rw [addr_add, bd.cell]; rfl) ?_
          refine new_T (ω := ω3) 8 fun g4 ω4 w4' k4' b4 => ⟨bkd.hd.sameA k4', bd.same k4' rfl 0 2, ?_⟩
          have bk4 := bkd.stp k4' (off_non t)
          have top4 := topd.stp k4'
          have hq' := bk4.rd.n
          refine idx_step (t := t + 4) (n := t + BIG) (x := x.1[j]) (i := i) bk4.ix (by unfold BIG; omega) (sml_of hxrt (List.getElem_mem hjx)) ?_ (v := 8) (by omega) b4 rfl fun es2 ω5 w5 k5 ix5 hle5 => ?_
          · unfold partF
            have := post_len (q.map (·.1)) x.1[j]
            rw [List.length_append]
            split <;> simp <;> omega
          rw [wI64 (by omega) (by omega), show (j : Int) + 1 = ((j + 1 : Nat) : Int) by omega]
          have hR : ∀ u, u < t + 4 → Rg (t + 4) (t + BIG) u = false := fun u h => rg_no (.inl h)
          have eF : (fun y => if y = x.1[j] then partF (q.map (·.1)) (x.1.take j) y ++ [i] else partF (q.map (·.1)) (x.1.take j) y) = partF (q.map (·.1)) (x.1.take (j + 1)) := by
            have hnd := rt_nodup hxrt
            have hnot : hasL (x.1.take j) x.1[j] = false := by
              cases hh : hasL (x.1.take j) x.1[j] with
              | false => rfl
              | true =>
                obtain ⟨j', hj', ej⟩ := List.mem_iff_getElem.1 (hasL_iff.1 hh)
                rw [List.length_take] at hj'
                rw [List.getElem_take] at ej
                exact absurd ej (List.pairwise_iff_getElem.1 hnd j' j (by omega) hjx (by omega))
            funext y
            unfold partF
            have et : x.1.take (j + 1) = x.1.take j ++ [x.1[j]] := List.take_succ_eq_append_getElem hjx
            by_cases hy : y = x.1[j]
            · subst hy
              rw [if_pos rfl, hnot, et]
              have : hasL (x.1.take j ++ [x.1[j]]) x.1[j] = true := hasL_iff.2 (List.mem_append_right _ (List.mem_singleton.2 rfl))
              rw [this, if_pos rfl, hqi]; simp
            · rw [if_neg hy, et]
              have : hasL (x.1.take j ++ [x.1[j]]) y = hasL (x.1.take j) y := by
                unfold hasL
                rw [List.any_append]
                have hyn : ¬ x.1[j] = y := fun e => hy e.symm
                rw [List.any_cons, List.any_nil, decide_eq_false hyn]
                simp
              rw [this]
          rw [eF] at ix5
          refine ihd (j + 1) ω5 w5 es2 (by omega) (top4.stp k5 (hR 0 (by omega))) ⟨bk4.hd.stp k5 (hR _ (by omega)), bk4.by_.stp k5 (hR _ (by omega)), bk4.row.stp k5 (hR _ (by omega)), ix5, fun p hp => (bk4.el p hp).stp k5 (hR _ (by omega)), by have := bk4.n; omega⟩ (by omega)
      refine inner x.1.length 0 ω9 w9 es (by omega) top9 (by rw [List.take_zero, partF_nil]; exact bk9) (by omega)
  exact key fs.length 0 ω4 w4 [] [] nilS (by omega) top4 bk4 rfl (by simp) (by rw [List.drop_zero]; cases rdAll fs <;> rfl)
end Go.Proofs.YtmfgmcajelmgbaaGreatDoor.Bk

namespace Go.Proofs.YtmfgmcajelmgbaaGreatDoor.Mem
open Go Vm Go.RowKit Num
variable {T : Nat → Bool} {ω ω' : Tg} {w w' w0 : World} {t : Nat} {ι : Type}
def TellsG (P : Program) (Fc : Clee) (v : Value) (s0 : ι) (Q0 : ι → ι → List Value → Tg → World → Prop) (dn : ι → Prop) (C : Tg → World → Prop) (Pt Ct : Nat → Bool) : Prop :=
  match v with
  | .func (.func n) first cap => ∀ (L : Nat) (I : ι → Tg → World → Prop) (Kk : Tg → World → Prop) (Q : World → Prop) (ω : Tg) (w : World),
      (∀ i ω w, I i ω w → C ω w) → (∀ i ω ω' w w', I i ω w → Stp Pt ω ω' w w' → I i ω' w') → (∀ ω ω' w w', Kk ω w → Stp Pt ω ω' w w' → Kk ω' w') →
      (∀ i j a ω w R, Q0 i j a ω w → I i ω w → (∀ ω' w', Stp Ct ω ω' w w' → I j ω' w' → R (.bool true) w') → (∀ ω' w', Stp Ct ω ω' w w' → Kk ω' w' → R (.bool false) w') → G.yieldAt P L a w R) →
      (∀ i ω w, dn i → I i ω w → Kk ω w) → (∀ ω w, Kk ω w → Q w) → I s0 ω w → Fc n (first.toList ++ [.func (.yield L) #[] #[]] ++ cap.toList) (fun _ w' => Q w') w
  | _ => False
theorem rangeGW_ok {P : Program} {Fc : Clee} {v : Value} {s0 : ι} {Q0 : ι → ι → List Value → Tg → World → Prop} {dn : ι → Prop} {C : Tg → World → Prop} {B : List Value → World → ((World → Prop) → World → Prop) → (Exit → World → Prop) → Prop} {K : Exit → Nat → World → Prop} {u : Nat} {Pt : Nat → Bool}
    {J : ι → Tg → World → Prop} {E : Exit → Tg → World → Prop} (hv : TellsG P Fc v s0 Q0 dn C Pt (fun x => T x || Nat.beq x u)) (hT : T u = false) (hP : Pt u = false) (hQ : ∀ i j a ω ω' w w', Q0 i j a ω w → Stp (One u) ω ω' w w' → Q0 i j a ω' w') (hC : ∀ i ω w, J i ω w → C ω w)
    (hJ : ∀ S, S = One u ∨ S = Pt → ∀ i ω ω' w w', J i ω w → Stp S ω ω' w w' → J i ω' w') (hE : ∀ S, S = One u ∨ S = Pt → ∀ e ω ω' w w', E e ω w → Stp S ω ω' w w' → E e ω' w')
    (hB : ∀ i k a ω w bz Rr, Q0 i k a ω w → J i ω w → (∀ X ω1 w1, Stp Non ω ω1 w w1 → (∀ w2, Stp (One u) ω1 ω1 w1 w2 → (∀ ω' w', Stp T ω1 ω' w2 w' → J k ω' w' → Rr .normal w') → (∀ e j ω' w', jump e = some (some j) → Stp T ω1 ω' w2 w' → E e ω' w' → Rr e w') → X w2) → bz X w1) → B a w bz Rr)
    (h0 : J s0 ω w)
    (hK : ∀ ω' w' D, w'.heap[D]? = some (.deferred (some [])) → ω' D = u → (∃ i, dn i ∧ J i ω' w') → K .normal D w')
    (hX : ∀ e ω' w' D, w'.heap[D]? = some (.deferred (some [])) → ω' D = u → E e ω' w' → K e D w') : G.rangeW Fc v P B w K := by
  have oJ := hJ _ (.inl rfl)
  have oE := hE _ (.inl rfl)
  have pJ := hJ _ (.inr rfl)
  have pE := hE _ (.inr rfl)
  unfold TellsG at hv
  split at hv
  case h_2 => exact hv.elim
  rename_i n first cap
  intro rec hcells hY
  obtain ⟨w1, ew1⟩ : ∃ w1, w1 = (w.alloc (.deferred (some []))).alloc (rec .ready none) := ⟨_, rfl⟩
  have s1 : Stp (One u) ω (ext (ext ω w.heap.size u) (w.alloc (.deferred (some []))).heap.size u) w w1 := by
    rw [ew1]
    exact (((Keep.alloc w _).stp ω u).trans ((Keep.alloc _ _).stp _ u)).non _
  have hLn : (w.alloc (.deferred (some []))).heap.size = w.heap.size + 1 := World.size_alloc ..
  have hL : w1.heap[w.heap.size + 1]? = some (rec .ready none) := by
    have := World.alloc_heap_new (w.alloc (.deferred (some []))) (rec .ready none)
    rw [hLn] at this; rw [ew1]; exact this
  have hD : w1.heap[w.heap.size]? = some (.deferred (some [])) := by
    have h1 := World.alloc_heap_new w (.deferred (some []))
    rw [ew1]
    exact (Keep.alloc _ _).heap h1
  show Fc n (first.toList ++ [.func (.yield (w.heap.size + 1)) #[] #[]] ++ cap.toList) _ ((w.alloc (.deferred (some []))).alloc (rec .ready none))
  rw [← ew1]
  have hu : ext (ext ω w.heap.size u) (w.alloc (.deferred (some []))).heap.size u (w.heap.size + 1) = u := ext_new (by omega)
  have hud : ext (ext ω w.heap.size u) (w.alloc (.deferred (some []))).heap.size u w.heap.size = u := by rw [ext_old (by omega), ext_new (Nat.le_refl _)]
  generalize ext (ext ω w.heap.size u) (w.alloc (.deferred (some []))).heap.size u = ω1 at s1 hu hud
  have j1 := oJ _ _ _ _ _ h0 s1
  have hne : w.heap.size ≠ w.heap.size + 1 := by omega
  clear ew1 s1 hLn h0
  generalize w.heap.size + 1 = L at *
  generalize w.heap.size = D at *
  refine hv L (fun i ω w => J i ω w ∧ w.heap[L]? = some (rec .ready none) ∧ ω L = u ∧ w.heap[D]? = some (.deferred (some [])) ∧ ω D = u)
    (fun ω w => w.heap[D]? = some (.deferred (some [])) ∧ ω D = u ∧ ω L = u ∧ ∃ st e j, jump e = some j ∧ st ≠ LoopState.busy ∧ w.heap[L]? = some (rec st j) ∧ ((e = .normal ∧ ∃ i, dn i ∧ J i ω w) ∨ E e ω w)) _ ω1 w1 ?_ ?_ ?_ ?_ ?_ ?_ ⟨j1, hL, hu, hD, hud⟩
  · rintro i ω w ⟨h, _⟩; exact hC i ω w h
  · rintro i ω ω' w w' ⟨h, hl, hlu, hd, hdu⟩ s
    exact ⟨pJ _ _ _ _ _ h s, (s.obj hl hlu hP).1, (s.obj hl hlu hP).2, (s.obj hd hdu hP).1, (s.obj hd hdu hP).2⟩
  · rintro ω ω' w w' ⟨hd, hdu, hlu, st, e, j, hj, hst, hl, hh⟩ s
    exact ⟨(s.obj hd hdu hP).1, (s.obj hd hdu hP).2, (s.obj hl hlu hP).2, st, e, j, hj, hst, (s.obj hl hlu hP).1, hh.imp (fun ⟨h1, i, h2, h3⟩ => ⟨h1, i, h2, pJ _ _ _ _ _ h3 s⟩) (fun h => pE _ _ _ _ _ h s)⟩
  · rintro i k a ω w R ha ⟨h, hl, hlu, hd, hdu⟩ hR hRx
    refine hY a w R hl ?_
    have up : ∀ {ω ω' : Tg} {w w' : World}, Stp (One u) ω ω' w w' → Stp (fun x => T x || Nat.beq x u) ω ω' w w' := fun s => s.mono fun x hx => by
      simp only [Bool.or_eq_false_iff] at hx; exact hx.2
    have upT : ∀ {ω ω' : Tg} {w w' : World}, Stp T ω ω' w w' → Stp (fun x => T x || Nat.beq x u) ω ω' w w' := fun s => s.mono fun x hx => by
      simp only [Bool.or_eq_false_iff] at hx; exact hx.1
    refine hB i k a ω _ _ _ ha h fun X ω1 w1 s1 hX => ?_
    obtain ⟨hl1, hlu1⟩ := s1.obj hl hlu rfl
    obtain ⟨hd1, hdu1⟩ := s1.obj hd hdu rfl
    have sp := put_stp (w := w1) (o := rec .busy none) hlu1
    have hb := World.putObj_heap_same (o := rec .busy none) (heap_lt hl1)
    have hd0 : (w1.putObj L (rec .busy none)).heap[D]? = some (.deferred (some [])) := by rw [World.putObj_heap_other hne]; exact hd1
    refine ⟨hl1, hX _ sp (fun ω' w' s j' => ?_) (fun e j ω' w' hj s j' => ?_)⟩
    · obtain ⟨hb', hu'⟩ := s.obj hb hlu1 hT
      obtain ⟨hd', hdu'⟩ := s.obj hd0 hdu1 hT
      have sp2 := put_stp (w := w') (o := rec .ready none) hu'
      refine ⟨hb', none, rfl, hR ω' _ ((s1.non _).trans ((up sp).trans ((upT s).trans (up sp2)))) ⟨oJ _ _ _ _ _ j' sp2, World.putObj_heap_same (heap_lt hb'), hu', ?_, hdu'⟩⟩
      show (w'.putObj L (rec .ready none)).heap[D]? = _
      rw [World.putObj_heap_other hne]; exact hd'
    · obtain ⟨hb', hu'⟩ := s.obj hb hlu1 hT
      obtain ⟨hd', hdu'⟩ := s.obj hd0 hdu1 hT
      have sp2 := put_stp (w := w') (o := rec .done (some j)) hu'
      refine ⟨hb', some j, hj, hRx ω' _ ((s1.non _).trans ((up sp).trans ((upT s).trans (up sp2)))) ⟨?_, hdu', hu', .done, e, some j, hj, (by intro h; cases h), World.putObj_heap_same (heap_lt hb'), .inr (oE _ _ _ _ _ j' sp2)⟩⟩
      show (w'.putObj L (rec .done (some j))).heap[D]? = _
      rw [World.putObj_heap_other hne]; exact hd'
  · rintro i ω w hdn ⟨h, hl, hlu, hd, hdu⟩
    exact ⟨hd, hdu, hlu, .ready, .normal, none, rfl, (by intro h; cases h), hl, .inl ⟨rfl, i, hdn, h⟩⟩
  · rintro ω w ⟨hd, hdu, hlu, st, e, j, hj, hst, hl, hh⟩
    have sp := put_stp (w := w) (o := rec .exhausted j) hlu
    have hd' : (w.putObj L (rec .exhausted j)).heap[D]? = some (.deferred (some [])) := by rw [World.putObj_heap_other hne]; exact hd
    refine ⟨st, e, j, hj, hst, hl, ?_⟩
    rcases hh with ⟨rfl, h⟩ | h
    · obtain ⟨i, h2, h3⟩ := h
      exact hK ω _ D hd' hdu ⟨i, h2, oJ _ _ _ _ _ h3 sp⟩
    · exact hX e ω _ D hd' hdu (oE _ _ _ _ _ h sp)
end Go.Proofs.YtmfgmcajelmgbaaGreatDoor.Mem

namespace Go.Proofs.YtmfgmcajelmgbaaGreatDoor.Bk
open Go Vm Go.RowKit Num Mem Utf Lib Lab Vint Bits
variable {ω ω' : Tg} {w w' w0 : World} {T : Nat → Bool} {t u g gm : Nat}
theorem tiS : TI Tryz.prog 52 96 2 16 := TI.of (z := .agg #[.int .i64 0, .float .f64 0]) (by kernel_rfl) (by kernel_rfl) rfl (by decide)
theorem cloneL_ok {s : Sl} {m : List Lb} (h : Rd w s 2 (labs m)) (hm : m.length ≤ 100000000) {K : Sl → World → Prop} (hK : ∀ r w', Keep w w' → Mem.Own w' w.heap.size 93 2 r (labs m) → K r w') : C.slices_Clone_Label_Label s w K := by
  have hn := rdL_n h
  unfold C.slices_Clone_Label_Label
  exact Sm.clone_ok (P := Tryz.prog) tiL h labs_one (by simp only [maxLen]; omega) (by omega) fun r w' k o _ => hK r w' k o
theorem cloneS_ok {s : Sl} {m : List Smp} (h : Rd w s 2 (Chunk.smps m)) (hm : m.length ≤ 100000000) {K : Sl → World → Prop} (hK : ∀ r w', Keep w w' → Mem.Own w' w.heap.size 96 2 r (Chunk.smps m) → K r w') : C.slices_Clone_Sample_Sample s w K := by
  have hn := smN h
  unfold C.slices_Clone_Sample_Sample
  exact Sm.clone_ok (P := Tryz.prog) tiS h Chunk.smps_one (by simp only [maxLen]; omega) (by omega) fun r w' k o _ => hK r w' k o
theorem cloneN_ok {s : Sl} {m : List Nat} (h : Rd w s 1 (ints m)) (hm : m.length ≤ 100000000) {K : Sl → World → Prop} (hK : ∀ r w', Keep w w' → Mem.Own w' w.heap.size 3 1 r (ints m) → K r w') : C.slices_Clone_int_int s w K := by
  have hn : s.n = m.length := by have := h.2.1; rw [ints_len] at this; omega
  unfold C.slices_Clone_int_int
  exact Sm.clone_ok (P := Tryz.prog) tiN h ints_one (by simp only [maxLen]; omega) (by omega) fun r w' k o _ => hK r w' k o
def f72 (ta tb x : Nat) : Nat := if x = 71 then ta else if x = 72 then tb else 0
theorem own_ok (ta tb : Nat) (ω : Tg) {p : SQ} (h : SeOk w p) (h16 : p.1.1.length ≤ 100000000) {K : Sl → Sl → World → Prop}
    (hK : ∀ r s ω' w', Stp Non ω ω' w w' → OT ω' w' ta 93 2 r (labs p.1.1) → OT ω' w' tb 96 2 s (Chunk.smps p.1.2) → K r s w') : C.block_own p.2.1 p.2.2 w K := by
  unfold C.block_own
  refine new_T (ω := fun _ => 0) 7 fun g1 ω1 w1 k1 b1 => new_T (ω := ω1) 8 fun g2 ω2 w2 k2 b2 => ?_
  have sd := drew_stp ω2 w2
  have b1d := (b1.stp k2).stp sd
  have b2d := b2.stp sd
  have topd := (((Top.init w).stp k1).stp k2).stp sd
  refine cSl_at (s := p.2.1) (by rw [b1d.cell]; rfl) <| cSl_at (s := p.2.2) (by rw [addr_add, b1d.cell]; rfl) ?_
  refine cloneL_ok (h.lb.keep topd.k) h16 fun r w3 k3 o3 => ⟨b1d.sameA (k3.stp0 ω2), ?_⟩
  have s3 := k3.stp ω2 71
  have t3 := Own.tag o3 (Nat.le_refl _) ω2 71
  have b23 := b2d.stp s3
  have top3 := topd.stp s3
  generalize ext ω2 w2.drew.heap.size 71 = ω3 at *
  have hsl := h.sl
  refine cloneS_ok (h.sm.keep top3.k) (by omega) fun s w4 k4 o4 => ?_
  have s4 := k4.stp ω3 72
  have t4 := Own.tag o4 (Nat.le_refl _) ω3 72
  have b24 := b23.stp s4
  have top4 := top3.stp s4
  have t34 := t3.stp s4
  generalize ext ω3 w3.heap.size 72 = ω4 at *
  refine st_T b24 (by simp) fun ω5 w5 k5 b5 => st_TA b5 (by simp) fun ω6 w6 k6 b6 => ?_
  refine cSl_at (s := r) (by rw [b6.cell]; rfl) <| cSl_at (s := s) (by rw [addr_add, b6.cell]; rfl) ?_
  have top6 := (top4.stp k5).stp k6
  exact hK r s (rtg ω ω6 w.heap.size (f72 ta tb)) w6 (rtg_stp top6.k ω ω6 (f72 ta tb)) (((t34.stp k5).stp k6).rtg top6 (f72 ta tb)) (((t4.stp k5).stp k6).rtg top6 (f72 ta tb))
structure AR (w : World) (g : Nat) (rs : Sl) (q : QS) : Prop where
  hd : w.cell? ⟨g, 1, none⟩ = some rs.v
  rd : RdQ w rs q
  l16 : ∀ p ∈ q, p.1.1.length ≤ 100000000
  n : q.length ≤ 100000000
theorem AR.keep {rs : Sl} {q : QS} (h : AR w g rs q) (k : Keep w w') : AR w' g rs q := ⟨k.cell h.hd, h.rd.keep k, h.l16, h.n⟩
theorem BK.ar {bs rs : Sl} {b : List UInt8} {q : QS} {F : Lb → List Nat} {es : List IE} {k : Int} (h : BK ω w t g gm bs rs b q F es k) (hn : q.length ≤ 100000000) : AR w g rs q :=
  ⟨by rw [h.hd.cell]; rfl, h.rd, fun p hp => by have := (rt_short (h.el p hp).rt).1; omega, hn⟩
def QT (tg : Nat → Nat) (q : QS) (i j : Nat) (a : List Value) (ω : Tg) (w : World) : Prop := j = i + 1 ∧ ∃ p r s, q[i]? = some p ∧ a = [.agg #[Sl.v r, Sl.v s]] ∧ OT ω w 71 93 2 r (labs p.1.1) ∧ OT ω w (tg i) 96 2 s (Chunk.smps p.1.2)
abbrev QQ (q : QS) := QT (fun _ => 72) q
theorem all_tellsT (tg : Nat → Nat) {Fc : Clee} {n ga : Nat} {rs : Sl} {q : QS} {Ct : Nat → Bool} (hF : ∀ args K w, C.block_Block_All_1.cl args K w → Fc n args K w) :
    TellsG Tryz.prog Fc (.func (.func n) #[] #[.pointer (some ⟨ga, 0, none⟩)]) 0 (QT tg q) (fun i => i = q.length) (fun _ w => w.cell? ⟨ga, 0, none⟩ = some (.pointer (some ⟨g, 0, none⟩)) ∧ AR w g rs q) Non Ct := by
  intro L I Kk Q ω w hC hI hKI hy hK hQ h0
  refine hF _ _ _ ?_
  show C.block_Block_All_1 (.func (.yield L) #[] #[]) (some ⟨ga, 0, none⟩) w (C.block_Block_All_1.Kt fun _ w' => Q w')
  unfold C.block_Block_All_1
  obtain ⟨hb, hc⟩ := hC 0 ω w h0
  refine ptr_at (cP_at hb (cond_f rfl (ptr_at (cP_at hb (ptr_at (cSl_at (s := rs) (by rw [addr_add]; exact hc.hd) ?_))))))
  have hrn := hc.rd.n
  refine C.block_Block_All_1.L3_ind fun X hX => ?_
  have key : ∀ (d i : Nat) (ω : Tg) (w : World), i + d = q.length → I i ω w → X (.func (.yield L) #[] #[]) rs ((rs.n : Nat) : Int) (i : Int) w := by
    intro d
    induction d with
    | zero =>
      intro i ω w hi h
      refine hX _ _ _ _ _ ?_
      unfold C.block_Block_All_1.S5
      exact cond_d (fun h => by omega) (fun _ => hQ ω w (hK i ω w (by omega) h))
    | succ d ih =>
      intro i ω w hi h
      refine hX _ _ _ _ _ ?_
      unfold C.block_Block_All_1.S5
      have hiq : i < q.length := by omega
      have hqi : q[i]? = some q[i] := List.getElem?_eq_getElem hiq
      have hc := (hC i ω w h).2
      refine cond_d (fun _ => ?_) (fun h => by omega)
      refine rdQ_at hc.rd.rd (k := i) rfl hqi fun a a0 a1 => cSl_at a0 <| cSl_at a1 ?_
      refine locS fun g4 w4 k4 hg4 b4 => ?_
      refine cSl_at (s := q[i].2.1) (by rw [b4.cell]; rfl) <| cSl_at (s := q[i].2.2) (by rw [addr_add, b4.cell]; rfl) ?_
      have s4 := k4.1.stp0 ω
      refine own_ok 71 (tg i) ω ((hc.rd.el _ (List.getElem_mem hiq)).keep k4.1) (hc.l16 _ (List.getElem_mem hiq)) fun r s ω5 w5 k5 o5 p5 => ?_
      have h5 := hI _ _ _ _ _ (hI _ _ _ _ _ h s4) k5
      refine hy i (i + 1) _ ω5 w5 _ ⟨rfl, q[i], r, s, hqi, rfl, o5, p5⟩ h5 (fun ω' w' st h' => ?_) (fun ω' w' st h' => ?_)
      · refine isB_at (cond_f rfl ?_)
        have hn := (hC i ω w h).2.n
        rw [wI64 (by omega) (by omega), show (i : Int) + 1 = ((i + 1 : Nat) : Int) by omega]
        exact ih (i + 1) ω' w' (by omega) h'
      · exact isB_at (cond_t rfl (hQ _ _ h'))
  exact key q.length 0 ω w (by omega) h0
theorem all_tellsB {Fc : Clee} {n ga : Nat} {rs : Sl} {q : QS} {Ct : Nat → Bool} (hF : ∀ args K w, C.block_Block_All_1.cl args K w → Fc n args K w) :
    TellsG Tryz.prog Fc (.func (.func n) #[] #[.pointer (some ⟨ga, 0, none⟩)]) 0 (QQ q) (fun i => i = q.length) (fun _ w => w.cell? ⟨ga, 0, none⟩ = some (.pointer (some ⟨g, 0, none⟩)) ∧ AR w g rs q) Non Ct := all_tellsT (fun _ => 72) hF
theorem len_ok {rs : Sl} {q : QS} (h : AR w g rs q) {K : Int → World → Prop} (hK : K (q.length : Int) w) : C.block_Block_Len (some ⟨g, 0, none⟩) w K := by
  unfold C.block_Block_Len
  refine cond_f rfl (ptr_at (cSl_at (s := rs) (by rw [addr_add]; exact h.hd) ?_))
  rw [h.rd.n]; exact hK
theorem samples_ok {rs : Sl} {q : QS} (h : AR w g rs q) (hcnt : cntOf (q.map (·.1)) ≤ 1000000000000) {K : Int → World → Prop} (hK : ∀ w', Keep w w' → K (cntOf (q.map (·.1)) : Int) w') : C.block_Block_Samples (some ⟨g, 0, none⟩) w K := by
  unfold C.block_Block_Samples
  refine new_T (ω := fun _ => 0) 4 fun g2 ω2 w2 k2 b2 => st_T b2 (by simp) fun ω2 w2' k2' b2 => ?_
  unfold C.block_Block_Samples.S9 C.block_Block_All
  refine new_T (ω := ω2) 6 fun g3 ω3 w3 k3 b3 => ?_
  unfold C.block_Block_Samples.R5
  have top3 := (((Top.init w).stp k2).stp k2').stp k3
  have cnt_take : ∀ i, cntOf ((q.map (·.1)).take i) ≤ cntOf (q.map (·.1)) := fun i => by
    have : q.map (·.1) = (q.map (·.1)).take i ++ (q.map (·.1)).drop i := (List.take_append_drop _ _).symm
    have e : cntOf (q.map (·.1)) = cntOf ((q.map (·.1)).take i) + cntOf ((q.map (·.1)).drop i) := by
      conv => lhs; rw [this]
      unfold cntOf
      rw [List.map_append, List.sum_append]
    omega
  refine rangeGW_ok (T := Mem.One 4) (u := 3) (J := fun i ω w2 => Top w ω w2 ∧ BT ω w2 6 g3 23 [.pointer (some ⟨g, 0, none⟩)] ∧ BT ω w2 4 g2 3 [.int .i64 (cntOf ((q.map (·.1)).take i) : Int)])
    (E := fun e ω w => False) (all_tellsB (ga := g3) (g := g) (rs := rs) (q := q) fun _ _ _ h => h) rfl rfl ?_ ?_ ?_ ?_ ?_ ⟨top3, b3, b2.stp k3⟩ ?_ ?_
  · rintro i j a ω ω' w w' ⟨e, p, r, s, hp, ea, o1, o2⟩ k
    exact ⟨e, p, r, s, hp, ea, o1.stp k rfl, o2.stp k rfl⟩
  · rintro i ω w2 ⟨top, x3, _⟩
    exact ⟨by rw [x3.cell]; rfl, h.keep top.k⟩
  · rintro S hS i ω ω' w w' ⟨top, x1, x2⟩ k
    have z : S 0 = false ∧ S 6 = false ∧ S 4 = false := by rcases hS with rfl | rfl <;> exact ⟨rfl, rfl, rfl⟩
    exact ⟨top.stp k z.1, x1.stp k z.2.1, x2.stp k z.2.2⟩
  · rintro S hS e ω ω' w w' h k
    exact h
  · rintro i j args ω w4 bz Rr ⟨rfl, p, r, s, hp, rfl, o1, o2⟩ ⟨top, x1, x2⟩ hz
    unfold C.block_Block_Samples.B_R5 Sl.v
    dsimp only
    refine locS fun g5 w5 k5 hg5 b5 => ?_
    have s5 := k5.1.stp ω 5
    refine hz _ (ext ω w4.heap.size 5) w5 s5 fun w6 s6 hR hX => ?_
    have b5t : BT (ext ω w4.heap.size 5) w5 5 g5 57 [r.v, s.v] := ⟨b5, ext_new hg5⟩
    generalize ext ω w4.heap.size 5 = ω5 at *
    have b6 := b5t.stp s6
    have x26 := (x2.stp s5).stp s6
    unfold C.block_Block_Samples.S7
    have hil := (List.getElem?_eq_some_iff.1 hp).1
    have hLi : (q.map (·.1))[i]? = some p.1 := by rw [List.getElem?_map, hp]; rfl
    have et : (q.map (·.1)).take (i + 1) = (q.map (·.1)).take i ++ [p.1] := by rw [List.take_add_one, hLi]; rfl
    have hsn := smN o2.rd
    have h1 := cnt_take i
    have h2 := cnt_take (i + 1)
    rw [et, cnt_snoc] at h2
    refine ptr_at <| cI_at (n := (cntOf ((q.map (·.1)).take i) : Int)) (by rw [x26.cell]; rfl) <| ptr_at <| cSl_at (s := s) (by rw [addr_add, b6.cell]; rfl) <| ptr_at <| st_T x26 (by simp) fun ω7 w7 k7 b7 => ?_
    refine hR ω7 w7 k7 ⟨((top.stp s5).stp s6).stp k7, ((x1.stp s5).stp s6).stp k7, ?_⟩
    have e : IntKind.i64.wrap ((cntOf ((q.map (·.1)).take i) : Int) + ((s.n : Nat) : Int)) = (cntOf ((q.map (·.1)).take (i + 1)) : Int) := by
      rw [wI64 (by omega) (by omega), et, cnt_snoc]; omega
    rw [e] at b7
    exact b7
  · rintro ω' w' D hD hDu ⟨i, rfl, top, x1, x2⟩
    show C.block_Block_Samples.S2 K _ (pushMark undef D) w'
    unfold C.block_Block_Samples.S2
    have sp := put_stp (ω := ω') (w := w') (o := .deferred none) hDu
    refine ptr_at (cI_at (n := (cntOf (q.map (·.1)) : Int)) (by rw [x2.cell, List.take_of_length_le (by rw [List.length_map]; exact Nat.le_refl _)]; rfl) (marks_at hD (hK _ ((top.stp sp).k))))
  · rintro e ω' w' D _ _ h
    exact h.elim
theorem asked_ok {bs rs : Sl} {b : List UInt8} {q : QS} {F : Lb → List Nat} {es : List IE} {k : Int} (h : BK ω w t g gm bs rs b q F es k) {K : Int → World → Prop}
    (hK : ∀ ω' w', Stp (Mem.One t) ω ω' w w' → BK ω' w' t g gm bs rs b q F es (IntKind.i64.wrap (k + 1)) → K (IntKind.i64.wrap (k + 1)) w') : C.atomic_Int64_Add (some (Addr.add ⟨g, 0, none⟩ 3)) (1 : Int) w K := by
  unfold C.atomic_Int64_Add C.atomic_AddInt64
  refine ptr_at <| ptr_at <| cI_at (n := k) (by rw [addr_add, h.hd.cell]; rfl) <| st_TA h.hd (by simp) fun ω1 w1 k1 b1 => hK ω1 w1 k1 ?_
  have hn := h.n
  exact ⟨b1, h.by_.stp k1 (beq_no (by omega)), h.row.stp k1 (beq_no (by omega)), h.ix.stp k1 (beq_no (by omega)) (fun j hj => beq_no (by omega)), fun p hp => (h.el p hp).stp k1 (beq_no (by omega)), hn⟩
theorem postV_ok {bs rs : Sl} {b : List UInt8} {q : QS} {es : List IE} {k : Int} (h : BK ω w t g gm bs rs b q (post (q.map (·.1))) es k) (hq : q.length ≤ 1000000) {name value : ByteArray} (hv : value.toList ≠ (⟨#[]⟩ : ByteArray).toList) (hs : sml (name, value)) {K : Sl → World → Prop}
    (hK : ∀ r ω' w', Stp (Mem.One t) ω ω' w w' → BK ω' w' t g gm bs rs b q (post (q.map (·.1))) es (IntKind.i64.wrap (k + 1)) → OT ω' w' 63 3 1 r (ints (post (q.map (·.1)) (name, value))) → K r w') : C.block_Block_Postings (some ⟨g, 0, none⟩) name value w K := by
  unfold C.block_Block_Postings
  refine cond_f rfl <| ptr_at <| asked_ok h fun ω1 w1 k1 b1 => ?_
  refine cond_t (by simpa using hv) <| ptr_at <| cM_at (b := some gm) (by rw [addr_add, b1.hd.cell]; rfl) ?_
  have hpl := post_len (q.map (·.1)) (name, value)
  rw [List.length_map] at hpl
  have fin : ∀ l, Rd w1 l 1 (ints (post (q.map (·.1)) (name, value))) → C.slices_Clone_int_int l w1 fun l52 w53 => K l52 w53 := fun l hl =>
    cloneN_ok hl (by omega) fun r w2 k2 o2 => hK r (ext ω1 w1.heap.size 63) w2 (k1.trans ((k2.stp ω1 63).non _)) (b1.stp (k2.stp ω1 63) (off_non t)) (Own.tag o2 (Nat.le_refl _) ω1 63)
  by_cases hm : (name, value) ∈ es.map (·.1)
  · obtain ⟨e, he, hex⟩ := List.mem_map.1 hm
    obtain ⟨j, hj, rfl⟩ := List.mem_iff_getElem.1 he
    have hje : es[j]? = some es[j] := List.getElem?_eq_getElem hj
    have hjm : (es.map encI)[j]? = some ((name, value), es[j].2.1.v) := by rw [List.getElem?_map, hje]; show some (encI es[j]) = _; unfold encI; rw [hex]
    obtain ⟨g1, _⟩ := getL_at b1.ix.mp.nodup hjm
    have o := b1.ix.own j _ hje
    have hl := b1.ix.eq _ he
    rw [hex] at hl
    rw [hl] at o
    exact rd1_L (a := es[j].2.1) b1.ix.mp mapX Tryz.zeroValue46 hs (by rw [g1]; rfl) (fin _ o.rd)
  · have h0 : post (q.map (·.1)) (name, value) = [] := Classical.byContradiction fun hne => hm (b1.ix.all _ hne)
    have hnk : ∀ y ∈ es.map encI, y.1 ≠ (name, value) := fun y hy e => hm (by
      have := List.mem_map_of_mem (f := (·.1)) hy
      rw [keysI, e] at this; exact this)
    obtain ⟨g1, _⟩ := getL_none hnk
    refine rd1_L (a := nilS) b1.ix.mp mapX Tryz.zeroValue46 hs (by rw [g1]; rfl) (fin _ ?_)
    rw [h0]; exact Rd.nil _ _
end Go.Proofs.YtmfgmcajelmgbaaGreatDoor.Bk

namespace Go.Proofs.YtmfgmcajelmgbaaGreatDoor.Srt
open Go Vm Go.RowKit Num Mem Go.Sort Go.Proofs
variable {ω ω' : Tg} {w w' : World} {t : Nat} {e : TypeId} {s : Sl}
theorem sort_T {ss : List (List UInt8)} (h : OT ω w t e 1 s (ss.map encStr)) (hb : s.n < 4611686018427387904) {K : World → Prop} (hK : ∀ ω' w', Stp (One t) ω ω' w w' → OT ω' w' t e 1 s ((ss.mergeSort leS).map encStr) → K w') : sortS s w K := by
  have hlen := h.own.len
  rw [List.length_map] at hlen
  rcases h.cases with ⟨rfl, hx⟩ | ⟨g, cur, ha, hb', hn, hm, hl, ht⟩
  · have hs : ss = [] := by simpa using hx
    subst hs
    exact .inl ⟨rfl, hK ω w (Stp.refl _ _ _) (by simpa using h)⟩
  · have hbk : s.v.ownBlock = some g := by show (Value.slice s.a s.n s.c).ownBlock = _; rw [ha]; rfl
    refine .inr ⟨g, 0, ss, ha, by omega, holds_of_block hb'.blk (by rw [show ss.length = s.n * 1 by omega]; simpa using ht), hb'.blk.lt, hb, fun n os => ?_⟩
    have hg := grownBy_sorted (w := w) (g := g) (n := n) (os := os) (ss.mergeSort leS).toArray
    have st : Stp (One t) ω (ext ω w.heap.size t) w (grow (putRow encStr (Sort.ahead w n) g 0 (ss.mergeSort leS).toArray) os) := Chg.stp (grown_chg hg) fun k hk => by injection hk with hk; subst hk; exact hb'.tag
    refine hK _ _ st ⟨?_, fun k hk => ?_⟩
    · have hs : s = ⟨some ⟨g, 0, none⟩, s.n, s.c⟩ := by rw [← ha]
      have := ownsRow_sorted (w := w) (base := 0) (n := n) (os := os) (e := e) (cap := s.c) (ss := ss) (ts := ss.mergeSort leS) (by simp) (Nat.zero_le _) hb'.blk (by omega) hm (by simp; omega)
      rw [show ss.length = s.n by omega] at this
      rw [hs]; exact this
    · rw [hbk] at hk
      injection hk with hk
      subst hk
      rw [ext_old hb'.blk.lt]; exact hb'.tag
theorem encStr_ba (b : ByteArray) : encStr b.data.toList = Value.string b := by simp [encStr]
theorem le_of_less : ∀ {a b : List UInt8}, Op.bytesLess a b = true → a ≤ b
  | _, [], h => by simp [Op.bytesLess] at h
  | [], _ :: _, _ => List.nil_le _
  | x :: a, y :: b, h => by
    simp only [Op.bytesLess, Bool.or_eq_true, decide_eq_true_eq, Bool.and_eq_true, beq_iff_eq] at h
    rw [List.cons_le_cons_iff]
    rcases h with h | ⟨h1, h2⟩
    · exact .inl h
    · exact .inr ⟨h1, le_of_less h2⟩
end Go.Proofs.YtmfgmcajelmgbaaGreatDoor.Srt

namespace Go.Proofs.YtmfgmcajelmgbaaGreatDoor.Bk
open Go Vm Go.RowKit Num Mem Utf Lib Lab Vint Bits
theorem less_self : ∀ l : List UInt8, Op.bytesLess l l = false
  | [] => rfl
  | a :: l => by simp [Op.bytesLess, less_self l]
theorem less_trans : ∀ {a b c : List UInt8}, Op.bytesLess a b = true → Op.bytesLess b c = true → Op.bytesLess a c = true
  | _, [], _, h, _ => by simp [Op.bytesLess] at h
  | _, _ :: _, [], _, h => by simp [Op.bytesLess] at h
  | [], _ :: _, _ :: _, _, _ => rfl
  | x :: a, y :: b, z :: c, h1, h2 => by
    simp only [Op.bytesLess, Bool.or_eq_true, decide_eq_true_eq, Bool.and_eq_true, beq_iff_eq] at *
    rcases h1 with h1 | ⟨rfl, h1⟩
    · rcases h2 with h2 | ⟨rfl, h2⟩
      · exact .inl (UInt8.lt_trans h1 h2)
      · exact .inl h1
    · rcases h2 with h2 | ⟨rfl, h2⟩
      · exact .inl h2
      · exact .inr ⟨rfl, less_trans h1 h2⟩
theorem less_tri : ∀ {a b : List UInt8}, Op.bytesLess a b = false → a ≠ b → Op.bytesLess b a = true
  | [], [], _, h => absurd rfl h
  | [], _ :: _, h, _ => by simp [Op.bytesLess] at h
  | _ :: _, [], _, _ => rfl
  | x :: a, y :: b, h, hne => by
    simp only [Op.bytesLess, Bool.or_eq_false_iff, decide_eq_false_iff_not, Bool.and_eq_false_iff, Bool.or_eq_true, decide_eq_true_eq, Bool.and_eq_true, beq_iff_eq] at *
    rcases Decidable.em (x = y) with e | e
    · subst e
      rcases h.2 with h2 | h2
      · simp at h2
      · exact .inr ⟨rfl, less_tri h2 (fun e => hne (by rw [e]))⟩
    · rcases UInt8.lt_or_lt_of_ne e with h3 | h3
      · exact absurd h3 h.1
      · exact .inl h3
theorem ba_inj {a b : ByteArray} (h : a.toList = b.toList) : a = b := by
  rw [ByteArray.toList_eq, ByteArray.toList_eq] at h
  cases a; cases b
  simpa using h
def Lt (a b : ByteArray) : Prop := Op.bytesLess a.toList b.toList = true
instance (a b : ByteArray) : Decidable (Lt a b) := inferInstanceAs (Decidable (_ = _))
theorem lt_irr (a : ByteArray) : ¬ Lt a a := by unfold Lt; rw [less_self]; decide
theorem lt_tr {a b c : ByteArray} (h : Lt a b) (h' : Lt b c) : Lt a c := less_trans h h'
theorem lt_tri {a b : ByteArray} (h : ¬ Lt a b) (ne : a ≠ b) : Lt b a := less_tri (by unfold Lt at h; simpa using h) fun e => ne (ba_inj e)
abbrev Ups (l : List ByteArray) : Prop := l.Pairwise Lt
abbrev Upw (l : List ByteArray) : Prop := l.Pairwise fun a b => ¬ Lt b a
theorem ups_uniq : ∀ {a b : List ByteArray}, Ups a → Ups b → (∀ x, x ∈ a ↔ x ∈ b) → a = b
  | [], [], _, _, _ => rfl
  | [], y :: b, _, _, h => absurd ((h y).2 (List.mem_cons_self ..)) (by simp)
  | x :: a, [], _, _, h => absurd ((h x).1 (List.mem_cons_self ..)) (by simp)
  | x :: a, y :: b, ha, hb, h => by
    rw [Ups, List.pairwise_cons] at ha hb
    have e : x = y := by
      rcases List.mem_cons.1 ((h x).1 (List.mem_cons_self ..)) with e | h1
      · exact e
      · rcases List.mem_cons.1 ((h y).2 (List.mem_cons_self ..)) with e | h2
        · exact e.symm
        · exact absurd (lt_tr (ha.1 y h2) (hb.1 x h1)) (lt_irr x)
    subst e
    rw [ups_uniq ha.2 hb.2 fun z => ⟨fun hz => ?_, fun hz => ?_⟩]
    · rcases List.mem_cons.1 ((h z).1 (List.mem_cons_of_mem _ hz)) with rfl | h1
      · exact absurd (ha.1 z hz) (lt_irr z)
      · exact h1
    · rcases List.mem_cons.1 ((h z).2 (List.mem_cons_of_mem _ hz)) with rfl | h1
      · exact absurd (hb.1 z hz) (lt_irr z)
      · exact h1
def insW (x : ByteArray) : List ByteArray → List ByteArray
  | [] => [x]
  | y :: r => if Lt y x then y :: insW x r else x :: y :: r
def srtW : List ByteArray → List ByteArray
  | [] => []
  | x :: r => insW x (srtW r)
theorem insW_perm (x : ByteArray) : ∀ l, (insW x l).Perm (x :: l)
  | [] => List.Perm.refl _
  | y :: r => by
    unfold insW
    split
    · exact ((insW_perm x r).cons y).trans (List.Perm.swap x y r)
    · exact List.Perm.refl _
theorem srtW_perm : ∀ l, (srtW l).Perm l
  | [] => List.Perm.refl _
  | x :: r => (insW_perm x (srtW r)).trans ((srtW_perm r).cons x)
theorem insW_up {x : ByteArray} : ∀ {l : List ByteArray}, Upw l → Upw (insW x l)
  | [], _ => List.pairwise_singleton _ _
  | y :: r, h => by
    have h' := List.pairwise_cons.1 h
    unfold insW
    split
    · rename_i hy
      refine List.pairwise_cons.2 ⟨fun z hz hzy => ?_, insW_up h'.2⟩
      rcases List.mem_cons.1 ((insW_perm x r).mem_iff.1 hz) with rfl | hz
      · exact lt_irr _ (lt_tr hy hzy)
      · exact h'.1 z hz hzy
    · rename_i hy
      refine List.pairwise_cons.2 ⟨fun z hz hzx => ?_, h⟩
      rcases List.mem_cons.1 hz with rfl | hz2
      · exact hy hzx
      · by_cases e : x = y
        · rw [e] at hzx; exact h'.1 z hz2 hzx
        · exact h'.1 z hz2 (lt_tr hzx (lt_tri hy (fun e' => e e'.symm)))
theorem srtW_up : ∀ l, Upw (srtW l)
  | [] => List.Pairwise.nil
  | x :: r => insW_up (srtW_up r)
theorem list_irr (l : List UInt8) : l ≤ l := by
  show ¬ l < l
  exact fun h => by
    induction l with
    | nil => cases h
    | cons a l ih =>
      rcases List.cons_lt_cons_iff.1 h with h | ⟨_, h⟩
      · exact UInt8.lt_irrefl _ h
      · exact ih h
theorem msort_W (l : List ByteArray) : (l.map fun b => b.data.toList).mergeSort Srt.leS = (srtW l).map fun b => b.data.toList := by
  have h1 : (l.map fun b => b.data.toList).mergeSort Srt.leS = ((srtW l).map fun b => b.data.toList).mergeSort Srt.leS := Go.mergeSort_of_perm ((srtW_perm l).symm.map _)
  rw [h1]
  refine List.mergeSort_of_pairwise ?_
  rw [List.pairwise_map]
  refine (srtW_up l).imp fun {a b} h => ?_
  unfold Srt.leS
  refine decide_eq_true ?_
  unfold Lt at h
  rw [ByteArray.toList_eq, ByteArray.toList_eq] at h
  by_cases e : b.data.toList = a.data.toList
  · rw [e]; exact list_irr _
  · exact Srt.le_of_less (less_tri (by simpa using h) e)
def ddGo : ByteArray → List ByteArray → List ByteArray
  | _, [] => []
  | p, a :: r => if a = p then ddGo p r else a :: ddGo a r
def dd : List ByteArray → List ByteArray
  | [] => []
  | a :: r => a :: ddGo a r
theorem ddGo_spec : ∀ (l : List ByteArray) (p : ByteArray), (∀ x ∈ l, ¬ Lt x p) → Upw l → (∀ x ∈ ddGo p l, Lt p x) ∧ Ups (ddGo p l) ∧ ∀ x, x ∈ ddGo p l ↔ x ∈ l ∧ x ≠ p
  | [], p, _, _ => ⟨by simp [ddGo], List.Pairwise.nil, by simp [ddGo]⟩
  | a :: r, p, h, u => by
    have u' := List.pairwise_cons.1 u
    unfold ddGo
    split
    · rename_i e
      subst e
      obtain ⟨h1, h2, h3⟩ := ddGo_spec r a (fun x hx => u'.1 x hx) u'.2
      refine ⟨h1, h2, fun x => ⟨fun hx => ⟨List.mem_cons_of_mem _ ((h3 x).1 hx).1, ((h3 x).1 hx).2⟩, fun ⟨hx, ne⟩ => (h3 x).2 ⟨?_, ne⟩⟩⟩
      rcases List.mem_cons.1 hx with e | hx
      · exact absurd e ne
      · exact hx
    · rename_i e
      obtain ⟨h1, h2, h3⟩ := ddGo_spec r a (fun x hx => u'.1 x hx) u'.2
      have hp : Lt p a := lt_tri (h a (List.mem_cons_self ..)) e
      refine ⟨fun x hx => ?_, List.pairwise_cons.2 ⟨h1, h2⟩, fun x => ⟨fun hx => ?_, fun ⟨hx, ne⟩ => ?_⟩⟩
      · rcases List.mem_cons.1 hx with rfl | hx
        · exact hp
        · exact lt_tr hp (h1 x hx)
      · rcases List.mem_cons.1 hx with rfl | hx
        · exact ⟨List.mem_cons_self .., e⟩
        · exact ⟨List.mem_cons_of_mem _ ((h3 x).1 hx).1, fun e' => by subst e'; exact lt_irr _ (lt_tr hp (h1 x hx))⟩
      · rcases List.mem_cons.1 hx with rfl | hx
        · exact List.mem_cons_self ..
        · by_cases ea : x = a
          · subst ea; exact List.mem_cons_self ..
          · exact List.mem_cons_of_mem _ ((h3 x).2 ⟨hx, ea⟩)
theorem dd_spec {l : List ByteArray} (u : Upw l) : Ups (dd l) ∧ ∀ x, x ∈ dd l ↔ x ∈ l := by
  cases l with
  | nil => exact ⟨List.Pairwise.nil, fun x => Iff.rfl⟩
  | cons a r =>
    have u' := List.pairwise_cons.1 u
    obtain ⟨h1, h2, h3⟩ := ddGo_spec r a (fun x hx => u'.1 x hx) u'.2
    refine ⟨List.pairwise_cons.2 ⟨h1, h2⟩, fun x => ⟨fun hx => ?_, fun hx => ?_⟩⟩
    · rcases List.mem_cons.1 hx with rfl | hx
      · exact List.mem_cons_self ..
      · exact List.mem_cons_of_mem _ ((h3 x).1 hx).1
    · by_cases e : x = a
      · subst e; exact List.mem_cons_self ..
      · rcases List.mem_cons.1 hx with e' | hx
        · exact absurd e' e
        · exact List.mem_cons_of_mem _ ((h3 x).2 ⟨hx, e⟩)
def uniq (l : List ByteArray) : List ByteArray := dd (srtW l)
theorem uniq_ups (l : List ByteArray) : Ups (uniq l) := (dd_spec (srtW_up l)).1
theorem mem_uniq {l : List ByteArray} {x : ByteArray} : x ∈ uniq l ↔ x ∈ l := ((dd_spec (srtW_up l)).2 x).trans (srtW_perm l).mem_iff
def memT (x : ByteArray) (l : List ByteArray) : Bool := l.any fun y => decide (y = x)
theorem memT_iff {x : ByteArray} {l : List ByteArray} : memT x l = true ↔ x ∈ l := by unfold memT; rw [List.any_eq_true]; simp
def insB (x : ByteArray) (l : List ByteArray) : List ByteArray := if memT x l = true then l else insW x l
theorem insW_ups {x : ByteArray} : ∀ {l : List ByteArray}, Ups l → x ∉ l → Ups (insW x l)
  | [], _, _ => List.pairwise_singleton _ _
  | y :: r, h, hx => by
    have h' := List.pairwise_cons.1 h
    unfold insW
    split
    · rename_i hy
      refine List.pairwise_cons.2 ⟨fun z hz => ?_, insW_ups h'.2 fun hm => hx (List.mem_cons_of_mem _ hm)⟩
      rcases List.mem_cons.1 ((insW_perm x r).mem_iff.1 hz) with rfl | hz
      · exact hy
      · exact h'.1 z hz
    · rename_i hy
      have hxy : Lt x y := lt_tri hy fun e => hx (by rw [e]; exact List.mem_cons_self ..)
      refine List.pairwise_cons.2 ⟨fun z hz => ?_, h⟩
      rcases List.mem_cons.1 hz with rfl | hz
      · exact hxy
      · exact lt_tr hxy (h'.1 z hz)
theorem insB_ups {x : ByteArray} {l : List ByteArray} (h : Ups l) : Ups (insB x l) := by
  unfold insB; split
  · exact h
  · rename_i hx; exact insW_ups h fun hm => hx (memT_iff.2 hm)
theorem mem_insB {x y : ByteArray} {l : List ByteArray} : y ∈ insB x l ↔ y = x ∨ y ∈ l := by
  unfold insB; split
  · rename_i hx; exact ⟨.inr, fun h => by rcases h with rfl | h; exact memT_iff.1 hx; exact h⟩
  · rw [(insW_perm x l).mem_iff, List.mem_cons]
def setT (l : List ByteArray) : List ByteArray := l.foldl (fun a x => insB x a) []
theorem setT_spec (l : List ByteArray) : Ups (setT l) ∧ ∀ x, x ∈ setT l ↔ x ∈ l := by
  have key : ∀ (l a : List ByteArray), Ups a → Ups (l.foldl (fun a x => insB x a) a) ∧ ∀ x, x ∈ l.foldl (fun a x => insB x a) a ↔ x ∈ a ∨ x ∈ l := by
    intro l
    induction l with
    | nil => intro a h; exact ⟨h, fun x => by simp⟩
    | cons y r ih =>
      intro a h
      obtain ⟨h1, h2⟩ := ih (insB y a) (insB_ups h)
      refine ⟨h1, fun x => ?_⟩
      rw [List.foldl_cons, h2 x, mem_insB, List.mem_cons]
      constructor
      · rintro ((h | h) | h)
        · exact .inr (.inl h)
        · exact .inl h
        · exact .inr (.inr h)
      · rintro (h | h | h)
        · exact .inl (.inr h)
        · exact .inl (.inl h)
        · exact .inr h
  obtain ⟨h1, h2⟩ := key l [] List.Pairwise.nil
  exact ⟨h1, fun x => by rw [setT, h2 x]; simp⟩
theorem uniq_set {a b : List ByteArray} (h : ∀ x, x ∈ a ↔ x ∈ b) : uniq a = setT b :=
  ups_uniq (uniq_ups a) (setT_spec b).1 fun x => by rw [mem_uniq, (setT_spec b).2 x]; exact h x
def getF (n : ByteArray) : List Lb → ByteArray
  | [] => ⟨#[]⟩
  | p :: r => if p.1 = n then p.2 else getF n r
theorem rt_vals {l : List Lb} (h : (rt l).1 = 0) : ∀ x ∈ l, x.2 ≠ (⟨#[]⟩ : ByteArray) := by
  have key : ∀ (r : List Lb) (p : Option ByteArray) (i : Nat), (rtGo p r i).1 = 0 → ∀ x ∈ r, valE (Utf.bytes x.2) = 0 := by
    intro r
    induction r with
    | nil => intro p i _ x hx; cases hx
    | cons y r ih =>
      intro p i h x hx
      rw [rtGo] at h
      split at h
      · exact absurd (show (40 : Int) = 0 from h) (by decide)
      · rename_i h1
        split at h
        · rename_i h2; exact absurd h h2
        · rename_i h2
          split at h
          · exact absurd (show (3 : Int) = 0 from h) (by decide)
          · rcases List.mem_cons.1 hx with rfl | hx
            · simpa using h2
            · exact ih _ _ h x hx
  intro x hx e
  have h2 := h
  unfold rt at h2
  split at h2
  · exact absurd (show (8 : Int) = 0 from h2) (by decide)
  · have := key l none 0 h2 x hx
    rw [e] at this
    exact absurd this (by decide)
theorem get_mem {n v : ByteArray} (hv : v ≠ (⟨#[]⟩ : ByteArray)) : ∀ {l : List Lb}, (l.map (·.1)).Nodup → ((n, v) ∈ l ↔ getF n l = v)
  | [], _ => ⟨fun h => (by cases h), fun h => absurd h.symm hv⟩
  | p :: r, h => by
    rw [List.map_cons, List.nodup_cons] at h
    unfold getF
    by_cases e : p.1 = n
    · rw [if_pos e]
      constructor
      · intro hm
        rcases List.mem_cons.1 hm with e' | hm
        · rw [← e']
        · exact absurd (by rw [e]; exact List.mem_map_of_mem (f := (·.1)) hm) h.1
      · intro e'
        rw [← e, ← e']; exact List.mem_cons_self ..
    · rw [if_neg e, ← get_mem hv h.2]
      constructor
      · intro hm
        rcases List.mem_cons.1 hm with e' | hm
        · exact absurd (by rw [← e']) e
        · exact hm
      · exact List.mem_cons_of_mem _
theorem has_get {n v : ByteArray} (hv : v ≠ (⟨#[]⟩ : ByteArray)) {l : List Lb} (h : (rt l).1 = 0) : hasL l (n, v) = decide (getF n l = v) := by
  have := get_mem hv (n := n) (rt_names h)
  rw [← hasL_iff] at this
  by_cases e : getF n l = v
  · rw [decide_eq_true e]; exact this.2 e
  · rw [decide_eq_false e]
    cases hh : hasL l (n, v) with
    | true => exact absurd (this.1 hh) e
    | false => rfl
def postF (n v : ByteArray) : List Ser → Nat → List Nat
  | [], _ => []
  | s :: r, i => (if getF n s.1 = v then [i] else []) ++ postF n v r (i + 1)
theorem postF_snoc (n v : ByteArray) (s : Ser) : ∀ (l : List Ser) (i : Nat), postF n v (l ++ [s]) i = postF n v l i ++ (if getF n s.1 = v then [i + l.length] else [])
  | [], i => by simp [postF]
  | y :: l, i => by
    rw [List.cons_append, postF, postF, postF_snoc n v s l (i + 1), List.append_assoc, List.length_cons, show i + 1 + l.length = i + (l.length + 1) by omega]
theorem post_F {n v : ByteArray} (hv : v ≠ (⟨#[]⟩ : ByteArray)) : ∀ (l : List Ser) (i : Nat), (∀ x ∈ l, (rt x.1).1 = 0) → postGo (n, v) l i = postF n v l i
  | [], _, _ => rfl
  | s :: r, i, h => by
    rw [postGo, postF, post_F hv r (i + 1) fun x hx => h x (List.mem_cons_of_mem _ hx), has_get hv (h s (List.mem_cons_self ..))]
    by_cases e : getF n s.1 = v
    · rw [if_pos e, if_pos (decide_eq_true e)]; try rfl
    · rw [if_neg e, if_neg (by rw [decide_eq_false e]; decide)]; try rfl
theorem postF_len (n v : ByteArray) : ∀ (l : List Ser) (i : Nat), (postF n v l i).length ≤ l.length
  | [], _ => Nat.le_refl _
  | s :: r, i => by
    rw [postF, List.length_append, List.length_cons]
    have := postF_len n v r (i + 1)
    split <;> simp <;> omega
end Go.Proofs.YtmfgmcajelmgbaaGreatDoor.Bk

namespace Go.Proofs.YtmfgmcajelmgbaaGreatDoor.Bk
open Go Vm Go.RowKit Num Mem Utf Lib Lab Vint Bits Rep
variable {ω ω' : Tg} {w w' w0 : World} {T : Nat → Bool} {t u g gm : Nat}
theorem tiSt : TI Tryz.prog 42 9 1 16 := TI.of (z := .string ⟨#[]⟩) (by kernel_rfl) (by kernel_rfl) rfl (by decide)
def strs (l : List ByteArray) : List Value := l.map Value.string
theorem strs_app (a b : List ByteArray) : strs (a ++ b) = strs a ++ strs b := List.map_append
theorem strs_len (a : List ByteArray) : (strs a).length = a.length := List.length_map _
theorem strs_at (l : List ByteArray) (i : Nat) (h : i < l.length) : (strs l)[i]? = some (.string l[i]) := by unfold strs; rw [List.getElem?_map, List.getElem?_eq_getElem h]; rfl
theorem strs_enc (l : List ByteArray) : strs l = (l.map fun b => b.data.toList).map Go.Proofs.encStr := by
  unfold strs
  rw [List.map_map]
  exact List.map_congr_left fun b _ => (Srt.encStr_ba b).symm
theorem ddGo_snoc : ∀ (l : List ByteArray) (p x : ByteArray), ddGo p (l ++ [x]) = if x = (l.getLast?).getD p then ddGo p l else ddGo p l ++ [x]
  | [], p, x => by
    show (if x = p then ddGo p [] else x :: ddGo x []) = _
    split
    · rename_i h; rw [if_pos (by simpa using h)]
    · rename_i h; rw [if_neg (by simpa using h)]; rfl
  | a :: l, p, x => by
    have e : ∀ q : ByteArray, ((a :: l).getLast?).getD q = (l.getLast?).getD a := fun q => by
      cases l with
      | nil => rfl
      | cons b r => rw [List.getLast?_cons_cons, List.getLast?_eq_some_getLast (by simp)]; rfl
    rw [List.cons_append, ddGo, ddGo, e]
    by_cases h : a = p
    · subst h
      rw [if_pos rfl, if_pos rfl, ddGo_snoc l a x]
    · rw [if_neg h, if_neg h, ddGo_snoc l a x]
      split
      · rfl
      · rfl
theorem dd_snoc {l : List ByteArray} {k : Nat} (hk : k + 1 < l.length) : dd (l.take (k + 2)) = if l[k + 1] = l[k] then dd (l.take (k + 1)) else dd (l.take (k + 1)) ++ [l[k + 1]] := by
  have et : l.take (k + 2) = l.take (k + 1) ++ [l[k + 1]] := List.take_succ_eq_append_getElem hk
  have el : ∀ q : ByteArray, ((l.take (k + 1)).getLast?).getD q = l[k] := fun q => by
    rw [List.getLast?_eq_getElem?, List.length_take, Nat.min_eq_left (by omega), List.getElem?_take, if_pos (by omega), show k + 1 - 1 = k by omega, List.getElem?_eq_getElem (by omega)]; rfl
  cases hl : l.take (k + 1) with
  | nil => have := congrArg List.length hl; rw [List.length_take, Nat.min_eq_left (by omega)] at this; simp at this
  | cons a r =>
    rw [et, hl]
    show a :: ddGo a (r ++ [l[k + 1]]) = if l[k + 1] = l[k] then a :: ddGo a r else a :: ddGo a r ++ [l[k + 1]]
    have e2 : (r.getLast?).getD a = l[k] := by
      have := el a
      rw [hl] at this
      cases r with
      | nil => simpa using this
      | cons b r => simpa [List.getLast?_cons_cons] using this
    rw [ddGo_snoc, e2]
    split <;> rfl
theorem sub_at {e : TypeId} {s : Sl} {xs : List Value} (h : OT ω w t e 1 s xs) {k i : Nat} (hi : k + i < s.n) {v : Value} (hv : xs[k + i]? = some v) {K : Addr → Prop} (hK : ∀ a, w.cell? a = some v → K a) :
    G.ix (if s.c = ((k : Nat) : Int).toNat then s.a else s.a.map (·.add (((k : Nat) : Int).toNat * 1))) (((s.n : Nat) : Int).toNat - ((k : Nat) : Int).toNat) (i : Int) 1 K := by
  rcases h.cases with ⟨rfl, rfl⟩ | ⟨g, cur, ha, hb, hn, hm, hl, ht⟩
  · exact absurd hi (by simp)
  · rw [Int.toNat_natCast, Int.toNat_natCast, if_neg (by omega), ha]
    simp only [Option.map_some]
    refine ⟨⟨by omega, by omega⟩, hK _ ?_⟩
    rw [addr_add, addr_add, Int.toNat_natCast, Nat.zero_add, Nat.mul_one, Nat.mul_one, hb.cell]
    rw [← ht, List.getElem?_take] at hv
    split at hv
    · exact hv
    · cases hv
theorem set_cells_T {e : TypeId} : ∀ (vs : List Value) (o : Nat) (ω : Tg) (w : World) (cs : List Value), BT ω w t g e cs → o + vs.length ≤ cs.length → ∃ ω' cs', Stp (Mem.One t) ω ω' w (w.setCells g o vs) ∧ BT ω' (w.setCells g o vs) t g e cs' ∧ cs'.length = cs.length ∧ cs'.take o = cs.take o
  | [], o, ω, w, cs, b, _ => ⟨ω, cs, Stp.refl _ _ _, b, rfl, rfl⟩
  | v :: vs, o, ω, w, cs, b, h => by
    rw [List.length_cons] at h
    have s1 : Stp (Mem.One t) ω (ext ω w.heap.size t) w (w.setCell ⟨g, o, none⟩ v) := Chg.stp (setCell_chg w g o v) fun k hk => by rw [hk]; exact b.tag
    have b1 : BT (ext ω w.heap.size t) (w.setCell ⟨g, o, none⟩ v) t g e (cs.set o v) := ⟨b.blk.set o v, by rw [ext_old b.blk.lt]; exact b.tag⟩
    obtain ⟨ω', cs', k, b', l', e'⟩ := set_cells_T vs (o + 1) _ _ _ b1 (by rw [List.length_set]; omega)
    refine ⟨ω', cs', s1.trans k, b', by rw [l', List.length_set], ?_⟩
    have := congrArg (List.take o) e'
    rw [List.take_take, List.take_take, Nat.min_eq_left (by omega), List.take_set] at this
    rw [this, List.set_eq_of_length_le (by rw [List.length_take]; omega)]
theorem clr_T {s : Sl} {A : List ByteArray} {k : Nat} (h : OT ω w t 9 1 s (strs A)) (hk : k < s.n) {Z : World → Prop} (hZ : ∀ ω' w', Stp (Mem.One t) ω ω' w w' → OT ω' w' t 9 1 ⟨s.a, k, s.c⟩ (strs (A.take k)) → Z w') :
    G.run Tryz.prog (Builtin.clear_ #[42] 0 #[(Sl.v ⟨if s.c = ((k : Nat) : Int).toNat then s.a else s.a.map (·.add (((k : Nat) : Int).toNat * 1)), ((s.n : Nat) : Int).toNat - ((k : Nat) : Int).toNat, s.c - ((k : Nat) : Int).toNat⟩)]) w fun _ w' => Z w' := by
  rcases h.cases with ⟨rfl, hx⟩ | ⟨g, cur, ha, hb, hn, hm, hl, ht⟩
  · exact absurd hk (by simp)
  · have hl' : cur.length = s.c := by omega
    have ev : Sl.v ⟨if s.c = ((k : Nat) : Int).toNat then s.a else s.a.map (·.add (((k : Nat) : Int).toNat * 1)), ((s.n : Nat) : Int).toNat - ((k : Nat) : Int).toNat, s.c - ((k : Nat) : Int).toNat⟩ = .slice (some ⟨g, k, none⟩) (s.n - k) (s.c - k) := by
      rw [Int.toNat_natCast, Int.toNat_natCast, if_neg (by omega), ha]
      simp [Sl.v, addr_add]
    rw [ev]
    have hz : Value.cells (.string ⟨#[]⟩) = #[.string ⟨#[]⟩] := rfl
    have hr := Lib.run_clear_slice (P := Tryz.prog) w 42 9 0 (.string ⟨#[]⟩) (by kernel_rfl) (fun w => Tryz.zeroValue9 w) hz rfl g k (s.n - k) (s.c - k) (by omega) (fun j hj => by rw [hb.cell, List.getElem?_eq_getElem (by omega)]; rfl) (fun j hj => hb.blk.frozen _)
    refine ⟨_, _, hr, ?_⟩
    · obtain ⟨ω', cs', k1, b', l', e'⟩ := set_cells_T (g := g) (t := t) (List.replicate (s.n - k) (.string ⟨#[]⟩)) k ω w cur hb (by rw [List.length_replicate]; omega)
      have e2 : cs'.take (k * 1) = strs (A.take k) := by
        have := congrArg (List.take k) ht
        rw [List.take_take, Nat.mul_one, Nat.min_eq_left (by omega)] at this
        rw [Nat.mul_one, e', this]; unfold strs; rw [List.map_take]
      refine hZ ω' _ k1 ⟨?_, fun k' hk' => ?_⟩
      · rw [ha]; exact Own.mk' (Nat.zero_le _) b'.blk (by omega) hm (by rw [l']; exact hl) e2
      · rw [ha] at hk'
        have hg : g = k' := Option.some.inj hk'
        rw [← hg]; exact b'.tag
theorem ba_ne {a b : ByteArray} : (a.toList == b.toList) = decide (a = b) := by
  rw [ByteArray.toList_eq, ByteArray.toList_eq]
  by_cases h : a = b
  · rw [decide_eq_true h, h]; simp
  · rw [decide_eq_false h]
    simp only [beq_eq_false_iff_ne, ne_eq]
    intro e
    apply h
    cases a; cases b
    simp at e
    rw [e]
theorem compact_ok {s : Sl} {ts : List ByteArray} (h : OT ω w t 9 1 s (strs ts)) (hl : ts.length ≤ 100000000) {K : Sl → World → Prop} (hK : ∀ r ω' w', Stp (Mem.One t) ω ω' w w' → OT ω' w' t 9 1 r (strs (dd ts)) → K r w') : C.slices_Compact_string_string s w K := by
  have hsn : s.n = ts.length := by have := h.own.len; rw [strs_len] at this; omega
  unfold C.slices_Compact_string_string
  refine cond_d (fun h2 => ?_) (fun h2 => ?_)
  · have e : dd ts = ts := by
      match ts, hsn with
      | [], _ => rfl
      | [a], _ => rfl
      | a :: b :: r, hsn => simp only [List.length_cons] at hsn; omega
    exact hK s ω w (Stp.refl _ _ _) (by rw [e]; exact h)
  unfold C.slices_Compact_string_string.S27
  refine C.slices_Compact_string_string.L5_ind fun X hX => ?_
  -- from the first that stands twice on
  have rest : ∀ (k0 : Nat) (ω1 : Tg) (w1 : World), Stp (Mem.One t) ω ω1 w w1 → OT ω1 w1 t 9 1 s (strs ts) → 0 < k0 → k0 < ts.length → dd (ts.take k0) = ts.take k0 → ts[k0]? = ts[k0 - 1]? → C.slices_Compact_string_string.S19 K X s (k0 : Int) true w1 := by
    intro k0 ω1 w1 k1 o1 h0 hk0 hd he
    unfold C.slices_Compact_string_string.S19 C.slices_Compact_string_string.S17
    have hsc : s.n ≤ s.c := o1.rd.1
    refine ⟨⟨by omega, by omega, by omega⟩, ?_⟩
    refine C.slices_Compact_string_string.L13_ind fun Y hY => ?_
    have key : ∀ (d k k2 : Nat) (A : List ByteArray) (ω2 : Tg) (w2 : World), k0 + k2 + d = ts.length → 0 < k2 → k ≤ k0 + k2 - 1 → Stp (Mem.One t) ω ω2 w w2 → OT ω2 w2 t 9 1 s (strs A) → A.length = ts.length → A.take k = dd (ts.take (k0 + k2)) → (∀ j, k0 + k2 - 1 ≤ j → A[j]? = ts[j]?) →
        Y s (k : Int) ⟨if s.c = ((k0 : Nat) : Int).toNat then s.a else s.a.map (·.add (((k0 : Nat) : Int).toNat * 1)), ((s.n : Nat) : Int).toNat - ((k0 : Nat) : Int).toNat, s.c - ((k0 : Nat) : Int).toNat⟩ (k2 : Int) w2 := by
      intro d
      induction d with
      | zero =>
        intro k k2 A ω2 w2 hd2 h2 hk k12 o2 hA ht hj
        refine hY _ _ _ _ _ ?_
        unfold C.slices_Compact_string_string.S15 C.slices_Compact_string_string.S10
        refine cond_d (fun h => by simp only [Int.toNat_natCast] at h; omega) (fun _ => ?_)
        refine ⟨⟨by omega, by omega, by omega⟩, ?_⟩
        refine clr_T o2 (k := k) (by omega) fun ω3 w3 k3 r3 => ?_
        refine ⟨⟨by omega, by omega, by omega⟩, ?_⟩
        have e : (if s.c = (0 : Int).toNat then s.a else s.a.map (·.add ((0 : Int).toNat * 1))) = s.a := by
          split
          · rfl
          · cases s.a with
            | none => rfl
            | some a => simp [Addr.add]
        rw [e]
        rw [ht, List.take_of_length_le (by omega)] at r3
        refine hK _ ω3 w3 (k12.trans k3) ?_
        have : s.c - (0 : Int).toNat = s.c := by simp
        rw [this]
        have e2 : ((k : Nat) : Int).toNat - (0 : Int).toNat = k := by simp
        rw [e2]
        exact r3
      | succ d ih =>
        intro k k2 A ω2 w2 hd2 h2 hk k12 o2 hA ht hj
        refine hY _ _ _ _ _ ?_
        unfold C.slices_Compact_string_string.S15
        have hlt : k0 + k2 < ts.length := by omega
        have sd := drew_stp ω2 w2
        have od := o2.stp sd
        have a1 : (strs A)[k0 + k2]? = some (.string ts[k0 + k2]) := by unfold strs; rw [List.getElem?_map, hj _ (by omega), List.getElem?_eq_getElem hlt]; rfl
        have a2 : (strs A)[k0 + (k2 - 1)]? = some (.string ts[k0 + k2 - 1]) := by unfold strs; rw [List.getElem?_map, hj _ (by omega), show k0 + (k2 - 1) = k0 + k2 - 1 by omega, List.getElem?_eq_getElem (by omega)]; rfl
        have eds := dd_snoc (l := ts) (k := k0 + k2 - 1) (by omega)
        simp only [show k0 + k2 - 1 + 2 = k0 + k2 + 1 by omega, show k0 + k2 - 1 + 1 = k0 + k2 by omega] at eds
        refine cond_d (fun _ => ?_) (fun h => by simp only [Int.toNat_natCast] at h; omega)
        refine sub_at od (by omega) a1 fun p hp => cS_at hp ?_
        rw [show IntKind.i64.wrap ((k2 : Int) - 1) = ((k2 - 1 : Nat) : Int) by rw [wI64 (by omega) (by omega)]; omega]
        refine sub_at od (by omega) a2 fun p hp => cS_at hp ?_
        rw [ba_ne]
        refine cond_not (fun hne => ?_) (fun heq => ?_)
        · have hne := of_decide_eq_false hne
          rw [if_neg hne] at eds
          refine sub_at od (by omega) a1 fun p hp => cS_at hp ?_
          refine OT.at_ od (i := (k : Int)) (k := k) rfl (by omega) fun a ha _ _ _ => ?_
          have e0 : a = a.add 0 := by simp [Addr.add]
          rw [e0]
          refine OT.st od (i := k) (j := 0) (by omega) (by decide) _ ha fun ω3 w3 k3 o3 => ?_
          rw [wI64 (by omega) (by omega), wI64 (by omega) (by omega), show (k : Int) + 1 = ((k + 1 : Nat) : Int) by omega, show (k2 : Int) + 1 = ((k2 + 1 : Nat) : Int) by omega]
          have es : (strs A).set (k * 1 + 0) (.string ts[k0 + k2]) = strs (A.set k ts[k0 + k2]) := by unfold strs; rw [Nat.mul_one, Nat.add_zero, List.map_set]
          rw [es] at o3
          refine ih (k + 1) (k2 + 1) (A.set k ts[k0 + k2]) ω3 w3 (by omega) (by omega) (by omega) ((k12.trans (sd.non _)).trans k3) o3 (by rw [List.length_set]; exact hA) ?_ fun j hj2 => ?_
          · rw [show k0 + (k2 + 1) = k0 + k2 + 1 by omega, eds, ← ht, List.take_succ_eq_append_getElem (by rw [List.length_set]; omega), List.getElem_set_self, List.take_set, List.set_eq_of_length_le (by rw [List.length_take]; omega)]
          · rw [List.getElem?_set_ne (by omega)]; exact hj j (by omega)
        · have heq := of_decide_eq_true heq
          rw [if_pos heq] at eds
          rw [wI64 (by omega) (by omega), show (k2 : Int) + 1 = ((k2 + 1 : Nat) : Int) by omega]
          exact ih k (k2 + 1) A ω2 _ (by omega) (by omega) (by omega) (k12.trans (sd.non _)) od hA (by rw [show k0 + (k2 + 1) = k0 + k2 + 1 by omega, eds, ht]) fun j hj2 => hj j (by omega)
    have eds := dd_snoc (l := ts) (k := k0 - 1) (by omega)
    simp only [show k0 - 1 + 2 = k0 + 1 by omega, show k0 - 1 + 1 = k0 by omega] at eds
    have hee : ts[k0] = ts[k0 - 1] := by rw [List.getElem?_eq_getElem hk0, List.getElem?_eq_getElem (by omega)] at he; exact Option.some.inj he
    rw [if_pos hee] at eds
    exact key (ts.length - k0 - 1) k0 1 ts ω1 w1 (by omega) (by omega) (by omega) k1 o1 rfl (by rw [eds, hd]) fun j _ => rfl
  have key : ∀ (d k : Nat) (ω1 : Tg) (w1 : World), k + d = ts.length → 0 < k → Stp (Mem.One t) ω ω1 w w1 → OT ω1 w1 t 9 1 s (strs ts) → dd (ts.take k) = ts.take k → X s (k : Int) w1 := by
    intro d
    induction d with
    | zero =>
      intro k ω1 w1 hk h0 k1 o1 hd
      refine hX _ _ _ ?_
      unfold C.slices_Compact_string_string.S25 C.slices_Compact_string_string.S2
      rw [List.take_of_length_le (by omega)] at hd
      exact cond_d (fun h => by omega) (fun _ => hK s ω1 w1 k1 (by rw [hd]; exact o1))
    | succ d ih =>
      intro k ω1 w1 hk h0 k1 o1 hd
      refine hX _ _ _ ?_
      unfold C.slices_Compact_string_string.S25 C.slices_Compact_string_string.S22
      have sd := drew_stp ω1 w1
      have od := o1.stp sd
      have hlt : k < ts.length := by omega
      have ck : ∀ {i : Int} {j : Nat} {Z : ByteArray → Prop} (hj : j < ts.length), i = (j : Int) → Z ts[j] → G.ix s.a s.n i 1 fun p => G.cS p w1.drew Z := fun {i j Z} hj ei hz => by
        subst ei
        refine Rd.ix od.rd (by decide) (by omega) (by omega) fun a ha => cS_at ?_ hz
        have := ha 0 (.string ts[j]) (by decide) (by rw [Int.toNat_natCast, Nat.mul_one, Nat.add_zero]; exact strs_at ts j hj)
        rwa [show a.add 0 = a by simp [Addr.add]] at this
      refine cond_d (fun _ => ?_) (fun h => by omega)
      refine ck hlt rfl ?_
      refine ck (j := k - 1) (by omega) (by rw [wI64 (by omega) (by omega)]; omega) ?_
      unfold C.slices_Compact_string_string.D21
      rw [ba_ne]
      have eds := dd_snoc (l := ts) (k := k - 1) (by omega)
      simp only [show k - 1 + 2 = k + 1 by omega, show k - 1 + 1 = k by omega] at eds
      refine cond_d (fun heq => ?_) (fun hne => ?_)
      · rw [decide_eq_true heq]
        exact rest k ω1 _ (k1.trans (sd.non _)) od h0 hlt hd (by rw [List.getElem?_eq_getElem hlt, List.getElem?_eq_getElem (by omega), heq])
      · unfold C.slices_Compact_string_string.S20 C.slices_Compact_string_string.S7
        rw [if_neg hne] at eds
        rw [wI64 (by omega) (by omega), show (k : Int) + 1 = ((k + 1 : Nat) : Int) by omega]
        exact ih (k + 1) ω1 _ (by omega) (by omega) (k1.trans (sd.non _)) od (by rw [eds, hd, List.take_succ_eq_append_getElem hlt])
  exact key (ts.length - 1) 1 ω w (by omega) (by omega) (Stp.refl _ _ _) h (by
    match ts, hsn with
    | [], hsn => simp only [List.length_nil] at hsn; omega
    | a :: r, _ => rfl)
end Go.Proofs.YtmfgmcajelmgbaaGreatDoor.Bk

namespace Go.Proofs.YtmfgmcajelmgbaaGreatDoor.Bk
open Go Vm Go.RowKit Num Mem Utf Lib Lab Vint Bits
variable {ω ω' : Tg} {w w' w0 : World}
theorem rput_ok {s : Sl} {m : List Lb} (hs : Rd w0 s 2 (labs m)) (hr : (rt m).1 = 0) {K : Sl → Int → World → Prop} (hK : ∀ r w', Keep w0 w' → OwnB w' w0.heap.size r (Lab.put m) → K r 0 w') : C.tocsinref04_Put nilS s w0 K := by
  have hsn : s.n = m.length := by have := hs.2.1; rw [labs_len] at this; omega
  obtain ⟨h16, hsh⟩ := rt_short hr
  unfold C.tocsinref04_Put
  refine rright_ok hs (fun x hx => by have := hsh x hx; omega) fun w1 k1 => ?_
  refine cond_f (by rw [hr]; rfl) ?_
  rw [wU64_id (by omega) (by omega), hsn]
  refine rputU_ok (l := []) (by omega) (Rd.nil w1 1) (by decide) fun r w2 k2 o2 => ?_
  unfold C.tocsinref04_Put.S9
  have k02 := Keep.trans k1 k2
  have hp := putU_len64 (n := m.length) (by omega)
  refine C.tocsinref04_Put.L5_ind fun X hX => ?_
  have key : ∀ (d i : Nat) (q : Sl) (w : World), i + d = m.length → Keep w0 w → OwnB w w0.heap.size q (putU m.length ++ (m.take i).flatMap labB) → X q s ((s.n : Nat) : Int) (i : Int) w := by
    intro d
    induction d with
    | zero =>
      intro i q w hi k o
      refine hX _ _ _ _ _ ?_
      unfold C.tocsinref04_Put.S7 C.tocsinref04_Put.S2
      rw [List.take_of_length_le (by omega)] at o
      exact cond_d (fun h => by omega) (fun _ => hK q w k o)
    | succ d ih =>
      intro i q w hi k o
      have him : i < m.length := by omega
      refine hX _ _ _ _ _ ?_
      unfold C.tocsinref04_Put.S7
      refine cond_d (fun _ => ?_) (fun h => by omega)
      have hx : m[i]? = some m[i] := List.getElem?_eq_getElem him
      refine rdL_at (hs.keep k) (k := i) rfl hx fun a hc0 hc1 => cS_at hc0 <| cS_at hc1 ?_
      refine new_T (ω := fun _ => 0) 7 fun g ω2 w2 k2 b2 => ?_
      refine st_T b2 (by simp) fun ω3 w3 k3 b3 => ?_
      refine st_TA b3 (by simp) fun ω4 w4 k4 b4 => ?_
      have kT := ((Top.init w).stp ((k2.non (Mem.One 7)).trans (k3.trans k4))).k
      have kd := drew_stp ω4 w4
      have bd := b4.stp kd
      have k5 := Keep.trans kT kd.keep
      refine cS_at (b := m[i].1) (by rw [bd.cell]; rfl) <| cS_at (b := m[i].2) (by rw [addr_add, bd.cell]; rfl) ?_
      have hsx := hsh _ (List.getElem_mem him)
      have hfl := Lab.flat_len (m.take i) fun y hy => hsh y (List.mem_of_mem_take hy)
      rw [List.length_take, Nat.min_eq_left (by omega)] at hfl
      have e1 := szB m[i].1
      have p1 := putU_len64 (n := m[i].1.size) (by omega)
      refine rputText_ok (Own.keep o k5).rd (by rw [List.length_append]; omega) fun r1 w5 k6 o5 => ⟨bd.sameA (k6.stp0 ω4), ?_⟩
      refine rputText_ok o5.rd (by simp only [List.length_append]; omega) fun r2 w6 k7 o6 => ?_
      rw [wI64 (by omega) (by omega), show (i : Int) + 1 = ((i + 1 : Nat) : Int) by omega]
      have k57 := Keep.trans k (Keep.trans k5 (Keep.trans k6 k7))
      refine ih (i + 1) r2 w6 (by omega) k57 ?_
      have ef : (m.take (i + 1)).flatMap labB = (m.take i).flatMap labB ++ labB m[i] := by
        rw [List.take_add_one, hx, List.flatMap_append]; simp
      rw [ef]
      have o7 := o6.mono (Keep.trans k (Keep.trans k5 k6)).size
      simpa only [labB, txt, List.append_assoc] using o7
  refine key m.length 0 r w2 (by omega) k02 ?_
  simpa using o2.mono k1.size
theorem rframeS_ok {x : Ser} {a b : Sl} (h : SeOk w0 (x, a, b)) (hr : (rt x.1).1 = 0) (hne : x.2 ≠ []) {K : Sl → Int → World → Prop}
    (hE : serE x ≠ 0 → ∀ w', Keep w0 w' → K nilS (serE x) w') (hK : serE x = 0 → ∀ r w', Keep w0 w' → OwnB w' w0.heap.size r (pay x) → K r 0 w') : C.tocsinref10_frame a b w0 K := by
  have hlb : Rd w0 a 2 (labs x.1) := h.lb
  have hsm : Rd w0 b 2 (Chunk.smps x.2) := h.sm
  have hfl : ∀ y ∈ x.2, y.2 < 18446744073709551616 := h.fl
  have hsl : x.2.length ≤ 11000000 := h.sl
  clear h
  have hsn := smN hsm
  unfold C.tocsinref10_frame
  refine newD fun g w1 k1 hg b1 => ?_
  refine cSl_at (s := b) (by rw [addr_add, b1.cell]; rfl) ?_
  refine Chunk.rsplit_ok (hsm.keep k1.1) hfl hsl (fun he w3 k3 => ?_) (fun hz hris c ss ω3 w3 top3 o3 => ?_)
  · refine cond_t (by simpa using he) ?_
    have e : serE x = (Chunk.swr [] x.2 0).1 := by unfold serE; rw [if_neg hne, if_pos he]
    have := hE (by rw [e]; exact he) w3 (Keep.trans k1.1 k3)
    rwa [e] at this
  refine cond_f rfl ?_
  have e3 : Chunk.OLs ω3 w3 12 c ss (chs x.2) := o3
  clear o3
  have k03 := Keep.trans k1.1 top3.k
  have b3 := b1.keep top3.k
  refine cSl_at (s := a) (by rw [b3.cell]; rfl) ?_
  refine rput_ok (hlb.keep k03) hr fun r w4 k4 o4 => cond_f rfl ?_
  have hcl : (chs x.2).length = (x.2.length + 119) / 120 := chs_len x.2
  have hce := chs_each hris
  have hcn : c.n = (chs x.2).length := e3.n
  have k04 := Keep.trans k03 k4
  have hpl := put_small hr
  have hrd := e3.rdl.keep k4
  rw [wU64_id (by omega) (by omega), hcn]
  refine rputU_ok (by omega) (OwnB.rd o4) (by omega) fun p w5 k5 o5 => ?_
  have hp4 := putU_len64 (n := (chs x.2).length) (by omega)
  unfold C.tocsinref10_frame.S9
  refine C.tocsinref10_frame.L5_ind fun X hX => ?_
  have key : ∀ (d i : Nat) (p : Sl) (w : World), i + d = (chs x.2).length → Keep w4 w → OwnB w w4.heap.size p (Lab.put x.1 ++ (putU (chs x.2).length ++ ((chs x.2).take i).flatMap cpay)) → X p c ((c.n : Nat) : Int) (i : Int) w := by
    intro d
    induction d with
    | zero =>
      intro i p w hi k o
      refine hX _ _ _ _ _ ?_
      unfold C.tocsinref10_frame.S7 C.tocsinref10_frame.S2
      refine cond_d (fun h => by omega) (fun _ => ?_)
      rw [List.take_of_length_le (by omega)] at o
      have k0 := Keep.trans k04 k
      have hn := OwnB.len o
      change p.n = (pay x).length at hn
      refine cond_d (fun hbig => ?_) (fun hsm' => ?_)
      · have e : serE x = 4 := by rw [serE_of hne hz, if_pos (by omega)]
        have := hE (by rw [e]; decide) w k0
        rwa [e] at this
      · exact hK (by rw [serE_of hne hz, if_neg (by omega)]) p w k0 (o.mono k04.size)
    | succ d ih =>
      intro i p w hi k o
      refine hX _ _ _ _ _ ?_
      unfold C.tocsinref10_frame.S7
      have hic : i < (chs x.2).length := by omega
      refine cond_d (fun _ => ?_) (fun h => by omega)
      have hx : (chs x.2)[i]? = some (chs x.2)[i] := List.getElem?_eq_getElem hic
      refine (hrd.keep k).at_ hx fun q hq => ?_
      have hqn := RdB.len hq
      have hq3 := hce _ (List.getElem_mem hic)
      have hfl := cpay_len ((chs x.2).take i) fun y hy => hce y (List.mem_of_mem_take hy)
      rw [List.length_take, Nat.min_eq_left (by omega)] at hfl
      rw [wU64_id (by omega) (by omega), hqn]
      refine rputU_ok (by omega) (OwnB.rd o) (by simp only [List.length_append]; omega) fun p1 w5 k5 o5 => ?_
      have hp5 := putU_len64 (n := (chs x.2)[i].length) (by omega)
      refine appB k5 k5.size o5 (hq.keep k5) (by simp only [List.length_append]; omega) fun p2 w6 k6 o6 => ?_
      rw [wI64 (by omega) (by omega), show (i : Int) + 1 = ((i + 1 : Nat) : Int) by omega]
      refine ih (i + 1) p2 w6 (by omega) (Keep.trans k k6) ?_
      have ef : ((chs x.2).take (i + 1)).flatMap cpay = ((chs x.2).take i).flatMap cpay ++ cpay (chs x.2)[i] := by
        rw [List.take_add_one, hx, List.flatMap_append]; simp
      rw [ef]
      have o7 := o6.mono k.size
      simpa only [cpay, List.append_assoc] using o7
  refine key (chs x.2).length 0 p w5 (by omega) k5 ?_
  simpa using o5
theorem sers_set : ∀ (l : QS) (k : Nat) (p : SQ), ((sers l).set (k * 2 + 0) p.2.1.v).set (k * 2 + 1) p.2.2.v = sers (l.set k p)
  | [], k, p => by simp [sers]
  | x :: l, 0, p => rfl
  | x :: l, k + 1, p => by
    have ih := sers_set l k p
    rw [Nat.add_zero] at ih
    have e : ∀ (y : SQ) (m : QS), sers (y :: m) = y.2.1.v :: y.2.2.v :: sers m := fun _ _ => rfl
    rw [e, show (k + 1) * 2 + 0 = (k * 2 + 0) + 1 + 1 by omega, show (k + 1) * 2 + 1 = (k * 2 + 1) + 1 + 1 by omega, List.set_cons_succ, List.set_cons_succ, List.set_cons_succ, List.set_cons_succ, ih, List.set_cons_succ, e]
theorem st2_ok {t : Nat} {s : Sl} {l : QS} (h : OT ω w t 57 2 s (sers l)) {i : Int} {k : Nat} (ei : i = (k : Int)) (hk : k < l.length) (p : SQ) {Z : World → Prop}
    (hK : ∀ ω' w', Stp (Mem.One t) ω ω' w w' → OT ω' w' t 57 2 s (sers (l.set k p)) → Z w') :
    G.ix s.a s.n i 2 fun a => G.st a p.2.1.v w fun w1 => G.st (a.add 1) p.2.2.v w1 Z := by
  have hn := rdQ_n h.rd
  refine OT.at_ h ei (by omega) fun a ha _ _ _ => ?_
  have e0 : a = a.add 0 := by simp [Addr.add]
  have key : G.st (a.add 0) p.2.1.v w fun w1 => G.st (a.add 1) p.2.2.v w1 Z := by
    refine OT.st h (i := k) (j := 0) (by omega) (by decide) _ ha fun ω1 w1 k1 o1 => ?_
    refine OT.st o1 (i := k) (j := 1) (by omega) (by decide) _ ha fun ω2 w2 k2 o2 => hK ω2 w2 (k1.trans k2) ?_
    rw [sers_set] at o2
    exact o2
  rwa [← e0] at key
theorem insS_at {x : Ser} : ∀ {A B : List Ser}, (∀ a ∈ A, ¬ cmpL a.1 x.1 > 0) → (∀ b ∈ B, cmpL b.1 x.1 > 0) → insS x (A ++ B) = A ++ x :: B
  | [], [], _, _ => rfl
  | [], b :: B, _, h => by rw [List.nil_append, insS, if_pos (h b (List.mem_cons_self ..))]; rfl
  | a :: A, B, h1, h2 => by
    rw [List.cons_append, insS, if_neg (h1 a (List.mem_cons_self ..)), insS_at (fun y hy => h1 y (List.mem_cons_of_mem _ hy)) h2]; rfl
theorem ins_step {α : Type} (A : List α) (k : Nat) (hk : k < A.length) (z : α) : (A.take (k + 1) ++ z :: A.drop (k + 1)).set (k + 1) A[k] = A.take k ++ A[k] :: A.drop k := by
  have e : (A.take (k + 1)).length = k + 1 := by rw [List.length_take]; omega
  rw [List.set_append_right _ _ (by omega), e, Nat.sub_self, List.set_cons_zero, List.take_succ_eq_append_getElem hk, List.append_assoc, List.drop_eq_getElem_cons hk]
  rfl
theorem rsorted_ok {s : Sl} {q : QS} (h : RdQ w0 s q) (hl : q.length ≤ 100000000) {K : Sl → World → Prop}
    (hK : ∀ r q' w', Keep w0 w' → q'.Perm q → q'.map (·.1) = srt (q.map (·.1)) → Mem.Own w' w0.heap.size 57 2 r (sers q') → K r w') : C.tocsinref10_Sorted s w0 K := by
  have hsn := h.n
  unfold C.tocsinref10_Sorted C.tocsinref10_Sorted.S23
  refine C.tocsinref10_Sorted.L5_ind fun X hX => ?_
  have key : ∀ (d i : Nat) (out : Sl) (A : QS) (ω : Tg) (w : World), i + d = q.length → Top w0 ω w → OT ω w 2 57 2 out (sers A) → A.Perm (q.take i) → A.map (·.1) = srt ((q.map (·.1)).take i) → X out s ((s.n : Nat) : Int) (i : Int) w := by
    intro d
    induction d with
    | zero =>
      intro i out A ω w hi top o pm em
      refine hX _ _ _ _ _ ?_
      unfold C.tocsinref10_Sorted.S21 C.tocsinref10_Sorted.S2
      refine cond_d (fun h => by omega) (fun _ => ?_)
      rw [List.take_of_length_le (by omega)] at pm
      rw [List.take_of_length_le (by rw [List.length_map]; omega)] at em
      exact hK out A w top.k pm em (otNew o top)
    | succ d ih =>
      intro i out A ω w hi top o pm em
      refine hX _ _ _ _ _ ?_
      unfold C.tocsinref10_Sorted.S21 C.tocsinref10_Sorted.S18
      have hiq : i < q.length := by omega
      have hx : q[i]? = some q[i] := List.getElem?_eq_getElem hiq
      have hAl : A.length = i := by rw [pm.length_eq, List.length_take]; exact Nat.min_eq_left (by omega)
      have hel : ∀ p ∈ A, SeOk w0 p := fun p hp => h.el p (List.mem_of_mem_take (pm.mem_iff.1 hp))
      have hsx := h.el _ (List.getElem_mem hiq)
      have upA : (A.map (·.1)).Pairwise leS := by rw [em]; exact srt_up _
      refine cond_d (fun _ => ?_) (fun h => by omega)
      refine rdQ_at (h.rd.keep top.k) (k := i) rfl hx fun a e0 e1 => cSl_at e0 <| cSl_at e1 ?_
      refine locS fun g w3 k3 hg b3 => ?_
      have s3 := k3.1.stp ω 7
      have bt : BT (ext ω w.heap.size 7) w3 7 g _ _ := ⟨b3, ext_new hg⟩
      have top3 := top.stp s3
      have o3 := o.stp s3
      generalize ext ω w.heap.size 7 = ω3 at *
      refine cSl_at (s := q[i].2.1) (by rw [bt.cell]; rfl) <| cSl_at (s := q[i].2.2) (by rw [addr_add, bt.cell]; rfl) ?_
      have hon := rdQ_n o.rd
      refine push_T tiQ o3 (n := 1) rfl (by intro v hv; simp at hv; rcases hv with rfl | rfl <;> rfl) (by simp only [maxLen]; omega) (by omega) fun r ω4 w4 k4 o4 _ => ?_
      have top4 := top3.stp k4
      have b4 := bt.stp k4
      have e4 : sers A ++ [q[i].2.1.v, q[i].2.2.v] = sers (A ++ [q[i]]) := by rw [sers_app]; rfl
      have o4' : OT ω4 w4 2 57 2 r (sers (A.take i ++ q[i] :: A.drop i)) := by
        rw [List.take_of_length_le (by omega), List.drop_of_length_le (by omega), ← e4]; exact o4
      have etk : (q.map (·.1)).take (i + 1) = (q.map (·.1)).take i ++ [q[i].1] := by
        rw [List.take_succ_eq_append_getElem (by rw [List.length_map]; exact hiq), List.getElem_map]
      have esr : srt ((q.map (·.1)).take (i + 1)) = insS q[i].1 (A.map (·.1)) := by rw [etk, em]; unfold srt; rw [List.foldl_append]; rfl
      have hrn : r.n = A.length + 1 := by have := rdQ_n o4'.rd; rw [List.length_append, List.length_cons, List.length_take, List.length_drop] at this; omega
      refine C.tocsinref10_Sorted.L13_ind fun Y hY => ?_
      -- the place is found
      have done : ∀ (k : Nat) (z : SQ) (ω : Tg) (w : World), k ≤ i → Top w0 ω w → BT ω w 7 g 57 [q[i].2.1.v, q[i].2.2.v] → OT ω w 2 57 2 r (sers (A.take k ++ z :: A.drop k)) → (∀ b ∈ A.drop k, cmpL b.1.1 q[i].1.1 > 0) → (∀ b ∈ A.take k, ¬ cmpL b.1.1 q[i].1.1 > 0) →
          C.tocsinref10_Sorted.S10 K X r (some ⟨g, 0, none⟩) (k : Int) s ((s.n : Nat) : Int) (i : Int) w := by
        intro k z ω w hki top bt o h1 h2
        unfold C.tocsinref10_Sorted.S10 C.tocsinref10_Sorted.S7
        refine ptr_at <| cSl_at (s := q[i].2.1) (by rw [bt.cell]; rfl) <| cSl_at (s := q[i].2.2) (by rw [addr_add, bt.cell]; rfl) ?_
        have hkl : (A.take k).length = k := by rw [List.length_take]; omega
        refine st2_ok (k := k) o rfl (by rw [List.length_append, hkl, List.length_cons]; omega) q[i] fun ω6 w6 k6 o6 => ?_
        rw [List.set_append_right _ _ (by omega), hkl, Nat.sub_self, List.set_cons_zero] at o6
        rw [wI64 (by omega) (by omega), show (i : Int) + 1 = ((i + 1 : Nat) : Int) by omega]
        refine ih (i + 1) r _ ω6 w6 (by omega) (top.stp k6) o6 ?_ ?_
        · refine (List.perm_middle).trans ?_
          rw [List.take_append_drop, List.take_succ_eq_append_getElem hiq]
          exact (pm.cons _).trans (List.perm_append_comm (l₁ := [q[i]]))
        · rw [esr]
          have e : A.map (·.1) = (A.take k).map (·.1) ++ (A.drop k).map (·.1) := by rw [← List.map_append, List.take_append_drop]
          rw [e, insS_at (fun a ha => ?_) (fun b hb => ?_), List.map_append, List.map_cons]
          · obtain ⟨p, hp, rfl⟩ := List.mem_map.1 ha; exact h2 p hp
          · obtain ⟨p, hp, rfl⟩ := List.mem_map.1 hb; exact h1 p hp
      have loop : ∀ (k : Nat) (z : SQ) (ω : Tg) (w : World), k ≤ i → Top w0 ω w → BT ω w 7 g 57 [q[i].2.1.v, q[i].2.2.v] → OT ω w 2 57 2 r (sers (A.take k ++ z :: A.drop k)) → (∀ b ∈ A.drop k, cmpL b.1.1 q[i].1.1 > 0) →
          Y r (some ⟨g, 0, none⟩) (k : Int) s ((s.n : Nat) : Int) (i : Int) w := by
        intro k
        induction k with
        | zero =>
          intro z ω w hki top bt o h1
          refine hY _ _ _ _ _ _ _ ?_
          unfold C.tocsinref10_Sorted.S15
          have sd := drew_stp ω w
          exact cond_d (fun h => by omega) (fun _ => done 0 z ω _ (by omega) (top.stp sd) (bt.stp sd) (o.stp sd) h1 (by simp))
        | succ k ihk =>
          intro z ω w hki top bt o h1
          refine hY _ _ _ _ _ _ _ ?_
          unfold C.tocsinref10_Sorted.S15
          have sd := drew_stp ω w
          have topd := top.stp sd
          have bd := bt.stp sd
          have od := o.stp sd
          have hkA : k < A.length := by omega
          have hkl : (A.take (k + 1)).length = k + 1 := by rw [List.length_take]; omega
          have hgk : (A.take (k + 1) ++ z :: A.drop (k + 1))[k]? = some A[k] := by
            rw [List.getElem?_append_left (by omega), List.getElem?_take, if_pos (by omega), List.getElem?_eq_getElem hkA]
          have ek : IntKind.i64.wrap (((k + 1 : Nat) : Int) - 1) = (k : Int) := by rw [wI64 (by omega) (by omega)]; omega
          refine cond_d (fun _ => ?_) (fun h => by omega)
          rw [ek]
          refine rdQ_at od.rd (k := k) rfl hgk fun p f0 f1 => cSl_at f0 <| ptr_at <| cSl_at (s := q[i].2.1) (by rw [bd.cell]; rfl) ?_
          have hAk := hel _ (List.getElem_mem hkA)
          refine rcmp_ok (hAk.lb.keep topd.k) (hsx.lb.keep topd.k) hAk.l9 fun w6 k6 => ?_
          have s6 := k6.stp0 ω
          have top6 := topd.stp s6
          have b6 := bd.stp s6
          have o6 := od.stp s6
          refine cond_d (fun hgt => ?_) (fun hle => ?_)
          · refine rdQ_at o6.rd (k := k) rfl hgk fun p f0 f1 => cSl_at f0 <| cSl_at f1 ?_
            refine st2_ok (k := k + 1) o6 rfl (by rw [List.length_append, hkl, List.length_cons]; omega) A[k] fun ω7 w7 k7 o7 => ?_
            rw [ins_step A k hkA z] at o7
            refine ihk A[k] ω7 w7 (by omega) (top6.stp k7) (b6.stp k7) o7 fun b hb => ?_
            rw [List.drop_eq_getElem_cons hkA] at hb
            rcases List.mem_cons.1 hb with rfl | hb
            · exact hgt
            · exact h1 b hb
          · refine done (k + 1) z ω w6 hki top6 b6 o6 h1 fun b hb => ?_
            obtain ⟨j, hj, rfl⟩ := List.mem_iff_getElem.1 hb
            rw [hkl] at hj
            rw [List.getElem_take]
            by_cases hjk : j = k
            · subst hjk; exact hle
            · have := List.pairwise_iff_getElem.1 upA j k (by rw [List.length_map]; omega) (by rw [List.length_map]; omega) (by omega)
              rw [List.getElem_map, List.getElem_map] at this
              have hle' : leS A[k].1 q[i].1 := by unfold leS; have := cmpL_cmp.anti A[k].1.1 q[i].1.1; omega
              have := cmp_le this hle'
              have := cmpL_cmp.anti A[j].1.1 q[i].1.1
              omega
      have := loop i q[i] ω4 w4 (by omega) top4 b4 o4' (by rw [List.drop_of_length_le (by omega)]; simp)
      rw [show ((out.n : Nat) : Int) = (i : Int) by omega]
      exact this
  exact key q.length 0 nilS [] (fun _ => 0) w0 (by omega) (Top.init w0) (OT.nil _ _ _ _ _) (by simp) rfl
end Go.Proofs.YtmfgmcajelmgbaaGreatDoor.Bk

namespace Go.Proofs.YtmfgmcajelmgbaaGreatDoor.Bk
open Go Vm Go.RowKit Num Mem Utf Lib Lab Vint Bits
variable {ω ω' : Tg} {w w' w0 : World}
theorem take_sers (q : QS) (n : Nat) (h : n ≤ q.length) : ((sers q).drop (0 * 2)).take ((n - 0) * 2) = sers (q.take n) := by
  have e : sers q = sers (q.take n) ++ sers (q.drop n) := by rw [← sers_app, List.take_append_drop]
  have l : (sers (q.take n)).length = n * 2 := by rw [sers_len, List.length_take, Nat.min_eq_left h]
  rw [e, Nat.zero_mul, List.drop_zero, Nat.sub_zero, List.take_append_of_le_length (by omega), List.take_of_length_le (by omega)]
def wr1 (pre : List Ser) (x : Ser) : Int := if (rt x.1).1 ≠ 0 then (rt x.1).1 else if metB pre x.1 = true then 6 else serE x
theorem rwrong_ok {s a b : Sl} {q : QS} {x : Ser} (h : RdQ w0 s q) (hl : q.length ≤ 100000000) (hx : SeOk w0 (x, a, b)) {K : Int → World → Prop} (hK : ∀ w', Keep w0 w' → K (wr1 (q.map (·.1)) x) w') : C.tocsinref10_wrong s a b w0 K := by
  have hsn := h.n
  have hlb : Rd w0 a 2 (labs x.1) := hx.lb
  have hsm : Rd w0 b 2 (Chunk.smps x.2) := hx.sm
  have hll : ∀ y ∈ x.1, y.2.size ≤ 140737488355300 := hx.ll
  have hl9 : x.1.length ≤ 9000000000000000000 := hx.l9
  have hbn := smN hsm
  unfold C.tocsinref10_wrong
  refine newD fun g w1 k1 hg b1 => cSl_at (s := a) (by rw [b1.cell]; rfl) ?_
  unfold wr1 at hK
  refine rright_ok (hlb.keep k1.1) hll fun w2 k2 => cond_ne (fun he => ?_) (fun he => ?_)
  · rw [if_pos he] at hK; exact hK w2 (Keep.trans k1.1 k2)
  rw [if_neg (by simpa using he)] at hK
  have b2 := b1.keep k2
  have k02 := Keep.trans k1.1 k2
  unfold C.tocsinref10_wrong.S9
  refine C.tocsinref10_wrong.L5_ind fun X hX => ?_
  have key : ∀ (d i : Nat) (w : World), i + d = q.length → Keep w2 w → metB ((q.map (·.1)).take i) x.1 = false → X (some ⟨g, 0, none⟩) s ((s.n : Nat) : Int) (i : Int) w := by
    intro d
    induction d with
    | zero =>
      intro i w hi k hm
      refine hX _ _ _ _ _ ?_
      unfold C.tocsinref10_wrong.S7 C.tocsinref10_wrong.S2
      have bk := b2.keep k
      have k0 := Keep.trans k02 k
      rw [List.take_of_length_le (by rw [List.length_map]; omega)] at hm
      rw [if_neg (by rw [hm]; decide)] at hK
      refine cond_d (fun h => by omega) (fun _ => ptr_at <| cSl_at (s := b) (by rw [addr_add, bk.cell]; rfl) ?_)
      refine cond_eq (fun h0 => ?_) (fun h0 => ?_)
      · have e : serE x = 5 := by unfold serE; rw [if_pos (List.eq_nil_of_length_eq_zero (by omega))]
        have := hK w k0
        rwa [e] at this
      · refine ptr_at <| cSl_at (s := a) (by rw [bk.cell]; rfl) <| cSl_at (s := b) (by rw [addr_add, bk.cell]; rfl) ?_
        refine rframeS_ok (hx.keep k0) he (fun e => h0 (by rw [hbn, e]; rfl)) (fun hE w3 k3 => hK w3 (Keep.trans k0 k3)) (fun hE r w3 k3 o3 => ?_)
        have := hK w3 (Keep.trans k0 k3)
        rwa [hE] at this
    | succ d ih =>
      intro i w hi k hm
      refine hX _ _ _ _ _ ?_
      unfold C.tocsinref10_wrong.S7
      have hiq : i < q.length := by omega
      have hy : q[i]? = some q[i] := List.getElem?_eq_getElem hiq
      have k0 := Keep.trans k02 k
      have hs := (h.el _ (List.getElem_mem hiq)).keep k0
      refine cond_d (fun _ => ?_) (fun h => by omega)
      refine rdQ_at (h.rd.keep k0) (k := i) rfl hy fun p e0 e1 => cSl_at e0 <| cSl_at e1 ?_
      refine locS fun g3 w3 k3 hg3 b3 => ?_
      have bk := b2.keep (Keep.trans k k3.1)
      refine cSl_at (s := q[i].2.1) (by rw [b3.cell]; rfl) <| ptr_at <| cSl_at (s := a) (by rw [bk.cell]; rfl) ?_
      refine rsame_ok (hs.lb.keep k3.1) (hlb.keep (Keep.trans k0 k3.1)) hs.l9 fun w4 k4 => ?_
      have k04 := Keep.trans k0 (Keep.trans k3.1 k4)
      have et : (q.map (·.1)).take (i + 1) = (q.map (·.1)).take i ++ [q[i].1] := by
        rw [List.take_succ_eq_append_getElem (by rw [List.length_map]; exact hiq), List.getElem_map]
      refine cond_d (fun hs => ?_) (fun hs => ?_)
      · have hmt : metB (q.map (·.1)) x.1 = true := metB_iff.2 (by rw [← hs]; exact List.mem_map_of_mem (List.mem_map_of_mem (List.getElem_mem hiq)))
        have := hK w4 k04
        rwa [if_pos hmt] at this
      · rw [wI64 (by omega) (by omega), show (i : Int) + 1 = ((i + 1 : Nat) : Int) by omega]
        refine ih (i + 1) w4 (by omega) (Keep.trans k (Keep.trans k3.1 k4)) ?_
        rw [et]
        unfold metB at hm ⊢
        rw [List.any_append, hm]
        simp [hs]
  exact key q.length 0 w2 (by omega) (Keep.refl _) rfl
theorem rbuild_ok {s : Sl} {q : QS} (h : RdQ w0 s q) (hl : q.length ≤ 100000000) {K : Sl → Int → Int → World → Prop}
    (hK : ∀ r w', Keep w0 w' → OwnB w' w0.heap.size r (buildR (q.map (·.1))).1 → K r (buildR (q.map (·.1))).2.1 ((buildR (q.map (·.1))).2.2 : Int) w') : C.tocsinref10_Build s w0 K := by
  have hsn := h.n
  have hLl : (q.map (·.1)).length = q.length := List.length_map _
  have hsz : ∀ x ∈ q.map (·.1), x.2.length ≤ 11000000 := fun x hx => by
    obtain ⟨p, hp, rfl⟩ := List.mem_map.1 hx
    exact (h.el p hp).sl
  unfold C.tocsinref10_Build
  unfold buildR at hK
  refine cond_d (fun h1 => ?_) (fun h1 => ?_)
  · rw [if_pos (by omega)] at hK; exact hK nilS w0 (Keep.refl _) (OwnB.nil _ _)
  rw [if_neg (by omega)] at hK
  have hcb := cnt_le hsz
  -- behind the numbers
  have head : (wrg [] (q.map (·.1)) 0).1 = 0 → ∀ w, Keep w0 w → C.tocsinref10_Build.S20 K s (cntOf (q.map (·.1)) : Int) (loOf (q.map (·.1))) (hiOf (q.map (·.1))) w := by
    intro hz w k
    rw [if_neg (by simpa using hz)] at hK
    have fit := fit_of hz
    have fit' : Fit (srt (q.map (·.1))) := fit.perm (srt_perm _)
    have ris : Ris (q.map (·.1)) := fit_ris fit fun x hx y hy => by
      obtain ⟨p, hp, rfl⟩ := List.mem_map.1 hx
      exact (h.el p hp).fl y hy
    have ehd : hd (srt (q.map (·.1))) = hd (q.map (·.1)) := hd_perm (srt_perm _)
    have hhd := hd_len ris (by omega) hsz
    have hlo := lo_bd ris
    have hhi := hi_bd ris
    have tail : ∀ hb w1, Keep w w1 → RdB w1 hb (hd (q.map (·.1))) → C.tocsinref10_Build.S11 K s hb w1 := by
      intro hb w1 k1 hh
      unfold C.tocsinref10_Build.S11
      refine convC (l := magicB) (by rfl) (by rfl) fun m w4 k4 hm => ?_
      have k34 := Keep.trans k1 k4
      refine rputFrame_ok hm (hh.keep k4) (by decide) (fun hbig => by omega) (fun _ r w5 k5 o5 => ?_)
      unfold C.tocsinref10_Build.S9
      have hf := frameOf_len (m := hd (q.map (·.1))) (by omega)
      have k05 := Keep.trans k (Keep.trans k34 k5)
      refine rsorted_ok (h.keep k05) hl fun a q' w6 k6 pm em o6 => ?_
      have k06 := Keep.trans k05 k6
      have hq' : q'.length = q.length := pm.length_eq
      have hel : ∀ p ∈ q', SeOk w0 p := fun p hp => h.el p (pm.mem_iff.1 hp)
      rw [← em] at fit' hK ehd
      have hSl : (q'.map (·.1)).length = q'.length := List.length_map _
      have hS' : ∀ i (hi : i < q'.length), (q'.map (·.1))[i]? = some q'[i].1 := fun i hi => by rw [List.getElem?_map, List.getElem?_eq_getElem hi]; rfl
      rw [← ehd] at o5 hhd hf
      generalize q'.map (·.1) = S at *
      have han := rdQ_n o6.rd
      refine C.tocsinref10_Build.L5_ind fun X hX => ?_
      have key : ∀ (d i : Nat) (out : Sl) (w : World), i + d = q'.length → Keep w6 w → OwnB w w4.heap.size out (upto S i) → (upto S i).length ≤ 1048576 → X out a ((a.n : Nat) : Int) (i : Int) w := by
        intro d
        induction d with
        | zero =>
          intro i out w hi kk o hle
          refine hX _ _ _ _ _ ?_
          unfold C.tocsinref10_Build.S7 C.tocsinref10_Build.S2
          refine cond_d (fun h => by omega) (fun _ => ?_)
          have ei : i = S.length := by omega
          rw [ei, upto_all] at o hle
          rw [if_neg (by omega)] at hK
          exact hK out w (Keep.trans k06 kk) (o.mono (Keep.trans k k34).size)
        | succ d ih =>
          intro i out w hi kk o hle
          refine hX _ _ _ _ _ ?_
          unfold C.tocsinref10_Build.S7
          have hiq : i < q'.length := by omega
          have hx : q'[i]? = some q'[i] := List.getElem?_eq_getElem hiq
          have k0 := Keep.trans k06 kk
          have hs := (hel _ (List.getElem_mem hiq)).keep k0
          have hiS : i < S.length := by omega
          have eS : S[i] = q'[i].1 := by have := hS' i hiq; rw [List.getElem?_eq_getElem hiS] at this; exact Option.some.inj this
          refine cond_d (fun _ => ?_) (fun h => by omega)
          refine rdQ_at (o6.rd.keep kk) (k := i) rfl hx fun p e0 e1 => cSl_at e0 <| cSl_at e1 ?_
          refine locS fun g w7 k7 hg b7 => ?_
          refine cSl_at (s := q'[i].2.1) (by rw [b7.cell]; rfl) <| cSl_at (s := q'[i].2.2) (by rw [addr_add, b7.cell]; rfl) ?_
          have hs7 : SeOk w7 (q'[i].1, q'[i].2.1, q'[i].2.2) := hs.keep k7.1
          have hrt : (rt q'[i].1.1).1 = 0 := by rw [← eS]; exact fit'.rt _ (List.getElem_mem hiS)
          have hok : serE q'[i].1 = 0 := by rw [← eS]; exact fit'.ok _ (List.getElem_mem hiS)
          have hri := fit'.rising (List.getElem_mem hiS)
          rw [eS] at hri
          refine rframeS_ok hs7 hrt hri.1 (fun hbad => absurd hok hbad) (fun _ f w8 k8 o8 => ?_)
          have k78 := Keep.trans k7.1 k8
          have hfl := frameOf_len hri.2.2
          refine rputFrame_ok (OwnB.rd (Own.keep o k78)) (OwnB.rd o8) (by omega) (fun hbig => by have := hri.2.2; omega) (fun _ out2 w9 k9 o9 => ?_)
          have eu : upto S (i + 1) = upto S i ++ frameOf (pay q'[i].1) := by rw [upto_succ hiS, eS]
          rw [← eu] at o9
          have hn9 := OwnB.len o9
          have kk9 := Keep.trans kk (Keep.trans k78 k9)
          refine cond_d (fun hbig => ?_) (fun hsm => ?_)
          · have := upto_le S (i + 1)
            rw [if_pos (by omega)] at hK
            exact hK nilS w9 (Keep.trans k06 kk9) (OwnB.nil _ _)
          · rw [wI64 (by omega) (by omega), show (i : Int) + 1 = ((i + 1 : Nat) : Int) by omega]
            refine ih (i + 1) out2 w9 (by omega) kk9 (o9.mono ?_) (by omega)
            have := k5.size; have := k6.size; have := (Keep.trans kk k78).size; omega
      have e0 : upto S 0 = magicB ++ frameOf (hd S) := by unfold upto; simp [flat]
      refine key q'.length 0 r w6 (by omega) (Keep.refl _) (by rw [e0]; exact Own.keep o5 k6) ?_
      rw [e0, List.length_append]
      have : magicB.length = 8 := rfl
      omega
    unfold C.tocsinref10_Build.S20 C.tocsinref10_Build.S18
    generalize q.map (·.1) = S at *
    refine new_at ?_
    have kA := Keep.alloc w (.cells #[(.int .u64 (IntKind.u64.wrap ((s.n : Nat) : Int))), (.int .u64 (IntKind.u64.wrap (cntOf S : Int))), (.int .u64 (IntKind.u64.wrap (loOf S))), (.int .u64 (IntKind.u64.wrap (hiOf S)))] 105)
    have hrd : Rd (w.alloc (.cells #[(.int .u64 (IntKind.u64.wrap ((s.n : Nat) : Int))), (.int .u64 (IntKind.u64.wrap (cntOf S : Int))), (.int .u64 (IntKind.u64.wrap (loOf S))), (.int .u64 (IntKind.u64.wrap (hiOf S)))] 105)) ⟨some ⟨w.heap.size, 0, none⟩, 4, 4⟩ 1 ((hdN S).map fun n : Nat => Value.int .u64 (n : Int)) := by
      have := rd_new (w := w) (e := 105) (cs := #[(.int .u64 (IntKind.u64.wrap ((s.n : Nat) : Int))), (.int .u64 (IntKind.u64.wrap (cntOf S : Int))), (.int .u64 (IntKind.u64.wrap (loOf S))), (.int .u64 (IntKind.u64.wrap (hiOf S)))]) (n := 4) (sz := 1) rfl
      have e : (#[(.int .u64 (IntKind.u64.wrap ((s.n : Nat) : Int))), (.int .u64 (IntKind.u64.wrap (cntOf S : Int))), (.int .u64 (IntKind.u64.wrap (loOf S))), (.int .u64 (IntKind.u64.wrap (hiOf S)))] : Array Value).toList = (hdN S).map fun n : Nat => Value.int .u64 (n : Int) := by
        rw [wU64_id (by omega) (by omega), wU64_id (by omega) (by omega), wU64_id (by omega) (by omega), wU64_id (by omega) (by omega)]
        simp only [hdN, List.map_cons, List.map_nil]
        rw [Int.toNat_of_nonneg hlo.1, Int.toNat_of_nonneg hhi.1, show s.n = S.length by omega]
      rw [e] at this
      exact this
    have hN : ∀ n ∈ hdN S, n < 18446744073709551616 := by
      intro n hn
      simp only [hdN, List.mem_cons, List.not_mem_nil, or_false] at hn
      rcases hn with rfl | rfl | rfl | rfl <;> omega
    have hNl : (hdN S).length = 4 := rfl
    rw [hd_flat] at tail
    generalize hdN S = NS at *
    generalize hwA : w.alloc (.cells #[(.int .u64 (IntKind.u64.wrap ((s.n : Nat) : Int))), (.int .u64 (IntKind.u64.wrap (cntOf S : Int))), (.int .u64 (IntKind.u64.wrap (loOf S))), (.int .u64 (IntKind.u64.wrap (hiOf S)))] 105) = wA at *
    refine C.tocsinref10_Build.L14_ind fun X hX => ?_
    have key : ∀ (d i : Nat) (hb : Sl) (w5 : World), i + d = 4 → Keep wA w5 → RdB w5 hb ((NS.take i).flatMap putU) → ((NS.take i).flatMap putU).length ≤ 10 * i → X s hb ⟨some ⟨w.heap.size, 0, none⟩, 4, 4⟩ (((⟨some ⟨w.heap.size, 0, none⟩, 4, 4⟩ : Sl).n : Nat) : Int) (i : Int) w5 := by
      intro d
      induction d with
      | zero =>
        intro i hb w5 hi k5 o hle
        refine hX _ _ _ _ _ _ ?_
        unfold C.tocsinref10_Build.S16
        refine cond_d (fun h => by simp only at h; omega) (fun _ => tail hb w5 (Keep.trans kA k5) ?_)
        rwa [List.take_of_length_le (by omega)] at o
      | succ d ih =>
        intro i hb w5 hi k5 o hle
        refine hX _ _ _ _ _ _ ?_
        unfold C.tocsinref10_Build.S16
        have hi4 : i < NS.length := by omega
        refine cond_d (fun _ => ?_) (fun h => by simp only at h; omega)
        refine Rd.ix (hrd.keep k5) (by decide) (by omega) (by simp only; omega) fun p hc => ?_
        refine cI_at (n := (NS[i] : Int)) (by
          have := hc 0 (.int .u64 (NS[i] : Int)) (by decide) (by rw [Int.toNat_natCast, Nat.mul_one, Nat.add_zero, List.getElem?_map, List.getElem?_eq_getElem hi4]; rfl)
          rwa [show p.add 0 = p by simp [Addr.add]] at this) ?_
        have hlt := hN _ (List.getElem_mem hi4)
        refine rputU_ok hlt o (by omega) fun r w6 k6 o6 => ?_
        rw [wI64 (by omega) (by omega), show (i : Int) + 1 = ((i + 1 : Nat) : Int) by omega]
        have et : (NS.take (i + 1)).flatMap putU = (NS.take i).flatMap putU ++ putU NS[i] := by rw [List.take_succ_eq_append_getElem hi4, List.flatMap_append]; simp
        have h10 := putU_len64 hlt
        exact ih (i + 1) r w6 (by omega) (Keep.trans k5 k6) (by rw [et]; exact o6.rd) (by rw [et, List.length_append]; omega)
    exact key 4 0 nilS wA (by omega) (Keep.refl _) (RdB.nil _) (by simp)
  refine C.tocsinref10_Build.L23_ind fun X hX => ?_
  have key : ∀ (d i : Nat) (w : World), i + d = q.length → Keep w0 w → Fit ((q.map (·.1)).take i) → wrg ((q.map (·.1)).take i) ((q.map (·.1)).drop i) i = wrg [] (q.map (·.1)) 0 →
      X s (cntOf ((q.map (·.1)).take i) : Int) (loOf ((q.map (·.1)).take i)) (hiOf ((q.map (·.1)).take i)) s ((s.n : Nat) : Int) (i : Int) w := by
    intro d
    induction d with
    | zero =>
      intro i w hi k ft e
      refine hX _ _ _ _ _ _ _ _ ?_
      unfold C.tocsinref10_Build.S25
      refine cond_d (fun h => by omega) (fun _ => ?_)
      rw [List.drop_of_length_le (by omega)] at e
      rw [List.take_of_length_le (by omega)]
      exact head (by rw [← e]; rfl) w k
    | succ d ih =>
      intro i w hi k ft e
      refine hX _ _ _ _ _ _ _ _ ?_
      unfold C.tocsinref10_Build.S25
      have hiq : i < q.length := by omega
      have hiL : i < (q.map (·.1)).length := by omega
      have hx : q[i]? = some q[i] := List.getElem?_eq_getElem hiq
      have eL : (q.map (·.1))[i] = q[i].1 := by rw [List.getElem_map]
      have hs := (h.el _ (List.getElem_mem hiq)).keep k
      rw [List.drop_eq_getElem_cons hiL, eL, wrg] at e
      refine cond_d (fun _ => ?_) (fun h => by omega)
      refine rdQ_at (h.rd.keep k) (k := i) rfl hx fun p e0 e1 => cSl_at e0 <| cSl_at e1 ?_
      refine locS fun g w3 k3 hg b3 => ?_
      refine Rd.slc (h.rd.keep (Keep.trans k k3.1)) (lo := 0) (hi := i) (by omega) (by omega) rfl rfl fun r hr _ _ => ?_
      rw [take_sers q i (by omega)] at hr
      have kd := Keep.trans k (Keep.trans k3.1 (Keep.drew w3))
      have bd : Blk w3.drew g _ _ := b3.drew
      refine cSl_at (s := q[i].2.1) (by rw [bd.cell]; rfl) <| cSl_at (s := q[i].2.2) (by rw [addr_add, bd.cell]; rfl) ?_
      have hq1 : RdQ w3.drew r (q.take i) := ⟨hr.drew, fun p hp => (h.el p (List.mem_of_mem_take hp)).keep kd⟩
      have hsd : SeOk w3.drew (q[i].1, q[i].2.1, q[i].2.2) := hs.keep (Keep.trans k3.1 (Keep.drew w3))
      refine rwrong_ok hq1 (by rw [List.length_take]; omega) hsd fun w4 k4 => ?_
      have k04 := Keep.trans kd k4
      have emt : (q.take i).map (·.1) = (q.map (·.1)).take i := by rw [List.map_take]
      rw [emt]
      have et : (q.map (·.1)).take (i + 1) = (q.map (·.1)).take i ++ [q[i].1] := by rw [List.take_succ_eq_append_getElem hiL, eL]
      refine cond_ne (fun hbad => ?_) (fun hok => ?_)
      · have ew : wrg [] (q.map (·.1)) 0 = (wr1 ((q.map (·.1)).take i) q[i].1, i) := by
          rw [← e]
          unfold wr1 at hbad ⊢
          split
          · rfl
          · split
            · rfl
            · rw [if_neg (by assumption), if_neg (by assumption)] at hbad
              rw [if_pos hbad]
        rw [ew, if_pos hbad] at hK
        exact hK nilS w4 k04 (OwnB.nil _ _)
      have hw1 : (rt q[i].1.1).1 = 0 ∧ metB ((q.map (·.1)).take i) q[i].1.1 = false ∧ serE q[i].1 = 0 := by
        unfold wr1 at hok
        split at hok
        · rename_i h1; exact absurd hok h1
        · rename_i h1
          split at hok
          · exact absurd hok (by decide)
          · rename_i h2; exact ⟨by simpa using h1, by simpa using h2, hok⟩
      rw [if_neg (by simpa using hw1.1), if_neg (by rw [hw1.2.1]; decide), if_neg (by simpa using hw1.2.2)] at e
      rw [← et] at e
      have ft' : Fit ((q.map (·.1)).take (i + 1)) := by
        rw [et]
        refine fit_of (l := (q.map (·.1)).take i ++ [q[i].1]) ?_
        have := fit_wrg ((q.map (·.1)).take i) [] 0 (by simpa using ft)
        have app : ∀ (r pre : List Ser) (j : Nat) (y : Ser), Fit (pre ++ r) → wr1 (pre ++ r) y = 0 → (wrg pre (r ++ [y]) j).1 = 0 := by
          intro r
          induction r with
          | nil =>
            intro pre j y hf hy
            rw [List.append_nil] at hf hy
            rw [List.nil_append, wrg]
            unfold wr1 at hy
            split
            · rename_i h1; rw [if_pos h1] at hy; exact hy
            · rename_i h1
              rw [if_neg h1] at hy
              split
              · rename_i h2; rw [if_pos h2] at hy; exact absurd hy (by decide)
              · rename_i h2
                rw [if_neg h2] at hy
                rw [if_neg (by simpa using hy)]; rfl
          | cons z r ihr =>
            intro pre j y hf hy
            have hz : z ∈ pre ++ z :: r := List.mem_append_right _ (List.mem_cons_self ..)
            rw [List.cons_append, wrg, if_neg (by simpa using hf.rt z hz), if_neg ?_, if_neg (by simpa using hf.ok z hz)]
            · exact ihr (pre ++ [z]) (j + 1) y (by simpa using hf) (by simpa using hy)
            · intro hm
              rw [metB_iff] at hm
              have := hf.nd
              rw [List.map_append, List.nodup_append] at this
              exact this.2.2 _ hm z.1 (by simp) rfl
        exact app _ [] 0 _ (by simpa using ft) (by simpa using hok)
      have b4 := bd.keep k4
      have hs4 : SeOk w4 q[i] := hsd.keep k4
      have hbn := smN hs4.sm
      have hne : q[i].1.2 ≠ [] := by
        intro e0
        have := hw1.2.2
        unfold serE at this
        rw [if_pos e0] at this
        exact absurd this (by decide)
      have hlp : 0 < q[i].1.2.length := List.length_pos_iff.2 hne
      have hsl := hs.sl
      have hct := cnt_le (l := (q.map (·.1)).take i) fun y hy => hsz y (List.mem_of_mem_take hy)
      rw [List.length_take, Nat.min_eq_left (by omega)] at hct
      have rd1 : ∀ {Z : Sl → Prop}, Z q[i].2.2 → G.cSl ((⟨g, 0, none⟩ : Addr).add 1) w4 Z := fun hz => cSl_at (s := q[i].2.2) (by rw [addr_add, b4.cell]; rfl) hz
      have rd0 : ∀ {Z : Int → Prop}, Z (q[i].1.2.headD (0, 0)).1 → G.ix q[i].2.2.a q[i].2.2.n (0 : Int) 2 fun p => G.cI .i64 p w4 Z := fun hz =>
        Chunk.rdS_at hs4.sm (k := 0) rfl (smp_head hne) fun p2 f0 _ => cI_at f0 hz
      have rdl : ∀ {Z : Int → Prop}, Z (Chunk.lastS q[i].1.2).1 → G.ix q[i].2.2.a q[i].2.2.n (IntKind.i64.wrap (((q[i].2.2.n : Nat) : Int) - (1 : Int))) 2 fun p => G.cI .i64 p w4 Z := fun hz =>
        Chunk.rdS_at hs4.sm (k := q[i].1.2.length - 1) (by rw [wI64 (by omega) (by omega)]; omega) (smp_last hne) fun p3 g0 _ => cI_at g0 hz
      have ecn : IntKind.i64.wrap ((cntOf ((q.map (·.1)).take i) : Int) + ((q[i].2.2.n : Nat) : Int)) = (cntOf ((q.map (·.1)).take (i + 1)) : Int) := by
        rw [wI64 (by omega) (by omega), et, cnt_snoc, hbn]; omega
      have go := ih (i + 1) w4 (by omega) k04 ft' e
      rw [show ((i + 1 : Nat) : Int) = IntKind.i64.wrap ((i : Int) + 1) by rw [wI64 (by omega) (by omega)]; omega] at go
      refine rd1 ?_
      rw [ecn]
      by_cases hi0 : i = 0
      · have et0 : (q.map (·.1)).take i = [] := by rw [hi0]; rfl
        have e1 : (q[i].1.2.headD (0, 0)).1 = loOf ((q.map (·.1)).take (i + 1)) := by rw [et, et0]; rfl
        have e2 : (Chunk.lastS q[i].1.2).1 = hiOf ((q.map (·.1)).take (i + 1)) := by rw [et, et0]; rfl
        refine cond_t (by simp [hi0]) <| rd1 <| rd0 <| cond_t (by simp [hi0]) <| rd1 <| rdl ?_
        rw [e1, e2]; exact go
      · have hnil : (q.map (·.1)).take i ≠ [] := by
          intro e
          have := congrArg List.length e
          rw [List.length_take] at this
          simp only [List.length_nil] at this; omega
        have h0f : ((i : Int) == (0 : Int)) = false := by simpa using hi0
        rw [et, lo_snoc hnil, hi_snoc hnil, ← et] at go
        refine cond_f h0f <| rd1 <| rd0 <| cond_d (fun hlt => ?_) (fun hge => ?_)
        · rw [if_pos hlt] at go
          refine rd1 <| rd0 <| cond_f h0f <| rd1 <| rdl <| cond_d (fun hl2 => ?_) (fun hl2 => ?_)
          · rw [if_pos hl2] at go; exact rd1 <| rdl go
          · rw [if_neg hl2] at go; exact go
        · rw [if_neg hge] at go
          refine cond_f h0f <| rd1 <| rdl <| cond_d (fun hl2 => ?_) (fun hl2 => ?_)
          · rw [if_pos hl2] at go; exact rd1 <| rdl go
          · rw [if_neg hl2] at go; exact go
  exact key q.length 0 w0 (by omega) (Keep.refl _) fit_nil rfl
end Go.Proofs.YtmfgmcajelmgbaaGreatDoor.Bk

namespace Go.Proofs.YtmfgmcajelmgbaaGreatDoor.Bk
open Go Vm Go.RowKit Num Mem Utf Lib Lab Vint Bits Rep
variable {ω ω' : Tg} {w w' w0 : World} {T : Nat → Bool} {t u g gm : Nat}
theorem locL {a b : ByteArray} {Z : Addr → World → Prop} (hK : ∀ g w', KD w w' → w.heap.size ≤ g → Blk w' g 93 [.string a, .string b] → Z ⟨g, 0, none⟩ w') :
    G.new (.cells #[(.string (⟨#[]⟩ : ByteArray)), (.string (⟨#[]⟩ : ByteArray))] 93) w fun p w1 => G.st p (.string a) w1 fun w2 => G.st (p.add 1) (.string b) w2 fun w3 => Z p w3 :=
  newD fun g w1 k1 hg b1 => stD hg k1 b1 (by simp) fun w2 k2 b2 => stDA hg k2 b2 (by simp) fun w3 k3 b3 => hK g w3 k3 hg b3
theorem get_ok {s : Sl} {m : List Lb} (h : Rd w0 s 2 (labs m)) (hl : m.length ≤ 100000000) {n : ByteArray} {K : ByteArray → World → Prop} (hK : ∀ w', Keep w0 w' → K (getF n m) w') : C.labels_Get s n w0 K := by
  have hsn := rdL_n h
  unfold C.labels_Get C.labels_Get.S9
  refine C.labels_Get.L5_ind fun X hX => ?_
  have key : ∀ (d i : Nat) (w : World), i + d = m.length → Keep w0 w → getF n (m.drop i) = getF n m → X n s ((s.n : Nat) : Int) (i : Int) w := by
    intro d
    induction d with
    | zero =>
      intro i w hi k e
      refine hX _ _ _ _ _ ?_
      unfold C.labels_Get.S7 C.labels_Get.S2
      refine cond_d (fun h => by omega) (fun _ => ?_)
      rw [List.drop_of_length_le (by omega)] at e
      have := hK w k
      rw [← e] at this
      exact this
    | succ d ih =>
      intro i w hi k e
      refine hX _ _ _ _ _ ?_
      unfold C.labels_Get.S7
      have him : i < m.length := by omega
      have hx : m[i]? = some m[i] := List.getElem?_eq_getElem him
      rw [List.drop_eq_getElem_cons him, getF] at e
      refine cond_d (fun _ => ?_) (fun h => by omega)
      refine rdL_at (h.keep k) (k := i) rfl hx fun a a0 a1 => cS_at a0 <| cS_at a1 ?_
      refine locL fun g w3 k3 hg b3 => cS_at (b := m[i].1) (by rw [b3.cell]; rfl) ?_
      have k03 := Keep.trans k k3.1
      rw [ba_ne]
      refine cond_d (fun he => ?_) (fun he => ?_)
      · rw [if_pos he] at e
        refine cS_at (b := m[i].2) (by rw [addr_add, b3.cell]; rfl) ?_
        rw [e]; exact hK w3 k03
      · rw [if_neg he] at e
        rw [wI64 (by omega) (by omega), show (i : Int) + 1 = ((i + 1 : Nat) : Int) by omega]
        exact ih (i + 1) w3 (by omega) k03 e
  exact key m.length 0 w0 (by omega) (Keep.refl w0) rfl
theorem rget_ok {s : Sl} {m : List Lb} (h : Rd w0 s 2 (labs m)) (hl : m.length ≤ 100000000) {n : ByteArray} {K : ByteArray → World → Prop} (hK : ∀ w', Keep w0 w' → K (getF n m) w') : C.tocsinref04_Get s n w0 K := by
  have hsn := rdL_n h
  unfold C.tocsinref04_Get C.tocsinref04_Get.S9
  refine C.tocsinref04_Get.L5_ind fun X hX => ?_
  have key : ∀ (d i : Nat) (w : World), i + d = m.length → Keep w0 w → getF n (m.drop i) = getF n m → X n s ((s.n : Nat) : Int) (i : Int) w := by
    intro d
    induction d with
    | zero =>
      intro i w hi k e
      refine hX _ _ _ _ _ ?_
      unfold C.tocsinref04_Get.S7 C.tocsinref04_Get.S2
      refine cond_d (fun h => by omega) (fun _ => ?_)
      rw [List.drop_of_length_le (by omega)] at e
      have := hK w k
      rw [← e] at this
      exact this
    | succ d ih =>
      intro i w hi k e
      refine hX _ _ _ _ _ ?_
      unfold C.tocsinref04_Get.S7
      have him : i < m.length := by omega
      have hx : m[i]? = some m[i] := List.getElem?_eq_getElem him
      rw [List.drop_eq_getElem_cons him, getF] at e
      refine cond_d (fun _ => ?_) (fun h => by omega)
      refine rdL_at (h.keep k) (k := i) rfl hx fun a a0 a1 => cS_at a0 <| cS_at a1 ?_
      refine locL fun g w3 k3 hg b3 => cS_at (b := m[i].1) (by rw [b3.cell]; rfl) ?_
      have k03 := Keep.trans k k3.1
      rw [ba_ne]
      refine cond_d (fun he => ?_) (fun he => ?_)
      · rw [if_pos he] at e
        refine cS_at (b := m[i].2) (by rw [addr_add, b3.cell]; rfl) ?_
        rw [e]; exact hK w3 k03
      · rw [if_neg he] at e
        rw [wI64 (by omega) (by omega), show (i : Int) + 1 = ((i + 1 : Nat) : Int) by omega]
        exact ih (i + 1) w3 (by omega) k03 e
  exact key m.length 0 w0 (by omega) (Keep.refl w0) rfl
theorem strs_n {s : Sl} {l : List ByteArray} (h : Rd w s 1 (strs l)) : s.n = l.length := by have := h.2.1; rw [strs_len] at this; omega
theorem ints_n {s : Sl} {l : List Nat} (h : Rd w s 1 (ints l)) : s.n = l.length := by have := h.2.1; rw [ints_len] at this; omega
theorem ints_at (l : List Nat) (i : Nat) (h : i < l.length) : (ints l)[i]? = some (.int .i64 (l[i] : Int)) := by unfold ints; rw [List.getElem?_map, List.getElem?_eq_getElem h]; rfl
theorem rdT_at {s : Sl} {l : List ByteArray} (h : Rd w s 1 (strs l)) {i : Int} {k : Nat} (ei : i = (k : Int)) (hk : k < l.length) {K : Addr → Prop} (hK : ∀ a, w.cell? a = some (.string l[k]) → K a) : G.ix s.a s.n i 1 K := by
  have hn := strs_n h
  subst ei
  refine Rd.ix h (by decide) (by omega) (by omega) fun a hc => hK a ?_
  have := hc 0 _ (by decide) (by rw [Int.toNat_natCast, Nat.mul_one, Nat.add_zero]; exact strs_at l k hk)
  rwa [show a.add 0 = a by simp [Addr.add]] at this
theorem rdN_at {s : Sl} {l : List Nat} (h : Rd w s 1 (ints l)) {i : Int} {k : Nat} (ei : i = (k : Int)) (hk : k < l.length) {K : Addr → Prop} (hK : ∀ a, w.cell? a = some (.int .i64 (l[k] : Int)) → K a) : G.ix s.a s.n i 1 K := by
  have hn := ints_n h
  subst ei
  refine Rd.ix h (by decide) (by omega) (by omega) fun a hc => hK a ?_
  have := hc 0 _ (by decide) (by rw [Int.toNat_natCast, Nat.mul_one, Nat.add_zero]; exact ints_at l k hk)
  rwa [show a.add 0 = a by simp [Addr.add]] at this
theorem eq_of_at {α : Type} {p q : List α} (hl : p.length = q.length) (h : ∀ j, j < p.length → p[j]? = q[j]?) : p = q := by
  apply List.ext_getElem?
  intro j
  rcases Nat.lt_or_ge j p.length with hj | hj
  · exact h j hj
  · rw [List.getElem?_eq_none hj, List.getElem?_eq_none (by omega)]
theorem texts_ok {a b : Sl} {p q : List ByteArray} (ha : Rd w0 a 1 (strs p)) (hb : Rd w0 b 1 (strs q)) (hl : p.length ≤ 100000000) {K : Bool → World → Prop} (hK : ∀ w', Keep w0 w' → K (decide (p = q)) w') : C.tocsinlaw10_texts a b w0 K := by
  have hna := strs_n ha
  have hnb := strs_n hb
  unfold C.tocsinlaw10_texts
  refine cond_ne (fun hne => ?_) (fun he => ?_)
  · have := hK w0 (Keep.refl w0)
    rw [decide_eq_false (fun e => hne (by rw [hna, hnb, e]))] at this
    exact this
  unfold C.tocsinlaw10_texts.S9
  refine C.tocsinlaw10_texts.L5_ind fun X hX => ?_
  have key : ∀ (d i : Nat) (w : World), i + d = p.length → Keep w0 w → (∀ j, j < i → p[j]? = q[j]?) → X a b ((a.n : Nat) : Int) (i : Int) w := by
    intro d
    induction d with
    | zero =>
      intro i w hi k e
      refine hX _ _ _ _ _ ?_
      unfold C.tocsinlaw10_texts.S7 C.tocsinlaw10_texts.S2
      refine cond_d (fun h => by omega) (fun _ => ?_)
      have := hK w k
      rw [decide_eq_true (eq_of_at (by omega) fun j hj => e j (by omega))] at this
      exact this
    | succ d ih =>
      intro i w hi k e
      refine hX _ _ _ _ _ ?_
      unfold C.tocsinlaw10_texts.S7
      have hip : i < p.length := by omega
      have hiq : i < q.length := by omega
      have kd := Keep.trans k (Keep.drew w)
      refine cond_d (fun _ => ?_) (fun h => by omega)
      refine rdT_at (ha.keep kd) (k := i) rfl hip fun x hx => cS_at hx ?_
      refine rdT_at (hb.keep kd) (k := i) rfl hiq fun y hy => cS_at hy ?_
      rw [ba_ne]
      refine cond_not (fun hne => ?_) (fun heq => ?_)
      · have hne := of_decide_eq_false hne
        have := hK _ kd
        rw [decide_eq_false (fun e => hne (by subst e; rfl))] at this
        exact this
      · have heq := of_decide_eq_true heq
        rw [wI64 (by omega) (by omega), show (i : Int) + 1 = ((i + 1 : Nat) : Int) by omega]
        refine ih (i + 1) _ (by omega) kd fun j hj => ?_
        by_cases hji : j = i
        · subst hji; rw [List.getElem?_eq_getElem hip, List.getElem?_eq_getElem hiq, heq]
        · exact e j (by omega)
  exact key p.length 0 w0 (by omega) (Keep.refl w0) fun j hj => by omega
theorem numbers_ok {a b : Sl} {p q : List Nat} (ha : Rd w0 a 1 (ints p)) (hb : Rd w0 b 1 (ints q)) (hl : p.length ≤ 100000000) {K : Bool → World → Prop} (hK : ∀ w', Keep w0 w' → K (decide (p = q)) w') : C.tocsinlaw10_numbers a b w0 K := by
  have hna := ints_n ha
  have hnb := ints_n hb
  unfold C.tocsinlaw10_numbers
  refine cond_ne (fun hne => ?_) (fun he => ?_)
  · have := hK w0 (Keep.refl w0)
    rw [decide_eq_false (fun e => hne (by rw [hna, hnb, e]))] at this
    exact this
  unfold C.tocsinlaw10_numbers.S9
  refine C.tocsinlaw10_numbers.L5_ind fun X hX => ?_
  have key : ∀ (d i : Nat) (w : World), i + d = p.length → Keep w0 w → (∀ j, j < i → p[j]? = q[j]?) → X a b ((a.n : Nat) : Int) (i : Int) w := by
    intro d
    induction d with
    | zero =>
      intro i w hi k e
      refine hX _ _ _ _ _ ?_
      unfold C.tocsinlaw10_numbers.S7 C.tocsinlaw10_numbers.S2
      refine cond_d (fun h => by omega) (fun _ => ?_)
      have := hK w k
      rw [decide_eq_true (eq_of_at (by omega) fun j hj => e j (by omega))] at this
      exact this
    | succ d ih =>
      intro i w hi k e
      refine hX _ _ _ _ _ ?_
      unfold C.tocsinlaw10_numbers.S7
      have hip : i < p.length := by omega
      have hiq : i < q.length := by omega
      have kd := Keep.trans k (Keep.drew w)
      refine cond_d (fun _ => ?_) (fun h => by omega)
      refine rdN_at (ha.keep kd) (k := i) rfl hip fun x hx => cI_at hx ?_
      refine rdN_at (hb.keep kd) (k := i) rfl hiq fun y hy => cI_at hy ?_
      refine cond_ne (fun hne => ?_) (fun heq => ?_)
      · have := hK _ kd
        rw [decide_eq_false (fun e => hne (by subst e; rfl))] at this
        exact this
      · have heq : p[i] = q[i] := by omega
        rw [wI64 (by omega) (by omega), show (i : Int) + 1 = ((i + 1 : Nat) : Int) by omega]
        refine ih (i + 1) _ (by omega) kd fun j hj => ?_
        by_cases hji : j = i
        · subst hji; rw [List.getElem?_eq_getElem hip, List.getElem?_eq_getElem hiq, heq]
        · exact e j (by omega)
  exact key p.length 0 w0 (by omega) (Keep.refl w0) fun j hj => by omega
theorem stT_ok {r : Sl} {A : List ByteArray} (o : OT ω w t 9 1 r (strs A)) {i : Int} {k : Nat} (ei : i = (k : Int)) (hk : k < A.length) (v : ByteArray) {K : World → Prop}
    (hK : ∀ ω' w', Stp (Mem.One t) ω ω' w w' → OT ω' w' t 9 1 r (strs (A.set k v)) → K w') : G.ix r.a r.n i 1 fun p => G.st p (.string v) w K := by
  have hn := strs_n o.rd
  refine OT.at_ o ei (by omega) fun a ha _ _ _ => ?_
  have e0 : G.st (a.add 0) (.string v) w K := OT.st o (i := k) (j := 0) (by omega) (by decide) _ ha fun ω' w' k1 o1 => hK ω' w' k1 (by
    have es : (strs A).set (k * 1 + 0) (.string v) = strs (A.set k v) := by unfold strs; rw [Nat.mul_one, Nat.add_zero, List.map_set]
    rw [es] at o1; exact o1)
  rwa [show a.add 0 = a by simp [Addr.add]] at e0
theorem insW_at {x : ByteArray} : ∀ {A B : List ByteArray}, (∀ a ∈ A, Lt a x) → (∀ b ∈ B, ¬ Lt b x) → insW x (A ++ B) = A ++ x :: B
  | [], [], _, _ => rfl
  | [], b :: B, _, h => by rw [List.nil_append, insW, if_neg (h b (List.mem_cons_self ..))]; rfl
  | a :: A, B, h1, h2 => by
    rw [List.cons_append, insW, if_pos (h1 a (List.mem_cons_self ..)), insW_at (fun y hy => h1 y (List.mem_cons_of_mem _ hy)) h2]; rfl
theorem set_take {l : List ByteArray} {i : Nat} (hi : i < l.length) : setT (l.take (i + 1)) = insB l[i] (setT (l.take i)) := by
  unfold setT; rw [List.take_succ_eq_append_getElem hi, List.foldl_append]; rfl
theorem insB_len (x : ByteArray) (l : List ByteArray) : (insB x l).length ≤ l.length + 1 := by
  unfold insB; split
  · omega
  · rw [(insW_perm x l).length_eq]; exact Nat.le_refl _
theorem set_len {l : List ByteArray} : ∀ i, i ≤ l.length → (setT (l.take i)).length ≤ i
  | 0, _ => by simp [setT]
  | i + 1, h => by
    rw [set_take (by omega)]
    have := set_len (l := l) i (by omega)
    have := insB_len l[i] (setT (l.take i))
    omega
theorem set_ok {s : Sl} {l : List ByteArray} (h : Rd w0 s 1 (strs l)) (hl : l.length ≤ 100000000) {K : Sl → World → Prop} (hK : ∀ r w', Keep w0 w' → Rd w' r 1 (strs (setT l)) → K r w') : C.tocsinref10_set s w0 K := by
  have hsn := strs_n h
  unfold C.tocsinref10_set C.tocsinref10_set.S32
  refine C.tocsinref10_set.L5_ind fun X hX => ?_
  have key : ∀ (d i : Nat) (out : Sl) (ω : Tg) (w : World), i + d = l.length → Top w0 ω w → OT ω w 2 9 1 out (strs (setT (l.take i))) → X out s ((s.n : Nat) : Int) (i : Int) w := by
    intro d
    induction d with
    | zero =>
      intro i out ω w hi top o
      refine hX _ _ _ _ _ ?_
      unfold C.tocsinref10_set.S30 C.tocsinref10_set.S2
      refine cond_d (fun h => by omega) (fun _ => ?_)
      rw [List.take_of_length_le (by omega)] at o
      exact hK out w top.k o.rd
    | succ d ih =>
      intro i out ω w hi top o
      refine hX _ _ _ _ _ ?_
      unfold C.tocsinref10_set.S30 C.tocsinref10_set.S27
      have hil : i < l.length := by omega
      have hln := set_len (l := l) i (by omega)
      have hst := set_take hil
      have hup := (setT_spec (l.take i)).1
      refine cond_d (fun _ => ?_) (fun h => by omega)
      refine rdT_at (h.keep top.k) (k := i) rfl hil fun a ha => cS_at ha ?_
      generalize setT (l.take i) = A at *
      generalize l[i] = x at *
      have hon := strs_n o.rd
      unfold C.tocsinref10_set.S25
      refine C.tocsinref10_set.L21_ind fun Y hY => ?_
      -- is it there?
      have find : ∀ (e j : Nat) (m : Bool) (w : World) (ω : Tg), j + e = A.length → Top w0 ω w → OT ω w 2 9 1 out (strs A) → (m = true ↔ x ∈ A.take j) → Y out x ((out.n : Nat) : Int) m s ((s.n : Nat) : Int) (i : Int) out ((out.n : Nat) : Int) (j : Int) w := by
        intro e
        induction e with
        | zero =>
          intro j m w ω hj top o hm
          refine hY _ _ _ _ _ _ _ _ _ _ _ ?_
          unfold C.tocsinref10_set.S23 C.tocsinref10_set.S18
          refine cond_d (fun h => by omega) (fun _ => ?_)
          rw [List.take_of_length_le (by omega)] at hm
          refine cond_of (fun hmt => ?_) (fun hmf => ?_)
          · unfold C.tocsinref10_set.S7
            rw [wI64 (by omega) (by omega), show (i : Int) + 1 = ((i + 1 : Nat) : Int) by omega]
            have hx := hm.1 hmt
            refine ih (i + 1) out ω w (by omega) top ?_
            rw [hst]; unfold insB; rw [if_pos (memT_iff.2 hx)]; exact o
          have hx : x ∉ A := fun hx => by rw [hm.2 hx] at hmf; cases hmf
          refine push_T tiSt o (n := 1) rfl (by intro v hv; simp at hv; subst hv; rfl) (by simp only [maxLen]; omega) (by omega) fun r ω4 w4 k4 o4 _ => ?_
          have top4 := top.stp k4
          have o4' : OT ω4 w4 2 9 1 r (strs (A.take A.length ++ x :: A.drop A.length)) := by
            rw [List.take_of_length_le (Nat.le_refl _), List.drop_of_length_le (Nat.le_refl _), strs_app]; exact o4
          have hrn : r.n = A.length + 1 := by have := strs_n o4'.rd; simp at this; omega
          refine C.tocsinref10_set.L13_ind fun Z hZ => ?_
          have done : ∀ (k : Nat) (z : ByteArray) (ω : Tg) (w : World), k ≤ A.length → Top w0 ω w → OT ω w 2 9 1 r (strs (A.take k ++ z :: A.drop k)) → (∀ b ∈ A.drop k, Lt x b) → (∀ b ∈ A.take k, Lt b x) →
              C.tocsinref10_set.S10 K X r x (k : Int) s ((s.n : Nat) : Int) (i : Int) w := by
            intro k z ω w hk top o h1 h2
            unfold C.tocsinref10_set.S10 C.tocsinref10_set.S7
            have hkl : (A.take k).length = k := by rw [List.length_take]; omega
            refine stT_ok o (k := k) rfl (by rw [List.length_append, hkl, List.length_cons]; omega) x fun ω6 w6 k6 o6 => ?_
            rw [List.set_append_right _ _ (by omega), hkl, Nat.sub_self, List.set_cons_zero] at o6
            rw [wI64 (by omega) (by omega), show (i : Int) + 1 = ((i + 1 : Nat) : Int) by omega]
            refine ih (i + 1) r ω6 w6 (by omega) (top.stp k6) ?_
            have e : insB x A = A.take k ++ x :: A.drop k := by
              unfold insB
              rw [if_neg fun hm => hx (memT_iff.1 hm)]
              have := insW_at (x := x) (A := A.take k) (B := A.drop k) h2 (fun b hb hbx => lt_irr _ (lt_tr hbx (h1 b hb)))
              rwa [List.take_append_drop] at this
            rw [hst, e]; exact o6
          have loop : ∀ (k : Nat) (z : ByteArray) (ω : Tg) (w : World), k ≤ A.length → Top w0 ω w → OT ω w 2 9 1 r (strs (A.take k ++ z :: A.drop k)) → (∀ b ∈ A.drop k, Lt x b) → Z r x (k : Int) s ((s.n : Nat) : Int) (i : Int) w := by
            intro k
            induction k with
            | zero =>
              intro z ω w hk top o h1
              refine hZ _ _ _ _ _ _ _ ?_
              unfold C.tocsinref10_set.S15
              exact cond_d (fun h => by omega) (fun _ => done 0 z ω _ hk top o h1 (by simp))
            | succ k ihk =>
              intro z ω w hk top o h1
              refine hZ _ _ _ _ _ _ _ ?_
              unfold C.tocsinref10_set.S15
              have hkA : k < A.length := by omega
              have hkl : (A.take (k + 1)).length = k + 1 := by rw [List.length_take]; omega
              have hlen : (A.take (k + 1) ++ z :: A.drop (k + 1)).length = A.length + 1 := by rw [List.length_append, hkl, List.length_cons, List.length_drop]; omega
              have hgk : (A.take (k + 1) ++ z :: A.drop (k + 1))[k]'(by omega) = A[k] := by
                rw [List.getElem_append_left (by omega), List.getElem_take]
              have ek : IntKind.i64.wrap (((k + 1 : Nat) : Int) - 1) = (k : Int) := by rw [wI64 (by omega) (by omega)]; omega
              refine cond_d (fun _ => ?_) (fun h => by omega)
              rw [ek]
              refine rdT_at o.rd (k := k) rfl (by omega) fun p hp => cS_at hp ?_
              rw [hgk] at hp ⊢
              rw [ba_ne]
              refine cond_not (fun hgt => ?_) (fun hle => ?_)
              · rw [Bool.or_eq_false_iff] at hgt
                have hlt : Lt x A[k] := lt_tri (by unfold Lt; rw [hgt.1]; decide) (of_decide_eq_false hgt.2)
                refine rdT_at o.rd (k := k) rfl (by omega) fun p hp => cS_at hp ?_
                rw [hgk]
                refine stT_ok o (k := k + 1) rfl (by omega) A[k] fun ω7 w7 k7 o7 => ?_
                rw [ins_step A k hkA z] at o7
                refine ihk A[k] ω7 w7 (by omega) (top.stp k7) o7 fun b hb => ?_
                rw [List.drop_eq_getElem_cons hkA] at hb
                rcases List.mem_cons.1 hb with rfl | hb
                · exact hlt
                · exact h1 b hb
              · rw [Bool.or_eq_true] at hle
                have hlt : Lt A[k] x := by
                  rcases hle with hle | hle
                  · exact hle
                  · exact absurd (by rw [← of_decide_eq_true hle]; exact List.getElem_mem hkA) hx
                refine done (k + 1) z ω w hk top o h1 fun b hb => ?_
                obtain ⟨j, hj, rfl⟩ := List.mem_iff_getElem.1 hb
                rw [hkl] at hj
                rw [List.getElem_take]
                by_cases hjk : j = k
                · subst hjk; exact hlt
                · exact lt_tr (List.pairwise_iff_getElem.1 hup j k (by omega) hkA (by omega)) hlt
          have := loop A.length x ω4 w4 (Nat.le_refl _) top4 o4' (by simp)
          rw [hon]
          exact this
        | succ e ihe =>
          intro j m w ω hj top o hm
          refine hY _ _ _ _ _ _ _ _ _ _ _ ?_
          unfold C.tocsinref10_set.S23
          have hjA : j < A.length := by omega
          refine cond_d (fun _ => ?_) (fun h => by omega)
          refine rdT_at o.rd (k := j) rfl hjA fun p hp => cS_at hp ?_
          rw [wI64 (by omega) (by omega), show (j : Int) + 1 = ((j + 1 : Nat) : Int) by omega]
          refine cond_of (fun hmt => ?_) (fun hmf => ?_)
          · refine ihe (j + 1) true w ω (by omega) top o ⟨fun _ => ?_, fun _ => rfl⟩
            rw [List.take_succ_eq_append_getElem hjA]; exact List.mem_append_left _ (hm.1 hmt)
          · rw [ba_ne]
            refine ihe (j + 1) _ w ω (by omega) top o ?_
            have hx : x ∉ A.take j := fun hx => by rw [hm.2 hx] at hmf; cases hmf
            rw [List.take_succ_eq_append_getElem hjA, decide_eq_true_iff]
            constructor
            · intro he; rw [← he]; exact List.mem_append_right _ (List.mem_singleton.2 rfl)
            · intro hm'
              rcases List.mem_append.1 hm' with hm' | hm'
              · exact absurd hm' hx
              · exact (List.mem_singleton.1 hm').symm
      exact find A.length 0 false w ω (by omega) top o (by simp)
  exact key l.length 0 nilS (fun _ => 0) w0 (by omega) (Top.init w0) (OT.nil ..)
def valsR (n : ByteArray) (l : List Ser) : List ByteArray := l.flatMap fun s => if getF n s.1 = (⟨#[]⟩ : ByteArray) then [] else [getF n s.1]
theorem mem_vals {n v : ByteArray} {l : List Ser} : v ∈ valsR n l ↔ v ≠ (⟨#[]⟩ : ByteArray) ∧ ∃ s ∈ l, getF n s.1 = v := by
  unfold valsR
  rw [List.mem_flatMap]
  constructor
  · rintro ⟨s, hs, h⟩
    split at h
    · cases h
    · rename_i hne
      have e := List.mem_singleton.1 h
      exact ⟨by rw [e]; exact hne, s, hs, e.symm⟩
  · rintro ⟨hne, s, hs, e⟩
    exact ⟨s, hs, by rw [if_neg (by rw [e]; exact hne), e]; exact List.mem_singleton.2 rfl⟩
theorem vals_len (n : ByteArray) : ∀ l : List Ser, (valsR n l).length ≤ l.length
  | [] => Nat.le_refl _
  | s :: r => by
    have := vals_len n r
    unfold valsR at this ⊢
    rw [List.flatMap_cons, List.length_append, List.length_cons]
    split <;> simp only [List.length_nil, List.length_cons] <;> omega
theorem vals_take (n : ByteArray) {l : List Ser} {i : Nat} (hi : i < l.length) : valsR n (l.take (i + 1)) = valsR n (l.take i) ++ (if getF n l[i].1 = (⟨#[]⟩ : ByteArray) then [] else [getF n l[i].1]) := by
  unfold valsR; rw [List.take_succ_eq_append_getElem hi, List.flatMap_append]; simp
theorem rvalues_ok {s : Sl} {q : QS} (h : RdQ w0 s q) (hl : q.length ≤ 100000000) (h16 : ∀ p ∈ q, p.1.1.length ≤ 100000000) {n : ByteArray} {K : Sl → World → Prop} (hK : ∀ r w', Keep w0 w' → Rd w' r 1 (strs (setT (valsR n (q.map (·.1))))) → K r w') : C.tocsinref10_Values s n w0 K := by
  have hsn := h.n
  unfold C.tocsinref10_Values C.tocsinref10_Values.S9
  refine C.tocsinref10_Values.L5_ind fun X hX => ?_
  have hLl : (q.map (·.1)).length = q.length := List.length_map _
  have key : ∀ (d i : Nat) (out : Sl) (ω : Tg) (w : World), i + d = q.length → Top w0 ω w → OT ω w 2 9 1 out (strs (valsR n ((q.map (·.1)).take i))) → X n out s ((s.n : Nat) : Int) (i : Int) w := by
    intro d
    induction d with
    | zero =>
      intro i out ω w hi top o
      refine hX _ _ _ _ _ _ ?_
      unfold C.tocsinref10_Values.S7 C.tocsinref10_Values.S2
      refine cond_d (fun h => by omega) (fun _ => ?_)
      rw [List.take_of_length_le (by omega)] at o
      have := vals_len n (q.map (·.1))
      exact set_ok o.rd (by omega) fun r w1 k1 r1 => hK r w1 (Keep.trans top.k k1) r1
    | succ d ih =>
      intro i out ω w hi top o
      refine hX _ _ _ _ _ _ ?_
      unfold C.tocsinref10_Values.S7
      have hiq : i < q.length := by omega
      have hx : q[i]? = some q[i] := List.getElem?_eq_getElem hiq
      have hsx := h.el _ (List.getElem_mem hiq)
      have et := vals_take n (l := q.map (·.1)) (i := i) (by omega)
      have hvl := vals_len n ((q.map (·.1)).take i)
      have htl : ((q.map (·.1)).take i).length ≤ i := by rw [List.length_take]; omega
      rw [List.getElem_map] at et
      refine cond_d (fun _ => ?_) (fun h => by omega)
      refine rdQ_at (h.rd.keep top.k) (k := i) rfl hx fun a e0 e1 => cSl_at e0 <| cSl_at e1 ?_
      refine locS fun g w3 k3 hg b3 => cSl_at (s := q[i].2.1) (by rw [b3.cell]; rfl) ?_
      have s3 := k3.1.stp0 ω
      refine rget_ok (hsx.lb.keep (top.stp s3).k) (h16 _ (List.getElem_mem hiq)) fun w4 k4 => ?_
      have s4 := k4.stp0 ω
      have top4 := (top.stp s3).stp s4
      have o4 := (o.stp s3).stp s4
      have hon := strs_n o4.rd
      rw [wI64 (by omega) (by omega), show (i : Int) + 1 = ((i + 1 : Nat) : Int) by omega, ba_ne]
      refine cond_not (fun hne => ?_) (fun heq => ?_)
      · rw [if_neg (of_decide_eq_false hne)] at et
        refine push_T tiSt o4 (n := 1) rfl (by intro v hv; simp at hv; subst hv; rfl) (by simp only [maxLen]; omega) (by omega) fun r ω5 w5 k5 o5 _ => ?_
        refine ih (i + 1) r ω5 w5 (by omega) (top4.stp k5) ?_
        rw [et, strs_app]; exact o5
      · rw [if_pos (of_decide_eq_true heq), List.append_nil] at et
        refine ih (i + 1) out ω w4 (by omega) top4 ?_
        rw [et]; exact o4
  exact key q.length 0 nilS (fun _ => 0) w0 (by omega) (Top.init w0) (OT.nil ..)
theorem postF_take (n v : ByteArray) {l : List Ser} {i : Nat} (hi : i < l.length) : postF n v (l.take (i + 1)) 0 = postF n v (l.take i) 0 ++ (if getF n l[i].1 = v then [i] else []) := by
  rw [List.take_succ_eq_append_getElem hi, postF_snoc, Nat.zero_add, List.length_take, Nat.min_eq_left (by omega)]
theorem rpostings_ok {s : Sl} {q : QS} (h : RdQ w0 s q) (hl : q.length ≤ 100000000) (h16 : ∀ p ∈ q, p.1.1.length ≤ 100000000) {n v : ByteArray} {K : Sl → World → Prop} (hK : ∀ r w', Keep w0 w' → Mem.Own w' w0.heap.size 3 1 r (ints (postF n v (q.map (·.1)) 0)) → K r w') : C.tocsinref10_Postings s n v w0 K := by
  have hsn := h.n
  unfold C.tocsinref10_Postings C.tocsinref10_Postings.S9
  refine C.tocsinref10_Postings.L5_ind fun X hX => ?_
  have hLl : (q.map (·.1)).length = q.length := List.length_map _
  have key : ∀ (d i : Nat) (out : Sl) (ω : Tg) (w : World), i + d = q.length → Top w0 ω w → OT ω w 2 3 1 out (ints (postF n v ((q.map (·.1)).take i) 0)) → X n v out s ((s.n : Nat) : Int) (i : Int) w := by
    intro d
    induction d with
    | zero =>
      intro i out ω w hi top o
      refine hX _ _ _ _ _ _ _ ?_
      unfold C.tocsinref10_Postings.S7 C.tocsinref10_Postings.S2
      refine cond_d (fun h => by omega) (fun _ => ?_)
      rw [List.take_of_length_le (by omega)] at o
      exact hK out w top.k (otNew o top)
    | succ d ih =>
      intro i out ω w hi top o
      refine hX _ _ _ _ _ _ _ ?_
      unfold C.tocsinref10_Postings.S7
      have hiq : i < q.length := by omega
      have hx : q[i]? = some q[i] := List.getElem?_eq_getElem hiq
      have hsx := h.el _ (List.getElem_mem hiq)
      have et := postF_take n v (l := q.map (·.1)) (i := i) (by omega)
      have hvl := postF_len n v ((q.map (·.1)).take i) 0
      have htl : ((q.map (·.1)).take i).length ≤ i := by rw [List.length_take]; omega
      rw [List.getElem_map] at et
      refine cond_d (fun _ => ?_) (fun h => by omega)
      refine rdQ_at (h.rd.keep top.k) (k := i) rfl hx fun a e0 e1 => cSl_at e0 <| cSl_at e1 ?_
      refine locS fun g w3 k3 hg b3 => cSl_at (s := q[i].2.1) (by rw [b3.cell]; rfl) ?_
      have s3 := k3.1.stp0 ω
      refine rget_ok (hsx.lb.keep (top.stp s3).k) (h16 _ (List.getElem_mem hiq)) fun w4 k4 => ?_
      have s4 := k4.stp0 ω
      have top4 := (top.stp s3).stp s4
      have o4 := (o.stp s3).stp s4
      have hon := ints_n o4.rd
      rw [wI64 (by omega) (by omega), show (i : Int) + 1 = ((i + 1 : Nat) : Int) by omega, ba_ne]
      refine cond_d (fun heq => ?_) (fun hne => ?_)
      · rw [if_pos heq] at et
        refine push_T tiN o4 (n := 1) rfl (by intro v hv; simp at hv; subst hv; rfl) (by simp only [maxLen]; omega) (by omega) fun r ω5 w5 k5 o5 _ => ?_
        refine ih (i + 1) r ω5 w5 (by omega) (top4.stp k5) ?_
        rw [et, ints_app]; exact o5
      · rw [if_neg hne, List.append_nil] at et
        refine ih (i + 1) out ω w4 (by omega) top4 ?_
        rw [et]; exact o4
  exact key q.length 0 nilS (fun _ => 0) w0 (by omega) (Top.init w0) (OT.nil ..)
theorem postE_ok {s : Sl} {q : QS} (h : RdQ w0 s q) (hl : q.length ≤ 100000000) (h16 : ∀ p ∈ q, p.1.1.length ≤ 100000000) {n : ByteArray} {K : Sl → World → Prop} (hK : ∀ r w', Keep w0 w' → Mem.Own w' w0.heap.size 3 1 r (ints (postF n (⟨#[]⟩ : ByteArray) (q.map (·.1)) 0)) → K r w') : C.block_Block_Postings.L5 (fun r w => K r w) n nilS s ((s.n : Nat) : Int) (0 : Int) w0 := by
  have hsn := h.n
  skip
  refine C.block_Block_Postings.L5_ind fun X hX => ?_
  have hLl : (q.map (·.1)).length = q.length := List.length_map _
  have key : ∀ (d i : Nat) (out : Sl) (ω : Tg) (w : World), i + d = q.length → Top w0 ω w → OT ω w 2 3 1 out (ints (postF n (⟨#[]⟩ : ByteArray) ((q.map (·.1)).take i) 0)) → X n out s ((s.n : Nat) : Int) (i : Int) w := by
    intro d
    induction d with
    | zero =>
      intro i out ω w hi top o
      refine hX _ _ _ _ _ _ ?_
      unfold C.block_Block_Postings.S7 C.block_Block_Postings.S2
      refine cond_d (fun h => by omega) (fun _ => ?_)
      rw [List.take_of_length_le (by omega)] at o
      exact hK out w top.k (otNew o top)
    | succ d ih =>
      intro i out ω w hi top o
      refine hX _ _ _ _ _ _ ?_
      unfold C.block_Block_Postings.S7
      have hiq : i < q.length := by omega
      have hx : q[i]? = some q[i] := List.getElem?_eq_getElem hiq
      have hsx := h.el _ (List.getElem_mem hiq)
      have et := postF_take n (⟨#[]⟩ : ByteArray) (l := q.map (·.1)) (i := i) (by omega)
      have hvl := postF_len n (⟨#[]⟩ : ByteArray) ((q.map (·.1)).take i) 0
      have htl : ((q.map (·.1)).take i).length ≤ i := by rw [List.length_take]; omega
      rw [List.getElem_map] at et
      refine cond_d (fun _ => ?_) (fun h => by omega)
      refine rdQ_at (h.rd.keep top.k) (k := i) rfl hx fun a e0 e1 => cSl_at e0 <| cSl_at e1 ?_
      refine locS fun g w3 k3 hg b3 => cSl_at (s := q[i].2.1) (by rw [b3.cell]; rfl) ?_
      have s3 := k3.1.stp0 ω
      refine get_ok (hsx.lb.keep (top.stp s3).k) (h16 _ (List.getElem_mem hiq)) fun w4 k4 => ?_
      have s4 := k4.stp0 ω
      have top4 := (top.stp s3).stp s4
      have o4 := (o.stp s3).stp s4
      have hon := ints_n o4.rd
      rw [wI64 (by omega) (by omega), show (i : Int) + 1 = ((i + 1 : Nat) : Int) by omega, ba_ne]
      refine cond_d (fun heq => ?_) (fun hne => ?_)
      · rw [if_pos heq] at et
        refine push_T tiN o4 (n := 1) rfl (by intro v hv; simp at hv; subst hv; rfl) (by simp only [maxLen]; omega) (by omega) fun r ω5 w5 k5 o5 _ => ?_
        refine ih (i + 1) r ω5 w5 (by omega) (top4.stp k5) ?_
        rw [et, ints_app]; exact o5
      · rw [if_neg hne, List.append_nil] at et
        refine ih (i + 1) out ω w4 (by omega) top4 ?_
        rw [et]; exact o4
  exact key q.length 0 nilS (fun _ => 0) w0 (by omega) (Top.init w0) (OT.nil ..)
end Go.Proofs.YtmfgmcajelmgbaaGreatDoor.Bk

namespace Go.Proofs.YtmfgmcajelmgbaaGreatDoor.Rep
open Go Vm Go.RowKit Num Mem
variable {w : World} {α : Type}
theorem flat_at {enc : α → List Value} {k : Nat} (hk : ∀ x, (enc x).length = k) : ∀ (m : List α) (i j : Nat), j < k → (m.flatMap enc)[i * k + j]? = (m[i]?).bind fun x => (enc x)[j]?
  | [], i, j, _ => by simp
  | x :: m, 0, j, hj => by
    simp only [List.flatMap_cons, Nat.zero_mul, Nat.zero_add]
    rw [List.getElem?_append_left (by rw [hk]; exact hj)]; simp
  | x :: m, i + 1, j, hj => by
    simp only [List.flatMap_cons]
    rw [List.getElem?_append_right (by rw [hk, Nat.add_mul]; omega), hk, show (i + 1) * k + j - k = i * k + j by rw [Nat.add_mul]; omega, flat_at hk m i j hj]
    simp
theorem flat_len {enc : α → List Value} {k : Nat} (hk : ∀ x, (enc x).length = k) : ∀ m : List α, (m.flatMap enc).length = m.length * k
  | [] => by simp
  | x :: m => by simp only [List.flatMap_cons, List.length_append, List.length_cons, hk, flat_len hk m, Nat.add_mul]; omega
theorem rows_of [Inhabited α] {s : Sl} {b : Nat} {es : List Sh} {enc : α → List Value} {Q : α → Prop} (hk : ∀ x, (enc x).length = es.length) (hpos : 0 < es.length) (h : Cl w (.sl es) s.v b)
    (inv : ∀ V : Nat → Value, (∀ j sh, es[j]? = some sh → Cl w sh (V j) b) → ∃ x, (∀ j, j < es.length → (enc x)[j]? = some (V j)) ∧ Q x) :
    ∃ m : List α, Rd w s es.length (m.flatMap enc) ∧ s.n = m.length ∧ s.n < b ∧ s.n ≤ maxLen ∧ ∀ x ∈ m, Q x := by
  have hb := h.len
  obtain ⟨f, U, h1, h2, h3, h4, h5, h6, h7⟩ := h.sl_inv
  have get : ∀ i, i < s.n → ∃ x : α, (∀ j, j < es.length → (enc x)[j]? = some (U i j)) ∧ Q x := fun i hi => inv (U i) fun j sh hj => (h7 i j sh hi hj).mono (by have := sumTo_ge f s.n i hi; omega)
  obtain ⟨g, hg⟩ : ∃ g : Nat → α, ∀ i, i < s.n → (∀ j, j < es.length → (enc (g i))[j]? = some (U i j)) ∧ Q (g i) :=
    ⟨fun i => if hi : i < s.n then (get i hi).choose else default, fun i hi => by simp only [dif_pos hi]; exact (get i hi).choose_spec⟩
  refine ⟨(List.range s.n).map g, ⟨h1, by rw [flat_len hk]; simp, fun hne => ?_⟩, by simp, hb, by omega, fun x hx => ?_⟩
  · have hn : 0 < s.n := by
      rcases Nat.eq_zero_or_pos s.n with e | e
      · rw [e] at hne; exact absurd rfl hne
      · exact e
    obtain ⟨gb, o, ha, hc⟩ := h6 hn
    refine ⟨gb, o, ha, fun j v hv => ?_⟩
    have hj : j < s.n * es.length := by
      have := (List.getElem?_eq_some_iff.1 hv).1
      rwa [flat_len hk, List.length_map, List.length_range] at this
    have hi : j / es.length < s.n := Nat.div_lt_of_lt_mul (by rw [Nat.mul_comm]; exact hj)
    have hr : j % es.length < es.length := Nat.mod_lt _ hpos
    have ej : j = j / es.length * es.length + j % es.length := by rw [Nat.mul_comm]; exact (Nat.div_add_mod j es.length).symm
    rw [ej] at hv ⊢
    rw [flat_at hk _ _ _ hr] at hv
    have hm : ((List.range s.n).map g)[j / es.length]? = some (g (j / es.length)) := by simp [hi]
    rw [hm, Option.bind_some, (hg _ hi).1 _ hr] at hv
    injection hv with hv
    rw [← hv]
    obtain ⟨sh, hsh⟩ : ∃ sh, es[j % es.length]? = some sh := ⟨_, List.getElem?_eq_getElem hr⟩
    exact hc _ _ sh hi hsh
  · obtain ⟨i, hi, rfl⟩ := List.mem_map.1 hx
    exact (hg i (List.mem_range.1 hi)).2
end Go.Proofs.YtmfgmcajelmgbaaGreatDoor.Rep

namespace Go.Proofs.YtmfgmcajelmgbaaGreatDoor.Bk
open Go Vm Go.RowKit Num Mem Utf Lib Lab Vint Bits Rep
variable {ω ω' : Tg} {w w' w0 : World} {T : Nat → Bool} {t u g gm : Nat}
theorem rt_one {v : UInt8} (hv : v.toNat < 128) : rt [((⟨#[97]⟩, ⟨#[v]⟩) : Lb)] = (0, 0) := by
  have h1 : namedB (Utf.bytes ⟨#[97]⟩) 64 false = true := by decide
  have h2 : valE (Utf.bytes ⟨#[v]⟩) = 0 := by
    unfold valE
    rw [if_neg (by simp [Utf.bytes]), if_neg (by simp [Utf.bytes]), if_pos (ascii_valid (by simp [Utf.bytes]; exact hv))]
  unfold rt
  rw [if_neg (by simp)]
  unfold rtGo
  rw [if_neg (by rw [h1]; decide), if_neg (by rw [h2]; simp), if_neg (by simp [backB])]
  rfl
def oneS (v : UInt8) : Ser := ([(⟨#[97]⟩, ⟨#[v]⟩)], [(5, 4607182418800017408)])
theorem oneS_ris (v : UInt8) : Chunk.Rising (oneS v).2 := Chunk.Rising.snoc (l := []) .nil (by decide) (by decide) rfl (by decide)
theorem oneS_ok {v : UInt8} (hv : v.toNat < 128) : serE (oneS v) = 0 := by
  have h1 : (oneS v).2 ≠ [] := by unfold oneS; simp
  have h2 : (Chunk.swr [] (oneS v).2 0).1 = 0 := by show (Chunk.swr [] [(5, 4607182418800017408)] 0).1 = 0; decide
  rw [serE_of h1 h2, if_neg ?_]
  have a := put_small (m := (oneS v).1) (by rw [show rt (oneS v).1 = (0, 0) from rt_one hv])
  have b := cpay_len (chs (oneS v).2) (chs_each (oneS_ris v))
  have c : (chs (oneS v).2).length = 1 := by
    have e : (oneS v).2.length = 1 := rfl
    rw [chs_len]; omega
  have d := putU_len64 (n := (chs (oneS v).2).length) (by omega)
  unfold pay
  simp only [List.length_append]
  omega
theorem oneS_ne : (oneS 50).1 ≠ (oneS 49).1 := by
  intro e
  unfold oneS at e
  simp at e
theorem fit2 : Fit [oneS 49, oneS 50] := by
  refine ⟨fun x hx => ?_, fun x hx => ?_, ?_⟩
  · simp only [List.mem_cons, List.not_mem_nil, or_false] at hx
    rcases hx with rfl | rfl <;> (unfold oneS; rw [rt_one (by decide)])
  · simp only [List.mem_cons, List.not_mem_nil, or_false] at hx
    rcases hx with rfl | rfl <;> exact oneS_ok (by decide)
  · simp only [List.map_cons, List.map_nil, List.nodup_cons, List.mem_singleton, List.not_mem_nil, not_false_eq_true, List.nodup_nil, and_true]
    exact fun e => oneS_ne e.symm
theorem blo2 : Blo [oneS 49, oneS 50] := by
  have fit := fit2
  have hfl : ∀ x ∈ [oneS 49, oneS 50], ∀ y ∈ x.2, y.2 < 18446744073709551616 := by
    intro x hx y hy
    simp only [List.mem_cons, List.not_mem_nil, or_false] at hx
    rcases hx with rfl | rfl <;> (unfold oneS at hy; simp only [List.mem_cons, List.not_mem_nil, or_false] at hy; subst hy; decide)
  have hsl : ∀ x ∈ [oneS 49, oneS 50], x.2.length ≤ 11000000 := by
    intro x hx
    simp only [List.mem_cons, List.not_mem_nil, or_false] at hx
    rcases hx with rfl | rfl <;> (unfold oneS; simp)
  refine ⟨fit, hfl, ?_, by simp, hsl, ?_⟩
  · refine List.pairwise_cons.2 ⟨fun y hy => ?_, List.pairwise_singleton ..⟩
    rw [List.mem_singleton] at hy
    subst hy
    have : cmpL (oneS 50).1 (oneS 49).1 = 1 := by decide +kernel
    unfold leS; omega
  · have hh := hd_len (fit_ris fit hfl) (by simp) hsl
    have hf := frameOf_len (m := hd [oneS 49, oneS 50]) (by omega)
    have hg := Vint.flat_len (fs := [oneS 49, oneS 50].map pay) (fun m hm => by
      obtain ⟨x, hx, rfl⟩ := List.mem_map.1 hm
      exact (fit.rising hx).2.2)
    have hm : magicB.length = 8 := rfl
    rw [List.length_map] at hg
    unfold bytesOf
    simp only [List.length_append, List.length_cons, List.length_nil] at hg ⊢
    omega
theorem build2 : buildR [oneS 50, oneS 49] = (bytesOf [oneS 49, oneS 50], 0, 0) := by
  have hw := fit_wrg [oneS 50, oneS 49] [] 0 (by rw [List.nil_append]; exact fit2.perm (List.Perm.swap _ _ _))
  have es : srt [oneS 50, oneS 49] = [oneS 49, oneS 50] := (srt_of (List.Perm.swap _ _ _) (by
    have := (fit2.perm (List.Perm.swap (oneS 49) (oneS 50) [])).nd
    exact this) blo2.up).symm
  have hz := blo2.sz
  unfold buildR
  rw [if_neg (by simp), hw, if_neg (by simp), es, if_neg (by omega)]
theorem post2 : post [oneS 49, oneS 50] (⟨#[97]⟩, ⟨#[50]⟩) = [1] := by decide +kernel
theorem awake_ok (hT : DTab w) (ht : UTab w) (hv : Vint.Tab w) {K : Bool → World → Prop} (hK : ∀ w', Keep w w' → K true w') : C.tocsinlaw10_awake w K := by
  unfold C.tocsinlaw10_awake
  refine newD fun g1 w1 k1 _ b1 => newD fun g2 w2 k2 _ b2 => newD fun g3 w3 k3 _ b3 => newD fun g4 w4 k4 _ b4 => ?_
  have k34 := Keep.trans k3.1 k4.1
  have k24 := Keep.trans k2.1 k34
  have k04 := Keep.trans k1.1 k24
  have hsm : Rd w4 ⟨some ⟨g1, 0, none⟩, 1, 1⟩ 2 (Chunk.smps [(5, 4607182418800017408)]) := by
    have := Rd.blk (o := 0) (n := 1) (c := 1) (sz := 2) (b1.keep k24) (Nat.le_refl _) (by simp)
    simpa [Chunk.smps, Chunk.smpC] using this
  have hl2 : Rd w4 ⟨some ⟨g2, 0, none⟩, 1, 1⟩ 2 (labs [(⟨#[97]⟩, ⟨#[50]⟩)]) := by
    have := Rd.blk (o := 0) (n := 1) (c := 1) (sz := 2) (b2.keep k34) (Nat.le_refl _) (by simp)
    simpa [labs, labC] using this
  have hl1 : Rd w4 ⟨some ⟨g3, 0, none⟩, 1, 1⟩ 2 (labs [(⟨#[97]⟩, ⟨#[49]⟩)]) := by
    have := Rd.blk (o := 0) (n := 1) (c := 1) (sz := 2) (b3.keep k4.1) (Nat.le_refl _) (by simp)
    simpa [labs, labC] using this
  have hq : RdQ w4 ⟨some ⟨g4, 0, none⟩, 2, 2⟩ [(oneS 50, ⟨some ⟨g2, 0, none⟩, 1, 1⟩, ⟨some ⟨g1, 0, none⟩, 1, 1⟩), (oneS 49, ⟨some ⟨g3, 0, none⟩, 1, 1⟩, ⟨some ⟨g1, 0, none⟩, 1, 1⟩)] := by
    refine ⟨?_, fun p hp => ?_⟩
    · have := Rd.blk (o := 0) (n := 2) (c := 2) (sz := 2) b4 (Nat.le_refl _) (by simp)
      simpa [sers, serC] using this
    · simp only [List.mem_cons, List.not_mem_nil, or_false] at hp
      have sz : ∀ v : UInt8, (⟨#[v]⟩ : ByteArray).size = 1 := fun v => rfl
      rcases hp with rfl | rfl
      · exact ⟨hl2, hsm, by unfold oneS; simp, by unfold oneS; simp, by unfold oneS; simp [sz], by unfold oneS; simp⟩
      · exact ⟨hl1, hsm, by unfold oneS; simp, by unfold oneS; simp, by unfold oneS; simp [sz], by unfold oneS; simp⟩
  refine build_ok (hT.keep k04) (ht.keep k04) (hv.keep k04) hq (by simp) fun b w5 k5 o5 => ?_
  have eL : ([(oneS 50, (⟨some ⟨g2, 0, none⟩, 1, 1⟩ : Sl), (⟨some ⟨g1, 0, none⟩, 1, 1⟩ : Sl)), (oneS 49, ⟨some ⟨g3, 0, none⟩, 1, 1⟩, ⟨some ⟨g1, 0, none⟩, 1, 1⟩)] : QS).map (·.1) = [oneS 50, oneS 49] := rfl
  rw [eL, build2] at o5 ⊢
  dsimp only at o5 ⊢
  have k05 := Keep.trans k04 k5
  have hz := blo2.sz
  refine open_ok (hT.keep k05) (ht.keep k05) (hv.keep k05) (OwnB.rd o5) (by omega) 1000 (Nat.le_refl _) (fun hn => ?_) (fun l hl g gm bs rs q es ω6 w6 top6 eq bk => ?_)
  · rw [open_bytes blo2] at hn; cases hn
  rw [open_bytes blo2] at hl
  injection hl with hl
  subst hl
  refine cond_f rfl <| cond_f rfl <| cond_f rfl ?_
  have hql : q.length = 2 := by have := congrArg List.length eq; rw [List.length_map] at this; exact this
  rw [← eq] at bk
  refine postV_ok bk (by omega) (by decide +kernel) ⟨by decide, by decide⟩ fun r ω7 w7 k7 bk7 or7 => ?_
  have hr := or7.rd
  rw [eq, post2] at hr
  have hrn : r.n = 1 := by have := hr.2.1; rw [ints_len] at this; simpa using this.symm
  have top7 := top6.stp k7
  refine cond_t (by simp [hrn]) ?_
  refine Rd.ix hr (by decide) (by decide) (by omega) fun a ha => cI_at (n := 1) (by have := ha 0 (.int .i64 1) (by decide) rfl; rwa [show a.add 0 = a by simp [Addr.add]] at this) ?_
  refine cond_t rfl <| len_ok (bk7.ar (by omega)) <| cond_t (by simp [hql]) ?_
  have hc : cntOf (q.map (·.1)) = 2 := by rw [eq]; rfl
  refine samples_ok (bk7.ar (by omega)) (by omega) fun w8 k8 => ?_
  rw [hc]
  exact hK w8 (Keep.trans k05 (Keep.trans top7.k k8))
theorem labs_of {s : Sl} {b : Nat} (h : Cl w (.sl [.str, .str]) s.v b) : ∃ m : List Lb, Rd w s 2 (labs m) ∧ s.n = m.length ∧ s.n < b ∧ s.n ≤ maxLen ∧ ∀ x ∈ m, x.1.size < b ∧ x.2.size < b :=
  rows_of (α := Lb) (enc := labC) (fun _ => rfl) (by decide) h fun V hV => by
    obtain ⟨s0, e0, h0⟩ := (hV 0 _ rfl).str_inv
    obtain ⟨s1, e1, h1⟩ := (hV 1 _ rfl).str_inv
    refine ⟨(s0, s1), fun j hj => ?_, h0, h1⟩
    match j, hj with
    | 0, _ => rw [e0]; rfl
    | 1, _ => rw [e1]; rfl
theorem smps_of' {s : Sl} {b : Nat} (h : Cl w (.sl [.int .i64, .fl .f64]) s.v b) : ∃ m : List Smp, Rd w s 2 (Chunk.smps m) ∧ s.n = m.length ∧ s.n < b ∧ s.n ≤ maxLen ∧ ∀ x ∈ m, x.2 < 18446744073709551616 :=
  rows_of (α := Smp) (enc := Chunk.smpC) (fun _ => rfl) (by decide) h fun V hV => by
    obtain ⟨n, e0, _⟩ := (hV 0 _ rfl).int_inv
    obtain ⟨v, e1, a3⟩ := (hV 1 _ rfl).fl_inv
    refine ⟨(n, v), fun j hj => ?_, by simpa [Lit.wf] using a3⟩
    match j, hj with
    | 0, _ => rw [e0]; rfl
    | 1, _ => rw [e1]; rfl
instance : Inhabited SQ := ⟨(([], []), nilS, nilS)⟩
abbrev serSh : Sh := .sl [.sl [.str, .str], .sl [.int .i64, .fl .f64]]
theorem sers_of {s : Sl} {b : Nat} (h : Cl w serSh s.v b) (hb : b ≤ 2000000) : ∃ q : QS, RdQ w s q ∧ q.length ≤ 2000000 ∧ ∀ p ∈ q, p.1.1.length ≤ 2000000 := by
  obtain ⟨q, h1, h2, h3, _, h5⟩ := rows_of (α := SQ) (enc := serC) (Q := fun p => SeOk w p ∧ p.1.1.length ≤ 2000000) (fun _ => rfl) (by decide) h fun V hV => by
    obtain ⟨s0, e0⟩ := (hV 0 _ rfl).sl_ex
    obtain ⟨s1, e1⟩ := (hV 1 _ rfl).sl_ex
    have c0 := hV 0 _ rfl
    have c1 := hV 1 _ rfl
    rw [e0] at c0
    rw [e1] at c1
    obtain ⟨l, a1, a2, a3, _, a5⟩ := labs_of c0
    obtain ⟨m, b1, b2, b3, _, b5⟩ := smps_of' c1
    refine ⟨((l, m), s0, s1), fun j hj => ?_, ⟨a1, b1, b5, by dsimp only; omega, fun x hx => by have := (a5 x hx).2; omega, by dsimp only; omega⟩, by dsimp only; omega⟩
    match j, hj with
    | 0, _ => rw [e0]; rfl
    | 1, _ => rw [e1]; rfl
  exact ⟨q, ⟨h1, fun p hp => (h5 p hp).1⟩, by omega, fun p hp => (h5 p hp).2⟩
end Go.Proofs.YtmfgmcajelmgbaaGreatDoor.Bk

namespace Go.Proofs.YtmfgmcajelmgbaaGreatDoor.Bk
open Go Vm Go.RowKit Num Mem Utf Lib Lab Vint Bits Rep
variable {ω ω' : Tg} {w w' w0 : World} {T : Nat → Bool} {t u g gm : Nat}
def f2 (x : Nat) : Nat := if x = 2 then 2 else if x = 71 then 71 else if x = 72 then 72 else 0
end Go.Proofs.YtmfgmcajelmgbaaGreatDoor.Bk

namespace Go.Proofs.YtmfgmcajelmgbaaGreatDoor.Mem
open Go Vm Go.RowKit Num
variable {ω ω' : Tg} {w w' : World} {t g u r : Nat} {al rest : LL} {T : Nat → Bool} {P : Program}
structure IL (ω : Tg) (w : World) (u r t g : Nat) (al rest : LL) : Prop where
  ex : ∃ es clock since seen c0, w.heap[g]? = some (.map es clock) ∧ MapKept.Stamped es clock ∧ es.toList.map (fun e => (e.key, e.val)) = al.map encL ∧
    w.heap[r]? = some (.mapIter (some g) since seen c0) ∧ (∀ x ∈ es.toList, x.born < since) ∧ since ≤ c0 ∧ since ≤ clock ∧ (leftOf es seen).toList.map (fun e => (e.key, e.val)) = rest.map encL
  tg : ω g = t
  tr : ω r = u
theorem IL.stp (h : IL ω w u r t g al rest) (s : Stp T ω ω' w w') (n1 : T u = false) (n2 : T t = false) : IL ω' w' u r t g al rest := by
  obtain ⟨es, clock, since, seen, c0, hb, hs, he, hr, x⟩ := h.ex
  exact ⟨⟨es, clock, since, seen, c0, by rw [s.block g (heap_lt hb) (by rw [h.tg]; exact n2)]; exact hb, hs, he, by rw [s.block r (heap_lt hr) (by rw [h.tr]; exact n1)]; exact hr, x⟩, (s.same g (heap_lt hb)).trans h.tg, (s.same r (heap_lt hr)).trans h.tr⟩
theorem rangeL {mt kt et : TypeId} (u : Nat) (h : ML ω w t g al) (hm : P.underlying mt = some (.map kt et)) {K : Option Addr → World → Prop}
    (hK : ∀ r ω' w', Stp Non ω ω' w w' → IL ω' w' u r t g al al → K (some ⟨r, 0, none⟩) w') : G.runP P (Instr.range mt (.map (some g))) w K := by
  obtain ⟨es, clock, hb, hs, he⟩ := h.ex
  have hg := heap_lt hb
  refine ⟨some ⟨w.heap.size, 0, none⟩, w.alloc (.mapIter (some g) clock #[] clock), ?_, hK w.heap.size (ext ω w.heap.size u) _ ((Keep.alloc w _).stp ω u) ⟨⟨es, clock, clock, #[], clock, (Keep.alloc w _).heap hb, hs, he, World.alloc_heap_new w _, ((MapKept.stamped_iff es clock).1 hs).1, Nat.le_refl _, Nat.le_refl _, ?_⟩, ?_, ext_new (Nat.le_refl _)⟩⟩
  · simp [Instr.range, run_underlying hm, MapKept.run_getObj_map hb, Result.andThen, newObj, Sem.run]
  · rw [← he]; simp only [leftOf, Array.toList_filter]; rw [List.filter_eq_self.2 (by simp)]
  · rw [ext_old hg]; exact h.tag
theorem nextL {ty : TypeId} (h : IL ω w u r t g al rest) {K0 : World → Prop} {K1 : Value → Value → World → Prop} (h0 : rest = [] → K0 w)
    (h1 : ∀ a x b ω' w', rest = a ++ x :: b → Stp (One u) ω ω' w w' → IL ω' w' u r t g al (a ++ b) → (∀ K : Value → Value → Prop, K (lbV x.1) x.2 → G.ent P (Instr.entry (.pointer (some ⟨r, 0, none⟩))) w' K) → ∀ k v, K1 k v w') :
    G.nxt P (Instr.next (.pointer (some ⟨r, 0, none⟩)) false ty) w K0 K1 := by
  obtain ⟨es, clock, since, seen, c0, hb, hs, he, hr, hold, hsc, hcl, hl⟩ := h.ex
  have hn := ((MapKept.stamped_iff es clock).1 hs).2.1
  have hne : r ≠ g := fun e => by subst e; rw [hb] at hr; cases hr
  rcases run_next_at (P := P) w ty r g since c0 seen es clock hr hb hold hsc with ⟨hz, hrun⟩ | ⟨e, hem, w1, hw1, hrun⟩
  · refine ⟨w, .inl ⟨hrun, h0 ?_⟩⟩
    have : rest.length = 0 := by have := congrArg List.length hl; simpa [hz] using this.symm
    exact List.eq_nil_of_length_eq_zero this
  · obtain ⟨a, b, hab, hab'⟩ := left_push hn hem
    rw [hab] at hl
    simp only [List.map_append, List.map_cons] at hl
    obtain ⟨ra, rb, hrab, h2, h3⟩ := List.map_eq_append_iff.1 hl.symm
    cases rb with
    | nil => simp at h3
    | cons x rb =>
      simp only [List.map_cons, List.cons.injEq, encL, Prod.mk.injEq] at h3
      have s1 : Stp (One u) ω ω w w1 := by
        rcases hw1 with rfl | rfl
        · exact Stp.refl _ _ _
        · exact (drew_stp ω w).non _
      have hb1 : w1.heap[g]? = some (.map es clock) := by rcases hw1 with rfl | rfl <;> exact hb
      have hr1 : w1.heap[r]? = some (.mapIter (some g) since seen c0) := by rcases hw1 with rfl | rfl <;> exact hr
      have hb2 : (ChangeMaps.setBlock w1 r (.mapIter (some g) since (seen.push e.born) clock)).heap[g]? = some (.map es clock) := by
        simp [ChangeMaps.setBlock, hne, hb1]
      have hr2 : (ChangeMaps.setBlock w1 r (.mapIter (some g) since (seen.push e.born) clock)).heap[r]? = some (.mapIter (some g) since (seen.push e.born) clock) := by
        have := heap_lt hr1
        simp [ChangeMaps.setBlock, this]
      have hes : e ∈ es.toList := by
        have : (leftOf es seen).toList.Sublist es.toList := by simp only [leftOf, Array.toList_filter]; exact List.filter_sublist
        exact this.subset hem
      refine ⟨_, .inr ⟨e.key, e.val, hrun, h1 ra x rb ω _ hrab (s1.trans (setBlock_stp h.tr)) ⟨⟨es, clock, since, seen.push e.born, clock, hb2, hs, he, hr2, hold, hcl, hcl, ?_⟩, h.tg, h.tr⟩ (fun K hK => ⟨_, _, run_entry_at _ r g since seen es clock e hr2 hb2 hes hn, ?_⟩) _ _⟩⟩
      · rw [hab', List.map_append, List.map_append, h2, ← h3.2]
      · have e1 : e.key = lbV x.1 := h3.1.1.symm
        have e2 : e.val = x.2 := h3.1.2.symm
        rw [e1, e2]; exact hK
end Go.Proofs.YtmfgmcajelmgbaaGreatDoor.Mem

namespace Go.Proofs.YtmfgmcajelmgbaaGreatDoor.Bk
open Go Vm Go.RowKit Num Mem Utf Lib Lab Vint Bits Rep
variable {ω ω' : Tg} {w w' w0 : World} {T : Nat → Bool} {t u g gm : Nat}
theorem ag_at {cs : Array Value} {n : Nat} {K : Array Value → Prop} (hn : cs.size = n) (hK : K cs) : G.ag (.agg cs) n K := by
  subst hn
  show bif Nat.beq cs.size cs.size then K cs else False
  rw [Nat.beq_refl]; exact hK
theorem unique_ok {s : Sl} {ns : List ByteArray} (h : OT ω w t 9 1 s (strs ns)) (hl : ns.length ≤ 100000000) {K : Sl → World → Prop}
    (hK : ∀ r ω' w', Stp (Mem.One t) ω ω' w w' → OT ω' w' t 9 1 r (strs (uniq ns)) → K r w') : C.block_unique s w K := by
  have hn := strs_n h.rd
  unfold C.block_unique C.slices_Sort_string_string
  rw [strs_enc] at h
  refine Srt.sort_T h (by omega) fun ω1 w1 k1 o1 => ?_
  rw [msort_W, ← strs_enc] at o1
  exact compact_ok o1 (by rw [(srtW_perm ns).length_eq]; exact hl) fun r ω2 w2 k2 o2 => hK r ω2 w2 (k1.trans k2) o2
def valsI (n : ByteArray) (ks : List Lb) : List ByteArray := ks.flatMap fun x => if x.1 = n then [x.2] else []
theorem mem_valsI {n v : ByteArray} {ks : List Lb} : v ∈ valsI n ks ↔ (n, v) ∈ ks := by
  unfold valsI
  rw [List.mem_flatMap]
  constructor
  · rintro ⟨x, hx, h⟩
    split at h
    · rename_i e
      rw [List.mem_singleton.1 h, ← e]; exact hx
    · cases h
  · intro h
    exact ⟨(n, v), h, by rw [if_pos rfl]; exact List.mem_singleton.2 rfl⟩
theorem valsI_len (n : ByteArray) : ∀ ks : List Lb, (valsI n ks).length ≤ ks.length
  | [] => Nat.le_refl _
  | x :: r => by
    have := valsI_len n r
    unfold valsI at this ⊢
    rw [List.flatMap_cons, List.length_append, List.length_cons]
    split <;> simp only [List.length_nil, List.length_cons] <;> omega
theorem uniq_congr {a b : List ByteArray} (h : ∀ x, x ∈ a ↔ x ∈ b) : uniq a = uniq b := ups_uniq (uniq_ups a) (uniq_ups b) fun x => by rw [mem_uniq, mem_uniq]; exact h x
theorem values_ok {gm : Nat} {F : Lb → List Nat} {es : List IE} {t u : Nat} (hh : w.cell? ⟨g, 2, none⟩ = some (.map (some gm))) (ix : IX ω w t u gm F es) (hes : es.length ≤ 20000000) {n : ByteArray} {K : Sl → World → Prop}
    (hK : ∀ r ω' w', Top w ω' w' → OT ω' w' 1 9 1 r (strs (uniq (valsI n (es.map (·.1))))) → K r w') : C.block_Block_Values (some ⟨g, 0, none⟩) n w K := by
  unfold C.block_Block_Values C.block_Block_Values.S9
  have m0 : ML (fun _ => 0) w 0 gm (es.map encI) := ⟨ix.mp.ex, rfl, ix.mp.sm⟩
  refine cond_f rfl <| ptr_at <| ⟨some gm, by rw [addr_add]; exact hh, rangeL 2 m0 mapX fun r ω1 w1 k1 i1 => ?_⟩
  refine C.block_Block_Values.L5_ind fun X hX => ?_
  have key : ∀ (d : Nat) (ns : List ByteArray) (rest : LL) (l : Sl) (ω : Tg) (w2 : World), rest.length = d → OT ω w2 1 9 1 l (strs ns) → IL ω w2 2 r 0 gm (es.map encI) rest → (ns ++ valsI n (rest.map (·.1))).Perm (valsI n (es.map (·.1))) → Top w ω w2 → X n l (some ⟨r, 0, none⟩) w2 := by
    intro d
    induction d with
    | zero =>
      intro ns rest l ω w2 hd o i pm t2
      refine hX _ _ _ _ ?_
      unfold C.block_Block_Values.S7
      refine nextL i (fun _ => ?_) (fun a x b ω' w' hr => by rw [hr] at hd; simp at hd)
      unfold C.block_Block_Values.S2
      have hr : rest = [] := List.eq_nil_of_length_eq_zero hd
      subst hr
      have pm : ns.Perm (valsI n (es.map (·.1))) := by simpa [valsI] using pm
      have hcn := pm.length_eq
      have := valsI_len n (es.map (·.1))
      rw [List.length_map] at this
      refine unique_ok o (by omega) fun q ω' w' k' o' => ?_
      rw [uniq_congr fun x => pm.mem_iff] at o'
      exact hK q ω' w' (t2.stp k') o'
    | succ d ih =>
      intro ns rest l ω w2 hd o i pm t2
      refine hX _ _ _ _ ?_
      unfold C.block_Block_Values.S7
      refine nextL i (fun hr => by rw [hr] at hd; simp at hd) (fun a x b ω' w' hr k' i' en k v => en _ ?_)
      have o' := o.stp k'
      have hlen := strs_n o'.rd
      have hb : ns.length ≤ 20000000 := by
        have h1 := pm.length_eq
        have h2 := valsI_len n (es.map (·.1))
        simp only [List.length_append, List.length_map] at h1 h2
        omega
      have hvr : (ns ++ valsI n [x.1] ++ valsI n ((a ++ b).map (·.1))).Perm (valsI n (es.map (·.1))) := by
        refine List.Perm.trans ?_ pm
        rw [hr]
        unfold valsI
        simp only [List.map_append, List.map_cons, List.flatMap_append, List.flatMap_cons, List.flatMap_nil, List.append_nil, List.append_assoc]
        refine List.Perm.append_left _ ?_
        rw [← List.append_assoc, ← List.append_assoc]
        exact List.Perm.append_right _ List.perm_append_comm
      refine ag_at (cs := #[.string x.1.1, .string x.1.2]) rfl ⟨x.1.1, rfl, x.1.2, rfl, ?_⟩
      refine locL fun g3 w3 k3 hg b3 => cS_at (b := x.1.1) (by rw [b3.cell]; rfl) ?_
      have s3 := k3.1.stp0 ω'
      have o3 := o'.stp s3
      have i3 := i'.stp s3 rfl rfl
      have t3 := (t2.stp k').stp s3
      have hd' : (a ++ b).length = d := by rw [hr] at hd; simp at hd ⊢; omega
      rw [ba_ne]
      refine cond_d (fun he => ?_) (fun he => ?_)
      · have e1 : valsI n [x.1] = [x.1.2] := by unfold valsI; rw [List.flatMap_cons, if_pos he]; rfl
        rw [e1] at hvr
        refine cS_at (b := x.1.2) (by rw [addr_add, b3.cell]; rfl) ?_
        refine push_T tiSt o3 (n := 1) rfl (by intro v hv; simp at hv; subst hv; rfl) (by rw [hlen]; simp only [maxLen]; omega) (by rw [hlen]; omega) fun q ω4 w4 k4 o4 hq => ?_
        exact ih (ns ++ [x.1.2]) (a ++ b) q ω4 w4 hd' (by rw [strs_app]; exact o4) (i3.stp k4 rfl rfl) hvr (t3.stp k4)
      · have e1 : valsI n [x.1] = [] := by unfold valsI; rw [List.flatMap_cons, if_neg he]; rfl
        rw [e1, List.append_nil] at hvr
        exact ih ns (a ++ b) l ω' w3 hd' o3 i3 hvr t3
  exact key (es.map encI).length [] (es.map encI) nilS ω1 w1 rfl (OT.nil ..) i1 (by rw [keysI]; exact List.Perm.refl _) ((Top.init w).stp k1)
theorem postGo_ne {x : Lb} : ∀ {l : List Ser} {i : Nat}, postGo x l i ≠ [] ↔ ∃ s ∈ l, x ∈ s.1
  | [], _ => ⟨fun h => absurd rfl h, fun ⟨_, h, _⟩ => by cases h⟩
  | s :: r, i => by
    rw [postGo]
    split
    · rename_i h; exact ⟨fun _ => ⟨s, List.mem_cons_self .., hasL_iff.1 h⟩, fun _ => by simp⟩
    · rename_i h
      rw [postGo_ne (l := r)]
      constructor
      · rintro ⟨y, hy, e⟩; exact ⟨y, List.mem_cons_of_mem _ hy, e⟩
      · rintro ⟨y, hy, e⟩
        rcases List.mem_cons.1 hy with rfl | hy
        · exact absurd (hasL_iff.2 e) h
        · exact ⟨y, hy, e⟩
theorem IX.mem {es : List IE} {L : List Ser} (ix : IX ω w t u gm (post L) es) {x : Lb} : x ∈ es.map (·.1) ↔ ∃ s ∈ L, x ∈ s.1 := by
  rw [← postGo_ne (i := 0)]
  constructor
  · intro h
    obtain ⟨e, he, rfl⟩ := List.mem_map.1 h
    exact ix.ne e he
  · exact ix.all x
theorem vals_idx {es : List IE} {L : List Ser} (ix : IX ω w t u gm (post L) es) (hrt : ∀ x ∈ L, (rt x.1).1 = 0) (n : ByteArray) : ∀ v, v ∈ valsI n (es.map (·.1)) ↔ v ∈ valsR n L := by
  intro v
  rw [mem_valsI, ix.mem, mem_vals]
  constructor
  · rintro ⟨s, hs, h⟩
    have hv : v ≠ (⟨#[]⟩ : ByteArray) := rt_vals (hrt s hs) _ h
    exact ⟨hv, s, hs, (get_mem hv (rt_names (hrt s hs))).1 h⟩
  · rintro ⟨hv, s, hs, e⟩
    exact ⟨s, hs, (get_mem hv (rt_names (hrt s hs))).2 e⟩
def f62 (x : Nat) : Nat := if x = 1 then 62 else 0
theorem BK.values {bs rs : Sl} {b : List UInt8} {q : QS} {es : List IE} {k : Int} (h : BK ω w t g gm bs rs b q (post (q.map (·.1))) es k) {n : ByteArray} {K : Sl → World → Prop}
    (hK : ∀ r ω' w', Stp Non ω ω' w w' → OT ω' w' 62 9 1 r (strs (uniq (valsR n (q.map (·.1))))) → K r w') : C.block_Block_Values (some ⟨g, 0, none⟩) n w K := by
  refine values_ok (by rw [h.hd.cell]; rfl) h.ix h.n fun r ω' w' top o => hK r (rtg ω ω' w.heap.size f62) w' (rtg_stp top.k ω ω' f62) ?_
  rw [uniq_congr (vals_idx h.ix (fun x hx => ?_) n)] at o
  · exact o.rtg top f62
  · obtain ⟨p, hp, rfl⟩ := List.mem_map.1 hx
    exact (h.el p hp).rt
theorem BK.post {bs rs : Sl} {b : List UInt8} {q : QS} {es : List IE} {k : Int} (h : BK ω w t g gm bs rs b q (post (q.map (·.1))) es k) (hq : q.length ≤ 1000000) {name value : ByteArray} (hs : sml (name, value)) {K : Sl → World → Prop}
    (hK : ∀ r ω' w', Stp (Mem.One t) ω ω' w w' → BK ω' w' t g gm bs rs b q (Bk.post (q.map (·.1))) es (IntKind.i64.wrap (k + 1)) → OT ω' w' 63 3 1 r (ints (postF name value (q.map (·.1)) 0)) → K r w') : C.block_Block_Postings (some ⟨g, 0, none⟩) name value w K := by
  have hrt : ∀ x ∈ q.map (·.1), (rt x.1).1 = 0 := fun x hx => by
    obtain ⟨p, hp, rfl⟩ := List.mem_map.1 hx
    exact (h.el p hp).rt
  by_cases hv : value = (⟨#[]⟩ : ByteArray)
  · subst hv
    unfold C.block_Block_Postings
    refine cond_f rfl <| ptr_at <| asked_ok h fun ω1 w1 k1 b1 => ?_
    refine cond_f (by simp) ?_
    unfold C.block_Block_Postings.S9
    refine ptr_at <| cSl_at (s := rs) (by rw [addr_add, b1.hd.cell]; rfl) ?_
    have hrd := b1.rd
    exact postE_ok hrd (by omega) (fun p hp => by have := (rt_short (b1.el p hp).rt).1; omega) fun r w2 k2 o2 => hK r (ext ω1 w1.heap.size 63) w2 (k1.trans ((k2.stp ω1 63).non _)) (b1.stp (k2.stp ω1 63) (off_non t)) (Own.tag o2 (Nat.le_refl _) ω1 63)
  · refine postV_ok h hq (fun e => hv (ba_inj e)) hs fun r ω' w' k1 b1 r1 => hK r ω' w' k1 b1 ?_
    unfold Bk.post at r1
    rwa [post_F hv _ _ hrt] at r1
theorem BK.labels {bs rs : Sl} {b : List UInt8} {q : QS} {F : Lb → List Nat} {es : List IE} {k : Int} (h : BK ω w t g gm bs rs b q F es k) (i : Int) {K : Sl → Int → World → Prop}
    (hN : (i < 0 ∨ i ≥ q.length) → K nilS 5 w) (hK : ∀ (j : Nat) (p : SQ), i = j → q[j]? = some p → ∀ r w', Keep w w' → Mem.Own w' w.heap.size 93 2 r (labs p.1.1) → K r 0 w') : C.block_Block_Labels (some ⟨g, 0, none⟩) i w K := by
  have hn := h.rd.n
  unfold C.block_Block_Labels
  refine cond_f rfl <| cond_d (fun h0 => hN (.inl h0)) (fun h0 => ?_)
  refine ptr_at <| cSl_at (s := rs) (by rw [addr_add, h.hd.cell]; rfl) <| cond_d (fun h1 => hN (.inr (by omega))) (fun h1 => ?_)
  have hj : i.toNat < q.length := by omega
  have hx : q[i.toNat]? = some q[i.toNat] := List.getElem?_eq_getElem hj
  refine ptr_at <| cSl_at (s := rs) (by rw [addr_add, h.hd.cell]; rfl) <| rdQ_at h.rd.rd (k := i.toNat) (by omega) hx fun a a0 a1 => cSl_at a0 ?_
  have hs := h.el _ (List.getElem_mem hj)
  refine cloneL_ok hs.lb.rd (by have := (rt_short hs.rt).1; omega) fun r w' k' o => hK i.toNat _ (by omega) hx r w' k' o
def inS (a b : Int) (s : Smp) : Bool := decide (s.1 ≥ a) && decide (s.1 ≤ b)
def wit (a b : Int) (l : List Smp) : List Smp := l.filter (inS a b)
theorem wit_len (a b : Int) (l : List Smp) : (wit a b l).length ≤ l.length := List.length_filter_le _ _
theorem wit_take {a b : Int} {m : List Smp} {i : Nat} (hi : i < m.length) : wit a b (m.take (i + 1)) = wit a b (m.take i) ++ (if inS a b m[i] = true then [m[i]] else []) := by
  unfold wit
  rw [List.take_succ_eq_append_getElem hi, List.filter_append]
  congr 1
  by_cases h : inS a b m[i] = true
  · rw [if_pos h]; simp [h]
  · rw [if_neg h]; simp [h]
theorem rwithin_ok {s : Sl} {m : List Smp} (hs : Rd w0 s 2 (Chunk.smps m)) (hl : m.length ≤ 11000000) {a b : Int} {K : Sl → World → Prop} (hK : ∀ r w', Keep w0 w' → Rd w' r 2 (Chunk.smps (wit a b m)) → K r w') : C.tocsinref08_Within.L5 (fun r w => K r w) a b nilS s ((s.n : Nat) : Int) (0 : Int) w0 := by
  have hsn := smN hs
  refine C.tocsinref08_Within.L5_ind fun X hX => ?_
  have key : ∀ (d i : Nat) (q : Sl) (ω : Tg) (w : World), i + d = m.length → Top w0 ω w → OT ω w 5 96 2 q (Chunk.smps (wit a b (m.take i))) → X a b q s ((s.n : Nat) : Int) (i : Int) w := by
    intro d
    induction d with
    | zero =>
      intro i q ω w hi top o
      refine hX _ _ _ _ _ _ _ ?_
      unfold C.tocsinref08_Within.S7 C.tocsinref08_Within.S2
      rw [show i = m.length by omega, List.take_length] at o
      exact cond_d (fun h => by omega) (fun _ => hK q w top.k o.rd)
    | succ d ih =>
      intro i q ω w hi top o
      have him : i < m.length := by omega
      refine hX _ _ _ _ _ _ _ ?_
      unfold C.tocsinref08_Within.S7
      refine cond_d (fun _ => ?_) (fun h => by omega)
      have hx : m[i]? = some m[i] := List.getElem?_eq_getElem him
      refine Chunk.rdS_at (hs.keep top.k) (k := i) rfl hx fun p hc0 hc1 => cI_at hc0 <| cF_at hc1 ?_
      refine new_T (ω := ω) 7 fun g ω2 w2 k2 b2 => ?_
      refine st_T b2 (by simp) fun ω3 w3 k3 b3 => ?_
      refine st_TA b3 (by simp) fun ω4 w4 k4 b4 => ?_
      have s4 := (k2.non (Mem.One 7)).trans (k3.trans k4)
      have o4 := o.stp s4 rfl
      have top4 := top.stp s4
      rw [wI64 (x := (i : Int) + 1) (by omega) (by omega), show (i : Int) + 1 = ((i + 1 : Nat) : Int) by omega]
      have no : inS a b m[i] = false → X a b q s ((s.n : Nat) : Int) ((i + 1 : Nat) : Int) w4 := fun hin => ih (i + 1) q ω4 w4 (by omega) top4 (by rw [wit_take him, hin]; simpa using o4)
      refine cI_at (n := m[i].1) (by rw [b4.cell]; rfl) (cond_d (fun g1 => ?_) (fun g1 => no (by unfold inS; rw [decide_eq_false g1]; rfl)))
      refine cI_at (n := m[i].1) (by rw [b4.cell]; rfl) (cond_d (fun g2 => ?_) (fun g2 => no (by unfold inS; rw [decide_eq_false g2]; simp)))
      have hin : inS a b m[i] = true := by unfold inS; rw [decide_eq_true g1, decide_eq_true g2]; rfl
      refine cI_at (n := m[i].1) (by rw [b4.cell]; rfl) <| cF_at (b := m[i].2) (by rw [addr_add, b4.cell]; rfl) ?_
      have hn := smN o4.rd
      have hwl := wit_len a b (m.take i)
      rw [List.length_take] at hwl
      refine push_T tiS o4 (n := 1) rfl (by intro v hv; simp at hv; rcases hv with rfl | rfl <;> rfl) (by simp only [maxLen]; omega) (by omega) fun q' ω5 w5 k5 o5 hq => ?_
      refine ih (i + 1) q' ω5 w5 (by omega) (top4.stp k5) ?_
      rw [wit_take him, hin, if_pos rfl, Chunk.smps_app]
      exact o5
  exact key m.length 0 nilS (fun _ => 0) w0 (by omega) (Top.init w0) (OT.nil _ _ _ _ _)
theorem serL_ok {s : Sl} {m : List Smp} (hs : Rd w0 s 2 (Chunk.smps m)) (hl : m.length ≤ 11000000) {a b : Int} {K : Sl → Int → World → Prop} (hK : ∀ r w', Keep w0 w' → Rd w' r 2 (Chunk.smps (wit a b m)) → K r 0 w') : C.block_Block_Series.L5 (fun r n w => K r n w) a b nilS s ((s.n : Nat) : Int) (0 : Int) w0 := by
  have hsn := smN hs
  refine C.block_Block_Series.L5_ind fun X hX => ?_
  have key : ∀ (d i : Nat) (q : Sl) (ω : Tg) (w : World), i + d = m.length → Top w0 ω w → OT ω w 5 96 2 q (Chunk.smps (wit a b (m.take i))) → X a b q s ((s.n : Nat) : Int) (i : Int) w := by
    intro d
    induction d with
    | zero =>
      intro i q ω w hi top o
      refine hX _ _ _ _ _ _ _ ?_
      unfold C.block_Block_Series.S7 C.block_Block_Series.S2
      rw [show i = m.length by omega, List.take_length] at o
      exact cond_d (fun h => by omega) (fun _ => hK q w top.k o.rd)
    | succ d ih =>
      intro i q ω w hi top o
      have him : i < m.length := by omega
      refine hX _ _ _ _ _ _ _ ?_
      unfold C.block_Block_Series.S7
      refine cond_d (fun _ => ?_) (fun h => by omega)
      have hx : m[i]? = some m[i] := List.getElem?_eq_getElem him
      refine Chunk.rdS_at (hs.keep top.k) (k := i) rfl hx fun p hc0 hc1 => cI_at hc0 <| cF_at hc1 ?_
      refine new_T (ω := ω) 7 fun g ω2 w2 k2 b2 => ?_
      refine st_T b2 (by simp) fun ω3 w3 k3 b3 => ?_
      refine st_TA b3 (by simp) fun ω4 w4 k4 b4 => ?_
      have s4 := (k2.non (Mem.One 7)).trans (k3.trans k4)
      have o4 := o.stp s4 rfl
      have top4 := top.stp s4
      rw [wI64 (x := (i : Int) + 1) (by omega) (by omega), show (i : Int) + 1 = ((i + 1 : Nat) : Int) by omega]
      have no : inS a b m[i] = false → X a b q s ((s.n : Nat) : Int) ((i + 1 : Nat) : Int) w4 := fun hin => ih (i + 1) q ω4 w4 (by omega) top4 (by rw [wit_take him, hin]; simpa using o4)
      refine cI_at (n := m[i].1) (by rw [b4.cell]; rfl) (cond_d (fun g1 => ?_) (fun g1 => no (by unfold inS; rw [decide_eq_false g1]; rfl)))
      refine cI_at (n := m[i].1) (by rw [b4.cell]; rfl) (cond_d (fun g2 => ?_) (fun g2 => no (by unfold inS; rw [decide_eq_false g2]; simp)))
      have hin : inS a b m[i] = true := by unfold inS; rw [decide_eq_true g1, decide_eq_true g2]; rfl
      refine cI_at (n := m[i].1) (by rw [b4.cell]; rfl) <| cF_at (b := m[i].2) (by rw [addr_add, b4.cell]; rfl) ?_
      have hn := smN o4.rd
      have hwl := wit_len a b (m.take i)
      rw [List.length_take] at hwl
      refine push_T tiS o4 (n := 1) rfl (by intro v hv; simp at hv; rcases hv with rfl | rfl <;> rfl) (by simp only [maxLen]; omega) (by omega) fun q' ω5 w5 k5 o5 hq => ?_
      refine ih (i + 1) q' ω5 w5 (by omega) (top4.stp k5) ?_
      rw [wit_take him, hin, if_pos rfl, Chunk.smps_app]
      exact o5
  exact key m.length 0 nilS (fun _ => 0) w0 (by omega) (Top.init w0) (OT.nil _ _ _ _ _)
theorem BK.series {bs rs : Sl} {b : List UInt8} {q : QS} {F : Lb → List Nat} {es : List IE} {k : Int} (h : BK ω w t g gm bs rs b q F es k) (i from_ to_ : Int) {K : Sl → Int → World → Prop}
    (hN : (i < 0 ∨ i ≥ q.length) → ∀ ω' w', Stp (Mem.One t) ω ω' w w' → BK ω' w' t g gm bs rs b q F es (IntKind.i64.wrap (k + 1)) → K nilS 5 w')
    (hK : ∀ (j : Nat) (p : SQ), i = j → q[j]? = some p → ∀ r ω' w', Stp (Mem.One t) ω ω' w w' → BK ω' w' t g gm bs rs b q F es (IntKind.i64.wrap (k + 1)) → Rd w' r 2 (Chunk.smps (wit from_ to_ p.1.2)) → K r 0 w') : C.block_Block_Series (some ⟨g, 0, none⟩) i from_ to_ w K := by
  unfold C.block_Block_Series
  refine cond_f rfl <| ptr_at <| asked_ok h fun ω1 w1 k1 b1 => ?_
  have hn := b1.rd.n
  refine cond_d (fun h0 => hN (.inl h0) ω1 w1 k1 b1) (fun h0 => ?_)
  refine ptr_at <| cSl_at (s := rs) (by rw [addr_add, b1.hd.cell]; rfl) <| cond_d (fun h1 => hN (.inr (by omega)) ω1 w1 k1 b1) (fun h1 => ?_)
  unfold C.block_Block_Series.S9
  have hj : i.toNat < q.length := by omega
  have hx : q[i.toNat]? = some q[i.toNat] := List.getElem?_eq_getElem hj
  refine ptr_at <| cSl_at (s := rs) (by rw [addr_add, b1.hd.cell]; rfl) <| rdQ_at b1.rd.rd (k := i.toNat) (by omega) hx fun a a0 a1 => cSl_at a1 ?_
  have hs := b1.el _ (List.getElem_mem hj)
  exact serL_ok hs.sm.rd hs.sl fun r w2 k2 r2 => hK i.toNat _ (by omega) hx r _ w2 (k1.trans ((k2.stp0 ω1).non _)) (b1.stp (k2.stp0 ω1) (off_non t)) r2
theorem built_ok (hT : DTab w0) (ht : UTab w0) (hv : Vint.Tab w0) {s : Sl} {q : QS} (h : RdQ w0 s q) (hl : q.length ≤ 2000000) {K : Option Addr → World → Prop}
    (hN : (buildR (q.map (·.1))).2.1 ≠ 0 → ∀ w', Keep w0 w' → K none w')
    (hK : (buildR (q.map (·.1))).2.1 = 0 → Blo (srt (q.map (·.1))) → ∀ g gm bs rs q2 es ω' w', Top w0 ω' w' → q2.map (·.1) = srt (q.map (·.1)) → q2.length ≤ 1000 → BK ω' w' 1000 g gm bs rs (bytesOf (srt (q.map (·.1)))) q2 (post (q2.map (·.1))) es 0 → K (some ⟨g, 0, none⟩) w') : C.tocsinlaw10_built s w0 K := by
  unfold C.tocsinlaw10_built
  refine build_ok hT ht hv h (by omega) fun b w1 k1 o1 => ?_
  have hf : ∀ x ∈ q.map (·.1), ∀ y ∈ x.2, y.2 < 18446744073709551616 := fun x hx y hy => by
    obtain ⟨p, hp, rfl⟩ := List.mem_map.1 hx; exact (h.el p hp).fl y hy
  have hs : ∀ x ∈ q.map (·.1), x.2.length ≤ 11000000 := fun x hx => by
    obtain ⟨p, hp, rfl⟩ := List.mem_map.1 hx; exact (h.el p hp).sl
  refine cond_ne (fun hbad => hN hbad w1 k1) (fun hok => ?_)
  obtain ⟨bl, eb⟩ := blo_of hok hf hs
  rw [eb] at o1
  have hz := bl.sz
  refine open_ok (hT.keep k1) (ht.keep k1) (hv.keep k1) (OwnB.rd o1) (by omega) 1000 (Nat.le_refl _) (fun hn => ?_) (fun l hl' g gm bs rs q2 es ω2 w2 top2 eq bk => ?_)
  · rw [open_bytes bl] at hn; cases hn
  rw [open_bytes bl] at hl'
  injection hl' with hl'
  subst hl'
  have hq2 : q2.length ≤ 1000 := by have := congrArg List.length eq; rw [List.length_map] at this; have := bl.n; omega
  refine cond_f rfl (hK hok bl g gm bs rs q2 es ω2 w2 (Top.of k1 top2) eq hq2 ?_)
  rw [eq]; exact bk
end Go.Proofs.YtmfgmcajelmgbaaGreatDoor.Bk

namespace Go.Proofs.YtmfgmcajelmgbaaGreatDoor.Bk
open Go Vm Go.RowKit Num Mem Utf Lib Lab Vint Bits Rep
variable {ω ω' : Tg} {w w' w0 : World} {T : Nat → Bool} {t u g gm : Nat}
theorem askedL_ok {bs rs : Sl} {b : List UInt8} {q : QS} {F : Lb → List Nat} {es : List IE} {k : Int} (h : BK ω w t g gm bs rs b q F es k) {K : Int → World → Prop} (hK : K k w) : C.block_Block_Asked (some ⟨g, 0, none⟩) w K := by
  unfold C.block_Block_Asked C.atomic_Int64_Load C.atomic_LoadInt64
  exact cond_f rfl <| ptr_at <| ptr_at <| ptr_at <| cI_at (n := k) (by rw [addr_add, h.hd.cell]; rfl) hK
theorem asked_law (hT : DTab w0) (ht : UTab w0) (hv : Vint.Tab w0) {s : Sl} {q : QS} (h : RdQ w0 s q) (hl : q.length ≤ 2000000) (h16 : ∀ p ∈ q, p.1.1.length ≤ 2000000) {name value : ByteArray} (hs : sml (name, value)) (i from_ to_ : Int) {K : Bool → World → Prop} (hK : ∀ w', Keep w0 w' → K true w') : C.tocsinlaw10_BlockAsked s name value i from_ to_ w0 K := by
  unfold C.tocsinlaw10_BlockAsked
  have aw : ∀ w1, Keep w0 w1 → C.tocsinlaw10_awake w1 fun b9 w10 => K b9 w10 := fun w1 k1 => awake_ok (hT.keep k1) (ht.keep k1) (hv.keep k1) fun w2 k2 => hK w2 (Keep.trans k1 k2)
  refine built_ok hT ht hv h hl (fun hbad w1 k1 => ?_) (fun hok bl g gm bs rs q2 es ω1 w1 top1 eq hq2 bk => ?_)
  · refine rbuild_ok (h.keep k1) (by omega) fun r w2 k2 _ => ?_
    exact cond_t rfl <| cond_ne (fun _ => cond_t rfl (aw w2 (Keep.trans k1 k2))) (fun e => absurd e hbad)
  refine rbuild_ok (h.keep top1.k) (by omega) fun r w2 k2 _ => ?_
  refine cond_f rfl <| cond_ne (fun e => absurd hok e) (fun _ => ?_)
  have s2 := k2.stp0 ω1
  have bk2 := bk.stp s2 (off_non 1000)
  have top2 := top1.stp s2
  refine rsorted_ok (h.keep top2.k) (by omega) fun a q4 w4 k4 pm4 e4 o4 => ?_
  have s4 := k4.stp ω1 61
  have a4 := Own.tag o4 (Nat.le_refl _) ω1 61
  have bk4 := bk2.stp s4 (off_non 1000)
  have top4 := top2.stp s4
  generalize ext ω1 w2.heap.size 61 = ω4 at *
  have hq4 : ∀ {w : World}, Keep w0 w → ∀ p ∈ q4, SeOk w p := fun k p hp => (h.el p (pm4.mem_iff.1 hp)).keep k
  have hq16 : ∀ p ∈ q4, p.1.1.length ≤ 100000000 := fun p hp => by have := h16 p (pm4.mem_iff.1 hp); omega
  have e42 : q4.map (·.1) = q2.map (·.1) := e4.trans eq.symm
  have hq4n : q4.length = q2.length := by have := congrArg List.length e42; simpa using this
  have hL2 : (q2.map (·.1)).length = q2.length := List.length_map _
  refine bk4.values fun lv ω5 w5 k5 o5 => ?_
  have bk5 := bk4.stp k5 (off_non 1000)
  have top5 := top4.stp k5
  have a5 := a4.stp k5
  refine rvalues_ok ⟨a5.rd, hq4 top5.k⟩ (by omega) hq16 fun rv w6 k6 r6 => ?_
  have hul : (uniq (valsR name (q2.map (·.1)))).length ≤ 100000000 := by
    have h1 := strs_n o5.rd
    have h2 : setT (valsR name (q4.map (·.1))) = uniq (valsR name (q2.map (·.1))) := by rw [e42]; exact (uniq_set fun _ => Iff.rfl).symm
    have h3 := set_len (l := valsR name (q4.map (·.1))) _ (Nat.le_refl _)
    have h4 := vals_len name (q4.map (·.1))
    rw [List.take_length, h2] at h3
    rw [List.length_map] at h4
    omega
  refine texts_ok (o5.rd.keep k6) r6 hul fun w7 k7 => ?_
  rw [decide_eq_true (by rw [e42]; exact uniq_set fun _ => Iff.rfl)]
  refine cond_f rfl ?_
  have s7 := (Keep.trans k6 k7).stp0 ω5
  have bk7 := bk5.stp s7 (off_non 1000)
  have top7 := top5.stp s7
  have a7 := a5.stp s7
  refine bk7.post (by omega) hs fun lp ω8 w8 k8 bk8 o8 => ?_
  have top8 := top7.stp k8
  have a8 := a7.stp k8
  refine rpostings_ok ⟨a8.rd, hq4 top8.k⟩ (by omega) hq16 fun rp w9 k9 r9 => ?_
  have hpl := postF_len name value (q2.map (·.1)) 0
  refine numbers_ok (o8.rd.keep k9) (Own.rd r9) (by omega) fun w10 k10 => ?_
  rw [decide_eq_true (by rw [e42])]
  refine cond_f rfl ?_
  have s10 := (Keep.trans k9 k10).stp0 ω8
  have bk10 := bk8.stp s10 (off_non 1000)
  have top10 := top8.stp s10
  have a10 := a8.stp s10
  have han := rdQ_n a10.rd
  by_cases hr : i < 0 ∨ i ≥ q2.length
  · refine bk10.labels i (fun _ => ?_) (fun j p hj hp => absurd (List.getElem?_eq_some_iff.1 hp).1 (by omega))
    refine bk10.series i from_ to_ (fun _ ω11 w11 k11 bk11 => ?_) (fun j p hj hp => absurd (List.getElem?_eq_some_iff.1 hp).1 (by omega))
    have top11 := top10.stp k11
    refine cond_d (fun _ => ?_) (fun h0 => cond_d (fun _ => ?_) (fun h1 => absurd hr (by omega)))
    · exact cond_t rfl <| cond_t rfl <| cond_t rfl <| cond_t rfl <| aw _ top11.k
    · exact cond_t rfl <| cond_t rfl <| cond_t rfl <| cond_t rfl <| aw _ top11.k
  refine bk10.labels i (fun hN => absurd hN hr) (fun j p hj hp lm w11 k11 o11 => ?_)
  have s11 := k11.stp ω8 64
  have l11 := Own.tag o11 (Nat.le_refl _) ω8 64
  have bk11 := bk10.stp s11 (off_non 1000)
  have top11 := top10.stp s11
  have a11 := a10.stp s11
  generalize ext ω8 w10.heap.size 64 = ω11 at *
  refine bk11.series i from_ to_ (fun hN => absurd hN hr) (fun j' p' hj' hp' ls ω12 w12 k12 bk12 r12 => ?_)
  have ej : j' = j := by omega
  subst ej
  rw [hp] at hp'
  injection hp' with hp'
  subst hp'
  have top12 := top11.stp k12
  have a12 := a11.stp k12
  have l12 := l11.stp k12
  refine cond_d (fun h0 => absurd (Or.inl h0) hr) (fun _ => cond_d (fun h1 => absurd hr (by omega)) (fun _ => cond_f rfl <| cond_f rfl ?_))
  obtain ⟨p4, hp4, e4p⟩ : ∃ p4, q4[j']? = some p4 ∧ p4.1 = p.1 := by
    have := congrArg (fun l => l[j']?) e42
    simp only [List.getElem?_map, hp, Option.map_some] at this
    cases h4 : q4[j']? with
    | none => rw [h4] at this; cases this
    | some p4 => rw [h4] at this; exact ⟨p4, rfl, Option.some.inj this⟩
  have hs4 := hq4 top12.k p4 (List.mem_of_getElem? hp4)
  refine rdQ_at a12.rd (k := j') hj hp4 fun x x0 x1 => cSl_at x0 ?_
  refine rsame_ok l12.rd hs4.lb (by have := (rt_short (bk12.el p (List.mem_of_getElem? hp)).rt).1; omega) fun w13 k13 => ?_
  rw [decide_eq_true (by rw [e4p])]
  refine cond_f rfl ?_
  refine rdQ_at (a12.rd.keep k13) (k := j') hj hp4 fun x x0 x1 => cSl_at x1 ?_
  unfold C.tocsinref08_Within C.tocsinref08_Within.S9
  refine rwithin_ok (hs4.sm.keep k13) hs4.sl fun r14 w14 k14 rd14 => ?_
  have hwl := wit_len from_ to_ p.1.2
  have hsl := (bk12.el p (List.mem_of_getElem? hp)).sl
  refine Chunk.same_ok ((r12.keep k13).keep k14) rd14 (by omega) (fun _ w15 k15 => ?_) (fun hne => absurd (by rw [e4p]) hne)
  refine cond_f rfl ?_
  have s15 := (Keep.trans k13 (Keep.trans k14 k15)).stp0 ω12
  exact askedL_ok (bk12.stp s15 (off_non 1000)) (cond_t (by decide +kernel) (aw _ (top12.stp s15).k))
def cntT (x : ByteArray) : List ByteArray → Nat
  | [] => 0
  | y :: r => (if y = x then 1 else 0) + cntT x r
def cntN (x : Nat) : List Nat → Nat
  | [] => 0
  | y :: r => (if y = x then 1 else 0) + cntN x r
theorem cntT_app (x : ByteArray) : ∀ a b, cntT x (a ++ b) = cntT x a + cntT x b
  | [], b => by simp [cntT]
  | y :: a, b => by rw [List.cons_append, cntT, cntT, cntT_app x a b]; omega
theorem cntN_app (x : Nat) : ∀ a b, cntN x (a ++ b) = cntN x a + cntN x b
  | [], b => by simp [cntN]
  | y :: a, b => by rw [List.cons_append, cntN, cntN, cntN_app x a b]; omega
theorem cntT_le (x : ByteArray) : ∀ a, cntT x a ≤ a.length
  | [] => Nat.le_refl _
  | y :: a => by rw [cntT, List.length_cons]; have := cntT_le x a; split <;> omega
theorem cntN_le (x : Nat) : ∀ a, cntN x a ≤ a.length
  | [] => Nat.le_refl _
  | y :: a => by rw [cntN, List.length_cons]; have := cntN_le x a; split <;> omega
theorem cntT_no {x : ByteArray} : ∀ {a : List ByteArray}, x ∉ a → cntT x a = 0
  | [], _ => rfl
  | y :: a, h => by
    rw [cntT, if_neg (fun e => h (by rw [e]; exact List.mem_cons_self ..)), cntT_no fun hm => h (List.mem_cons_of_mem _ hm)]
theorem cntT_one {x : ByteArray} : ∀ {a : List ByteArray}, Ups a → x ∈ a → cntT x a = 1
  | [], _, h => by cases h
  | y :: a, u, h => by
    have u' := List.pairwise_cons.1 u
    rw [cntT]
    by_cases e : y = x
    · rw [if_pos e, cntT_no fun hm => lt_irr x (by have := u'.1 x hm; rwa [e] at this)]
    · rw [if_neg e, cntT_one u'.2 (by rcases List.mem_cons.1 h with h | h; exact absurd h.symm e; exact h)]
theorem mem_postF {n v : ByteArray} {x : Nat} : ∀ {l : List Ser} {k : Nat}, x ∈ postF n v l k → k ≤ x ∧ x < k + l.length
  | [], _, h => by cases h
  | s :: r, k, h => by
    rw [postF] at h
    rw [List.length_cons]
    rcases List.mem_append.1 h with h | h
    · split at h
      · rw [List.mem_singleton.1 h]; omega
      · cases h
    · have := mem_postF h; omega
theorem cntN_no {x : Nat} : ∀ {a : List Nat}, x ∉ a → cntN x a = 0
  | [], _ => rfl
  | y :: a, h => by
    rw [cntN, if_neg (fun e => h (by rw [e]; exact List.mem_cons_self ..)), cntN_no fun hm => h (List.mem_cons_of_mem _ hm)]
theorem cnt_post {n v : ByteArray} : ∀ {l : List Ser} {k j : Nat} {s : Ser}, l[j]? = some s → cntN (k + j) (postF n v l k) = if getF n s.1 = v then 1 else 0
  | [], _, _, _, h => by simp at h
  | y :: r, k, 0, s, h => by
    simp only [List.getElem?_cons_zero, Option.some.injEq] at h
    subst h
    rw [postF, cntN_app, cntN_no (a := postF n v r (k + 1)) (fun hm => by have := mem_postF hm; omega)]
    by_cases e : getF n y.1 = v
    · rw [if_pos e, if_pos e]; simp [cntN]
    · rw [if_neg e, if_neg e]; rfl
  | y :: r, k, j + 1, s, h => by
    rw [postF, cntN_app, show k + (j + 1) = k + 1 + j by omega, cnt_post (by simpa using h)]
    have : cntN (k + 1 + j) (if getF n y.1 = v then [k] else []) = 0 := by
      split
      · simp [cntN]; omega
      · rfl
    rw [this, Nat.zero_add]
theorem make_ints {n : Nat} (hn : n ≤ 1000000) (t : Nat) {K : Sl → World → Prop} (hK : ∀ r ω' w', Stp Non ω ω' w w' → OT ω' w' t 3 1 r (ints (List.replicate n 0)) → K r w') : G.runSl Tryz.prog (Instr.makeSlice 46 (.int .i64 (n : Int)) (.int .i64 (n : Int))) w K := by
  refine make_own tiN (kl := .i64) (kc := .i64) (n := n) (c := n) (Keep.refl w) (Nat.le_refl _) (Nat.le_refl _) (by simp only [maxLen]; omega) (by omega) fun z r w1 hz hz1 k1 k1' o1 hrn hrc hra => ?_
  have hz' : z = .int .i64 0 := by
    have : (Tryz.prog.info? 3).map (·.zero) = some (some (.int .i64 0)) := by kernel_rfl
    rw [this] at hz
    simp only [Option.some.injEq] at hz
    exact hz.symm
  subst hz'
  have e2 : ((madeCells (Value.int IntKind.i64 0).cells (n * 1)).toList.take (n * 1)) = ints (List.replicate n 0) := by
    rw [show (Value.int IntKind.i64 0).cells = #[Value.int IntKind.i64 0] from rfl, toList_madeCells_one, Nat.mul_one, List.take_of_length_le (by simp)]
    simp [ints]
  rw [e2] at o1
  exact hK r (ext ω w.heap.size t) w1 (k1'.stp ω t) (Own.tag o1 (Nat.le_refl _) ω t)
theorem vals_ups {n : ByteArray} {L : List Ser} {x : ByteArray} {s : Ser} (hs : s ∈ L) (hx : getF n s.1 = x) : cntT x (uniq (valsR n L) ++ [(⟨#[]⟩ : ByteArray)]) = 1 := by
  rw [cntT_app]
  by_cases e : x = (⟨#[]⟩ : ByteArray)
  · rw [cntT_no fun hm => (mem_vals.1 (mem_uniq.1 hm)).1 e]; simp [cntT, e]
  · rw [cntT_one (uniq_ups _) (mem_uniq.2 (mem_vals.2 ⟨e, s, hs, hx⟩))]
    simp [cntT]
    exact fun e' => e e'.symm
theorem parts_law (hT : DTab w0) (ht : UTab w0) (hv : Vint.Tab w0) {s : Sl} {q : QS} (h : RdQ w0 s q) (hl : q.length ≤ 2000000) {name : ByteArray} (hs : name.size ≤ maxLen) {K : Bool → World → Prop} (hK : ∀ w', Keep w0 w' → K true w') : C.tocsinlaw10_BlockParts s name w0 K := by
  unfold C.tocsinlaw10_BlockParts
  have aw : ∀ w1, Keep w0 w1 → C.tocsinlaw10_awake w1 fun b9 w10 => K b9 w10 := fun w1 k1 => awake_ok (hT.keep k1) (ht.keep k1) (hv.keep k1) fun w2 k2 => hK w2 (Keep.trans k1 k2)
  refine built_ok hT ht hv h hl (fun hbad w1 k1 => cond_t rfl (aw w1 k1)) (fun hok bl g gm bs rs q2 es ω1 w1 top1 eq hq2 bk => ?_)
  refine cond_f rfl <| len_ok (bk.ar (by omega)) ?_
  refine make_ints (ω := ω1) (by omega) 66 fun mt ω2 w2 k2 o2 => ?_
  have bk2 := bk.stp k2 (off_non 1000)
  have top2 := top1.stp k2
  refine bk2.values fun lv ω3 w3 k3 o3 => ?_
  have bk3 := bk2.stp k3 (off_non 1000)
  have top3 := top2.stp k3
  have m3 := o2.stp k3
  have hL2 : (q2.map (·.1)).length = q2.length := List.length_map _
  have hul : (uniq (valsR name (q2.map (·.1)))).length ≤ 1000 := by
    have h2 : setT (valsR name (q2.map (·.1))) = uniq (valsR name (q2.map (·.1))) := (uniq_set fun _ => Iff.rfl).symm
    have h3 := set_len (l := valsR name (q2.map (·.1))) _ (Nat.le_refl _)
    have h4 := vals_len name (q2.map (·.1))
    rw [List.take_length, h2] at h3
    omega
  have hlv := strs_n o3.rd
  refine push_T tiSt o3 (n := 1) rfl (by intro v hv; simp at hv; subst hv; rfl) (by simp only [maxLen]; omega) (by omega) fun lw ω4 w4 k4 o4 _ => ?_
  have bk4 := bk3.stp k4 (off_one (.inl (by decide)))
  have top4 := top3.stp k4
  have m4 := m3.stp k4
  have o4' : OT ω4 w4 62 9 1 lw (strs (uniq (valsR name (q2.map (·.1))) ++ [(⟨#[]⟩ : ByteArray)])) := by rw [strs_app]; exact o4
  have hvl : (uniq (valsR name (q2.map (·.1))) ++ [(⟨#[]⟩ : ByteArray)]).length ≤ 1001 := by rw [List.length_append]; simp; omega
  have hsz : ∀ x ∈ uniq (valsR name (q2.map (·.1))) ++ [(⟨#[]⟩ : ByteArray)], x.size ≤ 1000000000 := fun x hx => by
    rcases List.mem_append.1 hx with hx | hx
    · obtain ⟨hne, y, hy, e⟩ := mem_vals.1 (mem_uniq.1 hx)
      have hrt : (rt y.1).1 = 0 := by obtain ⟨p, hp, rfl⟩ := List.mem_map.1 hy; exact (bk4.el p hp).rt
      have := ((rt_short hrt).2 _ ((get_mem hne (rt_names hrt)).2 e)).2
      simp only at this; omega
    · rw [List.mem_singleton.1 hx]; decide
  have hone : ∀ (i : Nat) (y : Ser), (q2.map (·.1))[i]? = some y → cntT (getF name y.1) (uniq (valsR name (q2.map (·.1))) ++ [(⟨#[]⟩ : ByteArray)]) = 1 := fun i y hy => vals_ups (List.mem_of_getElem? hy) rfl
  generalize uniq (valsR name (q2.map (·.1))) ++ [(⟨#[]⟩ : ByteArray)] = vs at *
  have hvn := strs_n o4'.rd
  unfold C.tocsinlaw10_BlockParts.S28
  refine C.tocsinlaw10_BlockParts.L13_ind fun X hX => ?_
  have key : ∀ (d j : Nat) (M : List Nat) (kk : Int) (ω : Tg) (w : World), j + d = vs.length → Top w0 ω w → BK ω w 1000 g gm bs rs (bytesOf (srt (q.map (·.1)))) q2 (post (q2.map (·.1))) es kk → OT ω w 62 9 1 lw (strs vs) → OT ω w 66 3 1 mt (ints M) → M.length = q2.length →
      (∀ (i : Nat) (y : Ser), (q2.map (·.1))[i]? = some y → M.getD i 0 = cntT (getF name y.1) (vs.take j)) → X name (some ⟨g, 0, none⟩) mt lw ((lw.n : Nat) : Int) (j : Int) w := by
    intro d
    induction d with
    | zero =>
      intro j M kk ω w hj top bk o m hM hi
      refine hX _ _ _ _ _ _ _ ?_
      unfold C.tocsinlaw10_BlockParts.S26
      refine cond_d (fun h => by omega) (fun _ => ?_)
      unfold C.tocsinlaw10_BlockParts.S9
      have hmn := ints_n m.rd
      refine C.tocsinlaw10_BlockParts.L5_ind fun Y hY => ?_
      have chk : ∀ (e i : Nat), i + e = M.length → Y mt ((mt.n : Nat) : Int) (i : Int) w := by
        intro e
        induction e with
        | zero =>
          intro i hi'
          refine hY _ _ _ _ ?_
          unfold C.tocsinlaw10_BlockParts.S7 C.tocsinlaw10_BlockParts.S2
          exact cond_d (fun h => by omega) (fun _ => aw w top.k)
        | succ e ih =>
          intro i hi'
          refine hY _ _ _ _ ?_
          unfold C.tocsinlaw10_BlockParts.S7
          have hiM : i < M.length := by omega
          have hy : (q2.map (·.1))[i]? = some (q2.map (·.1))[i] := List.getElem?_eq_getElem (by omega)
          have h1 := hi i _ hy
          rw [List.take_of_length_le (by omega), hone i _ hy] at h1
          have h2 : M[i] = 1 := by rw [← h1]; simp [List.getD, List.getElem?_eq_getElem hiM]
          refine cond_d (fun _ => ?_) (fun h => by omega)
          refine rdN_at m.rd (k := i) rfl hiM fun a ha => cI_at ha ?_
          rw [h2]
          refine cond_f rfl ?_
          rw [wI64 (by omega) (by omega), show (i : Int) + 1 = ((i + 1 : Nat) : Int) by omega]
          exact ih (i + 1) (by omega)
      exact chk M.length 0 (by omega)
    | succ d ih =>
      intro j M kk ω w hj top bk o m hM hi
      refine hX _ _ _ _ _ _ _ ?_
      unfold C.tocsinlaw10_BlockParts.S26 C.tocsinlaw10_BlockParts.S23
      have hjv : j < vs.length := by omega
      have hsj := hsz _ (List.getElem_mem hjv)
      have hcl : ∀ x, cntT x (vs.take j) ≤ 1001 := fun x => by have := cntT_le x (vs.take j); rw [List.length_take] at this; omega
      refine cond_d (fun _ => ?_) (fun h => by omega)
      refine rdT_at o.rd (k := j) rfl hjv fun a ha => cS_at ha ?_
      refine bk.post (by omega) ⟨hs, by simp only [maxLen]; omega⟩ fun lp ω5 w5 k5 bk5 o5 => ?_
      have top5 := top.stp k5
      have ov5 := o.stp k5
      have m5 := m.stp k5
      have hpl := postF_len name vs[j] (q2.map (·.1)) 0
      have hpm : ∀ x ∈ postF name vs[j] (q2.map (·.1)) 0, x < q2.length := fun x hx => by have := mem_postF hx; omega
      have hpc : ∀ (i : Nat) (y : Ser), (q2.map (·.1))[i]? = some y → cntN i (postF name vs[j] (q2.map (·.1)) 0) = if getF name y.1 = vs[j] then 1 else 0 := fun i y hy => by have := cnt_post (n := name) (v := vs[j]) (k := 0) hy; rwa [Nat.zero_add] at this
      generalize postF name vs[j] (q2.map (·.1)) 0 = P at *
      have hpn := ints_n o5.rd
      refine C.tocsinlaw10_BlockParts.L19_ind fun Y hY => ?_
      have inner : ∀ (e jj : Nat) (M2 : List Nat) (ω : Tg) (w : World), jj + e = P.length → Top w0 ω w → BK ω w 1000 g gm bs rs (bytesOf (srt (q.map (·.1)))) q2 (post (q2.map (·.1))) es (IntKind.i64.wrap (kk + 1)) → OT ω w 62 9 1 lw (strs vs) → OT ω w 66 3 1 mt (ints M2) → OT ω w 63 3 1 lp (ints P) → M2.length = q2.length →
          (∀ (i : Nat) (y : Ser), (q2.map (·.1))[i]? = some y → M2.getD i 0 = cntT (getF name y.1) (vs.take j) + cntN i (P.take jj)) → Y name (some ⟨g, 0, none⟩) mt lw ((lw.n : Nat) : Int) (j : Int) lp ((lp.n : Nat) : Int) (jj : Int) w := by
        intro e
        induction e with
        | zero =>
          intro jj M2 ω w hjj top bk o m p hM2 hi2
          refine hY _ _ _ _ _ _ _ _ _ _ ?_
          unfold C.tocsinlaw10_BlockParts.S21 C.tocsinlaw10_BlockParts.S15
          refine cond_d (fun h => by omega) (fun _ => ?_)
          rw [wI64 (by omega) (by omega), show (j : Int) + 1 = ((j + 1 : Nat) : Int) by omega]
          refine ih (j + 1) M2 _ ω w (by omega) top bk o m hM2 fun i y hy => ?_
          have e1 : P.take jj = P := List.take_of_length_le (by omega)
          rw [hi2 i y hy, e1, hpc i y hy, List.take_succ_eq_append_getElem hjv, cntT_app]
          simp only [cntT, Nat.add_zero]
          congr 1
          by_cases e : getF name y.1 = vs[j]
          · rw [if_pos e, if_pos e.symm]
          · rw [if_neg e, if_neg (fun e' => e e'.symm)]
        | succ e ihe =>
          intro jj M2 ω w hjj top bk o m p hM2 hi2
          refine hY _ _ _ _ _ _ _ _ _ _ ?_
          unfold C.tocsinlaw10_BlockParts.S21
          have hjp : jj < P.length := by omega
          have hmn := ints_n m.rd
          have hx := hpm _ (List.getElem_mem hjp)
          have hiM : P[jj] < M2.length := by omega
          obtain ⟨yx, hyx⟩ : ∃ yx : Ser, (q2.map (·.1))[P[jj]]? = some yx := ⟨_, List.getElem?_eq_getElem (l := q2.map (·.1)) (i := P[jj]) (by rw [hL2]; exact hx)⟩
          have hv2 := hi2 _ _ hyx
          have hgd : M2.getD P[jj] 0 = M2[P[jj]] := by simp [List.getD, List.getElem?_eq_getElem hiM]
          have hc1 := hcl (getF name yx.1)
          have hc2 : cntN P[jj] (P.take jj) ≤ 1000 := by have := cntN_le P[jj] (P.take jj); rw [List.length_take] at this; omega
          refine cond_d (fun _ => ?_) (fun h => by omega)
          refine rdN_at p.rd (k := jj) rfl hjp fun a ha => cI_at ha ?_
          refine cond_d (fun h => by omega) (fun _ => cond_d (fun h => by omega) (fun _ => ?_))
          refine rdN_at m.rd (k := P[jj]) rfl hiM fun b hb => cI_at hb ?_
          refine OT.at_ m (k := P[jj]) rfl (by omega) fun a ha _ _ _ => ?_
          rw [wI64 (x := (jj : Int) + 1) (by omega) (by omega), show (jj : Int) + 1 = ((jj + 1 : Nat) : Int) by omega, wI64 (x := (M2[P[jj]] : Int) + 1) (by omega) (by omega), show (M2[P[jj]] : Int) + 1 = ((M2[P[jj]] + 1 : Nat) : Int) by omega]
          have e0 : G.st (a.add 0) (.int .i64 ((M2[P[jj]] + 1 : Nat) : Int)) w fun w64 => Y name (some ⟨g, 0, none⟩) mt lw ((lw.n : Nat) : Int) (j : Int) lp ((lp.n : Nat) : Int) ((jj + 1 : Nat) : Int) w64 :=
            OT.st m (i := P[jj]) (j := 0) (by omega) (by decide) _ ha fun ω6 w6 k6 o6 => by
              have es' : (ints M2).set (P[jj] * 1 + 0) (.int .i64 ((M2[P[jj]] + 1 : Nat) : Int)) = ints (M2.set P[jj] (M2[P[jj]] + 1)) := by unfold ints; rw [Nat.mul_one, Nat.add_zero, List.map_set]
              rw [es'] at o6
              refine ihe (jj + 1) (M2.set P[jj] (M2[P[jj]] + 1)) ω6 w6 (by omega) (top.stp k6) (bk.stp k6 (off_one (.inl (by decide)))) (o.stp k6) o6 (p.stp k6) (by rw [List.length_set]; exact hM2) fun i y hy => ?_
              rw [List.take_succ_eq_append_getElem hjp, cntN_app, ← Nat.add_assoc, ← hi2 i y hy]
              simp only [cntN, Nat.add_zero]
              by_cases e : P[jj] = i
              · subst e
                rw [if_pos rfl, hgd]; simp [List.getD, List.getElem?_set, hiM]
              · rw [if_neg e, List.getD_eq_getElem?_getD, List.getElem?_set_ne e, ← List.getD_eq_getElem?_getD]; omega
          rwa [show a.add 0 = a by simp [Addr.add]] at e0
      exact inner P.length 0 M ω5 w5 (by omega) top5 bk5 ov5 m5 o5 hM fun i y hy => by rw [hi i y hy]; simp [cntN]
  exact key vs.length 0 (List.replicate q2.length 0) 0 ω4 w4 (by omega) top4 bk4 o4' m4 (List.length_replicate ..) fun i y hy => by
    have : (List.replicate q2.length 0).getD i 0 = 0 := by simp [List.getD, List.getElem?_replicate]; split <;> rfl
    rw [this]; simp [cntT]
end Go.Proofs.YtmfgmcajelmgbaaGreatDoor.Bk

namespace Go.Proofs.YtmfgmcajelmgbaaGreatDoor.Bk
open Go Lab Vint
open Go.Lib (validD size_eq)
theorem common : ∀ (P : List UInt8) {A B u v : List UInt8} {x y : UInt8}, P ++ A = u ++ x :: v → P ++ B = u ++ y :: v → x ≠ y → ∃ u', u = P ++ u' ∧ A = u' ++ x :: v ∧ B = u' ++ y :: v
  | [], A, B, u, v, x, y, h1, h2, _ => ⟨u, rfl, h1, h2⟩
  | p :: P, A, B, [], v, x, y, h1, h2, ne => by
    simp only [List.cons_append, List.nil_append, List.cons.injEq] at h1 h2
    exact absurd (h1.1.symm.trans h2.1) ne
  | p :: P, A, B, z :: u, v, x, y, h1, h2, ne => by
    simp only [List.cons_append, List.cons.injEq] at h1 h2
    obtain ⟨u', e, e1, e2⟩ := common P h1.2 h2.2 ne
    exact ⟨u', by rw [h1.1, e]; rfl, e1, e2⟩
end Go.Proofs.YtmfgmcajelmgbaaGreatDoor.Bk

namespace Go.Proofs.YtmfgmcajelmgbaaGreatDoor.Bk
open Go Vm Go.RowKit Num Mem Utf Lib Lab Vint Bits Rep
variable {ω ω' : Tg} {w w' w0 : World} {T : Nat → Bool} {t u g gm : Nat}
end Go.Proofs.YtmfgmcajelmgbaaGreatDoor.Bk

namespace Go.Proofs.YtmfgmcajelmgbaaGreatDoor.Bk
open Go Lab Vint
end Go.Proofs.YtmfgmcajelmgbaaGreatDoor.Bk

namespace Go.Proofs.YtmfgmcajelmgbaaGreatDoor.Bk
open Go Vm Go.RowKit Num Mem Utf Lib Lab Vint Bits Rep
variable {ω ω' : Tg} {w w' w0 : World} {T : Nat → Bool} {t u g gm : Nat}
end Go.Proofs.YtmfgmcajelmgbaaGreatDoor.Bk

namespace Go.Proofs.YtmfgmcajelmgbaaGreatDoor.Bk
open Go Vm Go.RowKit Num Mem Utf Lib Lab Vint Bits Rep
variable {w w' w0 : World}
theorem asked_in (hL : DTab w0 ∧ UTab w0 ∧ Vint.Tab w0) {s : Sl} {b : Nat} (hs : Cl w0 serSh s.v b) (hb : b ≤ 2000000) {name value : ByteArray} (h1 : name.size ≤ maxLen) (h2 : value.size ≤ maxLen) (i from_ to_ : Int) {K : Bool → World → Prop} (hK : ∀ w', Keep w0 w' → K true w') : C.tocsinlaw10_BlockAsked s name value i from_ to_ w0 K := by
  obtain ⟨q, q1, q2, q3⟩ := sers_of hs hb
  exact asked_law hL.1 hL.2.1 hL.2.2 q1 q2 q3 ⟨h1, h2⟩ i from_ to_ hK
theorem parts_in (hL : DTab w0 ∧ UTab w0 ∧ Vint.Tab w0) {s : Sl} {b : Nat} (hs : Cl w0 serSh s.v b) (hb : b ≤ 2000000) {name : ByteArray} (h1 : name.size ≤ maxLen) {K : Bool → World → Prop} (hK : ∀ w', Keep w0 w' → K true w') : C.tocsinlaw10_BlockParts s name w0 K := by
  obtain ⟨q, q1, q2, q3⟩ := sers_of hs hb
  exact parts_law hL.1 hL.2.1 hL.2.2 q1 q2 h1 hK
end Go.Proofs.YtmfgmcajelmgbaaGreatDoor.Bk

namespace Go.Proofs.YtmfgmcajelmgbaaGreatDoor.Utf
open Go Vm Go.RowKit Num Mem
open Go.Lib (VarReads cells_of_tab firstTab firstT accLo accHi array_elem ints_of_struct Utf8Tabs)
theorem utab_of {w : World} (h3 : VarReads Tryz.prog w "unicode/utf8.first" Go.Lib.firstData) (h4 : VarReads Tryz.prog w "unicode/utf8.acceptRanges" Go.Lib.acceptData) : UTab w := by
  refine ⟨fun c hc => ?_, fun i hi => ?_⟩
  · obtain ⟨g, t, cs, fuel, p, hg, hty, hvar, hd⟩ := h3
    obtain rfl := Option.some.inj ((show Tryz.prog.globalNamed "unicode/utf8.first" = some 2 by kernel_rfl).symm.trans hg)
    obtain rfl := Option.some.inj ((show (Tryz.prog.globals[2]?).map (·.type) = some 219 by kernel_rfl).symm.trans hty)
    have hcs := cells_of_tab (e := 5) (n := 256) (by kernel_rfl) (by kernel_rfl) (by kernel_rfl) (by kernel_rfl) hd
    have := World.var?_cell hg hvar c
    rw [this, ← Array.getElem?_toList, hcs]
    simp [firstTab, hc]
  · obtain ⟨g, t, cs, fuel, p, hg, hty, hvar, hd⟩ := h4
    obtain rfl := Option.some.inj ((show Tryz.prog.globalNamed "unicode/utf8.acceptRanges" = some 3 by kernel_rfl).symm.trans hg)
    obtain rfl := Option.some.inj ((show (Tryz.prog.globals[3]?).map (·.type) = some 222 by kernel_rfl).symm.trans hty)
    obtain ⟨fuel', d, q, hdi, he⟩ := array_elem (n := 16) (e := 221) (by kernel_rfl) hd i hi
    simp only [List.getElem?_map, List.getElem?_range hi, Option.map_some, Option.some.injEq] at hdi
    subst hdi
    have hc2 : Tryz.prog.cellsOf 221 = 2 := by kernel_rfl
    rw [hc2] at he
    obtain ⟨f0, f1, hs, hf0, hf1, ho0, ho1⟩ : ∃ f0 f1 : Field, Tryz.prog.underlying 221 = some (.struct #[f0, f1]) ∧ f0.type = 5 ∧ f1.type = 5 ∧ f0.offset = 0 ∧ f1.offset = 1 :=
      ⟨{ name := "lo", type := 5, offset := 0, embedded := false, tag := "", pkgPath := "unicode/utf8", byteOffset := 0 }, { name := "hi", type := 5, offset := 1, embedded := false, tag := "", pkgPath := "unicode/utf8", byteOffset := 1 }, by kernel_rfl, rfl, rfl, rfl, rfl⟩
    have ht5 : Tryz.prog.underlying 5 = some (.int .u8) := by kernel_rfl
    have hc5 : Tryz.prog.cellsOf 5 = 1 := by kernel_rfl
    have hcs := ints_of_struct (k := .u8) hs (fun j f hj => by
      match j, hj with
      | 0, hj => simp at hj; subst hj; rw [hf0]; exact ⟨ht5, ho0, hc5⟩
      | 1, hj => simp at hj; subst hj; rw [hf1]; exact ⟨ht5, ho1, hc5⟩
      | j + 2, hj => simp at hj) (by rw [hc2]; rfl) he
    have e0 := congrArg (·[0]?) hcs
    have e1 := congrArg (·[1]?) hcs
    simp only [List.getElem?_take, List.getElem?_drop] at e0 e1
    constructor
    · rw [World.var?_cell hg hvar (2 * i), ← Array.getElem?_toList]
      simpa [Nat.mul_comm] using e0
    · rw [World.var?_cell hg hvar (2 * i + 1), ← Array.getElem?_toList]
      simpa [Nat.mul_comm] using e1
theorem first_same : (Rows.laid_unicode_utf8_first : DataW Unit) = Go.Lib.firstData := by kernel_rfl
theorem accept_same : (Rows.laid_unicode_utf8_acceptRanges : DataW Unit) = Go.Lib.acceptData := by kernel_rfl
theorem utab_laid {w : World} {l : List (String × DataW Unit)} (h : laidMet Tryz.prog l w) (h1 : ("unicode/utf8.first", Rows.laid_unicode_utf8_first) ∈ l) (h2 : ("unicode/utf8.acceptRanges", Rows.laid_unicode_utf8_acceptRanges) ∈ l) : UTab w :=
  utab_of (by rw [← first_same]; exact Go.Lib.laidMet.reads h h1) (by rw [← accept_same]; exact Go.Lib.laidMet.reads h h2)
end Go.Proofs.YtmfgmcajelmgbaaGreatDoor.Utf
namespace Go.Proofs.YtmfgmcajelmgbaaGreatDoor.Utf
open Go Vm Go.RowKit Num Mem
theorem own : ownKnob Tryz.prog.godebug = none := by kernel_rfl
noncomputable def utfWorld (w : World) : World :=
  { w with heap := (w.heap.modify 2 fun
      | .cells _ t frozen => .cells (Go.Lib.firstTab.map fun z => Value.int .u8 z).toArray t frozen
      | o => o).modify 3 fun
      | .cells _ t frozen => .cells ((List.range 16).flatMap fun i => [Value.int .u8 (Go.Lib.accLo i), Value.int .u8 (Go.Lib.accHi i)]).toArray t frozen
      | o => o }
noncomputable def laidWorld (os : Os) : World := utfWorld (World.holding Tryz.prog os ⟨#[], #[], []⟩)
end Go.Proofs.YtmfgmcajelmgbaaGreatDoor.Utf

namespace Go.Proofs.YtmfgmcajelmgbaaGreatDoor.Bk
open Go Vm Go.RowKit Num Mem Crc Bits
theorem own : ownKnob Tryz.prog.godebug = none := by kernel_rfl
def halves : List Int := [0, 274646895, 549293790, 820201905, 1098587580, 1361435347, 1640403810, 1905808397, 2197175160, 2460548119, 2722870694, 2987750089, 3280807620, 3553878443, 3811616794, 4084100981]
def tz64 : List Int := [0, 1, 56, 2, 57, 49, 28, 3, 61, 58, 42, 50, 38, 29, 17, 4, 62, 47, 59, 36, 45, 43, 51, 22, 53, 39, 33, 30, 24, 18, 12, 5, 63, 55, 48, 27, 60, 41, 37, 16, 46, 35, 44, 21, 52, 32, 23, 11, 54, 26, 40, 15, 34, 20, 31, 10, 25, 14, 19, 9, 13, 8, 7, 6]
theorem tab_reads {w : World} (h : Go.Lib.VarReads Tryz.prog w "tocsin/vint.halves" Rows.laid_tocsin_vint_halves) : Vint.Tab w := by
  obtain ⟨g, t, cs, fuel, p, hg, hty, hvar, hd⟩ := h
  obtain rfl := Option.some.inj ((show Tryz.prog.globalNamed "tocsin/vint.halves" = some 1 by kernel_rfl).symm.trans hg)
  obtain rfl := Option.some.inj ((show (Tryz.prog.globals[1]?).map (·.type) = some 214 by kernel_rfl).symm.trans hty)
  have hcs := Go.Lib.cells_of_tab (zs := halves) (k := .u32) (e := 142) (n := 16) (by kernel_rfl) (by kernel_rfl) (by kernel_rfl) (by kernel_rfl) hd
  have h : Lib.TabIs Tryz.prog w "tocsin/vint.halves" .u32 halves := by
    unfold Go.Lib.TabIs
    rw [hvar, ← hcs]
  intro i hi
  rw [h.cell (by kernel_rfl) i (by simpa [halves] using hi)]
  congr 2
  revert i
  decide +kernel
theorem dtab_reads {w : World} (h : Go.Lib.VarReads Tryz.prog w "math/bits.deBruijn64tab" Rows.laid_math_bits_deBruijn64tab) : DTab w := by
  obtain ⟨g, t, cs, fuel, p, hg, hty, hvar, hd⟩ := h
  obtain rfl := Option.some.inj ((show Tryz.prog.globalNamed "math/bits.deBruijn64tab" = some 5 by kernel_rfl).symm.trans hg)
  obtain rfl := Option.some.inj ((show (Tryz.prog.globals[5]?).map (·.type) = some 259 by kernel_rfl).symm.trans hty)
  have hcs := Go.Lib.cells_of_tab (zs := tz64) (k := .u8) (e := 5) (n := 64) (by kernel_rfl) (by kernel_rfl) (by kernel_rfl) (by kernel_rfl) hd
  have h : Lib.TabIs Tryz.prog w "math/bits.deBruijn64tab" .u8 tz64 := by
    unfold Go.Lib.TabIs
    rw [hvar, ← hcs]
  intro i hi
  rw [h.cell (by kernel_rfl) i (by simpa [tz64, Lib.deBruijn64tab] using hi)]
  congr 2
  revert i
  decide +kernel
theorem tabs_laid {w : World} (h : laidMetH Tryz.prog [("math/bits.deBruijn64tab", Rows.laid_math_bits_deBruijn64tab), ("unicode/utf8.acceptRanges", Rows.laid_unicode_utf8_acceptRanges), ("tocsin/vint.halves", Rows.laid_tocsin_vint_halves), ("unicode/utf8.first", Rows.laid_unicode_utf8_first)] w) : DTab w ∧ Utf.UTab w ∧ Vint.Tab w := by
  have h' : laidMet Tryz.prog [("math/bits.deBruijn64tab", Rows.laid_math_bits_deBruijn64tab), ("unicode/utf8.acceptRanges", Rows.laid_unicode_utf8_acceptRanges), ("tocsin/vint.halves", Rows.laid_tocsin_vint_halves), ("unicode/utf8.first", Rows.laid_unicode_utf8_first)] w := h
  exact ⟨dtab_reads (Go.Lib.laidMet.reads h' (.head _)), Utf.utab_laid h' (.tail _ (.tail _ (.tail _ (.head _)))) (.tail _ (.head _)), tab_reads (Go.Lib.laidMet.reads h' (.tail _ (.tail _ (.head _))))⟩
noncomputable def vintWorld (w : World) : World :=
  { w with heap := w.heap.modify 1 fun
      | .cells _ t frozen => .cells (halves.map fun z => Value.int .u32 z).toArray t frozen
      | o => o }
noncomputable def bitsWorld (w : World) : World :=
  { w with heap := w.heap.modify 5 fun
      | .cells _ t frozen => .cells (tz64.map fun z => Value.int .u8 z).toArray t frozen
      | o => o }
noncomputable def laidWorld (os : Os) : World := bitsWorld (vintWorld (Utf.laidWorld os))
end Go.Proofs.YtmfgmcajelmgbaaGreatDoor.Bk
