/- The predicate transformer of XVm is right: what it grants, the model's run does. Own work; nothing here is trusted. -/
import Derived.Test.YtaciaidehamfgaaVm
import Derived.Laws.Cells
namespace Go.Proofs.Ytaciaidehamfgaa.Vm
open Go

section
variable {P : Program}

theorem pureOf_run {α : Type} {m : Sem α} {a : α} (h : pureOf P m = some a) (w : World) : m.run P w = .ok a w := by
  induction m with
  | pure b => simp only [pureOf, Option.some.injEq] at h; subst h; rfl
  | program k ih => simp only [pureOf] at h; simp only [Sem.run]; exact ih P h
  | mark m k ih => simp only [pureOf] at h; simp only [Sem.run]; exact ih h
  | _ => simp [pureOf] at h

theorem sr_run {α : Type} {m : Sem α} {w : World} {K : α → World → Prop} (h : sr P m w K) : ∃ a w', m.run P w = .ok a w' ∧ K a w' := by
  induction m generalizing w with
  | pure b => exact ⟨b, w, rfl, h⟩
  | program k ih => simp only [sr] at h; simp only [Sem.run]; exact ih P h
  | mark m k ih => simp only [sr] at h; simp only [Sem.run]; exact ih h
  | new o k ih => simp only [sr] at h; simp only [Sem.run]; exact ih _ h
  | _ => simp [sr] at h

theorem ptr_some {A : Option Addr} {K : Addr → Prop} (h : G.ptr A K) : ∃ a, A = some a ∧ K a := by
  cases A with
  | none => exact h.elim
  | some a => exact ⟨a, rfl, h⟩

theorem rd_cell {l : LK} {a : Addr} {w : World} {K : Value → Prop} (h : rd l a w K) : ∃ v, w.cell? a = some v ∧ K v := by
  cases l <;> simp only [rd, G.cI, G.cB, G.cS, G.cSl, G.cP, G.cM, G.cF, G.cV] at h
  all_goals first
    | exact h.elim
    | (obtain ⟨n, hc, hk⟩ := h; exact ⟨_, hc, hk⟩)

theorem rds_cells {a : Addr} {w : World} : ∀ {ls : List LK} {i : Nat} {acc : List Value} {K : List Value → Prop}, rds a w ls i acc K →
    ∃ vs, vs.length = ls.length ∧ (∀ j v, vs[j]? = some v → w.cell? (a.add (i + j)) = some v) ∧ K (acc ++ vs)
  | [], i, acc, K, h => ⟨[], rfl, fun j v hv => by simp at hv, by simpa [rds] using h⟩
  | l :: r, i, acc, K, h => by
    simp only [rds] at h
    obtain ⟨v, hc, hk⟩ := rd_cell h
    obtain ⟨vs, hl, hvs, hK⟩ := rds_cells hk
    refine ⟨v :: vs, by simp [hl], fun j u hu => ?_, by simpa using hK⟩
    cases j with
    | zero => simp only [List.getElem?_cons_zero, Option.some.injEq] at hu; subst hu; simpa using hc
    | succ j => rw [show i + (j + 1) = i + 1 + j by omega]; exact hvs j u (by simpa using hu)

theorem isAgg_run {t : TypeId} {d : TypeDesc} (hd : P.underlying t = some d) (w : World) : (isAgg t).run P w = .ok (isAggT P t) w := by
  unfold isAgg isAggT
  rw [Sem.run_bind, run_underlying hd]
  simp only [Result.andThen_ok, hd]
  cases d <;> rfl

theorem sizeOf_run {t : TypeId} (h : (P.info? t).isSome = true) (w : World) : (sizeOf t).run P w = .ok (P.cellsOf t) w := by
  obtain ⟨i, hi⟩ := Option.isSome_iff_exists.1 h
  simp [sizeOf, typeInfo, hi, Program.cellsOf]

theorem info_of_underlying {t : TypeId} {d : TypeDesc} (hd : P.underlying t = some d) : (P.info? t).isSome = true := by
  unfold Program.underlying at hd
  cases h : P.info? t with
  | none => rw [h] at hd; cases hd
  | some i => rfl

theorem vcLoad_ok {t : TypeId} {x : Value} {w : World} {K : Value → Prop} (h : vcLoad P t x w K) :
    ∃ v, K v ∧ ∀ d, (Instr.loadAt t x).run P (w.drewN d) = .ok v (w.drewN d) := by
  unfold vcLoad at h
  split at h
  · obtain ⟨a, rfl, h⟩ := ptr_some h
    split at h
    · exact h.elim
    · rename_i d hd
      cases hagg : isAggT P t
      · rw [hagg] at h
        simp only [cond_false] at h
        obtain ⟨v, hc, hk⟩ := rd_cell h
        refine ⟨v, hk, fun m => ?_⟩
        simp [Instr.loadAt, Instr.sureAddr, loadVar, isAgg_run hd, hagg, hc]
      · rw [hagg] at h
        simp only [cond_true] at h
        cases hb : Nat.beq (leaves P 8 t).length (P.cellsOf t)
        · rw [hb] at h; exact h.elim
        · rw [hb] at h
          simp only [cond_true] at h
          obtain ⟨vs, hl, hvs, hK⟩ := rds_cells h
          refine ⟨_, hK, fun m => ?_⟩
          have hlen : vs.length = P.cellsOf t := by rw [hl]; exact Nat.eq_of_beq_eq_true hb
          have hrun := run_loadCells_list (P := P) (w.drewN m) a vs (fun j v hv => by have := hvs j v hv; simpa using this)
          rw [hlen] at hrun
          simp [Instr.loadAt, Instr.sureAddr, loadVar, isAgg_run hd, hagg, sizeOf_run (info_of_underlying hd), hrun]
  · exact h.elim

/-- A load, in any world in which its cells are as they are here. -/
theorem vcLoadH_ok {t : TypeId} {x : Value} {w : World} {K : Value → (World → Prop) → Prop} (h : vcLoadH P t x w K) :
    ∃ v T, K v T ∧ T w ∧ ∀ w', T w' → (Instr.loadAt t x).run P w' = .ok v w' := by
  cases x with
  | pointer A =>
    cases A with
    | none => exact h.elim
    | some a =>
      replace h : (match P.underlying t with
        | none => False
        | some _ => bif isAggT P t then bif Nat.beq (leaves P 8 t).length (P.cellsOf t) then rds a w (leaves P 8 t) 0 [] fun vs => K (.agg ⟨vs⟩) (sameAt a (P.cellsOf t) w) else False
          else rd (lk P t) a w fun v => K v (sameAt a (P.cellsOf t) w)) := h
      cases hd : P.underlying t with
      | none => rw [hd] at h; exact h.elim
      | some d =>
        rw [hd] at h
        simp only [] at h
        cases hagg : isAggT P t
        · rw [hagg, cond_false] at h
          obtain ⟨v, hc, hk⟩ := rd_cell h
          refine ⟨v, _, hk, ⟨rfl, fun _ _ => rfl⟩, fun w' hw => ?_⟩
          have hc' : w'.cell? a = some v := by rw [hw.1]; exact hc
          simp [Instr.loadAt, Instr.sureAddr, loadVar, isAgg_run hd, hagg, hc']
        · rw [hagg, cond_true] at h
          cases hb : Nat.beq (leaves P 8 t).length (P.cellsOf t)
          · rw [hb] at h; exact h.elim
          · rw [hb, cond_true] at h
            obtain ⟨vs, hl, hvs, hK⟩ := rds_cells h
            refine ⟨_, _, hK, ⟨rfl, fun _ _ => rfl⟩, fun w' hw => ?_⟩
            have hlen : vs.length = P.cellsOf t := by rw [hl]; exact Nat.eq_of_beq_eq_true hb
            have hrun := run_loadCells_list (P := P) w' a vs (fun j v hv => by
              have hj : j < P.cellsOf t := by rw [← hlen]; exact (List.getElem?_eq_some_iff.1 hv).1
              rw [hw.2 j hj]
              have := hvs j v hv
              simpa using this)
            rw [hlen] at hrun
            simp [Instr.loadAt, Instr.sureAddr, loadVar, isAgg_run hd, hagg, sizeOf_run (info_of_underlying hd), hrun]
  | _ => exact h.elim

theorem rv_cell {l : LK} {x : Option Value} {K : Value → Prop} (h : rv l x K) : ∃ v, x = some v ∧ K v := by
  cases l <;> simp only [rv, G.vI, G.vB, G.vS, G.vSl, G.vP, G.vM, G.vF, G.vV] at h
  all_goals first
    | exact h.elim
    | (obtain ⟨n, hc, hk⟩ := h; exact ⟨_, hc, hk⟩)
theorem rvs_cells {cs : Array Value} {o : Nat} : ∀ {ls : List LK} {i : Nat} {acc : List Value} {K : List Value → Prop}, rvs cs o ls i acc K →
    ∃ vs, vs.length = ls.length ∧ (∀ j v, vs[j]? = some v → cs[o + (i + j)]? = some v) ∧ K (acc ++ vs)
  | [], i, acc, K, h => ⟨[], rfl, fun j v hv => by simp at hv, by simpa [rvs] using h⟩
  | l :: r, i, acc, K, h => by
    simp only [rvs] at h
    obtain ⟨v, hc, hk⟩ := rv_cell h
    obtain ⟨vs, hl, hvs, hK⟩ := rvs_cells hk
    refine ⟨v :: vs, by simp [hl], fun j u hu => ?_, by simpa using hK⟩
    cases j with
    | zero => simp only [List.getElem?_cons_zero, Option.some.injEq] at hu; subst hu; simpa using hc
    | succ j => rw [show i + (j + 1) = i + 1 + j by omega]; exact hvs j u (by simpa using hu)
theorem part_agg {e : TypeId} {fs : Array Field} {inf : TypeInfo} {cs : Array Value} {o : Nat} {vs : List Value} (he : P.underlying e = some (.struct fs)) (hinf : P.info? e = some inf) (hl : vs.length = inf.size)
    (hvs : ∀ j v, vs[j]? = some v → cs[o + j]? = some v) (w : World) : (part e cs o).run P w = .ok (.agg ⟨vs⟩) w := by
  have hx : cs.extract o (o + inf.size) = ⟨vs⟩ := by
    apply Array.ext_getElem?
    intro j
    rw [Array.getElem?_extract]
    by_cases hj : j < inf.size
    · obtain ⟨v, hv⟩ : ∃ v, vs[j]? = some v := ⟨_, List.getElem?_eq_getElem (by omega)⟩
      have := hvs j v hv
      have hlt : o + j < cs.size := (Array.getElem?_eq_some_iff.1 this).1
      rw [if_pos (by omega), this]
      simpa using hv.symm
    · rw [if_neg (by omega)]
      simp [List.getElem?_eq_none (show vs.length ≤ j by omega)]
  simp [part, isAgg, run_underlying he, sizeOf, typeInfo, hinf, hx]
theorem sts_ok {a : Addr} : ∀ {vs : List Value} {i : Nat} {w : World} {K : World → Prop}, sts a vs i w K → ∃ w', (storeCells a vs i).run P w = .ok () w' ∧ K w'
  | [], i, w, K, h => ⟨w, rfl, h⟩
  | v :: r, i, w, K, h => by
    simp only [sts] at h
    split at h
    · rename_i hv
      obtain ⟨⟨u, hu⟩, hf, h⟩ := h
      obtain ⟨w', hr, hk⟩ := sts_ok h
      refine ⟨w', ?_, hk⟩
      simp only [storeCells, Sem.run_bind]
      rw [run_store P w _ v .plain hv, hu]
      simp only [hf, Bool.false_eq_true, if_false, Result.andThen_ok]
      exact hr
    · exact h.elim

theorem vcStore_ok {t : TypeId} {x v : Value} {w : World} {K : World → Prop} (h : vcStore P t x v w K) : ∃ w', (Instr.storeAt t x v).run P w = .ok () w' ∧ K w' := by
  unfold vcStore at h
  split at h
  · obtain ⟨a, rfl, h⟩ := ptr_some h
    cases hi : (P.info? t).isSome
    · rw [hi] at h; exact h.elim
    · rw [hi] at h
      simp only [cond_true] at h
      cases hb : Nat.beq v.cells.size (P.cellsOf t)
      · rw [hb] at h; exact h.elim
      · rw [hb] at h
        simp only [cond_true] at h
        obtain ⟨w', hr, hk⟩ := sts_ok (P := P) h
        refine ⟨w', ?_, hk⟩
        simp [Instr.storeAt, Instr.sureAddr, storeVar, sizeOf_run hi, Nat.eq_of_beq_eq_true hb, hr]
  · exact h.elim

theorem ix_some {A : Option Addr} {n : Nat} {i : Int} {size : Nat} {K : Addr → Prop} (h : G.ix A n i size K) : ∃ a, A = some a ∧ (0 ≤ i ∧ i < n) ∧ K (a.add (i.toNat * size)) := by
  cases A with
  | none => exact h.elim
  | some a => exact ⟨a, rfl, h.1, h.2⟩

theorem vcIndexAddr_ok {t : TypeId} {x i : Value} {K : Value → Prop} (h : vcIndexAddr P t x i K) : ∃ v, K v ∧ ∀ w, (Instr.indexAt t x i).run P w = .ok v w := by
  unfold vcIndexAddr at h
  split at h
  · split at h
    · rename_i e A n c hu
      cases hi : (P.info? e).isSome
      · rw [hi] at h; exact h.elim
      · rw [hi] at h
        simp only [cond_true] at h
        obtain ⟨a, rfl, hb, hk⟩ := ix_some h
        exact ⟨_, hk, fun w => by simp [Instr.indexAt, asIntOf, run_underlying hu, hb, sizeOf_run hi]⟩
    · rename_i n e A hu
      cases hi : (P.info? e).isSome
      · rw [hi] at h; exact h.elim
      · rw [hi] at h
        simp only [cond_true] at h
        obtain ⟨a, rfl, hb, hk⟩ := ix_some h
        exact ⟨_, hk, fun w => by simp [Instr.indexAt, asIntOf, run_underlying hu, Instr.sureAddr, hb, sizeOf_run hi]⟩
    · exact h.elim
  · exact h.elim

theorem gen_ok {s : Sem Next} {K : Value → Prop} (h : genK P s K) : ∃ v, K v ∧ ∀ w, s.run P w = .ok (.value v) w := by
  unfold genK at h
  split at h
  · rename_i v hv; exact ⟨v, h, fun w => pureOf_run hv w⟩
  · exact h.elim

theorem equalIn_slice_none (d : Nat) {t e : TypeId} (hu : P.underlying t = some (.slice e)) (A : Option Addr) (n c n' c' : Nat) (w : World) :
    (Op.equalIn (d + 1) t (.slice A n c) (.slice none n' c')).run P w = .ok A.isNone w := by
  cases A <;> simp [Op.equalIn, run_underlying hu]
theorem equal_slice_none {t e : TypeId} (hu : P.underlying t = some (.slice e)) (A : Option Addr) (n c n' c' : Nat) (w : World) :
    (Op.equal t (.slice A n c) (.slice none n' c')).run P w = .ok A.isNone w := equalIn_slice_none 9999 hu A n c n' c' w
theorem equalIn_pointer_none (d : Nat) {t e : TypeId} (hu : P.underlying t = some (.pointer e)) (A : Option Addr) (w : World) :
    (Op.equalIn (d + 1) t (.pointer A) (.pointer none)).run P w = .ok A.isNone w := by
  cases A <;> simp [Op.equalIn, run_underlying hu]
theorem equal_pointer_none {t e : TypeId} (hu : P.underlying t = some (.pointer e)) (A : Option Addr) (w : World) :
    (Op.equal t (.pointer A) (.pointer none)).run P w = .ok A.isNone w := equalIn_pointer_none 9999 hu A w
theorem equalIn_none_pointer (d : Nat) {t e : TypeId} (hu : P.underlying t = some (.pointer e)) (A : Option Addr) (w : World) :
    (Op.equalIn (d + 1) t (.pointer none) (.pointer A)).run P w = .ok A.isNone w := by
  cases A <;> simp [Op.equalIn, run_underlying hu]
theorem equal_none_pointer {t e : TypeId} (hu : P.underlying t = some (.pointer e)) (A : Option Addr) (w : World) :
    (Op.equal t (.pointer none) (.pointer A)).run P w = .ok A.isNone w := equalIn_none_pointer 9999 hu A w
theorem equalIn_map_none (d : Nat) {t e f : TypeId} (hu : P.underlying t = some (.map e f)) (A : Option Nat) (w : World) :
    (Op.equalIn (d + 1) t (.map A) (.map none)).run P w = .ok A.isNone w := by
  cases A <;> simp [Op.equalIn, run_underlying hu]
theorem equal_map_none {t e f : TypeId} (hu : P.underlying t = some (.map e f)) (A : Option Nat) (w : World) :
    (Op.equal t (.map A) (.map none)).run P w = .ok A.isNone w := equalIn_map_none 9999 hu A w

theorem equalIn_func_nil (d : Nat) {t : TypeId} {a b : Array TypeId} {c : Bool} (hu : P.underlying t = some (.func a b c)) (w : World) : (Op.equalIn (d + 1) t .nilFunc .nilFunc).run P w = .ok true w := by
  simp [Op.equalIn, run_underlying hu]
theorem equalIn_func_some (d : Nat) {t : TypeId} {a b : Array TypeId} {c : Bool} (hu : P.underlying t = some (.func a b c)) (f : Fn) (x y : Array Value) (w : World) : (Op.equalIn (d + 1) t (.func f x y) .nilFunc).run P w = .ok false w := by
  simp [Op.equalIn, run_underlying hu]
theorem isNilF_ok {v : Value} {K : Bool → Prop} {t : TypeId} {a b : Array TypeId} {c : Bool} (hu : P.underlying t = some (.func a b c)) (h : G.isNilF v K) : ∃ x, K x ∧ ∀ w, (Op.equal t v .nilFunc).run P w = .ok x w := by
  unfold G.isNilF at h
  split at h
  · exact ⟨true, h, fun w => equalIn_func_nil 9999 hu w⟩
  · exact ⟨false, h, fun w => equalIn_func_some 9999 hu _ _ _ w⟩
  · exact h.elim
theorem eqF_ok {xs ys : Array Value} (d : Nat) (w : World) : ∀ (fs : List Field) (b : Bool), eqF P xs ys fs = some b → (Op.eqFields (d + 1) xs ys fs).run P w = .ok b w
  | [], b, h => by cases h; rfl
  | f :: r, b, h => by
    simp only [eqF] at h
    cases hn : (f.name == "_") with
    | true => rw [hn] at h; cases h
    | false =>
      rw [hn, cond_false] at h
      cases hr : eqF P xs ys r with
      | none => rw [hr] at h; cases h
      | some b' =>
        rw [hr] at h
        simp only [] at h
        have hne : f.name ≠ "_" := by simpa using hn
        have ih := eqF_ok d w r b' hr
        have step : ∀ (x y : Value) (q : Bool), (part f.type xs f.offset).run P w = .ok x w → (part f.type ys f.offset).run P w = .ok y w → (Op.equalIn (d + 1) f.type x y).run P w = .ok q w →
            (Op.eqFields (d + 1) xs ys (f :: r)).run P w = .ok (q && b') w := fun x y q h1 h2 h3 => by
          simp only [Op.eqFields, if_pos hne, Sem.run_bind, h1, h2, h3, Result.andThen_ok]
          cases q
          · simp
          · simp [ih]
        split at h
        · rename_i k0 k a k' c hu hx hy
          by_cases hk : k = k'
          · subst hk
            rw [decide_eq_true rfl, cond_true] at h
            cases h
            exact step _ _ _ (by simp [part, isAgg, run_underlying hu, hx]) (by simp [part, isAgg, run_underlying hu, hy]) (run_equalIn_int w d _ k _ a c hu)
          · rw [decide_eq_false hk] at h; cases h
        · rename_i a c hu hx hy
          cases h
          exact step _ _ _ (by simp [part, isAgg, run_underlying hu, hx]) (by simp [part, isAgg, run_underlying hu, hy]) (run_equalIn_bool' w d _ a c hu)
        · rename_i a c hu hx hy
          cases h
          exact step _ _ _ (by simp [part, isAgg, run_underlying hu, hx]) (by simp [part, isAgg, run_underlying hu, hy]) (run_equalIn_string w d _ a c hu)
        · rename_i k0 k a k' c hu hx hy
          by_cases hk : k = k'
          · subst hk
            rw [decide_eq_true rfl, cond_true] at h
            cases h
            exact step (.float k a) (.float k c) _ (by simp [part, isAgg, run_underlying hu, hx]) (by simp [part, isAgg, run_underlying hu, hy]) (by simp [Op.equalIn, run_underlying hu])
          · rw [decide_eq_false hk] at h; cases h
        · cases h
theorem vcEqS_ok {t : TypeId} {fs : Array Field} {xs ys : Array Value} {K : Bool → Prop} (hu : P.underlying t = some (.struct fs)) (h : vcEqS P t fs xs ys K) :
    ∃ b, K b ∧ P.eqGuardType P.depth t = false ∧ ∀ w, (Op.equalIn 10000 t (.agg xs) (.agg ys)).run P w = .ok b w := by
  unfold vcEqS at h
  cases hs : (P.stoodInHeld t || P.eqGuardType P.depth t) with
  | true => rw [hs] at h; exact h.elim
  | false =>
    rw [hs, cond_false] at h
    simp only [Bool.or_eq_false_iff] at hs
    split at h
    · rename_i b hb
      have hf : P.fieldsOf t = fs := by unfold Program.fieldsOf; rw [hu]
      refine ⟨b, h, hs.2, fun w => ?_⟩
      rw [run_equalIn_struct w 9999 t xs ys (by rw [hf]; exact hu) hs.1, hf]
      exact eqF_ok 9998 w fs.toList b hb
    · exact h.elim

theorem equalIn_nil_nil (d : Nat) {t : TypeId} {ms : Array (String × TypeId)} (hu : P.underlying t = some (.interface ms)) (w : World) :
    (Op.equalIn (d + 1) t .nilIface .nilIface).run P w = .ok true w := by simp [Op.equalIn, run_underlying hu]
theorem equalIn_iface_nil (d : Nat) {t : TypeId} {ms : Array (String × TypeId)} (hu : P.underlying t = some (.interface ms)) (a : TypeId) (b : Value) (w : World) :
    (Op.equalIn (d + 1) t (.iface a b) .nilIface).run P w = .ok false w := by simp [Op.equalIn, run_underlying hu]
theorem isNilI_ok {o : Oper} {op : BinOp} {t u : TypeId} {x y : Operand} {ms : Array (String × TypeId)} {v : Value} {K : Bool → Prop} (ho : o.op = .binOp op t x y u) (hu : P.underlying t = some (.interface ms))
    (h : bif constY o then G.isNilI v K else False) : ∃ q, K q ∧ (∀ w, (eqGuard op t x y v .nilIface).run P w = .ok () w) ∧ ∀ w, (Op.equal t v .nilIface).run P w = .ok q w := by
  cases hc : constY o with
  | false => rw [hc] at h; exact h.elim
  | true =>
    rw [hc] at h
    obtain ⟨c, rfl⟩ : ∃ c, y = .const c := by
      unfold constY at hc
      rw [ho] at hc
      cases y <;> first | exact ⟨_, rfl⟩ | cases hc
    simp only [cond_true] at h
    unfold G.isNilI at h
    split at h
    · exact ⟨true, h, fun w => by unfold eqGuard; split <;> simp, fun w => equalIn_nil_nil 9999 hu w⟩
    · exact ⟨false, h, fun w => by unfold eqGuard; split <;> simp, fun w => equalIn_iface_nil 9999 hu _ _ w⟩
    · exact h.elim
theorem vcBin_ok {o : Oper} {ρ : Operand → Value} {op : BinOp} {t u : TypeId} {x y : Operand} {K : Value → Prop} (ho : o.op = .binOp op t x y u) (h : vcBin P o ρ op t (ρ x) (ρ y) K) :
    ∃ v, K v ∧ ∀ w, (execOp ρ o).run P w = .ok (.value v) w := by
  unfold vcBin at h
  split at h
  · split at h
    · rename_i k a k' b hx hy
      by_cases hk : k = k'
      · subst hk
        simp only [decide_true, cond_true] at h
        exact ⟨_, h.2, fun w => by simp [execOp, ho, hx, hy, eqGuard, binOp, Op.intDiv, h.1]⟩
      · rw [decide_eq_false hk] at h; exact h.elim
    · exact gen_ok h
  · split at h
    · rename_i k a k' b hx hy
      by_cases hk : k = k'
      · subst hk
        simp only [decide_true, cond_true] at h
        exact ⟨_, h.2, fun w => by simp [execOp, ho, hx, hy, eqGuard, binOp, Op.intDiv, h.1]⟩
      · rw [decide_eq_false hk] at h; exact h.elim
    · exact gen_ok h
  · split at h
    · rename_i k a k' b hx hy
      have h0 : ¬ b < 0 := by have := h.1; omega
      exact ⟨_, h.2, fun w => by simp [execOp, ho, hx, hy, eqGuard, binOp, Op.shift, h0]⟩
    · exact h.elim
  · split at h
    · rename_i k a k' b hx hy
      have h0 : ¬ b < 0 := by have := h.1; omega
      exact ⟨_, h.2, fun w => by simp [execOp, ho, hx, hy, eqGuard, binOp, Op.shift, h0]⟩
    · exact h.elim
  · split at h
    · rename_i a b hx hy
      have h0 := h.1
      have h1 : ¬ (((a.size + b.size : Nat) : Int) > IntKind.i64.max) := by omega
      exact ⟨_, h.2, fun w => by
        simp only [execOp, ho, hx, hy, eqGuard, binOp, Op.stringOp, if_neg h1]; rfl⟩
    · exact gen_ok h
  · split at h
    · rename_i e A n c n' c' hu hx hy
      exact ⟨_, h, fun w => by simp [execOp, ho, hx, hy, eqGuard, binOp, equal_slice_none hu]⟩
    · rename_i e A B hu hx hy
      cases B with
      | none => exact ⟨_, h, fun w => by simp [execOp, ho, hx, hy, eqGuard, binOp, equal_pointer_none hu]⟩
      | some b =>
        cases A with
        | none => exact ⟨_, h, fun w => by simp [execOp, ho, hx, hy, eqGuard, binOp, equal_none_pointer hu]⟩
        | some a => exact h.elim
    · rename_i e f A hu hx hy
      exact ⟨_, h, fun w => by simp [execOp, ho, hx, hy, eqGuard, binOp, equal_map_none hu]⟩
    · rename_i a b c hu hy
      obtain ⟨q, hk, hrun⟩ := isNilF_ok hu h
      exact ⟨_, hk, fun w => by simp [execOp, ho, hy, eqGuard, binOp, hrun]⟩
    · rename_i a b c hu hy
      obtain ⟨q, hk, hg, hrun⟩ := isNilI_ok ho hu h
      exact ⟨_, hk, fun w => by simp [execOp, ho, hy, hg, binOp, hrun]⟩
    · rename_i fs xs ys hu hx hy
      obtain ⟨q, hk, hg, hrun⟩ := vcEqS_ok hu h
      exact ⟨_, hk, fun w => by simp [execOp, ho, hx, hy, run_eqGuard_agg _ _ _ _ _ _ _ hg, run_eql_struct, hrun]⟩
    · exact gen_ok h
  · split at h
    · rename_i e A n c n' c' hu hx hy
      exact ⟨_, h, fun w => by simp [execOp, ho, hx, hy, eqGuard, binOp, equal_slice_none hu]⟩
    · rename_i e A B hu hx hy
      cases B with
      | none => exact ⟨_, h, fun w => by simp [execOp, ho, hx, hy, eqGuard, binOp, equal_pointer_none hu]⟩
      | some b =>
        cases A with
        | none => exact ⟨_, h, fun w => by simp [execOp, ho, hx, hy, eqGuard, binOp, equal_none_pointer hu]⟩
        | some a => exact h.elim
    · rename_i e f A hu hx hy
      exact ⟨_, h, fun w => by simp [execOp, ho, hx, hy, eqGuard, binOp, equal_map_none hu]⟩
    · rename_i a b c hu hy
      obtain ⟨q, hk, hrun⟩ := isNilF_ok hu h
      exact ⟨_, hk, fun w => by simp [execOp, ho, hy, eqGuard, binOp, hrun]⟩
    · rename_i a b c hu hy
      obtain ⟨q, hk, hg, hrun⟩ := isNilI_ok ho hu h
      exact ⟨_, hk, fun w => by simp [execOp, ho, hy, hg, binOp, hrun]⟩
    · rename_i fs xs ys hu hx hy
      obtain ⟨q, hk, hg, hrun⟩ := vcEqS_ok hu h
      exact ⟨_, hk, fun w => by simp [execOp, ho, hx, hy, run_eqGuard_agg _ _ _ _ _ _ _ hg, run_neq_struct, hrun]⟩
    · exact gen_ok h
  · exact gen_ok h

theorem boundOf_cases {d n : Int} {x : Option Value} (e : boundOf d x = some n) : (x = none ∧ n = d) ∨ ∃ k, x = some (.int k n) := by
  unfold boundOf at e
  split at e
  · simp only [Option.some.injEq] at e; exact .inl ⟨rfl, e.symm⟩
  · rename_i k m
    simp only [Option.some.injEq] at e; subst e
    exact .inr ⟨k, rfl⟩
  · cases e

theorem sliceBound_run {w : World} {k : IntKind} {i : Int} {y : Nat} {code : BoundsCode} (h0 : 0 ≤ i) (h1 : i ≤ y) : (Instr.sliceBound (.int k i) y code).run P w = .ok i.toNat w := by
  simp [Instr.sliceBound, asIntOf, h0, h1]

theorem sliceBounds_two {w : World} {isSlice : Bool} {len cap : Nat} {lo hi : Option Value} {l h : Int} (el : boundOf 0 lo = some l) (eh : boundOf (len : Int) hi = some h) (h0 : 0 ≤ l) (h1 : l ≤ h) (h2 : h ≤ cap) :
    (Instr.sliceBounds isSlice len cap lo hi none).run P w = .ok (l.toNat, h.toNat, cap) w := by
  unfold Instr.sliceBounds
  rcases boundOf_cases el with ⟨rfl, rfl⟩ | ⟨k, rfl⟩ <;> rcases boundOf_cases eh with ⟨rfl, rfl⟩ | ⟨k', rfl⟩
  · simp
  · simp [sliceBound_run (P := P) (w := w) (k := k') (i := h) (y := cap) (by omega) h2]
  · simp [sliceBound_run (P := P) (w := w) (k := k) (i := l) (y := len) h0 h1]
  · simp [sliceBound_run (P := P) (w := w) (k := k') (i := h) (y := cap) (by omega) h2, sliceBound_run (P := P) (w := w) (k := k) (i := l) (y := h.toNat) h0 (by omega)]

theorem sliceBounds_three {w : World} {len cap : Nat} {lo : Option Value} {k k' : IntKind} {l h m : Int} (el : boundOf 0 lo = some l) (h0 : 0 ≤ l) (h1 : l ≤ h) (h2 : h ≤ m) (h3 : m ≤ cap) :
    (Instr.sliceBounds true len cap lo (some (.int k h)) (some (.int k' m))).run P w = .ok (l.toNat, h.toNat, m.toNat) w := by
  unfold Instr.sliceBounds
  rcases boundOf_cases el with ⟨rfl, rfl⟩ | ⟨k2, rfl⟩
  · simp [sliceBound_run (P := P) (w := w) (k := k') (i := m) (y := cap) (by omega) h3, sliceBound_run (P := P) (w := w) (k := k) (i := h) (y := m.toNat) (by omega) (by omega)]
  · simp [sliceBound_run (P := P) (w := w) (k := k') (i := m) (y := cap) (by omega) h3, sliceBound_run (P := P) (w := w) (k := k) (i := h) (y := m.toNat) (by omega) (by omega),
      sliceBound_run (P := P) (w := w) (k := k2) (i := l) (y := h.toNat) h0 (by omega)]

theorem vcSlice_ok {t : TypeId} {x : Value} {lo hi mx : Option Value} {K : Value → Prop} (h : vcSlice P t x lo hi mx K) :
    ∃ v, K v ∧ ∀ w, (Instr.sliceAt t x lo hi mx).run P w = .ok v w := by
  unfold vcSlice at h
  split at h
  · rename_i s hu
    split at h
    · rename_i l hh e1 e2
      obtain ⟨⟨h0, h1, h2⟩, hk⟩ := h
      exact ⟨_, hk, fun w => by
        simp only [Instr.sliceAt, Sem.run_bind, run_underlying hu, Result.andThen_ok, Instr.slice, Option.isSome_none, Bool.false_eq_true, if_false, Sem.run_pure,
          sliceBounds_two (P := P) (w := w) (isSlice := false) e1 e2 h0 h1 h2]⟩
    · exact h.elim
  · rename_i e A n c hu
    cases hi' : (P.info? e).isSome
    · rw [hi'] at h; exact h.elim
    · rw [hi'] at h
      simp only [cond_true] at h
      split at h
      · split at h
        · rename_i l hh e1 e2
          obtain ⟨⟨h0, h1, h2⟩, hk⟩ := h
          exact ⟨_, hk, fun w => by
            simp only [Instr.sliceAt, Sem.run_bind, run_underlying hu, Result.andThen_ok, Instr.slice, sizeOf_run hi', Sem.run_pure,
              sliceBounds_two (P := P) (w := w) (isSlice := true) e1 e2 h0 h1 h2]⟩
        · exact h.elim
      · split at h
        · rename_i l hh e1
          obtain ⟨⟨h0, h1, h2, h3⟩, hk⟩ := h
          exact ⟨_, hk, fun w => by
            simp only [Instr.sliceAt, Sem.run_bind, run_underlying hu, Result.andThen_ok, Instr.slice, sizeOf_run hi', Sem.run_pure,
              sliceBounds_three (P := P) (w := w) e1 h0 h1 h2 h3]⟩
        · exact h.elim
      · exact h.elim
  · exact h.elim

theorem lkR_ok {α : Type} {m : Sem Value} {f : α → Value} {ok : Bool} {w : World} {K : Value → Prop} (h : lkR P m f ok w K) : ∃ v, K v ∧ ∀ d, m.run P (w.drewN d) = .ok v (w.drewN d) := by
  unfold lkR at h
  cases ok with
  | true => obtain ⟨a, b, hr, hk⟩ := h; exact ⟨_, hk, hr⟩
  | false => obtain ⟨a, hr, hk⟩ := h; exact ⟨_, hk, hr⟩
theorem splitA_ok {e : TypeId} {v : Value} {K : Value → Prop} (h : splitA P e v K) : K v := by
  unfold splitA at h
  cases ha : isAggT P e with
  | false => rw [ha] at h; exact h.elim
  | true =>
    rw [ha] at h
    have h : G.ag v (leaves P 8 e).length fun cs => rvs cs 0 (leaves P 8 e) 0 [] fun vs => K (.agg ⟨vs⟩) := h
    cases v with
    | agg cs =>
      have h : (bif Nat.beq cs.size (leaves P 8 e).length then rvs cs 0 (leaves P 8 e) 0 [] fun vs => K (.agg ⟨vs⟩) else False) := h
      cases hs : Nat.beq cs.size (leaves P 8 e).length
      · rw [hs] at h; exact h.elim
      · rw [hs] at h
        have hs' : cs.size = (leaves P 8 e).length := Nat.eq_of_beq_eq_true hs
        obtain ⟨vs, hl, hvs, hk⟩ := rvs_cells (h : rvs cs 0 (leaves P 8 e) 0 [] fun vs => K (.agg ⟨vs⟩))
        have : cs = ⟨vs⟩ := by
          apply Array.ext'
          apply List.ext_getElem?
          intro j
          rcases Nat.lt_or_ge j vs.length with hj | hj
          · have := hvs j vs[j] (by simp [hj])
            simp at this
            rw [Array.getElem?_toList, this]
            simp [hj]
          · rw [List.getElem?_eq_none (by simp; omega), List.getElem?_eq_none (by simpa using hj)]
        rw [this]; exact hk
    | _ => exact h.elim
theorem lkA_ok {e : TypeId} {m : Sem Value} {ok : Bool} {w : World} {K : Value → Prop} (h : bif ok then G.rd2 P m (fun v : Value => v) w fun v b => splitA P e v fun v => K (.tuple #[v, .bool b]) else G.rd1 P m (fun v : Value => v) w fun v => splitA P e v K) :
    ∃ v, K v ∧ ∀ d, m.run P (w.drewN d) = .ok v (w.drewN d) := by
  cases ok with
  | true =>
    obtain ⟨v, b, hr, hk⟩ := (h : G.rd2 P m (fun v : Value => v) w fun v b => splitA P e v fun v => K (.tuple #[v, .bool b]))
    exact ⟨.tuple #[v, .bool b], splitA_ok (K := fun v => K (.tuple #[v, .bool b])) hk, hr⟩
  | false =>
    obtain ⟨v, hr, hk⟩ := (h : G.rd1 P m (fun v : Value => v) w fun v => splitA P e v K)
    exact ⟨v, splitA_ok hk, hr⟩
theorem vcLk_ok {t : TypeId} {m : Sem Value} {ok : Bool} {w : World} {K : Value → Prop} (h : vcLk P t m ok w K) : ∃ v, K v ∧ ∀ d, m.run P (w.drewN d) = .ok v (w.drewN d) := by
  unfold vcLk at h
  split at h
  · split at h
    all_goals first
      | exact lkR_ok h
      | exact lkA_ok h
      | exact h.elim
  · exact h.elim
theorem vcR_ok {N : Nat} {o : Oper} {ρ : Env} {w : World} {K : Value → Prop} (h : vcR P N o ρ w K) :
    ∃ v, K v ∧ ∀ d, (execOp (ev N ρ) o).run P (w.drewN d) = .ok (.value v) (w.drewN d) := by
  have hg : genK P (execOp (ev N ρ) o) K → ∃ v, K v ∧ ∀ d, (execOp (ev N ρ) o).run P (w.drewN d) = .ok (.value v) (w.drewN d) := fun h =>
    let ⟨v, hk, hr⟩ := gen_ok h
    ⟨v, hk, fun d => hr _⟩
  unfold vcR at h
  split at h
  · rename_i x ho; exact ⟨_, h, fun d => by simp [execOp, ho]⟩
  · rename_i x ho; exact ⟨_, h, fun d => by simp [execOp, ho]⟩
  · rename_i c a b ho
    split at h
    · rename_i c' hc
      cases c'
      · exact ⟨_, h, fun d => by simp [execOp, ho, hc, asBool]⟩
      · exact ⟨_, h, fun d => by simp [execOp, ho, hc, asBool]⟩
    · exact h.elim
  · rename_i t x ho
    obtain ⟨v, hk, hr⟩ := vcLoad_ok h
    exact ⟨v, hk, fun d => by simp [execOp, ho, hr]⟩
  · rename_i t x i ho
    obtain ⟨v, hk, hr⟩ := vcIndexAddr_ok h
    exact ⟨v, hk, fun d => by simp [execOp, ho, hr]⟩
  · rename_i x ho
    split at h
    · rename_i A hx
      obtain ⟨a, rfl, hk⟩ := ptr_some h
      exact ⟨_, hk, fun d => by simp [execOp, ho, hx]⟩
    · exact h.elim
  · rename_i op t x y u ho
    obtain ⟨v, hk, hr⟩ := vcBin_ok ho h
    exact ⟨v, hk, fun d => hr _⟩
  · rename_i t x lo hi mx ho
    obtain ⟨v, hk, hr⟩ := vcSlice_ok h
    exact ⟨v, hk, fun d => by simp [execOp, ho, hr]⟩
  · rename_i t x i ho
    split at h
    · rename_i s k n hu hx hi
      obtain ⟨b, h0, hb, hk⟩ := h
      exact ⟨_, hk, fun d => by simp [execOp, ho, hx, hi, Instr.index, asIntOf, run_underlying hu, h0, hb]⟩
    · rename_i len e cs k n hu hx hi
      split at h
      · rename_i k' inf he hinf
        cases hs : Nat.beq inf.size 1
        · rw [hs] at h; exact h.elim
        · rw [hs] at h
          simp only [cond_true] at h
          obtain ⟨m, hb, hc, hk⟩ := h
          have hs' : inf.size = 1 := Nat.eq_of_beq_eq_true hs
          exact ⟨_, hk, fun d => by simp [execOp, ho, hx, hi, Instr.index, asIntOf, run_underlying hu, hb, part, isAgg, run_underlying he, sizeOf, typeInfo, hinf, hs', hc]⟩
      · rename_i fs inf he hinf
        cases hs : (Nat.beq inf.size (leaves P 8 e).length && Nat.beq cs.size (len * inf.size))
        · rw [hs] at h; exact h.elim
        · rw [hs] at h
          simp only [cond_true] at h
          simp only [Bool.and_eq_true] at hs
          obtain ⟨hb, h⟩ := h
          obtain ⟨vs, hl, hvs, hk⟩ := rvs_cells h
          have hpart := fun w => part_agg (P := P) he hinf (by rw [hl]; exact (Nat.eq_of_beq_eq_true hs.1).symm) (fun j v hv => by simpa using hvs j v hv) w
          exact ⟨_, hk, fun d => by simp [execOp, ho, hx, hi, Instr.index, asIntOf, run_underlying hu, hb, sizeOf, typeInfo, hinf, hpart]⟩
      · exact h.elim
    · exact h.elim
  · rename_i s d x ho
    split at h
    · rename_i e A n c hs hd hx
      split at h
      · rename_i he
        obtain ⟨r, hr, hk⟩ := h
        exact ⟨_, hk, fun m => by simp [execOp, ho, hx, Go.convert, run_underlying hs, run_underlying hd, run_underlying he, hr]⟩
      · exact h.elim
    · rename_i k' k n k2 hs hd hx
      exact ⟨_, h, fun m => by simp [execOp, ho, hx, Go.convert, run_underlying hs, run_underlying hd, Conv.intToInt]⟩
    · rename_i k' k b hs hd hx
      obtain ⟨n, hn, hk⟩ := h
      exact ⟨_, hk, fun m => by simp [execOp, ho, hx, run_convert_float_int (P := P) _ s d .f64 k b n (by rw [hs]; rfl) hd hn]⟩
    · exact hg h
  all_goals try (exact hg h)
  · rename_i t x f ho
    split at h
    · rename_i A hx
      obtain ⟨a, rfl, h'⟩ := ptr_some h
      clear h
      split at h'
      · rename_i v hv
        exact ⟨v, h', fun d => by simp [execOp, ho, hx, pureOf_run hv]⟩
      · exact h'.elim
    · exact h.elim
  · rename_i t m k ok ho
    obtain ⟨v, hk, hr⟩ := vcLk_ok h
    exact ⟨v, hk, fun d => by simp [execOp, ho, hr]⟩
  · rename_i args argTypes ho
    have e0 : ∀ (t : TypeId) (x : Value) (w : World), argTypes[0]? = some t → (args[0]?).map (ev N ρ) = some x → (execOp (ev N ρ) o).run P w = ((Builtin.len_ argTypes o.type (args.map (ev N ρ))).run P w).andThen fun v w => .ok (.value v) w := by
      intro t x w h1 h2
      simp [execOp, ho, resolve, invoke, builtin]
    split at h
    · rename_i s hu hx
      cases ht : argTypes[0]? with
      | none => rw [ht] at hu; cases hu
      | some t =>
        rw [ht] at hu
        refine ⟨_, h, fun m => ?_⟩
        rw [e0 t _ _ ht hx]
        have hx' : (args.map (ev N ρ))[0]? = some (.string s) := by rw [Array.getElem?_map]; exact hx
        simp [Builtin.len_, ht, hx', run_underlying (show P.underlying t = _ from hu), goInt]
    · rename_i e A n c hu hx
      cases ht : argTypes[0]? with
      | none => rw [ht] at hu; cases hu
      | some t =>
        rw [ht] at hu
        refine ⟨_, h, fun m => ?_⟩
        rw [e0 t _ _ ht hx]
        have hx' : (args.map (ev N ρ))[0]? = some (.slice A n c) := by rw [Array.getElem?_map]; exact hx
        simp [Builtin.len_, ht, hx', run_underlying (show P.underlying t = _ from hu), goInt]
    · rename_i e f r hu hx
      cases ht : argTypes[0]? with
      | none => rw [ht] at hu; cases hu
      | some t =>
        obtain ⟨n, hr, hk⟩ := h
        refine ⟨_, hk, fun m => ?_⟩
        rw [e0 t _ _ ht hx, hr m]
        rfl
    · exact h.elim
  · exact h.elim

end
end Go.Proofs.Ytaciaidehamfgaa.Vm
