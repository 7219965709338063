/- The predicate transformer of XVm is right: regions, code, functions. Own work; nothing here is trusted. -/
import Derived.OrdersHeld
import Derived.Test.YtnilefminhchfaaDoorVmOk
import Derived.Scope
namespace Go.Proofs.YtnilefminhchfaaDoor.Vm
open Go

section
variable {P : Program} {F : Clee} {N : Nat}

def FOk (P : Program) (F : Clee) : Prop := ∀ n args K w, F n args K w →
  (∃ fn, P.funcs[n]? = some fn ∧ (fn.name == "runtime.NumGoroutine") = false ∧ fn.body.isNone = false) ∧
  Calls P n args.toArray w (fun e w' => ∃ v, e = .returned v ∧ K v w')

theorem callFunc_run {n : FuncId} {args : Array Value} {w : World} (h : ∃ fn, P.funcs[n]? = some fn ∧ (fn.name == "runtime.NumGoroutine") = false ∧ fn.body.isNone = false) :
    (callFunc n args).run P w = .ok (.enter n args) w := by
  obtain ⟨fn, hf, hn, hb⟩ := h
  simp only [callFunc, Sem.run_bind, run_program, Result.andThen_ok, hf]
  rw [if_neg (by rw [hn]; decide), if_neg (by rw [hb]; decide)]
  rfl

theorem call_run {ρ : Env} {o : Oper} {f : Operand} {args : Array Operand} {ts : Array TypeId} {n : FuncId} {first captured : Array Value} {w : World}
    (ho : o.op = .call { callee := .value f, args, argTypes := ts }) (hf : ev N ρ f = .func (.func n) first captured)
    (h : ∃ fn, P.funcs[n]? = some fn ∧ (fn.name == "runtime.NumGoroutine") = false ∧ fn.body.isNone = false) :
    (execOp (ev N ρ) o).run P w = .ok (.enter n (first.toList ++ args.toList.map (ev N ρ) ++ captured.toList).toArray) w := by
  have e : (first.toList ++ args.toList.map (ev N ρ) ++ captured.toList).toArray = first ++ args.map (ev N ρ) ++ captured := by
    apply Array.ext'
    simp
  rw [e]
  simp only [execOp, ho, resolve, hf, Deferred.ofValue, Sem.run_bind, Sem.run_pure, Result.andThen_ok, invoke]
  exact callFunc_run h

theorem wp_value {o : Oper} {a : Act} {w w' : World} {ρ : Env} {v : Value} {Kn : Act → World → Prop} {Q : Exit → Act → World → Prop} (hr : Rel N a ρ)
    (h : (execOp (ev N ρ) o).run P w = .ok (.value v) w') (hk : Kn (a.put o.dst v) w') : o.wp P a w Kn Q := by
  unfold Oper.wp
  rw [hr.evals, h]
  exact hk

theorem wp_skipped {o : Oper} {a : Act} {w w' : World} {ρ : Env} {Kn : Act → World → Prop} {Q : Exit → Act → World → Prop} (hr : Rel N a ρ)
    (h : (execOp (ev N ρ) o).run P w = .ok .skip w') (hk : Kn (a.put o.dst undef) w') : o.wp P a w Kn Q := by
  unfold Oper.wp
  rw [hr.evals, h]
  exact hk

theorem wp_of_vcR {o : Oper} {a : Act} {w : World} {ρ : Env} {K : Value → World → Prop} {Kn : Act → World → Prop} {Q : Exit → Act → World → Prop} (hr : Rel N a ρ)
    (hk : ∀ v w', K v w' → Kn (a.put o.dst v) w') (h : vcR P N o ρ w fun v => K v w) : o.wp P a w Kn Q := by
  obtain ⟨v, hv, hrun⟩ := vcR_ok h
  exact wp_value hr (hrun 0) (hk _ _ hv)

theorem vcOp_ok (hF : FOk P F) {o : Oper} {a : Act} {w : World} {ρ : Env} {K : Value → World → Prop} {Kn : Act → World → Prop} {Q : Exit → Act → World → Prop} (hr : Rel N a ρ)
    (hk : ∀ v w', K v w' → Kn (a.put o.dst v) w') (h : vcOp P F N o ρ w K) : o.wp P a w Kn Q := by
  have hsr : (sr P (execOp (ev N ρ) o) w fun n w' => match n with | .value v => K v w' | _ => False) → o.wp P a w Kn Q := fun h => by
    obtain ⟨n, w', hrun, hK⟩ := sr_run h
    cases n with
    | value v => exact wp_value hr hrun (hk _ _ hK)
    | _ => exact hK.elim
  unfold vcOp at h
  split at h
  · rename_i t x v ho
    obtain ⟨w', hrun, hK⟩ := vcStore_ok h
    exact wp_skipped hr (by simp [execOp, ho, hrun]) (hk _ _ hK)
  · exact hsr h
  · exact hsr h
  · exact hsr h
  · rename_i t l c ho
    obtain ⟨s, w', hrun, hK⟩ := h
    exact wp_value hr (by simp [execOp, ho, hrun]) (hk _ _ hK)
  · rename_i t r ho
    obtain ⟨s, w', hrun, hK⟩ := h
    exact wp_value hr (by simp [execOp, ho, hrun]) (hk _ _ hK)
  · rename_i t m k x ho
    obtain ⟨w', hrun, hK⟩ := h
    exact wp_skipped hr (by simp [execOp, ho, hrun]) (hk _ _ hK)
  · rename_i s d x ho
    split at h
    · obtain ⟨s, w', hrun, hK⟩ := h
      exact wp_value hr (by simp [execOp, ho, hrun]) (hk _ _ hK)
    · obtain ⟨s, w', hrun, hK⟩ := h
      exact wp_value hr (by simp [execOp, ho, hrun]) (hk _ _ hK)
    · exact wp_of_vcR hr hk h
  · rename_i f args ts ho
    split at h
    · rename_i n first captured hf
      obtain ⟨hfn, hc⟩ := hF _ _ _ _ h
      unfold Oper.wp
      rw [hr.evals, call_run ho hf hfn, Oper.upon_enter]
      refine hc.mono fun e w' ⟨v, he, hK⟩ => ?_
      subst he
      exact hk _ _ hK
    · exact h.elim
  · rename_i args ts ho
    obtain ⟨s, w', hrun, hK⟩ := h
    exact wp_value hr (by simp [execOp, ho, resolve, invoke, builtin, hrun]) (hk _ _ hK)
  · rename_i args ts ho
    obtain ⟨s, w', hrun, hK⟩ := h
    exact wp_value hr (by simp [execOp, ho, resolve, invoke, builtin, hrun]) (hk _ _ hK)
  · rename_i args ts ho
    obtain ⟨s, w', hrun, hK⟩ := h
    exact wp_value hr (by simp [execOp, ho, resolve, invoke, builtin, hrun]) (hk _ _ hK)
  · exact wp_of_vcR hr hk h

theorem exK_ex {l : LK} {K : Value → Prop} (h : exK l K) : ∃ v, K v := by
  cases l <;> simp only [exK] at h <;> first | exact h.elim | (obtain ⟨n, h⟩ := h; exact ⟨_, h⟩)

theorem vcOpQ_ok (hF : FOk P F) {o : Oper} {a : Act} {w : World} {ρ : Env} {K : Value → Prop} {Kn : Act → Prop} (hr : Rel N a ρ)
    (hk : ∀ v, K v → Kn (a.put o.dst v)) (h : vcOpQ P F N o ρ w K) : o.quiet P a (fun w' => ∃ d, w' = w.drewN d) Kn := by
  unfold vcOpQ at h
  split at h
  · rename_i f args ts ho
    split at h
    · rename_i n first captured hf
      obtain ⟨v, hs, hK⟩ := exK_ex h
      refine ⟨v, ?_, hk _ hK⟩
      rintro w' ⟨d, rfl⟩
      obtain ⟨hfn, hc⟩ := hF _ _ _ _ (hs d)
      unfold Oper.quietAt
      rw [hr.evals, call_run ho hf hfn]
      refine ⟨rfl, hc.mono fun e w'' ⟨v', he, hv, d', hw⟩ => ⟨?_, d', hw⟩⟩
      rw [he, hv]
    · exact h.elim
  · obtain ⟨v, hv, hrun⟩ := vcR_ok h
    refine ⟨v, ?_, hk _ hv⟩
    rintro w' ⟨d, rfl⟩
    unfold Oper.quietAt
    rw [hr.evals, hrun d]
    exact ⟨rfl, rfl⟩

theorem nth_eq {α : Type} : ∀ (l : List α) (i : Nat), nth l i = l[i]?
  | [], _ => by simp [nth]
  | _ :: _, 0 => rfl
  | _ :: r, i + 1 => by simpa [nth] using nth_eq r i

theorem guardK_ok {all : List Oper} {o : Oper} {ρ : Env} {a : Act} {X : Env → Bool → Prop} (hr : Rel N a ρ) (h : guardK N all o ρ X) :
    ∃ run, Rel N a (if run then ρ else ρ) ∧ Region.wanted o (yielded all.toArray a.tmps) = run ∧ ∃ ρ', Rel N a ρ' ∧ X ρ' run := by
  unfold guardK at h
  unfold Region.wanted
  split at h
  · rename_i hg
    exact ⟨true, by simpa using hr, by simp [hg], ρ, hr, h⟩
  · rename_i j b hg
    simp only [hg]
    rw [nth_eq] at h
    have hy : yielded all.toArray a.tmps j = match ((all[j]?).bind (·.dst)).bind (a.tmps[·]?) with | some (.bool b) => some b | _ => none := by
      simp only [yielded, List.getElem?_toArray]
      rfl
    split at h
    · rename_i hd
      refine ⟨false, by simpa using hr, ?_, ρ, hr, h⟩
      rw [hy, hd]; rfl
    · rename_i s hd
      split at h
      · rename_i c hc
        have hs : a.tmps[s]? = some (.bool c) := by
          have e1 := hr.eval (.tmp s)
          rw [hc] at e1
          simp only [Act.eval, Array.getD_eq_getD_getElem?] at e1
          cases e2 : a.tmps[s]? with
          | none => rw [e2] at e1; cases e1
          | some v => rw [e2] at e1; exact congrArg some e1
        have hρ : Nat.blt s N = true → ρ s = .bool c := fun hb => by simpa [ev, hb] using hc
        have hup : upd ρ s (.bool c) = ρ := by
          by_cases hb : Nat.blt s N = true
          · exact upd_self (hρ hb)
          · simp only [ev, hb] at hc; cases hc
        have hyc : yielded all.toArray a.tmps j = some c := by rw [hy, hd]; simp [hs]
        rw [hyc]
        cases c
        · exact ⟨!b, by simpa using hr, by cases b <;> rfl, upd ρ s (.bool false), by rw [hup]; exact hr, h⟩
        · exact ⟨b, by simpa using hr, by cases b <;> rfl, upd ρ s (.bool true), by rw [hup]; exact hr, h⟩
      · rename_i hne
        refine ⟨false, by simpa using hr, ?_, ρ, hr, h⟩
        have e1 := hr.eval (.tmp s)
        rw [hy, hd]
        cases e2 : a.tmps[s]? with
        | none => simp [e2]
        | some v =>
          simp only [Act.eval, Array.getD_eq_getD_getElem?, e2, Option.getD_some] at e1
          rw [← e1] at hne
          simp only [Option.bind_some, e2]
          split
          · rename_i b' hb'
            simp only [Option.some.injEq] at hb'
            exact absurd hb' (hne b')
          · rfl

theorem vcOps_ok (hF : FOk P F) {all : List Oper} {Q : Exit → Act → World → Prop} {K : Env → World → Prop} (hK : ∀ a ρ w, Rel N a ρ → K ρ w → Q .normal a w) :
    ∀ (l : List Oper) (a : Act) (ρ : Env) (w : World), Rel N a ρ → vcOps P F N all l ρ w K → wpList P all.toArray Q l a w
  | [], a, ρ, w, hr, h => hK _ _ _ hr h
  | o :: r, a, ρ, w, hr, h => by
    simp only [vcOps] at h
    obtain ⟨run, _, hw, ρ', hr', h⟩ := guardK_ok hr h
    unfold wpList
    rw [hw]
    cases run
    · simp only [Bool.false_eq_true, if_false]
      exact vcOps_ok hF hK r _ _ _ (hr'.put o.dst undef) h
    · simp only [if_true]
      exact .inl (vcOp_ok hF hr' (fun v w' hv => vcOps_ok hF hK r _ _ _ (hr'.put o.dst v) hv) h)

theorem vcOpsQ_ok (hF : FOk P F) {all : List Oper} {w : World} {Q : Act → Prop} {K : Env → Prop} (hK : ∀ a ρ, Rel N a ρ → K ρ → Q a) :
    ∀ (l : List Oper) (a : Act) (ρ : Env), Rel N a ρ → vcOpsQ P F N all w l ρ K → wpQuiet P all.toArray (fun w' => ∃ d, w' = w.drewN d) Q l a
  | [], a, ρ, hr, h => hK _ _ hr h
  | o :: r, a, ρ, hr, h => by
    simp only [vcOpsQ] at h
    obtain ⟨run, _, hw, ρ', hr', h⟩ := guardK_ok hr h
    unfold wpQuiet
    rw [hw]
    cases run
    · simp only [Bool.false_eq_true, if_false]
      exact vcOpsQ_ok hF hK r _ _ (hr'.put o.dst undef) h
    · simp only [if_true]
      exact vcOpQ_ok hF hr' (fun v hv => vcOpsQ_ok hF hK r _ _ (hr'.put o.dst v) hv) h

def lift (N : Nat) (K : Post) : Exit → Act → World → Prop := fun e a w => ∃ ρ, Rel N a ρ ∧ K e ρ w

theorem vcR_pure {o : Oper} {ρ : Env} {w : World} {K : Value → Prop} (hp : isPure P o = true) (h : vcR P N o ρ w K) :
    ∃ v, K v ∧ ∀ w', (execOp (ev N ρ) o).run P w' = .ok (.value v) w' := by
  unfold isPure at hp
  unfold vcR at h
  split at hp <;> rename_i ho
  all_goals first
    | cases hp
    | skip
  · rw [ho] at h; exact ⟨_, h, fun d => by simp [execOp, ho]⟩
  · rw [ho] at h; exact ⟨_, h, fun d => by simp [execOp, ho]⟩
  · rw [ho] at h
    simp only [] at h
    split at h
    · rename_i c' hc
      cases c'
      · exact ⟨_, h, fun d => by simp [execOp, ho, hc, asBool]⟩
      · exact ⟨_, h, fun d => by simp [execOp, ho, hc, asBool]⟩
    · exact h.elim
  · rw [ho] at h
    obtain ⟨v, hk, hr⟩ := vcIndexAddr_ok h
    exact ⟨v, hk, fun d => by simp [execOp, ho, hr]⟩
  · rw [ho] at h
    simp only [] at h
    split at h
    · rename_i A hx
      obtain ⟨a, rfl, hk⟩ := ptr_some h
      exact ⟨_, hk, fun d => by simp [execOp, ho, hx]⟩
    · exact h.elim
  · rw [ho] at h
    exact vcBin_ok ho h
  · rw [ho] at h
    obtain ⟨v, hk, hr⟩ := vcSlice_ok h
    exact ⟨v, hk, fun d => by simp [execOp, ho, hr]⟩
  · rw [ho] at h
    simp only [] at h
    split at h
    · rename_i s k n hu hx hi
      obtain ⟨b, h0, hb, hk⟩ := h
      exact ⟨_, hk, fun d => by simp [execOp, ho, hx, hi, Instr.index, asIntOf, run_underlying hu, h0, hb]⟩
    · rename_i len e cs k n hu hx hi
      split at h
      · rename_i k' inf he hinf
        cases hs : Nat.beq inf.size 1
        · rw [hs] at h; exact h.elim
        · rw [hs] at h
          simp only [cond_true] at h
          obtain ⟨m, hb, hc, hk⟩ := h
          have hs' : inf.size = 1 := Nat.eq_of_beq_eq_true hs
          exact ⟨_, hk, fun d => by simp [execOp, ho, hx, hi, Instr.index, asIntOf, run_underlying hu, hb, part, isAgg, run_underlying he, sizeOf, typeInfo, hinf, hs', hc]⟩
      · exact h.elim
    · exact h.elim
  all_goals try (rw [ho] at h; exact gen_ok h)
  · split at hp
    · rename_i s d x k1 k2 hs hd
      rw [ho] at h
      simp only [hs, hd] at h
      split at h
      · rename_i e1 e2; cases e1
      · rename_i k' k n e1 e2 hx
        simp only [Option.some.injEq, TypeDesc.int.injEq] at e2
        subst e2
        exact ⟨_, h, fun m => by simp [execOp, ho, hx, Go.convert, run_underlying hs, run_underlying hd, Conv.intToInt]⟩
      · exact gen_ok h
    · cases hp
  · rw [ho] at h
    rename_i args argTypes
    simp only [] at h
    have e0 : ∀ (t : TypeId) (x : Value) (w : World), argTypes[0]? = some t → (args[0]?).map (ev N ρ) = some x → (execOp (ev N ρ) o).run P w = ((Builtin.len_ argTypes o.type (args.map (ev N ρ))).run P w).andThen fun v w => .ok (.value v) w := by
      intro t x w h1 h2
      simp [execOp, ho, resolve, invoke, builtin]
    split at h
    · rename_i s hu hx
      cases ht : argTypes[0]? with
      | none => rw [ht] at hu; cases hu
      | some t =>
        rw [ht] at hu
        refine ⟨_, h, fun m => ?_⟩
        rw [e0 t _ _ ht hx]
        have hx' : (args.map (ev N ρ))[0]? = some (.string s) := by rw [Array.getElem?_map]; exact hx
        simp [Builtin.len_, ht, hx', run_underlying (show P.underlying t = _ from hu), goInt]
    · rename_i e A n c hu hx
      cases ht : argTypes[0]? with
      | none => rw [ht] at hu; cases hu
      | some t =>
        rw [ht] at hu
        refine ⟨_, h, fun m => ?_⟩
        rw [e0 t _ _ ht hx]
        have hx' : (args.map (ev N ρ))[0]? = some (.slice A n c) := by rw [Array.getElem?_map]; exact hx
        simp [Builtin.len_, ht, hx', run_underlying (show P.underlying t = _ from hu), goInt]
    · rename_i e f r hu hx
      rw [hu] at hp
      cases hp
    · exact h.elim

/-- Only the way out at the end. -/
def onlyN (N : Nat) (K : Env → World → Prop) : Exit → Act → World → Prop := fun e a w => match e with | .normal => ∃ ρ, Rel N a ρ ∧ K ρ w | _ => False

theorem vcOp_pure {o : Oper} {ρ : Env} {w : World} {K : Value → World → Prop} (hp : isPure P o = true) (h : vcOp P F N o ρ w K) : vcR P N o ρ w fun v => K v w := by
  unfold isPure at hp
  unfold vcOp at h
  split at hp <;> rename_i ho
  all_goals first
    | (exact absurd hp (by decide))
    | (rw [ho] at h; exact h)
    | skip
  · rw [ho] at h
    simp only [] at h
    split at hp
    · rename_i hs hd
      rw [hs, hd] at h
      exact h
    · cases hp

theorem sched_ok (hF : FOk P F) {ops : Array Oper} (hs : Region.noSelect ops = true) {K : Env → World → Prop} :
    ∀ (f : Nat) (listed : Array Bool) (σ : List Nat) (a : Act) (ρ : Env) (w : World), sched P ops f listed = some σ → Rel N a ρ → vcOps P F N ops.toList (pickOps ops.toList σ) ρ w K →
      wpAny P .any ops (onlyN N K) f listed a w
  | 0, listed, σ, a, ρ, w, h, hr, hv => by
    simp only [sched] at h
    split at h
    · rename_i h0
      cases h
      exact ⟨h0, ρ, hr, hv⟩
    · cases h
  | f + 1, listed, σ, a, ρ, w, h, hr, hv => by
    simp only [sched] at h
    split at h
    · rename_i h0
      cases h
      exact wpAny_done h0 ⟨ρ, hr, hv⟩ _
    · rename_i hne
      split at h
      · rename_i i hi
        cases hσ : sched P ops f (listed.setIfInBounds i true) with
        | none => rw [hσ] at h; cases h
        | some σ' =>
          rw [hσ] at h
          simp only [Option.map_some, Option.some.injEq] at h
          subst h
          have hp := List.find?_some hi
          have hmem := List.mem_of_find?_eq_some hi
          simp only [Bool.and_eq_true] at hp
          obtain ⟨hp, hf⟩ := hp
          split at hp
          · rename_i o ho
            have ho' : nth ops.toList i = some o := by rw [nth_eq]; simpa using ho
            simp only [pickOps, List.filterMap_cons, ho', vcOps] at hv
            obtain ⟨run, _, hw, ρ', hr', hv⟩ := guardK_ok hr hv
            have hw' : Region.wanted o (yielded ops a.tmps) = run := by simpa using hw
            cases run
            · refine wpAny_take ho hs hf (by simpa using hmem) (fun c a w h => h) (v := undef) (.inr ⟨hw', rfl⟩) ?_
              exact sched_ok hF hs f _ σ' _ _ w hσ (hr'.put o.dst undef) hv
            · simp only [cond_true] at hv
              obtain ⟨v, hk, hrun⟩ := vcR_pure hp (vcOp_pure hp hv)
              refine wpAny_take ho hs hf (by simpa using hmem) (fun c a w h => h) (v := v) (.inl ⟨hw', fun w' => ?_⟩) ?_
              · rw [hr'.evals]; exact hrun w'
              · exact sched_ok hF hs f _ σ' _ _ w hσ (hr'.put o.dst v) hk
          · cases hp
      · split at h
        · rename_i k hk
          cases hσ : sched P ops f (listed.setIfInBounds k true) with
          | none => rw [hσ] at h; cases h
          | some σ' =>
            rw [hσ] at h
            simp only [Option.map_some, Option.some.injEq] at h
            subst h
            refine wpAny_all hk (by simp) ?_
            intro i hi
            simp only [List.mem_singleton] at hi
            subst hi
            unfold wpOp
            split
            · rename_i ho
              have ho' : nth ops.toList i = none := by rw [nth_eq]; simpa using ho
              simp only [pickOps, List.filterMap_cons, ho'] at hv
              exact sched_ok hF hs f _ σ' _ _ w hσ hr hv
            · rename_i o ho
              have ho' : nth ops.toList i = some o := by rw [nth_eq]; simpa using ho
              simp only [pickOps, List.filterMap_cons, ho', vcOps] at hv
              obtain ⟨run, _, hw, ρ', hr', hv⟩ := guardK_ok hr hv
              have hw' : Region.wanted o (yielded ops a.tmps) = run := by simpa using hw
              rw [hw']
              cases run
              · simp only [Bool.false_eq_true, if_false]
                exact sched_ok hF hs f _ σ' _ _ w hσ (hr'.put o.dst undef) hv
              · simp only [if_true]
                exact .inl (vcOp_ok hF hr' (fun v w' hv => sched_ok hF hs f _ σ' _ _ w' hσ (hr'.put o.dst v) hv) hv)
        · cases h

theorem wpAnyH_mono {ops : Array Oper} {Q : Exit → Act → World → Prop} {S T : World → Prop} (hST : ∀ w, S w → T w) :
    ∀ (fuel : Nat) (listed : Array Bool) (a : Act) (w : World), wpAnyH P .any ops Q S fuel listed a w → wpAnyH P .any ops Q T fuel listed a w
  | 0, _, _, _, h => h
  | fuel + 1, _, _, _, h => ⟨h.1, fun i hi => wpOp_mono (fun a' w' h' => ⟨hST _ h'.1, wpAnyH_mono hST fuel _ a' w' h'.2⟩) (h.2 i hi)⟩

theorem schedH_ok (hF : FOk P F) {ops : Array Oper} (hs : Region.noSelect ops = true) {K : Env → World → Prop} :
    ∀ (f : Nat) (S : World → Prop) (listed : Array Bool) (σ : List Nat) (a : Act) (ρ : Env) (w : World), S w → schedH P ops f listed = some σ → Rel N a ρ → vcOpsH P F N ops.toList (pickOps ops.toList σ) S ρ w K →
      wpAnyH P .any ops (onlyN N K) S f listed a w
  | 0, S, listed, σ, a, ρ, w, hS, h, hr, hv => by
    simp only [schedH] at h
    split at h
    · rename_i h0
      cases h
      exact ⟨h0, ρ, hr, hv⟩
    · cases h
  | f + 1, S, listed, σ, a, ρ, w, hS, h, hr, hv => by
    simp only [schedH] at h
    split at h
    · rename_i h0
      cases h
      exact wpAnyH_done h0 ⟨ρ, hr, hv⟩ _
    · rename_i hne
      split at h
      · rename_i i hi
        cases hσ : schedH P ops f (listed.setIfInBounds i true) with
        | none => rw [hσ] at h; cases h
        | some σ' =>
          rw [hσ] at h
          simp only [Option.map_some, Option.some.injEq] at h
          subst h
          have hp := List.find?_some hi
          have hmem := List.mem_of_find?_eq_some hi
          simp only [Bool.and_eq_true] at hp
          obtain ⟨hp, hf⟩ := hp
          split at hp
          · rename_i o ho
            have ho' : nth ops.toList i = some o := by rw [nth_eq]; simpa using ho
            simp only [pickOps, List.filterMap_cons, ho', vcOpsH] at hv
            obtain ⟨run, _, hw, ρ', hr', hv⟩ := guardK_ok hr hv
            have hw' : Region.wanted o (yielded ops a.tmps) = run := by simpa using hw
            cases run
            · refine wpAnyH_take ho hs hf (by simpa using hmem) (fun c a w h => h) (v := undef) (.inr ⟨hw', rfl⟩) hS ?_
              exact schedH_ok hF hs f S _ σ' _ _ w hS hσ (hr'.put o.dst undef) hv
            · simp only [cond_true] at hv
              split at hv
              · rename_i t x hop
                obtain ⟨v, T, hk, hT, hrun⟩ := vcLoad_held hv
                refine wpAnyH_mono (S := fun w' => S w' ∧ T w') (fun _ h => h.1) _ _ _ _ ?_
                refine wpAnyH_take ho hs hf (by simpa using hmem) (fun c a w h => h) (v := v) (.inl ⟨hw', fun w' hw' => ?_⟩) ⟨hS, hT⟩ ?_
                · rw [hr'.evals]
                  simp [execOp, hop, hrun w' hw'.2]
                · exact schedH_ok hF hs f _ _ σ' _ _ w ⟨hS, hT⟩ hσ (hr'.put o.dst v) hk
              · rename_i hne2
                have hp' : isPure P o = true := by
                  unfold isHeld at hp
                  split at hp
                  · rename_i t x hop; exact absurd hop (hne2 t x)
                  · exact hp
                rw [hp', cond_true] at hv
                obtain ⟨v, hk, hrun⟩ := vcR_pure hp' (vcOp_pure hp' hv)
                refine wpAnyH_take ho hs hf (by simpa using hmem) (fun c a w h => h) (v := v) (.inl ⟨hw', fun w' _ => ?_⟩) hS ?_
                · rw [hr'.evals]; exact hrun w'
                · exact schedH_ok hF hs f S _ σ' _ _ w hS hσ (hr'.put o.dst v) hk
          · cases hp
      · split at h
        · rename_i k hk
          cases hσ : schedH P ops f (listed.setIfInBounds k true) with
          | none => rw [hσ] at h; cases h
          | some σ' =>
            rw [hσ] at h
            simp only [Option.map_some, Option.some.injEq] at h
            subst h
            refine wpAnyH_all hk (by simp) ?_
            intro i hi
            simp only [List.mem_singleton] at hi
            subst hi
            unfold wpOp
            split
            · rename_i ho
              have ho' : nth ops.toList i = none := by rw [nth_eq]; simpa using ho
              simp only [pickOps, List.filterMap_cons, ho'] at hv
              exact ⟨hS, schedH_ok hF hs f S _ σ' _ _ w hS hσ hr hv⟩
            · rename_i o ho
              have ho' : nth ops.toList i = some o := by rw [nth_eq]; simpa using ho
              simp only [pickOps, List.filterMap_cons, ho', vcOpsH] at hv
              obtain ⟨run, _, hw, ρ', hr', hv⟩ := guardK_ok hr hv
              have hw' : Region.wanted o (yielded ops a.tmps) = run := by simpa using hw
              rw [hw']
              cases run
              · simp only [Bool.false_eq_true, if_false]
                exact ⟨hS, schedH_ok hF hs f S _ σ' _ _ w hS hσ (hr'.put o.dst undef) hv⟩
              · simp only [if_true, cond_true] at hv ⊢
                refine .inl ?_
                split at hv
                · rename_i t x hop
                  obtain ⟨v, T, hk, hT, hrun⟩ := vcLoad_held hv
                  unfold Oper.wp
                  rw [hr'.evals]
                  simp only [execOp, hop, Sem.run_bind, hrun w hT, Result.andThen_ok, Sem.run_pure, Oper.upon]
                  exact ⟨hS, wpAnyH_mono (S := fun w' => S w' ∧ T w') (fun _ h => h.1) _ _ _ _ (schedH_ok hF hs f _ _ σ' _ _ w ⟨hS, hT⟩ hσ (hr'.put o.dst v) hk)⟩
                · cases hq : isPure P o with
                  | true =>
                    rw [hq, cond_true] at hv
                    obtain ⟨v, hk, hrun⟩ := vcR_pure hq (vcOp_pure hq hv)
                    unfold Oper.wp
                    rw [hr'.evals, hrun w]
                    exact ⟨hS, schedH_ok hF hs f S _ σ' _ _ w hS hσ (hr'.put o.dst v) hk⟩
                  | false =>
                    rw [hq, cond_false] at hv
                    exact vcOp_ok hF hr' (fun v w' ⟨h1, h2⟩ => ⟨h1, schedH_ok hF hs f S _ σ' _ _ w' h1 hσ (hr'.put o.dst v) h2⟩) hv
        · cases h

/-! ## Two phases -/
def Closed (ops : Array Oper) (listed : Array Bool) : Prop := ∀ j o, ops[j]? = some o → listed.getD j true = true → ∀ e ∈ o.after, Region.binds .any e = true → listed.getD e.on false = true
theorem getD_tf {l : Array Bool} {j : Nat} (h : l.getD j false = true) : l.getD j true = true := by
  rcases Nat.lt_or_ge j l.size with h' | h'
  · simp [h'] at h ⊢; exact h
  · simp [Array.getElem?_eq_none h']
theorem Closed.set {ops : Array Oper} {listed : Array Bool} {i : Nat} (hc : Closed ops listed) (hr : i ∈ Region.ready .any ops listed) : Closed ops (listed.setIfInBounds i true) := by
  intro j o ho hl e he hb
  by_cases hij : i = j
  · subst hij
    obtain ⟨_, o', ho', hall⟩ := mem_ready.1 hr
    obtain rfl := Option.some.inj (ho.symm.trans ho')
    exact getD_set_true (hall e he hb)
  · rw [getD_set_ne true hij] at hl
    exact getD_set_true (hc j o ho hl e he hb)
theorem desc_unlisted {ops : Array Oper} {listed : Array Bool} {a : Nat} (hc : Closed ops listed) (ha : listed.getD a true = false) : ∀ k j, (descL ops a k).getD j false = true → listed.getD j true = false ∧ (j ≠ a → j ∉ Region.ready .any ops listed)
  | 0, j, h => by simp [descL] at h
  | k + 1, j, h => by
    have hlen : ∀ k, (descL ops a k).length = k := by
      intro k
      induction k with
      | zero => rfl
      | succ k ih => simp [descL, ih]
    simp only [descL] at h
    rcases Nat.lt_trichotomy j k with hj | hj | hj
    · rw [List.getD_eq_getElem?_getD, List.getElem?_append_left (by rw [hlen]; exact hj), ← List.getD_eq_getElem?_getD] at h
      exact desc_unlisted hc ha k j h
    · subst hj
      rw [List.getD_eq_getElem?_getD, List.getElem?_append_right (by rw [hlen]; omega), hlen, Nat.sub_self] at h
      simp only [List.getElem?_cons_zero, Option.getD_some, Bool.or_eq_true] at h
      rcases h with h | h
      · have : j = a := Nat.eq_of_beq_eq_true h
        subst this
        exact ⟨ha, fun h => absurd rfl h⟩
      · split at h
        · rename_i o ho
          obtain ⟨e, he, h⟩ := Array.any_eq_true'.1 h
          simp only [Bool.and_eq_true] at h
          have hu := (desc_unlisted hc ha j e.on h.2).1
          constructor
          · cases hl : listed.getD j true with
            | false => rfl
            | true =>
              have := getD_tf (hc j o ho hl e he h.1)
              rw [hu] at this; cases this
          · intro _ hr
            obtain ⟨_, o', ho', hall⟩ := mem_ready.1 hr
            obtain rfl := Option.some.inj (ho.symm.trans ho')
            have := getD_tf (hall e he h.1)
            rw [hu] at this; cases this
        · cases h
    · rw [List.getD_eq_getElem?_getD, List.getElem?_eq_none (by simp [hlen]; omega)] at h
      cases h

def wpAnyP (P : Program) (ops : Array Oper) (C : World → Prop) (m : Nat) (LA : Array Bool) (Q : Act → Prop) : Nat → Array Bool → Act → Prop
  | 0, listed, a => listed = LA ∧ Q a
  | f + 1, listed, a => Region.ready .any ops listed ≠ [] ∧ ∀ i ∈ Region.ready .any ops listed, i < m ∧ qOp P ops C i (wpAnyP P ops C m LA Q f (listed.setIfInBounds i true)) a
theorem wpAny_of_P {ops : Array Oper} {C : World → Prop} {m r : Nat} {LA : Array Bool} {Q : Act → Prop} {Q' : Exit → Act → World → Prop} (hQ : ∀ a w, C w → Q a → wpAny P .any ops Q' r LA a w) :
    ∀ (f : Nat) (listed : Array Bool) (a : Act) (w : World), C w → wpAnyP P ops C m LA Q f listed a → wpAny P .any ops Q' (f + r) listed a w
  | 0, listed, a, w, hw, h => by
    obtain ⟨rfl, h⟩ := h
    rw [Nat.zero_add]
    exact hQ a w hw h
  | f + 1, listed, a, w, hw, h => by
    rw [Nat.add_right_comm]
    exact ⟨fun h0 => absurd h0 h.1, fun i hi => wpOp_of_qOp hw (fun a' w' hw' => wpAny_of_P hQ f _ a' w' hw') (h.2 i hi).2⟩
theorem covers_spec {ops : Array Oper} {m : Nat} (h : covers ops m = true) {listed : Array Bool} (hc : Closed ops listed) {a : Nat} (ham : a < m) (ha : listed.getD a true = false) {j : Nat} (hj : j ∈ Region.ready .any ops listed) : j < m := by
  unfold covers at h
  rw [List.all_eq_true] at h
  have h1 := h a (List.mem_range.2 ham)
  simp only at h1
  rw [List.all_eq_true] at h1
  obtain ⟨_, o, ho, _⟩ := mem_ready.1 hj
  have hjs : j < ops.size := (Array.getElem?_eq_some_iff.1 ho).1
  have h2 := h1 j (List.mem_range.2 hjs)
  rw [Bool.or_eq_true] at h2
  rcases h2 with h2 | h2
  · rwa [Nat.blt_eq] at h2
  · by_cases e : j = a
    · rw [e]; exact ham
    · exact absurd hj ((desc_unlisted hc ha _ _ h2).2 e)
theorem wpAnyP_first {ops : Array Oper} {C : World → Prop} {m : Nat} {LA : Array Bool} {Q : Act → Prop} {i : Nat} {oi : Oper} {v : Value} (hcov : covers ops m = true) (hLA : ∀ j, j < m → LA.getD j true = true) (him : i < m)
    (hi : ops[i]? = some oi) (hsel : ∀ (j : Nat) (o : Oper) cs b, ops[j]? = some o → o.op ≠ .select cs b) :
    ∀ (fuel : Nat) (listed : Array Bool) (a : Act), Closed ops listed →
      (∀ j oj, ops[j]? = some oj → j ≠ i → listed.getD j true = false → (∀ e ∈ oj.after, Region.binds .any e = true → e.on ≠ i) → oi.apart ops oj = true) →
      i ∈ Region.ready .any ops listed → YieldsIn P ops C oi v a →
      wpAnyP P ops C m LA Q fuel (listed.setIfInBounds i true) (a.put oi.dst v) → wpAnyP P ops C m LA Q (fuel + 1) listed a := by
  intro fuel
  induction fuel with
  | zero =>
    intro listed a hc _ hr hy H
    refine ⟨fun h => (by rw [h] at hr; cases hr), fun j hj => ?_⟩
    have hjm := covers_spec hcov hc him (mem_ready.1 hr).1 hj
    by_cases hji : j = i
    · subst hji; exact ⟨hjm, hy.qOp hi H⟩
    · have h1 := hLA j hjm
      rw [← H.1, getD_set_ne true (Ne.symm hji), (mem_ready.1 hj).1] at h1
      cases h1
  | succ fuel ih =>
    intro listed a hc hfree hr hy H
    refine ⟨fun h => (by rw [h] at hr; cases hr), fun j hj => ?_⟩
    have hjm := covers_spec hcov hc him (mem_ready.1 hr).1 hj
    refine ⟨hjm, ?_⟩
    by_cases hji : j = i
    · subst hji; exact hy.qOp hi H
    · have h1 := (H.2 j (ready_mono hj hji)).2
      obtain ⟨hjun, oj, hoj, hall⟩ := mem_ready.1 hj
      have hnot : ∀ e ∈ oj.after, Region.binds .any e = true → e.on ≠ i := fun e he hb heq => by
        have h1 := hall e he hb
        have h0 := (mem_ready.1 hr).1
        rw [heq] at h1
        have := getD_tf h1
        rw [h0] at this; cases this
      have h2 := qOp_put hoj (hfree j oj hoj hji hjun hnot) (fun cs b => hsel i oi cs b hi) (fun cs b => hsel j oj cs b hoj) hy h1
      have hfree' : ∀ k ok, ops[k]? = some ok → k ≠ i → (listed.setIfInBounds j true).getD k true = false →
          (∀ e ∈ ok.after, Region.binds .any e = true → e.on ≠ i) → oi.apart ops ok = true := fun k ok hk hki hun hno => by
        refine hfree k ok hk hki ?_ hno
        by_cases hjk : j = k
        · subst hjk; exact hjun
        · rw [getD_set_ne true hjk] at hun; exact hun
      refine qOp_mono (fun a' h3 => ih (listed.setIfInBounds j true) a' (hc.set hj) hfree' (ready_mono hr (Ne.symm hji)) h3.1 ?_) h2
      rw [Array.setIfInBounds_comm _ _ hji]
      exact h3.2
theorem wpAnyP_lex {ops : Array Oper} {C : World → Prop} {m : Nat} {LA : Array Bool} {Q : Act → Prop} (hs : Region.noSelect ops = true) (hcov : covers ops m = true) (hLA : ∀ j, j < m → LA.getD j true = true) :
    ∀ (l : List Oper) (k : Nat) (listed : Array Bool) (a : Act), Closed ops listed → (∀ j, j < l.length → l[j]? = ops[k + j]?) → k + l.length = m →
    lexP ops l.length k listed = some LA → wpQuiet P ops C Q l a → wpAnyP P ops C m LA Q l.length listed a
  | [], _, _, _, _, _, _, hB, h => ⟨by simpa [lexP] using hB, h⟩
  | o :: l, k, listed, a, hc, hl, hkm, hB, h => by
    have h0 : ops[k]? = some o := by simpa using (hl 0 (by simp)).symm
    simp only [List.length_cons, lexP] at hB
    cases hb : ((Region.ready .any ops listed).contains k && Region.free .any ops listed k) with
    | false => rw [hb] at hB; cases hB
    | true =>
      rw [hb] at hB
      simp only [Bool.and_eq_true] at hb
      have hr : k ∈ Region.ready .any ops listed := by simpa using hb.1
      have hst : qOp P ops C k (wpQuiet P ops C Q l) a := by unfold qOp; simp only [h0]; exact h
      obtain ⟨v, hy, hK⟩ := yieldsIn_of_qOp h0 hst
      have hlen : k + (l.length + 1) = m := by simpa using hkm
      exact wpAnyP_first hcov hLA (by omega) h0 (Region.noSelect_spec hs) l.length listed a hc (Region.free_spec h0 hb.2) hr hy
        (wpAnyP_lex hs hcov hLA l (k + 1) _ _ (hc.set hr) (fun j hj => by have := hl (j + 1) (by simpa using hj); simpa [Nat.add_assoc, Nat.add_comm 1 j] using this) (by omega) hB hK)

theorem vc_ok (hm : P.follows .mixedOrders = true) (hF : FOk P F) : ∀ (c : Code) (K : Post) (a : Act) (ρ : Env) (w : World), Rel N a ρ → vc P F N c K ρ w → c.wp P (lift N K) a w
  | .skip, K, a, ρ, w, hr, h => wp_skip ⟨ρ, hr, h⟩
  | .region id ops false, K, a, ρ, w, hr, h => by
    refine wp_region ?_
    have e := wpOps_eq_wpList (P := P) (ops := ops) (Q := lift N K) ops.toList 0 (by intro j; simp)
    have e' : List.range' 0 ops.toList.length = List.range ops.size := by simp [List.range_eq_range']
    rw [e'] at e
    rw [e]
    exact vcOps_ok hF (fun a ρ w hr h => ⟨ρ, hr, h⟩) ops.toList a ρ w hr h
  | .region id ops true, K, a, ρ, w, hr, h => by
    simp only [vc] at h
    split at h
    · rename_i σ ho
      unfold order at ho
      split at ho
      · rename_i hs
        refine wp_mono (wp_region_any hm (sched_ok hF hs ops.size _ σ a ρ _ ho hr h)) ?_
        intro e a' w' hq
        cases e with
        | normal => exact hq
        | _ => exact hq.elim
      · cases ho
    split at h
    · rename_i σ hh
      unfold heldOrder at hh
      cases hg : (Region.noSelect ops && ops.toList.any isCallV) with
      | false => rw [hg] at hh; cases hh
      | true =>
        rw [hg, cond_true] at hh
        simp only [Bool.and_eq_true] at hg
        refine wp_mono (wp_region_held (S := fun _ => True) hm (schedH_ok hF hg.1 ops.size _ _ σ a ρ _ trivial hh hr h)) ?_
        intro e a' w' hq
        cases e with
        | normal => exact hq
        | _ => exact hq.elim
    split at h
    case h_2 => exact h.elim
    rename_i mσ hp
    obtain ⟨m, σ⟩ := mσ
    unfold phase at hp
    simp only at hp
    cases hg : (Region.noSelect ops && covers ops (ops.toList.findIdx (isWrite P))) with
    | false => rw [hg] at hp; cases hp
    | true =>
      rw [hg, cond_true] at hp
      simp only [Bool.and_eq_true] at hg
      split at hp
      case h_2 => cases hp
      rename_i LA hlex
      cases hall : (List.range (ops.toList.findIdx (isWrite P))).all (fun j => LA.getD j true) with
      | false => rw [hall] at hp; cases hp
      | true =>
        rw [hall, cond_true] at hp
        obtain ⟨σ', hσ, e⟩ := Option.map_eq_some_iff.1 hp
        injection e with e1 e2
        subst e1 e2
        have hle : ops.toList.findIdx (isWrite P) ≤ ops.size := by
          have := List.findIdx_le_length (p := isWrite P) (xs := ops.toList)
          simpa using this
        generalize ops.toList.findIdx (isWrite P) = m at *
        have hLA : ∀ j, j < m → LA.getD j true = true := fun j hj => by
          rw [List.all_eq_true] at hall
          exact hall j (List.mem_range.2 hj)
        have hlen : (ops.toList.take m).length = m := by rw [List.length_take, Nat.min_eq_left (by simpa using hle)]
        have hcl : Closed ops (Array.replicate ops.size false) := by
          intro j o ho hl
          have hj : j < ops.size := (Array.getElem?_eq_some_iff.1 ho).1
          simp [hj] at hl
        refine wp_mono (Q := onlyN N (K .normal)) (wp_region_any hm ?_) ?_
        · have hq : wpQuiet P ops (fun w' => ∃ d, w' = w.drewN d) (fun a' => ∃ ρ', Rel N a' ρ' ∧ G.drawn w fun w' => vcOps P F N ops.toList (pickOps ops.toList σ') ρ' w' (K .normal)) (ops.toList.take m) a := by
            have := vcOpsQ_ok hF (all := ops.toList) (Q := fun a' => ∃ ρ', Rel N a' ρ' ∧ G.drawn w fun w' => vcOps P F N ops.toList (pickOps ops.toList σ') ρ' w' (K .normal)) (fun a ρ hr h => ⟨ρ, hr, h⟩) (ops.toList.take m) a ρ hr h
            simpa using this
          have hP := wpAnyP_lex (C := fun w' => ∃ d, w' = w.drewN d) hg.1 hg.2 hLA (ops.toList.take m) 0 (Array.replicate ops.size false) a hcl (fun j hj => by
            rw [hlen] at hj
            rw [List.getElem?_take, if_pos hj]; simp) (by omega) (by rw [hlen]; exact hlex) hq
          rw [hlen] at hP
          have := wpAny_of_P (r := ops.size - m) (Q' := onlyN N (K .normal)) (fun a' w' ⟨d, hw'⟩ ⟨ρ', hr', hv⟩ => by
            subst hw'
            exact sched_ok hF hg.1 _ _ σ' _ _ _ hσ hr' (hv d)) m _ a { w with drawn := w.drawn + 1 } ⟨1, rfl⟩ hP
          rwa [show m + (ops.size - m) = ops.size by omega] at this
        · intro e a' w' hq
          cases e with
          | normal => exact hq
          | _ => exact hq.elim
  | .seq x y, K, a, ρ, w, hr, h => by
    refine wp_seq (wp_mono (vc_ok hm hF x _ a ρ w hr h) ?_)
    rintro e a' w' ⟨ρ', hr', h'⟩
    cases e with
    | normal => exact vc_ok hm hF y K a' ρ' w' hr' h'
    | _ => exact ⟨ρ', hr', h'⟩
  | .cond c x y, K, a, ρ, w, hr, h => by
    simp only [vc] at h
    split at h
    · rename_i b hb
      have he := hr.eval c
      rw [hb] at he
      refine wp_cond he ?_
      split at h
      · rename_i s
        have hup : upd ρ s (.bool b) = ρ := by
          by_cases hlt : Nat.blt s N = true
          · exact upd_self (by simpa [ev, hlt] using hb)
          · simp only [ev, hlt] at hb; cases hb
        cases b
        · exact vc_ok hm hF y K a _ w (by rw [hup]; exact hr) h
        · exact vc_ok hm hF x K a _ w (by rw [hup]; exact hr) h
      · cases b
        · exact vc_ok hm hF y K a ρ w hr h
        · exact vc_ok hm hF x K a ρ w hr h
    · exact h.elim
  | .block id c, K, a, ρ, w, hr, h => by
    refine wp_block (wp_mono (vc_ok hm hF c _ a ρ w hr h) ?_)
    rintro e a' w' ⟨ρ', hr', h'⟩
    cases e with
    | exit i =>
      simp only [inBlock] at h'
      simp only [Exit.inBlock]
      by_cases hi : i = id
      · subst hi
        rw [if_pos rfl]
        have : Nat.beq i i = true := by simp
        rw [this] at h'
        exact ⟨ρ', hr', h'⟩
      · rw [if_neg hi]
        have : Nat.beq i id = false := by
          cases hb : Nat.beq i id
          · rfl
          · exact absurd (Nat.eq_of_beq_eq_true hb) hi
        rw [this] at h'
        exact ⟨ρ', hr', h'⟩
    | _ => exact ⟨ρ', hr', h'⟩
  | .loop _, K, a, ρ, w, hr, h => h.elim
  | .exit id, K, a, ρ, w, hr, h => wp_exit ⟨ρ, hr, h⟩
  | .label l, K, a, ρ, w, hr, h => wp_label ⟨ρ, hr, h⟩
  | .ret, K, a, ρ, w, hr, h => wp_ret ⟨ρ, hr, h⟩
  | .rangeFunc .., K, a, ρ, w, hr, h => h.elim
  | .scope c, K, a, ρ, w, hr, h => by
    refine wp_scope_straight (wp_mono (vc_ok hm hF c _ a ρ w hr h) ?_)
    rintro e a' w' ⟨ρ', hr', h'⟩
    cases e with
    | goto l => exact h'
    | _ => exact ⟨ρ', hr', h'⟩
  | .goto _, K, a, ρ, w, hr, h => h.elim
  | .refuse _, K, a, ρ, w, hr, h => h.elim

theorem resK_ok {fn : Func} {ρ : Env} {a : Act} {w : World} {K : Value → World → Prop} (hr : Rel N a ρ) (h : resK P N fn.results.toList ρ w K) :
    ∃ v, (results fn a.tmps).run P w = .ok v w ∧ K v w := by
  have hev : ∀ t, a.tmps.getD t undef = ev N ρ (.tmp t) := fun t => hr.eval (.tmp t)
  unfold resK at h
  unfold results
  split at h <;> rename_i hl
  · have e : fn.results = #[] := Array.ext' hl
    exact ⟨_, by simp [e], h⟩
  · rename_i t
    have e : fn.results = #[.tmp t] := Array.ext' hl
    exact ⟨_, by simp [e, hev], h⟩
  · rename_i t u
    have e : fn.results = #[.tmp t, .tmp u] := Array.ext' hl
    exact ⟨_, by simp [e, hev], h⟩
  · rename_i t u v
    have e : fn.results = #[.tmp t, .tmp u, .tmp v] := Array.ext' hl
    exact ⟨_, by simp [e, hev], h⟩
  · rename_i t u v x
    have e : fn.results = #[.tmp t, .tmp u, .tmp v, .tmp x] := Array.ext' hl
    exact ⟨_, by simp [e, hev], h⟩
  · rename_i t u
    have e : fn.results = #[.cell t u] := Array.ext' hl
    obtain ⟨v, hk, hrun⟩ := vcLoad_ok h
    have hx := hrun 0
    refine ⟨v, ?_, hk⟩
    cases hA : ev N ρ (.tmp t) with
    | pointer A =>
      rw [hA] at hx h
      simp only [vcLoad] at h
      obtain ⟨b, rfl, _⟩ := ptr_some h
      simp only [Instr.loadAt, Instr.sureAddr, Sem.run_bind, Sem.run_pure, Result.andThen_ok, World.drewN_zero] at hx
      simp [e, hev, hA, asAddr, hx]
    | _ => rw [hA] at h; exact h.elim
  · exact h.elim

end
end Go.Proofs.YtnilefminhchfaaDoor.Vm
