/- The predicate transformer of XVm is right: regions, code, functions. Own work; nothing here is trusted. -/
import Derived.Test.YtaciaidehamfgaaVmOk
import Derived.Scope
import Derived.Laws.Sem
namespace Go.Proofs.Ytaciaidehamfgaa.Vm
open Go

section
variable {P : Program} {F : Clee} {N : Nat} {M : Bool}

/-- What is known of those that are called: a function with a body, or one of the model's own that answers at once. -/
def FOk (P : Program) (F : Clee) : Prop := ∀ n args K w, F n args K w →
  ((∃ fn, P.funcs[n]? = some fn ∧ (fn.name == "runtime.NumGoroutine") = false ∧ fn.body.isNone = false) ∧ Calls P n args.toArray w (fun e w' => ∃ v, e = .returned v ∧ K v w')) ∨
  (∃ v w', (callFunc n args.toArray).run P w = .ok (.value v) w' ∧ K v w')

theorem callFunc_run {n : FuncId} {args : Array Value} {w : World} (h : ∃ fn, P.funcs[n]? = some fn ∧ (fn.name == "runtime.NumGoroutine") = false ∧ fn.body.isNone = false) :
    (callFunc n args).run P w = .ok (.enter n args) w := by
  obtain ⟨fn, hf, hn, hb⟩ := h
  simp only [callFunc, Sem.run_bind, run_program, Result.andThen_ok, hf]
  rw [if_neg (by rw [hn]; decide), if_neg (by rw [hb]; decide)]
  rfl

theorem call_run {ρ : Env} {o : Oper} {f : Operand} {args : Array Operand} {ts : Array TypeId} {n : FuncId} {first captured : Array Value} {w : World}
    (ho : o.op = .call { callee := .value f, args, argTypes := ts }) (hf : ev N ρ f = .func (.func n) first captured) :
    (execOp (ev N ρ) o).run P w = (callFunc n (first.toList ++ args.toList.map (ev N ρ) ++ captured.toList).toArray).run P w := by
  have e : (first.toList ++ args.toList.map (ev N ρ) ++ captured.toList).toArray = first ++ args.map (ev N ρ) ++ captured := by
    apply Array.ext'
    simp
  rw [e]
  simp only [execOp, ho, resolve, hf, Deferred.ofValue, Sem.run_bind, Sem.run_pure, Result.andThen_ok, invoke]
theorem yield_run {ρ : Env} {o : Oper} {f : Operand} {args : Array Operand} {ts : Array TypeId} {l : Nat} {first captured : Array Value} {w : World}
    (ho : o.op = .call { callee := .value f, args, argTypes := ts }) (hf : ev N ρ f = .func (.yield l) first captured) :
    (execOp (ev N ρ) o).run P w = (Instr.yield l (first.toList ++ args.toList.map (ev N ρ)).toArray).run P w := by
  have e : (first.toList ++ args.toList.map (ev N ρ)).toArray = first ++ args.map (ev N ρ) := by
    apply Array.ext'
    simp
  rw [e]
  simp only [execOp, ho, resolve, hf, Deferred.ofValue, Sem.run_bind, Sem.run_pure, Result.andThen_ok, invoke]

theorem wp_value {o : Oper} {a : Act} {w w' : World} {ρ : Env} {v : Value} {Kn : Act → World → Prop} {Q : Exit → Act → World → Prop} (hr : Rel M N a ρ)
    (h : (execOp (ev N ρ) o).run P w = .ok (.value v) w') (hk : Kn (a.put o.dst v) w') : o.wpIn (Wd none) 0 P a w Kn Q := by
  refine ⟨fun _ _ => trivial, ?_⟩
  rw [Oper.semAt_none, hr.evals, h]
  exact hk
theorem wp_skipped {o : Oper} {a : Act} {w w' : World} {ρ : Env} {Kn : Act → World → Prop} {Q : Exit → Act → World → Prop} (hr : Rel M N a ρ)
    (h : (execOp (ev N ρ) o).run P w = .ok .skip w') (hk : Kn (a.put o.dst undef) w') : o.wpIn (Wd none) 0 P a w Kn Q := by
  refine ⟨fun _ _ => trivial, ?_⟩
  rw [Oper.semAt_none, hr.evals, h]
  exact hk

theorem wp_of_vcR {o : Oper} {a : Act} {w : World} {ρ : Env} {K : Value → World → Prop} {Kn : Act → World → Prop} {Q : Exit → Act → World → Prop} (hr : Rel M N a ρ)
    (hk : ∀ v w', K v w' → Kn (a.put o.dst v) w') (h : vcR P N o ρ w fun v => K v w) : o.wpIn (Wd none) 0 P a w Kn Q := by
  obtain ⟨v, hv, hrun⟩ := vcR_ok h
  exact wp_value hr (hrun 0) (hk _ _ hv)

theorem decR_ok {t : TypeId} {v : Value} {K : Value → Prop} (h : decR P t v K) : K v := by
  unfold decR at h
  split at h
  · unfold G.isB at h
    split at h
    · exact h
    · exact h.elim
  · unfold G.isF at h
    split at h
    · exact h
    · exact h.elim
  · rename_i k _
    unfold G.isI at h
    split at h
    · rename_i k' n
      by_cases e : k' = k
      · subst e; rw [decide_eq_true rfl] at h; exact h
      · rw [decide_eq_false e] at h; exact h.elim
    · exact h.elim
  · exact h

theorem meth_run {ρ : Env} {o : Oper} {r : Operand} {name : String} {args : Array Operand} {ts : Array TypeId} {t : TypeId} {x rc : Value} {f : FuncId} {w : World}
    (ho : o.op = .call { callee := .invoke r name, args, argTypes := ts }) (hr : ev N ρ r = .iface t x) (hm : pureOf P (method (P.types.size + Made.depth) t x name) = some (f, rc)) :
    (execOp (ev N ρ) o).run P w = (callFunc f (rc :: args.toList.map (ev N ρ)).toArray).run P w := by
  have e : (rc :: args.toList.map (ev N ρ)).toArray = #[rc] ++ args.map (ev N ρ) := by
    apply Array.ext'
    simp
  have e2 : (#[Value.iface t x] ++ args.map (ev N ρ))[0]? = some (Value.iface t x) := by rw [Array.getElem?_append_left (by simp)]; rfl
  have e3 : (#[Value.iface t x] ++ args.map (ev N ρ)).extract 1 (#[Value.iface t x] ++ args.map (ev N ρ)).size = args.map (ev N ρ) := by
    apply Array.ext'
    simp
    exact List.take_of_length_le (by simp)
  rw [e]
  simp only [execOp, ho, resolve, Sem.run_bind, Sem.run_pure, Result.andThen_ok, invoke, hr, e2, e3, callMethod, run_program, pureOf_run hm]
/-- What the model's own floor and its kin do, off the datum. -/
def wholeS (way : Ieee.Toward) (x : Nat) (d : Ieee.Datum) : Sem Value :=
  match d with
  | .nan s t =>
    if FloatKind.f64.format.quiet t = t then pure (.float .f64 x) else do
    let kept ← choose (.extern "math.Floor,Ceil,Trunc,RoundToEven.signallingNaN kept" 2)
    pure (.float .f64 (if kept == 1 then x else FloatKind.f64.encode (.nan s (FloatKind.f64.format.quiet t))))
  | d => pure (.float .f64 (FloatKind.f64.encode (d.integral way)))
theorem wholeS_eq (name : String) (way : Ieee.Toward) (x : Nat) : Extern.MathFloor.toIntegral name way #[.float .f64 x] = wholeS way x (FloatKind.f64.decode x) := by kernel_rfl
theorem whole_run (name : String) (way : Ieee.Toward) {x : Nat} (h : (FloatKind.f64.decode x).isNaN = false) :
    Extern.MathFloor.toIntegral name way #[.float .f64 x] = pure (.float .f64 (FloatKind.f64.encode ((FloatKind.f64.decode x).integral way))) := by
  rw [wholeS_eq]
  generalize FloatKind.f64.decode x = d at *
  cases d with
  | nan s t => cases h
  | infinity s => rfl
  | number s m e => rfl
theorem nan_cut (n : Nat) : nanB ((n % 2) * 2 ^ 63 + 0x7ff0000000000000 + 1 + (n / 2) % (2 ^ 52 - 1)) := by
  have hs : Ieee.double.signWeight = 9223372036854775808 := rfl
  have hb : Ieee.double.binade = 4503599627370496 := rfl
  have hi : Ieee.double.infRung = 9218868437227405312 := rfl
  have h1 : ((n % 2) * 2 ^ 63 + 0x7ff0000000000000 + 1 + (n / 2) % (2 ^ 52 - 1)) % 9223372036854775808 = 9218868437227405313 + (n / 2) % 4503599627370495 := by omega
  refine ⟨?_, by omega⟩
  show (Ieee.double.read _).isNaN = true
  unfold Ieee.Format.read
  rw [hs, hb, hi]
  simp only [h1]
  rw [if_neg (by omega), if_neg (by omega), if_neg (by omega)]
  rfl
theorem fa_run {op : BinOp} {t : TypeId} {a b : Nat} {w : World} {K : Nat → World → Prop} (hu : isFA P op t = true) (h : G.fa op a b w K) :
    ∃ r w', (binOp op t (.float .f64 a) (.float .f64 b)).run P w = .ok (.float .f64 r) w' ∧ K r w' := by
  unfold G.fa at h
  split at h
  · rename_i r hr
    exact ⟨r, w, run_float_arith w op t .f64 a b r hr, h⟩
  · rename_i hr
    refine ⟨_, _, ?_, h _ (nan_cut (w.tape w.drawn (.nanBits .f64 a b)))⟩
    unfold isFA at hu
    split at hu
    · unfold floatBits at hr
      cases op <;> simp only at hr hu <;> first | (cases hu; done) | skip
      all_goals simp [binOp, Op.floatArith, hr, choose, Sem.run, Question.forced, Question.cut]
    · cases hu
theorem vcOp_ok (hF : FOk P F) {o : Oper} {a : Act} {w : World} {ρ : Env} {K : Value → World → Prop} {Kn : Act → World → Prop} {Q : Exit → Act → World → Prop} (hr : Rel M N a ρ)
    (hk : ∀ v w', K v w' → Kn (a.put o.dst v) w') (h : vcOp P F N o ρ w K) : o.wpIn (Wd none) 0 P a w Kn Q := by
  have hsr : (sr P (execOp (ev N ρ) o) w fun n w' => match n with | .value v => K v w' | _ => False) → o.wpIn (Wd none) 0 P a w Kn Q := fun h => by
    obtain ⟨n, w', hrun, hK⟩ := sr_run h
    cases n with
    | value v => exact wp_value hr hrun (hk _ _ hK)
    | _ => exact hK.elim
  unfold vcOp at h
  split at h
  · rename_i t x v ho
    obtain ⟨w', hrun, hK⟩ := vcStore_ok h
    exact wp_skipped hr (by simp [execOp, ho, hrun]) (hk _ _ hK)
  · exact hsr h
  · exact hsr h
  · exact hsr h
  · rename_i t l c ho
    obtain ⟨s, w', hrun, hK⟩ := h
    exact wp_value hr (by simp [execOp, ho, hrun]) (hk _ _ hK)
  · rename_i t r ho
    obtain ⟨s, w', hrun, hK⟩ := h
    exact wp_value hr (by simp [execOp, ho, hrun]) (hk _ _ hK)
  · rename_i t x ho
    obtain ⟨s, w', hrun, hK⟩ := h
    exact wp_value hr (by simp [execOp, ho, hrun]) (hk _ _ hK)
  · rename_i it ho
    obtain ⟨w', ⟨hrun, hK⟩ | ⟨k, x, hrun, hK⟩⟩ := h
    · exact wp_value hr (by simp [execOp, ho, hrun]) (hk _ _ hK)
    · exact wp_value hr (by simp [execOp, ho, hrun]) (hk _ _ hK)
  · rename_i it ho
    obtain ⟨k, x, hrun, hK⟩ := h
    exact wp_value hr (by simp [execOp, ho, hrun]) (hk _ _ hK)
  · rename_i t m k x ho
    obtain ⟨w', hrun, hK⟩ := h
    exact wp_skipped hr (by simp [execOp, ho, hrun]) (hk _ _ hK)
  · rename_i t m k ho
    obtain ⟨s, n, w', hrun, hK⟩ := h
    exact wp_value hr (by simp [execOp, ho, hrun]) (hk _ _ hK)
  · rename_i t m k x ho
    obtain ⟨w', hrun, hK⟩ := h
    exact wp_skipped hr (by simp [execOp, ho, hrun]) (hk _ _ hK)
  · rename_i s d x ho
    split at h
    · obtain ⟨s, w', hrun, hK⟩ := h
      exact wp_value hr (by simp [execOp, ho, hrun]) (hk _ _ hK)
    · obtain ⟨s, w', hrun, hK⟩ := h
      exact wp_value hr (by simp [execOp, ho, hrun]) (hk _ _ hK)
    · exact wp_of_vcR hr hk h
  · rename_i f args ts ho
    unfold G.callV at h
    split at h
    · rename_i n first captured hf
      rcases hF _ _ _ _ h with ⟨hfn, hc⟩ | ⟨v, w', hrun, hK⟩
      · refine ⟨fun _ _ => trivial, ?_⟩
        rw [Oper.semAt_none, hr.evals, call_run ho hf, callFunc_run hfn, Oper.uponIn_enter]
        refine ⟨fun h => (by cases h), (callsIn_wide.2 hc).mono fun e w' ⟨v, he, hK⟩ => ?_⟩
        subst he
        exact hk _ _ (decR_ok hK)
      · exact wp_value hr (by rw [call_run ho hf, hrun]) (hk _ _ (decR_ok hK))
    · rename_i l first captured hf
      obtain ⟨fn, tmps, assign, body, hy, hround⟩ := h
      refine ⟨fun _ _ => trivial, ?_⟩
      rw [Oper.semAt_none, hr.evals, yield_run ho hf, hy, Oper.uponIn_round]
      refine ⟨fun h => (by cases h), RoundIn.mono hround fun e w' ⟨v, he, hK⟩ => ?_⟩
      subst he
      exact hk _ _ (decR_ok hK)
    · exact h.elim
  · rename_i rv name args ts ho
    unfold G.callI at h
    split at h
    · rename_i t x hrv
      split at h
      · rename_i f rc hm
        rcases hF _ _ _ _ h with ⟨hfn, hc⟩ | ⟨v, w', hrun, hK⟩
        · refine ⟨fun _ _ => trivial, ?_⟩
          rw [Oper.semAt_none, hr.evals, meth_run ho hrv hm, callFunc_run hfn, Oper.uponIn_enter]
          refine ⟨fun h => (by cases h), (callsIn_wide.2 hc).mono fun e w' ⟨v, he, hK⟩ => ?_⟩
          subst he
          exact hk _ _ (decR_ok hK)
        · exact wp_value hr (by rw [meth_run ho hrv hm, hrun]) (hk _ _ (decR_ok hK))
      · exact h.elim
    · exact h.elim
  · rename_i op t x y u ho
    cases hu : isFA P op t with
    | false => rw [hu] at h; exact wp_of_vcR hr hk h
    | true =>
      rw [hu] at h
      simp only [cond_true] at h
      split at h
      · rename_i a b hx hy
        obtain ⟨r, w', hrun, hK⟩ := fa_run hu h
        refine wp_value hr ?_ (hk _ _ hK)
        have hg : (eqGuard op t x y (.float .f64 a) (.float .f64 b)).run P w = .ok () w := by
          unfold isFA at hu
          split at hu
          · cases op <;> simp only at hu <;> first | (cases hu; done) | skip
            all_goals simp [eqGuard]
          · cases hu
        simp [execOp, ho, hx, hy, hg, hrun]
      · exact h.elim
  · rename_i args ts ho
    obtain ⟨s, w', hrun, hK⟩ := h
    exact wp_value hr (by simp [execOp, ho, resolve, invoke, builtin, hrun]) (hk _ _ hK)
  · rename_i args ts ho
    obtain ⟨s, w', hrun, hK⟩ := h
    exact wp_value hr (by simp [execOp, ho, resolve, invoke, builtin, hrun]) (hk _ _ hK)
  · rename_i args ts ho
    obtain ⟨s, w', hrun, hK⟩ := h
    exact wp_value hr (by simp [execOp, ho, resolve, invoke, builtin, hrun]) (hk _ _ hK)
  · rename_i args ts ho
    obtain ⟨s, w', hrun, hK⟩ := h
    exact wp_value hr (by simp [execOp, ho, resolve, invoke, builtin, hrun]) (hk _ _ hK)
  · exact wp_of_vcR hr hk h

theorem vcDec_ok {t : TypeId} {v : Value} {K : Value → Prop} (h : vcDec P t v K) : K v := by
  unfold vcDec at h
  split at h
  any_goals (first | exact h | exact splitA_ok h)
  all_goals (obtain ⟨n, hn, hk⟩ := h; injection hn with hn; subst hn; exact hk)
theorem nth_eq {α : Type} : ∀ (l : List α) (i : Nat), nth l i = l[i]?
  | [], _ => by simp [nth]
  | _ :: _, 0 => rfl
  | _ :: r, i + 1 => by simpa [nth] using nth_eq r i

theorem guardK_ok {all : List Oper} {o : Oper} {ρ : Env} {a : Act} {X : Env → Bool → Prop} (hr : Rel M N a ρ) (h : guardK N all o ρ X) :
    ∃ run, Rel M N a (if run then ρ else ρ) ∧ Region.wanted o (yielded all.toArray a.tmps) = run ∧ ∃ ρ', Rel M N a ρ' ∧ X ρ' run := by
  unfold guardK at h
  unfold Region.wanted
  split at h
  · rename_i hg
    exact ⟨true, by simpa using hr, by simp [hg], ρ, hr, h⟩
  · rename_i j b hg
    simp only [hg]
    rw [nth_eq] at h
    have hy : yielded all.toArray a.tmps j = match ((all[j]?).bind (·.dst)).bind (a.tmps[·]?) with | some (.bool b) => some b | _ => none := by
      simp only [yielded, List.getElem?_toArray]
      rfl
    split at h
    · rename_i hd
      refine ⟨false, by simpa using hr, ?_, ρ, hr, h⟩
      rw [hy, hd]; rfl
    · rename_i s hd
      split at h
      · rename_i c hc
        have hs : a.tmps[s]? = some (.bool c) := by
          have e1 := hr.eval (.tmp s)
          rw [hc] at e1
          simp only [Act.eval, Array.getD_eq_getD_getElem?] at e1
          cases e2 : a.tmps[s]? with
          | none => rw [e2] at e1; cases e1
          | some v => rw [e2] at e1; exact congrArg some e1
        have hρ : Nat.blt s N = true → ρ s = .bool c := fun hb => by simpa [ev, hb] using hc
        have hup : upd ρ s (.bool c) = ρ := by
          by_cases hb : Nat.blt s N = true
          · exact upd_self (hρ hb)
          · simp only [ev, hb] at hc; cases hc
        have hyc : yielded all.toArray a.tmps j = some c := by rw [hy, hd]; simp [hs]
        rw [hyc]
        cases c
        · exact ⟨!b, by simpa using hr, by cases b <;> rfl, upd ρ s (.bool false), by rw [hup]; exact hr, h⟩
        · exact ⟨b, by simpa using hr, by cases b <;> rfl, upd ρ s (.bool true), by rw [hup]; exact hr, h⟩
      · rename_i hne
        refine ⟨false, by simpa using hr, ?_, ρ, hr, h⟩
        have e1 := hr.eval (.tmp s)
        rw [hy, hd]
        cases e2 : a.tmps[s]? with
        | none => simp [e2]
        | some v =>
          simp only [Act.eval, Array.getD_eq_getD_getElem?, e2, Option.getD_some] at e1
          rw [← e1] at hne
          simp only [Option.bind_some, e2]
          split
          · rename_i b' hb'
            simp only [Option.some.injEq] at hb'
            exact absurd hb' (hne b')
          · rfl


/-! ## Rounds: what is no defer statement is carried out in a round as elsewhere -/
theorem opIn_ro {o : Oper} (ho : ∀ c, o.op ≠ .defer c) (ro : Option Nat) {a : Act} {w : World} {K : Act → World → Prop} {Q : Exit → Act → World → Prop} (h : o.wpIn (Wd none) 0 P a w K Q) : o.wpIn (Wd ro) 0 P a w K Q := by
  obtain ⟨_, h⟩ := h
  refine ⟨fun _ _ => trivial, ?_⟩
  rw [Oper.semAt_none] at h
  rw [Oper.semAt_eq _ _ _ ho]
  generalize (execOp a.eval o).run P w = r at *
  cases r with
  | ok x w' => cases x <;> exact h
  | halt x w' => cases x <;> exact h
theorem opsIn_ro {ops : Array Oper} (hc : ∀ (i : Nat) (o : Oper), ops[i]? = some o → ∀ c, o.op ≠ .defer c) (ro : Option Nat) {Q : Exit → Act → World → Prop} :
    ∀ (l : List Nat) (a : Act) (w : World), wpOpsIn (Wd none) 0 P ops Q l a w → wpOpsIn (Wd ro) 0 P ops Q l a w
  | [], _, _, h => h
  | i :: l, a, w, h => by
    rw [wpOpsIn_cons] at h ⊢
    unfold wpOpIn at h ⊢
    split at h
    · exact opsIn_ro hc ro l _ _ h
    · rename_i o ho
      by_cases hw : Region.wanted o (yielded ops a.tmps) = true
      · rw [if_pos hw] at h ⊢
        exact opIn_ro (hc i o ho) ro (Oper.wpIn_mono (fun a w h => opsIn_ro hc ro l a w h) h)
      · rw [if_neg hw] at h ⊢
        exact ⟨fun _ _ => trivial, opsIn_ro hc ro l _ _ h.2⟩
theorem calm_defer {ops : Array Oper} (h : calm ops = true) (i : Nat) (o : Oper) (ho : ops[i]? = some o) (c : Call) : o.op ≠ .defer c := by
  intro e
  unfold calm at h
  simp only [Bool.and_eq_true, List.all_eq_true] at h
  have := h.2 o (List.mem_of_getElem? (l := ops.toList) (i := i) (by simpa using ho))
  rw [e] at this
  cases this
theorem calm_select {ops : Array Oper} (h : calm ops = true) : Region.noSelect ops = true := by
  unfold calm at h
  simp only [Bool.and_eq_true] at h
  exact h.1

theorem vcOps_ok (hF : FOk P F) {ops : Array Oper} {Q : Exit → Act → World → Prop} {K : Env → World → Prop} (hK : ∀ a ρ w, Rel M N a ρ → K ρ w → Q .normal a w) :
    ∀ (l : List Nat) (a : Act) (ρ : Env) (w : World), Rel M N a ρ → vcOps P F N ops.toList (l.filterMap (nth ops.toList)) ρ w K → wpOpsIn (Wd none) 0 P ops Q l a w
  | [], a, ρ, w, hr, h => hK _ _ _ hr h
  | i :: l, a, ρ, w, hr, h => by
    rw [wpOpsIn_cons]
    unfold wpOpIn
    cases ho : ops[i]? with
    | none =>
      have ho' : nth ops.toList i = none := by rw [nth_eq]; simpa using ho
      rw [List.filterMap_cons, ho'] at h
      exact vcOps_ok hF hK l a ρ w hr h
    | some o =>
      have ho' : nth ops.toList i = some o := by rw [nth_eq]; simpa using ho
      rw [List.filterMap_cons, ho'] at h
      simp only [vcOps] at h
      obtain ⟨run, _, hw, ρ', hr', h⟩ := guardK_ok hr h
      have hw' : Region.wanted o (yielded ops a.tmps) = run := by simpa using hw
      simp only [hw']
      cases run
      · simp only [Bool.false_eq_true, if_false]
        exact ⟨fun _ _ => trivial, vcOps_ok hF hK l _ _ _ (hr'.put o.dst undef) h⟩
      · simp only [if_true]
        cases hf : fromEnt ops.toList o with
        | true =>
          rw [hf] at h
          obtain ⟨v, hv, hrun⟩ := gen_ok (h : genK P (execOp (ev N ρ') o) fun v => vcDec P o.type v fun v => vcOps P F N ops.toList (l.filterMap (nth ops.toList)) (put N ρ' o.dst v) w K)
          exact wp_value hr' (hrun w) (vcOps_ok hF hK l _ _ _ (hr'.put o.dst v) (vcDec_ok hv))
        | false =>
          rw [hf] at h
          exact vcOp_ok hF hr' (fun v w' hv => vcOps_ok hF hK l _ _ _ (hr'.put o.dst v) hv) h

def lift (M : Bool) (N : Nat) (K : Post) : Exit → Act → World → Prop := fun e a w => ∃ ρ, Rel M N a ρ ∧ K e ρ w

theorem vcR_pure {o : Oper} {ρ : Env} {w : World} {K : Value → Prop} (hp : isPure P o = true) (h : vcR P N o ρ w K) :
    ∃ v, K v ∧ ∀ w', (execOp (ev N ρ) o).run P w' = .ok (.value v) w' := by
  unfold isPure at hp
  unfold vcR at h
  split at hp <;> rename_i ho
  all_goals first
    | cases hp
    | skip
  · rw [ho] at h; exact ⟨_, h, fun d => by simp [execOp, ho]⟩
  · rw [ho] at h; exact ⟨_, h, fun d => by simp [execOp, ho]⟩
  · rw [ho] at h
    simp only [] at h
    split at h
    · rename_i c' hc
      cases c'
      · exact ⟨_, h, fun d => by simp [execOp, ho, hc, asBool]⟩
      · exact ⟨_, h, fun d => by simp [execOp, ho, hc, asBool]⟩
    · exact h.elim
  · rw [ho] at h
    obtain ⟨v, hk, hr⟩ := vcIndexAddr_ok h
    exact ⟨v, hk, fun d => by simp [execOp, ho, hr]⟩
  · rw [ho] at h
    simp only [] at h
    split at h
    · rename_i A hx
      obtain ⟨a, rfl, hk⟩ := ptr_some h
      exact ⟨_, hk, fun d => by simp [execOp, ho, hx]⟩
    · exact h.elim
  · rw [ho] at h
    exact vcBin_ok ho h
  · rw [ho] at h
    obtain ⟨v, hk, hr⟩ := vcSlice_ok h
    exact ⟨v, hk, fun d => by simp [execOp, ho, hr]⟩
  · rw [ho] at h
    simp only [] at h
    split at h
    · rename_i s k n hu hx hi
      obtain ⟨b, h0, hb, hk⟩ := h
      exact ⟨_, hk, fun d => by simp [execOp, ho, hx, hi, Instr.index, asIntOf, run_underlying hu, h0, hb]⟩
    · rename_i len e cs k n hu hx hi
      split at h
      · rename_i k' inf he hinf
        cases hs : Nat.beq inf.size 1
        · rw [hs] at h; exact h.elim
        · rw [hs] at h
          simp only [cond_true] at h
          obtain ⟨m, hb, hc, hk⟩ := h
          have hs' : inf.size = 1 := Nat.eq_of_beq_eq_true hs
          exact ⟨_, hk, fun d => by simp [execOp, ho, hx, hi, Instr.index, asIntOf, run_underlying hu, hb, part, isAgg, run_underlying he, sizeOf, typeInfo, hinf, hs', hc]⟩
      · rename_i fs inf he hinf
        cases hs : (Nat.beq inf.size (leaves P 8 e).length && Nat.beq cs.size (len * inf.size))
        · rw [hs] at h; exact h.elim
        · rw [hs] at h
          simp only [cond_true] at h
          simp only [Bool.and_eq_true] at hs
          obtain ⟨hb, h⟩ := h
          obtain ⟨vs, hl, hvs, hk⟩ := rvs_cells h
          have hpart := fun w => part_agg (P := P) he hinf (by rw [hl]; exact (Nat.eq_of_beq_eq_true hs.1).symm) (fun j v hv => by simpa using hvs j v hv) w
          exact ⟨_, hk, fun d => by simp [execOp, ho, hx, hi, Instr.index, asIntOf, run_underlying hu, hb, sizeOf, typeInfo, hinf, hpart]⟩
      · exact h.elim
    · exact h.elim
  all_goals try (rw [ho] at h; exact gen_ok h)
  · rw [ho] at h
    simp only [] at h
    split at h
    · rename_i A hx
      obtain ⟨a, rfl, h'⟩ := ptr_some h
      clear h
      split at h'
      · rename_i v hv
        exact ⟨v, h', fun d => by simp [execOp, ho, hx, pureOf_run hv]⟩
      · exact h'.elim
    · exact h.elim
  · split at hp
    · rename_i s d x k1 k2 hs hd
      rw [ho] at h
      simp only [hs, hd] at h
      split at h
      · rename_i e1 e2; cases e1
      · rename_i k' k n e1 e2 hx
        simp only [Option.some.injEq, TypeDesc.int.injEq] at e2
        subst e2
        exact ⟨_, h, fun m => by simp [execOp, ho, hx, Go.convert, run_underlying hs, run_underlying hd, Conv.intToInt]⟩
      · rename_i e1 e2 hx; cases e1
      · exact gen_ok h
    · rename_i s d x k1 k2 hs hd
      rw [ho] at h
      simp only [hs, hd] at h
      exact gen_ok h
    · rename_i s d x k1 k2 hs hd
      rw [ho] at h
      simp only [hs, hd] at h
      exact gen_ok h
    · rename_i s d x _ _ k1 k2 hs hd
      rw [ho] at h
      simp only [hs, hd] at h
      split at h
      · rename_i e1 e2; cases e1
      · rename_i e1 e2 hx; cases e1
      · rename_i k' k b e1 e2 hx
        simp only [Option.some.injEq, TypeDesc.int.injEq] at e2
        subst e2
        obtain ⟨n, hn, hk⟩ := h
        exact ⟨_, hk, fun m => by simp [execOp, ho, hx, run_convert_float_int (P := P) _ s d .f64 k2 b n (by rw [hs]; rfl) hd hn]⟩
      · exact gen_ok h
    · cases hp
  · rw [ho] at h
    rename_i args argTypes
    simp only [] at h
    have e0 : ∀ (t : TypeId) (x : Value) (w : World), argTypes[0]? = some t → (args[0]?).map (ev N ρ) = some x → (execOp (ev N ρ) o).run P w = ((Builtin.len_ argTypes o.type (args.map (ev N ρ))).run P w).andThen fun v w => .ok (.value v) w := by
      intro t x w h1 h2
      simp [execOp, ho, resolve, invoke, builtin]
    split at h
    · rename_i s hu hx
      cases ht : argTypes[0]? with
      | none => rw [ht] at hu; cases hu
      | some t =>
        rw [ht] at hu
        refine ⟨_, h, fun m => ?_⟩
        rw [e0 t _ _ ht hx]
        have hx' : (args.map (ev N ρ))[0]? = some (.string s) := by rw [Array.getElem?_map]; exact hx
        simp [Builtin.len_, ht, hx', run_underlying (show P.underlying t = _ from hu), goInt]
    · rename_i e A n c hu hx
      cases ht : argTypes[0]? with
      | none => rw [ht] at hu; cases hu
      | some t =>
        rw [ht] at hu
        refine ⟨_, h, fun m => ?_⟩
        rw [e0 t _ _ ht hx]
        have hx' : (args.map (ev N ρ))[0]? = some (.slice A n c) := by rw [Array.getElem?_map]; exact hx
        simp [Builtin.len_, ht, hx', run_underlying (show P.underlying t = _ from hu), goInt]
    · rename_i e f r hu hx
      rw [hu] at hp
      cases hp
    · exact h.elim

/-- Only the way out at the end. -/
def onlyN (M : Bool) (N : Nat) (K : Env → World → Prop) : Exit → Act → World → Prop := fun e a w => match e with | .normal => ∃ ρ, Rel M N a ρ ∧ K ρ w | _ => False

/-! ## Open orders -/
def Closed (ops : Array Oper) (listed : Array Bool) : Prop := ∀ j o, ops[j]? = some o → listed.getD j true = true → ∀ e ∈ o.after, Region.binds .any e = true → listed.getD e.on false = true
theorem getD_tf {l : Array Bool} {j : Nat} (h : l.getD j false = true) : l.getD j true = true := by
  rcases Nat.lt_or_ge j l.size with h' | h'
  · simp [h'] at h ⊢; exact h
  · simp [Array.getElem?_eq_none h']
theorem Closed.set {ops : Array Oper} {listed : Array Bool} {i : Nat} (hc : Closed ops listed) (hr : i ∈ Region.ready .any ops listed) : Closed ops (listed.setIfInBounds i true) := by
  intro j o ho hl e he hb
  by_cases hij : i = j
  · subst hij
    obtain ⟨_, o', ho', hall⟩ := mem_ready.1 hr
    obtain rfl := Option.some.inj (ho.symm.trans ho')
    exact getD_set_true (hall e he hb)
  · rw [getD_set_ne true hij] at hl
    exact getD_set_true (hc j o ho hl e he hb)
theorem desc_unlisted {ops : Array Oper} {listed : Array Bool} {a : Nat} (hc : Closed ops listed) (ha : listed.getD a true = false) : ∀ k j, (descL ops a k).getD j false = true → listed.getD j true = false ∧ (j ≠ a → j ∉ Region.ready .any ops listed)
  | 0, j, h => by simp [descL] at h
  | k + 1, j, h => by
    have hlen : ∀ k, (descL ops a k).length = k := by
      intro k
      induction k with
      | zero => rfl
      | succ k ih => simp [descL, ih]
    simp only [descL] at h
    rcases Nat.lt_trichotomy j k with hj | hj | hj
    · rw [List.getD_eq_getElem?_getD, List.getElem?_append_left (by rw [hlen]; exact hj), ← List.getD_eq_getElem?_getD] at h
      exact desc_unlisted hc ha k j h
    · subst hj
      rw [List.getD_eq_getElem?_getD, List.getElem?_append_right (by rw [hlen]; omega), hlen, Nat.sub_self] at h
      simp only [List.getElem?_cons_zero, Option.getD_some, Bool.or_eq_true] at h
      rcases h with h | h
      · have : j = a := Nat.eq_of_beq_eq_true h
        subst this
        exact ⟨ha, fun h => absurd rfl h⟩
      · split at h
        · rename_i o ho
          obtain ⟨e, he, h⟩ := Array.any_eq_true'.1 h
          simp only [Bool.and_eq_true] at h
          have hu := (desc_unlisted hc ha j e.on h.2).1
          constructor
          · cases hl : listed.getD j true with
            | false => rfl
            | true =>
              have := getD_tf (hc j o ho hl e he h.1)
              rw [hu] at this; cases this
          · intro _ hr
            obtain ⟨_, o', ho', hall⟩ := mem_ready.1 hr
            obtain rfl := Option.some.inj (ho.symm.trans ho')
            have := getD_tf (hall e he h.1)
            rw [hu] at this; cases this
        · cases h
    · rw [List.getD_eq_getElem?_getD, List.getElem?_eq_none (by simp [hlen]; omega)] at h
      cases h


def wpT (P : Program) (ops : Array Oper) (Q : Exit → Act → World → Prop) : Nat → Held → Array Bool → Act → World → Prop
  | 0, _, listed, a, w => Region.ready .any ops listed = [] ∧ Q .normal a w
  | f + 1, C, listed, a, w => (Region.ready .any ops listed = [] → Q .normal a w) ∧
    ∀ i ∈ Region.ready .any ops listed, wpOpIn (Wd none) 0 P ops Q i (fun a' w' => (∀ c ∈ cut ops C i, c.2 w') ∧ wpT P ops Q f (cut ops C i) (listed.setIfInBounds i true) a' w') a w
theorem wpAnyIn_of_T {ops : Array Oper} {Q : Exit → Act → World → Prop} : ∀ (f : Nat) (C : Held) (listed : Array Bool) (a : Act) (w : World), wpT P ops Q f C listed a w → wpAnyIn (Wd none) 0 P .any ops Q f listed a w
  | 0, _, _, _, _, h => h
  | f + 1, _, _, _, _, h => ⟨h.1, fun i hi => wpOpIn_mono (fun a' w' h' => wpAnyIn_of_T f _ _ a' w' h'.2) (h.2 i hi)⟩
theorem cut_mem {ops : Array Oper} {C : Held} {k : Nat} {c : Nat × (World → Prop)} : c ∈ cut ops C k ↔ c ∈ C ∧ (descL ops c.1 ops.size).getD k false = false := by
  unfold cut
  rw [List.mem_filter]
  simp
theorem wpT_ext {ops : Array Oper} {Q : Exit → Act → World → Prop} : ∀ (f : Nat) {C D : Held} (_ : ∀ c, c ∈ D → c ∈ C ∨ ∀ w, c.2 w) (listed : Array Bool) (a : Act) (w : World), wpT P ops Q f C listed a w → wpT P ops Q f D listed a w
  | 0, _, _, _, _, _, _, h => h
  | f + 1, C, D, hD, _, _, _, h => ⟨h.1, fun i hi => wpOpIn_mono (fun a' w' h' =>
      have sub : ∀ c, c ∈ cut ops D i → c ∈ cut ops C i ∨ ∀ w, c.2 w := fun c hc => (hD c (cut_mem.1 hc).1).imp (fun h => cut_mem.2 ⟨h, (cut_mem.1 hc).2⟩) id
      ⟨fun c hc => (sub c hc).elim (fun h => h'.1 c h) (fun h => h w'), wpT_ext f sub _ a' w' h'.2⟩) (h.2 i hi)⟩
theorem wpT_mono {ops : Array Oper} {Q : Exit → Act → World → Prop} (f : Nat) {C D : Held} (hD : ∀ c, c ∈ D → c ∈ C) (listed : Array Bool) (a : Act) (w : World) (h : wpT P ops Q f C listed a w) : wpT P ops Q f D listed a w :=
  wpT_ext f (fun c hc => .inl (hD c hc)) listed a w h
theorem wpT_triv {ops : Array Oper} {Q : Exit → Act → World → Prop} {f : Nat} {C : Held} {i : Nat} {listed : Array Bool} {a : Act} {w : World} (h : wpT P ops Q f C listed a w) : wpT P ops Q f (C ++ [(i, fun _ => True)]) listed a w :=
  wpT_ext f (fun c hc => (List.mem_append.1 hc).imp id fun e => by
    simp only [List.mem_singleton] at e
    subst e
    exact fun _ => trivial) listed a w h
theorem wpT_done {ops : Array Oper} {Q : Exit → Act → World → Prop} {C : Held} {listed : Array Bool} {a : Act} {w : World} (hr : Region.ready .any ops listed = []) (h : Q .normal a w) : ∀ f, wpT P ops Q f C listed a w
  | 0 => ⟨hr, h⟩
  | _ + 1 => ⟨fun _ => h, by rw [hr]; simp⟩

theorem wpOpT_put {ops : Array Oper} {Q : Exit → Act → World → Prop} {S : World → Prop} {j : Nat} {oi oj : Oper} {v : Value} (hj : ops[j]? = some oj) (hap : oi.apart ops oj = true)
    (hsi : ∀ cs b, oi.op ≠ .select cs b) (hsj : ∀ cs b, oj.op ≠ .select cs b)
    (hQ : ∀ c a w, Q (.panic c) (a.put oi.dst v) w → Q (.panic c) a w) {K : Act → World → Prop} {a : Act} {w : World}
    (hy : YieldsIf P ops S oi v a) (h : wpOpIn (Wd none) 0 P ops Q j K (a.put oi.dst v) w) :
    wpOpIn (Wd none) 0 P ops Q j (fun a' w' => YieldsIf P ops S oi v a' ∧ K (a'.put oi.dst v) w') a w := by
  obtain ⟨h1, h2, h3⟩ := Oper.apart_spec hap
  have keep : ∀ (a : Act), YieldsIf P ops S oi v a → ∀ u, YieldsIf P ops S oi v (a.put oj.dst u) := fun a hy u =>
    hy.of_same (execOp_put oi hsi a oj.dst u h3) (wanted_put oi a oj.dst u h3)
  have keepD : ∀ d, YieldsIf P ops S oi v { a with defers := d :: a.defers } := fun d => hy.of_same rfl rfl
  unfold wpOpIn at *
  simp only [hj] at *
  rw [wanted_put oj a oi.dst v h1] at h
  split
  · rename_i hw
    simp only [hw, if_true] at h
    refine ⟨fun _ _ => trivial, ?_⟩
    have h := h.2
    rw [Oper.semAt_none, execOp_put oj hsj a oi.dst v h1] at h
    rw [Oper.semAt_none]
    generalize (execOp a.eval oj).run P w = r at *
    cases r with
    | ok x w' =>
      cases x <;> simp only [Oper.uponIn] at h ⊢
      case value u => exact ⟨keep a hy u, by rw [← Act.put_comm a v u h2]; exact h⟩
      case skip => exact ⟨keep a hy _, by rw [← Act.put_comm a v undef h2]; exact h⟩
      case defer d =>
        refine ⟨keep _ (keepD d) _, ?_⟩
        rw [← Act.put_comm _ v undef h2, ← Act.put_defers]
        exact h
      case enter f args =>
        refine ⟨h.1, CallsIn.mono h.2 fun e w'' he => ?_⟩
        cases e with
        | returned u => exact ⟨keep a hy u, by rw [← Act.put_comm a v u h2]; exact he⟩
        | panicked c => exact hQ _ _ _ he
        | outgrown => exact he
      case row row args => exact ⟨h.1, RowsIn.mono h.2 fun u w'' he => ⟨keep a hy u, by rw [← Act.put_comm a v u h2]; exact he⟩⟩
      case round l f tmps assign body =>
        refine ⟨h.1, RoundIn.mono h.2 fun e w'' he => ?_⟩
        cases e with
        | returned u => exact ⟨keep a hy u, by rw [← Act.put_comm a v u h2]; exact he⟩
        | panicked c => exact hQ _ _ _ he
        | outgrown => exact he
    | halt x w' =>
      cases x <;> simp only [Oper.uponIn] at h ⊢
      case panic u => exact hQ _ _ _ h
  · rename_i hw
    simp only [hw] at h
    exact ⟨fun _ _ => trivial, keep a hy _, by rw [← Act.put_comm a v undef h2]; exact h.2⟩

theorem yieldsIf_wpOp {ops : Array Oper} {Q : Exit → Act → World → Prop} {S : World → Prop} {i : Nat} {o : Oper} {v : Value} {a : Act} (hi : ops[i]? = some o) (hy : YieldsIf P ops S o v a)
    {K : Act → World → Prop} {w : World} (hS : S w) (h : K (a.put o.dst v) w) : wpOpIn (Wd none) 0 P ops Q i K a w := by
  unfold wpOpIn
  simp only [hi]
  rcases hy with ⟨hw, hv⟩ | ⟨hw, rfl⟩
  · simp only [hw, if_true]
    refine ⟨fun _ _ => trivial, ?_⟩
    rw [Oper.semAt_none, hv w hS]
    exact h
  · simp only [hw, Bool.false_eq_true, if_false]
    exact ⟨fun _ _ => trivial, h⟩

/-- A read may be taken first: what it reads holds still until what waits for it has come. -/
theorem wpT_take {ops : Array Oper} {Q : Exit → Act → World → Prop} {T : World → Prop} {i : Nat} {oi : Oper} {v : Value} (hi : ops[i]? = some oi) (hsel : ∀ (j : Nat) (o : Oper) cs b, ops[j]? = some o → o.op ≠ .select cs b)
    (hQ : ∀ c a w, Q (.panic c) (a.put oi.dst v) w → Q (.panic c) a w) :
    ∀ (fuel : Nat) (C : Held) (listed : Array Bool) (a : Act) (w : World), Closed ops listed →
      (∀ j oj, ops[j]? = some oj → j ≠ i → listed.getD j true = false → (∀ e ∈ oj.after, Region.binds .any e = true → e.on ≠ i) → oi.apart ops oj = true) →
      i ∈ Region.ready .any ops listed → YieldsIf P ops T oi v a → T w → (∀ c ∈ C, c.2 w) →
      wpT P ops Q fuel (C ++ [(i, T)]) (listed.setIfInBounds i true) (a.put oi.dst v) w → wpT P ops Q (fuel + 1) C listed a w := by
  intro fuel
  induction fuel with
  | zero =>
    intro C listed a w _ _ hr hy hT hC H
    refine ⟨fun h => (by rw [h] at hr; cases hr), fun j hj => ?_⟩
    by_cases hji : j = i
    · subst hji; exact yieldsIf_wpOp hi hy hT ⟨fun c hc => hC c (cut_mem.1 hc).1, H⟩
    · have := ready_mono hj hji
      rw [H.1] at this
      cases this
  | succ fuel ih =>
    intro C listed a w hcl hfree hr hy hT hC H
    refine ⟨fun h => (by rw [h] at hr; cases hr), fun j hj => ?_⟩
    by_cases hji : j = i
    · subst hji
      exact yieldsIf_wpOp hi hy hT ⟨fun c hc => hC c (cut_mem.1 hc).1, wpT_mono _ (fun c hc => List.mem_append_left _ (cut_mem.1 hc).1) _ _ _ H⟩
    · have h1 := H.2 j (ready_mono hj hji)
      obtain ⟨hjun, oj, hoj, hall⟩ := mem_ready.1 hj
      have hiun := (mem_ready.1 hr).1
      have hnot : ∀ e ∈ oj.after, Region.binds .any e = true → e.on ≠ i := fun e he hb heq => by
        have h1 := getD_tf (hall e he hb)
        rw [heq, hiun] at h1
        cases h1
      have hnd : (descL ops i ops.size).getD j false = false := by
        cases hd : (descL ops i ops.size).getD j false with
        | false => rfl
        | true => exact absurd hj ((desc_unlisted hcl hiun _ _ hd).2 hji)
      have h2 := wpOpT_put hoj (hfree j oj hoj hji hjun hnot) (fun cs b => hsel i oi cs b hi) (fun cs b => hsel j oj cs b hoj) hQ hy h1
      have hfree' : ∀ k ok, ops[k]? = some ok → k ≠ i → (listed.setIfInBounds j true).getD k true = false →
          (∀ e ∈ ok.after, Region.binds .any e = true → e.on ≠ i) → oi.apart ops ok = true := fun k ok hk hki hun hno => by
        refine hfree k ok hk hki ?_ hno
        by_cases hjk : j = k
        · subst hjk; exact hjun
        · rw [getD_set_ne true hjk] at hun; exact hun
      have ec : cut ops (C ++ [(i, T)]) j = cut ops C j ++ [(i, T)] := by
        unfold cut
        rw [List.filter_append]
        congr 1
        rw [List.filter_cons_of_pos (by show (!(descL ops i ops.size).getD j false) = true; rw [hnd]; rfl)]
        rfl
      rw [ec] at h2
      refine wpOpIn_mono (fun a' w' h3 => ⟨fun c hc => h3.2.1 c (List.mem_append_left _ hc), ih (cut ops C j) (listed.setIfInBounds j true) a' w' (hcl.set hj) hfree' (ready_mono hr (Ne.symm hji)) h3.1 (h3.2.1 (i, T) (by simp))
        (fun c hc => h3.2.1 c (List.mem_append_left _ hc)) ?_⟩) h2
      rw [Array.setIfInBounds_comm _ _ hji]
      exact h3.2.2

def holds : Option (World → Prop) → World → Prop | none, _ => True | some T, w => T w
theorem vcHeld_ok {o : Oper} {ρ : Env} {w : World} {K : Value → Option (World → Prop) → Prop} (h : vcHeld P N o ρ w K) :
    ∃ v T, K v T ∧ holds T w ∧ ∀ w', holds T w' → (execOp (ev N ρ) o).run P w' = .ok (.value v) w' := by
  have hp : (bif isPure P o then vcR P N o ρ w fun v => K v none else False) → ∃ v T, K v T ∧ holds T w ∧ ∀ w', holds T w' → (execOp (ev N ρ) o).run P w' = .ok (.value v) w' := fun h => by
    cases hq : isPure P o with
    | false => rw [hq] at h; exact h.elim
    | true =>
      rw [hq, cond_true] at h
      obtain ⟨v, hk, hr⟩ := vcR_pure hq h
      exact ⟨v, none, hk, trivial, fun w' _ => hr w'⟩
  unfold vcHeld at h
  split at h
  · rename_i t x ho
    obtain ⟨v, T, hk, hT, hr⟩ := vcLoadH_ok h
    exact ⟨v, some T, hk, hT, fun w' hw => by simp [execOp, ho, hr w' hw]⟩
  · rename_i s d x ho
    split at h
    · rename_i e A n c hs hd hx
      split at h
      · rename_i he
        obtain ⟨r, hr, hk⟩ := h
        exact ⟨_, _, hk, (by have h0 := hr 0; rw [World.drewN_zero] at h0; exact h0), fun w' hw => by simp [execOp, ho, hx, Go.convert, run_underlying hs, run_underlying hd, run_underlying he, show (Conv.bytesToString (.slice A n c)).run P w' = _ from hw]⟩
      · exact h.elim
    · exact hp h
  · exact hp h

theorem still_mem : ∀ {C : Held} {w : World} {X : Prop}, still w C X → (∀ c ∈ C, c.2 w) ∧ X
  | [], _, _, h => ⟨fun _ hc => (by cases hc), h⟩
  | c :: C, w, X, h => by
    obtain ⟨h1, h2⟩ := still_mem h.2
    exact ⟨fun d hd => by
      rcases List.mem_cons.1 hd with rfl | hd
      · exact h.1
      · exact h1 d hd, h2⟩
theorem alts_mem {ops : Array Oper} : ∀ {l : List (Option Tr)} {t : Tr}, alts l = some t → ∀ x ∈ l, ∃ y, x = some y ∧ ∀ {C : Held} {ρ : Env} {w : World} {K : Env → World → Prop}, vcTr P F N ops t C ρ w K → vcTr P F N ops y C ρ w K
  | [], _, h, _, _ => by cases h
  | [a], t, h, x, hx => by
    simp only [List.mem_singleton] at hx
    subst hx
    exact ⟨t, h, fun h => h⟩
  | a :: b :: r, t, h, x, hx => by
    simp only [alts] at h
    split at h
    · rename_i y z hz
      cases h
      rcases List.mem_cons.1 hx with rfl | hx
      · exact ⟨_, rfl, fun h => h.1⟩
      · obtain ⟨u, hu, hi⟩ := alts_mem hz x hx
        exact ⟨u, hu, fun h => hi h.2⟩
    · cases h

theorem tree_ok (hF : FOk P F) {ops : Array Oper} (hs : Region.noSelect ops = true) {K : Env → World → Prop} :
    ∀ (f : Nat) (C : Held) (listed : Array Bool) (t : Tr) (a : Act) (ρ : Env) (w : World), Closed ops listed → (∀ c ∈ C, c.2 w) → tree P ops f listed = some t → Rel M N a ρ → vcTr P F N ops t C ρ w K →
      wpT P ops (onlyN M N K) f C listed a w
  | 0, C, listed, t, a, ρ, w, _, _, h, hr, hv => by
    simp only [tree] at h
    split at h
    · rename_i h0
      cases h
      exact ⟨h0, ρ, hr, hv⟩
    · cases h
  | f + 1, C, listed, t, a, ρ, w, hcl, hC, h, hr, hv => by
    simp only [tree] at h
    split at h
    · rename_i h0
      cases h
      exact wpT_done h0 ⟨ρ, hr, hv⟩ _
    · rename_i hne
      split at h
      · rename_i i hi
        obtain ⟨t', ht', rfl⟩ := Option.map_eq_some_iff.1 h
        have hp := List.find?_some hi
        have hmem := List.mem_of_find?_eq_some hi
        simp only [Bool.and_eq_true] at hp
        obtain ⟨hp, hf⟩ := hp
        have hmem' : i ∈ Region.ready .any ops listed := by simpa using hmem
        split at hp
        · rename_i o ho
          have ho' : nth ops.toList i = some o := by rw [nth_eq]; simpa using ho
          simp only [vcTr, ho'] at hv
          obtain ⟨run, _, hw, ρ', hr', hv⟩ := guardK_ok hr hv
          have hw' : Region.wanted o (yielded ops a.tmps) = run := by simpa using hw
          have take : ∀ {T : World → Prop} {v : Value}, YieldsIf P ops T o v a → T w → wpT P ops (onlyN M N K) f (C ++ [(i, T)]) (listed.setIfInBounds i true) (a.put o.dst v) w → wpT P ops (onlyN M N K) (f + 1) C listed a w := fun hy hT H =>
            wpT_take ho (Region.noSelect_spec hs) (fun c a w h => h) f C listed a w hcl (Region.free_spec ho hf) hmem' hy hT hC H
          cases run
          · simp only [cond_false] at hv
            refine take (T := fun _ => True) (.inr ⟨hw', rfl⟩) trivial ?_
            exact wpT_triv (tree_ok hF hs f C _ t' _ _ w (hcl.set hmem') hC ht' (hr'.put o.dst undef) hv)
          · simp only [cond_true] at hv
            rw [hp, cond_true] at hv
            obtain ⟨v, T, hk, hT, hrun⟩ := vcHeld_ok hv
            refine take (T := holds T) (v := v) (.inl ⟨hw', fun w' hw' => ?_⟩) hT ?_
            · rw [hr'.evals]; exact hrun w' hw'
            · cases T with
              | none => exact wpT_triv (tree_ok hF hs f C _ t' _ _ w (hcl.set hmem') hC ht' (hr'.put o.dst v) hk)
              | some T =>
                refine tree_ok hF hs f _ _ t' _ _ w (hcl.set hmem') (fun c hc => ?_) ht' (hr'.put o.dst v) hk
                rcases List.mem_append.1 hc with hc | hc
                · exact hC c hc
                · simp only [List.mem_singleton] at hc
                  subst hc; exact hT
        · cases hp
      · refine ⟨fun h0 => absurd h0 (fun e => hne e), fun k hk => ?_⟩
        obtain ⟨y, hy, hvy⟩ := alts_mem (P := P) (F := F) (N := N) (ops := ops) h (((tree P ops f (listed.setIfInBounds k true)).map (Tr.op k))) (List.mem_map.2 ⟨k, hk, rfl⟩)
        obtain ⟨t', ht', rfl⟩ := Option.map_eq_some_iff.1 hy
        have hv := hvy hv
        unfold wpOpIn
        cases ho : ops[k]? with
        | none =>
          have ho' : nth ops.toList k = none := by rw [nth_eq]; simpa using ho
          simp only [vcTr, ho'] at hv
        | some o =>
          have ho' : nth ops.toList k = some o := by rw [nth_eq]; simpa using ho
          simp only [vcTr, ho'] at hv
          obtain ⟨run, _, hw, ρ', hr', hv⟩ := guardK_ok hr hv
          have hw' : Region.wanted o (yielded ops a.tmps) = run := by simpa using hw
          simp only [hw']
          have sub : ∀ c, c ∈ cut ops C k → c ∈ C := fun c hc => (cut_mem.1 hc).1
          cases run
          · simp only [Bool.false_eq_true, if_false, cond_false] at hv ⊢
            exact ⟨fun _ _ => trivial, fun c hc => hC c (sub c hc), wpT_mono _ sub _ _ _ (tree_ok hF hs f C _ t' _ _ w (hcl.set hk) hC ht' (hr'.put o.dst undef) hv)⟩
          · simp only [if_true, cond_true] at hv ⊢
            cases hq : isHeld P o with
            | true =>
              rw [hq, cond_true] at hv
              obtain ⟨v, T, hkk, hT, hrun⟩ := vcHeld_ok hv
              refine wp_value hr' (hrun w hT) ⟨fun c hc => hC c (sub c hc), ?_⟩
              cases T with
              | none => exact wpT_mono _ sub _ _ _ (tree_ok hF hs f C _ t' _ _ w (hcl.set hk) hC ht' (hr'.put o.dst v) hkk)
              | some T =>
                refine wpT_mono _ (C := C ++ [(k, T)]) (fun c hc => List.mem_append_left _ (sub c hc)) _ _ _ (tree_ok hF hs f _ _ t' _ _ w (hcl.set hk) (fun c hc => ?_) ht' (hr'.put o.dst v) hkk)
                rcases List.mem_append.1 hc with hc | hc
                · exact hC c hc
                · simp only [List.mem_singleton] at hc
                  subst hc; exact hT
            | false =>
              rw [hq, cond_false] at hv
              refine vcOp_ok hF hr' (fun v w' h1 => ?_) hv
              obtain ⟨h2, h3⟩ := still_mem h1
              exact ⟨h2, tree_ok hF hs f _ _ t' _ _ w' (hcl.set hk) h2 ht' (hr'.put o.dst v) h3⟩

theorem range_filterMap' (l : List Oper) : ∀ n, (List.range n).filterMap (nth l) = l.take n
  | 0 => rfl
  | n + 1 => by
    rw [List.range_succ, List.filterMap_append, range_filterMap' l n, List.take_add_one]
    congr 1
    simp only [List.filterMap_cons, List.filterMap_nil, nth_eq]
    cases l[n]? <;> rfl
theorem range_filterMap (ops : Array Oper) : (List.range ops.size).filterMap (nth ops.toList) = ops.toList := by
  rw [range_filterMap', List.take_of_length_le (by simp)]

section
variable {a : Act} {k : List Item} {cs : List Frame} {w : World} {b : Frame}
theorem stepR_scope {c : Code} : step P (lone (b.atR a (.code (.scope c) :: k)) cs w) = .next (lone (b.atR a (.code c :: .inScope c :: k)) cs w) :=
  step_lone_go (by simp [stepG, stepG.exec, Frame.atR])
theorem stepR_inScope {c : Code} : step P (lone (b.atR a (.inScope c :: k)) cs w) = .next (lone (b.atR a k) cs w) :=
  step_lone_go (by simp [stepG, stepG.exec, Frame.atR])
end
theorem calmW {ro : Option Nat} (m : Machine) : m.fenced P (Wd ro) := by
  intro g _
  refine ⟨fun h => ?_, Or.inl trivial, fun _ _ => trivial, fun _ h => ?_⟩
  · cases h
  · cases h
theorem wpIn_scope_straight {ro : Option Nat} {c : Code} {Q : Exit → Act → World → Prop} {a : Act} {w : World} (h : c.wpIn (Wd ro) 0 P (Exit.noGoto Q) a w) : (Code.scope c).wpIn (Wd ro) 0 P Q a w := by
  intro b k cs hro hb hr
  obtain ⟨e, a₁, w₁, hq, harr⟩ := h b (.inScope c :: k) cs hro hb hr
  have s0 := StepsIn.one (I := Machine.fenced P (Wd ro)) (calmW _) (stepR_scope (P := P) (b := b) (a := a) (k := k) (cs := cs) (w := w) (c := c))
  cases e with
  | normal => exact ⟨.normal, a₁, w₁, hq, s0.trans (StepsIn.trans harr (.one (calmW _) stepR_inScope))⟩
  | exit id =>
    have hx : exitTo id (.inScope c :: k) = exitTo id k := by simp [exitTo]
    exact ⟨.exit id, a₁, w₁, hq, fun k' hk => s0.trans (harr.1 k' (by rw [hx]; exact hk)), fun hr' hk => let ⟨k₁, h1, h2⟩ := harr.2 hr' (by rw [hx]; exact hk); ⟨k₁, h1, s0.trans h2⟩⟩
  | goto l => exact hq.elim
  | ret => exact ⟨_, a₁, w₁, hq, .of_steps s0 harr⟩
  | panic ch => exact ⟨_, a₁, w₁, hq, .of_steps s0 harr⟩
  | outgrown => exact ⟨_, a₁, w₁, hq, .of_steps s0 harr⟩

theorem vc_ok {ro : Option Nat} (hm : P.follows .mixedOrders = true) (hF : FOk P F) : ∀ (c : Code) (K : Post) (a : Act) (ρ : Env) (w : World), Rel M N a ρ → vc P F N c K ρ w → c.wpIn (Wd ro) 0 P (lift M N K) a w
  | .skip, K, a, ρ, w, hr, h => wpIn_skip ⟨ρ, hr, h⟩
  | .region id ops false, K, a, ρ, w, hr, h => by
    simp only [vc] at h
    cases hc : calm ops with
    | false => rw [hc] at h; exact h.elim
    | true =>
      rw [hc, cond_true] at h
      refine wpIn_region (opsIn_ro (calm_defer hc) ro _ _ _ ?_)
      refine vcOps_ok hF (fun a ρ w hr h => ⟨ρ, hr, h⟩) (List.range ops.size) a ρ w hr ?_
      rw [range_filterMap]; exact h
  | .region id ops true, K, a, ρ, w, hr, h => by
    simp only [vc] at h
    split at h
    case h_2 => exact h.elim
    rename_i t ht
    unfold treeOf at ht
    cases hc : calm ops with
    | false => rw [hc] at ht; cases ht
    | true =>
      rw [hc, cond_true] at ht
      have hcl : Closed ops (Array.replicate ops.size false) := by
        intro j o ho hl
        have hj : j < ops.size := (Array.getElem?_eq_some_iff.1 ho).1
        simp [hj] at hl
      refine wpIn_mono (Q := onlyN M N (K .normal)) (wpIn_region_draw fun q => ?_) ?_
      · simp only [Region.schedule, hm, Bool.true_or, if_true]
        refine opsIn_ro (calm_defer hc) ro _ _ _ ?_
        exact wpAnyIn_sound ops.size q _ a _ (wpAnyIn_of_T _ _ _ _ _ (tree_ok hF (calm_select hc) ops.size [] _ t a ρ _ hcl (fun c hc => by cases hc) ht hr h))
      · intro e a' w' hq
        cases e with
        | normal => exact hq
        | _ => exact hq.elim
  | .seq x y, K, a, ρ, w, hr, h => by
    refine wpIn_seq (wpIn_mono (vc_ok hm hF x _ a ρ w hr h) ?_)
    rintro e a' w' ⟨ρ', hr', h'⟩
    cases e with
    | normal => exact vc_ok hm hF y K a' ρ' w' hr' h'
    | _ => exact ⟨ρ', hr', h'⟩
  | .cond c x y, K, a, ρ, w, hr, h => by
    simp only [vc] at h
    split at h
    · rename_i b hb
      have he := hr.eval c
      rw [hb] at he
      refine wpIn_cond he ?_
      split at h
      · rename_i s
        have hup : upd ρ s (.bool b) = ρ := by
          by_cases hlt : Nat.blt s N = true
          · exact upd_self (by simpa [ev, hlt] using hb)
          · simp only [ev, hlt] at hb; cases hb
        cases b
        · exact vc_ok hm hF y K a _ w (by rw [hup]; exact hr) h
        · exact vc_ok hm hF x K a _ w (by rw [hup]; exact hr) h
      · cases b
        · exact vc_ok hm hF y K a ρ w hr h
        · exact vc_ok hm hF x K a ρ w hr h
    · exact h.elim
  | .block id c, K, a, ρ, w, hr, h => by
    refine wpIn_block (wpIn_mono (vc_ok hm hF c _ a ρ w hr h) ?_)
    rintro e a' w' ⟨ρ', hr', h'⟩
    cases e with
    | exit i =>
      simp only [inBlock] at h'
      simp only [Exit.inBlock]
      by_cases hi : i = id
      · subst hi
        rw [if_pos rfl]
        have : Nat.beq i i = true := by simp
        rw [this] at h'
        exact ⟨ρ', hr', h'⟩
      · rw [if_neg hi]
        have : Nat.beq i id = false := by
          cases hb : Nat.beq i id
          · rfl
          · exact absurd (Nat.eq_of_beq_eq_true hb) hi
        rw [this] at h'
        exact ⟨ρ', hr', h'⟩
    | _ => exact ⟨ρ', hr', h'⟩
  | .loop _, K, a, ρ, w, hr, h => h.elim
  | .exit id, K, a, ρ, w, hr, h => wpIn_exit ⟨ρ, hr, h⟩
  | .label l, K, a, ρ, w, hr, h => wpIn_label ⟨ρ, hr, h⟩
  | .ret, K, a, ρ, w, hr, h => wpIn_ret ⟨ρ, hr, h⟩
  | .rangeFunc .., K, a, ρ, w, hr, h => h.elim
  | .scope c, K, a, ρ, w, hr, h => by
    refine wpIn_scope_straight (wpIn_mono (vc_ok hm hF c _ a ρ w hr h) ?_)
    rintro e a' w' ⟨ρ', hr', h'⟩
    cases e with
    | goto l => exact h'
    | _ => exact ⟨ρ', hr', h'⟩
  | .goto l, K, a, ρ, w, hr, h => wpIn_goto ⟨ρ, hr, h⟩
  | .refuse _, K, a, ρ, w, hr, h => h.elim

/-- One result. -/
def resOne (tmps : Array Value) : ResultVar → Sem Value
  | .tmp t => pure (tmps.getD t undef)
  | .cell a t => do loadVar t (← asAddr (tmps.getD a undef))
theorem resOne_ok {ρ : Env} {a : Act} {w : World} (hr : Rel M N a ρ) : ∀ (rs : List ResultVar) (vs : List Value) (K : Value → World → Prop), resL P N rs vs ρ w K →
    ∃ us, (rs.mapM (resOne a.tmps)).run P w = .ok us w ∧ K (if h : (vs ++ us).length = 1 then (vs ++ us)[0] else .tuple ⟨vs ++ us⟩) w
  | [], [], K, h => ⟨[], rfl, by simpa [resL] using h⟩
  | [], [v], K, h => ⟨[], rfl, by simpa [resL] using h⟩
  | [], v :: u :: vs, K, h => ⟨[], rfl, by simpa [resL] using h⟩
  | .tmp t :: r, vs, K, h => by
    have hv : a.tmps.getD t undef = ev N ρ (.tmp t) := hr.eval (.tmp t)
    obtain ⟨us, hu, hK⟩ := resOne_ok hr r (vs ++ [ev N ρ (.tmp t)]) K (by simpa only [resL] using h)
    refine ⟨ev N ρ (.tmp t) :: us, ?_, by simpa using hK⟩
    simp only [List.mapM_cons, Sem.run_bind, resOne, Sem.run_pure, Result.andThen_ok, hu, hv]
  | .cell c t :: r, vs, K, h => by
    have hv : a.tmps.getD c undef = ev N ρ (.tmp c) := hr.eval (.tmp c)
    simp only [resL] at h
    obtain ⟨v, hk, hrun⟩ := vcLoad_ok h
    have hx := hrun 0
    obtain ⟨us, hu, hK⟩ := resOne_ok hr r (vs ++ [v]) K hk
    refine ⟨v :: us, ?_, by simpa using hK⟩
    cases hA : ev N ρ (.tmp c) with
    | pointer A =>
      rw [hA] at hx h
      simp only [vcLoad] at h
      obtain ⟨b, rfl, _⟩ := ptr_some h
      simp only [Instr.loadAt, Instr.sureAddr, Sem.run_bind, Sem.run_pure, Result.andThen_ok, World.drewN_zero] at hx
      simp only [List.mapM_cons, Sem.run_bind, resOne, hv, hA, asAddr, Sem.run_pure, Result.andThen_ok, hx, hu]
    | _ => rw [hA] at h; exact h.elim
theorem resK_ok {fn : Func} {ρ : Env} {a : Act} {w : World} {K : Value → World → Prop} (hr : Rel M N a ρ) (h : resK P N fn.results.toList ρ w K) :
    ∃ v, (results fn a.tmps).run P w = .ok v w ∧ K v w := by
  obtain ⟨us, hu, hK⟩ := resOne_ok hr fn.results.toList [] K h
  simp only [List.nil_append] at hK
  refine ⟨_, ?_, hK⟩
  have e : results fn a.tmps = (do let vs ← fn.results.mapM (resOne a.tmps); pure (if h : vs.size = 1 then vs[0] else .tuple vs)) := by
    unfold results
    congr 1
  rw [e, Array.mapM_eq_mapM_toList]
  simp only [Sem.run_bind, map_eq_pure_bind, hu, Result.andThen_ok, Sem.run_pure]
  rfl
end
end Go.Proofs.Ytaciaidehamfgaa.Vm
