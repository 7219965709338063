/- Layer 21 (alerts): lists of alerts compared by the reference. Own work. -/
import Derived.Test.YtfkpehcbijgmnaaGreatDoorAlK
namespace Go.Proofs.YtfkpehcbijgmnaaGreatDoor.Al
open Go Vm Go.RowKit Num Mem Utf Lib Lab
variable {ω ω' : Tg} {w w' w0 : World} {t u gs gm : Nat} {T : Nat → Bool} {pl : QL} {M : List Av} {rs ms now : Int}

/-- Alerts that are read. -/
structure RA (w : World) (s : Sl) (ql : QL) : Prop where
  row : Rd w s 3 (avs ql)
  lab : ∀ p ∈ ql, Rd w p.2 2 (labs p.1.1)
theorem RA.keep {s : Sl} {ql : QL} (h : RA w s ql) (k : Keep w w') : RA w' s ql := ⟨h.row.keep k, fun p hp => (h.lab p hp).keep k⟩
theorem rsameA_ok {a b : Sl} {p q : QL} (ha : RA w0 a p) (hb : RA w0 b q) (e : p.map (·.1) = q.map (·.1)) (hs : ∀ x ∈ p, x.1.1.length ≤ 9000000000000000000) (hl : p.length ≤ 2000000000) {K : Bool → World → Prop} (hK : ∀ w', Keep w0 w' → K true w') : C.tocsinref21_Same a b w0 K := by
  have hna := rdA_n ha.row
  have hnb := rdA_n hb.row
  have hlen := congrArg List.length e
  simp only [List.length_map] at hlen
  unfold C.tocsinref21_Same C.tocsinref21_Same.S9
  refine cond_f (by simp; omega) ?_
  refine C.tocsinref21_Same.L5_ind fun X hX => ?_
  have key : ∀ (d i : Nat) (w : World), i + d = p.length → Keep w0 w → X a b (i : Int) w := by
    intro d
    induction d with
    | zero =>
      intro i w hi k
      refine hX _ _ _ _ ?_
      unfold C.tocsinref21_Same.S7 C.tocsinref21_Same.S2
      exact cond_d (fun hh => by omega) (fun _ => hK w k)
    | succ d ih =>
      intro i w hi k
      refine hX _ _ _ _ ?_
      unfold C.tocsinref21_Same.S7
      obtain ⟨x, hx⟩ : ∃ x, p[i]? = some x := ⟨_, List.getElem?_eq_getElem (by omega)⟩
      obtain ⟨y, hy⟩ : ∃ y, q[i]? = some y := ⟨_, List.getElem?_eq_getElem (by omega)⟩
      have hxy : x.1 = y.1 := by
        have h1 : (p.map (·.1))[i]? = some x.1 := by rw [List.getElem?_map, hx]; rfl
        rw [e, List.getElem?_map, hy] at h1
        exact (Option.some.inj h1).symm
      have kd := Keep.trans k (Keep.drew w)
      refine cond_d (fun _ => ?_) (fun hh => by omega)
      refine rdA_at (ha.row.keep kd) (k := i) rfl hx fun a1 c1 _ _ => cSl_at c1 <| rdA_at (hb.row.keep kd) (k := i) rfl hy fun a2 c2 _ _ => cSl_at c2 ?_
      refine rsame_ok ((ha.lab x (List.mem_of_getElem? hx)).keep kd) ((hb.lab y (List.mem_of_getElem? hy)).keep kd) (hs x (List.mem_of_getElem? hx)) fun w3 k3 => ?_
      have k03 := Keep.trans kd k3
      rw [decide_eq_true (by rw [hxy])]
      refine cond_f rfl <| rdA_at (ha.row.keep k03) (k := i) rfl hx fun a1 _ c1 _ => cI_at c1 <| rdA_at (hb.row.keep k03) (k := i) rfl hy fun a2 _ c2 _ => cI_at c2 <| cond_f (by rw [hxy]; simp) ?_
      refine rdA_at (ha.row.keep k03) (k := i) rfl hx fun a1 _ _ c1 => cI_at c1 <| rdA_at (hb.row.keep k03) (k := i) rfl hy fun a2 _ _ c2 => cI_at c2 <| cond_f (by rw [hxy]; simp) ?_
      rw [wI64 (by omega) (by omega), show (i : Int) + 1 = ((i + 1 : Nat) : Int) by omega]
      exact ih (i + 1) w3 (by omega) k03
  exact key p.length 0 w0 (by omega) (Keep.refl w0)
theorem avs_mid {ql : QL} {k : Nat} {p : Av × Sl} (h : ql[k]? = some p) : ((avs ql).drop (k * 3)).take (1 * 3) = avs [p] := by
  have hk := (List.getElem?_eq_some_iff.1 h).1
  have e : ql = ql.take k ++ ([p] ++ ql.drop (k + 1)) := by
    have : ql[k] = p := by rw [List.getElem?_eq_getElem hk] at h; exact Option.some.inj h
    conv => lhs; rw [← List.take_append_drop k ql, List.drop_eq_getElem_cons hk, this]
    rfl
  conv => lhs; rw [e]
  rw [avs_app, List.drop_append_of_le_length (by rw [avs_len, List.length_take]; omega), List.drop_of_length_le (by rw [avs_len, List.length_take]; omega), List.nil_append, avs_app, List.take_append_of_le_length (by rw [avs_len]; simp), List.take_of_length_le (by rw [avs_len]; simp)]
end Go.Proofs.YtfkpehcbijgmnaaGreatDoor.Al
