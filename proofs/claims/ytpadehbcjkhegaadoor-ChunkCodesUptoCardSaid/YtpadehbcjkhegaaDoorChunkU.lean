/- Layer 8: no samples' bits begin with others': plain laws. Own work. -/
import Derived.Test.YtpadehbcjkhegaaDoorChunkE4
namespace Go.Proofs.YtpadehbcjkhegaaDoor.Chunk
open Go Vm Go.RowKit Num Mem Bits Vint

theorem low_inj {v v' k : Nat} {y y' : List Bool} (hv : v < 2 ^ k) (hv' : v' < 2 ^ k) (h : low v k ++ y = low v' k ++ y') : v = v' ∧ y = y' := by
  obtain ⟨h1, h2⟩ := List.append_inj h (by rw [low_len, low_len])
  exact ⟨by rw [← num_low hv, h1, num_low hv'], h2⟩
theorem putU_inj : ∀ (f n n' : Nat) (y y' : List Bool), n < f → n' < f → byteBits (putU n) ++ y = byteBits (putU n') ++ y' → n = n' ∧ y = y'
  | 0, _, _, _, _, h, _, _ => by omega
  | f + 1, n, n', y, y', hn, hn', h => by
    rcases Nat.lt_or_ge n 128 with a | a <;> rcases Nat.lt_or_ge n' 128 with b | b
    · rw [putU_lt a, putU_lt b, byteBits_one, byteBits_one, ofNat_val (by omega), ofNat_val (by omega), List.append_assoc, List.append_assoc] at h
      obtain ⟨h1, h2⟩ := low_inj (by omega) (by omega) h
      exact ⟨h1, h2⟩
    · rw [putU_lt a, putU_ge (by omega), byteBits_one, byteBits_one, ofNat_val (by omega), ofNat_val (by omega), List.append_assoc, List.append_assoc] at h
      obtain ⟨h1, h2⟩ := low_inj (by omega) (by omega) h
      omega
    · rw [putU_ge (by omega), putU_lt b, byteBits_one, byteBits_one, ofNat_val (by omega), ofNat_val (by omega), List.append_assoc, List.append_assoc] at h
      obtain ⟨h1, h2⟩ := low_inj (by omega) (by omega) h
      omega
    · rw [putU_ge (n := n) (by omega), putU_ge (n := n') (by omega), byteBits_one, byteBits_one, ofNat_val (by omega), ofNat_val (by omega), List.append_assoc, List.append_assoc] at h
      have l1 : n % 128 + 128 < 2 ^ 8 := by omega
      have l2 : n' % 128 + 128 < 2 ^ 8 := by omega
      obtain ⟨h1, h2⟩ := low_inj l1 l2 h
      obtain ⟨h3, h4⟩ := putU_inj f (n / 128) (n' / 128) _ _ (by omega) (by omega) h2
      exact ⟨by omega, h4⟩
theorem ones_cls {c c' : Nat} {z z' : List Bool} (hc : c ≤ 4) (hc' : c' ≤ 4) (h : List.replicate c true ++ ((if c < 4 then [false] else []) ++ z) = List.replicate c' true ++ ((if c' < 4 then [false] else []) ++ z')) : c = c' ∧ z = z' := by
  match c, hc, c', hc' with
  | 0, _, 0, _ => simpa using h
  | 0, _, 1, _ => simp [List.replicate] at h
  | 0, _, 2, _ => simp [List.replicate] at h
  | 0, _, 3, _ => simp [List.replicate] at h
  | 0, _, 4, _ => simp [List.replicate] at h
  | 1, _, 0, _ => simp [List.replicate] at h
  | 1, _, 1, _ => simpa [List.replicate] using h
  | 1, _, 2, _ => simp [List.replicate] at h
  | 1, _, 3, _ => simp [List.replicate] at h
  | 1, _, 4, _ => simp [List.replicate] at h
  | 2, _, 0, _ => simp [List.replicate] at h
  | 2, _, 1, _ => simp [List.replicate] at h
  | 2, _, 2, _ => simpa [List.replicate] using h
  | 2, _, 3, _ => simp [List.replicate] at h
  | 2, _, 4, _ => simp [List.replicate] at h
  | 3, _, 0, _ => simp [List.replicate] at h
  | 3, _, 1, _ => simp [List.replicate] at h
  | 3, _, 2, _ => simp [List.replicate] at h
  | 3, _, 3, _ => simpa [List.replicate] using h
  | 3, _, 4, _ => simp [List.replicate] at h
  | 4, _, 0, _ => simp [List.replicate] at h
  | 4, _, 1, _ => simp [List.replicate] at h
  | 4, _, 2, _ => simp [List.replicate] at h
  | 4, _, 3, _ => simp [List.replicate] at h
  | 4, _, 4, _ => simpa [List.replicate] using h
theorem tcls_zero {d : Int} (h : tcls d = 0) : d = 0 := by
  rcases Int.decEq d 0 with h' | h'
  · unfold tcls at h
    rw [if_neg h'] at h
    split at h
    · omega
    · split at h
      · omega
      · split at h <;> omega
  · exact h'
theorem tform_inj {d d' : Int} {y y' : List Bool} (h1 : -9223372036854775808 ≤ d) (h2 : d < 9223372036854775808) (h1' : -9223372036854775808 ≤ d') (h2' : d' < 9223372036854775808) (h : tform d ++ y = tform d' ++ y') : d = d' ∧ y = y' := by
  rw [tform_cls, tform_cls] at h
  simp only [List.append_assoc] at h
  obtain ⟨hc, hz⟩ := ones_cls (tcls_le d) (tcls_le d') h
  unfold tbody at hz
  rw [← hc] at hz
  have h64 : tw (tcls d) ≤ 64 := by
    have : ∀ i : Fin 5, tw i.val ≤ 64 := by decide
    exact this ⟨tcls d, by have := tcls_le d; omega⟩
  obtain ⟨e, hy⟩ := low_inj (lowN_lt2 d h64) (lowN_lt2 d' h64) hz
  refine ⟨?_, hy⟩
  rcases Nat.eq_zero_or_pos (tcls d) with h0 | h0
  · have h0' : tcls d' = 0 := by rw [← hc]; exact h0
    rw [tcls_zero h0, tcls_zero h0']
  · rcases Nat.lt_or_ge (tcls d) 4 with h4 | h4
    · have f := tcls_fits (d := d) (by omega) h4
      have f' := tcls_fits (d := d') (by omega) (by omega)
      rw [← hc] at f'
      have hw : 0 < tw (tcls d) ∧ tw (tcls d) ≤ 56 := by
        have : ∀ i : Fin 4, 0 < i.val → 0 < tw i.val ∧ tw i.val ≤ 56 := by decide
        exact this ⟨tcls d, h4⟩ h0
      rcases says hw.1 hw.2 f with ⟨a1, a2⟩ | ⟨a1, a2⟩ <;> rcases says hw.1 hw.2 f' with ⟨b1, b2⟩ | ⟨b1, b2⟩ <;> rw [e] at a1 a2 <;> omega
    · have : tcls d = 4 := by have := tcls_le d; omega
      rw [this] at e
      have u : ∀ x : Int, lowN x (tw 4) = uN x := fun x => by unfold lowN tw; rfl
      rw [u, u] at e
      unfold uN at e
      omega
theorem vform_inj {wn : Win} (hw : WinOk wn) {x x' : Nat} {y y' : List Bool} (hx : x < 18446744073709551616) (hx' : x' < 18446744073709551616) (h : (vform wn x).1 ++ y = (vform wn x').1 ++ y') : x = x' ∧ y = y' := by
  have no : ∀ {z z' : List Bool}, low 0 1 ++ z = low 1 1 ++ z' → False := fun h => by have := (low_inj (by decide) (by decide) h).1; omega
  rcases vform_cases wn x with ⟨h0, e⟩ | ⟨h0, a, b, w1, ha, hb, e⟩ | ⟨h0, e⟩ <;> rcases vform_cases wn x' with ⟨h0', e'⟩ | ⟨h0', a', b', w1', ha', hb', e'⟩ | ⟨h0', e'⟩ <;> rw [e, e'] at h <;> simp only [List.append_assoc] at h
  · exact ⟨by omega, (low_inj (by decide) (by decide) h).2⟩
  · exact (no h).elim
  · exact (no h).elim
  · exact (no h.symm).elim
  · rw [w1] at w1'
    simp only [Option.some.injEq, Prod.mk.injEq] at w1'
    obtain ⟨rfl, rfl⟩ := w1'
    obtain ⟨c1, c2⟩ := hw a b w1
    obtain ⟨_, h⟩ := low_inj (by decide) (by decide) h
    obtain ⟨_, h⟩ := low_inj (by decide) (by decide) h
    obtain ⟨q, h⟩ := low_inj (mid_lt hx ha (by omega)) (mid_lt hx' ha' (by omega)) h
    refine ⟨?_, h⟩
    rw [← mul_div_trail hx h0 hb, q, mul_div_trail hx' h0' hb']
  · obtain ⟨_, h⟩ := low_inj (by decide) (by decide) h
    exact (no h).elim
  · exact (no h.symm).elim
  · obtain ⟨_, h⟩ := low_inj (by decide) (by decide) h
    exact (no h.symm).elim
  · have l1 := lead_le x
    have l2 := lead_le x'
    have t1 := lead_trail hx h0
    have t2 := lead_trail hx' h0'
    obtain ⟨_, h⟩ := low_inj (by decide) (by decide) h
    obtain ⟨_, h⟩ := low_inj (by decide) (by decide) h
    obtain ⟨q1, h⟩ := low_inj (by omega) (by omega) h
    obtain ⟨q2, h⟩ := low_inj (by omega) (by omega) h
    have q3 : trail x = trail x' := by omega
    rw [← q1, ← q3] at h
    have m1 := mid_lt hx (Nat.le_refl (lead x)) (b := trail x) (by omega)
    have m2 := mid_lt hx' (Nat.le_refl (lead x')) (b := trail x') (by omega)
    rw [← q1, ← q3] at m2
    obtain ⟨q, h⟩ := low_inj m1 m2 h
    refine ⟨?_, h⟩
    have := mul_div_trail hx' h0' (Nat.le_refl (trail x'))
    rw [← q3] at this
    rw [← mul_div_trail hx h0 (Nat.le_refl (trail x)), q, this]
theorem xor_cancel {a b c : Nat} (h : a ^^^ c = b ^^^ c) : a = b := by
  have := congrArg (· ^^^ c) h
  simp only [Nat.xor_assoc, Nat.xor_self, Nat.xor_zero] at this
  exact this
theorem emit_inj {l : List Smp} {s s' : Smp} {y y' : List Bool} (h : Valid (l ++ [s])) (h' : Valid (l ++ [s'])) (e : (emit l (run l).2 s).1 ++ y = (emit l (run l).2 s').1 ++ y') : s = s' ∧ y = y' := by
  obtain ⟨v, ws, hs⟩ := h.inv
  obtain ⟨_, ws', hs'⟩ := h'.inv
  have b := wrong_zero ws
  have b' := wrong_zero ws'
  have wok := run_ok v
  generalize (run l).2 = wn at *
  rcases hr : l.reverse with _ | ⟨c, _ | ⟨a, r⟩⟩
  · obtain rfl : l = [] := List.reverse_eq_nil_iff.1 hr
    have ee : ∀ s : Smp, emit [] wn s = (byteBits (putU (zz s.1)) ++ low s.2 64, wn) := fun _ => rfl
    rw [ee, ee] at e
    simp only [List.append_assoc] at e
    obtain ⟨q1, e⟩ := putU_inj 18446744073709551616 _ _ _ _ (zz_lt50 b.1 b.2.1) (zz_lt50 b'.1 b'.2.1) e
    obtain ⟨q2, e⟩ := low_inj hs hs' e
    refine ⟨Prod.ext ?_ q2, e⟩
    rw [← bk_zz s.1, q1, bk_zz]
  · have hll : l = [c] := by rw [← List.reverse_reverse l, hr]; rfl
    subst hll
    have ee : ∀ s : Smp, emit [c] wn s = (byteBits (putU (uN (s.1 - c.1))) ++ (vform wn (s.2 ^^^ c.2)).1, (vform wn (s.2 ^^^ c.2)).2) := fun _ => rfl
    rw [ee, ee] at e
    simp only [List.append_assoc] at e
    have hc := v.mem c (List.mem_singleton.2 rfl)
    obtain ⟨q1, e⟩ := putU_inj 18446744073709551616 _ _ _ _ (uN_lt _) (uN_lt _) e
    obtain ⟨q2, e⟩ := vform_inj wok (xor64_lt hs hc.2.2) (xor64_lt hs' hc.2.2) e
    refine ⟨Prod.ext ?_ (xor_cancel q2), e⟩
    unfold uN at q1
    omega
  · have hc := v.mem c (by rw [← List.mem_reverse, hr]; simp)
    have ha := v.mem a (by rw [← List.mem_reverse, hr]; simp)
    have ee : ∀ s : Smp, emit l wn s = (tform (s.1 - c.1 - (c.1 - a.1)) ++ (vform wn (s.2 ^^^ c.2)).1, (vform wn (s.2 ^^^ c.2)).2) := fun s => by unfold emit; rw [hr]
    rw [ee, ee] at e
    simp only [List.append_assoc] at e
    obtain ⟨q1, e⟩ := tform_inj (by omega) (by omega) (by omega) (by omega) e
    obtain ⟨q2, e⟩ := vform_inj wok (xor64_lt hs hc.2.2) (xor64_lt hs' hc.2.2) e
    exact ⟨Prod.ext (by omega) (xor_cancel q2), e⟩
theorem run_free {l m : List Smp} (hl : Valid l) (hm : Valid m) (hn : l.length = m.length) {y y' : List Bool} (e : (run l).1 ++ y = (run m).1 ++ y') : l = m := by
  have key : ∀ i, i ≤ l.length → l.take i = m.take i := by
    intro i
    induction i with
    | zero => intro _; rfl
    | succ i ih =>
      intro hi
      have h := ih (by omega)
      have him : i < m.length := by omega
      have tl : l.take (i + 1) = l.take i ++ [l[i]] := by rw [List.take_add_one, List.getElem?_eq_getElem (by omega)]; rfl
      have tm : m.take (i + 1) = m.take i ++ [m[i]] := by rw [List.take_add_one, List.getElem?_eq_getElem him]; rfl
      have pre : ∀ {q : List Smp}, Valid q → ∀ j, Valid (q.take j) := fun {q} h j => by
        rw [← List.take_append_drop j q] at h; exact h.pre
      obtain ⟨R, hR⟩ := run_pre (m := l) (l.length - (i + 1)) (i + 1) (by omega)
      obtain ⟨R', hR'⟩ := run_pre (m := m) (m.length - (i + 1)) (i + 1) (by omega)
      have v1 := pre hl (i + 1)
      have v2 := pre hm (i + 1)
      rw [tl] at hR v1
      rw [tm, ← h] at hR' v2
      rw [run_snoc] at hR hR'
      rw [hR, hR'] at e
      simp only [List.append_assoc] at e
      have := (emit_inj v1 v2 (List.append_cancel_left e)).1
      rw [tl, tm, h, this]
  have := key l.length (Nat.le_refl _)
  rw [List.take_length, hn, List.take_length] at this
  exact this
/-- No chunk's bytes begin with another's. -/
theorem enc_free {l m : List Smp} (hl : Valid l) (hm : Valid m) {x : List UInt8} (e : enc l = enc m ++ x) : l = m := by
  unfold enc at e
  simp only [List.cons_append, List.cons.injEq] at e
  obtain ⟨e1, e2, e3⟩ := e
  have n1 := hl.len
  have n2 := hm.len
  have e2' := congrArg UInt8.toNat e2
  rw [ofNat_val (by omega), ofNat_val (by omega)] at e2'
  obtain ⟨a, ha⟩ := byteBits_pk (run l).1
  obtain ⟨b, hb⟩ := byteBits_pk (run m).1
  have := congrArg byteBits e3
  rw [byteBits_app, ha, hb, List.append_assoc] at this
  exact run_free hl hm (by omega) this
end Go.Proofs.YtpadehbcjkhegaaDoor.Chunk
