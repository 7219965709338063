/- Layer 3: a disk in memory: what is found, copied, read. Own work. -/
import Derived.Test.YtdaghggdmgbpnaaDoorDkA
namespace Go.Proofs.YtdaghggdmgbpnaaDoor.Dk
open Go Vm Go.RowKit Num Mem
variable {ω ω' : Tg} {w w' w0 : World} {t gd gm : Nat} {T : Nat → Bool} {M : List Fl}

/-! ## Local reasoning: all that was there is of tag 0 -/
theorem OT.new {u sz : Nat} {e : TypeId} {s : Sl} {xs : List Value} (h : OT ω' w' u e sz s xs) (top : Top w ω' w') (hu : u ≠ 0 := by decide) : Mem.Own w' w.heap.size e sz s xs := by
  obtain ⟨hl, ho⟩ := h.own
  refine ⟨hl, ?_⟩
  rcases ho with ho | ⟨g, cap, cur, hv, hg, r⟩
  · exact .inl ho
  · refine .inr ⟨g, cap, cur, hv, ?_, r⟩
    have ht := h.tag g (by rw [hv]; rfl)
    rcases Nat.lt_or_ge g w.heap.size with hlt | hge
    · rw [top.z g hlt] at ht; exact absurd ht.symm hu
    · exact hge
theorem ag_at {cs : Array Value} {n : Nat} {K : Array Value → Prop} (hn : cs.size = n) (hK : K cs) : G.ag (.agg cs) n K := by
  subst hn
  show bif Nat.beq cs.size cs.size then K cs else False
  rw [Nat.beq_refl]; exact hK

/-! ## The disk -/
abbrev PL := List (Fl × Sl)
def encV (p : Fl × Sl) : Value := .agg #[p.2.v, .int .i64 (p.1.synced : Int)]
def encP (p : Fl × Sl) : ByteArray × Value := (p.1.name, encV p)
structure DKa (ω : Tg) (w : World) (t gd gm : Nat) (pl : PL) : Prop where
  hd : BT ω w t gd 48 [.map (some gm)]
  mp : MV ω w (t + 1) gm (pl.map encP)
  rt : ∀ p ∈ pl, RT ω w (t + 2) p.2 1 (vBs p.1.bytes)
abbrev DK (ω : Tg) (w : World) (t gd : Nat) (M : List Fl) : Prop := ∃ gm pl, DKa ω w t gd gm pl ∧ (pl.map (·.1)).Perm M
def Off (t : Nat) (T : Nat → Bool) : Prop := T t = false ∧ T (t + 1) = false ∧ T (t + 2) = false
theorem off_non (t : Nat) : Off t Non := ⟨rfl, rfl, rfl⟩
theorem off_one {t u : Nat} (h : u < t ∨ t + 2 < u) : Off t (Mem.One u) := ⟨beq_no (by omega), beq_no (by omega), beq_no (by omega)⟩
variable {pl : PL}
theorem DKa.stp (h : DKa ω w t gd gm pl) (k : Stp T ω ω' w w') (hT : Off t T) : DKa ω' w' t gd gm pl :=
  ⟨h.hd.stp k hT.1, h.mp.stp k hT.2.1, fun p hp => (h.rt p hp).stp k hT.2.2⟩
theorem DK.stp (h : DK ω w t gd M) (k : Stp T ω ω' w w') (hT : Off t T) : DK ω' w' t gd M := let ⟨gm, pl, a, b⟩ := h; ⟨gm, pl, a.stp k hT, b⟩
theorem getV_enc (s : ByteArray) : ∀ pl : PL, getV s (pl.map encP) = (pl.find? fun p => decide (p.1.name = s)).map encV
  | [] => rfl
  | p :: pl => by
    simp only [List.map_cons, encP, getV, List.find?_cons]
    by_cases e : p.1.name = s
    · simp [e]
    · simp only [e, decide_false]
      rw [if_neg (show ¬ s = p.1.name from fun h => e h.symm)]
      exact getV_enc s pl
theorem mem_perm (hp : (pl.map (·.1)).Perm M) {p : Fl × Sl} (h : p ∈ pl) : p.1 ∈ M := hp.mem_iff.1 (List.mem_map_of_mem h)
theorem get_none (hp : (pl.map (·.1)).Perm M) {s : ByteArray} (h : findM s M = none) : getV s (pl.map encP) = none := by
  rw [getV_enc, List.find?_eq_none.2 fun p hm => by simpa using findM_none.1 h _ (mem_perm hp hm)]; rfl
theorem get_some (hp : (pl.map (·.1)).Perm M) (hn : (M.map (·.name)).Nodup) {s : ByteArray} {f : Fl} (h : findM s M = some f) : ∃ p ∈ pl, p.1 = f ∧ getV s (pl.map encP) = some (encV p) := by
  obtain ⟨h1, h2⟩ := (findM_some hn).1 h
  obtain ⟨q, hq, rfl⟩ := List.mem_map.1 (hp.mem_iff.2 h1)
  rw [getV_enc]
  cases hf : pl.find? fun p => decide (p.1.name = s) with
  | none => exact absurd (List.find?_eq_none.1 hf q hq) (by simp [h2])
  | some p =>
    have hpm := List.mem_of_find?_eq_some hf
    have hpn : p.1.name = s := by have := List.find?_some hf; simpa using this
    refine ⟨p, hpm, ?_, rfl⟩
    have e := (findM_some hn).2 ⟨mem_perm hp hpm, hpn⟩
    rw [h] at e
    exact (Option.some.inj e).symm

/-- find. -/
theorem find_ok (h : DKa ω w t gd gm pl) (hp : (pl.map (·.1)).Perm M) (hM : WF M) {s : ByteArray} (hs : s.size ≤ 9223372036854775807) {K : Sl → Int → Int → World → Prop}
    (h40 : namF s = false → ∀ w', Keep w w' → K nilS 0 40 w') (h5 : namF s = true → findM s M = none → ∀ w', Keep w w' → K nilS 0 5 w')
    (h0 : ∀ p ∈ pl, namF s = true → findM s M = some p.1 → ∀ w', Keep w w' → K p.2 (p.1.synced : Int) 0 w') : C.disk_Disk_find (some ⟨gd, 0, none⟩) s w K := by
  unfold C.disk_Disk_find
  refine new_T (ω := fun _ => 0) 7 fun g ω1 w1 k1 b1 => cond_f rfl ?_
  have t1 := (Top.init w).stp k1
  refine named_ok hs ?_
  have out : ∀ {ω2 w2} (_ : BT ω2 w2 7 g 77 [nilS.v, .int .i64 0]) (_ : Top w ω2 w2) (sl : Sl) (n e : Int), (∀ w', Keep w w' → K sl n e w') →
      G.st ⟨g, 0, none⟩ sl.v w2 fun w16 => G.st (Addr.add ⟨g, 0, none⟩ 1) (.int .i64 n) w16 fun w17 => G.cSl ⟨g, 0, none⟩ w17 fun l18 => G.cI .i64 (Addr.add ⟨g, 0, none⟩ 1) w17 fun n19 => K l18 n19 e w17 := by
    intro ω2 w2 b2 t2 sl n e hk
    refine st_T b2 (by simp) fun ω3 w3 k3 b3 => st_TA b3 (by simp) fun ω4 w4 k4 b4 => ?_
    refine cSl_at (s := sl) (by rw [b4.cell]; rfl) <| cI_at (n := n) (by rw [addr_add, b4.cell]; rfl) (hk w4 ((t2.stp k3).stp k4).k)
  refine cond_not (fun hn => ?_) (fun hn => ?_)
  · exact out b1 t1 nilS 0 40 (h40 hn)
  · have hk1 := h.stp (k1.keep.stp0 ω) (off_non t)
    refine ptr_at <| ⟨some gm, by rw [hk1.hd.cell]; rfl, ?_⟩
    have run : ∀ (sl : Sl) (n : Int) (b : Bool), (getV s (pl.map encP)).getD (.agg #[.slice none 0 0, .int .i64 0]) = .agg #[sl.v, .int .i64 n] → (getV s (pl.map encP)).isSome = b → (b = false → ∀ w', Keep w w' → K nilS 0 5 w') → (b = true → ∀ w', Keep w w' → K sl n 0 w') →
        G.rd2 C.pr (Instr.lookup 46 (.map (some gm)) (.string s) true) (fun v : Value => v) w1 fun v22 b24 => G.ag v22 2 fun c23 => G.vSl c23[0 + 0]? fun l25 => G.vI .i64 c23[0 + 1]? fun n26 => G.new (.cells #[nilS.v, (.int .i64 (0 : Int))] 77) w1 fun p27 w28 => G.st p27 l25.v w28 fun w29 => G.st (p27.add 1) (.int .i64 n26) w29 fun w30 => G.cond (!b24) (G.st ⟨g, 0, none⟩ nilS.v w30 fun w31 => G.st (Addr.add ⟨g, 0, none⟩ 1) (.int .i64 (0 : Int)) w31 fun w32 => G.cSl ⟨g, 0, none⟩ w32 fun l33 => G.cI .i64 (Addr.add ⟨g, 0, none⟩ 1) w32 fun n34 => K l33 n34 (5 : Int) w32) (G.cSl p27 w30 fun l35 => G.cI .i64 (p27.add 1) w30 fun n36 => G.st ⟨g, 0, none⟩ l35.v w30 fun w37 => G.st (Addr.add ⟨g, 0, none⟩ 1) (.int .i64 n36) w37 fun w38 => G.cSl ⟨g, 0, none⟩ w38 fun l39 => G.cI .i64 (Addr.add ⟨g, 0, none⟩ 1) w38 fun n40 => K l39 n40 (0 : Int) w38) := by
      intro sl n b e1 e2 e3 e4
      refine rd2_V (kt := 9) (et := 77) hk1.mp (by kernel_rfl) (by kernel_rfl) Tryd.zeroValue77 e1 ?_
      rw [e2]
      refine ag_at rfl ⟨sl, rfl, n, rfl, ?_⟩
      refine new_T (ω := ω1) 8 fun g2 ω2 w2 k2 b2 => st_T b2 (by simp) fun ω3 w3 k3 b3 => st_TA b3 (by simp) fun ω4 w4 k4 b4 => ?_
      have b14 := ((b1.stp k2).stp k3).stp k4
      have t4 := ((t1.stp k2).stp k3).stp k4
      refine cond_not (fun hb => out b14 t4 nilS 0 5 (e3 hb)) (fun hb => ?_)
      exact cSl_at (s := sl) (by rw [b4.cell]; rfl) <| cI_at (n := n) (by rw [addr_add, b4.cell]; rfl) (out b14 t4 sl n 0 (e4 hb))
    cases hf : findM s M with
    | none => exact run nilS 0 false (by rw [get_none hp hf]; rfl) (by rw [get_none hp hf]; rfl) (fun _ => h5 hn hf) (fun h => by cases h)
    | some f =>
      obtain ⟨p, hpm, rfl, hg⟩ := get_some hp hM.nodup hf
      exact run p.2 p.1.synced true (by rw [hg]; rfl) (by rw [hg]; rfl) (fun h => by cases h) (fun _ => h0 p hpm hn hf)

/-- again: the first bytes, in new memory. -/
theorem again_ok {b : Sl} {l : List UInt8} {sy n : Nat} {m : Int} (em : m = (n : Int)) (hb : RdB w b l) (hn : n ≤ l.length) (hl : l.length ≤ 10000000) {K : Sl → Int → World → Prop}
    (hK : ∀ r w', Keep w w' → OwnB w' w.heap.size r (l.take n) → K r ((min sy n : Nat) : Int) w') : C.disk_file_again b (sy : Int) m w K := by
  subst em
  have hbn := hb.len
  unfold C.disk_file_again
  refine new_T (ω := fun _ => 0) 7 fun g ω1 w1 k1 b1 => new_T (ω := ω1) 8 fun g2 ω2 w2 k2 b2 => ?_
  refine make_T tiB (ω := ω2) 9 (n := n) (c := n) rfl rfl (Nat.le_refl _) (by simp only [maxLen]; omega) (by omega) fun r ω3 w3 k3 ⟨z, o3⟩ hrn hrc => ?_
  have b13 := (b1.stp k2).stp k3
  have t3 := (((Top.init w).stp k1).stp k2).stp k3
  refine cSl_at (s := b) (by rw [b13.cell]; rfl) ?_
  refine copy_T tiB o3 (hb.keep t3.k) vBs_one (by omega) fun ω4 w4 k4 o4 => ?_
  have b14 := b13.stp k4
  refine cI_at (n := (sy : Int)) (by rw [addr_add, b14.cell]; rfl) ?_
  refine st_T ((b2.stp k3).stp k4) (by simp) fun ω5 w5 k5 b5 => st_TA b5 (by simp) fun ω6 w6 k6 b6 => ?_
  refine cSl_at (s := r) (by rw [b6.cell]; rfl) <| cI_at (n := ((min sy n : Nat) : Int)) (by
    rw [addr_add, b6.cell]
    have : (if (n : Int) < (sy : Int) then (n : Int) else (sy : Int)) = ((min sy n : Nat) : Int) := by split <;> omega
    rw [← this]; rfl) ?_
  have t6 := ((t3.stp k4).stp k5).stp k6
  refine hK r w6 t6.k ?_
  have o6 := OT.new ((o4.stp k5).stp k6) t6
  rw [OwnB]
  have e : vBs (l.take n) = (vBs l).take r.n := by rw [hrn, vBs, vBs, List.map_take]
  rw [e]; exact o6

theorem read_ok (h : DK ω w t gd M) (hM : WF M) {s : ByteArray} (hs : s.size ≤ 9223372036854775807) {K : Sl → Int → World → Prop}
    (h40 : namF s = false → ∀ w', Keep w w' → K nilS 40 w') (h5 : namF s = true → findM s M = none → ∀ w', Keep w w' → K nilS 5 w')
    (h0 : ∀ f, namF s = true → findM s M = some f → ∀ r w', Keep w w' → OwnB w' w.heap.size r f.bytes → K r 0 w') : C.disk_Disk_Read (some ⟨gd, 0, none⟩) s w K := by
  obtain ⟨gm, pl, h, hp⟩ := h
  unfold C.disk_Disk_Read
  have body : ∀ (sl : Sl) (n e : Int) (w1 : World), Keep w w1 → (∀ w', Keep w w' → (e ≠ 0 → K nilS e w') ∧ (e = 0 → C.disk_file_again sl n ((sl.n : Nat) : Int) w' fun l18 n19 w20 => K l18 (0 : Int) w20)) →
      G.new (.cells #[nilS.v, (.int .i64 (0 : Int))] 77) w1 fun p11 w12 => G.st p11 sl.v w12 fun w13 => G.st (p11.add 1) (.int .i64 n) w13 fun w14 => G.cond (e != (0 : Int)) (K nilS e w14) (G.cSl p11 w14 fun l15 => G.cI .i64 (p11.add 1) w14 fun n16 => G.cSl p11 w14 fun l17 => C.disk_file_again l15 n16 ((l17.n : Nat) : Int) w14 fun l18 n19 w20 => K l18 (0 : Int) w20) := by
    intro sl n e w1 k hk
    refine new_T (ω := fun _ => 0) 7 fun g ω2 w2 k2 b2 => st_T b2 (by simp) fun ω3 w3 k3 b3 => st_TA b3 (by simp) fun ω4 w4 k4 b4 => ?_
    have k14 := Keep.trans k ((((Top.init w1).stp k2).stp k3).stp k4).k
    refine cond_ne (fun he => (hk w4 k14).1 he) (fun he => ?_)
    exact cSl_at (s := sl) (by rw [b4.cell]; rfl) <| cI_at (n := n) (by rw [addr_add, b4.cell]; rfl) <| cSl_at (s := sl) (by rw [b4.cell]; rfl) ((hk w4 k14).2 he)
  refine find_ok h hp hM hs (fun h1 w1 k1 => body _ _ _ w1 k1 fun w' k => ⟨fun _ => h40 h1 w' k, fun e => by cases e⟩) (fun h1 h2 w1 k1 => body _ _ _ w1 k1 fun w' k => ⟨fun _ => h5 h1 h2 w' k, fun e => by cases e⟩)
    (fun p hpm h1 h2 w1 k1 => body _ _ _ w1 k1 fun w' k => ⟨fun e => absurd rfl e, fun _ => ?_⟩)
  have hl := hM.len p.1 (mem_perm hp hpm)
  have hr := ((h.rt p hpm).rd.keep k)
  have hn : p.2.n = p.1.bytes.length := RdB.len hr
  refine again_ok (n := p.1.bytes.length) (by rw [hn]) hr (Nat.le_refl _) (by omega) fun r w2 k2 o2 => ?_
  rw [List.take_length] at o2
  exact h0 p.1 h1 h2 r w2 (Keep.trans k k2) (o2.mono k.size)
theorem size_ok (h : DK ω w t gd M) (hM : WF M) {s : ByteArray} (hs : s.size ≤ 9223372036854775807) {K : Int → Int → Int → World → Prop}
    (h40 : namF s = false → ∀ w', Keep w w' → K 0 0 40 w') (h5 : namF s = true → findM s M = none → ∀ w', Keep w w' → K 0 0 5 w')
    (h0 : ∀ f, namF s = true → findM s M = some f → ∀ w', Keep w w' → K (f.bytes.length : Int) (f.synced : Int) 0 w') : C.disk_Disk_Size (some ⟨gd, 0, none⟩) s w K := by
  obtain ⟨gm, pl, h, hp⟩ := h
  unfold C.disk_Disk_Size
  have body : ∀ (sl : Sl) (n e : Int) (w1 : World), Keep w w1 → (∀ w', Keep w w' → K ((sl.n : Nat) : Int) n e w') →
      G.new (.cells #[nilS.v, (.int .i64 (0 : Int))] 77) w1 fun p10 w11 => G.st p10 sl.v w11 fun w12 => G.st (p10.add 1) (.int .i64 n) w12 fun w13 => G.cSl p10 w13.drew fun l14 => G.cI .i64 (p10.add 1) w13.drew fun n15 => K ((l14.n : Nat) : Int) n15 e w13.drew := by
    intro sl n e w1 k hk
    refine new_T (ω := fun _ => 0) 7 fun g ω2 w2 k2 b2 => st_T b2 (by simp) fun ω3 w3 k3 b3 => st_TA b3 (by simp) fun ω4 w4 k4 b4 => ?_
    have k14 := Keep.trans k (((((Top.init w1).stp k2).stp k3).stp k4).stp (drew_stp ω4 w4)).k
    have bd := b4.stp (drew_stp ω4 w4)
    exact cSl_at (s := sl) (by rw [bd.cell]; rfl) <| cI_at (n := n) (by rw [addr_add, bd.cell]; rfl) (hk _ k14)
  refine find_ok h hp hM hs (fun h1 w1 k1 => body _ _ _ w1 k1 fun w' k => h40 h1 w' k) (fun h1 h2 w1 k1 => body _ _ _ w1 k1 fun w' k => h5 h1 h2 w' k)
    (fun p hpm h1 h2 w1 k1 => body _ _ _ w1 k1 fun w' k => ?_)
  have hn : p.2.n = p.1.bytes.length := RdB.len (h.rt p hpm).rd
  rw [hn]; exact h0 p.1 h1 h2 w' k
end Go.Proofs.YtdaghggdmgbpnaaDoor.Dk
