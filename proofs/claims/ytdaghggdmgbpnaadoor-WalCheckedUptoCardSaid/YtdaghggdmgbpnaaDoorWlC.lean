/- Layer 7 (wal): numbers of files, and the segments that are there. Own work. -/
import Derived.Test.YtdaghggdmgbpnaaDoorWlB
namespace Go.Proofs.YtdaghggdmgbpnaaDoor.Wl
open Go Vm Go.RowKit Num Mem Dk Wo
variable {ω ω' : Tg} {w w' w0 : World} {T : Nat → Bool}

/-! ## number -/
def preF (p f : ByteArray) : Bool := decide (p.size ≤ f.size) && decide (f.extract 0 p.size = p)
theorem cutP_ok {f p : ByteArray} {K : ByteArray → Bool → World → Prop} (hK : K (if preF p f = true then f.extract p.size f.size else f) (preF p f) w) : C.strings_CutPrefix f p w K := by
  unfold C.strings_CutPrefix C.stringslite_CutPrefix C.stringslite_HasPrefix
  unfold preF at hK
  refine cond_d (fun h => ?_) (fun h => ?_)
  · rw [decide_eq_true (show p.size ≤ f.size by omega), Bool.true_and] at hK
    refine ⟨⟨by omega, by omega, by omega⟩, ?_⟩
    have e : f.extract (0 : Int).toNat ((p.size : Nat) : Int).toNat = f.extract 0 p.size := by rw [Int.toNat_natCast]; rfl
    rw [e]
    show G.cond (!((f.extract 0 p.size).toList == p.toList)) _ _
    rw [ba_dec]
    refine cond_not (fun hb => ?_) (fun hb => ?_)
    · rw [hb, if_neg (by decide)] at hK; exact hK
    · rw [hb, if_pos rfl] at hK
      refine ⟨⟨by omega, by omega, by omega⟩, ?_⟩
      rw [Int.toNat_natCast, Int.toNat_natCast]
      exact hK
  · rw [decide_eq_false (show ¬ p.size ≤ f.size by omega), Bool.false_and, if_neg (by decide)] at hK
    exact cond_t rfl hK
def numR (r : List UInt8) : Nat := if r.length = 8 ∧ r.all isD = true then numD r else 0
def numF (name f : ByteArray) : Nat := if preF (name ++ dot) f = true then numR (Utf.bytes (f.extract (name ++ dot).size f.size)) else 0
theorem isD_iff {c : UInt8} : isD c = true ↔ 48 ≤ c.toNat ∧ c.toNat ≤ 57 := by simp [isD]
theorem numR_lt (r : List UInt8) : numR r < 100000000 := by
  unfold numR
  split
  · rename_i h
    have := numD_lt h.2
    rw [h.1] at this
    exact this
  · decide
theorem numF_lt (name f : ByteArray) : numF name f < 100000000 := by
  unfold numF
  split
  · exact numR_lt _
  · decide
theorem number_ok {gl : Nat} {name f : ByteArray} (h1 : w.cell? ⟨gl, 1, none⟩ = some (.string name)) (hs : name.size ≤ 100000) {K : Int → World → Prop} (hK : K ((numF name f : Nat) : Int) w) :
    C.wal_Log_number (some ⟨gl, 0, none⟩) f w K := by
  unfold C.wal_Log_number
  rw [show (⟨#[46]⟩ : ByteArray) = dot from rfl]
  have hd : dot.size = 1 := rfl
  have hq : ((name.size + dot.size : Nat) : Int) ≤ 9223372036854775807 := by rw [hd]; omega
  refine ptr_at <| cS_at (b := name) (by rw [addr_add]; exact h1) ⟨hq, ?_⟩
  refine cutP_ok ?_
  unfold numF at hK
  refine cond_not (fun hb => ?_) (fun hb => ?_)
  · rw [show preF (name ++ dot) f = false from hb, if_neg (by decide)] at hK; exact hK
  · have hb' : preF (name ++ dot) f = true := hb
    rw [hb', if_pos rfl] at hK
    rw [hb', if_pos rfl]
    generalize f.extract (name ++ dot).size f.size = s at *
    unfold numR at hK
    refine cond_ne (fun h8 => ?_) (fun h8 => ?_)
    · rw [if_neg (by rw [← by_size]; omega)] at hK; exact hK
    have h8' : s.size = 8 := by omega
    rw [← by_size, h8'] at hK
    simp only [true_and] at hK
    unfold C.wal_Log_number.S9
    refine C.wal_Log_number.L5_ind fun X hX => ?_
    have key : ∀ (d k : Nat), k + d = 8 → ((Utf.bytes s).take k).all isD = true → X s ((numD ((Utf.bytes s).take k) : Nat) : Int) ((s.size : Nat) : Int) (k : Int) w := by
      intro d
      induction d with
      | zero =>
        intro k hk ho
        refine hX _ _ _ _ _ ?_
        unfold C.wal_Log_number.S7 C.wal_Log_number.S2
        refine cond_d (fun h => by omega) (fun _ => ?_)
        rw [List.take_of_length_le (by rw [← by_size]; omega)] at ho ⊢
        rw [if_pos ho] at hK
        exact hK
      | succ d ih =>
        intro k hk ho
        refine hX _ _ _ _ _ ?_
        unfold C.wal_Log_number.S7
        have hb := bytes_at (s := s) (k := k) (by omega)
        have hmem := List.mem_of_getElem? hb
        have bad : isD ((Utf.bytes s).getD k 0) = false → K 0 w := fun hno => by
          rw [if_neg (fun h => by rw [List.all_eq_true] at h; rw [h _ hmem] at hno; cases hno)] at hK
          exact hK
        refine cond_d (fun _ => ?_) (fun h => by omega)
        refine Utf.ixS_at (k := k) rfl (by omega) (cond_d (fun h => bad ?_) (fun h1 => Utf.ixS_at (k := k) rfl (by omega) (cond_d (fun h => bad ?_) (fun h2 => Utf.ixS_at (k := k) rfl (by omega) ?_))))
        · rw [isD, decide_eq_false (by omega), Bool.false_and]
        · rw [isD, decide_eq_false (p := _ ≤ 57) (by omega), Bool.and_false]
        generalize hc : (Utf.bytes s).getD k 0 = c at *
        have hlt := numD_lt ho
        have hk8 : 10 ^ ((Utf.bytes s).take k).length ≤ 10 ^ 8 := Nat.pow_le_pow_right (by decide) (by rw [List.length_take]; omega)
        have htk : (Utf.bytes s).take (k + 1) = (Utf.bytes s).take k ++ [c] := by rw [List.take_add_one, hb]; rfl
        have hv : IntKind.i64.wrap ((IntKind.i64.wrap (((numD ((Utf.bytes s).take k) : Nat) : Int) * (10 : Int))) + (IntKind.i64.wrap (IntKind.u8.wrap ((c.toNat : Int) - (48 : Int))))) = ((numD ((Utf.bytes s).take (k + 1)) : Nat) : Int) := by
          rw [htk, numD_snoc]
          generalize numD ((Utf.bytes s).take k) = m at *
          generalize 10 ^ ((Utf.bytes s).take k).length = q at *
          have : (10 : Nat) ^ 8 = 100000000 := by decide
          rw [wU8_id (by omega) (by omega), wI64 (x := (c.toNat : Int) - 48) (by omega) (by omega), wI64 (x := (m : Int) * 10) (by omega) (by omega), wI64 (by omega) (by omega)]
          omega
        rw [hv, wI64 (by omega) (by omega), show (k : Int) + 1 = ((k + 1 : Nat) : Int) by omega]
        refine ih (k + 1) (by omega) ?_
        rw [htk, List.all_append, ho]
        have : isD c = true := isD_iff.2 ⟨by omega, by omega⟩
        simp [this]
    exact key 8 0 (by omega) rfl

/-! ## A log -/
def hds (pl : List Pc) : List Value := pl.map fun p => p.2.v
structure LG (ω : Tg) (w : World) (t gl gd : Nat) (name : ByteArray) (room at' : Nat) (sl : Sl) (pl : List Pc) : Prop where
  hd : BT ω w t gl 51 [.pointer (some ⟨gd, 0, none⟩), .string name, .int .i64 (room : Int), .int .i64 (at' : Int), sl.v]
  row : OT ω w (t + 1) 31 1 sl (hds pl)
  rt : ∀ p ∈ pl, RT ω w (t + 2) p.2 1 (vBs p.1)
variable {t gl gd room at' : Nat} {name : ByteArray} {sl : Sl} {pl : List Pc} {M : List Fl}
theorem LG.stp (h : LG ω w t gl gd name room at' sl pl) (k : Stp T ω ω' w w') (hT : Off t T) : LG ω' w' t gl gd name room at' sl pl := ⟨h.hd.stp k hT.1, h.row.stp k hT.2.1, fun p hp => (h.rt p hp).stp k hT.2.2⟩
theorem LG.nam (h : LG ω w t gl gd name room at' sl pl) : w.cell? ⟨gl, 1, none⟩ = some (.string name) := by rw [h.hd.cell]; rfl

/-! ## Segments -/
def nums (ns : List Nat) : List Value := ns.map fun (n : Nat) => Value.int .i64 (n : Int)
theorem tiI : TI Tryd.prog 43 3 1 8 := TI.of (z := .int .i64 0) (by kernel_rfl) (by kernel_rfl) rfl (by decide)
theorem nums_one {l : List Nat} : ∀ v ∈ nums l, v.oneCell' = true := by
  intro v hv
  obtain ⟨b, _, rfl⟩ := List.mem_map.1 hv
  rfl
def segsM (name : ByteArray) (M : List Fl) : List Nat := (M.map fun f => numF name f.name).filter fun n => decide (0 < n)
theorem segs_ok {td : Nat} (h : LG ω w t gl gd name room at' sl pl) (hs : name.size ≤ 100000) (hd : DK ω w td gd M) (hM : WF M) {K : Sl → World → Prop} (hK : ∀ r w', Keep w w' → Mem.Own w' w.heap.size 3 1 r (nums (segsM name M)) → K r w') :
    C.wal_Log_Segments (some ⟨gl, 0, none⟩) w K := by
  unfold C.wal_Log_Segments C.wal_Log_Segments.S9
  have hcnt := hM.cnt
  refine cond_f rfl <| ptr_at <| cP_at (b := some ⟨gd, 0, none⟩) (by rw [h.hd.cell]; rfl) <| list_ok hd hM fun l1 w1 k1 o1 => ?_
  have hl := strs_len (Own.rd o1)
  rw [List.length_map] at hl
  have ho : Rd w1 l1 1 (Wo.strs (M.map (·.name))) := Own.rd o1
  refine C.wal_Log_Segments.L5_ind fun X hX => ?_
  have key : ∀ (d i : Nat) (r : Sl) (ω2 : Tg) (w2 : World), i + d = M.length → Top w1 ω2 w2 → OT ω2 w2 1 3 1 r (nums (segsM name (M.take i))) → X (some ⟨gl, 0, none⟩) r l1 ((l1.n : Nat) : Int) (i : Int) w2 := by
    intro d
    induction d with
    | zero =>
      intro i r ω2 w2 hi top o
      refine hX _ _ _ _ _ _ ?_
      unfold C.wal_Log_Segments.S7 C.wal_Log_Segments.S2
      rw [List.take_of_length_le (by omega)] at o
      exact cond_d (fun hh => by omega) (fun _ => hK r w2 (Keep.trans k1 top.k) (Own.mono (OT.new o top (by decide)) k1.size))
    | succ d ih =>
      intro i r ω2 w2 hi top o
      refine hX _ _ _ _ _ _ ?_
      unfold C.wal_Log_Segments.S7
      obtain ⟨f, hf⟩ : ∃ f, M[i]? = some f := ⟨_, List.getElem?_eq_getElem (by omega)⟩
      have hnx : (M.map (·.name))[i]? = some f.name := by rw [List.getElem?_map, hf]; rfl
      have htk : M.take (i + 1) = M.take i ++ [f] := by rw [List.take_add_one, hf]; rfl
      have hlt := numF_lt name f.name
      have hrl : r.n = (segsM name (M.take i)).length := by have := o.rd.2.1; simp [nums] at this; omega
      have hfl : (segsM name (M.take i)).length ≤ i := by
        unfold segsM
        refine Nat.le_trans (List.length_filter_le _ _) ?_
        rw [List.length_map, List.length_take]; omega
      refine cond_d (fun _ => ?_) (fun hh => by omega)
      refine str_at (ho.keep top.k) hnx fun a a0 => cS_at a0 <| number_ok ((Keep.trans k1 top.k).cell h.nam) hs ?_
      have nx : IntKind.i64.wrap ((i : Int) + 1) = ((i + 1 : Nat) : Int) := by rw [wI64 (by omega) (by omega)]; omega
      rw [nx]
      refine cond_d (fun hp => ?_) (fun hp => ?_)
      · refine push_T (n := 1) tiI o rfl (by intro v hv; simp at hv; subst hv; rfl) (by simp only [maxLen]; omega) (by omega) fun r3 ω3 w3 k3 o3 hr3 => ?_
        refine ih (i + 1) r3 ω3 w3 (by omega) (top.stp k3 rfl) ?_
        have e : nums (segsM name (M.take (i + 1))) = nums (segsM name (M.take i)) ++ [.int .i64 ((numF name f.name : Nat) : Int)] := by
          rw [htk]; unfold segsM nums
          rw [List.map_append, List.filter_append, List.map_append]
          simp [show 0 < numF name f.name by omega]
        rw [e]
        exact o3
      · refine ih (i + 1) r ω2 w2 (by omega) top ?_
        have e : segsM name (M.take (i + 1)) = segsM name (M.take i) := by
          rw [htk]; unfold segsM
          rw [List.map_append, List.filter_append]
          simp [show ¬ 0 < numF name f.name by omega]
        rw [e]
        exact o
  exact key M.length 0 nilS (fun _ => 0) w1 (by omega) (Top.init w1) (OT.nil ..)
end Go.Proofs.YtdaghggdmgbpnaaDoor.Wl
