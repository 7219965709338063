/- (of elder texts) Layer 3: the own disk's answers by functions, and arguments, for the layers above. Own work. -/
import Derived.Test.YtdaghggdmgbpnaaDoorDkF
import Derived.Test.YtdaghggdmgbpnaaDoorWords
import Derived.Test.YtdaghggdmgbpnaaDoorRepR
import Derived.Lib.SlBytesConst
namespace Go.Proofs.YtdaghggdmgbpnaaDoor.Dk
open Go Vm Go.RowKit Num Mem Wo Rep
variable {ω ω' : Tg} {w w' w0 : World} {t gd gr : Nat} {T : Nat → Bool} {M : List Fl}
abbrev Pc := List UInt8 × Sl
instance : Inhabited Sl := ⟨nilS⟩
instance : Inhabited Pc := ⟨([], nilS)⟩
theorem flat_vB : ∀ m : List UInt8, m.flatMap (fun c => [vB c]) = vBs m
  | [] => rfl
  | c :: m => by rw [List.flatMap_cons, flat_vB m]; rfl
theorem bytes_of {s : Sl} {b : Nat} (h : Cl w (.sl [.int .u8]) s.v b) : ∃ l : List UInt8, RdB w s l ∧ s.n = l.length ∧ s.n < b := by
  obtain ⟨m, h1, h2, h3, _⟩ := rows_of (α := UInt8) (enc := fun c => [vB c]) (Q := fun _ => True) (fun _ => rfl) (by decide) h fun V hV => by
    obtain ⟨n, e, a1, a2⟩ := (hV 0 _ rfl).int_inv
    have b1 : 0 ≤ n := by simpa [IntKind.min, IntKind.signed, IntKind.bits] using a1
    have b2 : n ≤ 255 := by simpa [IntKind.max, IntKind.signed, IntKind.bits] using a2
    refine ⟨UInt8.ofNat n.toNat, fun j hj => ?_, trivial⟩
    match j, hj with
    | 0, _ =>
      rw [e]
      show some (vB _) = _
      unfold vB
      rw [UInt8.toNat_ofNat', Nat.mod_eq_of_lt (by omega), Int.toNat_of_nonneg b1]
  exact ⟨m, by rw [flat_vB] at h1; exact h1, h2, h3⟩
theorem kps_of {s : Sl} {b : Nat} (h : Cl w (.sl [.str, .int .i64]) s.v b) : ∃ ks : List Kp, Rd w s 2 (kps ks) ∧ s.n = ks.length ∧ s.n < b := by
  obtain ⟨m, h1, h2, h3, _⟩ := rows_of (α := Kp) (enc := kpC) (Q := fun _ => True) (fun _ => rfl) (by decide) h fun V hV => by
    obtain ⟨s0, e0, _⟩ := (hV 0 _ rfl).str_inv
    obtain ⟨n, e1, _⟩ := (hV 1 _ rfl).int_inv
    refine ⟨(s0, n), fun j hj => ?_, trivial⟩
    match j, hj with
    | 0, _ => rw [e0]; rfl
    | 1, _ => rw [e1]; rfl
  exact ⟨m, h1, h2, h3⟩
theorem sl_of {v : Value} {es : List Sh} {b : Nat} (h : Cl w (.sl es) v b) : ∃ s : Sl, v = s.v ∧ Cl w (.sl es) s.v b := by
  obtain ⟨s, rfl⟩ := h.sl_ex
  exact ⟨s, rfl, h⟩
theorem rd_own {B : Nat} {s : Sl} {l : List UInt8} (h : OwnB w B s l) : RdB w s l := Own.rd h
def pcC (x : Pc) : List Value := [x.2.v]
def pcs (l : List Pc) : List Value := l.flatMap pcC
theorem pcs_of {s : Sl} {b : Nat} (h : Cl w (.sl [.sl [.int .u8]]) s.v b) : ∃ l : List Pc, Rd w s 1 (pcs l) ∧ s.n = l.length ∧ s.n < b ∧ ∀ x ∈ l, RdB w x.2 x.1 ∧ x.1.length < b := by
  obtain ⟨m, h1, h2, h3, _, h5⟩ := rows_of (α := Pc) (enc := pcC) (Q := fun x => RdB w x.2 x.1 ∧ x.1.length < b) (fun _ => rfl) (by decide) h fun V hV => by
    obtain ⟨s0, e0, h0⟩ := sl_of (hV 0 _ rfl)
    obtain ⟨l, r, n, m⟩ := bytes_of h0
    exact ⟨(l, s0), fun j hj => by match j, hj with | 0, _ => rw [e0]; rfl, r, show l.length < b by omega⟩
  exact ⟨m, h1, h2, h3, h5⟩
theorem rdP_len {s : Sl} {l : List Pc} (h : Rd w s 1 (pcs l)) : s.n = l.length := by have := h.2.1; rw [pcs, Rep.flat_len (enc := pcC) (k := 1) (fun _ => rfl)] at this; omega
theorem rdP_at {s : Sl} {l : List Pc} (h : Rd w s 1 (pcs l)) {k : Nat} {x : Pc} (hx : l[k]? = some x) {K : Addr → Prop} (hK : ∀ a : Addr, w.cell? a = some x.2.v → K a) : G.ix s.a s.n (k : Int) 1 K := by
  have hk : k < l.length := (List.getElem?_eq_some_iff.1 hx).1
  have hn := rdP_len h
  refine Rd.ix h (by decide) (by omega) (by omega) fun a hc => ?_
  have c0 := hc 0 x.2.v (by decide) (by rw [Int.toNat_natCast, pcs, Rep.flat_at (enc := pcC) (k := 1) (fun _ => rfl) _ _ _ (by decide), hx]; rfl)
  rw [add_zero'] at c0
  exact hK a c0
/-- []byte of a text that is written out. -/
theorem litB {n : Nat} {cs : Array Value} {l : List UInt8} (hc : cs.toList = vBs l) (hn : l.length = n) {K : Sl → World → Prop} (hK : ∀ r w', Keep w w' → RdB w' r l → K r w') :
    G.new (.cells cs 5) w fun p w1 => G.runSl C.pr (Go.convert 31 31 (Sl.v (⟨some p, n, n⟩ : Sl))) w1 K := by
  refine ⟨⟨some ⟨w.heap.size, 0, none⟩, n, n⟩, _, Lib.run_convert_bytes_const (P := Tryd.prog) w 31 5 cs n n (by kernel_rfl) (by kernel_rfl), hK _ _ (Keep.alloc w _) ⟨Nat.le_refl _, by rw [vBs_length, hn]; exact (Nat.mul_one n).symm, fun _ => ⟨_, 0, rfl, fun j v hv => ?_⟩⟩⟩
  rw [Nat.zero_add]
  rw [← hc] at hv
  have hh : (w.alloc (.cells cs 5 (cs.size, cs.size + 1))).heap[w.heap.size]? = some (.cells cs 5 (cs.size, cs.size + 1)) := World.alloc_heap_new _ _
  simp only [World.cell?, hh]
  simpa using hv
def rdM (s : ByteArray) (M : List Fl) : List UInt8 × Int := if namF s = false then ([], 40) else match findM s M with | none => ([], 5) | some f => (f.bytes, 0)
def szM (s : ByteArray) (M : List Fl) : Int × Int × Int := if namF s = false then (0, 0, 40) else match findM s M with | none => (0, 0, 5) | some f => ((f.bytes.length : Int), (f.synced : Int), 0)
theorem read2_ok (h : DK ω w t gd M) (hM : WF M) {s : ByteArray} (hs : s.size ≤ 9223372036854775807) {K : Sl → Int → World → Prop} (hK : ∀ r w', Keep w w' → OwnB w' w.heap.size r (rdM s M).1 → K r (rdM s M).2 w') : C.disk_Disk_Read (some ⟨gd, 0, none⟩) s w K := by
  refine read_ok h hM hs (fun h1 w' k => ?_) (fun h1 h2 w' k => ?_) (fun f h1 h2 r w' k o => ?_)
  · have e : rdM s M = ([], 40) := by unfold rdM; rw [if_pos h1]
    have := hK nilS w' k (by rw [e]; exact OwnB.nil w' _); rwa [e] at this
  · have e : rdM s M = ([], 5) := by unfold rdM; rw [if_neg (by simp [h1]), h2]
    have := hK nilS w' k (by rw [e]; exact OwnB.nil w' _); rwa [e] at this
  · have e : rdM s M = (f.bytes, 0) := by unfold rdM; rw [if_neg (by simp [h1]), h2]
    have := hK r w' k (by rw [e]; exact o); rwa [e] at this
theorem size2_ok (h : DK ω w t gd M) (hM : WF M) {s : ByteArray} (hs : s.size ≤ 9223372036854775807) {K : Int → Int → Int → World → Prop} (hK : ∀ w', Keep w w' → K (szM s M).1 (szM s M).2.1 (szM s M).2.2 w') : C.disk_Disk_Size (some ⟨gd, 0, none⟩) s w K := by
  unfold szM at hK
  refine size_ok h hM hs (fun h1 w' k => ?_) (fun h1 h2 w' k => ?_) (fun f h1 h2 w' k => ?_)
  · have := hK w' k; rwa [if_pos h1] at this
  · have := hK w' k; rwa [if_neg (by simp [h1]), h2] at this
  · have := hK w' k; rwa [if_neg (by simp [h1]), h2] at this
theorem rdM_len (hM : WF M) (s : ByteArray) : (rdM s M).1.length ≤ 1048576 := by
  unfold rdM
  split
  · simp
  · split
    · simp
    · rename_i f hf; exact hM.len _ (found hf).1
theorem nam_size {f : Fl} (hM : WF M) (hf : f ∈ M) : f.name.size ≤ 9223372036854775807 := by
  have h := hM.nam f hf
  unfold namF at h
  simp only [Bool.and_eq_true, decide_eq_true_eq] at h
  omega
theorem rdM_in (hM : WF M) {f : Fl} (hf : f ∈ M) : rdM f.name M = (f.bytes, 0) ∧ szM f.name M = ((f.bytes.length : Int), (f.synced : Int), 0) := by
  have h1 := hM.nam f hf
  have h2 : findM f.name M = some f := (findM_some hM.nodup).2 ⟨hf, rfl⟩
  constructor
  · unfold rdM; rw [if_neg (by simp [h1]), h2]
  · unfold szM; rw [if_neg (by simp [h1]), h2]
theorem crM_names (ks : List Kp) (M : List Fl) : (crM ks M).2.map (·.name) = M.map (·.name) := by
  unfold crM
  split
  · rfl
  · exact crF_names ks M
theorem findM_one (s : ByteArray) (b : List UInt8) : findM s [⟨s, b, 0⟩] = some ⟨s, b, 0⟩ := by simp [findM]
end Go.Proofs.YtdaghggdmgbpnaaDoor.Dk
