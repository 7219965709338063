/- Layer 8: ChunkCut. Own work. -/
import Derived.Test.YtpadehbcjkhegaaDoorChunkE5
import Derived.Test.YtpadehbcjkhegaaDoorChunkL
namespace Go.Proofs.YtpadehbcjkhegaaDoor.Chunk
open Go Vm Go.RowKit Num Mem Bits Vint Rep
variable {ω ω' : Tg} {w w' w0 : World} {bs : List UInt8}

/-- Bytes that are no chunk. -/
theorem decode_no (hT : DTab w0) {b : Sl} (hb : RdB w0 b bs) (h : ∀ l, Valid l → bs ≠ enc l) {K : Sl → Int → World → Prop} (hE : ∀ w', Keep w0 w' → K nilS 3 w') : C.chunk_Decode b w0 K :=
  decode_ok hT hb (fun _ => hE) fun l hl e => absurd e (h l hl)
theorem no_cut {l : List Smp} (hl : Valid l) {c : Nat} (hc : c < (enc l).length) : ∀ m, Valid m → (enc l).take c ≠ enc m := by
  intro m hm e
  have : enc l = enc m ++ (enc l).drop c := by rw [← e, List.take_append_drop]
  have h := enc_free hl hm this
  have := congrArg List.length e
  rw [List.length_take, ← h] at this
  omega
theorem no_more {l : List Smp} (hl : Valid l) (x : UInt8) : ∀ m, Valid m → enc l ++ [x] ≠ enc m := by
  intro m hm e
  have h := enc_free hm hl e.symm
  have := congrArg List.length e
  rw [h, List.length_append, List.length_singleton] at this
  omega

theorem cut_S2 (hT : DTab w0) {l : List Smp} (hl : Valid l) {b : Sl} (hk : Keep w0 w) (hb : RdB w b (enc l)) {more : Int} (h0 : 0 ≤ more) (h1 : more ≤ 255) {K : Bool → World → Prop} (hK : ∀ w', Keep w0 w' → K true w') : C.tocsinlaw08_ChunkCut.S2 K more b w := by
  unfold C.tocsinlaw08_ChunkCut.S2
  have hle := enc_small hl
  refine appB (Keep.refl w) (Nat.le_refl _) (OwnB.nil _ _) hb (by simp only [List.length_nil]; omega) fun r w1 k1 o1 => ?_
  rw [List.nil_append] at o1
  have hr := o1.len
  have o1t : OBy _ w1 1 r (enc l) := Own.tag o1 (Nat.le_refl _) (fun _ => 0) 1
  have top1 := (Top.init w).stp (Keep.stp k1 (fun _ => 0) 1)
  refine push_T tiB o1t (n := 1) rfl (by intro v hv; simp at hv; subst hv; rfl) (by simp only [maxLen]; omega) (by omega) fun q w2ω w2 k2 o2 hq => ?_
  have top2 := top1.stp k2
  have e : vBs (enc l) ++ (#[Value.int .u8 more] : Array Value).toList = vBs (enc l ++ [UInt8.ofNat more.toNat]) := by
    simp only [vBs, List.map_append, List.map_cons, List.map_nil]
    congr 1
    simp only [vB]
    rw [ofNat_val (by omega), show ((more.toNat : Nat) : Int) = more by omega]
  rw [e] at o2
  have k02 := Keep.trans hk top2.k
  refine decode_no (hT.keep k02) o2.rd (no_more hl _) fun w3 k3 => ?_
  refine cond_t rfl (cond_t rfl ?_)
  have k03 := Keep.trans k02 k3
  exact awake_ok (hT.keep k03) fun w4 k4 => hK w4 (Keep.trans k03 k4)

theorem cut_law (hT : DTab w0) {s : Sl} {b : Nat} (hs : Cl w0 smpSh s.v b) {cut more : Int} (h0 : 0 ≤ more) (h1 : more ≤ 255) {K : Bool → World → Prop} (hK : ∀ w', Keep w0 w' → K true w') : C.tocsinlaw08_ChunkCut s cut more w0 K := by
  obtain ⟨m, hm, hsn, _, hmax, hmem⟩ := smps_of hs
  unfold C.tocsinlaw08_ChunkCut
  refine encode_ok hT hm (fun x hx => (hmem x hx).2.2) (by simp only [maxLen] at hmax; omega) (fun hf w1 k1 => ?_) (fun hf hv a w1 k1 o1 => ?_)
  · exact cond_t (by simp; exact hf) (awake_ok (hT.keep k1) fun w2 k2 => hK w2 (Keep.trans k1 k2))
  have han := o1.len
  have hel := enc_len m
  have hsm := enc_small hv
  refine cond_f rfl (cond_eq (fun h => by omega) (fun _ => ⟨by omega, ?_⟩))
  have t1 : -(a.n : Int) < Int.tmod cut (a.n : Int) := Int.lt_tmod_of_pos _ (by omega)
  have t2 : Int.tmod cut (a.n : Int) < a.n := Int.tmod_lt_of_pos _ (by omega)
  have fin : ∀ c : Int, 0 ≤ c → c < a.n → C.tocsinlaw08_ChunkCut.S3 K c more a w1 := by
    intro c hc0 hc1
    unfold C.tocsinlaw08_ChunkCut.S3
    refine cond_t (decide_eq_true hc1) ?_
    refine RdB.slc o1.rd (lo := 0) (hi := c.toNat) (by omega) (by omega) rfl (by omega) fun r hr => ?_
    rw [Nat.sub_zero, List.drop_zero] at hr
    refine decode_no (hT.keep k1) hr (no_cut hv (by omega)) fun w2 k2 => ?_
    refine cond_f rfl (cond_f rfl ?_)
    exact cut_S2 hT hv (Keep.trans k1 k2) (o1.rd.keep k2) h0 h1 hK
  refine cond_d (fun h => ?_) (fun h => fin _ (by omega) t2)
  rw [wI64 (by omega) (by omega)]
  exact fin _ (by omega) (by omega)
end Go.Proofs.YtpadehbcjkhegaaDoor.Chunk
