/- Layer 8: Append, Bytes, Encode; what is awake. Own work. -/
import Derived.Test.YtpadehbcjkhegaaDoorChunkA
namespace Go.Proofs.YtpadehbcjkhegaaDoor.Chunk
open Go Vm Go.RowKit Num Mem Bits Vint
variable {ω ω' : Tg} {w w' w0 : World} {t gc : Nat} {l : List Smp}

theorem Valid.fine (h : Valid l) : Fine l := h.mem
/-- A chunk that holds l: tags t to t + 5. -/
structure CkT (ω : Tg) (w : World) (t gc : Nat) (l : List Smp) : Prop where
  ex : ∃ gw sl, CkS ω w t gc gw sl l (run l).1 (run l).2
  ok : Valid l
theorem rng_at {T : Nat → Bool} {t : Nat} (h : ∀ u, t ≤ u → u < t + 6 → T u = false) : T t = false ∧ T (t + 1) = false ∧ T (t + 2) = false := ⟨h t (by omega) (by omega), h _ (by omega) (by omega), h _ (by omega) (by omega)⟩
theorem CkT.stp {T : Nat → Bool} (h : CkT ω w t gc l) (k : Stp T ω ω' w w') (n0 : T t = false := by rfl) (n1 : T (t + 1) = false := by rfl) (n2 : T (t + 2) = false := by rfl) : CkT ω' w' t gc l := by
  obtain ⟨gw, sl, hs⟩ := h.ex
  exact ⟨⟨gw, sl, hs.stp k n0 n1 n2⟩, h.ok⟩

theorem new_ok' (t : Nat) {K : Option Addr → World → Prop} (hK : ∀ gc ω' w', Stp (Rng t 6) ω ω' w w' → CkT ω' w' t gc [] → K (wp gc) w') : C.chunk_New w K := by
  unfold C.chunk_New
  refine new_T' (ω := ω) (t + 2) fun gw ω1 w1 k1 h1 => ?_
  refine new_T (ω := ω1) t fun gc ω2 w2 k2 b2 => ?_
  exact hK gc ω2 w2 ((k1.trans k2).non _) ⟨⟨gw, nilS, b2, OT.nil _ _ _ _ _, h1.stp k2⟩, .nil⟩

theorem append_ok (h : CkT ω w t gc l) (ht : 0 < t) (hT : DT ω w) {s : Smp} (hv : s.2 < 18446744073709551616) {K : Int → World → Prop}
    (hE : wrong l s.1 ≠ 0 → K (wrong l s.1) w) (hK : wrong l s.1 = 0 → ∀ ω' w', Stp (Rng t 6) ω ω' w w' → CkT ω' w' t gc (l ++ [s]) → K 0 w') : C.chunk_Chunk_Append (wp gc) s.1 s.2 w K := by
  obtain ⟨gw, sl, hs⟩ := h.ex
  have hn := hs.own.len
  have hlen := h.ok.len
  unfold C.chunk_Chunk_Append
  have bad : ∀ e : Int, wrong l s.1 = e → e ≠ 0 → K e w := fun e he hne => by subst he; exact hE hne
  refine cond_f rfl ?_
  refine cond_d (fun h1 => bad 1 (by unfold wrong; rw [if_pos (.inl h1)]) (by decide)) (fun h1 => ?_)
  refine cond_d (fun h2 => bad 1 (by unfold wrong; rw [if_pos (.inr h2)]) (by decide)) (fun h2 => ?_)
  have hne : ¬ (s.1 < 0 ∨ s.1 > 1125899906842624) := by omega
  refine hs.rdL ?_
  rw [hn]
  have fin : late l s.1 = false → G.cond (decide ((l.length : Int) ≥ (120 : Int))) (K (8 : Int) w) (C.chunk_Chunk_put (wp gc) s.1 s.2 w fun w14 => K (0 : Int) w14) := fun hq => by
    refine cond_d (fun h3 => bad 8 (by unfold wrong; rw [if_neg hne, hq, if_neg (by decide), if_pos (by omega)]) (by decide)) (fun h3 => ?_)
    have hw : wrong l s.1 = 0 := by unfold wrong; rw [if_neg hne, hq, if_neg (by decide), if_neg (by omega)]
    have hrl := run_len h.ok
    refine put_ok hs ht hT (run_ok h.ok) h.ok.fine (by omega) (by omega) (by omega) hv (by omega) fun ω1 w1 sl1 s1 h1 => hK hw ω1 w1 s1 ⟨⟨gw, sl1, ?_⟩, .snoc h.ok hw hv⟩
    rw [run_snoc]
    exact h1
  refine cond_d (fun h3 => ?_) (fun h3 => fin ?_)
  · obtain ⟨a, ha⟩ : ∃ a, l[l.length - 1]? = some a := ⟨_, List.getElem?_eq_getElem (by omega)⟩
    have hlast : l.getLast? = some a := by rw [List.getLast?_eq_getElem?]; exact ha
    refine hs.rdL (hs.own.at_ (k := l.length - 1) (by rw [wI64 (by omega) (by omega)]; omega) ha fun p _ _ hc _ => cI_at hc ?_)
    refine cond_d (fun h4 => bad 90 ?_ (by decide)) (fun h4 => fin ?_)
    · unfold wrong late
      rw [if_neg hne, hlast, if_pos (by simp only [decide_eq_true_eq]; exact h4)]
    · unfold late
      rw [hlast]
      simp only [decide_eq_false_iff_not]; exact h4
  · have : l = [] := List.eq_nil_of_length_eq_zero (by omega)
    subst this; rfl

theorem len_ok (h : CkT ω w t gc l) {K : Int → World → Prop} (hK : K (l.length : Int) w) : C.chunk_Chunk_Len (wp gc) w K := by
  obtain ⟨gw, sl, hs⟩ := h.ex
  unfold C.chunk_Chunk_Len
  refine cond_f rfl (hs.rdL ?_)
  rw [hs.own.len]; exact hK

/-- Bytes that are written out. -/
theorem newOwn {cs : Array Value} {m : List UInt8} {n : Nat} (hc : cs.toList = vBs m) (hn : m.length = n) (hm : n ≤ 1000) : OwnB (w.alloc (.cells cs 5)) w.heap.size ⟨some ⟨w.heap.size, 0, none⟩, n, n⟩ m := by
  have hs : (vBs m).length = n * 1 := by rw [vBs_length, hn, Nat.mul_one]
  have hb := Blk.new w 5 cs
  rw [hc] at hb
  exact Own.mk' (Nat.le_refl _) hb (Nat.le_refl _) (by simp only [maxLen]; omega) hs (List.take_of_length_le (by omega))

theorem bytesC_ok (h : CkT ω w t gc l) {K : Sl → World → Prop} (hK : ∀ r w', Keep w w' → OwnB w' w.heap.size r (enc l) → K r w') : C.chunk_Chunk_Bytes (wp gc) w K := by
  obtain ⟨gw, sl, hs⟩ := h.ex
  have hlen := h.ok.len
  have hrl := run_len h.ok
  have hpl := pk_len (run l).1
  unfold C.chunk_Chunk_Bytes
  refine cond_f rfl ?_
  have hd := hs.drew
  refine hd.rdL ⟨by decide, hd.rdL (hd.rdW ?_)⟩
  rw [hs.own.len]
  have ecs : (#[(.int .u8 (IntKind.u8.wrap (shr .i64 ((l.length : Nat) : Int) (8 : Int)))), (.int .u8 (IntKind.u8.wrap ((l.length : Nat) : Int)))] : Array Value).toList = vBs [UInt8.ofNat (l.length / 256), UInt8.ofNat (l.length % 256)] := by
    have e := shr_nat .i64 ((l.length : Nat) : Int) 8 (by decide)
    have e2 : shr .i64 ((l.length : Nat) : Int) (8 : Int) = ((l.length / 256 : Nat) : Int) := by rw [show (8 : Int) = ((8 : Nat) : Int) from rfl, e]; simp
    rw [e2, wU8_id (by omega) (by omega), wU8_id (by omega) (by omega), vB_lit (by omega), vB_lit (by omega), Nat.mod_eq_of_lt (by omega)]
    rfl
  have kd := Keep.drew w
  refine ⟨?_, ?_⟩
  · refine new_at ?_
    have kA := Keep.alloc w.drew (.cells #[(.int .u8 (IntKind.u8.wrap (shr .i64 ((l.length : Nat) : Int) (8 : Int)))), (.int .u8 (IntKind.u8.wrap ((l.length : Nat) : Int)))] 5)
    have oA := newOwn (w := w.drew) (n := 2) ecs rfl (by decide)
    generalize w.drew.alloc (.cells #[(.int .u8 (IntKind.u8.wrap (shr .i64 ((l.length : Nat) : Int) (8 : Int)))), (.int .u8 (IntKind.u8.wrap ((l.length : Nat) : Int)))] 5) = w1 at *
    refine ⟨same_keep kA (by rw [add_block]; exact hd.blk.blk.lt), ?_⟩
    have h1 := hd.non (kA.stp0 ω)
    refine bytes_T h1.wr (by omega) fun r w2 k2 o2 => ?_
    refine appB (Keep.trans kd (Keep.trans kA k2)) (Keep.trans kd (Keep.trans kA k2)).size (oA.keep k2) o2.rd (by simp only [List.length_cons, List.length_nil]; omega) fun q w3 k3 o3 => hK q w3 k3 o3
  · refine bytes_T hd.wr (by omega) fun r w1 k1 o1 => ?_
    refine ⟨same_keep k1 hd.blk.blk.lt, same_keep k1 hd.blk.blk.lt, ?_⟩
    refine new_at ?_
    have kA := Keep.alloc w1 (.cells #[(.int .u8 (IntKind.u8.wrap (shr .i64 ((l.length : Nat) : Int) (8 : Int)))), (.int .u8 (IntKind.u8.wrap ((l.length : Nat) : Int)))] 5)
    have oA := newOwn (w := w1) (n := 2) ecs rfl (by decide)
    generalize w1.alloc (.cells #[(.int .u8 (IntKind.u8.wrap (shr .i64 ((l.length : Nat) : Int) (8 : Int)))), (.int .u8 (IntKind.u8.wrap ((l.length : Nat) : Int)))] 5) = w2 at *
    have k02 := Keep.trans kd (Keep.trans k1 kA)
    refine appB k02 k02.size (Own.mono oA (Keep.trans kd k1).size) (o1.rd.keep kA) (by simp only [List.length_cons, List.length_nil]; omega) fun q w3 k3 o3 => hK q w3 k3 o3

/-! ## Encode -/
/-- The first sample that is wrong: what is, and its place. -/
def firstW : List Smp → List Smp → Nat → Int × Nat
  | _, [], _ => (0, 0)
  | pre, s :: r, i => if wrong pre s.1 = 0 then firstW (pre ++ [s]) r (i + 1) else (wrong pre s.1, i)
theorem firstW_valid : ∀ (r pre : List Smp) (i : Nat), Valid pre → (∀ s ∈ r, s.2 < 18446744073709551616) → (firstW pre r i).1 = 0 → Valid (pre ++ r)
  | [], pre, i, hp, _, _ => by simpa using hp
  | s :: r, pre, i, hp, hr, h => by
    simp only [firstW] at h
    split at h
    · rename_i hw
      have := firstW_valid r (pre ++ [s]) (i + 1) (.snoc hp hw (hr s (List.mem_cons_self ..))) (fun x hx => hr x (List.mem_cons_of_mem _ hx)) h
      simpa using this
    · rename_i hw; exact absurd h hw
/-- A law's first world, and the library's table there. -/
theorem DT.init {w : World} (h : DTab w) : DT (fun _ => 0) w := ⟨h, rfl⟩

theorem encode_ok (hT : DTab w0) {s : Sl} {m : List Smp} (hs : Rd w0 s 2 (smps m)) (hm : ∀ x ∈ m, x.2 < 18446744073709551616) (hl : m.length ≤ 9223372036854775807) {K : Sl → Int → Int → World → Prop}
    (hE : (firstW [] m 0).1 ≠ 0 → ∀ w', Keep w0 w' → K nilS (firstW [] m 0).1 ((firstW [] m 0).2 : Int) w')
    (hK : (firstW [] m 0).1 = 0 → Valid m → ∀ r w', Keep w0 w' → OwnB w' w0.heap.size r (enc m) → K r 0 0 w') : C.chunk_Encode s w0 K := by
  have hsn : s.n = m.length := by have := hs.2.1; rw [smps_len] at this; omega
  unfold C.chunk_Encode
  refine new_ok' (ω := fun _ => 0) 1 fun gc ω1 w1 s1 h1 => ?_
  have top1 := (Top.init w0).stp s1
  have dt1 := (DT.init hT).stp s1
  unfold C.chunk_Encode.S9
  refine C.chunk_Encode.L5_ind fun X hX => ?_
  have key : ∀ (d i : Nat) (ω : Tg) (w : World), i + d = m.length → firstW (m.take i) (m.drop i) i = firstW [] m 0 → Top w0 ω w → DT ω w → CkT ω w 1 gc (m.take i) → X (wp gc) s ((s.n : Nat) : Int) (i : Int) w := by
    intro d
    induction d with
    | zero =>
      intro i ω w hi hf top dt h
      refine hX _ _ _ _ _ ?_
      unfold C.chunk_Encode.S7 C.chunk_Encode.S2
      refine cond_d (fun h => by omega) (fun _ => ?_)
      rw [show i = m.length by omega, List.take_length] at h
      rw [show i = m.length by omega, List.drop_length] at hf
      refine bytesC_ok h fun r w' k o => hK (by rw [← hf]; rfl) h.ok r w' (Keep.trans top.k k) (Own.mono o top.k.size)
    | succ d ih =>
      intro i ω w hi hf top dt h
      have him : i < m.length := by omega
      refine hX _ _ _ _ _ ?_
      unfold C.chunk_Encode.S7
      refine cond_d (fun _ => ?_) (fun h => by omega)
      have hx : m[i]? = some m[i] := List.getElem?_eq_getElem him
      refine rdS_at (hs.keep top.k) (k := i) rfl hx fun a hc0 hc1 => cI_at hc0 <| cF_at hc1 ?_
      refine new_T (ω := ω) 7 fun g ω2 w2 k2 b2 => ?_
      refine st_T b2 (by simp) fun ω3 w3 k3 b3 => ?_
      refine st_TA b3 (by simp) fun ω4 w4 k4 b4 => ?_
      refine cI_at (n := m[i].1) (by rw [b4.cell]; rfl) <| cF_at (b := m[i].2) (by rw [addr_add, b4.cell]; rfl) ?_
      have s4 := (k2.non (One 7)).trans (k3.trans k4)
      have dr : m.drop i = m[i] :: m.drop (i + 1) := List.drop_eq_getElem_cons him
      have tk : m.take (i + 1) = m.take i ++ [m[i]] := by rw [List.take_add_one, hx]; rfl
      refine append_ok (h.stp s4) (by decide) (dt.stp s4) (hm _ (List.getElem_mem him)) (fun hw => ?_) (fun hw ω5 w5 s5 h5 => ?_)
      · refine cond_t (by simp; exact hw) ?_
        have ef : firstW [] m 0 = (wrong (m.take i) m[i].1, i) := by rw [← hf, dr, firstW, if_neg hw]
        have := hE (by rw [ef]; exact hw) w4 (top.stp s4).k
        rwa [ef] at this
      · refine cond_f rfl ?_
        rw [wI64 (by omega) (by omega), show (i : Int) + 1 = ((i + 1 : Nat) : Int) by omega]
        refine ih (i + 1) ω5 w5 (by omega) ?_ ((top.stp s4).stp s5) ((dt.stp s4).stp s5) (by rw [tk]; exact h5)
        rw [tk, ← hf]
        conv => rhs; rw [dr, firstW, if_pos hw]
  exact key m.length 0 ω1 w1 (by omega) rfl top1 dt1 h1

/-! ## What is awake -/
theorem str_toList (l : List UInt8) : (str l).toList = l := by rw [ByteArray.toList_eq]
theorem awake_ok (hT : DTab w0) {K : Bool → World → Prop} (hK : ∀ w', Keep w0 w' → K true w') : C.tocsinlaw08_awake w0 K := by
  unfold C.tocsinlaw08_awake
  refine new_ok' (ω := fun _ => 0) 1 fun gc ω1 w1 s1 h1 => cond_f rfl ?_
  have top1 := (Top.init w0).stp s1
  have dt1 := (DT.init hT).stp s1
  refine append_ok (s := (1000, 4607182418800017408)) h1 (by decide) dt1 (by decide) (fun hw => absurd (by decide) hw) (fun _ ω2 w2 s2 h2 => cond_f rfl ?_)
  have top2 := top1.stp s2
  refine append_ok (s := (1000, 4611686018427387904)) h2 (by decide) (dt1.stp s2) (by decide) (fun hw => ?_) (fun hw => absurd hw (by decide))
  refine cond_f (by decide) ?_
  refine bytesC_ok h2 fun r w3 k3 o3 => ?_
  refine convBS o3.rd ?_
  have e : enc ([] ++ [((1000 : Int), (4607182418800017408 : Nat))]) = [0, 1, 208, 15, 63, 240, 0, 0, 0, 0, 0, 0] := by
    have : putU (zz 1000) = [208, 15] := by rw [show zz 1000 = 2000 from rfl, putU_ge (by decide), putU_lt (by decide)]; rfl
    unfold enc
    rw [run_snoc]
    show _ :: _ :: pk ((run []).1 ++ (byteBits (putU (zz 1000)) ++ low 4607182418800017408 64)) = _
    rw [this]
    decide +kernel
  rw [e, str_toList]
  refine cond_t (by decide +kernel) ?_
  refine len_ok (h2.stp (k3.stp0 ω2)) ?_
  exact hK w3 (Keep.trans top2.k k3)
end Go.Proofs.YtpadehbcjkhegaaDoor.Chunk
