/- Layer 1: texts. Own work. -/
import Derived.Test.YtpgpdeojggcibaaDoorVintFl
import Derived.Test.YtpgpdeojggcibaaDoorUtfR
import Derived.Test.YtpgpdeojggcibaaDoorConv
namespace Go.Proofs.YtpgpdeojggcibaaDoor.Vint
open Go Vm Go.RowKit Num Mem Crc Utf
open Go.Lib (validD size_eq)

theorem putText_ok {w : World} {b : Sl} {l : List UInt8} {s : ByteArray} (hb : RdB w b l) (hl : l.length + s.size ≤ 140737488000000) {K : Sl → World → Prop}
    (hK : ∀ r w', Keep w w' → OwnB w' w.heap.size r (l ++ (putU s.size ++ Utf.bytes s)) → K r w') : C.vint_PutText b s w K := by
  have hz : (Utf.bytes s).length = s.size := (size_eq s).symm
  have hp := putU_len64 (n := s.size) (by omega)
  unfold C.vint_PutText
  rw [wU64_id (by omega) (by omega)]
  refine putU_ok (by omega) hb (by omega) fun r w1 k1 o1 => ?_
  refine convSB fun t w2 k2 o2 => ?_
  refine joined_ok (Own.keep o1 k2).rd o2 (by simp only [List.length_append]; omega) fun r3 w3 k3 o3 => ?_
  have k12 := Keep.trans k1 k2
  exact hK r3 w3 (Keep.trans k12 k3) (by have := o3.mono k12.size; simpa using this)
theorem rputText_ok {w : World} {b : Sl} {l : List UInt8} {s : ByteArray} (hb : RdB w b l) (hl : l.length + s.size ≤ 140737488000000) {K : Sl → World → Prop}
    (hK : ∀ r w', Keep w w' → OwnB w' w.heap.size r (l ++ (putU s.size ++ Utf.bytes s)) → K r w') : C.tocsinref01_PutText b s w K := by
  have hz : (Utf.bytes s).length = s.size := (size_eq s).symm
  have hp := putU_len64 (n := s.size) (by omega)
  unfold C.tocsinref01_PutText
  rw [wU64_id (by omega) (by omega)]
  refine rputU_ok (by omega) hb (by omega) fun r w1 k1 o1 => ?_
  refine convSB fun t w2 k2 o2 => ?_
  refine rjoined_ok (Own.keep o1 k2).rd o2 (by simp only [List.length_append]; omega) fun r3 w3 k3 o3 => ?_
  have k12 := Keep.trans k1 k2
  exact hK r3 w3 (Keep.trans k12 k3) (by have := o3.mono k12.size; simpa using this)

/-- The text at a place. -/
def tx (l : List UInt8) (p most : Int) : List UInt8 × Nat × Nat :=
  if p < 0 ∨ p > l.length ∨ most < 0 then ([], 0, 1) else
  let u := uv l p
  if u.2.2 ≠ 0 then ([], 0, u.2.2) else if (u.1 : Int) > most then ([], 0, 4) else if u.1 > l.length - u.2.1 then ([], 0, 9) else
  let d := (l.drop u.2.1).take u.1
  if validD d then (d, u.2.1 + u.1, 0) else ([], 0, 12)

theorem text_ok {w : World} {b : Sl} {l : List UInt8} (ht : UTab w) (hb : RdB w b l) (hl : l.length ≤ 140737488300000) {p most : Int} (hm : most < 9223372036854775808) {K : ByteArray → Int → Int → World → Prop}
    (hK : ∀ w', Keep w w' → K (str (tx l p most).1) ((tx l p most).2.1 : Int) ((tx l p most).2.2 : Int) w') : C.vint_Text b p most w K := by
  have hn := hb.len
  unfold C.vint_Text
  unfold tx at hK
  refine cond_d (fun h => ?_) (fun h1 => cond_d (fun h => ?_) (fun h2 => cond_d (fun h => ?_) (fun h3 => ?_)))
  · rw [if_pos (by omega)] at hK; exact hK w (Keep.refl w)
  · rw [if_pos (by omega)] at hK; exact hK w (Keep.refl w)
  · rw [if_pos (by omega)] at hK; exact hK w (Keep.refl w)
  rw [if_neg (by omega)] at hK
  simp only at hK
  refine u_ok hb (by omega) p ?_
  refine cond_ne (fun h => ?_) (fun h => ?_)
  · rw [if_pos (fun e => h (by rw [e]; rfl))] at hK
    exact hK w (Keep.refl w)
  have hu : (uv l p).2.2 = 0 := by exact_mod_cast h
  rw [if_neg (fun e => e hu)] at hK
  have he := uv_end hu
  have hlt := uv_lt l p
  rw [wU64_id (x := most) (by omega) (by omega)]
  refine cond_d (fun h4 => ?_) (fun h4 => ?_)
  · rw [if_pos (by omega)] at hK; exact hK w (Keep.refl w)
  rw [if_neg (by omega)] at hK
  rw [wI64 (x := ((b.n : Nat) : Int) - _) (by omega) (by omega), wU64_id (by omega) (by omega)]
  refine cond_d (fun h5 => ?_) (fun h5 => ?_)
  · rw [if_pos (by omega)] at hK; exact hK w (Keep.refl w)
  rw [if_neg (by omega)] at hK
  generalize hf : (uv l p).2.1 = f at *
  generalize hv : (uv l p).1 = v at *
  rw [wI64 (x := (v : Int)) (by omega) (by omega), wI64 (x := (f : Int) + (v : Int)) (by omega) (by omega)]
  refine RdB.slc hb (lo := f) (hi := f + v) (by omega) (by omega) rfl (by omega) fun s hs => ?_
  rw [show f + v - f = v by omega] at hs
  refine convBS hs ?_
  refine valid_ok ht (by rw [str_size]; simp only [List.length_take]; omega) fun w' k => ?_
  rw [bytes_str]
  refine cond_not (fun h6 => ?_) (fun h6 => ?_)
  · rw [h6, if_neg (by simp)] at hK; exact hK w' k
  · rw [h6, if_pos rfl] at hK
    have := hK w' k
    simpa using this

theorem rtext_ok {w : World} {b : Sl} {l : List UInt8} (hb : RdB w b l) (hl : l.length ≤ 140737488300000) {p most : Int} (hm : most < 9223372036854775808) {K : ByteArray → Int → Int → World → Prop}
    (hK : K (str (tx l p most).1) ((tx l p most).2.1 : Int) ((tx l p most).2.2 : Int) w) : C.tocsinref01_Text b p most w K := by
  have hn := hb.len
  unfold C.tocsinref01_Text
  unfold tx at hK
  refine cond_d (fun h => ?_) (fun h1 => cond_d (fun h => ?_) (fun h2 => cond_d (fun h => ?_) (fun h3 => ?_)))
  · rw [if_pos (by omega)] at hK; exact hK
  · rw [if_pos (by omega)] at hK; exact hK
  · rw [if_pos (by omega)] at hK; exact hK
  rw [if_neg (by omega)] at hK
  simp only at hK
  refine ru_ok hb (by omega) p ?_
  refine cond_ne (fun h => ?_) (fun h => ?_)
  · rw [if_pos (fun e => h (by rw [e]; rfl))] at hK
    exact hK
  have hu : (uv l p).2.2 = 0 := by exact_mod_cast h
  rw [if_neg (fun e => e hu)] at hK
  have he := uv_end hu
  have hlt := uv_lt l p
  rw [wU64_id (x := most) (by omega) (by omega)]
  refine cond_d (fun h4 => ?_) (fun h4 => ?_)
  · rw [if_pos (by omega)] at hK; exact hK
  rw [if_neg (by omega)] at hK
  rw [wI64 (x := ((b.n : Nat) : Int) - _) (by omega) (by omega), wU64_id (by omega) (by omega)]
  refine cond_d (fun h5 => ?_) (fun h5 => ?_)
  · rw [if_pos (by omega)] at hK; exact hK
  rw [if_neg (by omega)] at hK
  generalize hf : (uv l p).2.1 = f at *
  generalize hv : (uv l p).1 = v at *
  rw [wI64 (x := (v : Int)) (by omega) (by omega), wI64 (x := (f : Int) + (v : Int)) (by omega) (by omega)]
  refine RdB.slc hb (lo := f) (hi := f + v) (by omega) (by omega) rfl (by omega) fun s hs => ?_
  rw [show f + v - f = v by omega] at hs
  refine convBS hs ?_
  refine rutf_ok (by rw [str_size]; simp only [List.length_take]; omega) ?_
  rw [bytes_str]
  refine cond_not (fun h6 => ?_) (fun h6 => ?_)
  · rw [h6, if_neg (by simp)] at hK; exact hK
  · rw [h6, if_pos rfl] at hK
    simpa using hK

theorem texts_law {w : World} (ht : Tab w) (hu : UTab w) {b : Sl} {l : List UInt8} {s : ByteArray} {p most : Int} (hb : RdB w b l) (hl : l.length + s.size ≤ 140737487000000) (hm : most < 9223372036854775808)
    {K : Bool → World → Prop} (hK : ∀ w', Keep w w' → K true w') : C.tocsinlaw01_VintTexts b s p most w K := by
  have hz : (Utf.bytes s).length = s.size := (size_eq s).symm
  have hp := putU_len64 (n := s.size) (by omega)
  unfold C.tocsinlaw01_VintTexts
  refine lent_ok hb (by omega) fun own w1 k1 o1 => ?_
  refine putText_ok o1.rd (by omega) fun x w2 k2 ox => ?_
  refine rputText_ok (hb.keep (Keep.trans k1 k2)) (by omega) fun y w3 k3 oy => ?_
  refine same_yes (Own.keep ox k3).rd oy.rd (by simp only [List.length_append]; omega) fun d => ?_
  refine cond_f (by rfl) ?_
  have k13 := Keep.trans (Keep.trans k2 k3) (Keep.drewN w3 d)
  refine spoil_keep (Own.keep ox (Keep.trans k3 (Keep.drewN w3 d))) k13 (Nat.le_refl _) (by simp only [List.length_append]; omega) fun w4 k14 _ => ?_
  have k04 := Keep.trans k1 k14
  refine text_ok (hu.keep k04) (o1.keep k14).rd (by omega) hm fun w5 k5 => ?_
  have k05 := Keep.trans k04 k5
  refine rtext_ok (hb.keep k05) (by omega) hm ?_
  refine cond_t (by simp) <| cond_t (by simp) <| cond_t (by simp) ?_
  refine kept_ok (o1.keep (Keep.trans k14 k5)) (hb.keep k05) (by omega) fun d2 => ?_
  refine cond_t rfl ?_
  have k6 := Keep.trans k05 (Keep.drewN w5 d2)
  exact known_ok (ht.keep k6) fun w' k => hK w' (Keep.trans k6 k)
end Go.Proofs.YtpgpdeojggcibaaDoor.Vint
