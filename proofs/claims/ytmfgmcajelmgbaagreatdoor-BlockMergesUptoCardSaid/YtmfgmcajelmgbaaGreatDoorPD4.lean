/- (several texts in one: Vint,VintO,LabP,Lbc,UtfRB,Lbr,Smp,LabK,BitsW,BitsB,BitN,BitL,VintZ,ChunkS,BitR,ChunkP,ChunkV,ChunkA,ChunkB,ChunkD,ChunkE,ChunkF,VintY,ChunkE4,ChunkU,Seq,ChunkE5,ChunkC) Own work. -/
import Derived.Lib.Bytealg
import Derived.Laws.BytesString
import Derived.Lib.BitFns
import Derived.Lib.TrailingZeros
import Derived.Test.YtmfgmcajelmgbaaGreatDoorPD3
namespace Go.Proofs.YtmfgmcajelmgbaaGreatDoor.Vint
open Go Vm Go.RowKit Num Mem
def putU (n:Nat):List UInt8:=if n<128 then [UInt8.ofNat n] else UInt8.ofNat (n % 128+128)::putU (n / 128)
termination_by n
decreasing_by omega
theorem putU_lt {n:Nat} (h:n<128):putU n=[UInt8.ofNat n]:=by rw [putU,if_pos h]
theorem putU_ge {n:Nat} (h:¬ n<128):putU n=UInt8.ofNat (n % 128+128)::putU (n / 128):=by rw [putU,if_neg h]
theorem putU_len:∀ (k n:Nat),n<128 ^ (k+1)→(putU n).length≤k+1
 | 0,n,h=>by rw [putU_lt (by simpa using h)];simp
 | k+1,n,h=>by
  by_cases hn:n<128
  ·rw [putU_lt hn];simp
  ·rw [putU_ge hn]
   have:=putU_len k (n / 128) (Nat.div_lt_of_lt_mul (by rw [Nat.pow_succ] at h;omega))
   simp;omega
theorem p128:(18446744073709551616:Nat)≤128 ^ (9+1):=by decide +kernel
theorem putU_len64 {n:Nat} (h:n<18446744073709551616):(putU n).length≤10:=by
 have h1:=p128
 have:=putU_len 9 n (by generalize 128 ^ (9+1)=q at *;omega)
 omega
theorem or128:∀ m:Fin 256,(m.val ||| 128)=m.val % 128+128:=by decide +kernel
theorem elem_or (n:Nat):Value.int .u8 (Go.bits .or .u8 (IntKind.u8.wrap (n:Int)) (128:Int))=vB (UInt8.ofNat (n % 128+128)):=by
 have e1:IntKind.u8.wrap (n:Int)=((n % 256:Nat):Int):=by rw [wU8];omega
 have e2:(128:Int)=((128:Nat):Int):=rfl
 rw [e1,e2,bits_or rfl (by simp [IntKind.bits];omega) (by simp [IntKind.bits]),← vB_lit (by omega)]
 have:=or128 ⟨n % 256,by omega⟩
 simp only at this
 rw [this]
 congr 1
 omega
theorem elem_low {n:Nat} (h:n<128):Value.int .u8 (IntKind.u8.wrap (n:Int))=vB (UInt8.ofNat n):=by
 rw [wU8_id (by omega) (by omega),vB_lit (by omega)]
theorem elem_mod (n:Nat):Value.int .u8 (IntKind.u8.wrap ((IntKind.u8.wrap (Int.tmod (n:Int) (128:Int)))+(128:Int)))=vB (UInt8.ofNat (n % 128+128)):=by
 have e1:Int.tmod (n:Int) (128:Int)=((n % 128:Nat):Int):=rfl
 rw [e1,wU8_id (x:=((n % 128:Nat):Int)) (by omega) (by omega),wU8_id (by omega) (by omega),← vB_lit (by omega)]
 congr 1
theorem joined_ok {w:World} {b c:Sl} {l m:List UInt8} (hb:RdB w b l) (hc:RdB w c m) (hl:l.length+m.length≤140737488355328) {K:Sl→World→Prop}
  (hK:∀ r w',Keep w w'→OwnB w' w.heap.size r (l++m)→K r w'):C.vint_joined b c w K:=by
 have h1:=hb.len
 have h2:=hc.len
 unfold C.vint_joined
 refine make0B (c:=l.length+m.length) (by rw [wI64 (by omega) (by omega),h1,h2];rfl) (Keep.refl w) (Nat.le_refl _) hl fun r0 w1 k1 o1=>?_
 refine appB k1 k1.size o1 (hb.keep k1) (by simp;omega) fun r1 w2 k2 o2=>?_
 refine appB k2 k2.size o2 (hc.keep k2) (by simp;omega) fun r2 w3 k3 o3=>?_
 exact hK r2 w3 k3 (by simpa using o3)
theorem rjoined_ok {w:World} {b c:Sl} {l m:List UInt8} (hb:RdB w b l) (hc:RdB w c m) (hl:l.length+m.length≤140737488355328) {K:Sl→World→Prop}
  (hK:∀ r w',Keep w w'→OwnB w' w.heap.size r (l++m)→K r w'):C.tocsinref01_joined b c w K:=by
 unfold C.tocsinref01_joined
 refine appB (Keep.refl w) (Nat.le_refl _) (OwnB.nil _ _) hb (by simp;omega) fun r1 w2 k2 o2=>?_
 refine appB k2 k2.size o2 (hc.keep k2) (by simp;omega) fun r2 w3 k3 o3=>?_
 exact hK r2 w3 k3 (by simpa using o3)
theorem putU_ok {w0:World} {b:Sl} {l:List UInt8} {n:Nat} (hn:n<18446744073709551616) (hb:RdB w0 b l) (hl:l.length≤140737488355300) {K:Sl→World→Prop}
  (hK:∀ r w',Keep w0 w'→OwnB w' w0.heap.size r (l++putU n)→K r w'):C.vint_PutU b (n:Int) w0 K:=by
 unfold C.vint_PutU
 refine C.vint_PutU.L5_ind fun X hX=>?_
 have key:∀ (n:Nat) (pre:List UInt8) (c:Sl) (w:World),n<18446744073709551616→(pre++putU n).length≤10→Keep w0 w→OwnB w w0.heap.size c pre →
   (∀ r w',Keep w0 w'→OwnB w' w0.heap.size r (l++(pre++putU n))→K r w')→X b (n:Int) c w:=by
  intro n
  induction n using Nat.strongRecOn with
  | _ n ih =>
   intro pre c w hn hlen hk ho hK
   refine hX _ _ _ _ ?_
   unfold C.vint_PutU.S7
   have hpre:pre.length≤10:=by simp at hlen;omega
   refine cond_d (fun h=>?_) (fun h=>?_)
   ·have h':¬ n<128:=by omega
    rw [putU_ge h'] at hlen hK
    refine pushB (m:=[UInt8.ofNat (n % 128+128)]) hk hk.size ho (by rw [elem_or];rfl) (by rfl) (by omega) fun r w' k1 k2=>?_
    refine ⟨by decide,?_⟩
    have e:shr .u64 (n:Int) (7:Int)=((n / 128:Nat):Int):=by
     have:=shr_nat .u64 (n:Int) 7 (by decide)
     rw [show ((7:Nat):Int)=(7:Int) from rfl] at this
     rw [this];omega
    rw [e]
    refine ih (n / 128) (by omega) _ r w' (by omega) (by simpa using hlen) k1 k2 fun r w' k o=>hK r w' k (by simpa using o)
   ·have h':n<128:=by omega
    rw [putU_lt h'] at hK
    unfold C.vint_PutU.S2
    refine pushB (m:=[UInt8.ofNat n]) hk hk.size ho (by rw [elem_low h'];rfl) (by rfl) (by omega) fun r w' k1 k2=>?_
    refine joined_ok (hb.keep k1) k2.rd (by simp;omega) fun r w2 k3 o3=>?_
    exact hK r w2 (Keep.trans k1 k3) (o3.mono k1.size)
 exact key n [] nilS w0 hn (by simpa using putU_len64 hn) (Keep.refl _) (OwnB.nil _ _) (by simpa using hK)
theorem rputU_ok {w0:World} {b:Sl} {l:List UInt8} {n:Nat} (hn:n<18446744073709551616) (hb:RdB w0 b l) (hl:l.length≤140737488355300) {K:Sl→World→Prop}
  (hK:∀ r w',Keep w0 w'→OwnB w' w0.heap.size r (l++putU n)→K r w'):C.tocsinref01_PutU b (n:Int) w0 K:=by
 unfold C.tocsinref01_PutU
 refine C.tocsinref01_PutU.L5_ind fun X hX=>?_
 have key:∀ (n:Nat) (pre:List UInt8) (c:Sl) (w:World),n<18446744073709551616→(pre++putU n).length≤10→Keep w0 w→OwnB w w0.heap.size c pre →
   (∀ r w',Keep w0 w'→OwnB w' w0.heap.size r (l++(pre++putU n))→K r w')→X b (n:Int) c w:=by
  intro n
  induction n using Nat.strongRecOn with
  | _ n ih =>
   intro pre c w hn hlen hk ho hK
   refine hX _ _ _ _ ?_
   unfold C.tocsinref01_PutU.S7
   have hpre:pre.length≤10:=by simp at hlen;omega
   refine cond_d (fun h=>?_) (fun h=>?_)
   ·have h':¬ n<128:=by omega
    rw [putU_ge h'] at hlen hK
    refine ⟨by decide,?_⟩
    refine pushB (m:=[UInt8.ofNat (n % 128+128)]) hk hk.size ho (by rw [elem_mod];rfl) (by rfl) (by omega) fun r w' k1 k2=>?_
    refine ⟨by decide,?_⟩
    have e:IntKind.u64.wrap (Int.tdiv (n:Int) (128:Int))=((n / 128:Nat):Int):=by
     have e1:Int.tdiv (n:Int) (128:Int)=((n / 128:Nat):Int):=rfl
     rw [e1,wU64_id (by omega) (by omega)]
    rw [e]
    refine ih (n / 128) (by omega) _ r w' (by omega) (by simpa using hlen) k1 k2 fun r w' k o=>hK r w' k (by simpa using o)
   ·have h':n<128:=by omega
    rw [putU_lt h'] at hK
    unfold C.tocsinref01_PutU.S2
    refine pushB (m:=[UInt8.ofNat n]) hk hk.size ho (by rw [elem_low h'];rfl) (by rfl) (by omega) fun r w' k1 k2=>?_
    refine rjoined_ok (hb.keep k1) k2.rd (by simp;omega) fun r w2 k3 o3=>?_
    exact hK r w2 (Keep.trans k1 k3) (o3.mono k1.size)
 exact key n [] nilS w0 hn (by simpa using putU_len64 hn) (Keep.refl _) (OwnB.nil _ _) (by simpa using hK)
end Go.Proofs.YtmfgmcajelmgbaaGreatDoor.Vint



namespace Go.Proofs.YtmfgmcajelmgbaaGreatDoor.Lab
open Go Vm Num Mem Utf Lib Vint
variable {ω ω' : Tg} {w w' w0 : World}
theorem putText_ok {b:Sl} {l:List UInt8} {s:ByteArray} (hb:RdB w b l) (hl:l.length+s.size≤140737488000000) {K:Sl→World→Prop}
  (hK:∀ r w',Keep w w'→OwnB w' w.heap.size r (l++(putU s.size++Utf.bytes s))→K r w'):C.vint_PutText b s w K:=by
 have hz:(Utf.bytes s).length=s.size:=(size_eq s).symm
 have hp:=putU_len64 (n:=s.size) (by omega)
 unfold C.vint_PutText
 rw [wU64_id (by omega) (by omega)]
 refine putU_ok (by omega) hb (by omega) fun r w1 k1 o1=>?_
 refine convSB fun t w2 k2 o2=>?_
 refine joined_ok (Own.keep o1 k2).rd o2 (by simp only [List.length_append];omega) fun r3 w3 k3 o3=>?_
 have k12:=Keep.trans k1 k2
 exact hK r3 w3 (Keep.trans k12 k3) (by have:=o3.mono k12.size;simpa using this)
theorem szB (s:ByteArray):s.size=(Utf.bytes s).length:=size_eq s
def txt (s:ByteArray):List UInt8:=putU s.size++Utf.bytes s
def labB (x:Lb):List UInt8:=txt x.1++txt x.2
def put (l:List Lb):List UInt8:=putU l.length++l.flatMap labB
theorem named_len {l:List UInt8} {m:Nat} {c:Bool} (h:namedB l m c=true):l.length≤m:=by
 unfold namedB at h
 simp only [Bool.and_eq_true,decide_eq_true_eq] at h
 exact h.2.1
theorem valE_len {l:List UInt8} (h:valE l=0):l.length≤256:=by
 unfold valE at h
 split at h
 ·cases h
 ·split at h
  ·cases h
  ·omega
theorem rt_short {l:List Lb} (h:(rt l).1=0):l.length≤16∧∀ x∈l,x.1.size≤64∧x.2.size≤256:=by
 unfold rt at h
 split at h
 ·exact absurd (show (8:Int)=0 from h) (by decide)
 ·refine ⟨by omega,?_⟩
  have key:∀ (r:List Lb) (p:Option ByteArray) (i:Nat),(rtGo p r i).1=0→∀ x∈r,x.1.size≤64∧x.2.size≤256:=by
   intro r
   induction r with
   | nil=>intro p i _ x hx;cases hx
   | cons y r ih =>
    intro p i h x hx
    rw [rtGo] at h
    split at h
    ·exact absurd (show (40:Int)=0 from h) (by decide)
    ·rename_i h1
     split at h
     ·rename_i h2;exact absurd h h2
     ·rename_i h2
      split at h
      ·exact absurd (show (3:Int)=0 from h) (by decide)
      ·rcases List.mem_cons.1 hx with rfl | hx
       ·have a:=named_len (by simpa using h1:namedB (Utf.bytes x.1) 64 false=true)
        have b:=valE_len (by simpa using h2)
        have e1:=szB x.1
        have e2:=szB x.2
        exact ⟨by omega,by omega⟩
       ·exact ih _ _ h x hx
  exact key l none 0 h
theorem labB_len {x:Lb} (h:x.1.size≤64∧x.2.size≤256):(labB x).length≤340:=by
 have e1:=szB x.1
 have e2:=szB x.2
 have p1:=putU_len64 (n:=x.1.size) (by omega)
 have p2:=putU_len64 (n:=x.2.size) (by omega)
 simp only [labB,txt,List.length_append]
 omega
theorem flat_len:∀ (l:List Lb),(∀ x∈l,x.1.size≤64∧x.2.size≤256)→(l.flatMap labB).length≤340*l.length
 | [],_=>by simp
 | x::l,h=>by
  have a:=labB_len (h x (List.mem_cons_self ..))
  have b:=flat_len l fun y hy=>h y (List.mem_cons_of_mem _ hy)
  simp only [List.flatMap_cons,List.length_append,List.length_cons]
  omega
theorem put_ok {s:Sl} {m:List Lb} (ht:UTab w0) (hs:Rd w0 s 2 (labs m)) (hr:(rt m).1=0) {K:Sl→Int→World→Prop} (hK:∀ r w',Keep w0 w'→OwnB w' w0.heap.size r (put m)→K r 0 w'):C.labels_Put nilS s w0 K:=by
 have hsn:s.n=m.length:=by have:=hs.2.1;rw [labs_len] at this;omega
 obtain ⟨h16,hsh⟩:=rt_short hr
 unfold C.labels_Put C.labels_right
 refine right_ok ht hs fun w1 k1=>?_
 refine cond_f (by rw [hr];rfl) ?_
 rw [wU64_id (by omega) (by omega),hsn]
 refine putU_ok (l:=[]) (by omega) (Rd.nil w1 1) (by decide) fun r w2 k2 o2=>?_
 unfold C.labels_Put.S9
 have k02:=Keep.trans k1 k2
 have hp:=putU_len64 (n:=m.length) (by omega)
 refine C.labels_Put.L5_ind fun X hX=>?_
 have key:∀ (d i:Nat) (q:Sl) (w:World),i+d=m.length→Keep w0 w→OwnB w w0.heap.size q (putU m.length++(m.take i).flatMap labB)→X q s ((s.n:Nat):Int) (i:Int) w:=by
  intro d
  induction d with
  | zero =>
   intro i q w hi k o
   refine hX _ _ _ _ _ ?_
   unfold C.labels_Put.S7 C.labels_Put.S2
   rw [List.take_of_length_le (by omega)] at o
   exact cond_d (fun h=>by omega) (fun _=>hK q w k o)
  | succ d ih =>
   intro i q w hi k o
   have him:i<m.length:=by omega
   refine hX _ _ _ _ _ ?_
   unfold C.labels_Put.S7
   refine cond_d (fun _=>?_) (fun h=>by omega)
   have hx:m[i]?=some m[i]:=List.getElem?_eq_getElem him
   refine rdL_at (hs.keep k) (k:=i) rfl hx fun a hc0 hc1=>cS_at hc0<|cS_at hc1 ?_
   refine new_T (ω:=fun _=>0) 7 fun g ω2 w2 k2 b2=>?_
   refine st_T b2 (by simp) fun ω3 w3 k3 b3=>?_
   refine st_TA b3 (by simp) fun ω4 w4 k4 b4=>?_
   have kT:=((Top.init w).stp ((k2.non (Mem.One 7)).trans (k3.trans k4))).k
   have kd:=drew_stp ω4 w4
   have bd:=b4.stp kd
   have k5:=Keep.trans kT kd.keep
   refine cS_at (b:=m[i].1) (by rw [bd.cell];rfl)<|cS_at (b:=m[i].2) (by rw [addr_add,bd.cell];rfl) ?_
   have hsx:=hsh _ (List.getElem_mem him)
   have hfl:=flat_len (m.take i) fun y hy=>hsh y (List.mem_of_mem_take hy)
   rw [List.length_take,Nat.min_eq_left (by omega)] at hfl
   have e1:=szB m[i].1
   have p1:=putU_len64 (n:=m[i].1.size) (by omega)
   refine putText_ok (Own.keep o k5).rd (by rw [List.length_append];omega) fun r1 w5 k6 o5=>⟨bd.sameA (k6.stp0 ω4),?_⟩
   refine putText_ok o5.rd (by simp only [List.length_append];omega) fun r2 w6 k7 o6=>?_
   rw [wI64 (by omega) (by omega),show (i:Int)+1=((i+1:Nat):Int) by omega]
   have k57:=Keep.trans k (Keep.trans k5 (Keep.trans k6 k7))
   refine ih (i+1) r2 w6 (by omega) k57 ?_
   have ef:(m.take (i+1)).flatMap labB=(m.take i).flatMap labB++labB m[i]:=by
    rw [List.take_add_one,hx,List.flatMap_append];simp
   rw [ef]
   have o7:=o6.mono (Keep.trans k (Keep.trans k5 k6)).size
   simpa only [labB,txt,List.append_assoc] using o7
 refine key m.length 0 r w2 (by omega) k02 ?_
 simpa using o2.mono k1.size
end Go.Proofs.YtmfgmcajelmgbaaGreatDoor.Lab

namespace Go.Proofs.YtmfgmcajelmgbaaGreatDoor.Lab
open Go Vm Go.RowKit Num Mem Utf Lib
variable {ω ω' : Tg} {w w' w0 : World}
structure Cmp {α:Type} (c:α→α→Int):Prop where
 vals:∀ x y,c x y = -1∨c x y=0∨c x y=1
 eq:∀ x y,c x y=0↔x=y
 anti:∀ x y,c y x =-c x y
 trans:∀ x y z,c x y<0→c y z<0→c x z<0
def lexL {α:Type} (c:α→α→Int):List α→List α→Int
 | [],[]=>0
 | [],_::_=>-1
 | _::_,[]=>1
 | a::xs,b::bs=>if c a b≠0 then c a b else lexL c xs bs
def pairC {α β:Type} (c:α→α→Int) (d:β→β→Int) (x y:α × β):Int:=if c x.1 y.1≠0 then c x.1 y.1 else d x.2 y.2
section
variable {α β : Type} {c : α → α → Int} {d : β → β → Int}
theorem Cmp.self (h:Cmp c) (x:α):c x x=0:=(h.eq x x).2 rfl
theorem Cmp.lex (h:Cmp c):Cmp (lexL c):=by
 refine ⟨?_,?_,?_,?_⟩
 ·intro x
  induction x with
  | nil=>intro y;cases y<;>simp [lexL]
  | cons a xs ih =>
   intro y
   cases y with
   | nil=>simp [lexL]
   | cons b bs =>
    unfold lexL
    split
    ·exact h.vals a b
    ·exact ih bs
 ·intro x
  induction x with
  | nil=>intro y;cases y<;>simp [lexL]
  | cons a xs ih =>
   intro y
   cases y with
   | nil=>simp [lexL]
   | cons b bs =>
    unfold lexL
    split
    ·rename_i h0
     constructor
     ·intro e;exact absurd e h0
     ·intro e;cases e;exact absurd (h.self a) h0
    ·rename_i h0
     have h0:c a b=0:=by simpa using h0
     have e:=(h.eq a b).1 h0
     subst e
     rw [ih bs];simp
 ·intro x
  induction x with
  | nil=>intro y;cases y<;>simp [lexL]
  | cons a xs ih =>
   intro y
   cases y with
   | nil=>simp [lexL]
   | cons b bs =>
    unfold lexL
    rw [h.anti a b,ih bs]
    split<;>split<;>omega
 ·intro x
  induction x with
  | nil=>intro y z h1 h2;cases y with
   | nil=>simp [lexL] at h1
   | cons b bs=>cases z with
    | nil=>simp [lexL] at h2
    | cons d ds=>simp [lexL]
  | cons a xs ih=>intro y z h1 h2;cases y with
   | nil=>simp [lexL] at h1
   | cons b bs=>cases z with
    | nil=>simp [lexL] at h2
    | cons d ds =>
     unfold lexL at h1 h2 ⊢
     by_cases e1:c a b=0
     ·have:=(h.eq a b).1 e1
      subst this
      rw [if_neg (by simpa using e1)] at h1
      by_cases e2:c a d=0
      ·rw [if_neg (by simpa using e2)] at h2 ⊢
       exact ih bs ds h1 h2
      ·rw [if_pos e2] at h2 ⊢;exact h2
     ·rw [if_pos e1] at h1
      by_cases e2:c b d=0
      ·have:=(h.eq b d).1 e2
       subst this
       rw [if_pos e1];exact h1
      ·rw [if_pos e2] at h2
       have:=h.trans a b d h1 h2
       rw [if_pos (by omega)];exact this
theorem Cmp.pair (h:Cmp c) (k:Cmp d):Cmp (pairC c d):=by
 refine ⟨?_,?_,?_,?_⟩
 ·intro x y
  unfold pairC
  split
  ·exact h.vals _ _
  ·exact k.vals _ _
 ·rintro ⟨x1,x2⟩ ⟨y1,y2⟩
  unfold pairC
  dsimp only
  by_cases e1:c x1 y1=0
  ·have:=(h.eq x1 y1).1 e1
   subst this
   rw [if_neg (by simpa using e1),k.eq];simp
  ·rw [if_pos e1]
   constructor
   ·intro e;exact absurd e e1
   ·intro e;cases e;exact absurd (h.self x1) e1
 ·intro x y
  unfold pairC
  rw [h.anti x.1 y.1,k.anti x.2 y.2]
  split<;>split<;>omega
 ·rintro ⟨x1,x2⟩ ⟨y1,y2⟩ ⟨z1,z2⟩ h1 h2
  unfold pairC at h1 h2 ⊢
  dsimp only at h1 h2 ⊢
  by_cases e1:c x1 y1=0
  ·have:=(h.eq _ _).1 e1
   subst this
   rw [if_neg (by simpa using e1)] at h1
   by_cases e2:c x1 z1=0
   ·rw [if_neg (by simpa using e2)] at h2 ⊢
    exact k.trans _ _ _ h1 h2
   ·rw [if_pos e2] at h2 ⊢;exact h2
  ·rw [if_pos e1] at h1
   by_cases e2:c y1 z1=0
   ·have:=(h.eq _ _).1 e2
    subst this
    rw [if_pos e1];exact h1
   ·rw [if_pos e2] at h2
    have:=h.trans _ _ _ h1 h2
    rw [if_pos (by omega)];exact this
end
def cU (a b:UInt8):Int:=if a<b then -1 else if b<a then 1 else 0
theorem cU_cmp:Cmp cU:=by
 refine ⟨fun x y=>?_,fun x y=>?_,fun x y=>?_,fun x y z h1 h2=>?_⟩
 ·unfold cU;split;· simp
  split<;>simp
 ·unfold cU
  simp only [UInt8.lt_iff_toNat_lt,← UInt8.toNat_inj]
  split
  ·simp;omega
  ·split
   ·simp;omega
   ·simp;omega
 ·unfold cU
  simp only [UInt8.lt_iff_toNat_lt]
  split<;>split<;>first | omega | (split<;>omega) | rfl
 ·unfold cU at *
  simp only [UInt8.lt_iff_toNat_lt] at *
  split at h1
  ·split at h2
   ·rw [if_pos (by omega)];omega
   ·split at h2<;>omega
  ·split at h1<;>omega
theorem cb_lex:∀ a b:List UInt8,compareBytes a b=lexL cU a b
 | [],[]=>rfl
 | [],_::_=>rfl
 | _::_,[]=>rfl
 | a::xs,b::bs=>by
  unfold compareBytes lexL cU
  rw [cb_lex xs bs]
  split
  ·rfl
  ·split
   ·rfl
   ·rfl
def cB (a b:ByteArray):Int:=compareBytes a.data.toList b.data.toList
theorem cB_cmp:Cmp cB:=by
 have h:=cU_cmp.lex
 refine ⟨fun x y=>?_,fun x y=>?_,fun x y=>?_,fun x y z h1 h2=>?_⟩
 ·unfold cB;rw [cb_lex];exact h.vals _ _
 ·unfold cB;rw [cb_lex,h.eq]
  constructor
  ·intro e
   have:=Array.toList_inj.1 e
   cases x;cases y;simp at this;rw [this]
  ·rintro rfl;rfl
 ·unfold cB;rw [cb_lex,cb_lex];exact h.anti _ _
 ·unfold cB at *;rw [cb_lex] at *;exact h.trans _ _ _ h1 h2
def cL:Lb→Lb→Int:=pairC cB cB
def cmpL:List Lb→List Lb→Int:=lexL cL
theorem cL_cmp:Cmp cL:=cB_cmp.pair cB_cmp
theorem cmpL_cmp:Cmp cmpL:=cL_cmp.lex
theorem less_cb:∀ a b:List UInt8,Op.bytesLess a b=decide (compareBytes a b = -1)
 | [],[]=>by simp [Op.bytesLess,compareBytes]
 | [],_::_=>by simp [Op.bytesLess,compareBytes]
 | _::_,[]=>by simp [Op.bytesLess,compareBytes]
 | a::xs,b::bs=>by
  unfold Op.bytesLess compareBytes
  rw [less_cb xs bs]
  simp only [UInt8.lt_iff_toNat_lt]
  by_cases h1:a.toNat<b.toNat
  ·simp [h1]
  ·by_cases h2:b.toNat<a.toNat
   ·have:¬ a=b:=fun e=>by subst e;omega
    simp [h1,h2,this]
   ·have:a=b:=UInt8.toNat_inj.1 (by omega)
    subst this
    simp
theorem lessB (a b:ByteArray):Op.bytesLess a.toList b.toList=decide (cB a b = -1):=by
 rw [ByteArray.toList_eq,ByteArray.toList_eq,less_cb];rfl
theorem eqB (a b:ByteArray):(a.toList==b.toList)=decide (cB a b=0):=by
 rw [ByteArray.toList_eq,ByteArray.toList_eq]
 by_cases h:a=b
 ·subst h;simp [cB_cmp.self]
 ·rw [decide_eq_false (fun e=>h ((cB_cmp.eq a b).1 e)),beq_eq_false_iff_ne]
  intro e
  refine h ?_
  cases a;cases b
  simpa using e
def KD (w w':World):Prop:=Keep w w'∧w'.drawn=w.drawn
theorem KD.refl (w:World):KD w w:=⟨Keep.refl w,rfl⟩
theorem KD.trans {a b c:World} (h:KD a b) (k:KD b c):KD a c:=⟨Keep.trans h.1 k.1,k.2.trans h.2⟩
theorem newD {e:TypeId} {o:Array Value} {Z:Addr→World→Prop} (hK:∀ g w',KD w w'→w.heap.size≤g→Blk w' g e o.toList→Z ⟨g,0,none⟩ w'):G.new (.cells o e) w Z :=
 new_at (hK _ _ ⟨Keep.alloc _ _,rfl⟩ (Nat.le_refl _) (Blk.new w e o))
theorem stD {g j:Nat} {e:TypeId} {cs:List Value} {w1:World} (hg:w.heap.size≤g) (k:KD w w1) (hb:Blk w1 g e cs) {v:Value} (hj:j<cs.length) {Z:World→Prop} (hK:∀ w',KD w w'→Blk w' g e (cs.set j v)→Z w'):G.st ⟨g,j,none⟩ v w1 Z:=by
 refine st_at (by rw [hb.cell,List.getElem?_eq_getElem hj]) (hb.frozen j) (hK _ ⟨⟨k.1.os,k.1.tape,k.1.output,?_,fun i hi=>?_⟩,k.2⟩ (hb.set j v))
 ·have:=k.1.size;simpa [World.setCell] using this
 ·rw [Below.heap_setCell _ _ _ _ (show i≠g by omega)];exact k.1.block i hi
theorem stDA {g i j:Nat} {e:TypeId} {cs:List Value} {w1:World} (hg:w.heap.size≤g) (k:KD w w1) (hb:Blk w1 g e cs) {v:Value} (hj:i+j<cs.length) {Z:World→Prop} (hK:∀ w',KD w w'→Blk w' g e (cs.set (i+j) v)→Z w'):G.st (Addr.add ⟨g,i,none⟩ j) v w1 Z:=by
 rw [addr_add];exact stD hg k hb hj hK
theorem scmp_ok {a b:ByteArray} {K:Int→World→Prop} (hK:K (cB a b) w):C.strings_Compare a b w K:=hK
theorem cmp1_ok {x y:Lb} {K:Int→World→Prop} (hK:∀ w',KD w w'→K (cL x y) w'):C.labels_Compare_1 x.1 x.2 y.1 y.2 w K:=by
 unfold C.labels_Compare_1
 refine newD fun g w1 k1 _ b1=>newD fun g2 w2 k2 _ b2=>?_
 have k12:=k1.trans k2
 have b12:=b1.keep k2.1
 refine cS_at (b:=x.1) (by rw [b12.cell];rfl)<|cS_at (b:=y.1) (by rw [b2.cell];rfl)<|scmp_ok ?_
 have:=hK w2 k12
 unfold cL pairC at this
 refine cond_ne (fun h=>?_) (fun h=>?_)
 ·rw [if_pos h] at this;exact this
 ·rw [if_neg (by simpa using h)] at this
  exact cS_at (b:=x.2) (by rw [addr_add,b12.cell];rfl)<|cS_at (b:=y.2) (by rw [addr_add,b2.cell];rfl)<|scmp_ok this
theorem rdL_n {s:Sl} {m:List Lb} (h:Rd w s 2 (labs m)):s.n=m.length:=by have:=h.2.1;rw [labs_len] at this;omega
theorem lexL_nil_l {α:Type} {c:α→α→Int} (y:List α):lexL c [] y=if y.length=0 then 0 else -1:=by cases y<;>rfl
theorem compare_ok {a b:Sl} {x y:List Lb} (ha:Rd w0 a 2 (labs x)) (hb:Rd w0 b 2 (labs y)) (hx:x.length≤9000000000000000000) {K:Int→World→Prop} (hK:∀ w',KD w0 w'→K (cmpL x y) w'):C.labels_Compare a b w0 K:=by
 have han:=rdL_n ha
 have hbn:=rdL_n hb
 unfold C.labels_Compare C.slices_CompareFunc_Label_Label_Label_Label C.slices_CompareFunc_Label_Label_Label_Label.S9
 refine C.slices_CompareFunc_Label_Label_Label_Label.L5_ind fun X hX=>?_
 have key:∀ (d i:Nat) (w:World),i+d=x.length→i≤y.length→KD w0 w→(∀ w',KD w0 w'→K (lexL cL (x.drop i) (y.drop i)) w')→X a b (.func (.func 135) #[] #[]) a ((a.n:Nat):Int) (i:Int) w:=by
  intro d
  induction d with
  | zero =>
   intro i w hi hy k hK
   refine hX _ _ _ _ _ _ _ ?_
   unfold C.slices_CompareFunc_Label_Label_Label_Label.S7 C.slices_CompareFunc_Label_Label_Label_Label.S2
   have:=hK w k
   rw [List.drop_of_length_le (by omega),lexL_nil_l,List.length_drop] at this
   refine cond_d (fun h=>by omega) (fun _=>cond_d (fun h=>?_) (fun h=>?_))
   ·rw [if_neg (by omega)] at this;exact this
   ·rw [if_pos (by omega)] at this;exact this
  | succ d ih =>
   intro i w hi hy k hK
   refine hX _ _ _ _ _ _ _ ?_
   unfold C.slices_CompareFunc_Label_Label_Label_Label.S7
   have hxi:x[i]?=some x[i]:=List.getElem?_eq_getElem (by omega)
   refine cond_d (fun _=>?_) (fun h=>by omega)
   refine rdL_at (ha.keep k.1) (k:=i) rfl hxi fun p p0 p1=>cS_at p0<|cS_at p1 ?_
   refine newD fun g1 w1 k1 hg1 b1=>stD hg1 k1 b1 (by simp) fun w2 k2 b2=>stDA hg1 k2 b2 (by simp) fun w3 k3 b3=>?_
   refine cond_d (fun h=>?_) (fun h=>?_)
   ·have:=hK w3 (k.trans k3)
    rw [List.drop_eq_getElem_cons (by omega),List.drop_of_length_le (l:=y) (by omega)] at this
    exact this
   have hyi:y[i]?=some y[i]:=List.getElem?_eq_getElem (by omega)
   have k03:=k.trans k3
   refine rdL_at (hb.keep k03.1) (k:=i) rfl hyi fun q q0 q1=>cS_at q0<|cS_at q1 ?_
   refine newD fun g4 w4 k4 hg4 b4=>stD hg4 k4 b4 (by simp) fun w5 k5 b5=>stDA hg4 k5 b5 (by simp) fun w6 k6 b6=>?_
   have b36:=b3.keep k6.1
   have k06:=k03.trans k6
   refine cS_at (b:=x[i].1) (by rw [b36.cell];rfl)<|cS_at (b:=x[i].2) (by rw [addr_add,b36.cell];rfl)<|cS_at (b:=y[i].1) (by rw [b6.cell];rfl)<|cS_at (b:=y[i].2) (by rw [addr_add,b6.cell];rfl) ?_
   show C.labels_Compare_1 x[i].1 x[i].2 y[i].1 y[i].2 w6 _
   refine cmp1_ok fun w7 k7=>?_
   have k07:=k06.trans k7
   rw [List.drop_eq_getElem_cons (by omega),List.drop_eq_getElem_cons (l:=y) (by omega)] at hK
   unfold lexL at hK
   refine show G.cond _ _ _ from cond_ne (fun h=>?_) (fun h=>?_)
   ·have:=hK w7 k07
    rw [if_pos h] at this;exact this
   ·rw [if_neg (by simpa using h)] at hK
    rw [wI64 (by omega) (by omega),show (i:Int)+1=((i+1:Nat):Int) by omega]
    exact ih (i+1) w7 (by omega) (by omega) k07 hK
 exact key x.length 0 w0 (by omega) (by omega) (KD.refl w0) hK
theorem rside_ok {a b:ByteArray} {K:Int→World→Prop} (hK:K (cB a b) w):C.tocsinref04_side a b w K:=by
 unfold C.tocsinref04_side
 rw [lessB,eqB]
 refine cond_d (fun h=>by rw [h] at hK;exact hK) (fun h=>?_)
 rw [decide_eq_false h,Bool.false_or]
 rcases cB_cmp.vals a b with e | e | e
 ·exact absurd e h
 ·rw [e] at hK ⊢
  exact cond_f rfl hK
 ·rw [e] at hK ⊢
  exact cond_t rfl hK
theorem rcmp_ok {a b:Sl} {x y:List Lb} (ha:Rd w0 a 2 (labs x)) (hb:Rd w0 b 2 (labs y)) (hx:x.length≤9000000000000000000) {K:Int→World→Prop} (hK:∀ w',Keep w0 w'→K (cmpL x y) w'):C.tocsinref04_Compare a b w0 K:=by
 have han:=rdL_n ha
 have hbn:=rdL_n hb
 unfold C.tocsinref04_Compare C.tocsinref04_Compare.S9
 refine C.tocsinref04_Compare.L5_ind fun X hX=>?_
 have key:∀ (d i:Nat) (w:World),i+d=x.length→i≤y.length→Keep w0 w→(∀ w',Keep w0 w'→K (lexL cL (x.drop i) (y.drop i)) w')→X a b (i:Int) w:=by
  intro d
  induction d with
  | zero =>
   intro i w hi hy k hK
   refine hX _ _ _ _ ?_
   unfold C.tocsinref04_Compare.S7 C.tocsinref04_Compare.S2
   have:=hK w k
   rw [List.drop_of_length_le (by omega),lexL_nil_l,List.length_drop] at this
   refine cond_d (fun h=>by omega) (fun _=>cond_d (fun h=>?_) (fun h=>cond_d (fun h2=>by omega) fun h2=>?_))
   ·rw [if_neg (by omega)] at this;exact this
   ·rw [if_pos (by omega)] at this;exact this
  | succ d ih =>
   intro i w hi hy k hK
   refine hX _ _ _ _ ?_
   unfold C.tocsinref04_Compare.S7 C.tocsinref04_Compare.S2
   have hxi:x[i]?=some x[i]:=List.getElem?_eq_getElem (by omega)
   refine cond_d (fun _=>?_) (fun h=>by omega)
   refine cond_d (fun h=>?_) (fun h=>?_)
   ·have hyi:y[i]?=some y[i]:=List.getElem?_eq_getElem (by omega)
    have kd:=Keep.trans k (Keep.drew w)
    rw [List.drop_eq_getElem_cons (by omega),List.drop_eq_getElem_cons (l:=y) (by omega)] at hK
    unfold lexL at hK
    have hc:cL x[i] y[i]=if cB x[i].1 y[i].1≠0 then cB x[i].1 y[i].1 else cB x[i].2 y[i].2:=rfl
    refine rdL_at (ha.keep kd) (k:=i) rfl hxi fun p p0 p1=>cS_at p0<|rdL_at (hb.keep kd) (k:=i) rfl hyi fun q q0 q1=>cS_at q0 ?_
    refine rside_ok<|cond_ne (fun h0=>?_) (fun h0=>?_)
    ·have:=hK _ kd
     have hc1:cL x[i] y[i]=cB x[i].1 y[i].1:=by rw [hc,if_pos h0]
     rw [hc1,if_pos h0] at this;exact this
    have kd2:=Keep.trans kd (Keep.drew _)
    have hc2:cL x[i] y[i]=cB x[i].2 y[i].2:=by rw [hc,if_neg (by simpa using h0)]
    rw [hc2] at hK
    refine rdL_at (ha.keep kd2) (k:=i) rfl hxi fun p p0 p1=>cS_at p1<|rdL_at (hb.keep kd2) (k:=i) rfl hyi fun q q0 q1=>cS_at q1 ?_
    refine rside_ok<|cond_ne (fun h1=>?_) (fun h1=>?_)
    ·have:=hK _ kd2
     rw [if_pos h1] at this;exact this
    rw [if_neg (by simpa using h1)] at hK
    rw [wI64 (by omega) (by omega),show (i:Int)+1=((i+1:Nat):Int) by omega]
    exact ih (i+1) _ (by omega) (by omega) kd2 hK
   ·have:=hK w k
    rw [List.drop_eq_getElem_cons (by omega),List.drop_of_length_le (l:=y) (by omega)] at this
    exact cond_d (fun h=>by omega) (fun h=>cond_d (fun h2=>this) (fun h2=>by omega))
 exact key x.length 0 w0 (by omega) (by omega) (Keep.refl w0) hK
theorem rsame_ok {a b:Sl} {x y:List Lb} (ha:Rd w0 a 2 (labs x)) (hb:Rd w0 b 2 (labs y)) (hx:x.length≤9000000000000000000) {K:Bool→World→Prop} (hK:∀ w',Keep w0 w'→K (decide (x=y)) w'):C.tocsinref04_Same a b w0 K:=by
 unfold C.tocsinref04_Same
 refine rcmp_ok ha hb hx fun w' k=>?_
 have e:(cmpL x y==0)=decide (x=y):=by
  by_cases h:x=y
  ·rw [decide_eq_true h,beq_iff_eq];exact (cmpL_cmp.eq x y).2 h
  ·rw [decide_eq_false h,beq_eq_false_iff_ne];exact fun q=>h ((cmpL_cmp.eq x y).1 q)
 rw [e];exact hK w' k
end Go.Proofs.YtmfgmcajelmgbaaGreatDoor.Lab

namespace Go.Proofs.YtmfgmcajelmgbaaGreatDoor.Utf
open Go Vm Go.RowKit Num Mem Lib
set_option maxRecDepth 10000
theorem andc {p q:Prop} [Decidable p] [Decidable q] {T E:Prop} (hT:p→q→T) (hE:¬ (p∧q)→E):G.cond (decide p) (G.cond (decide q) T E) E :=
 cond_d (fun h=>cond_d (hT h) (fun h'=>hE fun x=>h' x.2)) (fun h=>hE fun x=>h x.1)
theorem and_i64 {x y:Nat} (hx:x<9223372036854775808) (hy:y<9223372036854775808):Go.bits .and .i64 (x:Int) (y:Int)=((x &&& y:Nat):Int):=by
 have e:(BitVec.ofNat 64 x &&& BitVec.ofNat 64 y).toNat=x &&& y:=by
  rw [BitVec.toNat_and,BitVec.toNat_ofNat,BitVec.toNat_ofNat,Nat.mod_eq_of_lt (by omega),Nat.mod_eq_of_lt (by omega)]
 have hlt:x &&& y<9223372036854775808:=Nat.and_lt_two_pow (n:=63) x hy
 unfold Go.bits
 simp only [ofInt_nat]
 refine Eq.trans (congrArg (fun t:Nat=>IntKind.i64.wrap (t:Int)) e) ?_
 rw [wI64 (by omega) (by omega)]
theorem and63 {b:Nat} (h:b<256):IntKind.i64.wrap (Go.bits .and .u8 (b:Int) (63:Int))=((b % 64:Nat):Int):=by
 rw [show (63:Int)=((63:Nat):Int) from rfl,bits_and rfl (by simp only [IntKind.bits];omega) (by decide),show b &&& 63=b % 64 from Nat.and_two_pow_sub_one_eq_mod b 6,wI64 (by omega) (by omega)]
theorem top2:∀ b:Fin 256,(b.val &&& 192=128)=(128≤b.val∧b.val≤191):=by decide +kernel
theorem and192 {b:Nat} (h:b<256):Go.bits .and .u8 (b:Int) (192:Int)=((b &&& 192:Nat):Int) :=
 bits_and rfl (by simp only [IntKind.bits];omega) (by decide)
theorem cls1:∀ c:Fin 256,194≤c.val→c.val<224→firstT c.val % 8=2∧accLo (firstT c.val / 16)=128∧accHi (firstT c.val / 16)=191:=by decide +kernel
theorem cls2:∀ c:Fin 256,224≤c.val→c.val<240→firstT c.val % 8=3∧(c.val=224∧accLo (firstT c.val / 16)=160∨c.val≠224∧accLo (firstT c.val / 16)=128)∧(c.val=237∧accHi (firstT c.val / 16)=159∨c.val≠237∧accHi (firstT c.val / 16)=191):=by decide +kernel
theorem cls3:∀ c:Fin 256,240≤c.val→c.val<245→firstT c.val % 8=4∧(c.val=240∧accLo (firstT c.val / 16)=144∨c.val≠240∧accLo (firstT c.val / 16)=128)∧(c.val=244∧accHi (firstT c.val / 16)=143∨c.val≠244∧accHi (firstT c.val / 16)=191):=by decide +kernel
theorem cls0:∀ c:Fin 256,128≤c.val→(c.val<194∨245≤c.val)→firstT c.val % 8=1:=by decide +kernel
theorem ck2 (d b1 b2 b3 lo hi:Nat):checkN d b1 b2 b3 2 lo hi=if d<2∨b1<lo∨hi<b1 then none else some 2:=rfl
theorem ck3 (d b1 b2 b3 lo hi:Nat):checkN d b1 b2 b3 3 lo hi=if d<3∨b1<lo∨hi<b1∨b2<128∨191<b2 then none else some 3:=rfl
theorem ck4 (d b1 b2 b3 lo hi:Nat):checkN d b1 b2 b3 4 lo hi=if d<4∨b1<lo∨hi<b1∨b2<128∨191<b2∨b3<128∨191<b3 then none else some 4:=rfl
theorem rutf_ok {s:ByteArray} {w:World} (hs:s.size≤140737488355300) {K:Bool→World→Prop} (hK:K (validD (bytes s)) w):C.tocsinref01_Utf8 s w K:=by
 have hlen:(bytes s).length=s.size:=(size_eq s).symm
 unfold C.tocsinref01_Utf8 C.tocsinref01_Utf8.S21
 refine C.tocsinref01_Utf8.L5_ind fun X hX=>?_
 have key:∀ (d i:Nat),s.size=i+d→K (validD ((bytes s).drop i)) w→X s (i:Int) w:=by
  intro d
  induction d using Nat.strongRecOn with
  | _ d ih =>
   intro i hi hK
   refine hX _ _ _ ?_
   unfold C.tocsinref01_Utf8.S19 C.tocsinref01_Utf8.S2
   refine cond_d (fun h0=>?_) (fun h0=>?_)
   ·have hpos:i<s.size:=by omega
    have hg:∀ j,((bytes s).drop i).getD j 0=(bytes s).getD (i+j) 0:=fun j=>by simp [List.getD_eq_getElem?_getD,List.getElem?_drop]
    have hdl:((bytes s).drop i).length=d:=by rw [List.length_drop,hlen];omega
    have hne:(bytes s).drop i≠[]:=fun e=>by rw [e] at hdl;simp at hdl;omega
    unfold C.tocsinref01_Utf8.S17
    refine ixS_at (k:=i) rfl hpos ?_
    have hc:=((bytes s).getD i 0).toNat_lt
    have v1:((bytes s).getD i 0).toNat<128→validD ((bytes s).drop i)=validD ((bytes s).drop (i+1)):=fun h=>by
     rw [List.drop_eq_getElem_cons (by omega),validD_cons _ _ (by
      have:(bytes s).getD i 0=(bytes s)[i]'(by omega):=by rw [List.getD_eq_getElem?_getD,List.getElem?_eq_getElem (by omega),Option.getD_some]
      rw [← this];exact h)]
    have v2:=fun h:128≤((bytes s).getD i 0).toNat=>validD_lead _ hne (by rw [hg,Nat.add_zero];exact h)
    simp only [hg,hdl,Nat.add_zero] at v2
    have h1:=((bytes s).getD (i+1) 0).toNat_lt
    have h2:=((bytes s).getD (i+2) 0).toNat_lt
    have h3:=((bytes s).getD (i+3) 0).toNat_lt
    rw [wI64 (x:=(((bytes s).getD i 0).toNat:Int)) (by omega) (by omega)]
    -- one round of the inner loop
    have round:∀ (Y:Cur C.tocsinref01_Utf8.g11),(∀ s_10 i_11 n_12 least_13 r_14 k_15 w,C.tocsinref01_Utf8.S13 K X Y s_10 i_11 n_12 least_13 r_14 k_15 w→Y s_10 i_11 n_12 least_13 r_14 k_15 w) →
      ∀ (n k r:Nat) (least:Int),k≤n→k≤3→r<1000000→(s.size≤i+k∨(((bytes s).getD (i+k) 0).toNat<128∨191<((bytes s).getD (i+k) 0).toNat)→K false w) →
      (¬ (s.size≤i+k)→128≤((bytes s).getD (i+k) 0).toNat→((bytes s).getD (i+k) 0).toNat≤191→Y s (i:Int) (n:Int) least ((r*64+((bytes s).getD (i+k) 0).toNat % 64:Nat):Int) ((k+1:Nat):Int) w) →
      Y s (i:Int) (n:Int) least (r:Int) (k:Int) w:=by
     intro Y hY n k r least hk hk3 hr hF hN
     refine hY _ _ _ _ _ _ _ ?_
     unfold C.tocsinref01_Utf8.S13
     refine cond_d (fun _=>?_) (fun h=>by omega)
     rw [wI64 (x:=(i:Int)+(k:Int)) (by omega) (by omega)]
     refine cond_d (fun h=>hF (.inl (by omega))) (fun h=>?_)
     have hb:=((bytes s).getD (i+k) 0).toNat_lt
     refine ixS_at (k:=i+k) (by omega) (by omega) ?_
     rw [and192 hb]
     have ht2:=top2 ⟨_,hb⟩
     simp only at ht2
     refine cond_ne (fun h'=>?_) (fun h'=>?_)
     ·refine hF (.inr ?_)
      have:¬ (((bytes s).getD (i+k) 0).toNat &&& 192=128):=fun e=>h' (by rw [e];rfl)
      rw [ht2] at this;omega
     ·have h'':((bytes s).getD (i+k) 0).toNat &&& 192=128:=by exact_mod_cast h'
      rw [ht2] at h''
      refine ixS_at (k:=i+k) (by omega) (by omega) ?_
      rw [and63 hb,wI64 (x:=(r:Int)*64) (by omega) (by omega),wI64 (by omega) (by omega),wI64 (by omega) (by omega),
       show (r:Int)*64+((((bytes s).getD (i+k) 0).toNat % 64:Nat):Int)=((r*64+((bytes s).getD (i+k) 0).toNat % 64:Nat):Int) by omega,show (k:Int)+1=((k+1:Nat):Int) by omega]
      exact hN (by omega) h''.1 h''.2
    have done:∀ (Y:Cur C.tocsinref01_Utf8.g11),(∀ s_10 i_11 n_12 least_13 r_14 k_15 w,C.tocsinref01_Utf8.S13 K X Y s_10 i_11 n_12 least_13 r_14 k_15 w→Y s_10 i_11 n_12 least_13 r_14 k_15 w) →
      ∀ (n r:Nat) (least:Nat),n≤3→i+n<s.size→((r<least∨r > 1114111∨(r ≥ 55296∧r<57344))→K false w) →
      (¬ (r<least∨r > 1114111∨(r ≥ 55296∧r<57344))→K (validD ((bytes s).drop (i+(n+1)))) w)→Y s (i:Int) (n:Int) (least:Int) (r:Int) ((n+1:Nat):Int) w:=by
     intro Y hY n r least hn hsz hF hN
     refine hY _ _ _ _ _ _ _ ?_
     unfold C.tocsinref01_Utf8.S13 C.tocsinref01_Utf8.S8
     refine cond_d (fun h=>by omega) (fun _=>?_)
     refine cond_d (fun h=>hF (.inl (by omega))) (fun q1=>?_)
     refine cond_d (fun h=>hF (.inr (.inl (by omega)))) (fun q2=>?_)
     refine andc (fun q3 q4=>hF (.inr (.inr (by omega)))) (fun q3=>?_)
     rw [wI64 (x:=(i:Int)+(n:Int)) (by omega) (by omega),wI64 (by omega) (by omega),show (i:Int)+(n:Int)+1=((i+(n+1):Nat):Int) by omega]
     exact ih (d-(n+1)) (by omega) (i+(n+1)) (by omega) (hN (by omega))
    refine cond_d (fun ha=>?_) (fun ha=>?_)
    ·rw [wI64 (by omega) (by omega),show (i:Int)+1=((i+1:Nat):Int) by omega]
     refine ih (d-1) (by omega) (i+1) (by omega) ?_
     rw [v1 (by omega)] at hK;exact hK
    have hv:=v2 (by omega)
    generalize hcc:((bytes s).getD i 0).toNat=c at *
    clear v1 v2
    refine andc (fun p1 p2=>?_) (fun p1=>andc (fun p3 p4=>?_) (fun p3=>andc (fun p5 p6=>?_) (fun p5=>?_)))
    ·obtain ⟨z1,z2,z3⟩:=cls1 ⟨c,hc⟩ (by simp only;omega) (by simp only;omega)
     simp only at z1 z2 z3
     rw [z1,ck2] at hv
     generalize accLo (firstT c / 16)=lo at *
     generalize accHi (firstT c / 16)=hi' at *
     rw [show Go.bits .and .i64 (c:Int) (31:Int)=((c % 32:Nat):Int) by rw [show (31:Int)=((31:Nat):Int) from rfl,and_i64 (by omega) (by omega),show c &&& 31=c % 32 from Nat.and_two_pow_sub_one_eq_mod c 5]]
     unfold C.tocsinref01_Utf8.S15
     refine C.tocsinref01_Utf8.L11_ind fun Y hY=>?_
     refine round Y hY 1 1 _ _ (by omega) (by omega) (by omega) (fun hF=>?_) (fun q1 q2 q3=>?_)
     ·rw [if_pos (by omega)] at hv
      have hv':validD ((bytes s).drop i)=false:=hv
      rw [hv'] at hK;exact hK
     refine done Y hY 1 _ 128 (by omega) (by omega) (fun hF=>?_) (fun hN=>?_)
     ·omega
     rw [if_neg (by omega)] at hv
     have hv':validD ((bytes s).drop i)=validD (((bytes s).drop i).drop 2):=hv
     rw [hv',List.drop_drop] at hK;exact hK
    ·obtain ⟨z1,z2,z3⟩:=cls2 ⟨c,hc⟩ (by simp only;omega) (by simp only;omega)
     simp only at z1 z2 z3
     rw [z1,ck3] at hv
     generalize accLo (firstT c / 16)=lo at *
     generalize accHi (firstT c / 16)=hi' at *
     rw [show Go.bits .and .i64 (c:Int) (15:Int)=((c % 16:Nat):Int) by rw [show (15:Int)=((15:Nat):Int) from rfl,and_i64 (by omega) (by omega),show c &&& 15=c % 16 from Nat.and_two_pow_sub_one_eq_mod c 4]]
     unfold C.tocsinref01_Utf8.S15
     refine C.tocsinref01_Utf8.L11_ind fun Y hY=>?_
     refine round Y hY 2 1 _ _ (by omega) (by omega) (by omega) (fun hF=>?_) (fun q1 q2 q3=>?_)
     ·rw [if_pos (by omega)] at hv
      have hv':validD ((bytes s).drop i)=false:=hv
      rw [hv'] at hK;exact hK
     refine round Y hY 2 2 _ _ (by omega) (by omega) (by omega) (fun hF=>?_) (fun q4 q5 q6=>?_)
     ·rw [if_pos (by omega)] at hv
      have hv':validD ((bytes s).drop i)=false:=hv
      rw [hv'] at hK;exact hK
     refine done Y hY 2 _ 2048 (by omega) (by omega) (fun hF=>?_) (fun hN=>?_)
     ·rw [if_pos (by omega)] at hv
      have hv':validD ((bytes s).drop i)=false:=hv
      rw [hv'] at hK;exact hK
     rw [if_neg (by omega)] at hv
     have hv':validD ((bytes s).drop i)=validD (((bytes s).drop i).drop 3):=hv
     rw [hv',List.drop_drop] at hK;exact hK
    ·obtain ⟨z1,z2,z3⟩:=cls3 ⟨c,hc⟩ (by simp only;omega) (by simp only;omega)
     simp only at z1 z2 z3
     rw [z1,ck4] at hv
     generalize accLo (firstT c / 16)=lo at *
     generalize accHi (firstT c / 16)=hi' at *
     rw [show Go.bits .and .i64 (c:Int) (7:Int)=((c % 8:Nat):Int) by rw [show (7:Int)=((7:Nat):Int) from rfl,and_i64 (by omega) (by omega),show c &&& 7=c % 8 from Nat.and_two_pow_sub_one_eq_mod c 3]]
     unfold C.tocsinref01_Utf8.S15
     refine C.tocsinref01_Utf8.L11_ind fun Y hY=>?_
     refine round Y hY 3 1 _ _ (by omega) (by omega) (by omega) (fun hF=>?_) (fun q1 q2 q3=>?_)
     ·rw [if_pos (by omega)] at hv
      have hv':validD ((bytes s).drop i)=false:=hv
      rw [hv'] at hK;exact hK
     refine round Y hY 3 2 _ _ (by omega) (by omega) (by omega) (fun hF=>?_) (fun q4 q5 q6=>?_)
     ·rw [if_pos (by omega)] at hv
      have hv':validD ((bytes s).drop i)=false:=hv
      rw [hv'] at hK;exact hK
     refine round Y hY 3 3 _ _ (by omega) (by omega) (by omega) (fun hF=>?_) (fun q7 q8 q9=>?_)
     ·rw [if_pos (by omega)] at hv
      have hv':validD ((bytes s).drop i)=false:=hv
      rw [hv'] at hK;exact hK
     refine done Y hY 3 _ 65536 (by omega) (by omega) (fun hF=>?_) (fun hN=>?_)
     ·rw [if_pos (by omega)] at hv
      have hv':validD ((bytes s).drop i)=false:=hv
      rw [hv'] at hK;exact hK
     rw [if_neg (by omega)] at hv
     have hv':validD ((bytes s).drop i)=validD (((bytes s).drop i).drop 4):=hv
     rw [hv',List.drop_drop] at hK;exact hK
    ·have z:=cls0 ⟨c,hc⟩ (by simp only;omega) (by simp only;omega)
     simp only at z
     rw [z] at hv
     have hv':validD ((bytes s).drop i)=false:=hv
     rw [hv'] at hK;exact hK
   ·rw [List.drop_of_length_le (by omega),validD_nil] at hK
    exact hK
 exact key s.size 0 (by omega) (by simpa using hK)
end Go.Proofs.YtmfgmcajelmgbaaGreatDoor.Utf

namespace Go.Proofs.YtmfgmcajelmgbaaGreatDoor.Lab
open Go Vm Go.RowKit Num Mem Utf Lib
variable {ω ω' : Tg} {w w' w0 : World}
theorem rletter_ok {c:Nat} {K:Bool→World→Prop} (hK:K (letterB c) w):C.tocsinref04_letter (c:Int) w K:=by
 unfold C.tocsinref04_letter
 have e95:∀ b:Bool,letterB c=b→(((c:Int)==(95:Int))=(c==95)):=fun _ _=>by
  cases h:(c==95) with
  | true=>simp at h;subst h;rfl
  | false=>simp at h;simp;omega
 have e:=e95 _ rfl
 have yes:letterB c=true→K true w:=fun h=>by rw [h] at hK;exact hK
 have els:(letterB c=(c==95))→K ((c:Int)==(95:Int)) w:=fun h=>by rw [e,← h];exact hK
 refine cond_d (fun h1=>cond_d (fun h2=>yes ?_) (fun h2=>cond_d (fun h3=>cond_d (fun h4=>by omega) (fun h4=>els ?_)) (fun h3=>by omega))) (fun h1=>cond_d (fun h3=>cond_d (fun h4=>yes ?_) (fun h4=>els ?_)) (fun h3=>els ?_))
 all_goals (unfold letterB;simp;try omega)
theorem rdigit_ok {c:Nat} {K:Bool→World→Prop} (hK:K (digitB c) w):C.tocsinref04_digit (c:Int) w K:=by
 unfold C.tocsinref04_digit
 unfold digitB at hK
 refine cond_d (fun h=>?_) (fun h=>?_)
 ·have e:decide ((c:Int)≤57)=decide (c≤57):=by simp only [decide_eq_decide];omega
  rw [e]
  rw [decide_eq_true (by omega:48≤c)] at hK
  exact hK
 ·rw [decide_eq_false (by omega:¬ 48≤c)] at hK
  exact hK
theorem let_dig {c:Nat} (h:letterB c=true):digitB c=false:=by
 unfold letterB at h
 unfold digitB
 simp at h ⊢
 omega
theorem okB_eq {c:Nat} {a b:Bool} (h1:letterB c=a) (h2:digitB c=b):okB false c=(a || b):=by unfold okB;rw [h1,h2];simp
theorem rname_ok {s:ByteArray} {K:Bool→World→Prop} (hK:K (namedB (Utf.bytes s) 64 false) w0):C.tocsinref04_Name s w0 K:=by
 have hsz:=size_eq s
 have hl:(Utf.bytes s).length=s.size:=hsz.symm
 unfold C.tocsinref04_Name
 have no:namedB (Utf.bytes s) 64 false=false→K false w0:=fun h=>by rwa [h] at hK
 have etl:s.toList=Utf.bytes s:=ByteArray.toList_eq s
 have e0:(⟨#[]⟩:ByteArray).toList=[]:=by rw [ByteArray.toList_eq]
 rw [etl,e0]
 refine cond_of (fun h=>no ?_) (fun h=>?_)
 ·have:Utf.bytes s=[]:=by simpa using h
  unfold namedB;rw [this];rfl
 have hne:Utf.bytes s≠[]:=by intro e;rw [e] at h;simp at h
 have hpos:0<s.size:=by rw [← hl];exact List.length_pos_iff.2 hne
 refine cond_d (fun h=>no ?_) (fun h=>?_)
 ·unfold namedB;rw [decide_eq_false (by omega)];simp
 have hemp:(Utf.bytes s).isEmpty=false:=by cases hb:Utf.bytes s with | nil=>exact absurd hb hne | cons _ _=>rfl
 have hle:decide ((Utf.bytes s).length≤64)=true:=decide_eq_true (by omega)
 have hn:namedB (Utf.bytes s) 64 false=(!digitB ((Utf.bytes s).getD 0 0).toNat&&(Utf.bytes s).all fun c=>okB false c.toNat):=by unfold namedB;rw [hemp,hle];simp
 rw [hn] at hK no
 unfold C.tocsinref04_Name.S9
 refine C.tocsinref04_Name.L5_ind fun X hX=>?_
 have key:∀ (d i:Nat),i+d=s.size→((Utf.bytes s).take i).all (fun c=>okB false c.toNat)=true→(0<i→digitB ((Utf.bytes s).getD 0 0).toNat=false)→X s ((s.size:Nat):Int) (i:Int) w0:=by
  intro d
  induction d with
  | zero =>
   intro i hi ha h0
   refine hX _ _ _ _ ?_
   unfold C.tocsinref04_Name.S7 C.tocsinref04_Name.S2
   refine cond_d (fun h=>by omega) (fun _=>?_)
   rw [List.take_of_length_le (by omega)] at ha
   rw [ha,h0 (by omega)] at hK
   exact hK
  | succ d ih =>
   intro i hi ha h0
   refine hX _ _ _ _ ?_
   unfold C.tocsinref04_Name.S7
   have hil:i<(Utf.bytes s).length:=by omega
   have hg:(Utf.bytes s).getD i 0=(Utf.bytes s)[i]:=by rw [List.getD_eq_getElem?_getD,List.getElem?_eq_getElem hil,Option.getD_some]
   refine cond_d (fun _=>?_) (fun h=>by omega)
   have next:okB false (Utf.bytes s)[i].toNat=true→(i=0→digitB ((Utf.bytes s).getD 0 0).toNat=false)→X s ((s.size:Nat):Int) (IntKind.i64.wrap ((i:Int)+1)) w0:=fun hok hz=>by
    rw [wI64 (by omega) (by omega),show (i:Int)+1=((i+1:Nat):Int) by omega]
    refine ih (i+1) (by omega) ?_ (fun _=>if h:i=0 then hz h else h0 (by omega))
    rw [List.take_add_one,List.getElem?_eq_getElem hil,List.all_append,ha]
    show (true&&(okB false (Utf.bytes s)[i].toNat&&true))=true
    rw [hok];rfl
   have stop:okB false (Utf.bytes s)[i].toNat=false→K false w0:=fun hok=>no (by
    have:(Utf.bytes s).all (fun c=>okB false c.toNat)=false:=by
     rw [List.all_eq_false]
     exact ⟨(Utf.bytes s)[i],List.getElem_mem hil,by rw [hok];decide⟩
    rw [this,Bool.and_false])
   refine ixS_at (k:=i) rfl (by omega) ?_
   rw [hg]
   refine rletter_ok (cond_of (fun hlt=>?_) (fun hlt=>?_))
   ·simp only [Bool.not_eq_true'] at hlt
    refine cond_eq (fun hz=>?_) (fun hz=>?_)
    ·have hz:i=0:=by omega
     subst hz
     by_cases hdg:digitB (Utf.bytes s)[0].toNat=true
     ·exact no (by rw [hg,hdg];rfl)
     ·exact stop (by rw [okB_eq hlt (Bool.eq_false_iff.2 hdg)];rfl)
    ·refine ixS_at (k:=i) rfl (by omega) ?_
     rw [hg]
     refine rdigit_ok (cond_of (fun hdt=>stop ?_) (fun hdt=>next ?_ (fun e=>by omega)))
     ·simp only [Bool.not_eq_true'] at hdt
      rw [okB_eq hlt hdt];rfl
     ·simp only [Bool.not_eq_false'] at hdt
      rw [okB_eq hlt hdt];rfl
   ·have hlt:letterB (Utf.bytes s)[i].toNat=true:=by simpa only [Bool.not_eq_false'] using hlt
    exact next (by rw [okB_eq hlt (let_dig hlt)];rfl) (fun e=>by subst e;rw [hg];exact let_dig hlt)
 exact key s.size 0 (by omega) rfl (fun h=>absurd h (Nat.lt_irrefl _))
def oneE (x:Lb):Int:=if namedB (Utf.bytes x.1) 64 false=false then 40 else valE (Utf.bytes x.2)
theorem rone_ok {x:Lb} (hs:x.2.size≤140737488355300) {K:Int→World→Prop} (hK:∀ w',Keep w0 w'→K (oneE x) w'):C.tocsinref04_one x.1 x.2 w0 K:=by
 unfold C.tocsinref04_one
 refine new_T (ω:=fun _=>0) 7 fun g ω1 w1 k1 b1=>?_
 have hl:(Utf.bytes x.2).length=x.2.size:=(size_eq x.2).symm
 have etl:x.2.toList=Utf.bytes x.2:=ByteArray.toList_eq x.2
 have e0:(⟨#[]⟩:ByteArray).toList=[]:=by rw [ByteArray.toList_eq]
 have key:=hK w1 k1.keep
 unfold oneE valE at key
 refine cS_at (b:=x.1) (by rw [b1.cell];rfl)<|rname_ok<|cond_of (fun h=>?_) (fun h=>?_)
 ·rw [if_pos (by simpa using h)] at key;exact key
 rw [if_neg (by simpa using h)] at key
 refine cS_at (b:=x.2) (by rw [addr_add,b1.cell];rfl) ?_
 rw [etl,e0]
 refine cond_of (fun h=>?_) (fun h=>?_)
 ·rw [if_pos (by simpa using h)] at key;exact key
 rw [if_neg (by intro e;rw [e] at h;simp at h)] at key
 refine cS_at (b:=x.2) (by rw [addr_add,b1.cell];rfl)<|cond_d (fun h=>?_) (fun h=>?_)
 ·rw [if_pos (by omega)] at key;exact key
 rw [if_neg (by omega)] at key
 refine cS_at (b:=x.2) (by rw [addr_add,b1.cell];rfl)<|rutf_ok hs<|cond_of (fun h=>?_) (fun h=>?_)
 ·rw [if_neg (by simpa using h)] at key;exact key
 ·rw [if_pos (by simpa using h)] at key;exact key
theorem back_cb (p x:ByteArray):(!(Op.bytesLess p.toList x.toList))=backB (some p) x:=by
 show _=((Op.bytesLess x.toList p.toList) || (x.toList==p.toList))
 rw [lessB,lessB,eqB]
 have h1:=cB_cmp.vals x p
 have h2:=cB_cmp.anti x p
 rcases h1 with e | e | e<;>rw [e] at h2 ⊢<;>rw [h2]<;>rfl
theorem rright_ok {s:Sl} {m:List Lb} (hs:Rd w0 s 2 (labs m)) (hz:∀ x∈m,x.2.size≤140737488355300) {K:Int→Int→World→Prop} (hK:∀ w',Keep w0 w'→K (rt m).1 ((rt m).2:Int) w'):C.tocsinref04_Right s w0 K:=by
 have hsn:s.n=m.length:=by have:=hs.2.1;rw [labs_len] at this;omega
 unfold C.tocsinref04_Right
 unfold rt at hK
 refine cond_d (fun h=>?_) (fun h=>?_)
 ·rw [if_pos (by omega)] at hK;exact hK w0 (Keep.refl w0)
 rw [if_neg (by omega)] at hK
 unfold C.tocsinref04_Right.S9
 refine C.tocsinref04_Right.L5_ind fun X hX=>?_
 have key:∀ (d i:Nat) (w:World),i+d=m.length→Keep w0 w→rtGo (if i=0 then none else (m[i-1]?).map (·.1)) (m.drop i) i=rtGo none m 0→X s s ((s.n:Nat):Int) (i:Int) w:=by
  intro d
  induction d with
  | zero =>
   intro i w hi k e
   refine hX _ _ _ _ _ ?_
   unfold C.tocsinref04_Right.S7 C.tocsinref04_Right.S2
   refine cond_d (fun h=>by omega) (fun _=>?_)
   rw [List.drop_of_length_le (by omega)] at e
   have:=hK w k
   rwa [← e] at this
  | succ d ih =>
   intro i w hi k e
   have him:i<m.length:=by omega
   refine hX _ _ _ _ _ ?_
   unfold C.tocsinref04_Right.S7
   refine cond_d (fun _=>?_) (fun h=>by omega)
   have hx:m[i]?=some m[i]:=List.getElem?_eq_getElem him
   refine rdL_at (hs.keep k) (k:=i) rfl hx fun a hc0 hc1=>cS_at hc0<|cS_at hc1 ?_
   refine new_T (ω:=fun _=>0) 7 fun g ω2 w2 k2 b2=>?_
   refine st_T b2 (by simp) fun ω3 w3 k3 b3=>?_
   refine st_TA b3 (by simp) fun ω4 w4 k4 b4=>?_
   have k04:=Keep.trans k ((Top.init w).stp ((k2.non (Mem.One 7)).trans (k3.trans k4))).k
   rw [List.drop_eq_getElem_cons him,rtGo] at e
   have out:∀ (c:Int) w',(c,i)=rtGo none m 0→Keep w0 w'→K c (i:Int) w':=fun c w' ec kk=>by
    have:=hK w' kk
    rwa [← ec] at this
   refine cS_at (b:=m[i].1) (by rw [b4.cell];rfl)<|cS_at (b:=m[i].2) (by rw [addr_add,b4.cell];rfl) ?_
   refine rone_ok (hz _ (List.getElem_mem him)) fun w5 k5=>?_
   have k05:=Keep.trans k04 k5
   have b5:=b4.stp (k5.stp0 ω4)
   unfold oneE
   refine cond_ne (fun hn=>?_) (fun hn=>?_)
   ·split at hn
    ·rename_i h1
     rw [if_pos h1] at e ⊢;exact out 40 w5 e k05
    ·rename_i h1
     rw [if_neg h1] at e ⊢
     rw [if_pos hn] at e;exact out _ w5 e k05
   have h1:¬ namedB (Utf.bytes m[i].1) 64 false=false:=fun h=>by rw [if_pos h] at hn;cases hn
   rw [if_neg h1] at hn e
   rw [if_neg (by simpa using hn)] at e
   have next:backB (if i=0 then none else (m[i-1]?).map (·.1)) m[i].1=false→∀ w',Keep w0 w'→X s s ((s.n:Nat):Int) (IntKind.i64.wrap ((i:Int)+1)) w':=fun hb w' kk=>by
    rw [hb,if_neg (by decide)] at e
    rw [wI64 (by omega) (by omega),show (i:Int)+1=((i+1:Nat):Int) by omega]
    refine ih (i+1) w' (by omega) kk ?_
    rw [if_neg (by omega),Nat.add_sub_cancel,hx];exact e
   have k06:=Keep.trans k05 (Keep.drew w5)
   refine cond_d (fun hi0=>?_) (fun hi0=>next ?_ _ k06)
   ·have hy:m[i-1]?=some m[i-1]:=List.getElem?_eq_getElem (by omega)
    refine rdL_at (hs.keep k06) (k:=i-1) (by rw [wI64 (by omega) (by omega)];omega) hy fun p hp0 _=>cS_at hp0<|cS_at (b:=m[i].1) (by rw [(b5.stp (drew_stp ω4 w5)).cell];rfl) ?_
    have eb:backB (if i=0 then none else (m[i-1]?).map (·.1)) m[i].1=backB (some m[i-1].1) m[i].1:=by
     rw [if_neg (by omega),hy];rfl
    rw [back_cb]
    refine cond_of (fun hb=>?_) (fun hb=>next (by rw [eb];exact hb) _ k06)
    rw [eb,hb,if_pos rfl] at e
    exact out 3 _ e k06
   ·rw [if_pos (by omega)];rfl
 exact key m.length 0 w0 (by omega) (Keep.refl w0) rfl
end Go.Proofs.YtmfgmcajelmgbaaGreatDoor.Lab

namespace Go.Proofs.YtmfgmcajelmgbaaGreatDoor.Sm
open Go Vm Go.RowKit Num Mem
variable {ω ω' : Tg} {w w' w0 : World}
abbrev Smp:=Int × Nat
def smpC (s:Smp):List Value:=[.int .i64 s.1,.float .f64 s.2]
def smps (l:List Smp):List Value:=l.flatMap smpC
theorem smps_app (a b:List Smp):smps (a++b)=smps a++smps b:=List.flatMap_append
theorem smps_len (l:List Smp):(smps l).length=l.length*2:=by
 induction l with
 | nil=>rfl
 | cons s l ih=>simp only [smps,List.flatMap_cons,List.length_append,List.length_cons] at *;simp [smpC] at *;omega
theorem smps_at:∀ (l:List Smp) (i:Nat) (s:Smp),l[i]?=some s→(smps l)[i*2+0]?=some (.int .i64 s.1)∧(smps l)[i*2+1]?=some (.float .f64 s.2)
 | [],i,s,h=>by simp at h
 | x::l,0,s,h=>by
  simp only [List.getElem?_cons_zero,Option.some.injEq] at h
  subst h
  exact ⟨rfl,rfl⟩
 | x::l,i+1,s,h=>by
  have ih:=smps_at l i s (by simpa using h)
  have e:smps (x::l)=.int .i64 x.1::.float .f64 x.2::smps l:=rfl
  rw [e,show (i+1)*2+0=(i*2+0)+1+1 by omega,show (i+1)*2+1=(i*2+1)+1+1 by omega]
  simpa using ih
theorem smps_one {l:List Smp}:∀ v∈smps l,v.oneCell'=true:=by
 intro v hv
 obtain ⟨s,_,hs⟩:=List.mem_flatMap.1 hv
 simp only [smpC,List.mem_cons,List.not_mem_nil,or_false] at hs
 rcases hs with rfl | rfl<;>rfl
theorem rdS_len {s:Sl} {m:List Smp} (h:Rd w s 2 (smps m)):s.n=m.length:=by have:=h.2.1;rw [smps_len] at this;omega
theorem rdS_at {s:Sl} {m:List Smp} (h:Rd w s 2 (smps m)) {i:Int} {k:Nat} {x:Smp} (ei:i=(k:Int)) (hx:m[k]?=some x) {K:Addr→Prop}
  (hK:∀ a:Addr,w.cell? a=some (.int .i64 x.1)→w.cell? (a.add 1)=some (.float .f64 x.2)→K a):G.ix s.a s.n i 2 K:=by
 have hk:k<m.length:=(List.getElem?_eq_some_iff.1 hx).1
 have hn:=rdS_len h
 subst ei
 obtain ⟨e0,e1⟩:=smps_at m k x hx
 refine Rd.ix h (by decide) (by omega) (by omega) fun a hc=>hK a ?_ ?_
 ·have:=hc 0 _ (by decide) (by rw [Int.toNat_natCast];exact e0)
  rwa [show a.add 0=a by simp [Addr.add]] at this
 ·exact hc 1 _ (by decide) (by rw [Int.toNat_natCast];exact e1)
theorem rd_none {s:Sl} {sz:Nat} {xs:List Value} (h:Rd w s sz xs) (hs:0<sz) (hn:s.a.isNone=true):xs=[]∧s.n=0:=by
 have e:xs=[]:=by
  by_cases e:xs=[]
  ·exact e
  ·obtain ⟨g,o,ha,_⟩:=h.2.2 e
   rw [ha] at hn;cases hn
 refine ⟨e,?_⟩
 have:=h.2.1
 rw [e] at this
 rcases Nat.mul_eq_zero.1 this.symm with h | h
 ·exact h
 ·omega
theorem clone_ok {P:Program} {t e:TypeId} {sz bytes:Nat} (ti:TI P t e sz bytes) {s:Sl} {xs:List Value} (h:Rd w s sz xs) (h1:∀ v∈xs,v.oneCell'=true) (hm:s.n≤maxLen) (hy:s.n*bytes≤140737488355328)
  {K:Sl→World→Prop} (hK:∀ r w',Keep w w'→Mem.Own w' w.heap.size e sz r xs→r.n=s.n→K r w') :
  G.cond s.a.isNone (K nilS w) (G.new (.cells #[] e) w fun p w4=>G.runSl P (Builtin.append_ #[t,t] t #[(Sl.v (⟨some p,0,0⟩:Sl)),s.v]) w4 fun l w6=>K l w6):=by
 refine cond_of (fun h0=>?_) (fun h0=>new_at ?_)
 ·obtain ⟨rfl,hn⟩:=rd_none h ti.pos h0
  exact hK nilS w (Keep.refl w) (Own.nil w _ _ _) hn.symm
 ·have k:=Keep.alloc w (.cells #[] e)
  have o:Mem.Own (w.alloc (.cells #[] e)) w.heap.size e sz ⟨some ⟨w.heap.size,0,none⟩,0,0⟩ []:=Own.mk' (Nat.le_refl _) (Blk.new w e #[]) (Nat.le_refl _) (Nat.zero_le _) (by simp) (by simp)
  refine append_own ti k k.size o (h.keep k) h1 (by simpa using hm) (by simpa using hy) fun r w' k' o' hr _=>hK r w' k' (by simpa using o') (by simpa using hr)
end Go.Proofs.YtmfgmcajelmgbaaGreatDoor.Sm

namespace Go.Proofs.YtmfgmcajelmgbaaGreatDoor.Lab
open Go Vm Go.RowKit Num Mem Utf Lib Vint
variable {ω ω' : Tg} {w w' w0 : World}
theorem tiL:TI Tryz.prog 49 93 2 32:=TI.of (z:=.agg #[.string ⟨#[]⟩,.string ⟨#[]⟩]) (by kernel_rfl) (by kernel_rfl) rfl (by decide)
theorem labs_one {l:List Lb}:∀ v∈labs l,v.oneCell'=true:=by
 intro v hv
 obtain ⟨s,_,hs⟩:=List.mem_flatMap.1 hv
 simp only [labC,List.mem_cons,List.not_mem_nil,or_false] at hs
 rcases hs with rfl | rfl<;>rfl
def keyOf (m:List Lb):ByteArray:=str (Lab.put m)
theorem u8_inj {a b:Nat} (ha:a<256) (hb:b<256) (h:UInt8.ofNat a=UInt8.ofNat b):a=b:=by
 have:=congrArg UInt8.toNat h
 rw [UInt8.toNat_ofNat',UInt8.toNat_ofNat',Nat.mod_eq_of_lt ha,Nat.mod_eq_of_lt hb] at this
 exact this
theorem putU_inj:∀ (f n n':Nat) (y y':List UInt8),n<f→putU n++y=putU n'++y'→n=n'∧y=y'
 | 0,n,n',y,y',h,_=>absurd h (Nat.not_lt_zero _)
 | f+1,n,n',y,y',h,e=>by
  by_cases h1:n<128<;>by_cases h2:n'<128
  ·rw [putU_lt h1,putU_lt h2] at e
   simp only [List.cons_append,List.nil_append,List.cons.injEq] at e
   exact ⟨u8_inj (by omega) (by omega) e.1,e.2⟩
  ·rw [putU_lt h1,putU_ge h2] at e
   simp only [List.cons_append,List.nil_append,List.cons.injEq] at e
   have:=u8_inj (by omega) (by omega) e.1
   omega
  ·rw [putU_ge h1,putU_lt h2] at e
   simp only [List.cons_append,List.nil_append,List.cons.injEq] at e
   have:=u8_inj (by omega) (by omega) e.1
   omega
  ·rw [putU_ge h1,putU_ge h2] at e
   simp only [List.cons_append,List.cons.injEq] at e
   have e1:=u8_inj (by omega) (by omega) e.1
   obtain ⟨e2,e3⟩:=putU_inj f (n / 128) (n' / 128) y y' (by omega) e.2
   exact ⟨by omega,e3⟩
theorem txt_inj {s s':ByteArray} {y y':List UInt8} (h:txt s++y=txt s'++y'):s=s'∧y=y':=by
 unfold txt at h
 rw [List.append_assoc,List.append_assoc] at h
 obtain ⟨h1,h2⟩:=putU_inj _ _ _ _ _ (Nat.lt_succ_self _) h
 obtain ⟨h3,h4⟩:=List.append_inj h2 (by rw [← szB,← szB,h1])
 refine ⟨?_,h4⟩
 have:s.data=s'.data:=Array.toList_inj.1 h3
 cases s;cases s';simp at this;rw [this]
theorem flat_inj:∀ {a b:List Lb},a.length=b.length→a.flatMap labB=b.flatMap labB→a=b
 | [],[],_,_=>rfl
 | [],y::b,h,_=>by simp at h
 | x::a,[],h,_=>by simp at h
 | x::a,y::b,h,e=>by
  simp only [List.flatMap_cons,labB,List.append_assoc] at e
  obtain ⟨e1,e⟩:=txt_inj e
  obtain ⟨e2,e⟩:=txt_inj e
  rw [Prod.ext e1 e2,flat_inj (by simpa using h) e]
theorem put_inj {a b:List Lb} (h:Lab.put a=Lab.put b):a=b:=by
 unfold Lab.put at h
 obtain ⟨h1,h2⟩:=putU_inj _ _ _ _ _ (Nat.lt_succ_self _) h
 exact flat_inj h1 h2
theorem key_inj {a b:List Lb} (h:keyOf a=keyOf b):a=b:=by
 refine put_inj ?_
 have:=congrArg Utf.bytes h
 rwa [keyOf,keyOf,bytes_str,bytes_str] at this
end Go.Proofs.YtmfgmcajelmgbaaGreatDoor.Lab

namespace Go.Proofs.YtmfgmcajelmgbaaGreatDoor.Bits
open Go Vm Go.RowKit Num Mem
def orBit (c:UInt8) (j:Nat):UInt8:=UInt8.ofNat (c.toNat ||| 128 / 2 ^ j)
theorem orBit_val (c:UInt8) {j:Nat} (hj:j<8):Value.int .u8 (Go.bits .or .u8 (c.toNat:Int) (shr .u8 (128:Int) (j:Int)))=vB (orBit c j):=by
 have hc:=c.toNat_lt
 have e:=shr_nat .u8 (128:Int) j (by simp only [IntKind.bits];omega)
 have e':(128:Int) / 2 ^ j=((128 / 2 ^ j:Nat):Int):=by simp
 have hlt:128 / 2 ^ j<256:=Nat.lt_of_le_of_lt (Nat.div_le_self _ _) (by decide)
 rw [e,e',bits_or rfl (by simp only [IntKind.bits];omega) (by simp only [IntKind.bits];omega)]
 exact vB_lit (Nat.or_lt_two_pow (n:=8) hc hlt)
def grow (l:List UInt8) (n:Nat):List UInt8:=if n % 8=0 then l++[0] else l
def putB (l:List UInt8) (n:Nat) (b:Bool):List UInt8:=if b then (grow l n).set (n / 8) (orBit ((grow l n).getD (n / 8) 0) (n % 8)) else grow l n
theorem grow_len {l:List UInt8} {n:Nat} (h:l.length=(n+7) / 8):(grow l n).length=n / 8+1:=by
 unfold grow;split
 ·simp;omega
 ·omega
theorem putB_len {l:List UInt8} {n:Nat} (b:Bool) (h:l.length=(n+7) / 8):(putB l n b).length=(n+1+7) / 8:=by
 unfold putB;split
 ·rw [List.length_set,grow_len h];omega
 ·rw [grow_len h];omega
structure Wr (w:World) (B g:Nat) (s:Sl) (l:List UInt8) (n:Nat):Prop where
 blk:Blk w g 250 [s.v,.int .i64 (n:Int)]
 own:OwnB w B s l
 ge:B≤g
 ne:s.v.ownBlock≠some g
 len:l.length=(n+7) / 8
abbrev wp (g:Nat):Option Addr:=some ⟨g,0,none⟩
abbrev foot (g:Nat) (s:Sl):Nat→Prop:=fun k=>k=g∨s.v.ownBlock=some k
theorem Wr.keep {w w':World} {B g:Nat} {s:Sl} {l:List UInt8} {n:Nat} (h:Wr w B g s l n) (k:Keep w w'):Wr w' B g s l n:=⟨h.blk.keep k,Own.keep h.own k,h.ge,h.ne,h.len⟩
theorem Wr.lt {w:World} {B g:Nat} {s:Sl} {l:List UInt8} {n:Nat} (h:Wr w B g s l n) {k:Nat} (hk:foot g s k):B≤k∧k<w.heap.size:=by
 rcases hk with rfl | hk
 ·exact ⟨h.ge,h.blk.lt⟩
 ·exact Own.geC h.own hk
theorem Wr.rd0 {w:World} {B g:Nat} {s:Sl} {l:List UInt8} {n:Nat} (h:Wr w B g s l n) {K:Sl→Prop} (hK:K s):G.ptr (wp g) fun p=>G.cSl p w K:=ptr_at (cSl_at (by rw [h.blk.cell];rfl) hK)
theorem Wr.rd1 {w:World} {B g:Nat} {s:Sl} {l:List UInt8} {n:Nat} (h:Wr w B g s l n) {K:Int→Prop} (hK:K (n:Int)):G.ptr (wp g) fun p=>G.cI .i64 (p.add 1) w K:=⟨n,by rw [addr_add,h.blk.cell];rfl,hK⟩
theorem new_ok {w:World} {K:Option Addr→World→Prop} (hK:∀ w',Keep w w'→Wr w' w.heap.size w.heap.size nilS [] 0→w'.heap.size=w.heap.size+1→K (wp w.heap.size) w'):C.bits_NewWriter w K:=by
 unfold C.bits_NewWriter
 refine hK _ (Keep.alloc w _) ⟨Blk.new w _ _,OwnB.nil _ _,Nat.le_refl _,by simp [Value.ownBlock],rfl⟩ (by simp)
theorem idx8 {n:Nat} (h:n<9223372036854775800):IntKind.i64.wrap (Int.tdiv (n:Int) (8:Int))=((n / 8:Nat):Int):=by
 rw [show Int.tdiv (n:Int) (8:Int)=((n / 8:Nat):Int) from rfl,wI64 (by omega) (by omega)]
theorem mod8 {n:Nat}:IntKind.u64.wrap (Int.tmod (n:Int) (8:Int))=((n % 8:Nat):Int):=by
 rw [show Int.tmod (n:Int) (8:Int)=((n % 8:Nat):Int) from rfl,wU64_id (by omega) (by omega)]
theorem up_ok {w:World} {B g:Nat} {s:Sl} {l':List UInt8} {n:Nat} (hb:Blk w g 250 [s.v,.int .i64 (n:Int)]) (ho:OwnB w B s l') (hg:B≤g) (hne:s.v.ownBlock≠some g) (hl:l'.length=(n+1+7) / 8) (hn:n<9000000)
  {K:World→Prop} (hK:∀ w',Chg (fun k=>k=g) w w'→Wr w' B g s l' (n+1)→K w') :
  C.bits_Writer_put.S2 (fun w=>K w) (wp g) w:=by
 unfold C.bits_Writer_put.S2
 refine ptr_at (cI_at (n:=(n:Int)) (by rw [addr_add,hb.cell];rfl) (ptr_at ?_))
 rw [wI64 (by omega) (by omega),addr_add]
 refine st_at (by rw [hb.cell];rfl) (hb.frozen _) ?_
 refine hK _ (setCell_chg w g 1 _) ⟨hb.set 1 _,Own.chg ho (setCell_chg w g 1 _) (fun k hk e=>hne (by rw [hk,e])),hg,hne,hl⟩
theorem tail_ok {w:World} {B g:Nat} {s:Sl} {l:List UInt8} {n:Nat} (hb:Blk w g 250 [s.v,.int .i64 (n:Int)]) (ho:OwnB w B s l) (hg:B≤g) (hne:s.v.ownBlock≠some g) (hl:l.length=n / 8+1) (hn:n<9000000) (b:Bool)
  {K:World→Prop} (hK:∀ w',Chg (foot g s) w w'→Wr w' B g s (if b then l.set (n / 8) (orBit (l.getD (n / 8) 0) (n % 8)) else l) (n+1)→K w') :
  C.bits_Writer_put.S3 (fun w=>K w) (wp g) b w:=by
 unfold C.bits_Writer_put.S3
 cases b
 ·refine cond_f rfl (up_ok hb ho hg hne (by omega) hn fun w' k1 h1=>hK w' (k1.mono fun k hk=>.inl (.inl hk)) h1)
 ·refine cond_t rfl ?_
  have hbd:=Blk.drew hb
  refine ptr_at (cSl_at (s:=s) (by rw [hbd.cell];rfl) ?_)
  refine ptr_at (cI_at (n:=(n:Int)) (by rw [addr_add,hbd.cell];rfl) ⟨by decide,?_⟩)
  rw [idx8 (by omega)]
  have hsn:=ho.len
  have hlt:n / 8<l.length:=by omega
  refine RdB.at_ (w:=w.drew) ho.rd hlt ?_
  refine ptr_at (cI_at (n:=(n:Int)) (by rw [addr_add,hbd.cell];rfl) ⟨by decide,?_⟩)
  rw [mod8]
  refine ⟨by omega,?_⟩
  rw [orBit_val _ (by omega)]
  refine Own.stC (Own.keep ho (Keep.drew w)) (by omega) _ fun w2 k2 o2=>?_
  have e1:l.getD (n / 8) 0=l[n / 8]:=by rw [List.getD_eq_getElem?_getD,List.getElem?_eq_getElem hlt,Option.getD_some]
  have e2:(vBs l).set (n / 8) (vB (orBit l[n / 8] (n % 8)))=vBs (l.set (n / 8) (orBit l[n / 8] (n % 8))):=by simp [vBs,List.map_set]
  rw [e2] at o2
  have hb2:Blk w2 g 250 [s.v,.int .i64 (n:Int)]:=Blk.chg (Blk.drew hb) k2 (fun e=>hne e)
  refine up_ok hb2 o2 hg hne (by rw [List.length_set];omega) hn fun w3 k3 h3=>?_
  refine hK w3 ?_ (by simpa only [if_true,e1] using h3)
  exact Chg.then (Chg.then (Keep.chg (Keep.drew w) (foot g s)) k2 fun k hk=>.inl (.inr hk)) k3 fun k hk=>.inl (.inl hk)
theorem put_ok {w:World} {B g:Nat} {s:Sl} {l:List UInt8} {n:Nat} (h:Wr w B g s l n) (hB:B≤w.heap.size) (hn:n<9000000) (b:Bool) {K:World→Prop}
  (hK:∀ s' w',Chg (foot g s) w w'→Wr w' B g s' (putB l n b) (n+1)→(∀ k,foot g s' k→foot g s k∨w.heap.size≤k)→K w'):C.bits_Writer_put (wp g) b w K:=by
 unfold C.bits_Writer_put
 refine h.rd1 ⟨by decide,?_⟩
 have hlen:=h.len
 rw [show Int.tmod (n:Int) (8:Int)=((n % 8:Nat):Int) from rfl]
 refine cond_eq (fun hz=>?_) (fun hz=>?_)
 ·have hz':n % 8=0:=by omega
  have hg:grow l n=l++[0]:=if_pos hz'
  refine h.rd0 ?_
  have hsn:=h.own.len
  refine pushC tiB (n:=1) hB h.own (by rfl) (by intro v hv;simp at hv;subst hv;rfl) (by simp only [maxLen];omega) (by omega) fun r w1 k1 o1 hr hf=>?_
  have hb1:=h.blk.chg k1 h.ne
  refine ptr_at (st_at (by rw [hb1.cell];rfl) (hb1.frozen 0) ?_)
  have k2:=setCell_chg w1 g 0 r.v
  have hrg:r.v.ownBlock≠some g:=by
   rcases hf with e | e
   ·rw [e];exact h.ne
   ·intro e'
    have:=e g e'
    have:=h.blk.lt
    omega
  have o2:=Own.chg o1 k2 (fun k hk e=>hrg (by rw [hk,e]))
  have hb2:=hb1.set 0 r.v
  have k12:Chg (foot g s) w _:=Chg.then (k1.mono fun k hk=>.inl (.inr hk)) k2 fun k hk=>.inl (.inl hk)
  have fr:∀ k,foot g r k→foot g s k∨w.heap.size≤k:=fun k hk=>by
   rcases hk with hk | hk
   ·exact .inl (.inl hk)
   ·rcases hf with e | e
    ·rw [e] at hk;exact .inl (.inr hk)
    ·exact .inr (e k hk)
  have o2':OwnB (w1.setCell ⟨g,0,none⟩ r.v) B r (grow l n):=by rw [hg,OwnB,vBs_append];exact o2
  refine tail_ok hb2 o2' h.ge hrg (by rw [grow_len hlen]) hn b fun w3 k3 h3=>?_
  exact hK r w3 (Chg.then k12 k3 fr) h3 fr
 ·have hz':¬ n % 8=0:=by omega
  have hg:grow l n=l:=if_neg hz'
  refine tail_ok h.blk h.own h.ge h.ne (by omega) hn b fun w3 k3 h3=>?_
  refine hK s w3 k3 ?_ fun k hk=>.inl hk
  unfold putB
  rw [hg];exact h3
def putBs:List UInt8→Nat→List Bool→List UInt8
 | l,_,[]=>l
 | l,n,b::r=>putBs (putB l n b) (n+1) r
def bitOf (v i:Nat):Bool:=v / 2 ^ i % 2==1
def low (v:Nat):Nat→List Bool
 | 0=>[]
 | k+1=>bitOf v k::low v k
theorem low_len (v:Nat):∀ k,(low v k).length=k
 | 0=>rfl
 | k+1=>by simp [low,low_len v k]
theorem bit_eq {v i:Nat} (hv:v<18446744073709551616) (hi:i<64):((Go.bits .and .u64 (shr .u64 (v:Int) (i:Int)) (1:Int))==(1:Int))=bitOf v i:=by
 have e:=shr_nat .u64 (v:Int) i (by simp only [IntKind.bits];omega)
 have e':(v:Int) / 2 ^ i=((v / 2 ^ i:Nat):Int):=by simp
 have hlt:v / 2 ^ i<18446744073709551616:=Nat.lt_of_le_of_lt (Nat.div_le_self _ _) hv
 rw [e,e',show (1:Int)=((1:Nat):Int) from rfl,bits_and rfl (by simp only [IntKind.bits];omega) (by decide),Nat.and_one_is_mod]
 unfold bitOf
 rcases Nat.mod_two_eq_zero_or_one (v / 2 ^ i) with h | h<;>rw [h]<;>rfl
end Go.Proofs.YtmfgmcajelmgbaaGreatDoor.Bits

namespace Go.Proofs.YtmfgmcajelmgbaaGreatDoor.Bits
open Go Vm Go.RowKit Num Mem
def badB (v:Nat) (m:Int):Prop:=m<0∨m > 64∨(m<64∧v / 2 ^ m.toNat≠0)
theorem shrZ {v:Nat} {m:Int} (h0:0≤m) (h1:m<64):shr .u64 (v:Int) (IntKind.u64.wrap m)=((v / 2 ^ m.toNat:Nat):Int):=by
 rw [wU64_id h0 (by omega)]
 have e:=shr_nat .u64 (v:Int) m.toNat (by simp only [IntKind.bits];omega)
 rw [show ((m.toNat:Nat):Int)=m by omega] at e
 rw [e];simp
theorem loop_ok {w0:World} {B g:Nat} {s0:Sl} {v:Nat} (hv:v<18446744073709551616) {K:C.bits_Writer_Bits.KT} {X:Cur C.bits_Writer_Bits.g5}
  (hX:∀ w_5 v_6 i_7 w,C.bits_Writer_Bits.S7 K X w_5 v_6 i_7 w→X w_5 v_6 i_7 w) :
  ∀ (k:Nat) (l:List UInt8) (n:Nat) (s:Sl) (w:World),k≤64→n+k≤8388608→B≤w.heap.size→Wr w B g s l n→Chg (foot g s0) w0 w→(∀ j,foot g s j→foot g s0 j∨w0.heap.size≤j) →
   (∀ s' w',Chg (foot g s0) w0 w'→Wr w' B g s' (putBs l n (low v k)) (n+k)→(∀ j,foot g s' j→foot g s0 j∨w0.heap.size≤j)→K 0 w')→X (wp g) (v:Int) ((k:Int)-1) w:=by
 intro k
 induction k with
 | zero =>
  intro l n s w _ _ _ h hc hf hK
  refine hX _ _ _ _ ?_
  unfold C.bits_Writer_Bits.S7 C.bits_Writer_Bits.S2
  refine cond_d (fun h=>by omega) (fun _=>hK s w hc h hf)
 | succ k ih =>
  intro l n s w hk hn hB h hc hf hK
  refine hX _ _ _ _ ?_
  unfold C.bits_Writer_Bits.S7
  rw [show ((k+1:Nat):Int)-1=(k:Int) by omega,wU64_id (by omega) (by omega),bit_eq hv (by omega),wI64 (by omega) (by omega)]
  refine cond_d (fun _=>⟨by omega,?_⟩) (fun h=>by omega)
  refine put_ok h hB (by omega) _ fun s' w' k1 h1 f1=>?_
  have f2:∀ j,foot g s' j→foot g s0 j∨w0.heap.size≤j:=fun j hj=>(f1 j hj).elim (hf j) fun e=>.inr (Nat.le_trans hc.size e)
  refine ih _ (n+1) s' w' (by omega) (by omega) (Nat.le_trans hB k1.size) h1 (Chg.then hc k1 hf) f2 fun s'' w'' k2 h2 f3=>hK s'' w'' k2 ?_ f3
  rw [show n+1+k=n+(k+1) by omega] at h2
  exact h2
theorem bits_ok {w:World} {B g:Nat} {s:Sl} {l:List UInt8} {n v:Nat} {m:Int} (h:Wr w B g s l n) (hB:B≤w.heap.size) (hn:n≤8388608) (hv:v<18446744073709551616) {K:Int→World→Prop}
  (hE:badB v m→K 1 w) (hF:¬ badB v m→m > 8388608-(n:Int)→K 8 w)
  (hK:¬ badB v m→m≤8388608-(n:Int)→∀ s' w',Chg (foot g s) w w'→Wr w' B g s' (putBs l n (low v m.toNat)) (n+m.toNat)→(∀ j,foot g s' j→foot g s j∨w.heap.size≤j)→K 0 w') :
  C.bits_Writer_Bits (wp g) (v:Int) m w K:=by
 unfold C.bits_Writer_Bits
 refine cond_f rfl ?_
 refine cond_d (fun h1=>hE (.inl h1)) (fun h1=>cond_d (fun h2=>hE (.inr (.inl h2))) (fun h2=>?_))
 have fin:¬ badB v m→G.ptr (wp g) fun p17=>G.cI .i64 (p17.add 1) w fun n18=>G.cond (decide (m > (IntKind.i64.wrap ((8388608:Int)-n18)))) (K (8:Int) w) (C.bits_Writer_Bits.S9 K (wp g) (v:Int) m w):=by
  intro hb
  refine h.rd1 ?_
  rw [wI64 (by omega) (by omega)]
  refine cond_d (fun h3=>hF hb h3) (fun h3=>?_)
  unfold C.bits_Writer_Bits.S9
  refine C.bits_Writer_Bits.L5_ind fun X hX=>?_
  rw [wI64 (by omega) (by omega)]
  have:=loop_ok hv hX m.toNat l n s w (by omega) (by omega) hB h (Chg.refl _ _) (fun j hj=>.inl hj) (hK hb (by omega))
  rwa [show ((m.toNat:Nat):Int)=m by omega] at this
 refine cond_d (fun h3=>⟨by rw [wU64_id (by omega) (by omega)];omega,?_⟩) (fun h3=>fin fun hb=>?_)
 ·rw [shrZ (by omega) h3]
  refine cond_ne (fun h4=>hE (.inr (.inr ⟨h3,fun e=>h4 (by rw [e];rfl)⟩))) (fun h4=>fin fun hb=>?_)
  rcases hb with hb | hb | hb
  ·omega
  ·omega
  ·exact hb.2 (by exact_mod_cast h4)
 ·rcases hb with hb | hb | hb<;>omega
theorem bytes_ok {w:World} {B g:Nat} {s:Sl} {l:List UInt8} {n:Nat} (h:Wr w B g s l n) (hn:n≤8388608) {K:Sl→World→Prop} (hK:∀ r w',Keep w w'→OwnB w' w.heap.size r l→K r w'):C.bits_Writer_Bytes (wp g) w K:=by
 unfold C.bits_Writer_Bytes
 have:=h.len
 refine cond_f rfl (h.rd0 ?_)
 exact appB (Keep.refl w) (Nat.le_refl _) (OwnB.nil _ _) h.own.rd (by simp only [List.length_nil];omega) fun r w' k o=>hK r w' k o
theorem fold_push:∀ (l m:List UInt8),(l.map fun b=>(b.toNat:Int)).foldl (fun r n=>r.push (UInt8.ofNat n.toNat)) (⟨m.toArray⟩:ByteArray)=⟨(m++l).toArray⟩
 | [],m=>by rw [List.append_nil];rfl
 | b::l,m=>by
  simp only [List.map_cons,List.foldl_cons]
  have e:(⟨m.toArray⟩:ByteArray).push (UInt8.ofNat ((b.toNat:Int)).toNat)=⟨(m++[b]).toArray⟩:=by
   simp [ByteArray.push]
  rw [e,fold_push l (m++[b])]
  simp
abbrev str (l:List UInt8):ByteArray:=⟨l.toArray⟩
theorem convBS {P:Program} {w:World} {b:Sl} {l:List UInt8} (h:RdB w b l) {K:ByteArray→Prop} (hK:K (str l)):G.rdS P (Conv.bytesToString b.v) w K:=by
 refine ⟨_,fun d=>?_,hK⟩
 have hd:=Rd.drewN h d
 have hn:=RdB.len h
 cases b with
 | mk a n c =>
  simp only at hn
  subst hn
  have go:∀ x:Addr,(∀ j v,(vBs l)[j]?=some v→(w.drewN d).cell? (x.add j)=some v)→(Conv.bytesToString (.slice (some x) l.length c)).run P (w.drewN d)=.ok (.string (str l)) (w.drewN d):=by
   intro x hx
   have e:vBs l=(l.map fun b=>(b.toNat:Int)).map (Value.int .u8):=by
    rw [List.map_map];rfl
   have hl:(loadCells x l.length).run P (w.drewN d)=.ok ((l.map fun b=>(b.toNat:Int)).map (Value.int .u8)).toArray (w.drewN d):=by
    rw [← e]
    have:=run_loadCells_list (P:=P) (w.drewN d) x (vBs l) hx
    rw [vBs_length] at this
    exact this
   rw [run_bytesToString (w.drewN d) x l.length c _ hl]
   have:=fold_push l []
   simp only [List.nil_append] at this
   exact congrArg (fun s=>Result.ok (Value.string s) (w.drewN d)) this
  by_cases h0:vBs l=[]
  ·have hl0:l=[]:=by cases l with | nil=>rfl | cons=>simp [vBs] at h0
   subst hl0
   cases a with
   | none=>rfl
   | some x=>exact go x (by intro j v hv;simp [vBs] at hv)
  ·obtain ⟨g,o,ha,hc⟩:=hd.2.2 h0
   simp only at ha
   subst ha
   exact go _ fun j v hv=>by rw [addr_add];exact hc j v hv
theorem putBs_app:∀ (xs ys:List Bool) (l:List UInt8) (n:Nat),putBs l n (xs++ys)=putBs (putBs l n xs) (n+xs.length) ys
 | [],ys,l,n=>rfl
 | x::xs,ys,l,n=>by
  show putBs (putB l n x) (n+1) (xs++ys)=putBs (putBs (putB l n x) (n+1) xs) (n+(xs.length+1)) ys
  rw [putBs_app xs ys,show n+(xs.length+1)=n+1+xs.length by omega]
def pk (bs:List Bool):List UInt8:=putBs [] 0 bs
theorem putBs_len:∀ (bs:List Bool) (l:List UInt8) (n:Nat),l.length=(n+7) / 8→(putBs l n bs).length=(n+bs.length+7) / 8
 | [],l,n,h=>by simpa [putBs] using h
 | b::bs,l,n,h=>by
  rw [putBs,putBs_len bs _ _ (putB_len b h),List.length_cons]
  congr 1;omega
theorem pk_len (bs:List Bool):(pk bs).length=(bs.length+7) / 8:=by
 have:=putBs_len bs [] 0 (by rfl)
 simpa [pk] using this
theorem pk_app (xs ys:List Bool):pk (xs++ys)=putBs (pk xs) xs.length ys:=by
 unfold pk;rw [putBs_app,Nat.zero_add]
structure WrT (ω:Tg) (w:World) (t g:Nat) (bs:List Bool):Prop where
 ex:∃ s,Wr w 0 g s (pk bs) bs.length∧∀ k,foot g s k→ω k=t
theorem WrT.stp {T:Nat→Bool} {ω ω':Tg} {w w':World} {t g:Nat} {bs:List Bool} (h:WrT ω w t g bs) (k:Stp T ω ω' w w') (ne:T t=false:=by rfl):WrT ω' w' t g bs:=by
 obtain ⟨s,h,ht⟩:=h.ex
 have lt:∀ k,foot g s k→k<w.heap.size:=fun k hk=>(h.lt hk).2
 have hb:∀ j,foot g s j→w'.heap[j]?=w.heap[j]?:=fun j hj=>k.block j (lt j hj) (by rw [ht j hj];exact ne)
 refine ⟨s,⟨by unfold Blk;rw [hb g (.inl rfl)];exact h.blk,?_,h.ge,h.ne,h.len⟩,fun j hj=>(k.same j (lt j hj)).trans (ht j hj)⟩
 exact (OT.stp (t:=t) ⟨h.own,fun j hj=>ht j (.inr hj)⟩ k ne).own
theorem new_T' {ω:Tg} {w:World} (t:Nat) {K:Option Addr→World→Prop} (hK:∀ g ω' w',Stp Non ω ω' w w'→WrT ω' w' t g []→K (wp g) w'):C.bits_NewWriter w K :=
 new_ok fun w' k h _=>hK w.heap.size (ext ω w.heap.size t) w' (k.stp ω t) ⟨nilS,⟨h.blk,Own.mono h.own (Nat.zero_le _),Nat.zero_le _,h.ne,h.len⟩,fun j hj=>ext_new (by
  rcases hj with rfl | hj
  ·exact Nat.le_refl _
  ·simp [Value.ownBlock] at hj)⟩
theorem bits_T {ω:Tg} {w:World} {t g:Nat} {bs:List Bool} {v:Nat} {m:Int} {k:Nat} (h:WrT ω w t g bs) (hm:m=(k:Int)) (hk:k≤64) (hv:v<2 ^ k) (hn:bs.length+k≤8388608) {x:Int} (hx:x=(v:Int)) {K:Int→World→Prop}
  (hK:∀ ω' w',Stp (One t) ω ω' w w'→WrT ω' w' t g (bs++low v k)→K 0 w'):C.bits_Writer_Bits (wp g) x m w K:=by
 subst hm hx
 obtain ⟨s,h,ht⟩:=h.ex
 have hv64:v<18446744073709551616:=Nat.lt_of_lt_of_le hv (Nat.pow_le_pow_right (by decide:0<2) hk:2 ^ k≤2 ^ 64)
 refine bits_ok h (Nat.zero_le _) (by omega) hv64 (fun hb=>?_) (fun _ hF=>by omega) fun _ _ s' w' c h' f=>?_
 ·rcases hb with e | e | ⟨e,e'⟩
  ·omega
  ·omega
  ·exact absurd (Nat.div_eq_of_lt (by rw [Int.toNat_natCast];exact hv)) e'
 ·rw [Int.toNat_natCast] at h'
  have e1:(bs++low v k).length=bs.length+k:=by rw [List.length_append,low_len]
  refine hK (ext ω w.heap.size t) w' (Chg.stp c ht) ⟨s',by rw [e1,pk_app];exact h',fun j hj=>?_⟩
  ·rcases f j hj with e | e
   ·rw [ext_old (h.lt e).2];exact ht j e
   ·exact ext_new e
theorem bytes_T {ω:Tg} {w:World} {t g:Nat} {bs:List Bool} (h:WrT ω w t g bs) (hn:bs.length≤8388608) {K:Sl→World→Prop} (hK:∀ r w',Keep w w'→OwnB w' w.heap.size r (pk bs)→K r w'):C.bits_Writer_Bytes (wp g) w K:=by
 obtain ⟨s,h,ht⟩:=h.ex
 exact bytes_ok h hn hK
end Go.Proofs.YtmfgmcajelmgbaaGreatDoor.Bits

namespace Go.Proofs.YtmfgmcajelmgbaaGreatDoor.Bits
open Go Vm Go.RowKit Num Mem
def fitsB (n:Int) (k:Nat):Bool:=decide (-(2 ^ (k-1)-1)≤n)&&decide (n≤2 ^ (k-1))
def uN (n:Int):Nat:=(n % 18446744073709551616).toNat
def lowN (n:Int) (k:Nat):Nat:=if k<64 then uN n % 2 ^ k else uN n
theorem uN_lt (n:Int):uN n<18446744073709551616:=by unfold uN;omega
theorem lowN_lt (n:Int) (k:Nat):lowN n k<18446744073709551616:=by
 have:=uN_lt n
 unfold lowN;split
 ·exact Nat.lt_of_le_of_lt (Nat.mod_le _ _) this
 ·exact this
theorem wrapU (n:Int):IntKind.u64.wrap n=((uN n:Nat):Int):=by rw [wU64];unfold uN;omega
theorem low_and {n:Int} {k:Nat} (hk:k<64):Go.bits .and .u64 (IntKind.u64.wrap n) (IntKind.u64.wrap ((shl .u64 (1:Int) (IntKind.u64.wrap (k:Int)))-(1:Int)))=((lowN n k:Nat):Int):=by
 have hp:2 ^ k≤2 ^ 63:=Nat.pow_le_pow_right (by decide) (by omega)
 have hp0:0<2 ^ k:=Nat.pow_pos (by decide)
 have hu:=uN_lt n
 have e:=shl_nat .u64 (1:Int) k (by simp only [IntKind.bits];omega)
 rw [show (1:Int)*2 ^ k=((2 ^ k:Nat):Int) by simp,wU64_id (by omega) (by omega)] at e
 rw [wU64_id (x:=(k:Int)) (by omega) (by omega),e,show ((2 ^ k:Nat):Int)-1=((2 ^ k-1:Nat):Int) by omega,wU64_id (x:=((2 ^ k-1:Nat):Int)) (by omega) (by omega),wrapU,
  bits_and rfl (by simp only [IntKind.bits];omega) (by simp only [IntKind.bits];omega),Nat.and_two_pow_sub_one_eq_mod]
 unfold lowN
 rw [if_pos hk]
theorem lowN_lt2 (n:Int) {k:Nat} (hk:k≤64):lowN n k<2 ^ k:=by
 unfold lowN
 split
 ·exact Nat.mod_lt _ (Nat.pow_pos (by decide))
 ·rw [show k=64 by omega];exact uN_lt n
theorem fits_cond {n:Int} {k:Nat} (hk:0<k) (hk':k≤56) {X Y:Prop} (h1:fitsB n k=true→X) (h2:fitsB n k=false→Y) :
  G.cond (decide (n ≥ (IntKind.i64.wrap (0-(IntKind.i64.wrap ((shl .i64 (1:Int) (IntKind.u64.wrap (IntKind.i64.wrap ((k:Int)-(1:Int)))))-(1:Int))))))) (G.cond (decide (n≤(shl .i64 (1:Int) (IntKind.u64.wrap (IntKind.i64.wrap ((k:Int)-(1:Int))))))) X Y) Y:=by
 have e1:IntKind.u64.wrap (IntKind.i64.wrap ((k:Int)-(1:Int)))=((k-1:Nat):Int):=by
  rw [wI64 (by omega) (by omega),wU64_id (by omega) (by omega)];omega
 rw [e1]
 have e2:=shl_nat .i64 (1:Int) (k-1) (by simp only [IntKind.bits];omega)
 have hp:2 ^ (k-1)≤2 ^ 55:=Nat.pow_le_pow_right (by decide) (by omega)
 have hp0:0<2 ^ (k-1):=Nat.pow_pos (by decide)
 have e3:(1:Int)*2 ^ (k-1)=((2 ^ (k-1):Nat):Int):=by simp
 rw [e3,wI64 (by omega) (by omega)] at e2
 have e4:(2:Int) ^ (k-1)=((2 ^ (k-1):Nat):Int):=by simp
 unfold fitsB at h1 h2
 rw [e4] at h1 h2
 rw [e2]
 generalize 2 ^ (k-1)=q at *
 rw [wI64 (x:=(q:Int)-1) (by omega) (by omega),wI64 (by omega) (by omega)]
 refine cond_d (fun a=>cond_d (fun b=>h1 ?_) (fun b=>h2 ?_)) (fun a=>h2 ?_)
 ·simp;omega
 ·simp;omega
 ·simp;omega
def lead (x:Nat):Nat:=min (64-Lib.bitLen x) 31
def trail (x:Nat):Nat:=Lib.ctz 64 x
end Go.Proofs.YtmfgmcajelmgbaaGreatDoor.Bits

namespace Go.Proofs.YtmfgmcajelmgbaaGreatDoor.Bits
open Go Vm Go.RowKit Num Mem
theorem bitLenAux_le:∀ f x,Lib.bitLenAux f x≤f
 | 0,_=>Nat.le_refl _
 | f+1,x=>by
  simp only [Lib.bitLenAux]
  split
  ·omega
  ·have:=bitLenAux_le f (x / 2);omega
theorem bitLenAux_lt:∀ f x,x<2 ^ f→x<2 ^ Lib.bitLenAux f x
 | 0,x,h=>by simpa [Lib.bitLenAux] using h
 | f+1,x,h=>by
  simp only [Lib.bitLenAux]
  split
  ·simp;omega
  ·have:=bitLenAux_lt f (x / 2) (by rw [Nat.pow_succ] at h;omega)
   rw [Nat.pow_add];omega
theorem bitLenAux_ge:∀ f x k,x<2 ^ f→2 ^ k≤x→k<Lib.bitLenAux f x
 | 0,x,k,h,hk=>by
  have:0<2 ^ k:=Nat.pow_pos (by decide)
  simp at h;omega
 | f+1,x,k,h,hk=>by
  have hp:0<2 ^ k:=Nat.pow_pos (by decide)
  simp only [Lib.bitLenAux]
  rw [if_neg (by omega)]
  cases k with
  | zero=>omega
  | succ k =>
   have:=bitLenAux_ge f (x / 2) k (by rw [Nat.pow_succ] at h;omega) (by rw [Nat.pow_succ] at hk;omega)
   omega
theorem bitLen_le (x:Nat):Lib.bitLen x≤64:=bitLenAux_le 64 x
theorem bitLen_lt {x:Nat} (h:x<18446744073709551616):x<2 ^ Lib.bitLen x:=bitLenAux_lt 64 x h
theorem bitLen_ge {x k:Nat} (h:x<18446744073709551616) (hk:2 ^ k≤x):k<Lib.bitLen x:=bitLenAux_ge 64 x k h hk
theorem trail_spec {x:Nat} (h:x<18446744073709551616) (h0:x≠0):∃ m,x=2 ^ trail x*(2*m+1)∧trail x<64:=by
 unfold trail Lib.ctz
 rw [if_neg h0]
 exact Lib.ctzFrom_spec 64 x (by omega) h
theorem lead_trail {x:Nat} (h:x<18446744073709551616) (h0:x≠0):lead x+trail x≤63:=by
 obtain ⟨m,hm,hk⟩:=trail_spec h h0
 have h1:2 ^ trail x≤x:=by
  conv=>rhs;rw [hm]
  exact Nat.le_mul_of_pos_right _ (by omega)
 have:=bitLen_ge h h1
 have:=bitLen_le x
 unfold lead;omega
theorem lead_le (x:Nat):lead x≤31:=by unfold lead;omega
theorem lt_lead {x a:Nat} (h:x<18446744073709551616) (ha:a≤lead x):x<2 ^ (64-a):=by
 have h1:=bitLen_lt h
 have:=bitLen_le x
 refine Nat.lt_of_lt_of_le h1 (Nat.pow_le_pow_right (by decide) ?_)
 unfold lead at ha;omega
theorem mid_lt {x a b:Nat} (h:x<18446744073709551616) (ha:a≤lead x) (hab:a+b≤64):x / 2 ^ b<2 ^ (64-a-b):=by
 have h1:=lt_lead h ha
 refine Nat.div_lt_of_lt_mul ?_
 rw [← Nat.pow_add,show b+(64-a-b)=64-a by omega]
 exact h1
theorem mul_div_trail {x b:Nat} (h:x<18446744073709551616) (h0:x≠0) (hb:b≤trail x):x / 2 ^ b*2 ^ b=x:=by
 obtain ⟨m,hm,hk⟩:=trail_spec h h0
 refine Nat.div_mul_cancel ?_
 conv=>rhs;rw [hm]
 exact Nat.dvd_trans (Nat.pow_dvd_pow 2 hb) (Nat.dvd_mul_right _ _)
def len8s:ByteArray:=⟨#[0,1,2,2,3,3,3,3,4,4,4,4,4,4,4,4,5,5,5,5,5,5,5,5,5,5,5,5,5,5,5,5,6,6,6,6,6,6,6,6,6,6,6,6,6,6,6,6,6,6,6,6,6,6,6,6,6,6,6,6,6,6,6,6,7,7,7,7,7,7,7,7,7,7,7,7,7,7,7,7,7,7,7,7,7,7,7,7,7,7,7,7,7,7,7,7,7,7,7,7,7,7,7,7,7,7,7,7,7,7,7,7,7,7,7,7,7,7,7,7,7,7,7,7,7,7,7,7,8,8,8,8,8,8,8,8,8,8,8,8,8,8,8,8,8,8,8,8,8,8,8,8,8,8,8,8,8,8,8,8,8,8,8,8,8,8,8,8,8,8,8,8,8,8,8,8,8,8,8,8,8,8,8,8,8,8,8,8,8,8,8,8,8,8,8,8,8,8,8,8,8,8,8,8,8,8,8,8,8,8,8,8,8,8,8,8,8,8,8,8,8,8,8,8,8,8,8,8,8,8,8,8,8,8,8,8,8,8,8,8,8,8,8,8,8,8,8,8,8,8,8,8,8,8,8,8]⟩
theorem len8s_at:∀ n:Fin 256,len8s[n.val]?=some (UInt8.ofNat (Lib.bitLen n.val)):=by decide +kernel
theorem ixs_len {n:Nat} (hn:n<256) {i:Int} (hi:i=(n:Int)) {K:Int→Prop} (hK:K ((Lib.bitLen n:Nat):Int)):G.ixS len8s i K:=by
 subst hi
 refine ⟨UInt8.ofNat (Lib.bitLen n),by omega,len8s_at ⟨n,hn⟩,?_⟩
 have:=Lib.bitLen_le8 ⟨n,hn⟩
 rw [UInt8.toNat_ofNat',Nat.mod_eq_of_lt (by simp only at this;omega)]
 exact hK
theorem shr64 {x k:Nat} (hk:k≤64):shr .u64 (x:Int) (k:Int)=((x / 2 ^ k:Nat):Int):=by
 have e:=shr_nat .u64 (x:Int) k (by simp only [IntKind.bits];omega)
 rw [e];simp
theorem len64_ok {x:Nat} (h:x<18446744073709551616) {w:World} {K:Int→World→Prop} (hK:K ((Lib.bitLen x:Nat):Int) w):C.bits_Len64 (x:Int) w K:=by
 have hb:=bitLen_le x
 have s2:∀ (y n:Nat),y<65536→n+Lib.bitLen y=Lib.bitLen x→C.bits_Len64.S2 K (y:Int) (n:Int) w:=by
  intro y n hy hn
  unfold C.bits_Len64.S2
  refine cond_d (fun h1=>⟨by decide,?_⟩) (fun h1=>?_)
  ·have e:shr .u64 (y:Int) (8:Int)=((y / 2 ^ 8:Nat):Int):=shr64 (k:=8) (by decide)
   rw [e]
   have h8:=Lib.bitLen_shift 8 y (by omega) (by omega)
   refine ixs_len (n:=y / 2 ^ 8) (by omega) (by rw [wU8_id (by omega) (by omega)]) ?_
   rw [wI64 (x:=(n:Int)+8) (by omega) (by omega),wI64 (x:=((Lib.bitLen _:Nat):Int)) (by omega) (by omega),wI64 (by omega) (by omega),show (n:Int)+8+((Lib.bitLen (y / 2 ^ 8):Nat):Int)=((Lib.bitLen x:Nat):Int) by omega]
   exact hK
  ·refine ixs_len (n:=y) (by omega) (by rw [wU8_id (by omega) (by omega)]) ?_
   rw [wI64 (x:=((Lib.bitLen _:Nat):Int)) (by omega) (by omega),wI64 (by omega) (by omega),show (n:Int)+((Lib.bitLen y:Nat):Int)=((Lib.bitLen x:Nat):Int) by omega]
   exact hK
 have s3:∀ (y n:Nat),y<4294967296→n+Lib.bitLen y=Lib.bitLen x→C.bits_Len64.S3 K (y:Int) (n:Int) w:=by
  intro y n hy hn
  unfold C.bits_Len64.S3
  refine cond_d (fun h1=>⟨by decide,?_⟩) (fun h1=>s2 y n (by omega) hn)
  have e:shr .u64 (y:Int) (16:Int)=((y / 2 ^ 16:Nat):Int):=shr64 (k:=16) (by decide)
  have h8:=Lib.bitLen_shift 16 y (by omega) (by omega)
  rw [e,wI64 (by omega) (by omega),show (n:Int)+16=((n+16:Nat):Int) by omega]
  exact s2 _ _ (by omega) (by omega)
 unfold C.bits_Len64
 refine cond_d (fun h1=>⟨by decide,?_⟩) (fun h1=>s3 x 0 (by omega) (by omega))
 have e:shr .u64 (x:Int) (32:Int)=((x / 2 ^ 32:Nat):Int):=shr64 (k:=32) (by decide)
 have h8:=Lib.bitLen_shift 32 x (by omega) (by omega)
 rw [e]
 exact s3 _ 32 (by omega) (by omega)
theorem leading_ok {x:Nat} (h:x<18446744073709551616) {w:World} {K:Int→World→Prop} (hK:K ((64-Lib.bitLen x:Nat):Int) w):C.bits_LeadingZeros64 (x:Int) w K:=by
 have hb:=bitLen_le x
 unfold C.bits_LeadingZeros64
 refine len64_ok h ?_
 rw [wI64 (by omega) (by omega),show (64:Int)-((Lib.bitLen x:Nat):Int)=((64-Lib.bitLen x:Nat):Int) by omega]
 exact hK
def DTab (w:World):Prop:=∀ j,j<64→w.cell? ⟨5,j,none⟩=some (.int .u8 ((Lib.deBruijn64tab.getD j 0:Nat):Int))
theorem DTab.keep {w w':World} (h:DTab w) (k:Keep w w'):DTab w':=fun i hi=>k.cell (h i hi)
theorem DTab.top {w0 w:World} {ω:Tg} (h:DTab w0) (k:Top w0 ω w):DTab w:=h.keep k.k
theorem trailing_ok {x:Nat} (h:x<18446744073709551616) (h0:x≠0) {w:World} (ht:DTab w) {K:Int→World→Prop} (hK:K ((trail x:Nat):Int) w):C.bits_TrailingZeros64 (x:Int) w K:=by
 unfold C.bits_TrailingZeros64
 refine cond_f (by simp;omega) ⟨by decide,?_⟩
 obtain ⟨hlow,hk⟩:=Lib.lowest_bit 64 x h0 h
 obtain ⟨hi,htab⟩:=Lib.deBruijn64_at _ hk
 have e1:IntKind.u64.wrap (0-(x:Int))=((18446744073709551616-x:Nat):Int):=by rw [wU64];omega
 rw [e1,bits_and rfl (by simp only [IntKind.bits];omega) (by simp only [IntKind.bits];omega),show x &&& (18446744073709551616-x)=x &&& (2 ^ 64-x) from rfl,hlow]
 have e2:IntKind.u64.wrap (((2 ^ Lib.ctz 64 x:Nat):Int)*285870213051353865)=((2 ^ Lib.ctz 64 x*285870213051353865 % 18446744073709551616:Nat):Int):=by rw [wU64];omega
 rw [e2,show (58:Int)=((58:Nat):Int) from rfl,shr64 (by decide),show (2:Nat) ^ 58=288230376151711744 from rfl]
 generalize 2 ^ Lib.ctz 64 x*285870213051353865 % 18446744073709551616 / 288230376151711744=j at *
 refine ⟨⟨by omega,by omega⟩,cI_at (n:=((trail x:Nat):Int)) ?_ ?_⟩
 ·rw [addr_add,Int.toNat_natCast,Nat.mul_one,Nat.zero_add,ht j hi,htab];rfl
 ·have:trail x<64:=hk
  rw [wI64 (by omega) (by omega)]
  exact hK
theorem mask_ok {n:Nat} (hn:n≤64) {w:World} {K:Int→World→Prop} (hK:K ((2 ^ n-1:Nat):Int) w):C.chunk_mask (n:Int) w K:=by
 unfold C.chunk_mask
 refine cond_d (fun h=>?_) (fun h=>⟨by rw [wU64_id (by omega) (by omega)];omega,?_⟩)
 ·rw [show n=64 by omega] at hK;exact hK
 ·have hp:2 ^ n≤2 ^ 63:=Nat.pow_le_pow_right (by decide) (by omega)
  have hp0:0<2 ^ n:=Nat.pow_pos (by decide)
  have e:=shl_nat .u64 (1:Int) n (by simp only [IntKind.bits];omega)
  rw [show (1:Int)*2 ^ n=((2 ^ n:Nat):Int) by simp,wU64_id (by omega) (by omega)] at e
  rw [wU64_id (x:=(n:Int)) (by omega) (by omega),e,show ((2 ^ n:Nat):Int)-1=((2 ^ n-1:Nat):Int) by omega,wU64_id (by omega) (by omega)]
  exact hK
theorem and_mask {x n:Nat} (hx:x<2 ^ n) (hn:n≤64):Go.bits .and .u64 (x:Int) ((2 ^ n-1:Nat):Int)=(x:Int):=by
 have h1:2 ^ n≤2 ^ 64:=Nat.pow_le_pow_right (by decide) hn
 rw [bits_and rfl (by simp only [IntKind.bits];omega) (by simp only [IntKind.bits];omega),Nat.and_two_pow_sub_one_eq_mod,Nat.mod_eq_of_lt hx]
end Go.Proofs.YtmfgmcajelmgbaaGreatDoor.Bits

namespace Go.Proofs.YtmfgmcajelmgbaaGreatDoor.Vint
open Go Vm Go.RowKit Num Mem
def zz (n:Int):Nat:=if 0≤n then (2*n).toNat else (-2*n-1).toNat
def bk (u:Nat):Int:=if u % 2=0 then ((u / 2:Nat):Int) else -((u / 2:Nat):Int)-1
theorem bk_zz (n:Int):bk (zz n)=n:=by
 unfold bk zz
 split<;>split<;>omega
theorem zz_lt {n:Int} (h1:-9223372036854775808≤n) (h2:n<9223372036854775808):zz n<18446744073709551616:=by
 unfold zz;split<;>omega
theorem xor_all (x:Nat) (hx:x<18446744073709551616):x ^^^ 18446744073709551615=18446744073709551615-x:=by
 have h:=BitVec.xor_allOnes (x:=BitVec.ofNat 64 x)
 have:=congrArg BitVec.toNat h
 rw [BitVec.toNat_xor,BitVec.toNat_not,BitVec.toNat_ofNat,BitVec.toNat_allOnes,Nat.mod_eq_of_lt (by omega)] at this
 exact this
theorem zig (n:Int) (h1:-9223372036854775808≤n) (h2:n<9223372036854775808) :
  Go.bits .xor .u64 (shl .u64 (IntKind.u64.wrap n) (1:Int)) (IntKind.u64.wrap (shr .i64 n (63:Int)))=((zz n:Nat):Int):=by
 have e1:=shl_nat .u64 (IntKind.u64.wrap n) 1 (by decide)
 have e2:=shr_nat .i64 n 63 (by decide)
 rw [show ((1:Nat):Int)=(1:Int) from rfl] at e1
 rw [show ((63:Nat):Int)=(63:Int) from rfl] at e2
 rw [e1,e2]
 by_cases h:0≤n
 ·rw [show n / 2 ^ 63=((0:Nat):Int) by omega,wU64_id (x:=((0:Nat):Int)) (by decide) (by decide),wU64_id (x:=n) h (by omega),
   show n*2 ^ 1=(((2*n).toNat:Nat):Int) by omega,wU64_id (by omega) (by omega),bits_xor rfl (by simp only [IntKind.bits];omega) (by decide),Nat.xor_zero]
  unfold zz
  rw [if_pos h]
 ·have ew:IntKind.u64.wrap (IntKind.u64.wrap n*2 ^ 1)=(((2*n+18446744073709551616).toNat:Nat):Int):=by
   rw [wU64,wU64];omega
  have es:IntKind.u64.wrap (n / 2 ^ 63)=((18446744073709551615:Nat):Int):=by rw [wU64];omega
  rw [ew,es,bits_xor rfl (by simp only [IntKind.bits];omega) (by decide),xor_all _ (by omega)]
  unfold zz
  rw [if_neg h]
  omega
theorem putI_ok {w0:World} {b:Sl} {l:List UInt8} {n:Int} (h1:-9223372036854775808≤n) (h2:n<9223372036854775808) (hb:RdB w0 b l) (hl:l.length≤140737488355300) {K:Sl→World→Prop}
  (hK:∀ r w',Keep w0 w'→OwnB w' w0.heap.size r (l++putU (zz n))→K r w'):C.vint_PutI b n w0 K:=by
 unfold C.vint_PutI
 refine ⟨by decide,by decide,?_⟩
 rw [zig n h1 h2]
 exact putU_ok (zz_lt h1 h2) hb hl hK
theorem rputI_ok {w0:World} {b:Sl} {l:List UInt8} {n:Int} (h1:-9223372036854775808≤n) (h2:n<9223372036854775808) (hb:RdB w0 b l) (hl:l.length≤140737488355300) {K:Sl→World→Prop}
  (hK:∀ r w',Keep w0 w'→OwnB w' w0.heap.size r (l++putU (zz n))→K r w'):C.tocsinref01_PutI b n w0 K:=by
 have hz:=zz_lt h1 h2
 unfold C.tocsinref01_PutI C.tocsinref01_turn
 have fin:=rputU_ok hz hb hl hK
 refine cond_d (fun h=>?_) (fun h=>?_)
 ·rw [show IntKind.u64.wrap ((2:Int)*(IntKind.u64.wrap n))=((zz n:Nat):Int) by unfold zz;rw [if_pos (by omega),wU64,wU64];omega]
  exact fin
 ·rw [wI64 (x:=n+1) (by omega) (by omega),wI64 (by omega) (by omega),
   show IntKind.u64.wrap ((IntKind.u64.wrap ((2:Int)*(IntKind.u64.wrap (0-(n+1)))))+(1:Int))=((zz n:Nat):Int) by unfold zz;rw [if_neg (by omega),wU64,wU64,wU64];omega]
  exact fin
end Go.Proofs.YtmfgmcajelmgbaaGreatDoor.Vint

namespace Go.Proofs.YtmfgmcajelmgbaaGreatDoor.Chunk
open Go Vm Go.RowKit Num Mem Bits Vint
abbrev Smp:=Int × Nat
abbrev Win:=Option (Nat × Nat)
def tform (d:Int):List Bool :=
 if d=0 then low 0 1 else if fitsB d 14 then low 2 2++low (lowN d 14) 14 else if fitsB d 17 then low 6 3++low (lowN d 17) 17
 else if fitsB d 20 then low 14 4++low (lowN d 20) 20 else low 15 4++low (uN d) 64
def holdsW (wn:Win) (x:Nat):Bool:=match wn with | some (a,b)=>decide (a≤lead x)&&decide (b≤trail x) | none=>false
def vform (wn:Win) (x:Nat):List Bool × Win :=
 if x=0 then (low 0 1,wn)
 else if holdsW wn x then match wn with
  | some (a,b)=>(low 1 1++low 0 1++low (x / 2 ^ b) (64-a-b),wn)
  | none=>([],wn)
 else (low 1 1++low 1 1++low (lead x) 5++low ((64-lead x-trail x) % 64) 6++low (x / 2 ^ trail x) (64-lead x-trail x),some (lead x,trail x))
def byteBits (l:List UInt8):List Bool:=l.flatMap fun c=>low c.toNat 8
def emit (l:List Smp) (wn:Win) (s:Smp):List Bool × Win :=
 match l.reverse with
 | []=>(byteBits (putU (zz s.1))++low s.2 64,wn)
 | [a]=>(byteBits (putU (uN (s.1-a.1)))++(vform wn (s.2 ^^^ a.2)).1,(vform wn (s.2 ^^^ a.2)).2)
 | b::a::_=>(tform (s.1-b.1-(b.1-a.1))++(vform wn (s.2 ^^^ b.2)).1,(vform wn (s.2 ^^^ b.2)).2)
def go:List Smp→List Bool→Win→List Smp→List Bool × Win
 | _,bs,wn,[]=>(bs,wn)
 | pre,bs,wn,s::r=>go (pre++[s]) (bs++(emit pre wn s).1) (emit pre wn s).2 r
def run (l:List Smp):List Bool × Win:=go [] [] none l
theorem go_app:∀ (x y pre:List Smp) (bs:List Bool) (wn:Win),go pre bs wn (x++y)=go (pre++x) (go pre bs wn x).1 (go pre bs wn x).2 y
 | [],y,pre,bs,wn=>by simp [go]
 | s::x,y,pre,bs,wn=>by
  simp only [List.cons_append,go]
  rw [go_app x y];simp
theorem run_snoc (l:List Smp) (s:Smp):run (l++[s])=((run l).1++(emit l (run l).2 s).1,(emit l (run l).2 s).2):=by
 unfold run
 rw [go_app]
 simp [go]
def enc (l:List Smp):List UInt8:=UInt8.ofNat (l.length / 256)::UInt8.ofNat (l.length % 256)::pk (run l).1
def late (l:List Smp) (t:Int):Bool:=match l.getLast? with | some a=>decide (t≤a.1) | none=>false
def wrong (l:List Smp) (t:Int):Int :=
 if t<0∨t > 1125899906842624 then 1 else if late l t then 90 else if l.length ≥ 120 then 8 else 0
inductive Valid:List Smp→Prop
 | nil:Valid []
 | snoc {l:List Smp} {s:Smp}:Valid l→wrong l s.1=0→s.2<18446744073709551616→Valid (l++[s])
theorem wrong_zero {l:List Smp} {t:Int} (h:wrong l t=0):0≤t∧t≤1125899906842624∧l.length<120∧∀ a,l.getLast?=some a→a.1<t:=by
 unfold wrong at h
 by_cases h1:t<0∨t > 1125899906842624
 ·rw [if_pos h1] at h;exact absurd h (by decide)
 rw [if_neg h1] at h
 by_cases h2:late l t=true
 ·rw [if_pos h2] at h;exact absurd h (by decide)
 rw [if_neg h2] at h
 by_cases h3:l.length ≥ 120
 ·rw [if_pos h3] at h;exact absurd h (by decide)
 refine ⟨by omega,by omega,by omega,fun a ha=>?_⟩
 unfold late at h2
 rw [ha] at h2
 simp only [decide_eq_true_eq] at h2
 omega
theorem Valid.len {l:List Smp} (h:Valid l):l.length≤120:=by
 cases h with
 | nil=>decide
 | snoc h1 h2 _=>have:=wrong_zero h2;simp;omega
theorem Valid.mem {l:List Smp} (h:Valid l):∀ s∈l,0≤s.1∧s.1≤1125899906842624∧s.2<18446744073709551616:=by
 induction h with
 | nil=>intro s hs;cases hs
 | snoc h1 h2 h3 ih =>
  intro s hs
  rcases List.mem_append.1 hs with hs | hs
  ·exact ih s hs
  ·simp only [List.mem_singleton] at hs
   subst hs
   have:=wrong_zero h2
   exact ⟨this.1,this.2.1,h3⟩
theorem byteBits_len (l:List UInt8):(byteBits l).length=8*l.length:=by
 induction l with
 | nil=>rfl
 | cons c l ih=>simp only [byteBits,List.flatMap_cons,List.length_append,low_len,List.length_cons] at *;omega
theorem tform_len (d:Int):(tform d).length≤68:=by
 unfold tform
 split
 ·simp [low_len]
 ·split
  ·simp [low_len]
  ·split
   ·simp [low_len]
   ·split<;>simp [low_len]
theorem vform_len (wn:Win) (x:Nat):(vform wn x).1.length≤77:=by
 unfold vform
 split
 ·simp [low_len]
 ·split
  ·split
   ·simp [low_len];omega
   ·simp
  ·simp [low_len];omega
theorem zz_lt50 {n:Int} (h0:0≤n) (h1:n≤1125899906842624):zz n<18446744073709551616:=by unfold zz;rw [if_pos h0];omega
theorem emit_len {l:List Smp} {wn:Win} {s:Smp} (h0:0≤s.1) (h1:s.1≤1125899906842624):(emit l wn s).1.length≤160:=by
 unfold emit
 split
 ·have:=putU_len64 (zz_lt50 h0 h1)
  simp only [List.length_append,byteBits_len,low_len];omega
 ·rename_i a _
  have:=putU_len64 (uN_lt (s.1-a.1))
  have:=vform_len wn (s.2 ^^^ a.2)
  simp only [List.length_append,byteBits_len];omega
 ·rename_i b a r _
  have:=tform_len (s.1-b.1-(b.1-a.1))
  have:=vform_len wn (s.2 ^^^ b.2)
  simp only [List.length_append];omega
theorem run_len {l:List Smp} (h:Valid l):(run l).1.length≤160*l.length:=by
 induction h with
 | nil=>simp [run,go]
 | snoc h1 h2 _ ih =>
  rename_i l s _
  have:=wrong_zero h2
  rw [run_snoc]
  have:=emit_len (l:=l) (wn:=(run l).2) this.1 this.2.1
  simp only [List.length_append,List.length_singleton];omega
def WinOk (wn:Win):Prop:=∀ a b,wn=some (a,b)→a≤31∧a+b≤63
theorem vform_ok {wn:Win} {x:Nat} (h:WinOk wn) (hx:x<18446744073709551616):WinOk (vform wn x).2:=by
 unfold vform
 split
 ·exact h
 ·rename_i h0
  split
  ·split
   ·exact h
   ·exact h
  ·intro a b e
   simp only [Option.some.injEq,Prod.mk.injEq] at e
   obtain ⟨rfl,rfl⟩:=e
   exact ⟨lead_le x,lead_trail hx h0⟩
theorem xor64_lt {a b:Nat} (ha:a<18446744073709551616) (hb:b<18446744073709551616):a ^^^ b<18446744073709551616:=Nat.xor_lt_two_pow (n:=64) ha hb
theorem emit_ok {l : List Smp} {wn : Win} {s : Smp} (h : WinOk wn) (hs : s.2 < 18446744073709551616) (hl : ∀ a ∈ l, a.2 < 18446744073709551616) : WinOk (emit l wn s).2 := by
  unfold emit
  split
  · exact h
  · rename_i a e
    have : a ∈ l := by have : a ∈ l.reverse := by rw [e]; simp
                       simpa using this
    exact vform_ok h (xor64_lt hs (hl a this))
  · rename_i b a r e
    have : b ∈ l := by have : b ∈ l.reverse := by rw [e]; simp
                       simpa using this
    exact vform_ok h (xor64_lt hs (hl b this))
theorem run_ok {l:List Smp} (h:Valid l):WinOk (run l).2:=by
 induction h with
 | nil=>intro a b e;cases e
 | snoc h1 h2 h3 ih=>rw [run_snoc];exact emit_ok ih h3 fun a ha=>(h1.mem a ha).2.2
def smpC (s:Smp):List Value:=[.int .i64 s.1,.float .f64 s.2]
def smps (l:List Smp):List Value:=l.flatMap smpC
theorem smps_app (a b:List Smp):smps (a++b)=smps a++smps b:=List.flatMap_append
theorem smps_len (l:List Smp):(smps l).length=l.length*2:=by
 induction l with
 | nil=>rfl
 | cons s l ih=>simp only [smps,List.flatMap_cons,List.length_append,List.length_cons] at *;simp [smpC] at *;omega
theorem smps_at:∀ (l:List Smp) (i:Nat) (s:Smp),l[i]?=some s→(smps l)[i*2+0]?=some (.int .i64 s.1)∧(smps l)[i*2+1]?=some (.float .f64 s.2)
 | [],i,s,h=>by simp at h
 | x::l,0,s,h=>by
  simp only [List.getElem?_cons_zero,Option.some.injEq] at h
  subst h
  exact ⟨rfl,rfl⟩
 | x::l,i+1,s,h=>by
  have ih:=smps_at l i s (by simpa using h)
  have e:smps (x::l)=.int .i64 x.1::.float .f64 x.2::smps l:=rfl
  rw [e,show (i+1)*2+0=(i*2+0)+1+1 by omega,show (i+1)*2+1=(i*2+1)+1+1 by omega]
  simpa using ih
theorem smps_one {l:List Smp}:∀ v∈smps l,v.oneCell'=true:=by
 intro v hv
 obtain ⟨s,_,hs⟩:=List.mem_flatMap.1 hv
 simp only [smpC,List.mem_cons,List.not_mem_nil,or_false] at hs
 rcases hs with rfl | rfl<;>rfl
end Go.Proofs.YtmfgmcajelmgbaaGreatDoor.Chunk

namespace Go.Proofs.YtmfgmcajelmgbaaGreatDoor.Bits
open Go Vm Go.RowKit Num Mem Chunk
theorem low_at (v:Nat):∀ (k j:Nat),j<k→(low v k)[j]?=some (bitOf v (k-1-j))
 | k+1,0,_=>by simp [low]
 | k+1,j+1,h=>by
  have:=low_at v k j (by omega)
  rw [low,List.getElem?_cons_succ,this,show k+1-1-(j+1)=k-1-j by omega]
theorem byteBits_at:∀ (l:List UInt8) (i j:Nat) (c:UInt8),j<8→l[i]?=some c→(byteBits l)[8*i+j]?=some (bitOf c.toNat (7-j))
 | [],i,j,c,_,h=>by simp at h
 | x::l,0,j,c,hj,h=>by
  simp only [List.getElem?_cons_zero,Option.some.injEq] at h
  subst h
  simp only [byteBits,List.flatMap_cons]
  rw [List.getElem?_append_left (by rw [low_len];omega),Nat.mul_zero,Nat.zero_add,low_at _ _ _ hj]
 | x::l,i+1,j,c,hj,h=>by
  have ih:=byteBits_at l i j c hj (by simpa using h)
  simp only [byteBits,List.flatMap_cons] at ih ⊢
  rw [List.getElem?_append_right (by rw [low_len];omega),low_len,show 8*(i+1)+j-8=8*i+j by omega]
  exact ih
theorem byteBits_app (a b:List UInt8):byteBits (a++b)=byteBits a++byteBits b:=List.flatMap_append
def b2n (b:Bool):Nat:=if b then 1 else 0
theorem bitOf_eq (v i:Nat):v / 2 ^ i % 2=b2n (bitOf v i):=by
 unfold bitOf b2n
 rcases Nat.mod_two_eq_zero_or_one (v / 2 ^ i) with h | h<;>rw [h]<;>rfl
theorem orBit_bits:∀ (c:Fin 256) (j j':Fin 8),bitOf (orBit (UInt8.ofNat c.val) j.val).toNat (7-j'.val)=(bitOf c.val (7-j'.val) || j.val==j'.val):=by decide +kernel
theorem byteBits_grow {bs:List Bool} {l:List UInt8} {m:Nat} (h:byteBits l=bs++List.replicate m false) (hl:l.length=(bs.length+7) / 8) :
  ∃ M,1≤M∧byteBits (grow l bs.length)=bs++List.replicate M false:=by
 have hlen:8*l.length=bs.length+m:=by
  have:=congrArg List.length h
  rw [byteBits_len,List.length_append,List.length_replicate] at this
  exact this
 unfold grow
 split
 ·refine ⟨8,by decide,?_⟩
  rw [byteBits_app,h,show m=0 by omega]
  simp only [List.replicate_zero,List.append_nil]
  congr 1
 ·exact ⟨m,by omega,h⟩
theorem byteBits_putB {bs:List Bool} {l:List UInt8} {m:Nat} (h:byteBits l=bs++List.replicate m false) (hl:l.length=(bs.length+7) / 8) (b:Bool) :
  ∃ m',byteBits (putB l bs.length b)=bs++[b]++List.replicate m' false:=by
 obtain ⟨M,hM,hg⟩:=byteBits_grow h hl
 have hgl:=grow_len hl
 unfold putB
 cases b with
 | false =>
  refine ⟨M-1,?_⟩
  rw [if_neg (by decide),hg,List.append_assoc]
  congr 1
  obtain ⟨k,rfl⟩:∃ k,M=k+1:=⟨M-1,by omega⟩
  rfl
 | true =>
  refine ⟨M-1,?_⟩
  rw [if_pos rfl]
  generalize grow l bs.length=L at *
  have hLen:8*L.length=bs.length+M:=by
   have:=congrArg List.length hg
   rw [byteBits_len,List.length_append,List.length_replicate] at this
   exact this
  have hi:bs.length / 8<L.length:=by omega
  have hc:L[bs.length / 8]?=some L[bs.length / 8]:=List.getElem?_eq_getElem hi
  have hd:L.getD (bs.length / 8) 0=L[bs.length / 8]:=by rw [List.getD_eq_getElem?_getD,hc];rfl
  rw [hd]
  refine List.ext_getElem? fun k=>?_
  by_cases hk:k<8*L.length
  ·have hki:k / 8<L.length:=by omega
   have hold:=byteBits_at L (k / 8) (k % 8) L[k / 8] (by omega) (List.getElem?_eq_getElem hki)
   rw [show 8*(k / 8)+k % 8=k by omega,hg] at hold
   have hnew:(byteBits (L.set (bs.length / 8) (orBit L[bs.length / 8] (bs.length % 8))))[k]?=some (bitOf (if bs.length / 8=k / 8 then orBit L[bs.length / 8] (bs.length % 8) else L[k / 8]).toNat (7-k % 8)):=by
    have:=byteBits_at (L.set (bs.length / 8) (orBit L[bs.length / 8] (bs.length % 8))) (k / 8) (k % 8) (if bs.length / 8=k / 8 then orBit L[bs.length / 8] (bs.length % 8) else L[k / 8]) (by omega) (by
     rw [List.getElem?_set]
     split
     ·rfl
     ·exact List.getElem?_eq_getElem hki)
    rwa [show 8*(k / 8)+k % 8=k by omega] at this
   rw [hnew]
   have hor:=orBit_bits ⟨L[bs.length / 8].toNat,L[bs.length / 8].toNat_lt⟩ ⟨bs.length % 8,by omega⟩ ⟨k % 8,by omega⟩
   simp only [UInt8.ofNat_toNat] at hor
   rcases Nat.lt_trichotomy k bs.length with h1 | h1 | h1
   ·rw [List.getElem?_append_left h1] at hold
    rw [List.append_assoc,List.getElem?_append_left h1,hold]
    split
    ·rename_i e
     rw [hor]
     have:¬ bs.length % 8=k % 8:=by omega
     simp [this,e]
    ·rfl
   ·subst h1
    rw [if_pos rfl,hor]
    simp
   ·rw [List.getElem?_append_right (by omega),List.getElem?_replicate,if_pos (by omega)] at hold
    have hl1:(bs++[true]).length=bs.length+1:=by simp
    have h2:(List.replicate (M-1) false)[k-(bs++[true]).length]?=some false:=by rw [List.getElem?_replicate];exact if_pos (by omega)
    rw [List.getElem?_append_right (by omega),h2,hold]
    split
    ·rename_i e
     rw [hor]
     have:¬ bs.length % 8=k % 8:=by omega
     simp [this,e]
    ·rfl
  ·rw [List.getElem?_eq_none (by rw [byteBits_len,List.length_set];omega),List.getElem?_eq_none (by simp;omega)]
theorem byteBits_pk (bs:List Bool):∃ m,byteBits (pk bs)=bs++List.replicate m false:=by
 have key:∀ (n:Nat) (bs:List Bool),bs.length=n→∃ m,byteBits (pk bs)=bs++List.replicate m false:=by
  intro n
  induction n with
  | zero=>intro bs h;rw [List.eq_nil_of_length_eq_zero h];exact ⟨0,rfl⟩
  | succ n ih =>
   intro bs h
   rcases List.eq_nil_or_concat bs with rfl | ⟨c,b,rfl⟩
   ·cases h
   ·rw [List.concat_eq_append] at *
    obtain ⟨m,hm⟩:=ih c (by simpa using h)
    rw [pk_app]
    exact byteBits_putB hm (pk_len c) b
 exact key _ bs rfl
def num (l:List Bool):Nat:=l.foldl (fun v b=>2*v+b2n b) 0
theorem num_snoc (l:List Bool) (b:Bool):num (l++[b])=2*num l+b2n b:=by unfold num;rw [List.foldl_append];rfl
theorem b2n_le (b:Bool):b2n b≤1:=by cases b<;>decide
theorem num_lt (l:List Bool):num l<2 ^ l.length:=by
 have key:∀ (n:Nat) (l:List Bool),l.length=n→num l<2 ^ n:=by
  intro n
  induction n with
  | zero=>intro l h;rw [List.eq_nil_of_length_eq_zero h];decide
  | succ n ih =>
   intro l h
   rcases List.eq_nil_or_concat l with rfl | ⟨c,b,rfl⟩
   ·cases h
   ·rw [List.concat_eq_append] at *
    have:=ih c (by simpa using h)
    have:=b2n_le b
    rw [num_snoc,Nat.pow_succ];omega
 exact key _ l rfl
theorem fold_low (v:Nat):∀ (k a:Nat),(low v k).foldl (fun v b=>2*v+b2n b) a=a*2 ^ k+v % 2 ^ k
 | 0,a=>by simp [low,Nat.mod_one]
 | k+1,a=>by
  rw [low,List.foldl_cons,fold_low v k,← bitOf_eq,Nat.mod_pow_succ,Nat.pow_succ,Nat.add_mul]
  rw [Nat.mul_comm 2 a,Nat.mul_assoc a 2,Nat.mul_comm 2 (2 ^ k),Nat.mul_comm (v / 2 ^ k % 2)]
  omega
theorem num_low {v k:Nat} (h:v<2 ^ k):num (low v k)=v:=by
 unfold num
 rw [fold_low,Nat.zero_mul,Nat.zero_add,Nat.mod_eq_of_lt h]
theorem take_low (v k:Nat) (tail:List Bool):(low v k++tail).take k=low v k∧(low v k++tail).drop k=tail:=by
 have:=low_len v k
 constructor
 ·rw [List.take_append_of_le_length (by omega),List.take_of_length_le (by omega)]
 ·rw [List.drop_append_of_le_length (by omega),List.drop_of_length_le (by omega),List.nil_append]
end Go.Proofs.YtmfgmcajelmgbaaGreatDoor.Bits

namespace Go.Proofs.YtmfgmcajelmgbaaGreatDoor.Mem
open Go Vm Go.RowKit Num
abbrev Rng (t n:Nat):Nat→Bool:=fun u=>Nat.ble t u&&Nat.blt u (t+n)
theorem rng_in {t n s:Nat} (h1:t≤s) (h2:s<t+n) {u:Nat} (h:Rng t n u=false):One s u=false:=by
 cases hb:Nat.beq u s with
 | false=>exact hb
 | true =>
  have e:u=s:=Nat.eq_of_beq_eq_true hb
  subst e
  have a:Nat.ble t u=true:=Nat.ble_eq_true_of_le h1
  have b:Nat.blt u (t+n)=true:=Nat.blt_eq.mpr h2
  simp [Rng,a,b] at h
theorem Stp.rng {s t n:Nat} {ω ω':Tg} {w w':World} (h:Stp (One s) ω ω' w w') (h1:t≤s) (h2:s<t+n):Stp (Rng t n) ω ω' w w':=h.mono fun _ hu=>rng_in h1 h2 hu
theorem rng_out {t n u:Nat} (h:u<t∨t+n≤u):Rng t n u=false:=by
 cases a:Nat.ble t u
 ·simp [Rng,a]
 ·cases b:Nat.blt u (t+n)
  ·simp [Rng,b]
  ·have:=Nat.le_of_ble_eq_true a
   have:=Nat.blt_eq.mp b
   omega
end Go.Proofs.YtmfgmcajelmgbaaGreatDoor.Mem
namespace Go.Proofs.YtmfgmcajelmgbaaGreatDoor.Chunk
open Go Vm Go.RowKit Num Mem Bits Vint
theorem tiS:TI Tryz.prog 52 96 2 16:=TI.of (z:=.agg #[.int .i64 0,.float .f64 0]) (by kernel_rfl) (by kernel_rfl) rfl (by decide)
abbrev OS (ω:Tg) (w:World) (t:Nat) (s:Sl) (l:List Smp):Prop:=OT ω w t 96 2 s (smps l)
theorem OS.len {ω:Tg} {w:World} {t:Nat} {s:Sl} {l:List Smp} (h:OS ω w t s l):s.n=l.length:=by
 have:=h.own.1
 rw [smps_len] at this
 omega
abbrev OBy (ω:Tg) (w:World) (t:Nat) (s:Sl) (l:List UInt8):Prop:=OT ω w t 5 1 s (vBs l)
theorem OBy.len {ω:Tg} {w:World} {t:Nat} {s:Sl} {l:List UInt8} (h:OBy ω w t s l):s.n=l.length:=OwnB.len h.own
def winA:Win→Int | some (a,_)=>(a:Int) | none=>0
def winB:Win→Int | some (_,b)=>(b:Int) | none=>0
structure CkS (ω:Tg) (w:World) (t gc gw:Nat) (sl:Sl) (l:List Smp) (bs:List Bool) (wn:Win):Prop where
 blk:BT ω w t gc 243 [sl.v,.pointer (wp gw),.int .i64 (winA wn),.int .i64 (winB wn),.bool wn.isSome]
 own:OS ω w (t+1) sl l
 wr:WrT ω w (t+2) gw bs
variable {ω ω' : Tg} {w w' w0 : World} {t gc gw : Nat} {sl : Sl} {l : List Smp} {bs : List Bool} {wn : Win}
theorem CkS.stp {T:Nat→Bool} (h:CkS ω w t gc gw sl l bs wn) (k:Stp T ω ω' w w') (n0:T t=false) (n1:T (t+1)=false) (n2:T (t+2)=false):CkS ω' w' t gc gw sl l bs wn :=
 ⟨h.blk.stp k n0,h.own.stp k n1,h.wr.stp k n2⟩
theorem CkS.non (h:CkS ω w t gc gw sl l bs wn) (k:Stp Non ω ω' w w'):CkS ω' w' t gc gw sl l bs wn:=h.stp k rfl rfl rfl
theorem CkS.drew (h:CkS ω w t gc gw sl l bs wn):CkS ω w.drew t gc gw sl l bs wn:=h.non (drew_stp ω w)
theorem CkS.loc (h:CkS ω w t gc gw sl l bs wn) (k:Stp (One (t+3)) ω ω' w w'):CkS ω' w' t gc gw sl l bs wn:=h.stp k (beq_no (by omega)) (beq_no (by omega)) (beq_no (by omega))
theorem CkS.rdW (h:CkS ω w t gc gw sl l bs wn) {K:Option Addr→Prop} (hK:K (wp gw)):G.ptr (wp gc) fun p=>G.cP (p.add 1) w K:=ptr_at (cP_at (by rw [addr_add,h.blk.cell];rfl) hK)
theorem CkS.rdL (h:CkS ω w t gc gw sl l bs wn) {K:Sl→Prop} (hK:K sl):G.ptr (wp gc) fun p=>G.cSl p w K:=ptr_at (cSl_at (by rw [h.blk.cell];rfl) hK)
theorem CkS.bits (h:CkS ω w t gc gw sl l bs wn) {v k:Nat} {m x:Int} (hm:m=(k:Int)) (hk:k≤64) (hv:v<2 ^ k) (hn:bs.length+k≤8388608) (hx:x=(v:Int)) {K:Int→World→Prop}
  (hK:∀ ω' w',Stp (One (t+2)) ω ω' w w'→CkS ω' w' t gc gw sl l (bs++low v k) wn→K 0 w'):C.bits_Writer_Bits (wp gw) x m w K :=
 bits_T h.wr hm hk hv hn hx fun ω' w' k h'=>hK ω' w' k ⟨h.blk.stp k (beq_no (by omega)),h.own.stp k (beq_no (by omega)),h'⟩
theorem bytes_ok (h:CkS ω w t gc gw sl l bs wn) {b:Sl} {m:List UInt8} (hb:OBy ω w (t+3) b m) (hn:bs.length+8*m.length≤8388608) {K:World→Prop}
  (hK:∀ ω' w',Stp (One (t+2)) ω ω' w w'→CkS ω' w' t gc gw sl l (bs++byteBits m) wn→K w'):C.chunk_Chunk_bytes (wp gc) b w K:=by
 unfold C.chunk_Chunk_bytes
 refine C.chunk_Chunk_bytes.L3_ind fun X hX=>?_
 have hbn:=hb.len
 have key:∀ (d i:Nat) (ω':Tg) (w':World),d+i=m.length→Stp (One (t+2)) ω ω' w w'→OBy ω' w' (t+3) b m→CkS ω' w' t gc gw sl l (bs++byteBits (m.take i)) wn→X (wp gc) b ((b.n:Nat):Int) (i:Int) w':=by
  intro d
  induction d with
  | zero =>
   intro i ω' w' hi k hb' h'
   refine hX _ _ _ _ _ ?_
   unfold C.chunk_Chunk_bytes.S5
   refine cond_d (fun h=>by omega) (fun _=>hK ω' w' k ?_)
   rwa [show i=m.length by omega,List.take_length] at h'
  | succ d ih =>
   intro i ω' w' hi k hb' h'
   have him:i<m.length:=by omega
   refine hX _ _ _ _ _ ?_
   unfold C.chunk_Chunk_bytes.S5
   refine cond_d (fun _=>?_) (fun h=>by omega)
   refine RdB.at_ hb'.rd him ?_
   refine h'.rdW ?_
   have hlt:=m[i].toNat_lt
   have htl:(m.take i).length=i:=by rw [List.length_take,Nat.min_eq_left (by omega)]
   refine h'.bits (v:=m[i].toNat) (k:=8) rfl (by decide) hlt (by rw [List.length_append,byteBits_len,htl];omega) (by rw [wU64_id (by omega) (by omega)]) fun ω2 w2 k2 h2=>?_
   rw [wI64 (by omega) (by omega),show (i:Int)+1=((i+1:Nat):Int) by omega]
   refine ih (i+1) ω2 w2 (by omega) (k.trans k2) (hb'.stp k2 (beq_no (by omega))) ?_
   have e:byteBits (m.take (i+1))=byteBits (m.take i)++low m[i].toNat 8:=by
    rw [List.take_add_one,List.getElem?_eq_getElem him]
    unfold byteBits
    rw [List.flatMap_append]
    simp
   rw [e,← List.append_assoc]
   exact h2
 exact key m.length 0 ω w (by omega) (Stp.refl _ _ _) hb (by simpa [byteBits] using h)
def formA (i:Nat):Nat:=[2,3,4].getD i 0
def formO (i:Nat):Nat:=[2,6,14].getD i 0
def formW (i:Nat):Nat:=[14,17,20].getD i 0
def tfrom (d:Int):Nat→Nat→List Bool
 | 0,_=>low 15 4++low (uN d) 64
 | k+1,i=>if fitsB d (formW i) then low (formO i) (formA i)++low (lowN d (formW i)) (formW i) else tfrom d k (i+1)
theorem tform_from (d:Int) (h:d≠0):tform d=tfrom d 3 0:=by
 unfold tform
 rw [if_neg h]
 rfl
theorem wU64_nn (x:Int):0≤IntKind.u64.wrap x:=by rw [wU64];omega
theorem rng3 {u:Nat} {t:Nat} {ω ω':Tg} {w w':World} (h:Stp (One u) ω ω' w w') (h1:t≤u:=by omega) (h2:u<t+4:=by omega):Stp (Rng t 4) ω ω' w w':=h.rng h1 h2
theorem forms_at (i:Nat) (hi:i<3):(#[(.int .i64 (2:Int)),(.int .i64 (2:Int)),(.int .i64 (14:Int)),(.int .i64 (3:Int)),(.int .i64 (6:Int)),(.int .i64 (17:Int)),(.int .i64 (4:Int)),(.int .i64 (14:Int)),(.int .i64 (20:Int))]:Array Value)[((i:Nat):Int).toNat*3+0]?=some (.int .i64 (formA i:Nat)) ∧
  (#[(.int .i64 (2:Int)),(.int .i64 (2:Int)),(.int .i64 (14:Int)),(.int .i64 (3:Int)),(.int .i64 (6:Int)),(.int .i64 (17:Int)),(.int .i64 (4:Int)),(.int .i64 (14:Int)),(.int .i64 (20:Int))]:Array Value)[((i:Nat):Int).toNat*3+1]?=some (.int .i64 (formO i:Nat)) ∧
  (#[(.int .i64 (2:Int)),(.int .i64 (2:Int)),(.int .i64 (14:Int)),(.int .i64 (3:Int)),(.int .i64 (6:Int)),(.int .i64 (17:Int)),(.int .i64 (4:Int)),(.int .i64 (14:Int)),(.int .i64 (20:Int))]:Array Value)[((i:Nat):Int).toNat*3+2]?=some (.int .i64 (formW i:Nat)):=by
 match i,hi with
 | 0,_=>exact ⟨rfl,rfl,rfl⟩
 | 1,_=>exact ⟨rfl,rfl,rfl⟩
 | 2,_=>exact ⟨rfl,rfl,rfl⟩
theorem time_ok (h:CkS ω w t gc gw sl l bs wn) {d:Int} (hn:bs.length+68≤8388608) {K:World→Prop}
  (hK:∀ ω' w',Stp (Rng t 4) ω ω' w w'→CkS ω' w' t gc gw sl l (bs++tform d) wn→K w'):C.chunk_Chunk_time (wp gc) d w K:=by
 unfold C.chunk_Chunk_time C.chunk_Chunk_time.S8
 -- the local table
 refine new_T (ω:=ω) (t+3) fun g ω1 w1 k1 b1=>?_
 have s1:Stp (One (t+3)) ω ω1 w w1:=k1.non _
 refine st_T b1 (by simp) fun ω2 w2 k2 b2=>?_
 refine st_TA b2 (by simp) fun ω3 w3 k3 b3=>?_
 refine st_TA b3 (by simp) fun ω4 w4 k4 b4=>?_
 refine st_TA b4 (by simp) fun ω5 w5 k5 b5=>?_
 refine st_TA b5 (by simp) fun ω6 w6 k6 b6=>?_
 refine st_TA b6 (by simp) fun ω7 w7 k7 b7=>?_
 refine st_TA b7 (by simp) fun ω8 w8 k8 b8=>?_
 refine st_TA b8 (by simp) fun ω9 w9 k9 b9=>?_
 refine st_TA b9 (by simp) fun ωa wa ka ba=>?_
 have sa:Stp (One (t+3)) ω ωa w wa:=s1.trans (k2.trans (k3.trans (k4.trans (k5.trans (k6.trans (k7.trans (k8.trans (k9.trans ka))))))))
 have ha:=h.loc sa
 have sa:=rng3 (t:=t) sa
 refine cond_eq (fun hd=>?_) (fun hd=>?_)
 ·refine ha.rdW (ha.bits (v:=0) (k:=1) rfl (by decide) (by decide) (by omega) rfl fun ωb wb kb hb=>?_)
  refine hK ωb wb (sa.trans (rng3 kb)) ?_
  have:tform d=low 0 1:=by unfold tform;rw [if_pos hd]
  rw [this];exact hb
 refine cI_at (n:=2) (by rw [ba.cell];rfl)<|cI_at (n:=2) (by rw [addr_add,ba.cell];rfl)<|cI_at (n:=14) (by rw [addr_add,ba.cell];rfl)<|cI_at (n:=3) (by rw [addr_add,ba.cell];rfl)<|cI_at (n:=6) (by rw [addr_add,ba.cell];rfl)<|cI_at (n:=17) (by rw [addr_add,ba.cell];rfl) <|
  cI_at (n:=4) (by rw [addr_add,ba.cell];rfl)<|cI_at (n:=14) (by rw [addr_add,ba.cell];rfl)<|cI_at (n:=20) (by rw [addr_add,ba.cell];rfl) ?_
 refine C.chunk_Chunk_time.L4_ind fun X hX=>?_
 rw [tform_from d hd] at hK
 clear b1 b2 b3 b4 b5 b6 b7 b8 b9 ba
 have key:∀ (k i:Nat) (ω':Tg) (w':World),i+(k+1)=3→Stp (Rng t 4) ω ω' w w'→CkS ω' w' t gc gw sl l bs wn→(∀ ω' w',Stp (Rng t 4) ω ω' w w'→CkS ω' w' t gc gw sl l (bs++tfrom d (k+1) i) wn→K w')→X (wp gc) d 2 2 14 3 6 17 4 14 20 (i:Int) w':=by
  intro k
  induction k with
  | zero =>
   intro i ω' w' hi s h hK
   have hi2:i=2:=by omega
   subst hi2
   refine hX _ _ _ _ _ _ _ _ _ _ _ _ _ ?_
   unfold C.chunk_Chunk_time.S6
   refine cond_d (fun _=>⟨⟨by omega,by omega⟩,?_⟩) (fun h=>absurd h (by decide))
   obtain ⟨f0,f1,f2⟩:=forms_at 2 (by decide)
   refine ⟨_,f0,_,f1,_,f2,?_⟩
   refine new_T (ω:=ω') (t+3) fun g ω1 w1 k1 b1=>?_
   refine st_T b1 (by simp) fun ω2 w2 k2 b2=>?_
   refine st_TA b2 (by simp) fun ω3 w3 k3 b3=>?_
   refine st_TA b3 (by simp) fun ω4 w4 k4 b4=>?_
   have s4':Stp (One (t+3)) ω' ω4 w' w4:=(k1.non _).trans (k2.trans (k3.trans k4))
   have h4:=h.loc s4'
   have s4:=s.trans (rng3 s4')
   refine cI_at (n:=20) (by rw [addr_add,b4.cell];rfl) ⟨wU64_nn _,?_⟩
   refine fits_cond (k:=20) (by decide) (by decide) (fun hf=>?_) (fun hf=>?_)
   ·refine h4.drew.rdW ?_
    have bd:=b4.stp (drew_stp ω4 w4)
    refine cI_at (n:=14) (by rw [addr_add,bd.cell];rfl)<|cI_at (n:=4) (by rw [bd.cell];rfl) ?_
    refine h4.drew.bits (v:=14) (k:=4) rfl (by decide) (by decide) (by omega) rfl fun ω5 w5 k5 h5=>?_
    have s5:=s4.trans (((drew_stp ω4 w4).non _).trans (rng3 k5))
    have b5:=(bd.stp k5 (beq_no (by omega))).stp (drew_stp ω5 w5)
    refine h5.drew.rdW ?_
    refine cI_at (n:=20) (by rw [addr_add,b5.cell];rfl) ⟨wU64_nn _,cI_at (n:=20) (by rw [addr_add,b5.cell];rfl) ?_⟩
    have hl:=low_and (n:=d) (k:=20) (by decide)
    refine h5.drew.bits (v:=lowN d 20) (k:=20) rfl (by decide) (lowN_lt2 d (by decide)) (by simp only [List.length_append,low_len];omega) hl fun ω6 w6 k6 h6=>?_
    refine hK ω6 w6 (s5.trans (((drew_stp ω5 w5).non _).trans (rng3 k6))) ?_
    have:tfrom d (0+1) 2=low 14 4++low (lowN d 20) 20:=by
     rw [tfrom,show formW 2=20 from rfl,hf,if_pos rfl];rfl
    rw [this,← List.append_assoc];exact h6
   ·refine cI_at (n:=20) (by rw [addr_add,b4.cell];rfl) (cond_t rfl ?_)
    refine h4.rdW (h4.bits (v:=15) (k:=4) rfl (by decide) (by decide) (by omega) rfl fun ω5 w5 k5 h5=>?_)
    refine h5.rdW (h5.bits (v:=uN d) (k:=64) rfl (by decide) (uN_lt d) (by simp only [List.length_append,low_len];omega) (wrapU d) fun ω6 w6 k6 h6=>?_)
    refine hX _ _ _ _ _ _ _ _ _ _ _ _ _ ?_
    unfold C.chunk_Chunk_time.S6
    refine cond_f rfl (hK ω6 w6 (s4.trans ((rng3 k5).trans (rng3 k6))) ?_)
    have:tfrom d (0+1) 2=low 15 4++low (uN d) 64:=by
     rw [tfrom,show formW 2=20 from rfl,hf,if_neg (by decide)];rfl
    rw [this,← List.append_assoc];exact h6
  | succ k ih =>
   intro i ω' w' hi s h hK
   have hi3:i<3:=by omega
   refine hX _ _ _ _ _ _ _ _ _ _ _ _ _ ?_
   unfold C.chunk_Chunk_time.S6
   refine cond_d (fun _=>⟨⟨by omega,by omega⟩,?_⟩) (fun h=>by omega)
   obtain ⟨f0,f1,f2⟩:=forms_at i hi3
   refine ⟨_,f0,_,f1,_,f2,?_⟩
   have hw:0<formW i∧formW i≤17∧formA i≤4∧formO i<2 ^ formA i:=(show ∀ j:Fin 2,0<formW j.val∧formW j.val≤17∧formA j.val≤4∧formO j.val<2 ^ formA j.val by decide) ⟨i,by omega⟩
   refine new_T (ω:=ω') (t+3) fun g ω1 w1 k1 b1=>?_
   refine st_T b1 (by simp) fun ω2 w2 k2 b2=>?_
   refine st_TA b2 (by simp) fun ω3 w3 k3 b3=>?_
   refine st_TA b3 (by simp) fun ω4 w4 k4 b4=>?_
   have s4':Stp (One (t+3)) ω' ω4 w' w4:=(k1.non _).trans (k2.trans (k3.trans k4))
   have h4:=h.loc s4'
   have s4:=s.trans (rng3 s4')
   refine cI_at (n:=((formW i:Nat):Int)) (by rw [addr_add,b4.cell];rfl) ⟨wU64_nn _,?_⟩
   refine fits_cond (k:=formW i) hw.1 (by omega) (fun hf=>?_) (fun hf=>?_)
   ·refine h4.drew.rdW ?_
    have bd:=b4.stp (drew_stp ω4 w4)
    refine cI_at (n:=((formO i:Nat):Int)) (by rw [addr_add,bd.cell];rfl)<|cI_at (n:=((formA i:Nat):Int)) (by rw [bd.cell];rfl) ?_
    have ho:formO i<18446744073709551616:=Nat.lt_of_lt_of_le hw.2.2.2 (Nat.pow_le_pow_right (by decide:0<2) (by omega:formA i≤64))
    refine h4.drew.bits (v:=formO i) (k:=formA i) rfl (by omega) hw.2.2.2 (by omega) (by rw [wU64_id (by omega) (by omega)]) fun ω5 w5 k5 h5=>?_
    have s5:=s4.trans (((drew_stp ω4 w4).non _).trans (rng3 k5))
    have b5:=(bd.stp k5 (beq_no (by omega))).stp (drew_stp ω5 w5)
    refine h5.drew.rdW ?_
    refine cI_at (n:=((formW i:Nat):Int)) (by rw [addr_add,b5.cell];rfl) ⟨wU64_nn _,cI_at (n:=((formW i:Nat):Int)) (by rw [addr_add,b5.cell];rfl) ?_⟩
    have hl:=low_and (n:=d) (k:=formW i) (by omega)
    refine h5.drew.bits (v:=lowN d (formW i)) (k:=formW i) rfl (by omega) (lowN_lt2 d (by omega)) (by simp only [List.length_append,low_len];omega) hl fun ω6 w6 k6 h6=>?_
    refine hK ω6 w6 (s5.trans (((drew_stp ω5 w5).non _).trans (rng3 k6))) ?_
    rw [tfrom,if_pos hf,← List.append_assoc];exact h6
   ·have hne:formW i≠20:=by omega
    refine cI_at (n:=((formW i:Nat):Int)) (by rw [addr_add,b4.cell];rfl) (cond_f (by simp;omega) ?_)
    rw [wI64 (by omega) (by omega),show (i:Int)+1=((i+1:Nat):Int) by omega]
    refine ih (i+1) ω4 w4 (by omega) s4 h4 fun ω5 w5 s5 h5=>hK ω5 w5 s5 ?_
    rw [tfrom,if_neg (by rw [hf];decide)];exact h5
 exact key 2 0 ωa wa rfl sa ha hK
end Go.Proofs.YtmfgmcajelmgbaaGreatDoor.Chunk

namespace Go.Proofs.YtmfgmcajelmgbaaGreatDoor.Bits
open Go Vm Go.RowKit Num Mem
structure DT (ω:Tg) (w:World):Prop where
 tab:DTab w
 z:ω 5=0
theorem DT.lt {ω:Tg} {w:World} (h:DT ω w):5<w.heap.size:=cell_lt (h.tab 0 (by decide))
theorem DT.stp {T:Nat→Bool} {ω ω':Tg} {w w':World} (h:DT ω w) (k:Stp T ω ω' w w') (h0:T 0=false:=by rfl):DT ω' w' :=
 ⟨fun j hj=>by rw [World.cell?_of_block (w:=w) (k.block _ h.lt (by rw [h.z];exact h0))];exact h.tab j hj,(k.same _ h.lt).trans h.z⟩
theorem DT.rng {t n:Nat} {ω ω':Tg} {w w':World} (h:DT ω w) (k:Stp (Rng t n) ω ω' w w') (ht:0<t):DT ω' w':=h.stp k (rng_out (.inl ht))
theorem DT.one {t:Nat} {ω ω':Tg} {w w':World} (h:DT ω w) (k:Stp (One t) ω ω' w w') (ht:0<t):DT ω' w':=h.stp k (beq_no (by omega))
end Go.Proofs.YtmfgmcajelmgbaaGreatDoor.Bits
namespace Go.Proofs.YtmfgmcajelmgbaaGreatDoor.Chunk
open Go Vm Go.RowKit Num Mem Bits Vint
variable {ω ω' : Tg} {w w' w0 : World} {t gc gw : Nat} {sl : Sl} {l : List Smp} {bs : List Bool} {wn : Win}
theorem same_refl (a:Addr) (n:Nat) (w:World):sameAt a n w w:=⟨rfl,fun _ _=>rfl⟩
theorem valueNew {g:Nat} (h:CkS ω w t gc gw sl l bs wn) {x:Nat} (hx:x<18446744073709551616) (h0:x≠0) (hb:BT ω w (t+3) g 183 [.int .i64 ((lead x:Nat):Int),.int .i64 ((trail x:Nat):Int)]) (hn:bs.length+77≤8388608) {K:World→Prop}
  (hK:∀ ω' w',Stp (Rng t 4) ω ω' w w'→CkS ω' w' t gc gw sl l (bs++(low 1 1++low (lead x) 5++low ((64-lead x-trail x) % 64) 6++low (x / 2 ^ trail x) (64-lead x-trail x))) (some (lead x,trail x))→K w') :
  C.chunk_Chunk_value.S2 K (wp gc) (x:Int) (wp g) w:=by
 unfold C.chunk_Chunk_value.S2
 have hlt:=lead_trail hx h0
 have hl31:=lead_le x
 have hmid:=mid_lt (a:=lead x) (b:=trail x) hx (Nat.le_refl _) (by omega)
 refine ptr_at (cI_at (n:=((lead x:Nat):Int)) (by rw [hb.cell];rfl)<|ptr_at<|cI_at (n:=((trail x:Nat):Int)) (by rw [addr_add,hb.cell];rfl) ?_)
 have en:IntKind.i64.wrap ((IntKind.i64.wrap ((64:Int)-((lead x:Nat):Int)))-((trail x:Nat):Int))=((64-lead x-trail x:Nat):Int):=by
  rw [wI64 (x:=(64:Int)-_) (by omega) (by omega),wI64 (by omega) (by omega)];omega
 rw [en]
 refine h.rdW (h.bits (v:=1) (k:=1) rfl (by decide) (by decide) (by omega) rfl fun ω1 w1 k1 h1=>?_)
 have b1:=(hb.stp k1 (beq_no (by omega))).stp (drew_stp ω1 w1)
 refine h1.drew.rdW ?_
 refine ptr_at (cI_at (n:=((lead x:Nat):Int)) (by rw [b1.cell];rfl) ?_)
 refine h1.drew.bits (v:=lead x) (k:=5) rfl (by decide) (by have:(2:Nat)^5=32:=rfl;omega) (by simp only [List.length_append,low_len];omega) (by rw [wU64_id (by omega) (by omega)]) fun ω2 w2 k2 h2=>?_
 refine h2.rdW ⟨by decide,?_⟩
 have e6:IntKind.u64.wrap (Int.tmod ((64-lead x-trail x:Nat):Int) (64:Int))=(((64-lead x-trail x) % 64:Nat):Int):=by
  rw [show Int.tmod ((64-lead x-trail x:Nat):Int) (64:Int)=(((64-lead x-trail x) % 64:Nat):Int) from rfl,wU64_id (by omega) (by omega)]
 refine h2.bits (v:=(64-lead x-trail x) % 64) (k:=6) rfl (by decide) (Nat.mod_lt _ (by decide)) (by simp only [List.length_append,low_len];omega) e6 fun ω3 w3 k3 h3=>?_
 have b3:=((b1.stp k2 (beq_no (by omega))).stp k3 (beq_no (by omega))).stp (drew_stp ω3 w3)
 refine h3.drew.rdW ?_
 refine ptr_at (cI_at (n:=((trail x:Nat):Int)) (by rw [addr_add,b3.cell];rfl) ⟨wU64_nn _,?_⟩)
 refine mask_ok (n:=64-lead x-trail x) (by omega) ⟨same_refl _ _ _,same_refl _ _ _,?_⟩
 have es:shr .u64 (x:Int) (IntKind.u64.wrap ((trail x:Nat):Int))=((x / 2 ^ trail x:Nat):Int):=by rw [wU64_id (by omega) (by omega),shr64 (by omega)]
 refine h3.drew.bits (v:=x / 2 ^ trail x) (k:=64-lead x-trail x) rfl (by omega) hmid (by simp only [List.length_append,low_len];omega) (by rw [es,and_mask hmid (by omega)]) fun ω4 w4 k4 h4=>?_
 have b4:=b3.stp k4 (beq_no (by omega))
 refine ptr_at (cI_at (n:=((lead x:Nat):Int)) (by rw [b4.cell];rfl)<|cI_at (n:=((trail x:Nat):Int)) (by rw [addr_add,b4.cell];rfl)<|ptr_at ?_)
 refine st_TA h4.blk (by simp) fun ω5 w5 k5 b5=>?_
 rw [addr_add,addr_add]
 refine st_T b5 (by simp) fun ω6 w6 k6 b6=>?_
 refine ptr_at (st_TA b6 (by simp) fun ω7 w7 k7 b7=>?_)
 have sA:Stp (Rng t 4) ω ω4 w w4:=(rng3 k1).trans (((drew_stp ω1 w1).non _).trans ((rng3 k2).trans ((rng3 k3).trans (((drew_stp ω3 w3).non _).trans (rng3 k4)))))
 have k57:=k5.trans (k6.trans k7)
 refine hK ω7 w7 (sA.trans (rng3 k57)) ⟨b7,h4.own.stp k57 (beq_no (by omega)),?_⟩
 have:=h4.wr.stp k57 (beq_no (by omega))
 simpa only [List.append_assoc] using this
theorem value_ok (h:CkS ω w t gc gw sl l bs wn) (ht:0<t) (hT:DT ω w) (hwn:WinOk wn) {x:Nat} (hx:x<18446744073709551616) (hn:bs.length+100≤8388608) {K:World→Prop}
  (hK:∀ ω' w',Stp (Rng t 4) ω ω' w w'→CkS ω' w' t gc gw sl l (bs++(vform wn x).1) (vform wn x).2→K w'):C.chunk_Chunk_value (wp gc) (x:Int) w K:=by
 unfold C.chunk_Chunk_value
 refine cond_eq (fun hz=>?_) (fun hz=>?_)
 ·refine h.rdW (h.bits (v:=0) (k:=1) rfl (by decide) (by decide) (by omega) rfl fun ω1 w1 k1 h1=>?_)
  have e:vform wn x=(low 0 1,wn):=by unfold vform;rw [if_pos (by omega)]
  rw [e] at hK
  exact hK ω1 w1 (rng3 k1) h1
 have h0:x≠0:=by omega
 have hlt:=lead_trail hx h0
 have hl31:=lead_le x
 have hbl:=bitLen_le x
 refine h.rdW (h.bits (v:=1) (k:=1) rfl (by decide) (by decide) (by omega) rfl fun ω1 w1 k1 h1=>?_)
 refine leading_ok hx (trailing_ok hx h0 (hT.one k1 (by omega)).tab ?_)
 refine new_T (ω:=ω1) (t+3) fun g ω2 w2 k2 b2=>?_
 have el:(if (31:Int)<((64-Lib.bitLen x:Nat):Int) then (31:Int) else ((64-Lib.bitLen x:Nat):Int))=((lead x:Nat):Int):=by
  unfold lead
  by_cases hq:31<64-Lib.bitLen x
  ·rw [if_pos (by omega),Nat.min_eq_right (by omega)];rfl
  ·rw [if_neg (by omega),Nat.min_eq_left (by omega)]
 rw [el]
 refine st_T b2 (by simp) fun ω3 w3 k3 b3=>?_
 refine st_TA b3 (by simp) fun ω4 w4 k4 b4=>?_
 have s4':Stp (One (t+3)) ω1 ω4 w1 w4:=(k2.non _).trans (k3.trans k4)
 have h4:=(h1.loc s4').drew
 have b4:=b4.stp (drew_stp ω4 w4)
 have s4:Stp (Rng t 4) ω ω4 w w4.drew:=(rng3 k1).trans ((rng3 s4').trans ((drew_stp ω4 w4).non _))
 have new:holdsW wn x=false→C.chunk_Chunk_value.S2 K (wp gc) (x:Int) (wp g) w4.drew:=fun hh=>by
  refine valueNew h4 hx h0 b4 (by simp only [List.length_append,low_len];omega) fun ω5 w5 s5 h5=>hK ω5 w5 (s4.trans s5) ?_
  have e:vform wn x=(low 1 1++low 1 1++low (lead x) 5++low ((64-lead x-trail x) % 64) 6++low (x / 2 ^ trail x) (64-lead x-trail x),some (lead x,trail x)):=by
   unfold vform;rw [if_neg h0,hh,if_neg (by decide)]
  rw [e]
  simpa only [List.append_assoc] using h5
 refine ptr_at (cB_at (b:=wn.isSome) (by rw [addr_add,h4.blk.cell];rfl) ?_)
 cases wn with
 | none=>exact cond_f rfl (new rfl)
 | some ab =>
  obtain ⟨a,b⟩:=ab
  obtain ⟨ha31,hab⟩:=hwn a b rfl
  refine cond_t rfl ?_
  refine cI_at (n:=((lead x:Nat):Int)) (by rw [b4.cell];rfl)<|ptr_at<|cI_at (n:=(a:Int)) (by rw [addr_add,h4.blk.cell];rfl) ?_
  refine cond_d (fun hla=>?_) (fun hla=>new (by unfold holdsW;simp;omega))
  refine cI_at (n:=((trail x:Nat):Int)) (by rw [addr_add,b4.cell];rfl)<|ptr_at<|cI_at (n:=(b:Int)) (by rw [addr_add,addr_add,h4.blk.cell];rfl) ?_
  refine cond_d (fun hlb=>?_) (fun hlb=>new (by unfold holdsW;simp;omega))
  have hh:holdsW (some (a,b)) x=true:=by unfold holdsW;simp;omega
  have hmid:=mid_lt (a:=a) (b:=b) hx (by omega) (by omega)
  have h5:=h4.drew
  refine ptr_at (cI_at (n:=(a:Int)) (by rw [addr_add,h5.blk.cell];rfl)<|ptr_at<|cI_at (n:=(b:Int)) (by rw [addr_add,addr_add,h5.blk.cell];rfl) ?_)
  have en:IntKind.i64.wrap ((IntKind.i64.wrap ((64:Int)-(a:Int)))-(b:Int))=((64-a-b:Nat):Int):=by
   rw [wI64 (x:=(64:Int)-_) (by omega) (by omega),wI64 (by omega) (by omega)];omega
  rw [en]
  refine h5.rdW (h5.bits (v:=0) (k:=1) rfl (by decide) (by decide) (by simp only [List.length_append,low_len];omega) rfl fun ω6 w6 k6 h6=>?_)
  refine h6.drew.rdW ?_
  refine ptr_at (cI_at (n:=(b:Int)) (by rw [addr_add,addr_add,h6.drew.blk.cell];rfl) ⟨wU64_nn _,?_⟩)
  refine mask_ok (n:=64-a-b) (by omega) ⟨same_refl _ _ _,same_refl _ _ _,?_⟩
  have es:shr .u64 (x:Int) (IntKind.u64.wrap (b:Int))=((x / 2 ^ b:Nat):Int):=by rw [wU64_id (by omega) (by omega),shr64 (by omega)]
  refine h6.drew.bits (v:=x / 2 ^ b) (k:=64-a-b) rfl (by omega) hmid (by simp only [List.length_append,low_len];omega) (by rw [es,and_mask hmid (by omega)]) fun ω7 w7 k7 h7=>?_
  have e:vform (some (a,b)) x=(low 1 1++low 0 1++low (x / 2 ^ b) (64-a-b),some (a,b)):=by
   unfold vform;rw [if_neg h0,hh,if_pos rfl]
  rw [e] at hK
  refine hK ω7 w7 (s4.trans (((drew_stp _ _).non _).trans ((rng3 k6).trans (((drew_stp _ _).non _).trans (rng3 k7))))) ?_
  simpa only [List.append_assoc] using h7
end Go.Proofs.YtmfgmcajelmgbaaGreatDoor.Chunk

namespace Go.Proofs.YtmfgmcajelmgbaaGreatDoor.Chunk
open Go Vm Go.RowKit Num Mem Bits Vint
variable {ω ω' : Tg} {w w' w0 : World} {t gc gw : Nat} {sl : Sl} {l : List Smp} {bs : List Bool} {wn : Win}
theorem OS.at_ {u:Nat} {s:Sl} {m:List Smp} (h:OS ω w u s m) {i:Int} {k:Nat} {x:Smp} (ei:i=(k:Int)) (hx:m[k]?=some x) {K:Addr→Prop}
  (hK:∀ a:Addr,a.block<w.heap.size→ω a.block=u→w.cell? a=some (.int .i64 x.1)→w.cell? (a.add 1)=some (.float .f64 x.2)→K a):G.ix s.a s.n i 2 K:=by
 have hk:k<m.length:=(List.getElem?_eq_some_iff.1 hx).1
 have hn:=h.len
 subst ei
 obtain ⟨e0,e1⟩:=smps_at m k x hx
 refine h.ix (by decide) (by omega) (by omega) fun a hb ht hc=>hK a hb ht ?_ ?_
 ·have:=hc 0 _ (by decide) (by rw [Int.toNat_natCast];exact e0)
  rwa [show a.add 0=a by simp [Addr.add]] at this
 ·exact hc 1 _ (by decide) (by rw [Int.toNat_natCast];exact e1)
theorem rdS_at {s:Sl} {m:List Smp} (h:Rd w s 2 (smps m)) {i:Int} {k:Nat} {x:Smp} (ei:i=(k:Int)) (hx:m[k]?=some x) {K:Addr→Prop}
  (hK:∀ a:Addr,w.cell? a=some (.int .i64 x.1)→w.cell? (a.add 1)=some (.float .f64 x.2)→K a):G.ix s.a s.n i 2 K:=by
 have hk:k<m.length:=(List.getElem?_eq_some_iff.1 hx).1
 have hn:s.n=m.length:=by have:=h.2.1;rw [smps_len] at this;omega
 subst ei
 obtain ⟨e0,e1⟩:=smps_at m k x hx
 refine Rd.ix h (by decide) (by omega) (by omega) fun a hc=>hK a ?_ ?_
 ·have:=hc 0 _ (by decide) (by rw [Int.toNat_natCast];exact e0)
  rwa [show a.add 0=a by simp [Addr.add]] at this
 ·exact hc 1 _ (by decide) (by rw [Int.toNat_natCast];exact e1)
theorem putEnd (h:CkS ω w t gc gw sl l bs wn) {s:Smp} (hl:l.length≤1000) {K:World→Prop}
  (hK:∀ ω' w' sl',Stp (Rng t 4) ω ω' w w'→CkS ω' w' t gc gw sl' (l++[s]) bs wn→K w'):C.chunk_Chunk_put.S2 K (wp gc) s.1 s.2 w:=by
 unfold C.chunk_Chunk_put.S2
 refine h.rdL ?_
 have hn:=h.own.len
 refine push_T tiS h.own (n:=1) (by rfl) (by intro v hv;simp at hv;rcases hv with rfl | rfl<;>rfl) (by simp only [maxLen];omega) (by omega) fun r ω1 w1 k1 o1 hr=>?_
 have b1:=h.blk.stp k1 (beq_no (by omega))
 refine ptr_at (st_T b1 (by simp) fun ω2 w2 k2 b2=>?_)
 refine hK ω2 w2 r ((rng3 k1).trans (rng3 k2)) ⟨b2,?_,(h.wr.stp k1 (beq_no (by omega))).stp k2 (beq_no (by omega))⟩
 have:=o1.stp k2 (beq_no (by omega))
 rw [OS,smps_app]
 exact this
def Fine (l:List Smp):Prop:=∀ s∈l,0≤s.1∧s.1≤1125899906842624∧s.2<18446744073709551616
theorem xor_eq {a b:Nat} (ha:a<18446744073709551616) (hb:b<18446744073709551616):Go.bits .xor .u64 (a:Int) (b:Int)=((a ^^^ b:Nat):Int):=bits_xor rfl (by simp only [IntKind.bits];omega) (by simp only [IntKind.bits];omega)
theorem fb_at {f:Nat} {K:Int→World→Prop} (hK:K (f:Int) w):C.math_Float64bits f w K:=hK
theorem up5 {t:Nat} (h:Stp (Rng t 4) ω ω' w w'):Stp (Rng t 6) ω ω' w w':=h.mono fun u hu=>by
 cases a:Nat.ble t u
 ·simp [Rng,a]
 ·have:=Nat.le_of_ble_eq_true a
  refine rng_out (.inr ?_)
  simp only [Rng,a,Bool.true_and] at hu
  cases b:Nat.blt u (t+6)
  ·have:¬ u<t+6:=fun h=>by rw [Nat.blt_eq.mpr h] at b;cases b
   omega
  ·rw [b] at hu;cases hu
theorem put_ok (h:CkS ω w t gc gw sl l bs wn) (ht:0<t) (hT:DT ω w) (hwn:WinOk wn) (hf:Fine l) (hl:l.length≤1000) {s:Smp} (h0:0≤s.1) (h1:s.1≤1125899906842624) (hv:s.2<18446744073709551616) (hn:bs.length+200≤8388608) {K:World→Prop}
  (hK:∀ ω' w' sl',Stp (Rng t 6) ω ω' w w'→CkS ω' w' t gc gw sl' (l++[s]) (bs++(emit l wn s).1) (emit l wn s).2→K w'):C.chunk_Chunk_put (wp gc) s.1 s.2 w K:=by
 unfold C.chunk_Chunk_put
 have hsn:=h.own.len
 refine h.rdL ?_
 rw [hsn]
 refine cond_eq (fun hz=>?_) (fun hz=>cond_eq (fun h1'=>?_) (fun h2'=>?_))
 ·have hl0:l=[]:=List.eq_nil_of_length_eq_zero (by omega)
  subst hl0
  refine putI_ok (l:=[]) (by omega) (by omega) (Rd.nil w 1) (by decide) fun r w1 k1 o1=>?_
  have k1':=k1.stp ω (t+3)
  have o1':=Own.tag o1 (Nat.le_refl _) ω (t+3)
  rw [List.nil_append] at o1'
  have hlen:=putU_len64 (zz_lt50 h0 h1)
  refine bytes_ok (h.non k1') o1' (by omega) fun ω2 w2 k2 h2=>?_
  refine h2.drew.rdW ?_
  refine fb_at ⟨same_refl _ _ _,?_⟩
  refine h2.drew.bits (v:=s.2) (k:=64) rfl (by decide) hv (by rw [List.length_append,byteBits_len];omega) rfl fun ω3 w3 k3 h3=>?_
  refine putEnd h3 (by decide) fun ω4 w4 sl4 s4 h4=>hK ω4 w4 sl4 (up5 ((k1'.non _).trans ((rng3 k2).trans (((drew_stp _ _).non _).trans ((rng3 k3).trans s4))))) ?_
  have e:emit [] wn s=(byteBits (putU (zz s.1))++low s.2 64,wn):=rfl
  rw [e]
  simpa only [List.append_assoc] using h4
 ·obtain ⟨a,rfl⟩:∃ a,l=[a]:=by
   match l,h1' with
   | [a],_=>exact ⟨a,rfl⟩
   | [],h=>simp at h
   | _::_::_,h=>simp at h;omega
  obtain ⟨fa0,fa1,fa2⟩:=hf a (by simp)
  refine h.rdL ?_
  refine h.own.at_ (k:=0) rfl rfl fun p _ _ hc _=>cI_at hc ?_
  have eu:IntKind.u64.wrap (IntKind.i64.wrap (s.1-a.1))=((uN (s.1-a.1):Nat):Int):=by rw [wI64 (by omega) (by omega),wrapU]
  rw [eu]
  refine putU_ok (l:=[]) (uN_lt _) (Rd.nil w 1) (by decide) fun r w1 k1 o1=>?_
  have k1':=k1.stp ω (t+3)
  have o1':=Own.tag o1 (Nat.le_refl _) ω (t+3)
  rw [List.nil_append] at o1'
  have hlen:=putU_len64 (uN_lt (s.1-a.1))
  refine bytes_ok (h.non k1') o1' (by omega) fun ω2 w2 k2 h2=>?_
  refine h2.drew.rdL ?_
  refine h2.drew.own.at_ (k:=0) rfl rfl fun p2 _ _ _ hc2=>cF_at hc2 ?_
  refine fb_at ⟨same_refl _ _ _,same_refl _ _ _,fb_at ?_⟩
  rw [xor_eq hv fa2]
  refine value_ok h2.drew ht (((hT.stp k1').one k2 (by omega)).stp (drew_stp ω2 w2)) hwn (xor64_lt hv fa2) (by rw [List.length_append,byteBits_len];omega) fun ω3 w3 s3 h3=>?_
  refine putEnd h3 (by simp) fun ω4 w4 sl4 s4 h4=>hK ω4 w4 sl4 (up5 ((k1'.non _).trans ((rng3 k2).trans (((drew_stp _ _).non _).trans (s3.trans s4))))) ?_
  have e:emit [a] wn s=(byteBits (putU (uN (s.1-a.1)))++(vform wn (s.2 ^^^ a.2)).1,(vform wn (s.2 ^^^ a.2)).2):=rfl
  rw [e]
  simpa only [List.append_assoc] using h4
 ·have hl2:2≤l.length:=by omega
  obtain ⟨a,ha⟩:∃ a,l[l.length-2]?=some a:=⟨_,List.getElem?_eq_getElem (by omega)⟩
  obtain ⟨b,hb⟩:∃ b,l[l.length-1]?=some b:=⟨_,List.getElem?_eq_getElem (by omega)⟩
  obtain ⟨fa0,fa1,fa2⟩:=hf a (List.mem_of_getElem? ha)
  obtain ⟨fb0,fb1,fb2⟩:=hf b (List.mem_of_getElem? hb)
  have hd:=h.drew
  have em:emit l wn s=(tform (s.1-b.1-(b.1-a.1))++(vform wn (s.2 ^^^ b.2)).1,(vform wn (s.2 ^^^ b.2)).2):=by
   have e1:l.reverse=b::a::(l.reverse.drop 2):=by
    have hr0:l.reverse[0]?=some b:=by rw [List.getElem?_reverse (by omega)];exact hb
    have hr1:l.reverse[1]?=some a:=by rw [List.getElem?_reverse (by omega),show l.length-1-1=l.length-2 by omega];exact ha
    generalize l.reverse=q at *
    match q,hr0,hr1 with
    | x::y::r,h0,h1=>simp at h0 h1;subst h0 h1;rfl
    | [x],_,h1=>simp at h1
    | [],h0,_=>simp at h0
   unfold emit
   rw [e1]
  rw [em] at hK
  -- what follows both orders
  have tail:∀ (ga gb:Nat) (ω':Tg) (w':World),Stp (Rng t 6) ω ω' w w'→CkS ω' w' t gc gw sl l bs wn→DT ω' w'→BT ω' w' (t+4) ga 96 [.int .i64 a.1,.float .f64 a.2]→BT ω' w' (t+5) gb 96 [.int .i64 b.1,.float .f64 b.2] →
    G.cI .i64 ⟨gb,0,none⟩ w' fun n63=>G.cI .i64 ⟨gb,0,none⟩ w' fun n64=>G.cI .i64 ⟨ga,0,none⟩ w' fun n65=>C.chunk_Chunk_time (wp gc) (IntKind.i64.wrap ((IntKind.i64.wrap (s.1-n63))-(IntKind.i64.wrap (n64-n65)))) w' fun w66=>G.cF .f64 (Addr.add ⟨gb,0,none⟩ 1) w66.drew fun f67=>C.math_Float64bits s.2 w66.drew fun n68 w69=>sameAt (Addr.add ⟨gb,0,none⟩ 1) 1 w66.drew w69∧(C.math_Float64bits f67 w69 fun n70 w71=>C.chunk_Chunk_value (wp gc) (Go.bits .xor .u64 n68 n70) w71 fun w72=>C.chunk_Chunk_put.S2 K (wp gc) s.1 s.2 w72):=by
   intro ga gb ω1 w1 s1 h1 hT1 ba bb
   refine cI_at (n:=b.1) (by rw [bb.cell];rfl)<|cI_at (n:=b.1) (by rw [bb.cell];rfl)<|cI_at (n:=a.1) (by rw [ba.cell];rfl) ?_
   rw [wI64 (x:=s.1-b.1) (by omega) (by omega),wI64 (x:=b.1-a.1) (by omega) (by omega),wI64 (by omega) (by omega)]
   have htl:=tform_len (s.1-b.1-(b.1-a.1))
   refine time_ok h1 (by omega) fun ω2 w2 s2 h2=>?_
   have bb2:=(bb.stp s2 (rng_out (.inr (by omega)))).stp (drew_stp ω2 w2)
   refine cF_at (b:=b.2) (by rw [addr_add,bb2.cell];rfl) ?_
   refine fb_at ⟨same_refl _ _ _,fb_at ?_⟩
   rw [xor_eq hv fb2]
   refine value_ok h2.drew ht ((hT1.rng s2 ht).stp (drew_stp ω2 w2)) hwn (xor64_lt hv fb2) (by rw [List.length_append];omega) fun ω3 w3 s3 h3=>?_
   refine putEnd h3 hl fun ω4 w4 sl4 s4 h4=>hK ω4 w4 sl4 (s1.trans (up5 (s2.trans (((drew_stp _ _).non _).trans (s3.trans s4))))) ?_
   simpa only [List.append_assoc] using h4
  refine hd.rdL (hd.own.at_ (k:=l.length-2) (by rw [wI64 (by omega) (by omega)];omega) ha fun pa hpa hta hca0 hca1=>cI_at hca0<|cF_at hca1 ?_)
  refine hd.rdL (hd.own.at_ (k:=l.length-1) (by rw [wI64 (by omega) (by omega)];omega) hb fun pb hpb htb hcb0 hcb1=>cI_at hcb0<|cF_at hcb1 ?_)
  -- what was read holds still while the locals are laid
  have sC:∀ {T:Nat→Bool} {ω':Tg} {w':World},Stp T ω ω' w.drew w'→T t=false→sameAt ⟨gc,0,none⟩ 1 w.drew w':=fun k n=>hd.blk.same k n 0 1
  have sA:∀ {T:Nat→Bool} {ω':Tg} {w':World},Stp T ω ω' w.drew w'→T (t+1)=false→sameAt pa 2 w.drew w':=fun k n=>same_stp k hpa (by rw [hta];exact n)
  have sB:∀ {T:Nat→Bool} {ω':Tg} {w':World},Stp T ω ω' w.drew w'→T (t+1)=false→sameAt pb 2 w.drew w':=fun k n=>same_stp k hpb (by rw [htb];exact n)
  have hTd:=hT.stp (drew_stp ω w)
  have d6:Stp (Rng t 6) ω ω w w.drew:=(drew_stp ω w).non _
  have n4:One (t+4) t=false:=beq_no (by omega)
  have n41:One (t+4) (t+1)=false:=beq_no (by omega)
  have n5:Duo (t+4) (t+5) t=false:=by simp only [Duo,beq_no (show t≠t+4 by omega),beq_no (show t≠t+5 by omega)];rfl
  have n51:Duo (t+4) (t+5) (t+1)=false:=by simp only [Duo,beq_no (show t+1≠t+4 by omega),beq_no (show t+1≠t+5 by omega)];rfl
  have n52:Duo (t+4) (t+5) (t+2)=false:=by simp only [Duo,beq_no (show t+2≠t+4 by omega),beq_no (show t+2≠t+5 by omega)];rfl
  have n50:Duo (t+4) (t+5) 0=false:=by simp only [Duo,beq_no (show 0≠t+4 by omega),beq_no (show 0≠t+5 by omega)];rfl
  have n45:One (t+4) (t+5)=false:=beq_no (by omega)
  have n54:One (t+5) (t+4)=false:=beq_no (by omega)
  have du:∀ {ω':Tg} {w':World},Stp (Duo (t+4) (t+5)) ω ω' w.drew w'→Stp (Rng t 6) ω ω' w.drew w':=fun k=>k.mono fun u hu=>by
   simp only [Duo]
   rw [show Nat.beq u (t+4)=false from rng_in (by omega) (by omega) hu,show Nat.beq u (t+5)=false from rng_in (by omega) (by omega) hu];rfl
  refine ⟨?_,?_⟩
  ·refine new_T (ω:=ω) (t+4) fun g1 ω1 w1 k1 b1=>?_
   have q1:=k1.non (Duo (t+4) (t+5))
   refine ⟨sC q1 n5,sA q1 n51,sC q1 n5,sB q1 n51,?_⟩
   refine new_T (ω:=ω1) (t+5) fun g2 ω2 w2 k2 b2=>?_
   have q2:=q1.trans (k2.non _)
   refine ⟨sC q2 n5,sA q2 n51,sC q2 n5,sB q2 n51,?_⟩
   refine st_T (b1.stp k2) (by simp) fun ω3 w3 k3 b3=>?_
   refine st_TA b3 (by simp) fun ω4 w4 k4 b4=>?_
   have q4:=q2.trans ((k3.trans k4).one)
   refine ⟨sC q4 n5,sB q4 n51,?_⟩
   refine st_T ((b2.stp k3 n45).stp k4 n45) (by simp) fun ω5 w5 k5 b5=>?_
   refine st_TA b5 (by simp) fun ω6 w6 k6 b6=>?_
   have q6:=q4.trans ((k5.trans k6).two)
   exact tail g1 g2 ω6 w6 (d6.trans (du q6)) (hd.stp q6 n5 n51 n52) (hTd.stp q6 n50) ((b4.stp k5 n54).stp k6 n54) b6
  ·refine new_T (ω:=ω) (t+5) fun g1 ω1 w1 k1 b1=>?_
   have q1:=k1.non (Duo (t+4) (t+5))
   refine ⟨sC q1 n5,sA q1 n51,sC q1 n5,sB q1 n51,?_⟩
   refine new_T (ω:=ω1) (t+4) fun g2 ω2 w2 k2 b2=>?_
   have q2:=q1.trans (k2.non _)
   refine ⟨sC q2 n5,sA q2 n51,sC q2 n5,sB q2 n51,?_⟩
   refine st_T b2 (by simp) fun ω3 w3 k3 b3=>?_
   refine st_TA b3 (by simp) fun ω4 w4 k4 b4=>?_
   have q4:=q2.trans ((k3.trans k4).one)
   refine ⟨sC q4 n5,sB q4 n51,?_⟩
   refine st_T (((b1.stp k2).stp k3 n45).stp k4 n45) (by simp) fun ω5 w5 k5 b5=>?_
   refine st_TA b5 (by simp) fun ω6 w6 k6 b6=>?_
   have q6:=q4.trans ((k5.trans k6).two)
   exact tail g2 g1 ω6 w6 (d6.trans (du q6)) (hd.stp q6 n5 n51 n52) (hTd.stp q6 n50) ((b4.stp k5 n54).stp k6 n54) b6
end Go.Proofs.YtmfgmcajelmgbaaGreatDoor.Chunk

namespace Go.Proofs.YtmfgmcajelmgbaaGreatDoor.Chunk
open Go Vm Go.RowKit Num Mem Bits Vint
variable {ω ω' : Tg} {w w' w0 : World} {t gc : Nat} {l : List Smp}
theorem Valid.fine (h:Valid l):Fine l:=h.mem
structure CkT (ω:Tg) (w:World) (t gc:Nat) (l:List Smp):Prop where
 ex:∃ gw sl,CkS ω w t gc gw sl l (run l).1 (run l).2
 ok:Valid l
theorem CkT.stp {T:Nat→Bool} (h:CkT ω w t gc l) (k:Stp T ω ω' w w') (n0:T t=false:=by rfl) (n1:T (t+1)=false:=by rfl) (n2:T (t+2)=false:=by rfl):CkT ω' w' t gc l:=by
 obtain ⟨gw,sl,hs⟩:=h.ex
 exact ⟨⟨gw,sl,hs.stp k n0 n1 n2⟩,h.ok⟩
theorem new_ok' (t:Nat) {K:Option Addr→World→Prop} (hK:∀ gc ω' w',Stp (Rng t 6) ω ω' w w'→CkT ω' w' t gc []→K (wp gc) w'):C.chunk_New w K:=by
 unfold C.chunk_New
 refine new_T' (ω:=ω) (t+2) fun gw ω1 w1 k1 h1=>?_
 refine new_T (ω:=ω1) t fun gc ω2 w2 k2 b2=>?_
 exact hK gc ω2 w2 ((k1.trans k2).non _) ⟨⟨gw,nilS,b2,OT.nil _ _ _ _ _,h1.stp k2⟩,.nil⟩
theorem append_ok (h:CkT ω w t gc l) (ht:0<t) (hT:DT ω w) {s:Smp} (hv:s.2<18446744073709551616) {K:Int→World→Prop}
  (hE:wrong l s.1≠0→K (wrong l s.1) w) (hK:wrong l s.1=0→∀ ω' w',Stp (Rng t 6) ω ω' w w'→CkT ω' w' t gc (l++[s])→K 0 w'):C.chunk_Chunk_Append (wp gc) s.1 s.2 w K:=by
 obtain ⟨gw,sl,hs⟩:=h.ex
 have hn:=hs.own.len
 have hlen:=h.ok.len
 unfold C.chunk_Chunk_Append
 have bad:∀ e:Int,wrong l s.1=e→e≠0→K e w:=fun e he hne=>by subst he;exact hE hne
 refine cond_f rfl ?_
 refine cond_d (fun h1=>bad 1 (by unfold wrong;rw [if_pos (.inl h1)]) (by decide)) (fun h1=>?_)
 refine cond_d (fun h2=>bad 1 (by unfold wrong;rw [if_pos (.inr h2)]) (by decide)) (fun h2=>?_)
 have hne:¬ (s.1<0∨s.1 > 1125899906842624):=by omega
 refine hs.rdL ?_
 rw [hn]
 have fin:late l s.1=false→G.cond (decide ((l.length:Int) ≥ (120:Int))) (K (8:Int) w) (C.chunk_Chunk_put (wp gc) s.1 s.2 w fun w14=>K (0:Int) w14):=fun hq=>by
  refine cond_d (fun h3=>bad 8 (by unfold wrong;rw [if_neg hne,hq,if_neg (by decide),if_pos (by omega)]) (by decide)) (fun h3=>?_)
  have hw:wrong l s.1=0:=by unfold wrong;rw [if_neg hne,hq,if_neg (by decide),if_neg (by omega)]
  have hrl:=run_len h.ok
  refine put_ok hs ht hT (run_ok h.ok) h.ok.fine (by omega) (by omega) (by omega) hv (by omega) fun ω1 w1 sl1 s1 h1=>hK hw ω1 w1 s1 ⟨⟨gw,sl1,?_⟩,.snoc h.ok hw hv⟩
  rw [run_snoc]
  exact h1
 refine cond_d (fun h3=>?_) (fun h3=>fin ?_)
 ·obtain ⟨a,ha⟩:∃ a,l[l.length-1]?=some a:=⟨_,List.getElem?_eq_getElem (by omega)⟩
  have hlast:l.getLast?=some a:=by rw [List.getLast?_eq_getElem?];exact ha
  refine hs.rdL (hs.own.at_ (k:=l.length-1) (by rw [wI64 (by omega) (by omega)];omega) ha fun p _ _ hc _=>cI_at hc ?_)
  refine cond_d (fun h4=>bad 90 ?_ (by decide)) (fun h4=>fin ?_)
  ·unfold wrong late
   rw [if_neg hne,hlast,if_pos (by simp only [decide_eq_true_eq];exact h4)]
  ·unfold late
   rw [hlast]
   simp only [decide_eq_false_iff_not];exact h4
 ·have:l=[]:=List.eq_nil_of_length_eq_zero (by omega)
  subst this;rfl
theorem newOwn {cs:Array Value} {m:List UInt8} {n:Nat} (hc:cs.toList=vBs m) (hn:m.length=n) (hm:n≤1000):OwnB (w.alloc (.cells cs 5)) w.heap.size ⟨some ⟨w.heap.size,0,none⟩,n,n⟩ m:=by
 have hs:(vBs m).length=n*1:=by rw [vBs_length,hn,Nat.mul_one]
 have hb:=Blk.new w 5 cs
 rw [hc] at hb
 exact Own.mk' (Nat.le_refl _) hb (Nat.le_refl _) (by simp only [maxLen];omega) hs (List.take_of_length_le (by omega))
theorem bytesC_ok (h:CkT ω w t gc l) {K:Sl→World→Prop} (hK:∀ r w',Keep w w'→OwnB w' w.heap.size r (enc l)→K r w'):C.chunk_Chunk_Bytes (wp gc) w K:=by
 obtain ⟨gw,sl,hs⟩:=h.ex
 have hlen:=h.ok.len
 have hrl:=run_len h.ok
 have hpl:=pk_len (run l).1
 unfold C.chunk_Chunk_Bytes
 refine cond_f rfl ?_
 have hd:=hs.drew
 refine hd.rdL ⟨by decide,hd.rdL (hd.rdW ?_)⟩
 rw [hs.own.len]
 have ecs:(#[(.int .u8 (IntKind.u8.wrap (shr .i64 ((l.length:Nat):Int) (8:Int)))),(.int .u8 (IntKind.u8.wrap ((l.length:Nat):Int)))]:Array Value).toList=vBs [UInt8.ofNat (l.length / 256),UInt8.ofNat (l.length % 256)]:=by
  have e:=shr_nat .i64 ((l.length:Nat):Int) 8 (by decide)
  have e2:shr .i64 ((l.length:Nat):Int) (8:Int)=((l.length / 256:Nat):Int):=by rw [show (8:Int)=((8:Nat):Int) from rfl,e];simp
  rw [e2,wU8_id (by omega) (by omega),wU8_id (by omega) (by omega),vB_lit (by omega),vB_lit (by omega),Nat.mod_eq_of_lt (by omega)]
  rfl
 have kd:=Keep.drew w
 refine ⟨?_,?_⟩
 ·refine new_at ?_
  have kA:=Keep.alloc w.drew (.cells #[(.int .u8 (IntKind.u8.wrap (shr .i64 ((l.length:Nat):Int) (8:Int)))),(.int .u8 (IntKind.u8.wrap ((l.length:Nat):Int)))] 5)
  have oA:=newOwn (w:=w.drew) (n:=2) ecs rfl (by decide)
  generalize w.drew.alloc (.cells #[(.int .u8 (IntKind.u8.wrap (shr .i64 ((l.length:Nat):Int) (8:Int)))),(.int .u8 (IntKind.u8.wrap ((l.length:Nat):Int)))] 5)=w1 at *
  refine ⟨same_keep kA (by rw [add_block];exact hd.blk.blk.lt),?_⟩
  have h1:=hd.non (kA.stp0 ω)
  refine bytes_T h1.wr (by omega) fun r w2 k2 o2=>?_
  refine appB (Keep.trans kd (Keep.trans kA k2)) (Keep.trans kd (Keep.trans kA k2)).size (oA.keep k2) o2.rd (by simp only [List.length_cons,List.length_nil];omega) fun q w3 k3 o3=>hK q w3 k3 o3
 ·refine bytes_T hd.wr (by omega) fun r w1 k1 o1=>?_
  refine ⟨same_keep k1 hd.blk.blk.lt,same_keep k1 hd.blk.blk.lt,?_⟩
  refine new_at ?_
  have kA:=Keep.alloc w1 (.cells #[(.int .u8 (IntKind.u8.wrap (shr .i64 ((l.length:Nat):Int) (8:Int)))),(.int .u8 (IntKind.u8.wrap ((l.length:Nat):Int)))] 5)
  have oA:=newOwn (w:=w1) (n:=2) ecs rfl (by decide)
  generalize w1.alloc (.cells #[(.int .u8 (IntKind.u8.wrap (shr .i64 ((l.length:Nat):Int) (8:Int)))),(.int .u8 (IntKind.u8.wrap ((l.length:Nat):Int)))] 5)=w2 at *
  have k02:=Keep.trans kd (Keep.trans k1 kA)
  refine appB k02 k02.size (Own.mono oA (Keep.trans kd k1).size) (o1.rd.keep kA) (by simp only [List.length_cons,List.length_nil];omega) fun q w3 k3 o3=>hK q w3 k3 o3
def firstW:List Smp→List Smp→Nat→Int × Nat
 | _,[],_=>(0,0)
 | pre,s::r,i=>if wrong pre s.1=0 then firstW (pre++[s]) r (i+1) else (wrong pre s.1,i)
theorem DT.init {w:World} (h:DTab w):DT (fun _=>0) w:=⟨h,rfl⟩
theorem encode_ok (hT:DTab w0) {s:Sl} {m:List Smp} (hs:Rd w0 s 2 (smps m)) (hm:∀ x∈m,x.2<18446744073709551616) (hl:m.length≤9223372036854775807) {K:Sl→Int→Int→World→Prop}
  (hE:(firstW [] m 0).1≠0→∀ w',Keep w0 w'→K nilS (firstW [] m 0).1 ((firstW [] m 0).2:Int) w')
  (hK:(firstW [] m 0).1=0→Valid m→∀ r w',Keep w0 w'→OwnB w' w0.heap.size r (enc m)→K r 0 0 w'):C.chunk_Encode s w0 K:=by
 have hsn:s.n=m.length:=by have:=hs.2.1;rw [smps_len] at this;omega
 unfold C.chunk_Encode
 refine new_ok' (ω:=fun _=>0) 1 fun gc ω1 w1 s1 h1=>?_
 have top1:=(Top.init w0).stp s1
 have dt1:=(DT.init hT).stp s1
 unfold C.chunk_Encode.S9
 refine C.chunk_Encode.L5_ind fun X hX=>?_
 have key:∀ (d i:Nat) (ω:Tg) (w:World),i+d=m.length→firstW (m.take i) (m.drop i) i=firstW [] m 0→Top w0 ω w→DT ω w→CkT ω w 1 gc (m.take i)→X (wp gc) s ((s.n:Nat):Int) (i:Int) w:=by
  intro d
  induction d with
  | zero =>
   intro i ω w hi hf top dt h
   refine hX _ _ _ _ _ ?_
   unfold C.chunk_Encode.S7 C.chunk_Encode.S2
   refine cond_d (fun h=>by omega) (fun _=>?_)
   rw [show i=m.length by omega,List.take_length] at h
   rw [show i=m.length by omega,List.drop_length] at hf
   refine bytesC_ok h fun r w' k o=>hK (by rw [← hf];rfl) h.ok r w' (Keep.trans top.k k) (Own.mono o top.k.size)
  | succ d ih =>
   intro i ω w hi hf top dt h
   have him:i<m.length:=by omega
   refine hX _ _ _ _ _ ?_
   unfold C.chunk_Encode.S7
   refine cond_d (fun _=>?_) (fun h=>by omega)
   have hx:m[i]?=some m[i]:=List.getElem?_eq_getElem him
   refine rdS_at (hs.keep top.k) (k:=i) rfl hx fun a hc0 hc1=>cI_at hc0<|cF_at hc1 ?_
   refine new_T (ω:=ω) 7 fun g ω2 w2 k2 b2=>?_
   refine st_T b2 (by simp) fun ω3 w3 k3 b3=>?_
   refine st_TA b3 (by simp) fun ω4 w4 k4 b4=>?_
   refine cI_at (n:=m[i].1) (by rw [b4.cell];rfl)<|cF_at (b:=m[i].2) (by rw [addr_add,b4.cell];rfl) ?_
   have s4:=(k2.non (One 7)).trans (k3.trans k4)
   have dr:m.drop i=m[i]::m.drop (i+1):=List.drop_eq_getElem_cons him
   have tk:m.take (i+1)=m.take i++[m[i]]:=by rw [List.take_add_one,hx];rfl
   refine append_ok (h.stp s4) (by decide) (dt.stp s4) (hm _ (List.getElem_mem him)) (fun hw=>?_) (fun hw ω5 w5 s5 h5=>?_)
   ·refine cond_t (by simp;exact hw) ?_
    have ef:firstW [] m 0=(wrong (m.take i) m[i].1,i):=by rw [← hf,dr,firstW,if_neg hw]
    have:=hE (by rw [ef];exact hw) w4 (top.stp s4).k
    rwa [ef] at this
   ·refine cond_f rfl ?_
    rw [wI64 (by omega) (by omega),show (i:Int)+1=((i+1:Nat):Int) by omega]
    refine ih (i+1) ω5 w5 (by omega) ?_ ((top.stp s4).stp s5) ((dt.stp s4).stp s5) (by rw [tk];exact h5)
    rw [tk,← hf]
    conv=>rhs;rw [dr,firstW,if_pos hw]
 exact key m.length 0 ω1 w1 (by omega) rfl top1 dt1 h1
theorem str_toList (l:List UInt8):(str l).toList=l:=by rw [ByteArray.toList_eq]
end Go.Proofs.YtmfgmcajelmgbaaGreatDoor.Chunk

namespace Go.Proofs.YtmfgmcajelmgbaaGreatDoor.Chunk
open Go Vm Go.RowKit Num Mem Bits Vint
variable {ω ω' : Tg} {w w' w0 : World} {t g p k : Nat} {bs : List UInt8}
def rest (bs:List UInt8) (p:Nat):List Bool:=(byteBits bs).drop p
theorem rest_len (bs:List UInt8) (p:Nat):(rest bs p).length=8*bs.length-p:=by rw [rest,List.length_drop,byteBits_len]
structure RdrT (ω:Tg) (w:World) (t g:Nat) (bs:List UInt8) (p:Nat):Prop where
 ex:∃ s,BT ω w t g 224 [Sl.v s,.int .i64 ((8*bs.length:Nat):Int),.int .i64 (p:Int)]∧OBy ω w (t+1) s bs
 le:p≤8*bs.length
 small:bs.length≤1048576
theorem RdrT.stp {T:Nat→Bool} (h:RdrT ω w t g bs p) (s:Stp T ω ω' w w') (n0:T t=false:=by rfl) (n1:T (t+1)=false:=by rfl):RdrT ω' w' t g bs p:=by
 obtain ⟨q,b,o⟩:=h.ex
 exact ⟨⟨q,b.stp s n0,o.stp s n1⟩,h.le,h.small⟩
theorem newRdr_ok {b:Sl} (hb:RdB w b bs) (hs:bs.length≤1048576) (t:Nat) {x:Int} (hx:x=((8*bs.length:Nat):Int)) {K:Option Addr→World→Prop} (hK:∀ g ω' w',Stp Non ω ω' w w'→RdrT ω' w' t g bs 0→K (wp g) w'):C.bits_NewReader b x w K:=by
 subst hx
 unfold C.bits_NewReader
 have hn:=hb.len
 refine cond_d (fun h=>by omega) (fun _=>cond_d (fun h=>by omega) (fun _=>?_))
 rw [wI64 (by omega) (by omega)]
 refine cond_d (fun h=>by omega) (fun _=>?_)
 refine appB (Keep.refl w) (Nat.le_refl _) (OwnB.nil _ _) hb (by simp only [List.length_nil];omega) fun r w1 k1 o1=>?_
 rw [List.nil_append] at o1
 have s1:=Keep.stp k1 ω (t+1)
 have o1':OBy _ w1 (t+1) r bs:=Own.tag o1 (Nat.le_refl _) ω (t+1)
 refine new_T (ω:=ext ω w.heap.size (t+1)) t fun g ω2 w2 k2 b2=>?_
 exact hK g ω2 w2 (s1.trans k2) ⟨⟨r,b2,o1'.stp k2⟩,Nat.zero_le _,hs⟩
theorem at_ok (h:RdrT ω w t g bs p) {i:Nat} (hi:i<8*bs.length) {b:Bool} (hb:(byteBits bs)[i]?=some b) {K:Int→World→Prop} (hK:K ((b2n b:Nat):Int) w):C.bits_Reader_at (wp g) (i:Int) w K:=by
 unfold C.bits_Reader_at
 obtain ⟨s,bt,o⟩:=h.ex
 have hs:=h.small
 refine ptr_at (cSl_at (by rw [bt.cell];rfl) ⟨by decide,?_⟩)
 rw [idx8 (by omega)]
 have h8:i / 8<bs.length:=by omega
 refine RdB.at_ o.rd h8 ⟨by decide,?_⟩
 have e7:IntKind.u64.wrap (IntKind.i64.wrap ((7:Int)-(Int.tmod (i:Int) (8:Int))))=((7-i % 8:Nat):Int):=by
  rw [show Int.tmod (i:Int) (8:Int)=((i % 8:Nat):Int) from rfl,wI64 (by omega) (by omega),wU64_id (by omega) (by omega)];omega
 rw [e7]
 refine ⟨by omega,?_⟩
 have hlt:=bs[i / 8].toNat_lt
 have e:=shr_nat .u8 (bs[i / 8].toNat:Int) (7-i % 8) (by simp only [IntKind.bits];omega)
 have e':(bs[i / 8].toNat:Int) / 2 ^ (7-i % 8)=((bs[i / 8].toNat / 2 ^ (7-i % 8):Nat):Int):=by simp
 have hq:bs[i / 8].toNat / 2 ^ (7-i % 8)<256:=Nat.lt_of_le_of_lt (Nat.div_le_self _ _) hlt
 have eb:=bitOf_eq bs[i / 8].toNat (7-i % 8)
 rw [e,e']
 generalize bs[i / 8].toNat / 2 ^ (7-i % 8)=q at hq eb
 rw [wU64_id (by omega) (by omega),show (1:Int)=((1:Nat):Int) from rfl,bits_and rfl (by simp only [IntKind.bits];omega) (by decide),Nat.and_one_is_mod,eb]
 have hat:=byteBits_at bs (i / 8) (i % 8) _ (by omega) (List.getElem?_eq_getElem h8)
 rw [show 8*(i / 8)+i % 8=i by omega,hb] at hat
 rw [← Option.some.inj hat]
 exact hK
theorem or_bit {v:Nat} {b:Bool} (hv:v<9223372036854775808):Go.bits .or .u64 (shl .u64 (v:Int) (1:Int)) ((b2n b:Nat):Int)=((2*v+b2n b:Nat):Int):=by
 have e:=shl_nat .u64 (v:Int) 1 (by decide)
 rw [show (1:Int)=((1:Nat):Int) from rfl,e,wU64_id (by omega) (by omega),show (v:Int)*2 ^ 1=((2*v:Nat):Int) by omega]
 have:=b2n_le b
 rw [bits_or rfl (by simp only [IntKind.bits];omega) (by simp only [IntKind.bits];omega)]
 congr 1
 have h2:=Nat.two_pow_add_eq_or_of_lt (b:=b2n b) (i:=1) (by omega) v
 rw [show 2*v+b2n b=2 ^ 1*v+b2n b by omega,h2]
theorem look_ok (h:RdrT ω w t g bs p) (hk:k≤64) (hp:p+k≤8*bs.length) {K:Int→World→Prop} (hK:K ((num ((rest bs p).take k):Nat):Int) w):C.bits_Reader_look (wp g) (p:Int) (k:Int) w K:=by
 unfold C.bits_Reader_look C.bits_Reader_look.S9
 have hs:=h.small
 refine C.bits_Reader_look.L5_ind fun X hX=>?_
 have key:∀ (d i:Nat),i+d=k→X (wp g) (p:Int) ((num ((rest bs p).take i):Nat):Int) (k:Int) (i:Int) w:=by
  intro d
  induction d with
  | zero =>
   intro i hi
   refine hX _ _ _ _ _ _ ?_
   unfold C.bits_Reader_look.S7 C.bits_Reader_look.S2
   rw [show i=k by omega]
   exact cond_d (fun h=>by omega) (fun _=>hK)
  | succ d ih =>
   intro i hi
   refine hX _ _ _ _ _ _ ?_
   unfold C.bits_Reader_look.S7
   refine cond_d (fun _=>⟨by decide,?_⟩) (fun h=>by omega)
   have hl:=byteBits_len bs
   obtain ⟨b,hb⟩:∃ b,(byteBits bs)[p+i]?=some b:=⟨_,List.getElem?_eq_getElem (by omega)⟩
   rw [wI64 (x:=(p:Int)+(i:Int)) (by omega) (by omega),show (p:Int)+(i:Int)=((p+i:Nat):Int) by omega]
   refine at_ok h (by omega) hb ?_
   have hlt:=num_lt ((rest bs p).take i)
   have hil:((rest bs p).take i).length=i:=by rw [List.length_take,rest_len];omega
   have hpw:2 ^ i≤2 ^ 63:=Nat.pow_le_pow_right (by decide) (by omega)
   rw [hil] at hlt
   rw [or_bit (by omega),wI64 (by omega) (by omega),show (i:Int)+1=((i+1:Nat):Int) by omega]
   have e:(rest bs p).take (i+1)=(rest bs p).take i++[b]:=by
    have hr:(rest bs p)[i]?=some b:=by rw [rest,List.getElem?_drop];exact hb
    rw [List.take_add_one,hr];rfl
   have:=ih (i+1) (by omega)
   rwa [e,num_snoc] at this
 exact key k 0 (by omega)
theorem rbitsC_ok (h:RdrT ω w t g bs p) (hk:k≤64) {x:Int} (hx:x=(k:Int)) {K:Int→Int→World→Prop} (hS:8*bs.length<p+k→K 0 9 w.drew)
  (hK:p+k≤8*bs.length→∀ ω' w',Stp (Mem.One t) ω ω' w w'→RdrT ω' w' t g bs (p+k)→K ((num ((rest bs p).take k):Nat):Int) 0 w'):C.bits_Reader_Bits (wp g) x w K:=by
 subst hx
 unfold C.bits_Reader_Bits
 have hs:=h.small
 have hle:=h.le
 have hd:=h.stp (drew_stp ω w)
 obtain ⟨s,b,o⟩:=hd.ex
 refine cond_f rfl (cond_d (fun h=>by omega) (fun _=>cond_d (fun h=>by omega) (fun _=>?_)))
 refine ptr_at (cI_at (n:=((8*bs.length:Nat):Int)) (by rw [addr_add,b.cell];rfl) (ptr_at (cI_at (n:=(p:Int)) (by rw [addr_add,b.cell];rfl) ?_)))
 rw [wI64 (by omega) (by omega)]
 refine cond_d (fun h=>hS (by omega)) (fun hp=>?_)
 refine ptr_at (cI_at (n:=(p:Int)) (by rw [addr_add,b.cell];rfl) ?_)
 refine look_ok hd hk (by omega) ?_
 refine ptr_at (cI_at (n:=(p:Int)) (by rw [addr_add,b.cell];rfl) (ptr_at (st_TA b (by simp) fun ω2 w2 s2 b2=>?_)))
 rw [wI64 (by omega) (by omega)] at b2
 exact hK (by omega) ω2 w2 (((drew_stp ω w).non _).trans s2) ⟨⟨s,b2,o.stp s2 (beq_no (by omega))⟩,by omega,hs⟩
structure RdS (ω:Tg) (w:World) (t gd:Nat) (bs:List UInt8) (p:Nat) (A B:Int) (kn bad:Bool):Prop where
 ex:∃ gr,BT ω w t gd 185 [.pointer (wp gr),.int .i64 A,.int .i64 B,.bool kn,.bool bad]∧RdrT ω w (t+1) gr bs p
variable {A B : Int} {kn bad : Bool} {gd : Nat}
theorem RdS.stp {T:Nat→Bool} (h:RdS ω w t gd bs p A B kn bad) (s:Stp T ω ω' w w') (n0:T t=false) (n1:T (t+1)=false) (n2:T (t+2)=false):RdS ω' w' t gd bs p A B kn bad:=by
 obtain ⟨gr,b,r⟩:=h.ex
 exact ⟨gr,b.stp s n0,r.stp s n1 n2⟩
theorem RdS.non (h:RdS ω w t gd bs p A B kn bad) (s:Stp Non ω ω' w w'):RdS ω' w' t gd bs p A B kn bad:=h.stp s rfl rfl rfl
theorem dbits_ok (h:RdS ω w t gd bs p A B kn bad) (hk:k≤64) {x:Int} (hx:x=(k:Int)) {K:Int→World→Prop}
  (hK:∀ (v p':Nat) bad' ω' w',v<2 ^ k→(∀ y tail,y<2 ^ k→rest bs p=low y k++tail→v=y∧rest bs p'=tail∧bad'=bad)→Stp (Rng t 3) ω ω' w w'→RdS ω' w' t gd bs p' A B kn bad'→K (v:Int) w'):C.chunk_reader_bits (wp gd) x w K:=by
 unfold C.chunk_reader_bits
 obtain ⟨gr,b,r⟩:=h.ex
 refine ptr_at (cP_at (b:=wp gr) (by rw [b.cell];rfl) ?_)
 refine rbitsC_ok r hk hx (fun hp=>?_) (fun hp ω1 w1 s1 r1=>?_)
 ·have kd:=drew_stp ω w
  have b':=b.stp kd
  have r':=r.stp kd
  have no:∀ (y:Nat) (tail:List Bool),y<2 ^ k→rest bs p=low y k++tail→False:=fun y tail _ e=>by
   have:=congrArg List.length e
   rw [rest_len,List.length_append,low_len] at this
   have:=r.le
   omega
  have fin:∀ ω2 w2 (s2:Stp (Mem.One t) ω ω2 w.drew w2) (b2:BT ω2 w2 t gd 185 [.pointer (wp gr),.int .i64 A,.int .i64 B,.bool kn,.bool true]),K 0 w2:=fun ω2 w2 s2 b2 =>
   hK 0 p true ω2 w2 (Nat.pow_pos (by decide)) (fun y tail hy e=>(no y tail hy e).elim) ((kd.non _).trans (s2.rng (by omega) (by omega))) ⟨gr,b2,r'.stp s2 (beq_no (by omega)) (beq_no (by omega))⟩
  refine ptr_at (cB_at (b:=bad) (by rw [addr_add,b'.cell];rfl) ?_)
  refine cond_of (fun _=>ptr_at (st_TA b' (by simp) fun ω2 w2 s2 b2=>fin ω2 w2 s2 b2)) (fun _=>ptr_at (st_TA b' (by simp) fun ω2 w2 s2 b2=>fin ω2 w2 s2 b2))
 ·have b1:=b.stp s1 (beq_no (by omega))
  have hlt:=num_lt ((rest bs p).take k)
  have hil:((rest bs p).take k).length=k:=by rw [List.length_take,rest_len];omega
  rw [hil] at hlt
  have good:∀ y tail,y<2 ^ k→rest bs p=low y k++tail→num ((rest bs p).take k)=y∧rest bs (p+k)=tail:=fun y tail hy e=>by
   obtain ⟨e1,e2⟩:=take_low y k tail
   refine ⟨by rw [e,e1,num_low hy],?_⟩
   have:rest bs (p+k)=(rest bs p).drop k:=by rw [rest,rest,List.drop_drop]
   rw [this,e,e2]
  refine ptr_at (cB_at (b:=bad) (by rw [addr_add,b1.cell];rfl) ?_)
  refine cond_of (fun hb=>ptr_at (st_TA b1 (by simp) fun ω2 w2 s2 b2=>?_)) (fun hb=>ptr_at (st_TA b1 (by simp) fun ω2 w2 s2 b2=>?_))
  ·subst hb
   exact hK _ (p+k) true ω2 w2 hlt (fun y tail hy e=>⟨(good y tail hy e).1,(good y tail hy e).2,rfl⟩) ((s1.rng (by omega) (by omega)).trans (s2.rng (by omega) (by omega))) ⟨gr,b2,r1.stp s2 (beq_no (by omega)) (beq_no (by omega))⟩
  ·subst hb
   exact hK _ (p+k) false ω2 w2 hlt (fun y tail hy e=>⟨(good y tail hy e).1,(good y tail hy e).2,rfl⟩) ((s1.rng (by omega) (by omega)).trans (s2.rng (by omega) (by omega))) ⟨gr,b2,r1.stp s2 (beq_no (by omega)) (beq_no (by omega))⟩
end Go.Proofs.YtmfgmcajelmgbaaGreatDoor.Chunk

namespace Go.Proofs.YtmfgmcajelmgbaaGreatDoor.Chunk
open Go Vm Go.RowKit Num Mem Bits Vint
variable {ω ω' : Tg} {w w' w0 : World} {t gd p k : Nat} {bs : List UInt8} {A B : Int} {kn bad : Bool}
theorem and127 (v:Nat) (hv:v<256):Go.bits .and .u64 (v:Int) (127:Int)=((v % 128:Nat):Int):=by
 rw [show (127:Int)=((127:Nat):Int) from rfl,bits_and rfl (by simp only [IntKind.bits];omega) (by decide)]
 congr 1
 exact Nat.and_two_pow_sub_one_eq_mod v 7
theorem shl64 (z e:Nat) (he:e≤64):shl .u64 (z:Int) (e:Int)=((z*2 ^ e % 18446744073709551616:Nat):Int):=by
 have h:=shl_nat .u64 (z:Int) e (by simp only [IntKind.bits];omega)
 rw [h,wU64]
 have:(z:Int)*2 ^ e=((z*2 ^ e:Nat):Int):=by simp
 rw [this];omega
theorem or64 {a b:Nat} (ha:a<18446744073709551616) (hb:b<18446744073709551616):Go.bits .or .u64 (a:Int) (b:Int)=((a ||| b:Nat):Int)∧(a ||| b)<18446744073709551616 :=
 ⟨bits_or rfl (by simp only [IntKind.bits];omega) (by simp only [IntKind.bits];omega),Nat.or_lt_two_pow (n:=64) ha hb⟩
theorem or_plus {acc z e:Nat} (ha:acc<2 ^ e) (hz:z*2 ^ e<18446744073709551616):acc ||| (z*2 ^ e % 18446744073709551616)=acc+z*2 ^ e:=by
 rw [Nat.mod_eq_of_lt hz]
 have:=Nat.two_pow_add_eq_or_of_lt ha z
 rw [Nat.mul_comm,Nat.or_comm,← this];omega
theorem byteBits_one (c:UInt8) (l:List UInt8):byteBits (c::l)=low c.toNat 8++byteBits l:=rfl
theorem ofNat_val {n:Nat} (h:n<256):(UInt8.ofNat n).toNat=n:=by simp [UInt8.toNat_ofNat'];omega
set_option maxRecDepth 20000 in
theorem uvar_ok (h:RdS ω w t gd bs p A B kn bad) {K:Int→World→Prop}
  (hK:∀ (v p':Nat) bad' ω' w',v<18446744073709551616→(∀ n tail,n<18446744073709551616→rest bs p=byteBits (putU n)++tail→v=n∧rest bs p'=tail∧bad'=bad)→Stp (Rng t 3) ω ω' w w'→RdS ω' w' t gd bs p' A B kn bad'→K (v:Int) w'):C.chunk_reader_uvarint (wp gd) w K:=by
 unfold C.chunk_reader_uvarint C.chunk_reader_uvarint.S9
 refine C.chunk_reader_uvarint.L5_ind fun X hX=>?_
 have key:∀ (j i acc p1:Nat) (b1:Bool) (ω1:Tg) (w1:World),i+j=10→acc<18446744073709551616→Stp (Rng t 3) ω ω1 w w1→RdS ω1 w1 t gd bs p1 A B kn b1 →
   (∀ n tail,n<18446744073709551616→rest bs p=byteBits (putU n)++tail→∃ m,n=acc+m*2 ^ (7*i)∧acc<2 ^ (7*i)∧(i=0∨1≤m)∧rest bs p1=byteBits (putU m)++tail∧b1=bad)→X (wp gd) (acc:Int) (i:Int) w1:=by
  intro j
  induction j with
  | zero =>
   intro i acc p1 b1 ω1 w1 hi ha s r good
   refine hX _ _ _ _ ?_
   unfold C.chunk_reader_uvarint.S7 C.chunk_reader_uvarint.S2
   refine cond_d (fun h=>by omega) (fun _=>hK acc p1 b1 ω1 w1 ha (fun n tail hn e=>?_) s r)
   obtain ⟨m,h1,_,h2,_⟩:=good n tail hn e
   have:i=10:=by omega
   subst this
   have:1*2 ^ (7*10)≤m*2 ^ (7*10):=Nat.mul_le_mul_right _ (by omega)
   omega
  | succ j ih =>
   intro i acc p1 b1 ω1 w1 hi ha s r good
   refine hX _ _ _ _ ?_
   unfold C.chunk_reader_uvarint.S7
   refine cond_d (fun _=>?_) (fun h=>by omega)
   refine dbits_ok r (k:=8) (by decide) rfl fun v p2 b2 ω2 w2 hv hg s2 r2=>?_
   have e7:IntKind.u64.wrap (IntKind.i64.wrap ((7:Int)*(i:Int)))=((7*i:Nat):Int):=by rw [wI64 (by omega) (by omega),wU64_id (by omega) (by omega)];omega
   rw [e7]
   refine ⟨by omega,?_⟩
   rw [and127 v (by omega),shl64 _ _ (by omega)]
   have hy:v % 128*2 ^ (7*i) % 18446744073709551616<18446744073709551616:=Nat.mod_lt _ (by decide)
   obtain ⟨eo,ho⟩:=or64 ha hy
   rw [eo]
   have hpow:2 ^ (7*(i+1))=2 ^ (7*i)*128:=by rw [show 7*(i+1)=7*i+7 by omega,Nat.pow_add]
   -- what was ahead
   have look:∀ n tail,n<18446744073709551616→rest bs p=byteBits (putU n)++tail→∃ m,n=acc+m*2 ^ (7*i)∧acc<2 ^ (7*i)∧((m<128∧v=m∧rest bs p2=tail∧b2=bad)∨(128≤m∧v=m % 128+128∧rest bs p2=byteBits (putU (m / 128))++tail∧b2=bad)):=by
    intro n tail hn e
    obtain ⟨m,h1,h2,_,h3,h4⟩:=good n tail hn e
    refine ⟨m,h1,h2,?_⟩
    rcases Nat.lt_or_ge m 128 with hm | hm
    ·rw [putU_lt hm,byteBits_one,ofNat_val (by omega)] at h3
     obtain ⟨q1,q2,q3⟩:=hg m tail (by omega) (by rw [h3];simp [byteBits])
     exact .inl ⟨hm,q1,q2,q3.trans h4⟩
    ·rw [putU_ge (by omega),byteBits_one,ofNat_val (by omega),List.append_assoc] at h3
     obtain ⟨q1,q2,q3⟩:=hg (m % 128+128) _ (by omega) h3
     exact .inr ⟨hm,q1,q2,q3.trans h4⟩
   refine cond_d (fun hlt=>?_) (fun hge=>?_)
   ·unfold C.chunk_reader_uvarint.S2
    refine hK _ p2 b2 ω2 w2 ho (fun n tail hn e=>?_) (s.trans s2) r2
    obtain ⟨m,h1,h2,hc⟩:=look n tail hn e
    rcases hc with ⟨hm,rfl,q2,q3⟩ | ⟨hm,q1,_⟩
    ·refine ⟨?_,q2,q3⟩
     rw [Nat.mod_eq_of_lt hm,or_plus h2 (by omega),h1]
    ·omega
   ·rw [wI64 (by omega) (by omega),show (i:Int)+1=((i+1:Nat):Int) by omega]
    refine ih (i+1) _ p2 b2 ω2 w2 (by omega) ho (s.trans s2) r2 fun n tail hn e=>?_
    obtain ⟨m,h1,h2,hc⟩:=look n tail hn e
    rcases hc with ⟨hm,rfl,_⟩ | ⟨hm,rfl,q2,q3⟩
    ·omega
    ·have em:(m % 128+128) % 128=m % 128:=by omega
     have hsm:m % 128*2 ^ (7*i)≤m*2 ^ (7*i):=Nat.mul_le_mul_right _ (Nat.mod_le _ _)
     have e3:m*2 ^ (7*i)=m % 128*2 ^ (7*i)+m / 128*2 ^ (7*(i+1)):=by
      rw [hpow]
      have:m=m % 128+m / 128*128:=by omega
      conv=>lhs;rw [this,Nat.add_mul,Nat.mul_assoc,Nat.mul_comm 128]
     refine ⟨m / 128,?_,?_,.inr (by omega),q2,q3⟩
     ·rw [em,or_plus h2 (by omega)];omega
     ·rw [em,or_plus h2 (by omega),hpow]
      have:m % 128*2 ^ (7*i)≤127*2 ^ (7*i):=Nat.mul_le_mul_right _ (by omega)
      omega
 exact key 10 0 0 p bad ω w (by omega) (by decide) (Stp.refl _ _ _) h fun n tail hn e=>⟨n,by simp,by decide,.inl rfl,e,rfl⟩
end Go.Proofs.YtmfgmcajelmgbaaGreatDoor.Chunk
namespace Go.Proofs.YtmfgmcajelmgbaaGreatDoor.Chunk
open Go Vm Go.RowKit Num Mem Bits Vint
variable {ω ω' : Tg} {w w' w0 : World} {t gd p k : Nat} {bs : List UInt8} {A B : Int} {kn bad : Bool}
theorem vform_cases (wn:Win) (x:Nat):(x=0∧vform wn x=(low 0 1,wn))∨(x≠0∧∃ a b,wn=some (a,b)∧a≤lead x∧b≤trail x∧vform wn x=(low 1 1++low 0 1++low (x / 2 ^ b) (64-a-b),wn)) ∨
  (x≠0∧vform wn x=(low 1 1++low 1 1++low (lead x) 5++low ((64-lead x-trail x) % 64) 6++low (x / 2 ^ trail x) (64-lead x-trail x),some (lead x,trail x))):=by
 unfold vform
 split
 ·rename_i h;exact .inl ⟨h,rfl⟩
 ·rename_i h
  split
  ·rename_i hh
   cases wn with
   | none=>cases hh
   | some ab =>
    obtain ⟨a,b⟩:=ab
    simp only [holdsW,Bool.and_eq_true,decide_eq_true_eq] at hh
    exact .inr (.inl ⟨h,a,b,rfl,hh.1,hh.2,rfl⟩)
  ·exact .inr (.inr ⟨h,rfl⟩)
def okW (kn:Bool) (A B:Int):Prop:=kn=true→0≤A∧A≤31∧1≤64-A-B∧64-A-B≤64
def repr (wn:Win) (kn:Bool) (A B:Int):Prop:=match wn with | none=>kn=false | some (a,b)=>kn=true∧A=(a:Int)∧B=(b:Int)
theorem RdS.setBad (h:RdS ω w t gd bs p A B kn bad) {K:World→Prop} (hK:∀ ω' w',Stp (Rng t 3) ω ω' w w'→RdS ω' w' t gd bs p A B kn true→K w'):G.st (Addr.add ⟨gd,0,none⟩ 4) (.bool true) w K:=by
 obtain ⟨gr,b,r⟩:=h.ex
 exact st_TA b (by simp) fun ω2 w2 s2 b2=>hK ω2 w2 (s2.rng (by omega) (by omega)) ⟨gr,b2,r.stp s2 (beq_no (by omega)) (beq_no (by omega))⟩
theorem same_cell {g j:Nat} {v:Value} {w w':World} (h:w.cell? ⟨g,j,none⟩=some v) (h':w'.cell? ⟨g,j,none⟩=some v):sameAt ⟨g,j,none⟩ 1 w w':=by
 refine ⟨by rw [h,h'],fun i hi=>?_⟩
 have:i=0:=by omega
 subst this
 rw [addr_add,Nat.add_zero,h,h']
theorem valS2_ok (h:RdS ω w t gd bs p A B kn bad) (hW:okW kn A B) {K:Int→World→Prop}
  (hK:∀ (v p':Nat) bad' ω' w',v<18446744073709551616→(∀ a b x tail,kn=true→A=((a:Nat):Int)→B=((b:Nat):Int)→a≤31→a+b≤63→x<18446744073709551616→x≠0→a≤lead x→b≤trail x→rest bs p=low (x / 2 ^ b) (64-a-b)++tail→v=x∧rest bs p'=tail∧bad'=bad) →
   Stp (Rng t 3) ω ω' w w'→RdS ω' w' t gd bs p' A B kn bad'→K (v:Int) w'):C.chunk_reader_value.S2 K (wp gd) w:=by
 unfold C.chunk_reader_value.S2
 obtain ⟨gr,b,r⟩:=h.ex
 refine ptr_at (cB_at (b:=kn) (by rw [addr_add,b.cell];rfl) ?_)
 refine cond_of (fun hk=>?_) (fun hk=>?_)
 ·have hk':kn=false:=by cases kn;rfl;cases hk
  refine ptr_at (h.setBad fun ω2 w2 s2 h2=>?_)
  exact hK 0 p true ω2 w2 (by decide) (fun a b x tail e=>by rw [hk'] at e;cases e) s2 h2
 have hk':kn=true:=by cases kn;cases hk;rfl
 obtain ⟨hA0,hA1,hn1,hn2⟩:=hW hk'
 refine ptr_at (cI_at (n:=B) (by rw [addr_add,addr_add,b.cell];rfl) ?_)
 refine cond_d (fun hB=>?_) (fun hB=>?_)
 ·refine ptr_at (h.setBad fun ω2 w2 s2 h2=>?_)
  exact hK 0 p true ω2 w2 (by decide) (fun a b x tail _ _ e=>by omega) s2 h2
 have kd:=drew_stp ω w
 have hd:=h.non kd
 have b':=b.stp kd
 refine ptr_at (cI_at (n:=A) (by rw [addr_add,b'.cell];rfl) (ptr_at (cI_at (n:=B) (by rw [addr_add,addr_add,b'.cell];rfl) (ptr_at (cI_at (n:=B) (by rw [addr_add,addr_add,b'.cell];rfl) ?_)))))
 rw [wI64 (x:=64-A) (by omega) (by omega),wI64 (by omega) (by omega)]
 refine dbits_ok hd (k:=(64-A-B).toNat) (by omega) (by omega) fun v p2 b2 ω2 w2 hv hg s2 r2=>⟨?_,by rw [wU64];omega,?_⟩
 ·rw [addr_add,addr_add]
  obtain ⟨gr2,bb,rr⟩:=r2.ex
  exact same_cell (v:=.int .i64 B) (by rw [b'.cell];rfl) (by rw [bb.cell];rfl)
 rw [wU64_id (by omega) (by omega),show B=((B.toNat:Nat):Int) by omega,shl64 _ _ (by omega)]
 refine hK _ p2 b2 ω2 w2 (Nat.mod_lt _ (by decide)) (fun a c x tail _ ea eb ha hab hx hx0 hla htb e=>?_) ((kd.non _).trans s2) r2
 have en:(64-A-B).toNat=64-a-c:=by omega
 rw [en] at hg hv
 obtain ⟨q1,q2,q3⟩:=hg _ tail (mid_lt hx hla (by omega)) e
 refine ⟨?_,q2,q3⟩
 rw [q1,show B.toNat=c by omega,mul_div_trail hx hx0 htb,Nat.mod_eq_of_lt hx]
theorem value_rd (h:RdS ω w t gd bs p A B kn bad) (hW:okW kn A B) {K:Int→World→Prop}
  (hK:∀ (v p':Nat) bad' A' B' kn' ω' w',v<18446744073709551616→okW kn' A' B'→(∀ wn x tail,WinOk wn→repr wn kn A B→x<18446744073709551616→rest bs p=(vform wn x).1++tail→v=x∧rest bs p'=tail∧bad'=bad∧repr (vform wn x).2 kn' A' B') →
   Stp (Rng t 3) ω ω' w w'→RdS ω' w' t gd bs p' A' B' kn' bad'→K (v:Int) w'):C.chunk_reader_value (wp gd) w K:=by
 unfold C.chunk_reader_value
 refine dbits_ok h (k:=1) (by decide) rfl fun v1 p1 b1 ω1 w1 hv1 hg1 s1 r1=>?_
 -- the first bit
 have g0:∀ wn x tail,rest bs p=(vform wn x).1++tail→(x=0∧vform wn x=(low 0 1,wn)∧v1=0∧rest bs p1=tail∧b1=bad)∨(v1=1∧b1=bad∧x≠0 ∧
   ((∃ a b,wn=some (a,b)∧a≤lead x∧b≤trail x∧vform wn x=(low 1 1++low 0 1++low (x / 2 ^ b) (64-a-b),wn)∧rest bs p1=low 0 1++(low (x / 2 ^ b) (64-a-b)++tail)) ∨
    ((vform wn x).2=some (lead x,trail x)∧rest bs p1=low 1 1++(low (lead x) 5++(low ((64-lead x-trail x) % 64) 6++(low (x / 2 ^ trail x) (64-lead x-trail x)++tail)))))):=by
  intro wn x tail e
  rcases vform_cases wn x with ⟨h0,hf⟩ | ⟨h0,a,b,hw,ha,hb,hf⟩ | ⟨h0,hf⟩
  ·rw [hf] at e
   obtain ⟨q1,q2,q3⟩:=hg1 0 tail (by decide) e
   exact .inl ⟨h0,hf,q1,q2,q3⟩
  ·rw [hf] at e
   simp only [List.append_assoc] at e
   obtain ⟨q1,q2,q3⟩:=hg1 1 _ (by decide) e
   exact .inr ⟨q1,q3,h0,.inl ⟨a,b,hw,ha,hb,hf,q2⟩⟩
  ·rw [hf] at e
   simp only [List.append_assoc] at e
   obtain ⟨q1,q2,q3⟩:=hg1 1 _ (by decide) e
   exact .inr ⟨q1,q3,h0,.inr ⟨by rw [hf],q2⟩⟩
 refine cond_eq (fun hz=>?_) (fun hz=>?_)
 ·refine hK 0 p1 b1 A B kn ω1 w1 (by decide) hW (fun wn x tail _ hr _ e=>?_) s1 r1
  rcases g0 wn x tail e with ⟨h0,hf,_,q2,q3⟩ | ⟨q1,_⟩
  ·exact ⟨h0.symm,q2,q3,by rw [hf];exact hr⟩
  ·omega
 have one:v1=1:=by omega
 refine dbits_ok r1 (k:=1) (by decide) rfl fun v2 p2 b2 ω2 w2 hv2 hg2 s2 r2=>?_
 have s02:=s1.trans s2
 have fin:∀ (A' B':Int) (kn':Bool) (p3:Nat) (b3:Bool) (ω3:Tg) (w3:World),Stp (Rng t 3) ω ω3 w w3→RdS ω3 w3 t gd bs p3 A' B' kn' b3→okW kn' A' B' →
   (∀ wn x tail,WinOk wn→repr wn kn A B→x<18446744073709551616→rest bs p=(vform wn x).1++tail→∃ a b,kn'=true∧A'=((a:Nat):Int)∧B'=((b:Nat):Int)∧a≤31∧a+b≤63∧x≠0∧a≤lead x∧b≤trail x∧(vform wn x).2=some (a,b)∧rest bs p3=low (x / 2 ^ b) (64-a-b)++tail∧b3=bad)→C.chunk_reader_value.S2 K (wp gd) w3:=by
  intro A' B' kn' p3 b3 ω3 w3 s3 r3 hW3 good
  refine valS2_ok r3 hW3 fun v p4 b4 ω4 w4 hv hg s4 r4=>hK v p4 b4 A' B' kn' ω4 w4 hv hW3 (fun wn x tail hwn hr hx e=>?_) (s3.trans s4) r4
  obtain ⟨a,b,c1,c2,c3,c4,c5,c6,c7,c8,c9,c10,c11⟩:=good wn x tail hwn hr hx e
  obtain ⟨q1,q2,q3⟩:=hg a b x tail c1 c2 c3 c4 c5 hx c6 c7 c8 c10
  exact ⟨q1,q2,q3.trans c11,by rw [c9];exact ⟨c1,c2,c3⟩⟩
 refine cond_eq (fun h1=>?_) (fun h1=>?_)
 ·refine dbits_ok r2 (k:=5) (by decide) rfl fun v5 p5 b5 ω5 w5 hv5 hg5 s5 r5=>?_
  refine dbits_ok r5 (k:=6) (by decide) rfl fun v6 p6 b6 ω6 w6 hv6 hg6 s6 r6=>?_
  have s06:=(s02.trans s5).trans s6
  -- what was ahead
  have g2:∀ wn x tail,rest bs p=(vform wn x).1++tail→x≠0∧(vform wn x).2=some (lead x,trail x)∧(lead x<32→v5=lead x∧v6=(64-lead x-trail x) % 64∧rest bs p6=low (x / 2 ^ trail x) (64-lead x-trail x)++tail∧b6=bad):=by
   intro wn x tail e
   rcases g0 wn x tail e with ⟨_,_,q1,_⟩ | ⟨_,q3,h0,⟨a,b,_,_,_,_,q2⟩ | ⟨hf,q2⟩⟩
   ·omega
   ·have:=(hg2 0 _ (by decide) q2).1
    omega
   ·refine ⟨h0,hf,fun hl=>?_⟩
    obtain ⟨_,u2,u3⟩:=hg2 1 _ (by decide) q2
    obtain ⟨y1,y2,y3⟩:=hg5 _ _ (by omega) u2
    obtain ⟨z1,z2,z3⟩:=hg6 _ _ (by omega) y2
    exact ⟨y1,z1,z2,((z3.trans y3).trans u3).trans q3⟩
  rw [wI64 (x:=(v6:Int)) (by omega) (by omega),wI64 (x:=(v5:Int)) (by omega) (by omega),wI64 (x:=64-(v5:Int)) (by omega) (by omega)]
  have put:∀ (B':Int),-9223372036854775808≤B'∧B'<9223372036854775808→okW true (v5:Int) B'→(∀ wn x tail,x<18446744073709551616→rest bs p=(vform wn x).1++tail→B'=((trail x:Nat):Int)) →
    G.ptr (wp gd) fun p31=>G.st (p31.add 1) (.int .i64 (v5:Int)) w6 fun w32=>G.st ((p31.add 1).add 1) (.int .i64 (IntKind.i64.wrap B')) w32 fun w33=>G.ptr (wp gd) fun p34=>G.st (p34.add 3) (.bool true) w33 fun w35=>C.chunk_reader_value.S2 K (wp gd) w35:=by
   intro B' hB' hok hB
   rw [wI64 hB'.1 hB'.2]
   obtain ⟨gr,bb,rr⟩:=r6.ex
   refine ptr_at (st_TA bb (by simp) fun ω7 w7 s7 b7=>?_)
   rw [addr_add,addr_add]
   refine st_T b7 (by simp) fun ω8 w8 s8 b8=>?_
   refine ptr_at (st_TA b8 (by simp) fun ω9 w9 s9 b9=>?_)
   have s69:=(s7.trans s8).trans s9
   refine fin (v5:Int) B' true p6 b6 ω9 w9 (s06.trans (s69.rng (by omega) (by omega))) ⟨gr,b9,rr.stp s69 (beq_no (by omega)) (beq_no (by omega))⟩ hok fun wn x tail hwn hr hx e=>?_
   obtain ⟨h0,hf,hh⟩:=g2 wn x tail e
   have hl:=lead_le x
   have hlt:=lead_trail hx h0
   obtain ⟨q1,q2,q3,q4⟩:=hh (by omega)
   exact ⟨lead x,trail x,rfl,by rw [q1],hB wn x tail hx e,hl,hlt,h0,Nat.le_refl _,Nat.le_refl _,hf,q3,q4⟩
  have tr:∀ wn x tail,x<18446744073709551616→rest bs p=(vform wn x).1++tail→v5=lead x∧v6=(64-lead x-trail x) % 64∧lead x+trail x≤63:=by
   intro wn x tail hx e
   obtain ⟨h0,hf,hh⟩:=g2 wn x tail e
   have hl:=lead_le x
   obtain ⟨q1,q2,_⟩:=hh (by omega)
   exact ⟨q1,q2,lead_trail hx h0⟩
  refine cond_eq (fun h6=>put _ (by omega) (fun _=>by omega) fun wn x tail hx e=>?_) (fun h6=>put _ (by omega) (fun _=>by omega) fun wn x tail hx e=>?_)
  ·obtain ⟨q1,q2,q3⟩:=tr wn x tail hx e
   omega
  ·obtain ⟨q1,q2,q3⟩:=tr wn x tail hx e
   omega
 ·refine fin A B kn p2 b2 ω2 w2 s02 r2 hW fun wn x tail hwn hr hx e=>?_
  rcases g0 wn x tail e with ⟨_,_,q1,_⟩ | ⟨_,q3,h0,⟨a,b,hw,ha,hb,hf,q2⟩ | ⟨hf,q2⟩⟩
  ·omega
  ·obtain ⟨_,u2,u3⟩:=hg2 0 _ (by decide) q2
   rw [hw] at hr
   obtain ⟨c1,c2,c3⟩:=hr
   obtain ⟨c4,c5⟩:=hwn a b hw
   exact ⟨a,b,c1,c2,c3,c4,c5,h0,ha,hb,by rw [hf];exact hw,u2,u3.trans q3⟩
  ·have:=(hg2 1 _ (by decide) q2).1
   omega
end Go.Proofs.YtmfgmcajelmgbaaGreatDoor.Chunk
namespace Go.Proofs.YtmfgmcajelmgbaaGreatDoor.Chunk
open Go Vm Go.RowKit Num Mem Bits Vint
variable {ω ω' : Tg} {w w' w0 : World} {t gd p k : Nat} {bs : List UInt8} {A B : Int} {kn bad : Bool}
def tcls (d:Int):Nat:=if d=0 then 0 else if fitsB d 14 then 1 else if fitsB d 17 then 2 else if fitsB d 20 then 3 else 4
def tw (c:Nat):Nat:=[0,14,17,20,64].getD c 0
def tbody (d:Int):List Bool:=low (lowN d (tw (tcls d))) (tw (tcls d))
theorem tcls_le (d:Int):tcls d≤4:=by unfold tcls;repeat' split<;>try omega
theorem tform_cls (d:Int):tform d=List.replicate (tcls d) true++((if tcls d<4 then [false] else [])++tbody d):=by
 unfold tform tbody tcls
 split
 ·rfl
 ·split
  ·rfl
  ·split
   ·rfl
   ·split
    ·rfl
    ·rfl
theorem tcls_fits {d:Int} (h0:tcls d≠0) (h4:tcls d<4):fitsB d (tw (tcls d))=true:=by
 unfold tcls at *
 split at h0
 ·exact absurd rfl h0
 ·split
  ·rename_i h;exact absurd h (by assumption)
  ·split
   ·assumption
   ·split
    ·assumption
    ·split
     ·assumption
     ·rename_i h1 h2 h3 h4'
      simp only [h1,h2,h3,h4',if_false,if_neg] at h4
      simp at h4
theorem says {d:Int} {k:Nat} (hk:0<k) (hk':k≤56) (hf:fitsB d k=true):(lowN d k≤2 ^ (k-1)∧d=(lowN d k:Int))∨(2 ^ (k-1)<lowN d k∧d=(lowN d k:Int)-2 ^ k):=by
 have hp:2 ^ (k-1)≤2 ^ 55:=Nat.pow_le_pow_right (by decide) (by omega)
 have e2:2 ^ k=2 ^ (k-1)*2:=by rw [← Nat.pow_succ];congr 1;omega
 have e4:(2:Int) ^ (k-1)=((2 ^ (k-1):Nat):Int):=by simp
 have e5:(2:Int) ^ k=((2 ^ k:Nat):Int):=by simp
 simp only [fitsB,Bool.and_eq_true,decide_eq_true_eq] at hf
 rw [e4] at hf
 rw [e5]
 unfold lowN
 rw [if_pos (by omega)]
 have hmod:18446744073709551616 % 2 ^ k=0:=by
  have:(18446744073709551616:Nat)=2 ^ k*2 ^ (64-k):=by rw [← Nat.pow_add,show k+(64-k)=64 by omega]
  rw [this,Nat.mul_mod_right]
 by_cases hd:0≤d
 ·left
  have:uN d=d.toNat:=by unfold uN;omega
  rw [this,Nat.mod_eq_of_lt (by omega)]
  omega
 ·right
  have hu:uN d=18446744073709551616-(-d).toNat:=by unfold uN;omega
  obtain ⟨q,hq⟩:∃ q,18446744073709551616=2 ^ k*q:=⟨2 ^ (64-k),by rw [← Nat.pow_add,show k+(64-k)=64 by omega]⟩
  have hq1:1≤q:=by
   rcases Nat.eq_zero_or_pos q with h | h
   ·rw [h] at hq;simp at hq
   ·exact h
  have hv:uN d=2 ^ k*(q-1)+(2 ^ k-(-d).toNat):=by
   rw [hu,hq,Nat.mul_sub,Nat.mul_one]
   have:2 ^ k*1≤2 ^ k*q:=Nat.mul_le_mul_left _ hq1
   omega
  rw [hv,Nat.mul_add_mod,Nat.mod_eq_of_lt (by omega)]
  omega
set_option maxRecDepth 20000 in
theorem timeS2_ok (h:RdS ω w t gd bs p A B kn bad) {k:Nat} (hk:0<k) (hk':k≤56) {x:Int} (hx:x=(k:Int)) {K:Int→World→Prop}
  (hK:∀ (v:Int) (p':Nat) bad' ω' w',(∀ d tail,fitsB d k=true→rest bs p=low (lowN d k) k++tail→v=d∧rest bs p'=tail∧bad'=bad)→Stp (Rng t 3) ω ω' w w'→RdS ω' w' t gd bs p' A B kn bad'→K v w'):C.chunk_reader_time.S2 K (wp gd) x w:=by
 unfold C.chunk_reader_time.S2
 refine dbits_ok h (k:=k) (by omega) hx fun v p2 b2 ω2 w2 hv hg s2 r2=>?_
 subst hx
 have hp:2 ^ (k-1)≤2 ^ 55:=Nat.pow_le_pow_right (by decide) (by omega)
 have e2:2 ^ k=2 ^ (k-1)*2:=by rw [← Nat.pow_succ];congr 1;omega
 have e1:IntKind.u64.wrap (IntKind.i64.wrap ((k:Int)-(1:Int)))=((k-1:Nat):Int):=by
  rw [wI64 (by omega) (by omega),wU64_id (by omega) (by omega)];omega
 have es:shl .u64 (1:Int) ((k-1:Nat):Int)=((2 ^ (k-1):Nat):Int):=by
  have:=shl64 1 (k-1) (by omega)
  rw [Nat.one_mul,Nat.mod_eq_of_lt (by omega)] at this
  exact this
 have es2:shl .i64 (1:Int) ((k:Nat):Int)=((2 ^ k:Nat):Int):=by
  have:=shl_nat .i64 (1:Int) k (by simp only [IntKind.bits];omega)
  rw [this,show (1:Int)*2 ^ k=((2 ^ k:Nat):Int) by simp,wI64 (by omega) (by omega)]
 rw [e1,es]
 refine ⟨by omega,?_⟩
 have vv:IntKind.i64.wrap (v:Int)=(v:Int):=wI64 (by omega) (by omega)
 refine cond_d (fun h1=>⟨by rw [wU64];omega,?_⟩) (fun h1=>?_)
 ·rw [wU64_id (by omega) (by omega),es2,vv,wI64 (by omega) (by omega)]
  refine hK _ p2 b2 ω2 w2 (fun d tail hf e=>?_) s2 r2
  obtain ⟨q1,q2,q3⟩:=hg _ tail (lowN_lt2 d (by omega)) e
  have e5:(2:Int) ^ k=((2 ^ k:Nat):Int):=by simp
  rcases says hk hk' hf with ⟨u1,u2⟩ | ⟨u1,u2⟩
  ·omega
  ·exact ⟨by rw [u2,e5,q1],q2,q3⟩
 ·rw [vv]
  refine hK _ p2 b2 ω2 w2 (fun d tail hf e=>?_) s2 r2
  obtain ⟨q1,q2,q3⟩:=hg _ tail (lowN_lt2 d (by omega)) e
  rcases says hk hk' hf with ⟨u1,u2⟩ | ⟨u1,u2⟩
  ·exact ⟨by rw [q1,← u2],q2,q3⟩
  ·omega
theorem time_rd (h:RdS ω w t gd bs p A B kn bad) {K:Int→World→Prop}
  (hK:∀ (v:Int) (p':Nat) bad' ω' w',(∀ d tail,-9223372036854775808≤d→d<9223372036854775808→rest bs p=tform d++tail→v=d∧rest bs p'=tail∧bad'=bad)→Stp (Rng t 3) ω ω' w w'→RdS ω' w' t gd bs p' A B kn bad'→K v w'):C.chunk_reader_time (wp gd) w K:=by
 unfold C.chunk_reader_time
 refine C.chunk_reader_time.L6_ind fun X hX=>?_
 have s3:∀ (i p1:Nat) (b1:Bool) (ω1:Tg) (w1:World),i≤4→Stp (Rng t 3) ω ω1 w w1→RdS ω1 w1 t gd bs p1 A B kn b1 →
   (∀ d tail,rest bs p=tform d++tail→tcls d=i∧rest bs p1=tbody d++tail∧b1=bad)→C.chunk_reader_time.S3 K (wp gd) (i:Int) w1:=by
  intro i p1 b1 ω1 w1 hi s r good
  unfold C.chunk_reader_time.S3
  have two:∀ k,0<k→k≤56→i≠0→i<4→k=tw i→C.chunk_reader_time.S2 K (wp gd) (k:Int) w1:=fun k h0 h1 hi0 hi4 hk =>
   timeS2_ok r h0 h1 rfl fun v p2 b2 ω2 w2 hg s2 r2=>hK v p2 b2 ω2 w2 (fun d tail _ _ e=>by
    obtain ⟨u1,u2,u3⟩:=good d tail e
    have hf:=tcls_fits (d:=d) (by omega) (by omega)
    rw [u1,← hk] at hf
    unfold tbody at u2
    rw [u1,← hk] at u2
    obtain ⟨q1,q2,q3⟩:=hg d tail hf u2
    exact ⟨q1,q2,q3.trans u3⟩) (s.trans s2) r2
  refine cond_eq (fun h0=>?_) (fun h0=>cond_eq (fun h1=>two 14 (by decide) (by decide) (by omega) (by omega) (by rw [show i=1 by omega];rfl)) (fun h1=>cond_eq (fun h2=>two 17 (by decide) (by decide) (by omega) (by omega) (by rw [show i=2 by omega];rfl)) (fun h2=>cond_eq (fun h3=>two 20 (by decide) (by decide) (by omega) (by omega) (by rw [show i=3 by omega];rfl)) (fun h3=>cond_eq (fun h4=>?_) (fun h4=>by omega)))))
  ·refine hK 0 p1 b1 ω1 w1 (fun d tail _ _ e=>?_) s r
   obtain ⟨u1,u2,u3⟩:=good d tail e
   have hd:d=0:=by
    rcases Int.decEq d 0 with h | h
    ·unfold tcls at u1
     rw [if_neg h] at u1
     split at u1
     ·omega
     ·split at u1
      ·omega
      ·split at u1<;>omega
    ·exact h
   subst hd
   exact ⟨rfl,u2,u3⟩
  ·refine dbits_ok r (k:=64) (by decide) rfl fun v p2 b2 ω2 w2 hv hg s2 r2=>hK _ p2 b2 ω2 w2 (fun d tail hd1 hd2 e=>?_) (s.trans s2) r2
   obtain ⟨u1,u2,u3⟩:=good d tail e
   unfold tbody at u2
   rw [u1,show i=4 by omega] at u2
   obtain ⟨q1,q2,q3⟩:=hg (lowN d 64) tail (lowN_lt2 d (by decide)) u2
   refine ⟨?_,q2,q3.trans u3⟩
   rw [q1]
   have:lowN d 64=uN d:=by unfold lowN;rw [if_neg (by decide)]
   rw [this,wI64']
   unfold uN
   split<;>omega
 have key:∀ (j i p1:Nat) (b1:Bool) (ω1:Tg) (w1:World),i+j=4→Stp (Rng t 3) ω ω1 w w1→RdS ω1 w1 t gd bs p1 A B kn b1 →
   (∀ d tail,rest bs p=tform d++tail→i≤tcls d∧rest bs p1=List.replicate (tcls d-i) true++((if tcls d<4 then [false] else [])++(tbody d++tail))∧b1=bad)→X (wp gd) (i:Int) w1:=by
  intro j
  induction j with
  | zero =>
   intro i p1 b1 ω1 w1 hi s r good
   refine hX _ _ _ ?_
   unfold C.chunk_reader_time.S8
   refine cond_d (fun h=>by omega) (fun _=>s3 i p1 b1 ω1 w1 (by omega) s r fun d tail e=>?_)
   obtain ⟨u1,u2,u3⟩:=good d tail e
   have:=tcls_le d
   refine ⟨by omega,?_,u3⟩
   rw [show tcls d-i=0 by omega,if_neg (by omega)] at u2
   exact u2
  | succ j ih =>
   intro i p1 b1 ω1 w1 hi s r good
   refine hX _ _ _ ?_
   unfold C.chunk_reader_time.S8
   refine cond_d (fun _=>?_) (fun h=>by omega)
   refine dbits_ok r (k:=1) (by decide) rfl fun v p2 b2 ω2 w2 hv hg s2 r2=>?_
   refine cond_eq (fun h1=>?_) (fun h1=>?_)
   ·rw [wI64 (by omega) (by omega),show (i:Int)+1=((i+1:Nat):Int) by omega]
    refine ih (i+1) p2 b2 ω2 w2 (by omega) (s.trans s2) r2 fun d tail e=>?_
    obtain ⟨u1,u2,u3⟩:=good d tail e
    rcases Nat.eq_or_lt_of_le u1 with h | h
    ·rw [← h,Nat.sub_self,if_pos (by omega)] at u2
     have:=(hg 0 _ (by decide) u2).1
     omega
    ·rw [show tcls d-i=(tcls d-(i+1))+1 by omega,List.replicate_succ,List.cons_append] at u2
     obtain ⟨q1,q2,q3⟩:=hg 1 _ (by decide) u2
     exact ⟨by omega,q2,q3.trans u3⟩
   ·refine s3 i p2 b2 ω2 w2 (by omega) (s.trans s2) r2 fun d tail e=>?_
    obtain ⟨u1,u2,u3⟩:=good d tail e
    rcases Nat.eq_or_lt_of_le u1 with h | h
    ·rw [← h,Nat.sub_self,if_pos (by omega)] at u2
     obtain ⟨q1,q2,q3⟩:=hg 0 _ (by decide) u2
     exact ⟨h.symm,q2,q3.trans u3⟩
    ·rw [show tcls d-i=(tcls d-(i+1))+1 by omega,List.replicate_succ,List.cons_append] at u2
     obtain ⟨q1,q2,q3⟩:=hg 1 _ (by decide) u2
     omega
 refine key 4 0 p bad ω w (by omega) (Stp.refl _ _ _) h fun d tail e=>⟨by omega,?_,rfl⟩
 rw [e,tform_cls,Nat.sub_zero]
 simp only [List.append_assoc]
end Go.Proofs.YtmfgmcajelmgbaaGreatDoor.Chunk

namespace Go.Proofs.YtmfgmcajelmgbaaGreatDoor.Chunk
open Go Vm Go.RowKit Num Mem Bits Vint
variable {ω ω' : Tg} {w w' w0 : World}
theorem Valid.inv {l:List Smp} {s:Smp} (h:Valid (l++[s])):Valid l∧wrong l s.1=0∧s.2<18446744073709551616:=by
 generalize hm:l++[s]=m at h
 cases h with
 | nil=>simp at hm
 | snoc h1 h2 h3 =>
  obtain ⟨rfl,e⟩:=List.append_inj' hm rfl
  simp only [List.cons.injEq,and_true] at e
  subst e
  exact ⟨h1,h2,h3⟩
theorem Valid.pre {a:List Smp}:∀ {b:List Smp},Valid (a++b)→Valid a:=by
 have key:∀ (n:Nat) (b:List Smp),b.length=n→Valid (a++b)→Valid a:=by
  intro n
  induction n with
  | zero=>intro b hb h;rw [List.eq_nil_of_length_eq_zero hb,List.append_nil] at h;exact h
  | succ n ih =>
   intro b hb h
   rcases List.eq_nil_or_concat b with rfl | ⟨c,s,rfl⟩
   ·simp at hb
   ·rw [List.concat_eq_append,← List.append_assoc] at h
    exact ih c (by simpa using hb) h.inv.1
 intro b h
 exact key _ b rfl h
theorem firstW_zero:∀ (r pre:List Smp) (i:Nat),Valid (pre++r)→firstW pre r i=(0,0)
 | [],pre,i,_=>rfl
 | s::r,pre,i,h=>by
  have h':Valid ((pre++[s])++r):=by simpa using h
  rw [firstW,if_pos h'.pre.inv.2.1]
  exact firstW_zero r (pre++[s]) (i+1) h'
theorem enc_len (l:List Smp):(enc l).length=2+((run l).1.length+7) / 8:=by
 unfold enc
 rw [List.length_cons,List.length_cons,pk_len];omega
end Go.Proofs.YtmfgmcajelmgbaaGreatDoor.Chunk

namespace Go.Proofs.YtmfgmcajelmgbaaGreatDoor.Vint
open Go Vm Go.RowKit Num Mem
theorem bits_xor64 {x y:Nat} (hx:x<18446744073709551616) (hy:y<18446744073709551616):Go.bits .xor .i64 (x:Int) (y:Int)=IntKind.i64.wrap ((x ^^^ y:Nat):Int):=by
 have e:(BitVec.ofNat 64 x ^^^ BitVec.ofNat 64 y).toNat=x ^^^ y:=by
  rw [BitVec.toNat_xor,BitVec.toNat_ofNat,BitVec.toNat_ofNat,Nat.mod_eq_of_lt (by omega),Nat.mod_eq_of_lt (by omega)]
 unfold Go.bits
 simp only [ofInt_nat]
 exact congrArg (fun t:Nat=>IntKind.i64.wrap (t:Int)) e
theorem ofInt_neg1:BitVec.ofInt 64 (-1)=BitVec.ofInt 64 ((18446744073709551615:Nat):Int):=by decide +kernel
theorem bits_xor_neg (x:Int):Go.bits .xor .i64 x (-1)=Go.bits .xor .i64 x ((18446744073709551615:Nat):Int):=by
 unfold Go.bits
 exact congrArg (fun t:BitVec 64=>IntKind.i64.wrap (((BitVec.ofInt 64 x ^^^ t).toNat:Nat):Int)) ofInt_neg1
theorem zag (u:Nat) (hu:u<18446744073709551616) :
  Go.bits .xor .i64 (IntKind.i64.wrap (shr .u64 (u:Int) (1:Int))) (IntKind.i64.wrap (0-(IntKind.i64.wrap (Go.bits .and .u64 (u:Int) (1:Int)))))=bk u:=by
 have e2:=shr_nat .u64 (u:Int) 1 (by decide)
 rw [show ((1:Nat):Int)=(1:Int) from rfl] at e2
 have e3:Go.bits .and .u64 (u:Int) (1:Int)=((u % 2:Nat):Int):=by
  rw [show (1:Int)=((1:Nat):Int) from rfl,bits_and rfl (by simp only [IntKind.bits];omega) (by decide),Nat.and_one_is_mod]
 rw [e2,e3,show (u:Int) / 2 ^ 1=((u / 2:Nat):Int) by omega,wI64 (x:=((u / 2:Nat):Int)) (by omega) (by omega),wI64 (x:=((u % 2:Nat):Int)) (by omega) (by omega),wI64 (by omega) (by omega)]
 unfold bk
 by_cases h:u % 2=0
 ·rw [if_pos h,h,show (0:Int)-((0:Nat):Int)=((0:Nat):Int) from rfl,bits_xor64 (by omega) (by omega),Nat.xor_zero,wI64 (by omega) (by omega)]
 ·rw [if_neg h,show u % 2=1 by omega,show (0:Int)-((1:Nat):Int) = -1 from rfl,bits_xor_neg,bits_xor64 (by omega) (by omega),xor_all _ (by omega),wI64']
  split<;>omega
end Go.Proofs.YtmfgmcajelmgbaaGreatDoor.Vint

namespace Go.Proofs.YtmfgmcajelmgbaaGreatDoor.Chunk
open Go Vm Go.RowKit Num Mem Bits Vint
variable {ω ω' : Tg} {w w' w0 : World} {t gd p k : Nat} {bs : List UInt8} {A B : Int} {kn bad : Bool}
def Good (bs:List UInt8) (p0 n:Nat) (lst:List Smp) (p:Nat) (A B:Int) (kn bad:Bool):Prop :=
 ∀ m tail,Valid m→m.length=n→rest bs p0=(run m).1++tail→lst=m.take lst.length∧(run lst).1++rest bs p=(run m).1++tail∧bad=false∧repr (run lst).2 kn A B
theorem run_pre {m:List Smp}:∀ (d i:Nat),i+d=m.length→∃ R,(run m).1=(run (m.take i)).1++R
 | 0,i,h=>⟨[],by rw [List.take_of_length_le (by omega),List.append_nil]⟩
 | d+1,i,h=>by
  obtain ⟨R,hR⟩:=run_pre (m:=m) d (i+1) (by omega)
  have hi:i<m.length:=by omega
  have e:run (m.take (i+1))=((run (m.take i)).1++(emit (m.take i) (run (m.take i)).2 m[i]).1,(emit (m.take i) (run (m.take i)).2 m[i]).2):=by
   rw [List.take_add_one,List.getElem?_eq_getElem hi]
   exact run_snoc _ _
  rw [e] at hR
  exact ⟨_,by rw [hR,List.append_assoc]⟩
theorem good_step {p0 n p1 p2:Nat} {lst:List Smp} {A' B':Int} {kn' b1 b2:Bool} {s:Smp} (h:Good bs p0 n lst p1 A B kn b1) (hi:lst.length<n)
  (step:∀ (x:Smp) tail',Valid (lst++[x])→repr (run lst).2 kn A B→rest bs p1=(emit lst (run lst).2 x).1++tail'→s=x∧rest bs p2=tail'∧b2=b1∧repr (emit lst (run lst).2 x).2 kn' A' B'):Good bs p0 n (lst++[s]) p2 A' B' kn' b2:=by
 intro m tail hm hn e
 obtain ⟨h1,h2,h3,h4⟩:=h m tail hm hn e
 have him:lst.length<m.length:=by omega
 have et:m.take (lst.length+1)=lst++[m[lst.length]]:=by rw [List.take_add_one,List.getElem?_eq_getElem him,← h1];rfl
 have hv:Valid (lst++[m[lst.length]]):=by
  rw [← et]
  have:=hm
  rw [← List.take_append_drop (lst.length+1) m] at this
  exact this.pre
 obtain ⟨R,hR⟩:=run_pre (m:=m) (m.length-(lst.length+1)) (lst.length+1) (by omega)
 rw [et,run_snoc] at hR
 have er:rest bs p1=(emit lst (run lst).2 m[lst.length]).1++(R++tail):=by
  have:(run lst).1++rest bs p1=(run lst).1++((emit lst (run lst).2 m[lst.length]).1++(R++tail)):=by
   rw [h2,hR];simp only [List.append_assoc]
  exact List.append_cancel_left this
 obtain ⟨q1,q2,q3,q4⟩:=step _ _ hv h4 er
 refine ⟨?_,?_,q3.trans h3,?_⟩
 ·rw [List.length_append,List.length_singleton,et,q1]
 ·rw [q1,run_snoc,q2,hR];simp only [List.append_assoc]
 ·rw [q1,run_snoc];exact q4
theorem fbits_at {x:Nat} {K:Nat→World→Prop} (hK:K x w):C.math_Float64frombits (x:Int) w K:=by
 show K ((x:Int).toNat) w
 rw [Int.toNat_natCast];exact hK
theorem xor_back (a b:Nat):b ^^^ (a ^^^ b)=a:=by rw [Nat.xor_comm a b,← Nat.xor_assoc,Nat.xor_self,Nat.zero_xor]
theorem rng18 {u:Nat} (h:Rng 1 8 u=false):Rng 1 3 u=false:=by
 by_cases a:1≤u∧u<1+3
 ·have:Rng 1 8 u=true:=by simp [Rng,Nat.ble_eq_true_of_le a.1,Nat.blt_eq.mpr (show u<1+8 by omega)]
  rw [this] at h;cases h
 ·exact rng_out (by omega)
theorem samples_ok (h:RdS ω w 1 gd bs p A B kn false) (hkn:kn=false) {n:Nat} (hn:n≤1000) {K:Sl→World→Prop}
  (hK:∀ s lst (p':Nat) A' B' kn' bad' ω' w',OS ω' w' 5 s lst→(∀ x∈lst,x.2<18446744073709551616)→lst.length≤n→(∀ m tail,Valid m→m.length=n→rest bs p=(run m).1++tail→lst=m∧bad'=false)→Stp (Rng 1 8) ω ω' w w'→RdS ω' w' 1 gd bs p' A' B' kn' bad'→K s w'):C.chunk_reader_samples (wp gd) (n:Int) w K:=by
 unfold C.chunk_reader_samples C.chunk_reader_samples.S9
 refine C.chunk_reader_samples.L5_ind fun X hX=>?_
 have done:∀ (s:Sl) (lst:List Smp) (p1:Nat) A1 B1 kn1 b1 ω1 w1,lst.length≤n→(lst.length=n∨b1=true)→OS ω1 w1 5 s lst→(∀ x∈lst,x.2<18446744073709551616)→Good bs p n lst p1 A1 B1 kn1 b1→Stp (Rng 1 8) ω ω1 w w1→RdS ω1 w1 1 gd bs p1 A1 B1 kn1 b1→K s w1:=by
  intro s lst p1 A1 B1 kn1 b1 ω1 w1 hl hor o hx good st r
  refine hK s lst p1 A1 B1 kn1 b1 ω1 w1 o hx hl (fun m tail hm hmn e=>?_) st r
  obtain ⟨u1,_,u3,_⟩:=good m tail hm hmn e
  rcases hor with hor | hor
  ·rw [hor,← hmn,List.take_length] at u1
   exact ⟨u1,u3⟩
  ·rw [hor] at u3;cases u3
 have key:∀ (d:Nat) (s:Sl) (lst:List Smp) (p1:Nat) A1 B1 kn1 b1 ω1 w1,lst.length+d=n→okW kn1 A1 B1→OS ω1 w1 5 s lst→(∀ x∈lst,x.2<18446744073709551616)→Good bs p n lst p1 A1 B1 kn1 b1→Stp (Rng 1 8) ω ω1 w w1→RdS ω1 w1 1 gd bs p1 A1 B1 kn1 b1→X (wp gd) (n:Int) s (lst.length:Int) w1:=by
  intro d
  induction d with
  | zero =>
   intro s lst p1 A1 B1 kn1 b1 ω1 w1 hi hW o hx good st r
   refine hX _ _ _ _ _ ?_
   unfold C.chunk_reader_samples.S7 C.chunk_reader_samples.S2
   exact cond_d (fun h=>by omega) (fun _=>done s lst p1 A1 B1 kn1 b1 ω1 w1 (by omega) (.inl (by omega)) o hx good st r)
  | succ d ih =>
   intro s lst p1 A1 B1 kn1 b1 ω1 w1 hi hW o hx good st r
   refine hX _ _ _ _ _ ?_
   unfold C.chunk_reader_samples.S7
   refine cond_d (fun _=>?_) (fun h=>by omega)
   obtain ⟨gr,bb,rr⟩:=r.ex
   refine ptr_at (cB_at (b:=b1) (by rw [addr_add,bb.cell];rfl) ?_)
   refine cond_of (fun hb=>?_) (fun hb=>?_)
   case _ => 
    refine new_T (ω:=ω1) 6 fun g ω2 w2 k2 b2=>?_
    have r2:=r.non k2
    have o2:=o.stp k2
    have st2:=st.trans (k2.non _)
    -- the end of each way
    have fin:∀ (T:Int) (V p3:Nat) A3 B3 kn3 b3 ω3 w3,V<18446744073709551616→okW kn3 A3 B3→BT ω3 w3 6 g 96 [.int .i64 T,.float .f64 0]→OS ω3 w3 5 s lst→Stp (Rng 1 8) ω ω3 w w3→RdS ω3 w3 1 gd bs p3 A3 B3 kn3 b3 →
      (∀ (x:Smp) tail',Valid (lst++[x])→repr (run lst).2 kn1 A1 B1→rest bs p1=(emit lst (run lst).2 x).1++tail'→(T,V)=x∧rest bs p3=tail'∧b3=b1∧repr (emit lst (run lst).2 x).2 kn3 A3 B3) →
      G.st (Addr.add ⟨g,0,none⟩ 1) (.float .f64 V) w3 fun w28=>G.cI .i64 ⟨g,0,none⟩ w28 fun n29=>G.cF .f64 (Addr.add ⟨g,0,none⟩ 1) w28 fun f30=>G.new (.cells #[(.int .i64 n29),(.float .f64 f30)] 96) w28 fun p31 w32=>G.runSl Tryz.prog (Builtin.append_ #[52,52] 52 #[s.v,(Sl.v (⟨some p31,1,1⟩:Sl))]) w32 fun l33 w34=>X (wp gd) (n:Int) l33 (IntKind.i64.wrap ((lst.length:Int)+(1:Int))) w34:=by
     intro T V p3 A3 B3 kn3 b3 ω3 w3 hV hW3 b o3 st3 r3 step
     refine st_TA b (by simp) fun ω4 w4 s4 b4=>?_
     refine cI_at (n:=T) (by rw [b4.cell];rfl)<|cF_at (b:=V) (by rw [addr_add,b4.cell];rfl) ?_
     have o4:=o3.stp s4 (beq_no (by decide))
     have hsn:=OS.len o4
     refine push_T tiS o4 (n:=1) rfl (by intro v hv;simp at hv;rcases hv with rfl | rfl<;>rfl) (by simp only [maxLen];omega) (by omega) fun q ω5 w5 k5 o5 hq=>?_
     have s5:=(s4.rng (t:=1) (n:=8) (by decide) (by decide)).trans (k5.rng (t:=1) (n:=8) (by decide) (by decide))
     have:=ih q (lst++[(T,V)]) p3 A3 B3 kn3 b3 ω5 w5 (by rw [List.length_append,List.length_singleton];omega) hW3 (by rw [OS,smps_app];exact o5) (fun x hx'=>by
      rcases List.mem_append.1 hx' with h | h
      ·exact hx x h
      ·rw [List.mem_singleton.1 h];exact hV) (good_step good (by omega) step) (st3.trans s5) ((r3.stp s4 rfl rfl rfl).stp k5 rfl rfl rfl)
     rw [wI64 (by omega) (by omega)]
     rw [List.length_append,List.length_singleton] at this
     exact this
    have hb1:b1=false:=by cases b1;rfl;cases hb
    have hsl:=OS.len o2
    refine cond_eq (fun h0=>?_) (fun h0=>cond_eq (fun h1=>?_) (fun h1=>?_))
    ·obtain rfl:lst=[]:=List.eq_nil_of_length_eq_zero (by omega)
     refine uvar_ok r2 fun v p3 b3 ω3 w3 hv hg s3 r3=>⟨by decide,?_⟩
     rw [zag v hv]
     have s3':=s3.mono (T':=Rng 1 8) fun u hu=>rng18 hu
     have bg:=b2.stp s3 (rng_out (by decide))
     refine st_T bg (by simp) fun ω4 w4 s4 b4=>?_
     have r4:=r3.stp s4 rfl rfl rfl
     refine dbits_ok r4 (k:=64) (by decide) rfl fun V p5 b5 ω5 w5 hV hg5 s5 r5=>fbits_at ?_
     have s5':=s5.mono (T':=Rng 1 8) fun u hu=>rng18 hu
     have b5':=b4.stp s5 (rng_out (by decide))
     have o5:=((o2.stp s3 (rng_out (by decide))).stp s4 (beq_no (by decide))).stp s5 (rng_out (by decide))
     refine fin (bk v) V p5 A1 B1 kn1 b5 ω5 w5 hV hW b5' o5 (((st2.trans s3').trans (s4.rng (by decide) (by decide))).trans s5') r5 fun x tail' hvx hr e=>?_
     have hxx:=wrong_zero hvx.inv.2.1
     have ee:emit [] (run []).2 x=(byteBits (putU (zz x.1))++low x.2 64,(run []).2):=rfl
     rw [ee,List.append_assoc] at e
     obtain ⟨q1,q2,q3⟩:=hg (zz x.1) _ (zz_lt50 hxx.1 hxx.2.1) e
     obtain ⟨u1,u2,u3⟩:=hg5 x.2 tail' hvx.inv.2.2 q2
     refine ⟨?_,u2,u3.trans q3,hr⟩
     rw [q1,u1,bk_zz]
    ·obtain ⟨a,rfl⟩:∃ a,lst=[a]:=by
      cases lst with
      | nil=>simp at h1
      | cons a r=>cases r with
       | nil=>exact ⟨a,rfl⟩
       | cons _ _=>simp at h1;omega
     have kd:=drew_stp ω2 w2
     have od:=o2.stp kd
     have ha:=hx a (List.mem_singleton.2 rfl)
     refine OS.at_ od (k:=0) (x:=a) rfl rfl fun p35 hp1 hp2 hc0 hc1=>cI_at hc0 ?_
     refine uvar_ok (r2.non kd) fun v p3 b3 ω3 w3 hv hg s3 r3=>⟨same_stp s3 hp1 (by rw [hp2];exact rng_out (by decide)),?_⟩
     have s3':=s3.mono (T':=Rng 1 8) fun u hu=>rng18 hu
     have bg:=(b2.stp kd).stp s3 (rng_out (by decide))
     refine st_T bg (by simp) fun ω4 w4 s4 b4=>?_
     have r4:=r3.stp s4 rfl rfl rfl
     have o4:=(od.stp s3 (rng_out (by decide))).stp s4 (beq_no (by decide))
     refine OS.at_ o4 (k:=0) (x:=a) rfl rfl fun p40 _ _ _ hc1=>cF_at hc1 (fb_at ?_)
     refine value_rd r4 hW fun V p5 b5 A5 B5 kn5 ω5 w5 hV hW5 hg5 s5 r5=>?_
     rw [xor_eq ha hV]
     refine fbits_at ?_
     have s5':=s5.mono (T':=Rng 1 8) fun u hu=>rng18 hu
     refine fin _ (a.2 ^^^ V) p5 A5 B5 kn5 b5 ω5 w5 (xor64_lt ha hV) hW5 (b4.stp s5 (rng_out (by decide))) (o4.stp s5 (rng_out (by decide))) ((((st2.trans (kd.non _)).trans s3').trans (s4.rng (by decide) (by decide))).trans s5') r5 fun x tail' hvx hr e=>?_
     have hxx:=wrong_zero hvx.inv.2.1
     have hav:=hvx.inv.1.mem a (List.mem_singleton.2 rfl)
     have hlt:a.1<x.1:=hxx.2.2.2 a rfl
     have ee:emit [a] (run [a]).2 x=(byteBits (putU (uN (x.1-a.1)))++(vform (run [a]).2 (x.2 ^^^ a.2)).1,(vform (run [a]).2 (x.2 ^^^ a.2)).2):=rfl
     rw [ee,List.append_assoc] at e
     obtain ⟨q1,q2,q3⟩:=hg (uN (x.1-a.1)) _ (uN_lt _) e
     obtain ⟨u1,u2,u3,u4⟩:=hg5 (run [a]).2 (x.2 ^^^ a.2) tail' (run_ok hvx.inv.1) hr (xor64_lt hvx.inv.2.2 ha) q2
     refine ⟨?_,u2,u3.trans q3,by rw [ee];exact u4⟩
     rw [q1,u1,xor_back]
     refine Prod.ext ?_ rfl
     have euN:((uN (x.1-a.1):Nat):Int)=x.1-a.1:=by unfold uN;omega
     show IntKind.i64.wrap (a.1+IntKind.i64.wrap ((uN (x.1-a.1):Nat):Int))=x.1
     rw [euN,wI64 (x:=x.1-a.1) (by omega) (by omega),wI64 (by omega) (by omega)]
     omega
    ·obtain ⟨b,a,r,hr⟩:∃ b a r,lst.reverse=b::a::r:=by
      rcases hr:lst.reverse with _ | ⟨b,_ | ⟨a,r⟩⟩
      ·have:=congrArg List.length hr;simp at this;exact absurd (by rw [this];rfl) h0
      ·have:=congrArg List.length hr;simp at this;exact absurd (by rw [this];rfl) h1
      ·exact ⟨b,a,r,rfl⟩
     have hll:lst=r.reverse++[a,b]:=by rw [← List.reverse_reverse lst,hr];simp
     have hlen:lst.length=r.length+2:=by rw [hll];simp
     have xa:lst[r.length]?=some a:=by rw [hll];simp
     have xb:lst[r.length+1]?=some b:=by rw [hll,List.getElem?_append_right (by simp)];simp
     have ha:=hx a (by rw [hll];simp)
     have hbv:=hx b (by rw [hll];simp)
     have kd:=drew_stp ω2 w2
     have od:=o2.stp kd
     have rd:=r2.non kd
     have bd:=b2.stp kd
     have std:=st2.trans (kd.non (Rng 1 8))
     rw [wI64 (x:=(lst.length:Int)-2) (by omega) (by omega),wI64 (x:=(lst.length:Int)-1) (by omega) (by omega)]
     refine OS.at_ od (k:=r.length) (by omega) xa fun p55 hp1 hp2 hc0 hc1=>cI_at hc0<|cF_at hc1 ?_
     refine OS.at_ od (k:=r.length+1) (by omega) xb fun p58 hq1 hq2 hd0 hd1=>cI_at hd0<|cF_at hd1 ?_
     -- the common end
     have tail:∀ (ga gb:Nat) ω3 w3,BT ω3 w3 7 ga 96 [.int .i64 a.1,.float .f64 a.2]→BT ω3 w3 8 gb 96 [.int .i64 b.1,.float .f64 b.2]→Stp (Rng 1 8) ω ω3 w w3→BT ω3 w3 6 g 96 [.int .i64 0,.float .f64 0]→OS ω3 w3 5 s lst→RdS ω3 w3 1 gd bs p1 A1 B1 kn1 b1 →
       G.cI .i64 ⟨gb,0,none⟩ w3.drew fun n69=>G.cI .i64 ⟨gb,0,none⟩ w3.drew fun n70=>G.cI .i64 ⟨ga,0,none⟩ w3.drew fun n71=>C.chunk_reader_time (wp gd) w3.drew fun n72 w73=>sameAt ⟨gb,0,none⟩ 1 w3.drew w73∧sameAt ⟨gb,0,none⟩ 1 w3.drew w73∧sameAt ⟨ga,0,none⟩ 1 w3.drew w73∧(G.st ⟨g,0,none⟩ (.int .i64 (IntKind.i64.wrap ((IntKind.i64.wrap (n69+(IntKind.i64.wrap (n70-n71))))+n72))) w73 fun w74=>G.cF .f64 (Addr.add ⟨gb,0,none⟩ 1) w74 fun f75=>C.math_Float64bits f75 w74 fun n76 w77=>C.chunk_reader_value (wp gd) w77 fun n78 w79=>C.math_Float64frombits (Go.bits .xor .u64 n76 n78) w79 fun f80 w81=>G.st (Addr.add ⟨g,0,none⟩ 1) (.float .f64 f80) w81 fun w82=>G.cI .i64 ⟨g,0,none⟩ w82 fun n83=>G.cF .f64 (Addr.add ⟨g,0,none⟩ 1) w82 fun f84=>G.new (.cells #[(.int .i64 n83),(.float .f64 f84)] 96) w82 fun p85 w86=>G.runSl Tryz.prog (Builtin.append_ #[52,52] 52 #[s.v,(Sl.v (⟨some p85,1,1⟩:Sl))]) w86 fun l87 w88=>X (wp gd) (n:Int) l87 (IntKind.i64.wrap ((lst.length:Int)+(1:Int))) w88):=by
      intro ga gb ω3 w3 Ba Bb st3 bg3 o3 r3
      have kd3:=drew_stp ω3 w3
      have Ba':=Ba.stp kd3
      have Bb':=Bb.stp kd3
      refine cI_at (n:=b.1) (by rw [Bb'.cell];rfl)<|cI_at (n:=b.1) (by rw [Bb'.cell];rfl)<|cI_at (n:=a.1) (by rw [Ba'.cell];rfl) ?_
      refine time_rd (r3.non kd3) fun D p4 b4 ω4 w4 hg4 s4 r4=>⟨Bb'.sameT s4 (rng_out (by decide)),Bb'.sameT s4 (rng_out (by decide)),Ba'.sameT s4 (rng_out (by decide)),?_⟩
      have s4':=s4.mono (T':=Rng 1 8) fun u hu=>rng18 hu
      refine st_T ((bg3.stp kd3).stp s4 (rng_out (by decide))) (by simp) fun ω5 w5 s5 b5=>?_
      have Bb5:=(Bb'.stp s4 (rng_out (by decide))).stp s5 (beq_no (by decide))
      have r5:=r4.stp s5 rfl rfl rfl
      have o5:=((o3.stp kd3).stp s4 (rng_out (by decide))).stp s5 (beq_no (by decide))
      refine cF_at (b:=b.2) (by rw [addr_add,Bb5.cell];rfl) (fb_at ?_)
      refine value_rd r5 hW fun V p6 b6 A6 B6 kn6 ω6 w6 hV hW6 hg6 s6 r6=>?_
      rw [xor_eq hbv hV]
      refine fbits_at ?_
      have s6':=s6.mono (T':=Rng 1 8) fun u hu=>rng18 hu
      refine fin _ (b.2 ^^^ V) p6 A6 B6 kn6 b6 ω6 w6 (xor64_lt hbv hV) hW6 (b5.stp s6 (rng_out (by decide))) (o5.stp s6 (rng_out (by decide))) (((((st3.trans (kd3.non _)).trans s4').trans (s5.rng (by decide) (by decide))).trans s6')) r6 fun x tail' hvx hr' e=>?_
      have hxx:=wrong_zero hvx.inv.2.1
      have hav:=hvx.inv.1.mem a (by rw [hll];simp)
      have hbv':=hvx.inv.1.mem b (by rw [hll];simp)
      have ee:emit lst (run lst).2 x=(tform (x.1-b.1-(b.1-a.1))++(vform (run lst).2 (x.2 ^^^ b.2)).1,(vform (run lst).2 (x.2 ^^^ b.2)).2):=by unfold emit;rw [hr]
      rw [ee,List.append_assoc] at e
      obtain ⟨q1,q2,q3⟩:=hg4 (x.1-b.1-(b.1-a.1)) _ (by omega) (by omega) e
      obtain ⟨u1,u2,u3,u4⟩:=hg6 (run lst).2 (x.2 ^^^ b.2) tail' (run_ok hvx.inv.1) hr' (xor64_lt hvx.inv.2.2 hbv) q2
      refine ⟨?_,u2,u3.trans q3,by rw [ee];exact u4⟩
      rw [q1,u1,xor_back]
      refine Prod.ext ?_ rfl
      show IntKind.i64.wrap (IntKind.i64.wrap (b.1+IntKind.i64.wrap (b.1-a.1))+(x.1-b.1-(b.1-a.1)))=x.1
      rw [wI64 (x:=b.1-a.1) (by omega) (by omega),wI64 (x:=b.1+(b.1-a.1)) (by omega) (by omega),wI64 (by omega) (by omega)]
      omega
     constructor
     ·refine new_T (ω:=ω2) 7 fun g1 ω3 w3 k3 b3=>?_
      refine ⟨same_stp k3 hp1 rfl,same_stp k3 hq1 rfl,?_⟩
      refine new_T (ω:=ω3) 8 fun g2 ω4 w4 k4 b4=>?_
      have k34:=k3.trans k4
      refine ⟨same_stp k34 hp1 rfl,same_stp k34 hq1 rfl,?_⟩
      refine st_T (b3.stp k4) (by simp) fun ω5 w5 s5 b5=>?_
      refine st_TA b5 (by simp) fun ω6 w6 s6 b6=>?_
      have s36:=(k34.non (Mem.One 7)).trans (s5.trans s6)
      refine ⟨same_stp s36 hq1 (by rw [hq2];rfl),?_⟩
      refine st_T ((b4.stp s5 rfl).stp s6 rfl) (by simp) fun ω7 w7 s7 b7=>?_
      refine st_TA b7 (by simp) fun ω8 w8 s8 b8=>?_
      have s78:=s7.trans s8
      exact tail g1 g2 ω8 w8 (b6.stp s78 rfl) b8 (((std.trans (s36.rng (by decide) (by decide))).trans (s78.rng (by decide) (by decide)))) ((bd.stp s36 rfl).stp s78 rfl) ((od.stp s36 rfl).stp s78 rfl) ((rd.stp s36 rfl rfl rfl).stp s78 rfl rfl rfl)
     ·refine new_T (ω:=ω2) 8 fun g2 ω3 w3 k3 b3=>?_
      refine ⟨same_stp k3 hp1 rfl,same_stp k3 hq1 rfl,?_⟩
      refine new_T (ω:=ω3) 7 fun g1 ω4 w4 k4 b4=>?_
      have k34:=k3.trans k4
      refine ⟨same_stp k34 hp1 rfl,same_stp k34 hq1 rfl,?_⟩
      refine st_T b4 (by simp) fun ω5 w5 s5 b5=>?_
      refine st_TA b5 (by simp) fun ω6 w6 s6 b6=>?_
      have s36:=(k34.non (Mem.One 7)).trans (s5.trans s6)
      refine ⟨same_stp s36 hq1 (by rw [hq2];rfl),?_⟩
      refine st_T (((b3.stp k4).stp s5 rfl).stp s6 rfl) (by simp) fun ω7 w7 s7 b7=>?_
      refine st_TA b7 (by simp) fun ω8 w8 s8 b8=>?_
      have s78:=s7.trans s8
      exact tail g1 g2 ω8 w8 (b6.stp s78 rfl) b8 (((std.trans (s36.rng (by decide) (by decide))).trans (s78.rng (by decide) (by decide)))) ((bd.stp s36 rfl).stp s78 rfl) ((od.stp s36 rfl).stp s78 rfl) ((rd.stp s36 rfl rfl rfl).stp s78 rfl rfl rfl)
   case _=>exact done s lst p1 A1 B1 kn1 b1 ω1 w1 (by omega) (.inr (by cases b1;cases hb;rfl)) o hx good st r
 refine key n nilS [] p A B kn false ω w (by simp) (fun h=>by rw [hkn] at h;cases h) (OT.nil _ _ _ _ _) (fun x hx=>by cases hx) (fun m tail _ _ e=>⟨rfl,by rw [e];rfl,rfl,hkn⟩) (Stp.refl _ _ _) h
end Go.Proofs.YtmfgmcajelmgbaaGreatDoor.Chunk

namespace Go.Proofs.YtmfgmcajelmgbaaGreatDoor.Chunk
open Go Vm Go.RowKit Num Mem Bits Vint
theorem low_inj {v v' k:Nat} {y y':List Bool} (hv:v<2 ^ k) (hv':v'<2 ^ k) (h:low v k++y=low v' k++y'):v=v'∧y=y':=by
 obtain ⟨h1,h2⟩:=List.append_inj h (by rw [low_len,low_len])
 exact ⟨by rw [← num_low hv,h1,num_low hv'],h2⟩
theorem putU_inj:∀ (f n n':Nat) (y y':List Bool),n<f→n'<f→byteBits (putU n)++y=byteBits (putU n')++y'→n=n'∧y=y'
 | 0,_,_,_,_,h,_,_=>by omega
 | f+1,n,n',y,y',hn,hn',h=>by
  rcases Nat.lt_or_ge n 128 with a | a<;>rcases Nat.lt_or_ge n' 128 with b | b
  ·rw [putU_lt a,putU_lt b,byteBits_one,byteBits_one,ofNat_val (by omega),ofNat_val (by omega),List.append_assoc,List.append_assoc] at h
   obtain ⟨h1,h2⟩:=low_inj (by omega) (by omega) h
   exact ⟨h1,h2⟩
  ·rw [putU_lt a,putU_ge (by omega),byteBits_one,byteBits_one,ofNat_val (by omega),ofNat_val (by omega),List.append_assoc,List.append_assoc] at h
   obtain ⟨h1,h2⟩:=low_inj (by omega) (by omega) h
   omega
  ·rw [putU_ge (by omega),putU_lt b,byteBits_one,byteBits_one,ofNat_val (by omega),ofNat_val (by omega),List.append_assoc,List.append_assoc] at h
   obtain ⟨h1,h2⟩:=low_inj (by omega) (by omega) h
   omega
  ·rw [putU_ge (n:=n) (by omega),putU_ge (n:=n') (by omega),byteBits_one,byteBits_one,ofNat_val (by omega),ofNat_val (by omega),List.append_assoc,List.append_assoc] at h
   have l1:n % 128+128<2 ^ 8:=by omega
   have l2:n' % 128+128<2 ^ 8:=by omega
   obtain ⟨h1,h2⟩:=low_inj l1 l2 h
   obtain ⟨h3,h4⟩:=putU_inj f (n / 128) (n' / 128) _ _ (by omega) (by omega) h2
   exact ⟨by omega,h4⟩
theorem ones_cls {c c':Nat} {z z':List Bool} (hc:c≤4) (hc':c'≤4) (h:List.replicate c true++((if c<4 then [false] else [])++z)=List.replicate c' true++((if c'<4 then [false] else [])++z')):c=c'∧z=z':=by
 match c,hc,c',hc' with
 | 0,_,0,_=>simpa using h
 | 0,_,1,_=>simp [List.replicate] at h
 | 0,_,2,_=>simp [List.replicate] at h
 | 0,_,3,_=>simp [List.replicate] at h
 | 0,_,4,_=>simp [List.replicate] at h
 | 1,_,0,_=>simp [List.replicate] at h
 | 1,_,1,_=>simpa [List.replicate] using h
 | 1,_,2,_=>simp [List.replicate] at h
 | 1,_,3,_=>simp [List.replicate] at h
 | 1,_,4,_=>simp [List.replicate] at h
 | 2,_,0,_=>simp [List.replicate] at h
 | 2,_,1,_=>simp [List.replicate] at h
 | 2,_,2,_=>simpa [List.replicate] using h
 | 2,_,3,_=>simp [List.replicate] at h
 | 2,_,4,_=>simp [List.replicate] at h
 | 3,_,0,_=>simp [List.replicate] at h
 | 3,_,1,_=>simp [List.replicate] at h
 | 3,_,2,_=>simp [List.replicate] at h
 | 3,_,3,_=>simpa [List.replicate] using h
 | 3,_,4,_=>simp [List.replicate] at h
 | 4,_,0,_=>simp [List.replicate] at h
 | 4,_,1,_=>simp [List.replicate] at h
 | 4,_,2,_=>simp [List.replicate] at h
 | 4,_,3,_=>simp [List.replicate] at h
 | 4,_,4,_=>simpa [List.replicate] using h
theorem tcls_zero {d:Int} (h:tcls d=0):d=0:=by
 rcases Int.decEq d 0 with h' | h'
 ·unfold tcls at h
  rw [if_neg h'] at h
  split at h
  ·omega
  ·split at h
   ·omega
   ·split at h<;>omega
 ·exact h'
theorem tform_inj {d d':Int} {y y':List Bool} (h1:-9223372036854775808≤d) (h2:d<9223372036854775808) (h1':-9223372036854775808≤d') (h2':d'<9223372036854775808) (h:tform d++y=tform d'++y'):d=d'∧y=y':=by
 rw [tform_cls,tform_cls] at h
 simp only [List.append_assoc] at h
 obtain ⟨hc,hz⟩:=ones_cls (tcls_le d) (tcls_le d') h
 unfold tbody at hz
 rw [← hc] at hz
 have h64:tw (tcls d)≤64:=by
  have:∀ i:Fin 5,tw i.val≤64:=by decide
  exact this ⟨tcls d,by have:=tcls_le d;omega⟩
 obtain ⟨e,hy⟩:=low_inj (lowN_lt2 d h64) (lowN_lt2 d' h64) hz
 refine ⟨?_,hy⟩
 rcases Nat.eq_zero_or_pos (tcls d) with h0 | h0
 ·have h0':tcls d'=0:=by rw [← hc];exact h0
  rw [tcls_zero h0,tcls_zero h0']
 ·rcases Nat.lt_or_ge (tcls d) 4 with h4 | h4
  ·have f:=tcls_fits (d:=d) (by omega) h4
   have f':=tcls_fits (d:=d') (by omega) (by omega)
   rw [← hc] at f'
   have hw:0<tw (tcls d)∧tw (tcls d)≤56:=by
    have:∀ i:Fin 4,0<i.val→0<tw i.val∧tw i.val≤56:=by decide
    exact this ⟨tcls d,h4⟩ h0
   rcases says hw.1 hw.2 f with ⟨a1,a2⟩ | ⟨a1,a2⟩<;>rcases says hw.1 hw.2 f' with ⟨b1,b2⟩ | ⟨b1,b2⟩<;>rw [e] at a1 a2<;>omega
  ·have:tcls d=4:=by have:=tcls_le d;omega
   rw [this] at e
   have u:∀ x:Int,lowN x (tw 4)=uN x:=fun x=>by unfold lowN tw;rfl
   rw [u,u] at e
   unfold uN at e
   omega
theorem vform_inj {wn:Win} (hw:WinOk wn) {x x':Nat} {y y':List Bool} (hx:x<18446744073709551616) (hx':x'<18446744073709551616) (h:(vform wn x).1++y=(vform wn x').1++y'):x=x'∧y=y':=by
 have no:∀ {z z':List Bool},low 0 1++z=low 1 1++z'→False:=fun h=>by have:=(low_inj (by decide) (by decide) h).1;omega
 rcases vform_cases wn x with ⟨h0,e⟩ | ⟨h0,a,b,w1,ha,hb,e⟩ | ⟨h0,e⟩<;>rcases vform_cases wn x' with ⟨h0',e'⟩ | ⟨h0',a',b',w1',ha',hb',e'⟩ | ⟨h0',e'⟩<;>rw [e,e'] at h<;>simp only [List.append_assoc] at h
 ·exact ⟨by omega,(low_inj (by decide) (by decide) h).2⟩
 ·exact (no h).elim
 ·exact (no h).elim
 ·exact (no h.symm).elim
 ·rw [w1] at w1'
  simp only [Option.some.injEq,Prod.mk.injEq] at w1'
  obtain ⟨rfl,rfl⟩:=w1'
  obtain ⟨c1,c2⟩:=hw a b w1
  obtain ⟨_,h⟩:=low_inj (by decide) (by decide) h
  obtain ⟨_,h⟩:=low_inj (by decide) (by decide) h
  obtain ⟨q,h⟩:=low_inj (mid_lt hx ha (by omega)) (mid_lt hx' ha' (by omega)) h
  refine ⟨?_,h⟩
  rw [← mul_div_trail hx h0 hb,q,mul_div_trail hx' h0' hb']
 ·obtain ⟨_,h⟩:=low_inj (by decide) (by decide) h
  exact (no h).elim
 ·exact (no h.symm).elim
 ·obtain ⟨_,h⟩:=low_inj (by decide) (by decide) h
  exact (no h.symm).elim
 ·have l1:=lead_le x
  have l2:=lead_le x'
  have t1:=lead_trail hx h0
  have t2:=lead_trail hx' h0'
  obtain ⟨_,h⟩:=low_inj (by decide) (by decide) h
  obtain ⟨_,h⟩:=low_inj (by decide) (by decide) h
  obtain ⟨q1,h⟩:=low_inj (by omega) (by omega) h
  obtain ⟨q2,h⟩:=low_inj (by omega) (by omega) h
  have q3:trail x=trail x':=by omega
  rw [← q1,← q3] at h
  have m1:=mid_lt hx (Nat.le_refl (lead x)) (b:=trail x) (by omega)
  have m2:=mid_lt hx' (Nat.le_refl (lead x')) (b:=trail x') (by omega)
  rw [← q1,← q3] at m2
  obtain ⟨q,h⟩:=low_inj m1 m2 h
  refine ⟨?_,h⟩
  have:=mul_div_trail hx' h0' (Nat.le_refl (trail x'))
  rw [← q3] at this
  rw [← mul_div_trail hx h0 (Nat.le_refl (trail x)),q,this]
theorem xor_cancel {a b c:Nat} (h:a ^^^ c=b ^^^ c):a=b:=by
 have:=congrArg (· ^^^ c) h
 simp only [Nat.xor_assoc,Nat.xor_self,Nat.xor_zero] at this
 exact this
theorem emit_inj {l:List Smp} {s s':Smp} {y y':List Bool} (h:Valid (l++[s])) (h':Valid (l++[s'])) (e:(emit l (run l).2 s).1++y=(emit l (run l).2 s').1++y'):s=s'∧y=y':=by
 obtain ⟨v,ws,hs⟩:=h.inv
 obtain ⟨_,ws',hs'⟩:=h'.inv
 have b:=wrong_zero ws
 have b':=wrong_zero ws'
 have wok:=run_ok v
 generalize (run l).2=wn at *
 rcases hr:l.reverse with _ | ⟨c,_ | ⟨a,r⟩⟩
 ·obtain rfl:l=[]:=List.reverse_eq_nil_iff.1 hr
  have ee:∀ s:Smp,emit [] wn s=(byteBits (putU (zz s.1))++low s.2 64,wn):=fun _=>rfl
  rw [ee,ee] at e
  simp only [List.append_assoc] at e
  obtain ⟨q1,e⟩:=putU_inj 18446744073709551616 _ _ _ _ (zz_lt50 b.1 b.2.1) (zz_lt50 b'.1 b'.2.1) e
  obtain ⟨q2,e⟩:=low_inj hs hs' e
  refine ⟨Prod.ext ?_ q2,e⟩
  rw [← bk_zz s.1,q1,bk_zz]
 ·have hll:l=[c]:=by rw [← List.reverse_reverse l,hr];rfl
  subst hll
  have ee:∀ s:Smp,emit [c] wn s=(byteBits (putU (uN (s.1-c.1)))++(vform wn (s.2 ^^^ c.2)).1,(vform wn (s.2 ^^^ c.2)).2):=fun _=>rfl
  rw [ee,ee] at e
  simp only [List.append_assoc] at e
  have hc:=v.mem c (List.mem_singleton.2 rfl)
  obtain ⟨q1,e⟩:=putU_inj 18446744073709551616 _ _ _ _ (uN_lt _) (uN_lt _) e
  obtain ⟨q2,e⟩:=vform_inj wok (xor64_lt hs hc.2.2) (xor64_lt hs' hc.2.2) e
  refine ⟨Prod.ext ?_ (xor_cancel q2),e⟩
  unfold uN at q1
  omega
 ·have hc:=v.mem c (by rw [← List.mem_reverse,hr];simp)
  have ha:=v.mem a (by rw [← List.mem_reverse,hr];simp)
  have ee:∀ s:Smp,emit l wn s=(tform (s.1-c.1-(c.1-a.1))++(vform wn (s.2 ^^^ c.2)).1,(vform wn (s.2 ^^^ c.2)).2):=fun s=>by unfold emit;rw [hr]
  rw [ee,ee] at e
  simp only [List.append_assoc] at e
  obtain ⟨q1,e⟩:=tform_inj (by omega) (by omega) (by omega) (by omega) e
  obtain ⟨q2,e⟩:=vform_inj wok (xor64_lt hs hc.2.2) (xor64_lt hs' hc.2.2) e
  exact ⟨Prod.ext (by omega) (xor_cancel q2),e⟩
theorem run_free {l m:List Smp} (hl:Valid l) (hm:Valid m) (hn:l.length=m.length) {y y':List Bool} (e:(run l).1++y=(run m).1++y'):l=m:=by
 have key:∀ i,i≤l.length→l.take i=m.take i:=by
  intro i
  induction i with
  | zero=>intro _;rfl
  | succ i ih =>
   intro hi
   have h:=ih (by omega)
   have him:i<m.length:=by omega
   have tl:l.take (i+1)=l.take i++[l[i]]:=by rw [List.take_add_one,List.getElem?_eq_getElem (by omega)];rfl
   have tm:m.take (i+1)=m.take i++[m[i]]:=by rw [List.take_add_one,List.getElem?_eq_getElem him];rfl
   have pre:∀ {q:List Smp},Valid q→∀ j,Valid (q.take j):=fun {q} h j=>by
    rw [← List.take_append_drop j q] at h;exact h.pre
   obtain ⟨R,hR⟩:=run_pre (m:=l) (l.length-(i+1)) (i+1) (by omega)
   obtain ⟨R',hR'⟩:=run_pre (m:=m) (m.length-(i+1)) (i+1) (by omega)
   have v1:=pre hl (i+1)
   have v2:=pre hm (i+1)
   rw [tl] at hR v1
   rw [tm,← h] at hR' v2
   rw [run_snoc] at hR hR'
   rw [hR,hR'] at e
   simp only [List.append_assoc] at e
   have:=(emit_inj v1 v2 (List.append_cancel_left e)).1
   rw [tl,tm,h,this]
 have:=key l.length (Nat.le_refl _)
 rw [List.take_length,hn,List.take_length] at this
 exact this
theorem enc_free {l m:List Smp} (hl:Valid l) (hm:Valid m) {x:List UInt8} (e:enc l=enc m++x):l=m:=by
 unfold enc at e
 simp only [List.cons_append,List.cons.injEq] at e
 obtain ⟨e1,e2,e3⟩:=e
 have n1:=hl.len
 have n2:=hm.len
 have e2':=congrArg UInt8.toNat e2
 rw [ofNat_val (by omega),ofNat_val (by omega)] at e2'
 obtain ⟨a,ha⟩:=byteBits_pk (run l).1
 obtain ⟨b,hb⟩:=byteBits_pk (run m).1
 have:=congrArg byteBits e3
 rw [byteBits_app,ha,hb,List.append_assoc] at this
 exact run_free hl hm (by omega) this
end Go.Proofs.YtmfgmcajelmgbaaGreatDoor.Chunk

namespace Go.Proofs.YtmfgmcajelmgbaaGreatDoor.Mem
open Go Vm Go.RowKit Num
variable {T : Nat → Bool} {ω ω' : Tg} {w w' w0 : World} {t : Nat}
theorem put_stp {g:Nat} {o:Obj} (ht:ω g=t):Stp (One t) ω ω w (w.putObj g o) :=
 ⟨rfl,rfl,rfl,by simp [World.putObj],fun _ _=>rfl,fun k _ hT=>World.putObj_heap_other fun e=>by subst e;rw [ht,one_self] at hT;cases hT⟩
theorem Stp.obj (s:Stp T ω ω' w w') {g:Nat} {o:Obj} (h:w.heap[g]?=some o) (ht:ω g=t) (ne:T t=false):w'.heap[g]?=some o∧ω' g=t :=
 ⟨by rw [s.block g (heap_lt h) (by rw [ht];exact ne)];exact h,(s.same g (heap_lt h)).trans ht⟩
theorem isB_at {b:Bool} {K:Bool→Prop} (h:K b):G.isB (.bool b) K:=h
theorem marks_at {D:Nat} {w:World} {K:World→Prop} (h:w.heap[D]?=some (.deferred (some []))) (hK:K (w.putObj D (.deferred none))):G.marks (pushMark undef D) w K:=by
 show G.marks (.agg ⟨[.int .i64 (D:Int)]⟩) w K
 exact ⟨h,hK⟩
theorem OT.from {e:TypeId} {sz:Nat} {s:Sl} {xs:List Value} (h:OT ω w t e sz s xs) (top:Top w0 ω w) (ht:t≠0):Own w w0.heap.size e sz s xs:=by
 obtain ⟨hl,ho⟩:=h.own
 refine ⟨hl,ho.imp_right fun ⟨g,cap,cur,hv,hg,r⟩=>⟨g,cap,cur,hv,?_,r⟩⟩
 have:=h.tag g (by rw [hv];rfl)
 rcases Nat.lt_or_ge g w0.heap.size with hlt | hge
 ·exact absurd (this.symm.trans (top.z g hlt)) ht
 ·exact hge
end Go.Proofs.YtmfgmcajelmgbaaGreatDoor.Mem

namespace Go.Proofs.YtmfgmcajelmgbaaGreatDoor.Chunk
open Go Vm Go.RowKit Num Mem Bits Vint
variable {ω ω' : Tg} {w w' w0 : World} {bs : List UInt8}
theorem bits_or64 {x y:Nat} (hx:x<18446744073709551616) (hy:y<18446744073709551616):Go.bits .or .i64 (x:Int) (y:Int)=IntKind.i64.wrap ((x ||| y:Nat):Int):=by
 have e:(BitVec.ofNat 64 x ||| BitVec.ofNat 64 y).toNat=x ||| y:=by
  rw [BitVec.toNat_or,BitVec.toNat_ofNat,BitVec.toNat_ofNat,Nat.mod_eq_of_lt (by omega),Nat.mod_eq_of_lt (by omega)]
 unfold Go.bits
 simp only [ofInt_nat]
 exact congrArg (fun t:Nat=>IntKind.i64.wrap (t:Int)) e
theorem head2 {x y:Nat} (hx:x<256) (hy:y<256):Go.bits .or .i64 (shl .i64 (IntKind.i64.wrap (x:Int)) (8:Int)) (IntKind.i64.wrap (y:Int))=((x*256+y:Nat):Int):=by
 have e:=shl_nat .i64 (x:Int) 8 (by decide)
 rw [show ((8:Nat):Int)=(8:Int) from rfl,show (x:Int)*2 ^ 8=((x*256:Nat):Int) by omega,wI64 (by omega) (by omega)] at e
 rw [wI64 (x:=(x:Int)) (by omega) (by omega),wI64 (x:=(y:Int)) (by omega) (by omega),e,bits_or64 (by omega) (by omega)]
 have:=Nat.two_pow_add_eq_or_of_lt (b:=y) (i:=8) hy x
 rw [show x*256=2 ^ 8*x by omega,← this,wI64 (by omega) (by omega)]
theorem enc_bits {l:List Smp} (hl:Valid l) {a b:UInt8} {q:List UInt8} (e:a::b::q=enc l):a.toNat*256+b.toNat=l.length∧q=pk (run l).1∧∃ m,rest q 0=(run l).1++List.replicate m false:=by
 unfold enc at e
 simp only [List.cons.injEq] at e
 obtain ⟨rfl,rfl,rfl⟩:=e
 have:=hl.len
 obtain ⟨m,hm⟩:=byteBits_pk (run l).1
 refine ⟨?_,rfl,m,hm⟩
 rw [ofNat_val (by omega),ofNat_val (by omega)];omega
theorem enc_small {l:List Smp} (hl:Valid l):(enc l).length≤3000:=by
 have:=hl.len
 have:=run_len hl
 rw [enc_len];omega
theorem decode_ok (hT:DTab w0) {b:Sl} (hb:RdB w0 b bs) {K:Sl→Int→World→Prop}
  (hE:(∀ l,Valid l→bs≠enc l)→∀ w',Keep w0 w'→K nilS 3 w')
  (hK:∀ l,Valid l→bs=enc l→∀ r w',Keep w0 w'→Mem.Own w' w0.heap.size 96 2 r (smps l)→K r 0 w'):C.chunk_Decode b w0 K:=by
 have hn:=hb.len
 unfold C.chunk_Decode
 refine cond_d (fun h=>hE (fun l _ e=>?_) w0 (Keep.refl w0)) (fun h=>?_)
 ·have:=enc_len l
  rw [← e] at this
  omega
 obtain ⟨x,y,q,rfl⟩:∃ x y q,bs=x::y::q:=by
  rcases bs with _ | ⟨x,_ | ⟨y,q⟩⟩
  ·simp at hn;omega
  ·simp at hn;omega
  ·exact ⟨x,y,q,rfl⟩
 have kd:=Keep.drew w0
 have hx:=x.toNat_lt
 have hy:=y.toNat_lt
 have hlen:(x::y::q).length=q.length+2:=rfl
 refine RdB.ati hb.drew (k:=0) rfl (by omega) ⟨by decide,?_⟩
 refine RdB.ati hb.drew (k:=1) rfl (by omega) ?_
 refine RdB.slc hb (lo:=2) (hi:=q.length+2) (by omega) (by omega) rfl (by omega) fun r hr=>?_
 have eq:((x::y::q).drop 2).take (q.length+2-2)=q:=by simp
 rw [eq] at hr
 have hrn:=hr.len
 have e2:Go.bits .or .i64 (shl .i64 (IntKind.i64.wrap (((x::y::q)[0]).toNat:Int)) (8:Int)) (IntKind.i64.wrap (((x::y::q)[1]).toNat:Int))=((x.toNat*256+y.toNat:Nat):Int):=head2 hx hy
 rw [e2]
 refine cond_d (fun h1=>hE (fun l hl e=>?_) _ kd) (fun h1=>cond_d (fun h2=>hE (fun l hl e=>?_) _ kd) (fun h2=>?_))
 ·obtain ⟨q1,_⟩:=enc_bits hl e
  have:=hl.len
  omega
 ·have:=enc_small hl
  rw [← e] at this
  omega
 refine newRdr_ok (ω:=fun _=>0) hr.drew (by omega) 2 (by rw [wI64 (by omega) (by omega)];omega) fun gr ω2 w2 s2 r2=>?_
 refine new_T (ω:=ω2) 1 fun gd ω3 w3 k3 b3=>?_
 have top3:=((Top.init w0).stp ((drew_stp _ w0).trans s2)).stp k3
 refine samples_ok (A:=0) (B:=0) (kn:=false) (n:=x.toNat*256+y.toNat) ⟨gr,b3,r2.stp k3⟩ rfl (by omega) fun s lst p' A' B' kn' bad' ω4 w4 o4 hv4 hl4 good s4 r4=>?_
 have top4:=top3.stp s4
 have isl:∀ l,Valid l→x::y::q=enc l→lst=l∧bad'=false:=fun l hl e=>by
  obtain ⟨q1,_,m,hm⟩:=enc_bits hl e
  exact good l _ hl q1.symm hm
 have fail:(∀ l,Valid l→x::y::q=enc l→False)→∀ w',Keep w0 w'→K nilS 3 w':=fun h=>hE fun l hl e=>h l hl e
 refine encode_ok (hT.keep top4.k) o4.rd hv4 (by omega) (fun hf w5 k5=>?_) (fun hf hval a w5 k5 o5=>?_)
 ·have k05:=Keep.trans top4.k k5
  have no:=fail (fun l hl e=>by
   obtain ⟨u1,_⟩:=isl l hl e
   subst u1
   exact hf (by rw [firstW_zero _ [] 0 hl])) w5 k05
  obtain ⟨gr5,b5,_⟩:=r4.ex
  refine cB_at (b:=bad') (Keep.cell k5 (by rw [addr_add,b5.cell];rfl)) ?_
  exact cond_of (fun _=>no) (fun _=>cond_t (by simp;exact hf) no)
 ·have k05:=Keep.trans top4.k k5
  obtain ⟨gr5,b5,_⟩:=r4.ex
  refine cB_at (b:=bad') (Keep.cell k5 (by rw [addr_add,b5.cell];rfl)) ?_
  refine cond_of (fun hbad=>fail (fun l hl e=>?_) w5 k05) (fun hbad=>cond_f rfl ?_)
  ·obtain ⟨_,u2⟩:=isl l hl e
   rw [u2] at hbad;cases hbad
  refine convBS o5.rd (convBS (hb.keep k05) ?_)
  rw [str_toList,str_toList]
  refine cond_of (fun hne=>fail (fun l hl e=>?_) w5 k05) (fun heq=>?_)
  ·obtain ⟨u1,_⟩:=isl l hl e
   subst u1
   rw [e] at hne
   simp at hne
  ·have e:enc lst=x::y::q:=by simpa using heq
   exact hK lst hval e.symm s w5 k05 ((o4.from top4 (by decide)).keep k5)
end Go.Proofs.YtmfgmcajelmgbaaGreatDoor.Chunk

namespace Go.Proofs.YtmfgmcajelmgbaaGreatDoor.Chunk
open Go Vm Go.RowKit Num Mem Bits Vint
variable {ω ω' : Tg} {w w' w0 : World} {t gc : Nat} {l : List Smp}
structure CkR (w:World) (c:Option Addr) (sl:Sl) (l:List Smp):Prop where
 ex:(c=none∧l=[])∨∃ gc,c=wp gc∧w.cell? ⟨gc,0,none⟩=some (Sl.v sl)∧Rd w sl 2 (smps l)
 len:l.length≤1000
theorem CkT.r (h:CkT ω w t gc l):∃ sl,CkR w (wp gc) sl l:=by
 have hlen:=h.ok.len
 obtain ⟨gw,sl,hs⟩:=h.ex
 exact ⟨sl,.inr ⟨gc,rfl,by rw [hs.blk.cell];rfl,hs.own.rd⟩,by omega⟩
theorem CkR.keep {c:Option Addr} {sl:Sl} (h:CkR w c sl l) (k:Keep w w'):CkR w' c sl l :=
 ⟨h.ex.imp_right fun ⟨gc,e,h0,h1⟩=>⟨gc,e,k.cell h0,h1.keep k⟩,h.len⟩
def lastS (l:List Smp):Smp:=(l.getLast?).getD (0,0)
end Go.Proofs.YtmfgmcajelmgbaaGreatDoor.Chunk
