/- (several texts in one: VoR,VoT,BkP,RowT,SortG,Maps,MapV,VintX,ChunkG,ChunkG5,ChunkM,ChunkG6,ChunkG7,VbR,VbT,BkA,BkB,BkC,BkQ,BkF,MapL,Rtg) Own work. -/
import Derived.Laws.CopyRow
import Derived.Laws.IdiomCopy
import Derived.WideMake
import Derived.RangeFuncRecord
import Derived.Maps.RangeRun
import Derived.Lib.SlBytesConst
import Derived.Lib.ValidAsc
import Derived.WideKeyEntry
import Derived.DeepKeys3
import Derived.Test.YtmfgmcajelmgbaaGreatDoorPC5
namespace Go.Proofs.YtmfgmcajelmgbaaGreatDoor.Vint
open Go Vm Go.RowKit Num Mem Crc
def Tab (w:World):Prop:=∀ i,i<16→w.cell? ⟨1,i,none⟩=some (.int .u32 ((tab.getD i 0#32).toNat:Int))
theorem Tab.lt {w:World} (h:Tab w):1<w.heap.size:=cell_lt (h 0 (by decide))
theorem Tab.keep {w w':World} (h:Tab w) (k:Keep w w'):Tab w':=fun i hi=>k.cell (h i hi)
theorem tab_at {w:World} (ht:Tab w) {x:B32} (hx:x.toNat<16) {K:Int→Prop} (hK:K ((tab.getD x.toNat 0#32).toNat:Int)) :
  G.ix (some ⟨1,0,none⟩) 16 (x.toNat:Int) 1 fun p=>G.cI .u32 p w K:=by
 refine ⟨⟨by omega,by exact_mod_cast hx⟩,_,?_,hK⟩
 rw [addr_add,Int.toNat_natCast,Nat.mul_one,Nat.zero_add]
 exact ht _ hx
theorem byte32 (c:UInt8):IntKind.u32.wrap (c.toNat:Int)=((BitVec.ofNat 32 c.toNat).toNat:Int):=by
 have:=c.toNat_lt
 rw [wU32_id (by omega) (by omega),BitVec.toNat_ofNat,Nat.mod_eq_of_lt (by omega)]
theorem shr32_4 (a:B32):shr .u32 (a.toNat:Int) (4:Int)=((a >>> 4).toNat:Int):=shr32 a 4 (by decide)
theorem and32_15 (a:B32):Go.bits .and .u32 (a.toNat:Int) (15:Int)=((a &&& 15#32).toNat:Int):=and32 a 15#32
theorem not32' (a:B32):Go.bits .xor .u32 (notK .u32) (a.toNat:Int)=((~~~a).toNat:Int):=by
 rw [not32,xor32]
 congr 2
theorem on_ok {w:World} {b:Sl} {l:List UInt8} (ht:Tab w) (hb:RdB w b l) (hl:l.length≤140737488355328) (s:B32) {K:Int→World→Prop} (hK:K ((crcOn s l).toNat:Int) w) :
  C.vint_On (s.toNat:Int) b w K:=by
 unfold C.vint_On C.vint_On.S9
 rw [not32']
 refine C.vint_On.L5_ind fun X hX=>?_
 have hn:=hb.len
 have key:∀ (d k:Nat) (r:B32),d+k=l.length→crc r (l.drop k)=crc (~~~s) l→X (r.toNat:Int) b ((b.n:Nat):Int) (k:Int) w:=by
  intro d
  induction d with
  | zero =>
   intro k r hk hr
   refine hX _ _ _ _ _ ?_
   unfold C.vint_On.S7 C.vint_On.S2
   refine cond_d (fun h=>by omega) (fun _=>?_)
   rw [List.drop_of_length_le (by omega)] at hr
   rw [not32']
   have:r=crc (~~~s) l:=hr
   rw [this]
   exact hK
  | succ d ih =>
   intro k r hk hr
   have hlt:k<l.length:=by omega
   refine hX _ _ _ _ _ ?_
   unfold C.vint_On.S7
   refine cond_d (fun _=>?_) (fun h=>by omega)
   refine hb.at_ hlt ?_
   refine ⟨by decide,?_⟩
   rw [byte32,xor32,and32_15]
   refine tab_at ht (low_lt _) ?_
   refine ⟨by decide,?_⟩
   rw [shr32_4,xor32,← steps4,and32_15]
   refine tab_at ht (low_lt _) ?_
   rw [shr32_4,xor32,← steps4,← steps8,wI64 (by omega) (by omega)]
   refine ih (k+1) _ (by omega) ?_
   rw [← hr,List.drop_eq_getElem_cons hlt]
   rfl
 exact key l.length 0 (~~~s) (by omega) (by simp)
theorem sum_ok {w:World} {b:Sl} {l:List UInt8} (ht:Tab w) (hb:RdB w b l) (hl:l.length≤140737488355328) {K:Int→World→Prop} (hK:K ((crcOn 0#32 l).toNat:Int) w):C.vint_Sum b w K:=by
 unfold C.vint_Sum
 exact on_ok ht hb hl 0#32 hK
theorem RdB.nil (w:World):RdB w nilS []:=Rd.nil w 1
def uvGo (at0:Nat):List UInt8→Nat→Nat→Nat × Nat × Nat
 | [],_,_=>(0,0,9)
 | c::t,i,n =>
  if i=9∧1<c.toNat then (0,0,7) else
  if c.toNat=0∧0<i then (0,0,3) else
  if c.toNat<128 then (n+c.toNat % 128*128 ^ i,at0+i+1,0) else uvGo at0 t (i+1) (n+c.toNat % 128*128 ^ i)
def uv (l:List UInt8) (at':Int):Nat × Nat × Nat :=
 if at'<0∨at' > l.length then (0,0,1) else uvGo at'.toNat (l.drop at'.toNat) 0 0
theorem orStep {n x i:Nat} {X Y:Int} (hi:i≤9) (hn:n<128 ^ i) (hx:x<128) (h9:i=9→x≤1) (hX:X=(x:Int)) (hY:Y=((7*i:Nat):Int)) :
  Go.bits .or .u64 (n:Int) (shl .u64 X Y)=((n+x*128 ^ i:Nat):Int)∧n+x*128 ^ i<128 ^ (i+1)∧n+x*128 ^ i<18446744073709551616:=by
 subst hX hY
 have e:(128:Nat) ^ i=2 ^ (7*i):=by rw [Nat.pow_mul]
 have hb:n+x*128 ^ i<128 ^ (i+1):=by
  rw [Nat.pow_succ,Nat.mul_comm (128 ^ i)]
  have:(x+1)*128 ^ i≤128*128 ^ i:=Nat.mul_le_mul_right _ hx
  rw [Nat.add_mul] at this;omega
 have hlt:n+x*128 ^ i<18446744073709551616:=by
  rcases Nat.lt_or_ge i 9 with h | h
  ·have:(128:Nat) ^ (i+1)≤128 ^ 9:=Nat.pow_le_pow_right (by decide) (by omega)
   have h9:(128:Nat) ^ 9<18446744073709551616:=by decide +kernel
   generalize (128:Nat) ^ 9=q at *
   omega
  ·have:i=9:=by omega
   subst this
   have hx1:=h9 rfl
   have h1:x*128 ^ 9≤1*128 ^ 9:=Nat.mul_le_mul_right _ hx1
   have h2:(128:Nat) ^ 9=9223372036854775808:=by decide +kernel
   rw [h2] at *
   omega
 refine ⟨?_,hb,hlt⟩
 have hs:=shl_nat .u64 (x:Int) (7*i) (by simp [IntKind.bits];omega)
 rw [hs,show (x:Int)*2 ^ (7*i)=((x*128 ^ i:Nat):Int) by rw [e];simp,wU64_id (by omega) (by omega),
  bits_or rfl (by simp only [IntKind.bits];omega) (by simp only [IntKind.bits];omega)]
 congr 1
 rw [e,Nat.mul_comm x,Nat.or_comm,Nat.add_comm]
 exact (Nat.two_pow_add_eq_or_of_lt (by rw [← e];exact hn) x).symm
theorem and127 (c:UInt8):IntKind.u64.wrap (Go.bits .and .u8 (c.toNat:Int) (127:Int))=((c.toNat % 128:Nat):Int):=by
 have hc:=c.toNat_lt
 rw [show (127:Int)=((127:Nat):Int) from rfl,bits_and rfl (by simp only [IntKind.bits];omega) (by decide),
  show c.toNat &&& 127=c.toNat % 128 from Nat.and_two_pow_sub_one_eq_mod c.toNat 7,wU64_id (by omega) (by omega)]
theorem uTail {c i:Int} {A T:Prop} (hA:c=0→i > 0→A) (hT:¬ (c=0∧i > 0)→T):G.cond (decide (c<128)) (G.cond (c==0) (G.cond (decide (i > 0)) A T) T) T :=
 cond_d (fun _=>cond_eq (fun h=>cond_d (hA h) (fun h'=>hT fun x=>h' x.2)) (fun h=>hT fun x=>h x.1)) (fun h=>hT fun x=>h (by omega))
theorem uHead {c i:Int} {E T:Prop} (hE:i=9→c > 1→E) (hT:¬ (i=9∧c > 1)→T):G.cond (i==9) (G.cond (decide (c > 1)) E T) T :=
 cond_eq (fun h=>cond_d (hE h) (fun h'=>hT fun x=>h' x.2)) (fun h=>hT fun x=>h x.1)
set_option maxRecDepth 4000 in
theorem u_ok {w:World} {b:Sl} {l:List UInt8} (hb:RdB w b l) (hl:l.length≤140737488355328) (at':Int) {K:Int→Int→Int→World→Prop}
  (hK:K ((uv l at').1:Int) ((uv l at').2.1:Int) ((uv l at').2.2:Int) w):C.vint_U b at' w K:=by
 have hn:=hb.len
 unfold C.vint_U
 unfold uv at hK
 refine cond_d (fun h=>?_) (fun h0=>cond_d (fun h=>?_) (fun h1=>?_))
 ·rw [if_pos (.inl h)] at hK;exact hK
 ·rw [if_pos (.inr (by omega))] at hK;exact hK
 rw [if_neg (by omega)] at hK
 obtain ⟨p,rfl⟩:∃ p:Nat,at'=(p:Int):=⟨at'.toNat,by omega⟩
 rw [Int.toNat_natCast] at hK
 refine C.vint_U.L3_ind fun X hX=>?_
 have key:∀ (t:List UInt8) (i n:Nat),t=l.drop (p+i)→p+i≤l.length→i≤9→n<128 ^ i →
   K ((uvGo p t i n).1:Int) ((uvGo p t i n).2.1:Int) ((uvGo p t i n).2.2:Int) w→X b (p:Int) (n:Int) (i:Int) w:=by
  intro t
  induction t with
  | nil =>
   intro i n ht hp hi hn1 hK
   have:l.length≤p+i:=by
    rcases Nat.lt_or_ge (p+i) l.length with h | h
    ·rw [List.drop_eq_getElem_cons h] at ht;cases ht
    ·exact h
   refine hX _ _ _ _ _ ?_
   unfold C.vint_U.S5
   rw [wI64 (by omega) (by omega)]
   exact cond_d (fun _=>hK) (fun h=>by omega)
  | cons c t ih =>
   intro i n ht hp hi hn1 hK
   have hlt:p+i<l.length:=by
    rcases Nat.lt_or_ge (p+i) l.length with h | h
    ·exact h
    ·rw [List.drop_of_length_le h] at ht;cases ht
   rw [List.drop_eq_getElem_cons hlt] at ht
   injection ht with hc ht
   refine hX _ _ _ _ _ ?_
   unfold C.vint_U.S5
   rw [wI64 (x:=(p:Int)+(i:Int)) (by omega) (by omega)]
   refine cond_d (fun h=>by omega) (fun _=>?_)
   refine hb.ati (k:=p+i) (by omega) hlt ?_
   rw [← hc]
   rw [uvGo] at hK
   refine uHead (fun h h'=>?_) (fun hne=>?_)
   ·rw [if_pos (by omega)] at hK;exact hK
   rw [if_neg (by omega)] at hK
   refine uTail (T:=G.nn _ _) (fun h h'=>?_) (fun hne'=>?_)
   ·rw [if_pos (by omega)] at hK;exact hK
   rw [if_neg (by omega)] at hK
   rw [wI64 (x:=(7:Int)*(i:Int)) (by omega) (by omega)]
   refine ⟨by omega,?_⟩
   have eq:=orStep (x:=c.toNat % 128) hi hn1 (Nat.mod_lt _ (by decide)) (fun h=>by omega) (and127 c) (Y:=(7:Int)*(i:Int)) (by omega)
   have e:=eq.1
   have q1:=eq.2.1
   rw [e]
   refine cond_d (fun h=>?_) (fun h=>?_)
   ·rw [if_pos (by omega)] at hK
    rw [wI64 (by omega) (by omega)]
    exact hK
   ·rw [if_neg (by omega)] at hK
    rw [wI64 (x:=(i:Int)+1) (by omega) (by omega)]
    refine ih (i+1) _ (by rw [ht];congr 1) (by omega) ?_ q1 hK
    rcases Nat.lt_or_ge i 9 with h9 | h9
    ·omega
    ·have:=c.toNat_lt;omega
 exact key _ 0 0 (by simp) (by omega) (by omega) (by decide) hK
def le4 (s:B32):List UInt8:=[u8 (s.toNat:Int),u8 (shr .u32 (s.toNat:Int) (8:Int)),u8 (shr .u32 (s.toNat:Int) (16:Int)),u8 (shr .u32 (s.toNat:Int) (24:Int))]
def frameOf (p:List UInt8):List UInt8:=putU p.length++(le4 (crcOn 0#32 p)++p)
theorem le4_cells (s:B32):[Value.int .u8 (IntKind.u8.wrap (s.toNat:Int)),.int .u8 (IntKind.u8.wrap (shr .u32 (s.toNat:Int) (8:Int))),.int .u8 (IntKind.u8.wrap (shr .u32 (s.toNat:Int) (16:Int))),.int .u8 (IntKind.u8.wrap (shr .u32 (s.toNat:Int) (24:Int)))]=vBs (le4 s):=by
 rw [vB_u8,vB_u8,vB_u8,vB_u8];rfl
theorem putFrame_ok {w:World} {b p:Sl} {l m:List UInt8} (ht:Tab w) (hb:RdB w b l) (hp:RdB w p m) (hl:l.length≤140737488000000) {K:Sl→Int→World→Prop}
  (hS:m.length > 65536→K nilS 4 w) (hK:m.length≤65536→∀ r w',Keep w w'→OwnB w' w.heap.size r (l++frameOf m)→K r 0 w'):C.vint_PutFrame b p w K:=by
 have hn:=hp.len
 unfold C.vint_PutFrame
 refine cond_d (fun h=>hS (by omega)) (fun h=>?_)
 refine sum_ok ht hp (by omega) ?_
 rw [wU64_id (by omega) (by omega),hn]
 refine putU_ok (by omega) hb (by omega) fun r w1 k1 o1=>?_
 refine ⟨by decide,by decide,by decide,?_⟩
 have hpl:=putU_len64 (n:=m.length) (by omega)
 refine pushB (m:=le4 (crcOn 0#32 m)) k1 k1.size o1 (le4_cells _) (by rfl) (by rw [List.length_append];omega) fun r2 w2 k2 o2=>?_
 refine appB k2 k2.size o2 (hp.keep k2) (by simp [le4];omega) fun r3 w3 k3 o3=>?_
 exact hK (by omega) r3 w3 k3 (by simpa [frameOf] using o3)
theorem uvGo_end (p:Nat):∀ (l:List UInt8) (i n:Nat),(uvGo p l i n).2.2=0→p+i<(uvGo p l i n).2.1∧(uvGo p l i n).2.1≤p+i+l.length
 | [],_,_,h=>by simp [uvGo] at h
 | c::t,i,n,h=>by
  rw [uvGo] at h ⊢
  split
  ·rw [if_pos ‹_›] at h;simp at h
  rw [if_neg ‹_›] at h
  split
  ·rw [if_pos ‹_›] at h;simp at h
  rw [if_neg ‹_›] at h
  split
  ·simp only [List.length_cons];omega
  ·rw [if_neg ‹_›] at h
   have:=uvGo_end p t _ _ h
   simp only [List.length_cons];omega
theorem uv_end {l:List UInt8} {p:Int} (h:(uv l p).2.2=0):0≤p∧p<((uv l p).2.1:Int)∧(uv l p).2.1≤l.length:=by
 unfold uv at h ⊢;split
 ·rw [if_pos ‹_›] at h;simp at h
 ·rw [if_neg ‹_›] at h
  have:=uvGo_end _ _ _ _ h
  rw [List.length_drop] at this
  omega
def n4 (c0 c1 c2 c3:UInt8):Nat:=c0.toNat+c1.toNat*256+c2.toNat*65536+c3.toNat*16777216
theorem or_add {a b k m:Nat} (hm:m=2 ^ k) (h:a<m):a ||| b*m=a+b*m:=by
 subst hm
 rw [Nat.or_comm,Nat.mul_comm,← Nat.two_pow_add_eq_or_of_lt h,Nat.add_comm]
theorem n4_or (c0 c1 c2 c3:UInt8):n4 c0 c1 c2 c3=c0.toNat ||| c1.toNat*256 ||| c2.toNat*65536 ||| c3.toNat*16777216:=by
 have h0:=c0.toNat_lt
 have h1:=c1.toNat_lt
 have h2:=c2.toNat_lt
 rw [or_add (k:=8) rfl (by omega),or_add (k:=16) rfl (by omega),or_add (k:=24) rfl (by omega)]
 rfl
theorem byU32 (c:UInt8):IntKind.u32.wrap (c.toNat:Int)=((c.toNat:Nat):Int):=by
 have:=c.toNat_lt
 rw [wU32_id (by omega) (by omega)]
theorem shlU32 (c:UInt8) {k m:Nat} (hk:k≤24) (hm:m=2 ^ k):shl .u32 (c.toNat:Int) (k:Int)=((c.toNat*m:Nat):Int):=by
 have:=c.toNat_lt
 subst hm
 rw [shl_nat .u32 _ k (by simp only [IntKind.bits];omega),show (c.toNat:Int)*2 ^ k=((c.toNat*2 ^ k:Nat):Int) by simp]
 have hp:2 ^ k≤2 ^ 24:=Nat.pow_le_pow_right (by decide) hk
 have:c.toNat*2 ^ k≤255*2 ^ 24:=Nat.mul_le_mul (by omega) hp
 rw [wU32_id (by omega) (by omega)]
theorem orU32 {a b:Nat} (ha:a<4294967296) (hb:b<4294967296):Go.bits .or .u32 (a:Int) (b:Int)=((a ||| b:Nat):Int):=bits_or rfl (by simp only [IntKind.bits];omega) (by simp only [IntKind.bits];omega)
theorem or_lt32 {a b:Nat} (ha:a<4294967296) (hb:b<4294967296):a ||| b<4294967296:=Nat.or_lt_two_pow (n:=32) ha hb
theorem word_own (c0 c1 c2 c3:UInt8):Go.bits .or .u32 (Go.bits .or .u32 (0:Int) (shl .u32 (IntKind.u32.wrap (c3.toNat:Int)) (24:Int))) (Go.bits .or .u32 (Go.bits .or .u32 (IntKind.u32.wrap (c0.toNat:Int)) (shl .u32 (IntKind.u32.wrap (c1.toNat:Int)) (8:Int))) (shl .u32 (IntKind.u32.wrap (c2.toNat:Int)) (16:Int)))=((n4 c0 c1 c2 c3:Nat):Int):=by
 have h0:=c0.toNat_lt
 have h1:=c1.toNat_lt
 have h2:=c2.toNat_lt
 have h3:=c3.toNat_lt
 have e1:=shlU32 c1 (k:=8) (m:=256) (by decide) rfl
 have e2:=shlU32 c2 (k:=16) (m:=65536) (by decide) rfl
 have e3:=shlU32 c3 (k:=24) (m:=16777216) (by decide) rfl
 rw [byU32,byU32,byU32,byU32]
 rw [show ((8:Nat):Int)=(8:Int) from rfl] at e1
 rw [show ((16:Nat):Int)=(16:Int) from rfl] at e2
 rw [show ((24:Nat):Int)=(24:Int) from rfl] at e3
 have ez:(0:Int)=((0:Nat):Int):=rfl
 rw [e1,e2,e3,ez,orU32 (by omega) (by omega),orU32 (by omega) (by omega),orU32 (or_lt32 (by omega) (by omega)) (by omega),orU32 (or_lt32 (by omega) (by omega)) (or_lt32 (or_lt32 (by omega) (by omega)) (by omega)),n4_or,
  Nat.zero_or,Nat.or_comm]
def fr (l:List UInt8) (p:Int):List UInt8 × Nat × Nat :=
 let u:=uv l p
 if u.2.2≠0 then ([],0,u.2.2) else if u.1 > 65536 then ([],0,4) else if l.length<u.2.1+4+u.1 then ([],0,9) else
 let d:=(l.drop (u.2.1+4)).take u.1
 if (crcOn 0#32 d).toNat≠n4 (l.getD u.2.1 0) (l.getD (u.2.1+1) 0) (l.getD (u.2.1+2) 0) (l.getD (u.2.1+3) 0) then ([],0,11) else (d,u.2.1+4+u.1,0)
theorem getD_at {l:List UInt8} {k:Nat} (h:k<l.length):l[k]=l.getD k 0:=by simp [List.getD_eq_getElem?_getD,h]
theorem fr_end {l:List UInt8} {p:Int} (h:(fr l p).2.2=0):0≤p∧p<((fr l p).2.1:Int)∧(fr l p).2.1≤l.length∧(fr l p).1.length≤65536:=by
 unfold fr at h ⊢
 simp only at h ⊢
 split
 ·rw [if_pos ‹_›] at h;exact absurd h ‹_›
 rw [if_neg ‹_›] at h
 have hu:(uv l p).2.2=0:=by
  by_cases e:(uv l p).2.2=0
  ·exact e
  ·contradiction
 have:=uv_end hu
 split
 ·rw [if_pos ‹_›] at h;cases h
 rw [if_neg ‹_›] at h
 split
 ·rw [if_pos ‹_›] at h;cases h
 rw [if_neg ‹_›] at h
 split
 ·rw [if_pos ‹_›] at h;cases h
 simp only [List.length_take]
 omega
theorem fr_len (l:List UInt8) (p:Int):(fr l p).1.length≤65536:=by
 unfold fr
 simp only
 split
 ·simp
 split
 ·simp
 split
 ·simp
 split
 ·simp
 simp only [List.length_take]
 omega
theorem atD {w:World} {s:Sl} {l:List UInt8} (h:RdB w s l) {i:Int} {k:Nat} (hi:i=(k:Int)) (hk:k<l.length) {K:Int→Prop} (hK:K ((l.getD k 0).toNat:Int)) :
  G.ix s.a s.n i 1 fun p=>G.cI .u8 p w K:=RdB.ati h hi hk (by rw [getD_at hk];exact hK)
theorem frame_ok {w:World} {b:Sl} {l:List UInt8} (ht:Tab w) (hb:RdB w b l) (hl:l.length≤140737488300000) (p:Int) {K:Sl→Int→Int→World→Prop}
  (hK:∀ r w',Keep w w'→OwnB w' w.heap.size r (fr l p).1→K r ((fr l p).2.1:Int) ((fr l p).2.2:Int) w'):C.vint_Frame b p w K:=by
 have hn:=hb.len
 unfold C.vint_Frame
 refine u_ok hb (by omega) p ?_
 unfold fr at hK
 simp only at hK
 have hnil:=OwnB.nil w w.heap.size
 refine cond_ne (fun h=>?_) (fun h=>?_)
 ·rw [if_pos (fun e=>h (by rw [e];rfl))] at hK
  exact hK nilS w (Keep.refl w) hnil
 have hu:(uv l p).2.2=0:=by exact_mod_cast h
 rw [if_neg (fun e=>e hu)] at hK
 have he:=uv_end hu
 refine cond_d (fun h1=>?_) (fun h1=>?_)
 ·rw [if_pos (by omega)] at hK
  exact hK nilS w (Keep.refl w) hnil
 rw [if_neg (by omega)] at hK
 rw [wI64 (x:=(((uv l p).1:Nat):Int)) (by omega) (by omega),wI64 (x:=((b.n:Nat):Int)-_) (by omega) (by omega),wI64 (x:=(4:Int)+_) (by omega) (by omega)]
 refine cond_d (fun h2=>?_) (fun h2=>?_)
 ·rw [if_pos (by omega)] at hK
  exact hK nilS w (Keep.refl w) hnil
 rw [if_neg (by omega)] at hK
 generalize hf:(uv l p).2.1=f at *
 generalize hv:(uv l p).1=v at *
 rw [wI64 (x:=(f:Int)+3) (by omega) (by omega),wI64 (x:=(f:Int)+1) (by omega) (by omega),wI64 (x:=(f:Int)+2) (by omega) (by omega),wI64 (x:=(f:Int)+4) (by omega) (by omega),wI64 (x:=(f:Int)+4+_) (by omega) (by omega)]
 refine atD hb (k:=f+3) (by omega) (by omega) ⟨by decide,?_⟩
 refine atD hb (k:=f) (by omega) (by omega) ?_
 refine atD hb (k:=f+1) (by omega) (by omega) ⟨by decide,?_⟩
 refine atD hb (k:=f+2) (by omega) (by omega) ⟨by decide,?_⟩
 refine RdB.slc hb (lo:=f+4) (hi:=f+4+v) (by omega) (by omega) (by omega) (by omega) fun s hs=>?_
 rw [show f+4+v-(f+4)=v by omega] at hs
 refine joined_ok (RdB.nil _) (Rd.keep hs (Keep.drew w)) (by simp;omega) fun r w1 k1 o1=>?_
 rw [List.nil_append] at o1
 have k0:=Keep.trans (Keep.drew w) k1
 refine sum_ok (ht.keep k0) o1.rd (by simp;omega) ?_
 rw [word_own]
 refine cond_ne (fun h3=>?_) (fun h3=>?_)
 ·rw [if_pos (fun e=>h3 (by exact_mod_cast e))] at hK
  exact hK nilS w1 k0 (OwnB.nil _ _)
 ·rw [if_neg (fun e=>e (by exact_mod_cast h3))] at hK
  have:=hK r w1 k0 o1
  simpa using this
def frs (l:List UInt8):Nat→Nat→List (List UInt8) × Nat × Nat
 | 0,p=>([],p,0)
 | d+1,p=>if p<l.length then (if (fr l p).2.2≠0 then ([],p,(fr l p).2.2) else ((fr l p).1::(frs l d (fr l p).2.1).1,(frs l d (fr l p).2.1).2)) else ([],p,0)
theorem frames_ok {w0:World} {b:Sl} {l:List UInt8} (ht:Tab w0) (hb:RdB w0 b l) (hl:l.length≤5864062014700) {K:Sl→Int→Int→World→Prop}
  (hK:∀ s rs w',Keep w0 w'→OwnBB w' w0.heap.size s rs (frs l l.length 0).1→K s ((frs l l.length 0).2.1:Int) ((frs l l.length 0).2.2:Int) w'):C.vint_Frames b w0 K:=by
 have hn:=hb.len
 unfold C.vint_Frames C.vint_Frames.S11
 refine C.vint_Frames.L6_ind fun X hX=>?_
 have key:∀ (d p:Nat) (s:Sl) (rs:List Sl) (ls:List (List UInt8)) (w:World),l.length≤p+d→ls.length≤p→p≤l.length→Keep w0 w→OwnBB w w0.heap.size s rs ls →
   (∀ s rs w',Keep w0 w'→OwnBB w' w0.heap.size s rs (ls++(frs l d p).1)→K s ((frs l d p).2.1:Int) ((frs l d p).2.2:Int) w')→X b s (p:Int) 0 w:=by
  intro d
  induction d with
  | zero =>
   intro p s rs ls w hd hls hp k o hK
   refine hX _ _ _ _ _ ?_
   unfold C.vint_Frames.S8 C.vint_Frames.S3
   refine cond_d (fun h=>by omega) (fun _=>?_)
   exact hK s rs w k (by simpa [frs] using o)
  | succ d ih =>
   intro p s rs ls w hd hls hp k o hK
   refine hX _ _ _ _ _ ?_
   unfold C.vint_Frames.S8 C.vint_Frames.S3
   rw [frs] at hK
   refine cond_d (fun h=>?_) (fun h=>?_)
   ·rw [if_pos (by omega)] at hK
    refine frame_ok (ht.keep k) (hb.keep k) (by omega) _ fun r w1 k1 o1=>?_
    refine cond_ne (fun h3=>?_) (fun h3=>?_)
    ·rw [if_pos (fun e=>h3 (by rw [e];rfl))] at hK
     exact hK s rs w1 (Keep.trans k k1) (by simpa using o.keep k1)
    ·have hz:(fr l p).2.2=0:=by exact_mod_cast h3
     rw [if_neg (fun e=>e hz)] at hK
     have he:=fr_end hz
     refine pushBB (Keep.trans k k1) (by have:=k.size;have:=k1.size;omega) (o.keep k1) (Own.mono o1 k.size) (o.fresh o1 (Nat.le_refl _)) (by omega) fun s' w2 k2 o2 _=>?_
     refine ih _ s' (rs++[r]) (ls++[(fr l p).1]) w2 (by omega) (by simp;omega) he.2.2.1 k2 o2 fun s rs w' k o=>hK s rs w' k (by simpa using o)
   ·rw [if_neg (by omega)] at hK
    exact hK s rs w k (by simpa using o)
 exact key l.length 0 nilS [] [] w0 (by omega) (by simp) (by omega) (Keep.refl _) (OwnBB.nil _ _) (by simpa using hK)
theorem frs_len (l:List UInt8):∀ (d p:Nat),(frs l d p).1.length≤d
 | 0,p=>by simp [frs]
 | d+1,p=>by
  rw [frs]
  split
  ·split
   ·simp
   ·have:=frs_len l d (fr l p).2.1
    simp only [List.length_cons];omega
  ·simp
theorem frs_each (l:List UInt8):∀ (d p:Nat),∀ m∈(frs l d p).1,m.length≤65536
 | 0,p,m,h=>by simp [frs] at h
 | d+1,p,m,h=>by
  rw [frs] at h
  split at h
  ·split at h
   ·simp at h
   ·rcases List.mem_cons.1 h with e | e
    ·rw [e];exact fr_len l p
    ·exact frs_each l d _ m e
  ·simp at h
theorem frameOf_len {m:List UInt8} (h:m.length≤65536):(frameOf m).length≤m.length+14:=by
 have:=putU_len64 (n:=m.length) (by omega)
 simp [frameOf,le4];omega
end Go.Proofs.YtmfgmcajelmgbaaGreatDoor.Vint

namespace Go.Proofs.YtmfgmcajelmgbaaGreatDoor.Vint
open Go Vm Go.RowKit Num Mem Crc
theorem putU_pos (n:Nat):0<(putU n).length:=by rw [putU];split<;>simp
theorem pow_big {n i:Nat} (h:n*128 ^ i<18446744073709551616) (hn:2≤n):i<9:=by
 rcases Nat.lt_or_ge i 9 with h' | h'
 ·exact h'
 ·have h1:(128:Nat) ^ 9≤128 ^ i:=Nat.pow_le_pow_right (by decide) h'
  have h2:2*128 ^ 9≤n*128 ^ i:=Nat.mul_le_mul hn h1
  have h3:(18446744073709551616:Nat)=2*128 ^ 9:=by decide +kernel
  omega
theorem uvGo_put (p:Nat) (rest:List UInt8):∀ (n i acc:Nat),n*128 ^ i<18446744073709551616→i≤9→(n=0→i=0)→uvGo p (putU n++rest) i acc=(acc+n*128 ^ i,p+i+(putU n).length,0):=by
 intro n
 induction n using Nat.strongRecOn with
 | _ n ih =>
  intro i acc hn hi hz
  by_cases h:n<128
  ·rw [putU_lt h,List.singleton_append,uvGo]
   have e:(UInt8.ofNat n).toNat=n:=by rw [UInt8.toNat_ofNat',Nat.mod_eq_of_lt (by omega)]
   rw [e,if_neg (fun x=>by have:=pow_big hn (by omega);omega),if_neg (fun x=>by have:=hz x.1;omega),if_pos h,Nat.mod_eq_of_lt h]
   simp
  ·rw [putU_ge h,List.cons_append,uvGo]
   have e:(UInt8.ofNat (n % 128+128)).toNat=n % 128+128:=by rw [UInt8.toNat_ofNat',Nat.mod_eq_of_lt (by omega)]
   have hi9:=pow_big hn (by omega)
   rw [e,if_neg (by omega),if_neg (by omega),if_neg (by omega),show (n % 128+128) % 128=n % 128 by omega]
   have hp:n / 128*128 ^ (i+1)≤n*128 ^ i:=by
    rw [Nat.pow_succ,Nat.mul_comm (128 ^ i),← Nat.mul_assoc]
    exact Nat.mul_le_mul_right _ (by omega)
   rw [ih (n / 128) (by omega) (i+1) _ (by omega) (by omega) (fun x=>by omega)]
   have ev:n % 128*128 ^ i+n / 128*128 ^ (i+1)=n*128 ^ i:=by
    rw [Nat.pow_succ,Nat.mul_comm (128 ^ i),← Nat.mul_assoc,← Nat.add_mul]
    congr 1
    omega
   refine Prod.ext ?_ (Prod.ext ?_ rfl)
   ·simp only;omega
   ·simp only [List.length_cons];omega
theorem uv_put (l rest:List UInt8) {n:Nat} (hn:n<18446744073709551616):uv (l++(putU n++rest)) (l.length:Int)=(n,l.length+(putU n).length,0):=by
 unfold uv
 rw [if_neg (by simp;omega),Int.toNat_natCast,List.drop_left,uvGo_put _ _ _ _ _ (by omega) (by omega) (fun _=>rfl)]
 simp
theorem n4_le4 (s:B32):n4 (u8 (s.toNat:Int)) (u8 (shr .u32 (s.toNat:Int) (8:Int))) (u8 (shr .u32 (s.toNat:Int) (16:Int))) (u8 (shr .u32 (s.toNat:Int) (24:Int)))=s.toNat:=by
 have hs:=s.isLt
 have e1:=shr_nat .u32 (s.toNat:Int) 8 (by decide)
 have e2:=shr_nat .u32 (s.toNat:Int) 16 (by decide)
 have e3:=shr_nat .u32 (s.toNat:Int) 24 (by decide)
 rw [show ((8:Nat):Int)=(8:Int) from rfl] at e1
 rw [show ((16:Nat):Int)=(16:Int) from rfl] at e2
 rw [show ((24:Nat):Int)=(24:Int) from rfl] at e3
 have h0:=u8_toNat (s.toNat:Int)
 have h1:=u8_toNat (shr .u32 (s.toNat:Int) (8:Int))
 have h2:=u8_toNat (shr .u32 (s.toNat:Int) (16:Int))
 have h3:=u8_toNat (shr .u32 (s.toNat:Int) (24:Int))
 rw [e1] at h1
 rw [e2] at h2
 rw [e3] at h3
 unfold n4
 rw [e1,e2,e3]
 generalize (u8 (s.toNat:Int)).toNat=b0 at *
 generalize (u8 ((s.toNat:Int) / 2 ^ 8)).toNat=b1 at *
 generalize (u8 ((s.toNat:Int) / 2 ^ 16)).toNat=b2 at *
 generalize (u8 ((s.toNat:Int) / 2 ^ 24)).toNat=b3 at *
 omega
theorem fr_at (l m rest:List UInt8) (s:B32) (hm:m.length≤65536):fr (l++(putU m.length++(le4 s++(m++rest)))) (l.length:Int)=if crcOn 0#32 m=s then (m,l.length+(putU m.length).length+4+m.length,0) else ([],0,11):=by
 unfold fr
 rw [uv_put l _ (by omega)]
 have h4:(le4 s).length=4:=rfl
 simp only [ne_eq,not_true_eq_false,if_false]
 rw [if_neg (by omega),if_neg (by simp only [List.length_append];omega)]
 have e:l++(putU m.length++(le4 s++(m++rest)))=(l++putU m.length++le4 s)++(m++rest):=by simp
 have e':l++(putU m.length++(le4 s++(m++rest)))=(l++putU m.length)++(le4 s++(m++rest)):=by simp
 have d:((l++(putU m.length++(le4 s++(m++rest)))).drop (l.length+(putU m.length).length+4)).take m.length=m:=by
  rw [e,List.drop_append_of_le_length (by simp only [List.length_append];omega),List.drop_of_length_le (by simp only [List.length_append];omega),List.nil_append,List.take_left]
 have g:∀ k,k<4→(l++(putU m.length++(le4 s++(m++rest)))).getD (l.length+(putU m.length).length+k) 0=(le4 s).getD k 0:=fun k hk=>by
  rw [e',List.getD_eq_getElem?_getD,List.getD_eq_getElem?_getD,List.getElem?_append_right (by simp only [List.length_append];omega),List.length_append,show l.length+(putU m.length).length+k-(l.length+(putU m.length).length)=k by omega,List.getElem?_append_left (by omega)]
 have g0:=g 0 (by omega)
 rw [Nat.add_zero] at g0
 rw [d,g0,g 1 (by omega),g 2 (by omega),g 3 (by omega)]
 have:=n4_le4 s
 rw [show n4 ((le4 s).getD 0 0) ((le4 s).getD 1 0) ((le4 s).getD 2 0) ((le4 s).getD 3 0)=s.toNat from this]
 by_cases h:crcOn 0#32 m=s
 ·rw [if_pos h,if_neg (fun x=>x (by rw [h]))]
 ·rw [if_neg h,if_pos (fun x=>h (BitVec.eq_of_toNat_eq x))]
theorem uvGo_lt (p:Nat):∀ (l:List UInt8) (i n:Nat),i≤9→n<128 ^ i→(uvGo p l i n).1<18446744073709551616
 | [],_,_,_,_=>by simp [uvGo]
 | c::t,i,n,hi,hn=>by
  rw [uvGo]
  split
  ·simp
  split
  ·simp
  have hc:=c.toNat_lt
  obtain ⟨_,q1,q2⟩:=orStep (x:=c.toNat % 128) (X:=((c.toNat % 128:Nat):Int)) (Y:=((7*i:Nat):Int)) hi hn (Nat.mod_lt _ (by decide)) (fun h=>by omega) rfl rfl
  split
  ·exact q2
  ·refine uvGo_lt p t (i+1) _ ?_ q1
   rcases Nat.lt_or_ge i 9 with h9 | h9<;>omega
theorem uv_lt (l:List UInt8) (p:Int):(uv l p).1<18446744073709551616:=by
 unfold uv;split
 ·simp
 ·exact uvGo_lt _ _ _ _ (by omega) (by decide)
theorem uvGo_torn (p:Nat):∀ (n i acc j:Nat),n*128 ^ i<18446744073709551616→i≤9→j<(putU n).length→uvGo p ((putU n).take j) i acc=(0,0,9):=by
 intro n
 induction n using Nat.strongRecOn with
 | _ n ih =>
  intro i acc j hn hi hj
  by_cases h:n<128
  ·rw [putU_lt h] at hj ⊢
   have:j=0:=by simpa using hj
   subst this
   simp [uvGo]
  ·rw [putU_ge h] at hj ⊢
   cases j with
   | zero=>simp [uvGo]
   | succ j =>
    rw [List.take_succ_cons,uvGo]
    have e:(UInt8.ofNat (n % 128+128)).toNat=n % 128+128:=by rw [UInt8.toNat_ofNat',Nat.mod_eq_of_lt (by omega)]
    have hi9:=pow_big hn (by omega)
    rw [e,if_neg (by omega),if_neg (by omega),if_neg (by omega)]
    have hp:n / 128*128 ^ (i+1)≤n*128 ^ i:=by
     rw [Nat.pow_succ,Nat.mul_comm (128 ^ i),← Nat.mul_assoc]
     exact Nat.mul_le_mul_right _ (by omega)
    exact ih (n / 128) (by omega) (i+1) _ j (by omega) (by omega) (by simp only [List.length_cons] at hj;omega)
theorem fr_torn (P m:List UInt8) {j:Nat} (hm:m.length≤65536) (hj:j<(frameOf m).length):fr (P++(frameOf m).take j) (P.length:Int)=([],0,9):=by
 have h4:(le4 (crcOn 0#32 m)).length=4:=rfl
 rcases Nat.lt_or_ge j (putU m.length).length with h | h
 ·have:uv (P++(frameOf m).take j) (P.length:Int)=(0,0,9):=by
   unfold uv
   rw [if_neg (by simp;omega),Int.toNat_natCast,List.drop_left]
   unfold frameOf
   rw [List.take_append_of_le_length (by omega)]
   exact uvGo_torn _ _ _ _ _ (by omega) (by omega) h
  unfold fr
  rw [this]
  simp
 ·have e:(frameOf m).take j=putU m.length++(le4 (crcOn 0#32 m)++m).take (j-(putU m.length).length):=by
   unfold frameOf
   rw [List.take_append,List.take_of_length_le h]
  have:=uv_put P ((le4 (crcOn 0#32 m)++m).take (j-(putU m.length).length)) (n:=m.length) (by omega)
  rw [← e] at this
  unfold fr
  rw [this]
  simp only [ne_eq,not_true_eq_false,if_false]
  rw [if_neg (by omega),if_pos ?_]
  simp only [frameOf,List.length_append,h4] at hj
  simp only [List.length_append,List.length_take,frameOf,h4]
  omega
def flat (fs:List (List UInt8)):List UInt8:=fs.flatMap frameOf
theorem flat_app (a b:List (List UInt8)):flat (a++b)=flat a++flat b:=List.flatMap_append
theorem frameOf_pos (m:List UInt8):0<(frameOf m).length:=by
 have:=putU_pos m.length
 simp only [frameOf,List.length_append];omega
theorem frs_flat:∀ (fs:List (List UInt8)) (P t:List UInt8) (d:Nat),(∀ m∈fs,m.length≤65536)→(t=[]∨∃ m j,t=(frameOf m).take j∧j<(frameOf m).length∧m.length≤65536) →
  (P++(flat fs++t)).length≤P.length+d→frs (P++(flat fs++t)) d P.length=(fs,P.length+(flat fs).length,if t=[] then 0 else 9)
 | [],P,t,d,_,ht,hd=>by
  simp only [flat,List.flatMap_nil,List.nil_append,List.length_nil,Nat.add_zero] at hd ⊢
  by_cases h:t=[]
  ·subst h
   cases d<;>simp [frs]
  ·have hpos:0<t.length:=List.length_pos_iff.2 h
   rcases ht with ht | ⟨m,j,rfl,hj,hm⟩
   ·exact absurd ht h
   cases d with
   | zero=>simp only [List.length_append] at hd;omega
   | succ d =>
    rw [frs,if_pos (by simp only [List.length_append];omega),fr_torn P m hm hj]
    simp [h]
 | m::fs,P,t,d,hfs,ht,hd=>by
  have hm:=hfs m (List.mem_cons_self ..)
  have hp:=frameOf_pos m
  have e:flat (m::fs)=frameOf m++flat fs:=List.flatMap_cons
  rw [e] at hd ⊢
  cases d with
  | zero=>simp only [List.length_append] at hd;omega
  | succ d =>
   rw [frs,if_pos (by simp only [List.length_append];omega)]
   have e1:P++(frameOf m++flat fs++t)=P++(putU m.length++(le4 (crcOn 0#32 m)++(m++(flat fs++t)))):=by simp [frameOf]
   have h1:fr (P++(frameOf m++flat fs++t)) (P.length:Int)=(m,P.length+(frameOf m).length,0):=by
    rw [e1,fr_at P m _ _ hm,if_pos rfl]
    have h4:(le4 (crcOn 0#32 m)).length=4:=rfl
    simp only [frameOf,List.length_append,h4]
    refine Prod.ext rfl (Prod.ext ?_ rfl)
    simp only;omega
   rw [h1]
   simp only [ne_eq,not_true_eq_false,if_false]
   have e2:P++(frameOf m++flat fs++t)=(P++frameOf m)++(flat fs++t):=by simp
   have ih:=frs_flat fs (P++frameOf m) t d (fun x hx=>hfs x (List.mem_cons_of_mem _ hx)) ht (by rw [← e2];simp only [List.length_append] at hd ⊢;omega)
   rw [← e2,List.length_append] at ih
   rw [ih]
   refine Prod.ext rfl (Prod.ext ?_ rfl)
   simp only [List.length_append];omega
theorem flat_len:∀ {fs:List (List UInt8)},(∀ m∈fs,m.length≤65536)→(flat fs).length≤fs.length*65550
 | [],_=>by simp [flat]
 | m::fs,h=>by
  have:=flat_len (fs:=fs) fun x hx=>h x (List.mem_cons_of_mem _ hx)
  have hm:=h m (List.mem_cons_self ..)
  have:=frameOf_len hm
  have e:flat (m::fs)=frameOf m++flat fs:=List.flatMap_cons
  rw [e,List.length_append,List.length_cons]
  omega
end Go.Proofs.YtmfgmcajelmgbaaGreatDoor.Vint

namespace Go.Proofs.YtmfgmcajelmgbaaGreatDoor.Bk
open Go Lab Vint
abbrev Smp:=Int × Nat
abbrev Ser:=List Lb × List Smp
def chs (m:List Smp):List (List UInt8):=Chunk.pcs m ((m.length+119) / 120)
def cpay (c:List UInt8):List UInt8:=putU c.length++c
def pay (x:Ser):List UInt8:=Lab.put x.1++(putU (chs x.2).length++(chs x.2).flatMap cpay)
def serE (x:Ser):Int:=if x.2=[] then 5 else if (Chunk.swr [] x.2 0).1≠0 then (Chunk.swr [] x.2 0).1 else if (pay x).length > 65536 then 4 else 0
def metB (pre:List Ser) (m:List Lb):Bool:=pre.any fun y=>decide (y.1=m)
def wrg:List Ser→List Ser→Nat→Int × Nat
 | _,[],_=>(0,0)
 | pre,x::r,i=>if (rt x.1).1≠0 then ((rt x.1).1,i) else if metB pre x.1=true then (6,i) else if serE x≠0 then (serE x,i) else wrg (pre++[x]) r (i+1)
structure Fit (l:List Ser):Prop where
 rt:∀ x∈l,(Lab.rt x.1).1=0
 ok:∀ x∈l,serE x=0
 nd:(l.map (·.1)).Nodup
theorem metB_iff {pre:List Ser} {m:List Lb}:metB pre m=true↔m∈pre.map (·.1):=by
 unfold metB
 rw [List.any_eq_true]
 simp
theorem wrg_fit:∀ (r pre:List Ser) (i:Nat),Fit pre→(wrg pre r i).1=0→Fit (pre++r)
 | [],pre,i,hp,_=>by simpa using hp
 | x::r,pre,i,hp,h=>by
  rw [wrg] at h
  split at h
  ·rename_i h1;exact absurd h h1
  ·rename_i h1
   split at h
   ·exact absurd (show (6:Int)=0 from h) (by decide)
   ·rename_i h2
    split at h
    ·rename_i h3;exact absurd h h3
    ·rename_i h3
     have h2':x.1 ∉ pre.map (·.1):=fun hm=>h2 (metB_iff.2 hm)
     have:=wrg_fit r (pre++[x]) (i+1) ⟨fun y hy=>?_,fun y hy=>?_,?_⟩ h
     ·simpa using this
     ·rcases List.mem_append.1 hy with hy | hy
      ·exact hp.rt y hy
      ·rw [List.mem_singleton] at hy;subst hy;simpa using h1
     ·rcases List.mem_append.1 hy with hy | hy
      ·exact hp.ok y hy
      ·rw [List.mem_singleton] at hy;subst hy;simpa using h3
     ·rw [List.map_append,List.nodup_append]
      refine ⟨hp.nd,by simp,fun a ha b hb=>?_⟩
      simp only [List.map_cons,List.map_nil,List.mem_singleton] at hb
      subst hb
      rintro rfl
      exact h2' ha
theorem fit_nil:Fit []:=⟨by simp,by simp,by simp⟩
theorem fit_of {l:List Ser} (h:(wrg [] l 0).1=0):Fit l:=by simpa using wrg_fit l [] 0 fit_nil h
theorem fit_wrg:∀ (r pre:List Ser) (i:Nat),Fit (pre++r)→wrg pre r i=(0,0)
 | [],_,_,_=>rfl
 | x::r,pre,i,h=>by
  have hx:x∈pre++x::r:=List.mem_append_right _ (List.mem_cons_self ..)
  rw [wrg,if_neg (by simpa using h.rt x hx),if_neg ?_,if_neg (by simpa using h.ok x hx)]
  ·exact fit_wrg r (pre++[x]) (i+1) (by simpa using h)
  ·intro hm
   rw [metB_iff] at hm
   have:=h.nd
   rw [List.map_append,List.nodup_append] at this
   exact this.2.2 _ hm x.1 (by simp) rfl
theorem Fit.perm {l m:List Ser} (h:Fit l) (p:m.Perm l):Fit m:=⟨fun x hx=>h.rt x (p.mem_iff.1 hx),fun x hx=>h.ok x (p.mem_iff.1 hx),((p.map (·.1)).nodup_iff).2 h.nd⟩
theorem Fit.rising {l:List Ser} (h:Fit l) {x:Ser} (hx:x∈l):x.2≠[]∧(Chunk.swr [] x.2 0).1=0∧(pay x).length≤65536:=by
 have:=h.ok x hx
 unfold serE at this
 split at this
 ·exact absurd this (by decide)
 ·rename_i h1
  split at this
  ·rename_i h2;exact absurd this h2
  ·rename_i h2
   split at this
   ·exact absurd this (by decide)
   ·exact ⟨h1,by simpa using h2,by omega⟩
def insS (x:Ser):List Ser→List Ser
 | []=>[x]
 | y::r=>if cmpL y.1 x.1 > 0 then x::y::r else y::insS x r
def srt (l:List Ser):List Ser:=l.foldl (fun a x=>insS x a) []
theorem insS_perm (x:Ser):∀ l:List Ser,(insS x l).Perm (x::l)
 | []=>List.Perm.refl _
 | y::r=>by
  rw [insS]
  split
  ·exact List.Perm.refl _
  ·exact ((insS_perm x r).cons y).trans (List.Perm.swap _ _ _)
theorem srt_perm (l:List Ser):(srt l).Perm l:=by
 have key:∀ (l a:List Ser),(l.foldl (fun a x=>insS x a) a).Perm (a++l):=by
  intro l
  induction l with
  | nil=>intro a;simp
  | cons x l ih =>
   intro a
   rw [List.foldl_cons]
   refine (ih _).trans ?_
   refine ((insS_perm x a).append_right l).trans ?_
   exact (List.perm_middle (a:=x) (l₁:=a) (l₂:=l)).symm
 simpa [srt] using key l []
def leS (a b:Ser):Prop:=¬ cmpL b.1 a.1<0
theorem cmp_le {a b c:List Lb} (h1:¬ cmpL b a<0) (h2:¬ cmpL c b<0):¬ cmpL c a<0:=by
 intro h3
 have a1:=cmpL_cmp.anti a b
 have a2:=cmpL_cmp.anti b c
 have a3:=cmpL_cmp.anti a c
 by_cases e:cmpL a b=0
 ·rw [(cmpL_cmp.eq _ _).1 e] at h3;exact h2 h3
 ·exact h2 (cmpL_cmp.trans c a b h3 (by omega))
theorem insS_up {x:Ser}:∀ {l:List Ser},l.Pairwise leS→(insS x l).Pairwise leS
 | [],_=>List.pairwise_singleton ..
 | y::r,h=>by
  obtain ⟨h1,h2⟩:=List.pairwise_cons.1 h
  rw [insS]
  split
  ·rename_i hc
   refine List.pairwise_cons.2 ⟨fun z hz=>?_,h⟩
   have hxy:leS x y:=by unfold leS;omega
   rcases List.mem_cons.1 hz with rfl | hz
   ·exact hxy
   ·exact cmp_le hxy (h1 z hz)
  ·rename_i hc
   refine List.pairwise_cons.2 ⟨fun z hz=>?_,insS_up h2⟩
   rcases List.mem_cons.1 ((insS_perm x r).mem_iff.1 hz) with rfl | hz
   ·unfold leS
    have:=cmpL_cmp.anti y.1 z.1
    omega
   ·exact h1 z hz
theorem srt_up (l:List Ser):(srt l).Pairwise leS:=by
 have key:∀ (l a:List Ser),a.Pairwise leS→(l.foldl (fun a x=>insS x a) a).Pairwise leS:=by
  intro l
  induction l with
  | nil=>intro a h;exact h
  | cons x l ih=>intro a h;exact ih _ (insS_up h)
 exact key l [] List.Pairwise.nil
theorem srt_uniq:∀ {a b:List Ser},a.Perm b→(b.map (·.1)).Nodup→a.Pairwise leS→b.Pairwise leS→a=b
 | [],b,p,_,_,_=>(List.nil_perm.1 p).symm ▸ rfl
 | x::a,[],p,_,_,_=>by have:=p.length_eq;simp at this
 | x::a,y::b,p,nd,ha,hb=>by
  have ha':=List.pairwise_cons.1 ha
  have hb':=List.pairwise_cons.1 hb
  have e:x=y:=by
   have hx:x∈y::b:=p.mem_iff.1 (List.mem_cons_self ..)
   have hy:y∈x::a:=p.mem_iff.2 (List.mem_cons_self ..)
   rcases List.mem_cons.1 hx with h | h
   ·exact h
   rcases List.mem_cons.1 hy with h' | h'
   ·exact h'.symm
   have l1:=hb'.1 x h
   have l2:=ha'.1 y h'
   unfold leS at l1 l2
   have:=cmpL_cmp.anti x.1 y.1
   have e0:cmpL x.1 y.1=0:=by omega
   have e1:=(cmpL_cmp.eq _ _).1 e0
   rw [List.map_cons,List.nodup_cons] at nd
   exact absurd (e1 ▸ List.mem_map_of_mem h) nd.1
  subst e
  rw [List.map_cons,List.nodup_cons] at nd
  rw [srt_uniq (List.Perm.cons_inv p) nd.2 ha'.2 hb'.2]
theorem srt_of {a l:List Ser} (p:a.Perm l) (nd:(l.map (·.1)).Nodup) (up:a.Pairwise leS):a=srt l :=
 srt_uniq (p.trans (srt_perm l).symm) (((srt_perm l).map (·.1)).nodup_iff.2 nd) up (srt_up l)
def loOf:List Ser→Int
 | []=>0
 | x::r=>r.foldl (fun a y=>if (y.2.headD (0,0)).1<a then (y.2.headD (0,0)).1 else a) (x.2.headD (0,0)).1
def hiOf:List Ser→Int
 | []=>0
 | x::r=>r.foldl (fun a y=>if a<(Chunk.lastS y.2).1 then (Chunk.lastS y.2).1 else a) (Chunk.lastS x.2).1
def cntOf (l:List Ser):Nat:=(l.map fun x=>x.2.length).sum
def hd (l:List Ser):List UInt8:=putU l.length++(putU (cntOf l)++(putU (loOf l).toNat++putU (hiOf l).toNat))
def magicB:List UInt8:=[84,79,67,66,76,75,48,49]
def bytesOf (l:List Ser):List UInt8:=magicB++(frameOf (hd l)++flat (l.map pay))
def buildR (l:List Ser):List UInt8 × Int × Nat :=
 if l.length > 1000 then ([],8,0) else if (wrg [] l 0).1≠0 then ([],wrg [] l 0) else if (bytesOf (srt l)).length > 1048576 then ([],4,0) else (bytesOf (srt l),0,0)
theorem cnt_perm {a b:List Ser} (p:a.Perm b):cntOf a=cntOf b:=(p.map _).sum_nat
theorem minF {f:Ser→Int}:∀ (l:List Ser) (m:Int),(∀ y∈l,l.foldl (fun a y=>if f y<a then f y else a) m≤f y)∧l.foldl (fun a y=>if f y<a then f y else a) m≤m∧(l.foldl (fun a y=>if f y<a then f y else a) m=m∨∃ y∈l,l.foldl (fun a y=>if f y<a then f y else a) m=f y)
 | [],m=>⟨by simp,Int.le_refl _,.inl rfl⟩
 | x::l,m=>by
  rw [List.foldl_cons]
  obtain ⟨h1,h2,h3⟩:=minF (f:=f) l (if f x<m then f x else m)
  have hk:(if f x<m then f x else m)≤f x∧(if f x<m then f x else m)≤m∧((if f x<m then f x else m)=m∨(if f x<m then f x else m)=f x):=by split<;>omega
  generalize (if f x<m then f x else m)=k at *
  obtain ⟨k1,k2,k3⟩:=hk
  refine ⟨fun y hy=>?_,by omega,?_⟩
  ·rcases List.mem_cons.1 hy with rfl | hy
   ·omega
   ·exact h1 y hy
  ·rcases h3 with h3 | ⟨y,hy,h3⟩
   ·rcases k3 with k3 | k3
    ·exact .inl (h3.trans k3)
    ·exact .inr ⟨x,List.mem_cons_self ..,h3.trans k3⟩
   ·exact .inr ⟨y,List.mem_cons_of_mem _ hy,h3⟩
theorem maxF {f:Ser→Int}:∀ (l:List Ser) (m:Int),(∀ y∈l,f y≤l.foldl (fun a y=>if a<f y then f y else a) m)∧m≤l.foldl (fun a y=>if a<f y then f y else a) m∧(l.foldl (fun a y=>if a<f y then f y else a) m=m∨∃ y∈l,l.foldl (fun a y=>if a<f y then f y else a) m=f y)
 | [],m=>⟨by simp,Int.le_refl _,.inl rfl⟩
 | x::l,m=>by
  rw [List.foldl_cons]
  obtain ⟨h1,h2,h3⟩:=maxF (f:=f) l (if m<f x then f x else m)
  have hk:(if m<f x then f x else m) ≥ f x∧(if m<f x then f x else m) ≥ m∧((if m<f x then f x else m)=m∨(if m<f x then f x else m)=f x):=by split<;>omega
  generalize (if m<f x then f x else m)=k at *
  obtain ⟨k1,k2,k3⟩:=hk
  refine ⟨fun y hy=>?_,by omega,?_⟩
  ·rcases List.mem_cons.1 hy with rfl | hy
   ·omega
   ·exact h1 y hy
  ·rcases h3 with h3 | ⟨y,hy,h3⟩
   ·rcases k3 with k3 | k3
    ·exact .inl (h3.trans k3)
    ·exact .inr ⟨x,List.mem_cons_self ..,h3.trans k3⟩
   ·exact .inr ⟨y,List.mem_cons_of_mem _ hy,h3⟩
theorem lo_spec {l:List Ser} (h:l≠[]):(∀ y∈l,loOf l≤(y.2.headD (0,0)).1)∧∃ y∈l,loOf l=(y.2.headD (0,0)).1:=by
 cases l with
 | nil=>exact absurd rfl h
 | cons x r =>
  obtain ⟨h1,h2,h3⟩:=minF (f:=fun y=>(y.2.headD (0,0)).1) r (x.2.headD (0,0)).1
  refine ⟨fun y hy=>?_,?_⟩
  ·rcases List.mem_cons.1 hy with rfl | hy
   ·exact h2
   ·exact h1 y hy
  ·rcases h3 with h3 | ⟨y,hy,h3⟩
   ·exact ⟨x,List.mem_cons_self ..,h3⟩
   ·exact ⟨y,List.mem_cons_of_mem _ hy,h3⟩
theorem hi_spec {l:List Ser} (h:l≠[]):(∀ y∈l,(Chunk.lastS y.2).1≤hiOf l)∧∃ y∈l,hiOf l=(Chunk.lastS y.2).1:=by
 cases l with
 | nil=>exact absurd rfl h
 | cons x r =>
  obtain ⟨h1,h2,h3⟩:=maxF (f:=fun y=>(Chunk.lastS y.2).1) r (Chunk.lastS x.2).1
  refine ⟨fun y hy=>?_,?_⟩
  ·rcases List.mem_cons.1 hy with rfl | hy
   ·exact h2
   ·exact h1 y hy
  ·rcases h3 with h3 | ⟨y,hy,h3⟩
   ·exact ⟨x,List.mem_cons_self ..,h3⟩
   ·exact ⟨y,List.mem_cons_of_mem _ hy,h3⟩
theorem lo_perm {a b:List Ser} (p:a.Perm b):loOf a=loOf b:=by
 by_cases h:a=[]
 ·subst h;rw [List.nil_perm.1 p]
 ·have hb:b≠[]:=by rintro rfl;exact h (List.perm_nil.1 p)
  obtain ⟨a1,y,hy,a2⟩:=lo_spec h
  obtain ⟨b1,z,hz,b2⟩:=lo_spec hb
  have:=b1 y (p.mem_iff.1 hy)
  have:=a1 z (p.mem_iff.2 hz)
  omega
theorem hi_perm {a b:List Ser} (p:a.Perm b):hiOf a=hiOf b:=by
 by_cases h:a=[]
 ·subst h;rw [List.nil_perm.1 p]
 ·have hb:b≠[]:=by rintro rfl;exact h (List.perm_nil.1 p)
  obtain ⟨a1,y,hy,a2⟩:=hi_spec h
  obtain ⟨b1,z,hz,b2⟩:=hi_spec hb
  have:=b1 y (p.mem_iff.1 hy)
  have:=a1 z (p.mem_iff.2 hz)
  omega
theorem hd_perm {a b:List Ser} (p:a.Perm b):hd a=hd b:=by unfold hd;rw [p.length_eq,cnt_perm p,lo_perm p,hi_perm p]
theorem cnt_le:∀ {l:List Ser},(∀ x∈l,x.2.length≤11000000)→cntOf l≤11000000*l.length
 | [],_=>by simp [cntOf]
 | x::l,h=>by
  have:=cnt_le (l:=l) fun y hy=>h y (List.mem_cons_of_mem _ hy)
  have hx:=h x (List.mem_cons_self ..)
  simp only [cntOf,List.map_cons,List.sum_cons,List.length_cons] at *
  omega
theorem cnt_snoc (l:List Ser) (x:Ser):cntOf (l++[x])=cntOf l+x.2.length:=by simp [cntOf]
theorem lo_snoc {l:List Ser} (h:l≠[]) (x:Ser):loOf (l++[x])=if (x.2.headD (0,0)).1<loOf l then (x.2.headD (0,0)).1 else loOf l:=by
 cases l with
 | nil=>exact absurd rfl h
 | cons y r =>
  show List.foldl _ _ (r++[x])=_
  rw [List.foldl_append];rfl
theorem hi_snoc {l:List Ser} (h:l≠[]) (x:Ser):hiOf (l++[x])=if hiOf l<(Chunk.lastS x.2).1 then (Chunk.lastS x.2).1 else hiOf l:=by
 cases l with
 | nil=>exact absurd rfl h
 | cons y r =>
  show List.foldl _ _ (r++[x])=_
  rw [List.foldl_append];rfl
theorem rising_mem {m:List Smp} (h:Chunk.Rising m):∀ x∈m,0≤x.1∧x.1≤1125899906842624:=by
 induction h with
 | nil=>intro x hx;cases hx
 | snoc h1 h2 h3 h4 h5 ih =>
  intro x hx
  rcases List.mem_append.1 hx with hx | hx
  ·exact ih x hx
  ·rw [List.mem_singleton] at hx;subst hx;exact ⟨h2,h3⟩
theorem lastS_mem {m:List Smp} (h:m≠[]):Chunk.lastS m∈m:=by
 unfold Chunk.lastS
 rw [List.getLast?_eq_some_getLast h]
 exact List.getLast_mem h
theorem headD_mem {m:List Smp} (h:m≠[]):m.headD (0,0)∈m:=by
 cases m with
 | nil=>exact absurd rfl h
 | cons a r=>exact List.mem_cons_self ..
def Ris (l:List Ser):Prop:=∀ x∈l,x.2≠[]∧Chunk.Rising x.2
theorem lo_bd {l:List Ser} (h:Ris l):0≤loOf l∧loOf l≤1125899906842624:=by
 by_cases e:l=[]
 ·subst e;exact ⟨by decide,by decide⟩
 ·obtain ⟨_,y,hy,e⟩:=lo_spec e
  obtain ⟨h1,h2⟩:=h y hy
  rw [e];exact rising_mem h2 _ (headD_mem h1)
theorem hi_bd {l:List Ser} (h:Ris l):0≤hiOf l∧hiOf l≤1125899906842624:=by
 by_cases e:l=[]
 ·subst e;exact ⟨by decide,by decide⟩
 ·obtain ⟨_,y,hy,e⟩:=hi_spec e
  obtain ⟨h1,h2⟩:=h y hy
  rw [e];exact rising_mem h2 _ (lastS_mem h1)
theorem fit_ris {l:List Ser} (h:Fit l) (hf:∀ x∈l,∀ y∈x.2,y.2<18446744073709551616):Ris l:=fun x hx=>by
 obtain ⟨h1,h2,_⟩:=h.rising hx
 exact ⟨h1,by simpa using Chunk.swr_rising x.2 [] 0 .nil (hf x hx) h2⟩
theorem hd_len {l:List Ser} (h:Ris l) (hl:l.length≤1000) (hs:∀ x∈l,x.2.length≤11000000):(hd l).length≤40:=by
 have:=cnt_le hs
 have h1:=lo_bd h
 have h2:=hi_bd h
 have a:=putU_len64 (n:=l.length) (by omega)
 have b:=putU_len64 (n:=cntOf l) (by omega)
 have c:=putU_len64 (n:=(loOf l).toNat) (by omega)
 have d:=putU_len64 (n:=(hiOf l).toNat) (by omega)
 unfold hd
 simp only [List.length_append];omega
def upto (l:List Ser) (i:Nat):List UInt8:=magicB++(frameOf (hd l)++flat ((l.take i).map pay))
theorem upto_all (l:List Ser):upto l l.length=bytesOf l:=by unfold upto bytesOf;rw [List.take_length]
theorem upto_succ {l:List Ser} {i:Nat} (h:i<l.length):upto l (i+1)=upto l i++frameOf (pay l[i]):=by
 unfold upto
 rw [List.take_succ_eq_append_getElem h,List.map_append,flat_app]
 simp [flat]
theorem upto_le (l:List Ser) (i:Nat):(upto l i).length≤(bytesOf l).length:=by
 unfold upto bytesOf
 have:l.map pay=(l.take i).map pay++(l.drop i).map pay:=by rw [← List.map_append,List.take_append_drop]
 rw [this,flat_app]
 simp only [List.length_append];omega
end Go.Proofs.YtmfgmcajelmgbaaGreatDoor.Bk

namespace Go.Proofs.YtmfgmcajelmgbaaGreatDoor.Mem
open Go Vm Go.RowKit Num
variable {ω ω' : Tg} {w w' : World} {t u g : Nat} {T : Nat → Bool} {e : TypeId} {sz : Nat} {s : Sl} {xs : List Value}
structure RT (ω:Tg) (w:World) (t:Nat) (s:Sl) (sz:Nat) (xs:List Value):Prop where
 rd:Rd w s sz xs
 tag:∀ g o,s.a=some ⟨g,o,none⟩→xs≠[]→ω g=t
theorem RT.lt (h:RT ω w t s sz xs) {g o:Nat} (ha:s.a=some ⟨g,o,none⟩) (hne:xs≠[]):g<w.heap.size:=by
 obtain ⟨g',o',ha',hc⟩:=h.rd.2.2 hne
 rw [ha] at ha'
 simp only [Option.some.injEq,Addr.mk.injEq] at ha'
 obtain ⟨rfl,rfl,_⟩:=ha'
 have hpos:0<xs.length:=List.length_pos_iff.2 hne
 exact cell_lt (hc 0 xs[0] (List.getElem?_eq_getElem hpos))
theorem RT.stp (h:RT ω w t s sz xs) (k:Stp T ω ω' w w') (ne:T t=false:=by rfl):RT ω' w' t s sz xs:=by
 refine ⟨⟨h.rd.1,h.rd.2.1,fun hne=>?_⟩,fun g o ha hne=>(k.same g (h.lt ha hne)).trans (h.tag g o ha hne)⟩
 obtain ⟨g,o,ha,hc⟩:=h.rd.2.2 hne
 refine ⟨g,o,ha,fun j v hv=>?_⟩
 rw [World.cell?_of_block (w:=w) (k.block g (h.lt ha hne) (by rw [h.tag g o ha hne];exact ne))]
 exact hc j v hv
theorem RT.nil (ω:Tg) (w:World) (t sz:Nat):RT ω w t nilS sz []:=⟨Rd.nil w sz,fun _ _ _ h=>absurd rfl h⟩
theorem OT.rt (h:OT ω w t e sz s xs):RT ω w t s sz xs:=⟨h.rd,fun g o ha _=>h.tag g (by show (Value.slice s.a s.n s.c).ownBlock=_;rw [ha];rfl)⟩
theorem Own.rt {B:Nat} (h:Mem.Own w' B e sz s xs) (hB:w.heap.size≤B) (ω:Tg) (t:Nat):RT (ext ω w.heap.size t) w' t s sz xs:=(Own.tag h hB ω t).rt
theorem RT.pre (h:RT ω w t s sz xs) {n:Nat} (hn:n≤s.n) {i:Int} (ei:i=(n:Int)) {K:Sl→Prop} (hK:∀ r:Sl,RT ω w t r sz (xs.take (n*sz))→r.n=n→K r):G.slc s 0 i sz K:=by
 subst ei
 have h1:=h.rd.1
 refine ⟨⟨by omega,by omega,by omega⟩,hK _ ⟨⟨by simp;omega,?_,fun hne=>?_⟩,fun g o ha hne=>?_⟩ (by simp)⟩
 ·rw [List.length_take,h.rd.2.1]
  simp only [Int.toNat_natCast,Int.toNat_zero,Nat.sub_zero]
  exact Nat.min_eq_left (Nat.mul_le_mul_right _ hn)
 ·have hx:xs≠[]:=by rintro rfl;simp at hne
  obtain ⟨g,o,ha,hc⟩:=h.rd.2.2 hx
  refine ⟨g,o,?_,fun j v hv=>hc j v ?_⟩
  ·simp only [Int.toNat_zero,Nat.zero_mul]
   split
   ·exact ha
   ·rw [ha];simp [Addr.add]
  ·rw [List.getElem?_take] at hv
   split at hv
   ·exact hv
   ·cases hv
 ·have hx:xs≠[]:=by rintro rfl;simp at hne
  obtain ⟨g',o',ha',hc⟩:=h.rd.2.2 hx
  simp only [Int.toNat_zero,Nat.zero_mul] at ha
  have:s.a=some ⟨g,o,none⟩:=by
   split at ha
   ·exact ha
   ·rw [ha'] at ha ⊢;simpa [Addr.add] using ha
  exact h.tag g o this hx
end Go.Proofs.YtmfgmcajelmgbaaGreatDoor.Mem

namespace Go.Proofs.YtmfgmcajelmgbaaGreatDoor.Srt
open Go Vm Go.RowKit Num Mem Go.Sort Go.Proofs Lab
variable {ω ω' : Tg} {w w' : World} {t : Nat} {e : TypeId} {s : Sl}
theorem swo {α β:Type} {c:α→α→Int} (h:Cmp c) (f:β→α):SWO (ltOf fun i j=>c (f i) (f j)):=by
 refine ⟨fun x=>?_,fun x y z h1 h2=>?_,fun x y z h1 h2=>?_⟩
 ·exact decide_eq_false (show ¬ c (f x) (f x)<0 by rw [h.self];decide)
 ·unfold ltOf at *
  exact decide_eq_true (h.trans _ _ _ (of_decide_eq_true h1) (of_decide_eq_true h2))
 ·unfold ltOf at *
  have h1:¬ c (f x) (f y)<0:=of_decide_eq_false h1
  have h2:¬ c (f y) (f z)<0:=of_decide_eq_false h2
  refine decide_eq_false fun h3=>?_
  have h3:c (f x) (f z)<0:=h3
  have a1:=h.anti (f x) (f y)
  by_cases e:c (f x) (f y)=0
  ·have:=(h.eq _ _).1 e
   rw [this] at h3;exact h2 h3
  ·exact h2 (h.trans _ (f x) _ (by omega) h3)
theorem kd_grow (k:KD w w'):∃ q os,w'=grow (w.drewN q) os:=by
 refine ⟨0,w'.heap.extract w.heap.size w'.heap.size,?_⟩
 have hh:w'.heap=w.heap++w'.heap.extract w.heap.size w'.heap.size:=by
  apply Array.ext_getElem?
  intro i
  rcases Nat.lt_or_ge i w.heap.size with hi | hi
  ·rw [k.1.block i hi,Array.getElem?_append_left hi]
  ·rw [Array.getElem?_append_right hi]
   simp only [Array.getElem?_extract]
   have hs:=k.1.size
   by_cases h:i<w'.heap.size
   ·rw [if_pos (by omega)];congr 1;omega
   ·rw [if_neg (by omega),Array.getElem?_eq_none (by omega)]
 obtain ⟨k1,k2⟩:=k
 have e1:=k1.os
 have e2:=k1.tape
 have e3:=k1.output
 cases w;cases w'
 simp only at hh e1 e2 e3 k2
 subst e1 e2 e3 k2
 unfold grow World.drewN
 simp only [World.mk.injEq,and_true,true_and,Nat.add_zero]
 exact hh
section
variable {enc : Nat → List Value} {k : Nat}
theorem flatK_list (hk:∀ i,(enc i).length=k) (h0:0<k):∀ (l:List Nat),(flatK enc k l.toArray).toList=l.flatMap enc:=by
 intro l
 apply List.ext_getElem?
 intro j
 have hl:∀ l:List Nat,(l.flatMap enc).length=l.length*k:=fun l=>by
  induction l with
  | nil=>simp
  | cons a l ih=>rw [List.flatMap_cons,List.length_append,ih,hk,List.length_cons,Nat.add_mul];omega
 have at_:∀ (l:List Nat) (i j:Nat),j<k→(l.flatMap enc)[i*k+j]?=(l[i]?).bind fun x=>(enc x)[j]?:=by
  intro l
  induction l with
  | nil=>intro i j _;simp
  | cons a l ih =>
   intro i j hj
   rw [List.flatMap_cons]
   cases i with
   | zero=>rw [Nat.zero_mul,Nat.zero_add,List.getElem?_append_left (by rw [hk];exact hj)];rfl
   | succ i =>
    rw [List.getElem?_append_right (by rw [hk,Nat.add_mul];omega),hk,show (i+1)*k+j-k=i*k+j by rw [Nat.add_mul];omega,ih i j hj]
    simp
 by_cases hj:j<l.length*k
 ·have hd:j / k<l.length:=Nat.div_lt_of_lt_mul (by rw [Nat.mul_comm];exact hj)
  have hm:=Nat.mod_lt j h0
  have ej:j=j / k*k+j % k:=by rw [Nat.mul_comm];exact (Nat.div_add_mod j k).symm
  rw [Array.getElem?_toList,Array.getElem?_eq_getElem (by simpa using hj),← getElem!_pos,get_flatK _ _ _ _ (by simpa using hj)]
  conv=>rhs;rw [ej]
  rw [at_ l _ _ hm,List.getElem?_eq_getElem hd,Option.bind_some,List.getElem?_eq_getElem (by rw [hk];exact hm)]
  congr 1
  have e1:l.toArray[j / k]! = l[j / k]:=by rw [getElem!_pos l.toArray (j / k) (by simpa using hd)];simp
  rw [e1,getElem!_pos (enc l[j / k]) (j % k) (by rw [hk];exact hm)]
 ·rw [List.getElem?_eq_none (by simp;omega),List.getElem?_eq_none (by rw [hl];omega)]
theorem putRow_chg (F:Array Value) (n g:Nat) (os:Array Obj):w.grownBy (grow (putRow id (Sort.ahead w n) g 0 F) os) (some g):=by
 refine ⟨rfl,rfl,rfl,by simp,fun k hk hne=>?_⟩
 rw [heap_grow_old _ _ (by simpa using hk)]
 have:g≠k:=fun e=>hne (by rw [e])
 simp [putRow,mapBlock,Sort.ahead,Array.getElem?_modify,this]
theorem putRow_blk {F cur:Array Value} {n g:Nat} {os:Array Obj} {fr:Nat × Nat} (hb:w.heap[g]?=some (.cells cur e fr)) :
  (grow (putRow id (Sort.ahead w n) g 0 F) os).heap[g]?=some (.cells (putCells id 0 F cur) e fr):=by
 have hg:g<w.heap.size:=(Array.getElem?_eq_some_iff.1 hb).1
 rw [heap_grow_old _ _ (by simpa using hg)]
 simp [putRow,mapBlock,Sort.ahead,Array.getElem?_modify,hb,onCells]
theorem take_put (cur F:Array Value) (h:F.size≤cur.size):(putCells id 0 F cur).toList.take F.size=F.toList:=by
 apply List.ext_getElem?
 intro j
 by_cases hj:j<F.size
 ·rw [List.getElem?_take_of_lt hj,Array.getElem?_toList]
  simp [putCells,hj,show j<cur.size by omega]
 ·rw [List.getElem?_take_eq_none (by omega),List.getElem?_eq_none (by simp;omega)]
end
theorem holds_blk {g:Nat} {cur:List Value} {F:Array Value} (hb:Blk w g e cur) (ht:cur.take F.size=F.toList):Holds id w g 0 F:=by
 intro j hj
 refine ⟨?_,hb.frozen _⟩
 have h1:(cur.take F.size)[j]?=F.toList[j]?:=by rw [ht]
 rw [List.getElem?_take_of_lt hj] at h1
 rw [hb.cell,Nat.zero_add,h1,Array.getElem?_toList,Array.getElem?_eq_getElem hj,getElem!_pos F j hj];rfl
theorem sort_rows {enc:Nat→List Value} (h3:∀ i,(enc i).length=2) (h1:∀ i,∀ v∈enc i,v.oneCell'=true) (h:OT ω w t e 2 s ((List.range s.n).flatMap enc)) (hn:s.n<4611686018427387904) {cf:Nat→Nat→Int} (hO:SWO (ltOf cf)) {gf:Nat}
  (eg:∀ args w,(callFunc gf args).run Tryz.prog w=.ok (.enter gf args) w)
  (hc:∀ W,Stp (One t) ω (ext ω w.heap.size t) w W→∀ x y:Nat,Calls Tryz.prog gf #[.agg (enc x).toArray,.agg (enc y).toArray] W fun e w'=>e=.returned (.int .i64 (cf x y))∧KD W w')
  {K:World→Prop} (hK:∀ (is:List Nat) ω' w',is.Perm (List.range s.n)→is.Pairwise (fun a b=>¬ cf b a<0)→Stp (One t) ω ω' w w'→OT ω' w' t e 2 s (is.flatMap enc)→K w'):sortF s (.func (.func gf) #[] #[]) w K:=by
 rcases h.cases with ⟨rfl,hx⟩ | ⟨g,cur,ha,hb',hle,hm,hl,ht⟩
 ·refine .inl ⟨rfl,hK [] ω w (List.Perm.refl _) List.Pairwise.nil (Stp.refl _ _ _) (OT.nil ..)⟩
 ·have hbk:s.v.ownBlock=some g:=by show (Value.slice s.a s.n s.c).ownBlock=_;rw [ha];rfl
  have er:(Array.range s.n)=(List.range s.n).toArray:=by simp
  have stp:∀ (n:Nat) (os:Array Obj) (d:Array Nat),Stp (One t) ω (ext ω w.heap.size t) w (sortWorldK enc 2 w g 0 n d os):=fun n os d=>Chg.stp (grown_chg (putRow_chg _ n g os)) fun k hk=>by injection hk with hk;subst hk;exact hb'.tag
  refine .inr ⟨g,0,enc,cf,gf,#[],ha,rfl,h3,h1,hO,eg,fun m os dk hs x y=>?_,?_,hb'.blk.lt,hn,fun d' n os hp hs=>?_⟩
  ·exact (hc _ (stp m os dk) x y).mono fun e w' ⟨he,k⟩=>⟨he,kd_grow k⟩
  ·unfold HoldsK
   refine holds_blk hb'.blk ?_
   rw [size_flatK,Array.size_range,ht,er,flatK_list h3 (by decide)]
  ·have hsz:d'.size=s.n:=by have:=hp.1;simpa using this
   have p1:d'.toList.Perm (List.range s.n):=by
    have:=hp.2.2
    have e1:d'.extract 0 s.n=d':=by rw [← hsz];exact Array.extract_size
    have e2:(Array.range s.n).extract 0 s.n=Array.range s.n:=by have:=Array.extract_size (xs:=Array.range s.n);rwa [Array.size_range] at this
    rw [e1,e2] at this
    simpa using this
   have p2:d'.toList.Pairwise (fun a b=>¬ cf b a<0):=by
    rw [List.pairwise_iff_getElem]
    intro i j hi hj hij
    have hi':i<d'.size:=by simpa using hi
    have hj':j<d'.size:=by simpa using hj
    have:=hs i j (Nat.zero_le _) hij (by omega)
    rw [getElem!_pos d' i hi',getElem!_pos d' j hj'] at this
    unfold ltOf at this
    have:=of_decide_eq_false this
    simpa using this
   refine hK d'.toList _ _ p1 p2 (stp n os d') ⟨?_,fun k hk=>?_⟩
   ·have hss:s=⟨some ⟨g,0,none⟩,s.n,s.c⟩:=by rw [← ha]
    have ef:(flatK enc 2 d').toList=d'.toList.flatMap enc:=by have:=flatK_list h3 (by decide) d'.toList;simpa using this
    have hcs:(flatK enc 2 d').size≤cur.toArray.size:=by
     rw [size_flatK,hsz,List.size_toArray,hl];exact Nat.mul_le_mul_right _ hle
    rw [hss]
    refine Own.mk' (cur:=(putCells id 0 (flatK enc 2 d') cur.toArray).toList) (Nat.zero_le _) ?_ hle hm (by simp [putCells,hl]) ?_
    ·unfold Blk
     have:=putRow_blk (w:=w) (n:=n) (os:=os) (F:=flatK enc 2 d') hb'.blk
     refine Eq.trans this ?_
     simp
    ·have:=take_put cur.toArray (flatK enc 2 d') hcs
     rw [size_flatK,hsz] at this
     rw [this,ef]
   ·rw [hbk] at hk
    injection hk with hk
    subst hk
    rw [ext_old hb'.blk.lt];exact hb'.tag
end Go.Proofs.YtmfgmcajelmgbaaGreatDoor.Srt

namespace Go.Proofs.YtmfgmcajelmgbaaGreatDoor.Mem
open Go Vm Go.RowKit Num
theorem put_stp' {ω:Tg} {w:World} {t g:Nat} {o:Obj} (ht:ω g=t):Stp (One t) ω ω w (w.putObj g o) :=
 ⟨rfl,rfl,rfl,by simp [World.putObj],fun _ _=>rfl,fun k _ hT=>World.putObj_heap_other fun e=>by subst e;rw [ht,one_self] at hT;cases hT⟩
structure MT (ω:Tg) (w:World) (t g:Nat) (al:List (ByteArray × Value)):Prop where
 ex:∃ es clock,w.heap[g]?=some (.map es clock)∧es.toList.map (fun e=>(e.key,e.val))=al.map (fun p=>(Value.string p.1,p.2))
 tag:ω g=t
variable {ω ω' : Tg} {w w' : World} {t g : Nat} {al : List (ByteArray × Value)} {P : Program}
theorem MT.stp {T:Nat→Bool} (h:MT ω w t g al) (s:Stp T ω ω' w w') (ne:T t=false):MT ω' w' t g al:=by
 obtain ⟨es,clock,hb,he⟩:=h.ex
 exact ⟨⟨es,clock,by rw [s.block g (heap_lt hb) (by rw [h.tag];exact ne)];exact hb,he⟩,(s.same g (heap_lt hb)).trans h.tag⟩
end Go.Proofs.YtmfgmcajelmgbaaGreatDoor.Mem

namespace Go.Proofs.YtmfgmcajelmgbaaGreatDoor.Mem
open Go Vm Go.RowKit Num
abbrev AL:=List (ByteArray × Value)
def encE (p:ByteArray × Value):Value × Value:=(.string p.1,p.2)
structure MV (ω:Tg) (w:World) (t g:Nat) (al:AL):Prop where
 ex:∃ es clock,w.heap[g]?=some (.map es clock)∧MapKept.Stamped es clock∧es.toList.map (fun e=>(e.key,e.val))=al.map encE
 tag:ω g=t
def getV (s:ByteArray):AL→Option Value
 | []=>none
 | (k,v)::r=>if s=k then some v else getV s r
def updA (s:ByteArray) (v:Value):AL→AL
 | []=>[(s,v)]
 | (k,x)::r=>if s=k then (s,v)::r else (k,x)::updA s v r
def delA (s:ByteArray):AL→AL
 | []=>[]
 | (k,x)::r=>if s=k then r else (k,x)::delA s r
variable {ω ω' : Tg} {w w' : World} {t g : Nat} {al : AL} {P : Program} {T : Nat → Bool}
theorem MV.stp (h:MV ω w t g al) (s:Stp T ω ω' w w') (ne:T t=false):MV ω' w' t g al:=by
 obtain ⟨es,clock,hb,hs,he⟩:=h.ex
 exact ⟨⟨es,clock,by rw [s.block g (heap_lt hb) (by rw [h.tag];exact ne)];exact hb,hs,he⟩,(s.same g (heap_lt hb)).trans h.tag⟩
theorem MV.lt (h:MV ω w t g al):g<w.heap.size:=by obtain ⟨es,clock,hb,_⟩:=h.ex;exact heap_lt hb
theorem find_al (s:ByteArray):∀ (es:List MapEntry) (al:AL) (i:Nat),es.map (fun e=>(e.key,e.val))=al.map encE →
  (getV s al=none∧Instr.findNow .string (.string s) es i=some none) ∨
  ∃ j e v,getV s al=some v∧Instr.findNow .string (.string s) es i=some (some (i+j,v))∧es[j]?=some e∧e.key=.string s∧e.val=v∧j<al.length ∧
   (∀ x,al.set j (s,x)=updA s x al)∧al.eraseIdx j=delA s al
 | [],[],i,_=>.inl ⟨rfl,rfl⟩
 | [],_::_,i,h=>by simp at h
 | _::_,[],i,h=>by simp at h
 | e::es,(k,v)::al,i,h=>by
  simp only [List.map_cons,List.cons.injEq,encE,Prod.mk.injEq] at h
  obtain ⟨⟨h1,h2⟩,h3⟩:=h
  by_cases hs:s=k
  ·subst hs
   have hb:(s==s)=true:=(MapKept.bytes_beq s s).2 rfl
   refine .inr ⟨0,e,v,by simp [getV],?_,rfl,h1,h2,by simp,fun x=>by simp [updA],by simp [delA]⟩
   unfold Instr.findNow
   rw [h1]
   simp [Instr.sameNow,hb,h2]
  ·have hb:(s==k)=false:=by
    cases hc:(s==k) with
    | true=>exact absurd ((MapKept.bytes_beq s k).1 hc) hs
    | false=>rfl
   have fn:∀ x,Instr.findNow .string (.string s) es (i+1)=some x→Instr.findNow .string (.string s) (e::es) i=some x:=fun x hx=>by
    unfold Instr.findNow
    rw [h1]
    simp [Instr.sameNow,hb,hx]
   rcases find_al s es al (i+1) (by simpa [encE] using h3) with ⟨g1,g2⟩ | ⟨j,e',v',g1,g2,g3,g4,g5,g6,g7,g8⟩
   ·exact .inl ⟨by simp [getV,hs,g1],fn _ g2⟩
   ·refine .inr ⟨j+1,e',v',by simp [getV,hs,g1],?_,by simpa using g3,g4,g5,by simp;omega,fun x=>by simp [updA,hs,g7 x],by simp [delA,hs,g8]⟩
    rw [fn _ g2];congr 3;omega
theorem chk_key {kt:TypeId} (hk:P.underlying kt=some .string) (s:ByteArray) (w:World) (e:Bool):(Instr.checkKey e 10000 kt (.string s)).run P w=.ok () w:=MapKept.run_checkKey (k:=.string s) hk (by simp [MapKept.IsKey]) e 9999
theorem run_look_V {mt kt et:TypeId} (h:MV ω w t g al) (hm:P.underlying mt=some (.map kt et)) (hk:P.underlying kt=some .string) {z:Value} (hz:∀ w,(zeroValue et).run P w=.ok z w) (s:ByteArray) (ok:Bool) (d:Nat) :
  (Instr.lookup mt (.map (some g)) (.string s) ok).run P (w.drewN d)=.ok (if ok then .tuple #[(getV s al).getD z,.bool (getV s al).isSome] else (getV s al).getD z) (w.drewN d):=by
 obtain ⟨es,clock,hb,hs,he⟩:=h.ex
 have hb':(w.drewN d).heap[g]?=some (.map es clock):=hb
 have hc:=fun e=>chk_key (P:=P) hk s (w.drewN d) e
 rcases find_al s es.toList al 0 he with ⟨g1,g2⟩ | ⟨j,e',v',g1,g2,_⟩
 ·simp [Instr.lookup,run_underlying hm,MapKept.run_getObj_map hb',hc,MapKept.run_findKey hk g2,hz,Result.andThen,g1]
 ·simp [Instr.lookup,run_underlying hm,MapKept.run_getObj_map hb',hc,MapKept.run_findKey hk g2,Result.andThen,g1]
theorem rd1_V {α:Type} {f:α→Value} {mt kt et:TypeId} (h:MV ω w t g al) (hm:P.underlying mt=some (.map kt et)) (hk:P.underlying kt=some .string) {z:Value} (hz:∀ w,(zeroValue et).run P w=.ok z w) {s:ByteArray} {K:α→Prop} {a:α}
  (e:(getV s al).getD z=f a) (hK:K a):G.rd1 P (Instr.lookup mt (.map (some g)) (.string s) false) f w K :=
 ⟨a,fun d=>by rw [run_look_V h hm hk hz s false d,e];rfl,hK⟩
theorem mkV {mt:TypeId} (t:Nat) {K:Option Nat→World→Prop} (hK:∀ g ω' w',Stp Non ω ω' w w'→MV ω' w' t g []→K (some g) w'):G.runM P (Instr.makeMap mt none) w K :=
 ⟨some w.heap.size,_,run_makeMap_plain w mt,hK w.heap.size (ext ω w.heap.size t) _ ((Keep.alloc w _).stp ω t) ⟨⟨#[],0,World.alloc_heap_new w _,MapKept.stamped_empty 0,rfl⟩,ext_new (Nat.le_refl _)⟩⟩
theorem updV {mt kt et:TypeId} (h:MV ω w t g al) (hm:P.underlying mt=some (.map kt et)) (hk:P.underlying kt=some .string) {s:ByteArray} {v:Value} {K:World→Prop}
  (hK:∀ ω' w',Stp (One t) ω ω' w w'→MV ω' w' t g (updA s v al)→K w'):G.runU P (Instr.mapUpdate mt (.map (some g)) (.string s) v) w K:=by
 obtain ⟨es,clock,hb,hs,he⟩:=h.ex
 have hc:=fun e=>chk_key (P:=P) hk s w e
 rcases find_al s es.toList al 0 he with ⟨g1,g2⟩ | ⟨j,e',v',g1,g2,g3,g4,g5,g6,g7,_⟩
 ·have app:∀ al:AL,getV s al=none→updA s v al=al++[(s,v)]:=by
   intro al
   induction al with
   | nil=>intro _;rfl
   | cons p r ih =>
    intro h
    obtain ⟨k,x⟩:=p
    by_cases e:s=k
    ·simp [getV,e] at h
    ·simp only [getV,if_neg e] at h
     simp [updA,if_neg e,ih h]
  have hne:∀ al:AL,getV s al=none→∀ p∈al,p.1≠s:=by
   intro al
   induction al with
   | nil=>intro _ p hp;cases hp
   | cons p r ih =>
    intro h q hq
    obtain ⟨k,x⟩:=p
    by_cases e:s=k
    ·simp [getV,e] at h
    ·simp only [getV,if_neg e] at h
     rcases List.mem_cons.1 hq with rfl | hq
     ·exact fun e'=>e e'.symm
     ·exact ih h q hq
  refine ⟨w.putObj g (.map (es.push { key:=.string s,val:=v,born:=clock }) (clock+1)),?_,hK ω _ (put_stp' h.tag) ⟨⟨_,_,World.putObj_heap_same (heap_lt hb),MapKept.stamped_push hs fun x hx hxe=>?_,?_⟩,h.tag⟩⟩
  ·simp [Instr.mapUpdate,run_underlying hm,MapKept.run_getObj_map hb,hc,MapKept.run_findKey hk g2,MapKept.run_setObj_map _ hb,Result.andThen,World.putObj]
  ·have:(x.key,x.val)∈es.toList.map (fun e=>(e.key,e.val)):=List.mem_map_of_mem hx
   rw [he] at this
   obtain ⟨p,hp,hpe⟩:=List.mem_map.1 this
   simp only [encE,Prod.mk.injEq] at hpe
   rw [hxe] at hpe
   injection hpe.1 with q
   exact hne al g1 p hp q
  ·rw [app al g1];simp [he,encE]
 ·have hj:es[j]?=some e':=by simpa using g3
  refine ⟨w.putObj g (.map (es.modify j fun e=>{ e with key:=.string s,val:=v }) clock),?_,hK ω _ (put_stp' h.tag) ⟨⟨_,_,World.putObj_heap_same (heap_lt hb),MapKept.stamped_modify hs _ _ (fun _ _=>rfl) (fun e'' _ he''=>by rw [hj] at he'';cases he'';exact g4.symm),?_⟩,h.tag⟩⟩
  ·simp [Instr.mapUpdate,run_underlying hm,MapKept.run_getObj_map hb,hc,MapKept.run_findKey hk g2,hj,g4,MapKept.run_keyThatStays (d:=.string) (k:=.string s) (by simp [MapKept.IsKey]),MapKept.run_setObj_map _ hb,Result.andThen,World.putObj]
  ·rw [← g7 v,Array.toList_modify,List.map_set,← he]
   apply List.ext_getElem?
   intro i
   simp only [List.getElem?_map,List.getElem?_modify,List.getElem?_set]
   by_cases e:j=i
   ·subst e
    have hlt:j<es.toList.length:=(List.getElem?_eq_some_iff.1 g3).1
    have hlt':j<es.size:=by simpa using hlt
    simp [encE,hj,hlt']
   ·simp [e]
structure IT (ω:Tg) (w:World) (u r t g:Nat) (al rest:AL):Prop where
 ex:∃ es clock since seen c0,w.heap[g]?=some (.map es clock)∧MapKept.Stamped es clock∧es.toList.map (fun e=>(e.key,e.val))=al.map encE ∧
  w.heap[r]?=some (.mapIter (some g) since seen c0)∧(∀ x∈es.toList,x.born<since)∧since≤c0∧since≤clock∧(leftOf es seen).toList.map (fun e=>(e.key,e.val))=rest.map encE
 tg:ω g=t
 tr:ω r=u
variable {u r : Nat} {rest : AL}
theorem IT.map (h:IT ω w u r t g al rest):MV ω w t g al:=by
 obtain ⟨es,clock,since,seen,c0,hb,hs,he,_⟩:=h.ex
 exact ⟨⟨es,clock,hb,hs,he⟩,h.tg⟩
theorem IT.stp (h:IT ω w u r t g al rest) (s:Stp T ω ω' w w') (n1:T u=false) (n2:T t=false):IT ω' w' u r t g al rest:=by
 obtain ⟨es,clock,since,seen,c0,hb,hs,he,hr,x⟩:=h.ex
 exact ⟨⟨es,clock,since,seen,c0,by rw [s.block g (heap_lt hb) (by rw [h.tg];exact n2)];exact hb,hs,he,by rw [s.block r (heap_lt hr) (by rw [h.tr];exact n1)];exact hr,x⟩,(s.same g (heap_lt hb)).trans h.tg,(s.same r (heap_lt hr)).trans h.tr⟩
theorem setBlock_stp {o:Obj} (hr:ω r=u):Stp (One u) ω ω w (ChangeMaps.setBlock w r o) :=
 ⟨rfl,rfl,rfl,by simp [ChangeMaps.setBlock],fun _ _=>rfl,fun k hk hT=>by
  have hne:r≠k:=fun e=>by subst e;rw [hr,one_self] at hT;cases hT
  simp [ChangeMaps.setBlock,hne]⟩
theorem left_push {es:Array MapEntry} {seen:Array Nat} {e:MapEntry} (hn:(es.toList.map (·.born)).Nodup) (he:e∈(leftOf es seen).toList) :
  ∃ a b,(leftOf es seen).toList=a++e::b∧(leftOf es (seen.push e.born)).toList=a++b:=by
 have h1:(leftOf es (seen.push e.born)).toList=(leftOf es seen).toList.filter fun x=>!(x.born==e.born):=by
  simp only [leftOf,Array.toList_filter,List.filter_filter]
  congr 1
  funext x
  simp only [Array.contains_push,Bool.not_or]
  rw [Bool.and_comm]
 have hn':((leftOf es seen).toList.map (·.born)).Nodup:=by
  have:(leftOf es seen).toList.Sublist es.toList:=by simp only [leftOf,Array.toList_filter];exact List.filter_sublist
  exact (this.map _).nodup hn
 obtain ⟨a,b,hab⟩:=List.append_of_mem he
 refine ⟨a,b,hab,?_⟩
 rw [h1,hab,List.filter_append,List.filter_cons]
 simp only [beq_self_eq_true,Bool.not_true,Bool.false_eq_true,if_false]
 rw [hab] at hn'
 simp only [List.map_append,List.map_cons] at hn'
 have hd:=List.nodup_append.1 hn'
 have fa:∀ x∈a,(!(x.born==e.born))=true:=fun x hx=>by
  have:=hd.2.2 _ (List.mem_map_of_mem hx) _ (List.mem_cons_self ..)
  simpa using this
 have fb:∀ x∈b,(!(x.born==e.born))=true:=fun x hx=>by
  have:=(List.nodup_cons.1 hd.2.1).1
  simp only [Bool.not_eq_true',beq_eq_false_iff_ne]
  intro q
  exact this (by rw [← q];exact List.mem_map_of_mem hx)
 rw [List.filter_eq_self.2 fa,List.filter_eq_self.2 fb]
end Go.Proofs.YtmfgmcajelmgbaaGreatDoor.Mem

namespace Go.Proofs.YtmfgmcajelmgbaaGreatDoor.Vint
open Go Vm Go.RowKit Num Mem
theorem mod128 (c:UInt8):IntKind.u64.wrap (Int.tmod (c.toNat:Int) (128:Int))=((c.toNat % 128:Nat):Int):=by
 have hc:=c.toNat_lt
 rw [show Int.tmod (c.toNat:Int) (128:Int)=((c.toNat % 128:Nat):Int) from rfl,wU64_id (by omega) (by omega)]
set_option maxRecDepth 4000 in
theorem ru_ok {w:World} {b:Sl} {l:List UInt8} (hb:RdB w b l) (hl:l.length≤140737488355328) (at':Int) {K:Int→Int→Int→World→Prop}
  (hK:K ((uv l at').1:Int) ((uv l at').2.1:Int) ((uv l at').2.2:Int) w):C.tocsinref01_U b at' w K:=by
 have hn:=hb.len
 unfold C.tocsinref01_U
 unfold uv at hK
 refine cond_d (fun h=>?_) (fun h0=>cond_d (fun h=>?_) (fun h1=>?_))
 ·rw [if_pos (.inl h)] at hK;exact hK
 ·rw [if_pos (.inr (by omega))] at hK;exact hK
 rw [if_neg (by omega)] at hK
 obtain ⟨p,rfl⟩:∃ p:Nat,at'=(p:Int):=⟨at'.toNat,by omega⟩
 rw [Int.toNat_natCast] at hK
 unfold C.tocsinref01_U.S9
 refine C.tocsinref01_U.L5_ind fun X hX=>?_
 have key:∀ (t:List UInt8) (i n:Nat),t=l.drop (p+i)→p+i≤l.length→i≤9→n<128 ^ i →
   K ((uvGo p t i n).1:Int) ((uvGo p t i n).2.1:Int) ((uvGo p t i n).2.2:Int) w→X b (p:Int) (n:Int) (i:Int) w:=by
  intro t
  induction t with
  | nil =>
   intro i n ht hp hi hn1 hK
   have:l.length≤p+i:=by
    rcases Nat.lt_or_ge (p+i) l.length with h | h
    ·rw [List.drop_eq_getElem_cons h] at ht;cases ht
    ·exact h
   refine hX _ _ _ _ _ ?_
   unfold C.tocsinref01_U.S7
   rw [wI64 (x:=((b.n:Nat):Int)-(p:Int)) (by omega) (by omega)]
   exact cond_d (fun _=>cond_d (fun _=>hK) (fun h=>by omega)) (fun h=>by omega)
  | cons c t ih =>
   intro i n ht hp hi hn1 hK
   have hlt:p+i<l.length:=by
    rcases Nat.lt_or_ge (p+i) l.length with h | h
    ·exact h
    ·rw [List.drop_of_length_le h] at ht;cases ht
   rw [List.drop_eq_getElem_cons hlt] at ht
   injection ht with hc ht
   refine hX _ _ _ _ _ ?_
   unfold C.tocsinref01_U.S7
   rw [wI64 (x:=((b.n:Nat):Int)-(p:Int)) (by omega) (by omega),wI64 (x:=(p:Int)+(i:Int)) (by omega) (by omega)]
   refine cond_d (fun _=>cond_d (fun h=>by omega) (fun _=>?_)) (fun h=>by omega)
   refine hb.ati (k:=p+i) (by omega) hlt ?_
   rw [← hc]
   rw [uvGo] at hK
   refine uHead (fun h h'=>?_) (fun hne=>?_)
   ·rw [if_pos (by omega)] at hK;exact hK
   rw [if_neg (by omega)] at hK
   rw [wI64 (x:=(7:Int)*(i:Int)) (by omega) (by omega),wU64_id (x:=(7:Int)*(i:Int)) (by omega) (by omega)]
   refine ⟨by decide,by omega,?_⟩
   have eq:=orStep (x:=c.toNat % 128) hi hn1 (Nat.mod_lt _ (by decide)) (fun h=>by omega) (mod128 c) (Y:=(7:Int)*(i:Int)) (by omega)
   have e:=eq.1
   have q1:=eq.2.1
   rw [e]
   refine cond_d (fun h=>?_) (fun h=>?_)
   ·refine cond_eq (fun h0=>cond_d (fun hi0=>?_) (fun hi0=>?_)) (fun h0=>?_)
    ·rw [if_pos (by omega)] at hK;exact hK
    ·rw [if_neg (by omega),if_pos (by omega)] at hK
     rw [wI64 (by omega) (by omega)]
     exact hK
    ·rw [if_neg (by omega),if_pos (by omega)] at hK
     rw [wI64 (by omega) (by omega)]
     exact hK
   ·rw [if_neg (by omega),if_neg (by omega)] at hK
    rw [wI64 (x:=(i:Int)+1) (by omega) (by omega)]
    refine ih (i+1) _ (by rw [ht];congr 1) (by omega) ?_ q1 hK
    rcases Nat.lt_or_ge i 9 with h9 | h9
    ·omega
    ·have:=c.toNat_lt;omega
 exact key _ 0 0 (by simp) (by omega) (by omega) (by decide) hK
end Go.Proofs.YtmfgmcajelmgbaaGreatDoor.Vint

namespace Go.Proofs.YtmfgmcajelmgbaaGreatDoor.Chunk
open Go Vm Go.RowKit Num Mem Bits Vint
variable {ω ω' : Tg} {w w' w0 : World} {t gr gs gp p k : Nat} {bs : List UInt8} {T D A B : Int} {V : Nat} {bad : Bool}
theorem newStr_ok {b:Sl} (hb:RdB w0 b bs) (hs:bs.length≤4000) (t:Nat) (ht:0<t) {x:Int} (hx:x=((8*bs.length:Nat):Int)) {K:Option Addr→World→Prop} {ω0:Tg} (top0:Top w0 ω0 w) (hK:∀ g ω' w',Stp (Duo t (t+1)) ω0 ω' w w'→StT ω' w' t g (byteBits bs) 0→K (wp g) w'):C.tocsinref02_New b x w K:=by
 subst hx
 have hn:=hb.len
 have hlen:=byteBits_len bs
 unfold C.tocsinref02_New
 refine cond_d (fun h=>by omega) (fun _=>cond_d (fun h=>by omega) (fun _=>?_))
 rw [wI64 (by omega) (by omega)]
 refine cond_d (fun h=>by omega) (fun _=>?_)
 refine new_T (ω:=ω0) t fun g ω1 w1 k1 b1=>?_
 unfold C.tocsinref02_New.S9
 refine C.tocsinref02_New.L5_ind fun X hX=>?_
 have key:∀ (d i:Nat) (ω2:Tg) (w2:World),i+d=8*bs.length→Stp (Duo t (t+1)) ω0 ω2 w w2→StT ω2 w2 t g ((byteBits bs).take i) 0→X b ((8*bs.length:Nat):Int) (wp g) (i:Int) w2:=by
  intro d
  induction d with
  | zero =>
   intro i ω2 w2 hi s h
   refine hX _ _ _ _ _ ?_
   unfold C.tocsinref02_New.S7 C.tocsinref02_New.S2
   refine cond_d (fun h=>by omega) (fun _=>hK g ω2 w2 s ?_)
   rw [List.take_of_length_le (by omega)] at h
   exact h
  | succ d ih =>
   intro i ω2 w2 hi s h
   refine hX _ _ _ _ _ ?_
   unfold C.tocsinref02_New.S7
   refine cond_d (fun _=>?_) (fun h=>by omega)
   have kd:=drew_stp ω2 w2
   obtain ⟨sl,bt,o⟩:=(h.non kd).ex
   have hbl:=o.len
   rw [List.length_take,Nat.min_eq_left (by omega)] at hbl
   have sd:=s.trans (kd.non _)
   have topd:=top0.stp sd (by
    have h1:Nat.beq 0 t=false:=beq_no (by omega)
    have h2:Nat.beq 0 (t+1)=false:=beq_no (by omega)
    show (Nat.beq 0 t || Nat.beq 0 (t+1))=false
    rw [h1,h2];rfl)
   refine ptr_at (cSl_at (by rw [bt.cell];rfl) ⟨by decide,?_⟩)
   rw [idx8 (by omega)]
   have h8:i / 8<bs.length:=by omega
   refine RdB.at_ (hb.keep topd.k) h8 ⟨by decide,?_⟩
   have e7:IntKind.u64.wrap (IntKind.i64.wrap ((7:Int)-(Int.tmod (i:Int) (8:Int))))=((7-i % 8:Nat):Int):=by
    rw [show Int.tmod (i:Int) (8:Int)=((i % 8:Nat):Int) from rfl,wI64 (by omega) (by omega),wU64_id (by omega) (by omega)];omega
   rw [e7]
   refine ⟨by omega,?_⟩
   have hat:=byteBits_at bs (i / 8) (i % 8) _ (by omega) (List.getElem?_eq_getElem h8)
   rw [show 8*(i / 8)+i % 8=i by omega] at hat
   have ebit:((Go.bits .and .u8 (shr .u8 (bs[i / 8].toNat:Int) ((7-i % 8:Nat):Int)) (1:Int))==(1:Int))=bitOf bs[i / 8].toNat (7-i % 8):=by
    have hlt:=bs[i / 8].toNat_lt
    have e:=shr_nat .u8 (bs[i / 8].toNat:Int) (7-i % 8) (by simp only [IntKind.bits];omega)
    have e':(bs[i / 8].toNat:Int) / 2 ^ (7-i % 8)=((bs[i / 8].toNat / 2 ^ (7-i % 8):Nat):Int):=by simp
    have hq:bs[i / 8].toNat / 2 ^ (7-i % 8)<256:=Nat.lt_of_le_of_lt (Nat.div_le_self _ _) hlt
    unfold bitOf
    rw [e,e']
    generalize bs[i / 8].toNat / 2 ^ (7-i % 8)=q at hq
    rw [show (1:Int)=((1:Nat):Int) from rfl,bits_and rfl (by simp only [IntKind.bits];omega) (by decide),Nat.and_one_is_mod]
    rcases Nat.mod_two_eq_zero_or_one q with h | h<;>rw [h]<;>rfl
   rw [ebit]
   have e:(byteBits bs).take (i+1)=(byteBits bs).take i++[bitOf bs[i / 8].toNat (7-i % 8)]:=by rw [List.take_add_one,hat];rfl
   refine new_at ⟨same_keep (Keep.alloc _ _) bt.blk.lt,?_⟩
   have:=push_T (ty:=199) tib o (n:=1) (ds:=#[.bool (bitOf bs[i / 8].toNat (7-i % 8))]) rfl (by intro v hv;simp at hv;subst hv;rfl) (by simp only [maxLen];omega) (by omega) (K:=fun l25 w26=>G.ptr (wp g) fun p27=>G.st p27 l25.v w26 fun w28=>X b ((8*bs.length:Nat):Int) (wp g) (IntKind.i64.wrap ((i:Int)+1)) w28) fun r ω3 w3 k3 o3 hr=>?_
   ·exact this
   ·refine ptr_at (st_T (bt.stp k3 (beq_no (by omega))) (by simp) fun ω4 w4 k4 b4=>?_)
    rw [wI64 (by omega) (by omega),show (i:Int)+1=((i+1:Nat):Int) by omega]
    refine ih (i+1) ω4 w4 (by omega) (sd.trans (k3.two.trans k4.one)) ⟨r,b4,?_⟩
    have:=o3.stp k4 (beq_no (by omega))
    rw [e,Obl,vbs_app];exact this
 exact key (8*bs.length) 0 ω1 w1 (by omega) (k1.non _) ⟨nilS,b1,OT.nil _ _ _ _ _⟩
theorem sread_ok {a:Nat} (h:StT ω w t gs (byteBits bs) (a:Int)) (hs:bs.length≤4000) (ha:a≤8*bs.length) (hk:k≤64) {x:Int} (hx:x=(k:Int)) {K:Int→Int→World→Prop}
  (hS:8*bs.length<a+k→∀ w',Keep w w'→K 0 9 w')
  (hK:a+k≤8*bs.length→∀ ω' w',Stp (Mem.One t) ω ω' w w'→StT ω' w' t gs (byteBits bs) ((a+k:Nat):Int)→K ((num ((rest bs a).take k):Nat):Int) 0 w'):C.tocsinref02_Stream_ReadBits (wp gs) x w K:=by
 subst hx
 have hlen:=byteBits_len bs
 unfold C.tocsinref02_Stream_ReadBits
 refine cond_d (fun h=>by omega) (fun _=>cond_d (fun h=>by omega) (fun _=>?_))
 unfold C.tocsinref02_Stream_Left
 have kd:=drew_stp ω w
 obtain ⟨s,b,o⟩:=(h.non kd).ex
 have hsn:=o.len
 refine ptr_at (cSl_at (by rw [b.cell];rfl) (ptr_at (cI_at (n:=(a:Int)) (by rw [addr_add,b.cell];rfl) ?_)))
 rw [wI64 (by omega) (by omega)]
 refine cond_d (fun h=>hS (by omega) _ (Keep.drew w)) (fun hp=>?_)
 unfold C.tocsinref02_Stream_ReadBits.S9
 refine C.tocsinref02_Stream_ReadBits.L5_ind fun X hX=>?_
 have key:∀ (d i:Nat) (ω2:Tg) (w2:World),i+d=k→Stp Non ω ω2 w w2→BT ω2 w2 t gs 201 [Sl.v s,.int .i64 (a:Int)]→Obl ω2 w2 (t+1) s (byteBits bs)→X (wp gs) (k:Int) ((num ((rest bs a).take i):Nat):Int) (i:Int) w2:=by
  intro d
  induction d with
  | zero =>
   intro i ω2 w2 hi s2 b2 o2
   refine hX _ _ _ _ _ ?_
   unfold C.tocsinref02_Stream_ReadBits.S7 C.tocsinref02_Stream_ReadBits.S2
   refine cond_d (fun h=>by omega) (fun _=>?_)
   refine ptr_at (cI_at (n:=(a:Int)) (by rw [addr_add,b2.cell];rfl) (ptr_at (st_TA b2 (by simp) fun ω3 w3 s3 b3=>?_)))
   rw [wI64 (by omega) (by omega)] at b3
   have:=hK (by omega) ω3 w3 ((s2.non _).trans s3) ⟨s,b3,o2.stp s3 (beq_no (by omega))⟩
   rw [show i=k by omega]
   exact this
  | succ d ih =>
   intro i ω2 w2 hi s2 b2 o2
   refine hX _ _ _ _ _ ?_
   unfold C.tocsinref02_Stream_ReadBits.S7
   refine cond_d (fun _=>⟨by decide,?_⟩) (fun h=>by omega)
   have kd2:=drew_stp ω2 w2
   have b2':=b2.stp kd2
   have o2':=o2.stp kd2
   refine ptr_at (cSl_at (by rw [b2'.cell];rfl) (ptr_at (cI_at (n:=(a:Int)) (by rw [addr_add,b2'.cell];rfl) ?_)))
   rw [wI64 (x:=(a:Int)+(i:Int)) (by omega) (by omega)]
   obtain ⟨c,hc⟩:∃ c,(byteBits bs)[a+i]?=some c:=⟨_,List.getElem?_eq_getElem (by omega)⟩
   refine OT.ix o2' (by decide) (i:=(a:Int)+(i:Int)) (by omega) (by omega) fun q _ _ hq=>?_
   have hcell:=hq 0 (.bool c) (by decide) (by
    rw [show ((a:Int)+(i:Int)).toNat*1+0=a+i by omega]
    simp only [vbs,List.getElem?_map,hc];rfl)
   rw [show q.add 0=q by simp [Addr.add]] at hcell
   refine cB_at hcell ?_
   have hlt:=num_lt ((rest bs a).take i)
   have hil:((rest bs a).take i).length=i:=by rw [List.length_take,rest_len];omega
   have hpw:2 ^ i≤2 ^ 63:=Nat.pow_le_pow_right (by decide) (by omega)
   rw [hil] at hlt
   have e:(rest bs a).take (i+1)=(rest bs a).take i++[c]:=by
    have hr:(rest bs a)[i]?=some c:=by rw [rest,List.getElem?_drop];exact hc
    rw [List.take_add_one,hr];rfl
   have es:shl .u64 ((num ((rest bs a).take i):Nat):Int) (1:Int)=((2*num ((rest bs a).take i):Nat):Int):=by
    have:=shl64 (num ((rest bs a).take i)) 1 (by decide)
    rw [show ((1:Nat):Int)=(1:Int) from rfl] at this
    rw [this]
    congr 1
    omega
   have nx:=ih (i+1) ω2 _ (by omega) (s2.trans kd2) b2' o2'
   rw [e,num_snoc] at nx
   rw [es,wI64 (by omega) (by omega),show (i:Int)+1=((i+1:Nat):Int) by omega]
   refine cond_of (fun hb=>?_) (fun hb=>?_)
   ·rw [hb] at nx
    rw [wU64_id (by omega) (by omega)]
    exact nx
   ·rw [hb] at nx
    exact nx
 exact key k 0 ω _ (by omega) kd b o
structure RrS (ω:Tg) (w:World) (t gr gp gs:Nat) (bs:List UInt8) (p:Nat) (T D:Int) (V:Nat) (A B:Int) (bad:Bool):Prop where
 blk:BT ω w t gr 193 [.pointer (wp gs),.pointer (wp gp),.bool bad]
 st:BT ω w (t+1) gp 196 [.int .i64 T,.int .i64 D,.int .u64 (V:Int),.int .i64 A,.int .i64 B]
 str:StT ω w (t+2) gs (byteBits bs) (p:Int)
 le:p≤8*bs.length
 small:bs.length≤4000
theorem RrS.stp {X:Nat→Bool} (h:RrS ω w t gr gp gs bs p T D V A B bad) (s:Stp X ω ω' w w') (n0:X t=false) (n1:X (t+1)=false) (n2:X (t+2)=false) (n3:X (t+3)=false):RrS ω' w' t gr gp gs bs p T D V A B bad :=
 ⟨h.blk.stp s n0,h.st.stp s n1,h.str.stp s n2 n3,h.le,h.small⟩
theorem RrS.non (h:RrS ω w t gr gp gs bs p T D V A B bad) (s:Stp Non ω ω' w w'):RrS ω' w' t gr gp gs bs p T D V A B bad:=h.stp s rfl rfl rfl rfl
theorem RrS.setBad (h:RrS ω w t gr gp gs bs p T D V A B bad) (b:Bool) {K:World→Prop} (hK:∀ ω' w',Stp (Rng t 4) ω ω' w w'→RrS ω' w' t gr gp gs bs p T D V A B b→K w'):G.st (Addr.add ⟨gr,0,none⟩ 2) (.bool b) w K :=
 st_TA h.blk (by simp) fun ω2 w2 s2 b2=>hK ω2 w2 (s2.rng (by omega) (by omega)) ⟨b2,h.st.stp s2 (beq_no (by omega)),h.str.stp s2 (beq_no (by omega)) (beq_no (by omega)),h.le,h.small⟩
theorem RrS.setA (h:RrS ω w t gr gp gs bs p T D V A B bad) {j:Nat} (hj:j<5) {v:Value} {K:World→Prop} {T' D':Int} {V':Nat} {A' B':Int}
  (he:[Value.int .i64 T,.int .i64 D,.int .u64 (V:Int),.int .i64 A,.int .i64 B].set j v=[.int .i64 T',.int .i64 D',.int .u64 (V':Int),.int .i64 A',.int .i64 B'])
  (hK:∀ ω' w',Stp (Rng t 4) ω ω' w w'→RrS ω' w' t gr gp gs bs p T' D' V' A' B' bad→K w'):G.st (Addr.add ⟨gp,0,none⟩ j) v w K :=
 st_TA h.st (by simpa using hj) fun ω' w' s b=>hK ω' w' (s.rng (by omega) (by omega)) ⟨h.blk.stp s (beq_no (by omega)),by rw [Nat.zero_add,he] at b;exact b,h.str.stp s (beq_no (by omega)) (beq_no (by omega)),h.le,h.small⟩
theorem RrS.set0 (h:RrS ω w t gr gp gs bs p T D V A B bad) {K:World→Prop} {T':Int}
  (hK:∀ ω' w',Stp (Rng t 4) ω ω' w w'→RrS ω' w' t gr gp gs bs p T' D V A B bad→K w'):G.st ⟨gp,0,none⟩ (.int .i64 T') w K:=by
 have:=h.setA (j:=0) (by decide) (v:=.int .i64 T') (T':=T') (D':=D) (V':=V) (A':=A) (B':=B) rfl hK
 rwa [addr_add] at this
theorem RrS.rdP (h:RrS ω w t gr gp gs bs p T D V A B bad) {K:Option Addr→Prop} (hK:K (wp gp)):G.ptr (wp gr) fun p=>G.cP (p.add 1) w K:=ptr_at (cP_at (by rw [addr_add,h.blk.cell];rfl) hK)
theorem RrS.rdB (h:RrS ω w t gr gp gs bs p T D V A B bad) {K:Bool→Prop} (hK:K bad):G.ptr (wp gr) fun p=>G.cB (p.add 2) w K:=ptr_at (cB_at (by rw [addr_add,h.blk.cell];rfl) hK)
theorem gbits_ok (h:RrS ω w t gr gp gs bs p T D V A B bad) (hk:k≤64) {x:Int} (hx:x=(k:Int)) {K:Int→World→Prop}
  (hK:∀ (v p':Nat) bad' ω' w',v<2 ^ k→(∀ y tail,y<2 ^ k→rest bs p=low y k++tail→v=y∧rest bs p'=tail∧bad'=bad)→Stp (Rng t 4) ω ω' w w'→RrS ω' w' t gr gp gs bs p' T D V A B bad'→K (v:Int) w'):C.tocsinref08_Reader_bits (wp gr) x w K:=by
 unfold C.tocsinref08_Reader_bits
 refine ptr_at (cP_at (b:=wp gs) (by rw [h.blk.cell];rfl) ?_)
 have hle:=h.le
 refine sread_ok h.str h.small h.le hk hx (fun hp w1 k1=>?_) (fun hp ω1 w1 s1 r1=>?_)
 ·have s1:=k1.stp0 ω
  have h1:=h.non s1
  have no:∀ (y:Nat) (tail:List Bool),y<2 ^ k→rest bs p=low y k++tail→False:=fun y tail _ e=>by
   have:=congrArg List.length e
   rw [rest_len,List.length_append,low_len] at this
   omega
  refine h1.rdB ?_
  have fin:∀ ω2 w2,Stp (Rng t 4) ω ω2 w1 w2→RrS ω2 w2 t gr gp gs bs p T D V A B true→K 0 w2:=fun ω2 w2 s2 r2=>hK 0 p true ω2 w2 (Nat.pow_pos (by decide)) (fun y tail hy e=>(no y tail hy e).elim) ((s1.non _).trans s2) r2
  exact cond_of (fun _=>ptr_at (h1.setBad true fin)) (fun _=>ptr_at (h1.setBad true fin))
 ·have h1:RrS ω1 w1 t gr gp gs bs (p+k) T D V A B bad:=⟨h.blk.stp s1 (beq_no (by omega)),h.st.stp s1 (beq_no (by omega)),r1,hp,h.small⟩
  have hlt:=num_lt ((rest bs p).take k)
  have hil:((rest bs p).take k).length=k:=by rw [List.length_take,rest_len];omega
  rw [hil] at hlt
  have good:∀ y tail,y<2 ^ k→rest bs p=low y k++tail→num ((rest bs p).take k)=y∧rest bs (p+k)=tail:=fun y tail hy e=>by
   obtain ⟨e1,e2⟩:=take_low y k tail
   refine ⟨by rw [e,e1,num_low hy],?_⟩
   have:rest bs (p+k)=(rest bs p).drop k:=by rw [rest,rest,List.drop_drop]
   rw [this,e,e2]
  have s1':=s1.rng (t:=t) (n:=4) (by omega) (by omega)
  refine h1.rdB ?_
  refine cond_of (fun hb=>ptr_at (h1.setBad true fun ω2 w2 s2 r2=>?_)) (fun hb=>ptr_at (h1.setBad false fun ω2 w2 s2 r2=>?_))
  ·subst hb
   exact hK _ (p+k) true ω2 w2 hlt (fun y tail hy e=>⟨(good y tail hy e).1,(good y tail hy e).2,rfl⟩) (s1'.trans s2) r2
  ·subst hb
   exact hK _ (p+k) false ω2 w2 hlt (fun y tail hy e=>⟨(good y tail hy e).1,(good y tail hy e).2,rfl⟩) (s1'.trans s2) r2
end Go.Proofs.YtmfgmcajelmgbaaGreatDoor.Chunk
namespace Go.Proofs.YtmfgmcajelmgbaaGreatDoor.Chunk
open Go Vm Go.RowKit Num Mem Bits Vint
variable {ω ω' : Tg} {w w' w0 : World} {t gr gs gp p k : Nat} {bs : List UInt8} {T D A B : Int} {V : Nat} {bad : Bool}
theorem rng_up {t a b:Nat} (hab:a≤b) (h:Stp (Rng t a) ω ω' w w'):Stp (Rng t b) ω ω' w w':=h.mono fun u hu=>by
 by_cases c:t≤u∧u<t+b
 ·have:Rng t b u=true:=by simp [Rng,Nat.ble_eq_true_of_le c.1,Nat.blt_eq.mpr c.2]
  rw [this] at hu;cases hu
 ·exact rng_out (by omega)
theorem putU_ne (n:Nat):1≤(putU n).length:=by
 rcases Nat.lt_or_ge n 128 with h | h
 ·rw [putU_lt h];simp
 ·rw [putU_ge (by omega)];simp
set_option maxRecDepth 20000 in
theorem number_ok (h:RrS ω w t gr gp gs bs p T D V A B bad) {K:Int→World→Prop}
  (hK:∀ (v p':Nat) bad' ω' w',v<18446744073709551616→(bad=false→∀ n tail,n<18446744073709551616→rest bs p=byteBits (putU n)++tail→v=n∧rest bs p'=tail∧bad'=false)→Stp (Rng t 6) ω ω' w w'→RrS ω' w' t gr gp gs bs p' T D V A B bad'→K (v:Int) w'):C.tocsinref08_Reader_number (wp gr) w K:=by
 unfold C.tocsinref08_Reader_number C.tocsinref08_Reader_number.S9
 refine C.tocsinref08_Reader_number.L5_ind fun X hX=>?_
 have s2:∀ (b:Sl) (bl:List UInt8) (p1:Nat) (b1:Bool) (ω1:Tg) (w1:World),RdB w1 b bl→bl.length≤100→Stp (Rng t 6) ω ω1 w w1→RrS ω1 w1 t gr gp gs bs p1 T D V A B b1 →
   (bad=false→∀ n tail,n<18446744073709551616→rest bs p=byteBits (putU n)++tail→bl=putU n∧rest bs p1=tail∧b1=false)→C.tocsinref08_Reader_number.S2 K (wp gr) b w1:=by
  intro b bl p1 b1 ω1 w1 hb hl s r good
  unfold C.tocsinref08_Reader_number.S2
  refine ru_ok hb (by omega) 0 (r.rdB ?_)
  have hlt:=uv_lt bl 0
  have val:∀ n,n<18446744073709551616→bl=putU n→uv bl 0=(n,0+(putU n).length,0):=fun n hn e=>by
   have:=uv_put [] [] hn
   rw [List.nil_append,List.append_nil] at this
   rw [e];exact this
  refine cond_of (fun hb1=>ptr_at (r.setBad true fun ω2 w2 s2 r2=>?_)) (fun hb1=>ptr_at (r.setBad _ fun ω2 w2 s2 r2=>?_))
  ·exact hK _ p1 true ω2 w2 hlt (fun hb n tail hn e=>by
    obtain ⟨_,_,u3⟩:=good hb n tail hn e
    rw [u3] at hb1;cases hb1) (s.trans (rng_up (by decide) s2)) r2
  ·exact hK _ p1 _ ω2 w2 hlt (fun hb n tail hn e=>by
    obtain ⟨u1,u2,u3⟩:=good hb n tail hn e
    have hv:=val n hn u1
    rw [hv]
    exact ⟨rfl,u2,rfl⟩) (s.trans (rng_up (by decide) s2)) r2
 have key:∀ (d i:Nat) (b:Sl) (bl:List UInt8) (p1:Nat) (b1:Bool) (ω1:Tg) (w1:World),i+d=11→bl.length=i→OBy ω1 w1 (t+4) b bl→Stp (Rng t 6) ω ω1 w w1→RrS ω1 w1 t gr gp gs bs p1 T D V A B b1 →
   (bad=false→∀ n tail,n<18446744073709551616→rest bs p=byteBits (putU n)++tail→∃ m,putU n=bl++putU m∧rest bs p1=byteBits (putU m)++tail∧b1=false)→X (wp gr) b (i:Int) w1:=by
  intro d
  induction d with
  | zero =>
   intro i b bl p1 b1 ω1 w1 hi hbl o s r good
   refine hX _ _ _ _ ?_
   unfold C.tocsinref08_Reader_number.S7
   refine cond_d (fun h=>by omega) (fun _=>s2 b bl p1 b1 ω1 w1 o.rd (by omega) s r fun hb n tail hn e=>?_)
   obtain ⟨m,h1,_⟩:=good hb n tail hn e
   have l1:=putU_len64 hn
   have l2:=putU_ne m
   have:=congrArg List.length h1
   rw [List.length_append] at this
   omega
  | succ d ih =>
   intro i b bl p1 b1 ω1 w1 hi hbl o s r good
   refine hX _ _ _ _ ?_
   unfold C.tocsinref08_Reader_number.S7
   refine cond_d (fun _=>?_) (fun h=>by omega)
   refine r.rdB (cond_of (fun hb1=>?_) (fun hb1=>?_))
   ·refine gbits_ok r (k:=8) (by decide) rfl fun v p2 b2 ω2 w2 hv hg s2' r2=>?_
    have o2:=o.stp s2' (rng_out (by omega))
    have hbn:=OBy.len o2
    refine push_T tiB o2 (n:=1) rfl (by intro v hv;simp at hv;subst hv;rfl) (by simp only [maxLen];omega) (by omega) fun q ω3 w3 k3 o3 hq=>?_
    have e8:(#[Value.int .u8 (IntKind.u8.wrap (v:Int))]:Array Value).toList=vBs [UInt8.ofNat v]:=by
     rw [wU8_id (by omega) (by omega)]
     simp only [vBs,vB,List.map_cons,List.map_nil]
     rw [ofNat_val (by omega)]
    rw [e8] at o3
    have o3':OBy ω3 w3 (t+4) q (bl++[UInt8.ofNat v]):=by
     rw [OBy,show vBs (bl++[UInt8.ofNat v])=vBs bl++vBs [UInt8.ofNat v] by simp [vBs]];exact o3
    have s3:=s.trans ((rng_up (b:=6) (by decide) s2').trans (k3.rng (t:=t) (n:=6) (by omega) (by omega)))
    have r3:=r2.stp k3 (beq_no (by omega)) (beq_no (by omega)) (beq_no (by omega)) (beq_no (by omega))
    refine RdB.at_ o3'.rd (by rw [List.length_append,hbl];simp) ?_
    have ei:(bl++[UInt8.ofNat v])[i]'(by rw [List.length_append,hbl];simp)=UInt8.ofNat v:=by
     rw [List.getElem_append_right (by omega)]
     simp [hbl]
    rw [ei,ofNat_val (by omega)]
    have look:bad=false→∀ n tail,n<18446744073709551616→rest bs p=byteBits (putU n)++tail→(v<128∧putU n=bl++[UInt8.ofNat v]∧rest bs p2=tail∧b2=false)∨(128≤v∧∃ m,putU n=bl++[UInt8.ofNat v]++putU m∧rest bs p2=byteBits (putU m)++tail∧b2=false):=by
     intro hb n tail hn e
     obtain ⟨m,h1,h3,h4⟩:=good hb n tail hn e
     rcases Nat.lt_or_ge m 128 with hm | hm
     ·rw [putU_lt hm,byteBits_one,ofNat_val (by omega)] at h3
      obtain ⟨q1,q2,q3⟩:=hg m tail (by omega) (by rw [h3];simp [byteBits])
      refine .inl ⟨by omega,?_,q2,q3.trans h4⟩
      rw [h1,putU_lt hm,q1]
     ·rw [putU_ge (by omega),byteBits_one,ofNat_val (by omega),List.append_assoc] at h3
      obtain ⟨q1,q2,q3⟩:=hg (m % 128+128) _ (by omega) h3
      refine .inr ⟨by omega,m / 128,?_,q2,q3.trans h4⟩
      rw [h1,putU_ge (by omega),q1]
      simp
    refine cond_d (fun hlt=>?_) (fun hge=>?_)
    ·refine s2 q _ p2 b2 ω3 w3 o3'.rd (by rw [List.length_append,hbl,List.length_singleton];omega) s3 r3 fun hb n tail hn e=>?_
     rcases look hb n tail hn e with ⟨_,h1,h2,h3⟩ | ⟨h1,_⟩
     ·exact ⟨h1.symm,h2,h3⟩
     ·omega
    ·rw [wI64 (by omega) (by omega),show (i:Int)+1=((i+1:Nat):Int) by omega]
     refine ih (i+1) q _ p2 b2 ω3 w3 (by omega) (by rw [List.length_append,hbl,List.length_singleton]) o3' s3 r3 fun hb n tail hn e=>?_
     rcases look hb n tail hn e with ⟨h1,_⟩ | ⟨_,m,h1,h2,h3⟩
     ·omega
     ·exact ⟨m,h1,h2,h3⟩
   ·refine s2 b bl p1 b1 ω1 w1 o.rd (by omega) s r fun hb n tail hn e=>?_
    obtain ⟨m,_,_,h4⟩:=good hb n tail hn e
    rw [h4] at hb1;cases hb1
 exact key 11 0 nilS [] p bad ω w (by decide) rfl (OT.nil _ _ _ _ _) (Stp.refl _ _ _) h fun hb n tail hn e=>⟨n,by simp,e,hb⟩
def okR (A B:Int):Prop:=A=64∨(0≤A∧A≤31∧1≤64-A-B∧64-A-B≤64)
def reprR (wn:Win) (A B:Int):Prop:=match wn with | none=>A=64 | some (a,b)=>A=(a:Int)∧B=(b:Int)
theorem gvalS2_ok (h:RrS ω w t gr gp gs bs p T D V A B bad) (hV:V<18446744073709551616) (hW:okR A B) {K:Int→World→Prop}
  (hK:∀ (v p':Nat) bad' ω' w',v<18446744073709551616→(∀ a b x tail,A=((a:Nat):Int)→B=((b:Nat):Int)→a≤31→a+b≤63→x<18446744073709551616→x≠0→a≤lead x→b≤trail x→rest bs p=low (x / 2 ^ b) (64-a-b)++tail→v=V ^^^ x∧rest bs p'=tail∧bad'=bad) →
   Stp (Rng t 4) ω ω' w w'→RrS ω' w' t gr gp gs bs p' T D V A B bad'→K (v:Int) w'):C.tocsinref08_Reader_value.S2 K (wp gr) w:=by
 unfold C.tocsinref08_Reader_value.S2
 refine h.rdP (ptr_at (cI_at (n:=A) (by rw [addr_add,h.st.cell];rfl) ?_))
 refine cond_d (fun hA=>ptr_at (h.setBad true fun ω2 w2 s2 r2=>?_)) (fun hA=>?_)
 ·exact hK 0 p true ω2 w2 (by decide) (fun a b x tail ea eb=>by omega) s2 r2
 have hW':0≤A∧A≤31∧1≤64-A-B∧64-A-B≤64:=by rcases hW with h | h;omega;exact h
 obtain ⟨hA0,hA1,hn1,hn2⟩:=hW'
 refine h.rdP (ptr_at (cI_at (n:=B) (by rw [addr_add,h.st.cell];rfl) ?_))
 refine cond_d (fun hB=>ptr_at (h.setBad true fun ω2 w2 s2 r2=>?_)) (fun hB=>?_)
 ·exact hK 0 p true ω2 w2 (by decide) (fun a b x tail ea eb=>by omega) s2 r2
 have kd:=drew_stp ω w
 have hd:=h.non kd
 refine ptr_at (cP_at (b:=wp gp) (by rw [addr_add,hd.blk.cell];rfl)<|ptr_at (cI_at (n:=(V:Int)) (by rw [addr_add,hd.st.cell];rfl) ?_))
 refine ptr_at (cP_at (b:=wp gp) (by rw [addr_add,hd.blk.cell];rfl)<|ptr_at (cI_at (n:=A) (by rw [addr_add,hd.st.cell];rfl) ?_))
 refine ptr_at (cP_at (b:=wp gp) (by rw [addr_add,hd.blk.cell];rfl)<|ptr_at (cI_at (n:=B) (by rw [addr_add,hd.st.cell];rfl) ?_))
 refine ptr_at (cP_at (b:=wp gp) (by rw [addr_add,hd.blk.cell];rfl)<|ptr_at (cI_at (n:=B) (by rw [addr_add,hd.st.cell];rfl) ?_))
 rw [wI64 (x:=64-A) (by omega) (by omega),wI64 (by omega) (by omega)]
 refine gbits_ok hd (k:=(64-A-B).toNat) (by omega) (by omega) fun v p2 b2 ω2 w2 hv hg s2 r2=>⟨?_,?_,?_,?_,by rw [wU64];omega,?_⟩
 ·rw [addr_add];exact same_cell (v:=.pointer (wp gp)) (by rw [hd.blk.cell];rfl) (by rw [r2.blk.cell];rfl)
 ·rw [addr_add];exact same_cell (v:=.int .u64 (V:Int)) (by rw [hd.st.cell];rfl) (by rw [r2.st.cell];rfl)
 ·rw [addr_add];exact same_cell (v:=.pointer (wp gp)) (by rw [hd.blk.cell];rfl) (by rw [r2.blk.cell];rfl)
 ·rw [addr_add];exact same_cell (v:=.int .i64 B) (by rw [hd.st.cell];rfl) (by rw [r2.st.cell];rfl)
 rw [wU64_id (by omega) (by omega),show B=((B.toNat:Nat):Int) by omega,shl64 _ _ (by omega)]
 obtain ⟨q,eq⟩:∃ q,q=v*2 ^ B.toNat % 18446744073709551616:=⟨_,rfl⟩
 have hq:q<18446744073709551616:=by rw [eq];exact Nat.mod_lt _ (by decide)
 rw [← eq,xor_eq hV hq]
 refine hK _ p2 b2 ω2 w2 (xor64_lt hV hq) (fun a c x tail ea eb ha hab hx hx0 hla htb e=>?_) ((kd.non _).trans s2) r2
 have en:(64-A-B).toNat=64-a-c:=by omega
 rw [en] at hg hv
 obtain ⟨q1,q2,q3⟩:=hg _ tail (mid_lt hx hla (by omega)) e
 refine ⟨?_,q2,q3⟩
 rw [eq,q1,show B.toNat=c by omega,mul_div_trail hx hx0 htb,Nat.mod_eq_of_lt hx]
end Go.Proofs.YtmfgmcajelmgbaaGreatDoor.Chunk
namespace Go.Proofs.YtmfgmcajelmgbaaGreatDoor.Chunk
open Go Vm Go.RowKit Num Mem Bits Vint
variable {ω ω' : Tg} {w w' w0 : World} {t gr gs gp p k : Nat} {bs : List UInt8} {T D A B : Int} {V : Nat} {bad : Bool}
theorem gvalue_ok (h:RrS ω w t gr gp gs bs p T D V A B bad) (hV:V<18446744073709551616) (hW:okR A B) {K:Int→World→Prop}
  (hK:∀ (v p':Nat) bad' A' B' ω' w',v<18446744073709551616→okR A' B'→(∀ wn x tail,WinOk wn→reprR wn A B→x<18446744073709551616→rest bs p=(vform wn x).1++tail→v=V ^^^ x∧rest bs p'=tail∧bad'=bad∧reprR (vform wn x).2 A' B') →
   Stp (Rng t 4) ω ω' w w'→RrS ω' w' t gr gp gs bs p' T D V A' B' bad'→K (v:Int) w'):C.tocsinref08_Reader_value (wp gr) w K:=by
 unfold C.tocsinref08_Reader_value
 refine gbits_ok h (k:=1) (by decide) rfl fun v1 p1 b1 ω1 w1 hv1 hg1 s1 r1=>?_
 have g0:∀ wn x tail,rest bs p=(vform wn x).1++tail→(x=0∧vform wn x=(low 0 1,wn)∧v1=0∧rest bs p1=tail∧b1=bad)∨(v1=1∧b1=bad∧x≠0 ∧
   ((∃ a b,wn=some (a,b)∧a≤lead x∧b≤trail x∧vform wn x=(low 1 1++low 0 1++low (x / 2 ^ b) (64-a-b),wn)∧rest bs p1=low 0 1++(low (x / 2 ^ b) (64-a-b)++tail)) ∨
    ((vform wn x).2=some (lead x,trail x)∧rest bs p1=low 1 1++(low (lead x) 5++(low ((64-lead x-trail x) % 64) 6++(low (x / 2 ^ trail x) (64-lead x-trail x)++tail)))))):=by
  intro wn x tail e
  rcases vform_cases wn x with ⟨h0,hf⟩ | ⟨h0,a,b,hw,ha,hb,hf⟩ | ⟨h0,hf⟩
  ·rw [hf] at e
   obtain ⟨q1,q2,q3⟩:=hg1 0 tail (by decide) e
   exact .inl ⟨h0,hf,q1,q2,q3⟩
  ·rw [hf] at e
   simp only [List.append_assoc] at e
   obtain ⟨q1,q2,q3⟩:=hg1 1 _ (by decide) e
   exact .inr ⟨q1,q3,h0,.inl ⟨a,b,hw,ha,hb,hf,q2⟩⟩
  ·rw [hf] at e
   simp only [List.append_assoc] at e
   obtain ⟨q1,q2,q3⟩:=hg1 1 _ (by decide) e
   exact .inr ⟨q1,q3,h0,.inr ⟨by rw [hf],q2⟩⟩
 refine cond_eq (fun hz=>?_) (fun hz=>?_)
 ·refine r1.rdP (ptr_at (cI_at (n:=(V:Int)) (by rw [addr_add,r1.st.cell];rfl) ?_))
  refine hK V p1 b1 A B ω1 w1 hV hW (fun wn x tail _ hr _ e=>?_) s1 r1
  rcases g0 wn x tail e with ⟨h0,hf,_,q2,q3⟩ | ⟨q1,_⟩
  ·exact ⟨by rw [h0,Nat.xor_zero],q2,q3,by rw [hf];exact hr⟩
  ·omega
 have one:v1=1:=by omega
 refine gbits_ok r1 (k:=1) (by decide) rfl fun v2 p2 b2 ω2 w2 hv2 hg2 s2 r2=>?_
 have s02:=s1.trans s2
 have fin:∀ (A' B':Int) (p3:Nat) (b3:Bool) (ω3:Tg) (w3:World),Stp (Rng t 4) ω ω3 w w3→RrS ω3 w3 t gr gp gs bs p3 T D V A' B' b3→okR A' B' →
   (∀ wn x tail,WinOk wn→reprR wn A B→x<18446744073709551616→rest bs p=(vform wn x).1++tail→∃ a b,A'=((a:Nat):Int)∧B'=((b:Nat):Int)∧a≤31∧a+b≤63∧x≠0∧a≤lead x∧b≤trail x∧(vform wn x).2=some (a,b)∧rest bs p3=low (x / 2 ^ b) (64-a-b)++tail∧b3=bad)→C.tocsinref08_Reader_value.S2 K (wp gr) w3:=by
  intro A' B' p3 b3 ω3 w3 s3 r3 hW3 good
  refine gvalS2_ok r3 hV hW3 fun v p4 b4 ω4 w4 hv hg s4 r4=>hK v p4 b4 A' B' ω4 w4 hv hW3 (fun wn x tail hwn hr hx e=>?_) (s3.trans s4) r4
  obtain ⟨a,b,c2,c3,c4,c5,c6,c7,c8,c9,c10,c11⟩:=good wn x tail hwn hr hx e
  obtain ⟨q1,q2,q3⟩:=hg a b x tail c2 c3 c4 c5 hx c6 c7 c8 c10
  exact ⟨q1,q2,q3.trans c11,by rw [c9];exact ⟨c2,c3⟩⟩
 refine cond_eq (fun h1=>?_) (fun h1=>?_)
 ·have kd:=drew_stp ω2 w2
  have rd:=r2.non kd
  refine ptr_at (cP_at (b:=wp gp) (by rw [addr_add,rd.blk.cell];rfl) ?_)
  refine gbits_ok rd (k:=5) (by decide) rfl fun v5 p5 b5 ω5 w5 hv5 hg5 s5 r5=>⟨?_,?_⟩
  ·rw [addr_add];exact same_cell (v:=.pointer (wp gp)) (by rw [rd.blk.cell];rfl) (by rw [r5.blk.cell];rfl)
  rw [wI64 (x:=(v5:Int)) (by omega) (by omega)]
  refine ptr_at (r5.setA (by decide) (T':=T) (D':=D) (V':=V) (A':=(v5:Int)) (B':=B) rfl fun ω6 w6 s6 r6=>?_)
  refine gbits_ok r6 (k:=6) (by decide) rfl fun v6 p7 b7 ω7 w7 hv6 hg6 s7 r7=>?_
  have s07:=(((s02.trans (kd.non _)).trans s5).trans s6).trans s7
  have kd7:=drew_stp ω7 w7
  have rd7:=r7.non kd7
  have g2:∀ wn x tail,rest bs p=(vform wn x).1++tail→x≠0∧(vform wn x).2=some (lead x,trail x)∧(lead x<32→v5=lead x∧v6=(64-lead x-trail x) % 64∧rest bs p7=low (x / 2 ^ trail x) (64-lead x-trail x)++tail∧b7=bad):=by
   intro wn x tail e
   rcases g0 wn x tail e with ⟨_,_,q1,_⟩ | ⟨_,q3,h0,⟨a,b,_,_,_,_,q2⟩ | ⟨hf,q2⟩⟩
   ·omega
   ·have:=(hg2 0 _ (by decide) q2).1
    omega
   ·refine ⟨h0,hf,fun hl=>?_⟩
    obtain ⟨_,u2,u3⟩:=hg2 1 _ (by decide) q2
    obtain ⟨y1,y2,y3⟩:=hg5 _ _ (by omega) u2
    obtain ⟨z1,z2,z3⟩:=hg6 _ _ (by omega) y2
    exact ⟨y1,z1,z2,((z3.trans y3).trans u3).trans q3⟩
  have put:∀ (B':Int),-9223372036854775808≤B'∧B'<9223372036854775808→okR (v5:Int) B'→(∀ wn x tail,x<18446744073709551616→rest bs p=(vform wn x).1++tail→B'=((trail x:Nat):Int)) →
    G.st (Addr.add ⟨gp,0,none⟩ 4) (.int .i64 B') w7.drew fun w60=>C.tocsinref08_Reader_value.S2 K (wp gr) w60:=by
   intro B' hB' hok hB
   refine rd7.setA (by decide) (T':=T) (D':=D) (V':=V) (A':=(v5:Int)) (B':=B') rfl fun ω9 w9 s9 r9=>?_
   refine fin (v5:Int) B' p7 b7 ω9 w9 ((s07.trans (kd7.non _)).trans s9) r9 hok fun wn x tail hwn hr hx e=>?_
   obtain ⟨h0,hf,hh⟩:=g2 wn x tail e
   have hl:=lead_le x
   have hlt:=lead_trail hx h0
   obtain ⟨q1,q2,q3,q4⟩:=hh (by omega)
   exact ⟨lead x,trail x,by rw [q1],hB wn x tail hx e,hl,hlt,h0,Nat.le_refl _,Nat.le_refl _,hf,q3,q4⟩
  have tr:∀ wn x tail,x<18446744073709551616→rest bs p=(vform wn x).1++tail→v5=lead x∧v6=(64-lead x-trail x) % 64∧lead x+trail x≤63:=by
   intro wn x tail hx e
   obtain ⟨h0,hf,hh⟩:=g2 wn x tail e
   have hl:=lead_le x
   obtain ⟨q1,q2,_⟩:=hh (by omega)
   exact ⟨q1,q2,lead_trail hx h0⟩
  rw [wI64 (x:=(v6:Int)) (by omega) (by omega)]
  refine cond_eq (fun h6=>?_) (fun h6=>?_)
  ·refine rd7.rdP (rd7.rdP (ptr_at (cI_at (n:=(v5:Int)) (by rw [addr_add,rd7.st.cell];rfl) (ptr_at ?_))))
   rw [wI64 (x:=64-(v5:Int)) (by omega) (by omega),wI64 (by omega) (by omega)]
   refine put _ (by omega) (.inr (by omega)) fun wn x tail hx e=>?_
   obtain ⟨q1,q2,q3⟩:=tr wn x tail hx e
   omega
  ·refine rd7.rdP (rd7.rdP (ptr_at (cI_at (n:=(v5:Int)) (by rw [addr_add,rd7.st.cell];rfl) (ptr_at ?_))))
   rw [wI64 (x:=64-(v5:Int)) (by omega) (by omega),wI64 (by omega) (by omega)]
   refine put _ (by omega) (.inr (by omega)) fun wn x tail hx e=>?_
   obtain ⟨q1,q2,q3⟩:=tr wn x tail hx e
   omega
 ·refine fin A B p2 b2 ω2 w2 s02 r2 hW fun wn x tail hwn hr hx e=>?_
  rcases g0 wn x tail e with ⟨_,_,q1,_⟩ | ⟨_,q3,h0,⟨a,b,hw,ha,hb,hf,q2⟩ | ⟨hf,q2⟩⟩
  ·omega
  ·obtain ⟨_,u2,u3⟩:=hg2 0 _ (by decide) q2
   rw [hw] at hr
   obtain ⟨c2,c3⟩:=hr
   obtain ⟨c4,c5⟩:=hwn a b hw
   exact ⟨a,b,c2,c3,c4,c5,h0,ha,hb,by rw [hf];exact hw,u2,u3.trans q3⟩
  ·have:=(hg2 1 _ (by decide) q2).1
   omega
end Go.Proofs.YtmfgmcajelmgbaaGreatDoor.Chunk
namespace Go.Proofs.YtmfgmcajelmgbaaGreatDoor.Chunk
open Go Vm Go.RowKit Num Mem Bits Vint
variable {ω ω' : Tg} {w w' w0 : World} {t gr gs gp p k : Nat} {bs : List UInt8} {T D A B : Int} {V : Nat} {bad : Bool}
noncomputable def saysK (v k:Nat):Int:=if 64≤k then IntKind.i64.wrap (v:Int) else if v≤2 ^ (k-1) then (v:Int) else (v:Int)-2 ^ k
set_option maxRecDepth 20000 in
theorem says_ok {v k:Nat} (hk:0<k) (hk':k=64∨k≤56) (hv:v<2 ^ k) {K:Int→World→Prop} (hK:K (saysK v k) w):C.tocsinref02_Says (v:Int) (k:Int) w K:=by
 unfold C.tocsinref02_Says
 unfold saysK at hK
 refine cond_d (fun h=>by rw [if_pos (by omega)] at hK;exact hK) (fun h=>?_)
 rw [if_neg (by omega)] at hK
 have hp:2 ^ (k-1)≤2 ^ 55:=Nat.pow_le_pow_right (by decide) (by omega)
 have e2:2 ^ k=2 ^ (k-1)*2:=by rw [← Nat.pow_succ];congr 1;omega
 have e1:IntKind.u64.wrap (IntKind.i64.wrap ((k:Int)-(1:Int)))=((k-1:Nat):Int):=by
  rw [wI64 (by omega) (by omega),wU64_id (by omega) (by omega)];omega
 have es:shl .u64 (1:Int) ((k-1:Nat):Int)=((2 ^ (k-1):Nat):Int):=by
  have:=shl64 1 (k-1) (by omega)
  rw [Nat.one_mul,Nat.mod_eq_of_lt (by omega)] at this
  exact this
 have es2:shl .i64 (1:Int) ((k:Nat):Int)=((2 ^ k:Nat):Int):=by
  have:=shl_nat .i64 (1:Int) k (by simp only [IntKind.bits];omega)
  rw [this,show (1:Int)*2 ^ k=((2 ^ k:Nat):Int) by simp,wI64 (by omega) (by omega)]
 have e5:(2:Int) ^ k=((2 ^ k:Nat):Int):=by simp
 rw [e1,es]
 have vv:IntKind.i64.wrap (v:Int)=(v:Int):=wI64 (by omega) (by omega)
 refine ⟨by omega,cond_d (fun h1=>?_) (fun h1=>⟨by rw [wU64];omega,?_⟩)⟩
 ·rw [vv];rw [if_pos (by omega)] at hK;exact hK
 ·rw [wU64_id (by omega) (by omega),es2,vv,wI64 (by omega) (by omega)]
  rw [if_neg (by omega),e5] at hK;exact hK
theorem saysK_low {d:Int} (hd1:-9223372036854775808≤d) (hd2:d<9223372036854775808) (h0:tcls d≠0):saysK (lowN d (tw (tcls d))) (tw (tcls d))=d:=by
 have h4:=tcls_le d
 unfold saysK
 rcases Nat.lt_or_ge (tcls d) 4 with h | h
 ·have hw:0<tw (tcls d)∧tw (tcls d)≤56:=by
   have:∀ i:Fin 4,0<i.val→0<tw i.val∧tw i.val≤56:=by decide
   exact this ⟨tcls d,h⟩ (Nat.pos_of_ne_zero h0)
  rw [if_neg (by omega)]
  rcases says hw.1 hw.2 (tcls_fits h0 h) with ⟨a1,a2⟩ | ⟨a1,a2⟩
  ·rw [if_pos a1];exact a2.symm
  ·rw [if_neg (Nat.not_le.2 a1)];exact a2.symm
 ·have e:tcls d=4:=by omega
  rw [e,show tw 4=64 from rfl,if_pos (by decide)]
  have:lowN d 64=uN d:=by unfold lowN;rw [if_neg (by decide)]
  rw [this,wI64']
  unfold uN
  split<;>omega
theorem gtime_ok (h:RrS ω w t gr gp gs bs p T D V A B bad) {K:Int→World→Prop}
  (hK:∀ (v:Int) (p':Nat) bad' ω' w',-9223372036854775808≤v→v<9223372036854775808→(∀ d tail,-9223372036854775808≤d→d<9223372036854775808→rest bs p=tform d++tail→v=d∧rest bs p'=tail∧bad'=bad)→Stp (Rng t 6) ω ω' w w'→RrS ω' w' t gr gp gs bs p' T D V A B bad'→K v w'):C.tocsinref08_Reader_time (wp gr) w K:=by
 unfold C.tocsinref08_Reader_time
 refine new_T (ω:=ω) (t+4) fun gk ω0 w0' k0 b0=>?_
 have h0:=h.non k0
 have kk:∀ (ω1:Tg) (w1:World) (i:Nat),i≤4→BT ω1 w1 (t+4) gk 3 [.int .i64 0,.int .i64 14,.int .i64 17,.int .i64 20,.int .i64 64]→∀ {K:Addr→Prop},(∀ a:Addr,w1.cell? a=some (.int .i64 ((tw i:Nat):Int))→(∀ w',w'.cell? ⟨gk,i,none⟩=some (.int .i64 ((tw i:Nat):Int))→sameAt a 1 w1 w')→K a)→G.ix (some ⟨gk,0,none⟩) 5 (i:Int) 1 K:=by
  intro ω1 w1 i hi b K hK
  have e:w1.cell? ⟨gk,i,none⟩=some (.int .i64 ((tw i:Nat):Int)):=by
   rw [b.cell]
   match i,hi with
   | 0,_=>rfl
   | 1,_=>rfl
   | 2,_=>rfl
   | 3,_=>rfl
   | 4,_=>rfl
  refine ⟨⟨by omega,by omega⟩,?_⟩
  rw [Int.toNat_natCast,Nat.mul_one,addr_add,Nat.zero_add]
  exact hK _ e fun w' hw'=>same_cell e hw'
 refine C.tocsinref08_Reader_time.L5_ind fun X hX=>?_
 have s3:∀ (i p1:Nat) (b1:Bool) (ω1:Tg) (w1:World),i≤4→Stp (Rng t 6) ω ω1 w w1→RrS ω1 w1 t gr gp gs bs p1 T D V A B b1→BT ω1 w1 (t+4) gk 3 [.int .i64 0,.int .i64 14,.int .i64 17,.int .i64 20,.int .i64 64] →
   (∀ d tail,rest bs p=tform d++tail→tcls d=i∧rest bs p1=tbody d++tail∧b1=bad)→C.tocsinref08_Reader_time.S2 K (wp gr) (⟨some ⟨gk,0,none⟩,5,5⟩:Sl) (i:Int) w1:=by
  intro i p1 b1 ω1 w1 hi s r bk good
  unfold C.tocsinref08_Reader_time.S2
  refine cond_eq (fun hz=>?_) (fun hz=>?_)
  ·refine hK 0 p1 b1 ω1 w1 (by decide) (by decide) (fun d tail _ _ e=>?_) s r
   obtain ⟨u1,u2,u3⟩:=good d tail e
   obtain rfl:=tcls_zero (d:=d) (by omega)
   exact ⟨rfl,u2,u3⟩
  ·have kd:=drew_stp ω1 w1
   have bd:=bk.stp kd
   have rd:=r.non kd
   have hw:0<tw i∧(tw i=64∨tw i≤56):=by
    have:∀ i:Fin 5,0<i.val→0<tw i.val∧(tw i.val=64∨tw i.val≤56):=by decide
    exact this ⟨i,by omega⟩ (by simp only;omega)
   refine kk ω1 _ i hi bd fun a ha _=>cI_at ha ?_
   refine kk ω1 _ i hi bd fun a' ha' hs'=>cI_at ha' ?_
   refine gbits_ok rd (k:=tw i) (by omega) rfl fun v p2 b2 ω2 w2 hv hg s2 r2=>⟨hs' w2 ?_,?_⟩
   ·have b2':=bd.stp s2 (rng_out (by omega))
    rw [b2'.cell]
    match i,hi with
    | 0,_=>rfl
    | 1,_=>rfl
    | 2,_=>rfl
    | 3,_=>rfl
    | 4,_=>rfl
   refine says_ok hw.1 hw.2 hv ?_
   have hpow:2 ^ tw i≤2 ^ 64:=Nat.pow_le_pow_right (by decide) (by omega)
   have rng:-9223372036854775808≤saysK v (tw i)∧saysK v (tw i)<9223372036854775808:=by
    unfold saysK
    split
    ·rw [wI64']
     split<;>omega
    ·have h56:tw i≤56:=by omega
     have h3:2 ^ tw i≤2 ^ 56:=Nat.pow_le_pow_right (by decide) h56
     have e5:(2:Int) ^ tw i=((2 ^ tw i:Nat):Int):=by simp
     split
     ·omega
     ·rw [e5];omega
   refine hK _ p2 b2 ω2 w2 rng.1 rng.2 (fun d tail hd1 hd2 e=>?_) ((s.trans (kd.non _)).trans (rng_up (by decide) s2)) r2
   obtain ⟨u1,u2,u3⟩:=good d tail e
   unfold tbody at u2
   rw [u1] at u2
   obtain ⟨q1,q2,q3⟩:=hg _ tail (lowN_lt2 d (by omega)) u2
   refine ⟨?_,q2,q3.trans u3⟩
   have:=saysK_low hd1 hd2 (by omega:tcls d≠0)
   rw [u1,← q1] at this
   exact this
 have key:∀ (j i p1:Nat) (b1:Bool) (ω1:Tg) (w1:World),i+j=4→Stp (Rng t 6) ω ω1 w w1→RrS ω1 w1 t gr gp gs bs p1 T D V A B b1→BT ω1 w1 (t+4) gk 3 [.int .i64 0,.int .i64 14,.int .i64 17,.int .i64 20,.int .i64 64] →
   (∀ d tail,rest bs p=tform d++tail→i≤tcls d∧rest bs p1=List.replicate (tcls d-i) true++((if tcls d<4 then [false] else [])++(tbody d++tail))∧b1=bad)→X (wp gr) (⟨some ⟨gk,0,none⟩,5,5⟩:Sl) (i:Int) w1:=by
  intro j
  induction j with
  | zero =>
   intro i p1 b1 ω1 w1 hi s r bk good
   refine hX _ _ _ _ ?_
   unfold C.tocsinref08_Reader_time.S7
   refine cond_d (fun h=>by omega) (fun _=>s3 i p1 b1 ω1 w1 (by omega) s r bk fun d tail e=>?_)
   obtain ⟨u1,u2,u3⟩:=good d tail e
   have:=tcls_le d
   refine ⟨by omega,?_,u3⟩
   rw [show tcls d-i=0 by omega,if_neg (by omega)] at u2
   exact u2
  | succ j ih =>
   intro i p1 b1 ω1 w1 hi s r bk good
   refine hX _ _ _ _ ?_
   unfold C.tocsinref08_Reader_time.S7
   refine cond_d (fun _=>?_) (fun h=>by omega)
   refine gbits_ok r (k:=1) (by decide) rfl fun v p2 b2 ω2 w2 hv hg s2 r2=>?_
   have bk2:=bk.stp s2 (rng_out (by omega))
   have s02:=s.trans (rng_up (b:=6) (by decide) s2)
   refine cond_eq (fun h1=>?_) (fun h1=>?_)
   ·rw [wI64 (by omega) (by omega),show (i:Int)+1=((i+1:Nat):Int) by omega]
    refine ih (i+1) p2 b2 ω2 w2 (by omega) s02 r2 bk2 fun d tail e=>?_
    obtain ⟨u1,u2,u3⟩:=good d tail e
    rcases Nat.eq_or_lt_of_le u1 with h | h
    ·rw [← h,Nat.sub_self,if_pos (by omega)] at u2
     have:=(hg 0 _ (by decide) u2).1
     omega
    ·rw [show tcls d-i=(tcls d-(i+1))+1 by omega,List.replicate_succ,List.cons_append] at u2
     obtain ⟨q1,q2,q3⟩:=hg 1 _ (by decide) u2
     exact ⟨by omega,q2,q3.trans u3⟩
   ·refine s3 i p2 b2 ω2 w2 (by omega) s02 r2 bk2 fun d tail e=>?_
    obtain ⟨u1,u2,u3⟩:=good d tail e
    rcases Nat.eq_or_lt_of_le u1 with h | h
    ·rw [← h,Nat.sub_self,if_pos (by omega)] at u2
     obtain ⟨q1,q2,q3⟩:=hg 0 _ (by decide) u2
     exact ⟨h.symm,q2,q3.trans u3⟩
    ·rw [show tcls d-i=(tcls d-(i+1))+1 by omega,List.replicate_succ,List.cons_append] at u2
     obtain ⟨q1,q2,q3⟩:=hg 1 _ (by decide) u2
     omega
 refine key 4 0 p bad ω0 w0' (by omega) (k0.non _) h0 b0 fun d tail e=>⟨by omega,?_,rfl⟩
 rw [e,tform_cls,Nat.sub_zero]
 simp only [List.append_assoc]
end Go.Proofs.YtmfgmcajelmgbaaGreatDoor.Chunk

namespace Go.Proofs.YtmfgmcajelmgbaaGreatDoor.Chunk
open Go Vm Go.RowKit Num Mem Bits Vint
variable {ω ω' : Tg} {w w' w0 : World} {gr gs gp p : Nat} {bs : List UInt8} {T D A B : Int} {V : Nat} {bad : Bool}
def endT (r:Option Addr) (l:Sl) (Kc:Sl→World→Prop) (w:World):Prop :=
 G.ptr r fun p57=>G.cP (p57.add 1) w.drew fun p58=>G.ptr p58 fun p59=>G.cI .i64 p59 w.drew fun n60=>G.ptr r fun p61=>G.cP (p61.add 1) w.drew fun p62=>G.ptr p62 fun p63=>G.cI .u64 (p63.add 2) w.drew fun n64=>C.math_Float64frombits n64 w.drew fun f65 w66=>sameAt (p57.add 1) 1 w.drew w66∧sameAt p59 1 w.drew w66∧(G.new (.cells #[(.int .i64 n60),(.float .f64 f65)] 96) w66 fun p67 w68=>G.runSl Tryz.prog (Builtin.append_ #[52,52] 52 #[l.v,(Sl.v (⟨some p67,1,1⟩:Sl))]) w68 fun l69 w70=>Kc l69 w70)
def tailT (r:Option Addr) (l:Sl) (Kc:Sl→World→Prop) (w:World):Prop :=
 G.ptr r fun p51=>G.cP (p51.add 1) w fun p52=>G.ptr p52 fun p53=>G.cI .i64 p53 w fun n54=>G.cond (decide (n54<(0:Int))) (G.ptr r fun p55=>G.st (p55.add 2) (.bool true) w fun w56=>endT r l Kc w56) (G.ptr r fun p71=>G.cP (p71.add 1) w fun p72=>G.ptr p72 fun p73=>G.cI .i64 p73 w fun n74=>G.cond (decide (n74 > (1125899906842624:Int))) (G.ptr r fun p75=>G.st (p75.add 2) (.bool true) w fun w76=>endT r l Kc w76) (endT r l Kc w))
theorem end_ok (h:RrS ω w 1 gr gp gs bs p T D V A B bad) {s:Sl} {lst:List Smp} (o:OS ω w 8 s lst) (hl:lst.length≤100000) {Kc:Sl→World→Prop}
  (hK:∀ r ω' w',Stp (Rng 1 9) ω ω' w w'→RrS ω' w' 1 gr gp gs bs p T D V A B bad→OS ω' w' 8 r (lst++[(T,V)])→Kc r w'):endT (wp gr) s Kc w:=by
 unfold endT
 have kd:=drew_stp ω w
 have hd:=h.non kd
 have od:=o.stp kd
 refine ptr_at (cP_at (b:=wp gp) (by rw [addr_add,hd.blk.cell];rfl) (ptr_at (cI_at (n:=T) (by rw [hd.st.cell];rfl) ?_)))
 refine ptr_at (cP_at (b:=wp gp) (by rw [addr_add,hd.blk.cell];rfl) (ptr_at (cI_at (n:=(V:Int)) (by rw [addr_add,hd.st.cell];rfl) ?_)))
 refine fbits_at ⟨same_refl _ _ _,same_refl _ _ _,?_⟩
 have hsn:=OS.len od
 refine push_T tiS od (n:=1) rfl (by intro v hv;simp at hv;rcases hv with rfl | rfl<;>rfl) (by simp only [maxLen];omega) (by omega) fun q ω5 w5 k5 o5 hq=>?_
 refine hK q ω5 w5 ((kd.non _).trans (k5.rng (by decide) (by decide))) (hd.stp k5 rfl rfl rfl rfl) ?_
 rw [OS,smps_app];exact o5
theorem up4 (h:Stp (Rng 1 4) ω ω' w w'):Stp (Rng 1 9) ω ω' w w':=rng_up (by decide) h
theorem tail_ok (h:RrS ω w 1 gr gp gs bs p T D V A B bad) {s:Sl} {lst:List Smp} (o:OS ω w 8 s lst) (hl:lst.length≤100000) {Kc:Sl→World→Prop}
  (hK:∀ r b' ω' w',Stp (Rng 1 9) ω ω' w w'→RrS ω' w' 1 gr gp gs bs p T D V A B b'→OS ω' w' 8 r (lst++[(T,V)])→(0≤T→T≤1125899906842624→b'=bad)→Kc r w'):tailT (wp gr) s Kc w:=by
 unfold tailT
 refine h.rdP (ptr_at (cI_at (n:=T) (by rw [h.st.cell];rfl) ?_))
 refine cond_d (fun h1=>ptr_at (h.setBad true fun ω2 w2 s2 r2=>?_)) (fun h1=>?_)
 ·exact end_ok r2 (o.stp s2 rfl) hl fun r ω3 w3 s3 r3 o3=>hK r true ω3 w3 ((up4 s2).trans s3) r3 o3 (fun h _=>by omega)
 refine h.rdP (ptr_at (cI_at (n:=T) (by rw [h.st.cell];rfl) ?_))
 refine cond_d (fun h2=>ptr_at (h.setBad true fun ω2 w2 s2 r2=>?_)) (fun h2=>?_)
 ·exact end_ok r2 (o.stp s2 rfl) hl fun r ω3 w3 s3 r3 o3=>hK r true ω3 w3 ((up4 s2).trans s3) r3 o3 (fun _ h=>by omega)
 ·exact end_ok h o hl fun r ω3 w3 s3 r3 o3=>hK r bad ω3 w3 s3 r3 o3 (fun _ _=>rfl)
def GoodR (bs:List UInt8) (p0 n:Nat) (lst:List Smp) (p:Nat) (A B D:Int) (bad:Bool):Prop :=
 ∀ m tail,Valid m→m.length=n→rest bs p0=(run m).1++tail→lst=m.take lst.length∧(run lst).1++rest bs p=(run m).1++tail∧bad=false∧reprR (run lst).2 A B∧D=dlt lst
theorem goodR_step {p0 n p1 p2:Nat} {lst:List Smp} {A B D A' B' D':Int} {b1 b2:Bool} {s:Smp} (h:GoodR bs p0 n lst p1 A B D b1) (hi:lst.length<n)
  (step:∀ (x:Smp) tail',Valid (lst++[x])→reprR (run lst).2 A B→D=dlt lst→b1=false→rest bs p1=(emit lst (run lst).2 x).1++tail'→s=x∧rest bs p2=tail'∧b2=false∧reprR (emit lst (run lst).2 x).2 A' B'∧D'=dlt (lst++[x])):GoodR bs p0 n (lst++[s]) p2 A' B' D' b2:=by
 intro m tail hm hn e
 obtain ⟨h1,h2,h3,h4,h5⟩:=h m tail hm hn e
 have him:lst.length<m.length:=by omega
 have et:m.take (lst.length+1)=lst++[m[lst.length]]:=by rw [List.take_add_one,List.getElem?_eq_getElem him,← h1];rfl
 have hv:Valid (lst++[m[lst.length]]):=by
  rw [← et]
  have:=hm
  rw [← List.take_append_drop (lst.length+1) m] at this
  exact this.pre
 obtain ⟨R,hR⟩:=run_pre (m:=m) (m.length-(lst.length+1)) (lst.length+1) (by omega)
 rw [et,run_snoc] at hR
 have er:rest bs p1=(emit lst (run lst).2 m[lst.length]).1++(R++tail):=by
  have:(run lst).1++rest bs p1=(run lst).1++((emit lst (run lst).2 m[lst.length]).1++(R++tail)):=by
   rw [h2,hR];simp only [List.append_assoc]
  exact List.append_cancel_left this
 obtain ⟨q1,q2,q3,q4,q5⟩:=step _ _ hv h4 h5 h3 er
 refine ⟨?_,?_,q3,?_,?_⟩
 ·rw [List.length_append,List.length_singleton,et,q1]
 ·rw [q1,run_snoc,q2,hR];simp only [List.append_assoc]
 ·rw [q1,run_snoc];exact q4
 ·rw [q1];exact q5
theorem r18 {u:Nat} (h:Rng 1 9 u=false):Rng 1 6 u=false:=by
 by_cases a:1≤u∧u<1+6
 ·have:Rng 1 9 u=true:=by simp [Rng,Nat.ble_eq_true_of_le a.1,Nat.blt_eq.mpr (show u<1+9 by omega)]
  rw [this] at h;cases h
 ·exact rng_out (by omega)
theorem loop_rd (h:RrS ω w 1 gr gp gs bs p 0 0 0 64 0 false) {n:Nat} (hn:n≤1000) {b:Sl} {K:C.tocsinref08_Decode.KT}
  (hK:∀ s lst p' T' D' V' A' B' bad' ω' w',OS ω' w' 8 s lst→(∀ x∈lst,x.2<18446744073709551616)→lst.length≤n→(∀ m tail,Valid m→m.length=n→rest bs p=(run m).1++tail→lst=m∧bad'=false)→Stp (Rng 1 9) ω ω' w w'→RrS ω' w' 1 gr gp gs bs p' T' D' V' A' B' bad'→C.tocsinref08_Decode.S2 K b (wp gr) s w'):C.tocsinref08_Decode.S9 K b (n:Int) (wp gr) nilS w:=by
 unfold C.tocsinref08_Decode.S9
 refine C.tocsinref08_Decode.L5_ind fun X hX=>?_
 have done:∀ (s:Sl) (lst:List Smp) p1 T1 D1 V1 A1 B1 b1 ω1 w1,lst.length≤n→(lst.length=n∨b1=true)→OS ω1 w1 8 s lst→(∀ x∈lst,x.2<18446744073709551616)→GoodR bs p n lst p1 A1 B1 D1 b1→Stp (Rng 1 9) ω ω1 w w1→RrS ω1 w1 1 gr gp gs bs p1 T1 D1 V1 A1 B1 b1→C.tocsinref08_Decode.S2 K b (wp gr) s w1:=by
  intro s lst p1 T1 D1 V1 A1 B1 b1 ω1 w1 hl hor o hx good st r
  refine hK s lst p1 T1 D1 V1 A1 B1 b1 ω1 w1 o hx hl (fun m tail hm hmn e=>?_) st r
  obtain ⟨u1,_,u3,_⟩:=good m tail hm hmn e
  rcases hor with hor | hor
  ·rw [hor,← hmn,List.take_length] at u1
   exact ⟨u1,u3⟩
  ·rw [hor] at u3;cases u3
 have key:∀ (d:Nat) (s:Sl) (lst:List Smp) p1 T1 D1 V1 A1 B1 b1 ω1 w1,lst.length+d=n→okR A1 B1→V1<18446744073709551616→(lst≠[]→lastS lst=(T1,V1))→OS ω1 w1 8 s lst→(∀ x∈lst,x.2<18446744073709551616)→GoodR bs p n lst p1 A1 B1 D1 b1→Stp (Rng 1 9) ω ω1 w w1→RrS ω1 w1 1 gr gp gs bs p1 T1 D1 V1 A1 B1 b1→X b (n:Int) (wp gr) s (lst.length:Int) w1:=by
  intro d
  induction d with
  | zero =>
   intro s lst p1 T1 D1 V1 A1 B1 b1 ω1 w1 hi hW hV hlast o hx good st r
   refine hX _ _ _ _ _ _ ?_
   unfold C.tocsinref08_Decode.S7
   exact cond_d (fun h=>by omega) (fun _=>done s lst p1 T1 D1 V1 A1 B1 b1 ω1 w1 (by omega) (.inl (by omega)) o hx good st r)
  | succ d ih =>
   intro s lst p1 T1 D1 V1 A1 B1 b1 ω1 w1 hi hW hV hlast o hx good st r
   refine hX _ _ _ _ _ _ ?_
   unfold C.tocsinref08_Decode.S7
   refine cond_d (fun _=>?_) (fun h=>by omega)
   refine r.rdB (cond_of (fun hb=>?_) (fun hb=>?_))
   case _ =>
    have hb1:b1=false:=by cases b1;rfl;cases hb
    subst hb1
    -- how each way goes on
    have fin:∀ T3 D3 V3 p3 A3 B3 b3 ω3 w3,V3<18446744073709551616→okR A3 B3→OS ω3 w3 8 s lst→Stp (Rng 1 9) ω ω3 w w3→RrS ω3 w3 1 gr gp gs bs p3 T3 D3 V3 A3 B3 b3 →
      (∀ (x:Smp) tail',Valid (lst++[x])→reprR (run lst).2 A1 B1→D1=dlt lst→rest bs p1=(emit lst (run lst).2 x).1++tail'→(T3,V3)=x∧rest bs p3=tail'∧b3=false∧reprR (emit lst (run lst).2 x).2 A3 B3∧D3=dlt (lst++[x])) →
      tailT (wp gr) s (fun l w=>X b (n:Int) (wp gr) l (IntKind.i64.wrap ((lst.length:Int)+(1:Int))) w) w3:=by
     intro T3 D3 V3 p3 A3 B3 b3 ω3 w3 hV3 hW3 o3 st3 r3 step
     refine tail_ok r3 o3 (by omega) fun q b4 ω4 w4 s4 r4 o4 hb4=>?_
     have:=ih q (lst++[(T3,V3)]) p3 T3 D3 V3 A3 B3 b4 ω4 w4 (by rw [List.length_append,List.length_singleton];omega) hW3 hV3 (fun _=>lastS_snoc _ _) o4 (fun x hx'=>by
      rcases List.mem_append.1 hx' with h | h
      ·exact hx x h
      ·rw [List.mem_singleton.1 h];exact hV3) (goodR_step good (by omega) fun x tail' hv hr hD _ e=>by
       obtain ⟨u1,u2,u3,u4,u5⟩:=step x tail' hv hr hD e
       have hxx:=wrong_zero hv.inv.2.1
       have hT:T3=x.1:=by rw [← u1]
       exact ⟨u1,u2,(hb4 (by omega) (by omega)).trans u3,u4,u5⟩) (st3.trans s4) r4
     rw [wI64 (by omega) (by omega)]
     rw [List.length_append,List.length_singleton] at this
     exact this
    refine cond_eq (fun h0=>?_) (fun h0=>cond_eq (fun h1=>?_) (fun h1=>?_))
    ·obtain rfl:lst=[]:=List.eq_nil_of_length_eq_zero (by omega)
     refine number_ok r fun v p2 b2 ω2 w2 hv hg s2 r2=>r2.rdP ⟨by decide,ptr_at (r2.set0 fun ω3 w3 s3 r3=>?_)⟩
     have s03:=(st.trans (s2.mono fun u hu=>r18 hu)).trans (up4 s3)
     have o3:=(o.stp s2 rfl).stp s3 rfl
     have eand:Go.bits .and .u64 (v:Int) (1:Int)=((v % 2:Nat):Int):=by
      rw [show (1:Int)=((1:Nat):Int) from rfl,bits_and rfl (by simp only [IntKind.bits];omega) (by decide),Nat.and_one_is_mod]
     have eshr:shr .u64 (v:Int) (1:Int)=((v / 2:Nat):Int):=by
      have:=shr64 (x:=v) (k:=1) (by decide)
      rw [show ((1:Nat):Int)=(1:Int) from rfl] at this
      rw [this]
     rw [eand]
     -- what was ahead
     have look:∀ (x:Smp) tail',Valid ([]++[x])→rest bs p1=(emit [] (run []).2 x).1++tail'→v=zz x.1∧rest bs p2=low x.2 64++tail'∧b2=false∧0≤x.1∧x.1≤1125899906842624∧x.2<18446744073709551616:=by
      intro x tail' hvx e
      have hxx:=wrong_zero hvx.inv.2.1
      have ee:emit [] (run []).2 x=(byteBits (putU (zz x.1))++low x.2 64,(run []).2):=rfl
      rw [ee,List.append_assoc] at e
      obtain ⟨q1,q2,q3⟩:=hg rfl (zz x.1) _ (zz_lt50 hxx.1 hxx.2.1) e
      exact ⟨q1,q2,q3,hxx.1,hxx.2.1,hvx.inv.2.2⟩
     have on:∀ (bq:Bool) ω4 w4,Stp (Rng 1 9) ω ω4 w w4→OS ω4 w4 8 s []→RrS ω4 w4 1 gr gp gs bs p2 (IntKind.i64.wrap (shr .u64 (v:Int) (1:Int))) D1 V1 A1 B1 bq→(bq=b2∨v % 2=1) →
       G.ptr (wp gr) fun p45=>G.cP (p45.add 1) w4.drew fun p46=>C.tocsinref08_Reader_bits (wp gr) (64:Int) w4.drew fun n47 w48=>sameAt (p45.add 1) 1 w4.drew w48∧(G.ptr p46 fun p49=>G.st (p49.add 2) (.int .u64 n47) w48 fun w50=>tailT (wp gr) s (fun l w=>X b (n:Int) (wp gr) l (IntKind.i64.wrap ((([]:List Smp).length:Int)+(1:Int))) w) w50):=by
      intro bq ω4 w4 s4 o4 r4 hbq
      have kd:=drew_stp ω4 w4
      have rd:=r4.non kd
      refine ptr_at (cP_at (b:=wp gp) (by rw [addr_add,rd.blk.cell];rfl) ?_)
      refine gbits_ok rd (k:=64) (by decide) rfl fun V5 p5 b5 ω5 w5 hV5 hg5 s5 r5=>⟨?_,?_⟩
      ·rw [addr_add];exact same_cell (v:=.pointer (wp gp)) (by rw [rd.blk.cell];rfl) (by rw [r5.blk.cell];rfl)
      refine ptr_at (r5.setA (by decide) (T':=_) (D':=D1) (V':=V5) (A':=A1) (B':=B1) rfl fun ω6 w6 s6 r6=>?_)
      refine fin _ D1 V5 p5 A1 B1 b5 ω6 w6 hV5 hW (((o4.stp kd).stp s5 rfl).stp s6 rfl) (((s4.trans (kd.non _)).trans (up4 s5)).trans (up4 s6)) r6 fun x tail' hvx hr hD e=>?_
      obtain ⟨q1,q2,q3,hx0,hx1,hx2⟩:=look x tail' hvx e
      have ez:zz x.1=(2*x.1).toNat:=by unfold zz;rw [if_pos hx0]
      obtain ⟨u1,u2,u3⟩:=hg5 x.2 tail' hx2 q2
      refine ⟨?_,u2,?_,hr,by rw [hD];rfl⟩
      ·refine Prod.ext ?_ u1
       show IntKind.i64.wrap (shr .u64 (v:Int) (1:Int))=x.1
       rw [eshr,q1,ez,wI64 (by omega) (by omega)]
       omega
      ·rcases hbq with hbq | hbq
       ·rw [u3,hbq];exact q3
       ·omega
     refine cond_eq (fun hodd=>?_) (fun hev=>?_)
     ·refine ptr_at (r3.setBad true fun ω4 w4 s4 r4=>?_)
      exact on true ω4 w4 (s03.trans (up4 s4)) (o3.stp s4 rfl) r4 (.inr (by omega))
     ·exact on b2 ω3 w3 s03 o3 r3 (.inl rfl)
    ·obtain ⟨a,rfl⟩:∃ a,lst=[a]:=by
      cases lst with
      | nil=>simp at h1
      | cons a r=>cases r with
       | nil=>exact ⟨a,rfl⟩
       | cons _ _=>simp at h1;omega
     have hla:a=(T1,V1):=hlast (by simp)
     subst hla
     refine number_ok r fun v p2 b2 ω2 w2 hv hg s2 r2=>?_
     have s02:=st.trans (s2.mono fun u hu=>r18 hu)
     have o2:=o.stp s2 rfl
     have look:∀ (x:Smp) tail',Valid ([(T1,V1)]++[x])→rest bs p1=(emit [(T1,V1)] (run [(T1,V1)]).2 x).1++tail'→(v:Int)=x.1-T1∧rest bs p2=(vform (run [(T1,V1)]).2 (x.2 ^^^ V1)).1++tail'∧b2=false∧0≤T1∧T1<x.1∧x.1≤1125899906842624∧x.2<18446744073709551616:=by
      intro x tail' hvx e
      have hxx:=wrong_zero hvx.inv.2.1
      have hav:=hvx.inv.1.mem (T1,V1) (List.mem_singleton.2 rfl)
      have hlt:T1<x.1:=hxx.2.2.2 (T1,V1) rfl
      have ee:emit [(T1,V1)] (run [(T1,V1)]).2 x=(byteBits (putU (uN (x.1-T1)))++(vform (run [(T1,V1)]).2 (x.2 ^^^ V1)).1,(vform (run [(T1,V1)]).2 (x.2 ^^^ V1)).2):=rfl
      rw [ee,List.append_assoc] at e
      obtain ⟨q1,q2,q3⟩:=hg rfl (uN (x.1-T1)) _ (uN_lt _) e
      have euN:((uN (x.1-T1):Nat):Int)=x.1-T1:=by unfold uN;omega
      exact ⟨by rw [q1];exact euN,q2,q3,hav.1,hlt,hxx.2.1,hvx.inv.2.2⟩
     refine cond_d (fun hbig=>?_) (fun hsm=>?_)
     ·refine ptr_at (r2.setBad true fun ω3 w3 s3 r3=>?_)
      refine fin T1 D1 V1 p2 A1 B1 true ω3 w3 hV hW (o2.stp s3 rfl) (s02.trans (up4 s3)) r3 fun x tail' hvx hr hD e=>?_
      obtain ⟨q1,_,_,q4,q5,q6,_⟩:=look x tail' hvx e
      omega
     ·refine r2.rdP (ptr_at (r2.setA (by decide) (T':=T1) (D':=IntKind.i64.wrap (v:Int)) (V':=V1) (A':=A1) (B':=B1) rfl fun ω3 w3 s3 r3=>?_))
      have kd:=drew_stp ω3 w3
      have rd:=r3.non kd
      refine rd.rdP (rd.rdP (ptr_at (cI_at (n:=T1) (by rw [rd.st.cell];rfl) (rd.rdP (ptr_at (cI_at (n:=IntKind.i64.wrap (v:Int)) (by rw [addr_add,rd.st.cell];rfl) (ptr_at (rd.set0 fun ω4 w4 s4 r4=>?_))))))))
      have kd4:=drew_stp ω4 w4
      have rd4:=r4.non kd4
      refine ptr_at (cP_at (b:=wp gp) (by rw [addr_add,rd4.blk.cell];rfl) ?_)
      refine gvalue_ok rd4 hV hW fun V5 p5 b5 A5 B5 ω5 w5 hV5 hW5 hg5 s5 r5=>⟨?_,?_⟩
      ·rw [addr_add];exact same_cell (v:=.pointer (wp gp)) (by rw [rd4.blk.cell];rfl) (by rw [r5.blk.cell];rfl)
      refine ptr_at (r5.setA (by decide) (T':=_) (D':=IntKind.i64.wrap (v:Int)) (V':=V5) (A':=A5) (B':=B5) rfl fun ω6 w6 s6 r6=>?_)
      refine fin _ _ V5 p5 A5 B5 b5 ω6 w6 hV5 hW5 ((((((o2.stp s3 rfl).stp kd).stp s4 rfl).stp kd4).stp s5 rfl).stp s6 rfl) ((((((s02.trans (up4 s3)).trans (kd.non _)).trans (up4 s4)).trans (kd4.non _)).trans (up4 s5)).trans (up4 s6)) r6 fun x tail' hvx hr hD e=>?_
      obtain ⟨q1,q2,q3,q4,q5,q6,q7⟩:=look x tail' hvx e
      obtain ⟨u1,u2,u3,u4⟩:=hg5 (run [(T1,V1)]).2 (x.2 ^^^ V1) tail' (run_ok hvx.inv.1) hr (xor64_lt q7 hV) q2
      have ev:IntKind.i64.wrap (v:Int)=x.1-T1:=by rw [q1,wI64 (by omega) (by omega)]
      refine ⟨?_,u2,u3.trans q3,u4,by rw [ev];rfl⟩
      refine Prod.ext ?_ ?_
      ·show IntKind.i64.wrap (T1+IntKind.i64.wrap (v:Int))=x.1
       rw [ev,wI64 (by omega) (by omega)];omega
      ·show V5=x.2
       rw [u1,xor_back]
    ·obtain ⟨c,a,rr,hr⟩:∃ c a rr,lst.reverse=c::a::rr:=by
      rcases hr:lst.reverse with _ | ⟨c,_ | ⟨a,rr⟩⟩
      ·have:=congrArg List.length hr;simp at this;exact absurd (by rw [this];rfl) h0
      ·have:=congrArg List.length hr;simp at this;exact absurd (by rw [this];rfl) h1
      ·exact ⟨c,a,rr,rfl⟩
     have hll:lst=rr.reverse++[a,c]:=by rw [← List.reverse_reverse lst,hr];simp
     have hc:c=(T1,V1):=by
      have:=lastS_rev hr
      rw [← this]
      exact hlast (by rw [hll];simp)
     subst hc
     refine gtime_ok r fun v p2 b2 ω2 w2 hv1 hv2 hg s2 r2=>?_
     have s02:=st.trans (s2.mono fun u hu=>r18 hu)
     have o2:=o.stp s2 rfl
     have look:∀ (x:Smp) tail',Valid (lst++[x])→rest bs p1=(emit lst (run lst).2 x).1++tail'→v=x.1-T1-(T1-a.1)∧rest bs p2=(vform (run lst).2 (x.2 ^^^ V1)).1++tail'∧b2=false∧0≤T1∧T1≤1125899906842624∧0≤a.1∧a.1<T1∧T1<x.1∧x.1≤1125899906842624∧x.2<18446744073709551616:=by
      intro x tail' hvx e
      have hxx:=wrong_zero hvx.inv.2.1
      have hav:=hvx.inv.1.mem a (by rw [hll];simp)
      have hcv:=hvx.inv.1.mem (T1,V1) (by rw [hll];simp)
      have hlt:T1<x.1:=hxx.2.2.2 (T1,V1) (by rw [hll];simp)
      have hac:a.1<T1:=by
       have hv0:=hvx.inv.1
       rw [hll,show rr.reverse++[a,(T1,V1)]=(rr.reverse++[a])++[(T1,V1)] by simp] at hv0
       exact (wrong_zero hv0.inv.2.1).2.2.2 a (by simp)
      have ee:emit lst (run lst).2 x=(tform (x.1-T1-(T1-a.1))++(vform (run lst).2 (x.2 ^^^ V1)).1,(vform (run lst).2 (x.2 ^^^ V1)).2):=by unfold emit;rw [hr]
      rw [ee,List.append_assoc] at e
      obtain ⟨q1,q2,q3⟩:=hg (x.1-T1-(T1-a.1)) _ (by have:=hcv.1;have:=hcv.2.1;simp only at *;omega) (by have:=hcv.1;have:=hcv.2.1;simp only at *;omega) e
      exact ⟨q1,q2,q3,hcv.1,hcv.2.1,hav.1,hac,hlt,hxx.2.1,hvx.inv.2.2⟩
     refine cond_d (fun hbig=>?_) (fun hsm=>cond_d (fun hneg=>?_) (fun hge=>?_))
     ·refine ptr_at (r2.setBad true fun ω3 w3 s3 r3=>?_)
      refine fin T1 D1 V1 p2 A1 B1 true ω3 w3 hV hW (o2.stp s3 rfl) (s02.trans (up4 s3)) r3 fun x tail' hvx hr hD e=>?_
      obtain ⟨q1,_,_,q4,q5,q6,q7,q8,q9,_⟩:=look x tail' hvx e
      omega
     ·refine ptr_at (r2.setBad true fun ω3 w3 s3 r3=>?_)
      refine fin T1 D1 V1 p2 A1 B1 true ω3 w3 hV hW (o2.stp s3 rfl) (s02.trans (up4 s3)) r3 fun x tail' hvx hr hD e=>?_
      obtain ⟨q1,_,_,q4,q5,q6,q7,q8,q9,_⟩:=look x tail' hvx e
      omega
     ·have kd2:=drew_stp ω2 w2
      have rd2:=r2.non kd2
      refine rd2.rdP (rd2.rdP (ptr_at (cI_at (n:=D1) (by rw [addr_add,rd2.st.cell];rfl) (ptr_at (rd2.setA (by decide) (T':=T1) (D':=IntKind.i64.wrap (D1+v)) (V':=V1) (A':=A1) (B':=B1) rfl fun ω3 w3 s3 r3=>?_)))))
      have kd:=drew_stp ω3 w3
      have rd:=r3.non kd
      refine rd.rdP (rd.rdP (ptr_at (cI_at (n:=T1) (by rw [rd.st.cell];rfl) (rd.rdP (ptr_at (cI_at (n:=IntKind.i64.wrap (D1+v)) (by rw [addr_add,rd.st.cell];rfl) (ptr_at (rd.set0 fun ω4 w4 s4 r4=>?_))))))))
      have kd4:=drew_stp ω4 w4
      have rd4:=r4.non kd4
      refine ptr_at (cP_at (b:=wp gp) (by rw [addr_add,rd4.blk.cell];rfl) ?_)
      refine gvalue_ok rd4 hV hW fun V5 p5 b5 A5 B5 ω5 w5 hV5 hW5 hg5 s5 r5=>⟨?_,?_⟩
      ·rw [addr_add];exact same_cell (v:=.pointer (wp gp)) (by rw [rd4.blk.cell];rfl) (by rw [r5.blk.cell];rfl)
      refine ptr_at (r5.setA (by decide) (T':=_) (D':=IntKind.i64.wrap (D1+v)) (V':=V5) (A':=A5) (B':=B5) rfl fun ω6 w6 s6 r6=>?_)
      refine fin _ _ V5 p5 A5 B5 b5 ω6 w6 hV5 hW5 (((((((o2.stp kd2).stp s3 rfl).stp kd).stp s4 rfl).stp kd4).stp s5 rfl).stp s6 rfl) (((((((s02.trans (kd2.non _)).trans (up4 s3)).trans (kd.non _)).trans (up4 s4)).trans (kd4.non _)).trans (up4 s5)).trans (up4 s6)) r6 fun x tail' hvx hr' hD e=>?_
      obtain ⟨q1,q2,q3,q4,q5,q6,q7,q8,q9,q10⟩:=look x tail' hvx e
      obtain ⟨u1,u2,u3,u4⟩:=hg5 (run lst).2 (x.2 ^^^ V1) tail' (run_ok hvx.inv.1) hr' (xor64_lt q10 hV) q2
      have hDl:dlt lst=T1-a.1:=by unfold dlt;rw [hr]
      have ev:IntKind.i64.wrap (D1+v)=x.1-T1:=by rw [hD,hDl,q1,wI64 (by omega) (by omega)];omega
      have ee:emit lst (run lst).2 x=(tform (x.1-T1-(T1-a.1))++(vform (run lst).2 (x.2 ^^^ V1)).1,(vform (run lst).2 (x.2 ^^^ V1)).2):=by unfold emit;rw [hr]
      refine ⟨?_,u2,u3.trans q3,by rw [ee];exact u4,by rw [ev,dlt_snoc hr]⟩
      refine Prod.ext ?_ ?_
      ·show IntKind.i64.wrap (T1+IntKind.i64.wrap (D1+v))=x.1
       rw [ev,wI64 (by omega) (by omega)];omega
      ·show V5=x.2
       rw [u1,xor_back]
   case _=>exact done s lst p1 T1 D1 V1 A1 B1 b1 ω1 w1 (by omega) (.inr (by cases b1;cases hb;rfl)) o hx good st r
 refine key n nilS [] p 0 0 0 64 0 false ω w (by simp) (.inl rfl) (by decide) (fun h=>absurd rfl h) (OT.nil _ _ _ _ _) (fun x hx=>by cases hx) (fun m tail _ _ e=>⟨rfl,by rw [e];rfl,rfl,rfl,rfl⟩) (Stp.refl _ _ _) h
end Go.Proofs.YtmfgmcajelmgbaaGreatDoor.Chunk

namespace Go.Proofs.YtmfgmcajelmgbaaGreatDoor.Chunk
open Go Vm Go.RowKit Num Mem Bits Vint Rep
variable {ω ω' : Tg} {w w' w0 : World} {bs : List UInt8}
theorem take_smps (m:List Smp) (n:Nat) (h:n≤m.length):((smps m).drop (0*2)).take ((n-0)*2)=smps (m.take n):=by
 have e:smps m=smps (m.take n)++smps (m.drop n):=by rw [← smps_app,List.take_append_drop]
 have l:(smps (m.take n)).length=n*2:=by rw [smps_len,List.length_take,Nat.min_eq_left h]
 rw [e,Nat.zero_mul,List.drop_zero,Nat.sub_zero,List.take_append_of_le_length (by omega),List.take_of_length_le (by omega)]
end Go.Proofs.YtmfgmcajelmgbaaGreatDoor.Chunk

namespace Go.Proofs.YtmfgmcajelmgbaaGreatDoor.Chunk
open Go Vm Go.RowKit Num Mem Bits Vint Rep
variable {ω ω' : Tg} {w w' w0 : World} {bs : List UInt8}
theorem rencode_ok {s:Sl} {m:List Smp} (hs:Rd w0 s 2 (smps m)) (hm:∀ x∈m,x.2<18446744073709551616) (hl:m.length≤9223372036854775807) {K:Sl→Int→Int→World→Prop}
  (hE:(firstW [] m 0).1≠0→∀ w',Keep w0 w'→K nilS (firstW [] m 0).1 ((firstW [] m 0).2:Int) w')
  (hK:(firstW [] m 0).1=0→Valid m→∀ r w',Keep w0 w'→OwnB w' w0.heap.size r (enc m)→K r 0 0 w'):C.tocsinref08_Encode s w0 K:=by
 have hsn:s.n=m.length:=by have:=hs.2.1;rw [smps_len] at this;omega
 unfold C.tocsinref08_Encode C.tocsinref08_Encode.S9
 refine C.tocsinref08_Encode.L5_ind fun X hX=>?_
 have key:∀ (d i:Nat) (w:World),i+d=m.length→firstW (m.take i) (m.drop i) i=firstW [] m 0→Keep w0 w→Valid (m.take i)→X s s ((s.n:Nat):Int) (i:Int) w:=by
  intro d
  induction d with
  | zero =>
   intro i w hi hf k hv
   refine hX _ _ _ _ _ ?_
   unfold C.tocsinref08_Encode.S7 C.tocsinref08_Encode.S2
   refine cond_d (fun h=>by omega) (fun _=>?_)
   rw [show i=m.length by omega,List.take_length] at hv
   rw [show i=m.length by omega,List.drop_length] at hf
   exact rbytes_ok (hs.keep k) hv fun r w' k' o=>hK (by rw [← hf];rfl) hv r w' (Keep.trans k k') (Mem.Own.mono o k.size)
  | succ d ih =>
   intro i w hi hf k hv
   have him:i<m.length:=by omega
   refine hX _ _ _ _ _ ?_
   unfold C.tocsinref08_Encode.S7
   refine cond_d (fun _=>?_) (fun h=>by omega)
   have hx:m[i]?=some m[i]:=List.getElem?_eq_getElem him
   refine rdS_at (hs.keep k) (k:=i) rfl hx fun a hc0 hc1=>cI_at hc0<|cF_at hc1 ?_
   refine new_T (ω:=fun _=>0) 7 fun g ω2 w2 k2 b2=>?_
   refine st_T b2 (by simp) fun ω3 w3 k3 b3=>?_
   refine st_TA b3 (by simp) fun ω4 w4 k4 b4=>?_
   have k04:=Keep.trans k ((Top.init w).stp ((k2.non (Mem.One 7)).trans (k3.trans k4))).k
   refine Rd.slc (hs.keep k04) (lo:=0) (hi:=i) (by omega) (by omega) rfl rfl fun q hq _ _=>?_
   rw [take_smps m i (by omega)] at hq
   have kd:=Keep.trans k04 (Keep.drew w4)
   refine cI_at (n:=m[i].1) (by rw [(b4.stp (drew_stp ω4 w4)).cell];rfl) ?_
   refine wrong_ok hq.drew hv.len ?_
   have dr:m.drop i=m[i]::m.drop (i+1):=List.drop_eq_getElem_cons him
   have tk:m.take (i+1)=m.take i++[m[i]]:=by rw [List.take_add_one,hx];rfl
   rw [dr,firstW] at hf
   refine cond_ne (fun hne=>?_) (fun heq=>?_)
   ·rw [if_neg hne] at hf
    have:=hE (by rw [← hf];exact hne) _ kd
    rwa [← hf] at this
   ·rw [if_pos heq] at hf
    rw [wI64 (by omega) (by omega),show (i:Int)+1=((i+1:Nat):Int) by omega]
    exact ih (i+1) _ (by omega) (by rw [tk];exact hf) kd (by rw [tk];exact .snoc hv heq (hm _ (List.getElem_mem him)))
 exact key m.length 0 w0 (by omega) rfl (Keep.refl w0) .nil
theorem head2R {x y:Nat} (hx:x<256) (hy:y<256):IntKind.i64.wrap ((IntKind.i64.wrap ((IntKind.i64.wrap (x:Int))*(256:Int)))+(IntKind.i64.wrap (y:Int)))=((x*256+y:Nat):Int):=by
 rw [wI64 (x:=(x:Int)) (by omega) (by omega),wI64 (x:=(y:Int)) (by omega) (by omega),wI64 (x:=(x:Int)*256) (by omega) (by omega),wI64 (by omega) (by omega)]
 omega
theorem rdecode_ok {b:Sl} (hb:RdB w0 b bs) {K:Sl→Int→World→Prop}
  (hE:(∀ l,Valid l→bs≠enc l)→∀ w',Keep w0 w'→K nilS 3 w')
  (hK:∀ l,Valid l→bs=enc l→∀ r w',Keep w0 w'→Mem.Own w' w0.heap.size 96 2 r (smps l)→K r 0 w'):C.tocsinref08_Decode b w0 K:=by
 have hn:=hb.len
 unfold C.tocsinref08_Decode
 refine cond_d (fun h=>hE (fun l _ e=>?_) w0 (Keep.refl w0)) (fun h=>cond_d (fun h'=>hE (fun l hl e=>?_) w0 (Keep.refl w0)) (fun h'=>?_))
 ·have:=enc_len l
  rw [← e] at this
  omega
 ·have:=enc_small hl
  rw [← e] at this
  omega
 obtain ⟨x,y,q,rfl⟩:∃ x y q,bs=x::y::q:=by
  rcases bs with _ | ⟨x,_ | ⟨y,q⟩⟩
  ·simp at hn;omega
  ·simp at hn;omega
  ·exact ⟨x,y,q,rfl⟩
 have kd:=Keep.drew w0
 have hx:=x.toNat_lt
 have hy:=y.toNat_lt
 have hlen:(x::y::q).length=q.length+2:=rfl
 refine RdB.ati hb.drew (k:=0) rfl (by omega) ?_
 refine RdB.ati hb.drew (k:=1) rfl (by omega) ?_
 have e2:IntKind.i64.wrap ((IntKind.i64.wrap ((IntKind.i64.wrap (((x::y::q)[0]).toNat:Int))*(256:Int)))+(IntKind.i64.wrap (((x::y::q)[1]).toNat:Int)))=((x.toNat*256+y.toNat:Nat):Int):=head2R hx hy
 rw [e2]
 refine cond_d (fun h1=>hE (fun l hl e=>?_) _ kd) (fun h1=>?_)
 ·obtain ⟨q1,_⟩:=enc_bits hl e
  have:=hl.len
  omega
 refine RdB.slc hb (lo:=2) (hi:=q.length+2) (by omega) (by omega) rfl (by omega) fun r hr=>?_
 have eq:((x::y::q).drop 2).take (q.length+2-2)=q:=by simp
 rw [eq] at hr
 rw [wI64 (x:=((b.n:Nat):Int)-2) (by omega) (by omega),wI64 (by omega) (by omega)]
 refine newStr_ok (w0:=w0) (bs:=q) hr (by omega) 3 (by decide) (by omega) (ω0:=fun _=>0) ⟨kd,fun _ _=>rfl⟩ fun gs ω2 w2 s2 st2=>?_
 unfold C.tocsinref08_New
 refine new_T (ω:=ω2) 2 fun gp ω3 w3 k3 b3=>?_
 refine new_T (ω:=ω3) 1 fun gr ω4 w4 k4 b4=>?_
 have top2:Top w0 ω2 w2:=Top.stp (ω:=fun _=>0) (w:=w0.drew) ⟨kd,fun _ _=>rfl⟩ s2
 have top4:=(top2.stp k3).stp k4
 have rr:RrS ω4 w4 1 gr gp gs q 0 0 0 0 64 0 false:=⟨b4,b3.stp k4,(st2.non k3).non k4,Nat.zero_le _,by omega⟩
 refine loop_rd rr (n:=x.toNat*256+y.toNat) (by omega) fun s lst p' T' D' V' A' B' bad' ω5 w5 o5 hv5 hl5 good s5 r5=>?_
 have top5:=top4.stp s5
 have isl:∀ l,Valid l→x::y::q=enc l→lst=l∧bad'=false:=fun l hl e=>by
  obtain ⟨q1,_,m,hm⟩:=enc_bits hl e
  exact good l _ hl q1.symm hm
 have fail:(∀ l,Valid l→x::y::q=enc l→False)→∀ w',Keep w0 w'→K nilS 3 w':=fun h=>hE fun l hl e=>h l hl e
 unfold C.tocsinref08_Decode.S2
 refine r5.rdB (cond_of (fun hbad=>fail (fun l hl e=>?_) w5 top5.k) (fun hbad=>?_))
 ·obtain ⟨_,u2⟩:=isl l hl e
  rw [u2] at hbad;cases hbad
 refine rencode_ok o5.rd hv5 (by omega) (fun hf w6 k6=>?_) (fun hf hval a w6 k6 o6=>?_)
 ·have k06:=Keep.trans top5.k k6
  refine cond_t (by simp;exact hf) (fail (fun l hl e=>?_) w6 k06)
  obtain ⟨u1,_⟩:=isl l hl e
  subst u1
  exact hf (by rw [firstW_zero _ [] 0 hl])
 ·have k06:=Keep.trans top5.k k6
  refine cond_f rfl (convBS o6.rd (convBS (hb.keep k06) ?_))
  rw [str_toList,str_toList]
  refine cond_of (fun hne=>fail (fun l hl e=>?_) w6 k06) (fun heq=>?_)
  ·obtain ⟨u1,_⟩:=isl l hl e
   subst u1
   rw [e] at hne
   simp at hne
  ·have e:enc lst=x::y::q:=by simpa using heq
   exact hK lst hval e.symm s w6 k06 ((o5.from top5 (by decide)).keep k6)
theorem rdecode_dec {b:Sl} (hb:RdB w0 b bs) {K:Sl→Int→World→Prop}
  (hE:dec bs=none→∀ w',Keep w0 w'→K nilS 3 w')
  (hK:∀ l,dec bs=some l→Valid l→∀ r w',Keep w0 w'→Mem.Own w' w0.heap.size 96 2 r (smps l)→K r 0 w'):C.tocsinref08_Decode b w0 K :=
 rdecode_ok hb (fun h=>hE (by
  cases hd:dec bs with
  | none=>rfl
  | some l=>obtain ⟨h1,h2⟩:=dec_some hd;exact absurd h2 (h l h1))) fun l hl e=>hK l (by rw [e];exact dec_enc hl) hl
end Go.Proofs.YtmfgmcajelmgbaaGreatDoor.Chunk

namespace Go.Proofs.YtmfgmcajelmgbaaGreatDoor.Chunk
open Go Vm Go.RowKit Num Mem Bits Vint Rep
variable {ω ω' : Tg} {w w' w0 : World} {bs : List UInt8}
theorem rjoin_ok {s:Sl} {ss:List Sl} {bss:List (List UInt8)} (h:RdL w0 s ss bss) (hl:bss.length≤10000000) {K:Sl→Int→Int→World→Prop}
  (hK:∀ r w',Keep w0 w'→Mem.Own w' w0.heap.size 96 2 r (smps (joinL [] bss 0).1)→K r (joinL [] bss 0).2.1 ((joinL [] bss 0).2.2:Int) w'):C.tocsinref08_Join s w0 K:=by
 have hn:=h.n
 unfold C.tocsinref08_Join C.tocsinref08_Join.S9
 refine C.tocsinref08_Join.L5_ind fun X hX=>?_
 have key:∀ (d i:Nat) (out:Sl) (ol:List Smp) (ω:Tg) (w:World),i+d=bss.length→ol.length≤120*i→joinL ol (bss.drop i) i=joinL [] bss 0→Top w0 ω w→OS ω w 5 out ol→X out s ((s.n:Nat):Int) (i:Int) w:=by
  intro d
  induction d with
  | zero =>
   intro i out ol ω w hi hol e top o
   refine hX _ _ _ _ _ ?_
   unfold C.tocsinref08_Join.S7 C.tocsinref08_Join.S2
   refine cond_d (fun h=>by omega) (fun _=>?_)
   rw [List.drop_of_length_le (by omega)] at e
   have:=hK out w top.k (by rw [← e];exact o.from top (by decide))
   rwa [← e] at this
  | succ d ih =>
   intro i out ol ω w hi hol e top o
   refine hX _ _ _ _ _ ?_
   unfold C.tocsinref08_Join.S7
   have hib:i<bss.length:=by omega
   refine cond_d (fun _=>?_) (fun h=>by omega)
   refine (h.keep top.k).at_ (List.getElem?_eq_getElem hib) fun q hq=>?_
   rw [List.drop_eq_getElem_cons hib,joinL] at e
   refine rdecode_dec hq (fun hd w1 k1=>?_) (fun x hd hv r w1 k1 o1=>?_)
   ·rw [hd] at e
    refine cond_t rfl ?_
    have k01:=Keep.trans top.k k1
    have:=hK nilS w1 k01 (by rw [← e];exact Mem.Own.nil _ _ _ _)
    rwa [← e] at this
   ·rw [hd] at e
    simp only at e
    refine cond_f rfl ?_
    have k01:=Keep.trans top.k k1
    have s1:=k1.stp0 ω
    have top1:=top.stp s1
    have o':=o.stp s1
    have hrn:r.n=x.length:=by have:=o1.1;rw [smps_len] at this;omega
    have hon:=OS.len o
    have hxl:=hv.len
    have kd:=drew_stp ω w1
    have od:=o'.stp kd
    have topd:=top1.stp kd
    have rd:=(Mem.Own.rd o1).keep kd.keep
    -- the common end
    have app:¬ (x≠[]∧ol≠[]∧(x.head?.getD (0,0)).1≤(lastS ol).1)→G.runSl Tryz.prog (Builtin.append_ #[52,52] 52 #[out.v,r.v]) w1.drew fun l27 w28=>X l27 s ((s.n:Nat):Int) (IntKind.i64.wrap ((i:Int)+(1:Int))) w28:=by
     intro hno
     rw [if_neg hno] at e
     refine app_T tiS od rd smps_one (by simp only [maxLen];omega) (by omega) fun q2 ω2 w2 k2 o2 hq2=>?_
     rw [wI64 (by omega) (by omega),show (i:Int)+1=((i+1:Nat):Int) by omega]
     exact ih (i+1) q2 (ol++x) ω2 w2 (by omega) (by rw [List.length_append];omega) e (topd.stp k2) (by rw [OS,smps_app];exact o2)
    refine cond_d (fun h1=>cond_d (fun h2=>?_) (fun h2=>app ?_)) (fun h1=>app ?_)
    ·obtain ⟨y,hy⟩:∃ y,x[0]?=some y:=⟨_,List.getElem?_eq_getElem (by omega)⟩
     obtain ⟨z,hz⟩:∃ z,ol[ol.length-1]?=some z:=⟨_,List.getElem?_eq_getElem (by omega)⟩
     have hlast:lastS ol=z:=by unfold lastS;rw [List.getLast?_eq_getElem?,hz];rfl
     have hhead:x.head?.getD (0,0)=y:=by rw [List.head?_eq_getElem?,hy];rfl
     refine rdS_at rd (k:=0) rfl hy fun p hc0 _=>cI_at hc0 ?_
     refine rdS_at od.rd (k:=ol.length-1) (by rw [wI64 (by omega) (by omega)];omega) hz fun p2 hd0 _=>cI_at hd0 ?_
     refine cond_d (fun h3=>?_) (fun h3=>app (by rw [hhead,hlast];intro h;exact h3 h.2.2))
     rw [if_pos ⟨by rintro rfl;simp at hy,by rintro rfl;simp at hz,by rw [hhead,hlast];exact h3⟩] at e
     have:=hK nilS _ topd.k (by rw [← e];exact Mem.Own.nil _ _ _ _)
     rwa [← e] at this
    ·rintro ⟨_,h3,_⟩
     exact h3 (List.eq_nil_of_length_eq_zero (by omega))
    ·rintro ⟨h3,_⟩
     exact h3 (List.eq_nil_of_length_eq_zero (by omega))
 exact key bss.length 0 nilS [] (fun _=>0) w0 (by omega) (by simp) rfl (Top.init w0) (OT.nil _ _ _ _ _)
set_option maxRecDepth 20000 in
theorem rsplit_ok {s:Sl} {m:List Smp} (hs:Rd w0 s 2 (smps m)) (hm:∀ x∈m,x.2<18446744073709551616) (hl:m.length≤11000000) {K:Sl→Int→Int→World→Prop}
  (hE:(swr [] m 0).1≠0→∀ w',Keep w0 w'→K nilS (swr [] m 0).1 ((swr [] m 0).2:Int) w')
  (hK:(swr [] m 0).1=0→Rising m→∀ r ss ω' w',Top w0 ω' w'→OLs ω' w' 12 r ss (pcs m ((m.length+119) / 120))→K r 0 0 w'):C.tocsinref08_Split s w0 K:=by
 have hsn:s.n=m.length:=by have:=hs.2.1;rw [smps_len] at this;omega
 unfold C.tocsinref08_Split C.tocsinref08_Split.S18
 -- the pieces
 have pieces:(swr [] m 0).1=0→∀ w1,Keep w0 w1→C.tocsinref08_Split.S11 K s w1:=by
  intro hz w1 k1
  have hris:Rising m:=by simpa using swr_rising m [] 0 .nil hm hz
  unfold C.tocsinref08_Split.S11 C.tocsinref08_Split.S9
  refine C.tocsinref08_Split.L5_ind fun X hX=>?_
  have key:∀ (d j:Nat) (out:Sl) (ss:List Sl) (ω:Tg) (w:World),j+d=(m.length+119) / 120→Top w0 ω w→OLs ω w 12 out ss (pcs m j)→X s out ((120*j:Nat):Int) w:=by
   intro d
   induction d with
   | zero =>
    intro j out ss ω w hj top o
    refine hX _ _ _ _ ?_
    unfold C.tocsinref08_Split.S7 C.tocsinref08_Split.S2
    refine cond_d (fun h=>by omega) (fun _=>hK hz hris out ss ω w top ?_)
    rw [← show j=(m.length+119) / 120 by omega];exact o
   | succ d ih =>
    intro j out ss ω w hj top o
    refine hX _ _ _ _ ?_
    unfold C.tocsinref08_Split.S7
    have hlt:120*j<m.length:=by omega
    refine cond_d (fun _=>?_) (fun h=>by omega)
    rw [wI64 (x:=((120*j:Nat):Int)+120) (by omega) (by omega)]
    have hv:=pce_valid hris j
    have go:∀ q,Rd w q 2 (smps (pce m j))→C.tocsinref08_Bytes q w fun l16 w17=>G.new (.cells #[l16.v] 22) w17 fun p18 w19=>G.runSl Tryz.prog (Builtin.append_ #[78,78] 78 #[out.v,(Sl.v (⟨some p18,1,1⟩:Sl))]) w19 fun l20 w21=>X s l20 (((120*j:Nat):Int)+120) w21:=by
     intro q hq
     refine rbytes_ok hq hv fun a w2 k2 o2=>?_
     have s2:=k2.stp ω 13
     have o2':=Own.tag o2 (Nat.le_refl _) ω 13
     have ol:=o.stp s2 rfl rfl
     have hpl:(pcs m j).length≤100000:=by unfold pcs;rw [List.length_map,List.length_range];omega
     refine ol.push o2' hpl fun r ω3 w3 k3 o3=>?_
     rw [show ((120*j:Nat):Int)+120=((120*(j+1):Nat):Int) by omega]
     exact ih (j+1) r _ ω3 w3 (by omega) ((top.stp s2).stp k3) (by rw [pcs_succ];exact o3)
    refine cond_d (fun hgt=>?_) (fun hle=>?_)
    ·refine Rd.slc (hs.keep top.k) (lo:=120*j) (hi:=m.length) (by omega) (by omega) rfl (by omega) fun q hq _ _=>?_
     have e:=pce_rd (hs.keep top.k) (i:=j) (hi:=m.length) (by omega) hlt
     rw [e] at hq
     exact go q hq
    ·refine Rd.slc (hs.keep top.k) (lo:=120*j) (hi:=120*j+120) (by omega) (by omega) rfl (by omega) fun q hq _ _=>?_
     have e:=pce_rd (hs.keep top.k) (i:=j) (hi:=120*j+120) (by omega) hlt
     rw [e] at hq
     exact go q hq
  exact key ((m.length+119) / 120) 0 nilS [] (fun _=>0) w1 (by omega) ⟨k1,fun _ _=>rfl⟩ ⟨OT.nil _ _ _ _ _,rfl,fun j q b h=>by simp at h⟩
 refine C.tocsinref08_Split.L14_ind fun X hX=>?_
 have key:∀ (d i:Nat) (w:World),i+d=m.length→Keep w0 w→swr (m.take i) (m.drop i) i=swr [] m 0→X s s ((s.n:Nat):Int) (i:Int) w:=by
  intro d
  induction d with
  | zero =>
   intro i w hi k e
   refine hX _ _ _ _ _ ?_
   unfold C.tocsinref08_Split.S16
   refine cond_d (fun h=>by omega) (fun _=>pieces ?_ w k)
   rw [← e,List.drop_of_length_le (by omega)];rfl
  | succ d ih =>
   intro i w hi k e
   have him:i<m.length:=by omega
   refine hX _ _ _ _ _ ?_
   unfold C.tocsinref08_Split.S16
   refine cond_d (fun _=>?_) (fun h=>by omega)
   have hx:m[i]?=some m[i]:=List.getElem?_eq_getElem him
   refine rdS_at (hs.keep k) (k:=i) rfl hx fun a hc0 hc1=>cI_at hc0<|cF_at hc1 ?_
   refine new_T (ω:=fun _=>0) 7 fun g ω2 w2 k2 b2=>?_
   refine st_T b2 (by simp) fun ω3 w3 k3 b3=>?_
   refine st_TA b3 (by simp) fun ω4 w4 k4 b4=>?_
   have k4':=Keep.trans k ((Top.init w).stp ((k2.non (Mem.One 7)).trans (k3.trans k4))).k
   rw [List.drop_eq_getElem_cons him,swr] at e
   have bad:∀ c:Int,(c,i)=swr [] m 0→c≠0→∀ w',Keep w0 w'→K nilS c (i:Int) w':=fun c ec hc w' kk=>by
    have:=hE (by rw [← ec];exact hc) w' kk
    rwa [← ec] at this
   refine cI_at (n:=m[i].1) (by rw [b4.cell];rfl) (cond_d (fun h1=>?_) (fun h1=>?_))
   ·rw [if_pos (.inl h1)] at e
    exact bad 1 e (by decide) w4 k4'
   refine cI_at (n:=m[i].1) (by rw [b4.cell];rfl) (cond_d (fun h2=>?_) (fun h2=>?_))
   ·rw [if_pos (.inr h2)] at e
    exact bad 1 e (by decide) w4 k4'
   rw [if_neg (by omega)] at e
   have kd:=Keep.trans k4' (Keep.drew w4)
   have next:late (m.take i) m[i].1=false→∀ w',Keep w0 w'→X s s ((s.n:Nat):Int) (IntKind.i64.wrap ((i:Int)+1)) w':=fun hla w' kk=>by
    rw [hla,if_neg (by decide)] at e
    rw [wI64 (by omega) (by omega),show (i:Int)+1=((i+1:Nat):Int) by omega]
    refine ih (i+1) w' (by omega) kk ?_
    rw [List.take_add_one,hx];exact e
   refine cond_d (fun h3=>?_) (fun h3=>next ?_ _ kd)
   ·have hy:m[i-1]?=some m[i-1]:=List.getElem?_eq_getElem (by omega)
    have hlast:(m.take i).getLast?=some m[i-1]:=by
     rw [List.getLast?_eq_getElem?,List.length_take,Nat.min_eq_left (by omega),List.getElem?_take,if_pos (by omega),hy]
    refine cI_at (n:=m[i].1) (by rw [(b4.stp (drew_stp ω4 w4)).cell];rfl) ?_
    refine rdS_at (hs.keep kd) (k:=i-1) (by rw [wI64 (by omega) (by omega)];omega) hy fun p hp0 _=>cI_at hp0 ?_
    refine cond_d (fun h4=>?_) (fun h4=>next ?_ _ kd)
    ·have:late (m.take i) m[i].1=true:=by unfold late;rw [hlast];simp only [decide_eq_true_eq];exact h4
     rw [this,if_pos rfl] at e
     exact bad 90 e (by decide) _ kd
    ·unfold late;rw [hlast];simp only [decide_eq_false_iff_not];exact h4
   ·have:m.take i=[]:=List.eq_nil_of_length_eq_zero (by rw [List.length_take];omega)
    rw [this];rfl
 exact key m.length 0 w0 (by omega) (Keep.refl w0) rfl
end Go.Proofs.YtmfgmcajelmgbaaGreatDoor.Chunk

namespace Go.Proofs.YtmfgmcajelmgbaaGreatDoor.Vint
open Go Vm Go.RowKit Num Mem Crc
theorem shr32_1 (a:B32):shr .u32 (a.toNat:Int) (1:Int)=((a >>> 1).toNat:Int):=shr32 a 1 (by decide)
theorem and32_1 (a:B32):Go.bits .and .u32 (a.toNat:Int) (1:Int)=((a &&& 1#32).toNat:Int):=and32 a 1#32
theorem poly32 (a:B32):Go.bits .xor .u32 (a.toNat:Int) (2197175160:Int)=((a ^^^ poly).toNat:Int):=xor32 a poly
theorem bit0 (r:B32):(r &&& 1#32).toNat=if r.getLsbD 0 then 1 else 0:=by
 have:r &&& 1#32=if r.getLsbD 0 then 1#32 else 0#32:=by
  apply BitVec.eq_of_getLsbD_eq
  intro i hi
  rw [BitVec.getLsbD_and]
  by_cases h:i=0
  ·subst h;cases r.getLsbD 0<;>simp
  ·have h1:(1#32).getLsbD i=false:=by
    rw [BitVec.getLsbD_one];simp [h]
   rw [h1];cases r.getLsbD 0<;>simp [h]
 rw [this];cases r.getLsbD 0<;>rfl
theorem ron_ok {w:World} {b:Sl} {l:List UInt8} (hb:RdB w b l) (hl:l.length≤140737488355328) (s:B32) {K:Int→World→Prop} (hK:K ((crcOn s l).toNat:Int) w) :
  C.tocsinref01_On (s.toNat:Int) b w K:=by
 unfold C.tocsinref01_On C.tocsinref01_On.S20
 rw [not32']
 refine C.tocsinref01_On.L5_ind fun X hX=>?_
 have hn:=hb.len
 have key:∀ (d k:Nat) (r:B32),d+k=l.length→crc r (l.drop k)=crc (~~~s) l→X b (r.toNat:Int) (k:Int) w:=by
  intro d
  induction d with
  | zero =>
   intro k r hk hr
   refine hX _ _ _ _ ?_
   unfold C.tocsinref01_On.S18 C.tocsinref01_On.S2
   refine cond_d (fun h=>by omega) (fun _=>?_)
   rw [List.drop_of_length_le (by omega)] at hr
   rw [not32']
   have:r=crc (~~~s) l:=hr
   rw [this]
   exact hK
  | succ d ih =>
   intro k r hk hr
   have hlt:k<l.length:=by omega
   refine hX _ _ _ _ ?_
   unfold C.tocsinref01_On.S18 C.tocsinref01_On.S15
   refine cond_d (fun _=>?_) (fun h=>by omega)
   refine hb.at_ hlt ?_
   rw [byte32,xor32]
   refine C.tocsinref01_On.L11_ind fun Y hY=>?_
   have inner:∀ (e j:Nat) (q:B32),e+j=8→steps e q=crcB r l[k]→Y b (q.toNat:Int) (k:Int) (j:Int) w:=by
    intro e
    induction e with
    | zero =>
     intro j q hj hq
     refine hY _ _ _ _ _ ?_
     unfold C.tocsinref01_On.S13 C.tocsinref01_On.S7
     refine cond_d (fun h=>by omega) (fun _=>?_)
     rw [wI64 (by omega) (by omega)]
     refine ih (k+1) _ (by omega) ?_
     rw [← hr,List.drop_eq_getElem_cons hlt]
     have:q=crcB r l[k]:=hq
     rw [this]
     rfl
    | succ e ihe =>
     intro j q hj hq
     refine hY _ _ _ _ _ ?_
     unfold C.tocsinref01_On.S13
     refine cond_d (fun _=>?_) (fun h=>by omega)
     have hs:∀ h:q.getLsbD 0=true,step1 q=(q >>> 1) ^^^ poly:=fun h=>by unfold step1;rw [h];rfl
     have hs':∀ h:q.getLsbD 0=false,step1 q=q >>> 1:=step1_even
     rw [and32_1,bit0]
     cases h0:q.getLsbD 0
     ·refine cond_f (by rfl) ⟨by decide,?_⟩
      rw [shr32_1,wI64 (by omega) (by omega)]
      exact ihe (j+1) _ (by omega) (by rw [← hq,← hs' h0];rfl)
     ·refine cond_t (by rfl) ⟨by decide,?_⟩
      rw [shr32_1,poly32,wI64 (by omega) (by omega)]
      exact ihe (j+1) _ (by omega) (by rw [← hq,← hs h0];rfl)
   exact inner 8 0 _ (by omega) rfl
 exact key l.length 0 (~~~s) (by omega) (by simp)
theorem rsum_ok {w:World} {b:Sl} {l:List UInt8} (hb:RdB w b l) (hl:l.length≤140737488355328) {K:Int→World→Prop} (hK:K ((crcOn 0#32 l).toNat:Int) w):C.tocsinref01_Sum b w K:=by
 unfold C.tocsinref01_Sum
 exact ron_ok hb hl 0#32 hK
theorem rputFrame_ok {w:World} {b p:Sl} {l m:List UInt8} (hb:RdB w b l) (hp:RdB w p m) (hl:l.length≤140737488000000) {K:Sl→Int→World→Prop}
  (hS:m.length > 65536→K nilS 4 w) (hK:m.length≤65536→∀ r w',Keep w w'→OwnB w' w.heap.size r (l++frameOf m)→K r 0 w'):C.tocsinref01_PutFrame b p w K:=by
 have hn:=hp.len
 unfold C.tocsinref01_PutFrame
 refine cond_d (fun h=>hS (by omega)) (fun h=>?_)
 refine rsum_ok hp (by omega) ?_
 rw [wU64_id (by omega) (by omega),hn]
 refine rputU_ok (by omega) hb (by omega) fun r w1 k1 o1=>?_
 refine ⟨by decide,by decide,by decide,?_⟩
 have hpl:=putU_len64 (n:=m.length) (by omega)
 refine pushB (m:=le4 (crcOn 0#32 m)) k1 k1.size o1 (le4_cells _) (by rfl) (by rw [List.length_append];omega) fun r2 w2 k2 o2=>?_
 refine rjoined_ok o2.rd (hp.keep k2) (by simp [le4];omega) fun r3 w3 k3 o3=>?_
 exact hK (by omega) r3 w3 (Keep.trans k2 k3) ((o3.mono k2.size) |> fun o=>by simpa [frameOf] using o)
theorem word_ref (c0 c1 c2 c3:UInt8):Go.bits .or .u32 (Go.bits .or .u32 (Go.bits .or .u32 (IntKind.u32.wrap (c0.toNat:Int)) (shl .u32 (IntKind.u32.wrap (c1.toNat:Int)) (8:Int))) (shl .u32 (IntKind.u32.wrap (c2.toNat:Int)) (16:Int))) (shl .u32 (IntKind.u32.wrap (c3.toNat:Int)) (24:Int))=((n4 c0 c1 c2 c3:Nat):Int):=by
 have h0:=c0.toNat_lt
 have h1:=c1.toNat_lt
 have h2:=c2.toNat_lt
 have h3:=c3.toNat_lt
 have e1:=shlU32 c1 (k:=8) (m:=256) (by decide) rfl
 have e2:=shlU32 c2 (k:=16) (m:=65536) (by decide) rfl
 have e3:=shlU32 c3 (k:=24) (m:=16777216) (by decide) rfl
 rw [byU32,byU32,byU32,byU32]
 rw [show ((8:Nat):Int)=(8:Int) from rfl] at e1
 rw [show ((16:Nat):Int)=(16:Int) from rfl] at e2
 rw [show ((24:Nat):Int)=(24:Int) from rfl] at e3
 rw [e1,e2,e3,orU32 (by omega) (by omega),orU32 (or_lt32 (by omega) (by omega)) (by omega),orU32 (or_lt32 (or_lt32 (by omega) (by omega)) (by omega)) (by omega),n4_or]
theorem rframe_ok {w:World} {b:Sl} {l:List UInt8} (hb:RdB w b l) (hl:l.length≤140737488300000) (p:Int) {K:Sl→Int→Int→World→Prop}
  (hK:∀ r w',Keep w w'→OwnB w' w.heap.size r (fr l p).1→K r ((fr l p).2.1:Int) ((fr l p).2.2:Int) w'):C.tocsinref01_Frame b p w K:=by
 have hn:=hb.len
 unfold C.tocsinref01_Frame
 refine ru_ok hb (by omega) p ?_
 unfold fr at hK
 simp only at hK
 have hnil:=OwnB.nil w w.heap.size
 refine cond_ne (fun h=>?_) (fun h=>?_)
 ·rw [if_pos (fun e=>h (by rw [e];rfl))] at hK
  exact hK nilS w (Keep.refl w) hnil
 have hu:(uv l p).2.2=0:=by exact_mod_cast h
 rw [if_neg (fun e=>e hu)] at hK
 have he:=uv_end hu
 refine cond_d (fun h1=>?_) (fun h1=>?_)
 ·rw [if_pos (by omega)] at hK
  exact hK nilS w (Keep.refl w) hnil
 rw [if_neg (by omega)] at hK
 rw [wU64_id (x:=(((uv l p).1:Nat):Int)+4) (by omega) (by omega),wI64 (x:=((b.n:Nat):Int)-_) (by omega) (by omega),wU64_id (by omega) (by omega)]
 refine cond_d (fun h2=>?_) (fun h2=>?_)
 ·rw [if_pos (by omega)] at hK
  exact hK nilS w (Keep.refl w) hnil
 rw [if_neg (by omega)] at hK
 generalize hf:(uv l p).2.1=f at *
 generalize hv:(uv l p).1=v at *
 rw [wI64 (x:=(f:Int)+3) (by omega) (by omega),wI64 (x:=(f:Int)+1) (by omega) (by omega),wI64 (x:=(f:Int)+2) (by omega) (by omega),wI64 (x:=(f:Int)+4) (by omega) (by omega),wI64 (x:=(v:Int)) (by omega) (by omega),wI64 (x:=(f:Int)+4+_) (by omega) (by omega)]
 refine atD hb (k:=f) (by omega) (by omega) ?_
 refine atD hb (k:=f+1) (by omega) (by omega) ⟨by decide,?_⟩
 refine atD hb (k:=f+2) (by omega) (by omega) ⟨by decide,?_⟩
 refine atD hb (k:=f+3) (by omega) (by omega) ⟨by decide,?_⟩
 refine RdB.slc hb (lo:=f+4) (hi:=f+4+v) (by omega) (by omega) (by omega) (by omega) fun s hs=>?_
 rw [show f+4+v-(f+4)=v by omega] at hs
 refine rjoined_ok (RdB.nil _) (Rd.drew hs) (by simp;omega) fun r w1 k1 o1=>?_
 rw [List.nil_append] at o1
 have k0:=Keep.trans (Keep.drew w) k1
 refine rsum_ok o1.rd (by simp;omega) ?_
 rw [word_ref]
 refine cond_ne (fun h3=>?_) (fun h3=>?_)
 ·rw [if_pos (fun e=>h3 (by exact_mod_cast e))] at hK
  exact hK nilS w1 k0 (OwnB.nil _ _)
 ·rw [if_neg (fun e=>e (by exact_mod_cast h3))] at hK
  have:=hK r w1 k0 o1
  simpa using this
theorem rframes_ok {w0:World} {b:Sl} {l:List UInt8} (hb:RdB w0 b l) (hl:l.length≤5864062014700) {K:Sl→Int→Int→World→Prop}
  (hK:∀ s rs w',Keep w0 w'→OwnBB w' w0.heap.size s rs (frs l l.length 0).1→K s ((frs l l.length 0).2.1:Int) ((frs l l.length 0).2.2:Int) w'):C.tocsinref01_Frames b w0 K:=by
 have hn:=hb.len
 unfold C.tocsinref01_Frames
 refine C.tocsinref01_Frames.L5_ind fun X hX=>?_
 have key:∀ (d p:Nat) (s:Sl) (rs:List Sl) (ls:List (List UInt8)) (w:World),l.length≤p+d→ls.length≤p→p≤l.length→Keep w0 w→OwnBB w w0.heap.size s rs ls →
   (∀ s rs w',Keep w0 w'→OwnBB w' w0.heap.size s rs (ls++(frs l d p).1)→K s ((frs l d p).2.1:Int) ((frs l d p).2.2:Int) w')→X b s (p:Int) w:=by
  intro d
  induction d with
  | zero =>
   intro p s rs ls w hd hls hp k o hK
   refine hX _ _ _ _ ?_
   unfold C.tocsinref01_Frames.S7 C.tocsinref01_Frames.S2
   refine cond_d (fun h=>by omega) (fun _=>?_)
   exact hK s rs w k (by simpa [frs] using o)
  | succ d ih =>
   intro p s rs ls w hd hls hp k o hK
   refine hX _ _ _ _ ?_
   unfold C.tocsinref01_Frames.S7 C.tocsinref01_Frames.S2
   rw [frs] at hK
   refine cond_d (fun h=>?_) (fun h=>?_)
   ·rw [if_pos (by omega)] at hK
    refine rframe_ok (hb.keep k) (by omega) _ fun r w1 k1 o1=>?_
    refine cond_ne (fun h3=>?_) (fun h3=>?_)
    ·rw [if_pos (fun e=>h3 (by rw [e];rfl))] at hK
     exact hK s rs w1 (Keep.trans k k1) (by simpa using o.keep k1)
    ·have hz:(fr l p).2.2=0:=by exact_mod_cast h3
     rw [if_neg (fun e=>e hz)] at hK
     have he:=fr_end hz
     refine pushBB (Keep.trans k k1) (by have:=k.size;have:=k1.size;omega) (o.keep k1) (Own.mono o1 k.size) (o.fresh o1 (Nat.le_refl _)) (by omega) fun s' w2 k2 o2 _=>?_
     refine ih _ s' (rs++[r]) (ls++[(fr l p).1]) w2 (by omega) (by simp;omega) he.2.2.1 k2 o2 fun s rs w' k o=>hK s rs w' k (by simpa using o)
   ·rw [if_neg (by omega)] at hK
    exact hK s rs w k (by simpa using o)
 exact key l.length 0 nilS [] [] w0 (by omega) (by simp) (by omega) (Keep.refl _) (OwnBB.nil _ _) (by simpa using hK)
end Go.Proofs.YtmfgmcajelmgbaaGreatDoor.Vint

namespace Go.Proofs.YtmfgmcajelmgbaaGreatDoor.Vint
open Go Vm Go.RowKit Num Mem Crc Utf
open Go.Lib (validD size_eq)
theorem rputText_ok {w:World} {b:Sl} {l:List UInt8} {s:ByteArray} (hb:RdB w b l) (hl:l.length+s.size≤140737488000000) {K:Sl→World→Prop}
  (hK:∀ r w',Keep w w'→OwnB w' w.heap.size r (l++(putU s.size++Utf.bytes s))→K r w'):C.tocsinref01_PutText b s w K:=by
 have hz:(Utf.bytes s).length=s.size:=(size_eq s).symm
 have hp:=putU_len64 (n:=s.size) (by omega)
 unfold C.tocsinref01_PutText
 rw [wU64_id (by omega) (by omega)]
 refine rputU_ok (by omega) hb (by omega) fun r w1 k1 o1=>?_
 refine convSB fun t w2 k2 o2=>?_
 refine rjoined_ok (Own.keep o1 k2).rd o2 (by simp only [List.length_append];omega) fun r3 w3 k3 o3=>?_
 have k12:=Keep.trans k1 k2
 exact hK r3 w3 (Keep.trans k12 k3) (by have:=o3.mono k12.size;simpa using this)
def tx (l:List UInt8) (p most:Int):List UInt8 × Nat × Nat :=
 if p<0∨p > l.length∨most<0 then ([],0,1) else
 let u:=uv l p
 if u.2.2≠0 then ([],0,u.2.2) else if (u.1:Int) > most then ([],0,4) else if u.1 > l.length-u.2.1 then ([],0,9) else
 let d:=(l.drop u.2.1).take u.1
 if validD d then (d,u.2.1+u.1,0) else ([],0,12)
theorem text_ok {w:World} {b:Sl} {l:List UInt8} (ht:UTab w) (hb:RdB w b l) (hl:l.length≤140737488300000) {p most:Int} (hm:most<9223372036854775808) {K:ByteArray→Int→Int→World→Prop}
  (hK:∀ w',Keep w w'→K (str (tx l p most).1) ((tx l p most).2.1:Int) ((tx l p most).2.2:Int) w'):C.vint_Text b p most w K:=by
 have hn:=hb.len
 unfold C.vint_Text
 unfold tx at hK
 refine cond_d (fun h=>?_) (fun h1=>cond_d (fun h=>?_) (fun h2=>cond_d (fun h=>?_) (fun h3=>?_)))
 ·rw [if_pos (by omega)] at hK;exact hK w (Keep.refl w)
 ·rw [if_pos (by omega)] at hK;exact hK w (Keep.refl w)
 ·rw [if_pos (by omega)] at hK;exact hK w (Keep.refl w)
 rw [if_neg (by omega)] at hK
 simp only at hK
 refine u_ok hb (by omega) p ?_
 refine cond_ne (fun h=>?_) (fun h=>?_)
 ·rw [if_pos (fun e=>h (by rw [e];rfl))] at hK
  exact hK w (Keep.refl w)
 have hu:(uv l p).2.2=0:=by exact_mod_cast h
 rw [if_neg (fun e=>e hu)] at hK
 have he:=uv_end hu
 have hlt:=uv_lt l p
 rw [wU64_id (x:=most) (by omega) (by omega)]
 refine cond_d (fun h4=>?_) (fun h4=>?_)
 ·rw [if_pos (by omega)] at hK;exact hK w (Keep.refl w)
 rw [if_neg (by omega)] at hK
 rw [wI64 (x:=((b.n:Nat):Int)-_) (by omega) (by omega),wU64_id (by omega) (by omega)]
 refine cond_d (fun h5=>?_) (fun h5=>?_)
 ·rw [if_pos (by omega)] at hK;exact hK w (Keep.refl w)
 rw [if_neg (by omega)] at hK
 generalize hf:(uv l p).2.1=f at *
 generalize hv:(uv l p).1=v at *
 rw [wI64 (x:=(v:Int)) (by omega) (by omega),wI64 (x:=(f:Int)+(v:Int)) (by omega) (by omega)]
 refine RdB.slc hb (lo:=f) (hi:=f+v) (by omega) (by omega) rfl (by omega) fun s hs=>?_
 rw [show f+v-f=v by omega] at hs
 refine convBS hs ?_
 refine valid_ok ht (by rw [str_size];simp only [List.length_take];omega) fun w' k=>?_
 rw [bytes_str]
 refine cond_not (fun h6=>?_) (fun h6=>?_)
 ·rw [h6,if_neg (by simp)] at hK;exact hK w' k
 ·rw [h6,if_pos rfl] at hK
  have:=hK w' k
  simpa using this
theorem rtext_ok {w:World} {b:Sl} {l:List UInt8} (hb:RdB w b l) (hl:l.length≤140737488300000) {p most:Int} (hm:most<9223372036854775808) {K:ByteArray→Int→Int→World→Prop}
  (hK:K (str (tx l p most).1) ((tx l p most).2.1:Int) ((tx l p most).2.2:Int) w):C.tocsinref01_Text b p most w K:=by
 have hn:=hb.len
 unfold C.tocsinref01_Text
 unfold tx at hK
 refine cond_d (fun h=>?_) (fun h1=>cond_d (fun h=>?_) (fun h2=>cond_d (fun h=>?_) (fun h3=>?_)))
 ·rw [if_pos (by omega)] at hK;exact hK
 ·rw [if_pos (by omega)] at hK;exact hK
 ·rw [if_pos (by omega)] at hK;exact hK
 rw [if_neg (by omega)] at hK
 simp only at hK
 refine ru_ok hb (by omega) p ?_
 refine cond_ne (fun h=>?_) (fun h=>?_)
 ·rw [if_pos (fun e=>h (by rw [e];rfl))] at hK
  exact hK
 have hu:(uv l p).2.2=0:=by exact_mod_cast h
 rw [if_neg (fun e=>e hu)] at hK
 have he:=uv_end hu
 have hlt:=uv_lt l p
 rw [wU64_id (x:=most) (by omega) (by omega)]
 refine cond_d (fun h4=>?_) (fun h4=>?_)
 ·rw [if_pos (by omega)] at hK;exact hK
 rw [if_neg (by omega)] at hK
 rw [wI64 (x:=((b.n:Nat):Int)-_) (by omega) (by omega),wU64_id (by omega) (by omega)]
 refine cond_d (fun h5=>?_) (fun h5=>?_)
 ·rw [if_pos (by omega)] at hK;exact hK
 rw [if_neg (by omega)] at hK
 generalize hf:(uv l p).2.1=f at *
 generalize hv:(uv l p).1=v at *
 rw [wI64 (x:=(v:Int)) (by omega) (by omega),wI64 (x:=(f:Int)+(v:Int)) (by omega) (by omega)]
 refine RdB.slc hb (lo:=f) (hi:=f+v) (by omega) (by omega) rfl (by omega) fun s hs=>?_
 rw [show f+v-f=v by omega] at hs
 refine convBS hs ?_
 refine rutf_ok (by rw [str_size];simp only [List.length_take];omega) ?_
 rw [bytes_str]
 refine cond_not (fun h6=>?_) (fun h6=>?_)
 ·rw [h6,if_neg (by simp)] at hK;exact hK
 ·rw [h6,if_pos rfl] at hK
  simpa using hK
end Go.Proofs.YtmfgmcajelmgbaaGreatDoor.Vint

namespace Go.Proofs.YtmfgmcajelmgbaaGreatDoor.Bk
open Go Vm Go.RowKit Num Mem Utf Lib Lab Vint Bits
variable {ω ω' : Tg} {w w' w0 : World}
abbrev SQ:=Ser × Sl × Sl
abbrev QS:=List SQ
def serC (p:SQ):List Value:=[p.2.1.v,p.2.2.v]
def sers (l:QS):List Value:=l.flatMap serC
theorem smN {s:Sl} {m:List Smp} (h:Rd w s 2 (Chunk.smps m)):s.n=m.length:=by have:=h.2.1;rw [Chunk.smps_len] at this;omega
theorem sers_app (a b:QS):sers (a++b)=sers a++sers b:=List.flatMap_append
theorem sers_len (l:QS):(sers l).length=l.length*2:=by
 induction l with
 | nil=>rfl
 | cons s l ih=>simp only [sers,List.flatMap_cons,List.length_append,List.length_cons] at *;simp [serC] at *;omega
theorem sers_one {l:QS}:∀ v∈sers l,v.oneCell'=true:=by
 intro v hv
 obtain ⟨s,_,hs⟩:=List.mem_flatMap.1 hv
 simp only [serC,List.mem_cons,List.not_mem_nil,or_false] at hs
 rcases hs with rfl | rfl<;>rfl
theorem sers_at:∀ (l:QS) (i:Nat) (p:SQ),l[i]?=some p→(sers l)[i*2+0]?=some p.2.1.v∧(sers l)[i*2+1]?=some p.2.2.v
 | [],i,p,h=>by simp at h
 | x::l,0,p,h=>by
  simp only [List.getElem?_cons_zero,Option.some.injEq] at h
  subst h
  exact ⟨rfl,rfl⟩
 | x::l,i+1,p,h=>by
  have ih:=sers_at l i p (by simpa using h)
  have e:sers (x::l)=x.2.1.v::x.2.2.v::sers l:=rfl
  rw [e,show (i+1)*2+0=(i*2+0)+1+1 by omega,show (i+1)*2+1=(i*2+1)+1+1 by omega]
  simpa using ih
theorem rdQ_n {s:Sl} {l:QS} (h:Rd w s 2 (sers l)):s.n=l.length:=by have:=h.2.1;rw [sers_len] at this;omega
theorem rdQ_at {s:Sl} {l:QS} (h:Rd w s 2 (sers l)) {i:Int} {k:Nat} {p:SQ} (ei:i=(k:Int)) (hx:l[k]?=some p) {K:Addr→Prop}
  (hK:∀ a:Addr,w.cell? a=some p.2.1.v→w.cell? (a.add 1)=some p.2.2.v→K a):G.ix s.a s.n i 2 K:=by
 have hk:k<l.length:=(List.getElem?_eq_some_iff.1 hx).1
 have hn:=rdQ_n h
 subst ei
 obtain ⟨e0,e1⟩:=sers_at l k p hx
 refine Rd.ix h (by decide) (by omega) (by omega) fun a hc=>hK a ?_ ?_
 ·have:=hc 0 _ (by decide) (by rw [Int.toNat_natCast];exact e0)
  rwa [show a.add 0=a by simp [Addr.add]] at this
 ·exact hc 1 _ (by decide) (by rw [Int.toNat_natCast];exact e1)
structure SeOk (w:World) (p:SQ):Prop where
 lb:Rd w p.2.1 2 (labs p.1.1)
 sm:Rd w p.2.2 2 (Chunk.smps p.1.2)
 fl:∀ x∈p.1.2,x.2<18446744073709551616
 sl:p.1.2.length≤11000000
 ll:∀ x∈p.1.1,x.2.size≤140737488355300
 l9:p.1.1.length≤9000000000000000000
theorem SeOk.keep {p:SQ} (h:SeOk w p) (k:Keep w w'):SeOk w' p:=⟨h.lb.keep k,h.sm.keep k,h.fl,h.sl,h.ll,h.l9⟩
structure RdQ (w:World) (s:Sl) (l:QS):Prop where
 rd:Rd w s 2 (sers l)
 el:∀ p∈l,SeOk w p
theorem RdQ.keep {s:Sl} {l:QS} (h:RdQ w s l) (k:Keep w w'):RdQ w' s l:=⟨h.rd.keep k,fun p hp=>(h.el p hp).keep k⟩
theorem RdQ.n {s:Sl} {l:QS} (h:RdQ w s l):s.n=l.length:=rdQ_n h.rd
theorem tiQ:TI Tryz.prog 27 57 2 48:=TI.of (z:=.agg #[.slice none 0 0,.slice none 0 0]) (by kernel_rfl) (by kernel_rfl) rfl (by decide)
theorem locS {a b:Sl} {Z:Addr→World→Prop} (hK:∀ g w',KD w w'→w.heap.size≤g→Blk w' g 57 [a.v,b.v]→Z ⟨g,0,none⟩ w') :
  G.new (.cells #[nilS.v,nilS.v] 57) w fun p w1=>G.st p a.v w1 fun w2=>G.st (p.add 1) b.v w2 fun w3=>Z p w3 :=
 newD fun g w1 k1 hg b1=>stD hg k1 b1 (by simp) fun w2 k2 b2=>stDA hg k2 b2 (by simp) fun w3 k3 b3=>hK g w3 k3 hg b3
theorem chs_each {m:List Smp} (h:Chunk.Rising m):∀ c∈chs m,c.length≤3000:=by
 intro c hc
 unfold chs Chunk.pcs at hc
 obtain ⟨i,_,rfl⟩:=List.mem_map.1 hc
 exact Chunk.enc_small (Chunk.pce_valid h i)
theorem chs_len (m:List Smp):(chs m).length=(m.length+119) / 120:=by unfold chs Chunk.pcs;rw [List.length_map,List.length_range]
theorem cpay_len:∀ (cs:List (List UInt8)),(∀ c∈cs,c.length≤3000)→(cs.flatMap cpay).length≤3010*cs.length
 | [],_=>by simp
 | c::cs,h=>by
  have:=cpay_len cs fun x hx=>h x (List.mem_cons_of_mem _ hx)
  have h1:=h c (List.mem_cons_self ..)
  have h2:=putU_len64 (n:=c.length) (by omega)
  simp only [List.flatMap_cons,List.length_append,List.length_cons,cpay];omega
theorem put_small {m:List Lb} (hr:(rt m).1=0):(Lab.put m).length≤6000:=by
 obtain ⟨h16,hsh⟩:=rt_short hr
 have:=Lab.flat_len m hsh
 have:=putU_len64 (n:=m.length) (by omega)
 unfold Lab.put
 rw [List.length_append];omega
theorem serE_of {x:Ser} (h1:x.2≠[]) (h2:(Chunk.swr [] x.2 0).1=0):serE x=if (pay x).length > 65536 then 4 else 0:=by
 unfold serE;rw [if_neg h1,if_neg (by simpa using h2)]
theorem frame_ok (hT:DTab w0) (ht:UTab w0) (hv:Vint.Tab w0) {x:Ser} {a b:Sl} (h:SeOk w0 (x,a,b)) (hr:(rt x.1).1=0) {K:Sl→Int→World→Prop}
  (hE:serE x≠0→∀ w',Keep w0 w'→K nilS (serE x) w') (hK:serE x=0→∀ r w',Keep w0 w'→OwnB w' w0.heap.size r (frameOf (pay x))→K r 0 w'):C.block_frame a b w0 K:=by
 have hlb:Rd w0 a 2 (labs x.1):=h.lb
 have hsm:Rd w0 b 2 (Chunk.smps x.2):=h.sm
 have hfl:∀ y∈x.2,y.2<18446744073709551616:=h.fl
 have hsl:x.2.length≤11000000:=h.sl
 clear h
 have hsn:=smN hsm
 unfold C.block_frame
 refine newD fun g w1 k1 hg b1=>?_
 refine cSl_at (s:=a) (by rw [b1.cell];rfl) ?_
 refine put_ok (ht.keep k1.1) (hlb.keep k1.1) hr fun r w2 k2 o2=>cond_f rfl ?_
 have b2:=b1.keep k2
 have k02:=Keep.trans k1.1 k2
 refine cSl_at (s:=b) (by rw [addr_add,b2.cell];rfl) ?_
 refine cond_eq (fun h0=>?_) (fun h0=>?_)
 ·have e:serE x=5:=by unfold serE;rw [if_pos (List.eq_nil_of_length_eq_zero (by omega))]
  have:=hE (by rw [e];decide) w2 k02
  rwa [e] at this
 have hne:x.2≠[]:=fun e=>h0 (by rw [hsn,e];rfl)
 refine cSl_at (s:=b) (by rw [addr_add,b2.cell];rfl) ?_
 refine Chunk.split_ok (hT.keep k02) (hsm.keep k02) hfl hsl (fun he w3 k3=>?_) (fun hz hris c ss ω3 w3 top3 o3=>?_)
 ·refine cond_t (by simpa using he) ?_
  have e:serE x=(Chunk.swr [] x.2 0).1:=by unfold serE;rw [if_neg hne,if_pos he]
  have:=hE (by rw [e];exact he) w3 (Keep.trans k02 k3)
  rwa [e] at this
 refine cond_f rfl ?_
 have hcl:(chs x.2).length=(x.2.length+119) / 120:=chs_len x.2
 have hce:=chs_each hris
 have e3:Chunk.OLs ω3 w3 12 c ss (chs x.2):=o3
 clear o3
 have hcn:c.n=(chs x.2).length:=e3.n
 have k03:=Keep.trans k02 top3.k
 have hpl:=put_small hr
 rw [wU64_id (by omega) (by omega),hcn]
 refine putU_ok (by omega) (OwnB.rd (Own.keep o2 top3.k)) (by omega) fun p w4 k4 o4=>?_
 have hp4:=putU_len64 (n:=(chs x.2).length) (by omega)
 unfold C.block_frame.S9
 have hrd:=e3.rdl
 refine C.block_frame.L5_ind fun X hX=>?_
 have key:∀ (d i:Nat) (p:Sl) (w:World),i+d=(chs x.2).length→Keep w3 w→OwnB w w3.heap.size p (Lab.put x.1++(putU (chs x.2).length++((chs x.2).take i).flatMap cpay))→X p c ((c.n:Nat):Int) (i:Int) w:=by
  intro d
  induction d with
  | zero =>
   intro i p w hi k o
   refine hX _ _ _ _ _ ?_
   unfold C.block_frame.S7 C.block_frame.S2
   refine cond_d (fun h=>by omega) (fun _=>?_)
   rw [List.take_of_length_le (by omega)] at o
   have k0:=Keep.trans k03 k
   refine putFrame_ok (l:=[]) (m:=pay x) (hv.keep k0) (Rd.nil w 1) (OwnB.rd o) (by decide) (fun hbig=>?_) (fun hsm r w5 k5 o5=>?_)
   ·have e:serE x=4:=by rw [serE_of hne hz,if_pos hbig]
    have:=hE (by rw [e];decide) w k0
    rwa [e] at this
   ·refine hK (by rw [serE_of hne hz,if_neg (by omega)]) r w5 (Keep.trans k0 k5) ?_
    have:=o5.mono k0.size
    simpa using this
  | succ d ih =>
   intro i p w hi k o
   refine hX _ _ _ _ _ ?_
   unfold C.block_frame.S7
   have hic:i<(chs x.2).length:=by omega
   refine cond_d (fun _=>?_) (fun h=>by omega)
   have hx:(chs x.2)[i]?=some (chs x.2)[i]:=List.getElem?_eq_getElem hic
   refine (hrd.keep k).at_ hx fun q hq=>?_
   have hqn:=RdB.len hq
   have hq3:=hce _ (List.getElem_mem hic)
   have hfl:=cpay_len ((chs x.2).take i) fun y hy=>hce y (List.mem_of_mem_take hy)
   rw [List.length_take,Nat.min_eq_left (by omega)] at hfl
   rw [wU64_id (by omega) (by omega),hqn]
   refine putU_ok (by omega) (OwnB.rd o) (by simp only [List.length_append];omega) fun p1 w5 k5 o5=>?_
   have hp5:=putU_len64 (n:=(chs x.2)[i].length) (by omega)
   refine appB k5 k5.size o5 (hq.keep k5) (by simp only [List.length_append];omega) fun p2 w6 k6 o6=>?_
   rw [wI64 (by omega) (by omega),show (i:Int)+1=((i+1:Nat):Int) by omega]
   refine ih (i+1) p2 w6 (by omega) (Keep.trans k k6) ?_
   have ef:((chs x.2).take (i+1)).flatMap cpay=((chs x.2).take i).flatMap cpay++cpay (chs x.2)[i]:=by
    rw [List.take_add_one,hx,List.flatMap_append];simp
   rw [ef]
   have o7:=o6.mono k.size
   simpa only [cpay,List.append_assoc] using o7
 refine key (chs x.2).length 0 p w4 (by omega) k4 ?_
 simpa using o4
end Go.Proofs.YtmfgmcajelmgbaaGreatDoor.Bk

namespace Go.Proofs.YtmfgmcajelmgbaaGreatDoor.Bk
open Go Vm Go.RowKit Num Mem Utf Lib Lab Vint Bits
variable {ω ω' : Tg} {w w' w0 : World}
theorem topRt {s:Sl} {sz:Nat} {xs:List Value} (top:Top w0 ω w) (h:Rd w0 s sz xs):RT ω w 0 s sz xs:=by
 refine ⟨h.keep top.k,fun g o ha hne=>?_⟩
 obtain ⟨g',o',ha',hc⟩:=h.2.2 hne
 rw [ha] at ha'
 simp only [Option.some.injEq,Addr.mk.injEq] at ha'
 obtain ⟨rfl,rfl,_⟩:=ha'
 have hpos:0<xs.length:=List.length_pos_iff.2 hne
 exact top.z _ (cell_lt (hc 0 xs[0] (List.getElem?_eq_getElem hpos)))
theorem otNew {u sz:Nat} {e:TypeId} {s:Sl} {xs:List Value} (h:OT ω' w' u e sz s xs) (top:Top w ω' w') (hu:u≠0:=by decide):Mem.Own w' w.heap.size e sz s xs:=by
 obtain ⟨hl,ho⟩:=h.own
 refine ⟨hl,?_⟩
 rcases ho with ho | ⟨g,cap,cur,hv,hg,r⟩
 ·exact .inl ho
 ·refine .inr ⟨g,cap,cur,hv,?_,r⟩
  have ht:=h.tag g (by rw [hv];rfl)
  rcases Nat.lt_or_ge g w.heap.size with hlt | hge
  ·rw [top.z g hlt] at ht;exact absurd ht.symm hu
  ·exact hge
theorem mapN:Tryz.prog.underlying 126=some (.map 9 3):=by kernel_rfl
theorem strT:Tryz.prog.underlying 9=some .string:=by kernel_rfl
theorem updA_new {s:ByteArray} {v:Value}:∀ {al:AL},getV s al=none→updA s v al=al++[(s,v)]
 | [],_=>rfl
 | (k,x)::r,h=>by
  by_cases e:s=k
  ·simp [getV,e] at h
  ·simp only [getV,if_neg e] at h
   simp [updA,if_neg e,updA_new h]
theorem getV_upd {s:ByteArray} {v:Value}:∀ {al:AL},getV s (updA s v al)=some v
 | []=>by simp [updA,getV]
 | (k,x)::r=>by
  by_cases e:s=k
  ·simp [updA,getV,e]
  ·simp [updA,getV,if_neg e,getV_upd]
def onesA (l:List Ser):AL:=l.map fun x=>(Lab.keyOf x.1,Value.int .i64 1)
theorem getV_ones (m:List Lb):∀ l:List Ser,getV (Lab.keyOf m) (onesA l)=if metB l m=true then some (.int .i64 1) else none
 | []=>rfl
 | x::l=>by
  have ih:=getV_ones m l
  unfold onesA at ih ⊢
  rw [List.map_cons,getV]
  by_cases e:x.1=m
  ·rw [if_pos (by rw [e]),if_pos (by unfold metB;simp [e])]
  ·rw [if_neg (fun h=>e (Lab.key_inj h).symm),ih]
   have:metB (x::l) m=metB l m:=by unfold metB;simp [e]
   rw [this]
theorem wrong_ok (hT:DTab w0) (ht:UTab w0) (hv:Vint.Tab w0) {s:Sl} {q:QS} (h:RdQ w0 s q) (hl:q.length≤100000000) {K:Int→Int→World→Prop}
  (hK:∀ w',Keep w0 w'→K (wrg [] (q.map (·.1)) 0).1 ((wrg [] (q.map (·.1)) 0).2:Int) w'):C.block_wrong s w0 K:=by
 have hsn:=h.n
 have hLl:(q.map (·.1)).length=q.length:=List.length_map _
 unfold C.block_wrong
 refine mkV (ω:=fun _=>0) 1 fun gm ω1 w1 k1 m1=>?_
 unfold C.block_wrong.S9
 have top1:=(Top.init w0).stp k1
 refine C.block_wrong.L5_ind fun X hX=>?_
 have key:∀ (d i:Nat) (ω:Tg) (w:World),i+d=q.length→Top w0 ω w→MV ω w 1 gm (onesA ((q.map (·.1)).take i))→wrg ((q.map (·.1)).take i) ((q.map (·.1)).drop i) i=wrg [] (q.map (·.1)) 0→X (some gm) s ((s.n:Nat):Int) (i:Int) w:=by
  intro d
  induction d with
  | zero =>
   intro i ω w hi top m e
   refine hX _ _ _ _ _ ?_
   unfold C.block_wrong.S7 C.block_wrong.S2
   refine cond_d (fun h=>by omega) (fun _=>?_)
   rw [List.drop_of_length_le (by omega)] at e
   have:=hK w top.k
   rwa [← e] at this
  | succ d ih =>
   intro i ω w hi top m e
   refine hX _ _ _ _ _ ?_
   unfold C.block_wrong.S7
   have hiq:i<q.length:=by omega
   have hx:q[i]?=some q[i]:=List.getElem?_eq_getElem hiq
   have hs:=(h.el _ (List.getElem_mem hiq)).keep top.k
   have hL:(q.map (·.1))[i]'(by omega)=q[i].1:=by rw [List.getElem_map]
   rw [List.drop_eq_getElem_cons (by omega),hL,wrg] at e
   have bad:∀ (c:Int) w',(c,i)=wrg [] (q.map (·.1)) 0→Keep w0 w'→K c (i:Int) w':=fun c w' ec kk=>by
    have:=hK w' kk
    rwa [← ec] at this
   refine cond_d (fun _=>?_) (fun h=>by omega)
   refine rdQ_at (h.rd.keep top.k) (k:=i) rfl hx fun a e0 e1=>cSl_at e0<|cSl_at e1 ?_
   refine locS fun g w3 k3 hg b3=>?_
   have s3:=k3.1.stp ω 7
   have bt:BT (ext ω w.heap.size 7) w3 7 g _ _:=⟨b3,ext_new hg⟩
   have m3:=m.stp s3 rfl
   have top3:=top.stp s3
   generalize ext ω w.heap.size 7=ω3 at *
   refine cSl_at (s:=q[i].2.1) (by rw [bt.cell];rfl) ?_
   refine right_ok (ht.keep top3.k) (hs.lb.keep k3.1) fun w4 k4=>?_
   have s4:=k4.stp0 ω3
   have top4:=top3.stp s4
   refine cond_ne (fun hr=>?_) (fun hr=>?_)
   ·rw [if_pos hr] at e
    exact bad _ w4 e top4.k
   rw [if_neg (by simpa using hr)] at e
   have b4:=bt.stp s4
   refine cSl_at (s:=q[i].2.1) (by rw [b4.cell];rfl) ?_
   refine put_ok (ht.keep top4.k) (hs.lb.keep (Keep.trans k3.1 k4)) hr fun r w5 k5 o5=>?_
   have s5:=k5.stp ω3 9
   have t5:=Own.tag o5 (Nat.le_refl _) ω3 9
   have m5:=(m3.stp s4 rfl).stp s5 rfl
   have b5:=b4.stp s5
   have top5:=top4.stp s5
   generalize ext ω3 w4.heap.size 9=ω5 at *
   refine Utf.convBS (OwnB.rd o5) ?_
   have hg1:=getV_ones q[i].1.1 ((q.map (·.1)).take i)
   have ekey:Utf.str (Lab.put q[i].1.1)=Lab.keyOf q[i].1.1:=rfl
   rw [ekey]
   have fr:∀ w6,Keep w0 w6→K 6 (i:Int) w6→K 6 (i:Int) w6:=fun _ _ x=>x
   by_cases hm:metB ((q.map (·.1)).take i) q[i].1.1=true
   ·rw [if_pos hm] at hg1 e
    refine rd1_V (kt:=9) (et:=3) (a:=(1:Int)) m5 mapN strT Tryz.zeroValue3 (by rw [hg1];rfl) ?_
    refine updV m5 mapN strT fun ω6 w6 k6 m6=>?_
    have t6:=t5.stp k6
    refine Utf.convBS (l:=Lab.put q[i].1.1) t6.rd ?_
    refine rd1_V (kt:=9) (et:=3) (a:=(2:Int)) m6 mapN strT Tryz.zeroValue3 (by rw [ekey,getV_upd];rfl) ?_
    exact cond_t (by decide) (bad 6 w6 e (top5.stp k6).k)
   ·rw [if_neg hm] at hg1 e
    refine rd1_V (kt:=9) (et:=3) (a:=(0:Int)) m5 mapN strT Tryz.zeroValue3 (by rw [hg1];rfl) ?_
    refine updV m5 mapN strT fun ω6 w6 k6 m6=>?_
    have t6:=t5.stp k6
    have b6:=b5.stp k6
    have top6:=top5.stp k6
    refine Utf.convBS (l:=Lab.put q[i].1.1) t6.rd ?_
    refine rd1_V (kt:=9) (et:=3) (a:=(1:Int)) m6 mapN strT Tryz.zeroValue3 (by rw [ekey,getV_upd];rfl) ?_
    refine cond_f (by decide) ?_
    refine cSl_at (s:=q[i].2.1) (by rw [b6.cell];rfl)<|cSl_at (s:=q[i].2.2) (by rw [addr_add,b6.cell];rfl) ?_
    have hs6:SeOk w6 (q[i].1,q[i].2.1,q[i].2.2):=(h.el _ (List.getElem_mem hiq)).keep top6.k
    refine frame_ok (hT.keep top6.k) (ht.keep top6.k) (hv.keep top6.k) hs6 hr (fun he w7 k7=>?_) (fun he f w7 k7 o7=>?_)
    ·rw [if_pos he] at e
     exact cond_t (by simpa using he) (bad _ w7 e (Keep.trans top6.k k7))
    ·rw [if_neg (by simpa using he)] at e
     refine cond_f rfl ?_
     rw [wI64 (by omega) (by omega),show (i:Int)+1=((i+1:Nat):Int) by omega]
     have s7:=k7.stp0 ω6
     have et:(q.map (·.1)).take (i+1)=(q.map (·.1)).take i++[q[i].1]:=by
      rw [List.take_add_one,List.getElem?_eq_getElem (by omega),hL];rfl
     refine ih (i+1) ω6 w7 (by omega) (top6.stp s7) ?_ (by rw [et];exact e)
     have m7:=m6.stp s7 rfl
     rw [updA_new hg1] at m7
     rw [et]
     unfold onesA at m7 ⊢
     rw [List.map_append]
     exact m7
 exact key q.length 0 ω1 w1 (by omega) top1 m1 rfl
theorem range_getQ (q0:SQ) (ql:QS):(List.range ql.length).map (fun i=>ql.getD i q0)=ql:=by
 apply List.ext_getElem?
 intro i
 simp only [List.getElem?_map,List.getElem?_range']
 by_cases h:i<ql.length
 ·rw [List.getElem?_range h,List.getElem?_eq_getElem h];simp [List.getD_eq_getElem?_getD,h]
 ·rw [List.getElem?_eq_none (by simp;omega),List.getElem?_eq_none (by omega)];rfl
theorem sers_map (q0:SQ) (ql:QS) (l:List Nat):l.flatMap (fun i=>serC (ql.getD i q0))=sers (l.map fun i=>ql.getD i q0):=by
 unfold sers
 rw [List.flatMap_map]
theorem sortS_ok {s:Sl} {ql:QS} (top:Top w0 ω w) (o2:OT ω w 2 57 2 s (sers ql)) (hel:∀ p∈ql,SeOk w0 p) (hl:ql.length≤100000000) (nd:((ql.map (·.1)).map (·.1)).Nodup) {K:World→Prop}
  (hK:∀ q' ω' w',Stp (Mem.One 2) ω ω' w w'→q'.Perm ql→q'.map (·.1)=srt (ql.map (·.1))→OT ω' w' 2 57 2 s (sers q')→K w') :
  C.slices_SortFunc_Series_Series s (.func (.func 71) #[] #[]) w K:=by
 show Srt.sortF s (.func (.func 71) #[] #[]) w K
 have hrn:=rdQ_n o2.rd
 cases hq:ql with
 | nil =>
  subst hq
  exact .inl ⟨hrn,hK [] ω w (Stp.refl _ _ _) (List.Perm.refl _) rfl o2⟩
 | cons q0 qr =>
  have hq0:q0∈ql:=by rw [hq];exact List.mem_cons_self ..
  have hgd:∀ i,ql.getD i q0∈ql:=fun i=>by
   rw [List.getD_eq_getElem?_getD]
   cases h:ql[i]? with
   | none=>exact hq0
   | some p=>exact List.mem_of_getElem? h
  have hrt:∀ i,RT ω w 0 (ql.getD i q0).2.1 2 (labs (ql.getD i q0).1.1)∧(ql.getD i q0).1.1.length≤9000000000000000000:=fun i=>by
   have h1:=hel _ (hgd i)
   exact ⟨topRt top h1.lb,h1.l9⟩
  refine Srt.sort_rows (ω:=ω) (t:=2) (e:=57) (enc:=fun i=>serC (ql.getD i q0)) (fun i=>rfl) (fun i v hv=>by simp only [serC,List.mem_cons,List.not_mem_nil,or_false] at hv;rcases hv with rfl | rfl<;>rfl) ?_ (by omega)
   (cf:=fun i j=>cmpL (ql.getD i q0).1.1 (ql.getD j q0).1.1) (Srt.swo cmpL_cmp fun i=>(ql.getD i q0).1.1) (fun _ _=>callFunc_run ⟨_,Tryz.func71,by kernel_rfl,by kernel_rfl⟩) (fun W st x y=>?_) (fun is ω' w' p1 p2 st o'=>?_)
  ·rw [hrn,sers_map,range_getQ];exact o2
  ·have hx:=hrt x
   have hy:=hrt y
   generalize ql.getD x q0=p at *
   generalize ql.getD y q0=q at *
   refine (C.block_compare.clok [.agg (serC p).toArray,.agg (serC q).toArray] (fun v w'=>v=.int .i64 (cmpL p.1.1 q.1.1)∧KD W w') W ?_).2.mono fun e w' ⟨v,he,hv,hk⟩=>⟨by rw [he,hv],hk⟩
   unfold serC C.block_compare.cl Sl.v
   dsimp only
   unfold C.block_compare
   refine newD fun g w1 k1 _ b1=>newD fun g2 w2 k2 _ b2=>?_
   have k12:=k1.trans k2
   have b12:=b1.keep k2.1
   exact cSl_at (s:=p.2.1) (by rw [b12.cell];rfl)<|cSl_at (s:=q.2.1) (by rw [b2.cell];rfl)<|compare_ok ((hx.1.stp st).rd.keep k12.1) ((hy.1.stp st).rd.keep k12.1) hx.2 fun w' k'=>⟨rfl,k12.trans k'⟩
  ·rw [sers_map] at o'
   have pq:(is.map fun i=>ql.getD i q0).Perm ql:=by
    have:=p1.map fun i=>ql.getD i q0
    rw [hrn,range_getQ] at this
    exact this
   refine hK _ ω' w' st pq (srt_of (pq.map (·.1)) nd ?_) o'
   rw [List.pairwise_map,List.pairwise_map]
   exact p2
end Go.Proofs.YtmfgmcajelmgbaaGreatDoor.Bk

namespace Go.Proofs.YtmfgmcajelmgbaaGreatDoor.Bk
open Go Vm Go.RowKit Num Mem Utf Lib Lab Vint Bits
variable {ω ω' : Tg} {w w' w0 : World}
theorem convC {w:World} {n:Nat} {cs:Array Value} {l:List UInt8} (hc:cs.toList=vBs l) (hn:l.length=n) {K:Sl→World→Prop}
  (hK:∀ r w',Keep w w'→RdB w' r l→K r w') :
  G.new (.cells cs 5) w fun p w1=>G.runSl Tryz.prog (Go.convert 22 22 (⟨some p,n,n⟩:Sl).v) w1 K:=by
 have hs:cs.size=n:=by rw [← Array.length_toList,hc,vBs_length,hn]
 refine ⟨⟨some ⟨w.heap.size,0,none⟩,n,n⟩,_,Lib.run_convert_bytes_const (P:=Tryz.prog) w 22 5 cs n n (by kernel_rfl) (by kernel_rfl),hK _ _ (Keep.alloc w _) ⟨Nat.le_refl _,by rw [vBs_length,hn];exact (Nat.mul_one n).symm,fun _=>⟨w.heap.size,0,rfl,fun j v hv=>?_⟩⟩⟩
 rw [Nat.zero_add]
 have:(w.alloc (.cells cs 5 (cs.size,cs.size+1))).heap[w.heap.size]?=some (.cells cs 5 (cs.size,cs.size+1)):=by
  show (w.heap.push _)[w.heap.size]?=_
  simp
 simp only [World.cell?,this,Option.bind_some]
 rw [← hc] at hv
 simpa using hv
theorem cloneQ_ok {s:Sl} {xs:List Value} (h:Rd w s 2 xs) (h1:∀ v∈xs,v.oneCell'=true) (hm:s.n≤100000000) {K:Sl→World→Prop} (hK:∀ r w',Keep w w'→Mem.Own w' w.heap.size 57 2 r xs→K r w'):C.slices_Clone_Series_Series s w K:=by
 unfold C.slices_Clone_Series_Series
 exact Sm.clone_ok (P:=Tryz.prog) tiQ h h1 (by simp only [maxLen];omega) (by omega) fun r w' k o _=>hK r w' k o
theorem smp_head {m:List Smp} (h:m≠[]):m[0]?=some (m.headD (0,0)):=by
 cases m with
 | nil=>exact absurd rfl h
 | cons a r=>rfl
theorem smp_last {m:List Smp} (h:m≠[]):m[m.length-1]?=some (Chunk.lastS m):=by
 unfold Chunk.lastS
 rw [← List.getLast?_eq_getElem?,List.getLast?_eq_some_getLast h];rfl
def hdN (l:List Ser):List Nat:=[l.length,cntOf l,(loOf l).toNat,(hiOf l).toNat]
theorem hd_flat (l:List Ser):hd l=(hdN l).flatMap putU:=by simp [hd,hdN]
theorem build_ok (hT:DTab w0) (ht:UTab w0) (hv:Vint.Tab w0) {s:Sl} {q:QS} (h:RdQ w0 s q) (hl:q.length≤100000000) {K:Sl→Int→Int→World→Prop}
  (hK:∀ r w',Keep w0 w'→OwnB w' w0.heap.size r (buildR (q.map (·.1))).1→K r (buildR (q.map (·.1))).2.1 ((buildR (q.map (·.1))).2.2:Int) w'):C.block_Build s w0 K:=by
 have hsn:=h.n
 have hLl:(q.map (·.1)).length=q.length:=List.length_map _
 unfold C.block_Build
 unfold buildR at hK
 refine cond_d (fun h1=>?_) (fun h1=>?_)
 ·rw [if_pos (by omega)] at hK;exact hK nilS w0 (Keep.refl _) (OwnB.nil _ _)
 rw [if_neg (by omega)] at hK
 refine wrong_ok hT ht hv h hl fun w1 k1=>cond_ne (fun he=>?_) (fun he=>?_)
 ·rw [if_pos he] at hK;exact hK nilS w1 k1 (OwnB.nil _ _)
 rw [if_neg (by simpa using he)] at hK
 have fit:=fit_of he
 refine cloneQ_ok (h.rd.keep k1) sers_one (by omega) fun a w2 k2 o2=>?_
 have top1:=(Top.init w0).stp (k1.stp0 _)
 have top2:=top1.stp (k2.stp _ 2)
 have t2:=Own.tag o2 (Nat.le_refl _) (fun _=>0) 2
 generalize ext (fun _=>0) w1.heap.size 2=ω2 at *
 refine sortS_ok top2 t2 h.el hl fit.nd fun q' ω3 w3 k3 pm em t3=>?_
 have top3:=top2.stp k3
 have hq':q'.length=q.length:=pm.length_eq
 have hel:∀ p∈q',SeOk w0 p:=fun p hp=>h.el p (pm.mem_iff.1 hp)
 -- the sorted series
 have fit':Fit (srt (q.map (·.1))):=fit.perm (srt_perm _)
 rw [← em] at fit' hK
 have hSl:(q'.map (·.1)).length=q'.length:=List.length_map _
 have ris:Ris (q'.map (·.1)):=fit_ris fit' fun x hx y hy=>by
  obtain ⟨p,hp,rfl⟩:=List.mem_map.1 hx
  exact (hel p hp).fl y hy
 have hsz:∀ x∈q'.map (·.1),x.2.length≤11000000:=fun x hx=>by
  obtain ⟨p,hp,rfl⟩:=List.mem_map.1 hx
  exact (hel p hp).sl
 have han:=rdQ_n t3.rd
 generalize hS:q'.map (·.1)=S at *
 have hSi:∀ i (hi:i<q'.length),S[i]?=some q'[i].1:=fun i hi=>by rw [← hS,List.getElem?_map,List.getElem?_eq_getElem hi];rfl
 have hhd:=hd_len ris (by omega) hsz
 have hcb:=cnt_le hsz
 have hlo:=lo_bd ris
 have hhi:=hi_bd ris
 unfold C.block_Build.S27
 -- the end: frame by frame
 have tail:∀ hb w,Keep w3 w→RdB w hb (hd S)→C.block_Build.S11 K a hb w:=by
  intro hb w k hh
  unfold C.block_Build.S11
  refine convC (l:=magicB) (by rfl) (by rfl) fun m w4 k4 hm=>?_
  have k34:=Keep.trans k k4
  refine putFrame_ok (hv.keep (Keep.trans top3.k k34)) hm (hh.keep k4) (by decide) (fun hbig=>by omega) (fun _ r w5 k5 o5=>?_)
  unfold C.block_Build.S9
  have hf:=frameOf_len (m:=hd S) (by omega)
  refine C.block_Build.L5_ind fun X hX=>?_
  have key:∀ (d i:Nat) (out:Sl) (w:World),i+d=q'.length→Keep w4 w→OwnB w w4.heap.size out (upto S i)→(upto S i).length≤1048576→X out a ((a.n:Nat):Int) (i:Int) w:=by
   intro d
   induction d with
   | zero =>
    intro i out w hi kk o hle
    refine hX _ _ _ _ _ ?_
    unfold C.block_Build.S7 C.block_Build.S2
    refine cond_d (fun h=>by omega) (fun _=>?_)
    have k0:=Keep.trans top3.k (Keep.trans k34 kk)
    have ei:i=S.length:=by omega
    rw [ei,upto_all] at o hle
    rw [if_neg (by omega)] at hK
    exact hK out w k0 (o.mono (Keep.trans top3.k k34).size)
   | succ d ih =>
    intro i out w hi kk o hle
    refine hX _ _ _ _ _ ?_
    unfold C.block_Build.S7
    have hiq:i<q'.length:=by omega
    have hx:q'[i]?=some q'[i]:=List.getElem?_eq_getElem hiq
    have k0:=Keep.trans top3.k (Keep.trans k34 kk)
    have hs:=(hel _ (List.getElem_mem hiq)).keep k0
    have hiS:i<S.length:=by omega
    have eS:S[i]=q'[i].1:=by have:=hSi i hiq;rw [List.getElem?_eq_getElem hiS] at this;exact Option.some.inj this
    refine cond_d (fun _=>?_) (fun h=>by omega)
    refine rdQ_at (t3.rd.keep (Keep.trans k34 kk)) (k:=i) rfl hx fun p e0 e1=>cSl_at e0<|cSl_at e1 ?_
    refine locS fun g w6 k6 hg b6=>?_
    refine cSl_at (s:=q'[i].2.1) (by rw [b6.cell];rfl)<|cSl_at (s:=q'[i].2.2) (by rw [addr_add,b6.cell];rfl) ?_
    have k06:=Keep.trans k0 k6.1
    have hs6:SeOk w6 (q'[i].1,q'[i].2.1,q'[i].2.2):=hs.keep k6.1
    have hrt:(rt q'[i].1.1).1=0:=by rw [← eS];exact fit'.rt _ (List.getElem_mem hiS)
    have hok:serE q'[i].1=0:=by rw [← eS];exact fit'.ok _ (List.getElem_mem hiS)
    have hpl:(pay q'[i].1).length≤65536:=by rw [← eS];exact (fit'.rising (List.getElem_mem hiS)).2.2
    refine frame_ok (hT.keep k06) (ht.keep k06) (hv.keep k06) hs6 hrt (fun hbad=>absurd hok hbad) (fun _ f w7 k7 o7=>?_)
    have k67:=Keep.trans k6.1 k7
    have hfl:=frameOf_len hpl
    refine appB (Keep.trans kk k67) (Nat.le_trans kk.size k67.size) (Own.keep o k67) (OwnB.rd o7) (by omega) fun out2 w8 k8 o8=>?_
    have eu:upto S (i+1)=upto S i++frameOf (pay q'[i].1):=by rw [upto_succ hiS,eS]
    rw [← eu] at o8
    have hn8:=OwnB.len o8
    have hk8:=Keep.trans top3.k (Keep.trans k34 k8)
    refine cond_d (fun hbig=>?_) (fun hsm=>?_)
    ·have:=upto_le S (i+1)
     rw [if_pos (by omega)] at hK
     exact hK nilS w8 hk8 (OwnB.nil _ _)
    ·rw [wI64 (by omega) (by omega),show (i:Int)+1=((i+1:Nat):Int) by omega]
     exact ih (i+1) out2 w8 (by omega) k8 o8 (by omega)
  have e0:upto S 0=magicB++frameOf (hd S):=by unfold upto;simp [flat]
  refine key q'.length 0 r w5 (by omega) k5 (by rw [e0];exact o5) ?_
  rw [e0,List.length_append]
  have:magicB.length=8:=rfl
  omega
 -- the head's numbers
 have head:∀ w,Keep w3 w→C.block_Build.S20 K a (cntOf S:Int) (loOf S) (hiOf S) w:=by
  intro w k
  unfold C.block_Build.S20 C.block_Build.S18
  refine new_at ?_
  have kA:=Keep.alloc w (.cells #[(.int .u64 (IntKind.u64.wrap ((a.n:Nat):Int))),(.int .u64 (IntKind.u64.wrap (cntOf S:Int))),(.int .u64 (IntKind.u64.wrap (loOf S))),(.int .u64 (IntKind.u64.wrap (hiOf S)))] 105)
  have hrd:Rd (w.alloc (.cells #[(.int .u64 (IntKind.u64.wrap ((a.n:Nat):Int))),(.int .u64 (IntKind.u64.wrap (cntOf S:Int))),(.int .u64 (IntKind.u64.wrap (loOf S))),(.int .u64 (IntKind.u64.wrap (hiOf S)))] 105)) ⟨some ⟨w.heap.size,0,none⟩,4,4⟩ 1 ((hdN S).map fun n:Nat=>Value.int .u64 (n:Int)):=by
   have:=rd_new (w:=w) (e:=105) (cs:=#[(.int .u64 (IntKind.u64.wrap ((a.n:Nat):Int))),(.int .u64 (IntKind.u64.wrap (cntOf S:Int))),(.int .u64 (IntKind.u64.wrap (loOf S))),(.int .u64 (IntKind.u64.wrap (hiOf S)))]) (n:=4) (sz:=1) rfl
   have e:(#[(.int .u64 (IntKind.u64.wrap ((a.n:Nat):Int))),(.int .u64 (IntKind.u64.wrap (cntOf S:Int))),(.int .u64 (IntKind.u64.wrap (loOf S))),(.int .u64 (IntKind.u64.wrap (hiOf S)))]:Array Value).toList=(hdN S).map fun n:Nat=>Value.int .u64 (n:Int):=by
    rw [wU64_id (by omega) (by omega),wU64_id (by omega) (by omega),wU64_id (by omega) (by omega),wU64_id (by omega) (by omega)]
    simp only [hdN,List.map_cons,List.map_nil]
    rw [Int.toNat_of_nonneg hlo.1,Int.toNat_of_nonneg hhi.1,show a.n=S.length by omega]
   rw [e] at this
   exact this
  have hN:∀ n∈hdN S,n<18446744073709551616:=by
   intro n hn
   simp only [hdN,List.mem_cons,List.not_mem_nil,or_false] at hn
   rcases hn with rfl | rfl | rfl | rfl<;>omega
  have hNl:(hdN S).length=4:=rfl
  rw [hd_flat] at tail
  generalize hdN S=NS at *
  generalize hwA:w.alloc (.cells #[(.int .u64 (IntKind.u64.wrap ((a.n:Nat):Int))),(.int .u64 (IntKind.u64.wrap (cntOf S:Int))),(.int .u64 (IntKind.u64.wrap (loOf S))),(.int .u64 (IntKind.u64.wrap (hiOf S)))] 105)=wA at *
  refine C.block_Build.L14_ind fun X hX=>?_
  have key:∀ (d i:Nat) (hb:Sl) (w5:World),i+d=4→Keep wA w5→RdB w5 hb ((NS.take i).flatMap putU)→((NS.take i).flatMap putU).length≤10*i→X a hb ⟨some ⟨w.heap.size,0,none⟩,4,4⟩ (((⟨some ⟨w.heap.size,0,none⟩,4,4⟩:Sl).n:Nat):Int) (i:Int) w5:=by
   intro d
   induction d with
   | zero =>
    intro i hb w5 hi k5 o hle
    refine hX _ _ _ _ _ _ ?_
    unfold C.block_Build.S16
    refine cond_d (fun h=>by simp only at h;omega) (fun _=>tail hb w5 (Keep.trans k (Keep.trans kA k5)) ?_)
    rwa [List.take_of_length_le (by omega)] at o
   | succ d ih =>
    intro i hb w5 hi k5 o hle
    refine hX _ _ _ _ _ _ ?_
    unfold C.block_Build.S16
    have hi4:i<NS.length:=by omega
    refine cond_d (fun _=>?_) (fun h=>by simp only at h;omega)
    refine Rd.ix (hrd.keep k5) (by decide) (by omega) (by simp only;omega) fun p hc=>?_
    refine cI_at (n:=(NS[i]:Int)) (by
     have:=hc 0 (.int .u64 (NS[i]:Int)) (by decide) (by rw [Int.toNat_natCast,Nat.mul_one,Nat.add_zero,List.getElem?_map,List.getElem?_eq_getElem hi4];rfl)
     rwa [show p.add 0=p by simp [Addr.add]] at this) ?_
    have hlt:=hN _ (List.getElem_mem hi4)
    refine putU_ok hlt o (by omega) fun r w6 k6 o6=>?_
    rw [wI64 (by omega) (by omega),show (i:Int)+1=((i+1:Nat):Int) by omega]
    have et:(NS.take (i+1)).flatMap putU=(NS.take i).flatMap putU++putU NS[i]:=by rw [List.take_succ_eq_append_getElem hi4,List.flatMap_append];simp
    have h10:=putU_len64 hlt
    exact ih (i+1) r w6 (by omega) (Keep.trans k5 k6) (by rw [et];exact o6.rd) (by rw [et,List.length_append];omega)
  exact key 4 0 nilS wA (by omega) (Keep.refl _) (RdB.nil _) (by simp)
 -- the first and the last
 refine C.block_Build.L23_ind fun X hX=>?_
 have key:∀ (d i:Nat) (w:World),i+d=q'.length→Keep w3 w→X a (cntOf (S.take i):Int) (loOf (S.take i)) (hiOf (S.take i)) a ((a.n:Nat):Int) (i:Int) w:=by
  intro d
  induction d with
  | zero =>
   intro i w hi k
   refine hX _ _ _ _ _ _ _ _ ?_
   unfold C.block_Build.S25
   refine cond_d (fun h=>by omega) (fun _=>?_)
   rw [List.take_of_length_le (by omega)]
   exact head w k
  | succ d ih =>
   intro i w hi k
   refine hX _ _ _ _ _ _ _ _ ?_
   unfold C.block_Build.S25
   have hiq:i<q'.length:=by omega
   have hiS:i<S.length:=by omega
   have hx:q'[i]?=some q'[i]:=List.getElem?_eq_getElem hiq
   have eS:S[i]=q'[i].1:=by have:=hSi i hiq;rw [List.getElem?_eq_getElem hiS] at this;exact Option.some.inj this
   have k0:=Keep.trans top3.k k
   have hs:=(hel _ (List.getElem_mem hiq)).keep k0
   have hne:q'[i].1.2≠[]:=by rw [← eS];exact (ris _ (List.getElem_mem hiS)).1
   have hlp:0<q'[i].1.2.length:=List.length_pos_iff.2 hne
   refine cond_d (fun _=>?_) (fun h=>by omega)
   refine rdQ_at (t3.rd.keep k) (k:=i) rfl hx fun p e0 e1=>cSl_at e0<|cSl_at e1 ?_
   refine locS fun g w6 k6 hg b6=>?_
   have kd:=Keep.trans k (Keep.trans k6.1 (Keep.drew w6))
   have bd:Blk w6.drew g _ _:=b6.drew
   have hsd:SeOk w6.drew q'[i]:=hs.keep (Keep.trans k6.1 (Keep.drew w6))
   have hbn:=smN hsd.sm
   refine cSl_at (s:=q'[i].2.2) (by rw [addr_add,bd.cell];rfl) ?_
   refine Chunk.rdS_at hsd.sm (k:=0) rfl (smp_head hne) fun p2 f0 _=>cI_at f0 ?_
   refine cSl_at (s:=q'[i].2.2) (by rw [addr_add,bd.cell];rfl)<|cSl_at (s:=q'[i].2.2) (by rw [addr_add,bd.cell];rfl) ?_
   have hsl:=hs.sl
   refine Chunk.rdS_at hsd.sm (k:=q'[i].1.2.length-1) (by rw [wI64 (by omega) (by omega)];omega) (smp_last hne) fun p3 g0 _=>cI_at g0 ?_
   have et:S.take (i+1)=S.take i++[q'[i].1]:=by rw [List.take_succ_eq_append_getElem hiS,eS]
   have hct:=cnt_le (l:=S.take i) fun y hy=>hsz y (List.mem_of_mem_take hy)
   rw [List.length_take,Nat.min_eq_left (by omega)] at hct
   have ecn:IntKind.i64.wrap ((cntOf (S.take i):Int)+((q'[i].2.2.n:Nat):Int))=(cntOf (S.take (i+1)):Int):=by
    rw [wI64 (by omega) (by omega),et,cnt_snoc,hbn];omega
   refine cond_eq (fun hi0=>?_) (fun hi0=>?_)
   ·refine cSl_at (s:=q'[i].2.2) (by rw [addr_add,bd.cell];rfl) ?_
    rw [ecn,ite_self,ite_self,wI64 (by omega) (by omega),show (i:Int)+1=((i+1:Nat):Int) by omega]
    have e0:S.take i=[]:=by rw [show i=0 by omega];rfl
    have e1:(q'[i].1.2.headD (0,0)).1=loOf (S.take (i+1)):=by rw [et,e0];rfl
    have e2:(Chunk.lastS q'[i].1.2).1=hiOf (S.take (i+1)):=by rw [et,e0];rfl
    rw [e1,e2]
    exact ih (i+1) _ (by omega) kd
   ·refine cSl_at (s:=q'[i].2.2) (by rw [addr_add,bd.cell];rfl) ?_
    have hnil:S.take i≠[]:=by
     intro e
     have:=congrArg List.length e
     rw [List.length_take] at this
     simp only [List.length_nil] at this;omega
    rw [ecn,← lo_snoc hnil,← hi_snoc hnil,← et,wI64 (by omega) (by omega),show (i:Int)+1=((i+1:Nat):Int) by omega]
    exact ih (i+1) _ (by omega) kd
 exact key q'.length 0 w3 (by omega) (Keep.refl _)
end Go.Proofs.YtmfgmcajelmgbaaGreatDoor.Bk

namespace Go.Proofs.YtmfgmcajelmgbaaGreatDoor.Bk
open Go Lab Vint
open Go.Lib (validD size_eq)
def rlGo (p:List UInt8):Nat→Nat→List Lb→Option (List Lb × Nat)
 | 0,a,acc=>some (acc,a)
 | k+1,a,acc=>if (tx p a 64).2.2≠0 then none else if (tx p (tx p a 64).2.1 256).2.2≠0 then none else
  rlGo p k (tx p (tx p a 64).2.1 256).2.1 (acc++[(Utf.str (tx p a 64).1,Utf.str (tx p (tx p a 64).2.1 256).1)])
def rl (p:List UInt8):Option (List Lb × Nat) :=
 if (uv p 0).2.2≠0 then none else if (uv p 0).1 > 16 then none else match rlGo p (uv p 0).1 (uv p 0).2.1 [] with
  | none=>none
  | some (l,a)=>if (rt l).1≠0 then none else some (l,a)
def ckGo (p:List UInt8):Nat→Nat→List (List UInt8)→Option (List (List UInt8) × Nat)
 | 0,a,acc=>some (acc,a)
 | k+1,a,acc=>if (uv p a).2.2≠0 then none else if (uv p a).1 > p.length-(uv p a).2.1 then none else
  ckGo p k ((uv p a).2.1+(uv p a).1) (acc++[(p.drop (uv p a).2.1).take (uv p a).1])
noncomputable def rdSer (p:List UInt8):Option (Ser × Nat) :=
 match rl p with
 | none=>none
 | some (l,a)=>if (uv p a).2.2≠0 then none else if (uv p a).1 > p.length then none else match ckGo p (uv p a).1 (uv p a).2.1 [] with
  | none=>none
  | some (cs,e)=>if (Chunk.joinL [] cs 0).2.1≠0 then none else some ((l,(Chunk.joinL [] cs 0).1),e)
noncomputable def rdAll:List (List UInt8)→Option (List Ser)
 | []=>some []
 | p::r=>match rdSer p with
  | none=>none
  | some (x,_)=>match rdAll r with
   | none=>none
   | some l=>some (x::l)
def frsOf (b:List UInt8):List (List UInt8) × Nat × Nat:=frs (b.drop 8) (b.drop 8).length 0
noncomputable def openM (b:List UInt8):Option (List Ser) :=
 if b.length > 1048576∨b.take 8≠magicB then none else if (frsOf b).2.2≠0∨(frsOf b).1=[] then none else match rdAll (frsOf b).1.tail with
  | none=>none
  | some l=>if (buildR l).2.1≠0∨(buildR l).1≠b then none else some l
theorem str_bytes (s:ByteArray):Utf.str (Utf.bytes s)=s:=by cases s;simp [Utf.str,Utf.bytes]
theorem tx_at (P rest:List UInt8) {s:ByteArray} {most:Nat} (hm:most≤1000000) (hs:s.size≤most) (hv:validD (Utf.bytes s)=true) :
  tx (P++(txt s++rest)) (P.length:Int) (most:Int)=(Utf.bytes s,P.length+(txt s).length,0):=by
 have hz:=szB s
 have hu:=uv_put P (Utf.bytes s++rest) (n:=s.size) (by omega)
 have e:txt s++rest=putU s.size++(Utf.bytes s++rest):=by unfold txt;rw [List.append_assoc]
 unfold tx
 rw [e,if_neg (by simp only [List.length_append];omega)]
 simp only [hu]
 have hl:(P++(putU s.size++(Utf.bytes s++rest))).length=P.length+((putU s.size).length+((Utf.bytes s).length+rest.length)):=by simp only [List.length_append]
 rw [if_neg (by simp),if_neg (by omega),if_neg (by omega)]
 have ed:((P++(putU s.size++(Utf.bytes s++rest))).drop (P.length+(putU s.size).length)).take s.size=Utf.bytes s:=by
  rw [← List.append_assoc,List.drop_append_of_le_length (by rw [List.length_append];exact Nat.le_refl _),List.drop_of_length_le (by rw [List.length_append];exact Nat.le_refl _),List.nil_append,
   List.take_append_of_le_length (by omega),List.take_of_length_le (by omega)]
 rw [ed,if_pos hv]
 unfold txt
 simp only [List.length_append]
 refine Prod.ext rfl (Prod.ext ?_ rfl)
 simp only;omega
theorem ascii_valid {l:List UInt8} (h:∀ c∈l,c.toNat<128):validD l=true:=by
 have:=Go.Lib.validD_ascii l.length l (by rw [List.take_length];exact h)
 rw [this,List.drop_length]
 exact Go.Lib.validD_nil
theorem okB_ascii {c:Nat} (h:okB false c=true):c<128:=by
 unfold okB letterB digitB at h
 simp at h
 omega
theorem rt_each {l:List Lb} (h:(rt l).1=0):∀ x∈l,(x.1.size≤64∧validD (Utf.bytes x.1)=true)∧(x.2.size≤256∧validD (Utf.bytes x.2)=true):=by
 have hsh:=(rt_short h).2
 have key:∀ (r:List Lb) (p:Option ByteArray) (i:Nat),(rtGo p r i).1=0→∀ x∈r,namedB (Utf.bytes x.1) 64 false=true∧valE (Utf.bytes x.2)=0:=by
  intro r
  induction r with
  | nil=>intro p i _ x hx;cases hx
  | cons y r ih =>
   intro p i h x hx
   rw [rtGo] at h
   split at h
   ·exact absurd (show (40:Int)=0 from h) (by decide)
   ·rename_i h1
    split at h
    ·rename_i h2;exact absurd h h2
    ·rename_i h2
     split at h
     ·exact absurd (show (3:Int)=0 from h) (by decide)
     ·rcases List.mem_cons.1 hx with rfl | hx
      ·exact ⟨by simpa using h1,by simpa using h2⟩
      ·exact ih _ _ h x hx
 intro x hx
 have h2:=h
 unfold rt at h2
 split at h2
 ·exact absurd (show (8:Int)=0 from h2) (by decide)
 ·obtain ⟨k1,k2⟩:=key l none 0 h2 x hx
  have hs:=hsh x hx
  refine ⟨⟨hs.1,ascii_valid fun c hc=>?_⟩,hs.2,?_⟩
  ·unfold namedB at k1
   simp only [Bool.and_eq_true,List.all_eq_true] at k1
   exact okB_ascii (k1.2.2.2 c hc)
  ·unfold valE at k2
   split at k2
   ·exact absurd k2 (by decide)
   ·split at k2
    ·exact absurd k2 (by decide)
    ·split at k2
     ·assumption
     ·exact absurd k2 (by decide)
theorem rlGo_put:∀ (l:List Lb) (P rest:List UInt8) (acc:List Lb),(∀ x∈l,(x.1.size≤64∧validD (Utf.bytes x.1)=true)∧(x.2.size≤256∧validD (Utf.bytes x.2)=true)) →
  rlGo (P++(l.flatMap labB++rest)) l.length P.length acc=some (acc++l,P.length+(l.flatMap labB).length)
 | [],P,rest,acc,_=>by simp [rlGo]
 | x::l,P,rest,acc,h=>by
  obtain ⟨⟨a1,a2⟩,b1,b2⟩:=h x (List.mem_cons_self ..)
  have e:P++((x::l).flatMap labB++rest)=P++(txt x.1++(txt x.2++(l.flatMap labB++rest))):=by simp [labB]
  have t1:=tx_at P (txt x.2++(l.flatMap labB++rest)) (most:=64) (by decide) a1 a2
  have e2:P++(txt x.1++(txt x.2++(l.flatMap labB++rest)))=(P++txt x.1)++(txt x.2++(l.flatMap labB++rest)):=by simp
  have t2:=tx_at (P++txt x.1) (l.flatMap labB++rest) (most:=256) (by decide) b1 b2
  rw [← e2,List.length_append] at t2
  rw [e,List.length_cons,rlGo]
  rw [show ((64:Nat):Int)=(64:Int) from rfl] at t1
  rw [show ((256:Nat):Int)=(256:Int) from rfl] at t2
  rw [t1]
  simp only [ne_eq,not_true_eq_false,if_false]
  rw [t2]
  simp only [ne_eq,not_true_eq_false,if_false]
  have e3:P++(txt x.1++(txt x.2++(l.flatMap labB++rest)))=(P++(txt x.1++txt x.2))++(l.flatMap labB++rest):=by simp
  have ih:=rlGo_put l (P++(txt x.1++txt x.2)) rest (acc++[x]) fun y hy=>h y (List.mem_cons_of_mem _ hy)
  rw [← e3] at ih
  rw [str_bytes,str_bytes]
  rw [show P.length+(txt x.1).length+(txt x.2).length=(P++(txt x.1++txt x.2)).length by simp only [List.length_append];omega,ih]
  simp only [List.flatMap_cons,labB,List.length_append,List.append_assoc,List.cons_append,List.nil_append]
  congr 2
  omega
theorem rl_put {l:List Lb} (h:(rt l).1=0) (rest:List UInt8):rl (Lab.put l++rest)=some (l,(Lab.put l).length):=by
 have h16:=(rt_short h).1
 have e:Lab.put l++rest=[]++(putU l.length++(l.flatMap labB++rest)):=by unfold Lab.put;simp
 have hu:=uv_put [] (l.flatMap labB++rest) (n:=l.length) (by omega)
 rw [← e] at hu
 rw [show (([]:List UInt8).length:Int)=0 from rfl] at hu
 have hg:=rlGo_put l (putU l.length) rest [] (rt_each h)
 have e2:putU l.length++(l.flatMap labB++rest)=Lab.put l++rest:=by unfold Lab.put;rw [List.append_assoc]
 rw [e2] at hg
 unfold rl
 rw [hu]
 simp only [ne_eq,not_true_eq_false,if_false,List.length_nil,Nat.zero_add]
 rw [if_neg (by omega),hg]
 simp only [List.nil_append]
 rw [if_neg (by simpa using h)]
 unfold Lab.put
 rw [List.length_append]
theorem ckGo_put:∀ (cs:List (List UInt8)) (P:List UInt8) (acc:List (List UInt8)),(∀ c∈cs,c.length≤3000) →
  ckGo (P++cs.flatMap cpay) cs.length P.length acc=some (acc++cs,P.length+(cs.flatMap cpay).length)
 | [],P,acc,_=>by simp [ckGo]
 | c::cs,P,acc,h=>by
  have hc:=h c (List.mem_cons_self ..)
  have e:P++(c::cs).flatMap cpay=P++(putU c.length++(c++cs.flatMap cpay)):=by simp [cpay]
  have hu:=uv_put P (c++cs.flatMap cpay) (n:=c.length) (by omega)
  rw [e,List.length_cons,ckGo,hu]
  simp only [ne_eq,not_true_eq_false,if_false]
  rw [if_neg (by simp only [List.length_append];omega)]
  have ed:((P++(putU c.length++(c++cs.flatMap cpay))).drop (P.length+(putU c.length).length)).take c.length=c:=by
   rw [← List.append_assoc,List.drop_append_of_le_length (by rw [List.length_append];exact Nat.le_refl _),List.drop_of_length_le (by rw [List.length_append];exact Nat.le_refl _),List.nil_append,
    List.take_append_of_le_length (Nat.le_refl _),List.take_length]
  rw [ed]
  have e3:P++(putU c.length++(c++cs.flatMap cpay))=(P++(putU c.length++c))++cs.flatMap cpay:=by simp
  have ih:=ckGo_put cs (P++(putU c.length++c)) (acc++[c]) fun y hy=>h y (List.mem_cons_of_mem _ hy)
  rw [← e3] at ih
  rw [show P.length+(putU c.length).length+c.length=(P++(putU c.length++c)).length by simp only [List.length_append];omega,ih]
  simp only [List.flatMap_cons,cpay,List.length_append,List.append_assoc,List.cons_append,List.nil_append]
  congr 2
  omega
theorem cpay_ge:∀ cs:List (List UInt8),cs.length≤(cs.flatMap cpay).length
 | []=>by simp
 | c::cs=>by
  have:=cpay_ge cs
  have:=putU_pos c.length
  simp only [List.flatMap_cons,List.length_cons,List.length_append,cpay];omega
theorem chs_small {m:List Smp} (h:Chunk.Rising m):∀ c∈chs m,c.length≤3000:=by
 intro c hc
 unfold chs Chunk.pcs at hc
 obtain ⟨i,_,rfl⟩:=List.mem_map.1 hc
 exact Chunk.enc_small (Chunk.pce_valid h i)
theorem join_chs {m:List Smp} (h:Chunk.Rising m):Chunk.joinL [] (chs m) 0=(m,0,0):=by
 have:=Chunk.join_pcs h ((m.length+119) / 120) 0 (by omega)
 simpa [chs] using this
theorem rdSer_pay {x:Ser} (h:(rt x.1).1=0) (hr:Chunk.Rising x.2) (hl:x.2.length≤11000000):rdSer (pay x)=some (x,(pay x).length):=by
 have hg:=rl_put h (putU (chs x.2).length++(chs x.2).flatMap cpay)
 have hcl:(chs x.2).length=(x.2.length+119) / 120:=by unfold chs Chunk.pcs;rw [List.length_map,List.length_range]
 have hu:=uv_put (Lab.put x.1) ((chs x.2).flatMap cpay) (n:=(chs x.2).length) (by omega)
 have hc:=ckGo_put (chs x.2) (Lab.put x.1++putU (chs x.2).length) [] (chs_small hr)
 have e:Lab.put x.1++putU (chs x.2).length++(chs x.2).flatMap cpay=pay x:=by unfold pay;rw [List.append_assoc]
 rw [e] at hc
 have hge:=cpay_ge (chs x.2)
 unfold rdSer
 change rl (pay x)=_ at hg
 change uv (pay x) _=_ at hu
 rw [hg]
 simp only
 rw [hu]
 simp only [ne_eq,not_true_eq_false,if_false]
 rw [if_neg (by unfold pay;simp only [List.length_append];omega)]
 rw [List.length_append] at hc
 rw [hc]
 simp only [List.nil_append]
 rw [join_chs hr]
 simp only [not_true_eq_false,if_false]
 congr 3
 rw [← e,List.length_append,List.length_append]
theorem rdAll_pay:∀ {S:List Ser},(∀ x∈S,(rt x.1).1=0∧Chunk.Rising x.2∧x.2.length≤11000000)→rdAll (S.map pay)=some S
 | [],_=>rfl
 | x::S,h=>by
  obtain ⟨h1,h2,h3⟩:=h x (List.mem_cons_self ..)
  rw [List.map_cons,rdAll,rdSer_pay h1 h2 h3]
  simp only
  rw [rdAll_pay fun y hy=>h y (List.mem_cons_of_mem _ hy)]
structure Blo (S:List Ser):Prop where
 fit:Fit S
 fl:∀ x∈S,∀ y∈x.2,y.2<18446744073709551616
 up:S.Pairwise leS
 n:S.length≤1000
 sl:∀ x∈S,x.2.length≤11000000
 sz:(bytesOf S).length≤1048576
theorem srt_self {S:List Ser} (h:S.Pairwise leS) (nd:(S.map (·.1)).Nodup):srt S=S:=(srt_of (List.Perm.refl S) nd h).symm
theorem build_self {S:List Ser} (h:Blo S):buildR S=(bytesOf S,0,0):=by
 have hw:=fit_wrg S [] 0 (by simpa using h.fit)
 have:=h.n
 unfold buildR
 rw [if_neg (by omega),hw,if_neg (by simp),srt_self h.up h.fit.nd,if_neg (by have:=h.sz;omega)]
theorem blo_of {l:List Ser} (h:(buildR l).2.1=0) (hf:∀ x∈l,∀ y∈x.2,y.2<18446744073709551616) (hs:∀ x∈l,x.2.length≤11000000):Blo (srt l)∧(buildR l).1=bytesOf (srt l):=by
 unfold buildR at h ⊢
 split at h
 ·exact absurd (show (8:Int)=0 from h) (by decide)
 ·rename_i h1
  split at h
  ·rename_i h2;exact absurd h h2
  ·rename_i h2
   split at h
   ·exact absurd (show (4:Int)=0 from h) (by decide)
   ·rename_i h3
    have pm:=srt_perm l
    rw [if_neg h1,if_neg h2,if_neg h3]
    exact ⟨⟨(fit_of (by simpa using h2)).perm pm,fun x hx=>hf x (pm.mem_iff.1 hx),srt_up l,by rw [pm.length_eq];omega,fun x hx=>hs x (pm.mem_iff.1 hx),by omega⟩,rfl⟩
theorem Blo.ris {S:List Ser} (h:Blo S):Ris S:=fit_ris h.fit h.fl
theorem frs_bytes {S:List Ser} (h:Blo S):frsOf (bytesOf S)=(hd S::S.map pay,(bytesOf S).length-8,0):=by
 have hm:magicB.length=8:=rfl
 have hhd:=hd_len h.ris h.n h.sl
 have e:(bytesOf S).drop 8=[]++(flat (hd S::S.map pay)++[]):=by
  unfold bytesOf
  rw [List.drop_append_of_le_length (by omega),List.drop_of_length_le (by omega)]
  simp [flat]
 have hf:=frs_flat (hd S::S.map pay) [] [] (((bytesOf S).drop 8).length) (fun m hm=>by
  rcases List.mem_cons.1 hm with rfl | hm
  ·omega
  ·obtain ⟨x,hx,rfl⟩:=List.mem_map.1 hm
   exact (h.fit.rising hx).2.2) (.inl rfl) (by rw [← e];simp)
 unfold frsOf
 rw [← e] at hf
 rw [show ([]:List UInt8).length=0 from rfl] at hf
 rw [hf,if_pos rfl]
 refine Prod.ext rfl (Prod.ext ?_ rfl)
 simp only
 have:=congrArg List.length e
 rw [List.length_drop] at this
 simp at this
 omega
theorem open_bytes {S:List Ser} (h:Blo S):openM (bytesOf S)=some S:=by
 have hz:=h.sz
 have hb:=build_self h
 have hr:=rdAll_pay (S:=S) fun x hx=>⟨h.fit.rt x hx,(h.ris x hx).2,h.sl x hx⟩
 unfold openM
 rw [if_neg,frs_bytes h,if_neg (by simp),List.tail_cons,hr]
 ·simp only
  rw [if_neg (by rw [hb];simp)]
 ·rintro (h1 | h1)
  ·omega
  ·apply h1;unfold bytesOf;rw [List.take_append_of_le_length (by decide)];rfl
theorem open_some {b:List UInt8} {l:List Ser} (h:openM b=some l):(buildR l).2.1=0∧(buildR l).1=b∧b.length≤1048576:=by
 unfold openM at h
 split at h
 ·cases h
 ·rename_i h1
  split at h
  ·cases h
  ·split at h
   ·cases h
   ·split at h
    ·cases h
    ·rename_i h3
     injection h with h
     subst h
     exact ⟨Classical.byContradiction fun x=>h3 (.inl x),Classical.byContradiction fun x=>h3 (.inr x),by omega⟩
end Go.Proofs.YtmfgmcajelmgbaaGreatDoor.Bk

namespace Go.Proofs.YtmfgmcajelmgbaaGreatDoor.Bk
open Go Vm Go.RowKit Num Mem Utf Lib Lab Vint Bits
variable {ω ω' : Tg} {w w' w0 : World}
theorem uv_len {p:List UInt8} {a:Int} (h:(uv p a).2.2=0):(uv p a).2.1≤p.length:=(uv_end h).2.2
theorem labs_snoc (l:List Lb) (a b:ByteArray):labs (l++[(a,b)])=labs l++[.string a,.string b]:=by rw [labs_app];rfl
theorem read_ok (ht:UTab w0) {b:Sl} {p:List UInt8} (hb:RdB w0 b p) (hl:p.length≤65536) {K:Sl→Int→Int→World→Prop}
  (hE:rl p=none→∀ (e:Int) w',e≠0→Keep w0 w'→K nilS 0 e w')
  (hK:∀ l a,rl p=some (l,a)→∀ r w',Keep w0 w'→Mem.Own w' w0.heap.size 93 2 r (labs l)→K r (a:Int) 0 w'):C.labels_Read b 0 w0 K:=by
 unfold C.labels_Read
 refine u_ok hb (by omega) 0 ?_
 unfold rl at hE hK
 refine cond_ne (fun h=>?_) (fun h=>?_)
 ·have h':(uv p 0).2.2≠0:=fun e=>h (by rw [e];rfl)
  rw [if_pos h'] at hE
  exact hE rfl _ w0 (by exact_mod_cast h') (Keep.refl _)
 have hz:(uv p 0).2.2=0:=by exact_mod_cast h
 rw [if_neg (by simpa using hz)] at hE hK
 refine cond_d (fun h16=>?_) (fun h16=>?_)
 ·rw [if_pos (by omega)] at hE
  exact hE rfl 8 w0 (by decide) (Keep.refl _)
 rw [if_neg (by omega)] at hE hK
 unfold C.labels_Read.S9
 generalize (uv p 0).1=n at *
 refine C.labels_Read.L5_ind fun X hX=>?_
 have key:∀ (d i a:Nat) (acc:List Lb) (out:Sl) (ω:Tg) (w:World),i+d=n→acc.length=i→Top w0 ω w→OT ω w 2 93 2 out (labs acc)→rlGo p d a acc=rlGo p n (uv p 0).2.1 []→X b (a:Int) out (n:Int) (i:Int) w:=by
  intro d
  induction d with
  | zero =>
   intro i a acc out ω w hi hacc top o e
   refine hX _ _ _ _ _ _ ?_
   unfold C.labels_Read.S7 C.labels_Read.S2
   rw [rlGo] at e
   rw [← e] at hE hK
   simp only at hE hK
   refine cond_d (fun h=>by omega) (fun _=>?_)
   unfold C.labels_right
   refine right_ok (ht.keep top.k) o.rd fun w1 k1=>?_
   refine cond_ne (fun hr=>?_) (fun hr=>?_)
   ·rw [if_pos hr] at hE
    exact hE rfl _ w1 hr (Keep.trans top.k k1)
   ·rw [if_neg (by simpa using hr)] at hK
    exact hK acc a rfl out w1 (Keep.trans top.k k1) (Own.keep (otNew o top) k1)
  | succ d ih =>
   intro i a acc out ω w hi hacc top o e
   refine hX _ _ _ _ _ _ ?_
   unfold C.labels_Read.S7
   rw [rlGo] at e
   have bad:none=rlGo p n (uv p 0).2.1 []→∀ (e:Int) w',e≠0→Keep w0 w'→K nilS 0 e w':=fun e0=>by
    rw [← e0] at hE
    exact hE rfl
   refine cond_d (fun _=>?_) (fun h=>by omega)
   refine new_T (ω:=ω) 7 fun g ω1 w1 k1 b1=>?_
   have top1:=top.stp k1
   refine text_ok (ht.keep top1.k) (hb.keep top1.k) (by omega) (by decide) fun w2 k2=>?_
   have s2:=k2.stp0 ω1
   have b2:=b1.stp s2
   have top2:=top1.stp s2
   generalize tx p (a:Int) 64=t1 at e ⊢
   refine st_T b2 (by simp) fun ω3 w3 k3 b3=>?_
   have top3:=top2.stp k3
   refine cond_ne (fun h3=>?_) (fun h3=>?_)
   ·rw [if_pos (by omega)] at e
    exact bad e _ w3 h3 top3.k
   rw [if_neg (by omega)] at e
   refine text_ok (ht.keep top3.k) (hb.keep top3.k) (by omega) (by decide) fun w4 k4=>?_
   have s4:=k4.stp0 ω3
   have b4:=b3.stp s4
   have top4:=top3.stp s4
   generalize tx p (t1.2.1:Int) 256=t2 at e ⊢
   refine st_TA b4 (by simp) fun ω5 w5 k5 b5=>?_
   have top5:=top4.stp k5
   refine cond_ne (fun h5=>?_) (fun h5=>?_)
   ·rw [if_pos (by omega)] at e
    exact bad e _ w5 h5 top5.k
   rw [if_neg (by omega)] at e
   refine cS_at (b:=Utf.str t1.1) (by rw [b5.cell];rfl)<|cS_at (b:=Utf.str t2.1) (by rw [addr_add,b5.cell];rfl) ?_
   have o5:=((((o.stp k1).stp s2).stp k3).stp s4).stp k5
   have hon:=rdL_n o5.rd
   refine push_T tiL o5 (n:=1) rfl (by intro v hv;simp at hv;rcases hv with rfl | rfl<;>rfl) (by simp only [maxLen];omega) (by omega) fun r ω6 w6 k6 o6 _=>?_
   rw [wU64_id (by omega) (by omega),show (i:Int)+1=((i+1:Nat):Int) by omega]
   refine ih (i+1) _ _ r ω6 w6 (by omega) (by rw [List.length_append,hacc];rfl) (top5.stp k6) ?_ e
   rw [labs_snoc];exact o6
 exact key n 0 (uv p 0).2.1 [] nilS (fun _=>0) w0 (by omega) rfl (Top.init w0) (OT.nil _ _ _ _ _) rfl
theorem joinL_fine:∀ (cs:List (List UInt8)) (out:List Smp) (i:Nat),(∀ x∈out,x.2<18446744073709551616)→(∀ x∈(Chunk.joinL out cs i).1,x.2<18446744073709551616)∧(Chunk.joinL out cs i).1.length≤out.length+120*cs.length
 | [],out,i,h=>by rw [Chunk.joinL];exact ⟨h,by simp⟩
 | c::cs,out,i,h=>by
  rw [Chunk.joinL]
  cases hd:Chunk.dec c with
  | none=>exact ⟨by simp,by simp⟩
  | some x =>
   simp only
   split
   ·exact ⟨by simp,by simp⟩
   ·obtain ⟨hv,_⟩:=Chunk.dec_some hd
    obtain ⟨h1,h2⟩:=joinL_fine cs (out++x) (i+1) fun y hy=>by
     rcases List.mem_append.1 hy with hy | hy
     ·exact h y hy
     ·exact (hv.mem y hy).2.2
    refine ⟨h1,?_⟩
    have:=hv.len
    rw [List.length_append] at h2
    rw [List.length_cons];omega
theorem rt_sizes {l:List Lb} (h:(rt l).1=0):(∀ x∈l,x.2.size≤140737488355300)∧l.length≤9000000000000000000:=by
 obtain ⟨h1,h2⟩:=rt_short h
 exact ⟨fun x hx=>by have:=h2 x hx;omega,by omega⟩
theorem rl_rt {p:List UInt8} {l:List Lb} {a:Nat} (h:rl p=some (l,a)):(rt l).1=0:=by
 unfold rl at h
 split at h
 ·cases h
 ·split at h
  ·cases h
  ·split at h
   ·cases h
   ·split at h
    ·cases h
    ·rename_i h4
     injection h with h
     injection h with h h'
     subst h
     simpa using h4
theorem ckGo_len {p:List UInt8}:∀ (k a:Nat) (acc cs:List (List UInt8)) (e:Nat),ckGo p k a acc=some (cs,e)→cs.length=acc.length+k
 | 0,a,acc,cs,e,h=>by
  rw [ckGo] at h
  injection h with h
  injection h with h _
  rw [← h];rfl
 | k+1,a,acc,cs,e,h=>by
  rw [ckGo] at h
  split at h
  ·cases h
  ·split at h
   ·cases h
   ·have:=ckGo_len k _ _ cs e h
    rw [List.length_append,List.length_singleton] at this
    omega
theorem series_ok (hT:DTab w0) (ht:UTab w0) {b:Sl} {p:List UInt8} (hb:RdB w0 b p) (hl:p.length≤65536) {K:Sl→Sl→Bool→World→Prop}
  (hE:rdSer p=none→∀ r s w',Keep w0 w'→K r s false w')
  (hK:∀ x e,rdSer p=some (x,e)→∀ r s w',Keep w0 w'→SeOk w' (x,r,s)→Mem.Own w' w0.heap.size 93 2 r (labs x.1)→Mem.Own w' w0.heap.size 96 2 s (Chunk.smps x.2)→K r s true w'):C.block_series b w0 K:=by
 have hbn:=hb.len
 unfold C.block_series
 refine new_T (ω:=fun _=>0) 7 fun g ω1 w1 k1 b1=>?_
 have top1:=(Top.init w0).stp k1
 -- out,empty
 have out:rdSer p=none→∀ {ω w},Top w0 ω w→BT ω w 7 g 57 [nilS.v,nilS.v]→G.st ⟨g,0,none⟩ nilS.v w fun w1=>G.st (Addr.add ⟨g,0,none⟩ 1) nilS.v w1 fun w2=>G.cSl ⟨g,0,none⟩ w2 fun a=>G.cSl (Addr.add ⟨g,0,none⟩ 1) w2 fun c=>K a c false w2:=by
  intro h ω w top bt
  refine st_T bt (by simp) fun ω2 w2 k2 b2=>st_TA b2 (by simp) fun ω3 w3 k3 b3=>?_
  exact cSl_at (s:=nilS) (by rw [b3.cell];rfl)<|cSl_at (s:=nilS) (by rw [addr_add,b3.cell];rfl) (hE h nilS nilS w3 ((top.stp k2).stp k3).k)
 unfold rdSer at hE hK out
 refine read_ok (ht.keep top1.k) (hb.keep top1.k) hl (fun hn e w2 he k2=>?_) (fun l a hs r w2 k2 o2=>?_)
 ·rw [hn] at out
  exact cond_t (by simpa using he) (out rfl (top1.stp (k2.stp0 _)) (b1.stp (k2.stp0 _)))
 rw [hs] at hE hK out
 simp only at hE hK out
 refine cond_f rfl ?_
 have s2:=k2.stp ω1 9
 have t2:=Own.tag o2 (Nat.le_refl _) ω1 9
 have b2:=b1.stp s2
 have top2:=top1.stp s2
 have hrt:=rl_rt hs
 generalize ext ω1 w1.heap.size 9=ω2 at *
 refine u_ok (hb.keep top2.k) (by omega) (a:Int) ?_
 refine cond_ne (fun h=>?_) (fun h=>?_)
 ·have h':(uv p a).2.2≠0:=fun e=>h (by rw [e];rfl)
  rw [if_pos h'] at out
  exact out rfl top2 b2
 have hz:(uv p a).2.2=0:=by exact_mod_cast h
 have hue:=uv_len hz
 rw [if_neg (by simpa using hz)] at hE hK out
 rw [wU64_id (by omega) (by omega),hbn]
 refine cond_d (fun hgt=>?_) (fun hle=>?_)
 ·rw [if_pos (by omega)] at out
  exact out rfl top2 b2
 rw [if_neg (by omega)] at hE hK out
 generalize (uv p a).1=n at *
 generalize (uv p a).2.1=a0 at *
 unfold C.block_series.S9
 refine C.block_series.L5_ind fun X hX=>?_
 have key:∀ (d i a:Nat) (acc:List (List UInt8)) (ss:List Sl) (c:Sl) (ω:Tg) (w:World),i+d=n→acc.length=i→ss.length=i→a≤p.length→Top w0 ω w→BT ω w 7 g 57 [nilS.v,nilS.v]→OT ω w 9 93 2 r (labs l) →
   OT ω w 3 22 1 c (ss.map Sl.v)→(∀ (j:Nat) q y,ss[j]?=some q→acc[j]?=some y→RdB w0 q y)→ckGo p d a acc=ckGo p n a0 []→X b (some ⟨g,0,none⟩) r (a:Int) c (n:Int) (i:Int) w:=by
  intro d
  induction d with
  | zero =>
   intro i a acc ss c ω w hi hacc hss ha top bt ol oc hel e
   refine hX _ _ _ _ _ _ _ _ ?_
   unfold C.block_series.S7 C.block_series.S2
   rw [ckGo] at e
   rw [← e] at hE hK
   simp only at hE hK
   refine cond_d (fun h=>by omega) (fun _=>?_)
   have hrd:Chunk.RdL w c ss acc:=⟨oc.rd,by omega,fun j q y h1 h2=>(hel j q y h1 h2).keep top.k⟩
   refine Chunk.join_ok (hT.keep top.k) hrd (by omega) fun s w1 k1 o1=>?_
   have s1:=k1.stp ω 11
   have t1:=Own.tag o1 (Nat.le_refl _) ω 11
   have b1:=bt.stp s1
   have top1:=top.stp s1
   have ol1:=ol.stp s1
   generalize ext ω w.heap.size 11=ω1 at *
   refine ptr_at<|st_T b1 (by simp) fun ω2 w2 k2 b2=>st_TA b2 (by simp) fun ω3 w3 k3 b3=>?_
   have top3:=(top1.stp k2).stp k3
   refine ptr_at<|cSl_at (s:=r) (by rw [b3.cell];rfl)<|cSl_at (s:=s) (by rw [addr_add,b3.cell];rfl) ?_
   obtain ⟨f1,f2⟩:=joinL_fine acc [] 0 (by simp)
   have l3:=(ol1.stp k2).stp k3
   have t3:=(t1.stp k2).stp k3
   by_cases hj:(Chunk.joinL [] acc 0).2.1=0
   ·rw [if_neg (by simpa using hj)] at hK
    rw [hj]
    obtain ⟨z1,z2⟩:=rt_sizes hrt
    exact hK _ _ rfl r s w3 top3.k ⟨l3.rd,t3.rd,f1,by simp only [List.length_nil] at f2;dsimp only;omega,z1,z2⟩ (otNew l3 top3) (otNew t3 top3)
   ·rw [if_pos hj] at hE
    have:((Chunk.joinL [] acc 0).2.1==(0:Int))=false:=by simpa using hj
    rw [this]
    exact hE rfl r s w3 top3.k
  | succ d ih =>
   intro i a acc ss c ω w hi hacc hss ha top bt ol oc hel e
   refine hX _ _ _ _ _ _ _ _ ?_
   unfold C.block_series.S7
   rw [ckGo] at e
   refine cond_d (fun _=>?_) (fun h=>by omega)
   refine u_ok (hb.keep top.k) (by omega) (a:Int) ?_
   refine cond_ne (fun h=>?_) (fun h=>?_)
   ·have h':(uv p a).2.2≠0:=fun e=>h (by rw [e];rfl)
    rw [if_pos h'] at e
    rw [← e] at out
    exact ptr_at (out rfl top bt)
   have hz:(uv p a).2.2=0:=by exact_mod_cast h
   have hue:=uv_len hz
   rw [if_neg (by simpa using hz)] at e
   rw [wI64 (x:=((b.n:Nat):Int)-_) (by omega) (by omega),wU64_id (by omega) (by omega)]
   refine cond_d (fun hgt=>?_) (fun hle=>?_)
   ·rw [if_pos (by omega)] at e
    rw [← e] at out
    exact ptr_at (out rfl top bt)
   rw [if_neg (by omega)] at e
   generalize (uv p a).1=m at *
   generalize (uv p a).2.1=f at *
   rw [wI64 (x:=(m:Int)) (by omega) (by omega),wI64 (x:=(f:Int)+(m:Int)) (by omega) (by omega)]
   refine RdB.slc hb (lo:=f) (hi:=f+m) (by omega) (by omega) rfl (by omega) fun q hq=>?_
   rw [show f+m-f=m by omega] at hq
   have hcn:c.n=ss.length:=by have:=oc.own.len;rw [List.length_map] at this;omega
   refine push_T Chunk.tiBB oc (n:=1) rfl (by intro v hv;simp at hv;subst hv;rfl) (by simp only [maxLen];omega) (by omega) fun c2 ω2 w2 k2 o2 _=>?_
   rw [wU64_id (by omega) (by omega),show (i:Int)+1=((i+1:Nat):Int) by omega,show (f:Int)+(m:Int)=((f+m:Nat):Int) by omega]
   refine ih (i+1) (f+m) (acc++[(p.drop f).take m]) (ss++[q]) c2 ω2 w2 (by omega) (by rw [List.length_append,hacc];rfl) (by rw [List.length_append,hss];rfl) (by omega) (top.stp k2) (bt.stp k2) (ol.stp k2) (by rw [List.map_append];exact o2) (fun j q' y h1 h2=>?_) e
   rcases Nat.lt_or_ge j ss.length with hj | hj
   ·rw [List.getElem?_append_left hj] at h1
    rw [List.getElem?_append_left (by omega)] at h2
    exact hel j q' y h1 h2
   ·rw [List.getElem?_append_right hj] at h1
    rw [List.getElem?_append_right (by omega),hacc,← hss] at h2
    rcases Nat.eq_zero_or_pos (j-ss.length) with e0 | e0
    ·rw [e0] at h1 h2
     simp only [List.getElem?_cons_zero,Option.some.injEq] at h1 h2
     subst h1 h2
     exact hq
    ·rw [List.getElem?_eq_none (by simp;omega)] at h1;cases h1
 exact key n 0 a0 [] [] nilS ω2 w2 (by omega) rfl rfl hue top2 b2 t2 (OT.nil _ _ _ _ _) (fun j q y h=>by simp at h) rfl
end Go.Proofs.YtmfgmcajelmgbaaGreatDoor.Bk

namespace Go.Proofs.YtmfgmcajelmgbaaGreatDoor.Mem
open Go Vm Go.RowKit Num
abbrev L2:=ByteArray × ByteArray
abbrev LL:=List (L2 × Value)
def lbV (x:L2):Value:=.agg #[.string x.1,.string x.2]
def encL (p:L2 × Value):Value × Value:=(lbV p.1,p.2)
theorem lbV_inj {x y:L2} (h:lbV x=lbV y):x=y:=by
 unfold lbV at h
 injection h with h
 have h:=congrArg Array.toList h
 simp only [List.cons.injEq,Value.string.injEq,and_true] at h
 exact Prod.ext h.1 h.2
def sml (x:L2):Prop:=x.1.size≤maxLen∧x.2.size≤maxLen
theorem lawL:WideMaps.KeyLaw Tryz.prog 93:=deep_law (m:=2) (by decide) (by kernel_rfl) (by kernel_rfl) (by kernel_rfl)
theorem keyOf_lb {x:L2} (h:sml x):∃ l,keyOf Tryz.prog 93 (lbV x)=some l:=by
 obtain ⟨h1,h2⟩:=h
 have hk:Tryz.prog.keyType 93=true:=by kernel_rfl
 have hc:Tryz.prog.cellsOf 93=2:=by kernel_rfl
 have hs:Tryz.prog.cellsOf 9=1:=by kernel_rfl
 have hst:Tryz.prog.underlying 9=some .string:=by kernel_rfl
 obtain ⟨m,hm⟩:∃ m,Tryz.prog.types.size=m+2:=⟨Tryz.prog.types.size-2,by kernel_rfl⟩
 unfold keyOf lbV
 simp only [Tryz.underlying93]
 rw [if_pos (by simp [hk,Value.formed,Tryz.underlying93,hc]),hm]
 unfold Program.keyLits
 simp only [Tryz.underlying93,Value.cells]
 rw [if_pos (by rw [hc];exact ⟨rfl,by simp⟩)]
 simp [Program.keyLits,hst,hs,h1,h2]
structure ML (ω:Tg) (w:World) (t g:Nat) (al:LL):Prop where
 ex:∃ es clock,w.heap[g]?=some (.map es clock)∧MapKept.Stamped es clock∧es.toList.map (fun e=>(e.key,e.val))=al.map encL
 tag:ω g=t
 sm:∀ p∈al,sml p.1
def getL (s:L2):LL→Option Value
 | []=>none
 | (k,v)::r=>if s=k then some v else getL s r
def updL (s:L2) (v:Value):LL→LL
 | []=>[(s,v)]
 | (k,x)::r=>if s=k then (s,v)::r else (k,x)::updL s v r
variable {ω ω' : Tg} {w w' : World} {t g : Nat} {al : LL} {T : Nat → Bool}
theorem ML.stp (h:ML ω w t g al) (s:Stp T ω ω' w w') (ne:T t=false):ML ω' w' t g al:=by
 obtain ⟨es,clock,hb,hs,he⟩:=h.ex
 exact ⟨⟨es,clock,by rw [s.block g (heap_lt hb) (by rw [h.tag];exact ne)];exact hb,hs,he⟩,(s.same g (heap_lt hb)).trans h.tag,h.sm⟩
theorem ML.lt (h:ML ω w t g al):g<w.heap.size:=by obtain ⟨es,clock,hb,_⟩:=h.ex;exact heap_lt hb
theorem nodupL {es:Array MapEntry} {clock:Nat} (hs:MapKept.Stamped es clock) (he:es.toList.map (fun e=>(e.key,e.val))=al.map encL):(al.map (·.1)).Nodup:=by
 have h1:=((MapKept.stamped_iff es clock).1 hs).2.2
 have h2:(es.toList.map (·.key)).Nodup:=by rw [List.Nodup,List.pairwise_map];exact h1
 have e3:es.toList.map (·.key)=(al.map (·.1)).map lbV:=by
  have:=congrArg (List.map Prod.fst) he
  rw [List.map_map,List.map_map] at this
  rw [List.map_map]
  exact this
 rw [e3] at h2
 exact (List.pairwise_map.1 h2).imp fun h e=>h (by rw [e])
theorem ML.nodup (h:ML ω w t g al):(al.map (·.1)).Nodup:=by
 obtain ⟨es,clock,hb,hs,he⟩:=h.ex
 exact nodupL hs he
theorem getL_at {s:L2} {v:Value}:∀ {al:LL} {j:Nat},(al.map (·.1)).Nodup→al[j]?=some (s,v)→getL s al=some v∧∀ u,al.set j (s,u)=updL s u al
 | [],j,_,h=>by simp at h
 | (k,x)::r,0,_,h=>by
  simp only [List.getElem?_cons_zero,Option.some.injEq,Prod.mk.injEq] at h
  obtain ⟨rfl,rfl⟩:=h
  exact ⟨by simp [getL],fun u=>by simp [updL]⟩
 | (k,x)::r,j+1,hn,h=>by
  rw [List.map_cons,List.nodup_cons] at hn
  have hr:r[j]?=some (s,v):=by simpa using h
  obtain ⟨h1,h2⟩:=getL_at hn.2 hr
  have hne:¬ s=k:=fun e=>hn.1 (by rw [← e];exact List.mem_map.2 ⟨_,List.mem_of_getElem? hr,rfl⟩)
  exact ⟨by simp [getL,if_neg hne,h1],fun u=>by simp [updL,if_neg hne,h2 u]⟩
theorem getL_none {s:L2}:∀ {al:LL},(∀ p∈al,p.1≠s)→getL s al=none∧∀ u,updL s u al=al++[(s,u)]
 | [],_=>⟨rfl,fun _=>rfl⟩
 | (k,x)::r,h=>by
  obtain ⟨h1,h2⟩:=getL_none fun p hp=>h p (List.mem_cons_of_mem _ hp)
  have hne:¬ s=k:=fun e=>h (k,x) (List.mem_cons_self ..) e.symm
  exact ⟨by simp [getL,if_neg hne,h1],fun u=>by simp [updL,if_neg hne,h2 u]⟩
theorem find_L {s:L2} (hs:sml s) {es:Array MapEntry} {clock:Nat} (st:MapKept.Stamped es clock) (he:es.toList.map (fun e=>(e.key,e.val))=al.map encL) (hsm:∀ p∈al,sml p.1) (w:World) :
  (getL s al=none∧(Instr.findKey 93 (lbV s) es.toList).run Tryz.prog w=.ok none w∧(∀ e∈es.toList,e.key≠lbV s)∧∀ u,updL s u al=al++[(s,u)]) ∨
  ∃ j e v,getL s al=some v∧(Instr.findKey 93 (lbV s) es.toList).run Tryz.prog w=.ok (some (j,v)) w∧es.toList[j]?=some e∧e.key=lbV s∧e.val=v∧∀ u,al.set j (s,u)=updL s u al:=by
 obtain ⟨l,hl⟩:=keyOf_lb hs
 have hall:∀ e∈es.toList,∃ l,keyOf Tryz.prog 93 e.key=some l:=fun e hm=>by
  have:(e.key,e.val)∈es.toList.map (fun e=>(e.key,e.val)):=List.mem_map_of_mem hm
  rw [he] at this
  obtain ⟨p,hp,hpe⟩:=List.mem_map.1 this
  simp only [encL,Prod.mk.injEq] at hpe
  rw [← hpe.1];exact keyOf_lb (hsm p hp)
 rcases lawL.find w hl es.toList hall with ⟨h1,h2⟩ | ⟨j,e,h1,h2,h3⟩
 ·have:=getL_none (s:=s) (al:=al) fun p hp e=>by
   have:encL p∈al.map encL:=List.mem_map_of_mem hp
   rw [← he] at this
   obtain ⟨y,hy,hye⟩:=List.mem_map.1 this
   simp only [encL,Prod.mk.injEq] at hye
   exact h2 y hy (by rw [hye.1,e])
  exact .inl ⟨this.1,h1,h2,this.2⟩
 ·have hj:(es.toList.map (fun e=>(e.key,e.val)))[j]?=some (e.key,e.val):=by rw [List.getElem?_map,h2];rfl
  rw [he,List.getElem?_map] at hj
  cases hp:al[j]? with
  | none=>rw [hp] at hj;cases hj
  | some p =>
   rw [hp] at hj
   simp only [Option.map_some,encL,Option.some.injEq,Prod.mk.injEq] at hj
   obtain ⟨k,v⟩:=p
   have hk:k=s:=lbV_inj (by rw [hj.1,h3])
   subst hk
   have hv:v=e.val:=hj.2
   obtain ⟨g1,g2⟩:=getL_at (nodupL st he) hp
   exact .inr ⟨j,e,v,g1,by rw [h1,hv],h2,h3,hv.symm,g2⟩
theorem run_look_L {mt et:TypeId} (h:ML ω w t g al) (hm:Tryz.prog.underlying mt=some (.map 93 et)) {z:Value} (hz:∀ w,(zeroValue et).run Tryz.prog w=.ok z w) {s:L2} (hs:sml s) (ok:Bool) (d:Nat) :
  (Instr.lookup mt (.map (some g)) (lbV s) ok).run Tryz.prog (w.drewN d)=.ok (if ok then .tuple #[(getL s al).getD z,.bool (getL s al).isSome] else (getL s al).getD z) (w.drewN d):=by
 obtain ⟨es,clock,hb,st,he⟩:=h.ex
 have hb':(w.drewN d).heap[g]?=some (.map es clock):=hb
 obtain ⟨l,hl⟩:=keyOf_lb hs
 have hc:=fun e=>lawL.check (w.drewN d) e hl
 rcases find_L hs st he h.sm (w.drewN d) with ⟨g1,g2,_⟩ | ⟨j,e',v',g1,g2,_⟩
 ·simp [Instr.lookup,run_underlying hm,MapKept.run_getObj_map hb',hc,g2,hz,Result.andThen,g1]
 ·simp [Instr.lookup,run_underlying hm,MapKept.run_getObj_map hb',hc,g2,Result.andThen,g1]
theorem rd1_L {α:Type} {f:α→Value} {mt et:TypeId} (h:ML ω w t g al) (hm:Tryz.prog.underlying mt=some (.map 93 et)) {z:Value} (hz:∀ w,(zeroValue et).run Tryz.prog w=.ok z w) {s:L2} (hs:sml s) {K:α→Prop} {a:α}
  (e:(getL s al).getD z=f a) (hK:K a):G.rd1 Tryz.prog (Instr.lookup mt (.map (some g)) (lbV s) false) f w K :=
 ⟨a,fun d=>by rw [run_look_L h hm hz hs false d,e];rfl,hK⟩
theorem mkL {P:Program} {mt:TypeId} (t:Nat) {K:Option Nat→World→Prop} (hK:∀ g ω' w',Stp Non ω ω' w w'→ML ω' w' t g []→K (some g) w'):G.runM P (Instr.makeMap mt none) w K :=
 ⟨some w.heap.size,_,run_makeMap_plain w mt,hK w.heap.size (ext ω w.heap.size t) _ ((Keep.alloc w _).stp ω t) ⟨⟨#[],0,World.alloc_heap_new w _,MapKept.stamped_empty 0,rfl⟩,ext_new (Nat.le_refl _),by simp⟩⟩
theorem find_born:∀ {l:List MapEntry} {j:Nat} {e0:MapEntry},(l.map (·.born)).Nodup→l[j]?=some e0→l.findIdx? (fun e=>((e.born:Nat):Int)==((e0.born:Nat):Int))=some j
 | [],j,e0,_,h=>by simp at h
 | a::l,0,e0,_,h=>by simp at h;subst h;simp [List.findIdx?_cons]
 | a::l,j+1,e0,hn,h=>by
  rw [List.map_cons,List.nodup_cons] at hn
  simp only [List.getElem?_cons_succ] at h
  have hne:a.born≠e0.born:=fun e1=>hn.1 (List.mem_map.2 ⟨e0,List.mem_of_getElem? h,e1.symm⟩)
  have hb:(((a.born:Nat):Int)==((e0.born:Nat):Int))=false:=by
   simp only [beq_eq_false_iff_ne,ne_eq,Int.natCast_inj]
   exact hne
  rw [List.findIdx?_cons,hb]
  simp [find_born hn.2 h]
theorem entL {mt et:TypeId} (h:ML ω w t g al) (hm:Tryz.prog.underlying mt=some (.map 93 et)) (hz:∀ w,(zeroValue et).run Tryz.prog w=.ok nilS.v w) {s:L2} (hs:sml s) {x:Sl} (ex:(getL s al).getD nilS.v=x.v) {K:Sl→Int→World→Prop}
  (hK:∀ n ω1 w1,Stp (One t) ω ω1 w w1→(∀ ω2 w2 T,Stp T ω1 ω2 w1 w2→T t=false→∀ (v:Value) (Z:World→Prop),(∀ ω3 w3,Stp (One t) ω2 ω3 w2 w3→ML ω3 w3 t g (updL s v al)→Z w3)→G.runU Tryz.prog (Instr.entryStore mt (.map (some g)) (.int .i64 n) v) w2 Z)→K x n w1) :
  G.runE Tryz.prog (Instr.mapEntry mt (.map (some g)) (lbV s)) w K:=by
 obtain ⟨es,clock,hb,st,he⟩:=h.ex
 obtain ⟨l,hl⟩:=keyOf_lb hs
 have hc:=lawL.check w false hl
 obtain ⟨s1,s2,s3⟩:=(MapKept.stamped_iff es clock).1 st
 have hsmu:∀ v,∀ p∈updL s v al,sml p.1:=fun v p hp=>by
  have key:∀ (al:LL),(∀ p∈al,sml p.1)→p∈updL s v al→sml p.1:=by
   intro al
   induction al with
   | nil=>intro _ hp;simp only [updL,List.mem_singleton] at hp;subst hp;exact hs
   | cons q r ih =>
    intro ha hp
    obtain ⟨k,y⟩:=q
    rw [updL] at hp
    split at hp
    ·rcases List.mem_cons.1 hp with rfl | hp
     ·exact hs
     ·exact ha _ (List.mem_cons_of_mem _ hp)
    ·rcases List.mem_cons.1 hp with rfl | hp
     ·exact ha _ (List.mem_cons_self ..)
     ·exact ih (fun q hq=>ha q (List.mem_cons_of_mem _ hq)) hp
  exact key al h.sm hp
 -- writing back
 have back:∀ (es1:Array MapEntry) (clock1:Nat) (j:Nat) (e0:MapEntry) (w1:World),MapKept.Stamped es1 clock1→es1.toList[j]?=some e0→w1.heap[g]?=some (.map es1 clock1)→e0.key=lbV s →
   (∀ v,(es1.toList.map (fun e=>(e.key,e.val))).set j (lbV s,v)=(updL s v al).map encL)→Stp (One t) ω ω w w1 →
   ∀ ω2 w2 T,Stp T ω ω2 w1 w2→T t=false→∀ (v:Value) (Z:World→Prop),(∀ ω3 w3,Stp (One t) ω2 ω3 w2 w3→ML ω3 w3 t g (updL s v al)→Z w3)→G.runU Tryz.prog (Instr.entryStore mt (.map (some g)) (.int .i64 (e0.born:Int)) v) w2 Z:=by
  intro es1 clock1 j e0 w1 st1 hj hb1 hk hset _ ω2 w2 T k2 hT v Z hZ
  have hb2:w2.heap[g]?=some (.map es1 clock1):=by rw [k2.block g (heap_lt hb1) (by rw [h.tag];exact hT)];exact hb1
  have htag:ω2 g=t:=(k2.same g (heap_lt hb1)).trans h.tag
  have hjs:es1[j]?=some e0:=by simpa using hj
  have hidx:es1.findIdx? (fun e=>((e.born:Nat):Int)==((e0.born:Nat):Int))=some j:=by
   have:es1.findIdx? (fun e=>((e.born:Nat):Int)==((e0.born:Nat):Int))=es1.toList.findIdx? (fun e=>((e.born:Nat):Int)==((e0.born:Nat):Int)):=by cases es1;simp
   rw [this];exact find_born ((MapKept.stamped_iff es1 clock1).1 st1).2.1 hj
  refine ⟨w2.putObj g (.map (es1.modify j fun e=>{ e with val:=v }) clock1),?_,hZ ω2 _ (put_stp' htag) ⟨⟨_,_,World.putObj_heap_same (heap_lt hb2),MapKept.stamped_modify st1 _ _ (fun _ _=>rfl) (fun e'' _ _=>rfl),?_⟩,htag,hsmu v⟩⟩
  ·simp [Instr.entryStore,MapKept.run_getObj_map hb2,asInt,asIntOf,hidx,MapKept.run_setObj_map _ hb2,Result.andThen,World.putObj]
  ·rw [← hset v,Array.toList_modify]
   apply List.ext_getElem?
   intro i
   simp only [List.getElem?_map,List.getElem?_modify,List.getElem?_set]
   by_cases e:j=i
   ·subst e
    have hlt:j<es1.toList.length:=(List.getElem?_eq_some_iff.1 hj).1
    have hlt':j<es1.size:=by simpa using hlt
    have hge:es1[j]=e0:=by have:=Array.getElem?_eq_getElem hlt';rw [hjs] at this;exact (Option.some.inj this).symm
    simp [hge,hk,hlt']
   ·simp [e]
 rcases find_L hs st he h.sm w with ⟨g1,g2,g3,g4⟩ | ⟨j,e',v',g1,g2,g3,g4,g5,g6⟩
 ·rw [g1] at ex
  have st1:MapKept.Stamped (es.push { key:=lbV s,val:=nilS.v,born:=clock }) (clock+1):=MapKept.stamped_push st fun x hx hxe=>g3 x hx hxe
  have hb1:(w.putObj g (.map (es.push { key:=lbV s,val:=nilS.v,born:=clock }) (clock+1))).heap[g]?=some (.map (es.push { key:=lbV s,val:=nilS.v,born:=clock }) (clock+1)):=World.putObj_heap_same (heap_lt hb)
  have ex':x.v=nilS.v:=ex.symm
  refine ⟨x,(clock:Int),w.putObj g (.map (es.push { key:=lbV s,val:=nilS.v,born:=clock }) (clock+1)),?_,hK (clock:Int) ω _ (put_stp' h.tag) (back _ _ es.size { key:=lbV s,val:=nilS.v,born:=clock } _ st1 ?_ hb1 rfl (fun v=>?_) (put_stp' h.tag))⟩
  ·rw [ex']
   simp [Instr.mapEntry,run_underlying hm,MapKept.run_getObj_map hb,hc,g2,hz,MapKept.run_setObj_map _ hb,Result.andThen,World.putObj,goInt]
  ·rw [Array.toList_push,List.getElem?_append_right (by simp)];simp
  ·rw [Array.toList_push,List.map_append,he,g4 v,List.map_append]
   have hl:(al.map encL).length=es.size:=by rw [← he];simp
   rw [List.set_append_right _ _ (by omega),hl,Nat.sub_self]
   rfl
 ·rw [g1] at ex
  have ex':v'=x.v:=ex
  have hj:es[j]?=some e':=by simpa using g3
  have hsame:(es.modify j fun e=>{ e with key:=lbV s })=es:=by
   apply Array.ext'
   rw [Array.toList_modify]
   apply List.ext_getElem?
   intro i
   rw [List.getElem?_modify]
   by_cases e:j=i
   ·subst e
    rw [g3]
    simp [← g4]
   ·simp [e]
  refine ⟨x,(e'.born:Int),w.putObj g (.map es clock),?_,hK (e'.born:Int) ω _ (put_stp' h.tag) (back es clock j e' _ st g3 (World.putObj_heap_same (heap_lt hb)) g4 (fun v=>?_) (put_stp' h.tag))⟩
  ·rw [← ex']
   simp [Instr.mapEntry,run_underlying hm,MapKept.run_getObj_map hb,hc,g2,hj,g4,lawL.stays w hl,hsame,MapKept.run_setObj_map _ hb,Result.andThen,World.putObj,goInt]
  ·rw [he,← g6 v,List.map_set];rfl
end Go.Proofs.YtmfgmcajelmgbaaGreatDoor.Mem

namespace Go.Proofs.YtmfgmcajelmgbaaGreatDoor.Mem
open Go Vm Go.RowKit Num
variable {ω ω' ω'' ωl : Tg} {w w' w'' : World} {t u g : Nat} {T : Nat → Bool} {e : TypeId} {sz : Nat} {s : Sl} {xs : List Value}
def rtg (ω ωl:Tg) (n:Nat) (f:Nat→Nat):Tg:=fun k=>if k<n then ω k else f (ωl k)
theorem rtg_new {n:Nat} {f:Nat→Nat} {k v:Nat} (h:n≤k) (hv:ωl k=v):rtg ω ωl n f k=f v:=by unfold rtg;rw [if_neg (by omega),hv]
theorem rtg_stp (k:Keep w w') (ω ωl:Tg) (f:Nat→Nat):Stp Non ω (rtg ω ωl w.heap.size f) w w':=⟨k.os,k.tape,k.output,k.size,fun i hi=>by unfold rtg;rw [if_pos hi],fun i hi _=>k.block i hi⟩
theorem Top.ge {v:Nat} (top:Top w ω' w') {k:Nat} (h:ω' k=v) (hv:v≠0):w.heap.size≤k:=by
 rcases Nat.lt_or_ge k w.heap.size with hlt | hge
 ·rw [top.z k hlt] at h;exact absurd h.symm hv
 ·exact hge
theorem BT.rtg {cs:List Value} (h:BT ωl w' u g e cs) (top:Top w ωl w') (f:Nat→Nat) (hu:u≠0:=by decide):BT (rtg ω ωl w.heap.size f) w' (f u) g e cs:=⟨h.blk,rtg_new (top.ge h.tag hu) h.tag⟩
theorem OT.rtg (h:OT ωl w' u e sz s xs) (top:Top w ωl w') (f:Nat→Nat) (hu:u≠0:=by decide):OT (rtg ω ωl w.heap.size f) w' (f u) e sz s xs:=⟨h.own,fun k hk=>rtg_new (top.ge (h.tag k hk) hu) (h.tag k hk)⟩
theorem RT.rtg (h:RT ωl w' u s sz xs) (top:Top w ωl w') (f:Nat→Nat) (hu:u≠0:=by decide):RT (rtg ω ωl w.heap.size f) w' (f u) s sz xs:=⟨h.rd,fun g o ha hne=>rtg_new (top.ge (h.tag g o ha hne) hu) (h.tag g o ha hne)⟩
theorem MV.rtg {al:AL} (h:MV ωl w' u g al) (top:Top w ωl w') (f:Nat→Nat) (hu:u≠0:=by decide):MV (rtg ω ωl w.heap.size f) w' (f u) g al:=⟨h.ex,rtg_new (top.ge h.tag hu) h.tag⟩
end Go.Proofs.YtmfgmcajelmgbaaGreatDoor.Mem
