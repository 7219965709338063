/- (several texts in one: BitL,VintZ,ChunkS,BitR,ChunkP,ChunkV,ChunkA,ChunkB,ChunkD,ChunkE,ChunkF,VintY,ChunkE4,ChunkU,Seq,ChunkE5,ChunkC,ChunkR,Rep,ChunkK,ChunkJ,ChunkJ2,Crc,RowsO) Own work. -/
import Derived.Test.YtmfgmcajelmgbaaGreatDoorPC4
namespace Go.Proofs.YtmfgmcajelmgbaaGreatDoor.Bits
open Go Vm Go.RowKit Num Mem
theorem bitLenAux_le:∀ f x,Lib.bitLenAux f x≤f
 | 0,_=>Nat.le_refl _
 | f+1,x=>by
  simp only [Lib.bitLenAux]
  split
  ·omega
  ·have:=bitLenAux_le f (x / 2);omega
theorem bitLenAux_lt:∀ f x,x<2 ^ f→x<2 ^ Lib.bitLenAux f x
 | 0,x,h=>by simpa [Lib.bitLenAux] using h
 | f+1,x,h=>by
  simp only [Lib.bitLenAux]
  split
  ·simp;omega
  ·have:=bitLenAux_lt f (x / 2) (by rw [Nat.pow_succ] at h;omega)
   rw [Nat.pow_add];omega
theorem bitLenAux_ge:∀ f x k,x<2 ^ f→2 ^ k≤x→k<Lib.bitLenAux f x
 | 0,x,k,h,hk=>by
  have:0<2 ^ k:=Nat.pow_pos (by decide)
  simp at h;omega
 | f+1,x,k,h,hk=>by
  have hp:0<2 ^ k:=Nat.pow_pos (by decide)
  simp only [Lib.bitLenAux]
  rw [if_neg (by omega)]
  cases k with
  | zero=>omega
  | succ k =>
   have:=bitLenAux_ge f (x / 2) k (by rw [Nat.pow_succ] at h;omega) (by rw [Nat.pow_succ] at hk;omega)
   omega
theorem bitLen_le (x:Nat):Lib.bitLen x≤64:=bitLenAux_le 64 x
theorem bitLen_lt {x:Nat} (h:x<18446744073709551616):x<2 ^ Lib.bitLen x:=bitLenAux_lt 64 x h
theorem bitLen_ge {x k:Nat} (h:x<18446744073709551616) (hk:2 ^ k≤x):k<Lib.bitLen x:=bitLenAux_ge 64 x k h hk
theorem trail_spec {x:Nat} (h:x<18446744073709551616) (h0:x≠0):∃ m,x=2 ^ trail x*(2*m+1)∧trail x<64:=by
 unfold trail Lib.ctz
 rw [if_neg h0]
 exact Lib.ctzFrom_spec 64 x (by omega) h
theorem lead_trail {x:Nat} (h:x<18446744073709551616) (h0:x≠0):lead x+trail x≤63:=by
 obtain ⟨m,hm,hk⟩:=trail_spec h h0
 have h1:2 ^ trail x≤x:=by
  conv=>rhs;rw [hm]
  exact Nat.le_mul_of_pos_right _ (by omega)
 have:=bitLen_ge h h1
 have:=bitLen_le x
 unfold lead;omega
theorem lead_le (x:Nat):lead x≤31:=by unfold lead;omega
theorem lt_lead {x a:Nat} (h:x<18446744073709551616) (ha:a≤lead x):x<2 ^ (64-a):=by
 have h1:=bitLen_lt h
 have:=bitLen_le x
 refine Nat.lt_of_lt_of_le h1 (Nat.pow_le_pow_right (by decide) ?_)
 unfold lead at ha;omega
theorem mid_lt {x a b:Nat} (h:x<18446744073709551616) (ha:a≤lead x) (hab:a+b≤64):x / 2 ^ b<2 ^ (64-a-b):=by
 have h1:=lt_lead h ha
 refine Nat.div_lt_of_lt_mul ?_
 rw [← Nat.pow_add,show b+(64-a-b)=64-a by omega]
 exact h1
theorem mul_div_trail {x b:Nat} (h:x<18446744073709551616) (h0:x≠0) (hb:b≤trail x):x / 2 ^ b*2 ^ b=x:=by
 obtain ⟨m,hm,hk⟩:=trail_spec h h0
 refine Nat.div_mul_cancel ?_
 conv=>rhs;rw [hm]
 exact Nat.dvd_trans (Nat.pow_dvd_pow 2 hb) (Nat.dvd_mul_right _ _)
def len8s:ByteArray:=⟨#[0,1,2,2,3,3,3,3,4,4,4,4,4,4,4,4,5,5,5,5,5,5,5,5,5,5,5,5,5,5,5,5,6,6,6,6,6,6,6,6,6,6,6,6,6,6,6,6,6,6,6,6,6,6,6,6,6,6,6,6,6,6,6,6,7,7,7,7,7,7,7,7,7,7,7,7,7,7,7,7,7,7,7,7,7,7,7,7,7,7,7,7,7,7,7,7,7,7,7,7,7,7,7,7,7,7,7,7,7,7,7,7,7,7,7,7,7,7,7,7,7,7,7,7,7,7,7,7,8,8,8,8,8,8,8,8,8,8,8,8,8,8,8,8,8,8,8,8,8,8,8,8,8,8,8,8,8,8,8,8,8,8,8,8,8,8,8,8,8,8,8,8,8,8,8,8,8,8,8,8,8,8,8,8,8,8,8,8,8,8,8,8,8,8,8,8,8,8,8,8,8,8,8,8,8,8,8,8,8,8,8,8,8,8,8,8,8,8,8,8,8,8,8,8,8,8,8,8,8,8,8,8,8,8,8,8,8,8,8,8,8,8,8,8,8,8,8,8,8,8,8,8,8,8,8,8]⟩
theorem len8s_at:∀ n:Fin 256,len8s[n.val]?=some (UInt8.ofNat (Lib.bitLen n.val)):=by decide +kernel
theorem ixs_len {n:Nat} (hn:n<256) {i:Int} (hi:i=(n:Int)) {K:Int→Prop} (hK:K ((Lib.bitLen n:Nat):Int)):G.ixS len8s i K:=by
 subst hi
 refine ⟨UInt8.ofNat (Lib.bitLen n),by omega,len8s_at ⟨n,hn⟩,?_⟩
 have:=Lib.bitLen_le8 ⟨n,hn⟩
 rw [UInt8.toNat_ofNat',Nat.mod_eq_of_lt (by simp only at this;omega)]
 exact hK
theorem shr64 {x k:Nat} (hk:k≤64):shr .u64 (x:Int) (k:Int)=((x / 2 ^ k:Nat):Int):=by
 have e:=shr_nat .u64 (x:Int) k (by simp only [IntKind.bits];omega)
 rw [e];simp
theorem len64_ok {x:Nat} (h:x<18446744073709551616) {w:World} {K:Int→World→Prop} (hK:K ((Lib.bitLen x:Nat):Int) w):C.bits_Len64 (x:Int) w K:=by
 have hb:=bitLen_le x
 have s2:∀ (y n:Nat),y<65536→n+Lib.bitLen y=Lib.bitLen x→C.bits_Len64.S2 K (y:Int) (n:Int) w:=by
  intro y n hy hn
  unfold C.bits_Len64.S2
  refine cond_d (fun h1=>⟨by decide,?_⟩) (fun h1=>?_)
  ·have e:shr .u64 (y:Int) (8:Int)=((y / 2 ^ 8:Nat):Int):=shr64 (k:=8) (by decide)
   rw [e]
   have h8:=Lib.bitLen_shift 8 y (by omega) (by omega)
   refine ixs_len (n:=y / 2 ^ 8) (by omega) (by rw [wU8_id (by omega) (by omega)]) ?_
   rw [wI64 (x:=(n:Int)+8) (by omega) (by omega),wI64 (x:=((Lib.bitLen _:Nat):Int)) (by omega) (by omega),wI64 (by omega) (by omega),show (n:Int)+8+((Lib.bitLen (y / 2 ^ 8):Nat):Int)=((Lib.bitLen x:Nat):Int) by omega]
   exact hK
  ·refine ixs_len (n:=y) (by omega) (by rw [wU8_id (by omega) (by omega)]) ?_
   rw [wI64 (x:=((Lib.bitLen _:Nat):Int)) (by omega) (by omega),wI64 (by omega) (by omega),show (n:Int)+((Lib.bitLen y:Nat):Int)=((Lib.bitLen x:Nat):Int) by omega]
   exact hK
 have s3:∀ (y n:Nat),y<4294967296→n+Lib.bitLen y=Lib.bitLen x→C.bits_Len64.S3 K (y:Int) (n:Int) w:=by
  intro y n hy hn
  unfold C.bits_Len64.S3
  refine cond_d (fun h1=>⟨by decide,?_⟩) (fun h1=>s2 y n (by omega) hn)
  have e:shr .u64 (y:Int) (16:Int)=((y / 2 ^ 16:Nat):Int):=shr64 (k:=16) (by decide)
  have h8:=Lib.bitLen_shift 16 y (by omega) (by omega)
  rw [e,wI64 (by omega) (by omega),show (n:Int)+16=((n+16:Nat):Int) by omega]
  exact s2 _ _ (by omega) (by omega)
 unfold C.bits_Len64
 refine cond_d (fun h1=>⟨by decide,?_⟩) (fun h1=>s3 x 0 (by omega) (by omega))
 have e:shr .u64 (x:Int) (32:Int)=((x / 2 ^ 32:Nat):Int):=shr64 (k:=32) (by decide)
 have h8:=Lib.bitLen_shift 32 x (by omega) (by omega)
 rw [e]
 exact s3 _ 32 (by omega) (by omega)
theorem leading_ok {x:Nat} (h:x<18446744073709551616) {w:World} {K:Int→World→Prop} (hK:K ((64-Lib.bitLen x:Nat):Int) w):C.bits_LeadingZeros64 (x:Int) w K:=by
 have hb:=bitLen_le x
 unfold C.bits_LeadingZeros64
 refine len64_ok h ?_
 rw [wI64 (by omega) (by omega),show (64:Int)-((Lib.bitLen x:Nat):Int)=((64-Lib.bitLen x:Nat):Int) by omega]
 exact hK
def DTab (w:World):Prop:=∀ j,j<64→w.cell? ⟨5,j,none⟩=some (.int .u8 ((Lib.deBruijn64tab.getD j 0:Nat):Int))
theorem DTab.keep {w w':World} (h:DTab w) (k:Keep w w'):DTab w':=fun i hi=>k.cell (h i hi)
theorem DTab.top {w0 w:World} {ω:Tg} (h:DTab w0) (k:Top w0 ω w):DTab w:=h.keep k.k
theorem trailing_ok {x:Nat} (h:x<18446744073709551616) (h0:x≠0) {w:World} (ht:DTab w) {K:Int→World→Prop} (hK:K ((trail x:Nat):Int) w):C.bits_TrailingZeros64 (x:Int) w K:=by
 unfold C.bits_TrailingZeros64
 refine cond_f (by simp;omega) ⟨by decide,?_⟩
 obtain ⟨hlow,hk⟩:=Lib.lowest_bit 64 x h0 h
 obtain ⟨hi,htab⟩:=Lib.deBruijn64_at _ hk
 have e1:IntKind.u64.wrap (0-(x:Int))=((18446744073709551616-x:Nat):Int):=by rw [wU64];omega
 rw [e1,bits_and rfl (by simp only [IntKind.bits];omega) (by simp only [IntKind.bits];omega),show x &&& (18446744073709551616-x)=x &&& (2 ^ 64-x) from rfl,hlow]
 have e2:IntKind.u64.wrap (((2 ^ Lib.ctz 64 x:Nat):Int)*285870213051353865)=((2 ^ Lib.ctz 64 x*285870213051353865 % 18446744073709551616:Nat):Int):=by rw [wU64];omega
 rw [e2,show (58:Int)=((58:Nat):Int) from rfl,shr64 (by decide),show (2:Nat) ^ 58=288230376151711744 from rfl]
 generalize 2 ^ Lib.ctz 64 x*285870213051353865 % 18446744073709551616 / 288230376151711744=j at *
 refine ⟨⟨by omega,by omega⟩,cI_at (n:=((trail x:Nat):Int)) ?_ ?_⟩
 ·rw [addr_add,Int.toNat_natCast,Nat.mul_one,Nat.zero_add,ht j hi,htab];rfl
 ·have:trail x<64:=hk
  rw [wI64 (by omega) (by omega)]
  exact hK
theorem mask_ok {n:Nat} (hn:n≤64) {w:World} {K:Int→World→Prop} (hK:K ((2 ^ n-1:Nat):Int) w):C.chunk_mask (n:Int) w K:=by
 unfold C.chunk_mask
 refine cond_d (fun h=>?_) (fun h=>⟨by rw [wU64_id (by omega) (by omega)];omega,?_⟩)
 ·rw [show n=64 by omega] at hK;exact hK
 ·have hp:2 ^ n≤2 ^ 63:=Nat.pow_le_pow_right (by decide) (by omega)
  have hp0:0<2 ^ n:=Nat.pow_pos (by decide)
  have e:=shl_nat .u64 (1:Int) n (by simp only [IntKind.bits];omega)
  rw [show (1:Int)*2 ^ n=((2 ^ n:Nat):Int) by simp,wU64_id (by omega) (by omega)] at e
  rw [wU64_id (x:=(n:Int)) (by omega) (by omega),e,show ((2 ^ n:Nat):Int)-1=((2 ^ n-1:Nat):Int) by omega,wU64_id (by omega) (by omega)]
  exact hK
theorem and_mask {x n:Nat} (hx:x<2 ^ n) (hn:n≤64):Go.bits .and .u64 (x:Int) ((2 ^ n-1:Nat):Int)=(x:Int):=by
 have h1:2 ^ n≤2 ^ 64:=Nat.pow_le_pow_right (by decide) hn
 rw [bits_and rfl (by simp only [IntKind.bits];omega) (by simp only [IntKind.bits];omega),Nat.and_two_pow_sub_one_eq_mod,Nat.mod_eq_of_lt hx]
end Go.Proofs.YtmfgmcajelmgbaaGreatDoor.Bits

namespace Go.Proofs.YtmfgmcajelmgbaaGreatDoor.Vint
open Go Vm Go.RowKit Num Mem
def zz (n:Int):Nat:=if 0≤n then (2*n).toNat else (-2*n-1).toNat
def bk (u:Nat):Int:=if u % 2=0 then ((u / 2:Nat):Int) else -((u / 2:Nat):Int)-1
theorem bk_zz (n:Int):bk (zz n)=n:=by
 unfold bk zz
 split<;>split<;>omega
theorem zz_lt {n:Int} (h1:-9223372036854775808≤n) (h2:n<9223372036854775808):zz n<18446744073709551616:=by
 unfold zz;split<;>omega
theorem xor_all (x:Nat) (hx:x<18446744073709551616):x ^^^ 18446744073709551615=18446744073709551615-x:=by
 have h:=BitVec.xor_allOnes (x:=BitVec.ofNat 64 x)
 have:=congrArg BitVec.toNat h
 rw [BitVec.toNat_xor,BitVec.toNat_not,BitVec.toNat_ofNat,BitVec.toNat_allOnes,Nat.mod_eq_of_lt (by omega)] at this
 exact this
theorem zig (n:Int) (h1:-9223372036854775808≤n) (h2:n<9223372036854775808) :
  Go.bits .xor .u64 (shl .u64 (IntKind.u64.wrap n) (1:Int)) (IntKind.u64.wrap (shr .i64 n (63:Int)))=((zz n:Nat):Int):=by
 have e1:=shl_nat .u64 (IntKind.u64.wrap n) 1 (by decide)
 have e2:=shr_nat .i64 n 63 (by decide)
 rw [show ((1:Nat):Int)=(1:Int) from rfl] at e1
 rw [show ((63:Nat):Int)=(63:Int) from rfl] at e2
 rw [e1,e2]
 by_cases h:0≤n
 ·rw [show n / 2 ^ 63=((0:Nat):Int) by omega,wU64_id (x:=((0:Nat):Int)) (by decide) (by decide),wU64_id (x:=n) h (by omega),
   show n*2 ^ 1=(((2*n).toNat:Nat):Int) by omega,wU64_id (by omega) (by omega),bits_xor rfl (by simp only [IntKind.bits];omega) (by decide),Nat.xor_zero]
  unfold zz
  rw [if_pos h]
 ·have ew:IntKind.u64.wrap (IntKind.u64.wrap n*2 ^ 1)=(((2*n+18446744073709551616).toNat:Nat):Int):=by
   rw [wU64,wU64];omega
  have es:IntKind.u64.wrap (n / 2 ^ 63)=((18446744073709551615:Nat):Int):=by rw [wU64];omega
  rw [ew,es,bits_xor rfl (by simp only [IntKind.bits];omega) (by decide),xor_all _ (by omega)]
  unfold zz
  rw [if_neg h]
  omega
theorem putI_ok {w0:World} {b:Sl} {l:List UInt8} {n:Int} (h1:-9223372036854775808≤n) (h2:n<9223372036854775808) (hb:RdB w0 b l) (hl:l.length≤140737488355300) {K:Sl→World→Prop}
  (hK:∀ r w',Keep w0 w'→OwnB w' w0.heap.size r (l++putU (zz n))→K r w'):C.vint_PutI b n w0 K:=by
 unfold C.vint_PutI
 refine ⟨by decide,by decide,?_⟩
 rw [zig n h1 h2]
 exact putU_ok (zz_lt h1 h2) hb hl hK
theorem rputI_ok {w0:World} {b:Sl} {l:List UInt8} {n:Int} (h1:-9223372036854775808≤n) (h2:n<9223372036854775808) (hb:RdB w0 b l) (hl:l.length≤140737488355300) {K:Sl→World→Prop}
  (hK:∀ r w',Keep w0 w'→OwnB w' w0.heap.size r (l++putU (zz n))→K r w'):C.tocsinref01_PutI b n w0 K:=by
 have hz:=zz_lt h1 h2
 unfold C.tocsinref01_PutI C.tocsinref01_turn
 have fin:=rputU_ok hz hb hl hK
 refine cond_d (fun h=>?_) (fun h=>?_)
 ·rw [show IntKind.u64.wrap ((2:Int)*(IntKind.u64.wrap n))=((zz n:Nat):Int) by unfold zz;rw [if_pos (by omega),wU64,wU64];omega]
  exact fin
 ·rw [wI64 (x:=n+1) (by omega) (by omega),wI64 (by omega) (by omega),
   show IntKind.u64.wrap ((IntKind.u64.wrap ((2:Int)*(IntKind.u64.wrap (0-(n+1)))))+(1:Int))=((zz n:Nat):Int) by unfold zz;rw [if_neg (by omega),wU64,wU64,wU64];omega]
  exact fin
end Go.Proofs.YtmfgmcajelmgbaaGreatDoor.Vint

namespace Go.Proofs.YtmfgmcajelmgbaaGreatDoor.Chunk
open Go Vm Go.RowKit Num Mem Bits Vint
abbrev Smp:=Int × Nat
abbrev Win:=Option (Nat × Nat)
def tform (d:Int):List Bool :=
 if d=0 then low 0 1 else if fitsB d 14 then low 2 2++low (lowN d 14) 14 else if fitsB d 17 then low 6 3++low (lowN d 17) 17
 else if fitsB d 20 then low 14 4++low (lowN d 20) 20 else low 15 4++low (uN d) 64
def holdsW (wn:Win) (x:Nat):Bool:=match wn with | some (a,b)=>decide (a≤lead x)&&decide (b≤trail x) | none=>false
def vform (wn:Win) (x:Nat):List Bool × Win :=
 if x=0 then (low 0 1,wn)
 else if holdsW wn x then match wn with
  | some (a,b)=>(low 1 1++low 0 1++low (x / 2 ^ b) (64-a-b),wn)
  | none=>([],wn)
 else (low 1 1++low 1 1++low (lead x) 5++low ((64-lead x-trail x) % 64) 6++low (x / 2 ^ trail x) (64-lead x-trail x),some (lead x,trail x))
def byteBits (l:List UInt8):List Bool:=l.flatMap fun c=>low c.toNat 8
def emit (l:List Smp) (wn:Win) (s:Smp):List Bool × Win :=
 match l.reverse with
 | []=>(byteBits (putU (zz s.1))++low s.2 64,wn)
 | [a]=>(byteBits (putU (uN (s.1-a.1)))++(vform wn (s.2 ^^^ a.2)).1,(vform wn (s.2 ^^^ a.2)).2)
 | b::a::_=>(tform (s.1-b.1-(b.1-a.1))++(vform wn (s.2 ^^^ b.2)).1,(vform wn (s.2 ^^^ b.2)).2)
def go:List Smp→List Bool→Win→List Smp→List Bool × Win
 | _,bs,wn,[]=>(bs,wn)
 | pre,bs,wn,s::r=>go (pre++[s]) (bs++(emit pre wn s).1) (emit pre wn s).2 r
def run (l:List Smp):List Bool × Win:=go [] [] none l
theorem go_app:∀ (x y pre:List Smp) (bs:List Bool) (wn:Win),go pre bs wn (x++y)=go (pre++x) (go pre bs wn x).1 (go pre bs wn x).2 y
 | [],y,pre,bs,wn=>by simp [go]
 | s::x,y,pre,bs,wn=>by
  simp only [List.cons_append,go]
  rw [go_app x y];simp
theorem run_snoc (l:List Smp) (s:Smp):run (l++[s])=((run l).1++(emit l (run l).2 s).1,(emit l (run l).2 s).2):=by
 unfold run
 rw [go_app]
 simp [go]
def enc (l:List Smp):List UInt8:=UInt8.ofNat (l.length / 256)::UInt8.ofNat (l.length % 256)::pk (run l).1
def late (l:List Smp) (t:Int):Bool:=match l.getLast? with | some a=>decide (t≤a.1) | none=>false
def wrong (l:List Smp) (t:Int):Int :=
 if t<0∨t > 1125899906842624 then 1 else if late l t then 90 else if l.length ≥ 120 then 8 else 0
inductive Valid:List Smp→Prop
 | nil:Valid []
 | snoc {l:List Smp} {s:Smp}:Valid l→wrong l s.1=0→s.2<18446744073709551616→Valid (l++[s])
theorem wrong_zero {l:List Smp} {t:Int} (h:wrong l t=0):0≤t∧t≤1125899906842624∧l.length<120∧∀ a,l.getLast?=some a→a.1<t:=by
 unfold wrong at h
 by_cases h1:t<0∨t > 1125899906842624
 ·rw [if_pos h1] at h;exact absurd h (by decide)
 rw [if_neg h1] at h
 by_cases h2:late l t=true
 ·rw [if_pos h2] at h;exact absurd h (by decide)
 rw [if_neg h2] at h
 by_cases h3:l.length ≥ 120
 ·rw [if_pos h3] at h;exact absurd h (by decide)
 refine ⟨by omega,by omega,by omega,fun a ha=>?_⟩
 unfold late at h2
 rw [ha] at h2
 simp only [decide_eq_true_eq] at h2
 omega
theorem Valid.len {l:List Smp} (h:Valid l):l.length≤120:=by
 cases h with
 | nil=>decide
 | snoc h1 h2 _=>have:=wrong_zero h2;simp;omega
theorem Valid.mem {l:List Smp} (h:Valid l):∀ s∈l,0≤s.1∧s.1≤1125899906842624∧s.2<18446744073709551616:=by
 induction h with
 | nil=>intro s hs;cases hs
 | snoc h1 h2 h3 ih =>
  intro s hs
  rcases List.mem_append.1 hs with hs | hs
  ·exact ih s hs
  ·simp only [List.mem_singleton] at hs
   subst hs
   have:=wrong_zero h2
   exact ⟨this.1,this.2.1,h3⟩
theorem byteBits_len (l:List UInt8):(byteBits l).length=8*l.length:=by
 induction l with
 | nil=>rfl
 | cons c l ih=>simp only [byteBits,List.flatMap_cons,List.length_append,low_len,List.length_cons] at *;omega
theorem tform_len (d:Int):(tform d).length≤68:=by
 unfold tform
 split
 ·simp [low_len]
 ·split
  ·simp [low_len]
  ·split
   ·simp [low_len]
   ·split<;>simp [low_len]
theorem vform_len (wn:Win) (x:Nat):(vform wn x).1.length≤77:=by
 unfold vform
 split
 ·simp [low_len]
 ·split
  ·split
   ·simp [low_len];omega
   ·simp
  ·simp [low_len];omega
theorem zz_lt50 {n:Int} (h0:0≤n) (h1:n≤1125899906842624):zz n<18446744073709551616:=by unfold zz;rw [if_pos h0];omega
theorem emit_len {l:List Smp} {wn:Win} {s:Smp} (h0:0≤s.1) (h1:s.1≤1125899906842624):(emit l wn s).1.length≤160:=by
 unfold emit
 split
 ·have:=putU_len64 (zz_lt50 h0 h1)
  simp only [List.length_append,byteBits_len,low_len];omega
 ·rename_i a _
  have:=putU_len64 (uN_lt (s.1-a.1))
  have:=vform_len wn (s.2 ^^^ a.2)
  simp only [List.length_append,byteBits_len];omega
 ·rename_i b a r _
  have:=tform_len (s.1-b.1-(b.1-a.1))
  have:=vform_len wn (s.2 ^^^ b.2)
  simp only [List.length_append];omega
theorem run_len {l:List Smp} (h:Valid l):(run l).1.length≤160*l.length:=by
 induction h with
 | nil=>simp [run,go]
 | snoc h1 h2 _ ih =>
  rename_i l s _
  have:=wrong_zero h2
  rw [run_snoc]
  have:=emit_len (l:=l) (wn:=(run l).2) this.1 this.2.1
  simp only [List.length_append,List.length_singleton];omega
def WinOk (wn:Win):Prop:=∀ a b,wn=some (a,b)→a≤31∧a+b≤63
theorem vform_ok {wn:Win} {x:Nat} (h:WinOk wn) (hx:x<18446744073709551616):WinOk (vform wn x).2:=by
 unfold vform
 split
 ·exact h
 ·rename_i h0
  split
  ·split
   ·exact h
   ·exact h
  ·intro a b e
   simp only [Option.some.injEq,Prod.mk.injEq] at e
   obtain ⟨rfl,rfl⟩:=e
   exact ⟨lead_le x,lead_trail hx h0⟩
theorem xor64_lt {a b:Nat} (ha:a<18446744073709551616) (hb:b<18446744073709551616):a ^^^ b<18446744073709551616:=Nat.xor_lt_two_pow (n:=64) ha hb
theorem emit_ok {l : List Smp} {wn : Win} {s : Smp} (h : WinOk wn) (hs : s.2 < 18446744073709551616) (hl : ∀ a ∈ l, a.2 < 18446744073709551616) : WinOk (emit l wn s).2 := by
  unfold emit
  split
  · exact h
  · rename_i a e
    have : a ∈ l := by have : a ∈ l.reverse := by rw [e]; simp
                       simpa using this
    exact vform_ok h (xor64_lt hs (hl a this))
  · rename_i b a r e
    have : b ∈ l := by have : b ∈ l.reverse := by rw [e]; simp
                       simpa using this
    exact vform_ok h (xor64_lt hs (hl b this))
theorem run_ok {l:List Smp} (h:Valid l):WinOk (run l).2:=by
 induction h with
 | nil=>intro a b e;cases e
 | snoc h1 h2 h3 ih=>rw [run_snoc];exact emit_ok ih h3 fun a ha=>(h1.mem a ha).2.2
def smpC (s:Smp):List Value:=[.int .i64 s.1,.float .f64 s.2]
def smps (l:List Smp):List Value:=l.flatMap smpC
theorem smps_app (a b:List Smp):smps (a++b)=smps a++smps b:=List.flatMap_append
theorem smps_len (l:List Smp):(smps l).length=l.length*2:=by
 induction l with
 | nil=>rfl
 | cons s l ih=>simp only [smps,List.flatMap_cons,List.length_append,List.length_cons] at *;simp [smpC] at *;omega
theorem smps_at:∀ (l:List Smp) (i:Nat) (s:Smp),l[i]?=some s→(smps l)[i*2+0]?=some (.int .i64 s.1)∧(smps l)[i*2+1]?=some (.float .f64 s.2)
 | [],i,s,h=>by simp at h
 | x::l,0,s,h=>by
  simp only [List.getElem?_cons_zero,Option.some.injEq] at h
  subst h
  exact ⟨rfl,rfl⟩
 | x::l,i+1,s,h=>by
  have ih:=smps_at l i s (by simpa using h)
  have e:smps (x::l)=.int .i64 x.1::.float .f64 x.2::smps l:=rfl
  rw [e,show (i+1)*2+0=(i*2+0)+1+1 by omega,show (i+1)*2+1=(i*2+1)+1+1 by omega]
  simpa using ih
theorem smps_one {l:List Smp}:∀ v∈smps l,v.oneCell'=true:=by
 intro v hv
 obtain ⟨s,_,hs⟩:=List.mem_flatMap.1 hv
 simp only [smpC,List.mem_cons,List.not_mem_nil,or_false] at hs
 rcases hs with rfl | rfl<;>rfl
end Go.Proofs.YtmfgmcajelmgbaaGreatDoor.Chunk

namespace Go.Proofs.YtmfgmcajelmgbaaGreatDoor.Bits
open Go Vm Go.RowKit Num Mem Chunk
theorem low_at (v:Nat):∀ (k j:Nat),j<k→(low v k)[j]?=some (bitOf v (k-1-j))
 | k+1,0,_=>by simp [low]
 | k+1,j+1,h=>by
  have:=low_at v k j (by omega)
  rw [low,List.getElem?_cons_succ,this,show k+1-1-(j+1)=k-1-j by omega]
theorem byteBits_at:∀ (l:List UInt8) (i j:Nat) (c:UInt8),j<8→l[i]?=some c→(byteBits l)[8*i+j]?=some (bitOf c.toNat (7-j))
 | [],i,j,c,_,h=>by simp at h
 | x::l,0,j,c,hj,h=>by
  simp only [List.getElem?_cons_zero,Option.some.injEq] at h
  subst h
  simp only [byteBits,List.flatMap_cons]
  rw [List.getElem?_append_left (by rw [low_len];omega),Nat.mul_zero,Nat.zero_add,low_at _ _ _ hj]
 | x::l,i+1,j,c,hj,h=>by
  have ih:=byteBits_at l i j c hj (by simpa using h)
  simp only [byteBits,List.flatMap_cons] at ih ⊢
  rw [List.getElem?_append_right (by rw [low_len];omega),low_len,show 8*(i+1)+j-8=8*i+j by omega]
  exact ih
theorem byteBits_app (a b:List UInt8):byteBits (a++b)=byteBits a++byteBits b:=List.flatMap_append
def b2n (b:Bool):Nat:=if b then 1 else 0
theorem bitOf_eq (v i:Nat):v / 2 ^ i % 2=b2n (bitOf v i):=by
 unfold bitOf b2n
 rcases Nat.mod_two_eq_zero_or_one (v / 2 ^ i) with h | h<;>rw [h]<;>rfl
theorem orBit_bits:∀ (c:Fin 256) (j j':Fin 8),bitOf (orBit (UInt8.ofNat c.val) j.val).toNat (7-j'.val)=(bitOf c.val (7-j'.val) || j.val==j'.val):=by decide +kernel
theorem byteBits_grow {bs:List Bool} {l:List UInt8} {m:Nat} (h:byteBits l=bs++List.replicate m false) (hl:l.length=(bs.length+7) / 8) :
  ∃ M,1≤M∧byteBits (grow l bs.length)=bs++List.replicate M false:=by
 have hlen:8*l.length=bs.length+m:=by
  have:=congrArg List.length h
  rw [byteBits_len,List.length_append,List.length_replicate] at this
  exact this
 unfold grow
 split
 ·refine ⟨8,by decide,?_⟩
  rw [byteBits_app,h,show m=0 by omega]
  simp only [List.replicate_zero,List.append_nil]
  congr 1
 ·exact ⟨m,by omega,h⟩
theorem byteBits_putB {bs:List Bool} {l:List UInt8} {m:Nat} (h:byteBits l=bs++List.replicate m false) (hl:l.length=(bs.length+7) / 8) (b:Bool) :
  ∃ m',byteBits (putB l bs.length b)=bs++[b]++List.replicate m' false:=by
 obtain ⟨M,hM,hg⟩:=byteBits_grow h hl
 have hgl:=grow_len hl
 unfold putB
 cases b with
 | false =>
  refine ⟨M-1,?_⟩
  rw [if_neg (by decide),hg,List.append_assoc]
  congr 1
  obtain ⟨k,rfl⟩:∃ k,M=k+1:=⟨M-1,by omega⟩
  rfl
 | true =>
  refine ⟨M-1,?_⟩
  rw [if_pos rfl]
  generalize grow l bs.length=L at *
  have hLen:8*L.length=bs.length+M:=by
   have:=congrArg List.length hg
   rw [byteBits_len,List.length_append,List.length_replicate] at this
   exact this
  have hi:bs.length / 8<L.length:=by omega
  have hc:L[bs.length / 8]?=some L[bs.length / 8]:=List.getElem?_eq_getElem hi
  have hd:L.getD (bs.length / 8) 0=L[bs.length / 8]:=by rw [List.getD_eq_getElem?_getD,hc];rfl
  rw [hd]
  refine List.ext_getElem? fun k=>?_
  by_cases hk:k<8*L.length
  ·have hki:k / 8<L.length:=by omega
   have hold:=byteBits_at L (k / 8) (k % 8) L[k / 8] (by omega) (List.getElem?_eq_getElem hki)
   rw [show 8*(k / 8)+k % 8=k by omega,hg] at hold
   have hnew:(byteBits (L.set (bs.length / 8) (orBit L[bs.length / 8] (bs.length % 8))))[k]?=some (bitOf (if bs.length / 8=k / 8 then orBit L[bs.length / 8] (bs.length % 8) else L[k / 8]).toNat (7-k % 8)):=by
    have:=byteBits_at (L.set (bs.length / 8) (orBit L[bs.length / 8] (bs.length % 8))) (k / 8) (k % 8) (if bs.length / 8=k / 8 then orBit L[bs.length / 8] (bs.length % 8) else L[k / 8]) (by omega) (by
     rw [List.getElem?_set]
     split
     ·rfl
     ·exact List.getElem?_eq_getElem hki)
    rwa [show 8*(k / 8)+k % 8=k by omega] at this
   rw [hnew]
   have hor:=orBit_bits ⟨L[bs.length / 8].toNat,L[bs.length / 8].toNat_lt⟩ ⟨bs.length % 8,by omega⟩ ⟨k % 8,by omega⟩
   simp only [UInt8.ofNat_toNat] at hor
   rcases Nat.lt_trichotomy k bs.length with h1 | h1 | h1
   ·rw [List.getElem?_append_left h1] at hold
    rw [List.append_assoc,List.getElem?_append_left h1,hold]
    split
    ·rename_i e
     rw [hor]
     have:¬ bs.length % 8=k % 8:=by omega
     simp [this,e]
    ·rfl
   ·subst h1
    rw [if_pos rfl,hor]
    simp
   ·rw [List.getElem?_append_right (by omega),List.getElem?_replicate,if_pos (by omega)] at hold
    have hl1:(bs++[true]).length=bs.length+1:=by simp
    have h2:(List.replicate (M-1) false)[k-(bs++[true]).length]?=some false:=by rw [List.getElem?_replicate];exact if_pos (by omega)
    rw [List.getElem?_append_right (by omega),h2,hold]
    split
    ·rename_i e
     rw [hor]
     have:¬ bs.length % 8=k % 8:=by omega
     simp [this,e]
    ·rfl
  ·rw [List.getElem?_eq_none (by rw [byteBits_len,List.length_set];omega),List.getElem?_eq_none (by simp;omega)]
theorem byteBits_pk (bs:List Bool):∃ m,byteBits (pk bs)=bs++List.replicate m false:=by
 have key:∀ (n:Nat) (bs:List Bool),bs.length=n→∃ m,byteBits (pk bs)=bs++List.replicate m false:=by
  intro n
  induction n with
  | zero=>intro bs h;rw [List.eq_nil_of_length_eq_zero h];exact ⟨0,rfl⟩
  | succ n ih =>
   intro bs h
   rcases List.eq_nil_or_concat bs with rfl | ⟨c,b,rfl⟩
   ·cases h
   ·rw [List.concat_eq_append] at *
    obtain ⟨m,hm⟩:=ih c (by simpa using h)
    rw [pk_app]
    exact byteBits_putB hm (pk_len c) b
 exact key _ bs rfl
def num (l:List Bool):Nat:=l.foldl (fun v b=>2*v+b2n b) 0
theorem num_snoc (l:List Bool) (b:Bool):num (l++[b])=2*num l+b2n b:=by unfold num;rw [List.foldl_append];rfl
theorem b2n_le (b:Bool):b2n b≤1:=by cases b<;>decide
theorem num_lt (l:List Bool):num l<2 ^ l.length:=by
 have key:∀ (n:Nat) (l:List Bool),l.length=n→num l<2 ^ n:=by
  intro n
  induction n with
  | zero=>intro l h;rw [List.eq_nil_of_length_eq_zero h];decide
  | succ n ih =>
   intro l h
   rcases List.eq_nil_or_concat l with rfl | ⟨c,b,rfl⟩
   ·cases h
   ·rw [List.concat_eq_append] at *
    have:=ih c (by simpa using h)
    have:=b2n_le b
    rw [num_snoc,Nat.pow_succ];omega
 exact key _ l rfl
theorem fold_low (v:Nat):∀ (k a:Nat),(low v k).foldl (fun v b=>2*v+b2n b) a=a*2 ^ k+v % 2 ^ k
 | 0,a=>by simp [low,Nat.mod_one]
 | k+1,a=>by
  rw [low,List.foldl_cons,fold_low v k,← bitOf_eq,Nat.mod_pow_succ,Nat.pow_succ,Nat.add_mul]
  rw [Nat.mul_comm 2 a,Nat.mul_assoc a 2,Nat.mul_comm 2 (2 ^ k),Nat.mul_comm (v / 2 ^ k % 2)]
  omega
theorem num_low {v k:Nat} (h:v<2 ^ k):num (low v k)=v:=by
 unfold num
 rw [fold_low,Nat.zero_mul,Nat.zero_add,Nat.mod_eq_of_lt h]
theorem take_low (v k:Nat) (tail:List Bool):(low v k++tail).take k=low v k∧(low v k++tail).drop k=tail:=by
 have:=low_len v k
 constructor
 ·rw [List.take_append_of_le_length (by omega),List.take_of_length_le (by omega)]
 ·rw [List.drop_append_of_le_length (by omega),List.drop_of_length_le (by omega),List.nil_append]
end Go.Proofs.YtmfgmcajelmgbaaGreatDoor.Bits

namespace Go.Proofs.YtmfgmcajelmgbaaGreatDoor.Mem
open Go Vm Go.RowKit Num
abbrev Rng (t n:Nat):Nat→Bool:=fun u=>Nat.ble t u&&Nat.blt u (t+n)
theorem rng_in {t n s:Nat} (h1:t≤s) (h2:s<t+n) {u:Nat} (h:Rng t n u=false):One s u=false:=by
 cases hb:Nat.beq u s with
 | false=>exact hb
 | true =>
  have e:u=s:=Nat.eq_of_beq_eq_true hb
  subst e
  have a:Nat.ble t u=true:=Nat.ble_eq_true_of_le h1
  have b:Nat.blt u (t+n)=true:=Nat.blt_eq.mpr h2
  simp [Rng,a,b] at h
theorem Stp.rng {s t n:Nat} {ω ω':Tg} {w w':World} (h:Stp (One s) ω ω' w w') (h1:t≤s) (h2:s<t+n):Stp (Rng t n) ω ω' w w':=h.mono fun _ hu=>rng_in h1 h2 hu
theorem rng_out {t n u:Nat} (h:u<t∨t+n≤u):Rng t n u=false:=by
 cases a:Nat.ble t u
 ·simp [Rng,a]
 ·cases b:Nat.blt u (t+n)
  ·simp [Rng,b]
  ·have:=Nat.le_of_ble_eq_true a
   have:=Nat.blt_eq.mp b
   omega
end Go.Proofs.YtmfgmcajelmgbaaGreatDoor.Mem
namespace Go.Proofs.YtmfgmcajelmgbaaGreatDoor.Chunk
open Go Vm Go.RowKit Num Mem Bits Vint
theorem tiS:TI Tryz.prog 52 96 2 16:=TI.of (z:=.agg #[.int .i64 0,.float .f64 0]) (by kernel_rfl) (by kernel_rfl) rfl (by decide)
abbrev OS (ω:Tg) (w:World) (t:Nat) (s:Sl) (l:List Smp):Prop:=OT ω w t 96 2 s (smps l)
theorem OS.len {ω:Tg} {w:World} {t:Nat} {s:Sl} {l:List Smp} (h:OS ω w t s l):s.n=l.length:=by
 have:=h.own.1
 rw [smps_len] at this
 omega
abbrev OBy (ω:Tg) (w:World) (t:Nat) (s:Sl) (l:List UInt8):Prop:=OT ω w t 5 1 s (vBs l)
theorem OBy.len {ω:Tg} {w:World} {t:Nat} {s:Sl} {l:List UInt8} (h:OBy ω w t s l):s.n=l.length:=OwnB.len h.own
def winA:Win→Int | some (a,_)=>(a:Int) | none=>0
def winB:Win→Int | some (_,b)=>(b:Int) | none=>0
structure CkS (ω:Tg) (w:World) (t gc gw:Nat) (sl:Sl) (l:List Smp) (bs:List Bool) (wn:Win):Prop where
 blk:BT ω w t gc 243 [sl.v,.pointer (wp gw),.int .i64 (winA wn),.int .i64 (winB wn),.bool wn.isSome]
 own:OS ω w (t+1) sl l
 wr:WrT ω w (t+2) gw bs
variable {ω ω' : Tg} {w w' w0 : World} {t gc gw : Nat} {sl : Sl} {l : List Smp} {bs : List Bool} {wn : Win}
theorem CkS.stp {T:Nat→Bool} (h:CkS ω w t gc gw sl l bs wn) (k:Stp T ω ω' w w') (n0:T t=false) (n1:T (t+1)=false) (n2:T (t+2)=false):CkS ω' w' t gc gw sl l bs wn :=
 ⟨h.blk.stp k n0,h.own.stp k n1,h.wr.stp k n2⟩
theorem CkS.non (h:CkS ω w t gc gw sl l bs wn) (k:Stp Non ω ω' w w'):CkS ω' w' t gc gw sl l bs wn:=h.stp k rfl rfl rfl
theorem CkS.drew (h:CkS ω w t gc gw sl l bs wn):CkS ω w.drew t gc gw sl l bs wn:=h.non (drew_stp ω w)
theorem CkS.loc (h:CkS ω w t gc gw sl l bs wn) (k:Stp (One (t+3)) ω ω' w w'):CkS ω' w' t gc gw sl l bs wn:=h.stp k (beq_no (by omega)) (beq_no (by omega)) (beq_no (by omega))
theorem CkS.rdW (h:CkS ω w t gc gw sl l bs wn) {K:Option Addr→Prop} (hK:K (wp gw)):G.ptr (wp gc) fun p=>G.cP (p.add 1) w K:=ptr_at (cP_at (by rw [addr_add,h.blk.cell];rfl) hK)
theorem CkS.rdL (h:CkS ω w t gc gw sl l bs wn) {K:Sl→Prop} (hK:K sl):G.ptr (wp gc) fun p=>G.cSl p w K:=ptr_at (cSl_at (by rw [h.blk.cell];rfl) hK)
theorem CkS.bits (h:CkS ω w t gc gw sl l bs wn) {v k:Nat} {m x:Int} (hm:m=(k:Int)) (hk:k≤64) (hv:v<2 ^ k) (hn:bs.length+k≤8388608) (hx:x=(v:Int)) {K:Int→World→Prop}
  (hK:∀ ω' w',Stp (One (t+2)) ω ω' w w'→CkS ω' w' t gc gw sl l (bs++low v k) wn→K 0 w'):C.bits_Writer_Bits (wp gw) x m w K :=
 bits_T h.wr hm hk hv hn hx fun ω' w' k h'=>hK ω' w' k ⟨h.blk.stp k (beq_no (by omega)),h.own.stp k (beq_no (by omega)),h'⟩
theorem bytes_ok (h:CkS ω w t gc gw sl l bs wn) {b:Sl} {m:List UInt8} (hb:OBy ω w (t+3) b m) (hn:bs.length+8*m.length≤8388608) {K:World→Prop}
  (hK:∀ ω' w',Stp (One (t+2)) ω ω' w w'→CkS ω' w' t gc gw sl l (bs++byteBits m) wn→K w'):C.chunk_Chunk_bytes (wp gc) b w K:=by
 unfold C.chunk_Chunk_bytes
 refine C.chunk_Chunk_bytes.L3_ind fun X hX=>?_
 have hbn:=hb.len
 have key:∀ (d i:Nat) (ω':Tg) (w':World),d+i=m.length→Stp (One (t+2)) ω ω' w w'→OBy ω' w' (t+3) b m→CkS ω' w' t gc gw sl l (bs++byteBits (m.take i)) wn→X (wp gc) b ((b.n:Nat):Int) (i:Int) w':=by
  intro d
  induction d with
  | zero =>
   intro i ω' w' hi k hb' h'
   refine hX _ _ _ _ _ ?_
   unfold C.chunk_Chunk_bytes.S5
   refine cond_d (fun h=>by omega) (fun _=>hK ω' w' k ?_)
   rwa [show i=m.length by omega,List.take_length] at h'
  | succ d ih =>
   intro i ω' w' hi k hb' h'
   have him:i<m.length:=by omega
   refine hX _ _ _ _ _ ?_
   unfold C.chunk_Chunk_bytes.S5
   refine cond_d (fun _=>?_) (fun h=>by omega)
   refine RdB.at_ hb'.rd him ?_
   refine h'.rdW ?_
   have hlt:=m[i].toNat_lt
   have htl:(m.take i).length=i:=by rw [List.length_take,Nat.min_eq_left (by omega)]
   refine h'.bits (v:=m[i].toNat) (k:=8) rfl (by decide) hlt (by rw [List.length_append,byteBits_len,htl];omega) (by rw [wU64_id (by omega) (by omega)]) fun ω2 w2 k2 h2=>?_
   rw [wI64 (by omega) (by omega),show (i:Int)+1=((i+1:Nat):Int) by omega]
   refine ih (i+1) ω2 w2 (by omega) (k.trans k2) (hb'.stp k2 (beq_no (by omega))) ?_
   have e:byteBits (m.take (i+1))=byteBits (m.take i)++low m[i].toNat 8:=by
    rw [List.take_add_one,List.getElem?_eq_getElem him]
    unfold byteBits
    rw [List.flatMap_append]
    simp
   rw [e,← List.append_assoc]
   exact h2
 exact key m.length 0 ω w (by omega) (Stp.refl _ _ _) hb (by simpa [byteBits] using h)
def formA (i:Nat):Nat:=[2,3,4].getD i 0
def formO (i:Nat):Nat:=[2,6,14].getD i 0
def formW (i:Nat):Nat:=[14,17,20].getD i 0
def tfrom (d:Int):Nat→Nat→List Bool
 | 0,_=>low 15 4++low (uN d) 64
 | k+1,i=>if fitsB d (formW i) then low (formO i) (formA i)++low (lowN d (formW i)) (formW i) else tfrom d k (i+1)
theorem tform_from (d:Int) (h:d≠0):tform d=tfrom d 3 0:=by
 unfold tform
 rw [if_neg h]
 rfl
theorem wU64_nn (x:Int):0≤IntKind.u64.wrap x:=by rw [wU64];omega
theorem rng3 {u:Nat} {t:Nat} {ω ω':Tg} {w w':World} (h:Stp (One u) ω ω' w w') (h1:t≤u:=by omega) (h2:u<t+4:=by omega):Stp (Rng t 4) ω ω' w w':=h.rng h1 h2
theorem forms_at (i:Nat) (hi:i<3):(#[(.int .i64 (2:Int)),(.int .i64 (2:Int)),(.int .i64 (14:Int)),(.int .i64 (3:Int)),(.int .i64 (6:Int)),(.int .i64 (17:Int)),(.int .i64 (4:Int)),(.int .i64 (14:Int)),(.int .i64 (20:Int))]:Array Value)[((i:Nat):Int).toNat*3+0]?=some (.int .i64 (formA i:Nat)) ∧
  (#[(.int .i64 (2:Int)),(.int .i64 (2:Int)),(.int .i64 (14:Int)),(.int .i64 (3:Int)),(.int .i64 (6:Int)),(.int .i64 (17:Int)),(.int .i64 (4:Int)),(.int .i64 (14:Int)),(.int .i64 (20:Int))]:Array Value)[((i:Nat):Int).toNat*3+1]?=some (.int .i64 (formO i:Nat)) ∧
  (#[(.int .i64 (2:Int)),(.int .i64 (2:Int)),(.int .i64 (14:Int)),(.int .i64 (3:Int)),(.int .i64 (6:Int)),(.int .i64 (17:Int)),(.int .i64 (4:Int)),(.int .i64 (14:Int)),(.int .i64 (20:Int))]:Array Value)[((i:Nat):Int).toNat*3+2]?=some (.int .i64 (formW i:Nat)):=by
 match i,hi with
 | 0,_=>exact ⟨rfl,rfl,rfl⟩
 | 1,_=>exact ⟨rfl,rfl,rfl⟩
 | 2,_=>exact ⟨rfl,rfl,rfl⟩
theorem time_ok (h:CkS ω w t gc gw sl l bs wn) {d:Int} (hn:bs.length+68≤8388608) {K:World→Prop}
  (hK:∀ ω' w',Stp (Rng t 4) ω ω' w w'→CkS ω' w' t gc gw sl l (bs++tform d) wn→K w'):C.chunk_Chunk_time (wp gc) d w K:=by
 unfold C.chunk_Chunk_time C.chunk_Chunk_time.S8
 -- the local table
 refine new_T (ω:=ω) (t+3) fun g ω1 w1 k1 b1=>?_
 have s1:Stp (One (t+3)) ω ω1 w w1:=k1.non _
 refine st_T b1 (by simp) fun ω2 w2 k2 b2=>?_
 refine st_TA b2 (by simp) fun ω3 w3 k3 b3=>?_
 refine st_TA b3 (by simp) fun ω4 w4 k4 b4=>?_
 refine st_TA b4 (by simp) fun ω5 w5 k5 b5=>?_
 refine st_TA b5 (by simp) fun ω6 w6 k6 b6=>?_
 refine st_TA b6 (by simp) fun ω7 w7 k7 b7=>?_
 refine st_TA b7 (by simp) fun ω8 w8 k8 b8=>?_
 refine st_TA b8 (by simp) fun ω9 w9 k9 b9=>?_
 refine st_TA b9 (by simp) fun ωa wa ka ba=>?_
 have sa:Stp (One (t+3)) ω ωa w wa:=s1.trans (k2.trans (k3.trans (k4.trans (k5.trans (k6.trans (k7.trans (k8.trans (k9.trans ka))))))))
 have ha:=h.loc sa
 have sa:=rng3 (t:=t) sa
 refine cond_eq (fun hd=>?_) (fun hd=>?_)
 ·refine ha.rdW (ha.bits (v:=0) (k:=1) rfl (by decide) (by decide) (by omega) rfl fun ωb wb kb hb=>?_)
  refine hK ωb wb (sa.trans (rng3 kb)) ?_
  have:tform d=low 0 1:=by unfold tform;rw [if_pos hd]
  rw [this];exact hb
 refine cI_at (n:=2) (by rw [ba.cell];rfl)<|cI_at (n:=2) (by rw [addr_add,ba.cell];rfl)<|cI_at (n:=14) (by rw [addr_add,ba.cell];rfl)<|cI_at (n:=3) (by rw [addr_add,ba.cell];rfl)<|cI_at (n:=6) (by rw [addr_add,ba.cell];rfl)<|cI_at (n:=17) (by rw [addr_add,ba.cell];rfl) <|
  cI_at (n:=4) (by rw [addr_add,ba.cell];rfl)<|cI_at (n:=14) (by rw [addr_add,ba.cell];rfl)<|cI_at (n:=20) (by rw [addr_add,ba.cell];rfl) ?_
 refine C.chunk_Chunk_time.L4_ind fun X hX=>?_
 rw [tform_from d hd] at hK
 clear b1 b2 b3 b4 b5 b6 b7 b8 b9 ba
 have key:∀ (k i:Nat) (ω':Tg) (w':World),i+(k+1)=3→Stp (Rng t 4) ω ω' w w'→CkS ω' w' t gc gw sl l bs wn→(∀ ω' w',Stp (Rng t 4) ω ω' w w'→CkS ω' w' t gc gw sl l (bs++tfrom d (k+1) i) wn→K w')→X (wp gc) d 2 2 14 3 6 17 4 14 20 (i:Int) w':=by
  intro k
  induction k with
  | zero =>
   intro i ω' w' hi s h hK
   have hi2:i=2:=by omega
   subst hi2
   refine hX _ _ _ _ _ _ _ _ _ _ _ _ _ ?_
   unfold C.chunk_Chunk_time.S6
   refine cond_d (fun _=>⟨⟨by omega,by omega⟩,?_⟩) (fun h=>absurd h (by decide))
   obtain ⟨f0,f1,f2⟩:=forms_at 2 (by decide)
   refine ⟨_,f0,_,f1,_,f2,?_⟩
   refine new_T (ω:=ω') (t+3) fun g ω1 w1 k1 b1=>?_
   refine st_T b1 (by simp) fun ω2 w2 k2 b2=>?_
   refine st_TA b2 (by simp) fun ω3 w3 k3 b3=>?_
   refine st_TA b3 (by simp) fun ω4 w4 k4 b4=>?_
   have s4':Stp (One (t+3)) ω' ω4 w' w4:=(k1.non _).trans (k2.trans (k3.trans k4))
   have h4:=h.loc s4'
   have s4:=s.trans (rng3 s4')
   refine cI_at (n:=20) (by rw [addr_add,b4.cell];rfl) ⟨wU64_nn _,?_⟩
   refine fits_cond (k:=20) (by decide) (by decide) (fun hf=>?_) (fun hf=>?_)
   ·refine h4.drew.rdW ?_
    have bd:=b4.stp (drew_stp ω4 w4)
    refine cI_at (n:=14) (by rw [addr_add,bd.cell];rfl)<|cI_at (n:=4) (by rw [bd.cell];rfl) ?_
    refine h4.drew.bits (v:=14) (k:=4) rfl (by decide) (by decide) (by omega) rfl fun ω5 w5 k5 h5=>?_
    have s5:=s4.trans (((drew_stp ω4 w4).non _).trans (rng3 k5))
    have b5:=(bd.stp k5 (beq_no (by omega))).stp (drew_stp ω5 w5)
    refine h5.drew.rdW ?_
    refine cI_at (n:=20) (by rw [addr_add,b5.cell];rfl) ⟨wU64_nn _,cI_at (n:=20) (by rw [addr_add,b5.cell];rfl) ?_⟩
    have hl:=low_and (n:=d) (k:=20) (by decide)
    refine h5.drew.bits (v:=lowN d 20) (k:=20) rfl (by decide) (lowN_lt2 d (by decide)) (by simp only [List.length_append,low_len];omega) hl fun ω6 w6 k6 h6=>?_
    refine hK ω6 w6 (s5.trans (((drew_stp ω5 w5).non _).trans (rng3 k6))) ?_
    have:tfrom d (0+1) 2=low 14 4++low (lowN d 20) 20:=by
     rw [tfrom,show formW 2=20 from rfl,hf,if_pos rfl];rfl
    rw [this,← List.append_assoc];exact h6
   ·refine cI_at (n:=20) (by rw [addr_add,b4.cell];rfl) (cond_t rfl ?_)
    refine h4.rdW (h4.bits (v:=15) (k:=4) rfl (by decide) (by decide) (by omega) rfl fun ω5 w5 k5 h5=>?_)
    refine h5.rdW (h5.bits (v:=uN d) (k:=64) rfl (by decide) (uN_lt d) (by simp only [List.length_append,low_len];omega) (wrapU d) fun ω6 w6 k6 h6=>?_)
    refine hX _ _ _ _ _ _ _ _ _ _ _ _ _ ?_
    unfold C.chunk_Chunk_time.S6
    refine cond_f rfl (hK ω6 w6 (s4.trans ((rng3 k5).trans (rng3 k6))) ?_)
    have:tfrom d (0+1) 2=low 15 4++low (uN d) 64:=by
     rw [tfrom,show formW 2=20 from rfl,hf,if_neg (by decide)];rfl
    rw [this,← List.append_assoc];exact h6
  | succ k ih =>
   intro i ω' w' hi s h hK
   have hi3:i<3:=by omega
   refine hX _ _ _ _ _ _ _ _ _ _ _ _ _ ?_
   unfold C.chunk_Chunk_time.S6
   refine cond_d (fun _=>⟨⟨by omega,by omega⟩,?_⟩) (fun h=>by omega)
   obtain ⟨f0,f1,f2⟩:=forms_at i hi3
   refine ⟨_,f0,_,f1,_,f2,?_⟩
   have hw:0<formW i∧formW i≤17∧formA i≤4∧formO i<2 ^ formA i:=(show ∀ j:Fin 2,0<formW j.val∧formW j.val≤17∧formA j.val≤4∧formO j.val<2 ^ formA j.val by decide) ⟨i,by omega⟩
   refine new_T (ω:=ω') (t+3) fun g ω1 w1 k1 b1=>?_
   refine st_T b1 (by simp) fun ω2 w2 k2 b2=>?_
   refine st_TA b2 (by simp) fun ω3 w3 k3 b3=>?_
   refine st_TA b3 (by simp) fun ω4 w4 k4 b4=>?_
   have s4':Stp (One (t+3)) ω' ω4 w' w4:=(k1.non _).trans (k2.trans (k3.trans k4))
   have h4:=h.loc s4'
   have s4:=s.trans (rng3 s4')
   refine cI_at (n:=((formW i:Nat):Int)) (by rw [addr_add,b4.cell];rfl) ⟨wU64_nn _,?_⟩
   refine fits_cond (k:=formW i) hw.1 (by omega) (fun hf=>?_) (fun hf=>?_)
   ·refine h4.drew.rdW ?_
    have bd:=b4.stp (drew_stp ω4 w4)
    refine cI_at (n:=((formO i:Nat):Int)) (by rw [addr_add,bd.cell];rfl)<|cI_at (n:=((formA i:Nat):Int)) (by rw [bd.cell];rfl) ?_
    have ho:formO i<18446744073709551616:=Nat.lt_of_lt_of_le hw.2.2.2 (Nat.pow_le_pow_right (by decide:0<2) (by omega:formA i≤64))
    refine h4.drew.bits (v:=formO i) (k:=formA i) rfl (by omega) hw.2.2.2 (by omega) (by rw [wU64_id (by omega) (by omega)]) fun ω5 w5 k5 h5=>?_
    have s5:=s4.trans (((drew_stp ω4 w4).non _).trans (rng3 k5))
    have b5:=(bd.stp k5 (beq_no (by omega))).stp (drew_stp ω5 w5)
    refine h5.drew.rdW ?_
    refine cI_at (n:=((formW i:Nat):Int)) (by rw [addr_add,b5.cell];rfl) ⟨wU64_nn _,cI_at (n:=((formW i:Nat):Int)) (by rw [addr_add,b5.cell];rfl) ?_⟩
    have hl:=low_and (n:=d) (k:=formW i) (by omega)
    refine h5.drew.bits (v:=lowN d (formW i)) (k:=formW i) rfl (by omega) (lowN_lt2 d (by omega)) (by simp only [List.length_append,low_len];omega) hl fun ω6 w6 k6 h6=>?_
    refine hK ω6 w6 (s5.trans (((drew_stp ω5 w5).non _).trans (rng3 k6))) ?_
    rw [tfrom,if_pos hf,← List.append_assoc];exact h6
   ·have hne:formW i≠20:=by omega
    refine cI_at (n:=((formW i:Nat):Int)) (by rw [addr_add,b4.cell];rfl) (cond_f (by simp;omega) ?_)
    rw [wI64 (by omega) (by omega),show (i:Int)+1=((i+1:Nat):Int) by omega]
    refine ih (i+1) ω4 w4 (by omega) s4 h4 fun ω5 w5 s5 h5=>hK ω5 w5 s5 ?_
    rw [tfrom,if_neg (by rw [hf];decide)];exact h5
 exact key 2 0 ωa wa rfl sa ha hK
end Go.Proofs.YtmfgmcajelmgbaaGreatDoor.Chunk

namespace Go.Proofs.YtmfgmcajelmgbaaGreatDoor.Bits
open Go Vm Go.RowKit Num Mem
structure DT (ω:Tg) (w:World):Prop where
 tab:DTab w
 z:ω 5=0
theorem DT.lt {ω:Tg} {w:World} (h:DT ω w):5<w.heap.size:=cell_lt (h.tab 0 (by decide))
theorem DT.stp {T:Nat→Bool} {ω ω':Tg} {w w':World} (h:DT ω w) (k:Stp T ω ω' w w') (h0:T 0=false:=by rfl):DT ω' w' :=
 ⟨fun j hj=>by rw [World.cell?_of_block (w:=w) (k.block _ h.lt (by rw [h.z];exact h0))];exact h.tab j hj,(k.same _ h.lt).trans h.z⟩
theorem DT.rng {t n:Nat} {ω ω':Tg} {w w':World} (h:DT ω w) (k:Stp (Rng t n) ω ω' w w') (ht:0<t):DT ω' w':=h.stp k (rng_out (.inl ht))
theorem DT.one {t:Nat} {ω ω':Tg} {w w':World} (h:DT ω w) (k:Stp (One t) ω ω' w w') (ht:0<t):DT ω' w':=h.stp k (beq_no (by omega))
end Go.Proofs.YtmfgmcajelmgbaaGreatDoor.Bits
namespace Go.Proofs.YtmfgmcajelmgbaaGreatDoor.Chunk
open Go Vm Go.RowKit Num Mem Bits Vint
variable {ω ω' : Tg} {w w' w0 : World} {t gc gw : Nat} {sl : Sl} {l : List Smp} {bs : List Bool} {wn : Win}
theorem same_refl (a:Addr) (n:Nat) (w:World):sameAt a n w w:=⟨rfl,fun _ _=>rfl⟩
theorem valueNew {g:Nat} (h:CkS ω w t gc gw sl l bs wn) {x:Nat} (hx:x<18446744073709551616) (h0:x≠0) (hb:BT ω w (t+3) g 183 [.int .i64 ((lead x:Nat):Int),.int .i64 ((trail x:Nat):Int)]) (hn:bs.length+77≤8388608) {K:World→Prop}
  (hK:∀ ω' w',Stp (Rng t 4) ω ω' w w'→CkS ω' w' t gc gw sl l (bs++(low 1 1++low (lead x) 5++low ((64-lead x-trail x) % 64) 6++low (x / 2 ^ trail x) (64-lead x-trail x))) (some (lead x,trail x))→K w') :
  C.chunk_Chunk_value.S2 K (wp gc) (x:Int) (wp g) w:=by
 unfold C.chunk_Chunk_value.S2
 have hlt:=lead_trail hx h0
 have hl31:=lead_le x
 have hmid:=mid_lt (a:=lead x) (b:=trail x) hx (Nat.le_refl _) (by omega)
 refine ptr_at (cI_at (n:=((lead x:Nat):Int)) (by rw [hb.cell];rfl)<|ptr_at<|cI_at (n:=((trail x:Nat):Int)) (by rw [addr_add,hb.cell];rfl) ?_)
 have en:IntKind.i64.wrap ((IntKind.i64.wrap ((64:Int)-((lead x:Nat):Int)))-((trail x:Nat):Int))=((64-lead x-trail x:Nat):Int):=by
  rw [wI64 (x:=(64:Int)-_) (by omega) (by omega),wI64 (by omega) (by omega)];omega
 rw [en]
 refine h.rdW (h.bits (v:=1) (k:=1) rfl (by decide) (by decide) (by omega) rfl fun ω1 w1 k1 h1=>?_)
 have b1:=(hb.stp k1 (beq_no (by omega))).stp (drew_stp ω1 w1)
 refine h1.drew.rdW ?_
 refine ptr_at (cI_at (n:=((lead x:Nat):Int)) (by rw [b1.cell];rfl) ?_)
 refine h1.drew.bits (v:=lead x) (k:=5) rfl (by decide) (by have:(2:Nat)^5=32:=rfl;omega) (by simp only [List.length_append,low_len];omega) (by rw [wU64_id (by omega) (by omega)]) fun ω2 w2 k2 h2=>?_
 refine h2.rdW ⟨by decide,?_⟩
 have e6:IntKind.u64.wrap (Int.tmod ((64-lead x-trail x:Nat):Int) (64:Int))=(((64-lead x-trail x) % 64:Nat):Int):=by
  rw [show Int.tmod ((64-lead x-trail x:Nat):Int) (64:Int)=(((64-lead x-trail x) % 64:Nat):Int) from rfl,wU64_id (by omega) (by omega)]
 refine h2.bits (v:=(64-lead x-trail x) % 64) (k:=6) rfl (by decide) (Nat.mod_lt _ (by decide)) (by simp only [List.length_append,low_len];omega) e6 fun ω3 w3 k3 h3=>?_
 have b3:=((b1.stp k2 (beq_no (by omega))).stp k3 (beq_no (by omega))).stp (drew_stp ω3 w3)
 refine h3.drew.rdW ?_
 refine ptr_at (cI_at (n:=((trail x:Nat):Int)) (by rw [addr_add,b3.cell];rfl) ⟨wU64_nn _,?_⟩)
 refine mask_ok (n:=64-lead x-trail x) (by omega) ⟨same_refl _ _ _,same_refl _ _ _,?_⟩
 have es:shr .u64 (x:Int) (IntKind.u64.wrap ((trail x:Nat):Int))=((x / 2 ^ trail x:Nat):Int):=by rw [wU64_id (by omega) (by omega),shr64 (by omega)]
 refine h3.drew.bits (v:=x / 2 ^ trail x) (k:=64-lead x-trail x) rfl (by omega) hmid (by simp only [List.length_append,low_len];omega) (by rw [es,and_mask hmid (by omega)]) fun ω4 w4 k4 h4=>?_
 have b4:=b3.stp k4 (beq_no (by omega))
 refine ptr_at (cI_at (n:=((lead x:Nat):Int)) (by rw [b4.cell];rfl)<|cI_at (n:=((trail x:Nat):Int)) (by rw [addr_add,b4.cell];rfl)<|ptr_at ?_)
 refine st_TA h4.blk (by simp) fun ω5 w5 k5 b5=>?_
 rw [addr_add,addr_add]
 refine st_T b5 (by simp) fun ω6 w6 k6 b6=>?_
 refine ptr_at (st_TA b6 (by simp) fun ω7 w7 k7 b7=>?_)
 have sA:Stp (Rng t 4) ω ω4 w w4:=(rng3 k1).trans (((drew_stp ω1 w1).non _).trans ((rng3 k2).trans ((rng3 k3).trans (((drew_stp ω3 w3).non _).trans (rng3 k4)))))
 have k57:=k5.trans (k6.trans k7)
 refine hK ω7 w7 (sA.trans (rng3 k57)) ⟨b7,h4.own.stp k57 (beq_no (by omega)),?_⟩
 have:=h4.wr.stp k57 (beq_no (by omega))
 simpa only [List.append_assoc] using this
theorem value_ok (h:CkS ω w t gc gw sl l bs wn) (ht:0<t) (hT:DT ω w) (hwn:WinOk wn) {x:Nat} (hx:x<18446744073709551616) (hn:bs.length+100≤8388608) {K:World→Prop}
  (hK:∀ ω' w',Stp (Rng t 4) ω ω' w w'→CkS ω' w' t gc gw sl l (bs++(vform wn x).1) (vform wn x).2→K w'):C.chunk_Chunk_value (wp gc) (x:Int) w K:=by
 unfold C.chunk_Chunk_value
 refine cond_eq (fun hz=>?_) (fun hz=>?_)
 ·refine h.rdW (h.bits (v:=0) (k:=1) rfl (by decide) (by decide) (by omega) rfl fun ω1 w1 k1 h1=>?_)
  have e:vform wn x=(low 0 1,wn):=by unfold vform;rw [if_pos (by omega)]
  rw [e] at hK
  exact hK ω1 w1 (rng3 k1) h1
 have h0:x≠0:=by omega
 have hlt:=lead_trail hx h0
 have hl31:=lead_le x
 have hbl:=bitLen_le x
 refine h.rdW (h.bits (v:=1) (k:=1) rfl (by decide) (by decide) (by omega) rfl fun ω1 w1 k1 h1=>?_)
 refine leading_ok hx (trailing_ok hx h0 (hT.one k1 (by omega)).tab ?_)
 refine new_T (ω:=ω1) (t+3) fun g ω2 w2 k2 b2=>?_
 have el:(if (31:Int)<((64-Lib.bitLen x:Nat):Int) then (31:Int) else ((64-Lib.bitLen x:Nat):Int))=((lead x:Nat):Int):=by
  unfold lead
  by_cases hq:31<64-Lib.bitLen x
  ·rw [if_pos (by omega),Nat.min_eq_right (by omega)];rfl
  ·rw [if_neg (by omega),Nat.min_eq_left (by omega)]
 rw [el]
 refine st_T b2 (by simp) fun ω3 w3 k3 b3=>?_
 refine st_TA b3 (by simp) fun ω4 w4 k4 b4=>?_
 have s4':Stp (One (t+3)) ω1 ω4 w1 w4:=(k2.non _).trans (k3.trans k4)
 have h4:=(h1.loc s4').drew
 have b4:=b4.stp (drew_stp ω4 w4)
 have s4:Stp (Rng t 4) ω ω4 w w4.drew:=(rng3 k1).trans ((rng3 s4').trans ((drew_stp ω4 w4).non _))
 have new:holdsW wn x=false→C.chunk_Chunk_value.S2 K (wp gc) (x:Int) (wp g) w4.drew:=fun hh=>by
  refine valueNew h4 hx h0 b4 (by simp only [List.length_append,low_len];omega) fun ω5 w5 s5 h5=>hK ω5 w5 (s4.trans s5) ?_
  have e:vform wn x=(low 1 1++low 1 1++low (lead x) 5++low ((64-lead x-trail x) % 64) 6++low (x / 2 ^ trail x) (64-lead x-trail x),some (lead x,trail x)):=by
   unfold vform;rw [if_neg h0,hh,if_neg (by decide)]
  rw [e]
  simpa only [List.append_assoc] using h5
 refine ptr_at (cB_at (b:=wn.isSome) (by rw [addr_add,h4.blk.cell];rfl) ?_)
 cases wn with
 | none=>exact cond_f rfl (new rfl)
 | some ab =>
  obtain ⟨a,b⟩:=ab
  obtain ⟨ha31,hab⟩:=hwn a b rfl
  refine cond_t rfl ?_
  refine cI_at (n:=((lead x:Nat):Int)) (by rw [b4.cell];rfl)<|ptr_at<|cI_at (n:=(a:Int)) (by rw [addr_add,h4.blk.cell];rfl) ?_
  refine cond_d (fun hla=>?_) (fun hla=>new (by unfold holdsW;simp;omega))
  refine cI_at (n:=((trail x:Nat):Int)) (by rw [addr_add,b4.cell];rfl)<|ptr_at<|cI_at (n:=(b:Int)) (by rw [addr_add,addr_add,h4.blk.cell];rfl) ?_
  refine cond_d (fun hlb=>?_) (fun hlb=>new (by unfold holdsW;simp;omega))
  have hh:holdsW (some (a,b)) x=true:=by unfold holdsW;simp;omega
  have hmid:=mid_lt (a:=a) (b:=b) hx (by omega) (by omega)
  have h5:=h4.drew
  refine ptr_at (cI_at (n:=(a:Int)) (by rw [addr_add,h5.blk.cell];rfl)<|ptr_at<|cI_at (n:=(b:Int)) (by rw [addr_add,addr_add,h5.blk.cell];rfl) ?_)
  have en:IntKind.i64.wrap ((IntKind.i64.wrap ((64:Int)-(a:Int)))-(b:Int))=((64-a-b:Nat):Int):=by
   rw [wI64 (x:=(64:Int)-_) (by omega) (by omega),wI64 (by omega) (by omega)];omega
  rw [en]
  refine h5.rdW (h5.bits (v:=0) (k:=1) rfl (by decide) (by decide) (by simp only [List.length_append,low_len];omega) rfl fun ω6 w6 k6 h6=>?_)
  refine h6.drew.rdW ?_
  refine ptr_at (cI_at (n:=(b:Int)) (by rw [addr_add,addr_add,h6.drew.blk.cell];rfl) ⟨wU64_nn _,?_⟩)
  refine mask_ok (n:=64-a-b) (by omega) ⟨same_refl _ _ _,same_refl _ _ _,?_⟩
  have es:shr .u64 (x:Int) (IntKind.u64.wrap (b:Int))=((x / 2 ^ b:Nat):Int):=by rw [wU64_id (by omega) (by omega),shr64 (by omega)]
  refine h6.drew.bits (v:=x / 2 ^ b) (k:=64-a-b) rfl (by omega) hmid (by simp only [List.length_append,low_len];omega) (by rw [es,and_mask hmid (by omega)]) fun ω7 w7 k7 h7=>?_
  have e:vform (some (a,b)) x=(low 1 1++low 0 1++low (x / 2 ^ b) (64-a-b),some (a,b)):=by
   unfold vform;rw [if_neg h0,hh,if_pos rfl]
  rw [e] at hK
  refine hK ω7 w7 (s4.trans (((drew_stp _ _).non _).trans ((rng3 k6).trans (((drew_stp _ _).non _).trans (rng3 k7))))) ?_
  simpa only [List.append_assoc] using h7
end Go.Proofs.YtmfgmcajelmgbaaGreatDoor.Chunk

namespace Go.Proofs.YtmfgmcajelmgbaaGreatDoor.Chunk
open Go Vm Go.RowKit Num Mem Bits Vint
variable {ω ω' : Tg} {w w' w0 : World} {t gc gw : Nat} {sl : Sl} {l : List Smp} {bs : List Bool} {wn : Win}
theorem OS.at_ {u:Nat} {s:Sl} {m:List Smp} (h:OS ω w u s m) {i:Int} {k:Nat} {x:Smp} (ei:i=(k:Int)) (hx:m[k]?=some x) {K:Addr→Prop}
  (hK:∀ a:Addr,a.block<w.heap.size→ω a.block=u→w.cell? a=some (.int .i64 x.1)→w.cell? (a.add 1)=some (.float .f64 x.2)→K a):G.ix s.a s.n i 2 K:=by
 have hk:k<m.length:=(List.getElem?_eq_some_iff.1 hx).1
 have hn:=h.len
 subst ei
 obtain ⟨e0,e1⟩:=smps_at m k x hx
 refine h.ix (by decide) (by omega) (by omega) fun a hb ht hc=>hK a hb ht ?_ ?_
 ·have:=hc 0 _ (by decide) (by rw [Int.toNat_natCast];exact e0)
  rwa [show a.add 0=a by simp [Addr.add]] at this
 ·exact hc 1 _ (by decide) (by rw [Int.toNat_natCast];exact e1)
theorem rdS_at {s:Sl} {m:List Smp} (h:Rd w s 2 (smps m)) {i:Int} {k:Nat} {x:Smp} (ei:i=(k:Int)) (hx:m[k]?=some x) {K:Addr→Prop}
  (hK:∀ a:Addr,w.cell? a=some (.int .i64 x.1)→w.cell? (a.add 1)=some (.float .f64 x.2)→K a):G.ix s.a s.n i 2 K:=by
 have hk:k<m.length:=(List.getElem?_eq_some_iff.1 hx).1
 have hn:s.n=m.length:=by have:=h.2.1;rw [smps_len] at this;omega
 subst ei
 obtain ⟨e0,e1⟩:=smps_at m k x hx
 refine Rd.ix h (by decide) (by omega) (by omega) fun a hc=>hK a ?_ ?_
 ·have:=hc 0 _ (by decide) (by rw [Int.toNat_natCast];exact e0)
  rwa [show a.add 0=a by simp [Addr.add]] at this
 ·exact hc 1 _ (by decide) (by rw [Int.toNat_natCast];exact e1)
theorem putEnd (h:CkS ω w t gc gw sl l bs wn) {s:Smp} (hl:l.length≤1000) {K:World→Prop}
  (hK:∀ ω' w' sl',Stp (Rng t 4) ω ω' w w'→CkS ω' w' t gc gw sl' (l++[s]) bs wn→K w'):C.chunk_Chunk_put.S2 K (wp gc) s.1 s.2 w:=by
 unfold C.chunk_Chunk_put.S2
 refine h.rdL ?_
 have hn:=h.own.len
 refine push_T tiS h.own (n:=1) (by rfl) (by intro v hv;simp at hv;rcases hv with rfl | rfl<;>rfl) (by simp only [maxLen];omega) (by omega) fun r ω1 w1 k1 o1 hr=>?_
 have b1:=h.blk.stp k1 (beq_no (by omega))
 refine ptr_at (st_T b1 (by simp) fun ω2 w2 k2 b2=>?_)
 refine hK ω2 w2 r ((rng3 k1).trans (rng3 k2)) ⟨b2,?_,(h.wr.stp k1 (beq_no (by omega))).stp k2 (beq_no (by omega))⟩
 have:=o1.stp k2 (beq_no (by omega))
 rw [OS,smps_app]
 exact this
def Fine (l:List Smp):Prop:=∀ s∈l,0≤s.1∧s.1≤1125899906842624∧s.2<18446744073709551616
theorem xor_eq {a b:Nat} (ha:a<18446744073709551616) (hb:b<18446744073709551616):Go.bits .xor .u64 (a:Int) (b:Int)=((a ^^^ b:Nat):Int):=bits_xor rfl (by simp only [IntKind.bits];omega) (by simp only [IntKind.bits];omega)
theorem fb_at {f:Nat} {K:Int→World→Prop} (hK:K (f:Int) w):C.math_Float64bits f w K:=hK
theorem up5 {t:Nat} (h:Stp (Rng t 4) ω ω' w w'):Stp (Rng t 6) ω ω' w w':=h.mono fun u hu=>by
 cases a:Nat.ble t u
 ·simp [Rng,a]
 ·have:=Nat.le_of_ble_eq_true a
  refine rng_out (.inr ?_)
  simp only [Rng,a,Bool.true_and] at hu
  cases b:Nat.blt u (t+6)
  ·have:¬ u<t+6:=fun h=>by rw [Nat.blt_eq.mpr h] at b;cases b
   omega
  ·rw [b] at hu;cases hu
theorem put_ok (h:CkS ω w t gc gw sl l bs wn) (ht:0<t) (hT:DT ω w) (hwn:WinOk wn) (hf:Fine l) (hl:l.length≤1000) {s:Smp} (h0:0≤s.1) (h1:s.1≤1125899906842624) (hv:s.2<18446744073709551616) (hn:bs.length+200≤8388608) {K:World→Prop}
  (hK:∀ ω' w' sl',Stp (Rng t 6) ω ω' w w'→CkS ω' w' t gc gw sl' (l++[s]) (bs++(emit l wn s).1) (emit l wn s).2→K w'):C.chunk_Chunk_put (wp gc) s.1 s.2 w K:=by
 unfold C.chunk_Chunk_put
 have hsn:=h.own.len
 refine h.rdL ?_
 rw [hsn]
 refine cond_eq (fun hz=>?_) (fun hz=>cond_eq (fun h1'=>?_) (fun h2'=>?_))
 ·have hl0:l=[]:=List.eq_nil_of_length_eq_zero (by omega)
  subst hl0
  refine putI_ok (l:=[]) (by omega) (by omega) (Rd.nil w 1) (by decide) fun r w1 k1 o1=>?_
  have k1':=k1.stp ω (t+3)
  have o1':=Own.tag o1 (Nat.le_refl _) ω (t+3)
  rw [List.nil_append] at o1'
  have hlen:=putU_len64 (zz_lt50 h0 h1)
  refine bytes_ok (h.non k1') o1' (by omega) fun ω2 w2 k2 h2=>?_
  refine h2.drew.rdW ?_
  refine fb_at ⟨same_refl _ _ _,?_⟩
  refine h2.drew.bits (v:=s.2) (k:=64) rfl (by decide) hv (by rw [List.length_append,byteBits_len];omega) rfl fun ω3 w3 k3 h3=>?_
  refine putEnd h3 (by decide) fun ω4 w4 sl4 s4 h4=>hK ω4 w4 sl4 (up5 ((k1'.non _).trans ((rng3 k2).trans (((drew_stp _ _).non _).trans ((rng3 k3).trans s4))))) ?_
  have e:emit [] wn s=(byteBits (putU (zz s.1))++low s.2 64,wn):=rfl
  rw [e]
  simpa only [List.append_assoc] using h4
 ·obtain ⟨a,rfl⟩:∃ a,l=[a]:=by
   match l,h1' with
   | [a],_=>exact ⟨a,rfl⟩
   | [],h=>simp at h
   | _::_::_,h=>simp at h;omega
  obtain ⟨fa0,fa1,fa2⟩:=hf a (by simp)
  refine h.rdL ?_
  refine h.own.at_ (k:=0) rfl rfl fun p _ _ hc _=>cI_at hc ?_
  have eu:IntKind.u64.wrap (IntKind.i64.wrap (s.1-a.1))=((uN (s.1-a.1):Nat):Int):=by rw [wI64 (by omega) (by omega),wrapU]
  rw [eu]
  refine putU_ok (l:=[]) (uN_lt _) (Rd.nil w 1) (by decide) fun r w1 k1 o1=>?_
  have k1':=k1.stp ω (t+3)
  have o1':=Own.tag o1 (Nat.le_refl _) ω (t+3)
  rw [List.nil_append] at o1'
  have hlen:=putU_len64 (uN_lt (s.1-a.1))
  refine bytes_ok (h.non k1') o1' (by omega) fun ω2 w2 k2 h2=>?_
  refine h2.drew.rdL ?_
  refine h2.drew.own.at_ (k:=0) rfl rfl fun p2 _ _ _ hc2=>cF_at hc2 ?_
  refine fb_at ⟨same_refl _ _ _,same_refl _ _ _,fb_at ?_⟩
  rw [xor_eq hv fa2]
  refine value_ok h2.drew ht (((hT.stp k1').one k2 (by omega)).stp (drew_stp ω2 w2)) hwn (xor64_lt hv fa2) (by rw [List.length_append,byteBits_len];omega) fun ω3 w3 s3 h3=>?_
  refine putEnd h3 (by simp) fun ω4 w4 sl4 s4 h4=>hK ω4 w4 sl4 (up5 ((k1'.non _).trans ((rng3 k2).trans (((drew_stp _ _).non _).trans (s3.trans s4))))) ?_
  have e:emit [a] wn s=(byteBits (putU (uN (s.1-a.1)))++(vform wn (s.2 ^^^ a.2)).1,(vform wn (s.2 ^^^ a.2)).2):=rfl
  rw [e]
  simpa only [List.append_assoc] using h4
 ·have hl2:2≤l.length:=by omega
  obtain ⟨a,ha⟩:∃ a,l[l.length-2]?=some a:=⟨_,List.getElem?_eq_getElem (by omega)⟩
  obtain ⟨b,hb⟩:∃ b,l[l.length-1]?=some b:=⟨_,List.getElem?_eq_getElem (by omega)⟩
  obtain ⟨fa0,fa1,fa2⟩:=hf a (List.mem_of_getElem? ha)
  obtain ⟨fb0,fb1,fb2⟩:=hf b (List.mem_of_getElem? hb)
  have hd:=h.drew
  have em:emit l wn s=(tform (s.1-b.1-(b.1-a.1))++(vform wn (s.2 ^^^ b.2)).1,(vform wn (s.2 ^^^ b.2)).2):=by
   have e1:l.reverse=b::a::(l.reverse.drop 2):=by
    have hr0:l.reverse[0]?=some b:=by rw [List.getElem?_reverse (by omega)];exact hb
    have hr1:l.reverse[1]?=some a:=by rw [List.getElem?_reverse (by omega),show l.length-1-1=l.length-2 by omega];exact ha
    generalize l.reverse=q at *
    match q,hr0,hr1 with
    | x::y::r,h0,h1=>simp at h0 h1;subst h0 h1;rfl
    | [x],_,h1=>simp at h1
    | [],h0,_=>simp at h0
   unfold emit
   rw [e1]
  rw [em] at hK
  -- what follows both orders
  have tail:∀ (ga gb:Nat) (ω':Tg) (w':World),Stp (Rng t 6) ω ω' w w'→CkS ω' w' t gc gw sl l bs wn→DT ω' w'→BT ω' w' (t+4) ga 96 [.int .i64 a.1,.float .f64 a.2]→BT ω' w' (t+5) gb 96 [.int .i64 b.1,.float .f64 b.2] →
    G.cI .i64 ⟨gb,0,none⟩ w' fun n63=>G.cI .i64 ⟨gb,0,none⟩ w' fun n64=>G.cI .i64 ⟨ga,0,none⟩ w' fun n65=>C.chunk_Chunk_time (wp gc) (IntKind.i64.wrap ((IntKind.i64.wrap (s.1-n63))-(IntKind.i64.wrap (n64-n65)))) w' fun w66=>G.cF .f64 (Addr.add ⟨gb,0,none⟩ 1) w66.drew fun f67=>C.math_Float64bits s.2 w66.drew fun n68 w69=>sameAt (Addr.add ⟨gb,0,none⟩ 1) 1 w66.drew w69∧(C.math_Float64bits f67 w69 fun n70 w71=>C.chunk_Chunk_value (wp gc) (Go.bits .xor .u64 n68 n70) w71 fun w72=>C.chunk_Chunk_put.S2 K (wp gc) s.1 s.2 w72):=by
   intro ga gb ω1 w1 s1 h1 hT1 ba bb
   refine cI_at (n:=b.1) (by rw [bb.cell];rfl)<|cI_at (n:=b.1) (by rw [bb.cell];rfl)<|cI_at (n:=a.1) (by rw [ba.cell];rfl) ?_
   rw [wI64 (x:=s.1-b.1) (by omega) (by omega),wI64 (x:=b.1-a.1) (by omega) (by omega),wI64 (by omega) (by omega)]
   have htl:=tform_len (s.1-b.1-(b.1-a.1))
   refine time_ok h1 (by omega) fun ω2 w2 s2 h2=>?_
   have bb2:=(bb.stp s2 (rng_out (.inr (by omega)))).stp (drew_stp ω2 w2)
   refine cF_at (b:=b.2) (by rw [addr_add,bb2.cell];rfl) ?_
   refine fb_at ⟨same_refl _ _ _,fb_at ?_⟩
   rw [xor_eq hv fb2]
   refine value_ok h2.drew ht ((hT1.rng s2 ht).stp (drew_stp ω2 w2)) hwn (xor64_lt hv fb2) (by rw [List.length_append];omega) fun ω3 w3 s3 h3=>?_
   refine putEnd h3 hl fun ω4 w4 sl4 s4 h4=>hK ω4 w4 sl4 (s1.trans (up5 (s2.trans (((drew_stp _ _).non _).trans (s3.trans s4))))) ?_
   simpa only [List.append_assoc] using h4
  refine hd.rdL (hd.own.at_ (k:=l.length-2) (by rw [wI64 (by omega) (by omega)];omega) ha fun pa hpa hta hca0 hca1=>cI_at hca0<|cF_at hca1 ?_)
  refine hd.rdL (hd.own.at_ (k:=l.length-1) (by rw [wI64 (by omega) (by omega)];omega) hb fun pb hpb htb hcb0 hcb1=>cI_at hcb0<|cF_at hcb1 ?_)
  -- what was read holds still while the locals are laid
  have sC:∀ {T:Nat→Bool} {ω':Tg} {w':World},Stp T ω ω' w.drew w'→T t=false→sameAt ⟨gc,0,none⟩ 1 w.drew w':=fun k n=>hd.blk.same k n 0 1
  have sA:∀ {T:Nat→Bool} {ω':Tg} {w':World},Stp T ω ω' w.drew w'→T (t+1)=false→sameAt pa 2 w.drew w':=fun k n=>same_stp k hpa (by rw [hta];exact n)
  have sB:∀ {T:Nat→Bool} {ω':Tg} {w':World},Stp T ω ω' w.drew w'→T (t+1)=false→sameAt pb 2 w.drew w':=fun k n=>same_stp k hpb (by rw [htb];exact n)
  have hTd:=hT.stp (drew_stp ω w)
  have d6:Stp (Rng t 6) ω ω w w.drew:=(drew_stp ω w).non _
  have n4:One (t+4) t=false:=beq_no (by omega)
  have n41:One (t+4) (t+1)=false:=beq_no (by omega)
  have n5:Duo (t+4) (t+5) t=false:=by simp only [Duo,beq_no (show t≠t+4 by omega),beq_no (show t≠t+5 by omega)];rfl
  have n51:Duo (t+4) (t+5) (t+1)=false:=by simp only [Duo,beq_no (show t+1≠t+4 by omega),beq_no (show t+1≠t+5 by omega)];rfl
  have n52:Duo (t+4) (t+5) (t+2)=false:=by simp only [Duo,beq_no (show t+2≠t+4 by omega),beq_no (show t+2≠t+5 by omega)];rfl
  have n50:Duo (t+4) (t+5) 0=false:=by simp only [Duo,beq_no (show 0≠t+4 by omega),beq_no (show 0≠t+5 by omega)];rfl
  have n45:One (t+4) (t+5)=false:=beq_no (by omega)
  have n54:One (t+5) (t+4)=false:=beq_no (by omega)
  have du:∀ {ω':Tg} {w':World},Stp (Duo (t+4) (t+5)) ω ω' w.drew w'→Stp (Rng t 6) ω ω' w.drew w':=fun k=>k.mono fun u hu=>by
   simp only [Duo]
   rw [show Nat.beq u (t+4)=false from rng_in (by omega) (by omega) hu,show Nat.beq u (t+5)=false from rng_in (by omega) (by omega) hu];rfl
  refine ⟨?_,?_⟩
  ·refine new_T (ω:=ω) (t+4) fun g1 ω1 w1 k1 b1=>?_
   have q1:=k1.non (Duo (t+4) (t+5))
   refine ⟨sC q1 n5,sA q1 n51,sC q1 n5,sB q1 n51,?_⟩
   refine new_T (ω:=ω1) (t+5) fun g2 ω2 w2 k2 b2=>?_
   have q2:=q1.trans (k2.non _)
   refine ⟨sC q2 n5,sA q2 n51,sC q2 n5,sB q2 n51,?_⟩
   refine st_T (b1.stp k2) (by simp) fun ω3 w3 k3 b3=>?_
   refine st_TA b3 (by simp) fun ω4 w4 k4 b4=>?_
   have q4:=q2.trans ((k3.trans k4).one)
   refine ⟨sC q4 n5,sB q4 n51,?_⟩
   refine st_T ((b2.stp k3 n45).stp k4 n45) (by simp) fun ω5 w5 k5 b5=>?_
   refine st_TA b5 (by simp) fun ω6 w6 k6 b6=>?_
   have q6:=q4.trans ((k5.trans k6).two)
   exact tail g1 g2 ω6 w6 (d6.trans (du q6)) (hd.stp q6 n5 n51 n52) (hTd.stp q6 n50) ((b4.stp k5 n54).stp k6 n54) b6
  ·refine new_T (ω:=ω) (t+5) fun g1 ω1 w1 k1 b1=>?_
   have q1:=k1.non (Duo (t+4) (t+5))
   refine ⟨sC q1 n5,sA q1 n51,sC q1 n5,sB q1 n51,?_⟩
   refine new_T (ω:=ω1) (t+4) fun g2 ω2 w2 k2 b2=>?_
   have q2:=q1.trans (k2.non _)
   refine ⟨sC q2 n5,sA q2 n51,sC q2 n5,sB q2 n51,?_⟩
   refine st_T b2 (by simp) fun ω3 w3 k3 b3=>?_
   refine st_TA b3 (by simp) fun ω4 w4 k4 b4=>?_
   have q4:=q2.trans ((k3.trans k4).one)
   refine ⟨sC q4 n5,sB q4 n51,?_⟩
   refine st_T (((b1.stp k2).stp k3 n45).stp k4 n45) (by simp) fun ω5 w5 k5 b5=>?_
   refine st_TA b5 (by simp) fun ω6 w6 k6 b6=>?_
   have q6:=q4.trans ((k5.trans k6).two)
   exact tail g2 g1 ω6 w6 (d6.trans (du q6)) (hd.stp q6 n5 n51 n52) (hTd.stp q6 n50) ((b4.stp k5 n54).stp k6 n54) b6
end Go.Proofs.YtmfgmcajelmgbaaGreatDoor.Chunk

namespace Go.Proofs.YtmfgmcajelmgbaaGreatDoor.Chunk
open Go Vm Go.RowKit Num Mem Bits Vint
variable {ω ω' : Tg} {w w' w0 : World} {t gc : Nat} {l : List Smp}
theorem Valid.fine (h:Valid l):Fine l:=h.mem
structure CkT (ω:Tg) (w:World) (t gc:Nat) (l:List Smp):Prop where
 ex:∃ gw sl,CkS ω w t gc gw sl l (run l).1 (run l).2
 ok:Valid l
theorem CkT.stp {T:Nat→Bool} (h:CkT ω w t gc l) (k:Stp T ω ω' w w') (n0:T t=false:=by rfl) (n1:T (t+1)=false:=by rfl) (n2:T (t+2)=false:=by rfl):CkT ω' w' t gc l:=by
 obtain ⟨gw,sl,hs⟩:=h.ex
 exact ⟨⟨gw,sl,hs.stp k n0 n1 n2⟩,h.ok⟩
theorem new_ok' (t:Nat) {K:Option Addr→World→Prop} (hK:∀ gc ω' w',Stp (Rng t 6) ω ω' w w'→CkT ω' w' t gc []→K (wp gc) w'):C.chunk_New w K:=by
 unfold C.chunk_New
 refine new_T' (ω:=ω) (t+2) fun gw ω1 w1 k1 h1=>?_
 refine new_T (ω:=ω1) t fun gc ω2 w2 k2 b2=>?_
 exact hK gc ω2 w2 ((k1.trans k2).non _) ⟨⟨gw,nilS,b2,OT.nil _ _ _ _ _,h1.stp k2⟩,.nil⟩
theorem append_ok (h:CkT ω w t gc l) (ht:0<t) (hT:DT ω w) {s:Smp} (hv:s.2<18446744073709551616) {K:Int→World→Prop}
  (hE:wrong l s.1≠0→K (wrong l s.1) w) (hK:wrong l s.1=0→∀ ω' w',Stp (Rng t 6) ω ω' w w'→CkT ω' w' t gc (l++[s])→K 0 w'):C.chunk_Chunk_Append (wp gc) s.1 s.2 w K:=by
 obtain ⟨gw,sl,hs⟩:=h.ex
 have hn:=hs.own.len
 have hlen:=h.ok.len
 unfold C.chunk_Chunk_Append
 have bad:∀ e:Int,wrong l s.1=e→e≠0→K e w:=fun e he hne=>by subst he;exact hE hne
 refine cond_f rfl ?_
 refine cond_d (fun h1=>bad 1 (by unfold wrong;rw [if_pos (.inl h1)]) (by decide)) (fun h1=>?_)
 refine cond_d (fun h2=>bad 1 (by unfold wrong;rw [if_pos (.inr h2)]) (by decide)) (fun h2=>?_)
 have hne:¬ (s.1<0∨s.1 > 1125899906842624):=by omega
 refine hs.rdL ?_
 rw [hn]
 have fin:late l s.1=false→G.cond (decide ((l.length:Int) ≥ (120:Int))) (K (8:Int) w) (C.chunk_Chunk_put (wp gc) s.1 s.2 w fun w14=>K (0:Int) w14):=fun hq=>by
  refine cond_d (fun h3=>bad 8 (by unfold wrong;rw [if_neg hne,hq,if_neg (by decide),if_pos (by omega)]) (by decide)) (fun h3=>?_)
  have hw:wrong l s.1=0:=by unfold wrong;rw [if_neg hne,hq,if_neg (by decide),if_neg (by omega)]
  have hrl:=run_len h.ok
  refine put_ok hs ht hT (run_ok h.ok) h.ok.fine (by omega) (by omega) (by omega) hv (by omega) fun ω1 w1 sl1 s1 h1=>hK hw ω1 w1 s1 ⟨⟨gw,sl1,?_⟩,.snoc h.ok hw hv⟩
  rw [run_snoc]
  exact h1
 refine cond_d (fun h3=>?_) (fun h3=>fin ?_)
 ·obtain ⟨a,ha⟩:∃ a,l[l.length-1]?=some a:=⟨_,List.getElem?_eq_getElem (by omega)⟩
  have hlast:l.getLast?=some a:=by rw [List.getLast?_eq_getElem?];exact ha
  refine hs.rdL (hs.own.at_ (k:=l.length-1) (by rw [wI64 (by omega) (by omega)];omega) ha fun p _ _ hc _=>cI_at hc ?_)
  refine cond_d (fun h4=>bad 90 ?_ (by decide)) (fun h4=>fin ?_)
  ·unfold wrong late
   rw [if_neg hne,hlast,if_pos (by simp only [decide_eq_true_eq];exact h4)]
  ·unfold late
   rw [hlast]
   simp only [decide_eq_false_iff_not];exact h4
 ·have:l=[]:=List.eq_nil_of_length_eq_zero (by omega)
  subst this;rfl
theorem newOwn {cs:Array Value} {m:List UInt8} {n:Nat} (hc:cs.toList=vBs m) (hn:m.length=n) (hm:n≤1000):OwnB (w.alloc (.cells cs 5)) w.heap.size ⟨some ⟨w.heap.size,0,none⟩,n,n⟩ m:=by
 have hs:(vBs m).length=n*1:=by rw [vBs_length,hn,Nat.mul_one]
 have hb:=Blk.new w 5 cs
 rw [hc] at hb
 exact Own.mk' (Nat.le_refl _) hb (Nat.le_refl _) (by simp only [maxLen];omega) hs (List.take_of_length_le (by omega))
theorem bytesC_ok (h:CkT ω w t gc l) {K:Sl→World→Prop} (hK:∀ r w',Keep w w'→OwnB w' w.heap.size r (enc l)→K r w'):C.chunk_Chunk_Bytes (wp gc) w K:=by
 obtain ⟨gw,sl,hs⟩:=h.ex
 have hlen:=h.ok.len
 have hrl:=run_len h.ok
 have hpl:=pk_len (run l).1
 unfold C.chunk_Chunk_Bytes
 refine cond_f rfl ?_
 have hd:=hs.drew
 refine hd.rdL ⟨by decide,hd.rdL (hd.rdW ?_)⟩
 rw [hs.own.len]
 have ecs:(#[(.int .u8 (IntKind.u8.wrap (shr .i64 ((l.length:Nat):Int) (8:Int)))),(.int .u8 (IntKind.u8.wrap ((l.length:Nat):Int)))]:Array Value).toList=vBs [UInt8.ofNat (l.length / 256),UInt8.ofNat (l.length % 256)]:=by
  have e:=shr_nat .i64 ((l.length:Nat):Int) 8 (by decide)
  have e2:shr .i64 ((l.length:Nat):Int) (8:Int)=((l.length / 256:Nat):Int):=by rw [show (8:Int)=((8:Nat):Int) from rfl,e];simp
  rw [e2,wU8_id (by omega) (by omega),wU8_id (by omega) (by omega),vB_lit (by omega),vB_lit (by omega),Nat.mod_eq_of_lt (by omega)]
  rfl
 have kd:=Keep.drew w
 refine ⟨?_,?_⟩
 ·refine new_at ?_
  have kA:=Keep.alloc w.drew (.cells #[(.int .u8 (IntKind.u8.wrap (shr .i64 ((l.length:Nat):Int) (8:Int)))),(.int .u8 (IntKind.u8.wrap ((l.length:Nat):Int)))] 5)
  have oA:=newOwn (w:=w.drew) (n:=2) ecs rfl (by decide)
  generalize w.drew.alloc (.cells #[(.int .u8 (IntKind.u8.wrap (shr .i64 ((l.length:Nat):Int) (8:Int)))),(.int .u8 (IntKind.u8.wrap ((l.length:Nat):Int)))] 5)=w1 at *
  refine ⟨same_keep kA (by rw [add_block];exact hd.blk.blk.lt),?_⟩
  have h1:=hd.non (kA.stp0 ω)
  refine bytes_T h1.wr (by omega) fun r w2 k2 o2=>?_
  refine appB (Keep.trans kd (Keep.trans kA k2)) (Keep.trans kd (Keep.trans kA k2)).size (oA.keep k2) o2.rd (by simp only [List.length_cons,List.length_nil];omega) fun q w3 k3 o3=>hK q w3 k3 o3
 ·refine bytes_T hd.wr (by omega) fun r w1 k1 o1=>?_
  refine ⟨same_keep k1 hd.blk.blk.lt,same_keep k1 hd.blk.blk.lt,?_⟩
  refine new_at ?_
  have kA:=Keep.alloc w1 (.cells #[(.int .u8 (IntKind.u8.wrap (shr .i64 ((l.length:Nat):Int) (8:Int)))),(.int .u8 (IntKind.u8.wrap ((l.length:Nat):Int)))] 5)
  have oA:=newOwn (w:=w1) (n:=2) ecs rfl (by decide)
  generalize w1.alloc (.cells #[(.int .u8 (IntKind.u8.wrap (shr .i64 ((l.length:Nat):Int) (8:Int)))),(.int .u8 (IntKind.u8.wrap ((l.length:Nat):Int)))] 5)=w2 at *
  have k02:=Keep.trans kd (Keep.trans k1 kA)
  refine appB k02 k02.size (Own.mono oA (Keep.trans kd k1).size) (o1.rd.keep kA) (by simp only [List.length_cons,List.length_nil];omega) fun q w3 k3 o3=>hK q w3 k3 o3
def firstW:List Smp→List Smp→Nat→Int × Nat
 | _,[],_=>(0,0)
 | pre,s::r,i=>if wrong pre s.1=0 then firstW (pre++[s]) r (i+1) else (wrong pre s.1,i)
theorem DT.init {w:World} (h:DTab w):DT (fun _=>0) w:=⟨h,rfl⟩
theorem encode_ok (hT:DTab w0) {s:Sl} {m:List Smp} (hs:Rd w0 s 2 (smps m)) (hm:∀ x∈m,x.2<18446744073709551616) (hl:m.length≤9223372036854775807) {K:Sl→Int→Int→World→Prop}
  (hE:(firstW [] m 0).1≠0→∀ w',Keep w0 w'→K nilS (firstW [] m 0).1 ((firstW [] m 0).2:Int) w')
  (hK:(firstW [] m 0).1=0→Valid m→∀ r w',Keep w0 w'→OwnB w' w0.heap.size r (enc m)→K r 0 0 w'):C.chunk_Encode s w0 K:=by
 have hsn:s.n=m.length:=by have:=hs.2.1;rw [smps_len] at this;omega
 unfold C.chunk_Encode
 refine new_ok' (ω:=fun _=>0) 1 fun gc ω1 w1 s1 h1=>?_
 have top1:=(Top.init w0).stp s1
 have dt1:=(DT.init hT).stp s1
 unfold C.chunk_Encode.S9
 refine C.chunk_Encode.L5_ind fun X hX=>?_
 have key:∀ (d i:Nat) (ω:Tg) (w:World),i+d=m.length→firstW (m.take i) (m.drop i) i=firstW [] m 0→Top w0 ω w→DT ω w→CkT ω w 1 gc (m.take i)→X (wp gc) s ((s.n:Nat):Int) (i:Int) w:=by
  intro d
  induction d with
  | zero =>
   intro i ω w hi hf top dt h
   refine hX _ _ _ _ _ ?_
   unfold C.chunk_Encode.S7 C.chunk_Encode.S2
   refine cond_d (fun h=>by omega) (fun _=>?_)
   rw [show i=m.length by omega,List.take_length] at h
   rw [show i=m.length by omega,List.drop_length] at hf
   refine bytesC_ok h fun r w' k o=>hK (by rw [← hf];rfl) h.ok r w' (Keep.trans top.k k) (Own.mono o top.k.size)
  | succ d ih =>
   intro i ω w hi hf top dt h
   have him:i<m.length:=by omega
   refine hX _ _ _ _ _ ?_
   unfold C.chunk_Encode.S7
   refine cond_d (fun _=>?_) (fun h=>by omega)
   have hx:m[i]?=some m[i]:=List.getElem?_eq_getElem him
   refine rdS_at (hs.keep top.k) (k:=i) rfl hx fun a hc0 hc1=>cI_at hc0<|cF_at hc1 ?_
   refine new_T (ω:=ω) 7 fun g ω2 w2 k2 b2=>?_
   refine st_T b2 (by simp) fun ω3 w3 k3 b3=>?_
   refine st_TA b3 (by simp) fun ω4 w4 k4 b4=>?_
   refine cI_at (n:=m[i].1) (by rw [b4.cell];rfl)<|cF_at (b:=m[i].2) (by rw [addr_add,b4.cell];rfl) ?_
   have s4:=(k2.non (One 7)).trans (k3.trans k4)
   have dr:m.drop i=m[i]::m.drop (i+1):=List.drop_eq_getElem_cons him
   have tk:m.take (i+1)=m.take i++[m[i]]:=by rw [List.take_add_one,hx];rfl
   refine append_ok (h.stp s4) (by decide) (dt.stp s4) (hm _ (List.getElem_mem him)) (fun hw=>?_) (fun hw ω5 w5 s5 h5=>?_)
   ·refine cond_t (by simp;exact hw) ?_
    have ef:firstW [] m 0=(wrong (m.take i) m[i].1,i):=by rw [← hf,dr,firstW,if_neg hw]
    have:=hE (by rw [ef];exact hw) w4 (top.stp s4).k
    rwa [ef] at this
   ·refine cond_f rfl ?_
    rw [wI64 (by omega) (by omega),show (i:Int)+1=((i+1:Nat):Int) by omega]
    refine ih (i+1) ω5 w5 (by omega) ?_ ((top.stp s4).stp s5) ((dt.stp s4).stp s5) (by rw [tk];exact h5)
    rw [tk,← hf]
    conv=>rhs;rw [dr,firstW,if_pos hw]
 exact key m.length 0 ω1 w1 (by omega) rfl top1 dt1 h1
theorem str_toList (l:List UInt8):(str l).toList=l:=by rw [ByteArray.toList_eq]
end Go.Proofs.YtmfgmcajelmgbaaGreatDoor.Chunk

namespace Go.Proofs.YtmfgmcajelmgbaaGreatDoor.Chunk
open Go Vm Go.RowKit Num Mem Bits Vint
variable {ω ω' : Tg} {w w' w0 : World} {t g p k : Nat} {bs : List UInt8}
def rest (bs:List UInt8) (p:Nat):List Bool:=(byteBits bs).drop p
theorem rest_len (bs:List UInt8) (p:Nat):(rest bs p).length=8*bs.length-p:=by rw [rest,List.length_drop,byteBits_len]
structure RdrT (ω:Tg) (w:World) (t g:Nat) (bs:List UInt8) (p:Nat):Prop where
 ex:∃ s,BT ω w t g 224 [Sl.v s,.int .i64 ((8*bs.length:Nat):Int),.int .i64 (p:Int)]∧OBy ω w (t+1) s bs
 le:p≤8*bs.length
 small:bs.length≤1048576
theorem RdrT.stp {T:Nat→Bool} (h:RdrT ω w t g bs p) (s:Stp T ω ω' w w') (n0:T t=false:=by rfl) (n1:T (t+1)=false:=by rfl):RdrT ω' w' t g bs p:=by
 obtain ⟨q,b,o⟩:=h.ex
 exact ⟨⟨q,b.stp s n0,o.stp s n1⟩,h.le,h.small⟩
theorem newRdr_ok {b:Sl} (hb:RdB w b bs) (hs:bs.length≤1048576) (t:Nat) {x:Int} (hx:x=((8*bs.length:Nat):Int)) {K:Option Addr→World→Prop} (hK:∀ g ω' w',Stp Non ω ω' w w'→RdrT ω' w' t g bs 0→K (wp g) w'):C.bits_NewReader b x w K:=by
 subst hx
 unfold C.bits_NewReader
 have hn:=hb.len
 refine cond_d (fun h=>by omega) (fun _=>cond_d (fun h=>by omega) (fun _=>?_))
 rw [wI64 (by omega) (by omega)]
 refine cond_d (fun h=>by omega) (fun _=>?_)
 refine appB (Keep.refl w) (Nat.le_refl _) (OwnB.nil _ _) hb (by simp only [List.length_nil];omega) fun r w1 k1 o1=>?_
 rw [List.nil_append] at o1
 have s1:=Keep.stp k1 ω (t+1)
 have o1':OBy _ w1 (t+1) r bs:=Own.tag o1 (Nat.le_refl _) ω (t+1)
 refine new_T (ω:=ext ω w.heap.size (t+1)) t fun g ω2 w2 k2 b2=>?_
 exact hK g ω2 w2 (s1.trans k2) ⟨⟨r,b2,o1'.stp k2⟩,Nat.zero_le _,hs⟩
theorem at_ok (h:RdrT ω w t g bs p) {i:Nat} (hi:i<8*bs.length) {b:Bool} (hb:(byteBits bs)[i]?=some b) {K:Int→World→Prop} (hK:K ((b2n b:Nat):Int) w):C.bits_Reader_at (wp g) (i:Int) w K:=by
 unfold C.bits_Reader_at
 obtain ⟨s,bt,o⟩:=h.ex
 have hs:=h.small
 refine ptr_at (cSl_at (by rw [bt.cell];rfl) ⟨by decide,?_⟩)
 rw [idx8 (by omega)]
 have h8:i / 8<bs.length:=by omega
 refine RdB.at_ o.rd h8 ⟨by decide,?_⟩
 have e7:IntKind.u64.wrap (IntKind.i64.wrap ((7:Int)-(Int.tmod (i:Int) (8:Int))))=((7-i % 8:Nat):Int):=by
  rw [show Int.tmod (i:Int) (8:Int)=((i % 8:Nat):Int) from rfl,wI64 (by omega) (by omega),wU64_id (by omega) (by omega)];omega
 rw [e7]
 refine ⟨by omega,?_⟩
 have hlt:=bs[i / 8].toNat_lt
 have e:=shr_nat .u8 (bs[i / 8].toNat:Int) (7-i % 8) (by simp only [IntKind.bits];omega)
 have e':(bs[i / 8].toNat:Int) / 2 ^ (7-i % 8)=((bs[i / 8].toNat / 2 ^ (7-i % 8):Nat):Int):=by simp
 have hq:bs[i / 8].toNat / 2 ^ (7-i % 8)<256:=Nat.lt_of_le_of_lt (Nat.div_le_self _ _) hlt
 have eb:=bitOf_eq bs[i / 8].toNat (7-i % 8)
 rw [e,e']
 generalize bs[i / 8].toNat / 2 ^ (7-i % 8)=q at hq eb
 rw [wU64_id (by omega) (by omega),show (1:Int)=((1:Nat):Int) from rfl,bits_and rfl (by simp only [IntKind.bits];omega) (by decide),Nat.and_one_is_mod,eb]
 have hat:=byteBits_at bs (i / 8) (i % 8) _ (by omega) (List.getElem?_eq_getElem h8)
 rw [show 8*(i / 8)+i % 8=i by omega,hb] at hat
 rw [← Option.some.inj hat]
 exact hK
theorem or_bit {v:Nat} {b:Bool} (hv:v<9223372036854775808):Go.bits .or .u64 (shl .u64 (v:Int) (1:Int)) ((b2n b:Nat):Int)=((2*v+b2n b:Nat):Int):=by
 have e:=shl_nat .u64 (v:Int) 1 (by decide)
 rw [show (1:Int)=((1:Nat):Int) from rfl,e,wU64_id (by omega) (by omega),show (v:Int)*2 ^ 1=((2*v:Nat):Int) by omega]
 have:=b2n_le b
 rw [bits_or rfl (by simp only [IntKind.bits];omega) (by simp only [IntKind.bits];omega)]
 congr 1
 have h2:=Nat.two_pow_add_eq_or_of_lt (b:=b2n b) (i:=1) (by omega) v
 rw [show 2*v+b2n b=2 ^ 1*v+b2n b by omega,h2]
theorem look_ok (h:RdrT ω w t g bs p) (hk:k≤64) (hp:p+k≤8*bs.length) {K:Int→World→Prop} (hK:K ((num ((rest bs p).take k):Nat):Int) w):C.bits_Reader_look (wp g) (p:Int) (k:Int) w K:=by
 unfold C.bits_Reader_look C.bits_Reader_look.S9
 have hs:=h.small
 refine C.bits_Reader_look.L5_ind fun X hX=>?_
 have key:∀ (d i:Nat),i+d=k→X (wp g) (p:Int) ((num ((rest bs p).take i):Nat):Int) (k:Int) (i:Int) w:=by
  intro d
  induction d with
  | zero =>
   intro i hi
   refine hX _ _ _ _ _ _ ?_
   unfold C.bits_Reader_look.S7 C.bits_Reader_look.S2
   rw [show i=k by omega]
   exact cond_d (fun h=>by omega) (fun _=>hK)
  | succ d ih =>
   intro i hi
   refine hX _ _ _ _ _ _ ?_
   unfold C.bits_Reader_look.S7
   refine cond_d (fun _=>⟨by decide,?_⟩) (fun h=>by omega)
   have hl:=byteBits_len bs
   obtain ⟨b,hb⟩:∃ b,(byteBits bs)[p+i]?=some b:=⟨_,List.getElem?_eq_getElem (by omega)⟩
   rw [wI64 (x:=(p:Int)+(i:Int)) (by omega) (by omega),show (p:Int)+(i:Int)=((p+i:Nat):Int) by omega]
   refine at_ok h (by omega) hb ?_
   have hlt:=num_lt ((rest bs p).take i)
   have hil:((rest bs p).take i).length=i:=by rw [List.length_take,rest_len];omega
   have hpw:2 ^ i≤2 ^ 63:=Nat.pow_le_pow_right (by decide) (by omega)
   rw [hil] at hlt
   rw [or_bit (by omega),wI64 (by omega) (by omega),show (i:Int)+1=((i+1:Nat):Int) by omega]
   have e:(rest bs p).take (i+1)=(rest bs p).take i++[b]:=by
    have hr:(rest bs p)[i]?=some b:=by rw [rest,List.getElem?_drop];exact hb
    rw [List.take_add_one,hr];rfl
   have:=ih (i+1) (by omega)
   rwa [e,num_snoc] at this
 exact key k 0 (by omega)
theorem rbitsC_ok (h:RdrT ω w t g bs p) (hk:k≤64) {x:Int} (hx:x=(k:Int)) {K:Int→Int→World→Prop} (hS:8*bs.length<p+k→K 0 9 w.drew)
  (hK:p+k≤8*bs.length→∀ ω' w',Stp (Mem.One t) ω ω' w w'→RdrT ω' w' t g bs (p+k)→K ((num ((rest bs p).take k):Nat):Int) 0 w'):C.bits_Reader_Bits (wp g) x w K:=by
 subst hx
 unfold C.bits_Reader_Bits
 have hs:=h.small
 have hle:=h.le
 have hd:=h.stp (drew_stp ω w)
 obtain ⟨s,b,o⟩:=hd.ex
 refine cond_f rfl (cond_d (fun h=>by omega) (fun _=>cond_d (fun h=>by omega) (fun _=>?_)))
 refine ptr_at (cI_at (n:=((8*bs.length:Nat):Int)) (by rw [addr_add,b.cell];rfl) (ptr_at (cI_at (n:=(p:Int)) (by rw [addr_add,b.cell];rfl) ?_)))
 rw [wI64 (by omega) (by omega)]
 refine cond_d (fun h=>hS (by omega)) (fun hp=>?_)
 refine ptr_at (cI_at (n:=(p:Int)) (by rw [addr_add,b.cell];rfl) ?_)
 refine look_ok hd hk (by omega) ?_
 refine ptr_at (cI_at (n:=(p:Int)) (by rw [addr_add,b.cell];rfl) (ptr_at (st_TA b (by simp) fun ω2 w2 s2 b2=>?_)))
 rw [wI64 (by omega) (by omega)] at b2
 exact hK (by omega) ω2 w2 (((drew_stp ω w).non _).trans s2) ⟨⟨s,b2,o.stp s2 (beq_no (by omega))⟩,by omega,hs⟩
structure RdS (ω:Tg) (w:World) (t gd:Nat) (bs:List UInt8) (p:Nat) (A B:Int) (kn bad:Bool):Prop where
 ex:∃ gr,BT ω w t gd 185 [.pointer (wp gr),.int .i64 A,.int .i64 B,.bool kn,.bool bad]∧RdrT ω w (t+1) gr bs p
variable {A B : Int} {kn bad : Bool} {gd : Nat}
theorem RdS.stp {T:Nat→Bool} (h:RdS ω w t gd bs p A B kn bad) (s:Stp T ω ω' w w') (n0:T t=false) (n1:T (t+1)=false) (n2:T (t+2)=false):RdS ω' w' t gd bs p A B kn bad:=by
 obtain ⟨gr,b,r⟩:=h.ex
 exact ⟨gr,b.stp s n0,r.stp s n1 n2⟩
theorem RdS.non (h:RdS ω w t gd bs p A B kn bad) (s:Stp Non ω ω' w w'):RdS ω' w' t gd bs p A B kn bad:=h.stp s rfl rfl rfl
theorem dbits_ok (h:RdS ω w t gd bs p A B kn bad) (hk:k≤64) {x:Int} (hx:x=(k:Int)) {K:Int→World→Prop}
  (hK:∀ (v p':Nat) bad' ω' w',v<2 ^ k→(∀ y tail,y<2 ^ k→rest bs p=low y k++tail→v=y∧rest bs p'=tail∧bad'=bad)→Stp (Rng t 3) ω ω' w w'→RdS ω' w' t gd bs p' A B kn bad'→K (v:Int) w'):C.chunk_reader_bits (wp gd) x w K:=by
 unfold C.chunk_reader_bits
 obtain ⟨gr,b,r⟩:=h.ex
 refine ptr_at (cP_at (b:=wp gr) (by rw [b.cell];rfl) ?_)
 refine rbitsC_ok r hk hx (fun hp=>?_) (fun hp ω1 w1 s1 r1=>?_)
 ·have kd:=drew_stp ω w
  have b':=b.stp kd
  have r':=r.stp kd
  have no:∀ (y:Nat) (tail:List Bool),y<2 ^ k→rest bs p=low y k++tail→False:=fun y tail _ e=>by
   have:=congrArg List.length e
   rw [rest_len,List.length_append,low_len] at this
   have:=r.le
   omega
  have fin:∀ ω2 w2 (s2:Stp (Mem.One t) ω ω2 w.drew w2) (b2:BT ω2 w2 t gd 185 [.pointer (wp gr),.int .i64 A,.int .i64 B,.bool kn,.bool true]),K 0 w2:=fun ω2 w2 s2 b2 =>
   hK 0 p true ω2 w2 (Nat.pow_pos (by decide)) (fun y tail hy e=>(no y tail hy e).elim) ((kd.non _).trans (s2.rng (by omega) (by omega))) ⟨gr,b2,r'.stp s2 (beq_no (by omega)) (beq_no (by omega))⟩
  refine ptr_at (cB_at (b:=bad) (by rw [addr_add,b'.cell];rfl) ?_)
  refine cond_of (fun _=>ptr_at (st_TA b' (by simp) fun ω2 w2 s2 b2=>fin ω2 w2 s2 b2)) (fun _=>ptr_at (st_TA b' (by simp) fun ω2 w2 s2 b2=>fin ω2 w2 s2 b2))
 ·have b1:=b.stp s1 (beq_no (by omega))
  have hlt:=num_lt ((rest bs p).take k)
  have hil:((rest bs p).take k).length=k:=by rw [List.length_take,rest_len];omega
  rw [hil] at hlt
  have good:∀ y tail,y<2 ^ k→rest bs p=low y k++tail→num ((rest bs p).take k)=y∧rest bs (p+k)=tail:=fun y tail hy e=>by
   obtain ⟨e1,e2⟩:=take_low y k tail
   refine ⟨by rw [e,e1,num_low hy],?_⟩
   have:rest bs (p+k)=(rest bs p).drop k:=by rw [rest,rest,List.drop_drop]
   rw [this,e,e2]
  refine ptr_at (cB_at (b:=bad) (by rw [addr_add,b1.cell];rfl) ?_)
  refine cond_of (fun hb=>ptr_at (st_TA b1 (by simp) fun ω2 w2 s2 b2=>?_)) (fun hb=>ptr_at (st_TA b1 (by simp) fun ω2 w2 s2 b2=>?_))
  ·subst hb
   exact hK _ (p+k) true ω2 w2 hlt (fun y tail hy e=>⟨(good y tail hy e).1,(good y tail hy e).2,rfl⟩) ((s1.rng (by omega) (by omega)).trans (s2.rng (by omega) (by omega))) ⟨gr,b2,r1.stp s2 (beq_no (by omega)) (beq_no (by omega))⟩
  ·subst hb
   exact hK _ (p+k) false ω2 w2 hlt (fun y tail hy e=>⟨(good y tail hy e).1,(good y tail hy e).2,rfl⟩) ((s1.rng (by omega) (by omega)).trans (s2.rng (by omega) (by omega))) ⟨gr,b2,r1.stp s2 (beq_no (by omega)) (beq_no (by omega))⟩
end Go.Proofs.YtmfgmcajelmgbaaGreatDoor.Chunk

namespace Go.Proofs.YtmfgmcajelmgbaaGreatDoor.Chunk
open Go Vm Go.RowKit Num Mem Bits Vint
variable {ω ω' : Tg} {w w' w0 : World} {t gd p k : Nat} {bs : List UInt8} {A B : Int} {kn bad : Bool}
theorem and127 (v:Nat) (hv:v<256):Go.bits .and .u64 (v:Int) (127:Int)=((v % 128:Nat):Int):=by
 rw [show (127:Int)=((127:Nat):Int) from rfl,bits_and rfl (by simp only [IntKind.bits];omega) (by decide)]
 congr 1
 exact Nat.and_two_pow_sub_one_eq_mod v 7
theorem shl64 (z e:Nat) (he:e≤64):shl .u64 (z:Int) (e:Int)=((z*2 ^ e % 18446744073709551616:Nat):Int):=by
 have h:=shl_nat .u64 (z:Int) e (by simp only [IntKind.bits];omega)
 rw [h,wU64]
 have:(z:Int)*2 ^ e=((z*2 ^ e:Nat):Int):=by simp
 rw [this];omega
theorem or64 {a b:Nat} (ha:a<18446744073709551616) (hb:b<18446744073709551616):Go.bits .or .u64 (a:Int) (b:Int)=((a ||| b:Nat):Int)∧(a ||| b)<18446744073709551616 :=
 ⟨bits_or rfl (by simp only [IntKind.bits];omega) (by simp only [IntKind.bits];omega),Nat.or_lt_two_pow (n:=64) ha hb⟩
theorem or_plus {acc z e:Nat} (ha:acc<2 ^ e) (hz:z*2 ^ e<18446744073709551616):acc ||| (z*2 ^ e % 18446744073709551616)=acc+z*2 ^ e:=by
 rw [Nat.mod_eq_of_lt hz]
 have:=Nat.two_pow_add_eq_or_of_lt ha z
 rw [Nat.mul_comm,Nat.or_comm,← this];omega
theorem byteBits_one (c:UInt8) (l:List UInt8):byteBits (c::l)=low c.toNat 8++byteBits l:=rfl
theorem ofNat_val {n:Nat} (h:n<256):(UInt8.ofNat n).toNat=n:=by simp [UInt8.toNat_ofNat'];omega
set_option maxRecDepth 20000 in
theorem uvar_ok (h:RdS ω w t gd bs p A B kn bad) {K:Int→World→Prop}
  (hK:∀ (v p':Nat) bad' ω' w',v<18446744073709551616→(∀ n tail,n<18446744073709551616→rest bs p=byteBits (putU n)++tail→v=n∧rest bs p'=tail∧bad'=bad)→Stp (Rng t 3) ω ω' w w'→RdS ω' w' t gd bs p' A B kn bad'→K (v:Int) w'):C.chunk_reader_uvarint (wp gd) w K:=by
 unfold C.chunk_reader_uvarint C.chunk_reader_uvarint.S9
 refine C.chunk_reader_uvarint.L5_ind fun X hX=>?_
 have key:∀ (j i acc p1:Nat) (b1:Bool) (ω1:Tg) (w1:World),i+j=10→acc<18446744073709551616→Stp (Rng t 3) ω ω1 w w1→RdS ω1 w1 t gd bs p1 A B kn b1 →
   (∀ n tail,n<18446744073709551616→rest bs p=byteBits (putU n)++tail→∃ m,n=acc+m*2 ^ (7*i)∧acc<2 ^ (7*i)∧(i=0∨1≤m)∧rest bs p1=byteBits (putU m)++tail∧b1=bad)→X (wp gd) (acc:Int) (i:Int) w1:=by
  intro j
  induction j with
  | zero =>
   intro i acc p1 b1 ω1 w1 hi ha s r good
   refine hX _ _ _ _ ?_
   unfold C.chunk_reader_uvarint.S7 C.chunk_reader_uvarint.S2
   refine cond_d (fun h=>by omega) (fun _=>hK acc p1 b1 ω1 w1 ha (fun n tail hn e=>?_) s r)
   obtain ⟨m,h1,_,h2,_⟩:=good n tail hn e
   have:i=10:=by omega
   subst this
   have:1*2 ^ (7*10)≤m*2 ^ (7*10):=Nat.mul_le_mul_right _ (by omega)
   omega
  | succ j ih =>
   intro i acc p1 b1 ω1 w1 hi ha s r good
   refine hX _ _ _ _ ?_
   unfold C.chunk_reader_uvarint.S7
   refine cond_d (fun _=>?_) (fun h=>by omega)
   refine dbits_ok r (k:=8) (by decide) rfl fun v p2 b2 ω2 w2 hv hg s2 r2=>?_
   have e7:IntKind.u64.wrap (IntKind.i64.wrap ((7:Int)*(i:Int)))=((7*i:Nat):Int):=by rw [wI64 (by omega) (by omega),wU64_id (by omega) (by omega)];omega
   rw [e7]
   refine ⟨by omega,?_⟩
   rw [and127 v (by omega),shl64 _ _ (by omega)]
   have hy:v % 128*2 ^ (7*i) % 18446744073709551616<18446744073709551616:=Nat.mod_lt _ (by decide)
   obtain ⟨eo,ho⟩:=or64 ha hy
   rw [eo]
   have hpow:2 ^ (7*(i+1))=2 ^ (7*i)*128:=by rw [show 7*(i+1)=7*i+7 by omega,Nat.pow_add]
   -- what was ahead
   have look:∀ n tail,n<18446744073709551616→rest bs p=byteBits (putU n)++tail→∃ m,n=acc+m*2 ^ (7*i)∧acc<2 ^ (7*i)∧((m<128∧v=m∧rest bs p2=tail∧b2=bad)∨(128≤m∧v=m % 128+128∧rest bs p2=byteBits (putU (m / 128))++tail∧b2=bad)):=by
    intro n tail hn e
    obtain ⟨m,h1,h2,_,h3,h4⟩:=good n tail hn e
    refine ⟨m,h1,h2,?_⟩
    rcases Nat.lt_or_ge m 128 with hm | hm
    ·rw [putU_lt hm,byteBits_one,ofNat_val (by omega)] at h3
     obtain ⟨q1,q2,q3⟩:=hg m tail (by omega) (by rw [h3];simp [byteBits])
     exact .inl ⟨hm,q1,q2,q3.trans h4⟩
    ·rw [putU_ge (by omega),byteBits_one,ofNat_val (by omega),List.append_assoc] at h3
     obtain ⟨q1,q2,q3⟩:=hg (m % 128+128) _ (by omega) h3
     exact .inr ⟨hm,q1,q2,q3.trans h4⟩
   refine cond_d (fun hlt=>?_) (fun hge=>?_)
   ·unfold C.chunk_reader_uvarint.S2
    refine hK _ p2 b2 ω2 w2 ho (fun n tail hn e=>?_) (s.trans s2) r2
    obtain ⟨m,h1,h2,hc⟩:=look n tail hn e
    rcases hc with ⟨hm,rfl,q2,q3⟩ | ⟨hm,q1,_⟩
    ·refine ⟨?_,q2,q3⟩
     rw [Nat.mod_eq_of_lt hm,or_plus h2 (by omega),h1]
    ·omega
   ·rw [wI64 (by omega) (by omega),show (i:Int)+1=((i+1:Nat):Int) by omega]
    refine ih (i+1) _ p2 b2 ω2 w2 (by omega) ho (s.trans s2) r2 fun n tail hn e=>?_
    obtain ⟨m,h1,h2,hc⟩:=look n tail hn e
    rcases hc with ⟨hm,rfl,_⟩ | ⟨hm,rfl,q2,q3⟩
    ·omega
    ·have em:(m % 128+128) % 128=m % 128:=by omega
     have hsm:m % 128*2 ^ (7*i)≤m*2 ^ (7*i):=Nat.mul_le_mul_right _ (Nat.mod_le _ _)
     have e3:m*2 ^ (7*i)=m % 128*2 ^ (7*i)+m / 128*2 ^ (7*(i+1)):=by
      rw [hpow]
      have:m=m % 128+m / 128*128:=by omega
      conv=>lhs;rw [this,Nat.add_mul,Nat.mul_assoc,Nat.mul_comm 128]
     refine ⟨m / 128,?_,?_,.inr (by omega),q2,q3⟩
     ·rw [em,or_plus h2 (by omega)];omega
     ·rw [em,or_plus h2 (by omega),hpow]
      have:m % 128*2 ^ (7*i)≤127*2 ^ (7*i):=Nat.mul_le_mul_right _ (by omega)
      omega
 exact key 10 0 0 p bad ω w (by omega) (by decide) (Stp.refl _ _ _) h fun n tail hn e=>⟨n,by simp,by decide,.inl rfl,e,rfl⟩
end Go.Proofs.YtmfgmcajelmgbaaGreatDoor.Chunk
namespace Go.Proofs.YtmfgmcajelmgbaaGreatDoor.Chunk
open Go Vm Go.RowKit Num Mem Bits Vint
variable {ω ω' : Tg} {w w' w0 : World} {t gd p k : Nat} {bs : List UInt8} {A B : Int} {kn bad : Bool}
theorem vform_cases (wn:Win) (x:Nat):(x=0∧vform wn x=(low 0 1,wn))∨(x≠0∧∃ a b,wn=some (a,b)∧a≤lead x∧b≤trail x∧vform wn x=(low 1 1++low 0 1++low (x / 2 ^ b) (64-a-b),wn)) ∨
  (x≠0∧vform wn x=(low 1 1++low 1 1++low (lead x) 5++low ((64-lead x-trail x) % 64) 6++low (x / 2 ^ trail x) (64-lead x-trail x),some (lead x,trail x))):=by
 unfold vform
 split
 ·rename_i h;exact .inl ⟨h,rfl⟩
 ·rename_i h
  split
  ·rename_i hh
   cases wn with
   | none=>cases hh
   | some ab =>
    obtain ⟨a,b⟩:=ab
    simp only [holdsW,Bool.and_eq_true,decide_eq_true_eq] at hh
    exact .inr (.inl ⟨h,a,b,rfl,hh.1,hh.2,rfl⟩)
  ·exact .inr (.inr ⟨h,rfl⟩)
def okW (kn:Bool) (A B:Int):Prop:=kn=true→0≤A∧A≤31∧1≤64-A-B∧64-A-B≤64
def repr (wn:Win) (kn:Bool) (A B:Int):Prop:=match wn with | none=>kn=false | some (a,b)=>kn=true∧A=(a:Int)∧B=(b:Int)
theorem RdS.setBad (h:RdS ω w t gd bs p A B kn bad) {K:World→Prop} (hK:∀ ω' w',Stp (Rng t 3) ω ω' w w'→RdS ω' w' t gd bs p A B kn true→K w'):G.st (Addr.add ⟨gd,0,none⟩ 4) (.bool true) w K:=by
 obtain ⟨gr,b,r⟩:=h.ex
 exact st_TA b (by simp) fun ω2 w2 s2 b2=>hK ω2 w2 (s2.rng (by omega) (by omega)) ⟨gr,b2,r.stp s2 (beq_no (by omega)) (beq_no (by omega))⟩
theorem same_cell {g j:Nat} {v:Value} {w w':World} (h:w.cell? ⟨g,j,none⟩=some v) (h':w'.cell? ⟨g,j,none⟩=some v):sameAt ⟨g,j,none⟩ 1 w w':=by
 refine ⟨by rw [h,h'],fun i hi=>?_⟩
 have:i=0:=by omega
 subst this
 rw [addr_add,Nat.add_zero,h,h']
theorem valS2_ok (h:RdS ω w t gd bs p A B kn bad) (hW:okW kn A B) {K:Int→World→Prop}
  (hK:∀ (v p':Nat) bad' ω' w',v<18446744073709551616→(∀ a b x tail,kn=true→A=((a:Nat):Int)→B=((b:Nat):Int)→a≤31→a+b≤63→x<18446744073709551616→x≠0→a≤lead x→b≤trail x→rest bs p=low (x / 2 ^ b) (64-a-b)++tail→v=x∧rest bs p'=tail∧bad'=bad) →
   Stp (Rng t 3) ω ω' w w'→RdS ω' w' t gd bs p' A B kn bad'→K (v:Int) w'):C.chunk_reader_value.S2 K (wp gd) w:=by
 unfold C.chunk_reader_value.S2
 obtain ⟨gr,b,r⟩:=h.ex
 refine ptr_at (cB_at (b:=kn) (by rw [addr_add,b.cell];rfl) ?_)
 refine cond_of (fun hk=>?_) (fun hk=>?_)
 ·have hk':kn=false:=by cases kn;rfl;cases hk
  refine ptr_at (h.setBad fun ω2 w2 s2 h2=>?_)
  exact hK 0 p true ω2 w2 (by decide) (fun a b x tail e=>by rw [hk'] at e;cases e) s2 h2
 have hk':kn=true:=by cases kn;cases hk;rfl
 obtain ⟨hA0,hA1,hn1,hn2⟩:=hW hk'
 refine ptr_at (cI_at (n:=B) (by rw [addr_add,addr_add,b.cell];rfl) ?_)
 refine cond_d (fun hB=>?_) (fun hB=>?_)
 ·refine ptr_at (h.setBad fun ω2 w2 s2 h2=>?_)
  exact hK 0 p true ω2 w2 (by decide) (fun a b x tail _ _ e=>by omega) s2 h2
 have kd:=drew_stp ω w
 have hd:=h.non kd
 have b':=b.stp kd
 refine ptr_at (cI_at (n:=A) (by rw [addr_add,b'.cell];rfl) (ptr_at (cI_at (n:=B) (by rw [addr_add,addr_add,b'.cell];rfl) (ptr_at (cI_at (n:=B) (by rw [addr_add,addr_add,b'.cell];rfl) ?_)))))
 rw [wI64 (x:=64-A) (by omega) (by omega),wI64 (by omega) (by omega)]
 refine dbits_ok hd (k:=(64-A-B).toNat) (by omega) (by omega) fun v p2 b2 ω2 w2 hv hg s2 r2=>⟨?_,by rw [wU64];omega,?_⟩
 ·rw [addr_add,addr_add]
  obtain ⟨gr2,bb,rr⟩:=r2.ex
  exact same_cell (v:=.int .i64 B) (by rw [b'.cell];rfl) (by rw [bb.cell];rfl)
 rw [wU64_id (by omega) (by omega),show B=((B.toNat:Nat):Int) by omega,shl64 _ _ (by omega)]
 refine hK _ p2 b2 ω2 w2 (Nat.mod_lt _ (by decide)) (fun a c x tail _ ea eb ha hab hx hx0 hla htb e=>?_) ((kd.non _).trans s2) r2
 have en:(64-A-B).toNat=64-a-c:=by omega
 rw [en] at hg hv
 obtain ⟨q1,q2,q3⟩:=hg _ tail (mid_lt hx hla (by omega)) e
 refine ⟨?_,q2,q3⟩
 rw [q1,show B.toNat=c by omega,mul_div_trail hx hx0 htb,Nat.mod_eq_of_lt hx]
theorem value_rd (h:RdS ω w t gd bs p A B kn bad) (hW:okW kn A B) {K:Int→World→Prop}
  (hK:∀ (v p':Nat) bad' A' B' kn' ω' w',v<18446744073709551616→okW kn' A' B'→(∀ wn x tail,WinOk wn→repr wn kn A B→x<18446744073709551616→rest bs p=(vform wn x).1++tail→v=x∧rest bs p'=tail∧bad'=bad∧repr (vform wn x).2 kn' A' B') →
   Stp (Rng t 3) ω ω' w w'→RdS ω' w' t gd bs p' A' B' kn' bad'→K (v:Int) w'):C.chunk_reader_value (wp gd) w K:=by
 unfold C.chunk_reader_value
 refine dbits_ok h (k:=1) (by decide) rfl fun v1 p1 b1 ω1 w1 hv1 hg1 s1 r1=>?_
 -- the first bit
 have g0:∀ wn x tail,rest bs p=(vform wn x).1++tail→(x=0∧vform wn x=(low 0 1,wn)∧v1=0∧rest bs p1=tail∧b1=bad)∨(v1=1∧b1=bad∧x≠0 ∧
   ((∃ a b,wn=some (a,b)∧a≤lead x∧b≤trail x∧vform wn x=(low 1 1++low 0 1++low (x / 2 ^ b) (64-a-b),wn)∧rest bs p1=low 0 1++(low (x / 2 ^ b) (64-a-b)++tail)) ∨
    ((vform wn x).2=some (lead x,trail x)∧rest bs p1=low 1 1++(low (lead x) 5++(low ((64-lead x-trail x) % 64) 6++(low (x / 2 ^ trail x) (64-lead x-trail x)++tail)))))):=by
  intro wn x tail e
  rcases vform_cases wn x with ⟨h0,hf⟩ | ⟨h0,a,b,hw,ha,hb,hf⟩ | ⟨h0,hf⟩
  ·rw [hf] at e
   obtain ⟨q1,q2,q3⟩:=hg1 0 tail (by decide) e
   exact .inl ⟨h0,hf,q1,q2,q3⟩
  ·rw [hf] at e
   simp only [List.append_assoc] at e
   obtain ⟨q1,q2,q3⟩:=hg1 1 _ (by decide) e
   exact .inr ⟨q1,q3,h0,.inl ⟨a,b,hw,ha,hb,hf,q2⟩⟩
  ·rw [hf] at e
   simp only [List.append_assoc] at e
   obtain ⟨q1,q2,q3⟩:=hg1 1 _ (by decide) e
   exact .inr ⟨q1,q3,h0,.inr ⟨by rw [hf],q2⟩⟩
 refine cond_eq (fun hz=>?_) (fun hz=>?_)
 ·refine hK 0 p1 b1 A B kn ω1 w1 (by decide) hW (fun wn x tail _ hr _ e=>?_) s1 r1
  rcases g0 wn x tail e with ⟨h0,hf,_,q2,q3⟩ | ⟨q1,_⟩
  ·exact ⟨h0.symm,q2,q3,by rw [hf];exact hr⟩
  ·omega
 have one:v1=1:=by omega
 refine dbits_ok r1 (k:=1) (by decide) rfl fun v2 p2 b2 ω2 w2 hv2 hg2 s2 r2=>?_
 have s02:=s1.trans s2
 have fin:∀ (A' B':Int) (kn':Bool) (p3:Nat) (b3:Bool) (ω3:Tg) (w3:World),Stp (Rng t 3) ω ω3 w w3→RdS ω3 w3 t gd bs p3 A' B' kn' b3→okW kn' A' B' →
   (∀ wn x tail,WinOk wn→repr wn kn A B→x<18446744073709551616→rest bs p=(vform wn x).1++tail→∃ a b,kn'=true∧A'=((a:Nat):Int)∧B'=((b:Nat):Int)∧a≤31∧a+b≤63∧x≠0∧a≤lead x∧b≤trail x∧(vform wn x).2=some (a,b)∧rest bs p3=low (x / 2 ^ b) (64-a-b)++tail∧b3=bad)→C.chunk_reader_value.S2 K (wp gd) w3:=by
  intro A' B' kn' p3 b3 ω3 w3 s3 r3 hW3 good
  refine valS2_ok r3 hW3 fun v p4 b4 ω4 w4 hv hg s4 r4=>hK v p4 b4 A' B' kn' ω4 w4 hv hW3 (fun wn x tail hwn hr hx e=>?_) (s3.trans s4) r4
  obtain ⟨a,b,c1,c2,c3,c4,c5,c6,c7,c8,c9,c10,c11⟩:=good wn x tail hwn hr hx e
  obtain ⟨q1,q2,q3⟩:=hg a b x tail c1 c2 c3 c4 c5 hx c6 c7 c8 c10
  exact ⟨q1,q2,q3.trans c11,by rw [c9];exact ⟨c1,c2,c3⟩⟩
 refine cond_eq (fun h1=>?_) (fun h1=>?_)
 ·refine dbits_ok r2 (k:=5) (by decide) rfl fun v5 p5 b5 ω5 w5 hv5 hg5 s5 r5=>?_
  refine dbits_ok r5 (k:=6) (by decide) rfl fun v6 p6 b6 ω6 w6 hv6 hg6 s6 r6=>?_
  have s06:=(s02.trans s5).trans s6
  -- what was ahead
  have g2:∀ wn x tail,rest bs p=(vform wn x).1++tail→x≠0∧(vform wn x).2=some (lead x,trail x)∧(lead x<32→v5=lead x∧v6=(64-lead x-trail x) % 64∧rest bs p6=low (x / 2 ^ trail x) (64-lead x-trail x)++tail∧b6=bad):=by
   intro wn x tail e
   rcases g0 wn x tail e with ⟨_,_,q1,_⟩ | ⟨_,q3,h0,⟨a,b,_,_,_,_,q2⟩ | ⟨hf,q2⟩⟩
   ·omega
   ·have:=(hg2 0 _ (by decide) q2).1
    omega
   ·refine ⟨h0,hf,fun hl=>?_⟩
    obtain ⟨_,u2,u3⟩:=hg2 1 _ (by decide) q2
    obtain ⟨y1,y2,y3⟩:=hg5 _ _ (by omega) u2
    obtain ⟨z1,z2,z3⟩:=hg6 _ _ (by omega) y2
    exact ⟨y1,z1,z2,((z3.trans y3).trans u3).trans q3⟩
  rw [wI64 (x:=(v6:Int)) (by omega) (by omega),wI64 (x:=(v5:Int)) (by omega) (by omega),wI64 (x:=64-(v5:Int)) (by omega) (by omega)]
  have put:∀ (B':Int),-9223372036854775808≤B'∧B'<9223372036854775808→okW true (v5:Int) B'→(∀ wn x tail,x<18446744073709551616→rest bs p=(vform wn x).1++tail→B'=((trail x:Nat):Int)) →
    G.ptr (wp gd) fun p31=>G.st (p31.add 1) (.int .i64 (v5:Int)) w6 fun w32=>G.st ((p31.add 1).add 1) (.int .i64 (IntKind.i64.wrap B')) w32 fun w33=>G.ptr (wp gd) fun p34=>G.st (p34.add 3) (.bool true) w33 fun w35=>C.chunk_reader_value.S2 K (wp gd) w35:=by
   intro B' hB' hok hB
   rw [wI64 hB'.1 hB'.2]
   obtain ⟨gr,bb,rr⟩:=r6.ex
   refine ptr_at (st_TA bb (by simp) fun ω7 w7 s7 b7=>?_)
   rw [addr_add,addr_add]
   refine st_T b7 (by simp) fun ω8 w8 s8 b8=>?_
   refine ptr_at (st_TA b8 (by simp) fun ω9 w9 s9 b9=>?_)
   have s69:=(s7.trans s8).trans s9
   refine fin (v5:Int) B' true p6 b6 ω9 w9 (s06.trans (s69.rng (by omega) (by omega))) ⟨gr,b9,rr.stp s69 (beq_no (by omega)) (beq_no (by omega))⟩ hok fun wn x tail hwn hr hx e=>?_
   obtain ⟨h0,hf,hh⟩:=g2 wn x tail e
   have hl:=lead_le x
   have hlt:=lead_trail hx h0
   obtain ⟨q1,q2,q3,q4⟩:=hh (by omega)
   exact ⟨lead x,trail x,rfl,by rw [q1],hB wn x tail hx e,hl,hlt,h0,Nat.le_refl _,Nat.le_refl _,hf,q3,q4⟩
  have tr:∀ wn x tail,x<18446744073709551616→rest bs p=(vform wn x).1++tail→v5=lead x∧v6=(64-lead x-trail x) % 64∧lead x+trail x≤63:=by
   intro wn x tail hx e
   obtain ⟨h0,hf,hh⟩:=g2 wn x tail e
   have hl:=lead_le x
   obtain ⟨q1,q2,_⟩:=hh (by omega)
   exact ⟨q1,q2,lead_trail hx h0⟩
  refine cond_eq (fun h6=>put _ (by omega) (fun _=>by omega) fun wn x tail hx e=>?_) (fun h6=>put _ (by omega) (fun _=>by omega) fun wn x tail hx e=>?_)
  ·obtain ⟨q1,q2,q3⟩:=tr wn x tail hx e
   omega
  ·obtain ⟨q1,q2,q3⟩:=tr wn x tail hx e
   omega
 ·refine fin A B kn p2 b2 ω2 w2 s02 r2 hW fun wn x tail hwn hr hx e=>?_
  rcases g0 wn x tail e with ⟨_,_,q1,_⟩ | ⟨_,q3,h0,⟨a,b,hw,ha,hb,hf,q2⟩ | ⟨hf,q2⟩⟩
  ·omega
  ·obtain ⟨_,u2,u3⟩:=hg2 0 _ (by decide) q2
   rw [hw] at hr
   obtain ⟨c1,c2,c3⟩:=hr
   obtain ⟨c4,c5⟩:=hwn a b hw
   exact ⟨a,b,c1,c2,c3,c4,c5,h0,ha,hb,by rw [hf];exact hw,u2,u3.trans q3⟩
  ·have:=(hg2 1 _ (by decide) q2).1
   omega
end Go.Proofs.YtmfgmcajelmgbaaGreatDoor.Chunk
namespace Go.Proofs.YtmfgmcajelmgbaaGreatDoor.Chunk
open Go Vm Go.RowKit Num Mem Bits Vint
variable {ω ω' : Tg} {w w' w0 : World} {t gd p k : Nat} {bs : List UInt8} {A B : Int} {kn bad : Bool}
def tcls (d:Int):Nat:=if d=0 then 0 else if fitsB d 14 then 1 else if fitsB d 17 then 2 else if fitsB d 20 then 3 else 4
def tw (c:Nat):Nat:=[0,14,17,20,64].getD c 0
def tbody (d:Int):List Bool:=low (lowN d (tw (tcls d))) (tw (tcls d))
theorem tcls_le (d:Int):tcls d≤4:=by unfold tcls;repeat' split<;>try omega
theorem tform_cls (d:Int):tform d=List.replicate (tcls d) true++((if tcls d<4 then [false] else [])++tbody d):=by
 unfold tform tbody tcls
 split
 ·rfl
 ·split
  ·rfl
  ·split
   ·rfl
   ·split
    ·rfl
    ·rfl
theorem tcls_fits {d:Int} (h0:tcls d≠0) (h4:tcls d<4):fitsB d (tw (tcls d))=true:=by
 unfold tcls at *
 split at h0
 ·exact absurd rfl h0
 ·split
  ·rename_i h;exact absurd h (by assumption)
  ·split
   ·assumption
   ·split
    ·assumption
    ·split
     ·assumption
     ·rename_i h1 h2 h3 h4'
      simp only [h1,h2,h3,h4',if_false,if_neg] at h4
      simp at h4
theorem says {d:Int} {k:Nat} (hk:0<k) (hk':k≤56) (hf:fitsB d k=true):(lowN d k≤2 ^ (k-1)∧d=(lowN d k:Int))∨(2 ^ (k-1)<lowN d k∧d=(lowN d k:Int)-2 ^ k):=by
 have hp:2 ^ (k-1)≤2 ^ 55:=Nat.pow_le_pow_right (by decide) (by omega)
 have e2:2 ^ k=2 ^ (k-1)*2:=by rw [← Nat.pow_succ];congr 1;omega
 have e4:(2:Int) ^ (k-1)=((2 ^ (k-1):Nat):Int):=by simp
 have e5:(2:Int) ^ k=((2 ^ k:Nat):Int):=by simp
 simp only [fitsB,Bool.and_eq_true,decide_eq_true_eq] at hf
 rw [e4] at hf
 rw [e5]
 unfold lowN
 rw [if_pos (by omega)]
 have hmod:18446744073709551616 % 2 ^ k=0:=by
  have:(18446744073709551616:Nat)=2 ^ k*2 ^ (64-k):=by rw [← Nat.pow_add,show k+(64-k)=64 by omega]
  rw [this,Nat.mul_mod_right]
 by_cases hd:0≤d
 ·left
  have:uN d=d.toNat:=by unfold uN;omega
  rw [this,Nat.mod_eq_of_lt (by omega)]
  omega
 ·right
  have hu:uN d=18446744073709551616-(-d).toNat:=by unfold uN;omega
  obtain ⟨q,hq⟩:∃ q,18446744073709551616=2 ^ k*q:=⟨2 ^ (64-k),by rw [← Nat.pow_add,show k+(64-k)=64 by omega]⟩
  have hq1:1≤q:=by
   rcases Nat.eq_zero_or_pos q with h | h
   ·rw [h] at hq;simp at hq
   ·exact h
  have hv:uN d=2 ^ k*(q-1)+(2 ^ k-(-d).toNat):=by
   rw [hu,hq,Nat.mul_sub,Nat.mul_one]
   have:2 ^ k*1≤2 ^ k*q:=Nat.mul_le_mul_left _ hq1
   omega
  rw [hv,Nat.mul_add_mod,Nat.mod_eq_of_lt (by omega)]
  omega
set_option maxRecDepth 20000 in
theorem timeS2_ok (h:RdS ω w t gd bs p A B kn bad) {k:Nat} (hk:0<k) (hk':k≤56) {x:Int} (hx:x=(k:Int)) {K:Int→World→Prop}
  (hK:∀ (v:Int) (p':Nat) bad' ω' w',(∀ d tail,fitsB d k=true→rest bs p=low (lowN d k) k++tail→v=d∧rest bs p'=tail∧bad'=bad)→Stp (Rng t 3) ω ω' w w'→RdS ω' w' t gd bs p' A B kn bad'→K v w'):C.chunk_reader_time.S2 K (wp gd) x w:=by
 unfold C.chunk_reader_time.S2
 refine dbits_ok h (k:=k) (by omega) hx fun v p2 b2 ω2 w2 hv hg s2 r2=>?_
 subst hx
 have hp:2 ^ (k-1)≤2 ^ 55:=Nat.pow_le_pow_right (by decide) (by omega)
 have e2:2 ^ k=2 ^ (k-1)*2:=by rw [← Nat.pow_succ];congr 1;omega
 have e1:IntKind.u64.wrap (IntKind.i64.wrap ((k:Int)-(1:Int)))=((k-1:Nat):Int):=by
  rw [wI64 (by omega) (by omega),wU64_id (by omega) (by omega)];omega
 have es:shl .u64 (1:Int) ((k-1:Nat):Int)=((2 ^ (k-1):Nat):Int):=by
  have:=shl64 1 (k-1) (by omega)
  rw [Nat.one_mul,Nat.mod_eq_of_lt (by omega)] at this
  exact this
 have es2:shl .i64 (1:Int) ((k:Nat):Int)=((2 ^ k:Nat):Int):=by
  have:=shl_nat .i64 (1:Int) k (by simp only [IntKind.bits];omega)
  rw [this,show (1:Int)*2 ^ k=((2 ^ k:Nat):Int) by simp,wI64 (by omega) (by omega)]
 rw [e1,es]
 refine ⟨by omega,?_⟩
 have vv:IntKind.i64.wrap (v:Int)=(v:Int):=wI64 (by omega) (by omega)
 refine cond_d (fun h1=>⟨by rw [wU64];omega,?_⟩) (fun h1=>?_)
 ·rw [wU64_id (by omega) (by omega),es2,vv,wI64 (by omega) (by omega)]
  refine hK _ p2 b2 ω2 w2 (fun d tail hf e=>?_) s2 r2
  obtain ⟨q1,q2,q3⟩:=hg _ tail (lowN_lt2 d (by omega)) e
  have e5:(2:Int) ^ k=((2 ^ k:Nat):Int):=by simp
  rcases says hk hk' hf with ⟨u1,u2⟩ | ⟨u1,u2⟩
  ·omega
  ·exact ⟨by rw [u2,e5,q1],q2,q3⟩
 ·rw [vv]
  refine hK _ p2 b2 ω2 w2 (fun d tail hf e=>?_) s2 r2
  obtain ⟨q1,q2,q3⟩:=hg _ tail (lowN_lt2 d (by omega)) e
  rcases says hk hk' hf with ⟨u1,u2⟩ | ⟨u1,u2⟩
  ·exact ⟨by rw [q1,← u2],q2,q3⟩
  ·omega
theorem time_rd (h:RdS ω w t gd bs p A B kn bad) {K:Int→World→Prop}
  (hK:∀ (v:Int) (p':Nat) bad' ω' w',(∀ d tail,-9223372036854775808≤d→d<9223372036854775808→rest bs p=tform d++tail→v=d∧rest bs p'=tail∧bad'=bad)→Stp (Rng t 3) ω ω' w w'→RdS ω' w' t gd bs p' A B kn bad'→K v w'):C.chunk_reader_time (wp gd) w K:=by
 unfold C.chunk_reader_time
 refine C.chunk_reader_time.L6_ind fun X hX=>?_
 have s3:∀ (i p1:Nat) (b1:Bool) (ω1:Tg) (w1:World),i≤4→Stp (Rng t 3) ω ω1 w w1→RdS ω1 w1 t gd bs p1 A B kn b1 →
   (∀ d tail,rest bs p=tform d++tail→tcls d=i∧rest bs p1=tbody d++tail∧b1=bad)→C.chunk_reader_time.S3 K (wp gd) (i:Int) w1:=by
  intro i p1 b1 ω1 w1 hi s r good
  unfold C.chunk_reader_time.S3
  have two:∀ k,0<k→k≤56→i≠0→i<4→k=tw i→C.chunk_reader_time.S2 K (wp gd) (k:Int) w1:=fun k h0 h1 hi0 hi4 hk =>
   timeS2_ok r h0 h1 rfl fun v p2 b2 ω2 w2 hg s2 r2=>hK v p2 b2 ω2 w2 (fun d tail _ _ e=>by
    obtain ⟨u1,u2,u3⟩:=good d tail e
    have hf:=tcls_fits (d:=d) (by omega) (by omega)
    rw [u1,← hk] at hf
    unfold tbody at u2
    rw [u1,← hk] at u2
    obtain ⟨q1,q2,q3⟩:=hg d tail hf u2
    exact ⟨q1,q2,q3.trans u3⟩) (s.trans s2) r2
  refine cond_eq (fun h0=>?_) (fun h0=>cond_eq (fun h1=>two 14 (by decide) (by decide) (by omega) (by omega) (by rw [show i=1 by omega];rfl)) (fun h1=>cond_eq (fun h2=>two 17 (by decide) (by decide) (by omega) (by omega) (by rw [show i=2 by omega];rfl)) (fun h2=>cond_eq (fun h3=>two 20 (by decide) (by decide) (by omega) (by omega) (by rw [show i=3 by omega];rfl)) (fun h3=>cond_eq (fun h4=>?_) (fun h4=>by omega)))))
  ·refine hK 0 p1 b1 ω1 w1 (fun d tail _ _ e=>?_) s r
   obtain ⟨u1,u2,u3⟩:=good d tail e
   have hd:d=0:=by
    rcases Int.decEq d 0 with h | h
    ·unfold tcls at u1
     rw [if_neg h] at u1
     split at u1
     ·omega
     ·split at u1
      ·omega
      ·split at u1<;>omega
    ·exact h
   subst hd
   exact ⟨rfl,u2,u3⟩
  ·refine dbits_ok r (k:=64) (by decide) rfl fun v p2 b2 ω2 w2 hv hg s2 r2=>hK _ p2 b2 ω2 w2 (fun d tail hd1 hd2 e=>?_) (s.trans s2) r2
   obtain ⟨u1,u2,u3⟩:=good d tail e
   unfold tbody at u2
   rw [u1,show i=4 by omega] at u2
   obtain ⟨q1,q2,q3⟩:=hg (lowN d 64) tail (lowN_lt2 d (by decide)) u2
   refine ⟨?_,q2,q3.trans u3⟩
   rw [q1]
   have:lowN d 64=uN d:=by unfold lowN;rw [if_neg (by decide)]
   rw [this,wI64']
   unfold uN
   split<;>omega
 have key:∀ (j i p1:Nat) (b1:Bool) (ω1:Tg) (w1:World),i+j=4→Stp (Rng t 3) ω ω1 w w1→RdS ω1 w1 t gd bs p1 A B kn b1 →
   (∀ d tail,rest bs p=tform d++tail→i≤tcls d∧rest bs p1=List.replicate (tcls d-i) true++((if tcls d<4 then [false] else [])++(tbody d++tail))∧b1=bad)→X (wp gd) (i:Int) w1:=by
  intro j
  induction j with
  | zero =>
   intro i p1 b1 ω1 w1 hi s r good
   refine hX _ _ _ ?_
   unfold C.chunk_reader_time.S8
   refine cond_d (fun h=>by omega) (fun _=>s3 i p1 b1 ω1 w1 (by omega) s r fun d tail e=>?_)
   obtain ⟨u1,u2,u3⟩:=good d tail e
   have:=tcls_le d
   refine ⟨by omega,?_,u3⟩
   rw [show tcls d-i=0 by omega,if_neg (by omega)] at u2
   exact u2
  | succ j ih =>
   intro i p1 b1 ω1 w1 hi s r good
   refine hX _ _ _ ?_
   unfold C.chunk_reader_time.S8
   refine cond_d (fun _=>?_) (fun h=>by omega)
   refine dbits_ok r (k:=1) (by decide) rfl fun v p2 b2 ω2 w2 hv hg s2 r2=>?_
   refine cond_eq (fun h1=>?_) (fun h1=>?_)
   ·rw [wI64 (by omega) (by omega),show (i:Int)+1=((i+1:Nat):Int) by omega]
    refine ih (i+1) p2 b2 ω2 w2 (by omega) (s.trans s2) r2 fun d tail e=>?_
    obtain ⟨u1,u2,u3⟩:=good d tail e
    rcases Nat.eq_or_lt_of_le u1 with h | h
    ·rw [← h,Nat.sub_self,if_pos (by omega)] at u2
     have:=(hg 0 _ (by decide) u2).1
     omega
    ·rw [show tcls d-i=(tcls d-(i+1))+1 by omega,List.replicate_succ,List.cons_append] at u2
     obtain ⟨q1,q2,q3⟩:=hg 1 _ (by decide) u2
     exact ⟨by omega,q2,q3.trans u3⟩
   ·refine s3 i p2 b2 ω2 w2 (by omega) (s.trans s2) r2 fun d tail e=>?_
    obtain ⟨u1,u2,u3⟩:=good d tail e
    rcases Nat.eq_or_lt_of_le u1 with h | h
    ·rw [← h,Nat.sub_self,if_pos (by omega)] at u2
     obtain ⟨q1,q2,q3⟩:=hg 0 _ (by decide) u2
     exact ⟨h.symm,q2,q3.trans u3⟩
    ·rw [show tcls d-i=(tcls d-(i+1))+1 by omega,List.replicate_succ,List.cons_append] at u2
     obtain ⟨q1,q2,q3⟩:=hg 1 _ (by decide) u2
     omega
 refine key 4 0 p bad ω w (by omega) (Stp.refl _ _ _) h fun d tail e=>⟨by omega,?_,rfl⟩
 rw [e,tform_cls,Nat.sub_zero]
 simp only [List.append_assoc]
end Go.Proofs.YtmfgmcajelmgbaaGreatDoor.Chunk

namespace Go.Proofs.YtmfgmcajelmgbaaGreatDoor.Chunk
open Go Vm Go.RowKit Num Mem Bits Vint
variable {ω ω' : Tg} {w w' w0 : World}
theorem Valid.inv {l:List Smp} {s:Smp} (h:Valid (l++[s])):Valid l∧wrong l s.1=0∧s.2<18446744073709551616:=by
 generalize hm:l++[s]=m at h
 cases h with
 | nil=>simp at hm
 | snoc h1 h2 h3 =>
  obtain ⟨rfl,e⟩:=List.append_inj' hm rfl
  simp only [List.cons.injEq,and_true] at e
  subst e
  exact ⟨h1,h2,h3⟩
theorem Valid.pre {a:List Smp}:∀ {b:List Smp},Valid (a++b)→Valid a:=by
 have key:∀ (n:Nat) (b:List Smp),b.length=n→Valid (a++b)→Valid a:=by
  intro n
  induction n with
  | zero=>intro b hb h;rw [List.eq_nil_of_length_eq_zero hb,List.append_nil] at h;exact h
  | succ n ih =>
   intro b hb h
   rcases List.eq_nil_or_concat b with rfl | ⟨c,s,rfl⟩
   ·simp at hb
   ·rw [List.concat_eq_append,← List.append_assoc] at h
    exact ih c (by simpa using hb) h.inv.1
 intro b h
 exact key _ b rfl h
theorem firstW_zero:∀ (r pre:List Smp) (i:Nat),Valid (pre++r)→firstW pre r i=(0,0)
 | [],pre,i,_=>rfl
 | s::r,pre,i,h=>by
  have h':Valid ((pre++[s])++r):=by simpa using h
  rw [firstW,if_pos h'.pre.inv.2.1]
  exact firstW_zero r (pre++[s]) (i+1) h'
theorem enc_len (l:List Smp):(enc l).length=2+((run l).1.length+7) / 8:=by
 unfold enc
 rw [List.length_cons,List.length_cons,pk_len];omega
end Go.Proofs.YtmfgmcajelmgbaaGreatDoor.Chunk

namespace Go.Proofs.YtmfgmcajelmgbaaGreatDoor.Vint
open Go Vm Go.RowKit Num Mem
theorem bits_xor64 {x y:Nat} (hx:x<18446744073709551616) (hy:y<18446744073709551616):Go.bits .xor .i64 (x:Int) (y:Int)=IntKind.i64.wrap ((x ^^^ y:Nat):Int):=by
 have e:(BitVec.ofNat 64 x ^^^ BitVec.ofNat 64 y).toNat=x ^^^ y:=by
  rw [BitVec.toNat_xor,BitVec.toNat_ofNat,BitVec.toNat_ofNat,Nat.mod_eq_of_lt (by omega),Nat.mod_eq_of_lt (by omega)]
 unfold Go.bits
 simp only [ofInt_nat]
 exact congrArg (fun t:Nat=>IntKind.i64.wrap (t:Int)) e
theorem ofInt_neg1:BitVec.ofInt 64 (-1)=BitVec.ofInt 64 ((18446744073709551615:Nat):Int):=by decide +kernel
theorem bits_xor_neg (x:Int):Go.bits .xor .i64 x (-1)=Go.bits .xor .i64 x ((18446744073709551615:Nat):Int):=by
 unfold Go.bits
 exact congrArg (fun t:BitVec 64=>IntKind.i64.wrap (((BitVec.ofInt 64 x ^^^ t).toNat:Nat):Int)) ofInt_neg1
theorem zag (u:Nat) (hu:u<18446744073709551616) :
  Go.bits .xor .i64 (IntKind.i64.wrap (shr .u64 (u:Int) (1:Int))) (IntKind.i64.wrap (0-(IntKind.i64.wrap (Go.bits .and .u64 (u:Int) (1:Int)))))=bk u:=by
 have e2:=shr_nat .u64 (u:Int) 1 (by decide)
 rw [show ((1:Nat):Int)=(1:Int) from rfl] at e2
 have e3:Go.bits .and .u64 (u:Int) (1:Int)=((u % 2:Nat):Int):=by
  rw [show (1:Int)=((1:Nat):Int) from rfl,bits_and rfl (by simp only [IntKind.bits];omega) (by decide),Nat.and_one_is_mod]
 rw [e2,e3,show (u:Int) / 2 ^ 1=((u / 2:Nat):Int) by omega,wI64 (x:=((u / 2:Nat):Int)) (by omega) (by omega),wI64 (x:=((u % 2:Nat):Int)) (by omega) (by omega),wI64 (by omega) (by omega)]
 unfold bk
 by_cases h:u % 2=0
 ·rw [if_pos h,h,show (0:Int)-((0:Nat):Int)=((0:Nat):Int) from rfl,bits_xor64 (by omega) (by omega),Nat.xor_zero,wI64 (by omega) (by omega)]
 ·rw [if_neg h,show u % 2=1 by omega,show (0:Int)-((1:Nat):Int) = -1 from rfl,bits_xor_neg,bits_xor64 (by omega) (by omega),xor_all _ (by omega),wI64']
  split<;>omega
end Go.Proofs.YtmfgmcajelmgbaaGreatDoor.Vint

namespace Go.Proofs.YtmfgmcajelmgbaaGreatDoor.Chunk
open Go Vm Go.RowKit Num Mem Bits Vint
variable {ω ω' : Tg} {w w' w0 : World} {t gd p k : Nat} {bs : List UInt8} {A B : Int} {kn bad : Bool}
def Good (bs:List UInt8) (p0 n:Nat) (lst:List Smp) (p:Nat) (A B:Int) (kn bad:Bool):Prop :=
 ∀ m tail,Valid m→m.length=n→rest bs p0=(run m).1++tail→lst=m.take lst.length∧(run lst).1++rest bs p=(run m).1++tail∧bad=false∧repr (run lst).2 kn A B
theorem run_pre {m:List Smp}:∀ (d i:Nat),i+d=m.length→∃ R,(run m).1=(run (m.take i)).1++R
 | 0,i,h=>⟨[],by rw [List.take_of_length_le (by omega),List.append_nil]⟩
 | d+1,i,h=>by
  obtain ⟨R,hR⟩:=run_pre (m:=m) d (i+1) (by omega)
  have hi:i<m.length:=by omega
  have e:run (m.take (i+1))=((run (m.take i)).1++(emit (m.take i) (run (m.take i)).2 m[i]).1,(emit (m.take i) (run (m.take i)).2 m[i]).2):=by
   rw [List.take_add_one,List.getElem?_eq_getElem hi]
   exact run_snoc _ _
  rw [e] at hR
  exact ⟨_,by rw [hR,List.append_assoc]⟩
theorem good_step {p0 n p1 p2:Nat} {lst:List Smp} {A' B':Int} {kn' b1 b2:Bool} {s:Smp} (h:Good bs p0 n lst p1 A B kn b1) (hi:lst.length<n)
  (step:∀ (x:Smp) tail',Valid (lst++[x])→repr (run lst).2 kn A B→rest bs p1=(emit lst (run lst).2 x).1++tail'→s=x∧rest bs p2=tail'∧b2=b1∧repr (emit lst (run lst).2 x).2 kn' A' B'):Good bs p0 n (lst++[s]) p2 A' B' kn' b2:=by
 intro m tail hm hn e
 obtain ⟨h1,h2,h3,h4⟩:=h m tail hm hn e
 have him:lst.length<m.length:=by omega
 have et:m.take (lst.length+1)=lst++[m[lst.length]]:=by rw [List.take_add_one,List.getElem?_eq_getElem him,← h1];rfl
 have hv:Valid (lst++[m[lst.length]]):=by
  rw [← et]
  have:=hm
  rw [← List.take_append_drop (lst.length+1) m] at this
  exact this.pre
 obtain ⟨R,hR⟩:=run_pre (m:=m) (m.length-(lst.length+1)) (lst.length+1) (by omega)
 rw [et,run_snoc] at hR
 have er:rest bs p1=(emit lst (run lst).2 m[lst.length]).1++(R++tail):=by
  have:(run lst).1++rest bs p1=(run lst).1++((emit lst (run lst).2 m[lst.length]).1++(R++tail)):=by
   rw [h2,hR];simp only [List.append_assoc]
  exact List.append_cancel_left this
 obtain ⟨q1,q2,q3,q4⟩:=step _ _ hv h4 er
 refine ⟨?_,?_,q3.trans h3,?_⟩
 ·rw [List.length_append,List.length_singleton,et,q1]
 ·rw [q1,run_snoc,q2,hR];simp only [List.append_assoc]
 ·rw [q1,run_snoc];exact q4
theorem fbits_at {x:Nat} {K:Nat→World→Prop} (hK:K x w):C.math_Float64frombits (x:Int) w K:=by
 show K ((x:Int).toNat) w
 rw [Int.toNat_natCast];exact hK
theorem xor_back (a b:Nat):b ^^^ (a ^^^ b)=a:=by rw [Nat.xor_comm a b,← Nat.xor_assoc,Nat.xor_self,Nat.zero_xor]
theorem rng18 {u:Nat} (h:Rng 1 8 u=false):Rng 1 3 u=false:=by
 by_cases a:1≤u∧u<1+3
 ·have:Rng 1 8 u=true:=by simp [Rng,Nat.ble_eq_true_of_le a.1,Nat.blt_eq.mpr (show u<1+8 by omega)]
  rw [this] at h;cases h
 ·exact rng_out (by omega)
theorem samples_ok (h:RdS ω w 1 gd bs p A B kn false) (hkn:kn=false) {n:Nat} (hn:n≤1000) {K:Sl→World→Prop}
  (hK:∀ s lst (p':Nat) A' B' kn' bad' ω' w',OS ω' w' 5 s lst→(∀ x∈lst,x.2<18446744073709551616)→lst.length≤n→(∀ m tail,Valid m→m.length=n→rest bs p=(run m).1++tail→lst=m∧bad'=false)→Stp (Rng 1 8) ω ω' w w'→RdS ω' w' 1 gd bs p' A' B' kn' bad'→K s w'):C.chunk_reader_samples (wp gd) (n:Int) w K:=by
 unfold C.chunk_reader_samples C.chunk_reader_samples.S9
 refine C.chunk_reader_samples.L5_ind fun X hX=>?_
 have done:∀ (s:Sl) (lst:List Smp) (p1:Nat) A1 B1 kn1 b1 ω1 w1,lst.length≤n→(lst.length=n∨b1=true)→OS ω1 w1 5 s lst→(∀ x∈lst,x.2<18446744073709551616)→Good bs p n lst p1 A1 B1 kn1 b1→Stp (Rng 1 8) ω ω1 w w1→RdS ω1 w1 1 gd bs p1 A1 B1 kn1 b1→K s w1:=by
  intro s lst p1 A1 B1 kn1 b1 ω1 w1 hl hor o hx good st r
  refine hK s lst p1 A1 B1 kn1 b1 ω1 w1 o hx hl (fun m tail hm hmn e=>?_) st r
  obtain ⟨u1,_,u3,_⟩:=good m tail hm hmn e
  rcases hor with hor | hor
  ·rw [hor,← hmn,List.take_length] at u1
   exact ⟨u1,u3⟩
  ·rw [hor] at u3;cases u3
 have key:∀ (d:Nat) (s:Sl) (lst:List Smp) (p1:Nat) A1 B1 kn1 b1 ω1 w1,lst.length+d=n→okW kn1 A1 B1→OS ω1 w1 5 s lst→(∀ x∈lst,x.2<18446744073709551616)→Good bs p n lst p1 A1 B1 kn1 b1→Stp (Rng 1 8) ω ω1 w w1→RdS ω1 w1 1 gd bs p1 A1 B1 kn1 b1→X (wp gd) (n:Int) s (lst.length:Int) w1:=by
  intro d
  induction d with
  | zero =>
   intro s lst p1 A1 B1 kn1 b1 ω1 w1 hi hW o hx good st r
   refine hX _ _ _ _ _ ?_
   unfold C.chunk_reader_samples.S7 C.chunk_reader_samples.S2
   exact cond_d (fun h=>by omega) (fun _=>done s lst p1 A1 B1 kn1 b1 ω1 w1 (by omega) (.inl (by omega)) o hx good st r)
  | succ d ih =>
   intro s lst p1 A1 B1 kn1 b1 ω1 w1 hi hW o hx good st r
   refine hX _ _ _ _ _ ?_
   unfold C.chunk_reader_samples.S7
   refine cond_d (fun _=>?_) (fun h=>by omega)
   obtain ⟨gr,bb,rr⟩:=r.ex
   refine ptr_at (cB_at (b:=b1) (by rw [addr_add,bb.cell];rfl) ?_)
   refine cond_of (fun hb=>?_) (fun hb=>?_)
   case _ => 
    refine new_T (ω:=ω1) 6 fun g ω2 w2 k2 b2=>?_
    have r2:=r.non k2
    have o2:=o.stp k2
    have st2:=st.trans (k2.non _)
    -- the end of each way
    have fin:∀ (T:Int) (V p3:Nat) A3 B3 kn3 b3 ω3 w3,V<18446744073709551616→okW kn3 A3 B3→BT ω3 w3 6 g 96 [.int .i64 T,.float .f64 0]→OS ω3 w3 5 s lst→Stp (Rng 1 8) ω ω3 w w3→RdS ω3 w3 1 gd bs p3 A3 B3 kn3 b3 →
      (∀ (x:Smp) tail',Valid (lst++[x])→repr (run lst).2 kn1 A1 B1→rest bs p1=(emit lst (run lst).2 x).1++tail'→(T,V)=x∧rest bs p3=tail'∧b3=b1∧repr (emit lst (run lst).2 x).2 kn3 A3 B3) →
      G.st (Addr.add ⟨g,0,none⟩ 1) (.float .f64 V) w3 fun w28=>G.cI .i64 ⟨g,0,none⟩ w28 fun n29=>G.cF .f64 (Addr.add ⟨g,0,none⟩ 1) w28 fun f30=>G.new (.cells #[(.int .i64 n29),(.float .f64 f30)] 96) w28 fun p31 w32=>G.runSl Tryz.prog (Builtin.append_ #[52,52] 52 #[s.v,(Sl.v (⟨some p31,1,1⟩:Sl))]) w32 fun l33 w34=>X (wp gd) (n:Int) l33 (IntKind.i64.wrap ((lst.length:Int)+(1:Int))) w34:=by
     intro T V p3 A3 B3 kn3 b3 ω3 w3 hV hW3 b o3 st3 r3 step
     refine st_TA b (by simp) fun ω4 w4 s4 b4=>?_
     refine cI_at (n:=T) (by rw [b4.cell];rfl)<|cF_at (b:=V) (by rw [addr_add,b4.cell];rfl) ?_
     have o4:=o3.stp s4 (beq_no (by decide))
     have hsn:=OS.len o4
     refine push_T tiS o4 (n:=1) rfl (by intro v hv;simp at hv;rcases hv with rfl | rfl<;>rfl) (by simp only [maxLen];omega) (by omega) fun q ω5 w5 k5 o5 hq=>?_
     have s5:=(s4.rng (t:=1) (n:=8) (by decide) (by decide)).trans (k5.rng (t:=1) (n:=8) (by decide) (by decide))
     have:=ih q (lst++[(T,V)]) p3 A3 B3 kn3 b3 ω5 w5 (by rw [List.length_append,List.length_singleton];omega) hW3 (by rw [OS,smps_app];exact o5) (fun x hx'=>by
      rcases List.mem_append.1 hx' with h | h
      ·exact hx x h
      ·rw [List.mem_singleton.1 h];exact hV) (good_step good (by omega) step) (st3.trans s5) ((r3.stp s4 rfl rfl rfl).stp k5 rfl rfl rfl)
     rw [wI64 (by omega) (by omega)]
     rw [List.length_append,List.length_singleton] at this
     exact this
    have hb1:b1=false:=by cases b1;rfl;cases hb
    have hsl:=OS.len o2
    refine cond_eq (fun h0=>?_) (fun h0=>cond_eq (fun h1=>?_) (fun h1=>?_))
    ·obtain rfl:lst=[]:=List.eq_nil_of_length_eq_zero (by omega)
     refine uvar_ok r2 fun v p3 b3 ω3 w3 hv hg s3 r3=>⟨by decide,?_⟩
     rw [zag v hv]
     have s3':=s3.mono (T':=Rng 1 8) fun u hu=>rng18 hu
     have bg:=b2.stp s3 (rng_out (by decide))
     refine st_T bg (by simp) fun ω4 w4 s4 b4=>?_
     have r4:=r3.stp s4 rfl rfl rfl
     refine dbits_ok r4 (k:=64) (by decide) rfl fun V p5 b5 ω5 w5 hV hg5 s5 r5=>fbits_at ?_
     have s5':=s5.mono (T':=Rng 1 8) fun u hu=>rng18 hu
     have b5':=b4.stp s5 (rng_out (by decide))
     have o5:=((o2.stp s3 (rng_out (by decide))).stp s4 (beq_no (by decide))).stp s5 (rng_out (by decide))
     refine fin (bk v) V p5 A1 B1 kn1 b5 ω5 w5 hV hW b5' o5 (((st2.trans s3').trans (s4.rng (by decide) (by decide))).trans s5') r5 fun x tail' hvx hr e=>?_
     have hxx:=wrong_zero hvx.inv.2.1
     have ee:emit [] (run []).2 x=(byteBits (putU (zz x.1))++low x.2 64,(run []).2):=rfl
     rw [ee,List.append_assoc] at e
     obtain ⟨q1,q2,q3⟩:=hg (zz x.1) _ (zz_lt50 hxx.1 hxx.2.1) e
     obtain ⟨u1,u2,u3⟩:=hg5 x.2 tail' hvx.inv.2.2 q2
     refine ⟨?_,u2,u3.trans q3,hr⟩
     rw [q1,u1,bk_zz]
    ·obtain ⟨a,rfl⟩:∃ a,lst=[a]:=by
      cases lst with
      | nil=>simp at h1
      | cons a r=>cases r with
       | nil=>exact ⟨a,rfl⟩
       | cons _ _=>simp at h1;omega
     have kd:=drew_stp ω2 w2
     have od:=o2.stp kd
     have ha:=hx a (List.mem_singleton.2 rfl)
     refine OS.at_ od (k:=0) (x:=a) rfl rfl fun p35 hp1 hp2 hc0 hc1=>cI_at hc0 ?_
     refine uvar_ok (r2.non kd) fun v p3 b3 ω3 w3 hv hg s3 r3=>⟨same_stp s3 hp1 (by rw [hp2];exact rng_out (by decide)),?_⟩
     have s3':=s3.mono (T':=Rng 1 8) fun u hu=>rng18 hu
     have bg:=(b2.stp kd).stp s3 (rng_out (by decide))
     refine st_T bg (by simp) fun ω4 w4 s4 b4=>?_
     have r4:=r3.stp s4 rfl rfl rfl
     have o4:=(od.stp s3 (rng_out (by decide))).stp s4 (beq_no (by decide))
     refine OS.at_ o4 (k:=0) (x:=a) rfl rfl fun p40 _ _ _ hc1=>cF_at hc1 (fb_at ?_)
     refine value_rd r4 hW fun V p5 b5 A5 B5 kn5 ω5 w5 hV hW5 hg5 s5 r5=>?_
     rw [xor_eq ha hV]
     refine fbits_at ?_
     have s5':=s5.mono (T':=Rng 1 8) fun u hu=>rng18 hu
     refine fin _ (a.2 ^^^ V) p5 A5 B5 kn5 b5 ω5 w5 (xor64_lt ha hV) hW5 (b4.stp s5 (rng_out (by decide))) (o4.stp s5 (rng_out (by decide))) ((((st2.trans (kd.non _)).trans s3').trans (s4.rng (by decide) (by decide))).trans s5') r5 fun x tail' hvx hr e=>?_
     have hxx:=wrong_zero hvx.inv.2.1
     have hav:=hvx.inv.1.mem a (List.mem_singleton.2 rfl)
     have hlt:a.1<x.1:=hxx.2.2.2 a rfl
     have ee:emit [a] (run [a]).2 x=(byteBits (putU (uN (x.1-a.1)))++(vform (run [a]).2 (x.2 ^^^ a.2)).1,(vform (run [a]).2 (x.2 ^^^ a.2)).2):=rfl
     rw [ee,List.append_assoc] at e
     obtain ⟨q1,q2,q3⟩:=hg (uN (x.1-a.1)) _ (uN_lt _) e
     obtain ⟨u1,u2,u3,u4⟩:=hg5 (run [a]).2 (x.2 ^^^ a.2) tail' (run_ok hvx.inv.1) hr (xor64_lt hvx.inv.2.2 ha) q2
     refine ⟨?_,u2,u3.trans q3,by rw [ee];exact u4⟩
     rw [q1,u1,xor_back]
     refine Prod.ext ?_ rfl
     have euN:((uN (x.1-a.1):Nat):Int)=x.1-a.1:=by unfold uN;omega
     show IntKind.i64.wrap (a.1+IntKind.i64.wrap ((uN (x.1-a.1):Nat):Int))=x.1
     rw [euN,wI64 (x:=x.1-a.1) (by omega) (by omega),wI64 (by omega) (by omega)]
     omega
    ·obtain ⟨b,a,r,hr⟩:∃ b a r,lst.reverse=b::a::r:=by
      rcases hr:lst.reverse with _ | ⟨b,_ | ⟨a,r⟩⟩
      ·have:=congrArg List.length hr;simp at this;exact absurd (by rw [this];rfl) h0
      ·have:=congrArg List.length hr;simp at this;exact absurd (by rw [this];rfl) h1
      ·exact ⟨b,a,r,rfl⟩
     have hll:lst=r.reverse++[a,b]:=by rw [← List.reverse_reverse lst,hr];simp
     have hlen:lst.length=r.length+2:=by rw [hll];simp
     have xa:lst[r.length]?=some a:=by rw [hll];simp
     have xb:lst[r.length+1]?=some b:=by rw [hll,List.getElem?_append_right (by simp)];simp
     have ha:=hx a (by rw [hll];simp)
     have hbv:=hx b (by rw [hll];simp)
     have kd:=drew_stp ω2 w2
     have od:=o2.stp kd
     have rd:=r2.non kd
     have bd:=b2.stp kd
     have std:=st2.trans (kd.non (Rng 1 8))
     rw [wI64 (x:=(lst.length:Int)-2) (by omega) (by omega),wI64 (x:=(lst.length:Int)-1) (by omega) (by omega)]
     refine OS.at_ od (k:=r.length) (by omega) xa fun p55 hp1 hp2 hc0 hc1=>cI_at hc0<|cF_at hc1 ?_
     refine OS.at_ od (k:=r.length+1) (by omega) xb fun p58 hq1 hq2 hd0 hd1=>cI_at hd0<|cF_at hd1 ?_
     -- the common end
     have tail:∀ (ga gb:Nat) ω3 w3,BT ω3 w3 7 ga 96 [.int .i64 a.1,.float .f64 a.2]→BT ω3 w3 8 gb 96 [.int .i64 b.1,.float .f64 b.2]→Stp (Rng 1 8) ω ω3 w w3→BT ω3 w3 6 g 96 [.int .i64 0,.float .f64 0]→OS ω3 w3 5 s lst→RdS ω3 w3 1 gd bs p1 A1 B1 kn1 b1 →
       G.cI .i64 ⟨gb,0,none⟩ w3.drew fun n69=>G.cI .i64 ⟨gb,0,none⟩ w3.drew fun n70=>G.cI .i64 ⟨ga,0,none⟩ w3.drew fun n71=>C.chunk_reader_time (wp gd) w3.drew fun n72 w73=>sameAt ⟨gb,0,none⟩ 1 w3.drew w73∧sameAt ⟨gb,0,none⟩ 1 w3.drew w73∧sameAt ⟨ga,0,none⟩ 1 w3.drew w73∧(G.st ⟨g,0,none⟩ (.int .i64 (IntKind.i64.wrap ((IntKind.i64.wrap (n69+(IntKind.i64.wrap (n70-n71))))+n72))) w73 fun w74=>G.cF .f64 (Addr.add ⟨gb,0,none⟩ 1) w74 fun f75=>C.math_Float64bits f75 w74 fun n76 w77=>C.chunk_reader_value (wp gd) w77 fun n78 w79=>C.math_Float64frombits (Go.bits .xor .u64 n76 n78) w79 fun f80 w81=>G.st (Addr.add ⟨g,0,none⟩ 1) (.float .f64 f80) w81 fun w82=>G.cI .i64 ⟨g,0,none⟩ w82 fun n83=>G.cF .f64 (Addr.add ⟨g,0,none⟩ 1) w82 fun f84=>G.new (.cells #[(.int .i64 n83),(.float .f64 f84)] 96) w82 fun p85 w86=>G.runSl Tryz.prog (Builtin.append_ #[52,52] 52 #[s.v,(Sl.v (⟨some p85,1,1⟩:Sl))]) w86 fun l87 w88=>X (wp gd) (n:Int) l87 (IntKind.i64.wrap ((lst.length:Int)+(1:Int))) w88):=by
      intro ga gb ω3 w3 Ba Bb st3 bg3 o3 r3
      have kd3:=drew_stp ω3 w3
      have Ba':=Ba.stp kd3
      have Bb':=Bb.stp kd3
      refine cI_at (n:=b.1) (by rw [Bb'.cell];rfl)<|cI_at (n:=b.1) (by rw [Bb'.cell];rfl)<|cI_at (n:=a.1) (by rw [Ba'.cell];rfl) ?_
      refine time_rd (r3.non kd3) fun D p4 b4 ω4 w4 hg4 s4 r4=>⟨Bb'.sameT s4 (rng_out (by decide)),Bb'.sameT s4 (rng_out (by decide)),Ba'.sameT s4 (rng_out (by decide)),?_⟩
      have s4':=s4.mono (T':=Rng 1 8) fun u hu=>rng18 hu
      refine st_T ((bg3.stp kd3).stp s4 (rng_out (by decide))) (by simp) fun ω5 w5 s5 b5=>?_
      have Bb5:=(Bb'.stp s4 (rng_out (by decide))).stp s5 (beq_no (by decide))
      have r5:=r4.stp s5 rfl rfl rfl
      have o5:=((o3.stp kd3).stp s4 (rng_out (by decide))).stp s5 (beq_no (by decide))
      refine cF_at (b:=b.2) (by rw [addr_add,Bb5.cell];rfl) (fb_at ?_)
      refine value_rd r5 hW fun V p6 b6 A6 B6 kn6 ω6 w6 hV hW6 hg6 s6 r6=>?_
      rw [xor_eq hbv hV]
      refine fbits_at ?_
      have s6':=s6.mono (T':=Rng 1 8) fun u hu=>rng18 hu
      refine fin _ (b.2 ^^^ V) p6 A6 B6 kn6 b6 ω6 w6 (xor64_lt hbv hV) hW6 (b5.stp s6 (rng_out (by decide))) (o5.stp s6 (rng_out (by decide))) (((((st3.trans (kd3.non _)).trans s4').trans (s5.rng (by decide) (by decide))).trans s6')) r6 fun x tail' hvx hr' e=>?_
      have hxx:=wrong_zero hvx.inv.2.1
      have hav:=hvx.inv.1.mem a (by rw [hll];simp)
      have hbv':=hvx.inv.1.mem b (by rw [hll];simp)
      have ee:emit lst (run lst).2 x=(tform (x.1-b.1-(b.1-a.1))++(vform (run lst).2 (x.2 ^^^ b.2)).1,(vform (run lst).2 (x.2 ^^^ b.2)).2):=by unfold emit;rw [hr]
      rw [ee,List.append_assoc] at e
      obtain ⟨q1,q2,q3⟩:=hg4 (x.1-b.1-(b.1-a.1)) _ (by omega) (by omega) e
      obtain ⟨u1,u2,u3,u4⟩:=hg6 (run lst).2 (x.2 ^^^ b.2) tail' (run_ok hvx.inv.1) hr' (xor64_lt hvx.inv.2.2 hbv) q2
      refine ⟨?_,u2,u3.trans q3,by rw [ee];exact u4⟩
      rw [q1,u1,xor_back]
      refine Prod.ext ?_ rfl
      show IntKind.i64.wrap (IntKind.i64.wrap (b.1+IntKind.i64.wrap (b.1-a.1))+(x.1-b.1-(b.1-a.1)))=x.1
      rw [wI64 (x:=b.1-a.1) (by omega) (by omega),wI64 (x:=b.1+(b.1-a.1)) (by omega) (by omega),wI64 (by omega) (by omega)]
      omega
     constructor
     ·refine new_T (ω:=ω2) 7 fun g1 ω3 w3 k3 b3=>?_
      refine ⟨same_stp k3 hp1 rfl,same_stp k3 hq1 rfl,?_⟩
      refine new_T (ω:=ω3) 8 fun g2 ω4 w4 k4 b4=>?_
      have k34:=k3.trans k4
      refine ⟨same_stp k34 hp1 rfl,same_stp k34 hq1 rfl,?_⟩
      refine st_T (b3.stp k4) (by simp) fun ω5 w5 s5 b5=>?_
      refine st_TA b5 (by simp) fun ω6 w6 s6 b6=>?_
      have s36:=(k34.non (Mem.One 7)).trans (s5.trans s6)
      refine ⟨same_stp s36 hq1 (by rw [hq2];rfl),?_⟩
      refine st_T ((b4.stp s5 rfl).stp s6 rfl) (by simp) fun ω7 w7 s7 b7=>?_
      refine st_TA b7 (by simp) fun ω8 w8 s8 b8=>?_
      have s78:=s7.trans s8
      exact tail g1 g2 ω8 w8 (b6.stp s78 rfl) b8 (((std.trans (s36.rng (by decide) (by decide))).trans (s78.rng (by decide) (by decide)))) ((bd.stp s36 rfl).stp s78 rfl) ((od.stp s36 rfl).stp s78 rfl) ((rd.stp s36 rfl rfl rfl).stp s78 rfl rfl rfl)
     ·refine new_T (ω:=ω2) 8 fun g2 ω3 w3 k3 b3=>?_
      refine ⟨same_stp k3 hp1 rfl,same_stp k3 hq1 rfl,?_⟩
      refine new_T (ω:=ω3) 7 fun g1 ω4 w4 k4 b4=>?_
      have k34:=k3.trans k4
      refine ⟨same_stp k34 hp1 rfl,same_stp k34 hq1 rfl,?_⟩
      refine st_T b4 (by simp) fun ω5 w5 s5 b5=>?_
      refine st_TA b5 (by simp) fun ω6 w6 s6 b6=>?_
      have s36:=(k34.non (Mem.One 7)).trans (s5.trans s6)
      refine ⟨same_stp s36 hq1 (by rw [hq2];rfl),?_⟩
      refine st_T (((b3.stp k4).stp s5 rfl).stp s6 rfl) (by simp) fun ω7 w7 s7 b7=>?_
      refine st_TA b7 (by simp) fun ω8 w8 s8 b8=>?_
      have s78:=s7.trans s8
      exact tail g1 g2 ω8 w8 (b6.stp s78 rfl) b8 (((std.trans (s36.rng (by decide) (by decide))).trans (s78.rng (by decide) (by decide)))) ((bd.stp s36 rfl).stp s78 rfl) ((od.stp s36 rfl).stp s78 rfl) ((rd.stp s36 rfl rfl rfl).stp s78 rfl rfl rfl)
   case _=>exact done s lst p1 A1 B1 kn1 b1 ω1 w1 (by omega) (.inr (by cases b1;cases hb;rfl)) o hx good st r
 refine key n nilS [] p A B kn false ω w (by simp) (fun h=>by rw [hkn] at h;cases h) (OT.nil _ _ _ _ _) (fun x hx=>by cases hx) (fun m tail _ _ e=>⟨rfl,by rw [e];rfl,rfl,hkn⟩) (Stp.refl _ _ _) h
end Go.Proofs.YtmfgmcajelmgbaaGreatDoor.Chunk

namespace Go.Proofs.YtmfgmcajelmgbaaGreatDoor.Chunk
open Go Vm Go.RowKit Num Mem Bits Vint
theorem low_inj {v v' k:Nat} {y y':List Bool} (hv:v<2 ^ k) (hv':v'<2 ^ k) (h:low v k++y=low v' k++y'):v=v'∧y=y':=by
 obtain ⟨h1,h2⟩:=List.append_inj h (by rw [low_len,low_len])
 exact ⟨by rw [← num_low hv,h1,num_low hv'],h2⟩
theorem putU_inj:∀ (f n n':Nat) (y y':List Bool),n<f→n'<f→byteBits (putU n)++y=byteBits (putU n')++y'→n=n'∧y=y'
 | 0,_,_,_,_,h,_,_=>by omega
 | f+1,n,n',y,y',hn,hn',h=>by
  rcases Nat.lt_or_ge n 128 with a | a<;>rcases Nat.lt_or_ge n' 128 with b | b
  ·rw [putU_lt a,putU_lt b,byteBits_one,byteBits_one,ofNat_val (by omega),ofNat_val (by omega),List.append_assoc,List.append_assoc] at h
   obtain ⟨h1,h2⟩:=low_inj (by omega) (by omega) h
   exact ⟨h1,h2⟩
  ·rw [putU_lt a,putU_ge (by omega),byteBits_one,byteBits_one,ofNat_val (by omega),ofNat_val (by omega),List.append_assoc,List.append_assoc] at h
   obtain ⟨h1,h2⟩:=low_inj (by omega) (by omega) h
   omega
  ·rw [putU_ge (by omega),putU_lt b,byteBits_one,byteBits_one,ofNat_val (by omega),ofNat_val (by omega),List.append_assoc,List.append_assoc] at h
   obtain ⟨h1,h2⟩:=low_inj (by omega) (by omega) h
   omega
  ·rw [putU_ge (n:=n) (by omega),putU_ge (n:=n') (by omega),byteBits_one,byteBits_one,ofNat_val (by omega),ofNat_val (by omega),List.append_assoc,List.append_assoc] at h
   have l1:n % 128+128<2 ^ 8:=by omega
   have l2:n' % 128+128<2 ^ 8:=by omega
   obtain ⟨h1,h2⟩:=low_inj l1 l2 h
   obtain ⟨h3,h4⟩:=putU_inj f (n / 128) (n' / 128) _ _ (by omega) (by omega) h2
   exact ⟨by omega,h4⟩
theorem ones_cls {c c':Nat} {z z':List Bool} (hc:c≤4) (hc':c'≤4) (h:List.replicate c true++((if c<4 then [false] else [])++z)=List.replicate c' true++((if c'<4 then [false] else [])++z')):c=c'∧z=z':=by
 match c,hc,c',hc' with
 | 0,_,0,_=>simpa using h
 | 0,_,1,_=>simp [List.replicate] at h
 | 0,_,2,_=>simp [List.replicate] at h
 | 0,_,3,_=>simp [List.replicate] at h
 | 0,_,4,_=>simp [List.replicate] at h
 | 1,_,0,_=>simp [List.replicate] at h
 | 1,_,1,_=>simpa [List.replicate] using h
 | 1,_,2,_=>simp [List.replicate] at h
 | 1,_,3,_=>simp [List.replicate] at h
 | 1,_,4,_=>simp [List.replicate] at h
 | 2,_,0,_=>simp [List.replicate] at h
 | 2,_,1,_=>simp [List.replicate] at h
 | 2,_,2,_=>simpa [List.replicate] using h
 | 2,_,3,_=>simp [List.replicate] at h
 | 2,_,4,_=>simp [List.replicate] at h
 | 3,_,0,_=>simp [List.replicate] at h
 | 3,_,1,_=>simp [List.replicate] at h
 | 3,_,2,_=>simp [List.replicate] at h
 | 3,_,3,_=>simpa [List.replicate] using h
 | 3,_,4,_=>simp [List.replicate] at h
 | 4,_,0,_=>simp [List.replicate] at h
 | 4,_,1,_=>simp [List.replicate] at h
 | 4,_,2,_=>simp [List.replicate] at h
 | 4,_,3,_=>simp [List.replicate] at h
 | 4,_,4,_=>simpa [List.replicate] using h
theorem tcls_zero {d:Int} (h:tcls d=0):d=0:=by
 rcases Int.decEq d 0 with h' | h'
 ·unfold tcls at h
  rw [if_neg h'] at h
  split at h
  ·omega
  ·split at h
   ·omega
   ·split at h<;>omega
 ·exact h'
theorem tform_inj {d d':Int} {y y':List Bool} (h1:-9223372036854775808≤d) (h2:d<9223372036854775808) (h1':-9223372036854775808≤d') (h2':d'<9223372036854775808) (h:tform d++y=tform d'++y'):d=d'∧y=y':=by
 rw [tform_cls,tform_cls] at h
 simp only [List.append_assoc] at h
 obtain ⟨hc,hz⟩:=ones_cls (tcls_le d) (tcls_le d') h
 unfold tbody at hz
 rw [← hc] at hz
 have h64:tw (tcls d)≤64:=by
  have:∀ i:Fin 5,tw i.val≤64:=by decide
  exact this ⟨tcls d,by have:=tcls_le d;omega⟩
 obtain ⟨e,hy⟩:=low_inj (lowN_lt2 d h64) (lowN_lt2 d' h64) hz
 refine ⟨?_,hy⟩
 rcases Nat.eq_zero_or_pos (tcls d) with h0 | h0
 ·have h0':tcls d'=0:=by rw [← hc];exact h0
  rw [tcls_zero h0,tcls_zero h0']
 ·rcases Nat.lt_or_ge (tcls d) 4 with h4 | h4
  ·have f:=tcls_fits (d:=d) (by omega) h4
   have f':=tcls_fits (d:=d') (by omega) (by omega)
   rw [← hc] at f'
   have hw:0<tw (tcls d)∧tw (tcls d)≤56:=by
    have:∀ i:Fin 4,0<i.val→0<tw i.val∧tw i.val≤56:=by decide
    exact this ⟨tcls d,h4⟩ h0
   rcases says hw.1 hw.2 f with ⟨a1,a2⟩ | ⟨a1,a2⟩<;>rcases says hw.1 hw.2 f' with ⟨b1,b2⟩ | ⟨b1,b2⟩<;>rw [e] at a1 a2<;>omega
  ·have:tcls d=4:=by have:=tcls_le d;omega
   rw [this] at e
   have u:∀ x:Int,lowN x (tw 4)=uN x:=fun x=>by unfold lowN tw;rfl
   rw [u,u] at e
   unfold uN at e
   omega
theorem vform_inj {wn:Win} (hw:WinOk wn) {x x':Nat} {y y':List Bool} (hx:x<18446744073709551616) (hx':x'<18446744073709551616) (h:(vform wn x).1++y=(vform wn x').1++y'):x=x'∧y=y':=by
 have no:∀ {z z':List Bool},low 0 1++z=low 1 1++z'→False:=fun h=>by have:=(low_inj (by decide) (by decide) h).1;omega
 rcases vform_cases wn x with ⟨h0,e⟩ | ⟨h0,a,b,w1,ha,hb,e⟩ | ⟨h0,e⟩<;>rcases vform_cases wn x' with ⟨h0',e'⟩ | ⟨h0',a',b',w1',ha',hb',e'⟩ | ⟨h0',e'⟩<;>rw [e,e'] at h<;>simp only [List.append_assoc] at h
 ·exact ⟨by omega,(low_inj (by decide) (by decide) h).2⟩
 ·exact (no h).elim
 ·exact (no h).elim
 ·exact (no h.symm).elim
 ·rw [w1] at w1'
  simp only [Option.some.injEq,Prod.mk.injEq] at w1'
  obtain ⟨rfl,rfl⟩:=w1'
  obtain ⟨c1,c2⟩:=hw a b w1
  obtain ⟨_,h⟩:=low_inj (by decide) (by decide) h
  obtain ⟨_,h⟩:=low_inj (by decide) (by decide) h
  obtain ⟨q,h⟩:=low_inj (mid_lt hx ha (by omega)) (mid_lt hx' ha' (by omega)) h
  refine ⟨?_,h⟩
  rw [← mul_div_trail hx h0 hb,q,mul_div_trail hx' h0' hb']
 ·obtain ⟨_,h⟩:=low_inj (by decide) (by decide) h
  exact (no h).elim
 ·exact (no h.symm).elim
 ·obtain ⟨_,h⟩:=low_inj (by decide) (by decide) h
  exact (no h.symm).elim
 ·have l1:=lead_le x
  have l2:=lead_le x'
  have t1:=lead_trail hx h0
  have t2:=lead_trail hx' h0'
  obtain ⟨_,h⟩:=low_inj (by decide) (by decide) h
  obtain ⟨_,h⟩:=low_inj (by decide) (by decide) h
  obtain ⟨q1,h⟩:=low_inj (by omega) (by omega) h
  obtain ⟨q2,h⟩:=low_inj (by omega) (by omega) h
  have q3:trail x=trail x':=by omega
  rw [← q1,← q3] at h
  have m1:=mid_lt hx (Nat.le_refl (lead x)) (b:=trail x) (by omega)
  have m2:=mid_lt hx' (Nat.le_refl (lead x')) (b:=trail x') (by omega)
  rw [← q1,← q3] at m2
  obtain ⟨q,h⟩:=low_inj m1 m2 h
  refine ⟨?_,h⟩
  have:=mul_div_trail hx' h0' (Nat.le_refl (trail x'))
  rw [← q3] at this
  rw [← mul_div_trail hx h0 (Nat.le_refl (trail x)),q,this]
theorem xor_cancel {a b c:Nat} (h:a ^^^ c=b ^^^ c):a=b:=by
 have:=congrArg (· ^^^ c) h
 simp only [Nat.xor_assoc,Nat.xor_self,Nat.xor_zero] at this
 exact this
theorem emit_inj {l:List Smp} {s s':Smp} {y y':List Bool} (h:Valid (l++[s])) (h':Valid (l++[s'])) (e:(emit l (run l).2 s).1++y=(emit l (run l).2 s').1++y'):s=s'∧y=y':=by
 obtain ⟨v,ws,hs⟩:=h.inv
 obtain ⟨_,ws',hs'⟩:=h'.inv
 have b:=wrong_zero ws
 have b':=wrong_zero ws'
 have wok:=run_ok v
 generalize (run l).2=wn at *
 rcases hr:l.reverse with _ | ⟨c,_ | ⟨a,r⟩⟩
 ·obtain rfl:l=[]:=List.reverse_eq_nil_iff.1 hr
  have ee:∀ s:Smp,emit [] wn s=(byteBits (putU (zz s.1))++low s.2 64,wn):=fun _=>rfl
  rw [ee,ee] at e
  simp only [List.append_assoc] at e
  obtain ⟨q1,e⟩:=putU_inj 18446744073709551616 _ _ _ _ (zz_lt50 b.1 b.2.1) (zz_lt50 b'.1 b'.2.1) e
  obtain ⟨q2,e⟩:=low_inj hs hs' e
  refine ⟨Prod.ext ?_ q2,e⟩
  rw [← bk_zz s.1,q1,bk_zz]
 ·have hll:l=[c]:=by rw [← List.reverse_reverse l,hr];rfl
  subst hll
  have ee:∀ s:Smp,emit [c] wn s=(byteBits (putU (uN (s.1-c.1)))++(vform wn (s.2 ^^^ c.2)).1,(vform wn (s.2 ^^^ c.2)).2):=fun _=>rfl
  rw [ee,ee] at e
  simp only [List.append_assoc] at e
  have hc:=v.mem c (List.mem_singleton.2 rfl)
  obtain ⟨q1,e⟩:=putU_inj 18446744073709551616 _ _ _ _ (uN_lt _) (uN_lt _) e
  obtain ⟨q2,e⟩:=vform_inj wok (xor64_lt hs hc.2.2) (xor64_lt hs' hc.2.2) e
  refine ⟨Prod.ext ?_ (xor_cancel q2),e⟩
  unfold uN at q1
  omega
 ·have hc:=v.mem c (by rw [← List.mem_reverse,hr];simp)
  have ha:=v.mem a (by rw [← List.mem_reverse,hr];simp)
  have ee:∀ s:Smp,emit l wn s=(tform (s.1-c.1-(c.1-a.1))++(vform wn (s.2 ^^^ c.2)).1,(vform wn (s.2 ^^^ c.2)).2):=fun s=>by unfold emit;rw [hr]
  rw [ee,ee] at e
  simp only [List.append_assoc] at e
  obtain ⟨q1,e⟩:=tform_inj (by omega) (by omega) (by omega) (by omega) e
  obtain ⟨q2,e⟩:=vform_inj wok (xor64_lt hs hc.2.2) (xor64_lt hs' hc.2.2) e
  exact ⟨Prod.ext (by omega) (xor_cancel q2),e⟩
theorem run_free {l m:List Smp} (hl:Valid l) (hm:Valid m) (hn:l.length=m.length) {y y':List Bool} (e:(run l).1++y=(run m).1++y'):l=m:=by
 have key:∀ i,i≤l.length→l.take i=m.take i:=by
  intro i
  induction i with
  | zero=>intro _;rfl
  | succ i ih =>
   intro hi
   have h:=ih (by omega)
   have him:i<m.length:=by omega
   have tl:l.take (i+1)=l.take i++[l[i]]:=by rw [List.take_add_one,List.getElem?_eq_getElem (by omega)];rfl
   have tm:m.take (i+1)=m.take i++[m[i]]:=by rw [List.take_add_one,List.getElem?_eq_getElem him];rfl
   have pre:∀ {q:List Smp},Valid q→∀ j,Valid (q.take j):=fun {q} h j=>by
    rw [← List.take_append_drop j q] at h;exact h.pre
   obtain ⟨R,hR⟩:=run_pre (m:=l) (l.length-(i+1)) (i+1) (by omega)
   obtain ⟨R',hR'⟩:=run_pre (m:=m) (m.length-(i+1)) (i+1) (by omega)
   have v1:=pre hl (i+1)
   have v2:=pre hm (i+1)
   rw [tl] at hR v1
   rw [tm,← h] at hR' v2
   rw [run_snoc] at hR hR'
   rw [hR,hR'] at e
   simp only [List.append_assoc] at e
   have:=(emit_inj v1 v2 (List.append_cancel_left e)).1
   rw [tl,tm,h,this]
 have:=key l.length (Nat.le_refl _)
 rw [List.take_length,hn,List.take_length] at this
 exact this
theorem enc_free {l m:List Smp} (hl:Valid l) (hm:Valid m) {x:List UInt8} (e:enc l=enc m++x):l=m:=by
 unfold enc at e
 simp only [List.cons_append,List.cons.injEq] at e
 obtain ⟨e1,e2,e3⟩:=e
 have n1:=hl.len
 have n2:=hm.len
 have e2':=congrArg UInt8.toNat e2
 rw [ofNat_val (by omega),ofNat_val (by omega)] at e2'
 obtain ⟨a,ha⟩:=byteBits_pk (run l).1
 obtain ⟨b,hb⟩:=byteBits_pk (run m).1
 have:=congrArg byteBits e3
 rw [byteBits_app,ha,hb,List.append_assoc] at this
 exact run_free hl hm (by omega) this
end Go.Proofs.YtmfgmcajelmgbaaGreatDoor.Chunk

namespace Go.Proofs.YtmfgmcajelmgbaaGreatDoor.Mem
open Go Vm Go.RowKit Num
variable {T : Nat → Bool} {ω ω' : Tg} {w w' w0 : World} {t : Nat}
theorem put_stp {g:Nat} {o:Obj} (ht:ω g=t):Stp (One t) ω ω w (w.putObj g o) :=
 ⟨rfl,rfl,rfl,by simp [World.putObj],fun _ _=>rfl,fun k _ hT=>World.putObj_heap_other fun e=>by subst e;rw [ht,one_self] at hT;cases hT⟩
theorem Stp.obj (s:Stp T ω ω' w w') {g:Nat} {o:Obj} (h:w.heap[g]?=some o) (ht:ω g=t) (ne:T t=false):w'.heap[g]?=some o∧ω' g=t :=
 ⟨by rw [s.block g (heap_lt h) (by rw [ht];exact ne)];exact h,(s.same g (heap_lt h)).trans ht⟩
theorem isB_at {b:Bool} {K:Bool→Prop} (h:K b):G.isB (.bool b) K:=h
theorem isNilF_no {f:Fn} {a b:Array Value} {K:Bool→Prop} (h:K false):G.isNilF (.func f a b) K:=h
theorem marks_at {D:Nat} {w:World} {K:World→Prop} (h:w.heap[D]?=some (.deferred (some []))) (hK:K (w.putObj D (.deferred none))):G.marks (pushMark undef D) w K:=by
 show G.marks (.agg ⟨[.int .i64 (D:Int)]⟩) w K
 exact ⟨h,hK⟩
theorem bif_t {i:Nat} {X Y:Prop} (h:X):bif Nat.beq i i then X else Y:=by
 have:Nat.beq i i=true:=by simp
 rw [this];exact h
theorem OT.from {e:TypeId} {sz:Nat} {s:Sl} {xs:List Value} (h:OT ω w t e sz s xs) (top:Top w0 ω w) (ht:t≠0):Own w w0.heap.size e sz s xs:=by
 obtain ⟨hl,ho⟩:=h.own
 refine ⟨hl,ho.imp_right fun ⟨g,cap,cur,hv,hg,r⟩=>⟨g,cap,cur,hv,?_,r⟩⟩
 have:=h.tag g (by rw [hv];rfl)
 rcases Nat.lt_or_ge g w0.heap.size with hlt | hge
 ·exact absurd (this.symm.trans (top.z g hlt)) ht
 ·exact hge
end Go.Proofs.YtmfgmcajelmgbaaGreatDoor.Mem

namespace Go.Proofs.YtmfgmcajelmgbaaGreatDoor.Chunk
open Go Vm Go.RowKit Num Mem Bits Vint
variable {ω ω' : Tg} {w w' w0 : World} {bs : List UInt8}
theorem bits_or64 {x y:Nat} (hx:x<18446744073709551616) (hy:y<18446744073709551616):Go.bits .or .i64 (x:Int) (y:Int)=IntKind.i64.wrap ((x ||| y:Nat):Int):=by
 have e:(BitVec.ofNat 64 x ||| BitVec.ofNat 64 y).toNat=x ||| y:=by
  rw [BitVec.toNat_or,BitVec.toNat_ofNat,BitVec.toNat_ofNat,Nat.mod_eq_of_lt (by omega),Nat.mod_eq_of_lt (by omega)]
 unfold Go.bits
 simp only [ofInt_nat]
 exact congrArg (fun t:Nat=>IntKind.i64.wrap (t:Int)) e
theorem head2 {x y:Nat} (hx:x<256) (hy:y<256):Go.bits .or .i64 (shl .i64 (IntKind.i64.wrap (x:Int)) (8:Int)) (IntKind.i64.wrap (y:Int))=((x*256+y:Nat):Int):=by
 have e:=shl_nat .i64 (x:Int) 8 (by decide)
 rw [show ((8:Nat):Int)=(8:Int) from rfl,show (x:Int)*2 ^ 8=((x*256:Nat):Int) by omega,wI64 (by omega) (by omega)] at e
 rw [wI64 (x:=(x:Int)) (by omega) (by omega),wI64 (x:=(y:Int)) (by omega) (by omega),e,bits_or64 (by omega) (by omega)]
 have:=Nat.two_pow_add_eq_or_of_lt (b:=y) (i:=8) hy x
 rw [show x*256=2 ^ 8*x by omega,← this,wI64 (by omega) (by omega)]
theorem enc_bits {l:List Smp} (hl:Valid l) {a b:UInt8} {q:List UInt8} (e:a::b::q=enc l):a.toNat*256+b.toNat=l.length∧q=pk (run l).1∧∃ m,rest q 0=(run l).1++List.replicate m false:=by
 unfold enc at e
 simp only [List.cons.injEq] at e
 obtain ⟨rfl,rfl,rfl⟩:=e
 have:=hl.len
 obtain ⟨m,hm⟩:=byteBits_pk (run l).1
 refine ⟨?_,rfl,m,hm⟩
 rw [ofNat_val (by omega),ofNat_val (by omega)];omega
theorem enc_small {l:List Smp} (hl:Valid l):(enc l).length≤3000:=by
 have:=hl.len
 have:=run_len hl
 rw [enc_len];omega
theorem decode_ok (hT:DTab w0) {b:Sl} (hb:RdB w0 b bs) {K:Sl→Int→World→Prop}
  (hE:(∀ l,Valid l→bs≠enc l)→∀ w',Keep w0 w'→K nilS 3 w')
  (hK:∀ l,Valid l→bs=enc l→∀ r w',Keep w0 w'→Mem.Own w' w0.heap.size 96 2 r (smps l)→K r 0 w'):C.chunk_Decode b w0 K:=by
 have hn:=hb.len
 unfold C.chunk_Decode
 refine cond_d (fun h=>hE (fun l _ e=>?_) w0 (Keep.refl w0)) (fun h=>?_)
 ·have:=enc_len l
  rw [← e] at this
  omega
 obtain ⟨x,y,q,rfl⟩:∃ x y q,bs=x::y::q:=by
  rcases bs with _ | ⟨x,_ | ⟨y,q⟩⟩
  ·simp at hn;omega
  ·simp at hn;omega
  ·exact ⟨x,y,q,rfl⟩
 have kd:=Keep.drew w0
 have hx:=x.toNat_lt
 have hy:=y.toNat_lt
 have hlen:(x::y::q).length=q.length+2:=rfl
 refine RdB.ati hb.drew (k:=0) rfl (by omega) ⟨by decide,?_⟩
 refine RdB.ati hb.drew (k:=1) rfl (by omega) ?_
 refine RdB.slc hb (lo:=2) (hi:=q.length+2) (by omega) (by omega) rfl (by omega) fun r hr=>?_
 have eq:((x::y::q).drop 2).take (q.length+2-2)=q:=by simp
 rw [eq] at hr
 have hrn:=hr.len
 have e2:Go.bits .or .i64 (shl .i64 (IntKind.i64.wrap (((x::y::q)[0]).toNat:Int)) (8:Int)) (IntKind.i64.wrap (((x::y::q)[1]).toNat:Int))=((x.toNat*256+y.toNat:Nat):Int):=head2 hx hy
 rw [e2]
 refine cond_d (fun h1=>hE (fun l hl e=>?_) _ kd) (fun h1=>cond_d (fun h2=>hE (fun l hl e=>?_) _ kd) (fun h2=>?_))
 ·obtain ⟨q1,_⟩:=enc_bits hl e
  have:=hl.len
  omega
 ·have:=enc_small hl
  rw [← e] at this
  omega
 refine newRdr_ok (ω:=fun _=>0) hr.drew (by omega) 2 (by rw [wI64 (by omega) (by omega)];omega) fun gr ω2 w2 s2 r2=>?_
 refine new_T (ω:=ω2) 1 fun gd ω3 w3 k3 b3=>?_
 have top3:=((Top.init w0).stp ((drew_stp _ w0).trans s2)).stp k3
 refine samples_ok (A:=0) (B:=0) (kn:=false) (n:=x.toNat*256+y.toNat) ⟨gr,b3,r2.stp k3⟩ rfl (by omega) fun s lst p' A' B' kn' bad' ω4 w4 o4 hv4 hl4 good s4 r4=>?_
 have top4:=top3.stp s4
 have isl:∀ l,Valid l→x::y::q=enc l→lst=l∧bad'=false:=fun l hl e=>by
  obtain ⟨q1,_,m,hm⟩:=enc_bits hl e
  exact good l _ hl q1.symm hm
 have fail:(∀ l,Valid l→x::y::q=enc l→False)→∀ w',Keep w0 w'→K nilS 3 w':=fun h=>hE fun l hl e=>h l hl e
 refine encode_ok (hT.keep top4.k) o4.rd hv4 (by omega) (fun hf w5 k5=>?_) (fun hf hval a w5 k5 o5=>?_)
 ·have k05:=Keep.trans top4.k k5
  have no:=fail (fun l hl e=>by
   obtain ⟨u1,_⟩:=isl l hl e
   subst u1
   exact hf (by rw [firstW_zero _ [] 0 hl])) w5 k05
  obtain ⟨gr5,b5,_⟩:=r4.ex
  refine cB_at (b:=bad') (Keep.cell k5 (by rw [addr_add,b5.cell];rfl)) ?_
  exact cond_of (fun _=>no) (fun _=>cond_t (by simp;exact hf) no)
 ·have k05:=Keep.trans top4.k k5
  obtain ⟨gr5,b5,_⟩:=r4.ex
  refine cB_at (b:=bad') (Keep.cell k5 (by rw [addr_add,b5.cell];rfl)) ?_
  refine cond_of (fun hbad=>fail (fun l hl e=>?_) w5 k05) (fun hbad=>cond_f rfl ?_)
  ·obtain ⟨_,u2⟩:=isl l hl e
   rw [u2] at hbad;cases hbad
  refine convBS o5.rd (convBS (hb.keep k05) ?_)
  rw [str_toList,str_toList]
  refine cond_of (fun hne=>fail (fun l hl e=>?_) w5 k05) (fun heq=>?_)
  ·obtain ⟨u1,_⟩:=isl l hl e
   subst u1
   rw [e] at hne
   simp at hne
  ·have e:enc lst=x::y::q:=by simpa using heq
   exact hK lst hval e.symm s w5 k05 ((o4.from top4 (by decide)).keep k5)
end Go.Proofs.YtmfgmcajelmgbaaGreatDoor.Chunk

namespace Go.Proofs.YtmfgmcajelmgbaaGreatDoor.Chunk
open Go Vm Go.RowKit Num Mem Bits Vint
variable {ω ω' : Tg} {w w' w0 : World} {t gc : Nat} {l : List Smp}
structure CkR (w:World) (c:Option Addr) (sl:Sl) (l:List Smp):Prop where
 ex:(c=none∧l=[])∨∃ gc,c=wp gc∧w.cell? ⟨gc,0,none⟩=some (Sl.v sl)∧Rd w sl 2 (smps l)
 len:l.length≤1000
theorem CkT.r (h:CkT ω w t gc l):∃ sl,CkR w (wp gc) sl l:=by
 have hlen:=h.ok.len
 obtain ⟨gw,sl,hs⟩:=h.ex
 exact ⟨sl,.inr ⟨gc,rfl,by rw [hs.blk.cell];rfl,hs.own.rd⟩,by omega⟩
theorem CkR.keep {c:Option Addr} {sl:Sl} (h:CkR w c sl l) (k:Keep w w'):CkR w' c sl l :=
 ⟨h.ex.imp_right fun ⟨gc,e,h0,h1⟩=>⟨gc,e,k.cell h0,h1.keep k⟩,h.len⟩
def lastS (l:List Smp):Smp:=(l.getLast?).getD (0,0)
end Go.Proofs.YtmfgmcajelmgbaaGreatDoor.Chunk

namespace Go.Proofs.YtmfgmcajelmgbaaGreatDoor.Bits
open Go Vm Go.RowKit Num Mem
def vb (b:Bool):Value:=.bool b
def vbs (l:List Bool):List Value:=l.map vb
theorem vbs_app (a b:List Bool):vbs (a++b)=vbs a++vbs b:=List.map_append
theorem tib:TI Tryz.prog 199 4 1 1:=TI.of (z:=.bool false) (by kernel_rfl) (by kernel_rfl) rfl (by decide)
abbrev Obl (ω:Tg) (w:World) (t:Nat) (s:Sl) (l:List Bool):Prop:=OT ω w t 4 1 s (vbs l)
theorem Obl.len {ω:Tg} {w:World} {t:Nat} {s:Sl} {l:List Bool} (h:Obl ω w t s l):s.n=l.length:=by
 have:=h.own.1
 simp only [vbs,List.length_map] at this
 omega
structure StT (ω:Tg) (w:World) (t g:Nat) (l:List Bool) (a:Int):Prop where
 ex:∃ s,BT ω w t g 201 [Sl.v s,.int .i64 a]∧Obl ω w (t+1) s l
variable {ω ω' : Tg} {w w' w0 : World} {t g : Nat} {l : List Bool} {a : Int}
theorem StT.stp {T:Nat→Bool} (h:StT ω w t g l a) (k:Stp T ω ω' w w') (n0:T t=false:=by rfl) (n1:T (t+1)=false:=by rfl):StT ω' w' t g l a:=by
 obtain ⟨s,b,o⟩:=h.ex
 exact ⟨s,b.stp k n0,o.stp k n1⟩
theorem StT.non (h:StT ω w t g l a) (k:Stp Non ω ω' w w'):StT ω' w' t g l a:=h.stp k rfl rfl
theorem write_T {v:Nat} (hv:v<18446744073709551616) {k:Nat} (hk:k≤64) (h:StT ω w t g l a) (hl:l.length≤8388608) {x m:Int} (hx:x=(v:Int)) (hm:m=(k:Int)) {K:World→Prop}
  (hK:∀ ω' w',Stp (Duo t (t+1)) ω ω' w w'→StT ω' w' t g (l++low v k) a→K w'):C.tocsinref02_Stream_Write (wp g) x m w K:=by
 subst hx hm
 unfold C.tocsinref02_Stream_Write
 refine C.tocsinref02_Stream_Write.L3_ind fun X hX=>?_
 rw [wI64 (by omega) (by omega)]
 have key:∀ (k:Nat) (l:List Bool) (ω1:Tg) (w1:World),k≤64→l.length+k≤8388672→Stp (Duo t (t+1)) ω ω1 w w1→StT ω1 w1 t g l a →
   (∀ ω' w',Stp (Duo t (t+1)) ω ω' w w'→StT ω' w' t g (l++low v k) a→K w')→X (wp g) (v:Int) ((k:Int)-1) w1:=by
  intro k
  induction k with
  | zero =>
   intro l ω1 w1 _ _ s h hK
   refine hX _ _ _ _ ?_
   unfold C.tocsinref02_Stream_Write.S5
   exact cond_d (fun h=>by omega) (fun _=>hK ω1 w1 s (by simpa [low] using h))
  | succ k ih =>
   intro l ω1 w1 hk hl s h hK
   refine hX _ _ _ _ ?_
   unfold C.tocsinref02_Stream_Write.S5
   rw [show ((k+1:Nat):Int)-1=(k:Int) by omega,wU64_id (by omega) (by omega),bit_eq hv (by omega),wI64 (by omega) (by omega)]
   refine cond_d (fun _=>?_) (fun h=>by omega)
   obtain ⟨sl,b,o⟩:=h.ex
   have hn:=o.len
   refine ptr_at (cSl_at (by rw [b.cell];rfl) ⟨by omega,?_⟩)
   refine push_T tib o (n:=1) rfl (by intro v hv;simp at hv;subst hv;rfl) (by simp only [maxLen];omega) (by omega) fun r ω2 w2 k2 o2 hr=>?_
   refine ptr_at (st_T (b.stp k2 (beq_no (by omega))) (by simp) fun ω3 w3 k3 b3=>?_)
   refine ih (l++[bitOf v k]) ω3 w3 (by omega) (by simp only [List.length_append,List.length_singleton];omega) (s.trans (k2.two.trans k3.one)) ⟨r,b3,?_⟩ fun ω4 w4 s4 h4=>hK ω4 w4 s4 ?_
   ·have:=o2.stp k3 (beq_no (by omega))
    rw [Obl,vbs_app];exact this
   ·simpa [low] using h4
 exact key k l ω w hk (by omega) (Stp.refl _ _ _) h hK
theorem in_ok {n:Int} {k:Nat} (hk:0<k) (hk':k≤56) {K:Bool→World→Prop} (hK:K (fitsB n k) w):C.tocsinref02_In n (k:Int) w K:=by
 have:=fits_cond (n:=n) hk hk' (X:=K true w) (Y:=K false w) (fun e=>by rw [e] at hK;exact hK) (fun e=>by rw [e] at hK;exact hK)
 unfold C.tocsinref02_In
 refine ⟨by rw [wU64];omega,cond_of (fun e=>?_) (fun e=>?_)⟩
 ·rw [e] at this
  have h1:G.cond (decide (n≤(shl .i64 (1:Int) (IntKind.u64.wrap (IntKind.i64.wrap ((k:Int)-(1:Int))))))) (K true w) (K false w):=this
  revert h1
  cases decide (n≤(shl .i64 (1:Int) (IntKind.u64.wrap (IntKind.i64.wrap ((k:Int)-(1:Int))))))<;>exact fun h=>h
 ·rw [e] at this
  exact this
theorem rlow_ok {n:Int} {k:Nat} {K:Int→World→Prop} (hK:K ((lowN n k:Nat):Int) w):C.tocsinref02_Low n (k:Int) w K:=by
 unfold C.tocsinref02_Low
 refine cond_d (fun h=>?_) (fun h=>⟨by rw [wU64_id (by omega) (by omega)];omega,?_⟩)
 ·rw [wrapU]
  unfold lowN at hK
  rw [if_neg (by omega)] at hK;exact hK
 ·rw [low_and (by omega)];exact hK
def st8 (o:List UInt8) (i:Nat) (b:Bool):List UInt8:=if b then o.set (i / 8) (orBit (o.getD (i / 8) 0) (i % 8)) else o
theorem grow_rep {l:List UInt8} {i M:Nat} (hl:l.length=(i+7) / 8) (hM:(i+8) / 8≤M):l++List.replicate (M-(i+7) / 8) 0=grow l i++List.replicate (M-(i+8) / 8) 0:=by
 unfold grow
 split
 ·rw [show M-(i+7) / 8=(M-(i+8) / 8)+1 by omega,List.replicate_succ]
  simp
 ·rw [show (i+7) / 8=(i+8) / 8 by omega]
theorem st8_step {l:List UInt8} {i M:Nat} {b:Bool} (hl:l.length=(i+7) / 8) (hM:(i+8) / 8≤M):st8 (l++List.replicate (M-(i+7) / 8) 0) i b=putB l i b++List.replicate (M-(i+8) / 8) 0:=by
 rw [grow_rep hl hM]
 unfold st8 putB
 have:=grow_len hl
 cases b
 ·rfl
 ·simp only [if_true]
  rw [List.set_append_left _ _ (by omega)]
  congr 2
  rw [List.getD_eq_getElem?_getD,List.getD_eq_getElem?_getD,List.getElem?_append_left (by omega)]
theorem sbytes_T (h:StT ω w t g l a) (hl:l.length≤8388608) {K:Sl→World→Prop} (hK:∀ r w',Keep w w'→OwnB w' w.heap.size r (pk l)→K r w'):C.tocsinref02_Stream_Bytes (wp g) w K:=by
 unfold C.tocsinref02_Stream_Bytes
 obtain ⟨s,hb0,ho0⟩:=h.ex
 have hn:=ho0.len
 refine ptr_at (cSl_at (s:=s) (by rw [hb0.cell];rfl) ⟨by decide,?_⟩)
 have e:IntKind.i64.wrap (Int.tdiv (IntKind.i64.wrap (((s.n:Nat):Int)+(7:Int))) (8:Int))=(((l.length+7) / 8:Nat):Int):=by
  rw [wI64 (x:=((s.n:Nat):Int)+7) (by omega) (by omega),show ((s.n:Nat):Int)+7=((s.n+7:Nat):Int) by omega,show Int.tdiv ((s.n+7:Nat):Int) (8:Int)=(((s.n+7) / 8:Nat):Int) from rfl,wI64 (by omega) (by omega),hn]
 rw [e]
 refine make_own tiB (kl:=.i64) (kc:=.i64) (n:=(l.length+7) / 8) (c:=(l.length+7) / 8) (Keep.refl w) (Nat.le_refl _) (Nat.le_refl _) (by simp only [maxLen];omega) (by omega) fun z r w1 hz hz1 k1 k1' o1 hrn hrc hra=>?_
 have hz':z=.int .u8 0:=by
  have:(Tryz.prog.info? 5).map (·.zero)=some (some (.int .u8 0)):=by kernel_rfl
  rw [this] at hz
  simp only [Option.some.injEq] at hz
  exact hz.symm
 subst hz'
 have o1':OwnB w1 w.heap.size r (List.replicate ((l.length+7) / 8) 0):=by
  have e2:((madeCells (Value.int IntKind.u8 0).cells ((l.length+7) / 8*1)).toList.take ((l.length+7) / 8*1))=vBs (List.replicate ((l.length+7) / 8) 0):=by
   rw [show (Value.int IntKind.u8 0).cells=#[Value.int IntKind.u8 0] from rfl,toList_madeCells_one,Nat.mul_one,List.take_of_length_le (by simp)]
   simp [vBs,vB]
  rw [e2] at o1;exact o1
 unfold C.tocsinref02_Stream_Bytes.S9
 refine ptr_at (cSl_at (s:=s) (Keep.cell k1' (by rw [hb0.cell];rfl)) ?_)
 refine C.tocsinref02_Stream_Bytes.L5_ind fun X hX=>?_
 have hrd:=ho0.rd.keep k1
 have key:∀ (d i:Nat) (w':World),d+i=l.length→Keep w w'→Rd w' s 1 (vbs l)→OwnB w' w.heap.size r (pk (l.take i)++List.replicate ((l.length+7) / 8-(i+7) / 8) 0)→X r s ((s.n:Nat):Int) (i:Int) w':=by
  intro d
  induction d with
  | zero =>
   intro i w' hi k hr o
   refine hX _ _ _ _ _ ?_
   unfold C.tocsinref02_Stream_Bytes.S7 C.tocsinref02_Stream_Bytes.S2
   refine cond_d (fun h=>by omega) (fun _=>hK r w' k ?_)
   rw [show i=l.length by omega,List.take_length,Nat.sub_self] at o
   simpa using o
  | succ d ih =>
   intro i w' hi k hr o
   have hil:i<l.length:=by omega
   refine hX _ _ _ _ _ ?_
   unfold C.tocsinref02_Stream_Bytes.S7
   refine cond_d (fun _=>?_) (fun h=>by omega)
   refine Rd.ix hr (by decide) (by omega) (by omega) fun a ha=>?_
   have hc:=ha 0 (.bool l[i]) (by decide) (by simp [vbs,vb,hil])
   rw [show a.add 0=a by simp [Addr.add]] at hc
   refine ⟨l[i],hc,?_⟩
   rw [wI64 (x:=(i:Int)+1) (by omega) (by omega)]
   have hlen:(pk (l.take i)).length=(i+7) / 8:=by rw [pk_len,List.length_take,Nat.min_eq_left (by omega)]
   have hM:(i+8) / 8≤(l.length+7) / 8:=by omega
   have hstep:=st8_step (b:=l[i]) hlen hM
   have htake:pk (l.take (i+1))=putB (pk (l.take i)) i l[i]:=by
    rw [List.take_add_one,List.getElem?_eq_getElem hil,pk_app,List.length_take,Nat.min_eq_left (by omega)];rfl
   have hol:=o.len
   rw [List.length_append,hlen,List.length_replicate] at hol
   have next:∀ w2,Keep w w2→Rd w2 s 1 (vbs l)→OwnB w2 w.heap.size r (st8 (pk (l.take i)++List.replicate ((l.length+7) / 8-(i+7) / 8) 0) i l[i])→X r s ((s.n:Nat):Int) ((i+1:Nat):Int) w2:=fun w2 k2 r2 o2=>by
    rw [hstep,← htake] at o2
    exact ih (i+1) w2 (by omega) k2 r2 o2
   rw [show (i:Int)+1=((i+1:Nat):Int) by omega]
   cases hb:l[i]
   ·refine cond_f rfl (next w' k hr ?_)
    rw [hb];exact o
   ·refine cond_t rfl ⟨by decide,by decide,?_⟩
    have hlt:i / 8<(pk (l.take i)++List.replicate ((l.length+7) / 8-(i+7) / 8) 0).length:=by rw [List.length_append,hlen,List.length_replicate];omega
    rw [idx8 (by omega)]
    refine RdB.at_ o.rd hlt ⟨by decide,?_⟩
    rw [mod8]
    refine ⟨by omega,?_⟩
    rw [orBit_val _ (by omega)]
    refine Own.stC o (by omega) _ fun w2 c2 o2=>?_
    have hge:∀ k,r.v.ownBlock=some k→w.heap.size≤k:=fun k hk=>(Own.geC o hk).1
    have k2:Keep w w2:=Chg.below k c2 k.size hge
    refine next w2 k2 (ho0.rd.keep k2) ?_
    ·unfold st8
     rw [hb,if_pos rfl]
     have e1:∀ (q:List UInt8) (hq:i / 8<q.length),q.getD (i / 8) 0=q[i / 8]:=fun q hq=>by rw [List.getD_eq_getElem?_getD,List.getElem?_eq_getElem hq,Option.getD_some]
     rw [e1 _ hlt,OwnB]
     have e2:∀ (q:List UInt8) (x:UInt8),vBs (q.set (i / 8) x)=(vBs q).set (i / 8) (vB x):=fun q x=>by simp [vBs,List.map_set]
     rw [e2];exact o2
 refine key l.length 0 w1 (by omega) k1 hrd ?_
 simpa [pk,putBs] using o1'
end Go.Proofs.YtmfgmcajelmgbaaGreatDoor.Bits
namespace Go.Proofs.YtmfgmcajelmgbaaGreatDoor.Bits
open Go Vm Go.RowKit Num Mem
theorem bitLenAux_up:∀ f x k,x<2 ^ k→Lib.bitLenAux f x≤k
 | 0,_,_,_=>Nat.zero_le _
 | f+1,x,k,h=>by
  unfold Lib.bitLenAux
  split
  ·exact Nat.zero_le _
  ·cases k with
   | zero=>simp at h;omega
   | succ k =>
    have:=bitLenAux_up f (x / 2) k (by rw [Nat.pow_succ] at h;omega)
    omega
theorem lt_bitLen {x k:Nat} (h:k<Lib.bitLen x):2 ^ k≤x:=by
 rcases Nat.lt_or_ge x (2 ^ k) with h1 | h1
 ·have:Lib.bitLen x≤k:=bitLenAux_up 64 x k h1
  omega
 ·exact h1
theorem bit_val {v i:Nat} (hv:v<18446744073709551616) (hi:i≤64):Go.bits .and .u64 (shr .u64 (v:Int) (i:Int)) (1:Int)=((v / 2 ^ i % 2:Nat):Int):=by
 have hlt:v / 2 ^ i<18446744073709551616:=Nat.lt_of_le_of_lt (Nat.div_le_self _ _) hv
 rw [shr64 hi,show (1:Int)=((1:Nat):Int) from rfl,bits_and rfl (by simp only [IntKind.bits];omega) (by decide),Nat.and_one_is_mod]
theorem ahead_0 {x n:Nat} (h:x<18446744073709551616) (hn:n<lead x):x / 2 ^ (63-n) % 2=0:=by
 have h1:x<2 ^ (63-n):=by
  refine Nat.lt_of_lt_of_le (lt_lead h (Nat.le_refl _)) (Nat.pow_le_pow_right (by decide) ?_)
  have:=lead_le x
  omega
 rw [Nat.div_eq_of_lt h1]
theorem ahead_1 {x:Nat} (h:x<18446744073709551616) (hn:lead x<31):x / 2 ^ (63-lead x) % 2=1:=by
 have hb:=bitLen_le x
 have e:Lib.bitLen x=64-lead x:=by unfold lead at *;omega
 have h1:=lt_bitLen (x:=x) (k:=63-lead x) (by omega)
 have h2:x<2 ^ (63-lead x)*2:=by
  have:=bitLen_lt h
  rw [e,show 64-lead x=(63-lead x)+1 by omega,Nat.pow_succ] at this
  exact this
 have h3:x / 2 ^ (63-lead x)=1:=by
  rw [Nat.div_eq_iff (Nat.pow_pos (by decide))];omega
 rw [h3]
theorem behind_0 {x n:Nat} (h:x<18446744073709551616) (h0:x≠0) (hn:n<trail x):x / 2 ^ n % 2=0:=by
 obtain ⟨m,hm,_⟩:=trail_spec h h0
 have e:2 ^ trail x=2 ^ n*(2*2 ^ (trail x-n-1)):=by
  rw [Nat.mul_comm 2,← Nat.pow_succ,← Nat.pow_add]
  congr 1;omega
 have:x / 2 ^ n=2*(2 ^ (trail x-n-1)*(2*m+1)):=by
  conv=>lhs;rw [hm,e]
  rw [Nat.mul_assoc,Nat.mul_div_cancel_left _ (Nat.pow_pos (by decide)),Nat.mul_assoc]
 rw [this];omega
theorem behind_1 {x:Nat} (h:x<18446744073709551616) (h0:x≠0):x / 2 ^ trail x % 2=1:=by
 obtain ⟨m,hm,_⟩:=trail_spec h h0
 have:x / 2 ^ trail x=2*m+1:=by
  conv=>lhs;lhs;rw [hm]
  exact Nat.mul_div_cancel_left _ (Nat.pow_pos (by decide))
 rw [this];omega
end Go.Proofs.YtmfgmcajelmgbaaGreatDoor.Bits
namespace Go.Proofs.YtmfgmcajelmgbaaGreatDoor.Chunk
open Go Vm Go.RowKit Num Mem Bits Vint
variable {ω ω' : Tg} {w w' w0 : World} {t : Nat}
theorem rlead_ok {x:Nat} (h:x<18446744073709551616) {K:Int→World→Prop} (hK:K ((lead x:Nat):Int) w):C.tocsinref08_lead (x:Int) w K:=by
 unfold C.tocsinref08_lead
 refine C.tocsinref08_lead.L5_ind fun X hX=>?_
 have hl:=lead_le x
 have key:∀ (d n:Nat),n+d=lead x→X (x:Int) (n:Int) w:=by
  intro d
  induction d with
  | zero =>
   intro n hn
   refine hX _ _ _ ?_
   unfold C.tocsinref08_lead.S7 C.tocsinref08_lead.S2
   have en:n=lead x:=by omega
   subst en
   refine cond_d (fun h31=>⟨by rw [wU64];omega,?_⟩) (fun _=>hK)
   rw [wI64 (x:=63-((lead x:Nat):Int)) (by omega) (by omega),wU64_id (by omega) (by omega),show 63-((lead x:Nat):Int)=((63-lead x:Nat):Int) by omega,bit_val h (by omega),ahead_1 h (by omega)]
   exact cond_f rfl hK
  | succ d ih =>
   intro n hn
   refine hX _ _ _ ?_
   unfold C.tocsinref08_lead.S7
   refine cond_d (fun h31=>⟨by rw [wU64];omega,?_⟩) (fun h=>by omega)
   rw [wI64 (x:=63-(n:Int)) (by omega) (by omega),wU64_id (by omega) (by omega),show 63-(n:Int)=((63-n:Nat):Int) by omega,bit_val h (by omega),ahead_0 h (by omega)]
   refine cond_t rfl ?_
   rw [wI64 (by omega) (by omega),show (n:Int)+1=((n+1:Nat):Int) by omega]
   exact ih (n+1) (by omega)
 exact key (lead x) 0 (by omega)
theorem rtrail_ok {x:Nat} (h:x<18446744073709551616) (h0:x≠0) {K:Int→World→Prop} (hK:K ((trail x:Nat):Int) w):C.tocsinref08_trail (x:Int) w K:=by
 unfold C.tocsinref08_trail
 refine C.tocsinref08_trail.L5_ind fun X hX=>?_
 obtain ⟨_,_,hl⟩:=trail_spec h h0
 have key:∀ (d n:Nat),n+d=trail x→X (x:Int) (n:Int) w:=by
  intro d
  induction d with
  | zero =>
   intro n hn
   refine hX _ _ _ ?_
   unfold C.tocsinref08_trail.S7 C.tocsinref08_trail.S2
   have en:n=trail x:=by omega
   subst en
   refine ⟨by rw [wU64];omega,?_⟩
   rw [wU64_id (by omega) (by omega),bit_val h (by omega),behind_1 h h0]
   exact cond_f rfl hK
  | succ d ih =>
   intro n hn
   refine hX _ _ _ ?_
   unfold C.tocsinref08_trail.S7
   refine ⟨by rw [wU64];omega,?_⟩
   rw [wU64_id (by omega) (by omega),bit_val h (by omega),behind_0 h h0 (by omega)]
   refine cond_t rfl ?_
   rw [wI64 (by omega) (by omega),show (n:Int)+1=((n+1:Nat):Int) by omega]
   exact ih (n+1) (by omega)
 exact key (trail x) 0 (by omega)
theorem whole_ok {u gs:Nat} {bs:List Bool} {a:Int} (h:StT ω w t gs bs a) {b:Sl} {m:List UInt8} (hb:OBy ω w u b m) (hu:Duo t (t+1) u=false) (hn:bs.length+8*m.length≤8388608) {K:World→Prop}
  (hK:∀ ω' w',Stp (Duo t (t+1)) ω ω' w w'→StT ω' w' t gs (bs++byteBits m) a→K w'):C.tocsinref08_whole (wp gs) b w K:=by
 unfold C.tocsinref08_whole
 refine C.tocsinref08_whole.L3_ind fun X hX=>?_
 have hbn:=hb.len
 have key:∀ (d i:Nat) (ω':Tg) (w':World),d+i=m.length→Stp (Duo t (t+1)) ω ω' w w'→OBy ω' w' u b m→StT ω' w' t gs (bs++byteBits (m.take i)) a→X (wp gs) b ((b.n:Nat):Int) (i:Int) w':=by
  intro d
  induction d with
  | zero =>
   intro i ω' w' hi k hb' h'
   refine hX _ _ _ _ _ ?_
   unfold C.tocsinref08_whole.S5
   refine cond_d (fun h=>by omega) (fun _=>hK ω' w' k ?_)
   rwa [show i=m.length by omega,List.take_length] at h'
  | succ d ih =>
   intro i ω' w' hi k hb' h'
   have him:i<m.length:=by omega
   refine hX _ _ _ _ _ ?_
   unfold C.tocsinref08_whole.S5
   refine cond_d (fun _=>?_) (fun h=>by omega)
   refine RdB.at_ hb'.rd him ?_
   have hlt:=m[i].toNat_lt
   have htl:(m.take i).length=i:=by rw [List.length_take,Nat.min_eq_left (by omega)]
   refine write_T (v:=m[i].toNat) (k:=8) (by omega) (by decide) h' (by rw [List.length_append,byteBits_len,htl];omega) (by rw [wU64_id (by omega) (by omega)]) rfl fun ω2 w2 k2 h2=>?_
   rw [wI64 (by omega) (by omega),show (i:Int)+1=((i+1:Nat):Int) by omega]
   refine ih (i+1) ω2 w2 (by omega) (k.trans k2) (hb'.stp k2 hu) ?_
   have e:byteBits (m.take (i+1))=byteBits (m.take i)++low m[i].toNat 8:=by
    rw [List.take_add_one,List.getElem?_eq_getElem him]
    unfold byteBits
    rw [List.flatMap_append]
    simp
   rw [e,← List.append_assoc]
   exact h2
 exact key m.length 0 ω w (by omega) (Stp.refl _ _ _) hb (by simpa [byteBits] using h)
end Go.Proofs.YtmfgmcajelmgbaaGreatDoor.Chunk
namespace Go.Proofs.YtmfgmcajelmgbaaGreatDoor.Chunk
open Go Vm Go.RowKit Num Mem Bits Vint
variable {ω ω' : Tg} {w w' w0 : World} {t gs gp : Nat} {bs : List Bool} {wn : Win}
def rA:Win→Int | some (a,_)=>(a:Int) | none=>64
structure RfT (ω:Tg) (w:World) (t gp gs:Nat) (T D:Int) (V:Nat) (bs:List Bool) (wn:Win):Prop where
 st:BT ω w t gp 196 [.int .i64 T,.int .i64 D,.int .u64 (V:Int),.int .i64 (rA wn),.int .i64 (winB wn)]
 str:StT ω w (t+1) gs bs 0
variable {T D : Int} {V : Nat}
theorem RfT.stp {X:Nat→Bool} (h:RfT ω w t gp gs T D V bs wn) (k:Stp X ω ω' w w') (n0:X t=false) (n1:X (t+1)=false) (n2:X (t+2)=false):RfT ω' w' t gp gs T D V bs wn :=
 ⟨h.st.stp k n0,h.str.stp k n1 n2⟩
theorem RfT.non (h:RfT ω w t gp gs T D V bs wn) (k:Stp Non ω ω' w w'):RfT ω' w' t gp gs T D V bs wn:=h.stp k rfl rfl rfl
theorem duo_rng {s n a b:Nat} {u:Nat} (ha:s≤a) (ha2:a<s+n) (hb:s≤b) (hb2:b<s+n) (h:Rng s n u=false):Duo a b u=false:=by
 have h1:=rng_in ha ha2 h
 have h2:=rng_in hb hb2 h
 simp only [Mem.One] at h1 h2
 simp [Duo,h1,h2]
theorem duo_no {a b u:Nat} (h1:u≠a) (h2:u≠b):Duo a b u=false:=by simp [Duo,beq_no h1,beq_no h2]
theorem RfT.write (h:RfT ω w t gp gs T D V bs wn) {v:Nat} (hv:v<18446744073709551616) {k:Nat} (hk:k≤64) (hl:bs.length≤8388608) {x m:Int} (hx:x=(v:Int)) (hm:m=(k:Int)) {K:World→Prop}
  (hK:∀ ω' w',Stp (Rng t 3) ω ω' w w'→RfT ω' w' t gp gs T D V (bs++low v k) wn→K w'):C.tocsinref02_Stream_Write (wp gs) x m w K :=
 write_T hv hk h.str hl hx hm fun ω' w' s h'=>hK ω' w' (s.mono fun u hu=>duo_rng (by omega) (by omega) (by omega) (by omega) hu) ⟨h.st.stp s (duo_no (by omega) (by omega)),h'⟩
theorem RfT.set (h:RfT ω w t gp gs T D V bs wn) {j:Nat} (hj:j<5) {v:Value} {K:World→Prop} {T' D':Int} {V':Nat} {wn':Win}
  (he:[Value.int .i64 T,.int .i64 D,.int .u64 (V:Int),.int .i64 (rA wn),.int .i64 (winB wn)].set j v=[.int .i64 T',.int .i64 D',.int .u64 (V':Int),.int .i64 (rA wn'),.int .i64 (winB wn')])
  (hK:∀ ω' w',Stp (Rng t 3) ω ω' w w'→RfT ω' w' t gp gs T' D' V' bs wn'→K w'):G.st ⟨gp,j,none⟩ v w K :=
 st_T h.st (by simpa using hj) fun ω' w' s b=>hK ω' w' (s.rng (by omega) (by omega)) ⟨by rw [he] at b;exact b,h.str.stp s (beq_no (by omega)) (beq_no (by omega))⟩
theorem RfT.setA (h:RfT ω w t gp gs T D V bs wn) {j:Nat} (hj:j<5) {v:Value} {K:World→Prop} {T' D':Int} {V':Nat} {wn':Win}
  (he:[Value.int .i64 T,.int .i64 D,.int .u64 (V:Int),.int .i64 (rA wn),.int .i64 (winB wn)].set j v=[.int .i64 T',.int .i64 D',.int .u64 (V':Int),.int .i64 (rA wn'),.int .i64 (winB wn')])
  (hK:∀ ω' w',Stp (Rng t 3) ω ω' w w'→RfT ω' w' t gp gs T' D' V' bs wn'→K w'):G.st (Addr.add ⟨gp,0,none⟩ j) v w K:=by
 rw [addr_add,Nat.zero_add];exact h.set hj he hK
theorem rtime_ok (h:RfT ω w t gp gs T D V bs wn) {d:Int} (hd:-9223372036854775808≤d∧d≤9223372036854775807) (hl:bs.length≤8388000) {K:World→Prop}
  (hK:∀ ω' w',Stp (Rng t 3) ω ω' w w'→RfT ω' w' t gp gs T D V (bs++tform d) wn→K w'):C.tocsinref08_time (wp gs) d w K:=by
 unfold C.tocsinref08_time
 unfold tform at hK
 refine cond_eq (fun h0=>?_) (fun h0=>?_)
 ·rw [if_pos h0] at hK
  exact h.write (v:=0) (k:=1) (by decide) (by decide) (by omega) rfl rfl hK
 rw [if_neg h0] at hK
 refine in_ok (k:=14) (by decide) (by decide) ?_
 have two:∀ (o a k:Nat) (ho:o<18446744073709551616) (ha:a≤64) (hk:k≤64),(∀ ω' w',Stp (Rng t 3) ω ω' w w'→RfT ω' w' t gp gs T D V (bs++(low o a++low (lowN d k) k)) wn→K w') →
   C.tocsinref02_Stream_Write (wp gs) (o:Int) (a:Int) w fun w1=>C.tocsinref02_Low d (k:Int) w1 fun n7 w8=>C.tocsinref02_Stream_Write (wp gs) n7 (k:Int) w8 fun w9=>K w9:=by
  intro o a k ho ha hk hK
  refine h.write ho ha (by omega) rfl rfl fun ω1 w1 s1 h1=>rlow_ok ?_
  refine h1.write (lowN_lt d k) hk (by rw [List.length_append,low_len];omega) rfl rfl fun ω2 w2 s2 h2=>hK ω2 w2 (s1.trans s2) ?_
  rw [← List.append_assoc];exact h2
 cases e1:fitsB d 14 with
 | true =>
  rw [e1,if_pos rfl] at hK
  exact cond_t rfl (two 2 2 14 (by decide) (by decide) (by decide) hK)
 | false =>
  rw [e1,if_neg (by decide)] at hK
  refine cond_f rfl (in_ok (k:=17) (by decide) (by decide) ?_)
  cases e2:fitsB d 17 with
  | true =>
   rw [e2,if_pos rfl] at hK
   exact cond_t rfl (two 6 3 17 (by decide) (by decide) (by decide) hK)
  | false =>
   rw [e2,if_neg (by decide)] at hK
   refine cond_f rfl (in_ok (k:=20) (by decide) (by decide) ?_)
   cases e3:fitsB d 20 with
   | true =>
    rw [e3,if_pos rfl] at hK
    exact cond_t rfl (two 14 4 20 (by decide) (by decide) (by decide) hK)
   | false =>
    rw [e3,if_neg (by decide)] at hK
    refine cond_f rfl ?_
    refine h.write (v:=15) (k:=4) (by decide) (by decide) (by omega) rfl rfl fun ω1 w1 s1 h1=>?_
    refine h1.write (uN_lt d) (k:=64) (by decide) (by rw [List.length_append,low_len];omega) (wrapU d) rfl fun ω2 w2 s2 h2=>hK ω2 w2 (s1.trans s2) ?_
    rw [← List.append_assoc];exact h2
theorem low_back {z k:Nat} (hz:z<18446744073709551616) (hk:k≤64) (h:z<2 ^ k):lowN (IntKind.i64.wrap (z:Int)) k=z:=by
 have e:uN (IntKind.i64.wrap (z:Int))=z:=by
  unfold uN
  rw [wI64']
  split<;>omega
 unfold lowN
 rw [e]
 split
 ·exact Nat.mod_eq_of_lt h
 ·rfl
theorem rvalue_ok (h:RfT ω w t gp gs T D V bs wn) (hwn:WinOk wn) (hV:V<18446744073709551616) {v:Nat} (hv:v<18446744073709551616) (hl:bs.length≤8388000) {K:World→Prop}
  (hK:∀ ω' w',Stp (Rng t 3) ω ω' w w'→RfT ω' w' t gp gs T D v (bs++(vform wn (v ^^^ V)).1) (vform wn (v ^^^ V)).2→K w'):C.tocsinref08_State_value (wp gp) (wp gs) (v:Int) w K:=by
 unfold C.tocsinref08_State_value
 refine ptr_at (cI_at (n:=(V:Int)) (by rw [addr_add,h.st.cell];rfl) ?_)
 rw [xor_eq hv hV]
 have hx:=xor64_lt hv hV
 generalize v ^^^ V=x at *
 refine ptr_at (h.setA (by decide) (T':=T) (D':=D) (V':=v) (wn':=wn) rfl fun ω1 w1 s1 h1=>?_)
 unfold vform at hK
 refine cond_eq (fun hz=>?_) (fun hz=>?_)
 ·have:x=0:=by omega
  subst this
  rw [if_pos rfl] at hK
  exact h1.write (v:=0) (k:=1) (by decide) (by decide) (by omega) rfl rfl fun ω2 w2 s2 h2=>hK ω2 w2 (s1.trans s2) h2
 have h0:x≠0:=by omega
 rw [if_neg h0] at hK
 refine h1.write (v:=1) (k:=1) (by decide) (by decide) (by omega) rfl rfl fun ω2 w2 s2 h2=>?_
 refine rlead_ok hx (rtrail_ok hx h0 ?_)
 have hll:=lead_le x
 have hlt:=lead_trail hx h0
 have s02:=s1.trans s2
 have neu:holdsW wn x=false→C.tocsinref08_State_value.S2 K (wp gp) (wp gs) (x:Int) ((lead x:Nat):Int) ((trail x:Nat):Int) w2:=by
  intro hh
  rw [hh,if_neg (by decide)] at hK
  unfold C.tocsinref08_State_value.S2
  refine h2.write (v:=1) (k:=1) (by decide) (by decide) (by rw [List.length_append,low_len];omega) rfl rfl fun ω3 w3 s3 h3=>?_
  refine h3.write (v:=lead x) (k:=5) (by omega) (by decide) (by simp only [List.length_append,low_len];omega) (by rw [wU64_id (by omega) (by omega)]) rfl fun ω4 w4 s4 h4=>⟨by decide,?_⟩
  have en:IntKind.i64.wrap ((IntKind.i64.wrap ((64:Int)-((lead x:Nat):Int)))-((trail x:Nat):Int))=((64-lead x-trail x:Nat):Int):=by
   rw [wI64 (x:=64-((lead x:Nat):Int)) (by omega) (by omega),wI64 (by omega) (by omega)];omega
  rw [en]
  refine h4.write (v:=(64-lead x-trail x) % 64) (k:=6) (by omega) (by decide) (by simp only [List.length_append,low_len];omega) (by
   rw [show Int.tmod ((64-lead x-trail x:Nat):Int) (64:Int)=(((64-lead x-trail x) % 64:Nat):Int) from rfl,wU64_id (by omega) (by omega)]) rfl fun ω5 w5 s5 h5=>⟨by rw [wU64];omega,?_⟩
  rw [wU64_id (by omega) (by omega),shr64 (by omega)]
  have hmid:=mid_lt hx (Nat.le_refl (lead x)) (b:=trail x) (by omega)
  refine h5.write (v:=x / 2 ^ trail x) (k:=64-lead x-trail x) (Nat.lt_of_le_of_lt (Nat.div_le_self _ _) hx) (by omega) (by simp only [List.length_append,low_len];omega) rfl rfl fun ω6 w6 s6 h6=>?_
  refine ptr_at (st_TA h6.st (by simp) fun ω7 w7 s7 b7=>?_)
  refine ptr_at (st_TA b7 (by simp) fun ω8 w8 s8 b8=>?_)
  have s78:=s7.trans s8
  refine hK ω8 w8 ((((((s02.trans s3).trans s4).trans s5).trans s6).trans (s78.rng (by omega) (by omega)))) ⟨b8,?_⟩
  have:=h6.str.stp s78 (beq_no (by omega)) (beq_no (by omega))
  simpa only [List.append_assoc] using this
 refine ptr_at (cI_at (n:=rA wn) (by rw [addr_add,h2.st.cell];rfl) ?_)
 refine cond_d (fun c1=>?_) (fun c1=>neu ?_)
 ·refine ptr_at (cI_at (n:=rA wn) (by rw [addr_add,h2.st.cell];rfl) ?_)
  cases wn with
  | none=>exact absurd c1 (by decide)
  | some ab =>
   obtain ⟨a,b⟩:=ab
   obtain ⟨ha,hab⟩:=hwn a b rfl
   show G.cond (decide (((lead x:Nat):Int) ≥ (a:Int))) _ _
   refine cond_d (fun c2=>?_) (fun c2=>neu (by unfold holdsW;simp only [Bool.and_eq_false_iff,decide_eq_false_iff_not];left;omega))
   refine ptr_at (cI_at (n:=(b:Int)) (by rw [addr_add,h2.st.cell];rfl) ?_)
   refine cond_d (fun c3=>?_) (fun c3=>neu (by unfold holdsW;simp only [Bool.and_eq_false_iff,decide_eq_false_iff_not];right;omega))
   have hh:holdsW (some (a,b)) x=true:=by unfold holdsW;simp only [Bool.and_eq_true,decide_eq_true_eq];omega
   rw [hh,if_pos rfl] at hK
   have kd:=drew_stp ω2 w2
   have hd:=h2.non kd
   refine ptr_at (cI_at (n:=(a:Int)) (by rw [addr_add,hd.st.cell];rfl) ?_)
   refine ptr_at (cI_at (n:=(b:Int)) (by rw [addr_add,hd.st.cell];rfl) ?_)
   refine hd.write (v:=0) (k:=1) (by decide) (by decide) (by rw [List.length_append,low_len];omega) rfl rfl fun ω3 w3 s3 h3=>?_
   refine ptr_at (cI_at (n:=(b:Int)) (by rw [addr_add,h3.st.cell];rfl) ⟨by rw [wU64];omega,?_⟩)
   have en:IntKind.i64.wrap ((IntKind.i64.wrap ((64:Int)-(a:Int)))-(b:Int))=((64-a-b:Nat):Int):=by
    rw [wI64 (x:=64-(a:Int)) (by omega) (by omega),wI64 (by omega) (by omega)];omega
   rw [en,wU64_id (by omega) (by omega),shr64 (by omega)]
   refine rlow_ok ?_
   have hmid:=mid_lt hx (a:=a) (b:=b) (by omega) (by omega)
   have elow:lowN (IntKind.i64.wrap ((x / 2 ^ b:Nat):Int)) (64-a-b)=x / 2 ^ b:=by
    refine low_back ?_ ?_ hmid
    ·exact Nat.lt_of_le_of_lt (Nat.div_le_self _ _) hx
    ·omega
   rw [elow]
   refine h3.write (v:=x / 2 ^ b) (k:=64-a-b) (Nat.lt_of_le_of_lt (Nat.div_le_self _ _) hx) (by omega) (by simp only [List.length_append,low_len];omega) rfl rfl fun ω4 w4 s4 h4=>?_
   refine hK ω4 w4 (((s02.trans (kd.non _)).trans s3).trans s4) ?_
   simpa only [List.append_assoc] using h4
 ·cases wn with
  | none=>rfl
  | some ab =>
   obtain ⟨a,b⟩:=ab
   obtain ⟨ha,hab⟩:=hwn a b rfl
   exact absurd (show (a:Int)<64 by omega) c1
def dlt (l:List Smp):Int:=match l.reverse with | b::a::_=>b.1-a.1 | _=>0
theorem lastS_rev {l:List Smp} {b:Smp} {r:List Smp} (h:l.reverse=b::r):lastS l=b:=by
 unfold lastS
 rw [← List.head?_reverse,h];rfl
theorem lastS_snoc (l:List Smp) (s:Smp):lastS (l++[s])=s:=by simp [lastS]
theorem dlt_snoc {l:List Smp} {s b:Smp} {r:List Smp} (h:l.reverse=b::r):dlt (l++[s])=s.1-b.1:=by
 unfold dlt
 rw [List.reverse_append,h];rfl
theorem rput_ok {l:List Smp} (h:RfT ω w t gp gs (lastS l).1 (dlt l) (lastS l).2 bs wn) (ht:0<t) (hwn:WinOk wn) (hf:Fine l) {s:Smp} (h0:0≤s.1) (h1:s.1≤1125899906842624) (hv:s.2<18446744073709551616) (hl:bs.length≤8380000) {n:Int} (hn:n=(l.length:Int)) {K:World→Prop}
  (hK:∀ ω' w',Stp (Rng t 6) ω ω' w w'→RfT ω' w' t gp gs (lastS (l++[s])).1 (dlt (l++[s])) (lastS (l++[s])).2 (bs++(emit l wn s).1) (emit l wn s).2→K w'):C.tocsinref08_State_Put (wp gp) (wp gs) n s.1 s.2 w K:=by
 subst hn
 have up:∀ {u n:Nat} {ω ω':Tg} {w w':World},Stp (Rng t n) ω ω' w w'→n≤6→Stp (Rng t 6) ω ω' w w':=fun h hn=>h.mono fun u hu=>by
  by_cases a:t≤u∧u<t+6
  ·have:Rng t 6 u=true:=by simp [Rng,Nat.ble_eq_true_of_le a.1,Nat.blt_eq.mpr a.2]
   rw [this] at hu;cases hu
  ·exact rng_out (by omega)
 unfold C.tocsinref08_State_Put
 refine new_T (ω:=ω) (t+3) fun g ω1 w1 k1 b1=>?_
 have h1':=h.non k1
 refine cF_at (b:=s.2) (by rw [addr_add,b1.cell];rfl) (fb_at ?_)
 rcases hr:l.reverse with _ | ⟨b,_ | ⟨a,r⟩⟩
 ·have hl0:l=[]:=List.reverse_eq_nil_iff.1 hr
  subst hl0
  refine cond_t rfl (cI_at (n:=s.1) (by rw [b1.cell];rfl) ?_)
  refine rputI_ok (l:=[]) (by omega) (by omega) (Rd.nil w1 1) (by decide) fun q w2 k2 o2=>?_
  have s2:=k2.stp ω1 (t+4)
  have o2':=Own.tag o2 (Nat.le_refl _) ω1 (t+4)
  rw [List.nil_append] at o2'
  have h2:=h1'.non s2
  have b2:=b1.stp s2
  have hlen:=putU_len64 (zz_lt50 h0 h1)
  refine whole_ok h2.str o2' (duo_no (by omega) (by omega)) (by omega) fun ω3 w3 s3 h3=>?_
  have r3:RfT ω3 w3 t gp gs (lastS []).1 (dlt []) (lastS []).2 (bs++byteBits (putU (zz s.1))) wn:=⟨h2.st.stp s3 (duo_no (by omega) (by omega)),h3⟩
  have b3:=b2.stp s3 (duo_no (by omega) (by omega))
  refine r3.write (v:=s.2) (k:=64) hv (by decide) (by rw [List.length_append,byteBits_len];omega) rfl rfl fun ω4 w4 s4 r4=>?_
  have b4:=b3.stp s4 (rng_out (by omega))
  refine ptr_at (r4.setA (by decide) (T':=0) (D':=0) (V':=s.2) (wn':=wn) rfl fun ω5 w5 s5 r5=>?_)
  have b5:=b4.stp s5 (rng_out (by omega))
  refine cI_at (n:=s.1) (by rw [b5.cell];rfl) ?_
  refine ptr_at (r5.set (by decide) (T':=s.1) (D':=0) (V':=s.2) (wn':=wn) rfl fun ω6 w6 s6 r6=>?_)
  refine hK ω6 w6 (((((((k1.trans s2).non _).trans (s3.mono fun u hu=>duo_rng (by omega) (by omega) (by omega) (by omega) hu)).trans (up (u:=0) s4 (by decide))).trans (up (u:=0) s5 (by decide)))).trans (up (u:=0) s6 (by decide))) ?_
  have e:emit [] wn s=(byteBits (putU (zz s.1))++low s.2 64,wn):=rfl
  rw [e,← List.append_assoc]
  exact r6
 ·have hll:l=[b]:=by rw [← List.reverse_reverse l,hr];rfl
  subst hll
  have hb:=hf b (List.mem_singleton.2 rfl)
  refine cond_f rfl (cond_t rfl ?_)
  have kd:=drew_stp ω1 w1
  have hd:=h1'.non kd
  have bd:=b1.stp kd
  refine cI_at (n:=s.1) (by rw [bd.cell];rfl) (ptr_at (cI_at (n:=b.1) (by rw [hd.st.cell];rfl) ?_))
  rw [wI64 (x:=s.1-b.1) (by omega) (by omega)]
  refine ptr_at (hd.setA (by decide) (T':=b.1) (D':=s.1-b.1) (V':=b.2) (wn':=wn) rfl fun ω2 w2 s2 r2=>?_)
  have b2:=bd.stp s2 (rng_out (by omega))
  refine ptr_at (cI_at (n:=s.1-b.1) (by rw [addr_add,r2.st.cell];rfl) ?_)
  rw [wrapU]
  refine rputU_ok (l:=[]) (uN_lt _) (Rd.nil w2 1) (by decide) fun q w3 k3 o3=>?_
  have s3:=k3.stp ω2 (t+4)
  have o3':=Own.tag o3 (Nat.le_refl _) ω2 (t+4)
  rw [List.nil_append] at o3'
  have r3:=r2.non s3
  have b3:=b2.stp s3
  have hlen:=putU_len64 (uN_lt (s.1-b.1))
  refine whole_ok r3.str o3' (duo_no (by omega) (by omega)) (by omega) fun ω4 w4 s4 h4=>?_
  have r4:RfT ω4 w4 t gp gs b.1 (s.1-b.1) b.2 (bs++byteBits (putU (uN (s.1-b.1)))) wn:=⟨r3.st.stp s4 (duo_no (by omega) (by omega)),h4⟩
  have b4:=b3.stp s4 (duo_no (by omega) (by omega))
  refine rvalue_ok r4 hwn hb.2.2 hv (by rw [List.length_append,byteBits_len];omega) fun ω5 w5 s5 r5=>?_
  have b5:=b4.stp s5 (rng_out (by omega))
  refine cI_at (n:=s.1) (by rw [b5.cell];rfl) ?_
  refine ptr_at (r5.set (by decide) (T':=s.1) (D':=s.1-b.1) (V':=s.2) (wn':=(vform wn (s.2 ^^^ b.2)).2) rfl fun ω6 w6 s6 r6=>?_)
  refine hK ω6 w6 ((((((((k1.trans kd).non _).trans (up (u:=0) s2 (by decide))).trans (s3.non _)).trans (s4.mono fun u hu=>duo_rng (by omega) (by omega) (by omega) (by omega) hu)).trans (up (u:=0) s5 (by decide)))).trans (up (u:=0) s6 (by decide))) ?_
  have e:emit [b] wn s=(byteBits (putU (uN (s.1-b.1)))++(vform wn (s.2 ^^^ b.2)).1,(vform wn (s.2 ^^^ b.2)).2):=rfl
  rw [e,← List.append_assoc]
  exact r6
 ·have hll:l=r.reverse++[a]++[b]:=by rw [← List.reverse_reverse l,hr];simp
  have hb:=hf b (by rw [hll];simp)
  have ha:=hf a (by rw [hll];simp)
  have hlen:2≤l.length:=by rw [hll];simp
  have eT:=lastS_rev hr
  have eD:dlt l=b.1-a.1:=by unfold dlt;rw [hr]
  rw [eT,eD] at h1'
  refine cond_eq (fun h=>by omega) (fun _=>cond_eq (fun h=>by omega) (fun _=>?_))
  have kd:=drew_stp ω1 w1
  have hd:=h1'.non kd
  have bd:=b1.stp kd
  refine cI_at (n:=s.1) (by rw [bd.cell];rfl) (ptr_at (cI_at (n:=b.1) (by rw [hd.st.cell];rfl) (ptr_at (cI_at (n:=b.1-a.1) (by rw [addr_add,hd.st.cell];rfl) ?_))))
  rw [wI64 (x:=s.1-b.1) (by omega) (by omega),wI64 (x:=s.1-b.1-(b.1-a.1)) (by omega) (by omega)]
  refine rtime_ok hd (by omega) (by omega) fun ω2 w2 s2 r2=>?_
  have b2:=bd.stp s2 (rng_out (by omega))
  refine ptr_at (r2.setA (by decide) (T':=b.1) (D':=s.1-b.1) (V':=b.2) (wn':=wn) rfl fun ω3 w3 s3 r3=>?_)
  have b3:=b2.stp s3 (rng_out (by omega))
  have htl:=tform_len (s.1-b.1-(b.1-a.1))
  refine rvalue_ok r3 hwn hb.2.2 hv (by rw [List.length_append];omega) fun ω5 w5 s5 r5=>?_
  have b5:=b3.stp s5 (rng_out (by omega))
  refine cI_at (n:=s.1) (by rw [b5.cell];rfl) ?_
  refine ptr_at (r5.set (by decide) (T':=s.1) (D':=s.1-b.1) (V':=s.2) (wn':=(vform wn (s.2 ^^^ b.2)).2) rfl fun ω6 w6 s6 r6=>?_)
  refine hK ω6 w6 ((((((k1.trans kd).non _).trans (up (u:=0) s2 (by decide))).trans (up (u:=0) s3 (by decide))).trans (up (u:=0) s5 (by decide))).trans (up (u:=0) s6 (by decide))) ?_
  have e:emit l wn s=(tform (s.1-b.1-(b.1-a.1))++(vform wn (s.2 ^^^ b.2)).1,(vform wn (s.2 ^^^ b.2)).2):=by unfold emit;rw [hr]
  rw [e,← List.append_assoc,lastS_snoc,dlt_snoc hr]
  exact r6
end Go.Proofs.YtmfgmcajelmgbaaGreatDoor.Chunk
namespace Go.Proofs.YtmfgmcajelmgbaaGreatDoor.Chunk
open Go Vm Go.RowKit Num Mem Bits Vint
variable {ω ω' : Tg} {w w' w0 : World} {t gs gp : Nat} {bs : List Bool} {wn : Win}
theorem run_take {m:List Smp} {i:Nat} (h:i<m.length):run (m.take (i+1))=((run (m.take i)).1++(emit (m.take i) (run (m.take i)).2 m[i]).1,(emit (m.take i) (run (m.take i)).2 m[i]).2):=by
 rw [List.take_add_one,List.getElem?_eq_getElem h]
 exact run_snoc _ _
theorem Valid.take {m:List Smp} (h:Valid m) (i:Nat):Valid (m.take i):=by
 rw [← List.take_append_drop i m] at h
 exact h.pre
theorem len2 {n:Nat} (h:n≤120):(#[(.int .u8 (IntKind.u8.wrap (shr .i64 ((n:Nat):Int) (8:Int)))),(.int .u8 (IntKind.u8.wrap ((n:Nat):Int)))]:Array Value).toList=vBs [UInt8.ofNat (n / 256),UInt8.ofNat (n % 256)]:=by
 have e:=shr_nat .i64 ((n:Nat):Int) 8 (by decide)
 have e2:shr .i64 ((n:Nat):Int) (8:Int)=((n / 256:Nat):Int):=by rw [show (8:Int)=((8:Nat):Int) from rfl,e];simp
 rw [e2,wU8_id (by omega) (by omega),wU8_id (by omega) (by omega),vB_lit (by omega),vB_lit (by omega),Nat.mod_eq_of_lt (by omega)]
 rfl
theorem rbytes_ok {s:Sl} {m:List Smp} (hs:Rd w0 s 2 (smps m)) (hm:Valid m) {K:Sl→World→Prop} (hK:∀ r w',Keep w0 w'→OwnB w' w0.heap.size r (enc m)→K r w'):C.tocsinref08_Bytes s w0 K:=by
 have hsn:s.n=m.length:=by have:=hs.2.1;rw [smps_len] at this;omega
 have hlen:=hm.len
 unfold C.tocsinref08_Bytes
 refine new_T (ω:=fun _=>0) 2 fun gs ω1 w1 k1 b1=>?_
 unfold C.tocsinref08_New
 refine new_T (ω:=ω1) 1 fun gp ω2 w2 k2 b2=>?_
 unfold C.tocsinref08_Bytes.S9
 have top2:=((Top.init w0).stp k1).stp k2
 have r2:RfT ω2 w2 1 gp gs (lastS (m.take 0)).1 (dlt (m.take 0)) (lastS (m.take 0)).2 (run (m.take 0)).1 (run (m.take 0)).2:=⟨b2,nilS,b1.stp k2,OT.nil _ _ _ _ _⟩
 refine C.tocsinref08_Bytes.L5_ind fun X hX=>?_
 have key:∀ (d i:Nat) (ω:Tg) (w:World),i+d=m.length→Top w0 ω w→RfT ω w 1 gp gs (lastS (m.take i)).1 (dlt (m.take i)) (lastS (m.take i)).2 (run (m.take i)).1 (run (m.take i)).2→X s (wp gs) (wp gp) s ((s.n:Nat):Int) (i:Int) w:=by
  intro d
  induction d with
  | zero =>
   intro i ω w hi top r
   refine hX _ _ _ _ _ _ _ ?_
   unfold C.tocsinref08_Bytes.S7 C.tocsinref08_Bytes.S2
   rw [show i=m.length by omega,List.take_length] at r
   refine cond_d (fun h=>by omega) (fun _=>⟨by decide,?_⟩)
   rw [hsn]
   refine new_at ?_
   have kA:=Keep.alloc w (.cells #[(.int .u8 (IntKind.u8.wrap (shr .i64 ((m.length:Nat):Int) (8:Int)))),(.int .u8 (IntKind.u8.wrap ((m.length:Nat):Int)))] 5)
   have oA:=newOwn (w:=w) (n:=2) (len2 hlen) rfl (by decide)
   generalize w.alloc (.cells #[(.int .u8 (IntKind.u8.wrap (shr .i64 ((m.length:Nat):Int) (8:Int)))),(.int .u8 (IntKind.u8.wrap ((m.length:Nat):Int)))] 5)=w1 at *
   have hrl:=run_len hm
   have hpl:=pk_len (run m).1
   refine sbytes_T (r.str.non (kA.stp0 ω)) (by omega) fun q w2 k2 o2=>?_
   have k01:=Keep.trans top.k kA
   have k02:=Keep.trans k01 k2
   exact appB k02 k02.size (Mem.Own.mono (oA.keep k2) top.k.size) o2.rd (by simp only [List.length_cons,List.length_nil];omega) fun q w3 k3 o3=>hK q w3 k3 o3
  | succ d ih =>
   intro i ω w hi top r
   have him:i<m.length:=by omega
   refine hX _ _ _ _ _ _ _ ?_
   unfold C.tocsinref08_Bytes.S7
   refine cond_d (fun _=>?_) (fun h=>by omega)
   have hx:m[i]?=some m[i]:=List.getElem?_eq_getElem him
   refine rdS_at (hs.keep top.k) (k:=i) rfl hx fun a hc0 hc1=>cI_at hc0<|cF_at hc1 ?_
   refine new_T (ω:=ω) 8 fun g ω2 w2 k2 b2=>?_
   refine st_T b2 (by simp) fun ω3 w3 k3 b3=>?_
   refine st_TA b3 (by simp) fun ω4 w4 k4 b4=>?_
   refine cI_at (n:=m[i].1) (by rw [b4.cell];rfl)<|cF_at (b:=m[i].2) (by rw [addr_add,b4.cell];rfl) ?_
   have s4:=(k2.non (Mem.One 8)).trans (k3.trans k4)
   have hmem:=hm.mem m[i] (List.getElem_mem him)
   have hv:=hm.take i
   have hrl:=run_len hv
   have htl:(m.take i).length=i:=by rw [List.length_take,Nat.min_eq_left (by omega)]
   refine rput_ok (r.stp s4 rfl rfl rfl) (by decide) (run_ok hv) hv.mem hmem.1 hmem.2.1 hmem.2.2 (by omega) (by rw [htl]) fun ω5 w5 s5 r5=>?_
   rw [wI64 (by omega) (by omega),show (i:Int)+1=((i+1:Nat):Int) by omega]
   refine ih (i+1) ω5 w5 (by omega) ((top.stp s4).stp s5) ?_
   have et:m.take (i+1)=m.take i++[m[i]]:=by rw [List.take_add_one,hx];rfl
   rw [run_take him,et]
   exact r5
 exact key m.length 0 ω2 w2 (by omega) top2 r2
theorem wrong_ok {s:Sl} {m:List Smp} (hs:Rd w s 2 (smps m)) (hm:m.length≤120) {x:Int} {K:Int→World→Prop} (hK:K (wrong m x) w):C.tocsinref08_Wrong s x w K:=by
 have hsn:s.n=m.length:=by have:=hs.2.1;rw [smps_len] at this;omega
 unfold C.tocsinref08_Wrong
 unfold wrong at hK
 refine cond_d (fun h1=>by rw [if_pos (.inl h1)] at hK;exact hK) (fun h1=>cond_d (fun h2=>by rw [if_pos (.inr h2)] at hK;exact hK) (fun h2=>?_))
 rw [if_neg (by omega)] at hK
 have fin:late m x=false→G.cond (decide (((s.n:Nat):Int) ≥ (120:Int))) (K (8:Int) w) (K (0:Int) w):=fun hq=>by
  rw [hq,if_neg (by decide)] at hK
  exact cond_d (fun h=>by rw [if_pos (by omega)] at hK;exact hK) (fun h=>by rw [if_neg (by omega)] at hK;exact hK)
 refine cond_d (fun h3=>?_) (fun h3=>fin ?_)
 ·obtain ⟨a,ha⟩:∃ a,m[m.length-1]?=some a:=⟨_,List.getElem?_eq_getElem (by omega)⟩
  have hlast:m.getLast?=some a:=by rw [List.getLast?_eq_getElem?];exact ha
  refine rdS_at hs (k:=m.length-1) (by rw [wI64 (by omega) (by omega)];omega) ha fun p hc0 _=>cI_at hc0 ?_
  refine cond_d (fun h4=>?_) (fun h4=>fin ?_)
  ·have:late m x=true:=by unfold late;rw [hlast];simp only [decide_eq_true_eq];exact h4
   rw [this,if_pos rfl] at hK;exact hK
  ·unfold late;rw [hlast];simp only [decide_eq_false_iff_not];exact h4
 ·have:m=[]:=List.eq_nil_of_length_eq_zero (by omega)
  subst this;rfl
theorem same_ok {a b:Sl} {m n:List Smp} (ha:Rd w0 a 2 (smps m)) (hb:Rd w0 b 2 (smps n)) (hl:m.length≤9223372036854775807) {K:Bool→World→Prop}
  (hE:m=n→∀ w',Keep w0 w'→K true w') (hN:m≠n→∀ w',Keep w0 w'→K false w'):C.tocsinref08_Same a b w0 K:=by
 have han:a.n=m.length:=by have:=ha.2.1;rw [smps_len] at this;omega
 have hbn:b.n=n.length:=by have:=hb.2.1;rw [smps_len] at this;omega
 unfold C.tocsinref08_Same
 refine cond_ne (fun h=>hN (fun e=>h (by rw [han,hbn,e])) w0 (Keep.refl w0)) (fun h=>?_)
 have hmn:m.length=n.length:=by omega
 unfold C.tocsinref08_Same.S9
 refine C.tocsinref08_Same.L5_ind fun X hX=>?_
 have key:∀ (d i:Nat) (w:World),i+d=m.length→Keep w0 w→m.take i=n.take i→X a b ((a.n:Nat):Int) (i:Int) w:=by
  intro d
  induction d with
  | zero =>
   intro i w hi k e
   refine hX _ _ _ _ _ ?_
   unfold C.tocsinref08_Same.S7 C.tocsinref08_Same.S2
   refine cond_d (fun h=>by omega) (fun _=>hE ?_ w k)
   rw [List.take_of_length_le (by omega),List.take_of_length_le (by omega)] at e
   exact e
  | succ d ih =>
   intro i w hi k e
   refine hX _ _ _ _ _ ?_
   unfold C.tocsinref08_Same.S7
   have him:i<m.length:=by omega
   have hin:i<n.length:=by omega
   refine cond_d (fun _=>?_) (fun h=>by omega)
   have kd:=Keep.trans k (Keep.drew w)
   have hx:m[i]?=some m[i]:=List.getElem?_eq_getElem him
   have hy:n[i]?=some n[i]:=List.getElem?_eq_getElem hin
   refine rdS_at (ha.keep kd) (k:=i) rfl hx fun p hp0 hp1=>cI_at hp0 ?_
   refine rdS_at (hb.keep kd) (k:=i) rfl hy fun q hq0 hq1=>cI_at hq0 ?_
   have no:m[i]≠n[i]→K false w.drew:=fun hne=>hN (fun h=>hne (by subst h;rfl)) _ kd
   refine cond_ne (fun h1=>no fun h=>h1 (by rw [h])) (fun h1=>?_)
   refine rdS_at (ha.keep kd) (k:=i) rfl hx fun p hp0 hp1=>cF_at hp1 ?_
   refine rdS_at (hb.keep kd) (k:=i) rfl hy fun q hq0 hq1=>cF_at hq1 ?_
   refine fb_at ⟨same_refl _ _ _,fb_at ?_⟩
   refine cond_ne (fun h2=>no fun h=>h2 (by rw [h])) (fun h2=>?_)
   rw [wI64 (by omega) (by omega),show (i:Int)+1=((i+1:Nat):Int) by omega]
   refine ih (i+1) _ (by omega) kd ?_
   rw [List.take_add_one,List.take_add_one,hx,hy,e,show m[i]=n[i] from Prod.ext h1 (by omega)]
 exact key m.length 0 w0 (by omega) (Keep.refl w0) rfl
end Go.Proofs.YtmfgmcajelmgbaaGreatDoor.Chunk

namespace Go.Proofs.YtmfgmcajelmgbaaGreatDoor.Rep
open Go Vm Go.RowKit Num Mem Go.ChangeShapes Shut
inductive Sh where
 | int (k:IntKind) | bool | str | fl (k:FloatKind) | sl (es:List Sh)
def sumTo (f:Nat→Nat):Nat→Nat
 | 0=>0
 | n+1=>sumTo f n+f n
theorem sumTo_ge (f:Nat→Nat):∀ n i,i<n→f i≤sumTo f n
 | 0,i,h=>absurd h (Nat.not_lt_zero _)
 | n+1,i,h=>by
  rcases Nat.lt_succ_iff_lt_or_eq.1 h with h | rfl
  ·have:=sumTo_ge f n i h;simp only [sumTo];omega
  ·simp only [sumTo];omega
theorem sumTo_len (f:Nat→Nat):∀ n,(∀ i,i<n→1≤f i)→n≤sumTo f n
 | 0,_=>Nat.le_refl _
 | n+1,h=>by
  have:=sumTo_len f n fun i hi=>h i (by omega)
  have:=h n (by omega)
  simp only [sumTo];omega
inductive Cl (w:World):Sh→Value→Nat→Prop
 | int {k:IntKind} {n:Int} {b:Nat}:k.min≤n→n≤k.max→Cl w (.int k) (.int k n) b
 | bool {x:Bool} {b:Nat}:Cl w .bool (.bool x) b
 | str {s:ByteArray} {b:Nat}:s.size<b→Cl w .str (.string s) b
 | fl {k:FloatKind} {n b:Nat}:(Lit.float k n).wf=true→Cl w (.fl k) (.float k n) b
 | sl {s:Sl} {es:List Sh} {b:Nat} (f:Nat→Nat) (U:Nat→Nat→Value):s.n≤s.c→s.c≤maxLen→(∀ i,i<s.n→1≤f i)→sumTo f s.n<b→(s.a=none→s=nilS) →
   (0<s.n→∃ g o,s.a=some ⟨g,o,none⟩∧∀ i j sh,i<s.n→es[j]?=some sh→w.cell? ⟨g,o+(i*es.length+j),none⟩=some (U i j)) →
   (∀ i j sh,i<s.n→es[j]?=some sh→Cl w sh (U i j) (f i))→Cl w (.sl es) s.v b
def Row (w:World) (shs:List Sh) (cs:List Value) (b:Nat):Prop:=cs.length=shs.length∧∀ (j:Nat) (sh:Sh),shs[j]?=some sh→∃ v,cs[j]?=some v∧Cl w sh v b
theorem Cl.mono {w:World} {sh:Sh} {v:Value} {b b':Nat} (h:Cl w sh v b) (hb:b≤b'):Cl w sh v b':=by
 cases h with
 | int h1 h2=>exact .int h1 h2
 | bool=>exact .bool
 | str h=>exact .str (by omega)
 | fl h=>exact .fl h
 | sl f U h1 h2 h3 h4 h5 h6 h7=>exact .sl f U h1 h2 h3 (by omega) h5 h6 h7
theorem Cl.keep {w w':World} (k:Keep w w') {sh:Sh} {v:Value} {b:Nat} (h:Cl w sh v b):Cl w' sh v b:=by
 induction h with
 | int h1 h2=>exact .int h1 h2
 | bool=>exact .bool
 | str h=>exact .str h
 | fl h=>exact .fl h
 | sl f U h1 h2 h3 h4 h5 h6 _ ih =>
  exact .sl f U h1 h2 h3 h4 h5 (fun hn=>let ⟨g,o,ha,hc⟩:=h6 hn;⟨g,o,ha,fun i j sh hi hj=>k.cell (hc i j sh hi hj)⟩) ih
theorem sl_v_inj {s t:Sl} (h:s.v=t.v):s=t:=by
 cases s;cases t;simp only [Value.slice.injEq] at h;obtain ⟨rfl,rfl,rfl⟩:=h;rfl
theorem Cl.sl_inv {w:World} {es:List Sh} {s:Sl} {b:Nat} (h:Cl w (.sl es) s.v b):∃ (f:Nat→Nat) (U:Nat→Nat→Value),s.n≤s.c∧s.c≤maxLen∧(∀ i,i<s.n→1≤f i)∧sumTo f s.n<b∧(s.a=none→s=nilS) ∧
  (0<s.n→∃ g o,s.a=some ⟨g,o,none⟩∧∀ i j sh,i<s.n→es[j]?=some sh→w.cell? ⟨g,o+(i*es.length+j),none⟩=some (U i j)) ∧
  (∀ i j sh,i<s.n→es[j]?=some sh→Cl w sh (U i j) (f i)):=by
 generalize hv:s.v=v at h
 cases h with
 | sl f U h1 h2 h3 h4 h5 h6 h7 =>
  have:=sl_v_inj hv
  subst this
  exact ⟨f,U,h1,h2,h3,h4,h5,h6,h7⟩
theorem Cl.len {w:World} {es:List Sh} {s:Sl} {b:Nat} (h:Cl w (.sl es) s.v b):s.n<b:=by
 obtain ⟨f,U,h1,h2,h3,h4,h5,h6,h7⟩:=h.sl_inv
 have:=sumTo_len f s.n h3
 omega
theorem Cl.ix {w:World} {es:List Sh} {s:Sl} {b:Nat} (h:Cl w (.sl es) s.v b) {i:Int} (h0:0≤i) (hi:i<s.n) {sz:Nat} (hsz:sz=es.length) {K:Addr→Prop}
  (hK:∀ (a:Addr) (V:Nat→Value),(∀ j sh,es[j]?=some sh→w.cell? (a.add j)=some (V j)∧Cl w sh (V j) b)→K a):G.ix s.a s.n i sz K:=by
 obtain ⟨f,U,h1,h2,h3,h4,h5,h6,h7⟩:=h.sl_inv
 obtain ⟨g,o,ha,hc⟩:=h6 (by omega)
 rw [ha]
 subst hsz
 refine ⟨⟨h0,hi⟩,hK _ (U i.toNat) fun j sh hj=>⟨?_,(h7 i.toNat j sh (by omega) hj).mono ?_⟩⟩
 ·rw [addr_add,addr_add,Nat.add_assoc]
  exact hc _ j sh (by omega) hj
 ·have:=sumTo_ge f s.n i.toNat (by omega)
  omega
theorem Row.app {w:World} {xs ys:List Sh} {cs:List Value} {b:Nat} (h1:Row w xs (cs.take xs.length) b) (h2:Row w ys (cs.drop xs.length) b):Row w (xs++ys) cs b:=by
 obtain ⟨l1,h1⟩:=h1
 obtain ⟨l2,h2⟩:=h2
 rw [List.length_take] at l1
 rw [List.length_drop] at l2
 refine ⟨by simp;omega,fun j sh hj=>?_⟩
 rcases Nat.lt_or_ge j xs.length with hlt | hge
 ·rw [List.getElem?_append_left hlt] at hj
  obtain ⟨v,hv,hc⟩:=h1 j sh hj
  rw [List.getElem?_take,if_pos hlt] at hv
  exact ⟨v,hv,hc⟩
 ·rw [List.getElem?_append_right hge] at hj
  obtain ⟨v,hv,hc⟩:=h2 _ sh hj
  rw [List.getElem?_drop,show xs.length+(j-xs.length)=j by omega] at hv
  exact ⟨v,hv,hc⟩
theorem Row.mono {w:World} {shs:List Sh} {cs:List Value} {b b':Nat} (h:Row w shs cs b) (hb:b≤b'):Row w shs cs b' :=
 ⟨h.1,fun j sh hj=>let ⟨v,hv,hc⟩:=h.2 j sh hj;⟨v,hv,hc.mono hb⟩⟩
section
variable {H : Type} {enc : TypeId × Value → H} {P : Program} {w : World} {spare : Nat → Bool} {held : Bool}
end
end Go.Proofs.YtmfgmcajelmgbaaGreatDoor.Rep

namespace Go.Proofs.YtmfgmcajelmgbaaGreatDoor.Chunk
open Go Vm Go.RowKit Num Mem Bits Vint Rep
variable {ω ω' : Tg} {w w' w0 : World} {bs : List UInt8}
end Go.Proofs.YtmfgmcajelmgbaaGreatDoor.Chunk

namespace Go.Proofs.YtmfgmcajelmgbaaGreatDoor.Mem
open Go Vm Go.RowKit Num
theorem Rd.slc3 {w:World} {s:Sl} {sz:Nat} {cs:List Value} (h:Rd w s sz cs) {lo hi:Nat} (h1:lo≤hi) (h2:hi≤s.n) {i j k:Int} (ei:i=lo) (ej:j=hi) (ek:k=hi) {K:Sl→Prop}
  (hK:∀ r:Sl,Rd w r sz ((cs.drop (lo*sz)).take ((hi-lo)*sz))→r.n=hi-lo→K r):G.slc3 s i j k sz K:=by
 subst ei ej ek
 have hnc:=h.1
 refine ⟨⟨by omega,by omega,by omega,by omega⟩,hK _ ?_ (by simp)⟩
 have hl:=h.2.1
 refine ⟨by simp,?_,fun hne=>?_⟩
 ·rw [List.length_take,List.length_drop,hl]
  simp only [Int.toNat_natCast]
  rw [Nat.min_eq_left]
  rw [← Nat.sub_mul]
  exact Nat.mul_le_mul_right _ (by omega)
 ·have hcs:cs≠[]:=by rintro rfl;simp at hne
  obtain ⟨g,o,ha,hc⟩:=h.2.2 hcs
  have hlo:¬ hi=lo:=by
   intro e
   apply hne
   apply List.eq_nil_of_length_eq_zero
   rw [List.length_take,List.length_drop,hl]
   have:hi-lo=0:=by omega
   rw [this];simp
  rw [Int.toNat_natCast,Int.toNat_natCast,if_neg hlo,ha]
  refine ⟨g,o+lo*sz,by rw [Option.map_some,addr_add],fun k v hv=>?_⟩
  rw [List.getElem?_take] at hv
  split at hv
  ·rw [List.getElem?_drop] at hv
   rw [Nat.add_assoc]
   exact hc _ v hv
  ·cases hv
end Go.Proofs.YtmfgmcajelmgbaaGreatDoor.Mem
namespace Go.Proofs.YtmfgmcajelmgbaaGreatDoor.Chunk
open Go Vm Go.RowKit Num Mem Bits Vint Rep
variable {ω ω' : Tg} {w w' w0 : World} {bs : List UInt8}
open Classical in
noncomputable def dec (b:List UInt8):Option (List Smp):=if h:∃ l,Valid l∧b=enc l then some h.choose else none
theorem dec_some {b:List UInt8} {l:List Smp} (h:dec b=some l):Valid l∧b=enc l:=by
 unfold dec at h
 split at h
 ·rename_i hx
  rw [← Option.some.inj h]
  exact hx.choose_spec
 ·cases h
theorem dec_none {b:List UInt8} (h:dec b=none):∀ l,Valid l→b≠enc l:=by
 intro l hl e
 unfold dec at h
 rw [dif_pos ⟨l,hl,e⟩] at h
 cases h
theorem dec_enc {l:List Smp} (h:Valid l):dec (enc l)=some l:=by
 cases hd:dec (enc l) with
 | none=>exact absurd rfl (dec_none hd l h)
 | some m =>
  obtain ⟨hm,e⟩:=dec_some hd
  rw [enc_free h hm (x:=[]) (by rw [List.append_nil];exact e)]
theorem decode_dec (hT:DTab w0) {b:Sl} (hb:RdB w0 b bs) {K:Sl→Int→World→Prop}
  (hE:dec bs=none→∀ w',Keep w0 w'→K nilS 3 w')
  (hK:∀ l,dec bs=some l→Valid l→∀ r w',Keep w0 w'→Mem.Own w' w0.heap.size 96 2 r (smps l)→K r 0 w'):C.chunk_Decode b w0 K :=
 decode_ok hT hb (fun h=>hE (by
  cases hd:dec bs with
  | none=>rfl
  | some l=>obtain ⟨h1,h2⟩:=dec_some hd;exact absurd h2 (h l h1))) fun l hl e=>hK l (by rw [e];exact dec_enc hl) hl
structure RdL (w:World) (s:Sl) (ss:List Sl) (bss:List (List UInt8)):Prop where
 rd:Rd w s 1 (ss.map Sl.v)
 len:ss.length=bss.length
 el:∀ (j:Nat) q b,ss[j]?=some q→bss[j]?=some b→RdB w q b
theorem RdL.keep {s:Sl} {ss:List Sl} {bss:List (List UInt8)} (h:RdL w s ss bss) (k:Keep w w'):RdL w' s ss bss:=⟨h.rd.keep k,h.len,fun j q b h1 h2=>(h.el j q b h1 h2).keep k⟩
theorem RdL.n {s:Sl} {ss:List Sl} {bss:List (List UInt8)} (h:RdL w s ss bss):s.n=bss.length:=by
 have:=h.rd.2.1
 rw [List.length_map,h.len] at this
 omega
theorem RdL.at_ {s:Sl} {ss:List Sl} {bss:List (List UInt8)} (h:RdL w s ss bss) {i:Nat} {b:List UInt8} (hb:bss[i]?=some b) {K:Sl→Prop} (hK:∀ q,RdB w q b→K q):G.ix s.a s.n (i:Int) 1 fun p=>G.cSl p w K:=by
 have hi:i<bss.length:=(List.getElem?_eq_some_iff.1 hb).1
 have hi':i<ss.length:=by rw [h.len];exact hi
 have hs:ss[i]?=some ss[i]:=List.getElem?_eq_getElem hi'
 refine Rd.ix h.rd (by decide) (by omega) (by rw [h.n];omega) fun a ha=>cSl_at (s:=ss[i]) ?_ (hK _ (h.el i _ b hs hb))
 have:=ha 0 (Sl.v ss[i]) (by decide) (by simp [hs])
 rwa [show a.add 0=a by simp [Addr.add]] at this
noncomputable def joinL:List Smp→List (List UInt8)→Nat→List Smp × Int × Nat
 | out,[],_=>(out,0,0)
 | out,b::r,i=>match dec b with
  | none=>([],3,i)
  | some x=>if x≠[]∧out≠[]∧(x.head?.getD (0,0)).1≤(lastS out).1 then ([],90,i) else joinL (out++x) r (i+1)
theorem join_ok (hT:DTab w0) {s:Sl} {ss:List Sl} {bss:List (List UInt8)} (h:RdL w0 s ss bss) (hl:bss.length≤10000000) {K:Sl→Int→Int→World→Prop}
  (hK:∀ r w',Keep w0 w'→Mem.Own w' w0.heap.size 96 2 r (smps (joinL [] bss 0).1)→K r (joinL [] bss 0).2.1 ((joinL [] bss 0).2.2:Int) w'):C.chunk_Join s w0 K:=by
 have hn:=h.n
 unfold C.chunk_Join C.chunk_Join.S9
 refine C.chunk_Join.L5_ind fun X hX=>?_
 have key:∀ (d i:Nat) (out:Sl) (ol:List Smp) (ω:Tg) (w:World),i+d=bss.length→ol.length≤120*i→joinL ol (bss.drop i) i=joinL [] bss 0→Top w0 ω w→OS ω w 5 out ol→X out s ((s.n:Nat):Int) (i:Int) w:=by
  intro d
  induction d with
  | zero =>
   intro i out ol ω w hi hol e top o
   refine hX _ _ _ _ _ ?_
   unfold C.chunk_Join.S7 C.chunk_Join.S2
   refine cond_d (fun h=>by omega) (fun _=>?_)
   rw [List.drop_of_length_le (by omega)] at e
   have:=hK out w top.k (by rw [← e];exact o.from top (by decide))
   rwa [← e] at this
  | succ d ih =>
   intro i out ol ω w hi hol e top o
   refine hX _ _ _ _ _ ?_
   unfold C.chunk_Join.S7
   have hib:i<bss.length:=by omega
   refine cond_d (fun _=>?_) (fun h=>by omega)
   refine (h.keep top.k).at_ (List.getElem?_eq_getElem hib) fun q hq=>?_
   rw [List.drop_eq_getElem_cons hib,joinL] at e
   refine decode_dec (hT.keep top.k) hq (fun hd w1 k1=>?_) (fun x hd hv r w1 k1 o1=>?_)
   ·rw [hd] at e
    refine cond_t rfl ?_
    have k01:=Keep.trans top.k k1
    have:=hK nilS w1 k01 (by rw [← e];exact Mem.Own.nil _ _ _ _)
    rwa [← e] at this
   ·rw [hd] at e
    simp only at e
    refine cond_f rfl ?_
    have k01:=Keep.trans top.k k1
    have s1:=k1.stp0 ω
    have top1:=top.stp s1
    have o':=o.stp s1
    have hrn:r.n=x.length:=by have:=o1.1;rw [smps_len] at this;omega
    have hon:=OS.len o
    have hxl:=hv.len
    have kd:=drew_stp ω w1
    have od:=o'.stp kd
    have topd:=top1.stp kd
    have rd:=(Mem.Own.rd o1).keep kd.keep
    -- the common end
    have app:¬ (x≠[]∧ol≠[]∧(x.head?.getD (0,0)).1≤(lastS ol).1)→G.runSl Tryz.prog (Builtin.append_ #[52,52] 52 #[out.v,r.v]) w1.drew fun l27 w28=>X l27 s ((s.n:Nat):Int) (IntKind.i64.wrap ((i:Int)+(1:Int))) w28:=by
     intro hno
     rw [if_neg hno] at e
     refine app_T tiS od rd smps_one (by simp only [maxLen];omega) (by omega) fun q2 ω2 w2 k2 o2 hq2=>?_
     rw [wI64 (by omega) (by omega),show (i:Int)+1=((i+1:Nat):Int) by omega]
     exact ih (i+1) q2 (ol++x) ω2 w2 (by omega) (by rw [List.length_append];omega) e (topd.stp k2) (by rw [OS,smps_app];exact o2)
    refine cond_d (fun h1=>cond_d (fun h2=>?_) (fun h2=>app ?_)) (fun h1=>app ?_)
    ·obtain ⟨y,hy⟩:∃ y,x[0]?=some y:=⟨_,List.getElem?_eq_getElem (by omega)⟩
     obtain ⟨z,hz⟩:∃ z,ol[ol.length-1]?=some z:=⟨_,List.getElem?_eq_getElem (by omega)⟩
     have hlast:lastS ol=z:=by unfold lastS;rw [List.getLast?_eq_getElem?,hz];rfl
     have hhead:x.head?.getD (0,0)=y:=by rw [List.head?_eq_getElem?,hy];rfl
     refine rdS_at rd (k:=0) rfl hy fun p hc0 _=>cI_at hc0 ?_
     refine rdS_at od.rd (k:=ol.length-1) (by rw [wI64 (by omega) (by omega)];omega) hz fun p2 hd0 _=>cI_at hd0 ?_
     refine cond_d (fun h3=>?_) (fun h3=>app (by rw [hhead,hlast];intro h;exact h3 h.2.2))
     rw [if_pos ⟨by rintro rfl;simp at hy,by rintro rfl;simp at hz,by rw [hhead,hlast];exact h3⟩] at e
     have:=hK nilS _ topd.k (by rw [← e];exact Mem.Own.nil _ _ _ _)
     rwa [← e] at this
    ·rintro ⟨_,h3,_⟩
     exact h3 (List.eq_nil_of_length_eq_zero (by omega))
    ·rintro ⟨h3,_⟩
     exact h3 (List.eq_nil_of_length_eq_zero (by omega))
 exact key bss.length 0 nilS [] (fun _=>0) w0 (by omega) (by simp) rfl (Top.init w0) (OT.nil _ _ _ _ _)
def swr:List Smp→List Smp→Nat→Int × Nat
 | _,[],_=>(0,0)
 | pre,s::r,i=>if s.1<0∨s.1 > 1125899906842624 then (1,i) else if late pre s.1 then (90,i) else swr (pre++[s]) r (i+1)
inductive Rising:List Smp→Prop
 | nil:Rising []
 | snoc {l:List Smp} {s:Smp}:Rising l→0≤s.1→s.1≤1125899906842624→late l s.1=false→s.2<18446744073709551616→Rising (l++[s])
theorem Rising.inv {l:List Smp} {s:Smp} (h:Rising (l++[s])):Rising l∧0≤s.1∧s.1≤1125899906842624∧late l s.1=false∧s.2<18446744073709551616:=by
 generalize hm:l++[s]=m at h
 cases h with
 | nil=>simp at hm
 | snoc h1 h2 h3 h4 h5 =>
  obtain ⟨rfl,e⟩:=List.append_inj' hm rfl
  simp only [List.cons.injEq,and_true] at e
  subst e
  exact ⟨h1,h2,h3,h4,h5⟩
theorem Rising.parts {a:List Smp}:∀ {b:List Smp},Rising (a++b)→Rising a∧Rising b:=by
 have key:∀ (n:Nat) (b:List Smp),b.length=n→Rising (a++b)→Rising a∧Rising b:=by
  intro n
  induction n with
  | zero=>intro b hb h;rw [List.eq_nil_of_length_eq_zero hb,List.append_nil] at h;exact ⟨h,by rw [List.eq_nil_of_length_eq_zero hb];exact .nil⟩
  | succ n ih =>
   intro b hb h
   rcases List.eq_nil_or_concat b with rfl | ⟨c,s,rfl⟩
   ·simp at hb
   ·rw [List.concat_eq_append,← List.append_assoc] at h
    obtain ⟨h1,h2,h3,h4,h5⟩:=h.inv
    obtain ⟨i1,i2⟩:=ih c (by simpa using hb) h1
    refine ⟨i1,?_⟩
    rw [List.concat_eq_append]
    refine .snoc i2 h2 h3 ?_ h5
    unfold late at h4 ⊢
    cases hc:c.getLast? with
    | none=>rfl
    | some z =>
     have:(a++c).getLast?=some z:=by rw [List.getLast?_append,hc];rfl
     rw [this] at h4
     exact h4
 intro b h
 exact key _ b rfl h
theorem Rising.valid {l:List Smp} (h:Rising l) (hl:l.length≤120):Valid l:=by
 induction h with
 | nil=>exact .nil
 | snoc h1 h2 h3 h4 h5 ih =>
  rw [List.length_append,List.length_singleton] at hl
  refine .snoc (ih (by omega)) ?_ h5
  unfold wrong
  rw [if_neg (by omega),h4,if_neg (by decide),if_neg (by omega)]
theorem swr_rising:∀ (r pre:List Smp) (i:Nat),Rising pre→(∀ s∈r,s.2<18446744073709551616)→(swr pre r i).1=0→Rising (pre++r)
 | [],pre,i,hp,_,_=>by simpa using hp
 | s::r,pre,i,hp,hr,h=>by
  simp only [swr] at h
  split at h
  ·exact absurd (show (1:Int)=0 from h) (by decide)
  ·rename_i h1
   split at h
   ·exact absurd (show (90:Int)=0 from h) (by decide)
   ·rename_i h2
    have:=swr_rising r (pre++[s]) (i+1) (.snoc hp (by omega) (by omega) (by simpa using h2) (hr s (List.mem_cons_self ..))) (fun x hx=>hr x (List.mem_cons_of_mem _ hx)) h
    simpa using this
def pce (m:List Smp) (i:Nat):List Smp:=(m.drop (120*i)).take 120
def pcs (m:List Smp) (n:Nat):List (List UInt8):=(List.range n).map fun i=>enc (pce m i)
theorem pce_len (m:List Smp) (i:Nat):(pce m i).length≤120:=by unfold pce;rw [List.length_take];omega
theorem pce_valid {m:List Smp} (h:Rising m) (i:Nat):Valid (pce m i):=by
 refine Rising.valid ?_ (pce_len m i)
 unfold pce
 rw [← List.take_append_drop (120*i) m] at h
 have h2:=h.parts.2
 rw [← List.take_append_drop 120 (m.drop (120*i))] at h2
 exact h2.parts.1
theorem pcs_succ (m:List Smp) (n:Nat):pcs m (n+1)=pcs m n++[enc (pce m n)]:=by unfold pcs;rw [List.range_succ,List.map_append];rfl
theorem tiBB:TI Tryz.prog 78 22 1 24:=TI.of (z:=nilS.v) (by kernel_rfl) (by kernel_rfl) rfl (by decide)
end Go.Proofs.YtmfgmcajelmgbaaGreatDoor.Chunk

namespace Go.Proofs.YtmfgmcajelmgbaaGreatDoor.Chunk
open Go Vm Go.RowKit Num Mem Bits Vint Rep
variable {ω ω' : Tg} {w w' w0 : World} {bs : List UInt8}
structure OLs (ω:Tg) (w:World) (t:Nat) (s:Sl) (ss:List Sl) (bss:List (List UInt8)):Prop where
 own:OT ω w t 22 1 s (ss.map Sl.v)
 len:ss.length=bss.length
 el:∀ (j:Nat) q b,ss[j]?=some q→bss[j]?=some b→OBy ω w (t+1) q b
theorem OLs.stp {T:Nat→Bool} {t:Nat} {s:Sl} {ss:List Sl} {bss:List (List UInt8)} (h:OLs ω w t s ss bss) (k:Stp T ω ω' w w') (n0:T t=false) (n1:T (t+1)=false):OLs ω' w' t s ss bss :=
 ⟨h.own.stp k n0,h.len,fun j q b h1 h2=>(h.el j q b h1 h2).stp k n1⟩
theorem OLs.rdl {t:Nat} {s:Sl} {ss:List Sl} {bss:List (List UInt8)} (h:OLs ω w t s ss bss):RdL w s ss bss:=⟨h.own.rd,h.len,fun j q b h1 h2=>(h.el j q b h1 h2).rd⟩
theorem OLs.n {t:Nat} {s:Sl} {ss:List Sl} {bss:List (List UInt8)} (h:OLs ω w t s ss bss):s.n=bss.length:=h.rdl.n
theorem OLs.push {t:Nat} {s:Sl} {ss:List Sl} {bss:List (List UInt8)} (h:OLs ω w t s ss bss) {q:Sl} {b:List UInt8} (hq:OBy ω w (t+1) q b) (hl:bss.length≤100000) {K:Sl→World→Prop}
  (hK:∀ r ω' w',Stp (Mem.One t) ω ω' w w'→OLs ω' w' t r (ss++[q]) (bss++[b])→K r w') :
  G.new (.cells #[q.v] 22) w fun p w1=>G.runSl Tryz.prog (Builtin.append_ #[78,78] 78 #[s.v,(⟨some p,1,1⟩:Sl).v]) w1 K:=by
 have hn:=h.n
 refine push_T tiBB h.own (n:=1) rfl (by intro v hv;simp at hv;subst hv;rfl) (by simp only [maxLen];omega) (by omega) fun r ω2 w2 k2 o2 hr=>hK r ω2 w2 k2 ⟨by rw [List.map_append];exact o2,by rw [List.length_append,List.length_append,h.len];rfl,fun j q' b' h1 h2=>?_⟩
 rcases Nat.lt_or_ge j ss.length with hj | hj
 ·rw [List.getElem?_append_left hj] at h1
  rw [List.getElem?_append_left (by rw [← h.len];exact hj)] at h2
  exact (h.el j q' b' h1 h2).stp k2 (beq_no (by omega))
 ·rw [List.getElem?_append_right hj] at h1
  rw [List.getElem?_append_right (by rw [← h.len];exact hj),← h.len] at h2
  rcases Nat.eq_zero_or_pos (j-ss.length) with e | e
  ·rw [e] at h1 h2
   simp only [List.getElem?_cons_zero,Option.some.injEq] at h1 h2
   subst h1 h2
   exact hq.stp k2 (beq_no (by omega))
  ·rw [List.getElem?_eq_none (by simp;omega)] at h1;cases h1
theorem pce_rd {s:Sl} {m:List Smp} (h:Rd w s 2 (smps m)) {i hi:Nat} (h1:hi=min m.length (120*i+120)) (h2:120*i<m.length):((smps m).drop (120*i*2)).take ((hi-120*i)*2)=smps (pce m i):=by
 have e:m=m.take (120*i)++(pce m i++(m.drop (120*i)).drop 120):=by
  unfold pce
  rw [List.take_append_drop,List.take_append_drop]
 have l1:(m.take (120*i)).length=120*i:=by rw [List.length_take];omega
 have l2:(pce m i).length=hi-120*i:=by unfold pce;rw [List.length_take,List.length_drop];omega
 have e2:smps m=smps (m.take (120*i))++(smps (pce m i)++smps ((m.drop (120*i)).drop 120)):=by rw [← smps_app,← smps_app,← e]
 rw [e2,List.drop_append_of_le_length (by rw [smps_len,l1];omega),List.drop_of_length_le (by rw [smps_len,l1];omega),List.nil_append,List.take_append_of_le_length (by rw [smps_len,l2];omega),List.take_of_length_le (by rw [smps_len,l2];omega)]
theorem split_ok (hT:DTab w0) {s:Sl} {m:List Smp} (hs:Rd w0 s 2 (smps m)) (hm:∀ x∈m,x.2<18446744073709551616) (hl:m.length≤11000000) {K:Sl→Int→Int→World→Prop}
  (hE:(swr [] m 0).1≠0→∀ w',Keep w0 w'→K nilS (swr [] m 0).1 ((swr [] m 0).2:Int) w')
  (hK:(swr [] m 0).1=0→Rising m→∀ r ss ω' w',Top w0 ω' w'→OLs ω' w' 12 r ss (pcs m ((m.length+119) / 120))→K r 0 0 w'):C.chunk_Split s w0 K:=by
 have hsn:s.n=m.length:=by have:=hs.2.1;rw [smps_len] at this;omega
 unfold C.chunk_Split C.chunk_Split.S18
 -- the pieces
 have pieces:(swr [] m 0).1=0→∀ w1,Keep w0 w1→C.chunk_Split.S11 K s w1:=by
  intro hz w1 k1
  have hris:Rising m:=by simpa using swr_rising m [] 0 .nil hm hz
  unfold C.chunk_Split.S11 C.chunk_Split.S9
  refine C.chunk_Split.L5_ind fun X hX=>?_
  have key:∀ (d j:Nat) (out:Sl) (ss:List Sl) (ω:Tg) (w:World),j+d=(m.length+119) / 120→Top w0 ω w→OLs ω w 12 out ss (pcs m j)→X s out ((120*j:Nat):Int) w:=by
   intro d
   induction d with
   | zero =>
    intro j out ss ω w hj top o
    refine hX _ _ _ _ ?_
    unfold C.chunk_Split.S7 C.chunk_Split.S2
    refine cond_d (fun h=>by omega) (fun _=>hK hz hris out ss ω w top ?_)
    rw [← show j=(m.length+119) / 120 by omega];exact o
   | succ d ih =>
    intro j out ss ω w hj top o
    refine hX _ _ _ _ ?_
    unfold C.chunk_Split.S7
    have hlt:120*j<m.length:=by omega
    refine cond_d (fun _=>?_) (fun h=>by omega)
    rw [wI64 (x:=((120*j:Nat):Int)+120) (by omega) (by omega)]
    have ehi:(if ((s.n:Nat):Int)<((120*j:Nat):Int)+120 then ((s.n:Nat):Int) else ((120*j:Nat):Int)+120)=((min m.length (120*j+120):Nat):Int):=by split<;>omega
    rw [ehi]
    refine Rd.slc3 (hs.keep top.k) (lo:=120*j) (hi:=min m.length (120*j+120)) (by omega) (by omega) rfl rfl rfl fun q hq _=>?_
    rw [pce_rd (hs.keep top.k) rfl hlt] at hq
    have hv:=pce_valid hris j
    have hf:=firstW_zero (pce m j) [] 0 hv
    refine encode_ok (hT.keep top.k) hq (fun x hx=>(hv.mem x hx).2.2) (by have:=pce_len m j;omega) (fun h=>absurd (by rw [hf]) h) fun _ _ a w2 k2 o2=>?_
    have s2:=k2.stp ω 13
    have o2':=Own.tag o2 (Nat.le_refl _) ω 13
    have ol:=o.stp s2 rfl rfl
    have hpl:(pcs m j).length≤100000:=by unfold pcs;rw [List.length_map,List.length_range];omega
    refine ol.push o2' hpl fun r ω3 w3 k3 o3=>?_
    rw [show ((120*j:Nat):Int)+120=((120*(j+1):Nat):Int) by omega]
    exact ih (j+1) r _ ω3 w3 (by omega) ((top.stp s2).stp k3) (by rw [pcs_succ];exact o3)
  exact key ((m.length+119) / 120) 0 nilS [] (fun _=>0) w1 (by omega) ⟨k1,fun _ _=>rfl⟩ ⟨OT.nil _ _ _ _ _,rfl,fun j q b h=>by simp at h⟩
 refine C.chunk_Split.L14_ind fun X hX=>?_
 have key:∀ (d i:Nat) (w:World),i+d=m.length→Keep w0 w→swr (m.take i) (m.drop i) i=swr [] m 0→X s s ((s.n:Nat):Int) (i:Int) w:=by
  intro d
  induction d with
  | zero =>
   intro i w hi k e
   refine hX _ _ _ _ _ ?_
   unfold C.chunk_Split.S16
   refine cond_d (fun h=>by omega) (fun _=>pieces ?_ w k)
   rw [← e,List.drop_of_length_le (by omega)];rfl
  | succ d ih =>
   intro i w hi k e
   have him:i<m.length:=by omega
   refine hX _ _ _ _ _ ?_
   unfold C.chunk_Split.S16
   refine cond_d (fun _=>?_) (fun h=>by omega)
   have hx:m[i]?=some m[i]:=List.getElem?_eq_getElem him
   refine rdS_at (hs.keep k) (k:=i) rfl hx fun a hc0 hc1=>cI_at hc0<|cF_at hc1 ?_
   refine new_T (ω:=fun _=>0) 7 fun g ω2 w2 k2 b2=>?_
   refine st_T b2 (by simp) fun ω3 w3 k3 b3=>?_
   refine st_TA b3 (by simp) fun ω4 w4 k4 b4=>?_
   have k4':=Keep.trans k ((Top.init w).stp ((k2.non (Mem.One 7)).trans (k3.trans k4))).k
   rw [List.drop_eq_getElem_cons him,swr] at e
   have bad:∀ c:Int,(c,i)=swr [] m 0→c≠0→∀ w',Keep w0 w'→K nilS c (i:Int) w':=fun c ec hc w' kk=>by
    have:=hE (by rw [← ec];exact hc) w' kk
    rwa [← ec] at this
   refine cI_at (n:=m[i].1) (by rw [b4.cell];rfl) (cond_d (fun h1=>?_) (fun h1=>?_))
   ·rw [if_pos (.inl h1)] at e
    exact bad 1 e (by decide) w4 k4'
   refine cI_at (n:=m[i].1) (by rw [b4.cell];rfl) (cond_d (fun h2=>?_) (fun h2=>?_))
   ·rw [if_pos (.inr h2)] at e
    exact bad 1 e (by decide) w4 k4'
   rw [if_neg (by omega)] at e
   have kd:=Keep.trans k4' (Keep.drew w4)
   have next:late (m.take i) m[i].1=false→∀ w',Keep w0 w'→X s s ((s.n:Nat):Int) (IntKind.i64.wrap ((i:Int)+1)) w':=fun hla w' kk=>by
    rw [hla,if_neg (by decide)] at e
    rw [wI64 (by omega) (by omega),show (i:Int)+1=((i+1:Nat):Int) by omega]
    refine ih (i+1) w' (by omega) kk ?_
    rw [List.take_add_one,hx];exact e
   refine cond_d (fun h3=>?_) (fun h3=>next ?_ _ kd)
   ·have hy:m[i-1]?=some m[i-1]:=List.getElem?_eq_getElem (by omega)
    have hlast:(m.take i).getLast?=some m[i-1]:=by
     rw [List.getLast?_eq_getElem?,List.length_take,Nat.min_eq_left (by omega),List.getElem?_take,if_pos (by omega),hy]
    refine cI_at (n:=m[i].1) (by rw [(b4.stp (drew_stp ω4 w4)).cell];rfl) ?_
    refine rdS_at (hs.keep kd) (k:=i-1) (by rw [wI64 (by omega) (by omega)];omega) hy fun p hp0 _=>cI_at hp0 ?_
    refine cond_d (fun h4=>?_) (fun h4=>next ?_ _ kd)
    ·have:late (m.take i) m[i].1=true:=by unfold late;rw [hlast];simp only [decide_eq_true_eq];exact h4
     rw [this,if_pos rfl] at e
     exact bad 90 e (by decide) _ kd
    ·unfold late;rw [hlast];simp only [decide_eq_false_iff_not];exact h4
   ·have:m.take i=[]:=List.eq_nil_of_length_eq_zero (by rw [List.length_take];omega)
    rw [this];rfl
 exact key m.length 0 w0 (by omega) (Keep.refl w0) rfl
theorem rising_at {m:List Smp} (h:Rising m) {i:Nat} (hi:i+1<m.length):m[i].1<m[i+1].1:=by
 rw [← List.take_append_drop (i+2) m] at h
 have h1:=h.parts.1
 have e:m.take (i+2)=m.take (i+1)++[m[i+1]]:=by rw [List.take_add_one,List.getElem?_eq_getElem hi];rfl
 rw [e] at h1
 have:=h1.inv.2.2.2.1
 unfold late at this
 have hlast:(m.take (i+1)).getLast?=some m[i]:=by
  rw [List.getLast?_eq_getElem?,List.length_take,Nat.min_eq_left (by omega),List.getElem?_take,if_pos (by omega),List.getElem?_eq_getElem (by omega)]
  rfl
 rw [hlast] at this
 simp only [decide_eq_false_iff_not] at this
 omega
theorem join_pcs {m:List Smp} (h:Rising m):∀ (d j:Nat),j+d=(m.length+119) / 120→joinL (m.take (120*j)) ((pcs m ((m.length+119) / 120)).drop j) j=(m,0,0)
 | 0,j,hj=>by
  rw [List.drop_of_length_le (by unfold pcs;rw [List.length_map,List.length_range];omega),joinL,List.take_of_length_le (by omega)]
 | d+1,j,hj=>by
  have hp:(pcs m ((m.length+119) / 120))[j]?=some (enc (pce m j)):=by unfold pcs;rw [List.getElem?_map,List.getElem?_range (by omega)];rfl
  have hlt:j<(pcs m ((m.length+119) / 120)).length:=(List.getElem?_eq_some_iff.1 hp).1
  have hg:(pcs m ((m.length+119) / 120))[j]=enc (pce m j):=by
   have:=List.getElem?_eq_getElem hlt
   rw [hp] at this
   exact (Option.some.inj this).symm
  rw [List.drop_eq_getElem_cons hlt,hg,joinL,dec_enc (pce_valid h j)]
  simp only
  have happ:m.take (120*j)++pce m j=m.take (120*(j+1)):=by
   unfold pce
   rw [show 120*(j+1)=120*j+120 by omega,List.take_add]
  rw [if_neg,happ]
  ·exact join_pcs h d (j+1) (by omega)
  ·rintro ⟨h1,h2,h3⟩
   have hj0:0<j:=by
    rcases Nat.eq_zero_or_pos j with e | e
    ·rw [e] at h2;exact absurd rfl h2
    ·exact e
   have hlj:120*j<m.length:=by omega
   have hh:(pce m j).head?.getD (0,0)=m[120*j]:=by
    unfold pce
    rw [List.head?_eq_getElem?,List.getElem?_take,if_pos (by decide),List.getElem?_drop,Nat.add_zero,List.getElem?_eq_getElem hlj];rfl
   have hla:lastS (m.take (120*j))=m[120*j-1]:=by
    unfold lastS
    rw [List.getLast?_eq_getElem?,List.length_take,Nat.min_eq_left (by omega),List.getElem?_take,if_pos (by omega),List.getElem?_eq_getElem (by omega)];rfl
   rw [hh,hla] at h3
   have:=rising_at h (i:=120*j-1) (by omega)
   have e:120*j-1+1=120*j:=by omega
   simp only [e] at this
   omega
end Go.Proofs.YtmfgmcajelmgbaaGreatDoor.Chunk

namespace Go.Proofs.YtmfgmcajelmgbaaGreatDoor.Crc
open Num
def poly:B32:=0x82f63b78#32
def step1 (r:B32):B32:=(r >>> 1) ^^^ (if r.getLsbD 0 then poly else 0#32)
def steps:Nat→B32→B32
 | 0,r=>r
 | n+1,r=>steps n (step1 r)
theorem steps_add (a b:Nat) (r:B32):steps (a+b) r=steps b (steps a r):=by
 induction a generalizing r with
 | zero=>simp [steps]
 | succ a ih=>rw [Nat.succ_add];exact ih _
def crcB (r:B32) (c:UInt8):B32:=steps 8 (r ^^^ BitVec.ofNat 32 c.toNat)
def crc (r:B32) (l:List UInt8):B32:=l.foldl crcB r
def crcOn (s:B32) (l:List UInt8):B32 := ~~~(crc (~~~s) l)
def tab:List B32:=[0x00000000#32,0x105ec76f#32,0x20bd8ede#32,0x30e349b1#32,0x417b1dbc#32,0x5125dad3#32,0x61c69362#32,0x7198540d#32,
 0x82f63b78#32,0x92a8fc17#32,0xa24bb5a6#32,0xb21572c9#32,0xc38d26c4#32,0xd3d3e1ab#32,0xe330a81a#32,0xf36e6f75#32]
theorem step1_xor (a b:B32):step1 (a ^^^ b)=step1 a ^^^ step1 b:=by
 unfold step1
 rw [BitVec.ushiftRight_xor_distrib,BitVec.getLsbD_xor]
 cases ha:a.getLsbD 0<;>cases hb:b.getLsbD 0<;>simp
 ·rw [BitVec.xor_assoc]
 ·rw [BitVec.xor_assoc,BitVec.xor_assoc,BitVec.xor_comm (b >>> 1)]
 ·rw [BitVec.xor_assoc,BitVec.xor_comm poly,BitVec.xor_assoc,BitVec.xor_self,BitVec.xor_zero]
theorem steps_xor (n:Nat) (a b:B32):steps n (a ^^^ b)=steps n a ^^^ steps n b:=by
 induction n generalizing a b with
 | zero=>rfl
 | succ n ih=>simp only [steps];rw [step1_xor,ih]
theorem step1_even {r:B32} (h:r.getLsbD 0=false):step1 r=r >>> 1:=by
 unfold step1
 rw [h]
 simp
theorem steps_hi (x:B32):∀ k,k≤4→steps k (x <<< 4)=(x <<< 4) >>> k:=by
 intro k
 induction k with
 | zero=>intro _;simp [steps]
 | succ k ih =>
  intro hk
  rw [steps_add k 1,ih (by omega)]
  show step1 _=_
  rw [step1_even]
  ·rw [← BitVec.shiftRight_add]
  ·rw [BitVec.getLsbD_ushiftRight,BitVec.getLsbD_shiftLeft]
   simp;omega
theorem split4 (r:B32):r=((r >>> 4) <<< 4) ^^^ (r &&& 15#32):=by
 apply BitVec.eq_of_getLsbD_eq
 intro i hi
 rw [BitVec.getLsbD_xor,BitVec.getLsbD_shiftLeft,BitVec.getLsbD_ushiftRight,BitVec.getLsbD_and]
 by_cases h:i<4
 ·have:(15#32).getLsbD i=true:=by
   have:∀ j:Fin 4,(15#32).getLsbD j.val=true:=by decide
   exact this ⟨i,h⟩
  simp [h,this]
 ·have:(15#32).getLsbD i=false:=by
   have:∀ j:Fin 32,4≤j.val→(15#32).getLsbD j.val=false:=by decide
   exact this ⟨i,hi⟩ (show 4≤i by omega)
  have e:4+(i-4)=i:=by omega
  simp only [e,this,hi,h,decide_true,decide_false,Bool.not_false,Bool.true_and,Bool.and_false,Bool.xor_false]
theorem steps_lo:∀ i:Fin 16,steps 4 (BitVec.ofNat 32 i.val)=tab.getD i.val 0#32:=by decide +kernel
theorem low_lt (r:B32):(r &&& 15#32).toNat<16:=by
 rw [BitVec.toNat_and]
 exact Nat.lt_of_le_of_lt Nat.and_le_right (by decide)
theorem steps4 (r:B32):steps 4 r=(r >>> 4) ^^^ tab.getD (r &&& 15#32).toNat 0#32:=by
 have h:=steps_lo ⟨(r &&& 15#32).toNat,low_lt r⟩
 simp only [BitVec.ofNat_toNat,BitVec.setWidth_eq] at h
 rw [← h]
 conv=>lhs;rw [split4 r,steps_xor,steps_hi _ 4 (Nat.le_refl _)]
 congr 1
 apply BitVec.eq_of_getLsbD_eq
 intro i hi
 rw [BitVec.getLsbD_ushiftRight,BitVec.getLsbD_shiftLeft,BitVec.getLsbD_ushiftRight,BitVec.getLsbD_ushiftRight]
 by_cases h4:4+i<32
 ·simp [h4]
 ·have:r.getLsbD (4+i)=false:=BitVec.getLsbD_of_ge _ _ (by omega)
  simp [this]
theorem steps8 (r:B32):steps 8 r=steps 4 (steps 4 r):=steps_add 4 4 r
end Go.Proofs.YtmfgmcajelmgbaaGreatDoor.Crc

namespace Go.Proofs.YtmfgmcajelmgbaaGreatDoor.Mem
open Go Vm Go.RowKit Num
abbrev Turn (o:Option Nat) (w w':World):Prop:=w.grownBy w' o
theorem Keep.turn {w w':World} (h:Keep w w') (o:Option Nat):Turn o w w':=⟨h.os,h.tape,h.output,h.size,fun k hk _=>h.block k hk⟩
theorem Turn.trans {o:Option Nat} {a b c:World} (h:Turn o a b) (k:Turn o b c):Turn o a c :=
 ⟨k.os.trans h.os,k.tape.trans h.tape,k.output.trans h.output,Nat.le_trans h.size k.size,fun i hi hne=>(k.block i (Nat.lt_of_lt_of_le hi h.size) hne).trans (h.block i hi hne)⟩
theorem Turn.then {o p:Option Nat} {a b c:World} (h:Turn o a b) (k:Turn p b c) (hp:∀ g,p=some g→o=some g∨a.heap.size≤g):Turn o a c :=
 ⟨k.os.trans h.os,k.tape.trans h.tape,k.output.trans h.output,Nat.le_trans h.size k.size,fun i hi hne =>
  (k.block i (Nat.lt_of_lt_of_le hi h.size) (fun e=>(hp i e.symm).elim (fun e'=>hne e'.symm) (fun e'=>by omega))).trans (h.block i hi hne)⟩
theorem Turn.heap {o:Option Nat} {w w':World} (h:Turn o w w') {k:Nat} {x:Obj} (hk:w.heap[k]?=some x) (hne:o≠some k):w'.heap[k]?=some x:=by
 rw [h.block k (heap_lt hk) (fun e=>hne e.symm)];exact hk
theorem Turn.cell {o:Option Nat} {w w':World} (h:Turn o w w') {a:Addr} {v:Value} (hc:w.cell? a=some v) (hne:o≠some a.block):w'.cell? a=some v:=by
 rw [World.cell?_of_block (w:=w) (h.block a.block (cell_lt hc) (fun e=>hne e.symm))];exact hc
theorem Own.turn {w w':World} {B:Nat} {e:TypeId} {sz:Nat} {s:Sl} {xs:List Value} {o:Option Nat} (h:Own w B e sz s xs) (k:Turn o w w') (hne:∀ g,o=some g→s.v.ownBlock≠some g):Own w' B e sz s xs:=by
 obtain ⟨hl,h⟩:=h
 refine ⟨hl,?_⟩
 rcases h with h | ⟨g,cap,cur,hv,hg,hh,r⟩
 ·exact .inl h
 ·refine .inr ⟨g,cap,cur,hv,hg,k.heap hh (fun e=>hne g e ?_),r⟩
  rw [hv];rfl
theorem Own.ge {w:World} {B:Nat} {e:TypeId} {sz:Nat} {s:Sl} {xs:List Value} (h:Own w B e sz s xs) {g:Nat} (hg:s.v.ownBlock=some g):B≤g∧g<w.heap.size:=World.ownsRow.lt h g hg
theorem Own.ne {w w':World} {B B':Nat} {e e':TypeId} {sz sz':Nat} {s s':Sl} {xs xs':List Value} (h:Own w B e sz s xs) (h':Own w' B' e' sz' s' xs') (hB:w.heap.size≤B'):∀ g,s.v.ownBlock=some g→s'.v.ownBlock≠some g:=by
 intro g hg hg'
 have:=(h.ge hg).2
 have:=(h'.ge hg').1
 omega
theorem tiBB:TI Tryz.prog 78 22 1 24:=TI.of (z:=.slice none 0 0) (by kernel_rfl) (by kernel_rfl) rfl (by decide)
def hdrs (rs:List Sl):List Value:=rs.map Sl.v
theorem hdrs_app (a b:List Sl):hdrs (a++b)=hdrs a++hdrs b:=List.map_append
theorem Rd.hdr {w:World} {s:Sl} {rs:List Sl} (h:Rd w s 1 (hdrs rs)) {i:Nat} {r:Sl} (hi:rs[i]?=some r) {K:Sl→Prop} (hK:K r):G.ix s.a s.n (i:Int) 1 fun p=>G.cSl p w K:=by
 have hlt:i<rs.length:=(List.getElem?_eq_some_iff.1 hi).1
 have hn:=h.2.1
 simp only [hdrs,List.length_map,Nat.mul_one] at hn
 refine Rd.ix h (by decide) (by omega) (by omega) fun a ha=>⟨r,?_,hK⟩
 have:=ha 0 r.v (by decide) (by simp [hdrs,hi])
 rw [show a.add 0=a by simp [Addr.add]] at this
 exact this
structure RdBB (w:World) (s:Sl) (rs:List Sl) (ls:List (List UInt8)):Prop where
 hdr:Rd w s 1 (hdrs rs)
 len:rs.length=ls.length
 el:∀ (i:Nat) (r:Sl) (l:List UInt8),rs[i]?=some r→ls[i]?=some l→RdB w r l
theorem RdBB.n {w:World} {s:Sl} {rs:List Sl} {ls:List (List UInt8)} (h:RdBB w s rs ls):s.n=ls.length:=by
 have:=h.hdr.2.1
 have:=h.len
 simp [hdrs] at *
 omega
theorem RdBB.keep {w w':World} {s:Sl} {rs:List Sl} {ls:List (List UInt8)} (h:RdBB w s rs ls) (k:Keep w w'):RdBB w' s rs ls:=⟨Rd.keep h.hdr k,h.len,fun i r l h1 h2=>Rd.keep (h.el i r l h1 h2) k⟩
theorem RdBB.get {w:World} {s:Sl} {rs:List Sl} {ls:List (List UInt8)} (h:RdBB w s rs ls) {i:Nat} (hi:i<ls.length):∃ r,rs[i]?=some r∧RdB w r ls[i] :=
 have hr:i<rs.length:=by rw [h.len];exact hi
 ⟨rs[i],List.getElem?_eq_getElem hr,h.el i _ _ (List.getElem?_eq_getElem hr) (List.getElem?_eq_getElem hi)⟩
def ne' (a b:Sl):Prop:=∀ g,a.v.ownBlock=some g→b.v.ownBlock≠some g
structure OwnBB (w:World) (B:Nat) (s:Sl) (rs:List Sl) (ls:List (List UInt8)):Prop where
 hdr:Own w B 22 1 s (hdrs rs)
 len:rs.length=ls.length
 el:∀ (i:Nat) (r:Sl) (l:List UInt8),rs[i]?=some r→ls[i]?=some l→OwnB w B r l
 ne:∀ (i:Nat) (r:Sl),rs[i]?=some r→ne' s r
 apart:∀ (i j:Nat) (r r':Sl),i<j→rs[i]?=some r→rs[j]?=some r'→ne' r r'
theorem OwnBB.rd {w:World} {B:Nat} {s:Sl} {rs:List Sl} {ls:List (List UInt8)} (h:OwnBB w B s rs ls):RdBB w s rs ls:=⟨Own.rd h.hdr,h.len,fun i r l h1 h2=>Own.rd (h.el i r l h1 h2)⟩
theorem OwnBB.keep {w w':World} {B:Nat} {s:Sl} {rs:List Sl} {ls:List (List UInt8)} (h:OwnBB w B s rs ls) (k:Keep w w'):OwnBB w' B s rs ls :=
 ⟨Own.keep h.hdr k,h.len,fun i r l h1 h2=>Own.keep (h.el i r l h1 h2) k,h.ne,h.apart⟩
theorem OwnBB.nil (w:World) (B:Nat):OwnBB w B nilS [] [] :=
 ⟨Own.nil w B _ 1,rfl,fun i r l h=>by simp at h,fun i r h=>by simp at h,fun i j r r' _ h=>by simp at h⟩
theorem OwnBB.mono {w:World} {B B':Nat} {s:Sl} {rs:List Sl} {ls:List (List UInt8)} (h:OwnBB w B s rs ls) (hB:B'≤B):OwnBB w B' s rs ls :=
 ⟨Own.mono h.hdr hB,h.len,fun i r l h1 h2=>Own.mono (h.el i r l h1 h2) hB,h.ne,h.apart⟩
theorem pushBB {w0 w:World} {B:Nat} {s r:Sl} {rs:List Sl} {ls:List (List UInt8)} {l:List UInt8} (hb:Below B w0 w) (hB:B≤w.heap.size) (h:OwnBB w B s rs ls) (hr:OwnB w B r l)
  (hn:∀ g,r.v.ownBlock=some g→s.v.ownBlock≠some g∧∀ (i:Nat) (x:Sl),rs[i]?=some x→x.v.ownBlock≠some g) (hl:ls.length≤5864062014800)
  {K:Sl→World→Prop} (hK:∀ s' w',Below B w0 w'→OwnBB w' B s' (rs++[r]) (ls++[l])→Turn s.v.ownBlock w w'→K s' w') :
  G.new (.cells #[r.v] 22) w fun p w1=>G.runSl Tryz.prog (Builtin.append_ #[78,78] 78 #[s.v,(⟨some p,1,1⟩:Sl).v]) w1 K:=by
 have hsn:=h.rd.n
 refine append_own tiBB (Below.alloc hb hB _) (by simp;omega) (Own.keep h.hdr (Keep.alloc w _)) (rd_new (n:=1) (sz:=1) (by rfl)) (by intro v hv;simp at hv;subst hv;rfl) (by simp only [maxLen];omega) (by simp only;omega) fun s' w' k1 o1 hn' hT=>?_
 have ht:Turn s.v.ownBlock w w':=Turn.trans (Keep.turn (Keep.alloc w _) _) hT.1
 have hs':∀ g,s'.v.ownBlock=some g→s.v.ownBlock=some g∨w.heap.size<g:=by
  intro g hg
  rcases hT.2 with e | e
  ·rw [e] at hg;exact .inl hg
  ·rw [e] at hg
   injection hg with hg
   simp at hg
   exact .inr (by omega)
 have hne:∀ (x:Sl) (m:List UInt8),OwnB w B x m→ne' s x→OwnB w' B x m∧ne' s' x:=fun x m hx hsx=>by
  refine ⟨Own.turn hx ht hsx,fun g hg hg'=>?_⟩
  rcases hs' g hg with e | e
  ·exact hsx g e hg'
  ·have:=(Own.ge hx hg').2;omega
 have hsr:ne' s r:=fun g hg hg'=>(hn g hg').1 hg
 refine hK s' w' k1 ⟨by rw [hdrs_app];exact o1,by simp [h.len],fun i x m h1 h2=>?_,fun i x h1=>?_,fun i j x x' hij h1 h2=>?_⟩ ht
 ·rcases Nat.lt_or_ge i rs.length with hi | hi
  ·rw [List.getElem?_append_left hi] at h1
   rw [List.getElem?_append_left (by rw [← h.len];exact hi)] at h2
   exact (hne x m (h.el i x m h1 h2) (h.ne i x h1)).1
  ·rw [List.getElem?_append_right hi] at h1
   rw [List.getElem?_append_right (by rw [← h.len];exact hi)] at h2
   have h0:i-rs.length=0:=by
    have:=(List.getElem?_eq_some_iff.1 h1).1
    simp at this;omega
   rw [h0] at h1
   rw [← h.len,h0] at h2
   simp at h1 h2
   subst h1 h2
   exact (hne r l hr hsr).1
 ·rcases Nat.lt_or_ge i rs.length with hi | hi
  ·rw [List.getElem?_append_left hi] at h1
   have hm:i<ls.length:=by rw [← h.len];exact hi
   exact (hne x _ (h.el i x _ h1 (List.getElem?_eq_getElem hm)) (h.ne i x h1)).2
  ·rw [List.getElem?_append_right hi] at h1
   have h0:i-rs.length=0:=by
    have:=(List.getElem?_eq_some_iff.1 h1).1
    simp at this;omega
   rw [h0] at h1
   simp at h1
   subst h1
   exact (hne r l hr hsr).2
 ·rcases Nat.lt_or_ge j rs.length with hj | hj
  ·rw [List.getElem?_append_left hj] at h2
   rw [List.getElem?_append_left (by omega)] at h1
   exact h.apart i j x x' hij h1 h2
  ·rw [List.getElem?_append_right hj] at h2
   have h0:j-rs.length=0:=by
    have:=(List.getElem?_eq_some_iff.1 h2).1
    simp at this;omega
   have hi:i<rs.length:=by omega
   rw [h0] at h2
   rw [List.getElem?_append_left hi] at h1
   simp at h2
   subst h2
   intro g hg hg'
   exact (hn g hg').2 i x h1 hg
theorem OwnBB.fresh {w1 w:World} {B B':Nat} {s r:Sl} {rs:List Sl} {ls:List (List UInt8)} {l:List UInt8} (h:OwnBB w1 B s rs ls) (hr:OwnB w B' r l) (hB:w1.heap.size≤B') :
  ∀ g,r.v.ownBlock=some g→s.v.ownBlock≠some g∧∀ (i:Nat) (x:Sl),rs[i]?=some x→x.v.ownBlock≠some g:=by
 intro g hg
 have:=(Own.ge hr hg).1
 refine ⟨fun e=>by have:=(Own.ge h.hdr e).2;omega,fun i x hx e=>?_⟩
 have hi:=(List.getElem?_eq_some_iff.1 hx).1
 have:=(Own.ge (h.el i x _ hx (List.getElem?_eq_getElem (by rw [← h.len];exact hi))) e).2
 omega
end Go.Proofs.YtmfgmcajelmgbaaGreatDoor.Mem
