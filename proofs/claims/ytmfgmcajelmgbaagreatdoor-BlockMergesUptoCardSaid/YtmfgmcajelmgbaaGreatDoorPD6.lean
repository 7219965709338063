/- (several texts in one: BkC,BkF,MapL,Rtg,BkG,BkH,SeqG,BkI,SortT,BkM,BkL,BkD,BkE,BkN,RepR,BkJ,BkK,MapR,BkO,BkU,BkMr,BkMq,BkMw,BkMx,BkR,BkV,BkS,BkX) Own work. -/
import Derived.Lib.SlBytesConst
import Derived.WideKeyEntry
import Derived.DeepKeys3
import Derived.Sort.KeysCollected
import Derived.Lib.SliceRun
import Derived.Test.YtmfgmcajelmgbaaGreatDoorPD5
namespace Go.Proofs.YtmfgmcajelmgbaaGreatDoor.Bk
open Go Vm Go.RowKit Num Mem Utf Lib Lab Vint Bits
variable {ω ω' : Tg} {w w' w0 : World}
theorem convC {w:World} {n:Nat} {cs:Array Value} {l:List UInt8} (hc:cs.toList=vBs l) (hn:l.length=n) {K:Sl→World→Prop}
  (hK:∀ r w',Keep w w'→RdB w' r l→K r w') :
  G.new (.cells cs 5) w fun p w1=>G.runSl Tryz.prog (Go.convert 22 22 (⟨some p,n,n⟩:Sl).v) w1 K:=by
 have hs:cs.size=n:=by rw [← Array.length_toList,hc,vBs_length,hn]
 refine ⟨⟨some ⟨w.heap.size,0,none⟩,n,n⟩,_,Lib.run_convert_bytes_const (P:=Tryz.prog) w 22 5 cs n n (by kernel_rfl) (by kernel_rfl),hK _ _ (Keep.alloc w _) ⟨Nat.le_refl _,by rw [vBs_length,hn];exact (Nat.mul_one n).symm,fun _=>⟨w.heap.size,0,rfl,fun j v hv=>?_⟩⟩⟩
 rw [Nat.zero_add]
 have:(w.alloc (.cells cs 5 (cs.size,cs.size+1))).heap[w.heap.size]?=some (.cells cs 5 (cs.size,cs.size+1)):=by
  show (w.heap.push _)[w.heap.size]?=_
  simp
 simp only [World.cell?,this,Option.bind_some]
 rw [← hc] at hv
 simpa using hv
theorem cloneQ_ok {s:Sl} {xs:List Value} (h:Rd w s 2 xs) (h1:∀ v∈xs,v.oneCell'=true) (hm:s.n≤100000000) {K:Sl→World→Prop} (hK:∀ r w',Keep w w'→Mem.Own w' w.heap.size 57 2 r xs→K r w'):C.slices_Clone_Series_Series s w K:=by
 unfold C.slices_Clone_Series_Series
 exact Sm.clone_ok (P:=Tryz.prog) tiQ h h1 (by simp only [maxLen];omega) (by omega) fun r w' k o _=>hK r w' k o
theorem smp_head {m:List Smp} (h:m≠[]):m[0]?=some (m.headD (0,0)):=by
 cases m with
 | nil=>exact absurd rfl h
 | cons a r=>rfl
theorem smp_last {m:List Smp} (h:m≠[]):m[m.length-1]?=some (Chunk.lastS m):=by
 unfold Chunk.lastS
 rw [← List.getLast?_eq_getElem?,List.getLast?_eq_some_getLast h];rfl
def hdN (l:List Ser):List Nat:=[l.length,cntOf l,(loOf l).toNat,(hiOf l).toNat]
theorem hd_flat (l:List Ser):hd l=(hdN l).flatMap putU:=by simp [hd,hdN]
theorem build_ok (hT:DTab w0) (ht:UTab w0) (hv:Vint.Tab w0) {s:Sl} {q:QS} (h:RdQ w0 s q) (hl:q.length≤100000000) {K:Sl→Int→Int→World→Prop}
  (hK:∀ r w',Keep w0 w'→OwnB w' w0.heap.size r (buildR (q.map (·.1))).1→K r (buildR (q.map (·.1))).2.1 ((buildR (q.map (·.1))).2.2:Int) w'):C.block_Build s w0 K:=by
 have hsn:=h.n
 have hLl:(q.map (·.1)).length=q.length:=List.length_map _
 unfold C.block_Build
 unfold buildR at hK
 refine cond_d (fun h1=>?_) (fun h1=>?_)
 ·rw [if_pos (by omega)] at hK;exact hK nilS w0 (Keep.refl _) (OwnB.nil _ _)
 rw [if_neg (by omega)] at hK
 refine wrong_ok hT ht hv h hl fun w1 k1=>cond_ne (fun he=>?_) (fun he=>?_)
 ·rw [if_pos he] at hK;exact hK nilS w1 k1 (OwnB.nil _ _)
 rw [if_neg (by simpa using he)] at hK
 have fit:=fit_of he
 refine cloneQ_ok (h.rd.keep k1) sers_one (by omega) fun a w2 k2 o2=>?_
 have top1:=(Top.init w0).stp (k1.stp0 _)
 have top2:=top1.stp (k2.stp _ 2)
 have t2:=Own.tag o2 (Nat.le_refl _) (fun _=>0) 2
 generalize ext (fun _=>0) w1.heap.size 2=ω2 at *
 refine sortS_ok top2 t2 h.el hl fit.nd fun q' ω3 w3 k3 pm em t3=>?_
 have top3:=top2.stp k3
 have hq':q'.length=q.length:=pm.length_eq
 have hel:∀ p∈q',SeOk w0 p:=fun p hp=>h.el p (pm.mem_iff.1 hp)
 -- the sorted series
 have fit':Fit (srt (q.map (·.1))):=fit.perm (srt_perm _)
 rw [← em] at fit' hK
 have hSl:(q'.map (·.1)).length=q'.length:=List.length_map _
 have ris:Ris (q'.map (·.1)):=fit_ris fit' fun x hx y hy=>by
  obtain ⟨p,hp,rfl⟩:=List.mem_map.1 hx
  exact (hel p hp).fl y hy
 have hsz:∀ x∈q'.map (·.1),x.2.length≤11000000:=fun x hx=>by
  obtain ⟨p,hp,rfl⟩:=List.mem_map.1 hx
  exact (hel p hp).sl
 have han:=rdQ_n t3.rd
 generalize hS:q'.map (·.1)=S at *
 have hSi:∀ i (hi:i<q'.length),S[i]?=some q'[i].1:=fun i hi=>by rw [← hS,List.getElem?_map,List.getElem?_eq_getElem hi];rfl
 have hhd:=hd_len ris (by omega) hsz
 have hcb:=cnt_le hsz
 have hlo:=lo_bd ris
 have hhi:=hi_bd ris
 unfold C.block_Build.S27
 -- the end: frame by frame
 have tail:∀ hb w,Keep w3 w→RdB w hb (hd S)→C.block_Build.S11 K a hb w:=by
  intro hb w k hh
  unfold C.block_Build.S11
  refine convC (l:=magicB) (by rfl) (by rfl) fun m w4 k4 hm=>?_
  have k34:=Keep.trans k k4
  refine putFrame_ok (hv.keep (Keep.trans top3.k k34)) hm (hh.keep k4) (by decide) (fun hbig=>by omega) (fun _ r w5 k5 o5=>?_)
  unfold C.block_Build.S9
  have hf:=frameOf_len (m:=hd S) (by omega)
  refine C.block_Build.L5_ind fun X hX=>?_
  have key:∀ (d i:Nat) (out:Sl) (w:World),i+d=q'.length→Keep w4 w→OwnB w w4.heap.size out (upto S i)→(upto S i).length≤1048576→X out a ((a.n:Nat):Int) (i:Int) w:=by
   intro d
   induction d with
   | zero =>
    intro i out w hi kk o hle
    refine hX _ _ _ _ _ ?_
    unfold C.block_Build.S7 C.block_Build.S2
    refine cond_d (fun h=>by omega) (fun _=>?_)
    have k0:=Keep.trans top3.k (Keep.trans k34 kk)
    have ei:i=S.length:=by omega
    rw [ei,upto_all] at o hle
    rw [if_neg (by omega)] at hK
    exact hK out w k0 (o.mono (Keep.trans top3.k k34).size)
   | succ d ih =>
    intro i out w hi kk o hle
    refine hX _ _ _ _ _ ?_
    unfold C.block_Build.S7
    have hiq:i<q'.length:=by omega
    have hx:q'[i]?=some q'[i]:=List.getElem?_eq_getElem hiq
    have k0:=Keep.trans top3.k (Keep.trans k34 kk)
    have hs:=(hel _ (List.getElem_mem hiq)).keep k0
    have hiS:i<S.length:=by omega
    have eS:S[i]=q'[i].1:=by have:=hSi i hiq;rw [List.getElem?_eq_getElem hiS] at this;exact Option.some.inj this
    refine cond_d (fun _=>?_) (fun h=>by omega)
    refine rdQ_at (t3.rd.keep (Keep.trans k34 kk)) (k:=i) rfl hx fun p e0 e1=>cSl_at e0<|cSl_at e1 ?_
    refine locS fun g w6 k6 hg b6=>?_
    refine cSl_at (s:=q'[i].2.1) (by rw [b6.cell];rfl)<|cSl_at (s:=q'[i].2.2) (by rw [addr_add,b6.cell];rfl) ?_
    have k06:=Keep.trans k0 k6.1
    have hs6:SeOk w6 (q'[i].1,q'[i].2.1,q'[i].2.2):=hs.keep k6.1
    have hrt:(rt q'[i].1.1).1=0:=by rw [← eS];exact fit'.rt _ (List.getElem_mem hiS)
    have hok:serE q'[i].1=0:=by rw [← eS];exact fit'.ok _ (List.getElem_mem hiS)
    have hpl:(pay q'[i].1).length≤65536:=by rw [← eS];exact (fit'.rising (List.getElem_mem hiS)).2.2
    refine frame_ok (hT.keep k06) (ht.keep k06) (hv.keep k06) hs6 hrt (fun hbad=>absurd hok hbad) (fun _ f w7 k7 o7=>?_)
    have k67:=Keep.trans k6.1 k7
    have hfl:=frameOf_len hpl
    refine appB (Keep.trans kk k67) (Nat.le_trans kk.size k67.size) (Own.keep o k67) (OwnB.rd o7) (by omega) fun out2 w8 k8 o8=>?_
    have eu:upto S (i+1)=upto S i++frameOf (pay q'[i].1):=by rw [upto_succ hiS,eS]
    rw [← eu] at o8
    have hn8:=OwnB.len o8
    have hk8:=Keep.trans top3.k (Keep.trans k34 k8)
    refine cond_d (fun hbig=>?_) (fun hsm=>?_)
    ·have:=upto_le S (i+1)
     rw [if_pos (by omega)] at hK
     exact hK nilS w8 hk8 (OwnB.nil _ _)
    ·rw [wI64 (by omega) (by omega),show (i:Int)+1=((i+1:Nat):Int) by omega]
     exact ih (i+1) out2 w8 (by omega) k8 o8 (by omega)
  have e0:upto S 0=magicB++frameOf (hd S):=by unfold upto;simp [flat]
  refine key q'.length 0 r w5 (by omega) k5 (by rw [e0];exact o5) ?_
  rw [e0,List.length_append]
  have:magicB.length=8:=rfl
  omega
 -- the head's numbers
 have head:∀ w,Keep w3 w→C.block_Build.S20 K a (cntOf S:Int) (loOf S) (hiOf S) w:=by
  intro w k
  unfold C.block_Build.S20 C.block_Build.S18
  refine new_at ?_
  have kA:=Keep.alloc w (.cells #[(.int .u64 (IntKind.u64.wrap ((a.n:Nat):Int))),(.int .u64 (IntKind.u64.wrap (cntOf S:Int))),(.int .u64 (IntKind.u64.wrap (loOf S))),(.int .u64 (IntKind.u64.wrap (hiOf S)))] 105)
  have hrd:Rd (w.alloc (.cells #[(.int .u64 (IntKind.u64.wrap ((a.n:Nat):Int))),(.int .u64 (IntKind.u64.wrap (cntOf S:Int))),(.int .u64 (IntKind.u64.wrap (loOf S))),(.int .u64 (IntKind.u64.wrap (hiOf S)))] 105)) ⟨some ⟨w.heap.size,0,none⟩,4,4⟩ 1 ((hdN S).map fun n:Nat=>Value.int .u64 (n:Int)):=by
   have:=rd_new (w:=w) (e:=105) (cs:=#[(.int .u64 (IntKind.u64.wrap ((a.n:Nat):Int))),(.int .u64 (IntKind.u64.wrap (cntOf S:Int))),(.int .u64 (IntKind.u64.wrap (loOf S))),(.int .u64 (IntKind.u64.wrap (hiOf S)))]) (n:=4) (sz:=1) rfl
   have e:(#[(.int .u64 (IntKind.u64.wrap ((a.n:Nat):Int))),(.int .u64 (IntKind.u64.wrap (cntOf S:Int))),(.int .u64 (IntKind.u64.wrap (loOf S))),(.int .u64 (IntKind.u64.wrap (hiOf S)))]:Array Value).toList=(hdN S).map fun n:Nat=>Value.int .u64 (n:Int):=by
    rw [wU64_id (by omega) (by omega),wU64_id (by omega) (by omega),wU64_id (by omega) (by omega),wU64_id (by omega) (by omega)]
    simp only [hdN,List.map_cons,List.map_nil]
    rw [Int.toNat_of_nonneg hlo.1,Int.toNat_of_nonneg hhi.1,show a.n=S.length by omega]
   rw [e] at this
   exact this
  have hN:∀ n∈hdN S,n<18446744073709551616:=by
   intro n hn
   simp only [hdN,List.mem_cons,List.not_mem_nil,or_false] at hn
   rcases hn with rfl | rfl | rfl | rfl<;>omega
  have hNl:(hdN S).length=4:=rfl
  rw [hd_flat] at tail
  generalize hdN S=NS at *
  generalize hwA:w.alloc (.cells #[(.int .u64 (IntKind.u64.wrap ((a.n:Nat):Int))),(.int .u64 (IntKind.u64.wrap (cntOf S:Int))),(.int .u64 (IntKind.u64.wrap (loOf S))),(.int .u64 (IntKind.u64.wrap (hiOf S)))] 105)=wA at *
  refine C.block_Build.L14_ind fun X hX=>?_
  have key:∀ (d i:Nat) (hb:Sl) (w5:World),i+d=4→Keep wA w5→RdB w5 hb ((NS.take i).flatMap putU)→((NS.take i).flatMap putU).length≤10*i→X a hb ⟨some ⟨w.heap.size,0,none⟩,4,4⟩ (((⟨some ⟨w.heap.size,0,none⟩,4,4⟩:Sl).n:Nat):Int) (i:Int) w5:=by
   intro d
   induction d with
   | zero =>
    intro i hb w5 hi k5 o hle
    refine hX _ _ _ _ _ _ ?_
    unfold C.block_Build.S16
    refine cond_d (fun h=>by simp only at h;omega) (fun _=>tail hb w5 (Keep.trans k (Keep.trans kA k5)) ?_)
    rwa [List.take_of_length_le (by omega)] at o
   | succ d ih =>
    intro i hb w5 hi k5 o hle
    refine hX _ _ _ _ _ _ ?_
    unfold C.block_Build.S16
    have hi4:i<NS.length:=by omega
    refine cond_d (fun _=>?_) (fun h=>by simp only at h;omega)
    refine Rd.ix (hrd.keep k5) (by decide) (by omega) (by simp only;omega) fun p hc=>?_
    refine cI_at (n:=(NS[i]:Int)) (by
     have:=hc 0 (.int .u64 (NS[i]:Int)) (by decide) (by rw [Int.toNat_natCast,Nat.mul_one,Nat.add_zero,List.getElem?_map,List.getElem?_eq_getElem hi4];rfl)
     rwa [show p.add 0=p by simp [Addr.add]] at this) ?_
    have hlt:=hN _ (List.getElem_mem hi4)
    refine putU_ok hlt o (by omega) fun r w6 k6 o6=>?_
    rw [wI64 (by omega) (by omega),show (i:Int)+1=((i+1:Nat):Int) by omega]
    have et:(NS.take (i+1)).flatMap putU=(NS.take i).flatMap putU++putU NS[i]:=by rw [List.take_succ_eq_append_getElem hi4,List.flatMap_append];simp
    have h10:=putU_len64 hlt
    exact ih (i+1) r w6 (by omega) (Keep.trans k5 k6) (by rw [et];exact o6.rd) (by rw [et,List.length_append];omega)
  exact key 4 0 nilS wA (by omega) (Keep.refl _) (RdB.nil _) (by simp)
 -- the first and the last
 refine C.block_Build.L23_ind fun X hX=>?_
 have key:∀ (d i:Nat) (w:World),i+d=q'.length→Keep w3 w→X a (cntOf (S.take i):Int) (loOf (S.take i)) (hiOf (S.take i)) a ((a.n:Nat):Int) (i:Int) w:=by
  intro d
  induction d with
  | zero =>
   intro i w hi k
   refine hX _ _ _ _ _ _ _ _ ?_
   unfold C.block_Build.S25
   refine cond_d (fun h=>by omega) (fun _=>?_)
   rw [List.take_of_length_le (by omega)]
   exact head w k
  | succ d ih =>
   intro i w hi k
   refine hX _ _ _ _ _ _ _ _ ?_
   unfold C.block_Build.S25
   have hiq:i<q'.length:=by omega
   have hiS:i<S.length:=by omega
   have hx:q'[i]?=some q'[i]:=List.getElem?_eq_getElem hiq
   have eS:S[i]=q'[i].1:=by have:=hSi i hiq;rw [List.getElem?_eq_getElem hiS] at this;exact Option.some.inj this
   have k0:=Keep.trans top3.k k
   have hs:=(hel _ (List.getElem_mem hiq)).keep k0
   have hne:q'[i].1.2≠[]:=by rw [← eS];exact (ris _ (List.getElem_mem hiS)).1
   have hlp:0<q'[i].1.2.length:=List.length_pos_iff.2 hne
   refine cond_d (fun _=>?_) (fun h=>by omega)
   refine rdQ_at (t3.rd.keep k) (k:=i) rfl hx fun p e0 e1=>cSl_at e0<|cSl_at e1 ?_
   refine locS fun g w6 k6 hg b6=>?_
   have kd:=Keep.trans k (Keep.trans k6.1 (Keep.drew w6))
   have bd:Blk w6.drew g _ _:=b6.drew
   have hsd:SeOk w6.drew q'[i]:=hs.keep (Keep.trans k6.1 (Keep.drew w6))
   have hbn:=smN hsd.sm
   refine cSl_at (s:=q'[i].2.2) (by rw [addr_add,bd.cell];rfl) ?_
   refine Chunk.rdS_at hsd.sm (k:=0) rfl (smp_head hne) fun p2 f0 _=>cI_at f0 ?_
   refine cSl_at (s:=q'[i].2.2) (by rw [addr_add,bd.cell];rfl)<|cSl_at (s:=q'[i].2.2) (by rw [addr_add,bd.cell];rfl) ?_
   have hsl:=hs.sl
   refine Chunk.rdS_at hsd.sm (k:=q'[i].1.2.length-1) (by rw [wI64 (by omega) (by omega)];omega) (smp_last hne) fun p3 g0 _=>cI_at g0 ?_
   have et:S.take (i+1)=S.take i++[q'[i].1]:=by rw [List.take_succ_eq_append_getElem hiS,eS]
   have hct:=cnt_le (l:=S.take i) fun y hy=>hsz y (List.mem_of_mem_take hy)
   rw [List.length_take,Nat.min_eq_left (by omega)] at hct
   have ecn:IntKind.i64.wrap ((cntOf (S.take i):Int)+((q'[i].2.2.n:Nat):Int))=(cntOf (S.take (i+1)):Int):=by
    rw [wI64 (by omega) (by omega),et,cnt_snoc,hbn];omega
   refine cond_eq (fun hi0=>?_) (fun hi0=>?_)
   ·refine cSl_at (s:=q'[i].2.2) (by rw [addr_add,bd.cell];rfl) ?_
    rw [ecn,ite_self,ite_self,wI64 (by omega) (by omega),show (i:Int)+1=((i+1:Nat):Int) by omega]
    have e0:S.take i=[]:=by rw [show i=0 by omega];rfl
    have e1:(q'[i].1.2.headD (0,0)).1=loOf (S.take (i+1)):=by rw [et,e0];rfl
    have e2:(Chunk.lastS q'[i].1.2).1=hiOf (S.take (i+1)):=by rw [et,e0];rfl
    rw [e1,e2]
    exact ih (i+1) _ (by omega) kd
   ·refine cSl_at (s:=q'[i].2.2) (by rw [addr_add,bd.cell];rfl) ?_
    have hnil:S.take i≠[]:=by
     intro e
     have:=congrArg List.length e
     rw [List.length_take] at this
     simp only [List.length_nil] at this;omega
    rw [ecn,← lo_snoc hnil,← hi_snoc hnil,← et,wI64 (by omega) (by omega),show (i:Int)+1=((i+1:Nat):Int) by omega]
    exact ih (i+1) _ (by omega) kd
 exact key q'.length 0 w3 (by omega) (Keep.refl _)
end Go.Proofs.YtmfgmcajelmgbaaGreatDoor.Bk

namespace Go.Proofs.YtmfgmcajelmgbaaGreatDoor.Bk
open Go Vm Go.RowKit Num Mem Utf Lib Lab Vint Bits
variable {ω ω' : Tg} {w w' w0 : World}
theorem uv_len {p:List UInt8} {a:Int} (h:(uv p a).2.2=0):(uv p a).2.1≤p.length:=(uv_end h).2.2
theorem labs_snoc (l:List Lb) (a b:ByteArray):labs (l++[(a,b)])=labs l++[.string a,.string b]:=by rw [labs_app];rfl
theorem read_ok (ht:UTab w0) {b:Sl} {p:List UInt8} (hb:RdB w0 b p) (hl:p.length≤65536) {K:Sl→Int→Int→World→Prop}
  (hE:rl p=none→∀ (e:Int) w',e≠0→Keep w0 w'→K nilS 0 e w')
  (hK:∀ l a,rl p=some (l,a)→∀ r w',Keep w0 w'→Mem.Own w' w0.heap.size 93 2 r (labs l)→K r (a:Int) 0 w'):C.labels_Read b 0 w0 K:=by
 unfold C.labels_Read
 refine u_ok hb (by omega) 0 ?_
 unfold rl at hE hK
 refine cond_ne (fun h=>?_) (fun h=>?_)
 ·have h':(uv p 0).2.2≠0:=fun e=>h (by rw [e];rfl)
  rw [if_pos h'] at hE
  exact hE rfl _ w0 (by exact_mod_cast h') (Keep.refl _)
 have hz:(uv p 0).2.2=0:=by exact_mod_cast h
 rw [if_neg (by simpa using hz)] at hE hK
 refine cond_d (fun h16=>?_) (fun h16=>?_)
 ·rw [if_pos (by omega)] at hE
  exact hE rfl 8 w0 (by decide) (Keep.refl _)
 rw [if_neg (by omega)] at hE hK
 unfold C.labels_Read.S9
 generalize (uv p 0).1=n at *
 refine C.labels_Read.L5_ind fun X hX=>?_
 have key:∀ (d i a:Nat) (acc:List Lb) (out:Sl) (ω:Tg) (w:World),i+d=n→acc.length=i→Top w0 ω w→OT ω w 2 93 2 out (labs acc)→rlGo p d a acc=rlGo p n (uv p 0).2.1 []→X b (a:Int) out (n:Int) (i:Int) w:=by
  intro d
  induction d with
  | zero =>
   intro i a acc out ω w hi hacc top o e
   refine hX _ _ _ _ _ _ ?_
   unfold C.labels_Read.S7 C.labels_Read.S2
   rw [rlGo] at e
   rw [← e] at hE hK
   simp only at hE hK
   refine cond_d (fun h=>by omega) (fun _=>?_)
   unfold C.labels_right
   refine right_ok (ht.keep top.k) o.rd fun w1 k1=>?_
   refine cond_ne (fun hr=>?_) (fun hr=>?_)
   ·rw [if_pos hr] at hE
    exact hE rfl _ w1 hr (Keep.trans top.k k1)
   ·rw [if_neg (by simpa using hr)] at hK
    exact hK acc a rfl out w1 (Keep.trans top.k k1) (Own.keep (otNew o top) k1)
  | succ d ih =>
   intro i a acc out ω w hi hacc top o e
   refine hX _ _ _ _ _ _ ?_
   unfold C.labels_Read.S7
   rw [rlGo] at e
   have bad:none=rlGo p n (uv p 0).2.1 []→∀ (e:Int) w',e≠0→Keep w0 w'→K nilS 0 e w':=fun e0=>by
    rw [← e0] at hE
    exact hE rfl
   refine cond_d (fun _=>?_) (fun h=>by omega)
   refine new_T (ω:=ω) 7 fun g ω1 w1 k1 b1=>?_
   have top1:=top.stp k1
   refine text_ok (ht.keep top1.k) (hb.keep top1.k) (by omega) (by decide) fun w2 k2=>?_
   have s2:=k2.stp0 ω1
   have b2:=b1.stp s2
   have top2:=top1.stp s2
   generalize tx p (a:Int) 64=t1 at e ⊢
   refine st_T b2 (by simp) fun ω3 w3 k3 b3=>?_
   have top3:=top2.stp k3
   refine cond_ne (fun h3=>?_) (fun h3=>?_)
   ·rw [if_pos (by omega)] at e
    exact bad e _ w3 h3 top3.k
   rw [if_neg (by omega)] at e
   refine text_ok (ht.keep top3.k) (hb.keep top3.k) (by omega) (by decide) fun w4 k4=>?_
   have s4:=k4.stp0 ω3
   have b4:=b3.stp s4
   have top4:=top3.stp s4
   generalize tx p (t1.2.1:Int) 256=t2 at e ⊢
   refine st_TA b4 (by simp) fun ω5 w5 k5 b5=>?_
   have top5:=top4.stp k5
   refine cond_ne (fun h5=>?_) (fun h5=>?_)
   ·rw [if_pos (by omega)] at e
    exact bad e _ w5 h5 top5.k
   rw [if_neg (by omega)] at e
   refine cS_at (b:=Utf.str t1.1) (by rw [b5.cell];rfl)<|cS_at (b:=Utf.str t2.1) (by rw [addr_add,b5.cell];rfl) ?_
   have o5:=((((o.stp k1).stp s2).stp k3).stp s4).stp k5
   have hon:=rdL_n o5.rd
   refine push_T tiL o5 (n:=1) rfl (by intro v hv;simp at hv;rcases hv with rfl | rfl<;>rfl) (by simp only [maxLen];omega) (by omega) fun r ω6 w6 k6 o6 _=>?_
   rw [wU64_id (by omega) (by omega),show (i:Int)+1=((i+1:Nat):Int) by omega]
   refine ih (i+1) _ _ r ω6 w6 (by omega) (by rw [List.length_append,hacc];rfl) (top5.stp k6) ?_ e
   rw [labs_snoc];exact o6
 exact key n 0 (uv p 0).2.1 [] nilS (fun _=>0) w0 (by omega) rfl (Top.init w0) (OT.nil _ _ _ _ _) rfl
theorem joinL_fine:∀ (cs:List (List UInt8)) (out:List Smp) (i:Nat),(∀ x∈out,x.2<18446744073709551616)→(∀ x∈(Chunk.joinL out cs i).1,x.2<18446744073709551616)∧(Chunk.joinL out cs i).1.length≤out.length+120*cs.length
 | [],out,i,h=>by rw [Chunk.joinL];exact ⟨h,by simp⟩
 | c::cs,out,i,h=>by
  rw [Chunk.joinL]
  cases hd:Chunk.dec c with
  | none=>exact ⟨by simp,by simp⟩
  | some x =>
   simp only
   split
   ·exact ⟨by simp,by simp⟩
   ·obtain ⟨hv,_⟩:=Chunk.dec_some hd
    obtain ⟨h1,h2⟩:=joinL_fine cs (out++x) (i+1) fun y hy=>by
     rcases List.mem_append.1 hy with hy | hy
     ·exact h y hy
     ·exact (hv.mem y hy).2.2
    refine ⟨h1,?_⟩
    have:=hv.len
    rw [List.length_append] at h2
    rw [List.length_cons];omega
theorem rt_sizes {l:List Lb} (h:(rt l).1=0):(∀ x∈l,x.2.size≤140737488355300)∧l.length≤9000000000000000000:=by
 obtain ⟨h1,h2⟩:=rt_short h
 exact ⟨fun x hx=>by have:=h2 x hx;omega,by omega⟩
theorem rl_rt {p:List UInt8} {l:List Lb} {a:Nat} (h:rl p=some (l,a)):(rt l).1=0:=by
 unfold rl at h
 split at h
 ·cases h
 ·split at h
  ·cases h
  ·split at h
   ·cases h
   ·split at h
    ·cases h
    ·rename_i h4
     injection h with h
     injection h with h h'
     subst h
     simpa using h4
theorem series_ok (hT:DTab w0) (ht:UTab w0) {b:Sl} {p:List UInt8} (hb:RdB w0 b p) (hl:p.length≤65536) {K:Sl→Sl→Bool→World→Prop}
  (hE:rdSer p=none→∀ r s w',Keep w0 w'→K r s false w')
  (hK:∀ x e,rdSer p=some (x,e)→∀ r s w',Keep w0 w'→SeOk w' (x,r,s)→Mem.Own w' w0.heap.size 93 2 r (labs x.1)→Mem.Own w' w0.heap.size 96 2 s (Chunk.smps x.2)→K r s true w'):C.block_series b w0 K:=by
 have hbn:=hb.len
 unfold C.block_series
 refine new_T (ω:=fun _=>0) 7 fun g ω1 w1 k1 b1=>?_
 have top1:=(Top.init w0).stp k1
 -- out,empty
 have out:rdSer p=none→∀ {ω w},Top w0 ω w→BT ω w 7 g 57 [nilS.v,nilS.v]→G.st ⟨g,0,none⟩ nilS.v w fun w1=>G.st (Addr.add ⟨g,0,none⟩ 1) nilS.v w1 fun w2=>G.cSl ⟨g,0,none⟩ w2 fun a=>G.cSl (Addr.add ⟨g,0,none⟩ 1) w2 fun c=>K a c false w2:=by
  intro h ω w top bt
  refine st_T bt (by simp) fun ω2 w2 k2 b2=>st_TA b2 (by simp) fun ω3 w3 k3 b3=>?_
  exact cSl_at (s:=nilS) (by rw [b3.cell];rfl)<|cSl_at (s:=nilS) (by rw [addr_add,b3.cell];rfl) (hE h nilS nilS w3 ((top.stp k2).stp k3).k)
 unfold rdSer at hE hK out
 refine read_ok (ht.keep top1.k) (hb.keep top1.k) hl (fun hn e w2 he k2=>?_) (fun l a hs r w2 k2 o2=>?_)
 ·rw [hn] at out
  exact cond_t (by simpa using he) (out rfl (top1.stp (k2.stp0 _)) (b1.stp (k2.stp0 _)))
 rw [hs] at hE hK out
 simp only at hE hK out
 refine cond_f rfl ?_
 have s2:=k2.stp ω1 9
 have t2:=Own.tag o2 (Nat.le_refl _) ω1 9
 have b2:=b1.stp s2
 have top2:=top1.stp s2
 have hrt:=rl_rt hs
 generalize ext ω1 w1.heap.size 9=ω2 at *
 refine u_ok (hb.keep top2.k) (by omega) (a:Int) ?_
 refine cond_ne (fun h=>?_) (fun h=>?_)
 ·have h':(uv p a).2.2≠0:=fun e=>h (by rw [e];rfl)
  rw [if_pos h'] at out
  exact out rfl top2 b2
 have hz:(uv p a).2.2=0:=by exact_mod_cast h
 have hue:=uv_len hz
 rw [if_neg (by simpa using hz)] at hE hK out
 rw [wU64_id (by omega) (by omega),hbn]
 refine cond_d (fun hgt=>?_) (fun hle=>?_)
 ·rw [if_pos (by omega)] at out
  exact out rfl top2 b2
 rw [if_neg (by omega)] at hE hK out
 generalize (uv p a).1=n at *
 generalize (uv p a).2.1=a0 at *
 unfold C.block_series.S9
 refine C.block_series.L5_ind fun X hX=>?_
 have key:∀ (d i a:Nat) (acc:List (List UInt8)) (ss:List Sl) (c:Sl) (ω:Tg) (w:World),i+d=n→acc.length=i→ss.length=i→a≤p.length→Top w0 ω w→BT ω w 7 g 57 [nilS.v,nilS.v]→OT ω w 9 93 2 r (labs l) →
   OT ω w 3 22 1 c (ss.map Sl.v)→(∀ (j:Nat) q y,ss[j]?=some q→acc[j]?=some y→RdB w0 q y)→ckGo p d a acc=ckGo p n a0 []→X b (some ⟨g,0,none⟩) r (a:Int) c (n:Int) (i:Int) w:=by
  intro d
  induction d with
  | zero =>
   intro i a acc ss c ω w hi hacc hss ha top bt ol oc hel e
   refine hX _ _ _ _ _ _ _ _ ?_
   unfold C.block_series.S7 C.block_series.S2
   rw [ckGo] at e
   rw [← e] at hE hK
   simp only at hE hK
   refine cond_d (fun h=>by omega) (fun _=>?_)
   have hrd:Chunk.RdL w c ss acc:=⟨oc.rd,by omega,fun j q y h1 h2=>(hel j q y h1 h2).keep top.k⟩
   refine Chunk.join_ok (hT.keep top.k) hrd (by omega) fun s w1 k1 o1=>?_
   have s1:=k1.stp ω 11
   have t1:=Own.tag o1 (Nat.le_refl _) ω 11
   have b1:=bt.stp s1
   have top1:=top.stp s1
   have ol1:=ol.stp s1
   generalize ext ω w.heap.size 11=ω1 at *
   refine ptr_at<|st_T b1 (by simp) fun ω2 w2 k2 b2=>st_TA b2 (by simp) fun ω3 w3 k3 b3=>?_
   have top3:=(top1.stp k2).stp k3
   refine ptr_at<|cSl_at (s:=r) (by rw [b3.cell];rfl)<|cSl_at (s:=s) (by rw [addr_add,b3.cell];rfl) ?_
   obtain ⟨f1,f2⟩:=joinL_fine acc [] 0 (by simp)
   have l3:=(ol1.stp k2).stp k3
   have t3:=(t1.stp k2).stp k3
   by_cases hj:(Chunk.joinL [] acc 0).2.1=0
   ·rw [if_neg (by simpa using hj)] at hK
    rw [hj]
    obtain ⟨z1,z2⟩:=rt_sizes hrt
    exact hK _ _ rfl r s w3 top3.k ⟨l3.rd,t3.rd,f1,by simp only [List.length_nil] at f2;dsimp only;omega,z1,z2⟩ (otNew l3 top3) (otNew t3 top3)
   ·rw [if_pos hj] at hE
    have:((Chunk.joinL [] acc 0).2.1==(0:Int))=false:=by simpa using hj
    rw [this]
    exact hE rfl r s w3 top3.k
  | succ d ih =>
   intro i a acc ss c ω w hi hacc hss ha top bt ol oc hel e
   refine hX _ _ _ _ _ _ _ _ ?_
   unfold C.block_series.S7
   rw [ckGo] at e
   refine cond_d (fun _=>?_) (fun h=>by omega)
   refine u_ok (hb.keep top.k) (by omega) (a:Int) ?_
   refine cond_ne (fun h=>?_) (fun h=>?_)
   ·have h':(uv p a).2.2≠0:=fun e=>h (by rw [e];rfl)
    rw [if_pos h'] at e
    rw [← e] at out
    exact ptr_at (out rfl top bt)
   have hz:(uv p a).2.2=0:=by exact_mod_cast h
   have hue:=uv_len hz
   rw [if_neg (by simpa using hz)] at e
   rw [wI64 (x:=((b.n:Nat):Int)-_) (by omega) (by omega),wU64_id (by omega) (by omega)]
   refine cond_d (fun hgt=>?_) (fun hle=>?_)
   ·rw [if_pos (by omega)] at e
    rw [← e] at out
    exact ptr_at (out rfl top bt)
   rw [if_neg (by omega)] at e
   generalize (uv p a).1=m at *
   generalize (uv p a).2.1=f at *
   rw [wI64 (x:=(m:Int)) (by omega) (by omega),wI64 (x:=(f:Int)+(m:Int)) (by omega) (by omega)]
   refine RdB.slc hb (lo:=f) (hi:=f+m) (by omega) (by omega) rfl (by omega) fun q hq=>?_
   rw [show f+m-f=m by omega] at hq
   have hcn:c.n=ss.length:=by have:=oc.own.len;rw [List.length_map] at this;omega
   refine push_T Chunk.tiBB oc (n:=1) rfl (by intro v hv;simp at hv;subst hv;rfl) (by simp only [maxLen];omega) (by omega) fun c2 ω2 w2 k2 o2 _=>?_
   rw [wU64_id (by omega) (by omega),show (i:Int)+1=((i+1:Nat):Int) by omega,show (f:Int)+(m:Int)=((f+m:Nat):Int) by omega]
   refine ih (i+1) (f+m) (acc++[(p.drop f).take m]) (ss++[q]) c2 ω2 w2 (by omega) (by rw [List.length_append,hacc];rfl) (by rw [List.length_append,hss];rfl) (by omega) (top.stp k2) (bt.stp k2) (ol.stp k2) (by rw [List.map_append];exact o2) (fun j q' y h1 h2=>?_) e
   rcases Nat.lt_or_ge j ss.length with hj | hj
   ·rw [List.getElem?_append_left hj] at h1
    rw [List.getElem?_append_left (by omega)] at h2
    exact hel j q' y h1 h2
   ·rw [List.getElem?_append_right hj] at h1
    rw [List.getElem?_append_right (by omega),hacc,← hss] at h2
    rcases Nat.eq_zero_or_pos (j-ss.length) with e0 | e0
    ·rw [e0] at h1 h2
     simp only [List.getElem?_cons_zero,Option.some.injEq] at h1 h2
     subst h1 h2
     exact hq
    ·rw [List.getElem?_eq_none (by simp;omega)] at h1;cases h1
 exact key n 0 a0 [] [] nilS ω2 w2 (by omega) rfl rfl hue top2 b2 t2 (OT.nil _ _ _ _ _) (fun j q y h=>by simp at h) rfl
end Go.Proofs.YtmfgmcajelmgbaaGreatDoor.Bk

namespace Go.Proofs.YtmfgmcajelmgbaaGreatDoor.Mem
open Go Vm Go.RowKit Num
abbrev L2:=ByteArray × ByteArray
abbrev LL:=List (L2 × Value)
def lbV (x:L2):Value:=.agg #[.string x.1,.string x.2]
def encL (p:L2 × Value):Value × Value:=(lbV p.1,p.2)
theorem lbV_inj {x y:L2} (h:lbV x=lbV y):x=y:=by
 unfold lbV at h
 injection h with h
 have h:=congrArg Array.toList h
 simp only [List.cons.injEq,Value.string.injEq,and_true] at h
 exact Prod.ext h.1 h.2
def sml (x:L2):Prop:=x.1.size≤maxLen∧x.2.size≤maxLen
theorem lawL:WideMaps.KeyLaw Tryz.prog 93:=deep_law (m:=2) (by decide) (by kernel_rfl) (by kernel_rfl) (by kernel_rfl)
theorem keyOf_lb {x:L2} (h:sml x):∃ l,keyOf Tryz.prog 93 (lbV x)=some l:=by
 obtain ⟨h1,h2⟩:=h
 have hk:Tryz.prog.keyType 93=true:=by kernel_rfl
 have hc:Tryz.prog.cellsOf 93=2:=by kernel_rfl
 have hs:Tryz.prog.cellsOf 9=1:=by kernel_rfl
 have hst:Tryz.prog.underlying 9=some .string:=by kernel_rfl
 obtain ⟨m,hm⟩:∃ m,Tryz.prog.types.size=m+2:=⟨Tryz.prog.types.size-2,by kernel_rfl⟩
 unfold keyOf lbV
 simp only [Tryz.underlying93]
 rw [if_pos (by simp [hk,Value.formed,Tryz.underlying93,hc]),hm]
 unfold Program.keyLits
 simp only [Tryz.underlying93,Value.cells]
 rw [if_pos (by rw [hc];exact ⟨rfl,by simp⟩)]
 simp [Program.keyLits,hst,hs,h1,h2]
structure ML (ω:Tg) (w:World) (t g:Nat) (al:LL):Prop where
 ex:∃ es clock,w.heap[g]?=some (.map es clock)∧MapKept.Stamped es clock∧es.toList.map (fun e=>(e.key,e.val))=al.map encL
 tag:ω g=t
 sm:∀ p∈al,sml p.1
def getL (s:L2):LL→Option Value
 | []=>none
 | (k,v)::r=>if s=k then some v else getL s r
def updL (s:L2) (v:Value):LL→LL
 | []=>[(s,v)]
 | (k,x)::r=>if s=k then (s,v)::r else (k,x)::updL s v r
variable {ω ω' : Tg} {w w' : World} {t g : Nat} {al : LL} {T : Nat → Bool}
theorem ML.stp (h:ML ω w t g al) (s:Stp T ω ω' w w') (ne:T t=false):ML ω' w' t g al:=by
 obtain ⟨es,clock,hb,hs,he⟩:=h.ex
 exact ⟨⟨es,clock,by rw [s.block g (heap_lt hb) (by rw [h.tag];exact ne)];exact hb,hs,he⟩,(s.same g (heap_lt hb)).trans h.tag,h.sm⟩
theorem ML.lt (h:ML ω w t g al):g<w.heap.size:=by obtain ⟨es,clock,hb,_⟩:=h.ex;exact heap_lt hb
theorem nodupL {es:Array MapEntry} {clock:Nat} (hs:MapKept.Stamped es clock) (he:es.toList.map (fun e=>(e.key,e.val))=al.map encL):(al.map (·.1)).Nodup:=by
 have h1:=((MapKept.stamped_iff es clock).1 hs).2.2
 have h2:(es.toList.map (·.key)).Nodup:=by rw [List.Nodup,List.pairwise_map];exact h1
 have e3:es.toList.map (·.key)=(al.map (·.1)).map lbV:=by
  have:=congrArg (List.map Prod.fst) he
  rw [List.map_map,List.map_map] at this
  rw [List.map_map]
  exact this
 rw [e3] at h2
 exact (List.pairwise_map.1 h2).imp fun h e=>h (by rw [e])
theorem ML.nodup (h:ML ω w t g al):(al.map (·.1)).Nodup:=by
 obtain ⟨es,clock,hb,hs,he⟩:=h.ex
 exact nodupL hs he
theorem getL_at {s:L2} {v:Value}:∀ {al:LL} {j:Nat},(al.map (·.1)).Nodup→al[j]?=some (s,v)→getL s al=some v∧∀ u,al.set j (s,u)=updL s u al
 | [],j,_,h=>by simp at h
 | (k,x)::r,0,_,h=>by
  simp only [List.getElem?_cons_zero,Option.some.injEq,Prod.mk.injEq] at h
  obtain ⟨rfl,rfl⟩:=h
  exact ⟨by simp [getL],fun u=>by simp [updL]⟩
 | (k,x)::r,j+1,hn,h=>by
  rw [List.map_cons,List.nodup_cons] at hn
  have hr:r[j]?=some (s,v):=by simpa using h
  obtain ⟨h1,h2⟩:=getL_at hn.2 hr
  have hne:¬ s=k:=fun e=>hn.1 (by rw [← e];exact List.mem_map.2 ⟨_,List.mem_of_getElem? hr,rfl⟩)
  exact ⟨by simp [getL,if_neg hne,h1],fun u=>by simp [updL,if_neg hne,h2 u]⟩
theorem getL_none {s:L2}:∀ {al:LL},(∀ p∈al,p.1≠s)→getL s al=none∧∀ u,updL s u al=al++[(s,u)]
 | [],_=>⟨rfl,fun _=>rfl⟩
 | (k,x)::r,h=>by
  obtain ⟨h1,h2⟩:=getL_none fun p hp=>h p (List.mem_cons_of_mem _ hp)
  have hne:¬ s=k:=fun e=>h (k,x) (List.mem_cons_self ..) e.symm
  exact ⟨by simp [getL,if_neg hne,h1],fun u=>by simp [updL,if_neg hne,h2 u]⟩
theorem find_L {s:L2} (hs:sml s) {es:Array MapEntry} {clock:Nat} (st:MapKept.Stamped es clock) (he:es.toList.map (fun e=>(e.key,e.val))=al.map encL) (hsm:∀ p∈al,sml p.1) (w:World) :
  (getL s al=none∧(Instr.findKey 93 (lbV s) es.toList).run Tryz.prog w=.ok none w∧(∀ e∈es.toList,e.key≠lbV s)∧∀ u,updL s u al=al++[(s,u)]) ∨
  ∃ j e v,getL s al=some v∧(Instr.findKey 93 (lbV s) es.toList).run Tryz.prog w=.ok (some (j,v)) w∧es.toList[j]?=some e∧e.key=lbV s∧e.val=v∧∀ u,al.set j (s,u)=updL s u al:=by
 obtain ⟨l,hl⟩:=keyOf_lb hs
 have hall:∀ e∈es.toList,∃ l,keyOf Tryz.prog 93 e.key=some l:=fun e hm=>by
  have:(e.key,e.val)∈es.toList.map (fun e=>(e.key,e.val)):=List.mem_map_of_mem hm
  rw [he] at this
  obtain ⟨p,hp,hpe⟩:=List.mem_map.1 this
  simp only [encL,Prod.mk.injEq] at hpe
  rw [← hpe.1];exact keyOf_lb (hsm p hp)
 rcases lawL.find w hl es.toList hall with ⟨h1,h2⟩ | ⟨j,e,h1,h2,h3⟩
 ·have:=getL_none (s:=s) (al:=al) fun p hp e=>by
   have:encL p∈al.map encL:=List.mem_map_of_mem hp
   rw [← he] at this
   obtain ⟨y,hy,hye⟩:=List.mem_map.1 this
   simp only [encL,Prod.mk.injEq] at hye
   exact h2 y hy (by rw [hye.1,e])
  exact .inl ⟨this.1,h1,h2,this.2⟩
 ·have hj:(es.toList.map (fun e=>(e.key,e.val)))[j]?=some (e.key,e.val):=by rw [List.getElem?_map,h2];rfl
  rw [he,List.getElem?_map] at hj
  cases hp:al[j]? with
  | none=>rw [hp] at hj;cases hj
  | some p =>
   rw [hp] at hj
   simp only [Option.map_some,encL,Option.some.injEq,Prod.mk.injEq] at hj
   obtain ⟨k,v⟩:=p
   have hk:k=s:=lbV_inj (by rw [hj.1,h3])
   subst hk
   have hv:v=e.val:=hj.2
   obtain ⟨g1,g2⟩:=getL_at (nodupL st he) hp
   exact .inr ⟨j,e,v,g1,by rw [h1,hv],h2,h3,hv.symm,g2⟩
theorem run_look_L {mt et:TypeId} (h:ML ω w t g al) (hm:Tryz.prog.underlying mt=some (.map 93 et)) {z:Value} (hz:∀ w,(zeroValue et).run Tryz.prog w=.ok z w) {s:L2} (hs:sml s) (ok:Bool) (d:Nat) :
  (Instr.lookup mt (.map (some g)) (lbV s) ok).run Tryz.prog (w.drewN d)=.ok (if ok then .tuple #[(getL s al).getD z,.bool (getL s al).isSome] else (getL s al).getD z) (w.drewN d):=by
 obtain ⟨es,clock,hb,st,he⟩:=h.ex
 have hb':(w.drewN d).heap[g]?=some (.map es clock):=hb
 obtain ⟨l,hl⟩:=keyOf_lb hs
 have hc:=fun e=>lawL.check (w.drewN d) e hl
 rcases find_L hs st he h.sm (w.drewN d) with ⟨g1,g2,_⟩ | ⟨j,e',v',g1,g2,_⟩
 ·simp [Instr.lookup,run_underlying hm,MapKept.run_getObj_map hb',hc,g2,hz,Result.andThen,g1]
 ·simp [Instr.lookup,run_underlying hm,MapKept.run_getObj_map hb',hc,g2,Result.andThen,g1]
theorem rd1_L {α:Type} {f:α→Value} {mt et:TypeId} (h:ML ω w t g al) (hm:Tryz.prog.underlying mt=some (.map 93 et)) {z:Value} (hz:∀ w,(zeroValue et).run Tryz.prog w=.ok z w) {s:L2} (hs:sml s) {K:α→Prop} {a:α}
  (e:(getL s al).getD z=f a) (hK:K a):G.rd1 Tryz.prog (Instr.lookup mt (.map (some g)) (lbV s) false) f w K :=
 ⟨a,fun d=>by rw [run_look_L h hm hz hs false d,e];rfl,hK⟩
theorem mkL {P:Program} {mt:TypeId} (t:Nat) {K:Option Nat→World→Prop} (hK:∀ g ω' w',Stp Non ω ω' w w'→ML ω' w' t g []→K (some g) w'):G.runM P (Instr.makeMap mt none) w K :=
 ⟨some w.heap.size,_,run_makeMap_plain w mt,hK w.heap.size (ext ω w.heap.size t) _ ((Keep.alloc w _).stp ω t) ⟨⟨#[],0,World.alloc_heap_new w _,MapKept.stamped_empty 0,rfl⟩,ext_new (Nat.le_refl _),by simp⟩⟩
theorem find_born:∀ {l:List MapEntry} {j:Nat} {e0:MapEntry},(l.map (·.born)).Nodup→l[j]?=some e0→l.findIdx? (fun e=>((e.born:Nat):Int)==((e0.born:Nat):Int))=some j
 | [],j,e0,_,h=>by simp at h
 | a::l,0,e0,_,h=>by simp at h;subst h;simp [List.findIdx?_cons]
 | a::l,j+1,e0,hn,h=>by
  rw [List.map_cons,List.nodup_cons] at hn
  simp only [List.getElem?_cons_succ] at h
  have hne:a.born≠e0.born:=fun e1=>hn.1 (List.mem_map.2 ⟨e0,List.mem_of_getElem? h,e1.symm⟩)
  have hb:(((a.born:Nat):Int)==((e0.born:Nat):Int))=false:=by
   simp only [beq_eq_false_iff_ne,ne_eq,Int.natCast_inj]
   exact hne
  rw [List.findIdx?_cons,hb]
  simp [find_born hn.2 h]
theorem entL {mt et:TypeId} (h:ML ω w t g al) (hm:Tryz.prog.underlying mt=some (.map 93 et)) (hz:∀ w,(zeroValue et).run Tryz.prog w=.ok nilS.v w) {s:L2} (hs:sml s) {x:Sl} (ex:(getL s al).getD nilS.v=x.v) {K:Sl→Int→World→Prop}
  (hK:∀ n ω1 w1,Stp (One t) ω ω1 w w1→(∀ ω2 w2 T,Stp T ω1 ω2 w1 w2→T t=false→∀ (v:Value) (Z:World→Prop),(∀ ω3 w3,Stp (One t) ω2 ω3 w2 w3→ML ω3 w3 t g (updL s v al)→Z w3)→G.runU Tryz.prog (Instr.entryStore mt (.map (some g)) (.int .i64 n) v) w2 Z)→K x n w1) :
  G.runE Tryz.prog (Instr.mapEntry mt (.map (some g)) (lbV s)) w K:=by
 obtain ⟨es,clock,hb,st,he⟩:=h.ex
 obtain ⟨l,hl⟩:=keyOf_lb hs
 have hc:=lawL.check w false hl
 obtain ⟨s1,s2,s3⟩:=(MapKept.stamped_iff es clock).1 st
 have hsmu:∀ v,∀ p∈updL s v al,sml p.1:=fun v p hp=>by
  have key:∀ (al:LL),(∀ p∈al,sml p.1)→p∈updL s v al→sml p.1:=by
   intro al
   induction al with
   | nil=>intro _ hp;simp only [updL,List.mem_singleton] at hp;subst hp;exact hs
   | cons q r ih =>
    intro ha hp
    obtain ⟨k,y⟩:=q
    rw [updL] at hp
    split at hp
    ·rcases List.mem_cons.1 hp with rfl | hp
     ·exact hs
     ·exact ha _ (List.mem_cons_of_mem _ hp)
    ·rcases List.mem_cons.1 hp with rfl | hp
     ·exact ha _ (List.mem_cons_self ..)
     ·exact ih (fun q hq=>ha q (List.mem_cons_of_mem _ hq)) hp
  exact key al h.sm hp
 -- writing back
 have back:∀ (es1:Array MapEntry) (clock1:Nat) (j:Nat) (e0:MapEntry) (w1:World),MapKept.Stamped es1 clock1→es1.toList[j]?=some e0→w1.heap[g]?=some (.map es1 clock1)→e0.key=lbV s →
   (∀ v,(es1.toList.map (fun e=>(e.key,e.val))).set j (lbV s,v)=(updL s v al).map encL)→Stp (One t) ω ω w w1 →
   ∀ ω2 w2 T,Stp T ω ω2 w1 w2→T t=false→∀ (v:Value) (Z:World→Prop),(∀ ω3 w3,Stp (One t) ω2 ω3 w2 w3→ML ω3 w3 t g (updL s v al)→Z w3)→G.runU Tryz.prog (Instr.entryStore mt (.map (some g)) (.int .i64 (e0.born:Int)) v) w2 Z:=by
  intro es1 clock1 j e0 w1 st1 hj hb1 hk hset _ ω2 w2 T k2 hT v Z hZ
  have hb2:w2.heap[g]?=some (.map es1 clock1):=by rw [k2.block g (heap_lt hb1) (by rw [h.tag];exact hT)];exact hb1
  have htag:ω2 g=t:=(k2.same g (heap_lt hb1)).trans h.tag
  have hjs:es1[j]?=some e0:=by simpa using hj
  have hidx:es1.findIdx? (fun e=>((e.born:Nat):Int)==((e0.born:Nat):Int))=some j:=by
   have:es1.findIdx? (fun e=>((e.born:Nat):Int)==((e0.born:Nat):Int))=es1.toList.findIdx? (fun e=>((e.born:Nat):Int)==((e0.born:Nat):Int)):=by cases es1;simp
   rw [this];exact find_born ((MapKept.stamped_iff es1 clock1).1 st1).2.1 hj
  refine ⟨w2.putObj g (.map (es1.modify j fun e=>{ e with val:=v }) clock1),?_,hZ ω2 _ (put_stp' htag) ⟨⟨_,_,World.putObj_heap_same (heap_lt hb2),MapKept.stamped_modify st1 _ _ (fun _ _=>rfl) (fun e'' _ _=>rfl),?_⟩,htag,hsmu v⟩⟩
  ·simp [Instr.entryStore,MapKept.run_getObj_map hb2,asInt,asIntOf,hidx,MapKept.run_setObj_map _ hb2,Result.andThen,World.putObj]
  ·rw [← hset v,Array.toList_modify]
   apply List.ext_getElem?
   intro i
   simp only [List.getElem?_map,List.getElem?_modify,List.getElem?_set]
   by_cases e:j=i
   ·subst e
    have hlt:j<es1.toList.length:=(List.getElem?_eq_some_iff.1 hj).1
    have hlt':j<es1.size:=by simpa using hlt
    have hge:es1[j]=e0:=by have:=Array.getElem?_eq_getElem hlt';rw [hjs] at this;exact (Option.some.inj this).symm
    simp [hge,hk,hlt']
   ·simp [e]
 rcases find_L hs st he h.sm w with ⟨g1,g2,g3,g4⟩ | ⟨j,e',v',g1,g2,g3,g4,g5,g6⟩
 ·rw [g1] at ex
  have st1:MapKept.Stamped (es.push { key:=lbV s,val:=nilS.v,born:=clock }) (clock+1):=MapKept.stamped_push st fun x hx hxe=>g3 x hx hxe
  have hb1:(w.putObj g (.map (es.push { key:=lbV s,val:=nilS.v,born:=clock }) (clock+1))).heap[g]?=some (.map (es.push { key:=lbV s,val:=nilS.v,born:=clock }) (clock+1)):=World.putObj_heap_same (heap_lt hb)
  have ex':x.v=nilS.v:=ex.symm
  refine ⟨x,(clock:Int),w.putObj g (.map (es.push { key:=lbV s,val:=nilS.v,born:=clock }) (clock+1)),?_,hK (clock:Int) ω _ (put_stp' h.tag) (back _ _ es.size { key:=lbV s,val:=nilS.v,born:=clock } _ st1 ?_ hb1 rfl (fun v=>?_) (put_stp' h.tag))⟩
  ·rw [ex']
   simp [Instr.mapEntry,run_underlying hm,MapKept.run_getObj_map hb,hc,g2,hz,MapKept.run_setObj_map _ hb,Result.andThen,World.putObj,goInt]
  ·rw [Array.toList_push,List.getElem?_append_right (by simp)];simp
  ·rw [Array.toList_push,List.map_append,he,g4 v,List.map_append]
   have hl:(al.map encL).length=es.size:=by rw [← he];simp
   rw [List.set_append_right _ _ (by omega),hl,Nat.sub_self]
   rfl
 ·rw [g1] at ex
  have ex':v'=x.v:=ex
  have hj:es[j]?=some e':=by simpa using g3
  have hsame:(es.modify j fun e=>{ e with key:=lbV s })=es:=by
   apply Array.ext'
   rw [Array.toList_modify]
   apply List.ext_getElem?
   intro i
   rw [List.getElem?_modify]
   by_cases e:j=i
   ·subst e
    rw [g3]
    simp [← g4]
   ·simp [e]
  refine ⟨x,(e'.born:Int),w.putObj g (.map es clock),?_,hK (e'.born:Int) ω _ (put_stp' h.tag) (back es clock j e' _ st g3 (World.putObj_heap_same (heap_lt hb)) g4 (fun v=>?_) (put_stp' h.tag))⟩
  ·rw [← ex']
   simp [Instr.mapEntry,run_underlying hm,MapKept.run_getObj_map hb,hc,g2,hj,g4,lawL.stays w hl,hsame,MapKept.run_setObj_map _ hb,Result.andThen,World.putObj,goInt]
  ·rw [he,← g6 v,List.map_set];rfl
end Go.Proofs.YtmfgmcajelmgbaaGreatDoor.Mem

namespace Go.Proofs.YtmfgmcajelmgbaaGreatDoor.Mem
open Go Vm Go.RowKit Num
variable {ω ω' ω'' ωl : Tg} {w w' w'' : World} {t u g : Nat} {T : Nat → Bool} {e : TypeId} {sz : Nat} {s : Sl} {xs : List Value}
def rtg (ω ωl:Tg) (n:Nat) (f:Nat→Nat):Tg:=fun k=>if k<n then ω k else f (ωl k)
theorem rtg_new {n:Nat} {f:Nat→Nat} {k v:Nat} (h:n≤k) (hv:ωl k=v):rtg ω ωl n f k=f v:=by unfold rtg;rw [if_neg (by omega),hv]
theorem rtg_stp (k:Keep w w') (ω ωl:Tg) (f:Nat→Nat):Stp Non ω (rtg ω ωl w.heap.size f) w w':=⟨k.os,k.tape,k.output,k.size,fun i hi=>by unfold rtg;rw [if_pos hi],fun i hi _=>k.block i hi⟩
theorem Top.ge {v:Nat} (top:Top w ω' w') {k:Nat} (h:ω' k=v) (hv:v≠0):w.heap.size≤k:=by
 rcases Nat.lt_or_ge k w.heap.size with hlt | hge
 ·rw [top.z k hlt] at h;exact absurd h.symm hv
 ·exact hge
theorem BT.rtg {cs:List Value} (h:BT ωl w' u g e cs) (top:Top w ωl w') (f:Nat→Nat) (hu:u≠0:=by decide):BT (rtg ω ωl w.heap.size f) w' (f u) g e cs:=⟨h.blk,rtg_new (top.ge h.tag hu) h.tag⟩
theorem OT.rtg (h:OT ωl w' u e sz s xs) (top:Top w ωl w') (f:Nat→Nat) (hu:u≠0:=by decide):OT (rtg ω ωl w.heap.size f) w' (f u) e sz s xs:=⟨h.own,fun k hk=>rtg_new (top.ge (h.tag k hk) hu) (h.tag k hk)⟩
theorem RT.rtg (h:RT ωl w' u s sz xs) (top:Top w ωl w') (f:Nat→Nat) (hu:u≠0:=by decide):RT (rtg ω ωl w.heap.size f) w' (f u) s sz xs:=⟨h.rd,fun g o ha hne=>rtg_new (top.ge (h.tag g o ha hne) hu) (h.tag g o ha hne)⟩
theorem MV.rtg {al:AL} (h:MV ωl w' u g al) (top:Top w ωl w') (f:Nat→Nat) (hu:u≠0:=by decide):MV (rtg ω ωl w.heap.size f) w' (f u) g al:=⟨h.ex,rtg_new (top.ge h.tag hu) h.tag⟩
end Go.Proofs.YtmfgmcajelmgbaaGreatDoor.Mem

namespace Go.Proofs.YtmfgmcajelmgbaaGreatDoor.Bk
open Go Vm Go.RowKit Num Mem Utf Lib Lab Vint Bits
variable {ω ω' : Tg} {w w' w0 : World} {T : Nat → Bool} {t u g gm : Nat}
def hasL (m:List Lb) (x:Lb):Bool:=m.any fun y=>decide (y=x)
theorem hasL_iff {m:List Lb} {x:Lb}:hasL m x=true↔x∈m:=by
 unfold hasL
 rw [List.any_eq_true]
 simp
def postGo (x:Lb):List Ser→Nat→List Nat
 | [],_=>[]
 | s::r,i=>if hasL s.1 x=true then i::postGo x r (i+1) else postGo x r (i+1)
def post (l:List Ser) (x:Lb):List Nat:=postGo x l 0
theorem postGo_snoc (x:Lb) (s:Ser):∀ (l:List Ser) (i:Nat),postGo x (l++[s]) i=postGo x l i++(if hasL s.1 x=true then [i+l.length] else [])
 | [],i=>by simp [postGo]
 | y::l,i=>by
  rw [List.cons_append,postGo,postGo_snoc x s l (i+1),postGo]
  split
  ·rw [List.cons_append,List.length_cons,show i+1+l.length=i+(l.length+1) by omega]
  ·rw [List.length_cons,show i+1+l.length=i+(l.length+1) by omega]
theorem post_snoc (l:List Ser) (s:Ser) (x:Lb):post (l++[s]) x=post l x++(if hasL s.1 x=true then [l.length] else []):=by
 unfold post;rw [postGo_snoc,Nat.zero_add]
theorem postGo_len (x:Lb):∀ (l:List Ser) (i:Nat),(postGo x l i).length≤l.length
 | [],i=>by simp [postGo]
 | y::l,i=>by
  have:=postGo_len x l (i+1)
  rw [postGo]
  split<;>simp only [List.length_cons]<;>omega
abbrev IE:=Lb × Sl × List Nat
def encI (e:IE):L2 × Value:=(e.1,e.2.1.v)
def ints (l:List Nat):List Value:=l.map fun n:Nat=>Value.int .i64 (n:Int)
theorem ints_app (a b:List Nat):ints (a++b)=ints a++ints b:=List.map_append
theorem ints_len (a:List Nat):(ints a).length=a.length:=List.length_map _
theorem ints_one {l:List Nat}:∀ v∈ints l,v.oneCell'=true:=by
 intro v hv
 obtain ⟨s,_,rfl⟩:=List.mem_map.1 hv
 rfl
theorem tiN:TI Tryz.prog 46 3 1 8:=TI.of (z:=.int .i64 0) (by kernel_rfl) (by kernel_rfl) rfl (by decide)
theorem mapX:Tryz.prog.underlying 82=some (.map 93 46):=by kernel_rfl
abbrev Rg (t n:Nat):Nat→Bool:=fun u=>decide (t≤u∧u<n)
def BIG:Nat:=100000000
theorem rg_no {a n u:Nat} (h:u<a∨n≤u):Rg a n u=false:=decide_eq_false (by omega)
theorem one_rg {a n u:Nat} (h1:a≤u) (h2:u<n) (h:Stp (Mem.One u) ω ω' w w'):Stp (Rg a n) ω ω' w w':=h.mono fun x hx=>beq_no fun e=>by
 have:=of_decide_eq_false hx;omega
structure IX (ω:Tg) (w:World) (t u gm:Nat) (F:Lb→List Nat) (es:List IE):Prop where
 mp:ML ω w t gm (es.map encI)
 own:∀ j e,es[j]?=some e→OT ω w (u+j) 3 1 e.2.1 (ints e.2.2)
 eq:∀ e∈es,e.2.2=F e.1
 all:∀ x,F x≠[]→x∈es.map (·.1)
 ne:∀ e∈es,F e.1≠[]
theorem IX.stp {F:Lb→List Nat} {es:List IE} (h:IX ω w t u gm F es) (k:Stp T ω ω' w w') (h1:T t=false) (h2:∀ j,j<es.length→T (u+j)=false):IX ω' w' t u gm F es :=
 ⟨h.mp.stp k h1,fun j e he=>(h.own j e he).stp k (h2 j (List.getElem?_eq_some_iff.1 he).1),h.eq,h.all,h.ne⟩
theorem keysI (es:List IE):(es.map encI).map (·.1)=es.map (·.1):=by rw [List.map_map];rfl
theorem idx_step {F:Lb→List Nat} {es:List IE} {n:Nat} (h:IX ω w t (t+1) gm F es) (hes:t+1+es.length<n) {x:Lb} (hx:sml x) {i:Nat} (hF:(F x).length≤10000000) {p:Sl} {v:Nat} (hv:v<t∨n≤v) (hp:BT ω w v g 3 [.int .i64 (i:Int)]) (ep:p=⟨some ⟨g,0,none⟩,1,1⟩) {Z:World→Prop}
  (hK:∀ es' ω' w',Stp (Rg t n) ω ω' w w'→IX ω' w' t (t+1) gm (fun y=>if y=x then F y++[i] else F y) es'→es'.length≤es.length+1→Z w') :
  G.runE Tryz.prog (Instr.mapEntry 82 (.map (some gm)) (lbV x)) w fun l n w1=>G.runSl Tryz.prog (Builtin.append_ #[46,46] 46 #[l.v,p.v]) w1 fun l2 w2 =>
   G.runU Tryz.prog (Instr.entryStore 82 (.map (some gm)) (.int .i64 n) l2.v) w2 Z:=by
 have hpt:Mem.One t v=false:=beq_no (by omega)
 by_cases hm:x∈es.map (·.1)
 ·obtain ⟨e,he,hex⟩:=List.mem_map.1 hm
  obtain ⟨j,hj,rfl⟩:=List.mem_iff_getElem.1 he
  have hje:es[j]?=some es[j]:=List.getElem?_eq_getElem hj
  have hjm:(es.map encI)[j]?=some (x,es[j].2.1.v):=by rw [List.getElem?_map,hje];show some (encI es[j])=_;unfold encI;rw [hex]
  obtain ⟨g1,g2⟩:=getL_at h.mp.nodup hjm
  have o:=h.own j _ hje
  have hlen:=h.eq _ he
  have hon:es[j].2.1.n=es[j].2.2.length:=by have:=o.own.len;rw [ints_len] at this;omega
  rw [hex] at hlen
  have hll:es[j].2.2.length≤10000000:=by rw [hlen];exact hF
  refine entL (x:=es[j].2.1) h.mp mapX Tryz.zeroValue46 hx (by rw [g1];rfl) fun st ω1 w1 k1 back=>?_
  have o1:=o.stp k1 (beq_no (by omega))
  have hp1:=hp.stp k1 hpt
  subst ep
  refine app_T tiN o1 (x:=⟨some ⟨g,0,none⟩,1,1⟩) (ys:=ints [i]) (by have:=Rd.blk (o:=0) (n:=1) (c:=1) (sz:=1) hp1.blk (Nat.le_refl _) (by simp);simpa [ints] using this) ints_one (by simp only [maxLen];omega) (by simp only;omega) fun r ω2 w2 k2 o2 _=>?_
  refine back ω2 w2 _ k2 (beq_no (by omega)) _ Z fun ω3 w3 k3 m3=>?_
  rw [← g2] at m3
  have em:(es.map encI).set j (x,r.v)=(es.set j (x,r,es[j].2.2++[i])).map encI:=by rw [List.map_set];rfl
  rw [em] at m3
  refine hK (es.set j (x,r,es[j].2.2++[i])) ω3 w3 (((one_rg (by omega) (by omega) k1).trans (one_rg (by omega) (by omega) k2)).trans (one_rg (by omega) (by omega) k3)) ⟨m3,fun j' e' he'=>?_,fun e' he'=>?_,fun y hy=>?_,fun e' he'=>?_⟩ (by rw [List.length_set];omega)
  ·by_cases hjj:j=j'
   ·subst hjj
    rw [List.getElem?_set_self hj] at he'
    injection he' with he'
    subst he'
    rw [ints_app]
    exact o2.stp k3 (beq_no (by omega))
   ·rw [List.getElem?_set_ne hjj] at he'
    exact (((h.own j' e' he').stp k1 (beq_no (by omega))).stp k2 (beq_no (by omega))).stp k3 (beq_no (by omega))
  ·obtain ⟨j',hj',rfl⟩:=List.mem_iff_getElem.1 he'
   rw [List.length_set] at hj'
   rw [List.getElem_set]
   split
   ·rw [if_pos rfl,hlen]
   ·rename_i hjj
    have hne:¬ es[j'].1=x:=fun e=>by
     have hn:=h.mp.nodup
     rw [keysI] at hn
     have l1:j<(es.map (·.1)).length:=by rw [List.length_map];exact hj
     have l2:j'<(es.map (·.1)).length:=by rw [List.length_map];exact hj'
     have pw:=List.pairwise_iff_getElem.1 hn
     rcases Nat.lt_or_gt_of_ne hjj with hlt | hlt
     ·exact pw j j' l1 l2 hlt (by rw [List.getElem_map,List.getElem_map,e,hex])
     ·exact pw j' j l2 l1 hlt (by rw [List.getElem_map,List.getElem_map,e,hex])
    rw [if_neg hne]
    exact h.eq _ (List.getElem_mem hj')
  ·rw [List.map_set]
   by_cases hyx:y=x
   ·subst hyx
    exact List.mem_iff_getElem.2 ⟨j,by rw [List.length_set,List.length_map];exact hj,by rw [List.getElem_set_self]⟩
   ·rw [if_neg hyx] at hy
    have hy':=h.all y hy
    obtain ⟨j',hj',e'⟩:=List.mem_iff_getElem.1 hy'
    rw [List.length_map] at hj'
    refine List.mem_iff_getElem.2 ⟨j',by rw [List.length_set,List.length_map];exact hj',?_⟩
    rw [List.getElem_set_ne (fun e=>hyx ?_)]
    ·exact e'
    ·subst e;rw [List.getElem_map] at e';rw [← e',hex]
  ·by_cases hex':e'.1=x
   ·rw [if_pos hex'];simp
   ·rw [if_neg hex']
    obtain ⟨j',hj',rfl⟩:=List.mem_iff_getElem.1 he'
    rw [List.length_set] at hj'
    rw [List.getElem_set] at hex' ⊢
    split at hex'
    ·exact absurd rfl hex'
    ·rename_i hjj
     rw [if_neg hjj]
     exact h.ne _ (List.getElem_mem hj')
 ·have hF0:F x=[]:=Classical.byContradiction fun hne=>hm (h.all x hne)
  have hnk:∀ q∈es.map encI,q.1≠x:=fun q hq e=>hm (by
   have:=List.mem_map_of_mem (f:=(·.1)) hq
   rw [keysI,e] at this;exact this)
  obtain ⟨g1,g2⟩:=getL_none hnk
  refine entL (x:=nilS) h.mp mapX Tryz.zeroValue46 hx (by rw [g1];rfl) fun st ω1 w1 k1 back=>?_
  have hp1:=hp.stp k1 hpt
  subst ep
  refine app_T (ω:=ω1) (t:=t+1+es.length) tiN (OT.nil _ _ _ _ _) (x:=⟨some ⟨g,0,none⟩,1,1⟩) (ys:=ints [i]) (by have:=Rd.blk (o:=0) (n:=1) (c:=1) (sz:=1) hp1.blk (Nat.le_refl _) (by simp);simpa [ints] using this) ints_one (by simp only [maxLen];simp) (by simp) fun r ω2 w2 k2 o2 _=>?_
  refine back ω2 w2 _ k2 (beq_no (by omega)) _ Z fun ω3 w3 k3 m3=>?_
  rw [g2] at m3
  have em:es.map encI++[(x,r.v)]=(es++[(x,r,[i])]).map encI:=by rw [List.map_append];rfl
  rw [em] at m3
  refine hK (es++[(x,r,[i])]) ω3 w3 (((one_rg (by omega) (by omega) k1).trans (one_rg (by omega) (by omega) k2)).trans (one_rg (by omega) (by omega) k3)) ⟨m3,fun j' e' he'=>?_,fun e' he'=>?_,fun y hy=>?_,fun e' he'=>?_⟩ (by rw [List.length_append];exact Nat.le_refl _)
  ·rcases Nat.lt_or_ge j' es.length with hj | hj
   ·rw [List.getElem?_append_left hj] at he'
    exact (((h.own j' e' he').stp k1 (beq_no (by omega))).stp k2 (beq_no (by omega))).stp k3 (beq_no (by omega))
   ·rw [List.getElem?_append_right hj] at he'
    rcases Nat.eq_zero_or_pos (j'-es.length) with e0 | e0
    ·rw [e0] at he'
     simp only [List.getElem?_cons_zero,Option.some.injEq] at he'
     subst he'
     have:j'=es.length:=by omega
     subst this
     exact o2.stp k3 (beq_no (by omega))
    ·rw [List.getElem?_eq_none (by simp;omega)] at he';cases he'
  ·rcases List.mem_append.1 he' with he' | he'
   ·have:e'.1≠x:=fun e=>hm (by rw [← e];exact List.mem_map_of_mem he')
    rw [if_neg this];exact h.eq e' he'
   ·rw [List.mem_singleton] at he'
    subst he'
    rw [if_pos rfl,hF0];rfl
  ·rw [List.map_append]
   by_cases hyx:y=x
   ·subst hyx;exact List.mem_append_right _ (List.mem_singleton.2 rfl)
   ·rw [if_neg hyx] at hy
    exact List.mem_append_left _ (h.all y hy)
  ·by_cases hex':e'.1=x
   ·rw [if_pos hex'];simp
   ·rw [if_neg hex']
    rcases List.mem_append.1 he' with he' | he'
    ·exact h.ne e' he'
    ·rw [List.mem_singleton] at he'
     subst he'
     exact absurd rfl hex'
structure SeT (ω:Tg) (w:World) (t:Nat) (p:SQ):Prop where
 lb:RT ω w t p.2.1 2 (labs p.1.1)
 sm:RT ω w t p.2.2 2 (Chunk.smps p.1.2)
 fl:∀ x∈p.1.2,x.2<18446744073709551616
 sl:p.1.2.length≤11000000
 rt:(Lab.rt p.1.1).1=0
theorem SeT.stp {p:SQ} (h:SeT ω w t p) (k:Stp T ω ω' w w') (ne:T t=false):SeT ω' w' t p:=⟨h.lb.stp k ne,h.sm.stp k ne,h.fl,h.sl,h.rt⟩
theorem SeT.ok {p:SQ} (h:SeT ω w t p):SeOk w p:=⟨h.lb.rd,h.sm.rd,h.fl,h.sl,(rt_sizes h.rt).1,(rt_sizes h.rt).2⟩
structure BK (ω:Tg) (w:World) (t g gm:Nat) (bs rs:Sl) (b:List UInt8) (q:QS) (F:Lb→List Nat) (es:List IE) (k:Int):Prop where
 hd:BT ω w t g 89 [bs.v,rs.v,.map (some gm),.int .i64 k]
 by_:OT ω w (t+1) 5 1 bs (vBs b)
 row:OT ω w (t+2) 57 2 rs (sers q)
 ix:IX ω w (t+4) (t+5) gm F es
 el:∀ p∈q,SeT ω w (t+3) p
 n:es.length≤20000000
def Off (t:Nat) (T:Nat→Bool):Prop:=∀ u,t≤u→u<t+BIG→T u=false
theorem BK.stp {bs rs:Sl} {b:List UInt8} {q:QS} {F:Lb→List Nat} {es:List IE} {k:Int} (h:BK ω w t g gm bs rs b q F es k) (s:Stp T ω ω' w w') (ne:Off t T):BK ω' w' t g gm bs rs b q F es k :=
 ⟨h.hd.stp s (ne _ (by omega) (by unfold BIG;omega)),h.by_.stp s (ne _ (by omega) (by unfold BIG;omega)),h.row.stp s (ne _ (by omega) (by unfold BIG;omega)),
  h.ix.stp s (ne _ (by omega) (by unfold BIG;omega)) (fun j hj=>ne _ (by omega) (by have:=h.n;unfold BIG;omega)),fun p hp=>(h.el p hp).stp s (ne _ (by omega) (by unfold BIG;omega)),h.n⟩
theorem off_one {u:Nat} (h:u<t∨t+BIG≤u):Off t (Mem.One u):=fun x h1 h2=>beq_no (by omega)
theorem off_non (t:Nat):Off t Non:=fun _ _ _=>rfl
theorem BK.rd {bs rs:Sl} {b:List UInt8} {q:QS} {F:Lb→List Nat} {es:List IE} {k:Int} (h:BK ω w t g gm bs rs b q F es k):RdQ w rs q:=⟨h.row.rd,fun p hp=>(h.el p hp).ok⟩
end Go.Proofs.YtmfgmcajelmgbaaGreatDoor.Bk

namespace Go.Proofs.YtmfgmcajelmgbaaGreatDoor.Bk
open Go Vm Go.RowKit Num Mem Utf Lib Lab Vint Bits
variable {ω ω' : Tg} {w w' w0 : World} {T : Nat → Bool} {t u g gm : Nat}
theorem cM_at {a:Addr} {b:Option Nat} (h:w.cell? a=some (.map b)) {K:Option Nat→Prop} (hK:K b):G.cM a w K:=⟨b,h,hK⟩
theorem bytes_take (s:ByteArray) (n:Nat):Utf.bytes (s.extract 0 n)=(Utf.bytes s).take n:=by
 unfold Utf.bytes
 rw [Lib.extract_data]
 simp
theorem prefix_ok {l:List UInt8} {K:Bool→World→Prop} (hK:K (decide (l.take 8=magicB)) w):C.strings_HasPrefix (Utf.str l) (⟨#[84,79,67,66,76,75,48,49]⟩:ByteArray) w K:=by
 have hz:(Utf.str l).size=l.length:=str_size l
 unfold C.strings_HasPrefix C.stringslite_HasPrefix
 have h8:(⟨#[84,79,67,66,76,75,48,49]⟩:ByteArray).size=8:=rfl
 rw [h8]
 have hm:magicB.length=8:=rfl
 refine cond_d (fun h=>?_) (fun h=>?_)
 ·refine ⟨⟨by omega,by omega,by omega⟩,?_⟩
  have e:(((Utf.str l).extract (0:Int).toNat ((8:Nat):Int).toNat).toList==(⟨#[84,79,67,66,76,75,48,49]⟩:ByteArray).toList)=decide (l.take 8=magicB):=by
   have e1:((Utf.str l).extract (0:Int).toNat ((8:Nat):Int).toNat).toList=l.take 8:=by
    rw [ByteArray.toList_eq]
    have:=bytes_take (Utf.str l) 8
    rw [bytes_str] at this
    exact this
   have e2:(⟨#[84,79,67,66,76,75,48,49]⟩:ByteArray).toList=magicB:=by rw [ByteArray.toList_eq];rfl
   rw [e1,e2]
   by_cases h:l.take 8=magicB
   ·rw [decide_eq_true h,h];simp
   ·rw [decide_eq_false h];simp [h]
  show K (((Utf.str l).extract (0:Int).toNat ((8:Nat):Int).toNat).toList==(⟨#[84,79,67,66,76,75,48,49]⟩:ByteArray).toList) w
  rw [e];exact hK
 ·have e:l.take 8≠magicB:=fun e=>by
   have:=congrArg List.length e
   rw [List.length_take] at this
   omega
  rwa [decide_eq_false e] at hK
theorem cloneB_ok {s:Sl} {l:List UInt8} (h:RdB w s l) (hm:l.length≤100000000) {K:Sl→World→Prop} (hK:∀ r w',Keep w w'→OwnB w' w.heap.size r l→K r w'):C.slices_Clone_byte_byte s w K:=by
 have hn:=h.len
 unfold C.slices_Clone_byte_byte
 exact Sm.clone_ok (P:=Tryz.prog) tiB h vBs_one (by simp only [maxLen];omega) (by omega) fun r w' k o _=>hK r w' k o
theorem Top.of (k:Keep w0 w) (top:Top w ω w'):Top w0 ω w':=⟨Keep.trans k top.k,fun i hi=>top.z i (Nat.lt_of_lt_of_le hi k.size)⟩
def partF (l:List Ser) (ms:List Lb):Lb→List Nat:=fun x=>post l x++(if hasL ms x=true then [l.length] else [])
theorem partF_nil (l:List Ser):partF l []=post l:=by funext x;unfold partF;simp [hasL]
theorem partF_all (l:List Ser) (s:Ser):partF l s.1=post (l++[s]):=by funext x;rw [post_snoc];rfl
theorem rt_names {l:List Lb} (h:(rt l).1=0):(l.map (·.1)).Nodup:=by
 have key:∀ (r:List Lb) (p:Option ByteArray) (i:Nat),(rtGo p r i).1=0→(∀ x∈r,∀ q,p=some q→cB q x.1<0)∧(r.map (·.1)).Nodup:=by
  intro r
  induction r with
  | nil=>intro p i _;exact ⟨(fun x hx=>by cases hx),List.nodup_nil⟩
  | cons y r ih =>
   intro p i h
   rw [rtGo] at h
   split at h
   ·exact absurd (show (40:Int)=0 from h) (by decide)
   ·split at h
    ·rename_i h2;exact absurd h h2
    ·split at h
     ·exact absurd (show (3:Int)=0 from h) (by decide)
     ·rename_i h3
      obtain ⟨i1,i2⟩:=ih _ _ h
      have hy:∀ x∈r,cB y.1 x.1<0:=fun x hx=>i1 x hx y.1 rfl
      have hp:∀ q,p=some q→cB q y.1<0:=fun q hq=>by
       subst hq
       have:backB (some q) y.1=false:=by simpa using h3
       rw [← back_cb] at this
       rw [lessB] at this
       have:cB q y.1 = -1:=by simpa using this
       omega
      refine ⟨fun x hx q hq=>?_,?_⟩
      ·rcases List.mem_cons.1 hx with rfl | hx
       ·exact hp q hq
       ·exact cB_cmp.trans _ _ _ (hp q hq) (hy x hx)
      ·rw [List.map_cons,List.nodup_cons]
       refine ⟨fun hm=>?_,i2⟩
       obtain ⟨x,hx,e⟩:=List.mem_map.1 hm
       have:=hy x hx
       rw [e,cB_cmp.self] at this
       exact absurd this (by decide)
 unfold rt at h
 split at h
 ·exact absurd (show (8:Int)=0 from h) (by decide)
 ·exact (key l none 0 h).2
theorem rt_nodup {l:List Lb} (h:(rt l).1=0):l.Nodup:=by
 have:=rt_names h
 rw [List.Nodup,List.pairwise_map] at this
 exact this.imp fun h e=>h (by rw [e])
theorem sml_of {l:List Lb} (h:(rt l).1=0) {x:Lb} (hx:x∈l):sml x:=by
 have:=(rt_short h).2 x hx
 exact ⟨by simp only [maxLen];omega,by simp only [maxLen];omega⟩
theorem post_len (l:List Ser) (x:Lb):(post l x).length≤l.length:=postGo_len x l 0
theorem open_ok (hT:DTab w0) (ht:UTab w0) (hv:Vint.Tab w0) {s:Sl} {b:List UInt8} (hb:RdB w0 s b) (hl:b.length≤100000000) (t:Nat) (h1000:1000≤t) {K:Option Addr→Int→World→Prop}
  (hE:openM b=none→∀ w',Keep w0 w'→K none 3 w')
  (hK:∀ l,openM b=some l→∀ g gm bs rs q es ω' w',Top w0 ω' w'→q.map (·.1)=l→BK ω' w' t g gm bs rs b q (post l) es 0→K (some ⟨g,0,none⟩) 0 w'):C.block_Open s w0 K:=by
 have hsn:=hb.len
 unfold C.block_Open
 unfold openM at hE hK
 refine cond_d (fun h1=>?_) (fun h1=>?_)
 ·rw [if_pos (.inl (by omega))] at hE;exact hE rfl w0 (Keep.refl _)
 refine Utf.convBS hb<|prefix_ok ?_
 refine cond_not (fun h2=>?_) (fun h2=>?_)
 ·rw [if_pos (.inr (of_decide_eq_false h2))] at hE;exact hE rfl w0 (Keep.refl _)
 have h2:=of_decide_eq_true h2
 rw [if_neg (by rintro (h | h);omega;exact h h2)] at hE hK
 have h8:8≤b.length:=by
  have:=congrArg List.length h2
  rw [List.length_take] at this
  have:magicB.length=8:=rfl
  omega
 refine RdB.slc hb (lo:=8) (hi:=b.length) (by omega) (by omega) rfl (by omega) fun s8 hs8=>?_
 rw [List.take_of_length_le (by rw [List.length_drop];omega)] at hs8
 refine frames_ok hv hs8 (by rw [List.length_drop];omega) fun fr rs w1 k1 o1=>?_
 have hfrs:frs (b.drop 8) (b.drop 8).length 0=frsOf b:=rfl
 rw [hfrs] at o1 ⊢
 have hflen:(frsOf b).1.length≤b.length:=by have:=frs_len (b.drop 8) (b.drop 8).length 0;rw [hfrs,List.length_drop] at this;omega
 have hfe:∀ m∈(frsOf b).1,m.length≤65536:=frs_each (b.drop 8) (b.drop 8).length 0
 have hrd:=o1.rd
 have hfn:=hrd.n
 refine cond_ne (fun he=>?_) (fun he=>?_)
 ·rw [if_pos (.inl (fun e=>he (by rw [e];rfl)))] at hE;exact hE rfl w1 k1
 have he:(frsOf b).2.2=0:=by exact_mod_cast he
 refine cond_eq (fun h0=>?_) (fun h0=>?_)
 ·rw [if_pos (.inr (List.eq_nil_of_length_eq_zero (by omega)))] at hE;exact hE rfl w1 k1
 rw [if_neg (by rintro (h | h);exact h he;exact h0 (by rw [hfn,h];rfl))] at hE hK
 generalize (frsOf b).1=fs at *
 cases fs with
 | nil=>exact absurd (by rw [hfn];rfl) h0
 | cons f0 fs =>
 rw [List.tail_cons] at hE hK
 -- the rows behind the head
 cases rs with
 | nil=>have:=hrd.len;simp at this
 | cons r0 rs =>
 have hrl:rs.length=fs.length:=by have:=hrd.len;simpa using this
 rw [List.length_cons] at hfn hflen
 refine cloneB_ok (hb.keep k1) (by omega) fun bs w2 k2 o2=>?_
 have t2:=Own.tag o2 (Nat.le_refl _) (fun _=>0) (t+1)
 have top2:=(Top.init w1).stp (k2.stp (fun _=>0) (t+1))
 generalize ext (fun _=>0) w1.heap.size (t+1)=ω2 at *
 refine mkL (ω:=ω2) (t+4) fun gm ω3 w3 k3 m3=>?_
 refine new_T (ω:=ω3) t fun g ω4 w4 k4 b4=>?_
 have top4:=(top2.stp k3).stp k4
 have bk4:BK ω4 w4 t g gm bs nilS b [] (post []) [] 0:=⟨b4,(t2.stp k3).stp k4,OT.nil _ _ _ _ _,⟨m3.stp k4 rfl,fun j e h=>by simp at h,fun e h=>by simp at h,fun x h=>absurd rfl h,fun e h=>by simp at h⟩,(fun p hp=>by cases hp),by simp⟩
 unfold C.block_Open.S20
 have hhdr:Rd w1 fr 1 (hdrs (r0::rs)):=hrd.hdr
 refine Rd.slc hhdr (lo:=1) (hi:=fr.n) (by omega) (Nat.le_refl _) rfl rfl fun l1 hl1 hln _=>?_
 have hl1':Rd w1 l1 1 (hdrs rs):=by
  have e:((hdrs (r0::rs)).drop (1*1)).take ((fr.n-1)*1)=hdrs rs:=by
   unfold hdrs
   rw [List.map_cons,Nat.one_mul,List.drop_succ_cons,List.drop_zero,List.take_of_length_le (by rw [List.length_map];omega)]
  rwa [e] at hl1
 clear hl1
 have hel:∀ (i:Nat) (r:Sl) (p:List UInt8),rs[i]?=some r→fs[i]?=some p→RdB w1 r p:=fun i r p h1 h2=>hrd.el (i+1) r p (by simpa using h1) (by simpa using h2)
 have hl1n:l1.n=fs.length:=by omega
 refine C.block_Open.L5_ind fun X hX=>?_
 have key:∀ (d i:Nat) (ω:Tg) (w:World) (q:QS) (es:List IE) (rw':Sl),i+d=fs.length→Top w1 ω w→BK ω w t g gm bs rw' b q (post (q.map (·.1))) es 0→q.length=i→es.length≤16*i →
   (match rdAll (fs.drop i) with | none=>none | some l=>some (q.map (·.1)++l))=rdAll fs→X s (some ⟨g,0,none⟩) l1 ((l1.n:Nat):Int) (i:Int) w:=by
  intro d
  induction d with
  | zero =>
   intro i ω w q es rw' hi top bk hq hes e
   refine hX _ _ _ _ _ _ ?_
   unfold C.block_Open.S18 C.block_Open.S2
   rw [List.drop_of_length_le (by omega)] at e
   rw [rdAll] at e
   simp only [List.append_nil] at e
   rw [← e] at hE hK
   simp only at hE hK
   have k0:=Keep.trans k1 top.k
   refine cond_d (fun h=>by omega) (fun _=>ptr_at<|cSl_at (s:=rw') (by rw [addr_add,bk.hd.cell];rfl) ?_)
   refine build_ok (hT.keep k0) (ht.keep k0) (hv.keep k0) bk.rd (by omega) fun r w6 k6 o6=>?_
   have k06:=Keep.trans k0 k6
   refine cond_ne (fun hbad=>?_) (fun hok=>?_)
   ·rw [if_pos (.inl hbad)] at hE;exact hE rfl w6 k06
   refine Utf.convBS (OwnB.rd o6)<|Utf.convBS (hb.keep k06) ?_
   have eb:((Utf.str (buildR (q.map (·.1))).1).toList==(Utf.str b).toList)=decide ((buildR (q.map (·.1))).1=b):=by
    rw [ByteArray.toList_eq,ByteArray.toList_eq]
    change (Utf.bytes (Utf.str _)==Utf.bytes (Utf.str _))=_
    rw [bytes_str,bytes_str]
    by_cases h:(buildR (q.map (·.1))).1=b
    ·rw [decide_eq_true h,h];simp
    ·rw [decide_eq_false h];simp [h]
   rw [eb]
   refine cond_not (fun h6=>?_) (fun h6=>?_)
   ·rw [if_pos (.inr (of_decide_eq_false h6))] at hE;exact hE rfl w6 k06
   ·have h6:=of_decide_eq_true h6
    rw [if_neg (by rintro (h | h);exact h hok;exact h h6)] at hK
    have s6:=k6.stp0 ω
    exact hK _ rfl g gm bs rw' q es ω w6 (Top.of k1 (top.stp s6)) rfl (bk.stp s6 (off_non t))
  | succ d ih =>
   intro i ω w q es rw' hi top bk hq hes e
   refine hX _ _ _ _ _ _ ?_
   unfold C.block_Open.S18 C.block_Open.S15
   have hif:i<fs.length:=by omega
   have hir:i<rs.length:=by omega
   have hri:rs[i]?=some rs[i]:=List.getElem?_eq_getElem hir
   have hfi:fs[i]?=some fs[i]:=List.getElem?_eq_getElem hif
   rw [List.drop_eq_getElem_cons hif,rdAll] at e
   refine cond_d (fun _=>?_) (fun h=>by omega)
   refine Mem.Rd.hdr (hl1'.keep top.k) hri ?_
   have hp:=(hel i _ _ hri hfi).keep top.k
   have hpl:=hfe fs[i] (List.mem_cons_of_mem _ (List.getElem_mem hif))
   have k0:=Keep.trans k1 top.k
   refine series_ok (hT.keep k0) (ht.keep k0) hp hpl (fun hn a c w5 k5=>?_) (fun x ex hs a c w5 k5 sk ol os=>?_)
   ·rw [hn] at e
    simp only at e
    rw [← e] at hE
    refine locS fun g6 w6 k6 hg6 b6=>cond_t rfl ?_
    exact hE rfl w6 (Keep.trans k0 (Keep.trans k5 k6.1))
   rw [hs] at e
   simp only at e
   have s5:=k5.stp ω (t+3)
   have tl:=Own.tag ol (Nat.le_refl _) ω (t+3)
   have ts:=Own.tag os (Nat.le_refl _) ω (t+3)
   have bk5:=bk.stp s5 (off_non t)
   have top5:=top.stp s5
   generalize ext ω w.heap.size (t+3)=ω5 at *
   have hxrt:(rt x.1).1=0:=by
    unfold rdSer at hs
    split at hs
    ·cases hs
    ·rename_i l a' hr
     split at hs
     ·cases hs
     ·split at hs
      ·cases hs
      ·split at hs
       ·cases hs
       ·split at hs
        ·cases hs
        ·injection hs with hs
         injection hs with hs _
         rw [← hs];exact rl_rt hr
   have set5:SeT ω5 w5 (t+3) (x,a,c):=⟨tl.rt,ts.rt,sk.fl,sk.sl,hxrt⟩
   refine locS fun g6 w6 k6 hg6 b6=>?_
   have s6:=k6.1.stp ω5 7
   have b6:BT (ext ω5 w5.heap.size 7) w6 7 g6 _ _:=⟨b6,ext_new hg6⟩
   have bk6:=bk5.stp s6 (off_non t)
   have set6:=set5.stp s6 rfl
   have top6:=top5.stp s6
   generalize ext ω5 w5.heap.size 7=ω6 at *
   refine cond_f rfl<|ptr_at ?_
   have sd:=drew_stp ω6 w6
   have bkd:=bk6.stp sd (off_non t)
   have bd:=b6.stp sd
   have topd:=top6.stp sd
   refine cSl_at (s:=rw') (by rw [addr_add,bkd.hd.cell];rfl)<|cSl_at (s:=a) (by rw [bd.cell];rfl)<|cSl_at (s:=c) (by rw [addr_add,bd.cell];rfl) ?_
   have hrn:=rdQ_n bkd.row.rd
   -- append of the series
   refine new_T (ω:=ω6) 8 fun g7 ω7 w7 k7 b7=>⟨?_,?_⟩
   ·exact bkd.hd.sameA k7
   have bk7:=bkd.stp k7 (off_non t)
   have set7:=(set6.stp sd rfl).stp k7 rfl
   have bd7:=bd.stp k7
   have top7:=topd.stp k7
   refine app_T tiQ bk7.row (x:=⟨some ⟨g7,0,none⟩,1,1⟩) (ys:=sers [(x,a,c)]) (by have:=Rd.blk (o:=0) (n:=1) (c:=1) (sz:=2) b7.blk (Nat.le_refl _) (by simp);simpa [sers,serC] using this) sers_one (by simp only [maxLen];omega) (by simp only;omega) fun r8 ω8 w8 k8 o8 _=>?_
   have e8:sers q++sers [(x,a,c)]=sers (q++[(x,a,c)]):=by rw [sers_app]
   rw [e8] at o8
   have hT8:∀ u,t+2≠u→Mem.One (t+2) u=false:=fun u h=>beq_no (fun e=>h e.symm)
   have hd8:=bk7.hd.stp k8 (hT8 _ (by omega))
   refine ptr_at<|st_TA hd8 (by simp) fun ω9 w9 k9 hd9=>?_
   have hT9:∀ u,t≠u→Mem.One t u=false:=fun u h=>beq_no (fun e=>h e.symm)
   have top9:=(top7.stp k8 (hT8 _ (by omega))).stp k9 (hT9 _ (by omega))
   have bk9:BK ω9 w9 t g gm bs r8 b (q++[(x,a,c)]) (post (q.map (·.1))) es 0 :=
    ⟨hd9,(bk7.by_.stp k8 (hT8 _ (by omega))).stp k9 (hT9 _ (by omega)),o8.stp k9 (hT9 _ (by omega)),(bk7.ix.stp k8 (hT8 _ (by omega)) fun j _=>hT8 _ (by omega)).stp k9 (hT9 _ (by omega)) (fun j _=>hT9 _ (by omega)),
     fun p hp=>by
      rcases List.mem_append.1 hp with hp | hp
      ·exact ((bk7.el p hp).stp k8 (hT8 _ (by omega))).stp k9 (hT9 _ (by omega))
      ·rw [List.mem_singleton] at hp;subst hp;exact (set7.stp k8 (hT8 _ (by omega))).stp k9 (hT9 _ (by omega)),bk7.n⟩
   have bd9:=(bd7.stp k8 (hT8 _ (by omega))).stp k9 (hT9 _ (by omega))
   refine cSl_at (s:=a) (by rw [bd9.cell];rfl) ?_
   have h16:=(rt_short hxrt).1
   -- the index
   have hqi:(q.map (·.1)).length=i:=by rw [List.length_map];exact hq
   refine C.block_Open.L11_ind fun Y hY=>?_
   have inner:∀ (d' j:Nat) (ω:Tg) (w:World) (es':List IE),j+d'=x.1.length→Top w1 ω w→BK ω w t g gm bs r8 b (q++[(x,a,c)]) (partF (q.map (·.1)) (x.1.take j)) es' 0→es'.length≤es.length+j →
     Y s (some ⟨g,0,none⟩) (i:Int) l1 ((l1.n:Nat):Int) (i:Int) a ((a.n:Nat):Int) (j:Int) w:=by
    intro d'
    induction d' with
    | zero =>
     intro j ω w es' hj top bk hle
     refine hY _ _ _ _ _ _ _ _ _ _ ?_
     unfold C.block_Open.S13 C.block_Open.S7
     have han:=rdL_n (bk.el _ (List.mem_append_right _ (List.mem_singleton.2 rfl))).lb.rd
     dsimp only at han
     refine cond_d (fun h=>by omega) (fun _=>?_)
     rw [wI64 (by omega) (by omega),show (i:Int)+1=((i+1:Nat):Int) by omega]
     rw [List.take_of_length_le (by omega),partF_all] at bk
     have em:(q++[(x,a,c)]).map (·.1)=q.map (·.1)++[x]:=by rw [List.map_append];rfl
     refine ih (i+1) ω w (q++[(x,a,c)]) es' r8 (by omega) top (by rw [em];exact bk) (by rw [List.length_append,hq];rfl) (by omega) ?_
     rw [← e,em]
     cases rdAll (fs.drop (i+1)) with
     | none=>rfl
     | some l=>simp
    | succ d' ihd =>
     intro j ω w es' hj top bk hle
     refine hY _ _ _ _ _ _ _ _ _ _ ?_
     unfold C.block_Open.S13
     have hjx:j<x.1.length:=by omega
     have hsx:=bk.el _ (List.mem_append_right q (List.mem_singleton.2 (rfl:(x,a,c)=(x,a,c))))
     have han:=rdL_n hsx.lb.rd
     dsimp only at han
     have hxj:x.1[j]?=some x.1[j]:=List.getElem?_eq_getElem hjx
     refine cond_d (fun _=>?_) (fun h=>by omega)
     refine rdL_at hsx.lb.rd (k:=j) rfl hxj fun p e0 e1=>cS_at e0<|cS_at e1 ?_
     refine new_T (ω:=ω) 7 fun g1 ω1 w1' k1' b1=>st_T b1 (by simp) fun ω2 w2 k2 b2=>st_TA b2 (by simp) fun ω3 w3 k3 b3=>ptr_at ?_
     have k13:=((k1'.non (Mem.One 7)).trans k2).trans k3
     have off7:Off t (Mem.One 7):=off_one (by omega)
     have bk3:=bk.stp k13 off7
     have top3:=top.stp k13
     have sd:=drew_stp ω3 w3
     have bkd:=bk3.stp sd (off_non t)
     have bd:=b3.stp sd
     have topd:=top3.stp sd
     refine cM_at (b:=some gm) (by rw [addr_add,bkd.hd.cell];rfl)<|cS_at (b:=x.1[j].1) (by rw [bd.cell];rfl)<|cS_at (b:=x.1[j].2) (by rw [addr_add,bd.cell];rfl) ?_
     refine new_T (ω:=ω3) 8 fun g4 ω4 w4' k4' b4=>⟨bkd.hd.sameA k4',bd.same k4' rfl 0 2,?_⟩
     have bk4:=bkd.stp k4' (off_non t)
     have top4:=topd.stp k4'
     have hq':=bk4.rd.n
     refine idx_step (t:=t+4) (n:=t+BIG) (x:=x.1[j]) (i:=i) bk4.ix (by unfold BIG;omega) (sml_of hxrt (List.getElem_mem hjx)) ?_ (v:=8) (by omega) b4 rfl fun es2 ω5 w5 k5 ix5 hle5=>?_
     ·unfold partF
      have:=post_len (q.map (·.1)) x.1[j]
      rw [List.length_append]
      split<;>simp<;>omega
     rw [wI64 (by omega) (by omega),show (j:Int)+1=((j+1:Nat):Int) by omega]
     have hR:∀ u,u<t+4→Rg (t+4) (t+BIG) u=false:=fun u h=>rg_no (.inl h)
     have eF:(fun y=>if y=x.1[j] then partF (q.map (·.1)) (x.1.take j) y++[i] else partF (q.map (·.1)) (x.1.take j) y)=partF (q.map (·.1)) (x.1.take (j+1)):=by
      have hnd:=rt_nodup hxrt
      have hnot:hasL (x.1.take j) x.1[j]=false:=by
       cases hh:hasL (x.1.take j) x.1[j] with
       | false=>rfl
       | true =>
        obtain ⟨j',hj',ej⟩:=List.mem_iff_getElem.1 (hasL_iff.1 hh)
        rw [List.length_take] at hj'
        rw [List.getElem_take] at ej
        exact absurd ej (List.pairwise_iff_getElem.1 hnd j' j (by omega) hjx (by omega))
      funext y
      unfold partF
      have et:x.1.take (j+1)=x.1.take j++[x.1[j]]:=List.take_succ_eq_append_getElem hjx
      by_cases hy:y=x.1[j]
      ·subst hy
       rw [if_pos rfl,hnot,et]
       have:hasL (x.1.take j++[x.1[j]]) x.1[j]=true:=hasL_iff.2 (List.mem_append_right _ (List.mem_singleton.2 rfl))
       rw [this,if_pos rfl,hqi];simp
      ·rw [if_neg hy,et]
       have:hasL (x.1.take j++[x.1[j]]) y=hasL (x.1.take j) y:=by
        unfold hasL
        rw [List.any_append]
        have hyn:¬ x.1[j]=y:=fun e=>hy e.symm
        rw [List.any_cons,List.any_nil,decide_eq_false hyn]
        simp
       rw [this]
     rw [eF] at ix5
     refine ihd (j+1) ω5 w5 es2 (by omega) (top4.stp k5 (hR 0 (by omega))) ⟨bk4.hd.stp k5 (hR _ (by omega)),bk4.by_.stp k5 (hR _ (by omega)),bk4.row.stp k5 (hR _ (by omega)),ix5,fun p hp=>(bk4.el p hp).stp k5 (hR _ (by omega)),by have:=bk4.n;omega⟩ (by omega)
   refine inner x.1.length 0 ω9 w9 es (by omega) top9 (by rw [List.take_zero,partF_nil];exact bk9) (by omega)
 exact key fs.length 0 ω4 w4 [] [] nilS (by omega) top4 bk4 rfl (by simp) (by rw [List.drop_zero];cases rdAll fs<;>rfl)
end Go.Proofs.YtmfgmcajelmgbaaGreatDoor.Bk

namespace Go.Proofs.YtmfgmcajelmgbaaGreatDoor.Mem
open Go Vm Go.RowKit Num
variable {T : Nat → Bool} {ω ω' : Tg} {w w' w0 : World} {t : Nat} {ι : Type}
def TellsG (P:Program) (Fc:Clee) (v:Value) (s0:ι) (Q0:ι→ι→List Value→Tg→World→Prop) (dn:ι→Prop) (C:Tg→World→Prop) (Pt Ct:Nat→Bool):Prop :=
 match v with
 | .func (.func n) first cap=>∀ (L:Nat) (I:ι→Tg→World→Prop) (Kk:Tg→World→Prop) (Q:World→Prop) (ω:Tg) (w:World),
   (∀ i ω w,I i ω w→C ω w)→(∀ i ω ω' w w',I i ω w→Stp Pt ω ω' w w'→I i ω' w')→(∀ ω ω' w w',Kk ω w→Stp Pt ω ω' w w'→Kk ω' w') →
   (∀ i j a ω w R,Q0 i j a ω w→I i ω w→(∀ ω' w',Stp Ct ω ω' w w'→I j ω' w'→R (.bool true) w')→(∀ ω' w',Stp Ct ω ω' w w'→Kk ω' w'→R (.bool false) w')→G.yieldAt P L a w R) →
   (∀ i ω w,dn i→I i ω w→Kk ω w)→(∀ ω w,Kk ω w→Q w)→I s0 ω w→Fc n (first.toList++[.func (.yield L) #[] #[]]++cap.toList) (fun _ w'=>Q w') w
 | _=>False
theorem rangeG_ok {P:Program} {Fc:Clee} {v:Value} {s0:ι} {Q0:ι→ι→List Value→Tg→World→Prop} {dn:ι→Prop} {C:Tg→World→Prop} {B:List Value→World→(Exit→World→Prop)→Prop} {K:Exit→Nat→World→Prop} {u:Nat} {Pt:Nat→Bool}
  {J:ι→Tg→World→Prop} {E:Exit→Tg→World→Prop} (hv:TellsG P Fc v s0 Q0 dn C Pt (fun x=>T x || Nat.beq x u)) (hT:T u=false) (hP:Pt u=false) (hQ:∀ i j a ω ω' w w',Q0 i j a ω w→Stp (One u) ω ω' w w'→Q0 i j a ω' w') (hC:∀ i ω w,J i ω w→C ω w)
  (hJ:∀ S,S=One u∨S=Pt→∀ i ω ω' w w',J i ω w→Stp S ω ω' w w'→J i ω' w') (hE:∀ S,S=One u∨S=Pt→∀ e ω ω' w w',E e ω w→Stp S ω ω' w w'→E e ω' w')
  (hB:∀ i k a ω w Rr,Q0 i k a ω w→J i ω w→(∀ ω' w',Stp T ω ω' w w'→J k ω' w'→Rr .normal w')→(∀ e j ω' w',jump e=some (some j)→Stp T ω ω' w w'→E e ω' w'→Rr e w')→B a w Rr)
  (h0:J s0 ω w)
  (hK:∀ ω' w' D,w'.heap[D]?=some (.deferred (some []))→ω' D=u→(∃ i,dn i∧J i ω' w')→K .normal D w')
  (hX:∀ e ω' w' D,w'.heap[D]?=some (.deferred (some []))→ω' D=u→E e ω' w'→K e D w'):G.rangeF Fc v P B w K:=by
 have oJ:=hJ _ (.inl rfl)
 have oE:=hE _ (.inl rfl)
 have pJ:=hJ _ (.inr rfl)
 have pE:=hE _ (.inr rfl)
 unfold TellsG at hv
 split at hv
 case h_2=>exact hv.elim
 rename_i n first cap
 intro rec hcells hY
 obtain ⟨w1,ew1⟩:∃ w1,w1=(w.alloc (.deferred (some []))).alloc (rec .ready none):=⟨_,rfl⟩
 have s1:Stp (One u) ω (ext (ext ω w.heap.size u) (w.alloc (.deferred (some []))).heap.size u) w w1:=by
  rw [ew1]
  exact (((Keep.alloc w _).stp ω u).trans ((Keep.alloc _ _).stp _ u)).non _
 have hLn:(w.alloc (.deferred (some []))).heap.size=w.heap.size+1:=World.size_alloc ..
 have hL:w1.heap[w.heap.size+1]?=some (rec .ready none):=by
  have:=World.alloc_heap_new (w.alloc (.deferred (some []))) (rec .ready none)
  rw [hLn] at this;rw [ew1];exact this
 have hD:w1.heap[w.heap.size]?=some (.deferred (some [])):=by
  have h1:=World.alloc_heap_new w (.deferred (some []))
  rw [ew1]
  exact (Keep.alloc _ _).heap h1
 show Fc n (first.toList++[.func (.yield (w.heap.size+1)) #[] #[]]++cap.toList) _ ((w.alloc (.deferred (some []))).alloc (rec .ready none))
 rw [← ew1]
 have hu:ext (ext ω w.heap.size u) (w.alloc (.deferred (some []))).heap.size u (w.heap.size+1)=u:=ext_new (by omega)
 have hud:ext (ext ω w.heap.size u) (w.alloc (.deferred (some []))).heap.size u w.heap.size=u:=by rw [ext_old (by omega),ext_new (Nat.le_refl _)]
 generalize ext (ext ω w.heap.size u) (w.alloc (.deferred (some []))).heap.size u=ω1 at s1 hu hud
 have j1:=oJ _ _ _ _ _ h0 s1
 have hne:w.heap.size≠w.heap.size+1:=by omega
 clear ew1 s1 hLn h0
 generalize w.heap.size+1=L at *
 generalize w.heap.size=D at *
 refine hv L (fun i ω w=>J i ω w∧w.heap[L]?=some (rec .ready none)∧ω L=u∧w.heap[D]?=some (.deferred (some []))∧ω D=u)
  (fun ω w=>w.heap[D]?=some (.deferred (some []))∧ω D=u∧ω L=u∧∃ st e j,jump e=some j∧st≠LoopState.busy∧w.heap[L]?=some (rec st j)∧((e=.normal∧∃ i,dn i∧J i ω w)∨E e ω w)) _ ω1 w1 ?_ ?_ ?_ ?_ ?_ ?_ ⟨j1,hL,hu,hD,hud⟩
 ·rintro i ω w ⟨h,_⟩;exact hC i ω w h
 ·rintro i ω ω' w w' ⟨h,hl,hlu,hd,hdu⟩ s
  exact ⟨pJ _ _ _ _ _ h s,(s.obj hl hlu hP).1,(s.obj hl hlu hP).2,(s.obj hd hdu hP).1,(s.obj hd hdu hP).2⟩
 ·rintro ω ω' w w' ⟨hd,hdu,hlu,st,e,j,hj,hst,hl,hh⟩ s
  exact ⟨(s.obj hd hdu hP).1,(s.obj hd hdu hP).2,(s.obj hl hlu hP).2,st,e,j,hj,hst,(s.obj hl hlu hP).1,hh.imp (fun ⟨h1,i,h2,h3⟩=>⟨h1,i,h2,pJ _ _ _ _ _ h3 s⟩) (fun h=>pE _ _ _ _ _ h s)⟩
 ·rintro i k a ω w R ha ⟨h,hl,hlu,hd,hdu⟩ hR hRx
  refine hY a w R hl ?_
  have sp:=put_stp (w:=w) (o:=rec .busy none) hlu
  have up:∀ {ω ω':Tg} {w w':World},Stp (One u) ω ω' w w'→Stp (fun x=>T x || Nat.beq x u) ω ω' w w':=fun s=>s.mono fun x hx=>by
   simp only [Bool.or_eq_false_iff] at hx;exact hx.2
  have upT:∀ {ω ω':Tg} {w w':World},Stp T ω ω' w w'→Stp (fun x=>T x || Nat.beq x u) ω ω' w w':=fun s=>s.mono fun x hx=>by
   simp only [Bool.or_eq_false_iff] at hx;exact hx.1
  refine hB i k a ω _ _ (hQ _ _ _ _ _ _ _ ha sp) (oJ _ _ _ _ _ h sp) (fun ω' w' s j'=>?_) (fun e j ω' w' hj s j'=>?_)
  ·have hb:=World.putObj_heap_same (o:=rec .busy none) (heap_lt hl)
   obtain ⟨hb',hu'⟩:=s.obj hb hlu hT
   have hd0:(w.putObj L (rec .busy none)).heap[D]?=some (.deferred (some [])):=by rw [World.putObj_heap_other hne];exact hd
   obtain ⟨hd',hdu'⟩:=s.obj hd0 hdu hT
   have sp2:=put_stp (w:=w') (o:=rec .ready none) hu'
   refine ⟨hb',none,rfl,hR ω' _ ((up sp).trans ((upT s).trans (up sp2))) ⟨oJ _ _ _ _ _ j' sp2,World.putObj_heap_same (heap_lt hb'),hu',?_,hdu'⟩⟩
   show (w'.putObj L (rec .ready none)).heap[D]?=_
   rw [World.putObj_heap_other hne];exact hd'
  ·have hb:=World.putObj_heap_same (o:=rec .busy none) (heap_lt hl)
   obtain ⟨hb',hu'⟩:=s.obj hb hlu hT
   have hd0:(w.putObj L (rec .busy none)).heap[D]?=some (.deferred (some [])):=by rw [World.putObj_heap_other hne];exact hd
   obtain ⟨hd',hdu'⟩:=s.obj hd0 hdu hT
   have sp2:=put_stp (w:=w') (o:=rec .done (some j)) hu'
   refine ⟨hb',some j,hj,hRx ω' _ ((up sp).trans ((upT s).trans (up sp2))) ⟨?_,hdu',hu',.done,e,some j,hj,(by intro h;cases h),World.putObj_heap_same (heap_lt hb'),.inr (oE _ _ _ _ _ j' sp2)⟩⟩
   show (w'.putObj L (rec .done (some j))).heap[D]?=_
   rw [World.putObj_heap_other hne];exact hd'
 ·rintro i ω w hdn ⟨h,hl,hlu,hd,hdu⟩
  exact ⟨hd,hdu,hlu,.ready,.normal,none,rfl,(by intro h;cases h),hl,.inl ⟨rfl,i,hdn,h⟩⟩
 ·rintro ω w ⟨hd,hdu,hlu,st,e,j,hj,hst,hl,hh⟩
  have sp:=put_stp (w:=w) (o:=rec .exhausted j) hlu
  have hd':(w.putObj L (rec .exhausted j)).heap[D]?=some (.deferred (some [])):=by rw [World.putObj_heap_other hne];exact hd
  refine ⟨st,e,j,hj,hst,hl,?_⟩
  rcases hh with ⟨rfl,h⟩ | h
  ·obtain ⟨i,h2,h3⟩:=h
   exact hK ω _ D hd' hdu ⟨i,h2,oJ _ _ _ _ _ h3 sp⟩
  ·exact hX e ω _ D hd' hdu (oE _ _ _ _ _ h sp)
theorem rangeGW_ok {P:Program} {Fc:Clee} {v:Value} {s0:ι} {Q0:ι→ι→List Value→Tg→World→Prop} {dn:ι→Prop} {C:Tg→World→Prop} {B:List Value→World→((World→Prop)→World→Prop)→(Exit→World→Prop)→Prop} {K:Exit→Nat→World→Prop} {u:Nat} {Pt:Nat→Bool}
  {J:ι→Tg→World→Prop} {E:Exit→Tg→World→Prop} (hv:TellsG P Fc v s0 Q0 dn C Pt (fun x=>T x || Nat.beq x u)) (hT:T u=false) (hP:Pt u=false) (hQ:∀ i j a ω ω' w w',Q0 i j a ω w→Stp (One u) ω ω' w w'→Q0 i j a ω' w') (hC:∀ i ω w,J i ω w→C ω w)
  (hJ:∀ S,S=One u∨S=Pt→∀ i ω ω' w w',J i ω w→Stp S ω ω' w w'→J i ω' w') (hE:∀ S,S=One u∨S=Pt→∀ e ω ω' w w',E e ω w→Stp S ω ω' w w'→E e ω' w')
  (hB:∀ i k a ω w bz Rr,Q0 i k a ω w→J i ω w→(∀ X ω1 w1,Stp Non ω ω1 w w1→(∀ w2,Stp (One u) ω1 ω1 w1 w2→(∀ ω' w',Stp T ω1 ω' w2 w'→J k ω' w'→Rr .normal w')→(∀ e j ω' w',jump e=some (some j)→Stp T ω1 ω' w2 w'→E e ω' w'→Rr e w')→X w2)→bz X w1)→B a w bz Rr)
  (h0:J s0 ω w)
  (hK:∀ ω' w' D,w'.heap[D]?=some (.deferred (some []))→ω' D=u→(∃ i,dn i∧J i ω' w')→K .normal D w')
  (hX:∀ e ω' w' D,w'.heap[D]?=some (.deferred (some []))→ω' D=u→E e ω' w'→K e D w'):G.rangeW Fc v P B w K:=by
 have oJ:=hJ _ (.inl rfl)
 have oE:=hE _ (.inl rfl)
 have pJ:=hJ _ (.inr rfl)
 have pE:=hE _ (.inr rfl)
 unfold TellsG at hv
 split at hv
 case h_2=>exact hv.elim
 rename_i n first cap
 intro rec hcells hY
 obtain ⟨w1,ew1⟩:∃ w1,w1=(w.alloc (.deferred (some []))).alloc (rec .ready none):=⟨_,rfl⟩
 have s1:Stp (One u) ω (ext (ext ω w.heap.size u) (w.alloc (.deferred (some []))).heap.size u) w w1:=by
  rw [ew1]
  exact (((Keep.alloc w _).stp ω u).trans ((Keep.alloc _ _).stp _ u)).non _
 have hLn:(w.alloc (.deferred (some []))).heap.size=w.heap.size+1:=World.size_alloc ..
 have hL:w1.heap[w.heap.size+1]?=some (rec .ready none):=by
  have:=World.alloc_heap_new (w.alloc (.deferred (some []))) (rec .ready none)
  rw [hLn] at this;rw [ew1];exact this
 have hD:w1.heap[w.heap.size]?=some (.deferred (some [])):=by
  have h1:=World.alloc_heap_new w (.deferred (some []))
  rw [ew1]
  exact (Keep.alloc _ _).heap h1
 show Fc n (first.toList++[.func (.yield (w.heap.size+1)) #[] #[]]++cap.toList) _ ((w.alloc (.deferred (some []))).alloc (rec .ready none))
 rw [← ew1]
 have hu:ext (ext ω w.heap.size u) (w.alloc (.deferred (some []))).heap.size u (w.heap.size+1)=u:=ext_new (by omega)
 have hud:ext (ext ω w.heap.size u) (w.alloc (.deferred (some []))).heap.size u w.heap.size=u:=by rw [ext_old (by omega),ext_new (Nat.le_refl _)]
 generalize ext (ext ω w.heap.size u) (w.alloc (.deferred (some []))).heap.size u=ω1 at s1 hu hud
 have j1:=oJ _ _ _ _ _ h0 s1
 have hne:w.heap.size≠w.heap.size+1:=by omega
 clear ew1 s1 hLn h0
 generalize w.heap.size+1=L at *
 generalize w.heap.size=D at *
 refine hv L (fun i ω w=>J i ω w∧w.heap[L]?=some (rec .ready none)∧ω L=u∧w.heap[D]?=some (.deferred (some []))∧ω D=u)
  (fun ω w=>w.heap[D]?=some (.deferred (some []))∧ω D=u∧ω L=u∧∃ st e j,jump e=some j∧st≠LoopState.busy∧w.heap[L]?=some (rec st j)∧((e=.normal∧∃ i,dn i∧J i ω w)∨E e ω w)) _ ω1 w1 ?_ ?_ ?_ ?_ ?_ ?_ ⟨j1,hL,hu,hD,hud⟩
 ·rintro i ω w ⟨h,_⟩;exact hC i ω w h
 ·rintro i ω ω' w w' ⟨h,hl,hlu,hd,hdu⟩ s
  exact ⟨pJ _ _ _ _ _ h s,(s.obj hl hlu hP).1,(s.obj hl hlu hP).2,(s.obj hd hdu hP).1,(s.obj hd hdu hP).2⟩
 ·rintro ω ω' w w' ⟨hd,hdu,hlu,st,e,j,hj,hst,hl,hh⟩ s
  exact ⟨(s.obj hd hdu hP).1,(s.obj hd hdu hP).2,(s.obj hl hlu hP).2,st,e,j,hj,hst,(s.obj hl hlu hP).1,hh.imp (fun ⟨h1,i,h2,h3⟩=>⟨h1,i,h2,pJ _ _ _ _ _ h3 s⟩) (fun h=>pE _ _ _ _ _ h s)⟩
 ·rintro i k a ω w R ha ⟨h,hl,hlu,hd,hdu⟩ hR hRx
  refine hY a w R hl ?_
  have up:∀ {ω ω':Tg} {w w':World},Stp (One u) ω ω' w w'→Stp (fun x=>T x || Nat.beq x u) ω ω' w w':=fun s=>s.mono fun x hx=>by
   simp only [Bool.or_eq_false_iff] at hx;exact hx.2
  have upT:∀ {ω ω':Tg} {w w':World},Stp T ω ω' w w'→Stp (fun x=>T x || Nat.beq x u) ω ω' w w':=fun s=>s.mono fun x hx=>by
   simp only [Bool.or_eq_false_iff] at hx;exact hx.1
  refine hB i k a ω _ _ _ ha h fun X ω1 w1 s1 hX=>?_
  obtain ⟨hl1,hlu1⟩:=s1.obj hl hlu rfl
  obtain ⟨hd1,hdu1⟩:=s1.obj hd hdu rfl
  have sp:=put_stp (w:=w1) (o:=rec .busy none) hlu1
  have hb:=World.putObj_heap_same (o:=rec .busy none) (heap_lt hl1)
  have hd0:(w1.putObj L (rec .busy none)).heap[D]?=some (.deferred (some [])):=by rw [World.putObj_heap_other hne];exact hd1
  refine ⟨hl1,hX _ sp (fun ω' w' s j'=>?_) (fun e j ω' w' hj s j'=>?_)⟩
  ·obtain ⟨hb',hu'⟩:=s.obj hb hlu1 hT
   obtain ⟨hd',hdu'⟩:=s.obj hd0 hdu1 hT
   have sp2:=put_stp (w:=w') (o:=rec .ready none) hu'
   refine ⟨hb',none,rfl,hR ω' _ ((s1.non _).trans ((up sp).trans ((upT s).trans (up sp2)))) ⟨oJ _ _ _ _ _ j' sp2,World.putObj_heap_same (heap_lt hb'),hu',?_,hdu'⟩⟩
   show (w'.putObj L (rec .ready none)).heap[D]?=_
   rw [World.putObj_heap_other hne];exact hd'
  ·obtain ⟨hb',hu'⟩:=s.obj hb hlu1 hT
   obtain ⟨hd',hdu'⟩:=s.obj hd0 hdu1 hT
   have sp2:=put_stp (w:=w') (o:=rec .done (some j)) hu'
   refine ⟨hb',some j,hj,hRx ω' _ ((s1.non _).trans ((up sp).trans ((upT s).trans (up sp2)))) ⟨?_,hdu',hu',.done,e,some j,hj,(by intro h;cases h),World.putObj_heap_same (heap_lt hb'),.inr (oE _ _ _ _ _ j' sp2)⟩⟩
   show (w'.putObj L (rec .done (some j))).heap[D]?=_
   rw [World.putObj_heap_other hne];exact hd'
 ·rintro i ω w hdn ⟨h,hl,hlu,hd,hdu⟩
  exact ⟨hd,hdu,hlu,.ready,.normal,none,rfl,(by intro h;cases h),hl,.inl ⟨rfl,i,hdn,h⟩⟩
 ·rintro ω w ⟨hd,hdu,hlu,st,e,j,hj,hst,hl,hh⟩
  have sp:=put_stp (w:=w) (o:=rec .exhausted j) hlu
  have hd':(w.putObj L (rec .exhausted j)).heap[D]?=some (.deferred (some [])):=by rw [World.putObj_heap_other hne];exact hd
  refine ⟨st,e,j,hj,hst,hl,?_⟩
  rcases hh with ⟨rfl,h⟩ | h
  ·obtain ⟨i,h2,h3⟩:=h
   exact hK ω _ D hd' hdu ⟨i,h2,oJ _ _ _ _ _ h3 sp⟩
  ·exact hX e ω _ D hd' hdu (oE _ _ _ _ _ h sp)
end Go.Proofs.YtmfgmcajelmgbaaGreatDoor.Mem

namespace Go.Proofs.YtmfgmcajelmgbaaGreatDoor.Bk
open Go Vm Go.RowKit Num Mem Utf Lib Lab Vint Bits
variable {ω ω' : Tg} {w w' w0 : World} {T : Nat → Bool} {t u g gm : Nat}
theorem tiS:TI Tryz.prog 52 96 2 16:=TI.of (z:=.agg #[.int .i64 0,.float .f64 0]) (by kernel_rfl) (by kernel_rfl) rfl (by decide)
theorem cloneL_ok {s:Sl} {m:List Lb} (h:Rd w s 2 (labs m)) (hm:m.length≤100000000) {K:Sl→World→Prop} (hK:∀ r w',Keep w w'→Mem.Own w' w.heap.size 93 2 r (labs m)→K r w'):C.slices_Clone_Label_Label s w K:=by
 have hn:=rdL_n h
 unfold C.slices_Clone_Label_Label
 exact Sm.clone_ok (P:=Tryz.prog) tiL h labs_one (by simp only [maxLen];omega) (by omega) fun r w' k o _=>hK r w' k o
theorem cloneS_ok {s:Sl} {m:List Smp} (h:Rd w s 2 (Chunk.smps m)) (hm:m.length≤100000000) {K:Sl→World→Prop} (hK:∀ r w',Keep w w'→Mem.Own w' w.heap.size 96 2 r (Chunk.smps m)→K r w'):C.slices_Clone_Sample_Sample s w K:=by
 have hn:=smN h
 unfold C.slices_Clone_Sample_Sample
 exact Sm.clone_ok (P:=Tryz.prog) tiS h Chunk.smps_one (by simp only [maxLen];omega) (by omega) fun r w' k o _=>hK r w' k o
theorem cloneN_ok {s:Sl} {m:List Nat} (h:Rd w s 1 (ints m)) (hm:m.length≤100000000) {K:Sl→World→Prop} (hK:∀ r w',Keep w w'→Mem.Own w' w.heap.size 3 1 r (ints m)→K r w'):C.slices_Clone_int_int s w K:=by
 have hn:s.n=m.length:=by have:=h.2.1;rw [ints_len] at this;omega
 unfold C.slices_Clone_int_int
 exact Sm.clone_ok (P:=Tryz.prog) tiN h ints_one (by simp only [maxLen];omega) (by omega) fun r w' k o _=>hK r w' k o
def f72 (ta tb x:Nat):Nat:=if x=71 then ta else if x=72 then tb else 0
theorem own_ok (ta tb:Nat) (ω:Tg) {p:SQ} (h:SeOk w p) (h16:p.1.1.length≤100000000) {K:Sl→Sl→World→Prop}
  (hK:∀ r s ω' w',Stp Non ω ω' w w'→OT ω' w' ta 93 2 r (labs p.1.1)→OT ω' w' tb 96 2 s (Chunk.smps p.1.2)→K r s w'):C.block_own p.2.1 p.2.2 w K:=by
 unfold C.block_own
 refine new_T (ω:=fun _=>0) 7 fun g1 ω1 w1 k1 b1=>new_T (ω:=ω1) 8 fun g2 ω2 w2 k2 b2=>?_
 have sd:=drew_stp ω2 w2
 have b1d:=(b1.stp k2).stp sd
 have b2d:=b2.stp sd
 have topd:=(((Top.init w).stp k1).stp k2).stp sd
 refine cSl_at (s:=p.2.1) (by rw [b1d.cell];rfl)<|cSl_at (s:=p.2.2) (by rw [addr_add,b1d.cell];rfl) ?_
 refine cloneL_ok (h.lb.keep topd.k) h16 fun r w3 k3 o3=>⟨b1d.sameA (k3.stp0 ω2),?_⟩
 have s3:=k3.stp ω2 71
 have t3:=Own.tag o3 (Nat.le_refl _) ω2 71
 have b23:=b2d.stp s3
 have top3:=topd.stp s3
 generalize ext ω2 w2.drew.heap.size 71=ω3 at *
 have hsl:=h.sl
 refine cloneS_ok (h.sm.keep top3.k) (by omega) fun s w4 k4 o4=>?_
 have s4:=k4.stp ω3 72
 have t4:=Own.tag o4 (Nat.le_refl _) ω3 72
 have b24:=b23.stp s4
 have top4:=top3.stp s4
 have t34:=t3.stp s4
 generalize ext ω3 w3.heap.size 72=ω4 at *
 refine st_T b24 (by simp) fun ω5 w5 k5 b5=>st_TA b5 (by simp) fun ω6 w6 k6 b6=>?_
 refine cSl_at (s:=r) (by rw [b6.cell];rfl)<|cSl_at (s:=s) (by rw [addr_add,b6.cell];rfl) ?_
 have top6:=(top4.stp k5).stp k6
 exact hK r s (rtg ω ω6 w.heap.size (f72 ta tb)) w6 (rtg_stp top6.k ω ω6 (f72 ta tb)) (((t34.stp k5).stp k6).rtg top6 (f72 ta tb)) (((t4.stp k5).stp k6).rtg top6 (f72 ta tb))
structure AR (w:World) (g:Nat) (rs:Sl) (q:QS):Prop where
 hd:w.cell? ⟨g,1,none⟩=some rs.v
 rd:RdQ w rs q
 l16:∀ p∈q,p.1.1.length≤100000000
 n:q.length≤100000000
theorem AR.keep {rs:Sl} {q:QS} (h:AR w g rs q) (k:Keep w w'):AR w' g rs q:=⟨k.cell h.hd,h.rd.keep k,h.l16,h.n⟩
theorem BK.ar {bs rs:Sl} {b:List UInt8} {q:QS} {F:Lb→List Nat} {es:List IE} {k:Int} (h:BK ω w t g gm bs rs b q F es k) (hn:q.length≤100000000):AR w g rs q :=
 ⟨by rw [h.hd.cell];rfl,h.rd,fun p hp=>by have:=(rt_short (h.el p hp).rt).1;omega,hn⟩
def QT (tg:Nat→Nat) (q:QS) (i j:Nat) (a:List Value) (ω:Tg) (w:World):Prop:=j=i+1∧∃ p r s,q[i]?=some p∧a=[.agg #[Sl.v r,Sl.v s]]∧OT ω w 71 93 2 r (labs p.1.1)∧OT ω w (tg i) 96 2 s (Chunk.smps p.1.2)
abbrev QQ (q:QS):=QT (fun _=>72) q
theorem all_tellsT (tg:Nat→Nat) {Fc:Clee} {n ga:Nat} {rs:Sl} {q:QS} {Ct:Nat→Bool} (hF:∀ args K w,C.block_Block_All_1.cl args K w→Fc n args K w) :
  TellsG Tryz.prog Fc (.func (.func n) #[] #[.pointer (some ⟨ga,0,none⟩)]) 0 (QT tg q) (fun i=>i=q.length) (fun _ w=>w.cell? ⟨ga,0,none⟩=some (.pointer (some ⟨g,0,none⟩))∧AR w g rs q) Non Ct:=by
 intro L I Kk Q ω w hC hI hKI hy hK hQ h0
 refine hF _ _ _ ?_
 show C.block_Block_All_1 (.func (.yield L) #[] #[]) (some ⟨ga,0,none⟩) w (C.block_Block_All_1.Kt fun _ w'=>Q w')
 unfold C.block_Block_All_1
 obtain ⟨hb,hc⟩:=hC 0 ω w h0
 refine ptr_at (cP_at hb (cond_f rfl (ptr_at (cP_at hb (ptr_at (cSl_at (s:=rs) (by rw [addr_add];exact hc.hd) ?_))))))
 have hrn:=hc.rd.n
 refine C.block_Block_All_1.L3_ind fun X hX=>?_
 have key:∀ (d i:Nat) (ω:Tg) (w:World),i+d=q.length→I i ω w→X (.func (.yield L) #[] #[]) rs ((rs.n:Nat):Int) (i:Int) w:=by
  intro d
  induction d with
  | zero =>
   intro i ω w hi h
   refine hX _ _ _ _ _ ?_
   unfold C.block_Block_All_1.S5
   exact cond_d (fun h=>by omega) (fun _=>hQ ω w (hK i ω w (by omega) h))
  | succ d ih =>
   intro i ω w hi h
   refine hX _ _ _ _ _ ?_
   unfold C.block_Block_All_1.S5
   have hiq:i<q.length:=by omega
   have hqi:q[i]?=some q[i]:=List.getElem?_eq_getElem hiq
   have hc:=(hC i ω w h).2
   refine cond_d (fun _=>?_) (fun h=>by omega)
   refine rdQ_at hc.rd.rd (k:=i) rfl hqi fun a a0 a1=>cSl_at a0<|cSl_at a1 ?_
   refine locS fun g4 w4 k4 hg4 b4=>?_
   refine cSl_at (s:=q[i].2.1) (by rw [b4.cell];rfl)<|cSl_at (s:=q[i].2.2) (by rw [addr_add,b4.cell];rfl) ?_
   have s4:=k4.1.stp0 ω
   refine own_ok 71 (tg i) ω ((hc.rd.el _ (List.getElem_mem hiq)).keep k4.1) (hc.l16 _ (List.getElem_mem hiq)) fun r s ω5 w5 k5 o5 p5=>?_
   have h5:=hI _ _ _ _ _ (hI _ _ _ _ _ h s4) k5
   refine hy i (i+1) _ ω5 w5 _ ⟨rfl,q[i],r,s,hqi,rfl,o5,p5⟩ h5 (fun ω' w' st h'=>?_) (fun ω' w' st h'=>?_)
   ·refine isB_at (cond_f rfl ?_)
    have hn:=(hC i ω w h).2.n
    rw [wI64 (by omega) (by omega),show (i:Int)+1=((i+1:Nat):Int) by omega]
    exact ih (i+1) ω' w' (by omega) h'
   ·exact isB_at (cond_t rfl (hQ _ _ h'))
 exact key q.length 0 ω w (by omega) h0
theorem all_tellsB {Fc:Clee} {n ga:Nat} {rs:Sl} {q:QS} {Ct:Nat→Bool} (hF:∀ args K w,C.block_Block_All_1.cl args K w→Fc n args K w) :
  TellsG Tryz.prog Fc (.func (.func n) #[] #[.pointer (some ⟨ga,0,none⟩)]) 0 (QQ q) (fun i=>i=q.length) (fun _ w=>w.cell? ⟨ga,0,none⟩=some (.pointer (some ⟨g,0,none⟩))∧AR w g rs q) Non Ct:=all_tellsT (fun _=>72) hF
theorem len_ok {rs:Sl} {q:QS} (h:AR w g rs q) {K:Int→World→Prop} (hK:K (q.length:Int) w):C.block_Block_Len (some ⟨g,0,none⟩) w K:=by
 unfold C.block_Block_Len
 refine cond_f rfl (ptr_at (cSl_at (s:=rs) (by rw [addr_add];exact h.hd) ?_))
 rw [h.rd.n];exact hK
theorem samples_ok {rs:Sl} {q:QS} (h:AR w g rs q) (hcnt:cntOf (q.map (·.1))≤1000000000000) {K:Int→World→Prop} (hK:∀ w',Keep w w'→K (cntOf (q.map (·.1)):Int) w'):C.block_Block_Samples (some ⟨g,0,none⟩) w K:=by
 unfold C.block_Block_Samples
 refine new_T (ω:=fun _=>0) 4 fun g2 ω2 w2 k2 b2=>st_T b2 (by simp) fun ω2 w2' k2' b2=>?_
 unfold C.block_Block_Samples.S9 C.block_Block_All
 refine new_T (ω:=ω2) 6 fun g3 ω3 w3 k3 b3=>?_
 unfold C.block_Block_Samples.R5
 have top3:=(((Top.init w).stp k2).stp k2').stp k3
 have cnt_take:∀ i,cntOf ((q.map (·.1)).take i)≤cntOf (q.map (·.1)):=fun i=>by
  have:q.map (·.1)=(q.map (·.1)).take i++(q.map (·.1)).drop i:=(List.take_append_drop _ _).symm
  have e:cntOf (q.map (·.1))=cntOf ((q.map (·.1)).take i)+cntOf ((q.map (·.1)).drop i):=by
   conv=>lhs;rw [this]
   unfold cntOf
   rw [List.map_append,List.sum_append]
  omega
 refine rangeGW_ok (T:=Mem.One 4) (u:=3) (J:=fun i ω w2=>Top w ω w2∧BT ω w2 6 g3 23 [.pointer (some ⟨g,0,none⟩)]∧BT ω w2 4 g2 3 [.int .i64 (cntOf ((q.map (·.1)).take i):Int)])
  (E:=fun e ω w=>False) (all_tellsB (ga:=g3) (g:=g) (rs:=rs) (q:=q) fun _ _ _ h=>h) rfl rfl ?_ ?_ ?_ ?_ ?_ ⟨top3,b3,b2.stp k3⟩ ?_ ?_
 ·rintro i j a ω ω' w w' ⟨e,p,r,s,hp,ea,o1,o2⟩ k
  exact ⟨e,p,r,s,hp,ea,o1.stp k rfl,o2.stp k rfl⟩
 ·rintro i ω w2 ⟨top,x3,_⟩
  exact ⟨by rw [x3.cell];rfl,h.keep top.k⟩
 ·rintro S hS i ω ω' w w' ⟨top,x1,x2⟩ k
  have z:S 0=false∧S 6=false∧S 4=false:=by rcases hS with rfl | rfl<;>exact ⟨rfl,rfl,rfl⟩
  exact ⟨top.stp k z.1,x1.stp k z.2.1,x2.stp k z.2.2⟩
 ·rintro S hS e ω ω' w w' h k
  exact h
 ·rintro i j args ω w4 bz Rr ⟨rfl,p,r,s,hp,rfl,o1,o2⟩ ⟨top,x1,x2⟩ hz
  unfold C.block_Block_Samples.B_R5 Sl.v
  dsimp only
  refine locS fun g5 w5 k5 hg5 b5=>?_
  have s5:=k5.1.stp ω 5
  refine hz _ (ext ω w4.heap.size 5) w5 s5 fun w6 s6 hR hX=>?_
  have b5t:BT (ext ω w4.heap.size 5) w5 5 g5 57 [r.v,s.v]:=⟨b5,ext_new hg5⟩
  generalize ext ω w4.heap.size 5=ω5 at *
  have b6:=b5t.stp s6
  have x26:=(x2.stp s5).stp s6
  unfold C.block_Block_Samples.S7
  have hil:=(List.getElem?_eq_some_iff.1 hp).1
  have hLi:(q.map (·.1))[i]?=some p.1:=by rw [List.getElem?_map,hp];rfl
  have et:(q.map (·.1)).take (i+1)=(q.map (·.1)).take i++[p.1]:=by rw [List.take_add_one,hLi];rfl
  have hsn:=smN o2.rd
  have h1:=cnt_take i
  have h2:=cnt_take (i+1)
  rw [et,cnt_snoc] at h2
  refine ptr_at<|cI_at (n:=(cntOf ((q.map (·.1)).take i):Int)) (by rw [x26.cell];rfl)<|ptr_at<|cSl_at (s:=s) (by rw [addr_add,b6.cell];rfl)<|ptr_at<|st_T x26 (by simp) fun ω7 w7 k7 b7=>?_
  refine hR ω7 w7 k7 ⟨((top.stp s5).stp s6).stp k7,((x1.stp s5).stp s6).stp k7,?_⟩
  have e:IntKind.i64.wrap ((cntOf ((q.map (·.1)).take i):Int)+((s.n:Nat):Int))=(cntOf ((q.map (·.1)).take (i+1)):Int):=by
   rw [wI64 (by omega) (by omega),et,cnt_snoc];omega
  rw [e] at b7
  exact b7
 ·rintro ω' w' D hD hDu ⟨i,rfl,top,x1,x2⟩
  show C.block_Block_Samples.S2 K _ (pushMark undef D) w'
  unfold C.block_Block_Samples.S2
  have sp:=put_stp (ω:=ω') (w:=w') (o:=.deferred none) hDu
  refine ptr_at (cI_at (n:=(cntOf (q.map (·.1)):Int)) (by rw [x2.cell,List.take_of_length_le (by rw [List.length_map];exact Nat.le_refl _)];rfl) (marks_at hD (hK _ ((top.stp sp).k))))
 ·rintro e ω' w' D _ _ h
  exact h.elim
theorem asked_ok {bs rs:Sl} {b:List UInt8} {q:QS} {F:Lb→List Nat} {es:List IE} {k:Int} (h:BK ω w t g gm bs rs b q F es k) {K:Int→World→Prop}
  (hK:∀ ω' w',Stp (Mem.One t) ω ω' w w'→BK ω' w' t g gm bs rs b q F es (IntKind.i64.wrap (k+1))→K (IntKind.i64.wrap (k+1)) w'):C.atomic_Int64_Add (some (Addr.add ⟨g,0,none⟩ 3)) (1:Int) w K:=by
 unfold C.atomic_Int64_Add C.atomic_AddInt64
 refine ptr_at<|ptr_at<|cI_at (n:=k) (by rw [addr_add,h.hd.cell];rfl)<|st_TA h.hd (by simp) fun ω1 w1 k1 b1=>hK ω1 w1 k1 ?_
 have hn:=h.n
 exact ⟨b1,h.by_.stp k1 (beq_no (by omega)),h.row.stp k1 (beq_no (by omega)),h.ix.stp k1 (beq_no (by omega)) (fun j hj=>beq_no (by omega)),fun p hp=>(h.el p hp).stp k1 (beq_no (by omega)),hn⟩
theorem postV_ok {bs rs:Sl} {b:List UInt8} {q:QS} {es:List IE} {k:Int} (h:BK ω w t g gm bs rs b q (post (q.map (·.1))) es k) (hq:q.length≤1000000) {name value:ByteArray} (hv:value.toList≠(⟨#[]⟩:ByteArray).toList) (hs:sml (name,value)) {K:Sl→World→Prop}
  (hK:∀ r ω' w',Stp (Mem.One t) ω ω' w w'→BK ω' w' t g gm bs rs b q (post (q.map (·.1))) es (IntKind.i64.wrap (k+1))→OT ω' w' 63 3 1 r (ints (post (q.map (·.1)) (name,value)))→K r w'):C.block_Block_Postings (some ⟨g,0,none⟩) name value w K:=by
 unfold C.block_Block_Postings
 refine cond_f rfl<|ptr_at<|asked_ok h fun ω1 w1 k1 b1=>?_
 refine cond_t (by simpa using hv)<|ptr_at<|cM_at (b:=some gm) (by rw [addr_add,b1.hd.cell];rfl) ?_
 have hpl:=post_len (q.map (·.1)) (name,value)
 rw [List.length_map] at hpl
 have fin:∀ l,Rd w1 l 1 (ints (post (q.map (·.1)) (name,value)))→C.slices_Clone_int_int l w1 fun l52 w53=>K l52 w53:=fun l hl =>
  cloneN_ok hl (by omega) fun r w2 k2 o2=>hK r (ext ω1 w1.heap.size 63) w2 (k1.trans ((k2.stp ω1 63).non _)) (b1.stp (k2.stp ω1 63) (off_non t)) (Own.tag o2 (Nat.le_refl _) ω1 63)
 by_cases hm:(name,value)∈es.map (·.1)
 ·obtain ⟨e,he,hex⟩:=List.mem_map.1 hm
  obtain ⟨j,hj,rfl⟩:=List.mem_iff_getElem.1 he
  have hje:es[j]?=some es[j]:=List.getElem?_eq_getElem hj
  have hjm:(es.map encI)[j]?=some ((name,value),es[j].2.1.v):=by rw [List.getElem?_map,hje];show some (encI es[j])=_;unfold encI;rw [hex]
  obtain ⟨g1,_⟩:=getL_at b1.ix.mp.nodup hjm
  have o:=b1.ix.own j _ hje
  have hl:=b1.ix.eq _ he
  rw [hex] at hl
  rw [hl] at o
  exact rd1_L (a:=es[j].2.1) b1.ix.mp mapX Tryz.zeroValue46 hs (by rw [g1];rfl) (fin _ o.rd)
 ·have h0:post (q.map (·.1)) (name,value)=[]:=Classical.byContradiction fun hne=>hm (b1.ix.all _ hne)
  have hnk:∀ y∈es.map encI,y.1≠(name,value):=fun y hy e=>hm (by
   have:=List.mem_map_of_mem (f:=(·.1)) hy
   rw [keysI,e] at this;exact this)
  obtain ⟨g1,_⟩:=getL_none hnk
  refine rd1_L (a:=nilS) b1.ix.mp mapX Tryz.zeroValue46 hs (by rw [g1];rfl) (fin _ ?_)
  rw [h0];exact Rd.nil _ _
end Go.Proofs.YtmfgmcajelmgbaaGreatDoor.Bk

namespace Go.Proofs.YtmfgmcajelmgbaaGreatDoor.Srt
open Go Vm Go.RowKit Num Mem Go.Sort Go.Proofs
variable {ω ω' : Tg} {w w' : World} {t : Nat} {e : TypeId} {s : Sl}
end Go.Proofs.YtmfgmcajelmgbaaGreatDoor.Srt

namespace Go.Proofs.YtmfgmcajelmgbaaGreatDoor.Bk
open Go Vm Go.RowKit Num Mem Utf Lib Lab Vint Bits
theorem ba_inj {a b:ByteArray} (h:a.toList=b.toList):a=b:=by
 rw [ByteArray.toList_eq,ByteArray.toList_eq] at h
 cases a;cases b
 simpa using h
def Lt (a b:ByteArray):Prop:=Op.bytesLess a.toList b.toList=true
instance (a b:ByteArray):Decidable (Lt a b):=inferInstanceAs (Decidable (_=_))
def getF (n:ByteArray):List Lb→ByteArray
 | []=>⟨#[]⟩
 | p::r=>if p.1=n then p.2 else getF n r
theorem get_mem {n v:ByteArray} (hv:v≠(⟨#[]⟩:ByteArray)):∀ {l:List Lb},(l.map (·.1)).Nodup→((n,v)∈l↔getF n l=v)
 | [],_=>⟨fun h=>(by cases h),fun h=>absurd h.symm hv⟩
 | p::r,h=>by
  rw [List.map_cons,List.nodup_cons] at h
  unfold getF
  by_cases e:p.1=n
  ·rw [if_pos e]
   constructor
   ·intro hm
    rcases List.mem_cons.1 hm with e' | hm
    ·rw [← e']
    ·exact absurd (by rw [e];exact List.mem_map_of_mem (f:=(·.1)) hm) h.1
   ·intro e'
    rw [← e,← e'];exact List.mem_cons_self ..
  ·rw [if_neg e,← get_mem hv h.2]
   constructor
   ·intro hm
    rcases List.mem_cons.1 hm with e' | hm
    ·exact absurd (by rw [← e']) e
    ·exact hm
   ·exact List.mem_cons_of_mem _
theorem has_get {n v:ByteArray} (hv:v≠(⟨#[]⟩:ByteArray)) {l:List Lb} (h:(rt l).1=0):hasL l (n,v)=decide (getF n l=v):=by
 have:=get_mem hv (n:=n) (rt_names h)
 rw [← hasL_iff] at this
 by_cases e:getF n l=v
 ·rw [decide_eq_true e];exact this.2 e
 ·rw [decide_eq_false e]
  cases hh:hasL l (n,v) with
  | true=>exact absurd (this.1 hh) e
  | false=>rfl
def postF (n v:ByteArray):List Ser→Nat→List Nat
 | [],_=>[]
 | s::r,i=>(if getF n s.1=v then [i] else [])++postF n v r (i+1)
theorem postF_snoc (n v:ByteArray) (s:Ser):∀ (l:List Ser) (i:Nat),postF n v (l++[s]) i=postF n v l i++(if getF n s.1=v then [i+l.length] else [])
 | [],i=>by simp [postF]
 | y::l,i=>by
  rw [List.cons_append,postF,postF,postF_snoc n v s l (i+1),List.append_assoc,List.length_cons,show i+1+l.length=i+(l.length+1) by omega]
theorem post_F {n v:ByteArray} (hv:v≠(⟨#[]⟩:ByteArray)):∀ (l:List Ser) (i:Nat),(∀ x∈l,(rt x.1).1=0)→postGo (n,v) l i=postF n v l i
 | [],_,_=>rfl
 | s::r,i,h=>by
  rw [postGo,postF,post_F hv r (i+1) fun x hx=>h x (List.mem_cons_of_mem _ hx),has_get hv (h s (List.mem_cons_self ..))]
  by_cases e:getF n s.1=v
  ·rw [if_pos e,if_pos (decide_eq_true e)];try rfl
  ·rw [if_neg e,if_neg (by rw [decide_eq_false e];decide)];try rfl
theorem postF_len (n v:ByteArray):∀ (l:List Ser) (i:Nat),(postF n v l i).length≤l.length
 | [],_=>Nat.le_refl _
 | s::r,i=>by
  rw [postF,List.length_append,List.length_cons]
  have:=postF_len n v r (i+1)
  split<;>simp<;>omega
end Go.Proofs.YtmfgmcajelmgbaaGreatDoor.Bk

namespace Go.Proofs.YtmfgmcajelmgbaaGreatDoor.Bk
open Go Vm Go.RowKit Num Mem Utf Lib Lab Vint Bits Rep
variable {ω ω' : Tg} {w w' w0 : World} {T : Nat → Bool} {t u g gm : Nat}
theorem set_cells_T {e:TypeId}:∀ (vs:List Value) (o:Nat) (ω:Tg) (w:World) (cs:List Value),BT ω w t g e cs→o+vs.length≤cs.length→∃ ω' cs',Stp (Mem.One t) ω ω' w (w.setCells g o vs)∧BT ω' (w.setCells g o vs) t g e cs'∧cs'.length=cs.length∧cs'.take o=cs.take o
 | [],o,ω,w,cs,b,_=>⟨ω,cs,Stp.refl _ _ _,b,rfl,rfl⟩
 | v::vs,o,ω,w,cs,b,h=>by
  rw [List.length_cons] at h
  have s1:Stp (Mem.One t) ω (ext ω w.heap.size t) w (w.setCell ⟨g,o,none⟩ v):=Chg.stp (setCell_chg w g o v) fun k hk=>by rw [hk];exact b.tag
  have b1:BT (ext ω w.heap.size t) (w.setCell ⟨g,o,none⟩ v) t g e (cs.set o v):=⟨b.blk.set o v,by rw [ext_old b.blk.lt];exact b.tag⟩
  obtain ⟨ω',cs',k,b',l',e'⟩:=set_cells_T vs (o+1) _ _ _ b1 (by rw [List.length_set];omega)
  refine ⟨ω',cs',s1.trans k,b',by rw [l',List.length_set],?_⟩
  have:=congrArg (List.take o) e'
  rw [List.take_take,List.take_take,Nat.min_eq_left (by omega),List.take_set] at this
  rw [this,List.set_eq_of_length_le (by rw [List.length_take];omega)]
theorem ba_ne {a b:ByteArray}:(a.toList==b.toList)=decide (a=b):=by
 rw [ByteArray.toList_eq,ByteArray.toList_eq]
 by_cases h:a=b
 ·rw [decide_eq_true h,h];simp
 ·rw [decide_eq_false h]
  simp only [beq_eq_false_iff_ne,ne_eq]
  intro e
  apply h
  cases a;cases b
  simp at e
  rw [e]
end Go.Proofs.YtmfgmcajelmgbaaGreatDoor.Bk

namespace Go.Proofs.YtmfgmcajelmgbaaGreatDoor.Bk
open Go Vm Go.RowKit Num Mem Utf Lib Lab Vint Bits
variable {ω ω' : Tg} {w w' w0 : World}
theorem rput_ok {s:Sl} {m:List Lb} (hs:Rd w0 s 2 (labs m)) (hr:(rt m).1=0) {K:Sl→Int→World→Prop} (hK:∀ r w',Keep w0 w'→OwnB w' w0.heap.size r (Lab.put m)→K r 0 w'):C.tocsinref04_Put nilS s w0 K:=by
 have hsn:s.n=m.length:=by have:=hs.2.1;rw [labs_len] at this;omega
 obtain ⟨h16,hsh⟩:=rt_short hr
 unfold C.tocsinref04_Put
 refine rright_ok hs (fun x hx=>by have:=hsh x hx;omega) fun w1 k1=>?_
 refine cond_f (by rw [hr];rfl) ?_
 rw [wU64_id (by omega) (by omega),hsn]
 refine rputU_ok (l:=[]) (by omega) (Rd.nil w1 1) (by decide) fun r w2 k2 o2=>?_
 unfold C.tocsinref04_Put.S9
 have k02:=Keep.trans k1 k2
 have hp:=putU_len64 (n:=m.length) (by omega)
 refine C.tocsinref04_Put.L5_ind fun X hX=>?_
 have key:∀ (d i:Nat) (q:Sl) (w:World),i+d=m.length→Keep w0 w→OwnB w w0.heap.size q (putU m.length++(m.take i).flatMap labB)→X q s ((s.n:Nat):Int) (i:Int) w:=by
  intro d
  induction d with
  | zero =>
   intro i q w hi k o
   refine hX _ _ _ _ _ ?_
   unfold C.tocsinref04_Put.S7 C.tocsinref04_Put.S2
   rw [List.take_of_length_le (by omega)] at o
   exact cond_d (fun h=>by omega) (fun _=>hK q w k o)
  | succ d ih =>
   intro i q w hi k o
   have him:i<m.length:=by omega
   refine hX _ _ _ _ _ ?_
   unfold C.tocsinref04_Put.S7
   refine cond_d (fun _=>?_) (fun h=>by omega)
   have hx:m[i]?=some m[i]:=List.getElem?_eq_getElem him
   refine rdL_at (hs.keep k) (k:=i) rfl hx fun a hc0 hc1=>cS_at hc0<|cS_at hc1 ?_
   refine new_T (ω:=fun _=>0) 7 fun g ω2 w2 k2 b2=>?_
   refine st_T b2 (by simp) fun ω3 w3 k3 b3=>?_
   refine st_TA b3 (by simp) fun ω4 w4 k4 b4=>?_
   have kT:=((Top.init w).stp ((k2.non (Mem.One 7)).trans (k3.trans k4))).k
   have kd:=drew_stp ω4 w4
   have bd:=b4.stp kd
   have k5:=Keep.trans kT kd.keep
   refine cS_at (b:=m[i].1) (by rw [bd.cell];rfl)<|cS_at (b:=m[i].2) (by rw [addr_add,bd.cell];rfl) ?_
   have hsx:=hsh _ (List.getElem_mem him)
   have hfl:=Lab.flat_len (m.take i) fun y hy=>hsh y (List.mem_of_mem_take hy)
   rw [List.length_take,Nat.min_eq_left (by omega)] at hfl
   have e1:=szB m[i].1
   have p1:=putU_len64 (n:=m[i].1.size) (by omega)
   refine rputText_ok (Own.keep o k5).rd (by rw [List.length_append];omega) fun r1 w5 k6 o5=>⟨bd.sameA (k6.stp0 ω4),?_⟩
   refine rputText_ok o5.rd (by simp only [List.length_append];omega) fun r2 w6 k7 o6=>?_
   rw [wI64 (by omega) (by omega),show (i:Int)+1=((i+1:Nat):Int) by omega]
   have k57:=Keep.trans k (Keep.trans k5 (Keep.trans k6 k7))
   refine ih (i+1) r2 w6 (by omega) k57 ?_
   have ef:(m.take (i+1)).flatMap labB=(m.take i).flatMap labB++labB m[i]:=by
    rw [List.take_add_one,hx,List.flatMap_append];simp
   rw [ef]
   have o7:=o6.mono (Keep.trans k (Keep.trans k5 k6)).size
   simpa only [labB,txt,List.append_assoc] using o7
 refine key m.length 0 r w2 (by omega) k02 ?_
 simpa using o2.mono k1.size
theorem rframeS_ok {x:Ser} {a b:Sl} (h:SeOk w0 (x,a,b)) (hr:(rt x.1).1=0) (hne:x.2≠[]) {K:Sl→Int→World→Prop}
  (hE:serE x≠0→∀ w',Keep w0 w'→K nilS (serE x) w') (hK:serE x=0→∀ r w',Keep w0 w'→OwnB w' w0.heap.size r (pay x)→K r 0 w'):C.tocsinref10_frame a b w0 K:=by
 have hlb:Rd w0 a 2 (labs x.1):=h.lb
 have hsm:Rd w0 b 2 (Chunk.smps x.2):=h.sm
 have hfl:∀ y∈x.2,y.2<18446744073709551616:=h.fl
 have hsl:x.2.length≤11000000:=h.sl
 clear h
 have hsn:=smN hsm
 unfold C.tocsinref10_frame
 refine newD fun g w1 k1 hg b1=>?_
 refine cSl_at (s:=b) (by rw [addr_add,b1.cell];rfl) ?_
 refine Chunk.rsplit_ok (hsm.keep k1.1) hfl hsl (fun he w3 k3=>?_) (fun hz hris c ss ω3 w3 top3 o3=>?_)
 ·refine cond_t (by simpa using he) ?_
  have e:serE x=(Chunk.swr [] x.2 0).1:=by unfold serE;rw [if_neg hne,if_pos he]
  have:=hE (by rw [e];exact he) w3 (Keep.trans k1.1 k3)
  rwa [e] at this
 refine cond_f rfl ?_
 have e3:Chunk.OLs ω3 w3 12 c ss (chs x.2):=o3
 clear o3
 have k03:=Keep.trans k1.1 top3.k
 have b3:=b1.keep top3.k
 refine cSl_at (s:=a) (by rw [b3.cell];rfl) ?_
 refine rput_ok (hlb.keep k03) hr fun r w4 k4 o4=>cond_f rfl ?_
 have hcl:(chs x.2).length=(x.2.length+119) / 120:=chs_len x.2
 have hce:=chs_each hris
 have hcn:c.n=(chs x.2).length:=e3.n
 have k04:=Keep.trans k03 k4
 have hpl:=put_small hr
 have hrd:=e3.rdl.keep k4
 rw [wU64_id (by omega) (by omega),hcn]
 refine rputU_ok (by omega) (OwnB.rd o4) (by omega) fun p w5 k5 o5=>?_
 have hp4:=putU_len64 (n:=(chs x.2).length) (by omega)
 unfold C.tocsinref10_frame.S9
 refine C.tocsinref10_frame.L5_ind fun X hX=>?_
 have key:∀ (d i:Nat) (p:Sl) (w:World),i+d=(chs x.2).length→Keep w4 w→OwnB w w4.heap.size p (Lab.put x.1++(putU (chs x.2).length++((chs x.2).take i).flatMap cpay))→X p c ((c.n:Nat):Int) (i:Int) w:=by
  intro d
  induction d with
  | zero =>
   intro i p w hi k o
   refine hX _ _ _ _ _ ?_
   unfold C.tocsinref10_frame.S7 C.tocsinref10_frame.S2
   refine cond_d (fun h=>by omega) (fun _=>?_)
   rw [List.take_of_length_le (by omega)] at o
   have k0:=Keep.trans k04 k
   have hn:=OwnB.len o
   change p.n=(pay x).length at hn
   refine cond_d (fun hbig=>?_) (fun hsm'=>?_)
   ·have e:serE x=4:=by rw [serE_of hne hz,if_pos (by omega)]
    have:=hE (by rw [e];decide) w k0
    rwa [e] at this
   ·exact hK (by rw [serE_of hne hz,if_neg (by omega)]) p w k0 (o.mono k04.size)
  | succ d ih =>
   intro i p w hi k o
   refine hX _ _ _ _ _ ?_
   unfold C.tocsinref10_frame.S7
   have hic:i<(chs x.2).length:=by omega
   refine cond_d (fun _=>?_) (fun h=>by omega)
   have hx:(chs x.2)[i]?=some (chs x.2)[i]:=List.getElem?_eq_getElem hic
   refine (hrd.keep k).at_ hx fun q hq=>?_
   have hqn:=RdB.len hq
   have hq3:=hce _ (List.getElem_mem hic)
   have hfl:=cpay_len ((chs x.2).take i) fun y hy=>hce y (List.mem_of_mem_take hy)
   rw [List.length_take,Nat.min_eq_left (by omega)] at hfl
   rw [wU64_id (by omega) (by omega),hqn]
   refine rputU_ok (by omega) (OwnB.rd o) (by simp only [List.length_append];omega) fun p1 w5 k5 o5=>?_
   have hp5:=putU_len64 (n:=(chs x.2)[i].length) (by omega)
   refine appB k5 k5.size o5 (hq.keep k5) (by simp only [List.length_append];omega) fun p2 w6 k6 o6=>?_
   rw [wI64 (by omega) (by omega),show (i:Int)+1=((i+1:Nat):Int) by omega]
   refine ih (i+1) p2 w6 (by omega) (Keep.trans k k6) ?_
   have ef:((chs x.2).take (i+1)).flatMap cpay=((chs x.2).take i).flatMap cpay++cpay (chs x.2)[i]:=by
    rw [List.take_add_one,hx,List.flatMap_append];simp
   rw [ef]
   have o7:=o6.mono k.size
   simpa only [cpay,List.append_assoc] using o7
 refine key (chs x.2).length 0 p w5 (by omega) k5 ?_
 simpa using o5
theorem sers_set:∀ (l:QS) (k:Nat) (p:SQ),((sers l).set (k*2+0) p.2.1.v).set (k*2+1) p.2.2.v=sers (l.set k p)
 | [],k,p=>by simp [sers]
 | x::l,0,p=>rfl
 | x::l,k+1,p=>by
  have ih:=sers_set l k p
  rw [Nat.add_zero] at ih
  have e:∀ (y:SQ) (m:QS),sers (y::m)=y.2.1.v::y.2.2.v::sers m:=fun _ _=>rfl
  rw [e,show (k+1)*2+0=(k*2+0)+1+1 by omega,show (k+1)*2+1=(k*2+1)+1+1 by omega,List.set_cons_succ,List.set_cons_succ,List.set_cons_succ,List.set_cons_succ,ih,List.set_cons_succ,e]
theorem st2_ok {t:Nat} {s:Sl} {l:QS} (h:OT ω w t 57 2 s (sers l)) {i:Int} {k:Nat} (ei:i=(k:Int)) (hk:k<l.length) (p:SQ) {Z:World→Prop}
  (hK:∀ ω' w',Stp (Mem.One t) ω ω' w w'→OT ω' w' t 57 2 s (sers (l.set k p))→Z w') :
  G.ix s.a s.n i 2 fun a=>G.st a p.2.1.v w fun w1=>G.st (a.add 1) p.2.2.v w1 Z:=by
 have hn:=rdQ_n h.rd
 refine OT.at_ h ei (by omega) fun a ha _ _ _=>?_
 have e0:a=a.add 0:=by simp [Addr.add]
 have key:G.st (a.add 0) p.2.1.v w fun w1=>G.st (a.add 1) p.2.2.v w1 Z:=by
  refine OT.st h (i:=k) (j:=0) (by omega) (by decide) _ ha fun ω1 w1 k1 o1=>?_
  refine OT.st o1 (i:=k) (j:=1) (by omega) (by decide) _ ha fun ω2 w2 k2 o2=>hK ω2 w2 (k1.trans k2) ?_
  rw [sers_set] at o2
  exact o2
 rwa [← e0] at key
theorem insS_at {x:Ser}:∀ {A B:List Ser},(∀ a∈A,¬ cmpL a.1 x.1 > 0)→(∀ b∈B,cmpL b.1 x.1 > 0)→insS x (A++B)=A++x::B
 | [],[],_,_=>rfl
 | [],b::B,_,h=>by rw [List.nil_append,insS,if_pos (h b (List.mem_cons_self ..))];rfl
 | a::A,B,h1,h2=>by
  rw [List.cons_append,insS,if_neg (h1 a (List.mem_cons_self ..)),insS_at (fun y hy=>h1 y (List.mem_cons_of_mem _ hy)) h2];rfl
theorem ins_step {α:Type} (A:List α) (k:Nat) (hk:k<A.length) (z:α):(A.take (k+1)++z::A.drop (k+1)).set (k+1) A[k]=A.take k++A[k]::A.drop k:=by
 have e:(A.take (k+1)).length=k+1:=by rw [List.length_take];omega
 rw [List.set_append_right _ _ (by omega),e,Nat.sub_self,List.set_cons_zero,List.take_succ_eq_append_getElem hk,List.append_assoc,List.drop_eq_getElem_cons hk]
 rfl
theorem rsorted_ok {s:Sl} {q:QS} (h:RdQ w0 s q) (hl:q.length≤100000000) {K:Sl→World→Prop}
  (hK:∀ r q' w',Keep w0 w'→q'.Perm q→q'.map (·.1)=srt (q.map (·.1))→Mem.Own w' w0.heap.size 57 2 r (sers q')→K r w'):C.tocsinref10_Sorted s w0 K:=by
 have hsn:=h.n
 unfold C.tocsinref10_Sorted C.tocsinref10_Sorted.S23
 refine C.tocsinref10_Sorted.L5_ind fun X hX=>?_
 have key:∀ (d i:Nat) (out:Sl) (A:QS) (ω:Tg) (w:World),i+d=q.length→Top w0 ω w→OT ω w 2 57 2 out (sers A)→A.Perm (q.take i)→A.map (·.1)=srt ((q.map (·.1)).take i)→X out s ((s.n:Nat):Int) (i:Int) w:=by
  intro d
  induction d with
  | zero =>
   intro i out A ω w hi top o pm em
   refine hX _ _ _ _ _ ?_
   unfold C.tocsinref10_Sorted.S21 C.tocsinref10_Sorted.S2
   refine cond_d (fun h=>by omega) (fun _=>?_)
   rw [List.take_of_length_le (by omega)] at pm
   rw [List.take_of_length_le (by rw [List.length_map];omega)] at em
   exact hK out A w top.k pm em (otNew o top)
  | succ d ih =>
   intro i out A ω w hi top o pm em
   refine hX _ _ _ _ _ ?_
   unfold C.tocsinref10_Sorted.S21 C.tocsinref10_Sorted.S18
   have hiq:i<q.length:=by omega
   have hx:q[i]?=some q[i]:=List.getElem?_eq_getElem hiq
   have hAl:A.length=i:=by rw [pm.length_eq,List.length_take];exact Nat.min_eq_left (by omega)
   have hel:∀ p∈A,SeOk w0 p:=fun p hp=>h.el p (List.mem_of_mem_take (pm.mem_iff.1 hp))
   have hsx:=h.el _ (List.getElem_mem hiq)
   have upA:(A.map (·.1)).Pairwise leS:=by rw [em];exact srt_up _
   refine cond_d (fun _=>?_) (fun h=>by omega)
   refine rdQ_at (h.rd.keep top.k) (k:=i) rfl hx fun a e0 e1=>cSl_at e0<|cSl_at e1 ?_
   refine locS fun g w3 k3 hg b3=>?_
   have s3:=k3.1.stp ω 7
   have bt:BT (ext ω w.heap.size 7) w3 7 g _ _:=⟨b3,ext_new hg⟩
   have top3:=top.stp s3
   have o3:=o.stp s3
   generalize ext ω w.heap.size 7=ω3 at *
   refine cSl_at (s:=q[i].2.1) (by rw [bt.cell];rfl)<|cSl_at (s:=q[i].2.2) (by rw [addr_add,bt.cell];rfl) ?_
   have hon:=rdQ_n o.rd
   refine push_T tiQ o3 (n:=1) rfl (by intro v hv;simp at hv;rcases hv with rfl | rfl<;>rfl) (by simp only [maxLen];omega) (by omega) fun r ω4 w4 k4 o4 _=>?_
   have top4:=top3.stp k4
   have b4:=bt.stp k4
   have e4:sers A++[q[i].2.1.v,q[i].2.2.v]=sers (A++[q[i]]):=by rw [sers_app];rfl
   have o4':OT ω4 w4 2 57 2 r (sers (A.take i++q[i]::A.drop i)):=by
    rw [List.take_of_length_le (by omega),List.drop_of_length_le (by omega),← e4];exact o4
   have etk:(q.map (·.1)).take (i+1)=(q.map (·.1)).take i++[q[i].1]:=by
    rw [List.take_succ_eq_append_getElem (by rw [List.length_map];exact hiq),List.getElem_map]
   have esr:srt ((q.map (·.1)).take (i+1))=insS q[i].1 (A.map (·.1)):=by rw [etk,em];unfold srt;rw [List.foldl_append];rfl
   have hrn:r.n=A.length+1:=by have:=rdQ_n o4'.rd;rw [List.length_append,List.length_cons,List.length_take,List.length_drop] at this;omega
   refine C.tocsinref10_Sorted.L13_ind fun Y hY=>?_
   -- the place is found
   have done:∀ (k:Nat) (z:SQ) (ω:Tg) (w:World),k≤i→Top w0 ω w→BT ω w 7 g 57 [q[i].2.1.v,q[i].2.2.v]→OT ω w 2 57 2 r (sers (A.take k++z::A.drop k))→(∀ b∈A.drop k,cmpL b.1.1 q[i].1.1 > 0)→(∀ b∈A.take k,¬ cmpL b.1.1 q[i].1.1 > 0) →
     C.tocsinref10_Sorted.S10 K X r (some ⟨g,0,none⟩) (k:Int) s ((s.n:Nat):Int) (i:Int) w:=by
    intro k z ω w hki top bt o h1 h2
    unfold C.tocsinref10_Sorted.S10 C.tocsinref10_Sorted.S7
    refine ptr_at<|cSl_at (s:=q[i].2.1) (by rw [bt.cell];rfl)<|cSl_at (s:=q[i].2.2) (by rw [addr_add,bt.cell];rfl) ?_
    have hkl:(A.take k).length=k:=by rw [List.length_take];omega
    refine st2_ok (k:=k) o rfl (by rw [List.length_append,hkl,List.length_cons];omega) q[i] fun ω6 w6 k6 o6=>?_
    rw [List.set_append_right _ _ (by omega),hkl,Nat.sub_self,List.set_cons_zero] at o6
    rw [wI64 (by omega) (by omega),show (i:Int)+1=((i+1:Nat):Int) by omega]
    refine ih (i+1) r _ ω6 w6 (by omega) (top.stp k6) o6 ?_ ?_
    ·refine (List.perm_middle).trans ?_
     rw [List.take_append_drop,List.take_succ_eq_append_getElem hiq]
     exact (pm.cons _).trans (List.perm_append_comm (l₁:=[q[i]]))
    ·rw [esr]
     have e:A.map (·.1)=(A.take k).map (·.1)++(A.drop k).map (·.1):=by rw [← List.map_append,List.take_append_drop]
     rw [e,insS_at (fun a ha=>?_) (fun b hb=>?_),List.map_append,List.map_cons]
     ·obtain ⟨p,hp,rfl⟩:=List.mem_map.1 ha;exact h2 p hp
     ·obtain ⟨p,hp,rfl⟩:=List.mem_map.1 hb;exact h1 p hp
   have loop:∀ (k:Nat) (z:SQ) (ω:Tg) (w:World),k≤i→Top w0 ω w→BT ω w 7 g 57 [q[i].2.1.v,q[i].2.2.v]→OT ω w 2 57 2 r (sers (A.take k++z::A.drop k))→(∀ b∈A.drop k,cmpL b.1.1 q[i].1.1 > 0) →
     Y r (some ⟨g,0,none⟩) (k:Int) s ((s.n:Nat):Int) (i:Int) w:=by
    intro k
    induction k with
    | zero =>
     intro z ω w hki top bt o h1
     refine hY _ _ _ _ _ _ _ ?_
     unfold C.tocsinref10_Sorted.S15
     have sd:=drew_stp ω w
     exact cond_d (fun h=>by omega) (fun _=>done 0 z ω _ (by omega) (top.stp sd) (bt.stp sd) (o.stp sd) h1 (by simp))
    | succ k ihk =>
     intro z ω w hki top bt o h1
     refine hY _ _ _ _ _ _ _ ?_
     unfold C.tocsinref10_Sorted.S15
     have sd:=drew_stp ω w
     have topd:=top.stp sd
     have bd:=bt.stp sd
     have od:=o.stp sd
     have hkA:k<A.length:=by omega
     have hkl:(A.take (k+1)).length=k+1:=by rw [List.length_take];omega
     have hgk:(A.take (k+1)++z::A.drop (k+1))[k]?=some A[k]:=by
      rw [List.getElem?_append_left (by omega),List.getElem?_take,if_pos (by omega),List.getElem?_eq_getElem hkA]
     have ek:IntKind.i64.wrap (((k+1:Nat):Int)-1)=(k:Int):=by rw [wI64 (by omega) (by omega)];omega
     refine cond_d (fun _=>?_) (fun h=>by omega)
     rw [ek]
     refine rdQ_at od.rd (k:=k) rfl hgk fun p f0 f1=>cSl_at f0<|ptr_at<|cSl_at (s:=q[i].2.1) (by rw [bd.cell];rfl) ?_
     have hAk:=hel _ (List.getElem_mem hkA)
     refine rcmp_ok (hAk.lb.keep topd.k) (hsx.lb.keep topd.k) hAk.l9 fun w6 k6=>?_
     have s6:=k6.stp0 ω
     have top6:=topd.stp s6
     have b6:=bd.stp s6
     have o6:=od.stp s6
     refine cond_d (fun hgt=>?_) (fun hle=>?_)
     ·refine rdQ_at o6.rd (k:=k) rfl hgk fun p f0 f1=>cSl_at f0<|cSl_at f1 ?_
      refine st2_ok (k:=k+1) o6 rfl (by rw [List.length_append,hkl,List.length_cons];omega) A[k] fun ω7 w7 k7 o7=>?_
      rw [ins_step A k hkA z] at o7
      refine ihk A[k] ω7 w7 (by omega) (top6.stp k7) (b6.stp k7) o7 fun b hb=>?_
      rw [List.drop_eq_getElem_cons hkA] at hb
      rcases List.mem_cons.1 hb with rfl | hb
      ·exact hgt
      ·exact h1 b hb
     ·refine done (k+1) z ω w6 hki top6 b6 o6 h1 fun b hb=>?_
      obtain ⟨j,hj,rfl⟩:=List.mem_iff_getElem.1 hb
      rw [hkl] at hj
      rw [List.getElem_take]
      by_cases hjk:j=k
      ·subst hjk;exact hle
      ·have:=List.pairwise_iff_getElem.1 upA j k (by rw [List.length_map];omega) (by rw [List.length_map];omega) (by omega)
       rw [List.getElem_map,List.getElem_map] at this
       have hle':leS A[k].1 q[i].1:=by unfold leS;have:=cmpL_cmp.anti A[k].1.1 q[i].1.1;omega
       have:=cmp_le this hle'
       have:=cmpL_cmp.anti A[j].1.1 q[i].1.1
       omega
   have:=loop i q[i] ω4 w4 (by omega) top4 b4 o4' (by rw [List.drop_of_length_le (by omega)];simp)
   rw [show ((out.n:Nat):Int)=(i:Int) by omega]
   exact this
 exact key q.length 0 nilS [] (fun _=>0) w0 (by omega) (Top.init w0) (OT.nil _ _ _ _ _) (by simp) rfl
end Go.Proofs.YtmfgmcajelmgbaaGreatDoor.Bk

namespace Go.Proofs.YtmfgmcajelmgbaaGreatDoor.Bk
open Go Vm Go.RowKit Num Mem Utf Lib Lab Vint Bits
variable {ω ω' : Tg} {w w' w0 : World}
theorem take_sers (q:QS) (n:Nat) (h:n≤q.length):((sers q).drop (0*2)).take ((n-0)*2)=sers (q.take n):=by
 have e:sers q=sers (q.take n)++sers (q.drop n):=by rw [← sers_app,List.take_append_drop]
 have l:(sers (q.take n)).length=n*2:=by rw [sers_len,List.length_take,Nat.min_eq_left h]
 rw [e,Nat.zero_mul,List.drop_zero,Nat.sub_zero,List.take_append_of_le_length (by omega),List.take_of_length_le (by omega)]
def wr1 (pre:List Ser) (x:Ser):Int:=if (rt x.1).1≠0 then (rt x.1).1 else if metB pre x.1=true then 6 else serE x
theorem rwrong_ok {s a b:Sl} {q:QS} {x:Ser} (h:RdQ w0 s q) (hl:q.length≤100000000) (hx:SeOk w0 (x,a,b)) {K:Int→World→Prop} (hK:∀ w',Keep w0 w'→K (wr1 (q.map (·.1)) x) w'):C.tocsinref10_wrong s a b w0 K:=by
 have hsn:=h.n
 have hlb:Rd w0 a 2 (labs x.1):=hx.lb
 have hsm:Rd w0 b 2 (Chunk.smps x.2):=hx.sm
 have hll:∀ y∈x.1,y.2.size≤140737488355300:=hx.ll
 have hl9:x.1.length≤9000000000000000000:=hx.l9
 have hbn:=smN hsm
 unfold C.tocsinref10_wrong
 refine newD fun g w1 k1 hg b1=>cSl_at (s:=a) (by rw [b1.cell];rfl) ?_
 unfold wr1 at hK
 refine rright_ok (hlb.keep k1.1) hll fun w2 k2=>cond_ne (fun he=>?_) (fun he=>?_)
 ·rw [if_pos he] at hK;exact hK w2 (Keep.trans k1.1 k2)
 rw [if_neg (by simpa using he)] at hK
 have b2:=b1.keep k2
 have k02:=Keep.trans k1.1 k2
 unfold C.tocsinref10_wrong.S9
 refine C.tocsinref10_wrong.L5_ind fun X hX=>?_
 have key:∀ (d i:Nat) (w:World),i+d=q.length→Keep w2 w→metB ((q.map (·.1)).take i) x.1=false→X (some ⟨g,0,none⟩) s ((s.n:Nat):Int) (i:Int) w:=by
  intro d
  induction d with
  | zero =>
   intro i w hi k hm
   refine hX _ _ _ _ _ ?_
   unfold C.tocsinref10_wrong.S7 C.tocsinref10_wrong.S2
   have bk:=b2.keep k
   have k0:=Keep.trans k02 k
   rw [List.take_of_length_le (by rw [List.length_map];omega)] at hm
   rw [if_neg (by rw [hm];decide)] at hK
   refine cond_d (fun h=>by omega) (fun _=>ptr_at<|cSl_at (s:=b) (by rw [addr_add,bk.cell];rfl) ?_)
   refine cond_eq (fun h0=>?_) (fun h0=>?_)
   ·have e:serE x=5:=by unfold serE;rw [if_pos (List.eq_nil_of_length_eq_zero (by omega))]
    have:=hK w k0
    rwa [e] at this
   ·refine ptr_at<|cSl_at (s:=a) (by rw [bk.cell];rfl)<|cSl_at (s:=b) (by rw [addr_add,bk.cell];rfl) ?_
    refine rframeS_ok (hx.keep k0) he (fun e=>h0 (by rw [hbn,e];rfl)) (fun hE w3 k3=>hK w3 (Keep.trans k0 k3)) (fun hE r w3 k3 o3=>?_)
    have:=hK w3 (Keep.trans k0 k3)
    rwa [hE] at this
  | succ d ih =>
   intro i w hi k hm
   refine hX _ _ _ _ _ ?_
   unfold C.tocsinref10_wrong.S7
   have hiq:i<q.length:=by omega
   have hy:q[i]?=some q[i]:=List.getElem?_eq_getElem hiq
   have k0:=Keep.trans k02 k
   have hs:=(h.el _ (List.getElem_mem hiq)).keep k0
   refine cond_d (fun _=>?_) (fun h=>by omega)
   refine rdQ_at (h.rd.keep k0) (k:=i) rfl hy fun p e0 e1=>cSl_at e0<|cSl_at e1 ?_
   refine locS fun g3 w3 k3 hg3 b3=>?_
   have bk:=b2.keep (Keep.trans k k3.1)
   refine cSl_at (s:=q[i].2.1) (by rw [b3.cell];rfl)<|ptr_at<|cSl_at (s:=a) (by rw [bk.cell];rfl) ?_
   refine rsame_ok (hs.lb.keep k3.1) (hlb.keep (Keep.trans k0 k3.1)) hs.l9 fun w4 k4=>?_
   have k04:=Keep.trans k0 (Keep.trans k3.1 k4)
   have et:(q.map (·.1)).take (i+1)=(q.map (·.1)).take i++[q[i].1]:=by
    rw [List.take_succ_eq_append_getElem (by rw [List.length_map];exact hiq),List.getElem_map]
   refine cond_d (fun hs=>?_) (fun hs=>?_)
   ·have hmt:metB (q.map (·.1)) x.1=true:=metB_iff.2 (by rw [← hs];exact List.mem_map_of_mem (List.mem_map_of_mem (List.getElem_mem hiq)))
    have:=hK w4 k04
    rwa [if_pos hmt] at this
   ·rw [wI64 (by omega) (by omega),show (i:Int)+1=((i+1:Nat):Int) by omega]
    refine ih (i+1) w4 (by omega) (Keep.trans k (Keep.trans k3.1 k4)) ?_
    rw [et]
    unfold metB at hm ⊢
    rw [List.any_append,hm]
    simp [hs]
 exact key q.length 0 w2 (by omega) (Keep.refl _) rfl
theorem rbuild_ok {s:Sl} {q:QS} (h:RdQ w0 s q) (hl:q.length≤100000000) {K:Sl→Int→Int→World→Prop}
  (hK:∀ r w',Keep w0 w'→OwnB w' w0.heap.size r (buildR (q.map (·.1))).1→K r (buildR (q.map (·.1))).2.1 ((buildR (q.map (·.1))).2.2:Int) w'):C.tocsinref10_Build s w0 K:=by
 have hsn:=h.n
 have hLl:(q.map (·.1)).length=q.length:=List.length_map _
 have hsz:∀ x∈q.map (·.1),x.2.length≤11000000:=fun x hx=>by
  obtain ⟨p,hp,rfl⟩:=List.mem_map.1 hx
  exact (h.el p hp).sl
 unfold C.tocsinref10_Build
 unfold buildR at hK
 refine cond_d (fun h1=>?_) (fun h1=>?_)
 ·rw [if_pos (by omega)] at hK;exact hK nilS w0 (Keep.refl _) (OwnB.nil _ _)
 rw [if_neg (by omega)] at hK
 have hcb:=cnt_le hsz
 -- behind the numbers
 have head:(wrg [] (q.map (·.1)) 0).1=0→∀ w,Keep w0 w→C.tocsinref10_Build.S20 K s (cntOf (q.map (·.1)):Int) (loOf (q.map (·.1))) (hiOf (q.map (·.1))) w:=by
  intro hz w k
  rw [if_neg (by simpa using hz)] at hK
  have fit:=fit_of hz
  have fit':Fit (srt (q.map (·.1))):=fit.perm (srt_perm _)
  have ris:Ris (q.map (·.1)):=fit_ris fit fun x hx y hy=>by
   obtain ⟨p,hp,rfl⟩:=List.mem_map.1 hx
   exact (h.el p hp).fl y hy
  have ehd:hd (srt (q.map (·.1)))=hd (q.map (·.1)):=hd_perm (srt_perm _)
  have hhd:=hd_len ris (by omega) hsz
  have hlo:=lo_bd ris
  have hhi:=hi_bd ris
  have tail:∀ hb w1,Keep w w1→RdB w1 hb (hd (q.map (·.1)))→C.tocsinref10_Build.S11 K s hb w1:=by
   intro hb w1 k1 hh
   unfold C.tocsinref10_Build.S11
   refine convC (l:=magicB) (by rfl) (by rfl) fun m w4 k4 hm=>?_
   have k34:=Keep.trans k1 k4
   refine rputFrame_ok hm (hh.keep k4) (by decide) (fun hbig=>by omega) (fun _ r w5 k5 o5=>?_)
   unfold C.tocsinref10_Build.S9
   have hf:=frameOf_len (m:=hd (q.map (·.1))) (by omega)
   have k05:=Keep.trans k (Keep.trans k34 k5)
   refine rsorted_ok (h.keep k05) hl fun a q' w6 k6 pm em o6=>?_
   have k06:=Keep.trans k05 k6
   have hq':q'.length=q.length:=pm.length_eq
   have hel:∀ p∈q',SeOk w0 p:=fun p hp=>h.el p (pm.mem_iff.1 hp)
   rw [← em] at fit' hK ehd
   have hSl:(q'.map (·.1)).length=q'.length:=List.length_map _
   have hS':∀ i (hi:i<q'.length),(q'.map (·.1))[i]?=some q'[i].1:=fun i hi=>by rw [List.getElem?_map,List.getElem?_eq_getElem hi];rfl
   rw [← ehd] at o5 hhd hf
   generalize q'.map (·.1)=S at *
   have han:=rdQ_n o6.rd
   refine C.tocsinref10_Build.L5_ind fun X hX=>?_
   have key:∀ (d i:Nat) (out:Sl) (w:World),i+d=q'.length→Keep w6 w→OwnB w w4.heap.size out (upto S i)→(upto S i).length≤1048576→X out a ((a.n:Nat):Int) (i:Int) w:=by
    intro d
    induction d with
    | zero =>
     intro i out w hi kk o hle
     refine hX _ _ _ _ _ ?_
     unfold C.tocsinref10_Build.S7 C.tocsinref10_Build.S2
     refine cond_d (fun h=>by omega) (fun _=>?_)
     have ei:i=S.length:=by omega
     rw [ei,upto_all] at o hle
     rw [if_neg (by omega)] at hK
     exact hK out w (Keep.trans k06 kk) (o.mono (Keep.trans k k34).size)
    | succ d ih =>
     intro i out w hi kk o hle
     refine hX _ _ _ _ _ ?_
     unfold C.tocsinref10_Build.S7
     have hiq:i<q'.length:=by omega
     have hx:q'[i]?=some q'[i]:=List.getElem?_eq_getElem hiq
     have k0:=Keep.trans k06 kk
     have hs:=(hel _ (List.getElem_mem hiq)).keep k0
     have hiS:i<S.length:=by omega
     have eS:S[i]=q'[i].1:=by have:=hS' i hiq;rw [List.getElem?_eq_getElem hiS] at this;exact Option.some.inj this
     refine cond_d (fun _=>?_) (fun h=>by omega)
     refine rdQ_at (o6.rd.keep kk) (k:=i) rfl hx fun p e0 e1=>cSl_at e0<|cSl_at e1 ?_
     refine locS fun g w7 k7 hg b7=>?_
     refine cSl_at (s:=q'[i].2.1) (by rw [b7.cell];rfl)<|cSl_at (s:=q'[i].2.2) (by rw [addr_add,b7.cell];rfl) ?_
     have hs7:SeOk w7 (q'[i].1,q'[i].2.1,q'[i].2.2):=hs.keep k7.1
     have hrt:(rt q'[i].1.1).1=0:=by rw [← eS];exact fit'.rt _ (List.getElem_mem hiS)
     have hok:serE q'[i].1=0:=by rw [← eS];exact fit'.ok _ (List.getElem_mem hiS)
     have hri:=fit'.rising (List.getElem_mem hiS)
     rw [eS] at hri
     refine rframeS_ok hs7 hrt hri.1 (fun hbad=>absurd hok hbad) (fun _ f w8 k8 o8=>?_)
     have k78:=Keep.trans k7.1 k8
     have hfl:=frameOf_len hri.2.2
     refine rputFrame_ok (OwnB.rd (Own.keep o k78)) (OwnB.rd o8) (by omega) (fun hbig=>by have:=hri.2.2;omega) (fun _ out2 w9 k9 o9=>?_)
     have eu:upto S (i+1)=upto S i++frameOf (pay q'[i].1):=by rw [upto_succ hiS,eS]
     rw [← eu] at o9
     have hn9:=OwnB.len o9
     have kk9:=Keep.trans kk (Keep.trans k78 k9)
     refine cond_d (fun hbig=>?_) (fun hsm=>?_)
     ·have:=upto_le S (i+1)
      rw [if_pos (by omega)] at hK
      exact hK nilS w9 (Keep.trans k06 kk9) (OwnB.nil _ _)
     ·rw [wI64 (by omega) (by omega),show (i:Int)+1=((i+1:Nat):Int) by omega]
      refine ih (i+1) out2 w9 (by omega) kk9 (o9.mono ?_) (by omega)
      have:=k5.size;have:=k6.size;have:=(Keep.trans kk k78).size;omega
   have e0:upto S 0=magicB++frameOf (hd S):=by unfold upto;simp [flat]
   refine key q'.length 0 r w6 (by omega) (Keep.refl _) (by rw [e0];exact Own.keep o5 k6) ?_
   rw [e0,List.length_append]
   have:magicB.length=8:=rfl
   omega
  unfold C.tocsinref10_Build.S20 C.tocsinref10_Build.S18
  generalize q.map (·.1)=S at *
  refine new_at ?_
  have kA:=Keep.alloc w (.cells #[(.int .u64 (IntKind.u64.wrap ((s.n:Nat):Int))),(.int .u64 (IntKind.u64.wrap (cntOf S:Int))),(.int .u64 (IntKind.u64.wrap (loOf S))),(.int .u64 (IntKind.u64.wrap (hiOf S)))] 105)
  have hrd:Rd (w.alloc (.cells #[(.int .u64 (IntKind.u64.wrap ((s.n:Nat):Int))),(.int .u64 (IntKind.u64.wrap (cntOf S:Int))),(.int .u64 (IntKind.u64.wrap (loOf S))),(.int .u64 (IntKind.u64.wrap (hiOf S)))] 105)) ⟨some ⟨w.heap.size,0,none⟩,4,4⟩ 1 ((hdN S).map fun n:Nat=>Value.int .u64 (n:Int)):=by
   have:=rd_new (w:=w) (e:=105) (cs:=#[(.int .u64 (IntKind.u64.wrap ((s.n:Nat):Int))),(.int .u64 (IntKind.u64.wrap (cntOf S:Int))),(.int .u64 (IntKind.u64.wrap (loOf S))),(.int .u64 (IntKind.u64.wrap (hiOf S)))]) (n:=4) (sz:=1) rfl
   have e:(#[(.int .u64 (IntKind.u64.wrap ((s.n:Nat):Int))),(.int .u64 (IntKind.u64.wrap (cntOf S:Int))),(.int .u64 (IntKind.u64.wrap (loOf S))),(.int .u64 (IntKind.u64.wrap (hiOf S)))]:Array Value).toList=(hdN S).map fun n:Nat=>Value.int .u64 (n:Int):=by
    rw [wU64_id (by omega) (by omega),wU64_id (by omega) (by omega),wU64_id (by omega) (by omega),wU64_id (by omega) (by omega)]
    simp only [hdN,List.map_cons,List.map_nil]
    rw [Int.toNat_of_nonneg hlo.1,Int.toNat_of_nonneg hhi.1,show s.n=S.length by omega]
   rw [e] at this
   exact this
  have hN:∀ n∈hdN S,n<18446744073709551616:=by
   intro n hn
   simp only [hdN,List.mem_cons,List.not_mem_nil,or_false] at hn
   rcases hn with rfl | rfl | rfl | rfl<;>omega
  have hNl:(hdN S).length=4:=rfl
  rw [hd_flat] at tail
  generalize hdN S=NS at *
  generalize hwA:w.alloc (.cells #[(.int .u64 (IntKind.u64.wrap ((s.n:Nat):Int))),(.int .u64 (IntKind.u64.wrap (cntOf S:Int))),(.int .u64 (IntKind.u64.wrap (loOf S))),(.int .u64 (IntKind.u64.wrap (hiOf S)))] 105)=wA at *
  refine C.tocsinref10_Build.L14_ind fun X hX=>?_
  have key:∀ (d i:Nat) (hb:Sl) (w5:World),i+d=4→Keep wA w5→RdB w5 hb ((NS.take i).flatMap putU)→((NS.take i).flatMap putU).length≤10*i→X s hb ⟨some ⟨w.heap.size,0,none⟩,4,4⟩ (((⟨some ⟨w.heap.size,0,none⟩,4,4⟩:Sl).n:Nat):Int) (i:Int) w5:=by
   intro d
   induction d with
   | zero =>
    intro i hb w5 hi k5 o hle
    refine hX _ _ _ _ _ _ ?_
    unfold C.tocsinref10_Build.S16
    refine cond_d (fun h=>by simp only at h;omega) (fun _=>tail hb w5 (Keep.trans kA k5) ?_)
    rwa [List.take_of_length_le (by omega)] at o
   | succ d ih =>
    intro i hb w5 hi k5 o hle
    refine hX _ _ _ _ _ _ ?_
    unfold C.tocsinref10_Build.S16
    have hi4:i<NS.length:=by omega
    refine cond_d (fun _=>?_) (fun h=>by simp only at h;omega)
    refine Rd.ix (hrd.keep k5) (by decide) (by omega) (by simp only;omega) fun p hc=>?_
    refine cI_at (n:=(NS[i]:Int)) (by
     have:=hc 0 (.int .u64 (NS[i]:Int)) (by decide) (by rw [Int.toNat_natCast,Nat.mul_one,Nat.add_zero,List.getElem?_map,List.getElem?_eq_getElem hi4];rfl)
     rwa [show p.add 0=p by simp [Addr.add]] at this) ?_
    have hlt:=hN _ (List.getElem_mem hi4)
    refine rputU_ok hlt o (by omega) fun r w6 k6 o6=>?_
    rw [wI64 (by omega) (by omega),show (i:Int)+1=((i+1:Nat):Int) by omega]
    have et:(NS.take (i+1)).flatMap putU=(NS.take i).flatMap putU++putU NS[i]:=by rw [List.take_succ_eq_append_getElem hi4,List.flatMap_append];simp
    have h10:=putU_len64 hlt
    exact ih (i+1) r w6 (by omega) (Keep.trans k5 k6) (by rw [et];exact o6.rd) (by rw [et,List.length_append];omega)
  exact key 4 0 nilS wA (by omega) (Keep.refl _) (RdB.nil _) (by simp)
 refine C.tocsinref10_Build.L23_ind fun X hX=>?_
 have key:∀ (d i:Nat) (w:World),i+d=q.length→Keep w0 w→Fit ((q.map (·.1)).take i)→wrg ((q.map (·.1)).take i) ((q.map (·.1)).drop i) i=wrg [] (q.map (·.1)) 0 →
   X s (cntOf ((q.map (·.1)).take i):Int) (loOf ((q.map (·.1)).take i)) (hiOf ((q.map (·.1)).take i)) s ((s.n:Nat):Int) (i:Int) w:=by
  intro d
  induction d with
  | zero =>
   intro i w hi k ft e
   refine hX _ _ _ _ _ _ _ _ ?_
   unfold C.tocsinref10_Build.S25
   refine cond_d (fun h=>by omega) (fun _=>?_)
   rw [List.drop_of_length_le (by omega)] at e
   rw [List.take_of_length_le (by omega)]
   exact head (by rw [← e];rfl) w k
  | succ d ih =>
   intro i w hi k ft e
   refine hX _ _ _ _ _ _ _ _ ?_
   unfold C.tocsinref10_Build.S25
   have hiq:i<q.length:=by omega
   have hiL:i<(q.map (·.1)).length:=by omega
   have hx:q[i]?=some q[i]:=List.getElem?_eq_getElem hiq
   have eL:(q.map (·.1))[i]=q[i].1:=by rw [List.getElem_map]
   have hs:=(h.el _ (List.getElem_mem hiq)).keep k
   rw [List.drop_eq_getElem_cons hiL,eL,wrg] at e
   refine cond_d (fun _=>?_) (fun h=>by omega)
   refine rdQ_at (h.rd.keep k) (k:=i) rfl hx fun p e0 e1=>cSl_at e0<|cSl_at e1 ?_
   refine locS fun g w3 k3 hg b3=>?_
   refine Rd.slc (h.rd.keep (Keep.trans k k3.1)) (lo:=0) (hi:=i) (by omega) (by omega) rfl rfl fun r hr _ _=>?_
   rw [take_sers q i (by omega)] at hr
   have kd:=Keep.trans k (Keep.trans k3.1 (Keep.drew w3))
   have bd:Blk w3.drew g _ _:=b3.drew
   refine cSl_at (s:=q[i].2.1) (by rw [bd.cell];rfl)<|cSl_at (s:=q[i].2.2) (by rw [addr_add,bd.cell];rfl) ?_
   have hq1:RdQ w3.drew r (q.take i):=⟨hr.drew,fun p hp=>(h.el p (List.mem_of_mem_take hp)).keep kd⟩
   have hsd:SeOk w3.drew (q[i].1,q[i].2.1,q[i].2.2):=hs.keep (Keep.trans k3.1 (Keep.drew w3))
   refine rwrong_ok hq1 (by rw [List.length_take];omega) hsd fun w4 k4=>?_
   have k04:=Keep.trans kd k4
   have emt:(q.take i).map (·.1)=(q.map (·.1)).take i:=by rw [List.map_take]
   rw [emt]
   have et:(q.map (·.1)).take (i+1)=(q.map (·.1)).take i++[q[i].1]:=by rw [List.take_succ_eq_append_getElem hiL,eL]
   refine cond_ne (fun hbad=>?_) (fun hok=>?_)
   ·have ew:wrg [] (q.map (·.1)) 0=(wr1 ((q.map (·.1)).take i) q[i].1,i):=by
     rw [← e]
     unfold wr1 at hbad ⊢
     split
     ·rfl
     ·split
      ·rfl
      ·rw [if_neg (by assumption),if_neg (by assumption)] at hbad
       rw [if_pos hbad]
    rw [ew,if_pos hbad] at hK
    exact hK nilS w4 k04 (OwnB.nil _ _)
   have hw1:(rt q[i].1.1).1=0∧metB ((q.map (·.1)).take i) q[i].1.1=false∧serE q[i].1=0:=by
    unfold wr1 at hok
    split at hok
    ·rename_i h1;exact absurd hok h1
    ·rename_i h1
     split at hok
     ·exact absurd hok (by decide)
     ·rename_i h2;exact ⟨by simpa using h1,by simpa using h2,hok⟩
   rw [if_neg (by simpa using hw1.1),if_neg (by rw [hw1.2.1];decide),if_neg (by simpa using hw1.2.2)] at e
   rw [← et] at e
   have ft':Fit ((q.map (·.1)).take (i+1)):=by
    rw [et]
    refine fit_of (l:=(q.map (·.1)).take i++[q[i].1]) ?_
    have:=fit_wrg ((q.map (·.1)).take i) [] 0 (by simpa using ft)
    have app:∀ (r pre:List Ser) (j:Nat) (y:Ser),Fit (pre++r)→wr1 (pre++r) y=0→(wrg pre (r++[y]) j).1=0:=by
     intro r
     induction r with
     | nil =>
      intro pre j y hf hy
      rw [List.append_nil] at hf hy
      rw [List.nil_append,wrg]
      unfold wr1 at hy
      split
      ·rename_i h1;rw [if_pos h1] at hy;exact hy
      ·rename_i h1
       rw [if_neg h1] at hy
       split
       ·rename_i h2;rw [if_pos h2] at hy;exact absurd hy (by decide)
       ·rename_i h2
        rw [if_neg h2] at hy
        rw [if_neg (by simpa using hy)];rfl
     | cons z r ihr =>
      intro pre j y hf hy
      have hz:z∈pre++z::r:=List.mem_append_right _ (List.mem_cons_self ..)
      rw [List.cons_append,wrg,if_neg (by simpa using hf.rt z hz),if_neg ?_,if_neg (by simpa using hf.ok z hz)]
      ·exact ihr (pre++[z]) (j+1) y (by simpa using hf) (by simpa using hy)
      ·intro hm
       rw [metB_iff] at hm
       have:=hf.nd
       rw [List.map_append,List.nodup_append] at this
       exact this.2.2 _ hm z.1 (by simp) rfl
    exact app _ [] 0 _ (by simpa using ft) (by simpa using hok)
   have b4:=bd.keep k4
   have hs4:SeOk w4 q[i]:=hsd.keep k4
   have hbn:=smN hs4.sm
   have hne:q[i].1.2≠[]:=by
    intro e0
    have:=hw1.2.2
    unfold serE at this
    rw [if_pos e0] at this
    exact absurd this (by decide)
   have hlp:0<q[i].1.2.length:=List.length_pos_iff.2 hne
   have hsl:=hs.sl
   have hct:=cnt_le (l:=(q.map (·.1)).take i) fun y hy=>hsz y (List.mem_of_mem_take hy)
   rw [List.length_take,Nat.min_eq_left (by omega)] at hct
   have rd1:∀ {Z:Sl→Prop},Z q[i].2.2→G.cSl ((⟨g,0,none⟩:Addr).add 1) w4 Z:=fun hz=>cSl_at (s:=q[i].2.2) (by rw [addr_add,b4.cell];rfl) hz
   have rd0:∀ {Z:Int→Prop},Z (q[i].1.2.headD (0,0)).1→G.ix q[i].2.2.a q[i].2.2.n (0:Int) 2 fun p=>G.cI .i64 p w4 Z:=fun hz =>
    Chunk.rdS_at hs4.sm (k:=0) rfl (smp_head hne) fun p2 f0 _=>cI_at f0 hz
   have rdl:∀ {Z:Int→Prop},Z (Chunk.lastS q[i].1.2).1→G.ix q[i].2.2.a q[i].2.2.n (IntKind.i64.wrap (((q[i].2.2.n:Nat):Int)-(1:Int))) 2 fun p=>G.cI .i64 p w4 Z:=fun hz =>
    Chunk.rdS_at hs4.sm (k:=q[i].1.2.length-1) (by rw [wI64 (by omega) (by omega)];omega) (smp_last hne) fun p3 g0 _=>cI_at g0 hz
   have ecn:IntKind.i64.wrap ((cntOf ((q.map (·.1)).take i):Int)+((q[i].2.2.n:Nat):Int))=(cntOf ((q.map (·.1)).take (i+1)):Int):=by
    rw [wI64 (by omega) (by omega),et,cnt_snoc,hbn];omega
   have go:=ih (i+1) w4 (by omega) k04 ft' e
   rw [show ((i+1:Nat):Int)=IntKind.i64.wrap ((i:Int)+1) by rw [wI64 (by omega) (by omega)];omega] at go
   refine rd1 ?_
   rw [ecn]
   by_cases hi0:i=0
   ·have et0:(q.map (·.1)).take i=[]:=by rw [hi0];rfl
    have e1:(q[i].1.2.headD (0,0)).1=loOf ((q.map (·.1)).take (i+1)):=by rw [et,et0];rfl
    have e2:(Chunk.lastS q[i].1.2).1=hiOf ((q.map (·.1)).take (i+1)):=by rw [et,et0];rfl
    refine cond_t (by simp [hi0])<|rd1<|rd0<|cond_t (by simp [hi0])<|rd1<|rdl ?_
    rw [e1,e2];exact go
   ·have hnil:(q.map (·.1)).take i≠[]:=by
     intro e
     have:=congrArg List.length e
     rw [List.length_take] at this
     simp only [List.length_nil] at this;omega
    have h0f:((i:Int)==(0:Int))=false:=by simpa using hi0
    rw [et,lo_snoc hnil,hi_snoc hnil,← et] at go
    refine cond_f h0f<|rd1<|rd0<|cond_d (fun hlt=>?_) (fun hge=>?_)
    ·rw [if_pos hlt] at go
     refine rd1<|rd0<|cond_f h0f<|rd1<|rdl<|cond_d (fun hl2=>?_) (fun hl2=>?_)
     ·rw [if_pos hl2] at go;exact rd1<|rdl go
     ·rw [if_neg hl2] at go;exact go
    ·rw [if_neg hge] at go
     refine cond_f h0f<|rd1<|rdl<|cond_d (fun hl2=>?_) (fun hl2=>?_)
     ·rw [if_pos hl2] at go;exact rd1<|rdl go
     ·rw [if_neg hl2] at go;exact go
 exact key q.length 0 w0 (by omega) (Keep.refl _) fit_nil rfl
end Go.Proofs.YtmfgmcajelmgbaaGreatDoor.Bk

namespace Go.Proofs.YtmfgmcajelmgbaaGreatDoor.Bk
open Go Vm Go.RowKit Num Mem Utf Lib Lab Vint Bits Rep
variable {ω ω' : Tg} {w w' w0 : World} {T : Nat → Bool} {t u g gm : Nat}
theorem locL {a b:ByteArray} {Z:Addr→World→Prop} (hK:∀ g w',KD w w'→w.heap.size≤g→Blk w' g 93 [.string a,.string b]→Z ⟨g,0,none⟩ w') :
  G.new (.cells #[(.string (⟨#[]⟩:ByteArray)),(.string (⟨#[]⟩:ByteArray))] 93) w fun p w1=>G.st p (.string a) w1 fun w2=>G.st (p.add 1) (.string b) w2 fun w3=>Z p w3 :=
 newD fun g w1 k1 hg b1=>stD hg k1 b1 (by simp) fun w2 k2 b2=>stDA hg k2 b2 (by simp) fun w3 k3 b3=>hK g w3 k3 hg b3
theorem get_ok {s:Sl} {m:List Lb} (h:Rd w0 s 2 (labs m)) (hl:m.length≤100000000) {n:ByteArray} {K:ByteArray→World→Prop} (hK:∀ w',Keep w0 w'→K (getF n m) w'):C.labels_Get s n w0 K:=by
 have hsn:=rdL_n h
 unfold C.labels_Get C.labels_Get.S9
 refine C.labels_Get.L5_ind fun X hX=>?_
 have key:∀ (d i:Nat) (w:World),i+d=m.length→Keep w0 w→getF n (m.drop i)=getF n m→X n s ((s.n:Nat):Int) (i:Int) w:=by
  intro d
  induction d with
  | zero =>
   intro i w hi k e
   refine hX _ _ _ _ _ ?_
   unfold C.labels_Get.S7 C.labels_Get.S2
   refine cond_d (fun h=>by omega) (fun _=>?_)
   rw [List.drop_of_length_le (by omega)] at e
   have:=hK w k
   rw [← e] at this
   exact this
  | succ d ih =>
   intro i w hi k e
   refine hX _ _ _ _ _ ?_
   unfold C.labels_Get.S7
   have him:i<m.length:=by omega
   have hx:m[i]?=some m[i]:=List.getElem?_eq_getElem him
   rw [List.drop_eq_getElem_cons him,getF] at e
   refine cond_d (fun _=>?_) (fun h=>by omega)
   refine rdL_at (h.keep k) (k:=i) rfl hx fun a a0 a1=>cS_at a0<|cS_at a1 ?_
   refine locL fun g w3 k3 hg b3=>cS_at (b:=m[i].1) (by rw [b3.cell];rfl) ?_
   have k03:=Keep.trans k k3.1
   rw [ba_ne]
   refine cond_d (fun he=>?_) (fun he=>?_)
   ·rw [if_pos he] at e
    refine cS_at (b:=m[i].2) (by rw [addr_add,b3.cell];rfl) ?_
    rw [e];exact hK w3 k03
   ·rw [if_neg he] at e
    rw [wI64 (by omega) (by omega),show (i:Int)+1=((i+1:Nat):Int) by omega]
    exact ih (i+1) w3 (by omega) k03 e
 exact key m.length 0 w0 (by omega) (Keep.refl w0) rfl
theorem ints_n {s:Sl} {l:List Nat} (h:Rd w s 1 (ints l)):s.n=l.length:=by have:=h.2.1;rw [ints_len] at this;omega
theorem postF_take (n v:ByteArray) {l:List Ser} {i:Nat} (hi:i<l.length):postF n v (l.take (i+1)) 0=postF n v (l.take i) 0++(if getF n l[i].1=v then [i] else []):=by
 rw [List.take_succ_eq_append_getElem hi,postF_snoc,Nat.zero_add,List.length_take,Nat.min_eq_left (by omega)]
theorem postE_ok {s:Sl} {q:QS} (h:RdQ w0 s q) (hl:q.length≤100000000) (h16:∀ p∈q,p.1.1.length≤100000000) {n:ByteArray} {K:Sl→World→Prop} (hK:∀ r w',Keep w0 w'→Mem.Own w' w0.heap.size 3 1 r (ints (postF n (⟨#[]⟩:ByteArray) (q.map (·.1)) 0))→K r w'):C.block_Block_Postings.L5 (fun r w=>K r w) n nilS s ((s.n:Nat):Int) (0:Int) w0:=by
 have hsn:=h.n
 skip
 refine C.block_Block_Postings.L5_ind fun X hX=>?_
 have hLl:(q.map (·.1)).length=q.length:=List.length_map _
 have key:∀ (d i:Nat) (out:Sl) (ω:Tg) (w:World),i+d=q.length→Top w0 ω w→OT ω w 2 3 1 out (ints (postF n (⟨#[]⟩:ByteArray) ((q.map (·.1)).take i) 0))→X n out s ((s.n:Nat):Int) (i:Int) w:=by
  intro d
  induction d with
  | zero =>
   intro i out ω w hi top o
   refine hX _ _ _ _ _ _ ?_
   unfold C.block_Block_Postings.S7 C.block_Block_Postings.S2
   refine cond_d (fun h=>by omega) (fun _=>?_)
   rw [List.take_of_length_le (by omega)] at o
   exact hK out w top.k (otNew o top)
  | succ d ih =>
   intro i out ω w hi top o
   refine hX _ _ _ _ _ _ ?_
   unfold C.block_Block_Postings.S7
   have hiq:i<q.length:=by omega
   have hx:q[i]?=some q[i]:=List.getElem?_eq_getElem hiq
   have hsx:=h.el _ (List.getElem_mem hiq)
   have et:=postF_take n (⟨#[]⟩:ByteArray) (l:=q.map (·.1)) (i:=i) (by omega)
   have hvl:=postF_len n (⟨#[]⟩:ByteArray) ((q.map (·.1)).take i) 0
   have htl:((q.map (·.1)).take i).length≤i:=by rw [List.length_take];omega
   rw [List.getElem_map] at et
   refine cond_d (fun _=>?_) (fun h=>by omega)
   refine rdQ_at (h.rd.keep top.k) (k:=i) rfl hx fun a e0 e1=>cSl_at e0<|cSl_at e1 ?_
   refine locS fun g w3 k3 hg b3=>cSl_at (s:=q[i].2.1) (by rw [b3.cell];rfl) ?_
   have s3:=k3.1.stp0 ω
   refine get_ok (hsx.lb.keep (top.stp s3).k) (h16 _ (List.getElem_mem hiq)) fun w4 k4=>?_
   have s4:=k4.stp0 ω
   have top4:=(top.stp s3).stp s4
   have o4:=(o.stp s3).stp s4
   have hon:=ints_n o4.rd
   rw [wI64 (by omega) (by omega),show (i:Int)+1=((i+1:Nat):Int) by omega,ba_ne]
   refine cond_d (fun heq=>?_) (fun hne=>?_)
   ·rw [if_pos heq] at et
    refine push_T tiN o4 (n:=1) rfl (by intro v hv;simp at hv;subst hv;rfl) (by simp only [maxLen];omega) (by omega) fun r ω5 w5 k5 o5 _=>?_
    refine ih (i+1) r ω5 w5 (by omega) (top4.stp k5) ?_
    rw [et,ints_app];exact o5
   ·rw [if_neg hne,List.append_nil] at et
    refine ih (i+1) out ω w4 (by omega) top4 ?_
    rw [et];exact o4
 exact key q.length 0 nilS (fun _=>0) w0 (by omega) (Top.init w0) (OT.nil ..)
end Go.Proofs.YtmfgmcajelmgbaaGreatDoor.Bk

namespace Go.Proofs.YtmfgmcajelmgbaaGreatDoor.Rep
open Go Vm Go.RowKit Num Mem
variable {w : World} {α : Type}
theorem flat_at {enc:α→List Value} {k:Nat} (hk:∀ x,(enc x).length=k):∀ (m:List α) (i j:Nat),j<k→(m.flatMap enc)[i*k+j]?=(m[i]?).bind fun x=>(enc x)[j]?
 | [],i,j,_=>by simp
 | x::m,0,j,hj=>by
  simp only [List.flatMap_cons,Nat.zero_mul,Nat.zero_add]
  rw [List.getElem?_append_left (by rw [hk];exact hj)];simp
 | x::m,i+1,j,hj=>by
  simp only [List.flatMap_cons]
  rw [List.getElem?_append_right (by rw [hk,Nat.add_mul];omega),hk,show (i+1)*k+j-k=i*k+j by rw [Nat.add_mul];omega,flat_at hk m i j hj]
  simp
theorem flat_len {enc:α→List Value} {k:Nat} (hk:∀ x,(enc x).length=k):∀ m:List α,(m.flatMap enc).length=m.length*k
 | []=>by simp
 | x::m=>by simp only [List.flatMap_cons,List.length_append,List.length_cons,hk,flat_len hk m,Nat.add_mul];omega
theorem rows_of [Inhabited α] {s:Sl} {b:Nat} {es:List Sh} {enc:α→List Value} {Q:α→Prop} (hk:∀ x,(enc x).length=es.length) (hpos:0<es.length) (h:Cl w (.sl es) s.v b)
  (inv:∀ V:Nat→Value,(∀ j sh,es[j]?=some sh→Cl w sh (V j) b)→∃ x,(∀ j,j<es.length→(enc x)[j]?=some (V j))∧Q x) :
  ∃ m:List α,Rd w s es.length (m.flatMap enc)∧s.n=m.length∧s.n<b∧s.n≤maxLen∧∀ x∈m,Q x:=by
 have hb:=h.len
 obtain ⟨f,U,h1,h2,h3,h4,h5,h6,h7⟩:=h.sl_inv
 have get:∀ i,i<s.n→∃ x:α,(∀ j,j<es.length→(enc x)[j]?=some (U i j))∧Q x:=fun i hi=>inv (U i) fun j sh hj=>(h7 i j sh hi hj).mono (by have:=sumTo_ge f s.n i hi;omega)
 obtain ⟨g,hg⟩:∃ g:Nat→α,∀ i,i<s.n→(∀ j,j<es.length→(enc (g i))[j]?=some (U i j))∧Q (g i) :=
  ⟨fun i=>if hi:i<s.n then (get i hi).choose else default,fun i hi=>by simp only [dif_pos hi];exact (get i hi).choose_spec⟩
 refine ⟨(List.range s.n).map g,⟨h1,by rw [flat_len hk];simp,fun hne=>?_⟩,by simp,hb,by omega,fun x hx=>?_⟩
 ·have hn:0<s.n:=by
   rcases Nat.eq_zero_or_pos s.n with e | e
   ·rw [e] at hne;exact absurd rfl hne
   ·exact e
  obtain ⟨gb,o,ha,hc⟩:=h6 hn
  refine ⟨gb,o,ha,fun j v hv=>?_⟩
  have hj:j<s.n*es.length:=by
   have:=(List.getElem?_eq_some_iff.1 hv).1
   rwa [flat_len hk,List.length_map,List.length_range] at this
  have hi:j / es.length<s.n:=Nat.div_lt_of_lt_mul (by rw [Nat.mul_comm];exact hj)
  have hr:j % es.length<es.length:=Nat.mod_lt _ hpos
  have ej:j=j / es.length*es.length+j % es.length:=by rw [Nat.mul_comm];exact (Nat.div_add_mod j es.length).symm
  rw [ej] at hv ⊢
  rw [flat_at hk _ _ _ hr] at hv
  have hm:((List.range s.n).map g)[j / es.length]?=some (g (j / es.length)):=by simp [hi]
  rw [hm,Option.bind_some,(hg _ hi).1 _ hr] at hv
  injection hv with hv
  rw [← hv]
  obtain ⟨sh,hsh⟩:∃ sh,es[j % es.length]?=some sh:=⟨_,List.getElem?_eq_getElem hr⟩
  exact hc _ _ sh hi hsh
 ·obtain ⟨i,hi,rfl⟩:=List.mem_map.1 hx
  exact (hg i (List.mem_range.1 hi)).2
end Go.Proofs.YtmfgmcajelmgbaaGreatDoor.Rep

namespace Go.Proofs.YtmfgmcajelmgbaaGreatDoor.Bk
open Go Vm Go.RowKit Num Mem Utf Lib Lab Vint Bits Rep
variable {ω ω' : Tg} {w w' w0 : World} {T : Nat → Bool} {t u g gm : Nat}
theorem rt_one {v:UInt8} (hv:v.toNat<128):rt [((⟨#[97]⟩,⟨#[v]⟩):Lb)]=(0,0):=by
 have h1:namedB (Utf.bytes ⟨#[97]⟩) 64 false=true:=by decide
 have h2:valE (Utf.bytes ⟨#[v]⟩)=0:=by
  unfold valE
  rw [if_neg (by simp [Utf.bytes]),if_neg (by simp [Utf.bytes]),if_pos (ascii_valid (by simp [Utf.bytes];exact hv))]
 unfold rt
 rw [if_neg (by simp)]
 unfold rtGo
 rw [if_neg (by rw [h1];decide),if_neg (by rw [h2];simp),if_neg (by simp [backB])]
 rfl
def oneS (v:UInt8):Ser:=([(⟨#[97]⟩,⟨#[v]⟩)],[(5,4607182418800017408)])
theorem oneS_ris (v:UInt8):Chunk.Rising (oneS v).2:=Chunk.Rising.snoc (l:=[]) .nil (by decide) (by decide) rfl (by decide)
theorem oneS_ok {v:UInt8} (hv:v.toNat<128):serE (oneS v)=0:=by
 have h1:(oneS v).2≠[]:=by unfold oneS;simp
 have h2:(Chunk.swr [] (oneS v).2 0).1=0:=by show (Chunk.swr [] [(5,4607182418800017408)] 0).1=0;decide
 rw [serE_of h1 h2,if_neg ?_]
 have a:=put_small (m:=(oneS v).1) (by rw [show rt (oneS v).1=(0,0) from rt_one hv])
 have b:=cpay_len (chs (oneS v).2) (chs_each (oneS_ris v))
 have c:(chs (oneS v).2).length=1:=by
  have e:(oneS v).2.length=1:=rfl
  rw [chs_len];omega
 have d:=putU_len64 (n:=(chs (oneS v).2).length) (by omega)
 unfold pay
 simp only [List.length_append]
 omega
theorem oneS_ne:(oneS 50).1≠(oneS 49).1:=by
 intro e
 unfold oneS at e
 simp at e
theorem fit2:Fit [oneS 49,oneS 50]:=by
 refine ⟨fun x hx=>?_,fun x hx=>?_,?_⟩
 ·simp only [List.mem_cons,List.not_mem_nil,or_false] at hx
  rcases hx with rfl | rfl<;>(unfold oneS;rw [rt_one (by decide)])
 ·simp only [List.mem_cons,List.not_mem_nil,or_false] at hx
  rcases hx with rfl | rfl<;>exact oneS_ok (by decide)
 ·simp only [List.map_cons,List.map_nil,List.nodup_cons,List.mem_singleton,List.not_mem_nil,not_false_eq_true,List.nodup_nil,and_true]
  exact fun e=>oneS_ne e.symm
theorem blo2:Blo [oneS 49,oneS 50]:=by
 have fit:=fit2
 have hfl:∀ x∈[oneS 49,oneS 50],∀ y∈x.2,y.2<18446744073709551616:=by
  intro x hx y hy
  simp only [List.mem_cons,List.not_mem_nil,or_false] at hx
  rcases hx with rfl | rfl<;>(unfold oneS at hy;simp only [List.mem_cons,List.not_mem_nil,or_false] at hy;subst hy;decide)
 have hsl:∀ x∈[oneS 49,oneS 50],x.2.length≤11000000:=by
  intro x hx
  simp only [List.mem_cons,List.not_mem_nil,or_false] at hx
  rcases hx with rfl | rfl<;>(unfold oneS;simp)
 refine ⟨fit,hfl,?_,by simp,hsl,?_⟩
 ·refine List.pairwise_cons.2 ⟨fun y hy=>?_,List.pairwise_singleton ..⟩
  rw [List.mem_singleton] at hy
  subst hy
  have:cmpL (oneS 50).1 (oneS 49).1=1:=by decide +kernel
  unfold leS;omega
 ·have hh:=hd_len (fit_ris fit hfl) (by simp) hsl
  have hf:=frameOf_len (m:=hd [oneS 49,oneS 50]) (by omega)
  have hg:=Vint.flat_len (fs:=[oneS 49,oneS 50].map pay) (fun m hm=>by
   obtain ⟨x,hx,rfl⟩:=List.mem_map.1 hm
   exact (fit.rising hx).2.2)
  have hm:magicB.length=8:=rfl
  rw [List.length_map] at hg
  unfold bytesOf
  simp only [List.length_append,List.length_cons,List.length_nil] at hg ⊢
  omega
theorem build2:buildR [oneS 50,oneS 49]=(bytesOf [oneS 49,oneS 50],0,0):=by
 have hw:=fit_wrg [oneS 50,oneS 49] [] 0 (by rw [List.nil_append];exact fit2.perm (List.Perm.swap _ _ _))
 have es:srt [oneS 50,oneS 49]=[oneS 49,oneS 50]:=(srt_of (List.Perm.swap _ _ _) (by
  have:=(fit2.perm (List.Perm.swap (oneS 49) (oneS 50) [])).nd
  exact this) blo2.up).symm
 have hz:=blo2.sz
 unfold buildR
 rw [if_neg (by simp),hw,if_neg (by simp),es,if_neg (by omega)]
theorem post2:post [oneS 49,oneS 50] (⟨#[97]⟩,⟨#[50]⟩)=[1]:=by decide +kernel
theorem awake_ok (hT:DTab w) (ht:UTab w) (hv:Vint.Tab w) {K:Bool→World→Prop} (hK:∀ w',Keep w w'→K true w'):C.tocsinlaw10_awake w K:=by
 unfold C.tocsinlaw10_awake
 refine newD fun g1 w1 k1 _ b1=>newD fun g2 w2 k2 _ b2=>newD fun g3 w3 k3 _ b3=>newD fun g4 w4 k4 _ b4=>?_
 have k34:=Keep.trans k3.1 k4.1
 have k24:=Keep.trans k2.1 k34
 have k04:=Keep.trans k1.1 k24
 have hsm:Rd w4 ⟨some ⟨g1,0,none⟩,1,1⟩ 2 (Chunk.smps [(5,4607182418800017408)]):=by
  have:=Rd.blk (o:=0) (n:=1) (c:=1) (sz:=2) (b1.keep k24) (Nat.le_refl _) (by simp)
  simpa [Chunk.smps,Chunk.smpC] using this
 have hl2:Rd w4 ⟨some ⟨g2,0,none⟩,1,1⟩ 2 (labs [(⟨#[97]⟩,⟨#[50]⟩)]):=by
  have:=Rd.blk (o:=0) (n:=1) (c:=1) (sz:=2) (b2.keep k34) (Nat.le_refl _) (by simp)
  simpa [labs,labC] using this
 have hl1:Rd w4 ⟨some ⟨g3,0,none⟩,1,1⟩ 2 (labs [(⟨#[97]⟩,⟨#[49]⟩)]):=by
  have:=Rd.blk (o:=0) (n:=1) (c:=1) (sz:=2) (b3.keep k4.1) (Nat.le_refl _) (by simp)
  simpa [labs,labC] using this
 have hq:RdQ w4 ⟨some ⟨g4,0,none⟩,2,2⟩ [(oneS 50,⟨some ⟨g2,0,none⟩,1,1⟩,⟨some ⟨g1,0,none⟩,1,1⟩),(oneS 49,⟨some ⟨g3,0,none⟩,1,1⟩,⟨some ⟨g1,0,none⟩,1,1⟩)]:=by
  refine ⟨?_,fun p hp=>?_⟩
  ·have:=Rd.blk (o:=0) (n:=2) (c:=2) (sz:=2) b4 (Nat.le_refl _) (by simp)
   simpa [sers,serC] using this
  ·simp only [List.mem_cons,List.not_mem_nil,or_false] at hp
   have sz:∀ v:UInt8,(⟨#[v]⟩:ByteArray).size=1:=fun v=>rfl
   rcases hp with rfl | rfl
   ·exact ⟨hl2,hsm,by unfold oneS;simp,by unfold oneS;simp,by unfold oneS;simp [sz],by unfold oneS;simp⟩
   ·exact ⟨hl1,hsm,by unfold oneS;simp,by unfold oneS;simp,by unfold oneS;simp [sz],by unfold oneS;simp⟩
 refine build_ok (hT.keep k04) (ht.keep k04) (hv.keep k04) hq (by simp) fun b w5 k5 o5=>?_
 have eL:([(oneS 50,(⟨some ⟨g2,0,none⟩,1,1⟩:Sl),(⟨some ⟨g1,0,none⟩,1,1⟩:Sl)),(oneS 49,⟨some ⟨g3,0,none⟩,1,1⟩,⟨some ⟨g1,0,none⟩,1,1⟩)]:QS).map (·.1)=[oneS 50,oneS 49]:=rfl
 rw [eL,build2] at o5 ⊢
 dsimp only at o5 ⊢
 have k05:=Keep.trans k04 k5
 have hz:=blo2.sz
 refine open_ok (hT.keep k05) (ht.keep k05) (hv.keep k05) (OwnB.rd o5) (by omega) 1000 (Nat.le_refl _) (fun hn=>?_) (fun l hl g gm bs rs q es ω6 w6 top6 eq bk=>?_)
 ·rw [open_bytes blo2] at hn;cases hn
 rw [open_bytes blo2] at hl
 injection hl with hl
 subst hl
 refine cond_f rfl<|cond_f rfl<|cond_f rfl ?_
 have hql:q.length=2:=by have:=congrArg List.length eq;rw [List.length_map] at this;exact this
 rw [← eq] at bk
 refine postV_ok bk (by omega) (by decide +kernel) ⟨by decide,by decide⟩ fun r ω7 w7 k7 bk7 or7=>?_
 have hr:=or7.rd
 rw [eq,post2] at hr
 have hrn:r.n=1:=by have:=hr.2.1;rw [ints_len] at this;simpa using this.symm
 have top7:=top6.stp k7
 refine cond_t (by simp [hrn]) ?_
 refine Rd.ix hr (by decide) (by decide) (by omega) fun a ha=>cI_at (n:=1) (by have:=ha 0 (.int .i64 1) (by decide) rfl;rwa [show a.add 0=a by simp [Addr.add]] at this) ?_
 refine cond_t rfl<|len_ok (bk7.ar (by omega))<|cond_t (by simp [hql]) ?_
 have hc:cntOf (q.map (·.1))=2:=by rw [eq];rfl
 refine samples_ok (bk7.ar (by omega)) (by omega) fun w8 k8=>?_
 rw [hc]
 exact hK w8 (Keep.trans k05 (Keep.trans top7.k k8))
theorem labs_of {s:Sl} {b:Nat} (h:Cl w (.sl [.str,.str]) s.v b):∃ m:List Lb,Rd w s 2 (labs m)∧s.n=m.length∧s.n<b∧s.n≤maxLen∧∀ x∈m,x.1.size<b∧x.2.size<b :=
 rows_of (α:=Lb) (enc:=labC) (fun _=>rfl) (by decide) h fun V hV=>by
  obtain ⟨s0,e0,h0⟩:=(hV 0 _ rfl).str_inv
  obtain ⟨s1,e1,h1⟩:=(hV 1 _ rfl).str_inv
  refine ⟨(s0,s1),fun j hj=>?_,h0,h1⟩
  match j,hj with
  | 0,_=>rw [e0];rfl
  | 1,_=>rw [e1];rfl
theorem smps_of' {s:Sl} {b:Nat} (h:Cl w (.sl [.int .i64,.fl .f64]) s.v b):∃ m:List Smp,Rd w s 2 (Chunk.smps m)∧s.n=m.length∧s.n<b∧s.n≤maxLen∧∀ x∈m,x.2<18446744073709551616 :=
 rows_of (α:=Smp) (enc:=Chunk.smpC) (fun _=>rfl) (by decide) h fun V hV=>by
  obtain ⟨n,e0,_⟩:=(hV 0 _ rfl).int_inv
  obtain ⟨v,e1,a3⟩:=(hV 1 _ rfl).fl_inv
  refine ⟨(n,v),fun j hj=>?_,by simpa [Lit.wf] using a3⟩
  match j,hj with
  | 0,_=>rw [e0];rfl
  | 1,_=>rw [e1];rfl
instance:Inhabited SQ:=⟨(([],[]),nilS,nilS)⟩
abbrev serSh:Sh:=.sl [.sl [.str,.str],.sl [.int .i64,.fl .f64]]
theorem sers_of {s:Sl} {b:Nat} (h:Cl w serSh s.v b) (hb:b≤2000000):∃ q:QS,RdQ w s q∧q.length≤2000000∧∀ p∈q,p.1.1.length≤2000000:=by
 obtain ⟨q,h1,h2,h3,_,h5⟩:=rows_of (α:=SQ) (enc:=serC) (Q:=fun p=>SeOk w p∧p.1.1.length≤2000000) (fun _=>rfl) (by decide) h fun V hV=>by
  obtain ⟨s0,e0⟩:=(hV 0 _ rfl).sl_ex
  obtain ⟨s1,e1⟩:=(hV 1 _ rfl).sl_ex
  have c0:=hV 0 _ rfl
  have c1:=hV 1 _ rfl
  rw [e0] at c0
  rw [e1] at c1
  obtain ⟨l,a1,a2,a3,_,a5⟩:=labs_of c0
  obtain ⟨m,b1,b2,b3,_,b5⟩:=smps_of' c1
  refine ⟨((l,m),s0,s1),fun j hj=>?_,⟨a1,b1,b5,by dsimp only;omega,fun x hx=>by have:=(a5 x hx).2;omega,by dsimp only;omega⟩,by dsimp only;omega⟩
  match j,hj with
  | 0,_=>rw [e0];rfl
  | 1,_=>rw [e1];rfl
 exact ⟨q,⟨h1,fun p hp=>(h5 p hp).1⟩,by omega,fun p hp=>(h5 p hp).2⟩
theorem str_same {a b:List UInt8}:((Utf.str a).toList==(Utf.str b).toList)=decide (a=b):=by
 rw [ByteArray.toList_eq,ByteArray.toList_eq]
 change (Utf.bytes (Utf.str _)==Utf.bytes (Utf.str _))=_
 rw [bytes_str,bytes_str]
 by_cases h:a=b
 ·rw [decide_eq_true h,h];simp
 ·rw [decide_eq_false h];simp [h]
end Go.Proofs.YtmfgmcajelmgbaaGreatDoor.Bk

namespace Go.Proofs.YtmfgmcajelmgbaaGreatDoor.Bk
open Go Vm Go.RowKit Num Mem Utf Lib Lab Vint Bits Rep
variable {ω ω' : Tg} {w w' w0 : World} {T : Nat → Bool} {t u g gm : Nat}
def f2 (x:Nat):Nat:=if x=2 then 2 else if x=71 then 71 else if x=72 then 72 else 0
theorem bytes_ok {bs rs:Sl} {b:List UInt8} {q:QS} {F:Lb→List Nat} {es:List IE} {k:Int} (h:BK ω w t g gm bs rs b q F es k) (hb:b.length≤100000000) {K:Sl→World→Prop} (hK:∀ r w',Keep w w'→OwnB w' w.heap.size r b→K r w'):C.block_Block_Bytes (some ⟨g,0,none⟩) w K:=by
 unfold C.block_Block_Bytes
 exact cond_f rfl (ptr_at (cSl_at (s:=bs) (by rw [h.hd.cell];rfl) (cloneB_ok h.by_.rd hb hK)))
theorem isS_at {b:Sl} {l:List UInt8} (h:RdB w b l):isS Tryz.prog b (Utf.str l) w:=by
 have:=Utf.convBS (P:=Tryz.prog) h (K:=fun s=>s=Utf.str l) rfl
 obtain ⟨s,hs,e⟩:=this
 subst e
 exact hs 0
end Go.Proofs.YtmfgmcajelmgbaaGreatDoor.Bk

namespace Go.Proofs.YtmfgmcajelmgbaaGreatDoor.Mem
open Go Vm Go.RowKit Num
variable {ω ω' : Tg} {w w' : World} {t g u r : Nat} {al rest : LL} {T : Nat → Bool} {P : Program}
structure IL (ω:Tg) (w:World) (u r t g:Nat) (al rest:LL):Prop where
 ex:∃ es clock since seen c0,w.heap[g]?=some (.map es clock)∧MapKept.Stamped es clock∧es.toList.map (fun e=>(e.key,e.val))=al.map encL ∧
  w.heap[r]?=some (.mapIter (some g) since seen c0)∧(∀ x∈es.toList,x.born<since)∧since≤c0∧since≤clock∧(leftOf es seen).toList.map (fun e=>(e.key,e.val))=rest.map encL
 tg:ω g=t
 tr:ω r=u
theorem IL.stp (h:IL ω w u r t g al rest) (s:Stp T ω ω' w w') (n1:T u=false) (n2:T t=false):IL ω' w' u r t g al rest:=by
 obtain ⟨es,clock,since,seen,c0,hb,hs,he,hr,x⟩:=h.ex
 exact ⟨⟨es,clock,since,seen,c0,by rw [s.block g (heap_lt hb) (by rw [h.tg];exact n2)];exact hb,hs,he,by rw [s.block r (heap_lt hr) (by rw [h.tr];exact n1)];exact hr,x⟩,(s.same g (heap_lt hb)).trans h.tg,(s.same r (heap_lt hr)).trans h.tr⟩
end Go.Proofs.YtmfgmcajelmgbaaGreatDoor.Mem

namespace Go.Proofs.YtmfgmcajelmgbaaGreatDoor.Bk
open Go Vm Go.RowKit Num Mem Utf Lib Lab Vint Bits Rep
variable {ω ω' : Tg} {w w' w0 : World} {T : Nat → Bool} {t u g gm : Nat}
theorem BK.post {bs rs:Sl} {b:List UInt8} {q:QS} {es:List IE} {k:Int} (h:BK ω w t g gm bs rs b q (post (q.map (·.1))) es k) (hq:q.length≤1000000) {name value:ByteArray} (hs:sml (name,value)) {K:Sl→World→Prop}
  (hK:∀ r ω' w',Stp (Mem.One t) ω ω' w w'→BK ω' w' t g gm bs rs b q (Bk.post (q.map (·.1))) es (IntKind.i64.wrap (k+1))→OT ω' w' 63 3 1 r (ints (postF name value (q.map (·.1)) 0))→K r w'):C.block_Block_Postings (some ⟨g,0,none⟩) name value w K:=by
 have hrt:∀ x∈q.map (·.1),(rt x.1).1=0:=fun x hx=>by
  obtain ⟨p,hp,rfl⟩:=List.mem_map.1 hx
  exact (h.el p hp).rt
 by_cases hv:value=(⟨#[]⟩:ByteArray)
 ·subst hv
  unfold C.block_Block_Postings
  refine cond_f rfl<|ptr_at<|asked_ok h fun ω1 w1 k1 b1=>?_
  refine cond_f (by simp) ?_
  unfold C.block_Block_Postings.S9
  refine ptr_at<|cSl_at (s:=rs) (by rw [addr_add,b1.hd.cell];rfl) ?_
  have hrd:=b1.rd
  exact postE_ok hrd (by omega) (fun p hp=>by have:=(rt_short (b1.el p hp).rt).1;omega) fun r w2 k2 o2=>hK r (ext ω1 w1.heap.size 63) w2 (k1.trans ((k2.stp ω1 63).non _)) (b1.stp (k2.stp ω1 63) (off_non t)) (Own.tag o2 (Nat.le_refl _) ω1 63)
 ·refine postV_ok h hq (fun e=>hv (ba_inj e)) hs fun r ω' w' k1 b1 r1=>hK r ω' w' k1 b1 ?_
  unfold Bk.post at r1
  rwa [post_F hv _ _ hrt] at r1
def inS (a b:Int) (s:Smp):Bool:=decide (s.1 ≥ a)&&decide (s.1≤b)
def wit (a b:Int) (l:List Smp):List Smp:=l.filter (inS a b)
theorem wit_len (a b:Int) (l:List Smp):(wit a b l).length≤l.length:=List.length_filter_le _ _
theorem wit_take {a b:Int} {m:List Smp} {i:Nat} (hi:i<m.length):wit a b (m.take (i+1))=wit a b (m.take i)++(if inS a b m[i]=true then [m[i]] else []):=by
 unfold wit
 rw [List.take_succ_eq_append_getElem hi,List.filter_append]
 congr 1
 by_cases h:inS a b m[i]=true
 ·rw [if_pos h];simp [h]
 ·rw [if_neg h];simp [h]
theorem rwithin_ok {s:Sl} {m:List Smp} (hs:Rd w0 s 2 (Chunk.smps m)) (hl:m.length≤11000000) {a b:Int} {K:Sl→World→Prop} (hK:∀ r w',Keep w0 w'→Mem.Own w' w0.heap.size 96 2 r (Chunk.smps (wit a b m))→K r w'):C.tocsinref08_Within.L5 (fun r w=>K r w) a b nilS s ((s.n:Nat):Int) (0:Int) w0:=by
 have hsn:=smN hs
 refine C.tocsinref08_Within.L5_ind fun X hX=>?_
 have key:∀ (d i:Nat) (q:Sl) (ω:Tg) (w:World),i+d=m.length→Top w0 ω w→OT ω w 5 96 2 q (Chunk.smps (wit a b (m.take i)))→X a b q s ((s.n:Nat):Int) (i:Int) w:=by
  intro d
  induction d with
  | zero =>
   intro i q ω w hi top o
   refine hX _ _ _ _ _ _ _ ?_
   unfold C.tocsinref08_Within.S7 C.tocsinref08_Within.S2
   rw [show i=m.length by omega,List.take_length] at o
   exact cond_d (fun h=>by omega) (fun _=>hK q w top.k (otNew o top))
  | succ d ih =>
   intro i q ω w hi top o
   have him:i<m.length:=by omega
   refine hX _ _ _ _ _ _ _ ?_
   unfold C.tocsinref08_Within.S7
   refine cond_d (fun _=>?_) (fun h=>by omega)
   have hx:m[i]?=some m[i]:=List.getElem?_eq_getElem him
   refine Chunk.rdS_at (hs.keep top.k) (k:=i) rfl hx fun p hc0 hc1=>cI_at hc0<|cF_at hc1 ?_
   refine new_T (ω:=ω) 7 fun g ω2 w2 k2 b2=>?_
   refine st_T b2 (by simp) fun ω3 w3 k3 b3=>?_
   refine st_TA b3 (by simp) fun ω4 w4 k4 b4=>?_
   have s4:=(k2.non (Mem.One 7)).trans (k3.trans k4)
   have o4:=o.stp s4 rfl
   have top4:=top.stp s4
   rw [wI64 (x:=(i:Int)+1) (by omega) (by omega),show (i:Int)+1=((i+1:Nat):Int) by omega]
   have no:inS a b m[i]=false→X a b q s ((s.n:Nat):Int) ((i+1:Nat):Int) w4:=fun hin=>ih (i+1) q ω4 w4 (by omega) top4 (by rw [wit_take him,hin];simpa using o4)
   refine cI_at (n:=m[i].1) (by rw [b4.cell];rfl) (cond_d (fun g1=>?_) (fun g1=>no (by unfold inS;rw [decide_eq_false g1];rfl)))
   refine cI_at (n:=m[i].1) (by rw [b4.cell];rfl) (cond_d (fun g2=>?_) (fun g2=>no (by unfold inS;rw [decide_eq_false g2];simp)))
   have hin:inS a b m[i]=true:=by unfold inS;rw [decide_eq_true g1,decide_eq_true g2];rfl
   refine cI_at (n:=m[i].1) (by rw [b4.cell];rfl)<|cF_at (b:=m[i].2) (by rw [addr_add,b4.cell];rfl) ?_
   have hn:=smN o4.rd
   have hwl:=wit_len a b (m.take i)
   rw [List.length_take] at hwl
   refine push_T tiS o4 (n:=1) rfl (by intro v hv;simp at hv;rcases hv with rfl | rfl<;>rfl) (by simp only [maxLen];omega) (by omega) fun q' ω5 w5 k5 o5 hq=>?_
   refine ih (i+1) q' ω5 w5 (by omega) (top4.stp k5) ?_
   rw [wit_take him,hin,if_pos rfl,Chunk.smps_app]
   exact o5
 exact key m.length 0 nilS (fun _=>0) w0 (by omega) (Top.init w0) (OT.nil _ _ _ _ _)
theorem built_ok (hT:DTab w0) (ht:UTab w0) (hv:Vint.Tab w0) {s:Sl} {q:QS} (h:RdQ w0 s q) (hl:q.length≤2000000) {K:Option Addr→World→Prop}
  (hN:(buildR (q.map (·.1))).2.1≠0→∀ w',Keep w0 w'→K none w')
  (hK:(buildR (q.map (·.1))).2.1=0→Blo (srt (q.map (·.1)))→∀ g gm bs rs q2 es ω' w',Top w0 ω' w'→q2.map (·.1)=srt (q.map (·.1))→q2.length≤1000→BK ω' w' 1000 g gm bs rs (bytesOf (srt (q.map (·.1)))) q2 (post (q2.map (·.1))) es 0→K (some ⟨g,0,none⟩) w'):C.tocsinlaw10_built s w0 K:=by
 unfold C.tocsinlaw10_built
 refine build_ok hT ht hv h (by omega) fun b w1 k1 o1=>?_
 have hf:∀ x∈q.map (·.1),∀ y∈x.2,y.2<18446744073709551616:=fun x hx y hy=>by
  obtain ⟨p,hp,rfl⟩:=List.mem_map.1 hx;exact (h.el p hp).fl y hy
 have hs:∀ x∈q.map (·.1),x.2.length≤11000000:=fun x hx=>by
  obtain ⟨p,hp,rfl⟩:=List.mem_map.1 hx;exact (h.el p hp).sl
 refine cond_ne (fun hbad=>hN hbad w1 k1) (fun hok=>?_)
 obtain ⟨bl,eb⟩:=blo_of hok hf hs
 rw [eb] at o1
 have hz:=bl.sz
 refine open_ok (hT.keep k1) (ht.keep k1) (hv.keep k1) (OwnB.rd o1) (by omega) 1000 (Nat.le_refl _) (fun hn=>?_) (fun l hl' g gm bs rs q2 es ω2 w2 top2 eq bk=>?_)
 ·rw [open_bytes bl] at hn;cases hn
 rw [open_bytes bl] at hl'
 injection hl' with hl'
 subst hl'
 have hq2:q2.length≤1000:=by have:=congrArg List.length eq;rw [List.length_map] at this;have:=bl.n;omega
 refine cond_f rfl (hK hok bl g gm bs rs q2 es ω2 w2 (Top.of k1 top2) eq hq2 ?_)
 rw [eq];exact bk
end Go.Proofs.YtmfgmcajelmgbaaGreatDoor.Bk

namespace Go.Proofs.YtmfgmcajelmgbaaGreatDoor.Bk
open Go Vm Go.RowKit Num Mem Utf Lib Lab Vint Bits Rep
variable {ω ω' : Tg} {w w' w0 : World} {T : Nat → Bool} {t u g gm : Nat}
theorem locP {a:Int} {b:Nat} {Z:Addr→World→Prop} (hK:∀ g w',KD w w'→w.heap.size≤g→Blk w' g 96 [.int .i64 a,.float .f64 b]→Z ⟨g,0,none⟩ w') :
  G.new (.cells #[(.int .i64 (0:Int)),(.float .f64 0)] 96) w fun p w1=>G.st p (.int .i64 a) w1 fun w2=>G.st (p.add 1) (.float .f64 b) w2 fun w3=>Z p w3 :=
 newD fun g w1 k1 hg b1=>stD hg k1 b1 (by simp) fun w2 k2 b2=>stDA hg k2 b2 (by simp) fun w3 k3 b3=>hK g w3 k3 hg b3
theorem smps_set:∀ (l:List Smp) (k:Nat) (x:Smp),((Chunk.smps l).set (k*2+0) (.int .i64 x.1)).set (k*2+1) (.float .f64 x.2)=Chunk.smps (l.set k x)
 | [],k,x=>by simp [Chunk.smps]
 | y::l,0,x=>rfl
 | y::l,k+1,x=>by
  have ih:=smps_set l k x
  rw [Nat.add_zero] at ih
  have e:∀ (y:Smp) (m:List Smp),Chunk.smps (y::m)=.int .i64 y.1::.float .f64 y.2::Chunk.smps m:=fun _ _=>rfl
  rw [e,show (k+1)*2+0=(k*2+0)+1+1 by omega,show (k+1)*2+1=(k*2+1)+1+1 by omega,List.set_cons_succ,List.set_cons_succ,List.set_cons_succ,List.set_cons_succ,ih,List.set_cons_succ,e]
theorem stP_ok {s:Sl} {l:List Smp} (h:OT ω w t 96 2 s (Chunk.smps l)) {i:Int} {k:Nat} (ei:i=(k:Int)) (hk:k<l.length) (x:Smp) {Z:World→Prop}
  (hK:∀ ω' w',Stp (Mem.One t) ω ω' w w'→OT ω' w' t 96 2 s (Chunk.smps (l.set k x))→Z w') :
  G.ix s.a s.n i 2 fun a=>G.st a (.int .i64 x.1) w fun w1=>G.st (a.add 1) (.float .f64 x.2) w1 Z:=by
 have hn:=smN h.rd
 refine OT.at_ h ei (by omega) fun a ha _ _ _=>?_
 have e0:a=a.add 0:=by simp [Addr.add]
 have key:G.st (a.add 0) (.int .i64 x.1) w fun w1=>G.st (a.add 1) (.float .f64 x.2) w1 Z:=by
  refine OT.st h (i:=k) (j:=0) (by omega) (by decide) _ ha fun ω1 w1 k1 o1=>?_
  refine OT.st o1 (i:=k) (j:=1) (by omega) (by decide) _ ha fun ω2 w2 k2 o2=>hK ω2 w2 (k1.trans k2) ?_
  rw [smps_set] at o2
  exact o2
 rwa [← e0] at key
theorem clr_run {P:Program} (w:World) (t e ty:TypeId) (z:Value) (ht:P.underlying t=some (.slice e)) (hv:∀ w,(zeroValue e).run P w=.ok z w) (b o n c:Nat) (hn:0<n) (h1:∀ v∈(Builtin.zeroCells z.cells n).toList,v.oneCell'=true)
  (hc:∀ j,j<(Builtin.zeroCells z.cells n).toList.length→(w.cell? ⟨b,o+j,none⟩).isSome=true) (hf:∀ j,j<(Builtin.zeroCells z.cells n).toList.length→w.frozen? ⟨b,o+j,none⟩=false) :
  (Builtin.clear_ #[t] ty #[.slice (some ⟨b,o,none⟩) n c]).run P w=.ok (.tuple #[]) (w.setCells b o (Builtin.zeroCells z.cells n).toList):=by
 have hst:=run_storeCells_cells (P:=P) b o (Builtin.zeroCells z.cells n).toList 0 w (by simpa using hc) (by simpa using hf) h1
 simp only [Nat.add_zero] at hst
 obtain ⟨m,rfl⟩:∃ m,n=m+1:=⟨n-1,by omega⟩
 simp [Builtin.clear_,run_underlying ht,hv,hst]
theorem zS (n:Nat):(Builtin.zeroCells (Value.agg #[.int .i64 0,.float .f64 0]).cells n).toList.length=n*2∧∀ v∈(Builtin.zeroCells (Value.agg #[.int .i64 0,.float .f64 0]).cells n).toList,v.oneCell'=true:=by
 have e:(Value.agg #[.int .i64 0,.float .f64 0]).cells=#[.int .i64 0,.float .f64 0]:=rfl
 rw [e]
 refine ⟨by simp [Builtin.zeroCells],fun v hv=>?_⟩
 simp only [Builtin.zeroCells,Array.toList_map,List.mem_map] at hv
 obtain ⟨i,_,rfl⟩:=hv
 have hi:i % 2=0∨i % 2=1:=by omega
 show (#[(Value.int .i64 0),.float .f64 0][i % 2]!).oneCell'=true
 rcases hi with hi | hi<;>rw [hi]<;>rfl
theorem clrS_T {s:Sl} {A:List Smp} {k:Nat} (h:OT ω w t 96 2 s (Chunk.smps A)) (hk:k<s.n) {Z:World→Prop} (hZ:∀ ω' w',Stp (Mem.One t) ω ω' w w'→OT ω' w' t 96 2 ⟨s.a,k,s.c⟩ (Chunk.smps (A.take k))→Z w') :
  G.run Tryz.prog (Builtin.clear_ #[52] 0 #[(Sl.v ⟨if s.c=((k:Nat):Int).toNat then s.a else s.a.map (·.add (((k:Nat):Int).toNat*2)),((s.n:Nat):Int).toNat-((k:Nat):Int).toNat,s.c-((k:Nat):Int).toNat⟩)]) w fun _ w'=>Z w':=by
 rcases h.cases with ⟨rfl,hx⟩ | ⟨g,cur,ha,hb,hn,hm,hl,ht⟩
 ·exact absurd hk (by simp)
 ·have ev:Sl.v ⟨if s.c=((k:Nat):Int).toNat then s.a else s.a.map (·.add (((k:Nat):Int).toNat*2)),((s.n:Nat):Int).toNat-((k:Nat):Int).toNat,s.c-((k:Nat):Int).toNat⟩=.slice (some ⟨g,k*2,none⟩) (s.n-k) (s.c-k):=by
   rw [Int.toNat_natCast,Int.toNat_natCast,if_neg (by omega),ha]
   simp [Sl.v,addr_add]
  rw [ev]
  obtain ⟨z1,z2⟩:=zS (s.n-k)
  have hr:=clr_run (P:=Tryz.prog) w 52 96 0 (.agg #[.int .i64 0,.float .f64 0]) (by kernel_rfl) (fun w=>Tryz.zeroValue96 w) g (k*2) (s.n-k) (s.c-k) (by omega) z2 (fun j hj=>by rw [hb.cell,List.getElem?_eq_getElem (by omega)];rfl) (fun j hj=>hb.blk.frozen _)
  refine ⟨_,_,hr,?_⟩
  obtain ⟨ω',cs',k1,b',l',e'⟩:=set_cells_T (g:=g) (t:=t) (Builtin.zeroCells (Value.agg #[.int .i64 0,.float .f64 0]).cells (s.n-k)).toList (k*2) ω w cur hb (by omega)
  have e2:cs'.take (k*2)=Chunk.smps (A.take k):=by
   have:=congrArg (List.take (k*2)) ht
   rw [List.take_take,Nat.min_eq_left (by omega)] at this
   rw [e',this]
   have e3:Chunk.smps A=Chunk.smps (A.take k)++Chunk.smps (A.drop k):=by rw [← Chunk.smps_app,List.take_append_drop]
   have hA:=smN h.rd
   rw [e3,List.take_append_of_le_length (by rw [Chunk.smps_len,List.length_take];omega),List.take_of_length_le (by rw [Chunk.smps_len,List.length_take];omega)]
  refine hZ ω' _ k1 ⟨?_,fun k' hk'=>?_⟩
  ·rw [ha];exact Own.mk' (Nat.zero_le _) b'.blk (by omega) hm (by rw [l'];exact hl) e2
  ·rw [ha] at hk'
   have hg:g=k':=Option.some.inj hk'
   rw [← hg];exact b'.tag
theorem cut_ok {a:Addr} {fr n:Int} {f:Nat} (ha:w.cell? a=some (.int .i64 fr)) {K:Value→World→Prop} (hK:∀ w',Keep w w'→K (.bool (decide (n<fr))) w'):C.block_Trim_1.cl [.agg #[.int .i64 n,.float .f64 f],.pointer (some a)] K w:=by
 show C.block_Trim_1 n f (some a) w (C.block_Trim_1.Kt K)
 unfold C.block_Trim_1
 refine new_T (ω:=fun _=>0) 1 fun g ω1 w1 k1 b1=>cI_at (n:=n) (by rw [b1.cell];rfl)<|ptr_at<|cI_at (n:=fr) (k1.keep.cell ha) (hK w1 k1.keep)
theorem fromS_snoc (fr:Int) (l:List Smp) (x:Smp):fromS fr (l++[x])=fromS fr l++(if x.1<fr then [] else [x]):=by
 unfold fromS
 rw [List.filter_append]
 congr 1
 by_cases h:x.1<fr
 ·rw [if_pos h];simp;omega
 ·rw [if_neg h];simp;omega
theorem fromS_take (fr:Int) {m:List Smp} {i:Nat} (hi:i<m.length):fromS fr (m.take (i+1))=fromS fr (m.take i)++(if m[i].1<fr then [] else [m[i]]):=by
 rw [List.take_succ_eq_append_getElem hi,fromS_snoc]
theorem idx_ok {s:Sl} {m:List Smp} {a:Addr} {fr:Int} {fv:Value} (hs:Rd w0 s 2 (Chunk.smps m)) (hl:m.length≤100000000) (ha:w0.cell? a=some (.int .i64 fr))
  (hF:∀ n f K w,C.block_Trim_1.cl [.agg #[.int .i64 n,.float .f64 f],.pointer (some a)] K w→G.callV C.pr C.slices_IndexFunc_Sample_Sample.F fv [.agg #[.int .i64 n,.float .f64 f]] w K)
  {K:Int→World→Prop} (hN:fromS fr m=m→∀ w',Keep w0 w'→K (-1) w') (hK:∀ i,i<m.length→fromS fr (m.take (i+1))=m.take i→∀ w',Keep w0 w'→K (i:Int) w'):C.slices_IndexFunc_Sample_Sample s fv w0 K:=by
 have hsn:=smN hs
 unfold C.slices_IndexFunc_Sample_Sample C.slices_IndexFunc_Sample_Sample.S9
 refine C.slices_IndexFunc_Sample_Sample.L5_ind fun X hX=>?_
 have key:∀ (d i:Nat) (w:World),i+d=m.length→Keep w0 w→fromS fr (m.take i)=m.take i→X s fv ((s.n:Nat):Int) (i:Int) w:=by
  intro d
  induction d with
  | zero =>
   intro i w hi k e
   refine hX _ _ _ _ _ ?_
   unfold C.slices_IndexFunc_Sample_Sample.S7 C.slices_IndexFunc_Sample_Sample.S2
   rw [List.take_of_length_le (by omega)] at e
   exact cond_d (fun h=>by omega) (fun _=>hN e w k)
  | succ d ih =>
   intro i w hi k e
   refine hX _ _ _ _ _ ?_
   unfold C.slices_IndexFunc_Sample_Sample.S7
   have him:i<m.length:=by omega
   have hx:m[i]?=some m[i]:=List.getElem?_eq_getElem him
   have et:=fromS_take fr him
   refine cond_d (fun _=>?_) (fun h=>by omega)
   refine Chunk.rdS_at (hs.keep k) (k:=i) rfl hx fun p hc0 hc1=>cI_at hc0<|cF_at hc1<|hF _ _ _ _<|cut_ok (k.cell ha) fun w1 k1=>isB_at ?_
   have k01:=Keep.trans k k1
   refine cond_d (fun hlt=>?_) (fun hge=>?_)
   ·rw [if_pos hlt,List.append_nil,e] at et
    exact hK i him et w1 k01
   ·rw [if_neg hge,e] at et
    rw [wI64 (by omega) (by omega),show (i:Int)+1=((i+1:Nat):Int) by omega]
    exact ih (i+1) w1 (by omega) k01 (by rw [et,List.take_succ_eq_append_getElem him])
 exact key m.length 0 w0 (by omega) (Keep.refl w0) rfl
theorem del_ok {s:Sl} {m:List Smp} {ga:Nat} {fr:Int} {fv:Value} (o:OT ω w t 96 2 s (Chunk.smps m)) (hl:m.length≤100000000) (ba:BT ω w u ga 2 [.int .i64 fr]) (hu:t≠u)
  (hF1:∀ n f K w,C.block_Trim_1.cl [.agg #[.int .i64 n,.float .f64 f],.pointer (some ⟨ga,0,none⟩)] K w→G.callV C.pr C.slices_IndexFunc_Sample_Sample.F fv [.agg #[.int .i64 n,.float .f64 f]] w K)
  (hF2:∀ n f K w,C.block_Trim_1.cl [.agg #[.int .i64 n,.float .f64 f],.pointer (some ⟨ga,0,none⟩)] K w→G.callV C.pr C.slices_DeleteFunc_Sample_Sample.F fv [.agg #[.int .i64 n,.float .f64 f]] w K)
  {K:Sl→World→Prop} (hK:∀ r ω' w',Stp (Mem.One t) ω ω' w w'→OT ω' w' t 96 2 r (Chunk.smps (fromS fr m))→K r w'):C.slices_DeleteFunc_Sample_Sample s fv w K:=by
 have hsn:=smN o.rd
 have hut:Mem.One t u=false:=beq_no fun e=>hu e.symm
 unfold C.slices_DeleteFunc_Sample_Sample
 refine idx_ok o.rd hl (by rw [ba.cell];rfl) hF1 (fun e w1 k1=>?_) (fun i him ei w1 k1=>?_)
 ·exact cond_t rfl (hK s ω w1 ((k1.stp0 ω).non _) (by rw [e];exact o.stp (k1.stp0 ω)))
 refine cond_f (beq_eq_false_iff_ne.2 (by omega)) ?_
 have o1:=o.stp (k1.stp0 ω)
 have ba1:=ba.stp (k1.stp0 ω)
 unfold C.slices_DeleteFunc_Sample_Sample.S9
 rw [wI64 (by omega) (by omega),show (i:Int)+1=((i+1:Nat):Int) by omega]
 refine C.slices_DeleteFunc_Sample_Sample.L5_ind fun X hX=>?_
 have key:∀ (d j i:Nat) (A:List Smp) (ω2:Tg) (w2:World),j+d=m.length→i<j→Stp (Mem.One t) ω ω2 w w2→BT ω2 w2 u ga 2 [.int .i64 fr]→OT ω2 w2 t 96 2 s (Chunk.smps A)→A.length=m.length→A.take i=fromS fr (m.take j)→(∀ x,j≤x→A[x]?=m[x]?) →
   X s fv (i:Int) (j:Int) w2:=by
  intro d
  induction d with
  | zero =>
   intro j i A ω2 w2 hj hij k2 ba2 o2 hA ht hx
   refine hX _ _ _ _ _ ?_
   unfold C.slices_DeleteFunc_Sample_Sample.S7 C.slices_DeleteFunc_Sample_Sample.S2
   have hsc:s.n≤s.c:=o2.rd.1
   refine cond_d (fun h=>by omega) (fun _=>?_)
   refine ⟨⟨by omega,by omega,by omega⟩,?_⟩
   refine clrS_T o2 (k:=i) (by omega) fun ω3 w3 k3 r3=>?_
   refine ⟨⟨by omega,by omega,by omega⟩,?_⟩
   have e:(if s.c=(0:Int).toNat then s.a else s.a.map (·.add ((0:Int).toNat*2)))=s.a:=by
    split
    ·rfl
    ·cases s.a with
     | none=>rfl
     | some a=>simp [Addr.add]
   rw [e]
   rw [ht,List.take_of_length_le (by omega)] at r3
   refine hK _ ω3 w3 (k2.trans k3) ?_
   have:s.c-(0:Int).toNat=s.c:=by simp
   rw [this]
   have e2:((i:Nat):Int).toNat-(0:Int).toNat=i:=by simp
   rw [e2]
   exact r3
  | succ d ih =>
   intro j i A ω2 w2 hj hij k2 ba2 o2 hA ht hx
   refine hX _ _ _ _ _ ?_
   unfold C.slices_DeleteFunc_Sample_Sample.S7
   have hjm:j<m.length:=by omega
   have hAj:A[j]?=some m[j]:=by rw [hx j (Nat.le_refl _),List.getElem?_eq_getElem hjm]
   have et:=fromS_take fr hjm
   refine cond_d (fun _=>?_) (fun h=>by omega)
   refine Chunk.rdS_at o2.rd (k:=j) rfl hAj fun p hc0 hc1=>cI_at hc0<|cF_at hc1 ?_
   refine locP fun g3 w3 k3 hg b3=>cI_at (n:=m[j].1) (by rw [b3.cell];rfl)<|cF_at (b:=m[j].2) (by rw [addr_add,b3.cell];rfl) ?_
   have s3:=k3.1.stp ω2 7
   have b3t:BT (ext ω2 w2.heap.size 7) w3 7 g3 96 [.int .i64 m[j].1,.float .f64 m[j].2]:=⟨b3,ext_new hg⟩
   have o3:=o2.stp s3
   have ba3:=ba2.stp s3
   generalize ext ω2 w2.heap.size 7=ω3 at *
   refine hF2 _ _ _ _<|cut_ok (by rw [ba3.cell];rfl) fun w4 k4=>isB_at ?_
   have s4:=k4.stp0 ω3
   have b4:=b3t.stp s4
   have o4:=o3.stp s4
   have ba4:=ba3.stp s4
   have k24:=k2.trans ((s3.trans s4).non _)
   refine cond_not (fun hge=>?_) (fun hlt=>?_)
   ·rw [if_neg (of_decide_eq_false hge)] at et
    refine cI_at (n:=m[j].1) (by rw [b4.cell];rfl)<|cF_at (b:=m[j].2) (by rw [addr_add,b4.cell];rfl) ?_
    refine stP_ok o4 (k:=i) rfl (by omega) m[j] fun ω5 w5 k5 o5=>?_
    rw [wI64 (by omega) (by omega),wI64 (by omega) (by omega),show (i:Int)+1=((i+1:Nat):Int) by omega,show (j:Int)+1=((j+1:Nat):Int) by omega]
    refine ih (j+1) (i+1) _ ω5 w5 (by omega) (by omega) (k24.trans k5) (ba4.stp k5 hut) o5 (by rw [List.length_set];exact hA) ?_ fun x hx2=>?_
    ·rw [et,← ht,List.take_succ_eq_append_getElem (by rw [List.length_set];omega),List.getElem_set_self,List.take_set,List.set_eq_of_length_le (by rw [List.length_take];omega)]
    ·rw [List.getElem?_set_ne (by omega)];exact hx x (by omega)
   ·rw [if_pos (of_decide_eq_true hlt),List.append_nil] at et
    rw [wI64 (by omega) (by omega),show (j:Int)+1=((j+1:Nat):Int) by omega]
    exact ih (j+1) i A ω3 w4 (by omega) (by omega) k24 ba4 o4 hA (by rw [et];exact ht) fun x hx2=>hx x (by omega)
 exact key (m.length-(i+1)) (i+1) i m ω w1 (by omega) (by omega) ((k1.stp0 ω).non _) ba1 o1 rfl ei.symm fun _ _=>rfl
def TB:Nat:=3000000000
def TT:Nat→Bool:=fun x=>decide (x=2∨x=4∨x=5∨TB≤x)
theorem toTT {v:Nat} (h:v=2∨v=4∨v=5∨TB≤v) (k:Stp (Mem.One v) ω ω' w w'):Stp TT ω ω' w w':=k.mono fun u hu=>beq_no fun e=>by
 have:=of_decide_eq_false hu
 omega
theorem trim_take (a:Int) {L:List Ser} {i:Nat} (hi:i<L.length):trimL a (L.take (i+1))=trimL a (L.take i)++(if fromS a L[i].2=[] then [] else [(L[i].1,fromS a L[i].2)]):=by
 rw [List.take_succ_eq_append_getElem hi,trim_app]
 congr 1
theorem trim_ok (hT:DTab w) (ht:UTab w) (hv:Vint.Tab w) {rs:Sl} {q:QS} (h:AR w g rs q) (hq:q.length≤1000) (fr:Int) {K:Sl→Int→World→Prop}
  (hK:∀ r w',Keep w w'→OwnB w' w.heap.size r (buildR (trimL fr (q.map (·.1)))).1→K r (buildR (trimL fr (q.map (·.1)))).2.1 w'):C.block_Trim (some ⟨g,0,none⟩) fr w K:=by
 unfold C.block_Trim
 refine new_T (ω:=fun _=>0) 1 fun g1 ω1 w1 k1 b1=>cond_f rfl<|new_T (ω:=ω1) 4 fun g2 ω2 w2 k2 b2=>?_
 unfold C.block_Trim.S9 C.block_Block_All
 refine new_T (ω:=ω2) 6 fun g3 ω3 w3 k3 b3=>?_
 unfold C.block_Trim.R5
 have top3:=(((Top.init w).stp k1).stp k2).stp k3
 have hLl:(q.map (·.1)).length=q.length:=List.length_map _
 refine rangeGW_ok (T:=TT) (u:=3) (J:=fun i ω w2=>Top w ω w2∧BT ω w2 1 g1 2 [.int .i64 fr]∧BT ω w2 6 g3 23 [.pointer (some ⟨g,0,none⟩)]∧i≤q.length∧∃ s ql,BT ω w2 4 g2 27 [Sl.v s]∧OT ω w2 2 57 2 s (sers ql)∧ql.length≤i∧ql.map (·.1)=trimL fr ((q.map (·.1)).take i)∧∀ p∈ql,OT ω w2 71 93 2 p.2.1 (labs p.1.1)∧∃ j,j<i∧OT ω w2 (TB+j) 96 2 p.2.2 (Chunk.smps p.1.2))
  (E:=fun e ω w=>False)
  (all_tellsT (fun i=>TB+i) (ga:=g3) (g:=g) (rs:=rs) (q:=q) fun _ _ _ h=>h) rfl rfl ?_ ?_ ?_ ?_ ?_ ⟨top3,(b1.stp k2).stp k3,b3,Nat.zero_le _,nilS,[],b2.stp k3,OT.nil ..,Nat.zero_le _,by simp [trimL],by simp⟩ ?_ ?_
 ·rintro i j a ω ω' w w' ⟨e,p,r,s,hp,ea,o1,o2⟩ k
  exact ⟨e,p,r,s,hp,ea,o1.stp k rfl,o2.stp k (by show Mem.One 3 (TB+i)=false;exact beq_no (by unfold TB;omega))⟩
 ·rintro i ω w2 ⟨top,_,x3,_⟩
  exact ⟨by rw [x3.cell];rfl,h.keep top.k⟩
 ·rintro S hS i ω ω' w w' ⟨top,x1,x3,hi,s,ql,x2,o,hle,e,hr⟩ k
  have z:S 0=false∧S 1=false∧S 2=false∧S 4=false∧S 6=false∧S 71=false∧∀ j,S (TB+j)=false:=by rcases hS with rfl | rfl<;>exact ⟨rfl,rfl,rfl,rfl,rfl,rfl,fun j=>by first | rfl | exact beq_no (by unfold TB;omega)⟩
  exact ⟨top.stp k z.1,x1.stp k z.2.1,x3.stp k z.2.2.2.2.1,hi,s,ql,x2.stp k z.2.2.2.1,o.stp k z.2.2.1,hle,e,fun p hp=>⟨(hr p hp).1.stp k z.2.2.2.2.2.1,by obtain ⟨j,hj,oj⟩:=(hr p hp).2;exact ⟨j,hj,oj.stp k (z.2.2.2.2.2.2 j)⟩⟩⟩
 ·rintro S hS e ω ω' w w' h k
  exact h
 ·rintro i j args ω w4 bz Rr ⟨rfl,p,r,c,hp,rfl,o1,o2⟩ ⟨top,x1,x3,hi,s,ql,x2,o,hle,e,hr⟩ hz
  unfold C.block_Trim.B_R5 Sl.v
  dsimp only
  refine locS fun g5 w5 k5 hg5 b5=>?_
  have s5:=k5.1.stp ω 5
  refine hz _ (ext ω w4.heap.size 5) w5 s5 fun w6 s6 hR hX=>?_
  have b5t:BT (ext ω w4.heap.size 5) w5 5 g5 57 [r.v,c.v]:=⟨b5,ext_new hg5⟩
  generalize ext ω w4.heap.size 5=ω5 at *
  have ntb:∀ j,Mem.One 3 (TB+j)=false:=fun j=>beq_no (by unfold TB;omega)
  have b6:=b5t.stp s6
  have x16:=(x1.stp s5).stp s6
  have x26:=(x2.stp s5).stp s6
  have x36:=(x3.stp s5).stp s6
  have o6:=(o.stp s5).stp s6
  have top6:=(top.stp s5).stp s6
  have hr6:∀ y∈ql,OT ω5 w6 71 93 2 y.2.1 (labs y.1.1)∧∃ j,j<i∧OT ω5 w6 (TB+j) 96 2 y.2.2 (Chunk.smps y.1.2):=fun y hy=>⟨((hr y hy).1.stp s5).stp s6,by obtain ⟨j,hj,oj⟩:=(hr y hy).2;exact ⟨j,hj,(oj.stp s5).stp s6 (ntb j)⟩⟩
  have p6:=(o1.stp s5).stp s6
  have c6:OT ω5 w6 (TB+i) 96 2 c (Chunk.smps p.1.2):=(o2.stp s5 rfl).stp s6 (ntb i)
  unfold C.block_Trim.S7
  have hil:=(List.getElem?_eq_some_iff.1 hp).1
  have hLi:(q.map (·.1))[i]?=some p.1:=by rw [List.getElem?_map,hp];rfl
  have hLg:(q.map (·.1))[i]'(by omega)=p.1:=by have:=List.getElem?_eq_some_iff.1 hLi;exact this.2
  have et:=trim_take fr (L:=q.map (·.1)) (i:=i) (by omega)
  rw [hLg] at et
  have hsl:=(h.rd.el p (List.mem_of_getElem? hp)).sl
  refine ptr_at<|cSl_at (s:=c) (by rw [addr_add,b6.cell];rfl) ?_
  refine del_ok c6 (by omega) x16 (by unfold TB;omega) (by intro _ _ _ _ h;exact h) (by intro _ _ _ _ h;exact h) fun r7 ω7 w7 k7 o7=>?_
  have nt:∀ v,v<TB→Mem.One (TB+i) v=false:=fun v hv=>beq_no (by omega)
  have hr7n:=smN o7.rd
  refine ptr_at<|st_TA (b6.stp k7 (nt 5 (by decide))) (by simp) fun ω8 w8 k8 b8=>?_
  have n5:∀ j,Mem.One 5 (TB+j)=false:=fun j=>beq_no (by unfold TB;omega)
  have o8:=o7.stp k8 (n5 i)
  have top8:=(top6.stp k7 (nt 0 (by decide))).stp k8
  have x28:=(x26.stp k7 (nt 4 (by decide))).stp k8
  have x18:=(x16.stp k7 (nt 1 (by decide))).stp k8
  have x38:=(x36.stp k7 (nt 6 (by decide))).stp k8
  have r8:=(o6.stp k7 (nt 2 (by decide))).stp k8
  have p8:=(p6.stp k7 (nt 71 (by decide))).stp k8
  have hr8:∀ y∈ql,OT ω8 w8 71 93 2 y.2.1 (labs y.1.1)∧∃ j,j<i∧OT ω8 w8 (TB+j) 96 2 y.2.2 (Chunk.smps y.1.2):=fun y hy=>⟨((hr6 y hy).1.stp k7 (nt 71 (by decide))).stp k8,by obtain ⟨j,hj,oj⟩:=(hr6 y hy).2;exact ⟨j,hj,(oj.stp k7 (beq_no (by omega))).stp k8 (n5 j)⟩⟩
  refine ptr_at<|cSl_at (s:=r7) (by rw [addr_add,b8.cell];rfl) ?_
  have k68:=(toTT (.inr (.inr (.inr (Nat.le_add_right TB i)))) k7).trans (toTT (.inr (.inr (.inl rfl))) k8)
  refine cond_d (fun hpos=>?_) (fun hz'=>?_)
  ·have hne:fromS fr p.1.2≠[]:=fun e0=>by rw [e0] at hr7n;simp at hr7n;omega
   rw [if_neg hne] at et
   have hsn:=rdQ_n r8.rd
   refine ptr_at<|cSl_at (s:=s) (by rw [x28.cell];rfl)<|ptr_at<|cSl_at (s:=r) (by rw [b8.cell];rfl)<|cSl_at (s:=r7) (by rw [addr_add,b8.cell];rfl) ?_
   refine push_T (n:=1) tiQ r8 rfl (by intro v hv;simp at hv;rcases hv with rfl | rfl<;>rfl) (by simp only [maxLen];omega) (by omega) fun r9 ω9 w9 k9 o9 hr9=>?_
   refine ptr_at (st_T (x28.stp k9) (by simp) fun ω10 w10 k10 b10=>?_)
   have n2:∀ j,Mem.One 2 (TB+j)=false:=fun j=>beq_no (by unfold TB;omega)
   have n4:∀ j,Mem.One 4 (TB+j)=false:=fun j=>beq_no (by unfold TB;omega)
   have e4:sers (ql++[((p.1.1,fromS fr p.1.2),r,r7)])=sers ql++[r.v,r7.v]:=by rw [sers_app];rfl
   refine hR ω10 w10 (k68.trans ((toTT (.inl rfl) k9).trans (toTT (.inr (.inl rfl)) k10))) ⟨(top8.stp k9).stp k10,(x18.stp k9).stp k10,(x38.stp k9).stp k10,by omega,r9,ql++[((p.1.1,fromS fr p.1.2),r,r7)],b10,?_,?_,?_,fun y hy=>?_⟩
   ·rw [e4];exact o9.stp k10
   ·rw [List.length_append];simp;omega
   ·rw [List.map_append,e,et];rfl
   ·rcases List.mem_append.1 hy with hy | hy
    ·refine ⟨((hr8 y hy).1.stp k9).stp k10,?_⟩
     obtain ⟨j,hj,oj⟩:=(hr8 y hy).2
     exact ⟨j,by omega,(oj.stp k9 (n2 j)).stp k10 (n4 j)⟩
    ·rw [List.mem_singleton.1 hy]
     exact ⟨(p8.stp k9).stp k10,i,by omega,(o8.stp k9 (n2 i)).stp k10 (n4 i)⟩
  ·have he:fromS fr p.1.2=[]:=List.eq_nil_of_length_eq_zero (by omega)
   rw [if_pos he,List.append_nil] at et
   refine hR ω8 w8 k68 ⟨top8,x18,x38,by omega,s,ql,x28,r8,by omega,by rw [e,et],fun y hy=>⟨(hr8 y hy).1,?_⟩⟩
   obtain ⟨j,hj,oj⟩:=(hr8 y hy).2
   exact ⟨j,by omega,oj⟩
 ·rintro ω' w' D hD hDu ⟨i,rfl,top,x1,x3,hi,s,ql,x2,o,hle,e,hr⟩
  rw [List.take_of_length_le (by omega)] at e
  show C.block_Trim.S2 K _ (pushMark undef D) w'
  unfold C.block_Trim.S2
  have rd:RdQ w' s ql:=⟨o.rd,fun p hp=>by
   have hm:p.1∈trimL fr (q.map (·.1)):=by rw [← e];exact List.mem_map_of_mem hp
   obtain ⟨x,hx,e1,e2,e3⟩:=mem_trim hm
   obtain ⟨y,hy,rfl⟩:=List.mem_map.1 hx
   have hs:=h.rd.el y hy
   obtain ⟨j,_,oj⟩:=(hr p hp).2
   refine ⟨(hr p hp).1.rd,oj.rd,?_,?_,?_,?_⟩
   ·intro z hz;rw [e2] at hz;exact hs.fl z (List.mem_filter.1 hz).1
   ·rw [e2];have:=from_len fr y.1.2;have:=hs.sl;omega
   ·rw [e1];exact hs.ll
   ·rw [e1];exact hs.l9⟩
  refine ptr_at<|cSl_at (s:=s) (by rw [x2.cell];rfl)<|build_ok (hT.keep top.k) (ht.keep top.k) (hv.keep top.k) rd (by omega) fun b w9 k9 o9=>?_
  have s9:=k9.stp ω' 81
  have ob:=Own.tag o9 (Nat.le_refl _) ω' 81
  have top9:=top.stp s9
  have hDu9:ext ω' w'.heap.size 81 D=3:=by rw [ext_old (heap_lt hD)];exact hDu
  refine marks_at (k9.heap hD) ?_
  have sp:=put_stp (ω:=ext ω' w'.heap.size 81) (w:=w9) (o:=.deferred none) hDu9
  rw [e] at ob ⊢
  exact hK b _ (top9.stp sp).k (otNew (ob.stp sp) (top9.stp sp))
 ·rintro e ω' w' D _ _ h
  exact h.elim
end Go.Proofs.YtmfgmcajelmgbaaGreatDoor.Bk

namespace Go.Proofs.YtmfgmcajelmgbaaGreatDoor.Bk
open Go Vm Go.RowKit Num Mem Utf Lib Lab Vint Bits Rep
variable {ω ω' : Tg} {w w' w0 : World} {T : Nat → Bool} {t u g gm : Nat}
theorem wit_from {m:List Smp} (h:Chunk.Rising m) (a:Int):wit a 1125899906842624 m=fromS a m:=by
 unfold wit fromS
 refine List.filter_congr fun x hx=>?_
 have:=rise_mem h x hx
 unfold inS
 rw [decide_eq_true this.2.1,Bool.and_true]
theorem rtrim_ok {s:Sl} {q:QS} (h:RdQ w0 s q) (hl:q.length≤100000000) (hr:∀ x∈q.map (·.1),Chunk.Rising x.2) (fr:Int) {K:Sl→World→Prop}
  (hK:∀ r q' w',Keep w0 w'→RdQ w' r q'→q'.length≤q.length→q'.map (·.1)=trimL fr (q.map (·.1))→K r w'):C.tocsinref10_Trim s fr w0 K:=by
 have hsn:=h.n
 unfold C.tocsinref10_Trim C.tocsinref10_Trim.S9
 refine C.tocsinref10_Trim.L5_ind fun X hX=>?_
 have hLl:(q.map (·.1)).length=q.length:=List.length_map _
 have key:∀ (d i:Nat) (out:Sl) (A:QS) (ω:Tg) (w:World),i+d=q.length→Top w0 ω w→OT ω w 2 57 2 out (sers A)→A.length≤i→A.map (·.1)=trimL fr ((q.map (·.1)).take i)→(∀ p∈A,SeOk w p∧Rd w0 p.2.1 2 (labs p.1.1)∧OT ω w 9 96 2 p.2.2 (Chunk.smps p.1.2))→X fr out s ((s.n:Nat):Int) (i:Int) w:=by
  intro d
  induction d with
  | zero =>
   intro i out A ω w hi top o hA e hp
   refine hX _ _ _ _ _ _ ?_
   unfold C.tocsinref10_Trim.S7 C.tocsinref10_Trim.S2
   refine cond_d (fun h=>by omega) (fun _=>?_)
   rw [List.take_of_length_le (by omega)] at e
   exact hK out A w top.k ⟨o.rd,fun p h=>(hp p h).1⟩ (by omega) e
  | succ d ih =>
   intro i out A ω w hi top o hA e hp
   refine hX _ _ _ _ _ _ ?_
   unfold C.tocsinref10_Trim.S7
   have hiq:i<q.length:=by omega
   have hx:q[i]?=some q[i]:=List.getElem?_eq_getElem hiq
   have hsx:=h.el _ (List.getElem_mem hiq)
   have et:=trim_take fr (L:=q.map (·.1)) (i:=i) (by omega)
   rw [List.getElem_map] at et
   have hri:=hr q[i].1 (List.mem_map_of_mem (List.getElem_mem hiq))
   refine cond_d (fun _=>?_) (fun h=>by omega)
   refine rdQ_at (h.rd.keep top.k) (k:=i) rfl hx fun a e0 e1=>cSl_at e0<|cSl_at e1 ?_
   refine locS fun g w3 k3 hg b3=>cSl_at (s:=q[i].2.2) (by rw [addr_add,b3.cell];rfl) ?_
   have s3:=k3.1.stp ω 7
   have b3t:BT (ext ω w.heap.size 7) w3 7 g 57 [q[i].2.1.v,q[i].2.2.v]:=⟨b3,ext_new hg⟩
   have top3:=top.stp s3
   have o3:=o.stp s3
   have hp3:∀ p∈A,SeOk w3 p∧Rd w0 p.2.1 2 (labs p.1.1)∧OT (ext ω w.heap.size 7) w3 9 96 2 p.2.2 (Chunk.smps p.1.2):=fun p h=>⟨(hp p h).1.keep k3.1,(hp p h).2.1,(hp p h).2.2.stp s3⟩
   generalize ext ω w.heap.size 7=ω3 at *
   unfold C.tocsinref08_Within C.tocsinref08_Within.S9
   refine rwithin_ok (hsx.sm.keep top3.k) hsx.sl fun r4 w4 k4 o4=>?_
   rw [wit_from hri] at o4
   have s4:=k4.stp ω3 9
   have r4t:=Own.tag o4 (Nat.le_refl _) ω3 9
   have top4:=top3.stp s4
   have o4':=o3.stp s4
   have b4:=b3t.stp s4
   have hp4:∀ p∈A,SeOk w4 p∧Rd w0 p.2.1 2 (labs p.1.1)∧OT (ext ω3 w3.heap.size 9) w4 9 96 2 p.2.2 (Chunk.smps p.1.2):=fun p h=>⟨(hp3 p h).1.keep k4,(hp3 p h).2.1,(hp3 p h).2.2.stp s4⟩
   generalize ext ω3 w3.heap.size 9=ω4 at *
   have hrn:=smN r4t.rd
   rw [wI64 (by omega) (by omega),show (i:Int)+1=((i+1:Nat):Int) by omega]
   refine cond_d (fun hpos=>?_) (fun hz=>?_)
   ·have hne:fromS fr q[i].1.2≠[]:=fun e0=>by rw [e0] at hrn;simp at hrn;omega
    rw [if_neg hne] at et
    have hon:=rdQ_n o4'.rd
    refine cSl_at (s:=q[i].2.1) (by rw [b4.cell];rfl) ?_
    refine push_T (n:=1) tiQ o4' rfl (by intro v hv;simp at hv;rcases hv with rfl | rfl<;>rfl) (by simp only [maxLen];omega) (by omega) fun r5 ω5 w5 k5 o5 _=>?_
    have top5:=top4.stp k5
    have hfl:=from_len fr q[i].1.2
    have hsl:=hsx.sl
    refine ih (i+1) r5 (A++[((q[i].1.1,fromS fr q[i].1.2),q[i].2.1,r4)]) ω5 w5 (by omega) top5 (by rw [sers_app];exact o5) (by rw [List.length_append];simp;omega) (by rw [List.map_append,e,et];rfl) fun p hpm=>?_
    rcases List.mem_append.1 hpm with hpm | hpm
    ·obtain ⟨a1,a2,a3⟩:=hp4 p hpm
     exact ⟨⟨a2.keep top5.k,(a3.stp k5).rd,a1.fl,a1.sl,a1.ll,a1.l9⟩,a2,a3.stp k5⟩
    ·rw [List.mem_singleton.1 hpm]
     exact ⟨⟨hsx.lb.keep top5.k,(r4t.stp k5).rd,fun y hy=>hsx.fl y (List.mem_filter.1 hy).1,by show (fromS fr q[i].1.2).length≤11000000;omega,hsx.ll,hsx.l9⟩,hsx.lb,r4t.stp k5⟩
   ·have he:fromS fr q[i].1.2=[]:=List.eq_nil_of_length_eq_zero (by omega)
    rw [if_pos he,List.append_nil] at et
    exact ih (i+1) out A ω4 w4 (by omega) top4 o4' (by omega) (by rw [e,et]) hp4
 exact key q.length 0 nilS [] (fun _=>0) w0 (by omega) (Top.init w0) (OT.nil ..) (Nat.le_refl _) rfl (by simp)
theorem rputS_ok {s:Sl} {m:List Smp} (h:Rd w0 s 2 (Chunk.smps m)) (hl:m.length≤50000000) {x:Smp} {K:Sl→World→Prop}
  (hK:∀ r w',Keep w0 w'→Mem.Own w' w0.heap.size 96 2 r (Chunk.smps (putS m x))→K r w'):C.tocsinref10_put s x.1 x.2 w0 K:=by
 have hsn:=smN h
 unfold C.tocsinref10_put
 refine new_T (ω:=fun _=>0) 7 fun g ω1 w1 k1 b1=>?_
 unfold C.tocsinref10_put.S9
 refine C.tocsinref10_put.L5_ind fun X hX=>?_
 have hPl:∀ z,putS m z=putGo z false (m.drop 0):=fun z=>rfl
 have key:∀ (d i:Nat) (A:List Smp) (dn:Bool) (out:Sl) (ω:Tg) (w:World),i+d=m.length→Top w0 ω w→BT ω w 7 g 96 [.int .i64 x.1,.float .f64 x.2]→OT ω w 2 96 2 out (Chunk.smps A)→A.length≤2*i→A++putGo x dn (m.drop i)=putS m x→X (some ⟨g,0,none⟩) out dn s ((s.n:Nat):Int) (i:Int) w:=by
  intro d
  induction d with
  | zero =>
   intro i A dn out ω w hi top b o hA e
   refine hX _ _ _ _ _ _ _ ?_
   unfold C.tocsinref10_put.S7 C.tocsinref10_put.S2
   rw [List.drop_of_length_le (by omega)] at e
   have hon:=smN o.rd
   refine cond_d (fun h=>by omega) (fun _=>cond_not (fun hd=>?_) (fun hd=>?_))
   ·subst hd
    refine ptr_at<|cI_at (n:=x.1) (by rw [b.cell];rfl)<|cF_at (b:=x.2) (by rw [addr_add,b.cell];rfl) ?_
    refine push_T (n:=1) tiS o rfl (by intro v hv;simp at hv;rcases hv with rfl | rfl<;>rfl) (by simp only [maxLen];omega) (by omega) fun r ω2 w2 k2 o2 _=>?_
    refine hK r w2 (top.stp k2).k (otNew (u:=2) ?_ (top.stp k2))
    rw [← e,Chunk.smps_app];exact o2
   ·subst hd
    refine hK out w top.k (otNew (u:=2) ?_ top)
    rw [← e];simpa [putGo] using o
  | succ d ih =>
   intro i A dn out ω w hi top b o hA e
   refine hX _ _ _ _ _ _ _ ?_
   unfold C.tocsinref10_put.S7
   have him:i<m.length:=by omega
   have hx:m[i]?=some m[i]:=List.getElem?_eq_getElem him
   rw [List.drop_eq_getElem_cons him,putGo] at e
   refine cond_d (fun _=>?_) (fun h=>by omega)
   refine Chunk.rdS_at (h.keep top.k) (k:=i) rfl hx fun p f0 f1=>cI_at f0<|cF_at f1 ?_
   refine locP fun g3 w3 k3 hg3 b3=>?_
   have s3:=k3.1.stp ω 6
   have c3:BT (ext ω w.heap.size 6) w3 6 g3 96 [.int .i64 m[i].1,.float .f64 m[i].2]:=⟨b3,ext_new hg3⟩
   have top3:=top.stp s3
   have b3':=b.stp s3
   have o3:=o.stp s3
   generalize ext ω w.heap.size 6=ω3 at *
   generalize m[i]=y at *
   rw [wI64 (by omega) (by omega),show (i:Int)+1=((i+1:Nat):Int) by omega]
   -- y,if its time is another
   have rest:∀ (A':List Smp) (dn':Bool) (out':Sl) (ω4:Tg) (w4:World),Top w0 ω4 w4→BT ω4 w4 7 g 96 [.int .i64 x.1,.float .f64 x.2]→BT ω4 w4 6 g3 96 [.int .i64 y.1,.float .f64 y.2]→OT ω4 w4 2 96 2 out' (Chunk.smps A')→A'.length≤2*i+1→A'++((if y.1=x.1 then [] else [y])++putGo x dn' (m.drop (i+1)))=putS m x →
     G.cI .i64 ⟨g3,0,none⟩ w4 fun n50=>G.ptr (some ⟨g,0,none⟩) fun p51=>G.cI .i64 p51 w4 fun n52=>G.cond (n50 != n52) (G.cI .i64 ⟨g3,0,none⟩ w4 fun n53=>G.cF .f64 (Addr.add ⟨g3,0,none⟩ 1) w4 fun f54=>G.new (.cells #[(.int .i64 n53),(.float .f64 f54)] 96) w4 fun p55 w56=>G.runSl C.pr (Builtin.append_ #[52,52] 52 #[out'.v,(Sl.v (⟨some p55,1,1⟩:Sl))]) w56 fun l57 w58=>X (some ⟨g,0,none⟩) l57 dn' s ((s.n:Nat):Int) ((i+1:Nat):Int) w58) (X (some ⟨g,0,none⟩) out' dn' s ((s.n:Nat):Int) ((i+1:Nat):Int) w4):=by
    intro A' dn' out' ω4 w4 top4 b4 c4 o4 hA' e4
    refine cI_at (n:=y.1) (by rw [c4.cell];rfl)<|ptr_at<|cI_at (n:=x.1) (by rw [b4.cell];rfl) ?_
    have hon:=smN o4.rd
    refine cond_ne (fun hne=>?_) (fun heq=>?_)
    ·rw [if_neg hne] at e4
     refine cI_at (n:=y.1) (by rw [c4.cell];rfl)<|cF_at (b:=y.2) (by rw [addr_add,c4.cell];rfl) ?_
     refine push_T (n:=1) tiS o4 rfl (by intro v hv;simp at hv;rcases hv with rfl | rfl<;>rfl) (by simp only [maxLen];omega) (by omega) fun r ω5 w5 k5 o5 _=>?_
     refine ih (i+1) (A'++[y]) dn' r ω5 w5 (by omega) (top4.stp k5) (b4.stp k5) (by rw [Chunk.smps_app];exact o5) (by rw [List.length_append];simp;omega) ?_
     rw [← e4];simp
    ·rw [if_pos heq] at e4
     exact ih (i+1) A' dn' out' ω4 w4 (by omega) top4 b4 o4 (by omega) (by rw [← e4];simp)
   refine cond_not (fun hd=>?_) (fun hd=>?_)
   ·subst hd
    refine cI_at (n:=y.1) (by rw [c3.cell];rfl)<|ptr_at<|cI_at (n:=x.1) (by rw [b3'.cell];rfl) ?_
    have hon:=smN o3.rd
    refine cond_d (fun hge=>?_) (fun hlt=>?_)
    ·rw [if_pos ⟨rfl,by omega⟩,decide_eq_true (by omega),Bool.or_true] at e
     refine ptr_at<|cI_at (n:=x.1) (by rw [b3'.cell];rfl)<|cF_at (b:=x.2) (by rw [addr_add,b3'.cell];rfl) ?_
     refine push_T (n:=1) tiS o3 rfl (by intro v hv;simp at hv;rcases hv with rfl | rfl<;>rfl) (by simp only [maxLen];omega) (by omega) fun r ω4 w4 k4 o4 _=>?_
     exact rest (A++[x]) true r ω4 w4 (top3.stp k4) (b3'.stp k4) (c3.stp k4) (by rw [Chunk.smps_app];exact o4) (by rw [List.length_append];simp;omega) (by rw [← e];simp)
    ·rw [if_neg (fun h=>hlt (by omega)),decide_eq_false (by omega),Bool.or_false,List.nil_append] at e
     exact rest A false out ω3 w3 top3 b3' c3 o3 (by omega) e
   ·subst hd
    rw [if_neg (fun h=>by cases h.1),Bool.true_or,List.nil_append] at e
    exact rest A true out ω3 w3 top3 b3' c3 o3 (by omega) e
 exact key m.length 0 [] false nilS ω1 w1 (by omega) ((Top.init w0).stp k1) b1 (OT.nil ..) (by simp) (by simp [putS])
end Go.Proofs.YtmfgmcajelmgbaaGreatDoor.Bk

namespace Go.Proofs.YtmfgmcajelmgbaaGreatDoor.Bk
open Go Vm Go.RowKit Num Mem Utf Lib Lab Vint Bits Rep
variable {ω ω' : Tg} {w w' w0 : World} {T : Nat → Bool} {t u g gm : Nat}
theorem mgM_set2:∀ (l:QS) (k:Nat) (p:SQ) (x:Ser) (s:Sl),l[k]?=some p→(sers l).set (k*2+1) s.v=sers (l.set k (x,p.2.1,s))
 | [],k,p,x,s,h=>by simp at h
 | y::l,0,p,x,s,h=>by
  simp only [List.getElem?_cons_zero,Option.some.injEq] at h
  subst h;rfl
 | y::l,k+1,p,x,s,h=>by
  have ih:=mgM_set2 l k p x s (by simpa using h)
  have e:∀ (y:SQ) (m:QS),sers (y::m)=y.2.1.v::y.2.2.v::sers m:=fun _ _=>rfl
  rw [e,show (k+1)*2+1=(k*2+1)+1+1 by omega,List.set_cons_succ,List.set_cons_succ,ih,List.set_cons_succ,e]
theorem putGo_len (x:Smp):∀ (d:Bool) (l:List Smp),(putGo x d l).length≤l.length+(if d=false then 1 else 0)
 | true,[]=>by simp [putGo]
 | false,[]=>by simp [putGo]
 | d,y::r=>by
  rw [putGo,List.length_append,List.length_append,List.length_cons]
  have h:=putGo_len x (d || decide (x.1≤y.1)) r
  by_cases hd:d=false
  ·subst hd
   rw [if_pos rfl]
   by_cases hle:x.1≤y.1
   ·rw [decide_eq_true hle] at h ⊢
    simp only [Bool.or_true,Bool.true_eq_false,if_false] at h ⊢
    simp only [hle,and_self,if_true,List.length_cons,List.length_nil]
    split<;>simp<;>omega
   ·rw [decide_eq_false hle] at h ⊢
    simp only [Bool.or_self,if_true] at h ⊢
    simp only [hle,and_false,if_false,List.length_nil]
    split<;>simp<;>omega
  ·have:d=true:=by simpa using hd
   subst this
   simp only [Bool.true_or,Bool.true_eq_false,if_false,false_and,List.length_nil] at h ⊢
   split<;>simp<;>omega
theorem putS_lens:∀ (m l:List Smp),(m.foldl putS l).length≤l.length+m.length
 | [],_=>Nat.le_refl _
 | x::m,l=>by
  rw [List.foldl_cons,List.length_cons]
  have h1:=putS_lens m (putS l x)
  have h2:=putGo_len x false l
  rw [if_pos rfl] at h2
  have h3:(putS l x).length≤l.length+1:=h2
  omega
structure RM (w0:World) (ω:Tg) (w:World) (out:Sl) (L:List Ser):Prop where
 top:Top w0 ω w
 ex:∃ qo,OT ω w 2 57 2 out (sers qo)∧qo.map (·.1)=L∧∀ p∈qo,Rd w0 p.2.1 2 (labs p.1.1)∧OT ω w 9 96 2 p.2.2 (Chunk.smps p.1.2)
theorem RM.stp {out:Sl} {L:List Ser} (h:RM w0 ω w out L) (k:Stp T ω ω' w w') (z:T 0=false∧T 2=false∧T 9=false:=by exact ⟨rfl,rfl,rfl⟩):RM w0 ω' w' out L:=by
 obtain ⟨qo,o,e,hr⟩:=h.ex
 exact ⟨h.top.stp k z.1,qo,o.stp k z.2.1,e,fun p hp=>⟨(hr p hp).1,(hr p hp).2.stp k z.2.2⟩⟩
theorem RM.n {out:Sl} {L:List Ser} (h:RM w0 ω w out L):out.n=L.length:=by
 obtain ⟨qo,o,e,_⟩:=h.ex
 rw [rdQ_n o.rd,← e,List.length_map]
theorem merged_put {k:Nat} {out:Sl} {x:Ser} {b:Sl} (hx:Rd w0 b 2 (Chunk.smps x.2)) (hxl:x.2.length≤2700000) {a d:List Ser} {l:List Lb} {base:List Smp} (hk:a.length=k) (hbl:base.length≤9000000)
  (h:RM w0 ω w out (a++(l,base)::d)) (hL:a.length+d.length≤10000) {K:C.tocsinref10_Merged.KT} {kc5:Cur C.tocsinref10_Merged.g5} {kc11:Cur C.tocsinref10_Merged.g11} {l1 l2:Sl} {n1 n2 n3 n4:Int}
  (hK:∀ ω' w',RM w0 ω' w' out (a++(l,x.2.foldl putS base)::d)→C.tocsinref10_Merged.S13 K kc5 kc11 out l1 n1 n2 l2 n3 n4 w') :
  C.tocsinref10_Merged.L17 K kc5 kc11 out (k:Int) l1 n1 n2 l2 n3 n4 b ((b.n:Nat):Int) 0 w:=by
 have hbn:=smN hx
 refine C.tocsinref10_Merged.L17_ind fun X hX=>?_
 have key:∀ (e j:Nat) (ω:Tg) (w:World),j+e=x.2.length→RM w0 ω w out (a++(l,(x.2.take j).foldl putS base)::d)→X out (k:Int) l1 n1 n2 l2 n3 n4 b ((b.n:Nat):Int) (j:Int) w:=by
  intro e
  induction e with
  | zero =>
   intro j ω w hj R
   refine hX _ _ _ _ _ _ _ _ _ _ _ _ ?_
   unfold C.tocsinref10_Merged.S19
   rw [List.take_of_length_le (by omega)] at R
   exact cond_d (fun h=>by omega) (fun _=>hK ω w R)
  | succ e ih =>
   intro j ω w hj R
   refine hX _ _ _ _ _ _ _ _ _ _ _ _ ?_
   unfold C.tocsinref10_Merged.S19
   have hjl:j<x.2.length:=by omega
   have hy:x.2[j]?=some x.2[j]:=List.getElem?_eq_getElem hjl
   have et:(x.2.take (j+1)).foldl putS base=putS ((x.2.take j).foldl putS base) x.2[j]:=by rw [List.take_succ_eq_append_getElem hjl,List.foldl_append];rfl
   have hcl:((x.2.take j).foldl putS base).length≤20000000:=by have:=putS_lens (x.2.take j) base;rw [List.length_take] at this;omega
   refine cond_d (fun _=>?_) (fun h=>by omega)
   refine Chunk.rdS_at (hx.keep R.top.k) (k:=j) rfl hy fun p f0 f1=>cI_at f0<|cF_at f1 ?_
   refine locP fun g3 w3 k3 hg3 b3=>?_
   have s3:=k3.1.stp ω 6
   have c3:BT (ext ω w.heap.size 6) w3 6 g3 96 [.int .i64 x.2[j].1,.float .f64 x.2[j].2]:=⟨b3,ext_new hg3⟩
   have R3:=R.stp s3
   generalize ext ω w.heap.size 6=ω3 at *
   have sd:=drew_stp ω3 w3
   have Rd3:=R3.stp sd
   have cd:=c3.stp sd
   generalize (x.2.take j).foldl putS base=cur at *
   obtain ⟨qo,o,eq,hr⟩:=Rd3.ex
   have hql:qo.length=a.length+(d.length+1):=by have:=congrArg List.length eq;simpa using this
   have hkq:k<qo.length:=by omega
   have hqx:qo[k]?=some qo[k]:=List.getElem?_eq_getElem hkq
   have hq1:qo[k].1=(l,cur):=by
    have h1:(qo.map (·.1))[k]'(by rw [List.length_map];exact hkq)=(a++(l,cur)::d)[k]'(by rw [← eq,List.length_map];exact hkq):=by simp only [eq]
    rw [List.getElem_map] at h1
    rw [h1];subst hk;simp
   have hmr:=hr _ (List.getElem_mem hkq)
   refine rdQ_at o.rd (k:=k) rfl hqx fun p _ e1=>cSl_at e1 ?_
   refine cI_at (n:=x.2[j].1) (by rw [cd.cell];rfl)<|cF_at (b:=x.2[j].2) (by rw [addr_add,cd.cell];rfl) ?_
   have hms:=hmr.2
   rw [hq1] at hms
   refine rputS_ok (m:=cur) (x:=x.2[j]) hms.rd (by omega) fun q w4 k4 o4=>?_
   have s4:=k4.stp ω3 9
   have qt:=Own.tag o4 (Nat.le_refl _) ω3 9
   have o4':=o.stp s4
   have top4:=Rd3.top.stp s4
   have hr4:∀ p∈qo,Rd w0 p.2.1 2 (labs p.1.1)∧OT (ext ω3 w3.drew.heap.size 9) w4 9 96 2 p.2.2 (Chunk.smps p.1.2):=fun p hp=>⟨(hr p hp).1,(hr p hp).2.stp s4⟩
   generalize ext ω3 w3.drew.heap.size 9=ω4 at *
   have hon:=rdQ_n o4'.rd
   refine OT.at_ o4' (k:=k) rfl (by omega) fun p hp _ _ _=>?_
   refine OT.st o4' (i:=k) (j:=1) (by omega) (by decide) _ hp fun ω5 w5 k5 o5=>?_
   rw [mgM_set2 qo k _ (l,putS cur x.2[j]) q hqx] at o5
   rw [wI64 (by omega) (by omega),show (j:Int)+1=((j+1:Nat):Int) by omega]
   refine ih (j+1) ω5 w5 (by omega) ?_
   rw [et]
   refine ⟨top4.stp k5,_,o5,?_,fun p hp=>?_⟩
   ·rw [List.map_set,eq]
    show (a++(l,cur)::d).set k (l,putS cur x.2[j])=_
    rw [← hk,List.set_append_right _ _ (Nat.le_refl _),Nat.sub_self,List.set_cons_zero]
   ·rcases List.mem_or_eq_of_mem_set hp with hp | rfl
    ·exact ⟨(hr4 p hp).1,(hr4 p hp).2.stp k5⟩
    ·have h1:=hmr.1
     rw [hq1] at h1
     exact ⟨h1,qt.stp k5⟩
 exact key x.2.length 0 ω w (by omega) (by simpa using h)
abbrev KM:=C.tocsinref10_Merged.KT
abbrev M5:=Cur C.tocsinref10_Merged.g5
abbrev M11:=Cur C.tocsinref10_Merged.g11
theorem merged_find {L:List Ser} {out:Sl} {x:Ser} {lb sb:Sl} {g5:Nat} (hlb:Rd w0 lb 2 (labs x.1)) (h9:∀ y∈L,y.1.length≤9000000000000000000) (hLn:L.length≤10000) (R:RM w0 ω w out L) (b5:BT ω w 5 g5 57 [lb.v,sb.v])
  {K:KM} {kc5:M5} {kc11:M11} {l1 l2:Sl} {n1 n2 n3 n4:Int}
  (hN:∀ ω' w',RM w0 ω' w' out L→BT ω' w' 5 g5 57 [lb.v,sb.v]→x.1 ∉ L.map (·.1)→C.tocsinref10_Merged.S22 K kc5 kc11 out (some ⟨g5,0,none⟩) (-1) l1 n1 n2 l2 n3 n4 w')
  (hY:∀ ω' w' i,RM w0 ω' w' out L→BT ω' w' 5 g5 57 [lb.v,sb.v]→(h:i<L.length)→L[i].1=x.1→C.tocsinref10_Merged.S22 K kc5 kc11 out (some ⟨g5,0,none⟩) (i:Int) l1 n1 n2 l2 n3 n4 w') :
  C.tocsinref10_Merged.S29 K kc5 kc11 out (some ⟨g5,0,none⟩) (-1) l1 n1 n2 l2 n3 n4 w:=by
 unfold C.tocsinref10_Merged.S29
 refine C.tocsinref10_Merged.L25_ind fun X hX=>?_
 have hon:=R.n
 have key:∀ (e j:Nat) (k:Int) (ω:Tg) (w:World),j+e=L.length→RM w0 ω w out L→BT ω w 5 g5 57 [lb.v,sb.v]→((k = -1∧∀ i,(h:i<L.length)→i<j→L[i].1≠x.1)∨∃ i,∃ h:i<L.length,L[i].1=x.1∧k=(i:Int)) →
   X out (some ⟨g5,0,none⟩) k l1 n1 n2 l2 n3 n4 out ((out.n:Nat):Int) (j:Int) w:=by
  intro e
  induction e with
  | zero =>
   intro j k ω w hj R b5 hk
   refine hX _ _ _ _ _ _ _ _ _ _ _ _ _ ?_
   unfold C.tocsinref10_Merged.S27
   refine cond_d (fun h=>by omega) (fun _=>?_)
   rcases hk with ⟨rfl,hk⟩ | ⟨i,h,e1,rfl⟩
   ·refine hN ω w R b5 fun hm=>?_
    obtain ⟨y,hy,ey⟩:=List.mem_map.1 hm
    obtain ⟨i,hi,rfl⟩:=List.getElem_of_mem hy
    exact hk i hi (by omega) ey
   ·exact hY ω w i R b5 h e1
  | succ e ih =>
   intro j k ω w hj R b5 hk
   refine hX _ _ _ _ _ _ _ _ _ _ _ _ _ ?_
   unfold C.tocsinref10_Merged.S27
   obtain ⟨qo,o,eq,hr⟩:=R.ex
   have hql:qo.length=L.length:=by rw [← eq,List.length_map]
   have hjl:j<L.length:=by omega
   have hqx:qo[j]?=some (qo[j]'(by omega)):=List.getElem?_eq_getElem (by omega)
   have hq1:(qo[j]'(by omega)).1=L[j]:=by
    have h1:(qo.map (·.1))[j]'(by rw [List.length_map];omega)=L[j]:=by simp only [eq]
    rwa [List.getElem_map] at h1
   have hmr:=(hr _ (List.getElem_mem (show j<qo.length by omega))).1
   rw [hq1] at hmr
   refine cond_d (fun _=>?_) (fun h=>by omega)
   refine rdQ_at o.rd (k:=j) rfl hqx fun p e0 e1=>cSl_at e0<|cSl_at e1 ?_
   refine locS fun g6 w3 k3 hg b6=>?_
   have s3:=k3.1.stp ω 6
   have R3:=R.stp s3
   have b53:=b5.stp s3
   refine cSl_at (s:=(qo[j]'(by omega)).2.1) (by rw [b6.cell];rfl) ?_
   generalize ext ω w.heap.size 6=ω3 at *
   refine ptr_at<|cSl_at (s:=lb) (by rw [b53.cell];rfl) ?_
   refine rsame_ok (hmr.keep R3.top.k) (hlb.keep R3.top.k) (h9 _ (List.getElem_mem hjl)) fun w4 k4=>?_
   have s4:=k4.stp0 ω3
   have R4:=R3.stp s4
   have b54:=b53.stp s4
   rw [wI64 (by omega) (by omega),show (j:Int)+1=((j+1:Nat):Int) by omega]
   refine cond_d (fun he=>?_) (fun hne=>?_)
   ·exact ih (j+1) _ ω3 w4 (by omega) R4 b54 (.inr ⟨j,hjl,he,rfl⟩)
   ·refine ih (j+1) k ω3 w4 (by omega) R4 b54 ?_
    rcases hk with ⟨rfl,hk⟩ | hk
    ·refine .inl ⟨rfl,fun i h hij=>?_⟩
     by_cases hc:i=j
     ·subst hc;exact hne
     ·exact hk i h (by omega)
    ·exact .inr hk
 exact key L.length 0 (-1) ω w (by omega) R b5 (.inl ⟨rfl,fun i h hi=>by omega⟩)
theorem merged_one {L:List Ser} {out:Sl} {x:Ser} {lb sb:Sl} {g5:Nat} (hlb:Rd w0 lb 2 (labs x.1)) (hsb:Rd w0 sb 2 (Chunk.smps x.2)) (hxl:x.2.length≤2700000) (hxs:SL x.2) (hg:Good L) (hLn:L.length≤9000) (hLs:∀ y∈L,y.2.length≤9000000)
  (R:RM w0 ω w out L) (b5:BT ω w 5 g5 57 [lb.v,sb.v]) {K:KM} {kc5:M5} {kc11:M11} {l1 l2:Sl} {n1 n2 n3 n4:Int}
  (hK:∀ r ω' w',RM w0 ω' w' r (mg L x)→C.tocsinref10_Merged.S13 K kc5 kc11 r l1 n1 n2 l2 n3 n4 w') :
  C.tocsinref10_Merged.S29 K kc5 kc11 out (some ⟨g5,0,none⟩) (-1) l1 n1 n2 l2 n3 n4 w:=by
 refine merged_find hlb (fun y hy=>(rt_sizes (hg.rt y hy)).2) (by omega) R b5 (fun ω1 w1 R1 b51 hno=>?_) (fun ω1 w1 i R1 b51 hi he=>?_)
 ·unfold C.tocsinref10_Merged.S22
  have hon:=R1.n
  obtain ⟨qo,o,eq,hr⟩:=R1.ex
  refine cond_t rfl<|ptr_at<|cSl_at (s:=lb) (by rw [b51.cell];rfl) ?_
  refine push_T (n:=1) tiQ o rfl (by intro v hv;simp at hv;rcases hv with rfl | rfl<;>rfl) (by simp only [maxLen];omega) (by omega) fun r ω2 w2 k2 o2 hrn=>?_
  have b52:=b51.stp k2
  have R2:RM w0 ω2 w2 r (L++[(x.1,[])]):=by
   refine ⟨R1.top.stp k2,qo++[((x.1,[]),lb,nilS)],by rw [sers_app];exact o2,by rw [List.map_append,eq];rfl,fun p hp=>?_⟩
   rcases List.mem_append.1 hp with hp | hp
   ·exact ⟨(hr p hp).1,(hr p hp).2.stp k2⟩
   ·rw [List.mem_singleton.1 hp];exact ⟨hlb,OT.nil ..⟩
  unfold C.tocsinref10_Merged.S21
  rw [hrn,wI64 (by omega) (by omega),show ((out.n+1:Nat):Int)-1=((L.length:Nat):Int) by omega]
  refine ptr_at<|cSl_at (s:=sb) (by rw [addr_add,b52.cell];rfl) ?_
  refine merged_put hsb hxl rfl (by simp) R2 (by simp;omega) fun ω3 w3 R3=>?_
  rw [fold_sam hxs List.Pairwise.nil,nil_sam] at R3
  refine hK r ω3 w3 ?_
  rw [mg_new hno];exact R3
 ·unfold C.tocsinref10_Merged.S22
  refine cond_d (fun h=>by omega) (fun _=>?_)
  unfold C.tocsinref10_Merged.S21
  refine ptr_at<|cSl_at (s:=sb) (by rw [addr_add,b51.cell];rfl) ?_
  have eL:L=L.take i++(L[i].1,L[i].2)::L.drop (i+1):=by
   show L=L.take i++L[i]::L.drop (i+1)
   rw [← List.drop_eq_getElem_cons hi,List.take_append_drop]
  have hti:(L.take i).length=i:=by rw [List.length_take];omega
  have hdi:(L.drop (i+1)).length=L.length-(i+1):=List.length_drop ..
  have hna:x.1 ∉ (L.take i).map (·.1):=fun hm=>by
   have nd:=hg.nd
   rw [eL,List.map_append,List.map_cons,List.nodup_append] at nd
   exact nd.2.2 _ hm _ (List.mem_cons_self ..) he.symm
  have hsl:=rise_sl (hg.ri _ (List.getElem_mem hi))
  have em:mg L x=L.take i++(L[i].1,sam L[i].2 x.2)::L.drop (i+1):=by
   have:=mg_at (s:=x) (x:=L[i]) (a:=L.take i) (b:=L.drop (i+1)) hna he
   rw [← List.drop_eq_getElem_cons hi,List.take_append_drop] at this
   exact this
  have hbl:=hLs _ (List.getElem_mem hi)
  refine merged_put hsb hxl hti hbl (by rw [← eL];exact R1) (by omega) fun ω3 w3 R3=>?_
  rw [fold_sam hxs hsl] at R3
  refine hK out ω3 w3 ?_
  rw [em];exact R3
def hOf (l:List (Sl × QS)):List Value:=l.map fun e=>e.1.v
def qOf (l:List (Sl × QS)):List (List Ser):=l.map fun e=>e.2.map (·.1)
theorem merged_ok {s:Sl} {l:List (Sl × QS)} (hs:Rd w0 s 1 (hOf l)) (hq:∀ e∈l,RdQ w0 e.1 e.2∧Good (e.2.map (·.1))∧e.2.length≤1000∧∀ x∈e.2.map (·.1),x.2.length≤2700000) (h3:l.length≤3) {K:Sl→World→Prop}
  (hK:∀ r q' w',Keep w0 w'→RdQ w' r q'→q'.map (·.1)=srt (mgS (qOf l))→K r w'):C.tocsinref10_Merged s w0 K:=by
 have hsn:s.n=l.length:=by have:=hs.2.1;simp [hOf] at this;omega
 unfold C.tocsinref10_Merged C.tocsinref10_Merged.S41
 refine C.tocsinref10_Merged.L5_ind fun X hX=>?_
 have hgd:∀ A∈qOf l,Good A∧A.length≤1000∧∀ x∈A,x.2.length≤2700000:=fun A hA=>by
  obtain ⟨e,he,rfl⟩:=List.mem_map.1 hA
  obtain ⟨_,h1,h2,h3⟩:=hq e he
  exact ⟨h1,by rw [List.length_map];exact h2,h3⟩
 have hsl:(qOf l).length=l.length:=List.length_map _
 have key:∀ (d i:Nat) (out:Sl) (ω:Tg) (w:World),i+d=l.length→RM w0 ω w out (mgS ((qOf l).take i))→X out s ((s.n:Nat):Int) (i:Int) w:=by
  intro d
  induction d with
  | zero =>
   intro i out ω w hi R
   refine hX _ _ _ _ _ ?_
   unfold C.tocsinref10_Merged.S39 C.tocsinref10_Merged.S2
   rw [List.take_of_length_le (by omega)] at R
   have bd:=mgS_bd hgd l.length (by omega)
   rw [List.take_of_length_le (by omega)] at bd
   obtain ⟨qo,o,e,hr⟩:=R.ex
   refine cond_d (fun h=>by omega) (fun _=>?_)
   have hqn:qo.length=(mgS (qOf l)).length:=by have:=congrArg List.length e;simpa using this
   have hbn:=bd.n
   have rd:RdQ w out qo:=⟨o.rd,fun p hp=>by
    have hm:p.1∈mgS (qOf l):=by rw [← e];exact List.mem_map_of_mem hp
    have h1:=bd.sl _ hm
    exact ⟨(hr p hp).1.keep R.top.k,(hr p hp).2.rd,fun z hz=>(rise_mem (bd.good.ri _ hm) z hz).2.2,by omega,(rt_sizes (bd.good.rt _ hm)).1,(rt_sizes (bd.good.rt _ hm)).2⟩⟩
   refine rsorted_ok rd (by omega) fun r q' w' k' pq e' o'=>?_
   exact hK r q' w' (Keep.trans R.top.k k') ⟨Own.rd o',fun p hp=>(rd.el p (pq.mem_iff.1 hp)).keep k'⟩ (by rw [e',e])
  | succ d ih =>
   intro i out ω w hi R
   refine hX _ _ _ _ _ ?_
   unfold C.tocsinref10_Merged.S39 C.tocsinref10_Merged.S36
   have hil:i<l.length:=by omega
   have hel:=List.getElem_mem hil
   refine cond_d (fun _=>?_) (fun h=>by omega)
   refine Rd.ix (hs.keep R.top.k) (by decide) (by omega) (by omega) fun a ha=>?_
   have h0:=ha 0 l[i].1.v (by decide) (by rw [Int.toNat_natCast,Nat.mul_one,Nat.add_zero,hOf,List.getElem?_map,List.getElem?_eq_getElem hil];rfl)
   rw [show a.add 0=a by simp [Addr.add]] at h0
   refine cSl_at h0 ?_
   obtain ⟨rq,gq,hqn,hqs⟩:=hq _ hel
   have bd:=mgS_bd hgd i (by omega)
   have etk:mgS ((qOf l).take (i+1))=(l[i].2.map (·.1)).foldl mg (mgS ((qOf l).take i)):=by
    rw [mgS_take (by omega)]
    congr 1
    simp [qOf]
   generalize l[i]=be at *
   obtain ⟨rs,q⟩:=be
   dsimp only at rq gq hqn hqs etk h0 ⊢
   have hLl:(q.map (·.1)).length=q.length:=List.length_map _
   have bdj:∀ j,Bd (((q.map (·.1)).take j).foldl mg (mgS ((qOf l).take i))) (i+1):=fun j=>bd.fold j gq (by omega) hqs
   have hrn:=rq.n
   refine C.tocsinref10_Merged.L11_ind fun Y hY=>?_
   have inner:∀ (e j:Nat) (out:Sl) (ω:Tg) (w:World),j+e=q.length→RM w0 ω w out (((q.map (·.1)).take j).foldl mg (mgS ((qOf l).take i)))→Y out s ((s.n:Nat):Int) (i:Int) rs ((rs.n:Nat):Int) (j:Int) w:=by
    intro e
    induction e with
    | zero =>
     intro j out ω w hj R
     refine hY _ _ _ _ _ _ _ _ ?_
     unfold C.tocsinref10_Merged.S34 C.tocsinref10_Merged.S7
     rw [List.take_of_length_le (l:=q.map (·.1)) (by omega),← etk] at R
     refine cond_d (fun h=>by omega) (fun _=>?_)
     rw [wI64 (by omega) (by omega),show (i:Int)+1=((i+1:Nat):Int) by omega]
     exact ih (i+1) out ω w (by omega) R
    | succ e ihe =>
     intro j out ω w hj R
     refine hY _ _ _ _ _ _ _ _ ?_
     unfold C.tocsinref10_Merged.S34 C.tocsinref10_Merged.S31
     have hjq:j<q.length:=by omega
     have hx:q[j]?=some q[j]:=List.getElem?_eq_getElem hjq
     have hsx:=rq.el _ (List.getElem_mem hjq)
     refine cond_d (fun _=>?_) (fun h=>by omega)
     refine rdQ_at (rq.rd.keep R.top.k) (k:=j) rfl hx fun a e0 e1=>cSl_at e0<|cSl_at e1 ?_
     refine locS fun g5 w3 k3 hg b5=>?_
     have s3:=k3.1.stp ω 5
     have b5t:BT (ext ω w.heap.size 5) w3 5 g5 57 [q[j].2.1.v,q[j].2.2.v]:=⟨b5,ext_new hg⟩
     have R3:=R.stp s3
     generalize ext ω w.heap.size 5=ω3 at *
     have hLj:(q.map (·.1))[j]'(by omega)=q[j].1:=List.getElem_map ..
     have hxm:q[j].1∈q.map (·.1):=List.mem_map_of_mem (List.getElem_mem hjq)
     have bj:=bdj j
     have hbjn:=bj.n
     refine merged_one (x:=q[j].1) hsx.lb hsx.sm (hqs _ hxm) (rise_sl (gq.ri _ hxm)) bj.good (by omega) (fun y hy=>by have:=bj.sl y hy;omega) R3 b5t fun r ω4 w4 R4=>?_
     unfold C.tocsinref10_Merged.S13
     rw [wI64 (by omega) (by omega),show (j:Int)+1=((j+1:Nat):Int) by omega]
     refine ihe (j+1) r ω4 w4 (by omega) ?_
     rw [List.take_succ_eq_append_getElem (by omega),List.foldl_append,hLj];exact R4
   exact inner q.length 0 out ω w (by omega) (by simpa using R)
 exact key l.length 0 nilS (fun _=>0) w0 (by omega) ⟨Top.init w0,[],OT.nil ..,rfl,by simp⟩
end Go.Proofs.YtmfgmcajelmgbaaGreatDoor.Bk

namespace Go.Proofs.YtmfgmcajelmgbaaGreatDoor.Bk
open Go Vm Go.RowKit Num Mem Utf Lib Lab Vint Bits Rep
variable {ω ω' : Tg} {w w' w0 : World} {T : Nat → Bool} {t u g gm : Nat}
theorem smps_tail {r:Sl} {x:Smp} {m:List Smp} {n:Nat} (hn:n=m.length+1) (h:Rd w r 2 (((Chunk.smps (x::m)).drop (1*2)).take ((n-1)*2))):Rd w r 2 (Chunk.smps m):=by
 have e:Chunk.smps (x::m)=.int .i64 x.1::.float .f64 x.2::Chunk.smps m:=rfl
 rw [e,List.drop_succ_cons,List.drop_succ_cons,List.drop_zero,List.take_of_length_le (by rw [Chunk.smps_len];omega)] at h
 exact h
theorem sam_ok {a b:Sl} {m n:List Smp} (ha:Rd w0 a 2 (Chunk.smps m)) (hb:Rd w0 b 2 (Chunk.smps n)) (hm:m.length≤20000000) (hn:n.length≤20000000) {K:Sl→World→Prop}
  (hK:∀ r w',Keep w0 w'→Mem.Own w' w0.heap.size 96 2 r (Chunk.smps (sam m n))→K r w'):C.block_samples a b w0 K:=by
 unfold C.block_samples
 refine C.block_samples.J6_ind fun X hX=>?_
 have key:∀ (d:Nat) (m' n':List Smp) (a b out:Sl) (A:List Smp) (ω:Tg) (w:World),m'.length+n'.length=d→m'.length≤20000000→n'.length≤20000000→A.length+d≤40000000→Top w0 ω w→Rd w0 a 2 (Chunk.smps m')→Rd w0 b 2 (Chunk.smps n')→OT ω w 2 96 2 out (Chunk.smps A)→A++sam m' n'=sam m n→C.block_samples.S4 K X a b out w:=by
  intro d
  induction d using Nat.strongRecOn with
  | _ d ih =>
   intro m' n' a b out A ω w hd hm' hn' hA top ha hb o e
   unfold C.block_samples.S4
   have han:=smN ha
   have hbn:=smN hb
   have hon:=smN o.rd
   cases m' with
   | nil =>
    refine cond_t (by simp [han]) ?_
    refine app_T tiS o (hb.keep top.k) Chunk.smps_one (by simp only [maxLen];omega) (by omega) fun r ω1 w1 k1 o1 _=>?_
    rw [nil_sam] at e
    refine hK r w1 (top.stp k1).k (otNew (u:=2) ?_ (top.stp k1))
    rw [← e,Chunk.smps_app];exact o1
   | cons x m' =>
    rw [List.length_cons] at hm' han hd
    refine cond_f (beq_eq_false_iff_ne.2 (by omega)) ?_
    cases n' with
    | nil =>
     refine cond_t (by simp [hbn]) ?_
     refine app_T tiS o (ha.keep top.k) Chunk.smps_one (by simp only [maxLen];omega) (by omega) fun r ω1 w1 k1 o1 _=>?_
     rw [sam_nil] at e
     refine hK r w1 (top.stp k1).k (otNew (u:=2) ?_ (top.stp k1))
     rw [← e,Chunk.smps_app];exact o1
    | cons y n' =>
     rw [List.length_cons] at hn' hbn hd
     refine cond_f (beq_eq_false_iff_ne.2 (by omega)) ?_
     have s1:=drew_stp ω w
     have s2:=s1.trans (drew_stp ω w.drew)
     have s3:=s2.trans (drew_stp ω w.drew.drew)
     have top1:=top.stp s1
     have top2:=top.stp s2
     have top3:=top.stp s3
     have o2:=o.stp s2
     have o3:=o.stp s3
     rw [sam_cons] at e
     refine Chunk.rdS_at (ha.keep top1.k) (k:=0) rfl rfl fun p f0 _=>cI_at f0 ?_
     refine Chunk.rdS_at (hb.keep top1.k) (k:=0) rfl rfl fun p f0 _=>cI_at f0 ?_
     refine cond_d (fun hlt=>?_) (fun hge=>?_)
     ·rw [if_pos hlt] at e
      refine Chunk.rdS_at (ha.keep top2.k) (k:=0) rfl rfl fun p f0 f1=>cI_at f0<|cF_at f1 ?_
      refine Rd.slc ha (lo:=1) (hi:=a.n) (by omega) (Nat.le_refl _) rfl rfl fun r hr _ _=>?_
      refine push_T (n:=1) tiS o2 rfl (by intro v hv;simp at hv;rcases hv with rfl | rfl<;>rfl) (by simp only [maxLen];omega) (by omega) fun q ω4 w4 k4 o4 _=>?_
      refine hX _ _ _ _ (ih (d-1) (by omega) m' (y::n') r b q (A++[x]) ω4 w4 (by rw [List.length_cons];omega) (by omega) (by rw [List.length_cons];omega) (by rw [List.length_append];simp;omega) (top2.stp k4) (smps_tail han hr) hb (by rw [Chunk.smps_app];exact o4) ?_)
      rw [← e];simp
     ·rw [if_neg hge] at e
      refine Chunk.rdS_at (ha.keep top2.k) (k:=0) rfl rfl fun p f0 _=>cI_at f0 ?_
      refine Chunk.rdS_at (hb.keep top2.k) (k:=0) rfl rfl fun p f0 _=>cI_at f0 ?_
      refine cond_d (fun hgt=>?_) (fun hle=>?_)
      ·rw [if_pos hgt] at e
       refine Chunk.rdS_at (hb.keep top3.k) (k:=0) rfl rfl fun p f0 f1=>cI_at f0<|cF_at f1 ?_
       refine Rd.slc hb (lo:=1) (hi:=b.n) (by omega) (Nat.le_refl _) rfl rfl fun r hr _ _=>?_
       refine push_T (n:=1) tiS o3 rfl (by intro v hv;simp at hv;rcases hv with rfl | rfl<;>rfl) (by simp only [maxLen];omega) (by omega) fun q ω4 w4 k4 o4 _=>?_
       refine hX _ _ _ _ (ih (d-1) (by omega) (x::m') n' a r q (A++[y]) ω4 w4 (by rw [List.length_cons];omega) (by rw [List.length_cons];omega) (by omega) (by rw [List.length_append];simp;omega) (top3.stp k4) ha (smps_tail hbn hr) (by rw [Chunk.smps_app];exact o4) ?_)
       rw [← e];simp
      ·rw [if_neg hle] at e
       refine Rd.slc ha (lo:=1) (hi:=a.n) (by omega) (Nat.le_refl _) rfl rfl fun r hr _ _=>?_
       exact hX _ _ _ _ (ih (d-1) (by omega) m' (y::n') r b out A ω w.drew.drew (by rw [List.length_cons];omega) (by omega) (by rw [List.length_cons];omega) (by omega) top2 (smps_tail han hr) hb o2 e)
 show C.block_samples.S4 K X a b nilS w0
 exact key (m.length+n.length) m n a b nilS [] (fun _=>0) w0 rfl hm hn (by simp;omega) (Top.init w0) ha hb (OT.nil ..) rfl
theorem contains_ok {s:Sl} {gs:List Nat} (h:Rd w0 s 1 (gs.map fun g=>.pointer (some ⟨g,0,none⟩))) (hl:gs.length≤1000000) {K:Bool→World→Prop} (hK:K false w0):C.slices_Contains_Block_Block s none w0 K:=by
 have hn:s.n=gs.length:=by have:=h.2.1;simp at this;omega
 unfold C.slices_Contains_Block_Block C.slices_Index_Block_Block C.slices_Index_Block_Block.S9
 refine C.slices_Index_Block_Block.L5_ind fun X hX=>?_
 have key:∀ (d i:Nat),i+d=gs.length→X s none ((s.n:Nat):Int) (i:Int) w0:=by
  intro d
  induction d with
  | zero =>
   intro i hi
   refine hX _ _ _ _ _ ?_
   unfold C.slices_Index_Block_Block.S7 C.slices_Index_Block_Block.S2
   exact cond_d (fun h=>by omega) (fun _=>hK)
  | succ d ih =>
   intro i hi
   refine hX _ _ _ _ _ ?_
   unfold C.slices_Index_Block_Block.S7
   have hig:i<gs.length:=by omega
   refine cond_d (fun _=>?_) (fun h=>by omega)
   refine Rd.ix h (by decide) (by omega) (by omega) fun a ha=>?_
   have h0:=ha 0 (.pointer (some ⟨gs[i],0,none⟩)) (by decide) (by rw [Int.toNat_natCast,Nat.mul_one,Nat.add_zero,List.getElem?_map,List.getElem?_eq_getElem hig];rfl)
   rw [show a.add 0=a by simp [Addr.add]] at h0
   refine cP_at h0 ?_
   show X s none ((s.n:Nat):Int) (IntKind.i64.wrap ((i:Int)+1)) w0
   rw [wI64 (by omega) (by omega),show (i:Int)+1=((i+1:Nat):Int) by omega]
   exact ih (i+1) (by omega)
 exact key gs.length 0 (by omega)
theorem sers_set2:∀ (l:QS) (k:Nat) (p:SQ) (x:Ser) (s:Sl),l[k]?=some p→(sers l).set (k*2+1) s.v=sers (l.set k (x,p.2.1,s))
 | [],k,p,x,s,h=>by simp at h
 | y::l,0,p,x,s,h=>by
  simp only [List.getElem?_cons_zero,Option.some.injEq] at h
  subst h;rfl
 | y::l,k+1,p,x,s,h=>by
  have ih:=sers_set2 l k p x s (by simpa using h)
  have e:∀ (y:SQ) (m:QS),sers (y::m)=y.2.1.v::y.2.2.v::sers m:=fun _ _=>rfl
  rw [e,show (k+1)*2+1=(k*2+1)+1+1 by omega,List.set_cons_succ,List.set_cons_succ,ih,List.set_cons_succ,e]
theorem mapA:Tryz.prog.underlying 126=some (.map 9 3):=by kernel_rfl
def idxGo:List Ser→Nat→AL
 | [],_=>[]
 | x::r,k=>(Lab.keyOf x.1,Value.int .i64 (k:Int))::idxGo r (k+1)
def idxA (l:List Ser):AL:=idxGo l 0
theorem idxGo_app (s:Ser):∀ (l:List Ser) (k:Nat),idxGo (l++[s]) k=idxGo l k++[(Lab.keyOf s.1,Value.int .i64 ((k+l.length:Nat):Int))]
 | [],k=>rfl
 | x::r,k=>by rw [List.cons_append,idxGo,idxGo_app s r (k+1),idxGo,List.cons_append,List.length_cons,show k+1+r.length=k+(r.length+1) by omega]
theorem idx_none {m:List Lb}:∀ {l:List Ser} {k:Nat},m ∉ l.map (·.1)→getV (Lab.keyOf m) (idxGo l k)=none
 | [],_,_=>rfl
 | x::r,k,h=>by
  rw [List.map_cons,List.mem_cons,not_or] at h
  rw [idxGo,getV,if_neg (fun e=>h.1 (Lab.key_inj e)),idx_none h.2]
theorem idx_some {m:List Lb}:∀ {a b:List Ser} {x:Ser} {k:Nat},m ∉ a.map (·.1)→x.1=m→getV (Lab.keyOf m) (idxGo (a++x::b) k)=some (.int .i64 ((k+a.length:Nat):Int))
 | [],b,x,k,_,e=>by rw [List.nil_append,idxGo,getV,if_pos (by rw [e])];rfl
 | y::a,b,x,k,h,e=>by
  rw [List.map_cons,List.mem_cons,not_or] at h
  rw [List.cons_append,idxGo,getV,if_neg (fun e=>h.1 (Lab.key_inj e)),idx_some h.2 e,List.length_cons,show k+1+a.length=k+(a.length+1) by omega]
theorem idxGo_labels:∀ {l m:List Ser} {k:Nat},l.map (·.1)=m.map (·.1)→idxGo l k=idxGo m k
 | [],[],_,_=>rfl
 | [],_::_,_,h=>by simp at h
 | _::_,[],_,h=>by simp at h
 | x::r,y::s,k,h=>by
  rw [List.map_cons,List.map_cons,List.cons.injEq] at h
  rw [idxGo,idxGo,h.1,idxGo_labels h.2]
def marksV:List Nat→Value
 | []=>undef
 | l=>.agg ⟨l.map fun D=>.int .i64 ((D:Nat):Int)⟩
theorem push_marks (l:List Nat) (D:Nat):pushMark (marksV l) D=marksV (D::l):=by cases l<;>rfl
theorem marks_all {U:Nat} {K:World→Prop}:∀ (l:List Nat) (w:World),(∀ D∈l,w.heap[D]?=some (.deferred (some []))∧U≤ω D)→l.Nodup→(∀ w',Stp (fun x=>decide (U≤x)) ω ω w w'→K w')→marksL (l.map fun D=>.int .i64 ((D:Nat):Int)) w K
 | [],w,_,_,hK=>hK w (Stp.refl _ _ _)
 | D::l,w,h,nd,hK=>by
  have nd':=List.nodup_cons.1 nd
  obtain ⟨h1,h2⟩:=h D (List.mem_cons_self ..)
  have sp:Stp (fun x=>decide (U≤x)) ω ω w (w.putObj D (.deferred none)):=(put_stp (o:=.deferred none) (rfl:ω D=ω D)).mono fun x hx=>beq_no fun e=>by
   have:=of_decide_eq_false hx
   omega
  refine ⟨by rw [Int.toNat_natCast];exact h1,?_⟩
  rw [Int.toNat_natCast]
  refine marks_all l _ (fun E hE=>?_) nd'.2 fun w' k=>hK w' (sp.trans k)
  obtain ⟨e1,e2⟩:=h E (List.mem_cons_of_mem _ hE)
  refine ⟨?_,e2⟩
  rw [World.putObj_heap_other (show E≠D from fun e=>nd'.1 (by rw [← e];exact hE))]
  exact e1
theorem marksV_ok {U:Nat} {K:World→Prop} {l:List Nat} (h:∀ D∈l,w.heap[D]?=some (.deferred (some []))∧U≤ω D) (nd:l.Nodup) (hK:∀ w',Stp (fun x=>decide (U≤x)) ω ω w w'→K w'):G.marks (marksV l) w K:=by
 cases l with
 | nil=>exact hK w (Stp.refl _ _ _)
 | cons D l=>exact marks_all (D::l) w h nd hK
def UB:Nat:=5000000000
def TM:Nat→Bool:=fun x=>decide (x=2∨x=4∨x=12)
theorem toTM {v:Nat} (h:v=2∨v=4∨v=12) (k:Stp (Mem.One v) ω ω' w w'):Stp TM ω ω' w w':=k.mono fun u hu=>beq_no fun e=>by
 have:=of_decide_eq_false hu
 omega
structure MJ (w0:World) (ω:Tg) (w:World) (g2 g3 gm:Nat) (L:List Ser):Prop where
 top:Top w0 ω w
 at_:BT ω w 13 g3 126 [.map (some gm)]
 mp:MV ω w 12 gm (idxA L)
 ex:∃ s qo,BT ω w 4 g2 27 [Sl.v s]∧OT ω w 2 57 2 s (sers qo)∧qo.map (·.1)=L∧∀ p∈qo,OT ω w 71 93 2 p.2.1 (labs p.1.1)∧OT ω w 72 96 2 p.2.2 (Chunk.smps p.1.2)
theorem MJ.stp {L:List Ser} {g2 g3:Nat} (h:MJ w0 ω w g2 g3 gm L) (k:Stp T ω ω' w w') (z:T 0=false∧T 13=false∧T 12=false∧T 4=false∧T 2=false∧T 71=false∧T 72=false):MJ w0 ω' w' g2 g3 gm L:=by
 obtain ⟨s,qo,x,o,e,hr⟩:=h.ex
 exact ⟨h.top.stp k z.1,h.at_.stp k z.2.1,h.mp.stp k z.2.2.1,s,qo,x.stp k z.2.2.2.1,o.stp k z.2.2.2.2.1,e,fun p hp=>⟨(hr p hp).1.stp k z.2.2.2.2.2.1,(hr p hp).2.stp k z.2.2.2.2.2.2⟩⟩
theorem merge_step (ht:UTab w0) {L:List Ser} {g2 g3 g5:Nat} {r c:Sl} {x:Ser} (J:MJ w0 ω w g2 g3 gm L) (hg:Good L) (hsz:L.length≤10000) (hlen:∀ y∈L,y.2.length≤9000000) (b5:BT ω w 5 g5 57 [r.v,c.v]) (or:OT ω w 71 93 2 r (labs x.1)) (oc:OT ω w 72 96 2 c (Chunk.smps x.2))
  (hrt:(rt x.1).1=0) (hxl:x.2.length≤2700000) {Rr:Exit→World→Prop} (hR:∀ ω' w',Stp TM ω ω' w w'→MJ w0 ω' w' g2 g3 gm (mg L x)→Rr .normal w'):C.block_Merge.S13 Rr (some ⟨g2,0,none⟩) (some ⟨g3,0,none⟩) (some ⟨g5,0,none⟩) w:=by
 unfold C.block_Merge.S13
 obtain ⟨s,qo,x2,o,eq,hr⟩:=J.ex
 have hqn:qo.length=L.length:=by have:=congrArg List.length eq;simpa using this
 refine ptr_at<|cSl_at (s:=r) (by rw [b5.cell];rfl) ?_
 refine put_ok (ht.keep J.top.k) or.rd hrt fun kb w1 k1 o1=>?_
 have s1:=k1.stp ω 14
 have kt:=Own.tag o1 (Nat.le_refl _) ω 14
 have J1:=J.stp s1 ⟨rfl,rfl,rfl,rfl,rfl,rfl,rfl⟩
 have b51:=b5.stp s1
 have or1:=or.stp s1
 have oc1:=oc.stp s1
 have x21:=x2.stp s1
 have o1':=o.stp s1
 have hr1:∀ p∈qo,OT (ext ω w.heap.size 14) w1 71 93 2 p.2.1 (labs p.1.1)∧OT (ext ω w.heap.size 14) w1 72 96 2 p.2.2 (Chunk.smps p.1.2):=fun p hp=>⟨(hr p hp).1.stp s1,(hr p hp).2.stp s1⟩
 have back:∀ {ω' w'},Stp TM (ext ω w.heap.size 14) ω' w1 w'→Stp TM ω ω' w w':=fun k=>(s1.non _).trans k
 generalize ext ω w.heap.size 14=ω1 at *
 have hkb:OwnB w1 w.heap.size kb (Lab.put x.1):=o1
 refine ptr_at<|cM_at (b:=some gm) (by rw [J1.at_.cell];rfl) ?_
 refine Utf.convBS (OwnB.rd hkb) ?_
 have ekey:Utf.str (Lab.put x.1)=Lab.keyOf x.1:=rfl
 rw [ekey]
 by_cases hm:x.1∈L.map (·.1)
 ·obtain ⟨a,y,b,eL,ey,hna,hnb⟩:=split_at hm hg.nd
  have hgv:getV (Lab.keyOf x.1) (idxA L)=some (.int .i64 ((0+a.length:Nat):Int)):=by rw [eL];exact idx_some hna ey
  rw [Nat.zero_add] at hgv
  refine rd2_V (kt:=9) (et:=3) (a:=((a.length:Nat):Int)) J1.mp mapA strT Tryz.zeroValue3 (by rw [hgv];rfl) ?_
  rw [hgv]
  refine cond_f rfl ?_
  have sd:=drew_stp ω1 w1
  have Jd:=J1.stp sd ⟨rfl,rfl,rfl,rfl,rfl,rfl,rfl⟩
  have xd:=x21.stp sd
  have od:=o1'.stp sd
  have b5d:=b51.stp sd
  have ocd:=oc1.stp sd
  have hk:a.length<qo.length:=by have:=congrArg List.length eL;simp at this;omega
  have hq1:qo[a.length].1=y:=by
   have h1:(qo.map (·.1))[a.length]'(by rw [List.length_map];exact hk)=L[a.length]'(by omega):=by simp only [eq]
   rw [List.getElem_map] at h1
   rw [h1];simp [eL]
  have hqx:qo[a.length]?=some qo[a.length]:=List.getElem?_eq_getElem hk
  have hmr:=hr1 _ (List.getElem_mem hk)
  have hyl:=hlen y (by rw [eL];simp)
  refine ptr_at<|cSl_at (s:=s) (by rw [xd.cell];rfl)<|ptr_at<|cSl_at (s:=s) (by rw [xd.cell];rfl) ?_
  refine rdQ_at od.rd (k:=a.length) rfl hqx fun p _ e1=>cSl_at e1 ?_
  refine ptr_at<|cSl_at (s:=c) (by rw [addr_add,b5d.cell];rfl) ?_
  refine sam_ok (hmr.2.stp sd).rd ocd.rd (by rw [hq1];omega) (by omega) fun q w2 k2 o2=>?_
  have s2:=k2.stp ω1 72
  have qt:=Own.tag o2 (Nat.le_refl _) ω1 72
  refine ⟨xd.sameT s2,?_⟩
  have J2:=Jd.stp s2 ⟨rfl,rfl,rfl,rfl,rfl,rfl,rfl⟩
  have x2d:=xd.stp s2
  have o2d:=od.stp s2
  have hr2:∀ p∈qo,OT (ext ω1 w1.drew.heap.size 72) w2 71 93 2 p.2.1 (labs p.1.1)∧OT (ext ω1 w1.drew.heap.size 72) w2 72 96 2 p.2.2 (Chunk.smps p.1.2):=fun p hp=>⟨((hr1 p hp).1.stp sd).stp s2,((hr1 p hp).2.stp sd).stp s2⟩
  have back2:∀ {ω' w'},Stp TM (ext ω1 w1.drew.heap.size 72) ω' w2 w'→Stp TM ω ω' w w':=fun k=>back ((sd.non _).trans ((s2.non _).trans k))
  generalize ext ω1 w1.drew.heap.size 72=ω2 at *
  have hsn:=rdQ_n o2d.rd
  refine OT.at_ o2d (k:=a.length) rfl (by omega) fun p hp _ _ _=>?_
  refine OT.st o2d (i:=a.length) (j:=1) (by omega) (by decide) _ hp fun ω3 w3 k3 o3=>?_
  rw [sers_set2 qo a.length _ (y.1,sam y.2 x.2) q hqx] at o3
  rw [hq1] at qt
  have em:mg L x=a++(y.1,sam y.2 x.2)::b:=by rw [eL];exact mg_at hna ey
  have elb:(mg L x).map (·.1)=L.map (·.1):=by rw [em,eL];simp
  refine hR ω3 w3 (back2 (toTM (.inl rfl) k3)) ⟨J2.top.stp k3,J2.at_.stp k3,?_,s,_,x2d.stp k3,o3,?_,fun p hp=>?_⟩
  ·rw [show idxA (mg L x)=idxA L from idxGo_labels elb];exact J2.mp.stp k3 rfl
  ·rw [List.map_set,eq,em,eL,List.set_append_right _ _ (Nat.le_refl _),Nat.sub_self,List.set_cons_zero]
  ·rcases List.mem_or_eq_of_mem_set hp with hp | rfl
   ·exact ⟨(hr2 p hp).1.stp k3,(hr2 p hp).2.stp k3⟩
   ·have h1:=(hr2 _ (List.getElem_mem hk)).1
    rw [hq1] at h1
    exact ⟨h1.stp k3,qt.stp k3⟩
 ·have hgv:getV (Lab.keyOf x.1) (idxA L)=none:=idx_none hm
  refine rd2_V (kt:=9) (et:=3) (a:=0) J1.mp mapA strT Tryz.zeroValue3 (by rw [hgv];rfl) ?_
  rw [hgv]
  refine cond_t rfl ?_
  refine ptr_at<|cM_at (b:=some gm) (by rw [J1.at_.cell];rfl) ?_
  refine Utf.convBS (OwnB.rd hkb) ?_
  rw [ekey]
  have hsn:=rdQ_n o1'.rd
  refine ptr_at<|cSl_at (s:=s) (by rw [x21.cell];rfl) ?_
  refine updV J1.mp mapA strT fun ω3 w3 k3 m3=>?_
  rw [updA_new hgv,hsn,hqn] at m3
  have em:mg L x=L++[x]:=mg_new hm
  have eA:idxA L++[(Lab.keyOf x.1,Value.int .i64 ((L.length:Nat):Int))]=idxA (L++[x]):=by unfold idxA;rw [idxGo_app,Nat.zero_add]
  rw [eA] at m3
  have x23:=x21.stp k3
  have b53:=b51.stp k3
  refine ptr_at<|cSl_at (s:=s) (by rw [x23.cell];rfl)<|ptr_at<|cSl_at (s:=r) (by rw [b53.cell];rfl)<|cSl_at (s:=c) (by rw [addr_add,b53.cell];rfl) ?_
  refine push_T (n:=1) tiQ (o1'.stp k3) rfl (by intro v hv;simp at hv;rcases hv with rfl | rfl<;>rfl) (by simp only [maxLen];omega) (by omega) fun r9 ω4 w4 k4 o4 _=>?_
  refine ptr_at (st_T (x23.stp k4) (by simp) fun ω5 w5 k5 b5'=>?_)
  refine hR ω5 w5 (back ((toTM (.inr (.inr rfl)) k3).trans ((toTM (.inl rfl) k4).trans (toTM (.inr (.inl rfl)) k5)))) ⟨((J1.top.stp k3).stp k4).stp k5,((J1.at_.stp k3).stp k4).stp k5,?_,r9,qo++[(x,r,c)],b5',?_,?_,fun p hp=>?_⟩
  ·rw [em];exact (m3.stp k4 rfl).stp k5 rfl
  ·rw [sers_app];exact o4.stp k5
  ·rw [List.map_append,eq,em];rfl
  ·rcases List.mem_append.1 hp with hp | hp
   ·exact ⟨(((hr1 p hp).1.stp k3).stp k4).stp k5,(((hr1 p hp).2.stp k3).stp k4).stp k5⟩
   ·rw [List.mem_singleton.1 hp]
    exact ⟨((or1.stp k3).stp k4).stp k5,((oc1.stp k3).stp k4).stp k5⟩
end Go.Proofs.YtmfgmcajelmgbaaGreatDoor.Bk

namespace Go.Proofs.YtmfgmcajelmgbaaGreatDoor.Bk
open Go Vm Go.RowKit Num Mem Utf Lib Lab Vint Bits Rep
variable {ω ω' : Tg} {w w' w0 : World} {T : Nat → Bool} {t u g gm : Nat}
abbrev BlkE:=Nat × Sl × QS
def pOf (l:List BlkE):List Value:=l.map fun e=>.pointer (some ⟨e.1,0,none⟩)
def sOf (l:List BlkE):List (List Ser):=l.map fun e=>e.2.2.map (·.1)
theorem merge_ok (hT:DTab w0) (ht:UTab w0) (hv:Vint.Tab w0) {s:Sl} {l:List BlkE} (hs:Rd w0 s 1 (pOf l)) (hb:∀ e∈l,AR w0 e.1 e.2.1 e.2.2∧Blo (e.2.2.map (·.1))) (h3:l.length≤3) {K:Sl→Int→World→Prop}
  (hK:∀ r w',Keep w0 w'→OwnB w' w0.heap.size r (buildR (mgS (sOf l))).1→K r (buildR (mgS (sOf l))).2.1 w'):C.block_Merge s w0 K:=by
 have hsn:s.n=l.length:=by have:=hs.2.1;simp [pOf] at this;omega
 unfold C.block_Merge
 refine contains_ok (gs:=l.map (·.1)) (by rw [List.map_map];exact hs) (by rw [List.length_map];omega) (cond_f rfl ?_)
 refine new_T (ω:=fun _=>0) 4 fun g2 ω1 w1 k1 b1=>mkV (ω:=ω1) 12 fun gm ω2 w2 k2 m2=>new_T (ω:=ω2) 13 fun g3 ω3 w3 k3 b3=>st_T b3 (by simp) fun ω4 w4 k4 b4=>?_
 unfold C.block_Merge.S20
 refine C.block_Merge.L5_ind fun X hX=>?_
 have hgd:∀ A∈sOf l,Good A∧A.length≤1000∧∀ x∈A,x.2.length≤2700000:=fun A hA=>by
  obtain ⟨e,he,rfl⟩:=List.mem_map.1 hA
  have bl:=(hb e he).2
  exact ⟨Good.of bl,bl.n,bl.len⟩
 have hsl:(sOf l).length=l.length:=List.length_map _
 have key:∀ (d i:Nat) (marks:List Nat) (ω:Tg) (w:World),i+d=l.length→MJ w0 ω w g2 g3 gm (mgS ((sOf l).take i))→marks.Nodup→(∀ D∈marks,w.heap[D]?=some (.deferred (some []))∧UB≤ω D∧ω D<UB+i) →
   X (some ⟨g2,0,none⟩) (some ⟨g3,0,none⟩) s ((s.n:Nat):Int) (i:Int) (marksV marks) w:=by
  intro d
  induction d with
  | zero =>
   intro i marks ω w hi J nd hm
   refine hX _ _ _ _ _ _ _ ?_
   unfold C.block_Merge.S18 C.block_Merge.S2
   rw [List.take_of_length_le (by omega)] at J
   have bd:=mgS_bd hgd l.length (by omega)
   rw [List.take_of_length_le (by omega)] at bd
   obtain ⟨s',qo,x2,o,e,hr⟩:=J.ex
   refine cond_d (fun h=>by omega) (fun _=>ptr_at<|cSl_at (s:=s') (by rw [x2.cell];rfl) ?_)
   have hqn:qo.length=(mgS (sOf l)).length:=by have:=congrArg List.length e;simpa using this
   have hbn:=bd.n
   have rd:RdQ w s' qo:=⟨o.rd,fun p hp=>by
    have hm:p.1∈mgS (sOf l):=by rw [← e];exact List.mem_map_of_mem hp
    have h1:=bd.sl _ hm
    exact ⟨(hr p hp).1.rd,(hr p hp).2.rd,fun z hz=>(rise_mem (bd.good.ri _ hm) z hz).2.2,by omega,(rt_sizes (bd.good.rt _ hm)).1,(rt_sizes (bd.good.rt _ hm)).2⟩⟩
   refine build_ok (hT.keep J.top.k) (ht.keep J.top.k) (hv.keep J.top.k) rd (by omega) fun b w9 k9 o9=>?_
   have s9:=k9.stp ω 81
   have ob:=Own.tag o9 (Nat.le_refl _) ω 81
   have top9:=J.top.stp s9
   rw [e] at ob ⊢
   refine marksV_ok (U:=UB) (ω:=ext ω w.heap.size 81) (fun D hD=>?_) nd fun w' sp=>?_
   ·obtain ⟨h1,h2,_⟩:=hm D hD
    exact ⟨k9.heap h1,by rw [ext_old (heap_lt h1)];exact h2⟩
   ·exact hK b w' (top9.stp sp (by simp [UB])).k (otNew (ob.stp sp (by simp [UB])) (top9.stp sp (by simp [UB])))
  | succ d ih =>
   intro i marks ω w hi J nd hm
   refine hX _ _ _ _ _ _ _ ?_
   unfold C.block_Merge.S18 C.block_Merge.S15
   have hil:i<l.length:=by omega
   have hel:=List.getElem_mem hil
   refine cond_d (fun _=>?_) (fun h=>by omega)
   refine Rd.ix (hs.keep J.top.k) (by decide) (by omega) (by omega) fun a ha=>?_
   have h0:=ha 0 (.pointer (some ⟨l[i].1,0,none⟩)) (by decide) (by rw [Int.toNat_natCast,Nat.mul_one,Nat.add_zero,pOf,List.getElem?_map,List.getElem?_eq_getElem hil];rfl)
   rw [show a.add 0=a by simp [Addr.add]] at h0
   refine cP_at h0 ?_
   obtain ⟨ar,bl⟩:=hb _ hel
   have bd:=mgS_bd hgd i (by omega)
   have etk:mgS ((sOf l).take (i+1))=(l[i].2.2.map (·.1)).foldl mg (mgS ((sOf l).take i)):=by
    rw [mgS_take (by omega)]
    congr 1
    simp [sOf]
   generalize l[i]=be at *
   obtain ⟨gb,rs,q⟩:=be
   dsimp only at ar bl etk h0 ⊢
   unfold C.block_Block_All
   refine new_T (ω:=ω) 6 fun g6 ω6 w6 k6 b6=>?_
   unfold C.block_Merge.R11
   have hLl:(q.map (·.1)).length=q.length:=List.length_map _
   have hbn:=bl.n
   have bdj:∀ j,Bd (((q.map (·.1)).take j).foldl mg (mgS ((sOf l).take i))) (i+1):=fun j=>bd.fold j (Good.of bl) bl.n bl.len
   have nu:∀ v,v<UB→Mem.One (UB+i) v=false:=fun v hv=>beq_no (by omega)
   refine rangeGW_ok (T:=TM) (u:=UB+i) (J:=fun j ω' w'=>MJ w0 ω' w' g2 g3 gm (((q.map (·.1)).take j).foldl mg (mgS ((sOf l).take i)))∧BT ω' w' 6 g6 23 [.pointer (some ⟨gb,0,none⟩)]∧∀ D∈marks,w'.heap[D]?=some (.deferred (some []))∧UB≤ω' D∧ω' D<UB+i)
    (E:=fun e ω w=>False)
    (all_tellsB (ga:=g6) (g:=gb) (rs:=rs) (q:=q) fun _ _ _ h=>h) (decide_eq_false (by unfold UB;omega)) rfl ?_ ?_ ?_ ?_ ?_ ⟨J.stp k6 ⟨rfl,rfl,rfl,rfl,rfl,rfl,rfl⟩,b6,fun D hD=>?_⟩ ?_ ?_
   ·rintro i' j a ω ω' w w' ⟨e,p,r,s,hp,ea,o1,o2⟩ k
    exact ⟨e,p,r,s,hp,ea,o1.stp k (nu 71 (by decide)),o2.stp k (nu 72 (by decide))⟩
   ·rintro j ω w2 ⟨J2,x6,_⟩
    exact ⟨by rw [x6.cell];rfl,ar.keep J2.top.k⟩
   ·rintro S hS j ω ω' w w' ⟨J2,x6,hm2⟩ k
    have z:∀ v,v<UB→S v=false:=by rcases hS with rfl | rfl;exact nu;exact fun _ _=>rfl
    have zm:∀ v,UB≤v→v<UB+i→S v=false:=by rcases hS with rfl | rfl;exact fun v h1 h2=>beq_no (by omega);exact fun _ _ _=>rfl
    refine ⟨J2.stp k ⟨z _ (by decide),z _ (by decide),z _ (by decide),z _ (by decide),z _ (by decide),z _ (by decide),z _ (by decide)⟩,x6.stp k (z _ (by decide)),fun D hD=>?_⟩
    obtain ⟨h1,h2,h3⟩:=hm2 D hD
    obtain ⟨h4,h5⟩:=k.obj h1 rfl (zm _ h2 h3)
    exact ⟨h4,by omega,by omega⟩
   ·rintro S hS e ω ω' w w' h k
    exact h
   ·rintro i' j args ω w4 bz Rr ⟨rfl,p,r,c,hp,rfl,o1,o2⟩ ⟨J4,x6,hm4⟩ hz
    unfold C.block_Merge.B_R11 Sl.v
    dsimp only
    refine locS fun g5 w5 k5 hg5 b5=>?_
    have s5:=k5.1.stp ω 5
    refine hz _ (ext ω w4.heap.size 5) w5 s5 fun w6 s6 hR hX=>?_
    have b5t:BT (ext ω w4.heap.size 5) w5 5 g5 57 [r.v,c.v]:=⟨b5,ext_new hg5⟩
    have hm5:∀ D∈marks,w5.heap[D]?=some (.deferred (some []))∧UB≤ext ω w4.heap.size 5 D∧ext ω w4.heap.size 5 D<UB+i:=fun D hD=>by
     obtain ⟨h1,h2,h3⟩:=hm4 D hD
     rw [ext_old (heap_lt h1)]
     exact ⟨(s5.obj h1 rfl rfl).1,h2,h3⟩
    generalize ext ω w4.heap.size 5=ω5 at *
    have hm6:∀ D∈marks,w6.heap[D]?=some (.deferred (some []))∧UB≤ω5 D∧ω5 D<UB+i:=fun D hD=>by
     obtain ⟨h1,h2,h3⟩:=hm5 D hD
     exact ⟨(s6.obj h1 rfl (beq_no (by omega))).1,h2,h3⟩
    have J6:=(J4.stp s5 ⟨rfl,rfl,rfl,rfl,rfl,rfl,rfl⟩).stp s6 ⟨nu _ (by decide),nu _ (by decide),nu _ (by decide),nu _ (by decide),nu _ (by decide),nu _ (by decide),nu _ (by decide)⟩
    have x66:=(x6.stp s5).stp s6 (nu _ (by decide))
    have hip:i'<q.length:=(List.getElem?_eq_some_iff.1 hp).1
    have hLg:(q.map (·.1))[i']'(by omega)=p.1:=by rw [List.getElem_map];congr 1;exact (List.getElem?_eq_some_iff.1 hp).2
    have hpm:p.1∈q.map (·.1):=by rw [← hLg];exact List.getElem_mem _
    have bj:=bdj i'
    have hbjn:=bj.n
    refine merge_step ht (x:=p.1) J6 bj.good (by omega) (fun y hy=>by have:=bj.sl y hy;omega) (b5t.stp s6 (nu _ (by decide))) ((o1.stp s5).stp s6 (nu _ (by decide))) ((o2.stp s5).stp s6 (nu 72 (by decide))) ((Good.of bl).rt _ hpm) (bl.len _ hpm) fun ω' w' k' J'=>?_
    refine hR ω' w' k' ⟨?_,x66.stp k',fun D hD=>?_⟩
    ·rw [List.take_succ_eq_append_getElem (by omega),List.foldl_append,hLg];exact J'
    ·obtain ⟨h1,h2,h3⟩:=hm6 D hD
     obtain ⟨h4,h5⟩:=k'.obj h1 rfl (decide_eq_false (by unfold UB at h2;omega))
     exact ⟨h4,by omega,by omega⟩
   ·obtain ⟨h1,h2,h3⟩:=hm D hD
    obtain ⟨h4,h5⟩:=k6.obj h1 rfl rfl
    exact ⟨h4,by omega,by omega⟩
   ·rintro ω' w' D hD hDu ⟨j,rfl,J2,x6,hm2⟩
    rw [List.take_of_length_le (l:=q.map (·.1)) (i:=q.length) (by omega),← etk] at J2
    show C.block_Merge.S7 K X _ _ s _ _ (pushMark (marksV marks) D) w'
    unfold C.block_Merge.S7
    rw [push_marks,wI64 (by omega) (by omega),show (i:Int)+1=((i+1:Nat):Int) by omega]
    refine ih (i+1) (D::marks) ω' w' (by omega) J2 (List.nodup_cons.2 ⟨fun hDm=>?_,nd⟩) fun E hE=>?_
    ·have:=(hm2 D hDm).2.2;omega
    ·rcases List.mem_cons.1 hE with rfl | hE
     ·exact ⟨hD,by omega,by omega⟩
     ·obtain ⟨h1,h2,h3⟩:=hm2 E hE
      exact ⟨h1,h2,by omega⟩
   ·rintro e ω' w' D _ _ h
    exact h.elim
 have t4:=((((Top.init w0).stp k1).stp k2).stp k3).stp k4
 exact key l.length 0 [] ω4 w4 (by omega) ⟨t4,b4,(m2.stp k3 rfl).stp k4 rfl,nilS,[],((b1.stp k2).stp k3).stp k4,OT.nil ..,rfl,by simp⟩ List.nodup_nil (by simp)
end Go.Proofs.YtmfgmcajelmgbaaGreatDoor.Bk

namespace Go.Proofs.YtmfgmcajelmgbaaGreatDoor.Bk
open Go Vm Go.RowKit Num Mem Utf Lib Lab Vint Bits Rep
variable {ω ω' : Tg} {w w' w0 : World} {T : Nat → Bool} {t u g gm : Nat}
end Go.Proofs.YtmfgmcajelmgbaaGreatDoor.Bk

namespace Go.Proofs.YtmfgmcajelmgbaaGreatDoor.Bk
open Go Lab Vint
open Go.Lib (validD size_eq)
theorem common:∀ (P:List UInt8) {A B u v:List UInt8} {x y:UInt8},P++A=u++x::v→P++B=u++y::v→x≠y→∃ u',u=P++u'∧A=u'++x::v∧B=u'++y::v
 | [],A,B,u,v,x,y,h1,h2,_=>⟨u,rfl,h1,h2⟩
 | p::P,A,B,[],v,x,y,h1,h2,ne=>by
  simp only [List.cons_append,List.nil_append,List.cons.injEq] at h1 h2
  exact absurd (h1.1.symm.trans h2.1) ne
 | p::P,A,B,z::u,v,x,y,h1,h2,ne=>by
  simp only [List.cons_append,List.cons.injEq] at h1 h2
  obtain ⟨u',e,e1,e2⟩:=common P h1.2 h2.2 ne
  exact ⟨u',by rw [h1.1,e];rfl,e1,e2⟩
end Go.Proofs.YtmfgmcajelmgbaaGreatDoor.Bk

namespace Go.Proofs.YtmfgmcajelmgbaaGreatDoor.Bk
open Go Vm Go.RowKit Num Mem Utf Lib Lab Vint Bits Rep
variable {ω ω' : Tg} {w w' w0 : World} {T : Nat → Bool} {t u g gm : Nat}
end Go.Proofs.YtmfgmcajelmgbaaGreatDoor.Bk

namespace Go.Proofs.YtmfgmcajelmgbaaGreatDoor.Bk
open Go Vm Go.RowKit Num Mem Utf Lib Lab Vint Bits Rep
variable {w w' w0 : World}
end Go.Proofs.YtmfgmcajelmgbaaGreatDoor.Bk
