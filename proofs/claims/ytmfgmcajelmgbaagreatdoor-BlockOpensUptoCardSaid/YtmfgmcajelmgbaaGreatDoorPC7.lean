/- (several texts in one: BkG,BkH,BkV,SeqG,BkI,SortT,BkM,BkL,BkD,BkE,BkN,RepR,BkJ,BkK,MapR,BkO,BkS,BkY,BkR,BkZ,BkZa,UtfWB,BkW) Own work. -/
import Derived.Sort.KeysCollected
import Derived.Lib.SliceRun
import Derived.Test.YtmfgmcajelmgbaaGreatDoorPC6
namespace Go.Proofs.YtmfgmcajelmgbaaGreatDoor.Bk
open Go Vm Go.RowKit Num Mem Utf Lib Lab Vint Bits
variable {ω ω' : Tg} {w w' w0 : World} {T : Nat → Bool} {t u g gm : Nat}
def hasL (m:List Lb) (x:Lb):Bool:=m.any fun y=>decide (y=x)
theorem hasL_iff {m:List Lb} {x:Lb}:hasL m x=true↔x∈m:=by
 unfold hasL
 rw [List.any_eq_true]
 simp
def postGo (x:Lb):List Ser→Nat→List Nat
 | [],_=>[]
 | s::r,i=>if hasL s.1 x=true then i::postGo x r (i+1) else postGo x r (i+1)
def post (l:List Ser) (x:Lb):List Nat:=postGo x l 0
theorem postGo_snoc (x:Lb) (s:Ser):∀ (l:List Ser) (i:Nat),postGo x (l++[s]) i=postGo x l i++(if hasL s.1 x=true then [i+l.length] else [])
 | [],i=>by simp [postGo]
 | y::l,i=>by
  rw [List.cons_append,postGo,postGo_snoc x s l (i+1),postGo]
  split
  ·rw [List.cons_append,List.length_cons,show i+1+l.length=i+(l.length+1) by omega]
  ·rw [List.length_cons,show i+1+l.length=i+(l.length+1) by omega]
theorem post_snoc (l:List Ser) (s:Ser) (x:Lb):post (l++[s]) x=post l x++(if hasL s.1 x=true then [l.length] else []):=by
 unfold post;rw [postGo_snoc,Nat.zero_add]
theorem postGo_len (x:Lb):∀ (l:List Ser) (i:Nat),(postGo x l i).length≤l.length
 | [],i=>by simp [postGo]
 | y::l,i=>by
  have:=postGo_len x l (i+1)
  rw [postGo]
  split<;>simp only [List.length_cons]<;>omega
abbrev IE:=Lb × Sl × List Nat
def encI (e:IE):L2 × Value:=(e.1,e.2.1.v)
def ints (l:List Nat):List Value:=l.map fun n:Nat=>Value.int .i64 (n:Int)
theorem ints_app (a b:List Nat):ints (a++b)=ints a++ints b:=List.map_append
theorem ints_len (a:List Nat):(ints a).length=a.length:=List.length_map _
theorem ints_one {l:List Nat}:∀ v∈ints l,v.oneCell'=true:=by
 intro v hv
 obtain ⟨s,_,rfl⟩:=List.mem_map.1 hv
 rfl
theorem tiN:TI Tryz.prog 46 3 1 8:=TI.of (z:=.int .i64 0) (by kernel_rfl) (by kernel_rfl) rfl (by decide)
theorem mapX:Tryz.prog.underlying 82=some (.map 93 46):=by kernel_rfl
abbrev Rg (t n:Nat):Nat→Bool:=fun u=>decide (t≤u∧u<n)
def BIG:Nat:=100000000
theorem rg_no {a n u:Nat} (h:u<a∨n≤u):Rg a n u=false:=decide_eq_false (by omega)
theorem one_rg {a n u:Nat} (h1:a≤u) (h2:u<n) (h:Stp (Mem.One u) ω ω' w w'):Stp (Rg a n) ω ω' w w':=h.mono fun x hx=>beq_no fun e=>by
 have:=of_decide_eq_false hx;omega
structure IX (ω:Tg) (w:World) (t u gm:Nat) (F:Lb→List Nat) (es:List IE):Prop where
 mp:ML ω w t gm (es.map encI)
 own:∀ j e,es[j]?=some e→OT ω w (u+j) 3 1 e.2.1 (ints e.2.2)
 eq:∀ e∈es,e.2.2=F e.1
 all:∀ x,F x≠[]→x∈es.map (·.1)
 ne:∀ e∈es,F e.1≠[]
theorem IX.stp {F:Lb→List Nat} {es:List IE} (h:IX ω w t u gm F es) (k:Stp T ω ω' w w') (h1:T t=false) (h2:∀ j,j<es.length→T (u+j)=false):IX ω' w' t u gm F es :=
 ⟨h.mp.stp k h1,fun j e he=>(h.own j e he).stp k (h2 j (List.getElem?_eq_some_iff.1 he).1),h.eq,h.all,h.ne⟩
theorem keysI (es:List IE):(es.map encI).map (·.1)=es.map (·.1):=by rw [List.map_map];rfl
theorem idx_step {F:Lb→List Nat} {es:List IE} {n:Nat} (h:IX ω w t (t+1) gm F es) (hes:t+1+es.length<n) {x:Lb} (hx:sml x) {i:Nat} (hF:(F x).length≤10000000) {p:Sl} {v:Nat} (hv:v<t∨n≤v) (hp:BT ω w v g 3 [.int .i64 (i:Int)]) (ep:p=⟨some ⟨g,0,none⟩,1,1⟩) {Z:World→Prop}
  (hK:∀ es' ω' w',Stp (Rg t n) ω ω' w w'→IX ω' w' t (t+1) gm (fun y=>if y=x then F y++[i] else F y) es'→es'.length≤es.length+1→Z w') :
  G.runE Tryz.prog (Instr.mapEntry 82 (.map (some gm)) (lbV x)) w fun l n w1=>G.runSl Tryz.prog (Builtin.append_ #[46,46] 46 #[l.v,p.v]) w1 fun l2 w2 =>
   G.runU Tryz.prog (Instr.entryStore 82 (.map (some gm)) (.int .i64 n) l2.v) w2 Z:=by
 have hpt:Mem.One t v=false:=beq_no (by omega)
 by_cases hm:x∈es.map (·.1)
 ·obtain ⟨e,he,hex⟩:=List.mem_map.1 hm
  obtain ⟨j,hj,rfl⟩:=List.mem_iff_getElem.1 he
  have hje:es[j]?=some es[j]:=List.getElem?_eq_getElem hj
  have hjm:(es.map encI)[j]?=some (x,es[j].2.1.v):=by rw [List.getElem?_map,hje];show some (encI es[j])=_;unfold encI;rw [hex]
  obtain ⟨g1,g2⟩:=getL_at h.mp.nodup hjm
  have o:=h.own j _ hje
  have hlen:=h.eq _ he
  have hon:es[j].2.1.n=es[j].2.2.length:=by have:=o.own.len;rw [ints_len] at this;omega
  rw [hex] at hlen
  have hll:es[j].2.2.length≤10000000:=by rw [hlen];exact hF
  refine entL (x:=es[j].2.1) h.mp mapX Tryz.zeroValue46 hx (by rw [g1];rfl) fun st ω1 w1 k1 back=>?_
  have o1:=o.stp k1 (beq_no (by omega))
  have hp1:=hp.stp k1 hpt
  subst ep
  refine app_T tiN o1 (x:=⟨some ⟨g,0,none⟩,1,1⟩) (ys:=ints [i]) (by have:=Rd.blk (o:=0) (n:=1) (c:=1) (sz:=1) hp1.blk (Nat.le_refl _) (by simp);simpa [ints] using this) ints_one (by simp only [maxLen];omega) (by simp only;omega) fun r ω2 w2 k2 o2 _=>?_
  refine back ω2 w2 _ k2 (beq_no (by omega)) _ Z fun ω3 w3 k3 m3=>?_
  rw [← g2] at m3
  have em:(es.map encI).set j (x,r.v)=(es.set j (x,r,es[j].2.2++[i])).map encI:=by rw [List.map_set];rfl
  rw [em] at m3
  refine hK (es.set j (x,r,es[j].2.2++[i])) ω3 w3 (((one_rg (by omega) (by omega) k1).trans (one_rg (by omega) (by omega) k2)).trans (one_rg (by omega) (by omega) k3)) ⟨m3,fun j' e' he'=>?_,fun e' he'=>?_,fun y hy=>?_,fun e' he'=>?_⟩ (by rw [List.length_set];omega)
  ·by_cases hjj:j=j'
   ·subst hjj
    rw [List.getElem?_set_self hj] at he'
    injection he' with he'
    subst he'
    rw [ints_app]
    exact o2.stp k3 (beq_no (by omega))
   ·rw [List.getElem?_set_ne hjj] at he'
    exact (((h.own j' e' he').stp k1 (beq_no (by omega))).stp k2 (beq_no (by omega))).stp k3 (beq_no (by omega))
  ·obtain ⟨j',hj',rfl⟩:=List.mem_iff_getElem.1 he'
   rw [List.length_set] at hj'
   rw [List.getElem_set]
   split
   ·rw [if_pos rfl,hlen]
   ·rename_i hjj
    have hne:¬ es[j'].1=x:=fun e=>by
     have hn:=h.mp.nodup
     rw [keysI] at hn
     have l1:j<(es.map (·.1)).length:=by rw [List.length_map];exact hj
     have l2:j'<(es.map (·.1)).length:=by rw [List.length_map];exact hj'
     have pw:=List.pairwise_iff_getElem.1 hn
     rcases Nat.lt_or_gt_of_ne hjj with hlt | hlt
     ·exact pw j j' l1 l2 hlt (by rw [List.getElem_map,List.getElem_map,e,hex])
     ·exact pw j' j l2 l1 hlt (by rw [List.getElem_map,List.getElem_map,e,hex])
    rw [if_neg hne]
    exact h.eq _ (List.getElem_mem hj')
  ·rw [List.map_set]
   by_cases hyx:y=x
   ·subst hyx
    exact List.mem_iff_getElem.2 ⟨j,by rw [List.length_set,List.length_map];exact hj,by rw [List.getElem_set_self]⟩
   ·rw [if_neg hyx] at hy
    have hy':=h.all y hy
    obtain ⟨j',hj',e'⟩:=List.mem_iff_getElem.1 hy'
    rw [List.length_map] at hj'
    refine List.mem_iff_getElem.2 ⟨j',by rw [List.length_set,List.length_map];exact hj',?_⟩
    rw [List.getElem_set_ne (fun e=>hyx ?_)]
    ·exact e'
    ·subst e;rw [List.getElem_map] at e';rw [← e',hex]
  ·by_cases hex':e'.1=x
   ·rw [if_pos hex'];simp
   ·rw [if_neg hex']
    obtain ⟨j',hj',rfl⟩:=List.mem_iff_getElem.1 he'
    rw [List.length_set] at hj'
    rw [List.getElem_set] at hex' ⊢
    split at hex'
    ·exact absurd rfl hex'
    ·rename_i hjj
     rw [if_neg hjj]
     exact h.ne _ (List.getElem_mem hj')
 ·have hF0:F x=[]:=Classical.byContradiction fun hne=>hm (h.all x hne)
  have hnk:∀ q∈es.map encI,q.1≠x:=fun q hq e=>hm (by
   have:=List.mem_map_of_mem (f:=(·.1)) hq
   rw [keysI,e] at this;exact this)
  obtain ⟨g1,g2⟩:=getL_none hnk
  refine entL (x:=nilS) h.mp mapX Tryz.zeroValue46 hx (by rw [g1];rfl) fun st ω1 w1 k1 back=>?_
  have hp1:=hp.stp k1 hpt
  subst ep
  refine app_T (ω:=ω1) (t:=t+1+es.length) tiN (OT.nil _ _ _ _ _) (x:=⟨some ⟨g,0,none⟩,1,1⟩) (ys:=ints [i]) (by have:=Rd.blk (o:=0) (n:=1) (c:=1) (sz:=1) hp1.blk (Nat.le_refl _) (by simp);simpa [ints] using this) ints_one (by simp only [maxLen];simp) (by simp) fun r ω2 w2 k2 o2 _=>?_
  refine back ω2 w2 _ k2 (beq_no (by omega)) _ Z fun ω3 w3 k3 m3=>?_
  rw [g2] at m3
  have em:es.map encI++[(x,r.v)]=(es++[(x,r,[i])]).map encI:=by rw [List.map_append];rfl
  rw [em] at m3
  refine hK (es++[(x,r,[i])]) ω3 w3 (((one_rg (by omega) (by omega) k1).trans (one_rg (by omega) (by omega) k2)).trans (one_rg (by omega) (by omega) k3)) ⟨m3,fun j' e' he'=>?_,fun e' he'=>?_,fun y hy=>?_,fun e' he'=>?_⟩ (by rw [List.length_append];exact Nat.le_refl _)
  ·rcases Nat.lt_or_ge j' es.length with hj | hj
   ·rw [List.getElem?_append_left hj] at he'
    exact (((h.own j' e' he').stp k1 (beq_no (by omega))).stp k2 (beq_no (by omega))).stp k3 (beq_no (by omega))
   ·rw [List.getElem?_append_right hj] at he'
    rcases Nat.eq_zero_or_pos (j'-es.length) with e0 | e0
    ·rw [e0] at he'
     simp only [List.getElem?_cons_zero,Option.some.injEq] at he'
     subst he'
     have:j'=es.length:=by omega
     subst this
     exact o2.stp k3 (beq_no (by omega))
    ·rw [List.getElem?_eq_none (by simp;omega)] at he';cases he'
  ·rcases List.mem_append.1 he' with he' | he'
   ·have:e'.1≠x:=fun e=>hm (by rw [← e];exact List.mem_map_of_mem he')
    rw [if_neg this];exact h.eq e' he'
   ·rw [List.mem_singleton] at he'
    subst he'
    rw [if_pos rfl,hF0];rfl
  ·rw [List.map_append]
   by_cases hyx:y=x
   ·subst hyx;exact List.mem_append_right _ (List.mem_singleton.2 rfl)
   ·rw [if_neg hyx] at hy
    exact List.mem_append_left _ (h.all y hy)
  ·by_cases hex':e'.1=x
   ·rw [if_pos hex'];simp
   ·rw [if_neg hex']
    rcases List.mem_append.1 he' with he' | he'
    ·exact h.ne e' he'
    ·rw [List.mem_singleton] at he'
     subst he'
     exact absurd rfl hex'
structure SeT (ω:Tg) (w:World) (t:Nat) (p:SQ):Prop where
 lb:RT ω w t p.2.1 2 (labs p.1.1)
 sm:RT ω w t p.2.2 2 (Chunk.smps p.1.2)
 fl:∀ x∈p.1.2,x.2<18446744073709551616
 sl:p.1.2.length≤11000000
 rt:(Lab.rt p.1.1).1=0
theorem SeT.stp {p:SQ} (h:SeT ω w t p) (k:Stp T ω ω' w w') (ne:T t=false):SeT ω' w' t p:=⟨h.lb.stp k ne,h.sm.stp k ne,h.fl,h.sl,h.rt⟩
theorem SeT.ok {p:SQ} (h:SeT ω w t p):SeOk w p:=⟨h.lb.rd,h.sm.rd,h.fl,h.sl,(rt_sizes h.rt).1,(rt_sizes h.rt).2⟩
structure BK (ω:Tg) (w:World) (t g gm:Nat) (bs rs:Sl) (b:List UInt8) (q:QS) (F:Lb→List Nat) (es:List IE) (k:Int):Prop where
 hd:BT ω w t g 89 [bs.v,rs.v,.map (some gm),.int .i64 k]
 by_:OT ω w (t+1) 5 1 bs (vBs b)
 row:OT ω w (t+2) 57 2 rs (sers q)
 ix:IX ω w (t+4) (t+5) gm F es
 el:∀ p∈q,SeT ω w (t+3) p
 n:es.length≤20000000
def Off (t:Nat) (T:Nat→Bool):Prop:=∀ u,t≤u→u<t+BIG→T u=false
theorem BK.stp {bs rs:Sl} {b:List UInt8} {q:QS} {F:Lb→List Nat} {es:List IE} {k:Int} (h:BK ω w t g gm bs rs b q F es k) (s:Stp T ω ω' w w') (ne:Off t T):BK ω' w' t g gm bs rs b q F es k :=
 ⟨h.hd.stp s (ne _ (by omega) (by unfold BIG;omega)),h.by_.stp s (ne _ (by omega) (by unfold BIG;omega)),h.row.stp s (ne _ (by omega) (by unfold BIG;omega)),
  h.ix.stp s (ne _ (by omega) (by unfold BIG;omega)) (fun j hj=>ne _ (by omega) (by have:=h.n;unfold BIG;omega)),fun p hp=>(h.el p hp).stp s (ne _ (by omega) (by unfold BIG;omega)),h.n⟩
theorem off_one {u:Nat} (h:u<t∨t+BIG≤u):Off t (Mem.One u):=fun x h1 h2=>beq_no (by omega)
theorem off_non (t:Nat):Off t Non:=fun _ _ _=>rfl
theorem BK.rd {bs rs:Sl} {b:List UInt8} {q:QS} {F:Lb→List Nat} {es:List IE} {k:Int} (h:BK ω w t g gm bs rs b q F es k):RdQ w rs q:=⟨h.row.rd,fun p hp=>(h.el p hp).ok⟩
end Go.Proofs.YtmfgmcajelmgbaaGreatDoor.Bk

namespace Go.Proofs.YtmfgmcajelmgbaaGreatDoor.Bk
open Go Vm Go.RowKit Num Mem Utf Lib Lab Vint Bits
variable {ω ω' : Tg} {w w' w0 : World} {T : Nat → Bool} {t u g gm : Nat}
theorem cM_at {a:Addr} {b:Option Nat} (h:w.cell? a=some (.map b)) {K:Option Nat→Prop} (hK:K b):G.cM a w K:=⟨b,h,hK⟩
theorem bytes_take (s:ByteArray) (n:Nat):Utf.bytes (s.extract 0 n)=(Utf.bytes s).take n:=by
 unfold Utf.bytes
 rw [Lib.extract_data]
 simp
theorem prefix_ok {l:List UInt8} {K:Bool→World→Prop} (hK:K (decide (l.take 8=magicB)) w):C.strings_HasPrefix (Utf.str l) (⟨#[84,79,67,66,76,75,48,49]⟩:ByteArray) w K:=by
 have hz:(Utf.str l).size=l.length:=str_size l
 unfold C.strings_HasPrefix C.stringslite_HasPrefix
 have h8:(⟨#[84,79,67,66,76,75,48,49]⟩:ByteArray).size=8:=rfl
 rw [h8]
 have hm:magicB.length=8:=rfl
 refine cond_d (fun h=>?_) (fun h=>?_)
 ·refine ⟨⟨by omega,by omega,by omega⟩,?_⟩
  have e:(((Utf.str l).extract (0:Int).toNat ((8:Nat):Int).toNat).toList==(⟨#[84,79,67,66,76,75,48,49]⟩:ByteArray).toList)=decide (l.take 8=magicB):=by
   have e1:((Utf.str l).extract (0:Int).toNat ((8:Nat):Int).toNat).toList=l.take 8:=by
    rw [ByteArray.toList_eq]
    have:=bytes_take (Utf.str l) 8
    rw [bytes_str] at this
    exact this
   have e2:(⟨#[84,79,67,66,76,75,48,49]⟩:ByteArray).toList=magicB:=by rw [ByteArray.toList_eq];rfl
   rw [e1,e2]
   by_cases h:l.take 8=magicB
   ·rw [decide_eq_true h,h];simp
   ·rw [decide_eq_false h];simp [h]
  show K (((Utf.str l).extract (0:Int).toNat ((8:Nat):Int).toNat).toList==(⟨#[84,79,67,66,76,75,48,49]⟩:ByteArray).toList) w
  rw [e];exact hK
 ·have e:l.take 8≠magicB:=fun e=>by
   have:=congrArg List.length e
   rw [List.length_take] at this
   omega
  rwa [decide_eq_false e] at hK
theorem cloneB_ok {s:Sl} {l:List UInt8} (h:RdB w s l) (hm:l.length≤100000000) {K:Sl→World→Prop} (hK:∀ r w',Keep w w'→OwnB w' w.heap.size r l→K r w'):C.slices_Clone_byte_byte s w K:=by
 have hn:=h.len
 unfold C.slices_Clone_byte_byte
 exact Sm.clone_ok (P:=Tryz.prog) tiB h vBs_one (by simp only [maxLen];omega) (by omega) fun r w' k o _=>hK r w' k o
theorem Top.of (k:Keep w0 w) (top:Top w ω w'):Top w0 ω w':=⟨Keep.trans k top.k,fun i hi=>top.z i (Nat.lt_of_lt_of_le hi k.size)⟩
def partF (l:List Ser) (ms:List Lb):Lb→List Nat:=fun x=>post l x++(if hasL ms x=true then [l.length] else [])
theorem partF_nil (l:List Ser):partF l []=post l:=by funext x;unfold partF;simp [hasL]
theorem partF_all (l:List Ser) (s:Ser):partF l s.1=post (l++[s]):=by funext x;rw [post_snoc];rfl
theorem rt_names {l:List Lb} (h:(rt l).1=0):(l.map (·.1)).Nodup:=by
 have key:∀ (r:List Lb) (p:Option ByteArray) (i:Nat),(rtGo p r i).1=0→(∀ x∈r,∀ q,p=some q→cB q x.1<0)∧(r.map (·.1)).Nodup:=by
  intro r
  induction r with
  | nil=>intro p i _;exact ⟨(fun x hx=>by cases hx),List.nodup_nil⟩
  | cons y r ih =>
   intro p i h
   rw [rtGo] at h
   split at h
   ·exact absurd (show (40:Int)=0 from h) (by decide)
   ·split at h
    ·rename_i h2;exact absurd h h2
    ·split at h
     ·exact absurd (show (3:Int)=0 from h) (by decide)
     ·rename_i h3
      obtain ⟨i1,i2⟩:=ih _ _ h
      have hy:∀ x∈r,cB y.1 x.1<0:=fun x hx=>i1 x hx y.1 rfl
      have hp:∀ q,p=some q→cB q y.1<0:=fun q hq=>by
       subst hq
       have:backB (some q) y.1=false:=by simpa using h3
       rw [← back_cb] at this
       rw [lessB] at this
       have:cB q y.1 = -1:=by simpa using this
       omega
      refine ⟨fun x hx q hq=>?_,?_⟩
      ·rcases List.mem_cons.1 hx with rfl | hx
       ·exact hp q hq
       ·exact cB_cmp.trans _ _ _ (hp q hq) (hy x hx)
      ·rw [List.map_cons,List.nodup_cons]
       refine ⟨fun hm=>?_,i2⟩
       obtain ⟨x,hx,e⟩:=List.mem_map.1 hm
       have:=hy x hx
       rw [e,cB_cmp.self] at this
       exact absurd this (by decide)
 unfold rt at h
 split at h
 ·exact absurd (show (8:Int)=0 from h) (by decide)
 ·exact (key l none 0 h).2
theorem rt_nodup {l:List Lb} (h:(rt l).1=0):l.Nodup:=by
 have:=rt_names h
 rw [List.Nodup,List.pairwise_map] at this
 exact this.imp fun h e=>h (by rw [e])
theorem sml_of {l:List Lb} (h:(rt l).1=0) {x:Lb} (hx:x∈l):sml x:=by
 have:=(rt_short h).2 x hx
 exact ⟨by simp only [maxLen];omega,by simp only [maxLen];omega⟩
theorem post_len (l:List Ser) (x:Lb):(post l x).length≤l.length:=postGo_len x l 0
theorem open_ok (hT:DTab w0) (ht:UTab w0) (hv:Vint.Tab w0) {s:Sl} {b:List UInt8} (hb:RdB w0 s b) (hl:b.length≤100000000) (t:Nat) (h1000:1000≤t) {K:Option Addr→Int→World→Prop}
  (hE:openM b=none→∀ w',Keep w0 w'→K none 3 w')
  (hK:∀ l,openM b=some l→∀ g gm bs rs q es ω' w',Top w0 ω' w'→q.map (·.1)=l→BK ω' w' t g gm bs rs b q (post l) es 0→K (some ⟨g,0,none⟩) 0 w'):C.block_Open s w0 K:=by
 have hsn:=hb.len
 unfold C.block_Open
 unfold openM at hE hK
 refine cond_d (fun h1=>?_) (fun h1=>?_)
 ·rw [if_pos (.inl (by omega))] at hE;exact hE rfl w0 (Keep.refl _)
 refine Utf.convBS hb<|prefix_ok ?_
 refine cond_not (fun h2=>?_) (fun h2=>?_)
 ·rw [if_pos (.inr (of_decide_eq_false h2))] at hE;exact hE rfl w0 (Keep.refl _)
 have h2:=of_decide_eq_true h2
 rw [if_neg (by rintro (h | h);omega;exact h h2)] at hE hK
 have h8:8≤b.length:=by
  have:=congrArg List.length h2
  rw [List.length_take] at this
  have:magicB.length=8:=rfl
  omega
 refine RdB.slc hb (lo:=8) (hi:=b.length) (by omega) (by omega) rfl (by omega) fun s8 hs8=>?_
 rw [List.take_of_length_le (by rw [List.length_drop];omega)] at hs8
 refine frames_ok hv hs8 (by rw [List.length_drop];omega) fun fr rs w1 k1 o1=>?_
 have hfrs:frs (b.drop 8) (b.drop 8).length 0=frsOf b:=rfl
 rw [hfrs] at o1 ⊢
 have hflen:(frsOf b).1.length≤b.length:=by have:=frs_len (b.drop 8) (b.drop 8).length 0;rw [hfrs,List.length_drop] at this;omega
 have hfe:∀ m∈(frsOf b).1,m.length≤65536:=frs_each (b.drop 8) (b.drop 8).length 0
 have hrd:=o1.rd
 have hfn:=hrd.n
 refine cond_ne (fun he=>?_) (fun he=>?_)
 ·rw [if_pos (.inl (fun e=>he (by rw [e];rfl)))] at hE;exact hE rfl w1 k1
 have he:(frsOf b).2.2=0:=by exact_mod_cast he
 refine cond_eq (fun h0=>?_) (fun h0=>?_)
 ·rw [if_pos (.inr (List.eq_nil_of_length_eq_zero (by omega)))] at hE;exact hE rfl w1 k1
 rw [if_neg (by rintro (h | h);exact h he;exact h0 (by rw [hfn,h];rfl))] at hE hK
 generalize (frsOf b).1=fs at *
 cases fs with
 | nil=>exact absurd (by rw [hfn];rfl) h0
 | cons f0 fs =>
 rw [List.tail_cons] at hE hK
 -- the rows behind the head
 cases rs with
 | nil=>have:=hrd.len;simp at this
 | cons r0 rs =>
 have hrl:rs.length=fs.length:=by have:=hrd.len;simpa using this
 rw [List.length_cons] at hfn hflen
 refine cloneB_ok (hb.keep k1) (by omega) fun bs w2 k2 o2=>?_
 have t2:=Own.tag o2 (Nat.le_refl _) (fun _=>0) (t+1)
 have top2:=(Top.init w1).stp (k2.stp (fun _=>0) (t+1))
 generalize ext (fun _=>0) w1.heap.size (t+1)=ω2 at *
 refine mkL (ω:=ω2) (t+4) fun gm ω3 w3 k3 m3=>?_
 refine new_T (ω:=ω3) t fun g ω4 w4 k4 b4=>?_
 have top4:=(top2.stp k3).stp k4
 have bk4:BK ω4 w4 t g gm bs nilS b [] (post []) [] 0:=⟨b4,(t2.stp k3).stp k4,OT.nil _ _ _ _ _,⟨m3.stp k4 rfl,fun j e h=>by simp at h,fun e h=>by simp at h,fun x h=>absurd rfl h,fun e h=>by simp at h⟩,(fun p hp=>by cases hp),by simp⟩
 unfold C.block_Open.S20
 have hhdr:Rd w1 fr 1 (hdrs (r0::rs)):=hrd.hdr
 refine Rd.slc hhdr (lo:=1) (hi:=fr.n) (by omega) (Nat.le_refl _) rfl rfl fun l1 hl1 hln _=>?_
 have hl1':Rd w1 l1 1 (hdrs rs):=by
  have e:((hdrs (r0::rs)).drop (1*1)).take ((fr.n-1)*1)=hdrs rs:=by
   unfold hdrs
   rw [List.map_cons,Nat.one_mul,List.drop_succ_cons,List.drop_zero,List.take_of_length_le (by rw [List.length_map];omega)]
  rwa [e] at hl1
 clear hl1
 have hel:∀ (i:Nat) (r:Sl) (p:List UInt8),rs[i]?=some r→fs[i]?=some p→RdB w1 r p:=fun i r p h1 h2=>hrd.el (i+1) r p (by simpa using h1) (by simpa using h2)
 have hl1n:l1.n=fs.length:=by omega
 refine C.block_Open.L5_ind fun X hX=>?_
 have key:∀ (d i:Nat) (ω:Tg) (w:World) (q:QS) (es:List IE) (rw':Sl),i+d=fs.length→Top w1 ω w→BK ω w t g gm bs rw' b q (post (q.map (·.1))) es 0→q.length=i→es.length≤16*i →
   (match rdAll (fs.drop i) with | none=>none | some l=>some (q.map (·.1)++l))=rdAll fs→X s (some ⟨g,0,none⟩) l1 ((l1.n:Nat):Int) (i:Int) w:=by
  intro d
  induction d with
  | zero =>
   intro i ω w q es rw' hi top bk hq hes e
   refine hX _ _ _ _ _ _ ?_
   unfold C.block_Open.S18 C.block_Open.S2
   rw [List.drop_of_length_le (by omega)] at e
   rw [rdAll] at e
   simp only [List.append_nil] at e
   rw [← e] at hE hK
   simp only at hE hK
   have k0:=Keep.trans k1 top.k
   refine cond_d (fun h=>by omega) (fun _=>ptr_at<|cSl_at (s:=rw') (by rw [addr_add,bk.hd.cell];rfl) ?_)
   refine build_ok (hT.keep k0) (ht.keep k0) (hv.keep k0) bk.rd (by omega) fun r w6 k6 o6=>?_
   have k06:=Keep.trans k0 k6
   refine cond_ne (fun hbad=>?_) (fun hok=>?_)
   ·rw [if_pos (.inl hbad)] at hE;exact hE rfl w6 k06
   refine Utf.convBS (OwnB.rd o6)<|Utf.convBS (hb.keep k06) ?_
   have eb:((Utf.str (buildR (q.map (·.1))).1).toList==(Utf.str b).toList)=decide ((buildR (q.map (·.1))).1=b):=by
    rw [ByteArray.toList_eq,ByteArray.toList_eq]
    change (Utf.bytes (Utf.str _)==Utf.bytes (Utf.str _))=_
    rw [bytes_str,bytes_str]
    by_cases h:(buildR (q.map (·.1))).1=b
    ·rw [decide_eq_true h,h];simp
    ·rw [decide_eq_false h];simp [h]
   rw [eb]
   refine cond_not (fun h6=>?_) (fun h6=>?_)
   ·rw [if_pos (.inr (of_decide_eq_false h6))] at hE;exact hE rfl w6 k06
   ·have h6:=of_decide_eq_true h6
    rw [if_neg (by rintro (h | h);exact h hok;exact h h6)] at hK
    have s6:=k6.stp0 ω
    exact hK _ rfl g gm bs rw' q es ω w6 (Top.of k1 (top.stp s6)) rfl (bk.stp s6 (off_non t))
  | succ d ih =>
   intro i ω w q es rw' hi top bk hq hes e
   refine hX _ _ _ _ _ _ ?_
   unfold C.block_Open.S18 C.block_Open.S15
   have hif:i<fs.length:=by omega
   have hir:i<rs.length:=by omega
   have hri:rs[i]?=some rs[i]:=List.getElem?_eq_getElem hir
   have hfi:fs[i]?=some fs[i]:=List.getElem?_eq_getElem hif
   rw [List.drop_eq_getElem_cons hif,rdAll] at e
   refine cond_d (fun _=>?_) (fun h=>by omega)
   refine Mem.Rd.hdr (hl1'.keep top.k) hri ?_
   have hp:=(hel i _ _ hri hfi).keep top.k
   have hpl:=hfe fs[i] (List.mem_cons_of_mem _ (List.getElem_mem hif))
   have k0:=Keep.trans k1 top.k
   refine series_ok (hT.keep k0) (ht.keep k0) hp hpl (fun hn a c w5 k5=>?_) (fun x ex hs a c w5 k5 sk ol os=>?_)
   ·rw [hn] at e
    simp only at e
    rw [← e] at hE
    refine locS fun g6 w6 k6 hg6 b6=>cond_t rfl ?_
    exact hE rfl w6 (Keep.trans k0 (Keep.trans k5 k6.1))
   rw [hs] at e
   simp only at e
   have s5:=k5.stp ω (t+3)
   have tl:=Own.tag ol (Nat.le_refl _) ω (t+3)
   have ts:=Own.tag os (Nat.le_refl _) ω (t+3)
   have bk5:=bk.stp s5 (off_non t)
   have top5:=top.stp s5
   generalize ext ω w.heap.size (t+3)=ω5 at *
   have hxrt:(rt x.1).1=0:=by
    unfold rdSer at hs
    split at hs
    ·cases hs
    ·rename_i l a' hr
     split at hs
     ·cases hs
     ·split at hs
      ·cases hs
      ·split at hs
       ·cases hs
       ·split at hs
        ·cases hs
        ·injection hs with hs
         injection hs with hs _
         rw [← hs];exact rl_rt hr
   have set5:SeT ω5 w5 (t+3) (x,a,c):=⟨tl.rt,ts.rt,sk.fl,sk.sl,hxrt⟩
   refine locS fun g6 w6 k6 hg6 b6=>?_
   have s6:=k6.1.stp ω5 7
   have b6:BT (ext ω5 w5.heap.size 7) w6 7 g6 _ _:=⟨b6,ext_new hg6⟩
   have bk6:=bk5.stp s6 (off_non t)
   have set6:=set5.stp s6 rfl
   have top6:=top5.stp s6
   generalize ext ω5 w5.heap.size 7=ω6 at *
   refine cond_f rfl<|ptr_at ?_
   have sd:=drew_stp ω6 w6
   have bkd:=bk6.stp sd (off_non t)
   have bd:=b6.stp sd
   have topd:=top6.stp sd
   refine cSl_at (s:=rw') (by rw [addr_add,bkd.hd.cell];rfl)<|cSl_at (s:=a) (by rw [bd.cell];rfl)<|cSl_at (s:=c) (by rw [addr_add,bd.cell];rfl) ?_
   have hrn:=rdQ_n bkd.row.rd
   -- append of the series
   refine new_T (ω:=ω6) 8 fun g7 ω7 w7 k7 b7=>⟨?_,?_⟩
   ·exact bkd.hd.sameA k7
   have bk7:=bkd.stp k7 (off_non t)
   have set7:=(set6.stp sd rfl).stp k7 rfl
   have bd7:=bd.stp k7
   have top7:=topd.stp k7
   refine app_T tiQ bk7.row (x:=⟨some ⟨g7,0,none⟩,1,1⟩) (ys:=sers [(x,a,c)]) (by have:=Rd.blk (o:=0) (n:=1) (c:=1) (sz:=2) b7.blk (Nat.le_refl _) (by simp);simpa [sers,serC] using this) sers_one (by simp only [maxLen];omega) (by simp only;omega) fun r8 ω8 w8 k8 o8 _=>?_
   have e8:sers q++sers [(x,a,c)]=sers (q++[(x,a,c)]):=by rw [sers_app]
   rw [e8] at o8
   have hT8:∀ u,t+2≠u→Mem.One (t+2) u=false:=fun u h=>beq_no (fun e=>h e.symm)
   have hd8:=bk7.hd.stp k8 (hT8 _ (by omega))
   refine ptr_at<|st_TA hd8 (by simp) fun ω9 w9 k9 hd9=>?_
   have hT9:∀ u,t≠u→Mem.One t u=false:=fun u h=>beq_no (fun e=>h e.symm)
   have top9:=(top7.stp k8 (hT8 _ (by omega))).stp k9 (hT9 _ (by omega))
   have bk9:BK ω9 w9 t g gm bs r8 b (q++[(x,a,c)]) (post (q.map (·.1))) es 0 :=
    ⟨hd9,(bk7.by_.stp k8 (hT8 _ (by omega))).stp k9 (hT9 _ (by omega)),o8.stp k9 (hT9 _ (by omega)),(bk7.ix.stp k8 (hT8 _ (by omega)) fun j _=>hT8 _ (by omega)).stp k9 (hT9 _ (by omega)) (fun j _=>hT9 _ (by omega)),
     fun p hp=>by
      rcases List.mem_append.1 hp with hp | hp
      ·exact ((bk7.el p hp).stp k8 (hT8 _ (by omega))).stp k9 (hT9 _ (by omega))
      ·rw [List.mem_singleton] at hp;subst hp;exact (set7.stp k8 (hT8 _ (by omega))).stp k9 (hT9 _ (by omega)),bk7.n⟩
   have bd9:=(bd7.stp k8 (hT8 _ (by omega))).stp k9 (hT9 _ (by omega))
   refine cSl_at (s:=a) (by rw [bd9.cell];rfl) ?_
   have h16:=(rt_short hxrt).1
   -- the index
   have hqi:(q.map (·.1)).length=i:=by rw [List.length_map];exact hq
   refine C.block_Open.L11_ind fun Y hY=>?_
   have inner:∀ (d' j:Nat) (ω:Tg) (w:World) (es':List IE),j+d'=x.1.length→Top w1 ω w→BK ω w t g gm bs r8 b (q++[(x,a,c)]) (partF (q.map (·.1)) (x.1.take j)) es' 0→es'.length≤es.length+j →
     Y s (some ⟨g,0,none⟩) (i:Int) l1 ((l1.n:Nat):Int) (i:Int) a ((a.n:Nat):Int) (j:Int) w:=by
    intro d'
    induction d' with
    | zero =>
     intro j ω w es' hj top bk hle
     refine hY _ _ _ _ _ _ _ _ _ _ ?_
     unfold C.block_Open.S13 C.block_Open.S7
     have han:=rdL_n (bk.el _ (List.mem_append_right _ (List.mem_singleton.2 rfl))).lb.rd
     dsimp only at han
     refine cond_d (fun h=>by omega) (fun _=>?_)
     rw [wI64 (by omega) (by omega),show (i:Int)+1=((i+1:Nat):Int) by omega]
     rw [List.take_of_length_le (by omega),partF_all] at bk
     have em:(q++[(x,a,c)]).map (·.1)=q.map (·.1)++[x]:=by rw [List.map_append];rfl
     refine ih (i+1) ω w (q++[(x,a,c)]) es' r8 (by omega) top (by rw [em];exact bk) (by rw [List.length_append,hq];rfl) (by omega) ?_
     rw [← e,em]
     cases rdAll (fs.drop (i+1)) with
     | none=>rfl
     | some l=>simp
    | succ d' ihd =>
     intro j ω w es' hj top bk hle
     refine hY _ _ _ _ _ _ _ _ _ _ ?_
     unfold C.block_Open.S13
     have hjx:j<x.1.length:=by omega
     have hsx:=bk.el _ (List.mem_append_right q (List.mem_singleton.2 (rfl:(x,a,c)=(x,a,c))))
     have han:=rdL_n hsx.lb.rd
     dsimp only at han
     have hxj:x.1[j]?=some x.1[j]:=List.getElem?_eq_getElem hjx
     refine cond_d (fun _=>?_) (fun h=>by omega)
     refine rdL_at hsx.lb.rd (k:=j) rfl hxj fun p e0 e1=>cS_at e0<|cS_at e1 ?_
     refine new_T (ω:=ω) 7 fun g1 ω1 w1' k1' b1=>st_T b1 (by simp) fun ω2 w2 k2 b2=>st_TA b2 (by simp) fun ω3 w3 k3 b3=>ptr_at ?_
     have k13:=((k1'.non (Mem.One 7)).trans k2).trans k3
     have off7:Off t (Mem.One 7):=off_one (by omega)
     have bk3:=bk.stp k13 off7
     have top3:=top.stp k13
     have sd:=drew_stp ω3 w3
     have bkd:=bk3.stp sd (off_non t)
     have bd:=b3.stp sd
     have topd:=top3.stp sd
     refine cM_at (b:=some gm) (by rw [addr_add,bkd.hd.cell];rfl)<|cS_at (b:=x.1[j].1) (by rw [bd.cell];rfl)<|cS_at (b:=x.1[j].2) (by rw [addr_add,bd.cell];rfl) ?_
     refine new_T (ω:=ω3) 8 fun g4 ω4 w4' k4' b4=>⟨bkd.hd.sameA k4',bd.same k4' rfl 0 2,?_⟩
     have bk4:=bkd.stp k4' (off_non t)
     have top4:=topd.stp k4'
     have hq':=bk4.rd.n
     refine idx_step (t:=t+4) (n:=t+BIG) (x:=x.1[j]) (i:=i) bk4.ix (by unfold BIG;omega) (sml_of hxrt (List.getElem_mem hjx)) ?_ (v:=8) (by omega) b4 rfl fun es2 ω5 w5 k5 ix5 hle5=>?_
     ·unfold partF
      have:=post_len (q.map (·.1)) x.1[j]
      rw [List.length_append]
      split<;>simp<;>omega
     rw [wI64 (by omega) (by omega),show (j:Int)+1=((j+1:Nat):Int) by omega]
     have hR:∀ u,u<t+4→Rg (t+4) (t+BIG) u=false:=fun u h=>rg_no (.inl h)
     have eF:(fun y=>if y=x.1[j] then partF (q.map (·.1)) (x.1.take j) y++[i] else partF (q.map (·.1)) (x.1.take j) y)=partF (q.map (·.1)) (x.1.take (j+1)):=by
      have hnd:=rt_nodup hxrt
      have hnot:hasL (x.1.take j) x.1[j]=false:=by
       cases hh:hasL (x.1.take j) x.1[j] with
       | false=>rfl
       | true =>
        obtain ⟨j',hj',ej⟩:=List.mem_iff_getElem.1 (hasL_iff.1 hh)
        rw [List.length_take] at hj'
        rw [List.getElem_take] at ej
        exact absurd ej (List.pairwise_iff_getElem.1 hnd j' j (by omega) hjx (by omega))
      funext y
      unfold partF
      have et:x.1.take (j+1)=x.1.take j++[x.1[j]]:=List.take_succ_eq_append_getElem hjx
      by_cases hy:y=x.1[j]
      ·subst hy
       rw [if_pos rfl,hnot,et]
       have:hasL (x.1.take j++[x.1[j]]) x.1[j]=true:=hasL_iff.2 (List.mem_append_right _ (List.mem_singleton.2 rfl))
       rw [this,if_pos rfl,hqi];simp
      ·rw [if_neg hy,et]
       have:hasL (x.1.take j++[x.1[j]]) y=hasL (x.1.take j) y:=by
        unfold hasL
        rw [List.any_append]
        have hyn:¬ x.1[j]=y:=fun e=>hy e.symm
        rw [List.any_cons,List.any_nil,decide_eq_false hyn]
        simp
       rw [this]
     rw [eF] at ix5
     refine ihd (j+1) ω5 w5 es2 (by omega) (top4.stp k5 (hR 0 (by omega))) ⟨bk4.hd.stp k5 (hR _ (by omega)),bk4.by_.stp k5 (hR _ (by omega)),bk4.row.stp k5 (hR _ (by omega)),ix5,fun p hp=>(bk4.el p hp).stp k5 (hR _ (by omega)),by have:=bk4.n;omega⟩ (by omega)
   refine inner x.1.length 0 ω9 w9 es (by omega) top9 (by rw [List.take_zero,partF_nil];exact bk9) (by omega)
 exact key fs.length 0 ω4 w4 [] [] nilS (by omega) top4 bk4 rfl (by simp) (by rw [List.drop_zero];cases rdAll fs<;>rfl)
end Go.Proofs.YtmfgmcajelmgbaaGreatDoor.Bk

namespace Go.Proofs.YtmfgmcajelmgbaaGreatDoor.Bk
open Go Lab Vint
open Go.Lib (validD size_eq)
theorem common:∀ (P:List UInt8) {A B u v:List UInt8} {x y:UInt8},P++A=u++x::v→P++B=u++y::v→x≠y→∃ u',u=P++u'∧A=u'++x::v∧B=u'++y::v
 | [],A,B,u,v,x,y,h1,h2,_=>⟨u,rfl,h1,h2⟩
 | p::P,A,B,[],v,x,y,h1,h2,ne=>by
  simp only [List.cons_append,List.nil_append,List.cons.injEq] at h1 h2
  exact absurd (h1.1.symm.trans h2.1) ne
 | p::P,A,B,z::u,v,x,y,h1,h2,ne=>by
  simp only [List.cons_append,List.cons.injEq] at h1 h2
  obtain ⟨u',e,e1,e2⟩:=common P h1.2 h2.2 ne
  exact ⟨u',by rw [h1.1,e];rfl,e1,e2⟩
end Go.Proofs.YtmfgmcajelmgbaaGreatDoor.Bk

namespace Go.Proofs.YtmfgmcajelmgbaaGreatDoor.Mem
open Go Vm Go.RowKit Num
variable {T : Nat → Bool} {ω ω' : Tg} {w w' w0 : World} {t : Nat} {ι : Type}
def TellsG (P:Program) (Fc:Clee) (v:Value) (s0:ι) (Q0:ι→ι→List Value→Tg→World→Prop) (dn:ι→Prop) (C:Tg→World→Prop) (Pt Ct:Nat→Bool):Prop :=
 match v with
 | .func (.func n) first cap=>∀ (L:Nat) (I:ι→Tg→World→Prop) (Kk:Tg→World→Prop) (Q:World→Prop) (ω:Tg) (w:World),
   (∀ i ω w,I i ω w→C ω w)→(∀ i ω ω' w w',I i ω w→Stp Pt ω ω' w w'→I i ω' w')→(∀ ω ω' w w',Kk ω w→Stp Pt ω ω' w w'→Kk ω' w') →
   (∀ i j a ω w R,Q0 i j a ω w→I i ω w→(∀ ω' w',Stp Ct ω ω' w w'→I j ω' w'→R (.bool true) w')→(∀ ω' w',Stp Ct ω ω' w w'→Kk ω' w'→R (.bool false) w')→G.yieldAt P L a w R) →
   (∀ i ω w,dn i→I i ω w→Kk ω w)→(∀ ω w,Kk ω w→Q w)→I s0 ω w→Fc n (first.toList++[.func (.yield L) #[] #[]]++cap.toList) (fun _ w'=>Q w') w
 | _=>False
theorem rangeG_ok {P:Program} {Fc:Clee} {v:Value} {s0:ι} {Q0:ι→ι→List Value→Tg→World→Prop} {dn:ι→Prop} {C:Tg→World→Prop} {B:List Value→World→(Exit→World→Prop)→Prop} {K:Exit→Nat→World→Prop} {u:Nat} {Pt:Nat→Bool}
  {J:ι→Tg→World→Prop} {E:Exit→Tg→World→Prop} (hv:TellsG P Fc v s0 Q0 dn C Pt (fun x=>T x || Nat.beq x u)) (hT:T u=false) (hP:Pt u=false) (hQ:∀ i j a ω ω' w w',Q0 i j a ω w→Stp (One u) ω ω' w w'→Q0 i j a ω' w') (hC:∀ i ω w,J i ω w→C ω w)
  (hJ:∀ S,S=One u∨S=Pt→∀ i ω ω' w w',J i ω w→Stp S ω ω' w w'→J i ω' w') (hE:∀ S,S=One u∨S=Pt→∀ e ω ω' w w',E e ω w→Stp S ω ω' w w'→E e ω' w')
  (hB:∀ i k a ω w Rr,Q0 i k a ω w→J i ω w→(∀ ω' w',Stp T ω ω' w w'→J k ω' w'→Rr .normal w')→(∀ e j ω' w',jump e=some (some j)→Stp T ω ω' w w'→E e ω' w'→Rr e w')→B a w Rr)
  (h0:J s0 ω w)
  (hK:∀ ω' w' D,w'.heap[D]?=some (.deferred (some []))→ω' D=u→(∃ i,dn i∧J i ω' w')→K .normal D w')
  (hX:∀ e ω' w' D,w'.heap[D]?=some (.deferred (some []))→ω' D=u→E e ω' w'→K e D w'):G.rangeF Fc v P B w K:=by
 have oJ:=hJ _ (.inl rfl)
 have oE:=hE _ (.inl rfl)
 have pJ:=hJ _ (.inr rfl)
 have pE:=hE _ (.inr rfl)
 unfold TellsG at hv
 split at hv
 case h_2=>exact hv.elim
 rename_i n first cap
 intro rec hcells hY
 obtain ⟨w1,ew1⟩:∃ w1,w1=(w.alloc (.deferred (some []))).alloc (rec .ready none):=⟨_,rfl⟩
 have s1:Stp (One u) ω (ext (ext ω w.heap.size u) (w.alloc (.deferred (some []))).heap.size u) w w1:=by
  rw [ew1]
  exact (((Keep.alloc w _).stp ω u).trans ((Keep.alloc _ _).stp _ u)).non _
 have hLn:(w.alloc (.deferred (some []))).heap.size=w.heap.size+1:=World.size_alloc ..
 have hL:w1.heap[w.heap.size+1]?=some (rec .ready none):=by
  have:=World.alloc_heap_new (w.alloc (.deferred (some []))) (rec .ready none)
  rw [hLn] at this;rw [ew1];exact this
 have hD:w1.heap[w.heap.size]?=some (.deferred (some [])):=by
  have h1:=World.alloc_heap_new w (.deferred (some []))
  rw [ew1]
  exact (Keep.alloc _ _).heap h1
 show Fc n (first.toList++[.func (.yield (w.heap.size+1)) #[] #[]]++cap.toList) _ ((w.alloc (.deferred (some []))).alloc (rec .ready none))
 rw [← ew1]
 have hu:ext (ext ω w.heap.size u) (w.alloc (.deferred (some []))).heap.size u (w.heap.size+1)=u:=ext_new (by omega)
 have hud:ext (ext ω w.heap.size u) (w.alloc (.deferred (some []))).heap.size u w.heap.size=u:=by rw [ext_old (by omega),ext_new (Nat.le_refl _)]
 generalize ext (ext ω w.heap.size u) (w.alloc (.deferred (some []))).heap.size u=ω1 at s1 hu hud
 have j1:=oJ _ _ _ _ _ h0 s1
 have hne:w.heap.size≠w.heap.size+1:=by omega
 clear ew1 s1 hLn h0
 generalize w.heap.size+1=L at *
 generalize w.heap.size=D at *
 refine hv L (fun i ω w=>J i ω w∧w.heap[L]?=some (rec .ready none)∧ω L=u∧w.heap[D]?=some (.deferred (some []))∧ω D=u)
  (fun ω w=>w.heap[D]?=some (.deferred (some []))∧ω D=u∧ω L=u∧∃ st e j,jump e=some j∧st≠LoopState.busy∧w.heap[L]?=some (rec st j)∧((e=.normal∧∃ i,dn i∧J i ω w)∨E e ω w)) _ ω1 w1 ?_ ?_ ?_ ?_ ?_ ?_ ⟨j1,hL,hu,hD,hud⟩
 ·rintro i ω w ⟨h,_⟩;exact hC i ω w h
 ·rintro i ω ω' w w' ⟨h,hl,hlu,hd,hdu⟩ s
  exact ⟨pJ _ _ _ _ _ h s,(s.obj hl hlu hP).1,(s.obj hl hlu hP).2,(s.obj hd hdu hP).1,(s.obj hd hdu hP).2⟩
 ·rintro ω ω' w w' ⟨hd,hdu,hlu,st,e,j,hj,hst,hl,hh⟩ s
  exact ⟨(s.obj hd hdu hP).1,(s.obj hd hdu hP).2,(s.obj hl hlu hP).2,st,e,j,hj,hst,(s.obj hl hlu hP).1,hh.imp (fun ⟨h1,i,h2,h3⟩=>⟨h1,i,h2,pJ _ _ _ _ _ h3 s⟩) (fun h=>pE _ _ _ _ _ h s)⟩
 ·rintro i k a ω w R ha ⟨h,hl,hlu,hd,hdu⟩ hR hRx
  refine hY a w R hl ?_
  have sp:=put_stp (w:=w) (o:=rec .busy none) hlu
  have up:∀ {ω ω':Tg} {w w':World},Stp (One u) ω ω' w w'→Stp (fun x=>T x || Nat.beq x u) ω ω' w w':=fun s=>s.mono fun x hx=>by
   simp only [Bool.or_eq_false_iff] at hx;exact hx.2
  have upT:∀ {ω ω':Tg} {w w':World},Stp T ω ω' w w'→Stp (fun x=>T x || Nat.beq x u) ω ω' w w':=fun s=>s.mono fun x hx=>by
   simp only [Bool.or_eq_false_iff] at hx;exact hx.1
  refine hB i k a ω _ _ (hQ _ _ _ _ _ _ _ ha sp) (oJ _ _ _ _ _ h sp) (fun ω' w' s j'=>?_) (fun e j ω' w' hj s j'=>?_)
  ·have hb:=World.putObj_heap_same (o:=rec .busy none) (heap_lt hl)
   obtain ⟨hb',hu'⟩:=s.obj hb hlu hT
   have hd0:(w.putObj L (rec .busy none)).heap[D]?=some (.deferred (some [])):=by rw [World.putObj_heap_other hne];exact hd
   obtain ⟨hd',hdu'⟩:=s.obj hd0 hdu hT
   have sp2:=put_stp (w:=w') (o:=rec .ready none) hu'
   refine ⟨hb',none,rfl,hR ω' _ ((up sp).trans ((upT s).trans (up sp2))) ⟨oJ _ _ _ _ _ j' sp2,World.putObj_heap_same (heap_lt hb'),hu',?_,hdu'⟩⟩
   show (w'.putObj L (rec .ready none)).heap[D]?=_
   rw [World.putObj_heap_other hne];exact hd'
  ·have hb:=World.putObj_heap_same (o:=rec .busy none) (heap_lt hl)
   obtain ⟨hb',hu'⟩:=s.obj hb hlu hT
   have hd0:(w.putObj L (rec .busy none)).heap[D]?=some (.deferred (some [])):=by rw [World.putObj_heap_other hne];exact hd
   obtain ⟨hd',hdu'⟩:=s.obj hd0 hdu hT
   have sp2:=put_stp (w:=w') (o:=rec .done (some j)) hu'
   refine ⟨hb',some j,hj,hRx ω' _ ((up sp).trans ((upT s).trans (up sp2))) ⟨?_,hdu',hu',.done,e,some j,hj,(by intro h;cases h),World.putObj_heap_same (heap_lt hb'),.inr (oE _ _ _ _ _ j' sp2)⟩⟩
   show (w'.putObj L (rec .done (some j))).heap[D]?=_
   rw [World.putObj_heap_other hne];exact hd'
 ·rintro i ω w hdn ⟨h,hl,hlu,hd,hdu⟩
  exact ⟨hd,hdu,hlu,.ready,.normal,none,rfl,(by intro h;cases h),hl,.inl ⟨rfl,i,hdn,h⟩⟩
 ·rintro ω w ⟨hd,hdu,hlu,st,e,j,hj,hst,hl,hh⟩
  have sp:=put_stp (w:=w) (o:=rec .exhausted j) hlu
  have hd':(w.putObj L (rec .exhausted j)).heap[D]?=some (.deferred (some [])):=by rw [World.putObj_heap_other hne];exact hd
  refine ⟨st,e,j,hj,hst,hl,?_⟩
  rcases hh with ⟨rfl,h⟩ | h
  ·obtain ⟨i,h2,h3⟩:=h
   exact hK ω _ D hd' hdu ⟨i,h2,oJ _ _ _ _ _ h3 sp⟩
  ·exact hX e ω _ D hd' hdu (oE _ _ _ _ _ h sp)
theorem rangeGW_ok {P:Program} {Fc:Clee} {v:Value} {s0:ι} {Q0:ι→ι→List Value→Tg→World→Prop} {dn:ι→Prop} {C:Tg→World→Prop} {B:List Value→World→((World→Prop)→World→Prop)→(Exit→World→Prop)→Prop} {K:Exit→Nat→World→Prop} {u:Nat} {Pt:Nat→Bool}
  {J:ι→Tg→World→Prop} {E:Exit→Tg→World→Prop} (hv:TellsG P Fc v s0 Q0 dn C Pt (fun x=>T x || Nat.beq x u)) (hT:T u=false) (hP:Pt u=false) (hQ:∀ i j a ω ω' w w',Q0 i j a ω w→Stp (One u) ω ω' w w'→Q0 i j a ω' w') (hC:∀ i ω w,J i ω w→C ω w)
  (hJ:∀ S,S=One u∨S=Pt→∀ i ω ω' w w',J i ω w→Stp S ω ω' w w'→J i ω' w') (hE:∀ S,S=One u∨S=Pt→∀ e ω ω' w w',E e ω w→Stp S ω ω' w w'→E e ω' w')
  (hB:∀ i k a ω w bz Rr,Q0 i k a ω w→J i ω w→(∀ X ω1 w1,Stp Non ω ω1 w w1→(∀ w2,Stp (One u) ω1 ω1 w1 w2→(∀ ω' w',Stp T ω1 ω' w2 w'→J k ω' w'→Rr .normal w')→(∀ e j ω' w',jump e=some (some j)→Stp T ω1 ω' w2 w'→E e ω' w'→Rr e w')→X w2)→bz X w1)→B a w bz Rr)
  (h0:J s0 ω w)
  (hK:∀ ω' w' D,w'.heap[D]?=some (.deferred (some []))→ω' D=u→(∃ i,dn i∧J i ω' w')→K .normal D w')
  (hX:∀ e ω' w' D,w'.heap[D]?=some (.deferred (some []))→ω' D=u→E e ω' w'→K e D w'):G.rangeW Fc v P B w K:=by
 have oJ:=hJ _ (.inl rfl)
 have oE:=hE _ (.inl rfl)
 have pJ:=hJ _ (.inr rfl)
 have pE:=hE _ (.inr rfl)
 unfold TellsG at hv
 split at hv
 case h_2=>exact hv.elim
 rename_i n first cap
 intro rec hcells hY
 obtain ⟨w1,ew1⟩:∃ w1,w1=(w.alloc (.deferred (some []))).alloc (rec .ready none):=⟨_,rfl⟩
 have s1:Stp (One u) ω (ext (ext ω w.heap.size u) (w.alloc (.deferred (some []))).heap.size u) w w1:=by
  rw [ew1]
  exact (((Keep.alloc w _).stp ω u).trans ((Keep.alloc _ _).stp _ u)).non _
 have hLn:(w.alloc (.deferred (some []))).heap.size=w.heap.size+1:=World.size_alloc ..
 have hL:w1.heap[w.heap.size+1]?=some (rec .ready none):=by
  have:=World.alloc_heap_new (w.alloc (.deferred (some []))) (rec .ready none)
  rw [hLn] at this;rw [ew1];exact this
 have hD:w1.heap[w.heap.size]?=some (.deferred (some [])):=by
  have h1:=World.alloc_heap_new w (.deferred (some []))
  rw [ew1]
  exact (Keep.alloc _ _).heap h1
 show Fc n (first.toList++[.func (.yield (w.heap.size+1)) #[] #[]]++cap.toList) _ ((w.alloc (.deferred (some []))).alloc (rec .ready none))
 rw [← ew1]
 have hu:ext (ext ω w.heap.size u) (w.alloc (.deferred (some []))).heap.size u (w.heap.size+1)=u:=ext_new (by omega)
 have hud:ext (ext ω w.heap.size u) (w.alloc (.deferred (some []))).heap.size u w.heap.size=u:=by rw [ext_old (by omega),ext_new (Nat.le_refl _)]
 generalize ext (ext ω w.heap.size u) (w.alloc (.deferred (some []))).heap.size u=ω1 at s1 hu hud
 have j1:=oJ _ _ _ _ _ h0 s1
 have hne:w.heap.size≠w.heap.size+1:=by omega
 clear ew1 s1 hLn h0
 generalize w.heap.size+1=L at *
 generalize w.heap.size=D at *
 refine hv L (fun i ω w=>J i ω w∧w.heap[L]?=some (rec .ready none)∧ω L=u∧w.heap[D]?=some (.deferred (some []))∧ω D=u)
  (fun ω w=>w.heap[D]?=some (.deferred (some []))∧ω D=u∧ω L=u∧∃ st e j,jump e=some j∧st≠LoopState.busy∧w.heap[L]?=some (rec st j)∧((e=.normal∧∃ i,dn i∧J i ω w)∨E e ω w)) _ ω1 w1 ?_ ?_ ?_ ?_ ?_ ?_ ⟨j1,hL,hu,hD,hud⟩
 ·rintro i ω w ⟨h,_⟩;exact hC i ω w h
 ·rintro i ω ω' w w' ⟨h,hl,hlu,hd,hdu⟩ s
  exact ⟨pJ _ _ _ _ _ h s,(s.obj hl hlu hP).1,(s.obj hl hlu hP).2,(s.obj hd hdu hP).1,(s.obj hd hdu hP).2⟩
 ·rintro ω ω' w w' ⟨hd,hdu,hlu,st,e,j,hj,hst,hl,hh⟩ s
  exact ⟨(s.obj hd hdu hP).1,(s.obj hd hdu hP).2,(s.obj hl hlu hP).2,st,e,j,hj,hst,(s.obj hl hlu hP).1,hh.imp (fun ⟨h1,i,h2,h3⟩=>⟨h1,i,h2,pJ _ _ _ _ _ h3 s⟩) (fun h=>pE _ _ _ _ _ h s)⟩
 ·rintro i k a ω w R ha ⟨h,hl,hlu,hd,hdu⟩ hR hRx
  refine hY a w R hl ?_
  have up:∀ {ω ω':Tg} {w w':World},Stp (One u) ω ω' w w'→Stp (fun x=>T x || Nat.beq x u) ω ω' w w':=fun s=>s.mono fun x hx=>by
   simp only [Bool.or_eq_false_iff] at hx;exact hx.2
  have upT:∀ {ω ω':Tg} {w w':World},Stp T ω ω' w w'→Stp (fun x=>T x || Nat.beq x u) ω ω' w w':=fun s=>s.mono fun x hx=>by
   simp only [Bool.or_eq_false_iff] at hx;exact hx.1
  refine hB i k a ω _ _ _ ha h fun X ω1 w1 s1 hX=>?_
  obtain ⟨hl1,hlu1⟩:=s1.obj hl hlu rfl
  obtain ⟨hd1,hdu1⟩:=s1.obj hd hdu rfl
  have sp:=put_stp (w:=w1) (o:=rec .busy none) hlu1
  have hb:=World.putObj_heap_same (o:=rec .busy none) (heap_lt hl1)
  have hd0:(w1.putObj L (rec .busy none)).heap[D]?=some (.deferred (some [])):=by rw [World.putObj_heap_other hne];exact hd1
  refine ⟨hl1,hX _ sp (fun ω' w' s j'=>?_) (fun e j ω' w' hj s j'=>?_)⟩
  ·obtain ⟨hb',hu'⟩:=s.obj hb hlu1 hT
   obtain ⟨hd',hdu'⟩:=s.obj hd0 hdu1 hT
   have sp2:=put_stp (w:=w') (o:=rec .ready none) hu'
   refine ⟨hb',none,rfl,hR ω' _ ((s1.non _).trans ((up sp).trans ((upT s).trans (up sp2)))) ⟨oJ _ _ _ _ _ j' sp2,World.putObj_heap_same (heap_lt hb'),hu',?_,hdu'⟩⟩
   show (w'.putObj L (rec .ready none)).heap[D]?=_
   rw [World.putObj_heap_other hne];exact hd'
  ·obtain ⟨hb',hu'⟩:=s.obj hb hlu1 hT
   obtain ⟨hd',hdu'⟩:=s.obj hd0 hdu1 hT
   have sp2:=put_stp (w:=w') (o:=rec .done (some j)) hu'
   refine ⟨hb',some j,hj,hRx ω' _ ((s1.non _).trans ((up sp).trans ((upT s).trans (up sp2)))) ⟨?_,hdu',hu',.done,e,some j,hj,(by intro h;cases h),World.putObj_heap_same (heap_lt hb'),.inr (oE _ _ _ _ _ j' sp2)⟩⟩
   show (w'.putObj L (rec .done (some j))).heap[D]?=_
   rw [World.putObj_heap_other hne];exact hd'
 ·rintro i ω w hdn ⟨h,hl,hlu,hd,hdu⟩
  exact ⟨hd,hdu,hlu,.ready,.normal,none,rfl,(by intro h;cases h),hl,.inl ⟨rfl,i,hdn,h⟩⟩
 ·rintro ω w ⟨hd,hdu,hlu,st,e,j,hj,hst,hl,hh⟩
  have sp:=put_stp (w:=w) (o:=rec .exhausted j) hlu
  have hd':(w.putObj L (rec .exhausted j)).heap[D]?=some (.deferred (some [])):=by rw [World.putObj_heap_other hne];exact hd
  refine ⟨st,e,j,hj,hst,hl,?_⟩
  rcases hh with ⟨rfl,h⟩ | h
  ·obtain ⟨i,h2,h3⟩:=h
   exact hK ω _ D hd' hdu ⟨i,h2,oJ _ _ _ _ _ h3 sp⟩
  ·exact hX e ω _ D hd' hdu (oE _ _ _ _ _ h sp)
end Go.Proofs.YtmfgmcajelmgbaaGreatDoor.Mem

namespace Go.Proofs.YtmfgmcajelmgbaaGreatDoor.Bk
open Go Vm Go.RowKit Num Mem Utf Lib Lab Vint Bits
variable {ω ω' : Tg} {w w' w0 : World} {T : Nat → Bool} {t u g gm : Nat}
theorem tiS:TI Tryz.prog 52 96 2 16:=TI.of (z:=.agg #[.int .i64 0,.float .f64 0]) (by kernel_rfl) (by kernel_rfl) rfl (by decide)
theorem cloneL_ok {s:Sl} {m:List Lb} (h:Rd w s 2 (labs m)) (hm:m.length≤100000000) {K:Sl→World→Prop} (hK:∀ r w',Keep w w'→Mem.Own w' w.heap.size 93 2 r (labs m)→K r w'):C.slices_Clone_Label_Label s w K:=by
 have hn:=rdL_n h
 unfold C.slices_Clone_Label_Label
 exact Sm.clone_ok (P:=Tryz.prog) tiL h labs_one (by simp only [maxLen];omega) (by omega) fun r w' k o _=>hK r w' k o
theorem cloneS_ok {s:Sl} {m:List Smp} (h:Rd w s 2 (Chunk.smps m)) (hm:m.length≤100000000) {K:Sl→World→Prop} (hK:∀ r w',Keep w w'→Mem.Own w' w.heap.size 96 2 r (Chunk.smps m)→K r w'):C.slices_Clone_Sample_Sample s w K:=by
 have hn:=smN h
 unfold C.slices_Clone_Sample_Sample
 exact Sm.clone_ok (P:=Tryz.prog) tiS h Chunk.smps_one (by simp only [maxLen];omega) (by omega) fun r w' k o _=>hK r w' k o
theorem cloneN_ok {s:Sl} {m:List Nat} (h:Rd w s 1 (ints m)) (hm:m.length≤100000000) {K:Sl→World→Prop} (hK:∀ r w',Keep w w'→Mem.Own w' w.heap.size 3 1 r (ints m)→K r w'):C.slices_Clone_int_int s w K:=by
 have hn:s.n=m.length:=by have:=h.2.1;rw [ints_len] at this;omega
 unfold C.slices_Clone_int_int
 exact Sm.clone_ok (P:=Tryz.prog) tiN h ints_one (by simp only [maxLen];omega) (by omega) fun r w' k o _=>hK r w' k o
def f72 (ta tb x:Nat):Nat:=if x=71 then ta else if x=72 then tb else 0
theorem own_ok (ta tb:Nat) (ω:Tg) {p:SQ} (h:SeOk w p) (h16:p.1.1.length≤100000000) {K:Sl→Sl→World→Prop}
  (hK:∀ r s ω' w',Stp Non ω ω' w w'→OT ω' w' ta 93 2 r (labs p.1.1)→OT ω' w' tb 96 2 s (Chunk.smps p.1.2)→K r s w'):C.block_own p.2.1 p.2.2 w K:=by
 unfold C.block_own
 refine new_T (ω:=fun _=>0) 7 fun g1 ω1 w1 k1 b1=>new_T (ω:=ω1) 8 fun g2 ω2 w2 k2 b2=>?_
 have sd:=drew_stp ω2 w2
 have b1d:=(b1.stp k2).stp sd
 have b2d:=b2.stp sd
 have topd:=(((Top.init w).stp k1).stp k2).stp sd
 refine cSl_at (s:=p.2.1) (by rw [b1d.cell];rfl)<|cSl_at (s:=p.2.2) (by rw [addr_add,b1d.cell];rfl) ?_
 refine cloneL_ok (h.lb.keep topd.k) h16 fun r w3 k3 o3=>⟨b1d.sameA (k3.stp0 ω2),?_⟩
 have s3:=k3.stp ω2 71
 have t3:=Own.tag o3 (Nat.le_refl _) ω2 71
 have b23:=b2d.stp s3
 have top3:=topd.stp s3
 generalize ext ω2 w2.drew.heap.size 71=ω3 at *
 have hsl:=h.sl
 refine cloneS_ok (h.sm.keep top3.k) (by omega) fun s w4 k4 o4=>?_
 have s4:=k4.stp ω3 72
 have t4:=Own.tag o4 (Nat.le_refl _) ω3 72
 have b24:=b23.stp s4
 have top4:=top3.stp s4
 have t34:=t3.stp s4
 generalize ext ω3 w3.heap.size 72=ω4 at *
 refine st_T b24 (by simp) fun ω5 w5 k5 b5=>st_TA b5 (by simp) fun ω6 w6 k6 b6=>?_
 refine cSl_at (s:=r) (by rw [b6.cell];rfl)<|cSl_at (s:=s) (by rw [addr_add,b6.cell];rfl) ?_
 have top6:=(top4.stp k5).stp k6
 exact hK r s (rtg ω ω6 w.heap.size (f72 ta tb)) w6 (rtg_stp top6.k ω ω6 (f72 ta tb)) (((t34.stp k5).stp k6).rtg top6 (f72 ta tb)) (((t4.stp k5).stp k6).rtg top6 (f72 ta tb))
structure AR (w:World) (g:Nat) (rs:Sl) (q:QS):Prop where
 hd:w.cell? ⟨g,1,none⟩=some rs.v
 rd:RdQ w rs q
 l16:∀ p∈q,p.1.1.length≤100000000
 n:q.length≤100000000
theorem AR.keep {rs:Sl} {q:QS} (h:AR w g rs q) (k:Keep w w'):AR w' g rs q:=⟨k.cell h.hd,h.rd.keep k,h.l16,h.n⟩
theorem BK.ar {bs rs:Sl} {b:List UInt8} {q:QS} {F:Lb→List Nat} {es:List IE} {k:Int} (h:BK ω w t g gm bs rs b q F es k) (hn:q.length≤100000000):AR w g rs q :=
 ⟨by rw [h.hd.cell];rfl,h.rd,fun p hp=>by have:=(rt_short (h.el p hp).rt).1;omega,hn⟩
def QT (tg:Nat→Nat) (q:QS) (i j:Nat) (a:List Value) (ω:Tg) (w:World):Prop:=j=i+1∧∃ p r s,q[i]?=some p∧a=[.agg #[Sl.v r,Sl.v s]]∧OT ω w 71 93 2 r (labs p.1.1)∧OT ω w (tg i) 96 2 s (Chunk.smps p.1.2)
abbrev QQ (q:QS):=QT (fun _=>72) q
theorem all_tellsT (tg:Nat→Nat) {Fc:Clee} {n ga:Nat} {rs:Sl} {q:QS} {Ct:Nat→Bool} (hF:∀ args K w,C.block_Block_All_1.cl args K w→Fc n args K w) :
  TellsG Tryz.prog Fc (.func (.func n) #[] #[.pointer (some ⟨ga,0,none⟩)]) 0 (QT tg q) (fun i=>i=q.length) (fun _ w=>w.cell? ⟨ga,0,none⟩=some (.pointer (some ⟨g,0,none⟩))∧AR w g rs q) Non Ct:=by
 intro L I Kk Q ω w hC hI hKI hy hK hQ h0
 refine hF _ _ _ ?_
 show C.block_Block_All_1 (.func (.yield L) #[] #[]) (some ⟨ga,0,none⟩) w (C.block_Block_All_1.Kt fun _ w'=>Q w')
 unfold C.block_Block_All_1
 obtain ⟨hb,hc⟩:=hC 0 ω w h0
 refine ptr_at (cP_at hb (cond_f rfl (ptr_at (cP_at hb (ptr_at (cSl_at (s:=rs) (by rw [addr_add];exact hc.hd) ?_))))))
 have hrn:=hc.rd.n
 refine C.block_Block_All_1.L3_ind fun X hX=>?_
 have key:∀ (d i:Nat) (ω:Tg) (w:World),i+d=q.length→I i ω w→X (.func (.yield L) #[] #[]) rs ((rs.n:Nat):Int) (i:Int) w:=by
  intro d
  induction d with
  | zero =>
   intro i ω w hi h
   refine hX _ _ _ _ _ ?_
   unfold C.block_Block_All_1.S5
   exact cond_d (fun h=>by omega) (fun _=>hQ ω w (hK i ω w (by omega) h))
  | succ d ih =>
   intro i ω w hi h
   refine hX _ _ _ _ _ ?_
   unfold C.block_Block_All_1.S5
   have hiq:i<q.length:=by omega
   have hqi:q[i]?=some q[i]:=List.getElem?_eq_getElem hiq
   have hc:=(hC i ω w h).2
   refine cond_d (fun _=>?_) (fun h=>by omega)
   refine rdQ_at hc.rd.rd (k:=i) rfl hqi fun a a0 a1=>cSl_at a0<|cSl_at a1 ?_
   refine locS fun g4 w4 k4 hg4 b4=>?_
   refine cSl_at (s:=q[i].2.1) (by rw [b4.cell];rfl)<|cSl_at (s:=q[i].2.2) (by rw [addr_add,b4.cell];rfl) ?_
   have s4:=k4.1.stp0 ω
   refine own_ok 71 (tg i) ω ((hc.rd.el _ (List.getElem_mem hiq)).keep k4.1) (hc.l16 _ (List.getElem_mem hiq)) fun r s ω5 w5 k5 o5 p5=>?_
   have h5:=hI _ _ _ _ _ (hI _ _ _ _ _ h s4) k5
   refine hy i (i+1) _ ω5 w5 _ ⟨rfl,q[i],r,s,hqi,rfl,o5,p5⟩ h5 (fun ω' w' st h'=>?_) (fun ω' w' st h'=>?_)
   ·refine isB_at (cond_f rfl ?_)
    have hn:=(hC i ω w h).2.n
    rw [wI64 (by omega) (by omega),show (i:Int)+1=((i+1:Nat):Int) by omega]
    exact ih (i+1) ω' w' (by omega) h'
   ·exact isB_at (cond_t rfl (hQ _ _ h'))
 exact key q.length 0 ω w (by omega) h0
theorem all_tellsB {Fc:Clee} {n ga:Nat} {rs:Sl} {q:QS} {Ct:Nat→Bool} (hF:∀ args K w,C.block_Block_All_1.cl args K w→Fc n args K w) :
  TellsG Tryz.prog Fc (.func (.func n) #[] #[.pointer (some ⟨ga,0,none⟩)]) 0 (QQ q) (fun i=>i=q.length) (fun _ w=>w.cell? ⟨ga,0,none⟩=some (.pointer (some ⟨g,0,none⟩))∧AR w g rs q) Non Ct:=all_tellsT (fun _=>72) hF
theorem len_ok {rs:Sl} {q:QS} (h:AR w g rs q) {K:Int→World→Prop} (hK:K (q.length:Int) w):C.block_Block_Len (some ⟨g,0,none⟩) w K:=by
 unfold C.block_Block_Len
 refine cond_f rfl (ptr_at (cSl_at (s:=rs) (by rw [addr_add];exact h.hd) ?_))
 rw [h.rd.n];exact hK
theorem samples_ok {rs:Sl} {q:QS} (h:AR w g rs q) (hcnt:cntOf (q.map (·.1))≤1000000000000) {K:Int→World→Prop} (hK:∀ w',Keep w w'→K (cntOf (q.map (·.1)):Int) w'):C.block_Block_Samples (some ⟨g,0,none⟩) w K:=by
 unfold C.block_Block_Samples
 refine new_T (ω:=fun _=>0) 4 fun g2 ω2 w2 k2 b2=>st_T b2 (by simp) fun ω2 w2' k2' b2=>?_
 unfold C.block_Block_Samples.S9 C.block_Block_All
 refine new_T (ω:=ω2) 6 fun g3 ω3 w3 k3 b3=>?_
 unfold C.block_Block_Samples.R5
 have top3:=(((Top.init w).stp k2).stp k2').stp k3
 have cnt_take:∀ i,cntOf ((q.map (·.1)).take i)≤cntOf (q.map (·.1)):=fun i=>by
  have:q.map (·.1)=(q.map (·.1)).take i++(q.map (·.1)).drop i:=(List.take_append_drop _ _).symm
  have e:cntOf (q.map (·.1))=cntOf ((q.map (·.1)).take i)+cntOf ((q.map (·.1)).drop i):=by
   conv=>lhs;rw [this]
   unfold cntOf
   rw [List.map_append,List.sum_append]
  omega
 refine rangeGW_ok (T:=Mem.One 4) (u:=3) (J:=fun i ω w2=>Top w ω w2∧BT ω w2 6 g3 23 [.pointer (some ⟨g,0,none⟩)]∧BT ω w2 4 g2 3 [.int .i64 (cntOf ((q.map (·.1)).take i):Int)])
  (E:=fun e ω w=>False) (all_tellsB (ga:=g3) (g:=g) (rs:=rs) (q:=q) fun _ _ _ h=>h) rfl rfl ?_ ?_ ?_ ?_ ?_ ⟨top3,b3,b2.stp k3⟩ ?_ ?_
 ·rintro i j a ω ω' w w' ⟨e,p,r,s,hp,ea,o1,o2⟩ k
  exact ⟨e,p,r,s,hp,ea,o1.stp k rfl,o2.stp k rfl⟩
 ·rintro i ω w2 ⟨top,x3,_⟩
  exact ⟨by rw [x3.cell];rfl,h.keep top.k⟩
 ·rintro S hS i ω ω' w w' ⟨top,x1,x2⟩ k
  have z:S 0=false∧S 6=false∧S 4=false:=by rcases hS with rfl | rfl<;>exact ⟨rfl,rfl,rfl⟩
  exact ⟨top.stp k z.1,x1.stp k z.2.1,x2.stp k z.2.2⟩
 ·rintro S hS e ω ω' w w' h k
  exact h
 ·rintro i j args ω w4 bz Rr ⟨rfl,p,r,s,hp,rfl,o1,o2⟩ ⟨top,x1,x2⟩ hz
  unfold C.block_Block_Samples.B_R5 Sl.v
  dsimp only
  refine locS fun g5 w5 k5 hg5 b5=>?_
  have s5:=k5.1.stp ω 5
  refine hz _ (ext ω w4.heap.size 5) w5 s5 fun w6 s6 hR hX=>?_
  have b5t:BT (ext ω w4.heap.size 5) w5 5 g5 57 [r.v,s.v]:=⟨b5,ext_new hg5⟩
  generalize ext ω w4.heap.size 5=ω5 at *
  have b6:=b5t.stp s6
  have x26:=(x2.stp s5).stp s6
  unfold C.block_Block_Samples.S7
  have hil:=(List.getElem?_eq_some_iff.1 hp).1
  have hLi:(q.map (·.1))[i]?=some p.1:=by rw [List.getElem?_map,hp];rfl
  have et:(q.map (·.1)).take (i+1)=(q.map (·.1)).take i++[p.1]:=by rw [List.take_add_one,hLi];rfl
  have hsn:=smN o2.rd
  have h1:=cnt_take i
  have h2:=cnt_take (i+1)
  rw [et,cnt_snoc] at h2
  refine ptr_at<|cI_at (n:=(cntOf ((q.map (·.1)).take i):Int)) (by rw [x26.cell];rfl)<|ptr_at<|cSl_at (s:=s) (by rw [addr_add,b6.cell];rfl)<|ptr_at<|st_T x26 (by simp) fun ω7 w7 k7 b7=>?_
  refine hR ω7 w7 k7 ⟨((top.stp s5).stp s6).stp k7,((x1.stp s5).stp s6).stp k7,?_⟩
  have e:IntKind.i64.wrap ((cntOf ((q.map (·.1)).take i):Int)+((s.n:Nat):Int))=(cntOf ((q.map (·.1)).take (i+1)):Int):=by
   rw [wI64 (by omega) (by omega),et,cnt_snoc];omega
  rw [e] at b7
  exact b7
 ·rintro ω' w' D hD hDu ⟨i,rfl,top,x1,x2⟩
  show C.block_Block_Samples.S2 K _ (pushMark undef D) w'
  unfold C.block_Block_Samples.S2
  have sp:=put_stp (ω:=ω') (w:=w') (o:=.deferred none) hDu
  refine ptr_at (cI_at (n:=(cntOf (q.map (·.1)):Int)) (by rw [x2.cell,List.take_of_length_le (by rw [List.length_map];exact Nat.le_refl _)];rfl) (marks_at hD (hK _ ((top.stp sp).k))))
 ·rintro e ω' w' D _ _ h
  exact h.elim
theorem asked_ok {bs rs:Sl} {b:List UInt8} {q:QS} {F:Lb→List Nat} {es:List IE} {k:Int} (h:BK ω w t g gm bs rs b q F es k) {K:Int→World→Prop}
  (hK:∀ ω' w',Stp (Mem.One t) ω ω' w w'→BK ω' w' t g gm bs rs b q F es (IntKind.i64.wrap (k+1))→K (IntKind.i64.wrap (k+1)) w'):C.atomic_Int64_Add (some (Addr.add ⟨g,0,none⟩ 3)) (1:Int) w K:=by
 unfold C.atomic_Int64_Add C.atomic_AddInt64
 refine ptr_at<|ptr_at<|cI_at (n:=k) (by rw [addr_add,h.hd.cell];rfl)<|st_TA h.hd (by simp) fun ω1 w1 k1 b1=>hK ω1 w1 k1 ?_
 have hn:=h.n
 exact ⟨b1,h.by_.stp k1 (beq_no (by omega)),h.row.stp k1 (beq_no (by omega)),h.ix.stp k1 (beq_no (by omega)) (fun j hj=>beq_no (by omega)),fun p hp=>(h.el p hp).stp k1 (beq_no (by omega)),hn⟩
theorem postV_ok {bs rs:Sl} {b:List UInt8} {q:QS} {es:List IE} {k:Int} (h:BK ω w t g gm bs rs b q (post (q.map (·.1))) es k) (hq:q.length≤1000000) {name value:ByteArray} (hv:value.toList≠(⟨#[]⟩:ByteArray).toList) (hs:sml (name,value)) {K:Sl→World→Prop}
  (hK:∀ r ω' w',Stp (Mem.One t) ω ω' w w'→BK ω' w' t g gm bs rs b q (post (q.map (·.1))) es (IntKind.i64.wrap (k+1))→OT ω' w' 63 3 1 r (ints (post (q.map (·.1)) (name,value)))→K r w'):C.block_Block_Postings (some ⟨g,0,none⟩) name value w K:=by
 unfold C.block_Block_Postings
 refine cond_f rfl<|ptr_at<|asked_ok h fun ω1 w1 k1 b1=>?_
 refine cond_t (by simpa using hv)<|ptr_at<|cM_at (b:=some gm) (by rw [addr_add,b1.hd.cell];rfl) ?_
 have hpl:=post_len (q.map (·.1)) (name,value)
 rw [List.length_map] at hpl
 have fin:∀ l,Rd w1 l 1 (ints (post (q.map (·.1)) (name,value)))→C.slices_Clone_int_int l w1 fun l52 w53=>K l52 w53:=fun l hl =>
  cloneN_ok hl (by omega) fun r w2 k2 o2=>hK r (ext ω1 w1.heap.size 63) w2 (k1.trans ((k2.stp ω1 63).non _)) (b1.stp (k2.stp ω1 63) (off_non t)) (Own.tag o2 (Nat.le_refl _) ω1 63)
 by_cases hm:(name,value)∈es.map (·.1)
 ·obtain ⟨e,he,hex⟩:=List.mem_map.1 hm
  obtain ⟨j,hj,rfl⟩:=List.mem_iff_getElem.1 he
  have hje:es[j]?=some es[j]:=List.getElem?_eq_getElem hj
  have hjm:(es.map encI)[j]?=some ((name,value),es[j].2.1.v):=by rw [List.getElem?_map,hje];show some (encI es[j])=_;unfold encI;rw [hex]
  obtain ⟨g1,_⟩:=getL_at b1.ix.mp.nodup hjm
  have o:=b1.ix.own j _ hje
  have hl:=b1.ix.eq _ he
  rw [hex] at hl
  rw [hl] at o
  exact rd1_L (a:=es[j].2.1) b1.ix.mp mapX Tryz.zeroValue46 hs (by rw [g1];rfl) (fin _ o.rd)
 ·have h0:post (q.map (·.1)) (name,value)=[]:=Classical.byContradiction fun hne=>hm (b1.ix.all _ hne)
  have hnk:∀ y∈es.map encI,y.1≠(name,value):=fun y hy e=>hm (by
   have:=List.mem_map_of_mem (f:=(·.1)) hy
   rw [keysI,e] at this;exact this)
  obtain ⟨g1,_⟩:=getL_none hnk
  refine rd1_L (a:=nilS) b1.ix.mp mapX Tryz.zeroValue46 hs (by rw [g1];rfl) (fin _ ?_)
  rw [h0];exact Rd.nil _ _
end Go.Proofs.YtmfgmcajelmgbaaGreatDoor.Bk

namespace Go.Proofs.YtmfgmcajelmgbaaGreatDoor.Srt
open Go Vm Go.RowKit Num Mem Go.Sort Go.Proofs
variable {ω ω' : Tg} {w w' : World} {t : Nat} {e : TypeId} {s : Sl}
theorem sort_T {ss:List (List UInt8)} (h:OT ω w t e 1 s (ss.map encStr)) (hb:s.n<4611686018427387904) {K:World→Prop} (hK:∀ ω' w',Stp (One t) ω ω' w w'→OT ω' w' t e 1 s ((ss.mergeSort leS).map encStr)→K w'):sortS s w K:=by
 have hlen:=h.own.len
 rw [List.length_map] at hlen
 rcases h.cases with ⟨rfl,hx⟩ | ⟨g,cur,ha,hb',hn,hm,hl,ht⟩
 ·have hs:ss=[]:=by simpa using hx
  subst hs
  exact .inl ⟨rfl,hK ω w (Stp.refl _ _ _) (by simpa using h)⟩
 ·have hbk:s.v.ownBlock=some g:=by show (Value.slice s.a s.n s.c).ownBlock=_;rw [ha];rfl
  refine .inr ⟨g,0,ss,ha,by omega,holds_of_block hb'.blk (by rw [show ss.length=s.n*1 by omega];simpa using ht),hb'.blk.lt,hb,fun n os=>?_⟩
  have hg:=grownBy_sorted (w:=w) (g:=g) (n:=n) (os:=os) (ss.mergeSort leS).toArray
  have st:Stp (One t) ω (ext ω w.heap.size t) w (grow (putRow encStr (Sort.ahead w n) g 0 (ss.mergeSort leS).toArray) os):=Chg.stp (grown_chg hg) fun k hk=>by injection hk with hk;subst hk;exact hb'.tag
  refine hK _ _ st ⟨?_,fun k hk=>?_⟩
  ·have hs:s=⟨some ⟨g,0,none⟩,s.n,s.c⟩:=by rw [← ha]
   have:=ownsRow_sorted (w:=w) (base:=0) (n:=n) (os:=os) (e:=e) (cap:=s.c) (ss:=ss) (ts:=ss.mergeSort leS) (by simp) (Nat.zero_le _) hb'.blk (by omega) hm (by simp;omega)
   rw [show ss.length=s.n by omega] at this
   rw [hs];exact this
  ·rw [hbk] at hk
   injection hk with hk
   subst hk
   rw [ext_old hb'.blk.lt];exact hb'.tag
theorem encStr_ba (b:ByteArray):encStr b.data.toList=Value.string b:=by simp [encStr]
theorem le_of_less:∀ {a b:List UInt8},Op.bytesLess a b=true→a≤b
 | _,[],h=>by simp [Op.bytesLess] at h
 | [],_::_,_=>List.nil_le _
 | x::a,y::b,h=>by
  simp only [Op.bytesLess,Bool.or_eq_true,decide_eq_true_eq,Bool.and_eq_true,beq_iff_eq] at h
  rw [List.cons_le_cons_iff]
  rcases h with h | ⟨h1,h2⟩
  ·exact .inl h
  ·exact .inr ⟨h1,le_of_less h2⟩
end Go.Proofs.YtmfgmcajelmgbaaGreatDoor.Srt

namespace Go.Proofs.YtmfgmcajelmgbaaGreatDoor.Bk
open Go Vm Go.RowKit Num Mem Utf Lib Lab Vint Bits
theorem less_self:∀ l:List UInt8,Op.bytesLess l l=false
 | []=>rfl
 | a::l=>by simp [Op.bytesLess,less_self l]
theorem less_trans:∀ {a b c:List UInt8},Op.bytesLess a b=true→Op.bytesLess b c=true→Op.bytesLess a c=true
 | _,[],_,h,_=>by simp [Op.bytesLess] at h
 | _,_::_,[],_,h=>by simp [Op.bytesLess] at h
 | [],_::_,_::_,_,_=>rfl
 | x::a,y::b,z::c,h1,h2=>by
  simp only [Op.bytesLess,Bool.or_eq_true,decide_eq_true_eq,Bool.and_eq_true,beq_iff_eq] at *
  rcases h1 with h1 | ⟨rfl,h1⟩
  ·rcases h2 with h2 | ⟨rfl,h2⟩
   ·exact .inl (UInt8.lt_trans h1 h2)
   ·exact .inl h1
  ·rcases h2 with h2 | ⟨rfl,h2⟩
   ·exact .inl h2
   ·exact .inr ⟨rfl,less_trans h1 h2⟩
theorem less_tri:∀ {a b:List UInt8},Op.bytesLess a b=false→a≠b→Op.bytesLess b a=true
 | [],[],_,h=>absurd rfl h
 | [],_::_,h,_=>by simp [Op.bytesLess] at h
 | _::_,[],_,_=>rfl
 | x::a,y::b,h,hne=>by
  simp only [Op.bytesLess,Bool.or_eq_false_iff,decide_eq_false_iff_not,Bool.and_eq_false_iff,Bool.or_eq_true,decide_eq_true_eq,Bool.and_eq_true,beq_iff_eq] at *
  rcases Decidable.em (x=y) with e | e
  ·subst e
   rcases h.2 with h2 | h2
   ·simp at h2
   ·exact .inr ⟨rfl,less_tri h2 (fun e=>hne (by rw [e]))⟩
  ·rcases UInt8.lt_or_lt_of_ne e with h3 | h3
   ·exact absurd h3 h.1
   ·exact .inl h3
theorem ba_inj {a b:ByteArray} (h:a.toList=b.toList):a=b:=by
 rw [ByteArray.toList_eq,ByteArray.toList_eq] at h
 cases a;cases b
 simpa using h
def Lt (a b:ByteArray):Prop:=Op.bytesLess a.toList b.toList=true
instance (a b:ByteArray):Decidable (Lt a b):=inferInstanceAs (Decidable (_=_))
theorem lt_irr (a:ByteArray):¬ Lt a a:=by unfold Lt;rw [less_self];decide
theorem lt_tr {a b c:ByteArray} (h:Lt a b) (h':Lt b c):Lt a c:=less_trans h h'
theorem lt_tri {a b:ByteArray} (h:¬ Lt a b) (ne:a≠b):Lt b a:=less_tri (by unfold Lt at h;simpa using h) fun e=>ne (ba_inj e)
abbrev Ups (l:List ByteArray):Prop:=l.Pairwise Lt
abbrev Upw (l:List ByteArray):Prop:=l.Pairwise fun a b=>¬ Lt b a
theorem ups_uniq:∀ {a b:List ByteArray},Ups a→Ups b→(∀ x,x∈a↔x∈b)→a=b
 | [],[],_,_,_=>rfl
 | [],y::b,_,_,h=>absurd ((h y).2 (List.mem_cons_self ..)) (by simp)
 | x::a,[],_,_,h=>absurd ((h x).1 (List.mem_cons_self ..)) (by simp)
 | x::a,y::b,ha,hb,h=>by
  rw [Ups,List.pairwise_cons] at ha hb
  have e:x=y:=by
   rcases List.mem_cons.1 ((h x).1 (List.mem_cons_self ..)) with e | h1
   ·exact e
   ·rcases List.mem_cons.1 ((h y).2 (List.mem_cons_self ..)) with e | h2
    ·exact e.symm
    ·exact absurd (lt_tr (ha.1 y h2) (hb.1 x h1)) (lt_irr x)
  subst e
  rw [ups_uniq ha.2 hb.2 fun z=>⟨fun hz=>?_,fun hz=>?_⟩]
  ·rcases List.mem_cons.1 ((h z).1 (List.mem_cons_of_mem _ hz)) with rfl | h1
   ·exact absurd (ha.1 z hz) (lt_irr z)
   ·exact h1
  ·rcases List.mem_cons.1 ((h z).2 (List.mem_cons_of_mem _ hz)) with rfl | h1
   ·exact absurd (hb.1 z hz) (lt_irr z)
   ·exact h1
def insW (x:ByteArray):List ByteArray→List ByteArray
 | []=>[x]
 | y::r=>if Lt y x then y::insW x r else x::y::r
def srtW:List ByteArray→List ByteArray
 | []=>[]
 | x::r=>insW x (srtW r)
theorem insW_perm (x:ByteArray):∀ l,(insW x l).Perm (x::l)
 | []=>List.Perm.refl _
 | y::r=>by
  unfold insW
  split
  ·exact ((insW_perm x r).cons y).trans (List.Perm.swap x y r)
  ·exact List.Perm.refl _
theorem srtW_perm:∀ l,(srtW l).Perm l
 | []=>List.Perm.refl _
 | x::r=>(insW_perm x (srtW r)).trans ((srtW_perm r).cons x)
theorem insW_up {x:ByteArray}:∀ {l:List ByteArray},Upw l→Upw (insW x l)
 | [],_=>List.pairwise_singleton _ _
 | y::r,h=>by
  have h':=List.pairwise_cons.1 h
  unfold insW
  split
  ·rename_i hy
   refine List.pairwise_cons.2 ⟨fun z hz hzy=>?_,insW_up h'.2⟩
   rcases List.mem_cons.1 ((insW_perm x r).mem_iff.1 hz) with rfl | hz
   ·exact lt_irr _ (lt_tr hy hzy)
   ·exact h'.1 z hz hzy
  ·rename_i hy
   refine List.pairwise_cons.2 ⟨fun z hz hzx=>?_,h⟩
   rcases List.mem_cons.1 hz with rfl | hz2
   ·exact hy hzx
   ·by_cases e:x=y
    ·rw [e] at hzx;exact h'.1 z hz2 hzx
    ·exact h'.1 z hz2 (lt_tr hzx (lt_tri hy (fun e'=>e e'.symm)))
theorem srtW_up:∀ l,Upw (srtW l)
 | []=>List.Pairwise.nil
 | x::r=>insW_up (srtW_up r)
theorem list_irr (l:List UInt8):l≤l:=by
 show ¬ l<l
 exact fun h=>by
  induction l with
  | nil=>cases h
  | cons a l ih =>
   rcases List.cons_lt_cons_iff.1 h with h | ⟨_,h⟩
   ·exact UInt8.lt_irrefl _ h
   ·exact ih h
theorem msort_W (l:List ByteArray):(l.map fun b=>b.data.toList).mergeSort Srt.leS=(srtW l).map fun b=>b.data.toList:=by
 have h1:(l.map fun b=>b.data.toList).mergeSort Srt.leS=((srtW l).map fun b=>b.data.toList).mergeSort Srt.leS:=Go.mergeSort_of_perm ((srtW_perm l).symm.map _)
 rw [h1]
 refine List.mergeSort_of_pairwise ?_
 rw [List.pairwise_map]
 refine (srtW_up l).imp fun {a b} h=>?_
 unfold Srt.leS
 refine decide_eq_true ?_
 unfold Lt at h
 rw [ByteArray.toList_eq,ByteArray.toList_eq] at h
 by_cases e:b.data.toList=a.data.toList
 ·rw [e];exact list_irr _
 ·exact Srt.le_of_less (less_tri (by simpa using h) e)
def ddGo:ByteArray→List ByteArray→List ByteArray
 | _,[]=>[]
 | p,a::r=>if a=p then ddGo p r else a::ddGo a r
def dd:List ByteArray→List ByteArray
 | []=>[]
 | a::r=>a::ddGo a r
theorem ddGo_spec:∀ (l:List ByteArray) (p:ByteArray),(∀ x∈l,¬ Lt x p)→Upw l→(∀ x∈ddGo p l,Lt p x)∧Ups (ddGo p l)∧∀ x,x∈ddGo p l↔x∈l∧x≠p
 | [],p,_,_=>⟨by simp [ddGo],List.Pairwise.nil,by simp [ddGo]⟩
 | a::r,p,h,u=>by
  have u':=List.pairwise_cons.1 u
  unfold ddGo
  split
  ·rename_i e
   subst e
   obtain ⟨h1,h2,h3⟩:=ddGo_spec r a (fun x hx=>u'.1 x hx) u'.2
   refine ⟨h1,h2,fun x=>⟨fun hx=>⟨List.mem_cons_of_mem _ ((h3 x).1 hx).1,((h3 x).1 hx).2⟩,fun ⟨hx,ne⟩=>(h3 x).2 ⟨?_,ne⟩⟩⟩
   rcases List.mem_cons.1 hx with e | hx
   ·exact absurd e ne
   ·exact hx
  ·rename_i e
   obtain ⟨h1,h2,h3⟩:=ddGo_spec r a (fun x hx=>u'.1 x hx) u'.2
   have hp:Lt p a:=lt_tri (h a (List.mem_cons_self ..)) e
   refine ⟨fun x hx=>?_,List.pairwise_cons.2 ⟨h1,h2⟩,fun x=>⟨fun hx=>?_,fun ⟨hx,ne⟩=>?_⟩⟩
   ·rcases List.mem_cons.1 hx with rfl | hx
    ·exact hp
    ·exact lt_tr hp (h1 x hx)
   ·rcases List.mem_cons.1 hx with rfl | hx
    ·exact ⟨List.mem_cons_self ..,e⟩
    ·exact ⟨List.mem_cons_of_mem _ ((h3 x).1 hx).1,fun e'=>by subst e';exact lt_irr _ (lt_tr hp (h1 x hx))⟩
   ·rcases List.mem_cons.1 hx with rfl | hx
    ·exact List.mem_cons_self ..
    ·by_cases ea:x=a
     ·subst ea;exact List.mem_cons_self ..
     ·exact List.mem_cons_of_mem _ ((h3 x).2 ⟨hx,ea⟩)
theorem dd_spec {l:List ByteArray} (u:Upw l):Ups (dd l)∧∀ x,x∈dd l↔x∈l:=by
 cases l with
 | nil=>exact ⟨List.Pairwise.nil,fun x=>Iff.rfl⟩
 | cons a r =>
  have u':=List.pairwise_cons.1 u
  obtain ⟨h1,h2,h3⟩:=ddGo_spec r a (fun x hx=>u'.1 x hx) u'.2
  refine ⟨List.pairwise_cons.2 ⟨h1,h2⟩,fun x=>⟨fun hx=>?_,fun hx=>?_⟩⟩
  ·rcases List.mem_cons.1 hx with rfl | hx
   ·exact List.mem_cons_self ..
   ·exact List.mem_cons_of_mem _ ((h3 x).1 hx).1
  ·by_cases e:x=a
   ·subst e;exact List.mem_cons_self ..
   ·rcases List.mem_cons.1 hx with e' | hx
    ·exact absurd e' e
    ·exact List.mem_cons_of_mem _ ((h3 x).2 ⟨hx,e⟩)
def uniq (l:List ByteArray):List ByteArray:=dd (srtW l)
theorem uniq_ups (l:List ByteArray):Ups (uniq l):=(dd_spec (srtW_up l)).1
theorem mem_uniq {l:List ByteArray} {x:ByteArray}:x∈uniq l↔x∈l:=((dd_spec (srtW_up l)).2 x).trans (srtW_perm l).mem_iff
def memT (x:ByteArray) (l:List ByteArray):Bool:=l.any fun y=>decide (y=x)
theorem memT_iff {x:ByteArray} {l:List ByteArray}:memT x l=true↔x∈l:=by unfold memT;rw [List.any_eq_true];simp
def insB (x:ByteArray) (l:List ByteArray):List ByteArray:=if memT x l=true then l else insW x l
theorem insW_ups {x:ByteArray}:∀ {l:List ByteArray},Ups l→x ∉ l→Ups (insW x l)
 | [],_,_=>List.pairwise_singleton _ _
 | y::r,h,hx=>by
  have h':=List.pairwise_cons.1 h
  unfold insW
  split
  ·rename_i hy
   refine List.pairwise_cons.2 ⟨fun z hz=>?_,insW_ups h'.2 fun hm=>hx (List.mem_cons_of_mem _ hm)⟩
   rcases List.mem_cons.1 ((insW_perm x r).mem_iff.1 hz) with rfl | hz
   ·exact hy
   ·exact h'.1 z hz
  ·rename_i hy
   have hxy:Lt x y:=lt_tri hy fun e=>hx (by rw [e];exact List.mem_cons_self ..)
   refine List.pairwise_cons.2 ⟨fun z hz=>?_,h⟩
   rcases List.mem_cons.1 hz with rfl | hz
   ·exact hxy
   ·exact lt_tr hxy (h'.1 z hz)
theorem insB_ups {x:ByteArray} {l:List ByteArray} (h:Ups l):Ups (insB x l):=by
 unfold insB;split
 ·exact h
 ·rename_i hx;exact insW_ups h fun hm=>hx (memT_iff.2 hm)
theorem mem_insB {x y:ByteArray} {l:List ByteArray}:y∈insB x l↔y=x∨y∈l:=by
 unfold insB;split
 ·rename_i hx;exact ⟨.inr,fun h=>by rcases h with rfl | h;exact memT_iff.1 hx;exact h⟩
 ·rw [(insW_perm x l).mem_iff,List.mem_cons]
def setT (l:List ByteArray):List ByteArray:=l.foldl (fun a x=>insB x a) []
theorem setT_spec (l:List ByteArray):Ups (setT l)∧∀ x,x∈setT l↔x∈l:=by
 have key:∀ (l a:List ByteArray),Ups a→Ups (l.foldl (fun a x=>insB x a) a)∧∀ x,x∈l.foldl (fun a x=>insB x a) a↔x∈a∨x∈l:=by
  intro l
  induction l with
  | nil=>intro a h;exact ⟨h,fun x=>by simp⟩
  | cons y r ih =>
   intro a h
   obtain ⟨h1,h2⟩:=ih (insB y a) (insB_ups h)
   refine ⟨h1,fun x=>?_⟩
   rw [List.foldl_cons,h2 x,mem_insB,List.mem_cons]
   constructor
   ·rintro ((h | h) | h)
    ·exact .inr (.inl h)
    ·exact .inl h
    ·exact .inr (.inr h)
   ·rintro (h | h | h)
    ·exact .inl (.inr h)
    ·exact .inl (.inl h)
    ·exact .inr h
 obtain ⟨h1,h2⟩:=key l [] List.Pairwise.nil
 exact ⟨h1,fun x=>by rw [setT,h2 x];simp⟩
theorem uniq_set {a b:List ByteArray} (h:∀ x,x∈a↔x∈b):uniq a=setT b :=
 ups_uniq (uniq_ups a) (setT_spec b).1 fun x=>by rw [mem_uniq,(setT_spec b).2 x];exact h x
def getF (n:ByteArray):List Lb→ByteArray
 | []=>⟨#[]⟩
 | p::r=>if p.1=n then p.2 else getF n r
theorem get_mem {n v:ByteArray} (hv:v≠(⟨#[]⟩:ByteArray)):∀ {l:List Lb},(l.map (·.1)).Nodup→((n,v)∈l↔getF n l=v)
 | [],_=>⟨fun h=>(by cases h),fun h=>absurd h.symm hv⟩
 | p::r,h=>by
  rw [List.map_cons,List.nodup_cons] at h
  unfold getF
  by_cases e:p.1=n
  ·rw [if_pos e]
   constructor
   ·intro hm
    rcases List.mem_cons.1 hm with e' | hm
    ·rw [← e']
    ·exact absurd (by rw [e];exact List.mem_map_of_mem (f:=(·.1)) hm) h.1
   ·intro e'
    rw [← e,← e'];exact List.mem_cons_self ..
  ·rw [if_neg e,← get_mem hv h.2]
   constructor
   ·intro hm
    rcases List.mem_cons.1 hm with e' | hm
    ·exact absurd (by rw [← e']) e
    ·exact hm
   ·exact List.mem_cons_of_mem _
theorem has_get {n v:ByteArray} (hv:v≠(⟨#[]⟩:ByteArray)) {l:List Lb} (h:(rt l).1=0):hasL l (n,v)=decide (getF n l=v):=by
 have:=get_mem hv (n:=n) (rt_names h)
 rw [← hasL_iff] at this
 by_cases e:getF n l=v
 ·rw [decide_eq_true e];exact this.2 e
 ·rw [decide_eq_false e]
  cases hh:hasL l (n,v) with
  | true=>exact absurd (this.1 hh) e
  | false=>rfl
def postF (n v:ByteArray):List Ser→Nat→List Nat
 | [],_=>[]
 | s::r,i=>(if getF n s.1=v then [i] else [])++postF n v r (i+1)
theorem postF_snoc (n v:ByteArray) (s:Ser):∀ (l:List Ser) (i:Nat),postF n v (l++[s]) i=postF n v l i++(if getF n s.1=v then [i+l.length] else [])
 | [],i=>by simp [postF]
 | y::l,i=>by
  rw [List.cons_append,postF,postF,postF_snoc n v s l (i+1),List.append_assoc,List.length_cons,show i+1+l.length=i+(l.length+1) by omega]
theorem post_F {n v:ByteArray} (hv:v≠(⟨#[]⟩:ByteArray)):∀ (l:List Ser) (i:Nat),(∀ x∈l,(rt x.1).1=0)→postGo (n,v) l i=postF n v l i
 | [],_,_=>rfl
 | s::r,i,h=>by
  rw [postGo,postF,post_F hv r (i+1) fun x hx=>h x (List.mem_cons_of_mem _ hx),has_get hv (h s (List.mem_cons_self ..))]
  by_cases e:getF n s.1=v
  ·rw [if_pos e,if_pos (decide_eq_true e)];try rfl
  ·rw [if_neg e,if_neg (by rw [decide_eq_false e];decide)];try rfl
theorem postF_len (n v:ByteArray):∀ (l:List Ser) (i:Nat),(postF n v l i).length≤l.length
 | [],_=>Nat.le_refl _
 | s::r,i=>by
  rw [postF,List.length_append,List.length_cons]
  have:=postF_len n v r (i+1)
  split<;>simp<;>omega
end Go.Proofs.YtmfgmcajelmgbaaGreatDoor.Bk

namespace Go.Proofs.YtmfgmcajelmgbaaGreatDoor.Bk
open Go Vm Go.RowKit Num Mem Utf Lib Lab Vint Bits Rep
variable {ω ω' : Tg} {w w' w0 : World} {T : Nat → Bool} {t u g gm : Nat}
theorem tiSt:TI Tryz.prog 42 9 1 16:=TI.of (z:=.string ⟨#[]⟩) (by kernel_rfl) (by kernel_rfl) rfl (by decide)
def strs (l:List ByteArray):List Value:=l.map Value.string
theorem strs_app (a b:List ByteArray):strs (a++b)=strs a++strs b:=List.map_append
theorem strs_len (a:List ByteArray):(strs a).length=a.length:=List.length_map _
theorem strs_at (l:List ByteArray) (i:Nat) (h:i<l.length):(strs l)[i]?=some (.string l[i]):=by unfold strs;rw [List.getElem?_map,List.getElem?_eq_getElem h];rfl
theorem strs_enc (l:List ByteArray):strs l=(l.map fun b=>b.data.toList).map Go.Proofs.encStr:=by
 unfold strs
 rw [List.map_map]
 exact List.map_congr_left fun b _=>(Srt.encStr_ba b).symm
theorem ddGo_snoc:∀ (l:List ByteArray) (p x:ByteArray),ddGo p (l++[x])=if x=(l.getLast?).getD p then ddGo p l else ddGo p l++[x]
 | [],p,x=>by
  show (if x=p then ddGo p [] else x::ddGo x [])=_
  split
  ·rename_i h;rw [if_pos (by simpa using h)]
  ·rename_i h;rw [if_neg (by simpa using h)];rfl
 | a::l,p,x=>by
  have e:∀ q:ByteArray,((a::l).getLast?).getD q=(l.getLast?).getD a:=fun q=>by
   cases l with
   | nil=>rfl
   | cons b r=>rw [List.getLast?_cons_cons,List.getLast?_eq_some_getLast (by simp)];rfl
  rw [List.cons_append,ddGo,ddGo,e]
  by_cases h:a=p
  ·subst h
   rw [if_pos rfl,if_pos rfl,ddGo_snoc l a x]
  ·rw [if_neg h,if_neg h,ddGo_snoc l a x]
   split
   ·rfl
   ·rfl
theorem dd_snoc {l:List ByteArray} {k:Nat} (hk:k+1<l.length):dd (l.take (k+2))=if l[k+1]=l[k] then dd (l.take (k+1)) else dd (l.take (k+1))++[l[k+1]]:=by
 have et:l.take (k+2)=l.take (k+1)++[l[k+1]]:=List.take_succ_eq_append_getElem hk
 have el:∀ q:ByteArray,((l.take (k+1)).getLast?).getD q=l[k]:=fun q=>by
  rw [List.getLast?_eq_getElem?,List.length_take,Nat.min_eq_left (by omega),List.getElem?_take,if_pos (by omega),show k+1-1=k by omega,List.getElem?_eq_getElem (by omega)];rfl
 cases hl:l.take (k+1) with
 | nil=>have:=congrArg List.length hl;rw [List.length_take,Nat.min_eq_left (by omega)] at this;simp at this
 | cons a r =>
  rw [et,hl]
  show a::ddGo a (r++[l[k+1]])=if l[k+1]=l[k] then a::ddGo a r else a::ddGo a r++[l[k+1]]
  have e2:(r.getLast?).getD a=l[k]:=by
   have:=el a
   rw [hl] at this
   cases r with
   | nil=>simpa using this
   | cons b r=>simpa [List.getLast?_cons_cons] using this
  rw [ddGo_snoc,e2]
  split<;>rfl
theorem sub_at {e:TypeId} {s:Sl} {xs:List Value} (h:OT ω w t e 1 s xs) {k i:Nat} (hi:k+i<s.n) {v:Value} (hv:xs[k+i]?=some v) {K:Addr→Prop} (hK:∀ a,w.cell? a=some v→K a) :
  G.ix (if s.c=((k:Nat):Int).toNat then s.a else s.a.map (·.add (((k:Nat):Int).toNat*1))) (((s.n:Nat):Int).toNat-((k:Nat):Int).toNat) (i:Int) 1 K:=by
 rcases h.cases with ⟨rfl,rfl⟩ | ⟨g,cur,ha,hb,hn,hm,hl,ht⟩
 ·exact absurd hi (by simp)
 ·rw [Int.toNat_natCast,Int.toNat_natCast,if_neg (by omega),ha]
  simp only [Option.map_some]
  refine ⟨⟨by omega,by omega⟩,hK _ ?_⟩
  rw [addr_add,addr_add,Int.toNat_natCast,Nat.zero_add,Nat.mul_one,Nat.mul_one,hb.cell]
  rw [← ht,List.getElem?_take] at hv
  split at hv
  ·exact hv
  ·cases hv
theorem set_cells_T {e:TypeId}:∀ (vs:List Value) (o:Nat) (ω:Tg) (w:World) (cs:List Value),BT ω w t g e cs→o+vs.length≤cs.length→∃ ω' cs',Stp (Mem.One t) ω ω' w (w.setCells g o vs)∧BT ω' (w.setCells g o vs) t g e cs'∧cs'.length=cs.length∧cs'.take o=cs.take o
 | [],o,ω,w,cs,b,_=>⟨ω,cs,Stp.refl _ _ _,b,rfl,rfl⟩
 | v::vs,o,ω,w,cs,b,h=>by
  rw [List.length_cons] at h
  have s1:Stp (Mem.One t) ω (ext ω w.heap.size t) w (w.setCell ⟨g,o,none⟩ v):=Chg.stp (setCell_chg w g o v) fun k hk=>by rw [hk];exact b.tag
  have b1:BT (ext ω w.heap.size t) (w.setCell ⟨g,o,none⟩ v) t g e (cs.set o v):=⟨b.blk.set o v,by rw [ext_old b.blk.lt];exact b.tag⟩
  obtain ⟨ω',cs',k,b',l',e'⟩:=set_cells_T vs (o+1) _ _ _ b1 (by rw [List.length_set];omega)
  refine ⟨ω',cs',s1.trans k,b',by rw [l',List.length_set],?_⟩
  have:=congrArg (List.take o) e'
  rw [List.take_take,List.take_take,Nat.min_eq_left (by omega),List.take_set] at this
  rw [this,List.set_eq_of_length_le (by rw [List.length_take];omega)]
theorem clr_T {s:Sl} {A:List ByteArray} {k:Nat} (h:OT ω w t 9 1 s (strs A)) (hk:k<s.n) {Z:World→Prop} (hZ:∀ ω' w',Stp (Mem.One t) ω ω' w w'→OT ω' w' t 9 1 ⟨s.a,k,s.c⟩ (strs (A.take k))→Z w') :
  G.run Tryz.prog (Builtin.clear_ #[42] 0 #[(Sl.v ⟨if s.c=((k:Nat):Int).toNat then s.a else s.a.map (·.add (((k:Nat):Int).toNat*1)),((s.n:Nat):Int).toNat-((k:Nat):Int).toNat,s.c-((k:Nat):Int).toNat⟩)]) w fun _ w'=>Z w':=by
 rcases h.cases with ⟨rfl,hx⟩ | ⟨g,cur,ha,hb,hn,hm,hl,ht⟩
 ·exact absurd hk (by simp)
 ·have hl':cur.length=s.c:=by omega
  have ev:Sl.v ⟨if s.c=((k:Nat):Int).toNat then s.a else s.a.map (·.add (((k:Nat):Int).toNat*1)),((s.n:Nat):Int).toNat-((k:Nat):Int).toNat,s.c-((k:Nat):Int).toNat⟩=.slice (some ⟨g,k,none⟩) (s.n-k) (s.c-k):=by
   rw [Int.toNat_natCast,Int.toNat_natCast,if_neg (by omega),ha]
   simp [Sl.v,addr_add]
  rw [ev]
  have hz:Value.cells (.string ⟨#[]⟩)=#[.string ⟨#[]⟩]:=rfl
  have hr:=Lib.run_clear_slice (P:=Tryz.prog) w 42 9 0 (.string ⟨#[]⟩) (by kernel_rfl) (fun w=>Tryz.zeroValue9 w) hz rfl g k (s.n-k) (s.c-k) (by omega) (fun j hj=>by rw [hb.cell,List.getElem?_eq_getElem (by omega)];rfl) (fun j hj=>hb.blk.frozen _)
  refine ⟨_,_,hr,?_⟩
  ·obtain ⟨ω',cs',k1,b',l',e'⟩:=set_cells_T (g:=g) (t:=t) (List.replicate (s.n-k) (.string ⟨#[]⟩)) k ω w cur hb (by rw [List.length_replicate];omega)
   have e2:cs'.take (k*1)=strs (A.take k):=by
    have:=congrArg (List.take k) ht
    rw [List.take_take,Nat.mul_one,Nat.min_eq_left (by omega)] at this
    rw [Nat.mul_one,e',this];unfold strs;rw [List.map_take]
   refine hZ ω' _ k1 ⟨?_,fun k' hk'=>?_⟩
   ·rw [ha];exact Own.mk' (Nat.zero_le _) b'.blk (by omega) hm (by rw [l'];exact hl) e2
   ·rw [ha] at hk'
    have hg:g=k':=Option.some.inj hk'
    rw [← hg];exact b'.tag
theorem ba_ne {a b:ByteArray}:(a.toList==b.toList)=decide (a=b):=by
 rw [ByteArray.toList_eq,ByteArray.toList_eq]
 by_cases h:a=b
 ·rw [decide_eq_true h,h];simp
 ·rw [decide_eq_false h]
  simp only [beq_eq_false_iff_ne,ne_eq]
  intro e
  apply h
  cases a;cases b
  simp at e
  rw [e]
theorem compact_ok {s:Sl} {ts:List ByteArray} (h:OT ω w t 9 1 s (strs ts)) (hl:ts.length≤100000000) {K:Sl→World→Prop} (hK:∀ r ω' w',Stp (Mem.One t) ω ω' w w'→OT ω' w' t 9 1 r (strs (dd ts))→K r w'):C.slices_Compact_string_string s w K:=by
 have hsn:s.n=ts.length:=by have:=h.own.len;rw [strs_len] at this;omega
 unfold C.slices_Compact_string_string
 refine cond_d (fun h2=>?_) (fun h2=>?_)
 ·have e:dd ts=ts:=by
   match ts,hsn with
   | [],_=>rfl
   | [a],_=>rfl
   | a::b::r,hsn=>simp only [List.length_cons] at hsn;omega
  exact hK s ω w (Stp.refl _ _ _) (by rw [e];exact h)
 unfold C.slices_Compact_string_string.S27
 refine C.slices_Compact_string_string.L5_ind fun X hX=>?_
 -- from the first that stands twice on
 have rest:∀ (k0:Nat) (ω1:Tg) (w1:World),Stp (Mem.One t) ω ω1 w w1→OT ω1 w1 t 9 1 s (strs ts)→0<k0→k0<ts.length→dd (ts.take k0)=ts.take k0→ts[k0]?=ts[k0-1]?→C.slices_Compact_string_string.S19 K X s (k0:Int) true w1:=by
  intro k0 ω1 w1 k1 o1 h0 hk0 hd he
  unfold C.slices_Compact_string_string.S19 C.slices_Compact_string_string.S17
  have hsc:s.n≤s.c:=o1.rd.1
  refine ⟨⟨by omega,by omega,by omega⟩,?_⟩
  refine C.slices_Compact_string_string.L13_ind fun Y hY=>?_
  have key:∀ (d k k2:Nat) (A:List ByteArray) (ω2:Tg) (w2:World),k0+k2+d=ts.length→0<k2→k≤k0+k2-1→Stp (Mem.One t) ω ω2 w w2→OT ω2 w2 t 9 1 s (strs A)→A.length=ts.length→A.take k=dd (ts.take (k0+k2))→(∀ j,k0+k2-1≤j→A[j]?=ts[j]?) →
    Y s (k:Int) ⟨if s.c=((k0:Nat):Int).toNat then s.a else s.a.map (·.add (((k0:Nat):Int).toNat*1)),((s.n:Nat):Int).toNat-((k0:Nat):Int).toNat,s.c-((k0:Nat):Int).toNat⟩ (k2:Int) w2:=by
   intro d
   induction d with
   | zero =>
    intro k k2 A ω2 w2 hd2 h2 hk k12 o2 hA ht hj
    refine hY _ _ _ _ _ ?_
    unfold C.slices_Compact_string_string.S15 C.slices_Compact_string_string.S10
    refine cond_d (fun h=>by simp only [Int.toNat_natCast] at h;omega) (fun _=>?_)
    refine ⟨⟨by omega,by omega,by omega⟩,?_⟩
    refine clr_T o2 (k:=k) (by omega) fun ω3 w3 k3 r3=>?_
    refine ⟨⟨by omega,by omega,by omega⟩,?_⟩
    have e:(if s.c=(0:Int).toNat then s.a else s.a.map (·.add ((0:Int).toNat*1)))=s.a:=by
     split
     ·rfl
     ·cases s.a with
      | none=>rfl
      | some a=>simp [Addr.add]
    rw [e]
    rw [ht,List.take_of_length_le (by omega)] at r3
    refine hK _ ω3 w3 (k12.trans k3) ?_
    have:s.c-(0:Int).toNat=s.c:=by simp
    rw [this]
    have e2:((k:Nat):Int).toNat-(0:Int).toNat=k:=by simp
    rw [e2]
    exact r3
   | succ d ih =>
    intro k k2 A ω2 w2 hd2 h2 hk k12 o2 hA ht hj
    refine hY _ _ _ _ _ ?_
    unfold C.slices_Compact_string_string.S15
    have hlt:k0+k2<ts.length:=by omega
    have sd:=drew_stp ω2 w2
    have od:=o2.stp sd
    have a1:(strs A)[k0+k2]?=some (.string ts[k0+k2]):=by unfold strs;rw [List.getElem?_map,hj _ (by omega),List.getElem?_eq_getElem hlt];rfl
    have a2:(strs A)[k0+(k2-1)]?=some (.string ts[k0+k2-1]):=by unfold strs;rw [List.getElem?_map,hj _ (by omega),show k0+(k2-1)=k0+k2-1 by omega,List.getElem?_eq_getElem (by omega)];rfl
    have eds:=dd_snoc (l:=ts) (k:=k0+k2-1) (by omega)
    simp only [show k0+k2-1+2=k0+k2+1 by omega,show k0+k2-1+1=k0+k2 by omega] at eds
    refine cond_d (fun _=>?_) (fun h=>by simp only [Int.toNat_natCast] at h;omega)
    refine sub_at od (by omega) a1 fun p hp=>cS_at hp ?_
    rw [show IntKind.i64.wrap ((k2:Int)-1)=((k2-1:Nat):Int) by rw [wI64 (by omega) (by omega)];omega]
    refine sub_at od (by omega) a2 fun p hp=>cS_at hp ?_
    rw [ba_ne]
    refine cond_not (fun hne=>?_) (fun heq=>?_)
    ·have hne:=of_decide_eq_false hne
     rw [if_neg hne] at eds
     refine sub_at od (by omega) a1 fun p hp=>cS_at hp ?_
     refine OT.at_ od (i:=(k:Int)) (k:=k) rfl (by omega) fun a ha _ _ _=>?_
     have e0:a=a.add 0:=by simp [Addr.add]
     rw [e0]
     refine OT.st od (i:=k) (j:=0) (by omega) (by decide) _ ha fun ω3 w3 k3 o3=>?_
     rw [wI64 (by omega) (by omega),wI64 (by omega) (by omega),show (k:Int)+1=((k+1:Nat):Int) by omega,show (k2:Int)+1=((k2+1:Nat):Int) by omega]
     have es:(strs A).set (k*1+0) (.string ts[k0+k2])=strs (A.set k ts[k0+k2]):=by unfold strs;rw [Nat.mul_one,Nat.add_zero,List.map_set]
     rw [es] at o3
     refine ih (k+1) (k2+1) (A.set k ts[k0+k2]) ω3 w3 (by omega) (by omega) (by omega) ((k12.trans (sd.non _)).trans k3) o3 (by rw [List.length_set];exact hA) ?_ fun j hj2=>?_
     ·rw [show k0+(k2+1)=k0+k2+1 by omega,eds,← ht,List.take_succ_eq_append_getElem (by rw [List.length_set];omega),List.getElem_set_self,List.take_set,List.set_eq_of_length_le (by rw [List.length_take];omega)]
     ·rw [List.getElem?_set_ne (by omega)];exact hj j (by omega)
    ·have heq:=of_decide_eq_true heq
     rw [if_pos heq] at eds
     rw [wI64 (by omega) (by omega),show (k2:Int)+1=((k2+1:Nat):Int) by omega]
     exact ih k (k2+1) A ω2 _ (by omega) (by omega) (by omega) (k12.trans (sd.non _)) od hA (by rw [show k0+(k2+1)=k0+k2+1 by omega,eds,ht]) fun j hj2=>hj j (by omega)
  have eds:=dd_snoc (l:=ts) (k:=k0-1) (by omega)
  simp only [show k0-1+2=k0+1 by omega,show k0-1+1=k0 by omega] at eds
  have hee:ts[k0]=ts[k0-1]:=by rw [List.getElem?_eq_getElem hk0,List.getElem?_eq_getElem (by omega)] at he;exact Option.some.inj he
  rw [if_pos hee] at eds
  exact key (ts.length-k0-1) k0 1 ts ω1 w1 (by omega) (by omega) (by omega) k1 o1 rfl (by rw [eds,hd]) fun j _=>rfl
 have key:∀ (d k:Nat) (ω1:Tg) (w1:World),k+d=ts.length→0<k→Stp (Mem.One t) ω ω1 w w1→OT ω1 w1 t 9 1 s (strs ts)→dd (ts.take k)=ts.take k→X s (k:Int) w1:=by
  intro d
  induction d with
  | zero =>
   intro k ω1 w1 hk h0 k1 o1 hd
   refine hX _ _ _ ?_
   unfold C.slices_Compact_string_string.S25 C.slices_Compact_string_string.S2
   rw [List.take_of_length_le (by omega)] at hd
   exact cond_d (fun h=>by omega) (fun _=>hK s ω1 w1 k1 (by rw [hd];exact o1))
  | succ d ih =>
   intro k ω1 w1 hk h0 k1 o1 hd
   refine hX _ _ _ ?_
   unfold C.slices_Compact_string_string.S25 C.slices_Compact_string_string.S22
   have sd:=drew_stp ω1 w1
   have od:=o1.stp sd
   have hlt:k<ts.length:=by omega
   have ck:∀ {i:Int} {j:Nat} {Z:ByteArray→Prop} (hj:j<ts.length),i=(j:Int)→Z ts[j]→G.ix s.a s.n i 1 fun p=>G.cS p w1.drew Z:=fun {i j Z} hj ei hz=>by
    subst ei
    refine Rd.ix od.rd (by decide) (by omega) (by omega) fun a ha=>cS_at ?_ hz
    have:=ha 0 (.string ts[j]) (by decide) (by rw [Int.toNat_natCast,Nat.mul_one,Nat.add_zero];exact strs_at ts j hj)
    rwa [show a.add 0=a by simp [Addr.add]] at this
   refine cond_d (fun _=>?_) (fun h=>by omega)
   refine ck hlt rfl ?_
   refine ck (j:=k-1) (by omega) (by rw [wI64 (by omega) (by omega)];omega) ?_
   unfold C.slices_Compact_string_string.D21
   rw [ba_ne]
   have eds:=dd_snoc (l:=ts) (k:=k-1) (by omega)
   simp only [show k-1+2=k+1 by omega,show k-1+1=k by omega] at eds
   refine cond_d (fun heq=>?_) (fun hne=>?_)
   ·rw [decide_eq_true heq]
    exact rest k ω1 _ (k1.trans (sd.non _)) od h0 hlt hd (by rw [List.getElem?_eq_getElem hlt,List.getElem?_eq_getElem (by omega),heq])
   ·unfold C.slices_Compact_string_string.S20 C.slices_Compact_string_string.S7
    rw [if_neg hne] at eds
    rw [wI64 (by omega) (by omega),show (k:Int)+1=((k+1:Nat):Int) by omega]
    exact ih (k+1) ω1 _ (by omega) (by omega) (k1.trans (sd.non _)) od (by rw [eds,hd,List.take_succ_eq_append_getElem hlt])
 exact key (ts.length-1) 1 ω w (by omega) (by omega) (Stp.refl _ _ _) h (by
  match ts,hsn with
  | [],hsn=>simp only [List.length_nil] at hsn;omega
  | a::r,_=>rfl)
end Go.Proofs.YtmfgmcajelmgbaaGreatDoor.Bk

namespace Go.Proofs.YtmfgmcajelmgbaaGreatDoor.Bk
open Go Vm Go.RowKit Num Mem Utf Lib Lab Vint Bits
variable {ω ω' : Tg} {w w' w0 : World}
theorem rput_ok {s:Sl} {m:List Lb} (hs:Rd w0 s 2 (labs m)) (hr:(rt m).1=0) {K:Sl→Int→World→Prop} (hK:∀ r w',Keep w0 w'→OwnB w' w0.heap.size r (Lab.put m)→K r 0 w'):C.tocsinref04_Put nilS s w0 K:=by
 have hsn:s.n=m.length:=by have:=hs.2.1;rw [labs_len] at this;omega
 obtain ⟨h16,hsh⟩:=rt_short hr
 unfold C.tocsinref04_Put
 refine rright_ok hs (fun x hx=>by have:=hsh x hx;omega) fun w1 k1=>?_
 refine cond_f (by rw [hr];rfl) ?_
 rw [wU64_id (by omega) (by omega),hsn]
 refine rputU_ok (l:=[]) (by omega) (Rd.nil w1 1) (by decide) fun r w2 k2 o2=>?_
 unfold C.tocsinref04_Put.S9
 have k02:=Keep.trans k1 k2
 have hp:=putU_len64 (n:=m.length) (by omega)
 refine C.tocsinref04_Put.L5_ind fun X hX=>?_
 have key:∀ (d i:Nat) (q:Sl) (w:World),i+d=m.length→Keep w0 w→OwnB w w0.heap.size q (putU m.length++(m.take i).flatMap labB)→X q s ((s.n:Nat):Int) (i:Int) w:=by
  intro d
  induction d with
  | zero =>
   intro i q w hi k o
   refine hX _ _ _ _ _ ?_
   unfold C.tocsinref04_Put.S7 C.tocsinref04_Put.S2
   rw [List.take_of_length_le (by omega)] at o
   exact cond_d (fun h=>by omega) (fun _=>hK q w k o)
  | succ d ih =>
   intro i q w hi k o
   have him:i<m.length:=by omega
   refine hX _ _ _ _ _ ?_
   unfold C.tocsinref04_Put.S7
   refine cond_d (fun _=>?_) (fun h=>by omega)
   have hx:m[i]?=some m[i]:=List.getElem?_eq_getElem him
   refine rdL_at (hs.keep k) (k:=i) rfl hx fun a hc0 hc1=>cS_at hc0<|cS_at hc1 ?_
   refine new_T (ω:=fun _=>0) 7 fun g ω2 w2 k2 b2=>?_
   refine st_T b2 (by simp) fun ω3 w3 k3 b3=>?_
   refine st_TA b3 (by simp) fun ω4 w4 k4 b4=>?_
   have kT:=((Top.init w).stp ((k2.non (Mem.One 7)).trans (k3.trans k4))).k
   have kd:=drew_stp ω4 w4
   have bd:=b4.stp kd
   have k5:=Keep.trans kT kd.keep
   refine cS_at (b:=m[i].1) (by rw [bd.cell];rfl)<|cS_at (b:=m[i].2) (by rw [addr_add,bd.cell];rfl) ?_
   have hsx:=hsh _ (List.getElem_mem him)
   have hfl:=Lab.flat_len (m.take i) fun y hy=>hsh y (List.mem_of_mem_take hy)
   rw [List.length_take,Nat.min_eq_left (by omega)] at hfl
   have e1:=szB m[i].1
   have p1:=putU_len64 (n:=m[i].1.size) (by omega)
   refine rputText_ok (Own.keep o k5).rd (by rw [List.length_append];omega) fun r1 w5 k6 o5=>⟨bd.sameA (k6.stp0 ω4),?_⟩
   refine rputText_ok o5.rd (by simp only [List.length_append];omega) fun r2 w6 k7 o6=>?_
   rw [wI64 (by omega) (by omega),show (i:Int)+1=((i+1:Nat):Int) by omega]
   have k57:=Keep.trans k (Keep.trans k5 (Keep.trans k6 k7))
   refine ih (i+1) r2 w6 (by omega) k57 ?_
   have ef:(m.take (i+1)).flatMap labB=(m.take i).flatMap labB++labB m[i]:=by
    rw [List.take_add_one,hx,List.flatMap_append];simp
   rw [ef]
   have o7:=o6.mono (Keep.trans k (Keep.trans k5 k6)).size
   simpa only [labB,txt,List.append_assoc] using o7
 refine key m.length 0 r w2 (by omega) k02 ?_
 simpa using o2.mono k1.size
theorem rframeS_ok {x:Ser} {a b:Sl} (h:SeOk w0 (x,a,b)) (hr:(rt x.1).1=0) (hne:x.2≠[]) {K:Sl→Int→World→Prop}
  (hE:serE x≠0→∀ w',Keep w0 w'→K nilS (serE x) w') (hK:serE x=0→∀ r w',Keep w0 w'→OwnB w' w0.heap.size r (pay x)→K r 0 w'):C.tocsinref10_frame a b w0 K:=by
 have hlb:Rd w0 a 2 (labs x.1):=h.lb
 have hsm:Rd w0 b 2 (Chunk.smps x.2):=h.sm
 have hfl:∀ y∈x.2,y.2<18446744073709551616:=h.fl
 have hsl:x.2.length≤11000000:=h.sl
 clear h
 have hsn:=smN hsm
 unfold C.tocsinref10_frame
 refine newD fun g w1 k1 hg b1=>?_
 refine cSl_at (s:=b) (by rw [addr_add,b1.cell];rfl) ?_
 refine Chunk.rsplit_ok (hsm.keep k1.1) hfl hsl (fun he w3 k3=>?_) (fun hz hris c ss ω3 w3 top3 o3=>?_)
 ·refine cond_t (by simpa using he) ?_
  have e:serE x=(Chunk.swr [] x.2 0).1:=by unfold serE;rw [if_neg hne,if_pos he]
  have:=hE (by rw [e];exact he) w3 (Keep.trans k1.1 k3)
  rwa [e] at this
 refine cond_f rfl ?_
 have e3:Chunk.OLs ω3 w3 12 c ss (chs x.2):=o3
 clear o3
 have k03:=Keep.trans k1.1 top3.k
 have b3:=b1.keep top3.k
 refine cSl_at (s:=a) (by rw [b3.cell];rfl) ?_
 refine rput_ok (hlb.keep k03) hr fun r w4 k4 o4=>cond_f rfl ?_
 have hcl:(chs x.2).length=(x.2.length+119) / 120:=chs_len x.2
 have hce:=chs_each hris
 have hcn:c.n=(chs x.2).length:=e3.n
 have k04:=Keep.trans k03 k4
 have hpl:=put_small hr
 have hrd:=e3.rdl.keep k4
 rw [wU64_id (by omega) (by omega),hcn]
 refine rputU_ok (by omega) (OwnB.rd o4) (by omega) fun p w5 k5 o5=>?_
 have hp4:=putU_len64 (n:=(chs x.2).length) (by omega)
 unfold C.tocsinref10_frame.S9
 refine C.tocsinref10_frame.L5_ind fun X hX=>?_
 have key:∀ (d i:Nat) (p:Sl) (w:World),i+d=(chs x.2).length→Keep w4 w→OwnB w w4.heap.size p (Lab.put x.1++(putU (chs x.2).length++((chs x.2).take i).flatMap cpay))→X p c ((c.n:Nat):Int) (i:Int) w:=by
  intro d
  induction d with
  | zero =>
   intro i p w hi k o
   refine hX _ _ _ _ _ ?_
   unfold C.tocsinref10_frame.S7 C.tocsinref10_frame.S2
   refine cond_d (fun h=>by omega) (fun _=>?_)
   rw [List.take_of_length_le (by omega)] at o
   have k0:=Keep.trans k04 k
   have hn:=OwnB.len o
   change p.n=(pay x).length at hn
   refine cond_d (fun hbig=>?_) (fun hsm'=>?_)
   ·have e:serE x=4:=by rw [serE_of hne hz,if_pos (by omega)]
    have:=hE (by rw [e];decide) w k0
    rwa [e] at this
   ·exact hK (by rw [serE_of hne hz,if_neg (by omega)]) p w k0 (o.mono k04.size)
  | succ d ih =>
   intro i p w hi k o
   refine hX _ _ _ _ _ ?_
   unfold C.tocsinref10_frame.S7
   have hic:i<(chs x.2).length:=by omega
   refine cond_d (fun _=>?_) (fun h=>by omega)
   have hx:(chs x.2)[i]?=some (chs x.2)[i]:=List.getElem?_eq_getElem hic
   refine (hrd.keep k).at_ hx fun q hq=>?_
   have hqn:=RdB.len hq
   have hq3:=hce _ (List.getElem_mem hic)
   have hfl:=cpay_len ((chs x.2).take i) fun y hy=>hce y (List.mem_of_mem_take hy)
   rw [List.length_take,Nat.min_eq_left (by omega)] at hfl
   rw [wU64_id (by omega) (by omega),hqn]
   refine rputU_ok (by omega) (OwnB.rd o) (by simp only [List.length_append];omega) fun p1 w5 k5 o5=>?_
   have hp5:=putU_len64 (n:=(chs x.2)[i].length) (by omega)
   refine appB k5 k5.size o5 (hq.keep k5) (by simp only [List.length_append];omega) fun p2 w6 k6 o6=>?_
   rw [wI64 (by omega) (by omega),show (i:Int)+1=((i+1:Nat):Int) by omega]
   refine ih (i+1) p2 w6 (by omega) (Keep.trans k k6) ?_
   have ef:((chs x.2).take (i+1)).flatMap cpay=((chs x.2).take i).flatMap cpay++cpay (chs x.2)[i]:=by
    rw [List.take_add_one,hx,List.flatMap_append];simp
   rw [ef]
   have o7:=o6.mono k.size
   simpa only [cpay,List.append_assoc] using o7
 refine key (chs x.2).length 0 p w5 (by omega) k5 ?_
 simpa using o5
theorem sers_set:∀ (l:QS) (k:Nat) (p:SQ),((sers l).set (k*2+0) p.2.1.v).set (k*2+1) p.2.2.v=sers (l.set k p)
 | [],k,p=>by simp [sers]
 | x::l,0,p=>rfl
 | x::l,k+1,p=>by
  have ih:=sers_set l k p
  rw [Nat.add_zero] at ih
  have e:∀ (y:SQ) (m:QS),sers (y::m)=y.2.1.v::y.2.2.v::sers m:=fun _ _=>rfl
  rw [e,show (k+1)*2+0=(k*2+0)+1+1 by omega,show (k+1)*2+1=(k*2+1)+1+1 by omega,List.set_cons_succ,List.set_cons_succ,List.set_cons_succ,List.set_cons_succ,ih,List.set_cons_succ,e]
theorem st2_ok {t:Nat} {s:Sl} {l:QS} (h:OT ω w t 57 2 s (sers l)) {i:Int} {k:Nat} (ei:i=(k:Int)) (hk:k<l.length) (p:SQ) {Z:World→Prop}
  (hK:∀ ω' w',Stp (Mem.One t) ω ω' w w'→OT ω' w' t 57 2 s (sers (l.set k p))→Z w') :
  G.ix s.a s.n i 2 fun a=>G.st a p.2.1.v w fun w1=>G.st (a.add 1) p.2.2.v w1 Z:=by
 have hn:=rdQ_n h.rd
 refine OT.at_ h ei (by omega) fun a ha _ _ _=>?_
 have e0:a=a.add 0:=by simp [Addr.add]
 have key:G.st (a.add 0) p.2.1.v w fun w1=>G.st (a.add 1) p.2.2.v w1 Z:=by
  refine OT.st h (i:=k) (j:=0) (by omega) (by decide) _ ha fun ω1 w1 k1 o1=>?_
  refine OT.st o1 (i:=k) (j:=1) (by omega) (by decide) _ ha fun ω2 w2 k2 o2=>hK ω2 w2 (k1.trans k2) ?_
  rw [sers_set] at o2
  exact o2
 rwa [← e0] at key
theorem insS_at {x:Ser}:∀ {A B:List Ser},(∀ a∈A,¬ cmpL a.1 x.1 > 0)→(∀ b∈B,cmpL b.1 x.1 > 0)→insS x (A++B)=A++x::B
 | [],[],_,_=>rfl
 | [],b::B,_,h=>by rw [List.nil_append,insS,if_pos (h b (List.mem_cons_self ..))];rfl
 | a::A,B,h1,h2=>by
  rw [List.cons_append,insS,if_neg (h1 a (List.mem_cons_self ..)),insS_at (fun y hy=>h1 y (List.mem_cons_of_mem _ hy)) h2];rfl
theorem ins_step {α:Type} (A:List α) (k:Nat) (hk:k<A.length) (z:α):(A.take (k+1)++z::A.drop (k+1)).set (k+1) A[k]=A.take k++A[k]::A.drop k:=by
 have e:(A.take (k+1)).length=k+1:=by rw [List.length_take];omega
 rw [List.set_append_right _ _ (by omega),e,Nat.sub_self,List.set_cons_zero,List.take_succ_eq_append_getElem hk,List.append_assoc,List.drop_eq_getElem_cons hk]
 rfl
theorem rsorted_ok {s:Sl} {q:QS} (h:RdQ w0 s q) (hl:q.length≤100000000) {K:Sl→World→Prop}
  (hK:∀ r q' w',Keep w0 w'→q'.Perm q→q'.map (·.1)=srt (q.map (·.1))→Mem.Own w' w0.heap.size 57 2 r (sers q')→K r w'):C.tocsinref10_Sorted s w0 K:=by
 have hsn:=h.n
 unfold C.tocsinref10_Sorted C.tocsinref10_Sorted.S23
 refine C.tocsinref10_Sorted.L5_ind fun X hX=>?_
 have key:∀ (d i:Nat) (out:Sl) (A:QS) (ω:Tg) (w:World),i+d=q.length→Top w0 ω w→OT ω w 2 57 2 out (sers A)→A.Perm (q.take i)→A.map (·.1)=srt ((q.map (·.1)).take i)→X out s ((s.n:Nat):Int) (i:Int) w:=by
  intro d
  induction d with
  | zero =>
   intro i out A ω w hi top o pm em
   refine hX _ _ _ _ _ ?_
   unfold C.tocsinref10_Sorted.S21 C.tocsinref10_Sorted.S2
   refine cond_d (fun h=>by omega) (fun _=>?_)
   rw [List.take_of_length_le (by omega)] at pm
   rw [List.take_of_length_le (by rw [List.length_map];omega)] at em
   exact hK out A w top.k pm em (otNew o top)
  | succ d ih =>
   intro i out A ω w hi top o pm em
   refine hX _ _ _ _ _ ?_
   unfold C.tocsinref10_Sorted.S21 C.tocsinref10_Sorted.S18
   have hiq:i<q.length:=by omega
   have hx:q[i]?=some q[i]:=List.getElem?_eq_getElem hiq
   have hAl:A.length=i:=by rw [pm.length_eq,List.length_take];exact Nat.min_eq_left (by omega)
   have hel:∀ p∈A,SeOk w0 p:=fun p hp=>h.el p (List.mem_of_mem_take (pm.mem_iff.1 hp))
   have hsx:=h.el _ (List.getElem_mem hiq)
   have upA:(A.map (·.1)).Pairwise leS:=by rw [em];exact srt_up _
   refine cond_d (fun _=>?_) (fun h=>by omega)
   refine rdQ_at (h.rd.keep top.k) (k:=i) rfl hx fun a e0 e1=>cSl_at e0<|cSl_at e1 ?_
   refine locS fun g w3 k3 hg b3=>?_
   have s3:=k3.1.stp ω 7
   have bt:BT (ext ω w.heap.size 7) w3 7 g _ _:=⟨b3,ext_new hg⟩
   have top3:=top.stp s3
   have o3:=o.stp s3
   generalize ext ω w.heap.size 7=ω3 at *
   refine cSl_at (s:=q[i].2.1) (by rw [bt.cell];rfl)<|cSl_at (s:=q[i].2.2) (by rw [addr_add,bt.cell];rfl) ?_
   have hon:=rdQ_n o.rd
   refine push_T tiQ o3 (n:=1) rfl (by intro v hv;simp at hv;rcases hv with rfl | rfl<;>rfl) (by simp only [maxLen];omega) (by omega) fun r ω4 w4 k4 o4 _=>?_
   have top4:=top3.stp k4
   have b4:=bt.stp k4
   have e4:sers A++[q[i].2.1.v,q[i].2.2.v]=sers (A++[q[i]]):=by rw [sers_app];rfl
   have o4':OT ω4 w4 2 57 2 r (sers (A.take i++q[i]::A.drop i)):=by
    rw [List.take_of_length_le (by omega),List.drop_of_length_le (by omega),← e4];exact o4
   have etk:(q.map (·.1)).take (i+1)=(q.map (·.1)).take i++[q[i].1]:=by
    rw [List.take_succ_eq_append_getElem (by rw [List.length_map];exact hiq),List.getElem_map]
   have esr:srt ((q.map (·.1)).take (i+1))=insS q[i].1 (A.map (·.1)):=by rw [etk,em];unfold srt;rw [List.foldl_append];rfl
   have hrn:r.n=A.length+1:=by have:=rdQ_n o4'.rd;rw [List.length_append,List.length_cons,List.length_take,List.length_drop] at this;omega
   refine C.tocsinref10_Sorted.L13_ind fun Y hY=>?_
   -- the place is found
   have done:∀ (k:Nat) (z:SQ) (ω:Tg) (w:World),k≤i→Top w0 ω w→BT ω w 7 g 57 [q[i].2.1.v,q[i].2.2.v]→OT ω w 2 57 2 r (sers (A.take k++z::A.drop k))→(∀ b∈A.drop k,cmpL b.1.1 q[i].1.1 > 0)→(∀ b∈A.take k,¬ cmpL b.1.1 q[i].1.1 > 0) →
     C.tocsinref10_Sorted.S10 K X r (some ⟨g,0,none⟩) (k:Int) s ((s.n:Nat):Int) (i:Int) w:=by
    intro k z ω w hki top bt o h1 h2
    unfold C.tocsinref10_Sorted.S10 C.tocsinref10_Sorted.S7
    refine ptr_at<|cSl_at (s:=q[i].2.1) (by rw [bt.cell];rfl)<|cSl_at (s:=q[i].2.2) (by rw [addr_add,bt.cell];rfl) ?_
    have hkl:(A.take k).length=k:=by rw [List.length_take];omega
    refine st2_ok (k:=k) o rfl (by rw [List.length_append,hkl,List.length_cons];omega) q[i] fun ω6 w6 k6 o6=>?_
    rw [List.set_append_right _ _ (by omega),hkl,Nat.sub_self,List.set_cons_zero] at o6
    rw [wI64 (by omega) (by omega),show (i:Int)+1=((i+1:Nat):Int) by omega]
    refine ih (i+1) r _ ω6 w6 (by omega) (top.stp k6) o6 ?_ ?_
    ·refine (List.perm_middle).trans ?_
     rw [List.take_append_drop,List.take_succ_eq_append_getElem hiq]
     exact (pm.cons _).trans (List.perm_append_comm (l₁:=[q[i]]))
    ·rw [esr]
     have e:A.map (·.1)=(A.take k).map (·.1)++(A.drop k).map (·.1):=by rw [← List.map_append,List.take_append_drop]
     rw [e,insS_at (fun a ha=>?_) (fun b hb=>?_),List.map_append,List.map_cons]
     ·obtain ⟨p,hp,rfl⟩:=List.mem_map.1 ha;exact h2 p hp
     ·obtain ⟨p,hp,rfl⟩:=List.mem_map.1 hb;exact h1 p hp
   have loop:∀ (k:Nat) (z:SQ) (ω:Tg) (w:World),k≤i→Top w0 ω w→BT ω w 7 g 57 [q[i].2.1.v,q[i].2.2.v]→OT ω w 2 57 2 r (sers (A.take k++z::A.drop k))→(∀ b∈A.drop k,cmpL b.1.1 q[i].1.1 > 0) →
     Y r (some ⟨g,0,none⟩) (k:Int) s ((s.n:Nat):Int) (i:Int) w:=by
    intro k
    induction k with
    | zero =>
     intro z ω w hki top bt o h1
     refine hY _ _ _ _ _ _ _ ?_
     unfold C.tocsinref10_Sorted.S15
     have sd:=drew_stp ω w
     exact cond_d (fun h=>by omega) (fun _=>done 0 z ω _ (by omega) (top.stp sd) (bt.stp sd) (o.stp sd) h1 (by simp))
    | succ k ihk =>
     intro z ω w hki top bt o h1
     refine hY _ _ _ _ _ _ _ ?_
     unfold C.tocsinref10_Sorted.S15
     have sd:=drew_stp ω w
     have topd:=top.stp sd
     have bd:=bt.stp sd
     have od:=o.stp sd
     have hkA:k<A.length:=by omega
     have hkl:(A.take (k+1)).length=k+1:=by rw [List.length_take];omega
     have hgk:(A.take (k+1)++z::A.drop (k+1))[k]?=some A[k]:=by
      rw [List.getElem?_append_left (by omega),List.getElem?_take,if_pos (by omega),List.getElem?_eq_getElem hkA]
     have ek:IntKind.i64.wrap (((k+1:Nat):Int)-1)=(k:Int):=by rw [wI64 (by omega) (by omega)];omega
     refine cond_d (fun _=>?_) (fun h=>by omega)
     rw [ek]
     refine rdQ_at od.rd (k:=k) rfl hgk fun p f0 f1=>cSl_at f0<|ptr_at<|cSl_at (s:=q[i].2.1) (by rw [bd.cell];rfl) ?_
     have hAk:=hel _ (List.getElem_mem hkA)
     refine rcmp_ok (hAk.lb.keep topd.k) (hsx.lb.keep topd.k) hAk.l9 fun w6 k6=>?_
     have s6:=k6.stp0 ω
     have top6:=topd.stp s6
     have b6:=bd.stp s6
     have o6:=od.stp s6
     refine cond_d (fun hgt=>?_) (fun hle=>?_)
     ·refine rdQ_at o6.rd (k:=k) rfl hgk fun p f0 f1=>cSl_at f0<|cSl_at f1 ?_
      refine st2_ok (k:=k+1) o6 rfl (by rw [List.length_append,hkl,List.length_cons];omega) A[k] fun ω7 w7 k7 o7=>?_
      rw [ins_step A k hkA z] at o7
      refine ihk A[k] ω7 w7 (by omega) (top6.stp k7) (b6.stp k7) o7 fun b hb=>?_
      rw [List.drop_eq_getElem_cons hkA] at hb
      rcases List.mem_cons.1 hb with rfl | hb
      ·exact hgt
      ·exact h1 b hb
     ·refine done (k+1) z ω w6 hki top6 b6 o6 h1 fun b hb=>?_
      obtain ⟨j,hj,rfl⟩:=List.mem_iff_getElem.1 hb
      rw [hkl] at hj
      rw [List.getElem_take]
      by_cases hjk:j=k
      ·subst hjk;exact hle
      ·have:=List.pairwise_iff_getElem.1 upA j k (by rw [List.length_map];omega) (by rw [List.length_map];omega) (by omega)
       rw [List.getElem_map,List.getElem_map] at this
       have hle':leS A[k].1 q[i].1:=by unfold leS;have:=cmpL_cmp.anti A[k].1.1 q[i].1.1;omega
       have:=cmp_le this hle'
       have:=cmpL_cmp.anti A[j].1.1 q[i].1.1
       omega
   have:=loop i q[i] ω4 w4 (by omega) top4 b4 o4' (by rw [List.drop_of_length_le (by omega)];simp)
   rw [show ((out.n:Nat):Int)=(i:Int) by omega]
   exact this
 exact key q.length 0 nilS [] (fun _=>0) w0 (by omega) (Top.init w0) (OT.nil _ _ _ _ _) (by simp) rfl
end Go.Proofs.YtmfgmcajelmgbaaGreatDoor.Bk

namespace Go.Proofs.YtmfgmcajelmgbaaGreatDoor.Bk
open Go Vm Go.RowKit Num Mem Utf Lib Lab Vint Bits
variable {ω ω' : Tg} {w w' w0 : World}
theorem take_sers (q:QS) (n:Nat) (h:n≤q.length):((sers q).drop (0*2)).take ((n-0)*2)=sers (q.take n):=by
 have e:sers q=sers (q.take n)++sers (q.drop n):=by rw [← sers_app,List.take_append_drop]
 have l:(sers (q.take n)).length=n*2:=by rw [sers_len,List.length_take,Nat.min_eq_left h]
 rw [e,Nat.zero_mul,List.drop_zero,Nat.sub_zero,List.take_append_of_le_length (by omega),List.take_of_length_le (by omega)]
def wr1 (pre:List Ser) (x:Ser):Int:=if (rt x.1).1≠0 then (rt x.1).1 else if metB pre x.1=true then 6 else serE x
theorem rwrong_ok {s a b:Sl} {q:QS} {x:Ser} (h:RdQ w0 s q) (hl:q.length≤100000000) (hx:SeOk w0 (x,a,b)) {K:Int→World→Prop} (hK:∀ w',Keep w0 w'→K (wr1 (q.map (·.1)) x) w'):C.tocsinref10_wrong s a b w0 K:=by
 have hsn:=h.n
 have hlb:Rd w0 a 2 (labs x.1):=hx.lb
 have hsm:Rd w0 b 2 (Chunk.smps x.2):=hx.sm
 have hll:∀ y∈x.1,y.2.size≤140737488355300:=hx.ll
 have hl9:x.1.length≤9000000000000000000:=hx.l9
 have hbn:=smN hsm
 unfold C.tocsinref10_wrong
 refine newD fun g w1 k1 hg b1=>cSl_at (s:=a) (by rw [b1.cell];rfl) ?_
 unfold wr1 at hK
 refine rright_ok (hlb.keep k1.1) hll fun w2 k2=>cond_ne (fun he=>?_) (fun he=>?_)
 ·rw [if_pos he] at hK;exact hK w2 (Keep.trans k1.1 k2)
 rw [if_neg (by simpa using he)] at hK
 have b2:=b1.keep k2
 have k02:=Keep.trans k1.1 k2
 unfold C.tocsinref10_wrong.S9
 refine C.tocsinref10_wrong.L5_ind fun X hX=>?_
 have key:∀ (d i:Nat) (w:World),i+d=q.length→Keep w2 w→metB ((q.map (·.1)).take i) x.1=false→X (some ⟨g,0,none⟩) s ((s.n:Nat):Int) (i:Int) w:=by
  intro d
  induction d with
  | zero =>
   intro i w hi k hm
   refine hX _ _ _ _ _ ?_
   unfold C.tocsinref10_wrong.S7 C.tocsinref10_wrong.S2
   have bk:=b2.keep k
   have k0:=Keep.trans k02 k
   rw [List.take_of_length_le (by rw [List.length_map];omega)] at hm
   rw [if_neg (by rw [hm];decide)] at hK
   refine cond_d (fun h=>by omega) (fun _=>ptr_at<|cSl_at (s:=b) (by rw [addr_add,bk.cell];rfl) ?_)
   refine cond_eq (fun h0=>?_) (fun h0=>?_)
   ·have e:serE x=5:=by unfold serE;rw [if_pos (List.eq_nil_of_length_eq_zero (by omega))]
    have:=hK w k0
    rwa [e] at this
   ·refine ptr_at<|cSl_at (s:=a) (by rw [bk.cell];rfl)<|cSl_at (s:=b) (by rw [addr_add,bk.cell];rfl) ?_
    refine rframeS_ok (hx.keep k0) he (fun e=>h0 (by rw [hbn,e];rfl)) (fun hE w3 k3=>hK w3 (Keep.trans k0 k3)) (fun hE r w3 k3 o3=>?_)
    have:=hK w3 (Keep.trans k0 k3)
    rwa [hE] at this
  | succ d ih =>
   intro i w hi k hm
   refine hX _ _ _ _ _ ?_
   unfold C.tocsinref10_wrong.S7
   have hiq:i<q.length:=by omega
   have hy:q[i]?=some q[i]:=List.getElem?_eq_getElem hiq
   have k0:=Keep.trans k02 k
   have hs:=(h.el _ (List.getElem_mem hiq)).keep k0
   refine cond_d (fun _=>?_) (fun h=>by omega)
   refine rdQ_at (h.rd.keep k0) (k:=i) rfl hy fun p e0 e1=>cSl_at e0<|cSl_at e1 ?_
   refine locS fun g3 w3 k3 hg3 b3=>?_
   have bk:=b2.keep (Keep.trans k k3.1)
   refine cSl_at (s:=q[i].2.1) (by rw [b3.cell];rfl)<|ptr_at<|cSl_at (s:=a) (by rw [bk.cell];rfl) ?_
   refine rsame_ok (hs.lb.keep k3.1) (hlb.keep (Keep.trans k0 k3.1)) hs.l9 fun w4 k4=>?_
   have k04:=Keep.trans k0 (Keep.trans k3.1 k4)
   have et:(q.map (·.1)).take (i+1)=(q.map (·.1)).take i++[q[i].1]:=by
    rw [List.take_succ_eq_append_getElem (by rw [List.length_map];exact hiq),List.getElem_map]
   refine cond_d (fun hs=>?_) (fun hs=>?_)
   ·have hmt:metB (q.map (·.1)) x.1=true:=metB_iff.2 (by rw [← hs];exact List.mem_map_of_mem (List.mem_map_of_mem (List.getElem_mem hiq)))
    have:=hK w4 k04
    rwa [if_pos hmt] at this
   ·rw [wI64 (by omega) (by omega),show (i:Int)+1=((i+1:Nat):Int) by omega]
    refine ih (i+1) w4 (by omega) (Keep.trans k (Keep.trans k3.1 k4)) ?_
    rw [et]
    unfold metB at hm ⊢
    rw [List.any_append,hm]
    simp [hs]
 exact key q.length 0 w2 (by omega) (Keep.refl _) rfl
theorem rbuild_ok {s:Sl} {q:QS} (h:RdQ w0 s q) (hl:q.length≤100000000) {K:Sl→Int→Int→World→Prop}
  (hK:∀ r w',Keep w0 w'→OwnB w' w0.heap.size r (buildR (q.map (·.1))).1→K r (buildR (q.map (·.1))).2.1 ((buildR (q.map (·.1))).2.2:Int) w'):C.tocsinref10_Build s w0 K:=by
 have hsn:=h.n
 have hLl:(q.map (·.1)).length=q.length:=List.length_map _
 have hsz:∀ x∈q.map (·.1),x.2.length≤11000000:=fun x hx=>by
  obtain ⟨p,hp,rfl⟩:=List.mem_map.1 hx
  exact (h.el p hp).sl
 unfold C.tocsinref10_Build
 unfold buildR at hK
 refine cond_d (fun h1=>?_) (fun h1=>?_)
 ·rw [if_pos (by omega)] at hK;exact hK nilS w0 (Keep.refl _) (OwnB.nil _ _)
 rw [if_neg (by omega)] at hK
 have hcb:=cnt_le hsz
 -- behind the numbers
 have head:(wrg [] (q.map (·.1)) 0).1=0→∀ w,Keep w0 w→C.tocsinref10_Build.S20 K s (cntOf (q.map (·.1)):Int) (loOf (q.map (·.1))) (hiOf (q.map (·.1))) w:=by
  intro hz w k
  rw [if_neg (by simpa using hz)] at hK
  have fit:=fit_of hz
  have fit':Fit (srt (q.map (·.1))):=fit.perm (srt_perm _)
  have ris:Ris (q.map (·.1)):=fit_ris fit fun x hx y hy=>by
   obtain ⟨p,hp,rfl⟩:=List.mem_map.1 hx
   exact (h.el p hp).fl y hy
  have ehd:hd (srt (q.map (·.1)))=hd (q.map (·.1)):=hd_perm (srt_perm _)
  have hhd:=hd_len ris (by omega) hsz
  have hlo:=lo_bd ris
  have hhi:=hi_bd ris
  have tail:∀ hb w1,Keep w w1→RdB w1 hb (hd (q.map (·.1)))→C.tocsinref10_Build.S11 K s hb w1:=by
   intro hb w1 k1 hh
   unfold C.tocsinref10_Build.S11
   refine convC (l:=magicB) (by rfl) (by rfl) fun m w4 k4 hm=>?_
   have k34:=Keep.trans k1 k4
   refine rputFrame_ok hm (hh.keep k4) (by decide) (fun hbig=>by omega) (fun _ r w5 k5 o5=>?_)
   unfold C.tocsinref10_Build.S9
   have hf:=frameOf_len (m:=hd (q.map (·.1))) (by omega)
   have k05:=Keep.trans k (Keep.trans k34 k5)
   refine rsorted_ok (h.keep k05) hl fun a q' w6 k6 pm em o6=>?_
   have k06:=Keep.trans k05 k6
   have hq':q'.length=q.length:=pm.length_eq
   have hel:∀ p∈q',SeOk w0 p:=fun p hp=>h.el p (pm.mem_iff.1 hp)
   rw [← em] at fit' hK ehd
   have hSl:(q'.map (·.1)).length=q'.length:=List.length_map _
   have hS':∀ i (hi:i<q'.length),(q'.map (·.1))[i]?=some q'[i].1:=fun i hi=>by rw [List.getElem?_map,List.getElem?_eq_getElem hi];rfl
   rw [← ehd] at o5 hhd hf
   generalize q'.map (·.1)=S at *
   have han:=rdQ_n o6.rd
   refine C.tocsinref10_Build.L5_ind fun X hX=>?_
   have key:∀ (d i:Nat) (out:Sl) (w:World),i+d=q'.length→Keep w6 w→OwnB w w4.heap.size out (upto S i)→(upto S i).length≤1048576→X out a ((a.n:Nat):Int) (i:Int) w:=by
    intro d
    induction d with
    | zero =>
     intro i out w hi kk o hle
     refine hX _ _ _ _ _ ?_
     unfold C.tocsinref10_Build.S7 C.tocsinref10_Build.S2
     refine cond_d (fun h=>by omega) (fun _=>?_)
     have ei:i=S.length:=by omega
     rw [ei,upto_all] at o hle
     rw [if_neg (by omega)] at hK
     exact hK out w (Keep.trans k06 kk) (o.mono (Keep.trans k k34).size)
    | succ d ih =>
     intro i out w hi kk o hle
     refine hX _ _ _ _ _ ?_
     unfold C.tocsinref10_Build.S7
     have hiq:i<q'.length:=by omega
     have hx:q'[i]?=some q'[i]:=List.getElem?_eq_getElem hiq
     have k0:=Keep.trans k06 kk
     have hs:=(hel _ (List.getElem_mem hiq)).keep k0
     have hiS:i<S.length:=by omega
     have eS:S[i]=q'[i].1:=by have:=hS' i hiq;rw [List.getElem?_eq_getElem hiS] at this;exact Option.some.inj this
     refine cond_d (fun _=>?_) (fun h=>by omega)
     refine rdQ_at (o6.rd.keep kk) (k:=i) rfl hx fun p e0 e1=>cSl_at e0<|cSl_at e1 ?_
     refine locS fun g w7 k7 hg b7=>?_
     refine cSl_at (s:=q'[i].2.1) (by rw [b7.cell];rfl)<|cSl_at (s:=q'[i].2.2) (by rw [addr_add,b7.cell];rfl) ?_
     have hs7:SeOk w7 (q'[i].1,q'[i].2.1,q'[i].2.2):=hs.keep k7.1
     have hrt:(rt q'[i].1.1).1=0:=by rw [← eS];exact fit'.rt _ (List.getElem_mem hiS)
     have hok:serE q'[i].1=0:=by rw [← eS];exact fit'.ok _ (List.getElem_mem hiS)
     have hri:=fit'.rising (List.getElem_mem hiS)
     rw [eS] at hri
     refine rframeS_ok hs7 hrt hri.1 (fun hbad=>absurd hok hbad) (fun _ f w8 k8 o8=>?_)
     have k78:=Keep.trans k7.1 k8
     have hfl:=frameOf_len hri.2.2
     refine rputFrame_ok (OwnB.rd (Own.keep o k78)) (OwnB.rd o8) (by omega) (fun hbig=>by have:=hri.2.2;omega) (fun _ out2 w9 k9 o9=>?_)
     have eu:upto S (i+1)=upto S i++frameOf (pay q'[i].1):=by rw [upto_succ hiS,eS]
     rw [← eu] at o9
     have hn9:=OwnB.len o9
     have kk9:=Keep.trans kk (Keep.trans k78 k9)
     refine cond_d (fun hbig=>?_) (fun hsm=>?_)
     ·have:=upto_le S (i+1)
      rw [if_pos (by omega)] at hK
      exact hK nilS w9 (Keep.trans k06 kk9) (OwnB.nil _ _)
     ·rw [wI64 (by omega) (by omega),show (i:Int)+1=((i+1:Nat):Int) by omega]
      refine ih (i+1) out2 w9 (by omega) kk9 (o9.mono ?_) (by omega)
      have:=k5.size;have:=k6.size;have:=(Keep.trans kk k78).size;omega
   have e0:upto S 0=magicB++frameOf (hd S):=by unfold upto;simp [flat]
   refine key q'.length 0 r w6 (by omega) (Keep.refl _) (by rw [e0];exact Own.keep o5 k6) ?_
   rw [e0,List.length_append]
   have:magicB.length=8:=rfl
   omega
  unfold C.tocsinref10_Build.S20 C.tocsinref10_Build.S18
  generalize q.map (·.1)=S at *
  refine new_at ?_
  have kA:=Keep.alloc w (.cells #[(.int .u64 (IntKind.u64.wrap ((s.n:Nat):Int))),(.int .u64 (IntKind.u64.wrap (cntOf S:Int))),(.int .u64 (IntKind.u64.wrap (loOf S))),(.int .u64 (IntKind.u64.wrap (hiOf S)))] 105)
  have hrd:Rd (w.alloc (.cells #[(.int .u64 (IntKind.u64.wrap ((s.n:Nat):Int))),(.int .u64 (IntKind.u64.wrap (cntOf S:Int))),(.int .u64 (IntKind.u64.wrap (loOf S))),(.int .u64 (IntKind.u64.wrap (hiOf S)))] 105)) ⟨some ⟨w.heap.size,0,none⟩,4,4⟩ 1 ((hdN S).map fun n:Nat=>Value.int .u64 (n:Int)):=by
   have:=rd_new (w:=w) (e:=105) (cs:=#[(.int .u64 (IntKind.u64.wrap ((s.n:Nat):Int))),(.int .u64 (IntKind.u64.wrap (cntOf S:Int))),(.int .u64 (IntKind.u64.wrap (loOf S))),(.int .u64 (IntKind.u64.wrap (hiOf S)))]) (n:=4) (sz:=1) rfl
   have e:(#[(.int .u64 (IntKind.u64.wrap ((s.n:Nat):Int))),(.int .u64 (IntKind.u64.wrap (cntOf S:Int))),(.int .u64 (IntKind.u64.wrap (loOf S))),(.int .u64 (IntKind.u64.wrap (hiOf S)))]:Array Value).toList=(hdN S).map fun n:Nat=>Value.int .u64 (n:Int):=by
    rw [wU64_id (by omega) (by omega),wU64_id (by omega) (by omega),wU64_id (by omega) (by omega),wU64_id (by omega) (by omega)]
    simp only [hdN,List.map_cons,List.map_nil]
    rw [Int.toNat_of_nonneg hlo.1,Int.toNat_of_nonneg hhi.1,show s.n=S.length by omega]
   rw [e] at this
   exact this
  have hN:∀ n∈hdN S,n<18446744073709551616:=by
   intro n hn
   simp only [hdN,List.mem_cons,List.not_mem_nil,or_false] at hn
   rcases hn with rfl | rfl | rfl | rfl<;>omega
  have hNl:(hdN S).length=4:=rfl
  rw [hd_flat] at tail
  generalize hdN S=NS at *
  generalize hwA:w.alloc (.cells #[(.int .u64 (IntKind.u64.wrap ((s.n:Nat):Int))),(.int .u64 (IntKind.u64.wrap (cntOf S:Int))),(.int .u64 (IntKind.u64.wrap (loOf S))),(.int .u64 (IntKind.u64.wrap (hiOf S)))] 105)=wA at *
  refine C.tocsinref10_Build.L14_ind fun X hX=>?_
  have key:∀ (d i:Nat) (hb:Sl) (w5:World),i+d=4→Keep wA w5→RdB w5 hb ((NS.take i).flatMap putU)→((NS.take i).flatMap putU).length≤10*i→X s hb ⟨some ⟨w.heap.size,0,none⟩,4,4⟩ (((⟨some ⟨w.heap.size,0,none⟩,4,4⟩:Sl).n:Nat):Int) (i:Int) w5:=by
   intro d
   induction d with
   | zero =>
    intro i hb w5 hi k5 o hle
    refine hX _ _ _ _ _ _ ?_
    unfold C.tocsinref10_Build.S16
    refine cond_d (fun h=>by simp only at h;omega) (fun _=>tail hb w5 (Keep.trans kA k5) ?_)
    rwa [List.take_of_length_le (by omega)] at o
   | succ d ih =>
    intro i hb w5 hi k5 o hle
    refine hX _ _ _ _ _ _ ?_
    unfold C.tocsinref10_Build.S16
    have hi4:i<NS.length:=by omega
    refine cond_d (fun _=>?_) (fun h=>by simp only at h;omega)
    refine Rd.ix (hrd.keep k5) (by decide) (by omega) (by simp only;omega) fun p hc=>?_
    refine cI_at (n:=(NS[i]:Int)) (by
     have:=hc 0 (.int .u64 (NS[i]:Int)) (by decide) (by rw [Int.toNat_natCast,Nat.mul_one,Nat.add_zero,List.getElem?_map,List.getElem?_eq_getElem hi4];rfl)
     rwa [show p.add 0=p by simp [Addr.add]] at this) ?_
    have hlt:=hN _ (List.getElem_mem hi4)
    refine rputU_ok hlt o (by omega) fun r w6 k6 o6=>?_
    rw [wI64 (by omega) (by omega),show (i:Int)+1=((i+1:Nat):Int) by omega]
    have et:(NS.take (i+1)).flatMap putU=(NS.take i).flatMap putU++putU NS[i]:=by rw [List.take_succ_eq_append_getElem hi4,List.flatMap_append];simp
    have h10:=putU_len64 hlt
    exact ih (i+1) r w6 (by omega) (Keep.trans k5 k6) (by rw [et];exact o6.rd) (by rw [et,List.length_append];omega)
  exact key 4 0 nilS wA (by omega) (Keep.refl _) (RdB.nil _) (by simp)
 refine C.tocsinref10_Build.L23_ind fun X hX=>?_
 have key:∀ (d i:Nat) (w:World),i+d=q.length→Keep w0 w→Fit ((q.map (·.1)).take i)→wrg ((q.map (·.1)).take i) ((q.map (·.1)).drop i) i=wrg [] (q.map (·.1)) 0 →
   X s (cntOf ((q.map (·.1)).take i):Int) (loOf ((q.map (·.1)).take i)) (hiOf ((q.map (·.1)).take i)) s ((s.n:Nat):Int) (i:Int) w:=by
  intro d
  induction d with
  | zero =>
   intro i w hi k ft e
   refine hX _ _ _ _ _ _ _ _ ?_
   unfold C.tocsinref10_Build.S25
   refine cond_d (fun h=>by omega) (fun _=>?_)
   rw [List.drop_of_length_le (by omega)] at e
   rw [List.take_of_length_le (by omega)]
   exact head (by rw [← e];rfl) w k
  | succ d ih =>
   intro i w hi k ft e
   refine hX _ _ _ _ _ _ _ _ ?_
   unfold C.tocsinref10_Build.S25
   have hiq:i<q.length:=by omega
   have hiL:i<(q.map (·.1)).length:=by omega
   have hx:q[i]?=some q[i]:=List.getElem?_eq_getElem hiq
   have eL:(q.map (·.1))[i]=q[i].1:=by rw [List.getElem_map]
   have hs:=(h.el _ (List.getElem_mem hiq)).keep k
   rw [List.drop_eq_getElem_cons hiL,eL,wrg] at e
   refine cond_d (fun _=>?_) (fun h=>by omega)
   refine rdQ_at (h.rd.keep k) (k:=i) rfl hx fun p e0 e1=>cSl_at e0<|cSl_at e1 ?_
   refine locS fun g w3 k3 hg b3=>?_
   refine Rd.slc (h.rd.keep (Keep.trans k k3.1)) (lo:=0) (hi:=i) (by omega) (by omega) rfl rfl fun r hr _ _=>?_
   rw [take_sers q i (by omega)] at hr
   have kd:=Keep.trans k (Keep.trans k3.1 (Keep.drew w3))
   have bd:Blk w3.drew g _ _:=b3.drew
   refine cSl_at (s:=q[i].2.1) (by rw [bd.cell];rfl)<|cSl_at (s:=q[i].2.2) (by rw [addr_add,bd.cell];rfl) ?_
   have hq1:RdQ w3.drew r (q.take i):=⟨hr.drew,fun p hp=>(h.el p (List.mem_of_mem_take hp)).keep kd⟩
   have hsd:SeOk w3.drew (q[i].1,q[i].2.1,q[i].2.2):=hs.keep (Keep.trans k3.1 (Keep.drew w3))
   refine rwrong_ok hq1 (by rw [List.length_take];omega) hsd fun w4 k4=>?_
   have k04:=Keep.trans kd k4
   have emt:(q.take i).map (·.1)=(q.map (·.1)).take i:=by rw [List.map_take]
   rw [emt]
   have et:(q.map (·.1)).take (i+1)=(q.map (·.1)).take i++[q[i].1]:=by rw [List.take_succ_eq_append_getElem hiL,eL]
   refine cond_ne (fun hbad=>?_) (fun hok=>?_)
   ·have ew:wrg [] (q.map (·.1)) 0=(wr1 ((q.map (·.1)).take i) q[i].1,i):=by
     rw [← e]
     unfold wr1 at hbad ⊢
     split
     ·rfl
     ·split
      ·rfl
      ·rw [if_neg (by assumption),if_neg (by assumption)] at hbad
       rw [if_pos hbad]
    rw [ew,if_pos hbad] at hK
    exact hK nilS w4 k04 (OwnB.nil _ _)
   have hw1:(rt q[i].1.1).1=0∧metB ((q.map (·.1)).take i) q[i].1.1=false∧serE q[i].1=0:=by
    unfold wr1 at hok
    split at hok
    ·rename_i h1;exact absurd hok h1
    ·rename_i h1
     split at hok
     ·exact absurd hok (by decide)
     ·rename_i h2;exact ⟨by simpa using h1,by simpa using h2,hok⟩
   rw [if_neg (by simpa using hw1.1),if_neg (by rw [hw1.2.1];decide),if_neg (by simpa using hw1.2.2)] at e
   rw [← et] at e
   have ft':Fit ((q.map (·.1)).take (i+1)):=by
    rw [et]
    refine fit_of (l:=(q.map (·.1)).take i++[q[i].1]) ?_
    have:=fit_wrg ((q.map (·.1)).take i) [] 0 (by simpa using ft)
    have app:∀ (r pre:List Ser) (j:Nat) (y:Ser),Fit (pre++r)→wr1 (pre++r) y=0→(wrg pre (r++[y]) j).1=0:=by
     intro r
     induction r with
     | nil =>
      intro pre j y hf hy
      rw [List.append_nil] at hf hy
      rw [List.nil_append,wrg]
      unfold wr1 at hy
      split
      ·rename_i h1;rw [if_pos h1] at hy;exact hy
      ·rename_i h1
       rw [if_neg h1] at hy
       split
       ·rename_i h2;rw [if_pos h2] at hy;exact absurd hy (by decide)
       ·rename_i h2
        rw [if_neg h2] at hy
        rw [if_neg (by simpa using hy)];rfl
     | cons z r ihr =>
      intro pre j y hf hy
      have hz:z∈pre++z::r:=List.mem_append_right _ (List.mem_cons_self ..)
      rw [List.cons_append,wrg,if_neg (by simpa using hf.rt z hz),if_neg ?_,if_neg (by simpa using hf.ok z hz)]
      ·exact ihr (pre++[z]) (j+1) y (by simpa using hf) (by simpa using hy)
      ·intro hm
       rw [metB_iff] at hm
       have:=hf.nd
       rw [List.map_append,List.nodup_append] at this
       exact this.2.2 _ hm z.1 (by simp) rfl
    exact app _ [] 0 _ (by simpa using ft) (by simpa using hok)
   have b4:=bd.keep k4
   have hs4:SeOk w4 q[i]:=hsd.keep k4
   have hbn:=smN hs4.sm
   have hne:q[i].1.2≠[]:=by
    intro e0
    have:=hw1.2.2
    unfold serE at this
    rw [if_pos e0] at this
    exact absurd this (by decide)
   have hlp:0<q[i].1.2.length:=List.length_pos_iff.2 hne
   have hsl:=hs.sl
   have hct:=cnt_le (l:=(q.map (·.1)).take i) fun y hy=>hsz y (List.mem_of_mem_take hy)
   rw [List.length_take,Nat.min_eq_left (by omega)] at hct
   have rd1:∀ {Z:Sl→Prop},Z q[i].2.2→G.cSl ((⟨g,0,none⟩:Addr).add 1) w4 Z:=fun hz=>cSl_at (s:=q[i].2.2) (by rw [addr_add,b4.cell];rfl) hz
   have rd0:∀ {Z:Int→Prop},Z (q[i].1.2.headD (0,0)).1→G.ix q[i].2.2.a q[i].2.2.n (0:Int) 2 fun p=>G.cI .i64 p w4 Z:=fun hz =>
    Chunk.rdS_at hs4.sm (k:=0) rfl (smp_head hne) fun p2 f0 _=>cI_at f0 hz
   have rdl:∀ {Z:Int→Prop},Z (Chunk.lastS q[i].1.2).1→G.ix q[i].2.2.a q[i].2.2.n (IntKind.i64.wrap (((q[i].2.2.n:Nat):Int)-(1:Int))) 2 fun p=>G.cI .i64 p w4 Z:=fun hz =>
    Chunk.rdS_at hs4.sm (k:=q[i].1.2.length-1) (by rw [wI64 (by omega) (by omega)];omega) (smp_last hne) fun p3 g0 _=>cI_at g0 hz
   have ecn:IntKind.i64.wrap ((cntOf ((q.map (·.1)).take i):Int)+((q[i].2.2.n:Nat):Int))=(cntOf ((q.map (·.1)).take (i+1)):Int):=by
    rw [wI64 (by omega) (by omega),et,cnt_snoc,hbn];omega
   have go:=ih (i+1) w4 (by omega) k04 ft' e
   rw [show ((i+1:Nat):Int)=IntKind.i64.wrap ((i:Int)+1) by rw [wI64 (by omega) (by omega)];omega] at go
   refine rd1 ?_
   rw [ecn]
   by_cases hi0:i=0
   ·have et0:(q.map (·.1)).take i=[]:=by rw [hi0];rfl
    have e1:(q[i].1.2.headD (0,0)).1=loOf ((q.map (·.1)).take (i+1)):=by rw [et,et0];rfl
    have e2:(Chunk.lastS q[i].1.2).1=hiOf ((q.map (·.1)).take (i+1)):=by rw [et,et0];rfl
    refine cond_t (by simp [hi0])<|rd1<|rd0<|cond_t (by simp [hi0])<|rd1<|rdl ?_
    rw [e1,e2];exact go
   ·have hnil:(q.map (·.1)).take i≠[]:=by
     intro e
     have:=congrArg List.length e
     rw [List.length_take] at this
     simp only [List.length_nil] at this;omega
    have h0f:((i:Int)==(0:Int))=false:=by simpa using hi0
    rw [et,lo_snoc hnil,hi_snoc hnil,← et] at go
    refine cond_f h0f<|rd1<|rd0<|cond_d (fun hlt=>?_) (fun hge=>?_)
    ·rw [if_pos hlt] at go
     refine rd1<|rd0<|cond_f h0f<|rd1<|rdl<|cond_d (fun hl2=>?_) (fun hl2=>?_)
     ·rw [if_pos hl2] at go;exact rd1<|rdl go
     ·rw [if_neg hl2] at go;exact go
    ·rw [if_neg hge] at go
     refine cond_f h0f<|rd1<|rdl<|cond_d (fun hl2=>?_) (fun hl2=>?_)
     ·rw [if_pos hl2] at go;exact rd1<|rdl go
     ·rw [if_neg hl2] at go;exact go
 exact key q.length 0 w0 (by omega) (Keep.refl _) fit_nil rfl
theorem rsameQ_ok {a b:Sl} {p q:QS} (ha:RdQ w0 a p) (hb:RdQ w0 b q) (hl:p.length≤100000000) {K:Bool→World→Prop} (hK:∀ w',Keep w0 w'→K (decide (p.map (·.1)=q.map (·.1))) w'):C.tocsinref10_Same a b w0 K:=by
 have han:=ha.n
 have hbn:=hb.n
 have no:p.map (·.1)≠q.map (·.1)→∀ w',Keep w0 w'→K false w':=fun h w' k=>by have:=hK w' k;rwa [decide_eq_false h] at this
 unfold C.tocsinref10_Same
 refine cond_ne (fun hne=>no (fun e=>hne ?_) w0 (Keep.refl _)) (fun heq=>?_)
 ·have:=congrArg List.length e;rw [List.length_map,List.length_map] at this;omega
 unfold C.tocsinref10_Same.S9
 have hpq:p.length=q.length:=by omega
 refine C.tocsinref10_Same.L5_ind fun X hX=>?_
 have key:∀ (d i:Nat) (w:World),i+d=p.length→Keep w0 w→(∀ j (h1:j<p.length) (h2:j<q.length),j<i→p[j].1=q[j].1)→X a b ((a.n:Nat):Int) (i:Int) w:=by
  intro d
  induction d with
  | zero =>
   intro i w hi k hj
   refine hX _ _ _ _ _ ?_
   unfold C.tocsinref10_Same.S7 C.tocsinref10_Same.S2
   refine cond_d (fun h=>by omega) (fun _=>?_)
   have e:p.map (·.1)=q.map (·.1):=by
    apply List.ext_getElem (by rw [List.length_map,List.length_map];exact hpq)
    intro j h1 h2
    rw [List.length_map] at h1 h2
    rw [List.getElem_map,List.getElem_map]
    exact hj j h1 h2 (by omega)
   have:=hK w k
   rwa [decide_eq_true e] at this
  | succ d ih =>
   intro i w hi k hj
   refine hX _ _ _ _ _ ?_
   unfold C.tocsinref10_Same.S7
   have hip:i<p.length:=by omega
   have hiq:i<q.length:=by omega
   have hp:p[i]?=some p[i]:=List.getElem?_eq_getElem hip
   have hq:q[i]?=some q[i]:=List.getElem?_eq_getElem hiq
   have kd:=Keep.trans k (Keep.drew w)
   have hps:=ha.el _ (List.getElem_mem hip)
   have hqs:=hb.el _ (List.getElem_mem hiq)
   have diff:p[i].1≠q[i].1→p.map (·.1)≠q.map (·.1):=fun h e=>h (by
    have:(p.map (·.1))[i]'(by rw [List.length_map];exact hip)=(q.map (·.1))[i]'(by rw [List.length_map];exact hiq):=by simp only [e]
    rwa [List.getElem_map,List.getElem_map] at this)
   refine cond_d (fun _=>?_) (fun h=>by omega)
   refine rdQ_at (ha.rd.keep kd) (k:=i) rfl hp fun x e0 e1=>cSl_at e0<|rdQ_at (hb.rd.keep kd) (k:=i) rfl hq fun y f0 f1=>cSl_at f0 ?_
   refine rsame_ok (hps.lb.keep kd) (hqs.lb.keep kd) hps.l9 fun w4 k4=>cond_not (fun hn=>?_) (fun hy=>?_)
   ·exact no (diff fun e=>(of_decide_eq_false hn) (by rw [e])) w4 (Keep.trans kd k4)
   have k04:=Keep.trans kd k4
   refine rdQ_at (ha.rd.keep k04) (k:=i) rfl hp fun x e0 e1=>cSl_at e1<|rdQ_at (hb.rd.keep k04) (k:=i) rfl hq fun y f0 f1=>cSl_at f1 ?_
   have hsl:=hps.sl
   refine Chunk.same_ok (hps.sm.keep k04) (hqs.sm.keep k04) (by omega) (fun he w5 k5=>?_) (fun hne w5 k5=>?_)
   ·refine cond_f rfl ?_
    rw [wI64 (by omega) (by omega),show (i:Int)+1=((i+1:Nat):Int) by omega]
    refine ih (i+1) w5 (by omega) (Keep.trans k04 k5) fun j h1 h2 h3=>?_
    by_cases hji:j=i
    ·subst hji;exact Prod.ext (of_decide_eq_true hy) he
    ·exact hj j h1 h2 (by omega)
   ·exact cond_t rfl (no (diff fun e=>hne (by rw [e])) w5 (Keep.trans k04 k5))
 exact key p.length 0 w0 (by omega) (Keep.refl _) fun j _ _ h=>absurd h (Nat.not_lt_zero _)
end Go.Proofs.YtmfgmcajelmgbaaGreatDoor.Bk

namespace Go.Proofs.YtmfgmcajelmgbaaGreatDoor.Bk
open Go Vm Go.RowKit Num Mem Utf Lib Lab Vint Bits Rep
variable {ω ω' : Tg} {w w' w0 : World} {T : Nat → Bool} {t u g gm : Nat}
theorem locL {a b:ByteArray} {Z:Addr→World→Prop} (hK:∀ g w',KD w w'→w.heap.size≤g→Blk w' g 93 [.string a,.string b]→Z ⟨g,0,none⟩ w') :
  G.new (.cells #[(.string (⟨#[]⟩:ByteArray)),(.string (⟨#[]⟩:ByteArray))] 93) w fun p w1=>G.st p (.string a) w1 fun w2=>G.st (p.add 1) (.string b) w2 fun w3=>Z p w3 :=
 newD fun g w1 k1 hg b1=>stD hg k1 b1 (by simp) fun w2 k2 b2=>stDA hg k2 b2 (by simp) fun w3 k3 b3=>hK g w3 k3 hg b3
theorem get_ok {s:Sl} {m:List Lb} (h:Rd w0 s 2 (labs m)) (hl:m.length≤100000000) {n:ByteArray} {K:ByteArray→World→Prop} (hK:∀ w',Keep w0 w'→K (getF n m) w'):C.labels_Get s n w0 K:=by
 have hsn:=rdL_n h
 unfold C.labels_Get C.labels_Get.S9
 refine C.labels_Get.L5_ind fun X hX=>?_
 have key:∀ (d i:Nat) (w:World),i+d=m.length→Keep w0 w→getF n (m.drop i)=getF n m→X n s ((s.n:Nat):Int) (i:Int) w:=by
  intro d
  induction d with
  | zero =>
   intro i w hi k e
   refine hX _ _ _ _ _ ?_
   unfold C.labels_Get.S7 C.labels_Get.S2
   refine cond_d (fun h=>by omega) (fun _=>?_)
   rw [List.drop_of_length_le (by omega)] at e
   have:=hK w k
   rw [← e] at this
   exact this
  | succ d ih =>
   intro i w hi k e
   refine hX _ _ _ _ _ ?_
   unfold C.labels_Get.S7
   have him:i<m.length:=by omega
   have hx:m[i]?=some m[i]:=List.getElem?_eq_getElem him
   rw [List.drop_eq_getElem_cons him,getF] at e
   refine cond_d (fun _=>?_) (fun h=>by omega)
   refine rdL_at (h.keep k) (k:=i) rfl hx fun a a0 a1=>cS_at a0<|cS_at a1 ?_
   refine locL fun g w3 k3 hg b3=>cS_at (b:=m[i].1) (by rw [b3.cell];rfl) ?_
   have k03:=Keep.trans k k3.1
   rw [ba_ne]
   refine cond_d (fun he=>?_) (fun he=>?_)
   ·rw [if_pos he] at e
    refine cS_at (b:=m[i].2) (by rw [addr_add,b3.cell];rfl) ?_
    rw [e];exact hK w3 k03
   ·rw [if_neg he] at e
    rw [wI64 (by omega) (by omega),show (i:Int)+1=((i+1:Nat):Int) by omega]
    exact ih (i+1) w3 (by omega) k03 e
 exact key m.length 0 w0 (by omega) (Keep.refl w0) rfl
theorem strs_n {s:Sl} {l:List ByteArray} (h:Rd w s 1 (strs l)):s.n=l.length:=by have:=h.2.1;rw [strs_len] at this;omega
theorem ints_n {s:Sl} {l:List Nat} (h:Rd w s 1 (ints l)):s.n=l.length:=by have:=h.2.1;rw [ints_len] at this;omega
theorem rdT_at {s:Sl} {l:List ByteArray} (h:Rd w s 1 (strs l)) {i:Int} {k:Nat} (ei:i=(k:Int)) (hk:k<l.length) {K:Addr→Prop} (hK:∀ a,w.cell? a=some (.string l[k])→K a):G.ix s.a s.n i 1 K:=by
 have hn:=strs_n h
 subst ei
 refine Rd.ix h (by decide) (by omega) (by omega) fun a hc=>hK a ?_
 have:=hc 0 _ (by decide) (by rw [Int.toNat_natCast,Nat.mul_one,Nat.add_zero];exact strs_at l k hk)
 rwa [show a.add 0=a by simp [Addr.add]] at this
theorem eq_of_at {α:Type} {p q:List α} (hl:p.length=q.length) (h:∀ j,j<p.length→p[j]?=q[j]?):p=q:=by
 apply List.ext_getElem?
 intro j
 rcases Nat.lt_or_ge j p.length with hj | hj
 ·exact h j hj
 ·rw [List.getElem?_eq_none hj,List.getElem?_eq_none (by omega)]
theorem texts_ok {a b:Sl} {p q:List ByteArray} (ha:Rd w0 a 1 (strs p)) (hb:Rd w0 b 1 (strs q)) (hl:p.length≤100000000) {K:Bool→World→Prop} (hK:∀ w',Keep w0 w'→K (decide (p=q)) w'):C.tocsinlaw10_texts a b w0 K:=by
 have hna:=strs_n ha
 have hnb:=strs_n hb
 unfold C.tocsinlaw10_texts
 refine cond_ne (fun hne=>?_) (fun he=>?_)
 ·have:=hK w0 (Keep.refl w0)
  rw [decide_eq_false (fun e=>hne (by rw [hna,hnb,e]))] at this
  exact this
 unfold C.tocsinlaw10_texts.S9
 refine C.tocsinlaw10_texts.L5_ind fun X hX=>?_
 have key:∀ (d i:Nat) (w:World),i+d=p.length→Keep w0 w→(∀ j,j<i→p[j]?=q[j]?)→X a b ((a.n:Nat):Int) (i:Int) w:=by
  intro d
  induction d with
  | zero =>
   intro i w hi k e
   refine hX _ _ _ _ _ ?_
   unfold C.tocsinlaw10_texts.S7 C.tocsinlaw10_texts.S2
   refine cond_d (fun h=>by omega) (fun _=>?_)
   have:=hK w k
   rw [decide_eq_true (eq_of_at (by omega) fun j hj=>e j (by omega))] at this
   exact this
  | succ d ih =>
   intro i w hi k e
   refine hX _ _ _ _ _ ?_
   unfold C.tocsinlaw10_texts.S7
   have hip:i<p.length:=by omega
   have hiq:i<q.length:=by omega
   have kd:=Keep.trans k (Keep.drew w)
   refine cond_d (fun _=>?_) (fun h=>by omega)
   refine rdT_at (ha.keep kd) (k:=i) rfl hip fun x hx=>cS_at hx ?_
   refine rdT_at (hb.keep kd) (k:=i) rfl hiq fun y hy=>cS_at hy ?_
   rw [ba_ne]
   refine cond_not (fun hne=>?_) (fun heq=>?_)
   ·have hne:=of_decide_eq_false hne
    have:=hK _ kd
    rw [decide_eq_false (fun e=>hne (by subst e;rfl))] at this
    exact this
   ·have heq:=of_decide_eq_true heq
    rw [wI64 (by omega) (by omega),show (i:Int)+1=((i+1:Nat):Int) by omega]
    refine ih (i+1) _ (by omega) kd fun j hj=>?_
    by_cases hji:j=i
    ·subst hji;rw [List.getElem?_eq_getElem hip,List.getElem?_eq_getElem hiq,heq]
    ·exact e j (by omega)
 exact key p.length 0 w0 (by omega) (Keep.refl w0) fun j hj=>by omega
theorem stT_ok {r:Sl} {A:List ByteArray} (o:OT ω w t 9 1 r (strs A)) {i:Int} {k:Nat} (ei:i=(k:Int)) (hk:k<A.length) (v:ByteArray) {K:World→Prop}
  (hK:∀ ω' w',Stp (Mem.One t) ω ω' w w'→OT ω' w' t 9 1 r (strs (A.set k v))→K w'):G.ix r.a r.n i 1 fun p=>G.st p (.string v) w K:=by
 have hn:=strs_n o.rd
 refine OT.at_ o ei (by omega) fun a ha _ _ _=>?_
 have e0:G.st (a.add 0) (.string v) w K:=OT.st o (i:=k) (j:=0) (by omega) (by decide) _ ha fun ω' w' k1 o1=>hK ω' w' k1 (by
  have es:(strs A).set (k*1+0) (.string v)=strs (A.set k v):=by unfold strs;rw [Nat.mul_one,Nat.add_zero,List.map_set]
  rw [es] at o1;exact o1)
 rwa [show a.add 0=a by simp [Addr.add]] at e0
theorem insW_at {x:ByteArray}:∀ {A B:List ByteArray},(∀ a∈A,Lt a x)→(∀ b∈B,¬ Lt b x)→insW x (A++B)=A++x::B
 | [],[],_,_=>rfl
 | [],b::B,_,h=>by rw [List.nil_append,insW,if_neg (h b (List.mem_cons_self ..))];rfl
 | a::A,B,h1,h2=>by
  rw [List.cons_append,insW,if_pos (h1 a (List.mem_cons_self ..)),insW_at (fun y hy=>h1 y (List.mem_cons_of_mem _ hy)) h2];rfl
theorem set_take {l:List ByteArray} {i:Nat} (hi:i<l.length):setT (l.take (i+1))=insB l[i] (setT (l.take i)):=by
 unfold setT;rw [List.take_succ_eq_append_getElem hi,List.foldl_append];rfl
theorem insB_len (x:ByteArray) (l:List ByteArray):(insB x l).length≤l.length+1:=by
 unfold insB;split
 ·omega
 ·rw [(insW_perm x l).length_eq];exact Nat.le_refl _
theorem set_len {l:List ByteArray}:∀ i,i≤l.length→(setT (l.take i)).length≤i
 | 0,_=>by simp [setT]
 | i+1,h=>by
  rw [set_take (by omega)]
  have:=set_len (l:=l) i (by omega)
  have:=insB_len l[i] (setT (l.take i))
  omega
theorem set_ok {s:Sl} {l:List ByteArray} (h:Rd w0 s 1 (strs l)) (hl:l.length≤100000000) {K:Sl→World→Prop} (hK:∀ r w',Keep w0 w'→Rd w' r 1 (strs (setT l))→K r w'):C.tocsinref10_set s w0 K:=by
 have hsn:=strs_n h
 unfold C.tocsinref10_set C.tocsinref10_set.S32
 refine C.tocsinref10_set.L5_ind fun X hX=>?_
 have key:∀ (d i:Nat) (out:Sl) (ω:Tg) (w:World),i+d=l.length→Top w0 ω w→OT ω w 2 9 1 out (strs (setT (l.take i)))→X out s ((s.n:Nat):Int) (i:Int) w:=by
  intro d
  induction d with
  | zero =>
   intro i out ω w hi top o
   refine hX _ _ _ _ _ ?_
   unfold C.tocsinref10_set.S30 C.tocsinref10_set.S2
   refine cond_d (fun h=>by omega) (fun _=>?_)
   rw [List.take_of_length_le (by omega)] at o
   exact hK out w top.k o.rd
  | succ d ih =>
   intro i out ω w hi top o
   refine hX _ _ _ _ _ ?_
   unfold C.tocsinref10_set.S30 C.tocsinref10_set.S27
   have hil:i<l.length:=by omega
   have hln:=set_len (l:=l) i (by omega)
   have hst:=set_take hil
   have hup:=(setT_spec (l.take i)).1
   refine cond_d (fun _=>?_) (fun h=>by omega)
   refine rdT_at (h.keep top.k) (k:=i) rfl hil fun a ha=>cS_at ha ?_
   generalize setT (l.take i)=A at *
   generalize l[i]=x at *
   have hon:=strs_n o.rd
   unfold C.tocsinref10_set.S25
   refine C.tocsinref10_set.L21_ind fun Y hY=>?_
   -- is it there?
   have find:∀ (e j:Nat) (m:Bool) (w:World) (ω:Tg),j+e=A.length→Top w0 ω w→OT ω w 2 9 1 out (strs A)→(m=true↔x∈A.take j)→Y out x ((out.n:Nat):Int) m s ((s.n:Nat):Int) (i:Int) out ((out.n:Nat):Int) (j:Int) w:=by
    intro e
    induction e with
    | zero =>
     intro j m w ω hj top o hm
     refine hY _ _ _ _ _ _ _ _ _ _ _ ?_
     unfold C.tocsinref10_set.S23 C.tocsinref10_set.S18
     refine cond_d (fun h=>by omega) (fun _=>?_)
     rw [List.take_of_length_le (by omega)] at hm
     refine cond_of (fun hmt=>?_) (fun hmf=>?_)
     ·unfold C.tocsinref10_set.S7
      rw [wI64 (by omega) (by omega),show (i:Int)+1=((i+1:Nat):Int) by omega]
      have hx:=hm.1 hmt
      refine ih (i+1) out ω w (by omega) top ?_
      rw [hst];unfold insB;rw [if_pos (memT_iff.2 hx)];exact o
     have hx:x ∉ A:=fun hx=>by rw [hm.2 hx] at hmf;cases hmf
     refine push_T tiSt o (n:=1) rfl (by intro v hv;simp at hv;subst hv;rfl) (by simp only [maxLen];omega) (by omega) fun r ω4 w4 k4 o4 _=>?_
     have top4:=top.stp k4
     have o4':OT ω4 w4 2 9 1 r (strs (A.take A.length++x::A.drop A.length)):=by
      rw [List.take_of_length_le (Nat.le_refl _),List.drop_of_length_le (Nat.le_refl _),strs_app];exact o4
     have hrn:r.n=A.length+1:=by have:=strs_n o4'.rd;simp at this;omega
     refine C.tocsinref10_set.L13_ind fun Z hZ=>?_
     have done:∀ (k:Nat) (z:ByteArray) (ω:Tg) (w:World),k≤A.length→Top w0 ω w→OT ω w 2 9 1 r (strs (A.take k++z::A.drop k))→(∀ b∈A.drop k,Lt x b)→(∀ b∈A.take k,Lt b x) →
       C.tocsinref10_set.S10 K X r x (k:Int) s ((s.n:Nat):Int) (i:Int) w:=by
      intro k z ω w hk top o h1 h2
      unfold C.tocsinref10_set.S10 C.tocsinref10_set.S7
      have hkl:(A.take k).length=k:=by rw [List.length_take];omega
      refine stT_ok o (k:=k) rfl (by rw [List.length_append,hkl,List.length_cons];omega) x fun ω6 w6 k6 o6=>?_
      rw [List.set_append_right _ _ (by omega),hkl,Nat.sub_self,List.set_cons_zero] at o6
      rw [wI64 (by omega) (by omega),show (i:Int)+1=((i+1:Nat):Int) by omega]
      refine ih (i+1) r ω6 w6 (by omega) (top.stp k6) ?_
      have e:insB x A=A.take k++x::A.drop k:=by
       unfold insB
       rw [if_neg fun hm=>hx (memT_iff.1 hm)]
       have:=insW_at (x:=x) (A:=A.take k) (B:=A.drop k) h2 (fun b hb hbx=>lt_irr _ (lt_tr hbx (h1 b hb)))
       rwa [List.take_append_drop] at this
      rw [hst,e];exact o6
     have loop:∀ (k:Nat) (z:ByteArray) (ω:Tg) (w:World),k≤A.length→Top w0 ω w→OT ω w 2 9 1 r (strs (A.take k++z::A.drop k))→(∀ b∈A.drop k,Lt x b)→Z r x (k:Int) s ((s.n:Nat):Int) (i:Int) w:=by
      intro k
      induction k with
      | zero =>
       intro z ω w hk top o h1
       refine hZ _ _ _ _ _ _ _ ?_
       unfold C.tocsinref10_set.S15
       exact cond_d (fun h=>by omega) (fun _=>done 0 z ω _ hk top o h1 (by simp))
      | succ k ihk =>
       intro z ω w hk top o h1
       refine hZ _ _ _ _ _ _ _ ?_
       unfold C.tocsinref10_set.S15
       have hkA:k<A.length:=by omega
       have hkl:(A.take (k+1)).length=k+1:=by rw [List.length_take];omega
       have hlen:(A.take (k+1)++z::A.drop (k+1)).length=A.length+1:=by rw [List.length_append,hkl,List.length_cons,List.length_drop];omega
       have hgk:(A.take (k+1)++z::A.drop (k+1))[k]'(by omega)=A[k]:=by
        rw [List.getElem_append_left (by omega),List.getElem_take]
       have ek:IntKind.i64.wrap (((k+1:Nat):Int)-1)=(k:Int):=by rw [wI64 (by omega) (by omega)];omega
       refine cond_d (fun _=>?_) (fun h=>by omega)
       rw [ek]
       refine rdT_at o.rd (k:=k) rfl (by omega) fun p hp=>cS_at hp ?_
       rw [hgk] at hp ⊢
       rw [ba_ne]
       refine cond_not (fun hgt=>?_) (fun hle=>?_)
       ·rw [Bool.or_eq_false_iff] at hgt
        have hlt:Lt x A[k]:=lt_tri (by unfold Lt;rw [hgt.1];decide) (of_decide_eq_false hgt.2)
        refine rdT_at o.rd (k:=k) rfl (by omega) fun p hp=>cS_at hp ?_
        rw [hgk]
        refine stT_ok o (k:=k+1) rfl (by omega) A[k] fun ω7 w7 k7 o7=>?_
        rw [ins_step A k hkA z] at o7
        refine ihk A[k] ω7 w7 (by omega) (top.stp k7) o7 fun b hb=>?_
        rw [List.drop_eq_getElem_cons hkA] at hb
        rcases List.mem_cons.1 hb with rfl | hb
        ·exact hlt
        ·exact h1 b hb
       ·rw [Bool.or_eq_true] at hle
        have hlt:Lt A[k] x:=by
         rcases hle with hle | hle
         ·exact hle
         ·exact absurd (by rw [← of_decide_eq_true hle];exact List.getElem_mem hkA) hx
        refine done (k+1) z ω w hk top o h1 fun b hb=>?_
        obtain ⟨j,hj,rfl⟩:=List.mem_iff_getElem.1 hb
        rw [hkl] at hj
        rw [List.getElem_take]
        by_cases hjk:j=k
        ·subst hjk;exact hlt
        ·exact lt_tr (List.pairwise_iff_getElem.1 hup j k (by omega) hkA (by omega)) hlt
     have:=loop A.length x ω4 w4 (Nat.le_refl _) top4 o4' (by simp)
     rw [hon]
     exact this
    | succ e ihe =>
     intro j m w ω hj top o hm
     refine hY _ _ _ _ _ _ _ _ _ _ _ ?_
     unfold C.tocsinref10_set.S23
     have hjA:j<A.length:=by omega
     refine cond_d (fun _=>?_) (fun h=>by omega)
     refine rdT_at o.rd (k:=j) rfl hjA fun p hp=>cS_at hp ?_
     rw [wI64 (by omega) (by omega),show (j:Int)+1=((j+1:Nat):Int) by omega]
     refine cond_of (fun hmt=>?_) (fun hmf=>?_)
     ·refine ihe (j+1) true w ω (by omega) top o ⟨fun _=>?_,fun _=>rfl⟩
      rw [List.take_succ_eq_append_getElem hjA];exact List.mem_append_left _ (hm.1 hmt)
     ·rw [ba_ne]
      refine ihe (j+1) _ w ω (by omega) top o ?_
      have hx:x ∉ A.take j:=fun hx=>by rw [hm.2 hx] at hmf;cases hmf
      rw [List.take_succ_eq_append_getElem hjA,decide_eq_true_iff]
      constructor
      ·intro he;rw [← he];exact List.mem_append_right _ (List.mem_singleton.2 rfl)
      ·intro hm'
       rcases List.mem_append.1 hm' with hm' | hm'
       ·exact absurd hm' hx
       ·exact (List.mem_singleton.1 hm').symm
   exact find A.length 0 false w ω (by omega) top o (by simp)
 exact key l.length 0 nilS (fun _=>0) w0 (by omega) (Top.init w0) (OT.nil ..)
theorem postF_take (n v:ByteArray) {l:List Ser} {i:Nat} (hi:i<l.length):postF n v (l.take (i+1)) 0=postF n v (l.take i) 0++(if getF n l[i].1=v then [i] else []):=by
 rw [List.take_succ_eq_append_getElem hi,postF_snoc,Nat.zero_add,List.length_take,Nat.min_eq_left (by omega)]
theorem postE_ok {s:Sl} {q:QS} (h:RdQ w0 s q) (hl:q.length≤100000000) (h16:∀ p∈q,p.1.1.length≤100000000) {n:ByteArray} {K:Sl→World→Prop} (hK:∀ r w',Keep w0 w'→Mem.Own w' w0.heap.size 3 1 r (ints (postF n (⟨#[]⟩:ByteArray) (q.map (·.1)) 0))→K r w'):C.block_Block_Postings.L5 (fun r w=>K r w) n nilS s ((s.n:Nat):Int) (0:Int) w0:=by
 have hsn:=h.n
 skip
 refine C.block_Block_Postings.L5_ind fun X hX=>?_
 have hLl:(q.map (·.1)).length=q.length:=List.length_map _
 have key:∀ (d i:Nat) (out:Sl) (ω:Tg) (w:World),i+d=q.length→Top w0 ω w→OT ω w 2 3 1 out (ints (postF n (⟨#[]⟩:ByteArray) ((q.map (·.1)).take i) 0))→X n out s ((s.n:Nat):Int) (i:Int) w:=by
  intro d
  induction d with
  | zero =>
   intro i out ω w hi top o
   refine hX _ _ _ _ _ _ ?_
   unfold C.block_Block_Postings.S7 C.block_Block_Postings.S2
   refine cond_d (fun h=>by omega) (fun _=>?_)
   rw [List.take_of_length_le (by omega)] at o
   exact hK out w top.k (otNew o top)
  | succ d ih =>
   intro i out ω w hi top o
   refine hX _ _ _ _ _ _ ?_
   unfold C.block_Block_Postings.S7
   have hiq:i<q.length:=by omega
   have hx:q[i]?=some q[i]:=List.getElem?_eq_getElem hiq
   have hsx:=h.el _ (List.getElem_mem hiq)
   have et:=postF_take n (⟨#[]⟩:ByteArray) (l:=q.map (·.1)) (i:=i) (by omega)
   have hvl:=postF_len n (⟨#[]⟩:ByteArray) ((q.map (·.1)).take i) 0
   have htl:((q.map (·.1)).take i).length≤i:=by rw [List.length_take];omega
   rw [List.getElem_map] at et
   refine cond_d (fun _=>?_) (fun h=>by omega)
   refine rdQ_at (h.rd.keep top.k) (k:=i) rfl hx fun a e0 e1=>cSl_at e0<|cSl_at e1 ?_
   refine locS fun g w3 k3 hg b3=>cSl_at (s:=q[i].2.1) (by rw [b3.cell];rfl) ?_
   have s3:=k3.1.stp0 ω
   refine get_ok (hsx.lb.keep (top.stp s3).k) (h16 _ (List.getElem_mem hiq)) fun w4 k4=>?_
   have s4:=k4.stp0 ω
   have top4:=(top.stp s3).stp s4
   have o4:=(o.stp s3).stp s4
   have hon:=ints_n o4.rd
   rw [wI64 (by omega) (by omega),show (i:Int)+1=((i+1:Nat):Int) by omega,ba_ne]
   refine cond_d (fun heq=>?_) (fun hne=>?_)
   ·rw [if_pos heq] at et
    refine push_T tiN o4 (n:=1) rfl (by intro v hv;simp at hv;subst hv;rfl) (by simp only [maxLen];omega) (by omega) fun r ω5 w5 k5 o5 _=>?_
    refine ih (i+1) r ω5 w5 (by omega) (top4.stp k5) ?_
    rw [et,ints_app];exact o5
   ·rw [if_neg hne,List.append_nil] at et
    refine ih (i+1) out ω w4 (by omega) top4 ?_
    rw [et];exact o4
 exact key q.length 0 nilS (fun _=>0) w0 (by omega) (Top.init w0) (OT.nil ..)
end Go.Proofs.YtmfgmcajelmgbaaGreatDoor.Bk

namespace Go.Proofs.YtmfgmcajelmgbaaGreatDoor.Rep
open Go Vm Go.RowKit Num Mem
variable {w : World} {α : Type}
theorem flat_len {enc:α→List Value} {k:Nat} (hk:∀ x,(enc x).length=k):∀ m:List α,(m.flatMap enc).length=m.length*k
 | []=>by simp
 | x::m=>by simp only [List.flatMap_cons,List.length_append,List.length_cons,hk,flat_len hk m,Nat.add_mul];omega
end Go.Proofs.YtmfgmcajelmgbaaGreatDoor.Rep

namespace Go.Proofs.YtmfgmcajelmgbaaGreatDoor.Bk
open Go Vm Go.RowKit Num Mem Utf Lib Lab Vint Bits Rep
variable {ω ω' : Tg} {w w' w0 : World} {T : Nat → Bool} {t u g gm : Nat}
theorem appNil {P:Program} {tt ty e:TypeId} {sz bytes:Nat} (ti:TI P tt e sz bytes) {x:Sl} {xs:List Value} (hx:Rd w x sz xs) (h1:∀ v∈xs,v.oneCell'=true) (hm:x.n≤maxLen) (hy:x.n*bytes≤140737488355328) {K:Sl→World→Prop}
  (hK:∀ r w',Keep w w'→Mem.Own w' w.heap.size e sz r xs→K r w'):G.runSl P (Builtin.append_ #[tt,tt] ty #[nilS.v,x.v]) w K:=by
 refine append_own ti (Keep.refl w) (Nat.le_refl _) (Mem.Own.nil w w.heap.size e sz) hx h1 (by simpa using hm) (by simpa using hy) fun r w' k o _ _=>hK r w' k (by simpa using o)
theorem rt_one {v:UInt8} (hv:v.toNat<128):rt [((⟨#[97]⟩,⟨#[v]⟩):Lb)]=(0,0):=by
 have h1:namedB (Utf.bytes ⟨#[97]⟩) 64 false=true:=by decide
 have h2:valE (Utf.bytes ⟨#[v]⟩)=0:=by
  unfold valE
  rw [if_neg (by simp [Utf.bytes]),if_neg (by simp [Utf.bytes]),if_pos (ascii_valid (by simp [Utf.bytes];exact hv))]
 unfold rt
 rw [if_neg (by simp)]
 unfold rtGo
 rw [if_neg (by rw [h1];decide),if_neg (by rw [h2];simp),if_neg (by simp [backB])]
 rfl
def oneS (v:UInt8):Ser:=([(⟨#[97]⟩,⟨#[v]⟩)],[(5,4607182418800017408)])
theorem oneS_ris (v:UInt8):Chunk.Rising (oneS v).2:=Chunk.Rising.snoc (l:=[]) .nil (by decide) (by decide) rfl (by decide)
theorem oneS_ok {v:UInt8} (hv:v.toNat<128):serE (oneS v)=0:=by
 have h1:(oneS v).2≠[]:=by unfold oneS;simp
 have h2:(Chunk.swr [] (oneS v).2 0).1=0:=by show (Chunk.swr [] [(5,4607182418800017408)] 0).1=0;decide
 rw [serE_of h1 h2,if_neg ?_]
 have a:=put_small (m:=(oneS v).1) (by rw [show rt (oneS v).1=(0,0) from rt_one hv])
 have b:=cpay_len (chs (oneS v).2) (chs_each (oneS_ris v))
 have c:(chs (oneS v).2).length=1:=by
  have e:(oneS v).2.length=1:=rfl
  rw [chs_len];omega
 have d:=putU_len64 (n:=(chs (oneS v).2).length) (by omega)
 unfold pay
 simp only [List.length_append]
 omega
theorem oneS_ne:(oneS 50).1≠(oneS 49).1:=by
 intro e
 unfold oneS at e
 simp at e
theorem fit2:Fit [oneS 49,oneS 50]:=by
 refine ⟨fun x hx=>?_,fun x hx=>?_,?_⟩
 ·simp only [List.mem_cons,List.not_mem_nil,or_false] at hx
  rcases hx with rfl | rfl<;>(unfold oneS;rw [rt_one (by decide)])
 ·simp only [List.mem_cons,List.not_mem_nil,or_false] at hx
  rcases hx with rfl | rfl<;>exact oneS_ok (by decide)
 ·simp only [List.map_cons,List.map_nil,List.nodup_cons,List.mem_singleton,List.not_mem_nil,not_false_eq_true,List.nodup_nil,and_true]
  exact fun e=>oneS_ne e.symm
theorem blo2:Blo [oneS 49,oneS 50]:=by
 have fit:=fit2
 have hfl:∀ x∈[oneS 49,oneS 50],∀ y∈x.2,y.2<18446744073709551616:=by
  intro x hx y hy
  simp only [List.mem_cons,List.not_mem_nil,or_false] at hx
  rcases hx with rfl | rfl<;>(unfold oneS at hy;simp only [List.mem_cons,List.not_mem_nil,or_false] at hy;subst hy;decide)
 have hsl:∀ x∈[oneS 49,oneS 50],x.2.length≤11000000:=by
  intro x hx
  simp only [List.mem_cons,List.not_mem_nil,or_false] at hx
  rcases hx with rfl | rfl<;>(unfold oneS;simp)
 refine ⟨fit,hfl,?_,by simp,hsl,?_⟩
 ·refine List.pairwise_cons.2 ⟨fun y hy=>?_,List.pairwise_singleton ..⟩
  rw [List.mem_singleton] at hy
  subst hy
  have:cmpL (oneS 50).1 (oneS 49).1=1:=by decide +kernel
  unfold leS;omega
 ·have hh:=hd_len (fit_ris fit hfl) (by simp) hsl
  have hf:=frameOf_len (m:=hd [oneS 49,oneS 50]) (by omega)
  have hg:=Vint.flat_len (fs:=[oneS 49,oneS 50].map pay) (fun m hm=>by
   obtain ⟨x,hx,rfl⟩:=List.mem_map.1 hm
   exact (fit.rising hx).2.2)
  have hm:magicB.length=8:=rfl
  rw [List.length_map] at hg
  unfold bytesOf
  simp only [List.length_append,List.length_cons,List.length_nil] at hg ⊢
  omega
theorem build2:buildR [oneS 50,oneS 49]=(bytesOf [oneS 49,oneS 50],0,0):=by
 have hw:=fit_wrg [oneS 50,oneS 49] [] 0 (by rw [List.nil_append];exact fit2.perm (List.Perm.swap _ _ _))
 have es:srt [oneS 50,oneS 49]=[oneS 49,oneS 50]:=(srt_of (List.Perm.swap _ _ _) (by
  have:=(fit2.perm (List.Perm.swap (oneS 49) (oneS 50) [])).nd
  exact this) blo2.up).symm
 have hz:=blo2.sz
 unfold buildR
 rw [if_neg (by simp),hw,if_neg (by simp),es,if_neg (by omega)]
theorem post2:post [oneS 49,oneS 50] (⟨#[97]⟩,⟨#[50]⟩)=[1]:=by decide +kernel
theorem awake_ok (hT:DTab w) (ht:UTab w) (hv:Vint.Tab w) {K:Bool→World→Prop} (hK:∀ w',Keep w w'→K true w'):C.tocsinlaw10_awake w K:=by
 unfold C.tocsinlaw10_awake
 refine newD fun g1 w1 k1 _ b1=>newD fun g2 w2 k2 _ b2=>newD fun g3 w3 k3 _ b3=>newD fun g4 w4 k4 _ b4=>?_
 have k34:=Keep.trans k3.1 k4.1
 have k24:=Keep.trans k2.1 k34
 have k04:=Keep.trans k1.1 k24
 have hsm:Rd w4 ⟨some ⟨g1,0,none⟩,1,1⟩ 2 (Chunk.smps [(5,4607182418800017408)]):=by
  have:=Rd.blk (o:=0) (n:=1) (c:=1) (sz:=2) (b1.keep k24) (Nat.le_refl _) (by simp)
  simpa [Chunk.smps,Chunk.smpC] using this
 have hl2:Rd w4 ⟨some ⟨g2,0,none⟩,1,1⟩ 2 (labs [(⟨#[97]⟩,⟨#[50]⟩)]):=by
  have:=Rd.blk (o:=0) (n:=1) (c:=1) (sz:=2) (b2.keep k34) (Nat.le_refl _) (by simp)
  simpa [labs,labC] using this
 have hl1:Rd w4 ⟨some ⟨g3,0,none⟩,1,1⟩ 2 (labs [(⟨#[97]⟩,⟨#[49]⟩)]):=by
  have:=Rd.blk (o:=0) (n:=1) (c:=1) (sz:=2) (b3.keep k4.1) (Nat.le_refl _) (by simp)
  simpa [labs,labC] using this
 have hq:RdQ w4 ⟨some ⟨g4,0,none⟩,2,2⟩ [(oneS 50,⟨some ⟨g2,0,none⟩,1,1⟩,⟨some ⟨g1,0,none⟩,1,1⟩),(oneS 49,⟨some ⟨g3,0,none⟩,1,1⟩,⟨some ⟨g1,0,none⟩,1,1⟩)]:=by
  refine ⟨?_,fun p hp=>?_⟩
  ·have:=Rd.blk (o:=0) (n:=2) (c:=2) (sz:=2) b4 (Nat.le_refl _) (by simp)
   simpa [sers,serC] using this
  ·simp only [List.mem_cons,List.not_mem_nil,or_false] at hp
   have sz:∀ v:UInt8,(⟨#[v]⟩:ByteArray).size=1:=fun v=>rfl
   rcases hp with rfl | rfl
   ·exact ⟨hl2,hsm,by unfold oneS;simp,by unfold oneS;simp,by unfold oneS;simp [sz],by unfold oneS;simp⟩
   ·exact ⟨hl1,hsm,by unfold oneS;simp,by unfold oneS;simp,by unfold oneS;simp [sz],by unfold oneS;simp⟩
 refine build_ok (hT.keep k04) (ht.keep k04) (hv.keep k04) hq (by simp) fun b w5 k5 o5=>?_
 have eL:([(oneS 50,(⟨some ⟨g2,0,none⟩,1,1⟩:Sl),(⟨some ⟨g1,0,none⟩,1,1⟩:Sl)),(oneS 49,⟨some ⟨g3,0,none⟩,1,1⟩,⟨some ⟨g1,0,none⟩,1,1⟩)]:QS).map (·.1)=[oneS 50,oneS 49]:=rfl
 rw [eL,build2] at o5 ⊢
 dsimp only at o5 ⊢
 have k05:=Keep.trans k04 k5
 have hz:=blo2.sz
 refine open_ok (hT.keep k05) (ht.keep k05) (hv.keep k05) (OwnB.rd o5) (by omega) 1000 (Nat.le_refl _) (fun hn=>?_) (fun l hl g gm bs rs q es ω6 w6 top6 eq bk=>?_)
 ·rw [open_bytes blo2] at hn;cases hn
 rw [open_bytes blo2] at hl
 injection hl with hl
 subst hl
 refine cond_f rfl<|cond_f rfl<|cond_f rfl ?_
 have hql:q.length=2:=by have:=congrArg List.length eq;rw [List.length_map] at this;exact this
 rw [← eq] at bk
 refine postV_ok bk (by omega) (by decide +kernel) ⟨by decide,by decide⟩ fun r ω7 w7 k7 bk7 or7=>?_
 have hr:=or7.rd
 rw [eq,post2] at hr
 have hrn:r.n=1:=by have:=hr.2.1;rw [ints_len] at this;simpa using this.symm
 have top7:=top6.stp k7
 refine cond_t (by simp [hrn]) ?_
 refine Rd.ix hr (by decide) (by decide) (by omega) fun a ha=>cI_at (n:=1) (by have:=ha 0 (.int .i64 1) (by decide) rfl;rwa [show a.add 0=a by simp [Addr.add]] at this) ?_
 refine cond_t rfl<|len_ok (bk7.ar (by omega))<|cond_t (by simp [hql]) ?_
 have hc:cntOf (q.map (·.1))=2:=by rw [eq];rfl
 refine samples_ok (bk7.ar (by omega)) (by omega) fun w8 k8=>?_
 rw [hc]
 exact hK w8 (Keep.trans k05 (Keep.trans top7.k k8))
instance:Inhabited SQ:=⟨(([],[]),nilS,nilS)⟩
theorem str_same {a b:List UInt8}:((Utf.str a).toList==(Utf.str b).toList)=decide (a=b):=by
 rw [ByteArray.toList_eq,ByteArray.toList_eq]
 change (Utf.bytes (Utf.str _)==Utf.bytes (Utf.str _))=_
 rw [bytes_str,bytes_str]
 by_cases h:a=b
 ·rw [decide_eq_true h,h];simp
 ·rw [decide_eq_false h];simp [h]
end Go.Proofs.YtmfgmcajelmgbaaGreatDoor.Bk

namespace Go.Proofs.YtmfgmcajelmgbaaGreatDoor.Bk
open Go Vm Go.RowKit Num Mem Utf Lib Lab Vint Bits Rep
variable {ω ω' : Tg} {w w' w0 : World} {T : Nat → Bool} {t u g gm : Nat}
def f2 (x:Nat):Nat:=if x=2 then 2 else if x=71 then 71 else if x=72 then 72 else 0
theorem every_ok (ω:Tg) {rs:Sl} {q:QS} (h:AR w g rs q) {m:Nat} (hm:0<m) {K:Sl→World→Prop}
  (hK:∀ r q' ω' w',Stp Non ω ω' w w'→OT ω' w' 2 57 2 r (sers q')→q'.map (·.1)=(q.map (·.1)).take m→(∀ p∈q',OT ω' w' 71 93 2 p.2.1 (labs p.1.1)∧OT ω' w' 72 96 2 p.2.2 (Chunk.smps p.1.2))→K r w'):C.tocsinlaw10_every (some ⟨g,0,none⟩) (m:Int) w K:=by
 unfold C.tocsinlaw10_every
 refine new_T (ω:=fun _=>0) 1 fun g1 ω1 w1 k1 b1=>new_T (ω:=ω1) 4 fun g2 ω2 w2 k2 b2=>?_
 unfold C.block_Block_All
 refine new_T (ω:=ω2) 6 fun g3 ω3 w3 k3 b3=>isNilF_no (cond_f rfl ?_)
 unfold C.tocsinlaw10_every.S9 C.tocsinlaw10_every.R5
 have top3:=(((Top.init w).stp k1).stp k2).stp k3
 have hqn:=h.n
 have fin:∀ {ω':Tg} {w':World} {D:Nat} {s:Sl} {ql:QS},w'.heap[D]?=some (.deferred (some []))→ω' D=3→Top w ω' w'→BT ω' w' 4 g2 27 [Sl.v s]→OT ω' w' 2 57 2 s (sers ql) →
   ql.map (·.1)=(q.map (·.1)).take m→(∀ p∈ql,OT ω' w' 71 93 2 p.2.1 (labs p.1.1)∧OT ω' w' 72 96 2 p.2.2 (Chunk.smps p.1.2))→C.tocsinlaw10_every.S2 K (some ⟨g2,0,none⟩) (pushMark undef D) w':=by
  intro ω' w' D s ql hD hDu top x1 o eq hr
  unfold C.tocsinlaw10_every.S2
  have sp:=put_stp (ω:=ω') (w:=w') (o:=.deferred none) hDu
  refine ptr_at (cSl_at (s:=s) (by rw [x1.cell];rfl) (marks_at hD ?_))
  have tp:=top.stp sp
  exact hK s ql (rtg ω _ w.heap.size f2) _ (rtg_stp tp.k ω _ f2) ((o.stp sp).rtg tp f2) eq fun p hp=>⟨((hr p hp).1.stp sp).rtg tp f2,((hr p hp).2.stp sp).rtg tp f2⟩
 refine rangeGW_ok (T:=Duo 2 4) (u:=3) (J:=fun i ω w2=>Top w ω w2∧BT ω w2 1 g1 3 [.int .i64 (m:Int)]∧BT ω w2 6 g3 23 [.pointer (some ⟨g,0,none⟩)]∧i<m∧∃ s ql,BT ω w2 4 g2 27 [Sl.v s]∧OT ω w2 2 57 2 s (sers ql)∧ql.map (·.1)=(q.map (·.1)).take i∧∀ p∈ql,OT ω w2 71 93 2 p.2.1 (labs p.1.1)∧OT ω w2 72 96 2 p.2.2 (Chunk.smps p.1.2))
  (E:=fun e ω w2=>e=.exit 0∧Top w ω w2∧∃ s ql,BT ω w2 4 g2 27 [Sl.v s]∧OT ω w2 2 57 2 s (sers ql)∧ql.map (·.1)=(q.map (·.1)).take m∧∀ p∈ql,OT ω w2 71 93 2 p.2.1 (labs p.1.1)∧OT ω w2 72 96 2 p.2.2 (Chunk.smps p.1.2))
  (all_tellsB (ga:=g3) (g:=g) (rs:=rs) (q:=q) fun _ _ _ h=>h) rfl rfl ?_ ?_ ?_ ?_ ?_ ⟨top3,(b1.stp k2).stp k3,b3,hm,nilS,[],b2.stp k3,OT.nil ..,by simp,by simp⟩ ?_ ?_
 ·rintro i j a ω ω' w w' ⟨e,p,r,s,hp,ea,o1,o2⟩ k
  exact ⟨e,p,r,s,hp,ea,o1.stp k rfl,o2.stp k rfl⟩
 ·rintro i ω w2 ⟨top,_,x3,_⟩
  exact ⟨by rw [x3.cell];rfl,h.keep top.k⟩
 ·rintro S hS i ω ω' w w' ⟨top,x1,x3,hm,s,ql,x2,o,e,hr⟩ k
  have z:S 0=false∧S 1=false∧S 2=false∧S 4=false∧S 6=false∧S 71=false∧S 72=false:=by rcases hS with rfl | rfl<;>exact ⟨rfl,rfl,rfl,rfl,rfl,rfl,rfl⟩
  exact ⟨top.stp k z.1,x1.stp k z.2.1,x3.stp k z.2.2.2.2.1,hm,s,ql,x2.stp k z.2.2.2.1,o.stp k z.2.2.1,e,fun p hp=>⟨(hr p hp).1.stp k z.2.2.2.2.2.1,(hr p hp).2.stp k z.2.2.2.2.2.2⟩⟩
 ·rintro S hS e ω ω' w w' ⟨he,top,s,ql,x2,o,eq,hr⟩ k
  have z:S 0=false∧S 2=false∧S 4=false∧S 71=false∧S 72=false:=by rcases hS with rfl | rfl<;>exact ⟨rfl,rfl,rfl,rfl,rfl⟩
  exact ⟨he,top.stp k z.1,s,ql,x2.stp k z.2.2.1,o.stp k z.2.1,eq,fun p hp=>⟨(hr p hp).1.stp k z.2.2.2.1,(hr p hp).2.stp k z.2.2.2.2⟩⟩
 ·rintro i j args ω w4 bz Rr ⟨rfl,p,r,c,hp,rfl,o1,o2⟩ ⟨top,x1,x3,him,s,ql,x2,o,e,hr⟩ hz
  unfold C.tocsinlaw10_every.B_R5 Sl.v
  dsimp only
  refine locS fun g5 w5 k5 hg5 b5=>?_
  have s5:=k5.1.stp ω 5
  refine hz _ (ext ω w4.heap.size 5) w5 s5 fun w6 s6 hR hX=>?_
  have b5t:BT (ext ω w4.heap.size 5) w5 5 g5 57 [r.v,c.v]:=⟨b5,ext_new hg5⟩
  generalize ext ω w4.heap.size 5=ω5 at *
  have b6:=b5t.stp s6
  have x16:=(x1.stp s5).stp s6
  have x26:=(x2.stp s5).stp s6
  have x36:=(x3.stp s5).stp s6
  have o6:=(o.stp s5).stp s6
  have top6:=(top.stp s5).stp s6
  have hr6:∀ y∈ql,_∧_:=fun y hy=>And.intro (((hr y hy).1.stp s5).stp s6) (((hr y hy).2.stp s5).stp s6)
  have p6:=(o1.stp s5).stp s6
  have c6:=(o2.stp s5).stp s6
  unfold C.tocsinlaw10_every.S7
  have hil:=(List.getElem?_eq_some_iff.1 hp).1
  have hLi:(q.map (·.1))[i]?=some p.1:=by rw [List.getElem?_map,hp];rfl
  have hsn:=rdQ_n o.rd
  have hqn:ql.length=i:=by have:=congrArg List.length e;simp at this;omega
  refine ptr_at<|cSl_at (s:=s) (by rw [x26.cell];rfl)<|ptr_at<|cSl_at (s:=r) (by rw [b6.cell];rfl)<|cSl_at (s:=c) (by rw [addr_add,b6.cell];rfl) ?_
  refine push_T (n:=1) tiQ o6 rfl (by intro v hv;simp at hv;rcases hv with rfl | rfl<;>rfl) (by simp only [maxLen];omega) (by omega) fun r7 ω7 w7 k7 o7 hr7=>?_
  refine ptr_at (st_T (x26.stp k7) (by simp) fun ω8 w8 k8 b8=>?_)
  have x18:=(x16.stp k7).stp k8
  have top8:=(top6.stp k7).stp k8
  have o8:=o7.stp k8
  have e4:sers (ql++[(p.1,r,c)])=sers ql++[r.v,c.v]:=by rw [sers_app];rfl
  have e8:(ql++[(p.1,r,c)]).map (·.1)=(q.map (·.1)).take (i+1):=by rw [List.map_append,e,List.take_add_one,hLi];rfl
  have hr8:∀ y∈ql++[(p.1,r,c)],OT ω8 w8 71 93 2 y.2.1 (labs y.1.1)∧OT ω8 w8 72 96 2 y.2.2 (Chunk.smps y.1.2):=fun y hy=>by
   rcases List.mem_append.1 hy with hy | hy
   ·exact ⟨((hr6 y hy).1.stp k7).stp k8,((hr6 y hy).2.stp k7).stp k8⟩
   ·rw [List.mem_singleton.1 hy];exact ⟨(p6.stp k7).stp k8,(c6.stp k7).stp k8⟩
  refine ptr_at<|cSl_at (s:=r7) (by rw [b8.cell];rfl)<|ptr_at<|cI_at (n:=(m:Int)) (by rw [x18.cell];rfl) ?_
  refine cond_d (fun hq=>?_) (fun hq=>?_)
  ·have em:m=i+1:=by omega
   exact hX (.exit 0) (.exit 0) ω8 w8 rfl (k7.one.trans k8.two) ⟨rfl,top8,r7,_,b8,by rw [e4];exact o8,by rw [em];exact e8,hr8⟩
  ·exact hR ω8 w8 (k7.one.trans k8.two) ⟨top8,x18,(x36.stp k7).stp k8,by omega,r7,_,b8,by rw [e4];exact o8,e8,hr8⟩
 ·rintro ω' w' D hD hDu ⟨i,rfl,top,x1,x3,him,s,ql,x2,o,e,hr⟩
  refine fin hD hDu top x2 o ?_ hr
  rw [e,List.take_of_length_le (by rw [List.length_map];exact Nat.le_refl _),List.take_of_length_le (by rw [List.length_map];omega)]
 ·rintro e ω' w' D hD hDu ⟨rfl,top,s,ql,x2,o,eq,hr⟩
  show bif Nat.beq 0 0 then C.tocsinlaw10_every.S2 K (some ⟨g2,0,none⟩) (pushMark undef D) w' else False
  exact bif_t (fin hD hDu top x2 o eq hr)
theorem every_rd {r:Sl} {q' q:QS} (o:OT ω w 2 57 2 r (sers q')) (hr:∀ p∈q',OT ω w 71 93 2 p.2.1 (labs p.1.1)∧OT ω w 72 96 2 p.2.2 (Chunk.smps p.1.2)) {m:Nat} (e:q'.map (·.1)=(q.map (·.1)).take m) (hq:∀ p∈q,SeOk w0 p):RdQ w r q':=by
 refine ⟨o.rd,fun p hp=>?_⟩
 have hp1:p.1∈q.map (·.1):=List.mem_of_mem_take (by rw [← e];exact List.mem_map_of_mem hp)
 obtain ⟨y,hy,e⟩:=List.mem_map.1 hp1
 have hs:=hq y hy
 have hf:=hs.fl;have hsl:=hs.sl;have hll:=hs.ll;have hl9:=hs.l9
 rw [e] at hf hsl hll hl9
 exact ⟨(hr p hp).1.rd,(hr p hp).2.rd,hf,hsl,hll,hl9⟩
theorem bytes_ok {bs rs:Sl} {b:List UInt8} {q:QS} {F:Lb→List Nat} {es:List IE} {k:Int} (h:BK ω w t g gm bs rs b q F es k) (hb:b.length≤100000000) {K:Sl→World→Prop} (hK:∀ r w',Keep w w'→OwnB w' w.heap.size r b→K r w'):C.block_Block_Bytes (some ⟨g,0,none⟩) w K:=by
 unfold C.block_Block_Bytes
 exact cond_f rfl (ptr_at (cSl_at (s:=bs) (by rw [h.hd.cell];rfl) (cloneB_ok h.by_.rd hb hK)))
theorem isS_at {b:Sl} {l:List UInt8} (h:RdB w b l):isS Tryz.prog b (Utf.str l) w:=by
 have:=Utf.convBS (P:=Tryz.prog) h (K:=fun s=>s=Utf.str l) rfl
 obtain ⟨s,hs,e⟩:=this
 subst e
 exact hs 0
end Go.Proofs.YtmfgmcajelmgbaaGreatDoor.Bk

namespace Go.Proofs.YtmfgmcajelmgbaaGreatDoor.Mem
open Go Vm Go.RowKit Num
variable {ω ω' : Tg} {w w' : World} {t g u r : Nat} {al rest : LL} {T : Nat → Bool} {P : Program}
structure IL (ω:Tg) (w:World) (u r t g:Nat) (al rest:LL):Prop where
 ex:∃ es clock since seen c0,w.heap[g]?=some (.map es clock)∧MapKept.Stamped es clock∧es.toList.map (fun e=>(e.key,e.val))=al.map encL ∧
  w.heap[r]?=some (.mapIter (some g) since seen c0)∧(∀ x∈es.toList,x.born<since)∧since≤c0∧since≤clock∧(leftOf es seen).toList.map (fun e=>(e.key,e.val))=rest.map encL
 tg:ω g=t
 tr:ω r=u
theorem IL.stp (h:IL ω w u r t g al rest) (s:Stp T ω ω' w w') (n1:T u=false) (n2:T t=false):IL ω' w' u r t g al rest:=by
 obtain ⟨es,clock,since,seen,c0,hb,hs,he,hr,x⟩:=h.ex
 exact ⟨⟨es,clock,since,seen,c0,by rw [s.block g (heap_lt hb) (by rw [h.tg];exact n2)];exact hb,hs,he,by rw [s.block r (heap_lt hr) (by rw [h.tr];exact n1)];exact hr,x⟩,(s.same g (heap_lt hb)).trans h.tg,(s.same r (heap_lt hr)).trans h.tr⟩
theorem rangeL {mt kt et:TypeId} (u:Nat) (h:ML ω w t g al) (hm:P.underlying mt=some (.map kt et)) {K:Option Addr→World→Prop}
  (hK:∀ r ω' w',Stp Non ω ω' w w'→IL ω' w' u r t g al al→K (some ⟨r,0,none⟩) w'):G.runP P (Instr.range mt (.map (some g))) w K:=by
 obtain ⟨es,clock,hb,hs,he⟩:=h.ex
 have hg:=heap_lt hb
 refine ⟨some ⟨w.heap.size,0,none⟩,w.alloc (.mapIter (some g) clock #[] clock),?_,hK w.heap.size (ext ω w.heap.size u) _ ((Keep.alloc w _).stp ω u) ⟨⟨es,clock,clock,#[],clock,(Keep.alloc w _).heap hb,hs,he,World.alloc_heap_new w _,((MapKept.stamped_iff es clock).1 hs).1,Nat.le_refl _,Nat.le_refl _,?_⟩,?_,ext_new (Nat.le_refl _)⟩⟩
 ·simp [Instr.range,run_underlying hm,MapKept.run_getObj_map hb,Result.andThen,newObj,Sem.run]
 ·rw [← he];simp only [leftOf,Array.toList_filter];rw [List.filter_eq_self.2 (by simp)]
 ·rw [ext_old hg];exact h.tag
theorem nextL {ty:TypeId} (h:IL ω w u r t g al rest) {K0:World→Prop} {K1:Value→Value→World→Prop} (h0:rest=[]→K0 w)
  (h1:∀ a x b ω' w',rest=a++x::b→Stp (One u) ω ω' w w'→IL ω' w' u r t g al (a++b)→(∀ K:Value→Value→Prop,K (lbV x.1) x.2→G.ent P (Instr.entry (.pointer (some ⟨r,0,none⟩))) w' K)→∀ k v,K1 k v w') :
  G.nxt P (Instr.next (.pointer (some ⟨r,0,none⟩)) false ty) w K0 K1:=by
 obtain ⟨es,clock,since,seen,c0,hb,hs,he,hr,hold,hsc,hcl,hl⟩:=h.ex
 have hn:=((MapKept.stamped_iff es clock).1 hs).2.1
 have hne:r≠g:=fun e=>by subst e;rw [hb] at hr;cases hr
 rcases run_next_at (P:=P) w ty r g since c0 seen es clock hr hb hold hsc with ⟨hz,hrun⟩ | ⟨e,hem,w1,hw1,hrun⟩
 ·refine ⟨w,.inl ⟨hrun,h0 ?_⟩⟩
  have:rest.length=0:=by have:=congrArg List.length hl;simpa [hz] using this.symm
  exact List.eq_nil_of_length_eq_zero this
 ·obtain ⟨a,b,hab,hab'⟩:=left_push hn hem
  rw [hab] at hl
  simp only [List.map_append,List.map_cons] at hl
  obtain ⟨ra,rb,hrab,h2,h3⟩:=List.map_eq_append_iff.1 hl.symm
  cases rb with
  | nil=>simp at h3
  | cons x rb =>
   simp only [List.map_cons,List.cons.injEq,encL,Prod.mk.injEq] at h3
   have s1:Stp (One u) ω ω w w1:=by
    rcases hw1 with rfl | rfl
    ·exact Stp.refl _ _ _
    ·exact (drew_stp ω w).non _
   have hb1:w1.heap[g]?=some (.map es clock):=by rcases hw1 with rfl | rfl<;>exact hb
   have hr1:w1.heap[r]?=some (.mapIter (some g) since seen c0):=by rcases hw1 with rfl | rfl<;>exact hr
   have hb2:(ChangeMaps.setBlock w1 r (.mapIter (some g) since (seen.push e.born) clock)).heap[g]?=some (.map es clock):=by
    simp [ChangeMaps.setBlock,hne,hb1]
   have hr2:(ChangeMaps.setBlock w1 r (.mapIter (some g) since (seen.push e.born) clock)).heap[r]?=some (.mapIter (some g) since (seen.push e.born) clock):=by
    have:=heap_lt hr1
    simp [ChangeMaps.setBlock,this]
   have hes:e∈es.toList:=by
    have:(leftOf es seen).toList.Sublist es.toList:=by simp only [leftOf,Array.toList_filter];exact List.filter_sublist
    exact this.subset hem
   refine ⟨_,.inr ⟨e.key,e.val,hrun,h1 ra x rb ω _ hrab (s1.trans (setBlock_stp h.tr)) ⟨⟨es,clock,since,seen.push e.born,clock,hb2,hs,he,hr2,hold,hcl,hcl,?_⟩,h.tg,h.tr⟩ (fun K hK=>⟨_,_,run_entry_at _ r g since seen es clock e hr2 hb2 hes hn,?_⟩) _ _⟩⟩
   ·rw [hab',List.map_append,List.map_append,h2,← h3.2]
   ·have e1:e.key=lbV x.1:=h3.1.1.symm
    have e2:e.val=x.2:=h3.1.2.symm
    rw [e1,e2];exact hK
end Go.Proofs.YtmfgmcajelmgbaaGreatDoor.Mem

namespace Go.Proofs.YtmfgmcajelmgbaaGreatDoor.Bk
open Go Vm Go.RowKit Num Mem Utf Lib Lab Vint Bits Rep
variable {ω ω' : Tg} {w w' w0 : World} {T : Nat → Bool} {t u g gm : Nat}
theorem ag_at {cs:Array Value} {n:Nat} {K:Array Value→Prop} (hn:cs.size=n) (hK:K cs):G.ag (.agg cs) n K:=by
 subst hn
 show bif Nat.beq cs.size cs.size then K cs else False
 rw [Nat.beq_refl];exact hK
theorem unique_ok {s:Sl} {ns:List ByteArray} (h:OT ω w t 9 1 s (strs ns)) (hl:ns.length≤100000000) {K:Sl→World→Prop}
  (hK:∀ r ω' w',Stp (Mem.One t) ω ω' w w'→OT ω' w' t 9 1 r (strs (uniq ns))→K r w'):C.block_unique s w K:=by
 have hn:=strs_n h.rd
 unfold C.block_unique C.slices_Sort_string_string
 rw [strs_enc] at h
 refine Srt.sort_T h (by omega) fun ω1 w1 k1 o1=>?_
 rw [msort_W,← strs_enc] at o1
 exact compact_ok o1 (by rw [(srtW_perm ns).length_eq];exact hl) fun r ω2 w2 k2 o2=>hK r ω2 w2 (k1.trans k2) o2
theorem uniq_congr {a b:List ByteArray} (h:∀ x,x∈a↔x∈b):uniq a=uniq b:=ups_uniq (uniq_ups a) (uniq_ups b) fun x=>by rw [mem_uniq,mem_uniq];exact h x
theorem postGo_ne {x:Lb}:∀ {l:List Ser} {i:Nat},postGo x l i≠[]↔∃ s∈l,x∈s.1
 | [],_=>⟨fun h=>absurd rfl h,fun ⟨_,h,_⟩=>by cases h⟩
 | s::r,i=>by
  rw [postGo]
  split
  ·rename_i h;exact ⟨fun _=>⟨s,List.mem_cons_self ..,hasL_iff.1 h⟩,fun _=>by simp⟩
  ·rename_i h
   rw [postGo_ne (l:=r)]
   constructor
   ·rintro ⟨y,hy,e⟩;exact ⟨y,List.mem_cons_of_mem _ hy,e⟩
   ·rintro ⟨y,hy,e⟩
    rcases List.mem_cons.1 hy with rfl | hy
    ·exact absurd (hasL_iff.2 e) h
    ·exact ⟨y,hy,e⟩
theorem IX.mem {es:List IE} {L:List Ser} (ix:IX ω w t u gm (post L) es) {x:Lb}:x∈es.map (·.1)↔∃ s∈L,x∈s.1:=by
 rw [← postGo_ne (i:=0)]
 constructor
 ·intro h
  obtain ⟨e,he,rfl⟩:=List.mem_map.1 h
  exact ix.ne e he
 ·exact ix.all x
theorem BK.post {bs rs:Sl} {b:List UInt8} {q:QS} {es:List IE} {k:Int} (h:BK ω w t g gm bs rs b q (post (q.map (·.1))) es k) (hq:q.length≤1000000) {name value:ByteArray} (hs:sml (name,value)) {K:Sl→World→Prop}
  (hK:∀ r ω' w',Stp (Mem.One t) ω ω' w w'→BK ω' w' t g gm bs rs b q (Bk.post (q.map (·.1))) es (IntKind.i64.wrap (k+1))→OT ω' w' 63 3 1 r (ints (postF name value (q.map (·.1)) 0))→K r w'):C.block_Block_Postings (some ⟨g,0,none⟩) name value w K:=by
 have hrt:∀ x∈q.map (·.1),(rt x.1).1=0:=fun x hx=>by
  obtain ⟨p,hp,rfl⟩:=List.mem_map.1 hx
  exact (h.el p hp).rt
 by_cases hv:value=(⟨#[]⟩:ByteArray)
 ·subst hv
  unfold C.block_Block_Postings
  refine cond_f rfl<|ptr_at<|asked_ok h fun ω1 w1 k1 b1=>?_
  refine cond_f (by simp) ?_
  unfold C.block_Block_Postings.S9
  refine ptr_at<|cSl_at (s:=rs) (by rw [addr_add,b1.hd.cell];rfl) ?_
  have hrd:=b1.rd
  exact postE_ok hrd (by omega) (fun p hp=>by have:=(rt_short (b1.el p hp).rt).1;omega) fun r w2 k2 o2=>hK r (ext ω1 w1.heap.size 63) w2 (k1.trans ((k2.stp ω1 63).non _)) (b1.stp (k2.stp ω1 63) (off_non t)) (Own.tag o2 (Nat.le_refl _) ω1 63)
 ·refine postV_ok h hq (fun e=>hv (ba_inj e)) hs fun r ω' w' k1 b1 r1=>hK r ω' w' k1 b1 ?_
  unfold Bk.post at r1
  rwa [post_F hv _ _ hrt] at r1
end Go.Proofs.YtmfgmcajelmgbaaGreatDoor.Bk

namespace Go.Proofs.YtmfgmcajelmgbaaGreatDoor.Bk
open Go Vm Go.RowKit Num Mem Utf Lib Lab Vint Bits Rep
variable {ω ω' : Tg} {w w' w0 : World} {T : Nat → Bool} {t u g gm : Nat}
end Go.Proofs.YtmfgmcajelmgbaaGreatDoor.Bk

namespace Go.Proofs.YtmfgmcajelmgbaaGreatDoor.Bk
open Go Vm Go.RowKit Num Mem Utf Lib Lab Vint Bits Rep
variable {ω ω' : Tg} {w w' w0 : World} {T : Nat → Bool} {t u g gm : Nat}
theorem tx_len (l:List UInt8) (p most:Int):(tx l p most).1.length≤l.length:=by
 unfold tx
 dsimp only
 repeat' split
 all_goals first | exact Nat.zero_le _ | (rw [List.length_take,List.length_drop];omega)
theorem rread_ok {b:Sl} {p:List UInt8} (hb:RdB w0 b p) (hl:p.length≤65536) {K:Sl→Int→Int→World→Prop}
  (hE:rl p=none→∀ (e:Int) w',e≠0→Keep w0 w'→K nilS 0 e w')
  (hK:∀ l a,rl p=some (l,a)→∀ r w',Keep w0 w'→Mem.Own w' w0.heap.size 93 2 r (labs l)→K r (a:Int) 0 w'):C.tocsinref04_Read b 0 w0 K:=by
 unfold C.tocsinref04_Read
 refine ru_ok hb (by omega) 0 ?_
 unfold rl at hE hK
 refine cond_ne (fun h=>?_) (fun h=>?_)
 ·have h':(uv p 0).2.2≠0:=fun e=>h (by rw [e];rfl)
  rw [if_pos h'] at hE
  exact hE rfl _ w0 (by exact_mod_cast h') (Keep.refl _)
 have hz:(uv p 0).2.2=0:=by exact_mod_cast h
 rw [if_neg (by simpa using hz)] at hE hK
 refine cond_d (fun h16=>?_) (fun h16=>?_)
 ·rw [if_pos (by omega)] at hE
  exact hE rfl 8 w0 (by decide) (Keep.refl _)
 rw [if_neg (by omega)] at hE hK
 unfold C.tocsinref04_Read.S9
 generalize (uv p 0).1=n at *
 refine C.tocsinref04_Read.L5_ind fun X hX=>?_
 have key:∀ (d i a:Nat) (acc:List Lb) (out:Sl) (ω:Tg) (w:World),i+d=n→acc.length=i→(∀ x∈acc,x.2.size≤65536)→Top w0 ω w→OT ω w 2 93 2 out (labs acc)→rlGo p d a acc=rlGo p n (uv p 0).2.1 []→X b (a:Int) (n:Int) out (i:Int) w:=by
  intro d
  induction d with
  | zero =>
   intro i a acc out ω w hi hacc hsz top o e
   refine hX _ _ _ _ _ _ ?_
   unfold C.tocsinref04_Read.S7 C.tocsinref04_Read.S2
   rw [rlGo] at e
   rw [← e] at hE hK
   simp only at hE hK
   refine cond_d (fun h=>by omega) (fun _=>?_)
   refine rright_ok o.rd (fun x hx=>by have:=hsz x hx;omega) fun w1 k1=>?_
   refine cond_ne (fun hr=>?_) (fun hr=>?_)
   ·rw [if_pos hr] at hE
    exact hE rfl _ w1 hr (Keep.trans top.k k1)
   ·rw [if_neg (by simpa using hr)] at hK
    exact hK acc a rfl out w1 (Keep.trans top.k k1) (Own.keep (otNew o top) k1)
  | succ d ih =>
   intro i a acc out ω w hi hacc hsz top o e
   refine hX _ _ _ _ _ _ ?_
   unfold C.tocsinref04_Read.S7
   rw [rlGo] at e
   have bad:none=rlGo p n (uv p 0).2.1 []→∀ (e:Int) w',e≠0→Keep w0 w'→K nilS 0 e w':=fun e0=>by
    rw [← e0] at hE
    exact hE rfl
   refine cond_d (fun _=>?_) (fun h=>by omega)
   refine new_T (ω:=ω) 7 fun g ω1 w1 k1 b1=>?_
   have top1:=top.stp k1
   refine rtext_ok (hb.keep top1.k) (by omega) (by decide) ?_
   generalize tx p (a:Int) 64=t1 at e ⊢
   refine cond_ne (fun h3=>?_) (fun h3=>?_)
   ·rw [if_pos (by omega)] at e
    exact bad e _ w1 h3 top1.k
   rw [if_neg (by omega)] at e
   refine st_T b1 (by simp) fun ω3 w3 k3 b3=>?_
   have top3:=top1.stp k3
   refine rtext_ok (hb.keep top3.k) (by omega) (by decide) ?_
   have hl2:=tx_len p (t1.2.1:Int) 256
   generalize tx p (t1.2.1:Int) 256=t2 at e hl2 ⊢
   refine cond_ne (fun h5=>?_) (fun h5=>?_)
   ·rw [if_pos (by omega)] at e
    exact bad e _ w3 h5 top3.k
   rw [if_neg (by omega)] at e
   refine st_TA b3 (by simp) fun ω5 w5 k5 b5=>?_
   have top5:=top3.stp k5
   refine cS_at (b:=Utf.str t1.1) (by rw [b5.cell];rfl)<|cS_at (b:=Utf.str t2.1) (by rw [addr_add,b5.cell];rfl) ?_
   have o5:=((o.stp k1).stp k3).stp k5
   have hon:=rdL_n o5.rd
   refine push_T tiL o5 (n:=1) rfl (by intro v hv;simp at hv;rcases hv with rfl | rfl<;>rfl) (by simp only [maxLen];omega) (by omega) fun r ω6 w6 k6 o6 _=>?_
   rw [wU64_id (by omega) (by omega),show (i:Int)+1=((i+1:Nat):Int) by omega]
   refine ih (i+1) _ _ r ω6 w6 (by omega) (by rw [List.length_append,hacc];rfl) (fun x hx=>?_) (top5.stp k6) ?_ e
   ·rcases List.mem_append.1 hx with hx | hx
    ·exact hsz x hx
    ·rw [List.mem_singleton.1 hx];show (Utf.str t2.1).size≤65536;rw [str_size];omega
   ·rw [labs_snoc];exact o6
 exact key n 0 (uv p 0).2.1 [] nilS (fun _=>0) w0 (by omega) rfl (by simp) (Top.init w0) (OT.nil _ _ _ _ _) rfl
theorem rseries_ok {b:Sl} {p:List UInt8} (hb:RdB w0 b p) (hl:p.length≤65536) {K:Sl→Sl→Bool→World→Prop}
  (hE:(¬ ∃ x,rdSer p=some (x,p.length))→∀ r s w',Keep w0 w'→K r s false w')
  (hK:∀ x,rdSer p=some (x,p.length)→∀ r s w',Keep w0 w'→SeOk w' (x,r,s)→(rt x.1).1=0→Mem.Own w' w0.heap.size 93 2 r (labs x.1)→Mem.Own w' w0.heap.size 96 2 s (Chunk.smps x.2)→K r s true w'):C.tocsinref10_series b w0 K:=by
 have hbn:=hb.len
 unfold C.tocsinref10_series
 refine new_T (ω:=fun _=>0) 7 fun g ω1 w1 k1 b1=>new_T (ω:=ω1) 12 fun gs ω2 w2 k2 c2=>?_
 have b2:=b1.stp k2
 have top2:=((Top.init w0).stp k1).stp k2
 obtain ⟨R,hR⟩:∃ R,rdSer p=R:=⟨_,rfl⟩
 rw [hR] at hE hK
 -- out,with nothing
 have out:(¬ ∃ x,R=some (x,p.length))→∀ {ω w} {x y:Sl},Top w0 ω w→BT ω w 7 g 57 [nilS.v,nilS.v]→BT ω w 12 gs 57 [x.v,y.v]→G.cSl ⟨gs,0,none⟩ w fun a=>G.cSl (Addr.add ⟨gs,0,none⟩ 1) w fun c=>G.st ⟨g,0,none⟩ a.v w fun w1=>G.st (Addr.add ⟨g,0,none⟩ 1) c.v w1 fun w2=>G.cSl ⟨g,0,none⟩ w2 fun a=>G.cSl (Addr.add ⟨g,0,none⟩ 1) w2 fun c=>K a c false w2:=by
  intro h ω w x y top bt ct
  refine cSl_at (s:=x) (by rw [ct.cell];rfl)<|cSl_at (s:=y) (by rw [addr_add,ct.cell];rfl) ?_
  refine st_T bt (by simp) fun ω2 w2 k2 b2=>st_TA b2 (by simp) fun ω3 w3 k3 b3=>?_
  exact cSl_at (s:=x) (by rw [b3.cell];rfl)<|cSl_at (s:=y) (by rw [addr_add,b3.cell];rfl) (hE h x y w3 ((top.stp k2).stp k3).k)
 have nothing:none=R→¬ ∃ x,R=some (x,p.length):=fun e=>by rw [← e];rintro ⟨x,hx⟩;cases hx
 unfold rdSer at hR
 refine rread_ok (hb.keep top2.k) hl (fun hn e w3 he k3=>?_) (fun l a hs r w3 k3 o3=>?_)
 ·rw [hn] at hR
  exact cond_t (by simpa using he) (out (nothing hR) (top2.stp (k3.stp0 _)) (b2.stp (k3.stp0 _)) (c2.stp (k3.stp0 _)))
 rw [hs] at hR
 simp only at hR
 refine cond_f rfl ?_
 have s3:=k3.stp ω2 9
 have t3:=Own.tag o3 (Nat.le_refl _) ω2 9
 have b3:=b2.stp s3
 have c3:=c2.stp s3
 have top3:=top2.stp s3
 have hrt:=rl_rt hs
 generalize ext ω2 w2.heap.size 9=ω3 at *
 refine st_T c3 (by simp) fun ω4 w4 k4 c4=>?_
 have b4:=b3.stp k4
 have t4:=t3.stp k4
 have top4:=top3.stp k4
 refine ru_ok (hb.keep top4.k) (by omega) (a:Int) ?_
 refine cond_ne (fun h=>?_) (fun h=>?_)
 ·have h':(uv p a).2.2≠0:=fun e=>h (by rw [e];rfl)
  rw [if_pos h'] at hR
  exact out (nothing hR) top4 b4 c4
 have hz:(uv p a).2.2=0:=by exact_mod_cast h
 have hue:=uv_len hz
 rw [if_neg (by simpa using hz)] at hR
 rw [wU64_id (by omega) (by omega),hbn]
 refine cond_d (fun hgt=>?_) (fun hle=>?_)
 ·rw [if_pos (by omega)] at hR
  exact out (nothing hR) top4 b4 c4
 rw [if_neg (by omega)] at hR
 generalize (uv p a).1=n at *
 generalize (uv p a).2.1=a0 at *
 unfold C.tocsinref10_series.S9
 refine C.tocsinref10_series.L5_ind fun X hX=>?_
 have key:∀ (d i a:Nat) (acc:List (List UInt8)) (ss:List Sl) (c:Sl) (ω:Tg) (w:World),i+d=n→acc.length=i→ss.length=i→a≤p.length→Top w0 ω w→BT ω w 7 g 57 [nilS.v,nilS.v]→BT ω w 12 gs 57 [r.v,nilS.v]→OT ω w 9 93 2 r (labs l) →
   OT ω w 3 22 1 c (ss.map Sl.v)→(∀ (j:Nat) q y,ss[j]?=some q→acc[j]?=some y→RdB w0 q y)→ckGo p d a acc=ckGo p n a0 []→X b (some ⟨g,0,none⟩) (some ⟨gs,0,none⟩) (a:Int) (n:Int) c (i:Int) w:=by
  intro d
  induction d with
  | zero =>
   intro i a acc ss c ω w hi hacc hss ha top bt ct ol oc hel e
   refine hX _ _ _ _ _ _ _ _ ?_
   unfold C.tocsinref10_series.S7 C.tocsinref10_series.S2
   rw [ckGo] at e
   rw [← e] at hR
   simp only at hR
   refine cond_d (fun h=>by omega) (fun _=>?_)
   have hrd:Chunk.RdL w c ss acc:=⟨oc.rd,by omega,fun j q y h1 h2=>(hel j q y h1 h2).keep top.k⟩
   refine Chunk.rjoin_ok hrd (by omega) fun s w1 k1 o1=>?_
   have s1:=k1.stp ω 11
   have t1:=Own.tag o1 (Nat.le_refl _) ω 11
   have b1:=bt.stp s1
   have c1:=ct.stp s1
   have top1:=top.stp s1
   have ol1:=ol.stp s1
   generalize ext ω w.heap.size 11=ω1 at *
   refine ptr_at<|st_TA c1 (by simp) fun ω5 w5 k5 c5=>?_
   have b5:=b1.stp k5
   have top5:=top1.stp k5
   refine ptr_at<|cSl_at (s:=r) (by rw [c5.cell];rfl)<|cSl_at (s:=s) (by rw [addr_add,c5.cell];rfl) ?_
   obtain ⟨f1,f2⟩:=joinL_fine acc [] 0 (by simp)
   refine cond_eq (fun hj=>?_) (fun hj=>?_)
   ·refine ptr_at<|st_T b5 (by simp) fun ω2 w2 k2 b2=>st_TA b2 (by simp) fun ω3 w3 k3 b3=>?_
    have top3:=(top5.stp k2).stp k3
    refine ptr_at<|cSl_at (s:=r) (by rw [b3.cell];rfl)<|cSl_at (s:=s) (by rw [addr_add,b3.cell];rfl) ?_
    have l3:=((ol1.stp k5).stp k2).stp k3
    have t3:=((t1.stp k5).stp k2).stp k3
    rw [if_neg (by simpa using hj)] at hR
    by_cases hap:a=p.length
    ·have ea:((a:Int)==((b.n:Nat):Int))=true:=by rw [beq_iff_eq];omega
     rw [ea]
     obtain ⟨z1,z2⟩:=rt_sizes hrt
     exact hK _ (by rw [← hR,hap]) r s w3 top3.k ⟨l3.rd,t3.rd,f1,by simp only [List.length_nil] at f2;dsimp only;omega,z1,z2⟩ hrt (otNew l3 top3) (otNew t3 top3)
    ·have ea:((a:Int)==((b.n:Nat):Int))=false:=by rw [beq_eq_false_iff_ne];omega
     rw [ea]
     refine hE ?_ r s w3 top3.k
     rintro ⟨x,hx⟩
     rw [← hR] at hx
     injection hx with hx
     exact hap (Prod.mk.inj hx).2
   ·refine ptr_at<|st_T b5 (by simp) fun ω2 w2 k2 b2=>st_TA b2 (by simp) fun ω3 w3 k3 b3=>?_
    have top3:=(top5.stp k2).stp k3
    refine ptr_at<|cSl_at (s:=r) (by rw [b3.cell];rfl)<|cSl_at (s:=s) (by rw [addr_add,b3.cell];rfl) ?_
    rw [if_pos (by simpa using hj)] at hR
    exact hE (nothing hR) r s w3 top3.k
  | succ d ih =>
   intro i a acc ss c ω w hi hacc hss ha top bt ct ol oc hel e
   refine hX _ _ _ _ _ _ _ _ ?_
   unfold C.tocsinref10_series.S7
   rw [ckGo] at e
   have fail:none=ckGo p n a0 []→¬ ∃ x,R=some (x,p.length):=fun e0=>by
    rw [← e0] at hR
    exact nothing hR
   refine cond_d (fun _=>?_) (fun h=>by omega)
   refine ru_ok (hb.keep top.k) (by omega) (a:Int) ?_
   refine cond_ne (fun h=>?_) (fun h=>?_)
   ·have h':(uv p a).2.2≠0:=fun e=>h (by rw [e];rfl)
    rw [if_pos h'] at e
    exact ptr_at (out (fail e) top bt ct)
   have hz:(uv p a).2.2=0:=by exact_mod_cast h
   have hue:=uv_len hz
   rw [if_neg (by simpa using hz)] at e
   rw [wI64 (x:=((b.n:Nat):Int)-_) (by omega) (by omega),wU64_id (by omega) (by omega)]
   refine cond_d (fun hgt=>?_) (fun hle=>?_)
   ·rw [if_pos (by omega)] at e
    exact ptr_at (out (fail e) top bt ct)
   rw [if_neg (by omega)] at e
   generalize (uv p a).1=m at *
   generalize (uv p a).2.1=f at *
   rw [wI64 (x:=(m:Int)) (by omega) (by omega),wI64 (x:=(f:Int)+(m:Int)) (by omega) (by omega)]
   refine RdB.slc hb (lo:=f) (hi:=f+m) (by omega) (by omega) rfl (by omega) fun q hq=>?_
   rw [show f+m-f=m by omega] at hq
   have hcn:c.n=ss.length:=by have:=oc.own.len;rw [List.length_map] at this;omega
   refine push_T Chunk.tiBB oc (n:=1) rfl (by intro v hv;simp at hv;subst hv;rfl) (by simp only [maxLen];omega) (by omega) fun c2 ω2 w2 k2 o2 _=>?_
   rw [wU64_id (by omega) (by omega),show (i:Int)+1=((i+1:Nat):Int) by omega,show (f:Int)+(m:Int)=((f+m:Nat):Int) by omega]
   refine ih (i+1) (f+m) (acc++[(p.drop f).take m]) (ss++[q]) c2 ω2 w2 (by omega) (by rw [List.length_append,hacc];rfl) (by rw [List.length_append,hss];rfl) (by omega) (top.stp k2) (bt.stp k2) (ct.stp k2) (ol.stp k2) (by rw [List.map_append];exact o2) (fun j q' y h1 h2=>?_) e
   rcases Nat.lt_or_ge j ss.length with hj | hj
   ·rw [List.getElem?_append_left hj] at h1
    rw [List.getElem?_append_left (by omega)] at h2
    exact hel j q' y h1 h2
   ·rw [List.getElem?_append_right hj] at h1
    rw [List.getElem?_append_right (by omega),hacc,← hss] at h2
    rcases Nat.eq_zero_or_pos (j-ss.length) with e0 | e0
    ·rw [e0] at h1 h2
     simp only [List.getElem?_cons_zero,Option.some.injEq] at h1 h2
     subst h1 h2
     exact hq
    ·rw [List.getElem?_eq_none (by simp;omega)] at h1;cases h1
 exact key n 0 a0 [] [] nilS ω4 w4 (by omega) rfl rfl hue top4 b4 c4 t4 (OT.nil _ _ _ _ _) (fun j q y h=>by simp at h) rfl
theorem rdSer_fine {p:List UInt8} (hl:p.length≤65536) {x:Ser} {e:Nat} (h:rdSer p=some (x,e)):(∀ y∈x.2,y.2<18446744073709551616)∧x.2.length≤11000000:=by
 unfold rdSer at h
 split at h
 ·cases h
 ·split at h
  ·cases h
  ·split at h
   ·cases h
   ·rename_i hn
    split at h
    ·cases h
    ·rename_i cs e' hc
     split at h
     ·cases h
     ·injection h with h
      have hx:=(Prod.mk.inj h).1
      obtain ⟨f1,f2⟩:=joinL_fine cs [] 0 (by simp)
      have:=ckGo_len _ _ _ _ _ hc
      simp only [List.length_nil] at f2 this
      rw [← hx]
      exact ⟨f1,by dsimp only;omega⟩
theorem rdAll_each:∀ {fs:List (List UInt8)} {l:List Ser},rdAll fs=some l→∀ x∈l,∃ p∈fs,∃ e,rdSer p=some (x,e)
 | [],l,h,x,hx=>by rw [rdAll] at h;injection h with h;rw [← h] at hx;cases hx
 | p::r,l,h,x,hx=>by
  rw [rdAll] at h
  split at h
  ·cases h
  ·rename_i y e hy
   split at h
   ·cases h
   ·rename_i m hm
    injection h with h
    rw [← h] at hx
    rcases List.mem_cons.1 hx with rfl | hx
    ·exact ⟨p,List.mem_cons_self ..,e,hy⟩
    ·obtain ⟨q,hq,e2,h2⟩:=rdAll_each hm x hx
     exact ⟨q,List.mem_cons_of_mem _ hq,e2,h2⟩
theorem open_full {b:List UInt8} {l:List Ser} (h:openM b=some l):∀ p∈(frsOf b).1.tail,∃ x,rdSer p=some (x,p.length):=by
 have h0:=h
 obtain ⟨h1,h2,_⟩:=open_some h
 have hfe:∀ m∈(frsOf b).1,m.length≤65536:=frs_each (b.drop 8) (b.drop 8).length 0
 unfold openM at h0
 split at h0
 ·cases h0
 ·split at h0
  ·cases h0
  ·split at h0
   ·cases h0
   ·rename_i l' hl'
    split at h0
    ·cases h0
    ·injection h0 with h0
     subst h0
     have hfine:∀ x∈l',(∀ y∈x.2,y.2<18446744073709551616)∧x.2.length≤11000000:=fun x hx=>by
      obtain ⟨p,hp,e,he⟩:=rdAll_each hl' x hx
      exact rdSer_fine (hfe p (List.mem_of_mem_tail hp)) he
     obtain ⟨bl,eb⟩:=blo_of h1 (fun x hx=>(hfine x hx).1) (fun x hx=>(hfine x hx).2)
     have e:b=bytesOf (srt l'):=by rw [← h2,eb]
     rw [e,frs_bytes bl]
     intro p hp
     obtain ⟨x,hx,rfl⟩:=List.mem_map.1 hp
     exact ⟨x,rdSer_pay (bl.fit.rt x hx) (bl.ris x hx).2 (bl.sl x hx)⟩
theorem ropen_ok {s:Sl} {b:List UInt8} (hb:RdB w0 s b) (hl:b.length≤100000000) {K:Sl→Bool→World→Prop}
  (hE:openM b=none→∀ w',Keep w0 w'→K nilS false w')
  (hK:∀ l,openM b=some l→∀ r q ω' w',Top w0 ω' w'→q.map (·.1)=l→OT ω' w' 2 57 2 r (sers q)→(∀ p∈q,SeOk w' p∧(rt p.1.1).1=0∧OT ω' w' 8 93 2 p.2.1 (labs p.1.1)∧OT ω' w' 8 96 2 p.2.2 (Chunk.smps p.1.2))→K r true w'):C.tocsinref10_Open s w0 K:=by
 have hsn:=hb.len
 have hfull:∀ l,openM b=some l→∀ p∈(frsOf b).1.tail,∃ x,rdSer p=some (x,p.length):=fun l h=>open_full h
 obtain ⟨O,hO⟩:∃ O,openM b=O:=⟨_,rfl⟩
 rw [hO] at hE hK hfull
 have nope:none=O→∀ w',Keep w0 w'→K nilS false w':=fun e=>hE e.symm
 unfold C.tocsinref10_Open
 unfold openM at hO
 have hm8:magicB.length=8:=rfl
 refine cond_d (fun h1=>?_) (fun h1=>cond_d (fun h2=>?_) (fun h2=>?_))
 ·rw [if_pos (.inr fun e=>by have:=congrArg List.length e;rw [List.length_take] at this;omega)] at hO
  exact nope hO w0 (Keep.refl _)
 ·rw [if_pos (.inl (by omega))] at hO
  exact nope hO w0 (Keep.refl _)
 refine RdB.slc hb (lo:=0) (hi:=8) (by omega) (by omega) rfl rfl fun s0 hs0=>?_
 rw [List.drop_zero,Nat.sub_zero] at hs0
 refine Utf.convBS hs0 ?_
 have em:(⟨#[84,79,67,66,76,75,48,49]⟩:ByteArray)=Utf.str magicB:=rfl
 rw [em,str_same]
 refine cond_not (fun h3=>?_) (fun h3=>?_)
 ·rw [if_pos (.inr (of_decide_eq_false h3))] at hO
  exact nope hO w0 (Keep.refl _)
 have h3:=of_decide_eq_true h3
 rw [if_neg (by rintro (h | h);omega;exact h h3)] at hO
 refine RdB.slc hb (lo:=8) (hi:=b.length) (by omega) (by omega) rfl (by omega) fun s8 hs8=>?_
 rw [List.take_of_length_le (by rw [List.length_drop];omega)] at hs8
 refine rframes_ok hs8 (by rw [List.length_drop];omega) fun fr rs w1 k1 o1=>?_
 have hfrs:frs (b.drop 8) (b.drop 8).length 0=frsOf b:=rfl
 rw [hfrs] at o1 ⊢
 have hflen:(frsOf b).1.length≤b.length:=by have:=frs_len (b.drop 8) (b.drop 8).length 0;rw [hfrs,List.length_drop] at this;omega
 have hfe:∀ m∈(frsOf b).1,m.length≤65536:=frs_each (b.drop 8) (b.drop 8).length 0
 have hrd:=o1.rd
 have hfn:=hrd.n
 refine cond_ne (fun he=>?_) (fun he=>?_)
 ·rw [if_pos (.inl (fun e=>he (by rw [e];rfl)))] at hO;exact nope hO w1 k1
 have he:(frsOf b).2.2=0:=by exact_mod_cast he
 refine cond_eq (fun h0=>?_) (fun h0=>?_)
 ·rw [if_pos (.inr (List.eq_nil_of_length_eq_zero (by omega)))] at hO;exact nope hO w1 k1
 rw [if_neg (by rintro (h | h);exact h he;exact h0 (by rw [hfn,h];rfl))] at hO
 generalize (frsOf b).1=fs at *
 cases fs with
 | nil=>exact absurd (by rw [hfn];rfl) h0
 | cons f0 fs =>
 rw [List.tail_cons] at hO hfull
 cases rs with
 | nil=>have:=hrd.len;simp at this
 | cons r0 rs =>
 have hrl:rs.length=fs.length:=by have:=hrd.len;simpa using this
 rw [List.length_cons] at hfn hflen
 unfold C.tocsinref10_Open.S9
 have hhdr:Rd w1 fr 1 (hdrs (r0::rs)):=hrd.hdr
 refine Rd.slc hhdr (lo:=1) (hi:=fr.n) (by omega) (Nat.le_refl _) rfl rfl fun l1 hl1 hln _=>?_
 have hl1':Rd w1 l1 1 (hdrs rs):=by
  have e:((hdrs (r0::rs)).drop (1*1)).take ((fr.n-1)*1)=hdrs rs:=by
   unfold hdrs
   rw [List.map_cons,Nat.one_mul,List.drop_succ_cons,List.drop_zero,List.take_of_length_le (by rw [List.length_map];omega)]
  rwa [e] at hl1
 clear hl1
 have hel:∀ (i:Nat) (r:Sl) (p:List UInt8),rs[i]?=some r→fs[i]?=some p→RdB w1 r p:=fun i r p h1 h2=>hrd.el (i+1) r p (by simpa using h1) (by simpa using h2)
 have hl1n:l1.n=fs.length:=by omega
 refine C.tocsinref10_Open.L5_ind fun X hX=>?_
 have key:∀ (d i:Nat) (ω:Tg) (w:World) (q:QS) (out:Sl),i+d=fs.length→Top w1 ω w→OT ω w 2 57 2 out (sers q)→q.length=i→(∀ p∈q,SeOk w p∧(rt p.1.1).1=0∧OT ω w 8 93 2 p.2.1 (labs p.1.1)∧OT ω w 8 96 2 p.2.2 (Chunk.smps p.1.2)) →
   (match rdAll (fs.drop i) with | none=>none | some l=>some (q.map (·.1)++l))=rdAll fs→X s out l1 ((l1.n:Nat):Int) (i:Int) w:=by
  intro d
  induction d with
  | zero =>
   intro i ω w q out hi top o hq hr e
   refine hX _ _ _ _ _ _ ?_
   unfold C.tocsinref10_Open.S7 C.tocsinref10_Open.S2
   rw [List.drop_of_length_le (by omega),rdAll] at e
   simp only [List.append_nil] at e
   rw [← e] at hO
   simp only at hO
   have k01:=Keep.trans k1 top.k
   refine cond_d (fun h=>by omega) (fun _=>?_)
   refine rbuild_ok ⟨o.rd,fun p hp=>(hr p hp).1⟩ (by omega) fun r2 w2 k2 o2=>?_
   refine cond_ne (fun hbad=>?_) (fun hok=>?_)
   ·rw [if_pos (.inl hbad)] at hO;exact nope hO w2 (Keep.trans k01 k2)
   refine Utf.convBS (OwnB.rd o2)<|Utf.convBS (hb.keep (Keep.trans k01 k2)) ?_
   rw [str_same]
   refine cond_not (fun h6=>?_) (fun h6=>?_)
   ·rw [if_pos (.inr (of_decide_eq_false h6))] at hO;exact nope hO w2 (Keep.trans k01 k2)
   ·rw [if_neg (by rintro (h | h);exact h hok;exact h (of_decide_eq_true h6))] at hO
    have s2:=k2.stp0 ω
    exact hK _ hO.symm out q ω w2 (Top.of k1 (top.stp s2)) rfl (o.stp s2) fun p hp=>⟨(hr p hp).1.keep k2,(hr p hp).2.1,(hr p hp).2.2.1.stp s2,(hr p hp).2.2.2.stp s2⟩
  | succ d ih =>
   intro i ω w q out hi top o hq hr e
   refine hX _ _ _ _ _ _ ?_
   unfold C.tocsinref10_Open.S7
   have hif:i<fs.length:=by omega
   have hir:i<rs.length:=by omega
   have hri:rs[i]?=some rs[i]:=List.getElem?_eq_getElem hir
   have hfi:fs[i]?=some fs[i]:=List.getElem?_eq_getElem hif
   rw [List.drop_eq_getElem_cons hif,rdAll] at e
   refine cond_d (fun _=>?_) (fun h=>by omega)
   refine Mem.Rd.hdr (hl1'.keep top.k) hri ?_
   have hp:=(hel i _ _ hri hfi).keep top.k
   have hpl:=hfe fs[i] (List.mem_cons_of_mem _ (List.getElem_mem hif))
   refine rseries_ok hp hpl (fun hn r s w2 k2=>?_) (fun x hx r s w2 k2 hs hrt ol os=>?_)
   ·refine locS fun g3 w3 k3 hg3 b3=>cond_t rfl ?_
    refine hE ?_ w3 (Keep.trans k1 (Keep.trans top.k (Keep.trans k2 k3.1)))
    cases hOO:O with
    | none=>rfl
    | some l=>exact absurd (hfull l hOO fs[i] (List.getElem_mem hif)) hn
   rw [hx] at e
   simp only at e
   have s2:=k2.stp ω 8
   have l2:=Own.tag ol (Nat.le_refl _) ω 8
   have m2:=Own.tag os (Nat.le_refl _) ω 8
   have top2:=top.stp s2
   have o2:=o.stp s2
   have hr2:∀ p∈q,SeOk w2 p∧(rt p.1.1).1=0∧OT (ext ω w.heap.size 8) w2 8 93 2 p.2.1 (labs p.1.1)∧OT (ext ω w.heap.size 8) w2 8 96 2 p.2.2 (Chunk.smps p.1.2):=fun p hp=>⟨(hr p hp).1.keep k2,(hr p hp).2.1,(hr p hp).2.2.1.stp s2,(hr p hp).2.2.2.stp s2⟩
   generalize ext ω w.heap.size 8=ω2 at *
   refine locS fun g3 w3 k3 hg3 b3=>cond_f rfl ?_
   have s3:=k3.1.stp0 ω2
   refine cSl_at (s:=r) (by rw [b3.cell];rfl)<|cSl_at (s:=s) (by rw [addr_add,b3.cell];rfl) ?_
   have o3:=o2.stp s3
   have hon:=rdQ_n o3.rd
   refine push_T (n:=1) tiQ o3 rfl (by intro v hv;simp at hv;rcases hv with rfl | rfl<;>rfl) (by simp only [maxLen];omega) (by omega) fun r4 ω4 w4 k4 o4 _=>?_
   rw [wI64 (by omega) (by omega),show (i:Int)+1=((i+1:Nat):Int) by omega]
   have sk:∀ {p:SQ},SeOk w2 p→OT ω2 w2 8 93 2 p.2.1 (labs p.1.1)→OT ω2 w2 8 96 2 p.2.2 (Chunk.smps p.1.2)→SeOk w4 p:=fun h a b=>⟨((a.stp s3).stp k4).rd,((b.stp s3).stp k4).rd,h.fl,h.sl,h.ll,h.l9⟩
   refine ih (i+1) ω4 w4 (q++[(x,r,s)]) r4 (by omega) ((top2.stp s3).stp k4) (by rw [sers_app];exact o4) (by rw [List.length_append,hq];rfl) (fun p hp=>?_) ?_
   ·rcases List.mem_append.1 hp with hp | hp
    ·obtain ⟨a1,a2,a3,a4⟩:=hr2 p hp
     exact ⟨sk a1 a3 a4,a2,(a3.stp s3).stp k4,(a4.stp s3).stp k4⟩
    ·rw [List.mem_singleton.1 hp]
     exact ⟨sk hs l2 m2,hrt,(l2.stp s3).stp k4,(m2.stp s3).stp k4⟩
   ·rw [← e,List.map_append]
    cases rdAll (fs.drop (i+1)) with
    | none=>rfl
    | some l=>simp
 exact key fs.length 0 (fun _=>0) w1 [] nilS (by omega) (Top.init w1) (OT.nil ..) rfl (by simp) (by rw [List.drop_zero];cases rdAll fs<;>rfl)
end Go.Proofs.YtmfgmcajelmgbaaGreatDoor.Bk

namespace Go.Proofs.YtmfgmcajelmgbaaGreatDoor.Bk
open Go Vm Go.RowKit Num Mem Utf Lib Lab Vint Bits Rep
variable {ω ω' : Tg} {w w' w0 : World} {T : Nat → Bool} {t u g gm : Nat}
end Go.Proofs.YtmfgmcajelmgbaaGreatDoor.Bk

namespace Go.Proofs.YtmfgmcajelmgbaaGreatDoor.Bk
open Go Vm Go.RowKit Num Mem Utf Lib Lab Vint Bits Rep
variable {ω ω' : Tg} {w w' w0 : World} {T : Nat → Bool} {t u g gm : Nat}
def namesR (l:List Ser):List ByteArray:=l.flatMap fun s=>s.1.map (·.1)
theorem mem_names {l:List Ser} {x:ByteArray}:x∈namesR l↔∃ s∈l,x∈s.1.map (·.1):=by unfold namesR;rw [List.mem_flatMap]
theorem names_len:∀ {l:List Ser},(∀ x∈l,(rt x.1).1=0)→(namesR l).length≤16*l.length
 | [],_=>by simp [namesR]
 | s::r,h=>by
  have h1:=names_len (l:=r) fun x hx=>h x (List.mem_cons_of_mem _ hx)
  have h2:=(rt_short (h s (List.mem_cons_self ..))).1
  unfold namesR at h1 ⊢
  rw [List.flatMap_cons,List.length_append,List.length_map,List.length_cons]
  omega
theorem names_take {l:List Ser} {i:Nat} (hi:i<l.length):namesR (l.take (i+1))=namesR (l.take i)++l[i].1.map (·.1):=by
 unfold namesR;rw [List.take_succ_eq_append_getElem hi,List.flatMap_append];simp
theorem names_ok {F:Lb→List Nat} {es:List IE} (hh:w.cell? ⟨g,2,none⟩=some (.map (some gm))) (ix:IX ω w t u gm F es) (hes:es.length≤20000000) {K:Sl→World→Prop}
  (hK:∀ r w',Keep w w'→Rd w' r 1 (strs (uniq (es.map (·.1.1))))→K r w'):C.block_Block_Names (some ⟨g,0,none⟩) w K:=by
 unfold C.block_Block_Names C.block_Block_Names.S9
 have m0:ML (fun _=>0) w 0 gm (es.map encI):=⟨ix.mp.ex,rfl,ix.mp.sm⟩
 refine cond_f rfl<|ptr_at<|⟨some gm,by rw [addr_add];exact hh,rangeL 2 m0 mapX fun r ω1 w1 k1 i1=>?_⟩
 refine C.block_Block_Names.L5_ind fun X hX=>?_
 have key:∀ (d:Nat) (ns:List ByteArray) (rest:LL) (l:Sl) (ω:Tg) (w2:World),rest.length=d→OT ω w2 1 9 1 l (strs ns)→IL ω w2 2 r 0 gm (es.map encI) rest→(ns++rest.map (·.1.1)).Perm (es.map (·.1.1))→Top w ω w2→X l (some ⟨r,0,none⟩) w2:=by
  intro d
  induction d with
  | zero =>
   intro ns rest l ω w2 hd o i pm t2
   refine hX _ _ _ ?_
   unfold C.block_Block_Names.S7
   refine nextL i (fun _=>?_) (fun a x b ω' w' hr=>by rw [hr] at hd;simp at hd)
   unfold C.block_Block_Names.S2
   have hr:rest=[]:=List.eq_nil_of_length_eq_zero hd
   subst hr
   rw [List.map_nil,List.append_nil] at pm
   have hcn:=pm.length_eq
   rw [List.length_map] at hcn
   refine unique_ok o (by omega) fun q ω' w' k' o'=>?_
   rw [uniq_congr fun x=>pm.mem_iff] at o'
   exact hK q w' (t2.stp k').k o'.rd
  | succ d ih =>
   intro ns rest l ω w2 hd o i pm t2
   refine hX _ _ _ ?_
   unfold C.block_Block_Names.S7
   refine nextL i (fun hr=>by rw [hr] at hd;simp at hd) (fun a x b ω' w' hr k' i' en k v=>en _ ?_)
   have o':=o.stp k'
   have hlen:=strs_n o'.rd
   have hb:ns.length≤20000000:=by
    have h1:=pm.length_eq
    simp only [List.length_append,List.length_map] at h1
    omega
   have hvr:(ns++[x.1.1]++(a++b).map (·.1.1)).Perm (es.map (·.1.1)):=by
    refine List.Perm.trans ?_ pm
    rw [hr]
    simp only [List.map_append,List.map_cons,List.append_assoc,List.singleton_append]
    refine List.Perm.append_left _ ?_
    exact (List.perm_middle (l₁:=a.map (·.1.1))).symm
   refine ag_at (cs:=#[.string x.1.1,.string x.1.2]) rfl ⟨x.1.1,rfl,x.1.2,rfl,?_⟩
   refine locL fun g3 w3 k3 hg b3=>cS_at (b:=x.1.1) (by rw [b3.cell];rfl) ?_
   have s3:=k3.1.stp0 ω'
   have o3:=o'.stp s3
   have i3:=i'.stp s3 rfl rfl
   have t3:=(t2.stp k').stp s3
   have hd':(a++b).length=d:=by rw [hr] at hd;simp at hd ⊢;omega
   refine push_T tiSt o3 (n:=1) rfl (by intro v hv;simp at hv;subst hv;rfl) (by rw [hlen];simp only [maxLen];omega) (by rw [hlen];omega) fun q ω4 w4 k4 o4 hq=>?_
   exact ih (ns++[x.1.1]) (a++b) q ω4 w4 hd' (by rw [strs_app];exact o4) (i3.stp k4 rfl rfl) hvr (t3.stp k4)
 refine key (es.map encI).length [] (es.map encI) nilS ω1 w1 rfl (OT.nil ..) i1 ?_ ((Top.init w).stp k1)
 rw [List.nil_append,List.map_map];exact List.Perm.refl _
theorem names_idx {es:List IE} {L:List Ser} (ix:IX ω w t u gm (post L) es):∀ x,x∈es.map (·.1.1)↔x∈namesR L:=by
 intro x
 rw [mem_names]
 constructor
 ·intro h
  obtain ⟨e,he,rfl⟩:=List.mem_map.1 h
  obtain ⟨s,hs,hm⟩:=ix.mem.1 (List.mem_map_of_mem (f:=(·.1)) he)
  exact ⟨s,hs,List.mem_map_of_mem (f:=(·.1)) hm⟩
 ·rintro ⟨s,hs,hm⟩
  obtain ⟨y,hy,rfl⟩:=List.mem_map.1 hm
  obtain ⟨e,he,e1⟩:=List.mem_map.1 (ix.mem.2 ⟨s,hs,hy⟩)
  exact List.mem_map.2 ⟨e,he,by rw [e1]⟩
theorem BK.names {bs rs:Sl} {b:List UInt8} {q:QS} {es:List IE} {k:Int} (h:BK ω w t g gm bs rs b q (Bk.post (q.map (·.1))) es k) {K:Sl→World→Prop}
  (hK:∀ r w',Keep w w'→Rd w' r 1 (strs (uniq (namesR (q.map (·.1)))))→K r w'):C.block_Block_Names (some ⟨g,0,none⟩) w K:=by
 refine names_ok (by rw [h.hd.cell];rfl) h.ix h.n fun r w' k o=>hK r w' k ?_
 rwa [uniq_congr (names_idx h.ix)] at o
theorem rnames_ok {s:Sl} {q:QS} (h:RdQ w0 s q) (hl:q.length≤1000000) (hrt:∀ x∈q.map (·.1),(rt x.1).1=0) {K:Sl→World→Prop} (hK:∀ r w',Keep w0 w'→Rd w' r 1 (strs (setT (namesR (q.map (·.1)))))→K r w'):C.tocsinref10_Names s w0 K:=by
 have hsn:=h.n
 unfold C.tocsinref10_Names C.tocsinref10_Names.S20
 refine C.tocsinref10_Names.L5_ind fun X hX=>?_
 have hLl:(q.map (·.1)).length=q.length:=List.length_map _
 have key:∀ (d i:Nat) (out:Sl) (ω:Tg) (w:World),i+d=q.length→Top w0 ω w→OT ω w 2 9 1 out (strs (namesR ((q.map (·.1)).take i)))→X out s ((s.n:Nat):Int) (i:Int) w:=by
  intro d
  induction d with
  | zero =>
   intro i out ω w hi top o
   refine hX _ _ _ _ _ ?_
   unfold C.tocsinref10_Names.S18 C.tocsinref10_Names.S2
   refine cond_d (fun h=>by omega) (fun _=>?_)
   rw [List.take_of_length_le (by omega)] at o
   have:=names_len hrt
   exact set_ok o.rd (by omega) fun r w1 k1 r1=>hK r w1 (Keep.trans top.k k1) r1
  | succ d ih =>
   intro i out ω w hi top o
   refine hX _ _ _ _ _ ?_
   unfold C.tocsinref10_Names.S18 C.tocsinref10_Names.S15
   have hiq:i<q.length:=by omega
   have hx:q[i]?=some q[i]:=List.getElem?_eq_getElem hiq
   have hsx:=h.el _ (List.getElem_mem hiq)
   have hm16:=(rt_short (hrt q[i].1 (List.mem_map_of_mem (List.getElem_mem hiq)))).1
   have et:=names_take (l:=q.map (·.1)) (i:=i) (by omega)
   rw [List.getElem_map] at et
   have hnl:=names_len (l:=(q.map (·.1)).take i) fun x hx=>hrt x (List.mem_of_mem_take hx)
   have htl:((q.map (·.1)).take i).length≤i:=by rw [List.length_take];omega
   refine cond_d (fun _=>?_) (fun h=>by omega)
   refine rdQ_at (h.rd.keep top.k) (k:=i) rfl hx fun a e0 e1=>cSl_at e0<|cSl_at e1 ?_
   refine locS fun g w3 k3 hg b3=>cSl_at (s:=q[i].2.1) (by rw [b3.cell];rfl) ?_
   have s3:=k3.1.stp0 ω
   have top3:=top.stp s3
   have o3:=o.stp s3
   generalize namesR ((q.map (·.1)).take i)=A at *
   have hln:=rdL_n hsx.lb
   refine C.tocsinref10_Names.L11_ind fun Y hY=>?_
   have inner:∀ (e j:Nat) (out:Sl) (ω:Tg) (w:World),j+e=q[i].1.1.length→Top w0 ω w→OT ω w 2 9 1 out (strs (A++(q[i].1.1.take j).map (·.1)))→Y out s ((s.n:Nat):Int) (i:Int) q[i].2.1 ((q[i].2.1.n:Nat):Int) (j:Int) w:=by
    intro e
    induction e with
    | zero =>
     intro j out ω w hj top o
     refine hY _ _ _ _ _ _ _ _ ?_
     unfold C.tocsinref10_Names.S13 C.tocsinref10_Names.S7
     refine cond_d (fun h=>by omega) (fun _=>?_)
     rw [List.take_of_length_le (by omega),← et] at o
     rw [wI64 (by omega) (by omega),show (i:Int)+1=((i+1:Nat):Int) by omega]
     exact ih (i+1) out ω w (by omega) top o
    | succ e ihe =>
     intro j out ω w hj top o
     refine hY _ _ _ _ _ _ _ _ ?_
     unfold C.tocsinref10_Names.S13
     have hjm:j<q[i].1.1.length:=by omega
     have hy:q[i].1.1[j]?=some q[i].1.1[j]:=List.getElem?_eq_getElem hjm
     refine cond_d (fun _=>?_) (fun h=>by omega)
     refine rdL_at (hsx.lb.keep top.k) (k:=j) rfl hy fun a a0 a1=>cS_at a0<|cS_at a1 ?_
     refine locL fun g4 w4 k4 hg4 b4=>cS_at (b:=q[i].1.1[j].1) (by rw [b4.cell];rfl) ?_
     have s4:=k4.1.stp0 ω
     have o4:=o.stp s4
     have hon:=strs_n o4.rd
     rw [List.length_append,List.length_map,List.length_take] at hon
     refine push_T tiSt o4 (n:=1) rfl (by intro v hv;simp at hv;subst hv;rfl) (by simp only [maxLen];omega) (by omega) fun r ω5 w5 k5 o5 _=>?_
     rw [wI64 (by omega) (by omega),show (j:Int)+1=((j+1:Nat):Int) by omega]
     refine ihe (j+1) r ω5 w5 (by omega) ((top.stp s4).stp k5) ?_
     rw [List.take_succ_eq_append_getElem hjm,List.map_append,← List.append_assoc,strs_app]
     exact o5
   exact inner q[i].1.1.length 0 out ω w3 (by omega) top3 (by simpa using o3)
 exact key q.length 0 nilS (fun _=>0) w0 (by omega) (Top.init w0) (OT.nil ..)
theorem lo_take {L:List Ser} {i:Nat} (hi:i<L.length):loOf (L.take (i+1))=if i=0 then (L[i].2.headD (0,0)).1 else if (L[i].2.headD (0,0)).1<loOf (L.take i) then (L[i].2.headD (0,0)).1 else loOf (L.take i):=by
 rw [List.take_succ_eq_append_getElem hi]
 by_cases h:i=0
 ·subst h;rw [if_pos rfl];rfl
 ·rw [if_neg h,lo_snoc (by intro e;have:=congrArg List.length e;rw [List.length_take,Nat.min_eq_left (by omega)] at this;exact h (by simpa using this))]
theorem hi_take {L:List Ser} {i:Nat} (hi:i<L.length):hiOf (L.take (i+1))=if i=0 then (Chunk.lastS L[i].2).1 else if hiOf (L.take i)<(Chunk.lastS L[i].2).1 then (Chunk.lastS L[i].2).1 else hiOf (L.take i):=by
 rw [List.take_succ_eq_append_getElem hi]
 by_cases h:i=0
 ·subst h;rw [if_pos rfl];rfl
 ·rw [if_neg h,hi_snoc (by intro e;have:=congrArg List.length e;rw [List.length_take,Nat.min_eq_left (by omega)] at this;exact h (by simpa using this))]
theorem first_at {m:List Smp} (h:m≠[]):m[0]?=some (m.headD (0,0)):=by cases m with | nil=>exact absurd rfl h | cons a r=>rfl
theorem last_at {m:List Smp} (h:m≠[]):m[m.length-1]?=some (Chunk.lastS m):=by
 unfold Chunk.lastS
 rw [← List.getLast?_eq_getElem?]
 cases hg:m.getLast? with
 | none=>exact absurd (List.getLast?_eq_none_iff.1 hg) h
 | some a=>rfl
theorem span_ok {rs:Sl} {q:QS} (h:AR w g rs q) (hne:∀ x∈q.map (·.1),x.2≠[]) {K:Int→Int→World→Prop} (hK:∀ w',Keep w w'→K (loOf (q.map (·.1))) (hiOf (q.map (·.1))) w'):C.block_Block_Span (some ⟨g,0,none⟩) w K:=by
 unfold C.block_Block_Span
 refine new_T (ω:=fun _=>0) 21 fun g1 ω1 w1 k1 b1=>new_T (ω:=ω1) 22 fun g2 ω2 w2 k2 b2=>?_
 refine st_T (b1.stp k2) (by simp) fun ω3 w3 k3 b13=>st_T (b2.stp k3) (by simp) fun ω4 w4 k4 b24=>?_
 refine new_T (ω:=ω4) 23 fun g3 ω5 w5 k5 b3=>st_T b3 (by simp) fun ω6 w6 k6 b36=>?_
 unfold C.block_Block_Span.S9 C.block_Block_All
 refine new_T (ω:=ω6) 6 fun g4 ω7 w7 k7 b4=>?_
 unfold C.block_Block_Span.R5
 have top7:=(((((((Top.init w).stp k1).stp k2).stp k3).stp k4).stp k5).stp k6).stp k7
 have x1:=(((b13.stp k4).stp k5).stp k6).stp k7
 have x2:=((b24.stp k5).stp k6).stp k7
 have x3:=b36.stp k7
 have hLl:(q.map (·.1)).length=q.length:=List.length_map _
 refine rangeGW_ok (T:=fun x=>x==21 || (x==22 || x==23)) (u:=3) (J:=fun i ω w2=>Top w ω w2∧BT ω w2 6 g4 23 [.pointer (some ⟨g,0,none⟩)]∧BT ω w2 21 g1 2 [.int .i64 (loOf ((q.map (·.1)).take i))]∧BT ω w2 22 g2 2 [.int .i64 (hiOf ((q.map (·.1)).take i))]∧BT ω w2 23 g3 4 [.bool (decide (0<i))])
  (E:=fun e ω w=>False) (all_tellsB (ga:=g4) (g:=g) (rs:=rs) (q:=q) fun _ _ _ h=>h) rfl rfl ?_ ?_ ?_ ?_ ?_ ⟨top7,b4,x1,x2,x3⟩ ?_ ?_
 ·rintro i j a ω ω' w w' ⟨e,p,r,s,hp,ea,o1,o2⟩ k
  exact ⟨e,p,r,s,hp,ea,o1.stp k rfl,o2.stp k rfl⟩
 ·rintro i ω w2 ⟨top,x3,_⟩
  exact ⟨by rw [x3.cell];rfl,h.keep top.k⟩
 ·rintro S hS i ω ω' w w' ⟨top,y1,y2,y3,y4⟩ k
  have z:S 0=false∧S 6=false∧S 21=false∧S 22=false∧S 23=false:=by rcases hS with rfl | rfl<;>exact ⟨rfl,rfl,rfl,rfl,rfl⟩
  exact ⟨top.stp k z.1,y1.stp k z.2.1,y2.stp k z.2.2.1,y3.stp k z.2.2.2.1,y4.stp k z.2.2.2.2⟩
 ·rintro S hS e ω ω' w w' h k
  exact h
 ·rintro i j args ω w4 bz Rr ⟨rfl,p,r,c,hp,rfl,o1,o2⟩ ⟨top,y1,y2,y3,y4⟩ hz
  unfold C.block_Block_Span.B_R5 Sl.v
  dsimp only
  refine locS fun g5 w5 k5 hg5 b5=>?_
  have s5:=k5.1.stp ω 5
  refine hz _ (ext ω w4.heap.size 5) w5 s5 fun w6 s6 hR hX=>?_
  have b5t:BT (ext ω w4.heap.size 5) w5 5 g5 57 [r.v,c.v]:=⟨b5,ext_new hg5⟩
  generalize ext ω w4.heap.size 5=ω5 at *
  have b6:=b5t.stp s6
  have z1:=(y1.stp s5).stp s6
  have z2:=(y2.stp s5).stp s6
  have z3:=(y3.stp s5).stp s6
  have z4:=(y4.stp s5).stp s6
  have top6:=(top.stp s5).stp s6
  have c6:=(o2.stp s5).stp s6
  unfold C.block_Block_Span.S7
  have hil:=(List.getElem?_eq_some_iff.1 hp).1
  have hiL:i<(q.map (·.1)).length:=by omega
  have hLg:(q.map (·.1))[i]=p.1:=by rw [List.getElem_map,(List.getElem?_eq_some_iff.1 hp).2]
  have el:=lo_take hiL
  have eh:=hi_take hiL
  rw [hLg] at el eh
  have hpn:p.1.2≠[]:=hne _ (by rw [← hLg];exact List.getElem_mem hiL)
  have hpl:0<p.1.2.length:=List.length_pos_iff.2 hpn
  have sd:=drew_stp ω5 w6
  have bd:=b6.stp sd
  have cd:=c6.stp sd
  have hcn:=smN cd.rd
  have hslp:=(h.rd.el p (List.mem_of_getElem? hp)).sl
  have topd:=top6.stp sd
  have d1:=z1.stp sd
  have d2:=z2.stp sd
  have d3:=z3.stp sd
  have d4:=z4.stp sd
  refine ptr_at<|cSl_at (s:=c) (by rw [addr_add,bd.cell];rfl) ?_
  refine Chunk.rdS_at cd.rd (k:=0) rfl (first_at hpn) fun a0 f0 _=>cI_at f0 ?_
  refine ptr_at<|cSl_at (s:=c) (by rw [addr_add,bd.cell];rfl)<|ptr_at<|cSl_at (s:=c) (by rw [addr_add,bd.cell];rfl) ?_
  refine Chunk.rdS_at cd.rd (k:=p.1.2.length-1) (by rw [wI64 (by omega) (by omega)];omega) (last_at hpn) fun a1 f1 _=>cI_at f1 ?_
  refine ptr_at<|cB_at (b:=decide (0<i)) (by rw [d4.cell];rfl) ?_
  have mono:∀ {ω ω':Tg} {w w':World} {v:Nat},(v=21∨v=22∨v=23)→Stp (Mem.One v) ω ω' w w'→Stp (fun x=>x==21 || (x==22 || x==23)) ω ω' w w':=fun {ω ω' w w' v} hv k=>k.mono fun x hx=>by
   simp only [Bool.or_eq_false_iff,beq_eq_false_iff_ne] at hx
   refine beq_no fun e=>?_
   omega
  -- the end of both ways
  have tail:∀ (a b:Int) (ω8:Tg) (w8:World),Stp (fun x=>x==21 || (x==22 || x==23)) ω5 ω8 w6 w8→Top w ω8 w8→BT ω8 w8 6 g4 23 [.pointer (some ⟨g,0,none⟩)]→BT ω8 w8 21 g1 2 [.int .i64 a]→BT ω8 w8 22 g2 2 [.int .i64 b]→(∃ v,BT ω8 w8 23 g3 4 [.bool v]) →
    (if (p.1.2.headD (0,0)).1<a then (p.1.2.headD (0,0)).1 else a)=loOf ((q.map (·.1)).take (i+1))→(if b<(Chunk.lastS p.1.2).1 then (Chunk.lastS p.1.2).1 else b)=hiOf ((q.map (·.1)).take (i+1)) →
    G.ptr (some ⟨g1,0,none⟩) fun p37=>G.cI .i64 p37 w8.drew fun n38=>G.ptr (some ⟨g2,0,none⟩) fun p39=>G.cI .i64 p39 w8.drew fun n40=>G.ptr (some ⟨g1,0,none⟩) fun p41=>G.st p41 (.int .i64 (if (p.1.2.headD (0,0)).1<n38 then (p.1.2.headD (0,0)).1 else n38)) w8.drew fun w42=>sameAt p39 1 w8.drew w42∧(G.ptr (some ⟨g2,0,none⟩) fun p43=>G.st p43 (.int .i64 (if n40<(Chunk.lastS p.1.2).1 then (Chunk.lastS p.1.2).1 else n40)) w42 fun w44=>G.ptr (some ⟨g3,0,none⟩) fun p45=>G.st p45 (.bool true) w44 fun w46=>Rr .normal w46):=by
   intro a b ω8 w8 k8 top8 e1 e2 e3 e4 ea eb
   obtain ⟨v,e4⟩:=e4
   have sd8:=drew_stp ω8 w8
   have i2:=e2.stp sd8
   have i3:=e3.stp sd8
   refine ptr_at<|cI_at (n:=a) (by rw [i2.cell];rfl)<|ptr_at<|cI_at (n:=b) (by rw [i3.cell];rfl)<|ptr_at<|st_T i2 (by simp) fun ω9 w9 k9 b9=>⟨i3.sameT k9,?_⟩
   refine ptr_at<|st_T (i3.stp k9) (by simp) fun ω10 w10 k10 b10=>ptr_at<|st_T (((e4.stp sd8).stp k9).stp k10) (by simp) fun ω11 w11 k11 b11=>?_
   refine hR ω11 w11 (k8.trans ((sd8.non _).trans ((mono (.inl rfl) k9).trans ((mono (.inr (.inl rfl)) k10).trans (mono (.inr (.inr rfl)) k11))))) ⟨(((top8.stp sd8).stp k9).stp k10).stp k11,(((e1.stp sd8).stp k9).stp k10).stp k11,?_,?_,?_⟩
   ·rw [← ea];exact (b9.stp k10).stp k11
   ·rw [← eb];exact b10.stp k11
   ·rw [decide_eq_true (Nat.succ_pos i)];exact b11
  refine cond_not (fun hi0=>?_) (fun hi0=>?_)
  ·have hi0:i=0:=by have:=of_decide_eq_false hi0;omega
   rw [if_pos hi0] at el eh
   refine ptr_at<|st_T d2 (by simp) fun ω8 w8 k8 b8=>ptr_at<|st_T (d3.stp k8) (by simp) fun ω9 w9 k9 b9=>?_
   exact tail _ _ ω9 w9 ((sd.non _).trans ((mono (.inl rfl) k8).trans (mono (.inr (.inl rfl)) k9))) ((topd.stp k8).stp k9) (((z1.stp sd).stp k8).stp k9) (b8.stp k9) b9 ⟨_,(d4.stp k8).stp k9⟩ (by rw [el];split<;>rfl) (by rw [eh];split<;>rfl)
  ·have hi0:¬ i=0:=by have:=of_decide_eq_true hi0;omega
   rw [if_neg hi0] at el eh
   exact tail _ _ ω5 w6.drew (sd.non _) topd d1 d2 d3 ⟨_,d4⟩ el.symm eh.symm
 ·rintro ω' w' D hD hDu ⟨i,rfl,top,y1,y2,y3,y4⟩
  rw [List.take_of_length_le (by omega)] at y2 y3
  show C.block_Block_Span.S2 K _ _ (pushMark undef D) w'
  unfold C.block_Block_Span.S2
  have sd:=drew_stp ω' w'
  have sp:=put_stp (ω:=ω') (w:=w'.drew) (o:=.deferred none) hDu
  refine ptr_at<|cI_at (n:=loOf (q.map (·.1))) (by rw [(y2.stp sd).cell];rfl)<|ptr_at<|cI_at (n:=hiOf (q.map (·.1))) (by rw [(y3.stp sd).cell];rfl) ?_
  exact marks_at (by exact hD) (hK _ ((top.stp sd).stp sp).k)
 ·rintro e ω' w' D _ _ h
  exact h.elim
end Go.Proofs.YtmfgmcajelmgbaaGreatDoor.Bk

namespace Go.Proofs.YtmfgmcajelmgbaaGreatDoor.Bk
open Go Vm Go.RowKit Num Mem Utf Lib Lab Vint Bits Rep
variable {ω ω' : Tg} {w w' w0 : World} {T : Nat → Bool} {t u g gm : Nat}
theorem bt_any {e:TypeId} {cs:List Value} (h:BT ω w t g e cs) {j:Nat} (hj:j<cs.length) (v:Value) {Z:World→Prop}
  (hZ:∀ ω' w',Stp (Mem.One t) ω ω' w w'→BT ω' w' t g e (cs.set j v)→(∀ s' ys sz,OT ω w t e sz s' ys→∃ ys',OT ω' w' t e sz s' ys')→Z w'):G.st ⟨g,j,none⟩ v w Z:=by
 refine st_at (by rw [h.cell,List.getElem?_eq_getElem hj]) (h.blk.frozen j) (hZ (ext ω w.heap.size t) _ (Chg.stp (setCell_chg w g j v) fun k hk=>by rw [hk];exact h.tag) ⟨h.blk.set j v,by rw [ext_old h.blk.lt];exact h.tag⟩ ?_)
 intro s' ys sz o
 rcases o.cases with ⟨rfl,rfl⟩ | ⟨g',cur,ha,hb,hn,hm,hl,ht⟩
 ·exact ⟨[],OT.nil ..⟩
 ·have lt:=hb.blk.lt
  obtain ⟨cur',hb',hl'⟩:∃ cur',Blk (w.setCell ⟨g,j,none⟩ v) g' e cur'∧cur'.length=cur.length:=by
   by_cases hg:g'=g
   ·subst hg;exact ⟨cur.set j v,hb.blk.set j v,by rw [List.length_set]⟩
   ·refine ⟨cur,?_,rfl⟩
    unfold Blk
    rw [(setCell_chg w g j v).block g' lt hg];exact hb.blk
  refine ⟨cur'.take (s'.n*sz),⟨?_,fun k hk=>?_⟩⟩
  ·have e':s'=⟨some ⟨g',0,none⟩,s'.n,s'.c⟩:=by rw [← ha]
   rw [e'];exact Own.mk' (Nat.zero_le _) hb' hn hm (by rw [hl',hl]) rfl
  ·have hk2:(Value.slice s'.a s'.n s'.c).ownBlock=some k:=hk
   rw [ha] at hk2
   have hg:g'=k:=Option.some.inj hk2
   rw [← hg,ext_old lt];exact hb.tag
theorem st2_any {e:TypeId} {s:Sl} {xs:List Value} (h:OT ω w t e 2 s xs) {k:Nat} (hk:k<s.n) (v1 v2:Value) {Z:World→Prop}
  (hZ:∀ ω' w',Stp (Mem.One t) ω ω' w w'→(∀ s' ys,OT ω w t e 2 s' ys→∃ ys',OT ω' w' t e 2 s' ys')→Z w'):G.ix s.a s.n (k:Int) 2 fun a=>G.st a v1 w fun w1=>G.st (a.add 1) v2 w1 Z:=by
 rcases h.cases with ⟨rfl,rfl⟩ | ⟨g,cur,ha,hb,hn,hm,hl,ht⟩
 ·exact absurd hk (Nat.not_lt_zero _)
 ·rw [ha]
  refine ⟨⟨by omega,by omega⟩,?_⟩
  rw [Int.toNat_natCast,addr_add]
  show G.st ⟨g,0+k*2,none⟩ v1 w fun w1=>G.st (Addr.add ⟨g,0+k*2,none⟩ 1) v2 w1 Z
  rw [addr_add]
  refine bt_any hb (by omega) v1 fun ω1 w1 k1 b1 a1=>bt_any b1 (by rw [List.length_set];omega) v2 fun ω2 w2 k2 b2 a2=>hZ ω2 w2 (k1.trans k2) fun s' ys o=>?_
  obtain ⟨y1,o1⟩:=a1 s' ys 2 o
  exact a2 s' y1 2 o1
def Wk (ω:Tg) (w:World) (p:SQ):Prop:=(∃ xs,OT ω w 71 93 2 p.2.1 xs)∧∃ xs,OT ω w 72 96 2 p.2.2 xs
theorem spoil_ok {r:Sl} {q:QS} (o:OT ω w 2 57 2 r (sers q)) (hq:q.length≤100000000) (hn:∀ p∈q,p.2.1.n≤100000000∧p.2.2.n≤100000000) (h:∀ p∈q,Wk ω w p) {K:World→Prop}
  (hK:∀ ω' w',Stp (Duo 71 72) ω ω' w w'→K w'):C.tocsinlaw10_Spoil r w K:=by
 have hrn:=rdQ_n o.rd
 unfold C.tocsinlaw10_Spoil
 refine C.tocsinlaw10_Spoil.L3_ind fun X hX=>?_
 have key:∀ (d i:Nat) (ω1:Tg) (w1:World),i+d=q.length→Stp (Duo 71 72) ω ω1 w w1→OT ω1 w1 2 57 2 r (sers q)→(∀ p∈q,Wk ω1 w1 p)→X r ((r.n:Nat):Int) (i:Int) w1:=by
  intro d
  induction d with
  | zero =>
   intro i ω1 w1 hi k1 o1 h1
   refine hX _ _ _ _ ?_
   unfold C.tocsinlaw10_Spoil.S25
   exact cond_d (fun h=>by omega) (fun _=>hK ω1 w1 k1)
  | succ d ih =>
   intro i ω1 w1 hi k1 o1 h1
   refine hX _ _ _ _ ?_
   unfold C.tocsinlaw10_Spoil.S25 C.tocsinlaw10_Spoil.S22 C.tocsinlaw10_Spoil.S20
   have hiq:i<q.length:=by omega
   have hx:q[i]?=some q[i]:=List.getElem?_eq_getElem hiq
   have hni:=hn _ (List.getElem_mem hiq)
   refine cond_d (fun _=>?_) (fun h=>by omega)
   refine rdQ_at o1.rd (k:=i) rfl hx fun a a0 a1=>cSl_at a0 ?_
   refine C.tocsinlaw10_Spoil.L16_ind fun Y hY=>?_
   have labels:∀ (e j:Nat) (ω1:Tg) (w1:World),j+e=q[i].2.1.n→Stp (Duo 71 72) ω ω1 w w1→OT ω1 w1 2 57 2 r (sers q)→(∀ p∈q,Wk ω1 w1 p)→Y r (i:Int) ((r.n:Nat):Int) (i:Int) ((q[i].2.1.n:Nat):Int) (j:Int) w1:=by
    intro e
    induction e with
    | zero =>
     intro j ω1 w1 hj k1 o1 h1
     refine hY _ _ _ _ _ _ _ ?_
     unfold C.tocsinlaw10_Spoil.S18 C.tocsinlaw10_Spoil.S13
     refine cond_d (fun h=>by omega) (fun _=>?_)
     refine rdQ_at o1.rd (k:=i) rfl hx fun a a0 a1=>cSl_at a1 ?_
     refine C.tocsinlaw10_Spoil.L9_ind fun Z hZ=>?_
     have samples:∀ (e j:Nat) (ω1:Tg) (w1:World),j+e=q[i].2.2.n→Stp (Duo 71 72) ω ω1 w w1→OT ω1 w1 2 57 2 r (sers q)→(∀ p∈q,Wk ω1 w1 p)→Z r (i:Int) ((r.n:Nat):Int) (i:Int) ((q[i].2.2.n:Nat):Int) (j:Int) w1:=by
      intro e
      induction e with
      | zero =>
       intro j ω1 w1 hj k1 o1 h1
       refine hZ _ _ _ _ _ _ _ ?_
       unfold C.tocsinlaw10_Spoil.S11 C.tocsinlaw10_Spoil.S5
       refine cond_d (fun h=>by omega) (fun _=>?_)
       rw [wI64 (by omega) (by omega),show (i:Int)+1=((i+1:Nat):Int) by omega]
       exact ih (i+1) ω1 w1 (by omega) k1 o1 h1
      | succ e ihe =>
       intro j ω1 w1 hj k1 o1 h1
       refine hZ _ _ _ _ _ _ _ ?_
       unfold C.tocsinlaw10_Spoil.S11
       refine cond_d (fun _=>?_) (fun h=>by omega)
       refine rdQ_at o1.rd (k:=i) rfl hx fun a a0 a1=>cSl_at a1 ?_
       obtain ⟨xs,ox⟩:=(h1 _ (List.getElem_mem hiq)).2
       refine st2_any ox (k:=j) (by omega) _ _ fun ω2 w2 k2 a2=>?_
       rw [wI64 (by omega) (by omega),show (j:Int)+1=((j+1:Nat):Int) by omega]
       refine ihe (j+1) ω2 w2 (by omega) (k1.trans k2.two) (o1.stp k2) fun p hp=>?_
       obtain ⟨⟨y1,p1⟩,⟨y2,p2⟩⟩:=h1 p hp
       exact ⟨⟨y1,p1.stp k2⟩,a2 _ _ p2⟩
     exact samples q[i].2.2.n 0 ω1 w1 (by omega) k1 o1 h1
    | succ e ihe =>
     intro j ω1 w1 hj k1 o1 h1
     refine hY _ _ _ _ _ _ _ ?_
     unfold C.tocsinlaw10_Spoil.S18
     refine cond_d (fun _=>?_) (fun h=>by omega)
     refine rdQ_at o1.rd (k:=i) rfl hx fun a a0 a1=>cSl_at a0 ?_
     obtain ⟨xs,ox⟩:=(h1 _ (List.getElem_mem hiq)).1
     refine st2_any ox (k:=j) (by omega) _ _ fun ω2 w2 k2 a2=>?_
     rw [wI64 (by omega) (by omega),show (j:Int)+1=((j+1:Nat):Int) by omega]
     refine ihe (j+1) ω2 w2 (by omega) (k1.trans k2.one) (o1.stp k2) fun p hp=>?_
     obtain ⟨⟨y1,p1⟩,⟨y2,p2⟩⟩:=h1 p hp
     exact ⟨a2 _ _ p1,⟨y2,p2.stp k2⟩⟩
   exact labels q[i].2.1.n 0 ω1 w1 (by omega) k1 o1 h1
 exact key q.length 0 ω w (by omega) (Stp.refl _ _ _) o h
theorem cnt_take {L:List Ser} {i:Nat} (hi:i<L.length):cntOf (L.take (i+1))=cntOf (L.take i)+L[i].2.length:=by
 rw [List.take_succ_eq_append_getElem hi,cnt_snoc]
theorem cnt_part (L:List Ser) (i:Nat):cntOf (L.take i)≤cntOf L:=by
 have e:cntOf L=cntOf (L.take i)+cntOf (L.drop i):=by
  conv=>lhs;rw [← List.take_append_drop i L]
  unfold cntOf
  rw [List.map_append,List.sum_append]
 omega
theorem told_ok {rs:Sl} {q:QS} (h:AR w g rs q) (hq:q.length≤1000) {l:Sl} {ql:QS} (hl:RdQ w l ql) (e:ql.map (·.1)=q.map (·.1)) {K:Sl→Bool→World→Prop}
  (hK:∀ r q' ω' w',Top w ω' w'→OT ω' w' 2 57 2 r (sers q')→q'.length≤1000→(∀ p∈q',p.2.1.n≤100000000∧p.2.2.n≤100000000)→(∀ p∈q',Wk ω' w' p)→K r true w') :
  C.tocsinlaw10_every (some ⟨g,0,none⟩) (2000:Int) w fun r w1=>C.tocsinref10_Same r l w1 fun b w2=>K r b w2:=by
 refine every_ok (fun _=>0) h (m:=2000) (by decide) fun r q3 ω3 w3 k3 o3 e3 hr3=>?_
 have top3:=(Top.init w).stp k3
 have rd3:RdQ w3 r q3:=every_rd (q:=q) (m:=2000) o3 hr3 e3 h.rd.el
 rw [List.take_of_length_le (by rw [List.length_map];omega)] at e3
 have hq3:q3.length≤1000:=by have:=congrArg List.length e3;simp only [List.length_map] at this;omega
 refine rsameQ_ok rd3 (hl.keep top3.k) (by omega) fun w5 k5=>?_
 rw [decide_eq_true (by rw [e3,e])]
 have s5:=k5.stp0 ω3
 refine hK r q3 ω3 w5 (top3.stp s5) (o3.stp s5) hq3 (fun p hp=>?_) (fun p hp=>⟨⟨_,(hr3 p hp).1.stp s5⟩,⟨_,(hr3 p hp).2.stp s5⟩⟩)
 have h1:=rdL_n (hr3 p hp).1.rd
 have h2:=smN (hr3 p hp).2.rd
 have hm:p.1∈q.map (·.1):=by rw [← e3];exact List.mem_map_of_mem hp
 obtain ⟨y,hy,ey⟩:=List.mem_map.1 hm
 have h3:=h.l16 y hy
 have h4:=(h.rd.el y hy).sl
 rw [ey] at h3 h4
 exact ⟨by omega,by omega⟩
theorem whole_ok {bs rs:Sl} {b:List UInt8} {q:QS} {es:List IE} {k:Int} (bk:BK ω w t g gm bs rs b q (Bk.post (q.map (·.1))) es k) (hq:q.length≤1000) (hris:Ris (q.map (·.1))) {l:Sl} {ql:QS} (hl:RdQ w l ql) (e:ql.map (·.1)=q.map (·.1)) {K:Bool→World→Prop} (hK:∀ w',Keep w w'→K true w'):C.tocsinlaw10_whole (some ⟨g,0,none⟩) l w K:=by
 unfold C.tocsinlaw10_whole C.tocsinlaw10_whole.S9
 have hln:=hl.n
 have hql:ql.length=q.length:=by have:=congrArg List.length e;simpa using this
 have hLl:(ql.map (·.1)).length=ql.length:=List.length_map _
 have hcnt:cntOf (ql.map (·.1))≤1000000000000:=by
  have:=cnt_le (l:=ql.map (·.1)) fun x hx=>by obtain ⟨p,hp,rfl⟩:=List.mem_map.1 hx;exact (hl.el p hp).sl
  have h2:11000000*(ql.map (·.1)).length≤11000000*1000:=Nat.mul_le_mul_left _ (by omega)
  omega
 have har:=bk.ar (by omega)
 refine C.tocsinlaw10_whole.L5_ind fun X hX=>?_
 have key:∀ (d i:Nat) (w1:World),i+d=ql.length→Keep w w1→X (some ⟨g,0,none⟩) l (cntOf ((ql.map (·.1)).take i):Int) (loOf ((ql.map (·.1)).take i)) (hiOf ((ql.map (·.1)).take i)) l ((l.n:Nat):Int) (i:Int) w1:=by
  intro d
  induction d with
  | zero =>
   intro i w1 hi k1
   refine hX _ _ _ _ _ _ _ _ _ ?_
   unfold C.tocsinlaw10_whole.S7 C.tocsinlaw10_whole.S2
   rw [List.take_of_length_le (by omega),e]
   rw [e] at hcnt
   refine cond_d (fun h=>by omega) (fun _=>?_)
   refine span_ok (har.keep k1) (fun x hx=>(hris x hx).1) fun w2 k2=>?_
   have k02:=Keep.trans k1 k2
   refine len_ok (har.keep k02)<|cond_ne (fun h=>absurd (by omega) h) (fun _=>?_)
   refine samples_ok (har.keep k02) hcnt fun w3 k3=>?_
   have k03:=Keep.trans k02 k3
   refine cond_ne (fun h=>absurd rfl h) (fun _=>cond_ne (fun h=>absurd rfl h) (fun _=>cond_ne (fun h=>absurd rfl h) (fun _=>?_)))
   refine (bk.stp (k03.stp0 ω) (fun _ _ _=>rfl)).names fun r4 w4 k4 rd4=>?_
   have k04:=Keep.trans k03 k4
   have hrt:∀ x∈q.map (·.1),(rt x.1).1=0:=fun x hx=>by obtain ⟨p,hp,rfl⟩:=List.mem_map.1 hx;exact (bk.el p hp).rt
   refine rnames_ok (hl.keep k04) (by omega) (by rw [e];exact hrt) fun r5 w5 k5 rd5=>?_
   have k05:=Keep.trans k04 k5
   rw [e] at rd5
   have hul:(uniq (namesR (q.map (·.1)))).length≤100000000:=by
    have h2:setT (namesR (q.map (·.1)))=uniq (namesR (q.map (·.1))):=(uniq_set fun _=>Iff.rfl).symm
    have h3:=set_len (l:=namesR (q.map (·.1))) _ (Nat.le_refl _)
    have h4:=names_len hrt
    rw [List.take_length,h2] at h3
    rw [List.length_map] at h4
    omega
   refine texts_ok (rd4.keep k5) rd5 hul fun w6 k6=>?_
   rw [decide_eq_true (uniq_set fun _=>Iff.rfl)]
   refine cond_f rfl ?_
   have k06:=Keep.trans k05 k6
   refine told_ok (har.keep k06) hq (hl.keep k06) e fun r q3 ω3 w7 top7 o7 hq3 hn7 hw7=>?_
   refine spoil_ok o7 (by omega) hn7 hw7 fun ω8 w8 k8=>cond_t rfl ?_
   have k08:=Keep.trans k06 (top7.stp k8).k
   exact told_ok (K:=fun _ b w=>K b w) (har.keep k08) hq (hl.keep k08) e fun r' q4 ω9 w9 top9 _ _ _ _=>hK w9 (Keep.trans k08 top9.k)
  | succ d ih =>
   intro i w1 hi k1
   refine hX _ _ _ _ _ _ _ _ _ ?_
   unfold C.tocsinlaw10_whole.S7
   have hiq:i<ql.length:=by omega
   have hx:ql[i]?=some ql[i]:=List.getElem?_eq_getElem hiq
   have hs:=hl.el _ (List.getElem_mem hiq)
   have el:=lo_take (L:=ql.map (·.1)) (i:=i) (by omega)
   have eh:=hi_take (L:=ql.map (·.1)) (i:=i) (by omega)
   have ec:=cnt_take (L:=ql.map (·.1)) (i:=i) (by omega)
   have hcp:=cnt_part (ql.map (·.1)) (i+1)
   rw [List.getElem_map] at el eh ec
   have hpn:ql[i].1.2≠[]:=(hris ql[i].1 (by rw [← e];exact List.mem_map_of_mem (List.getElem_mem hiq))).1
   have hpl:0<ql[i].1.2.length:=List.length_pos_iff.2 hpn
   have hsl:=hs.sl
   refine cond_d (fun _=>?_) (fun h=>by omega)
   refine rdQ_at (hl.rd.keep k1) (k:=i) rfl hx fun a a0 a1=>cSl_at a0<|cSl_at a1 ?_
   refine locS fun g3 w3 k3 hg3 b3=>cSl_at (s:=ql[i].2.2) (by rw [addr_add,b3.cell];rfl) ?_
   have k3d:=Keep.trans k3.1 (Keep.drew w3)
   have k03:=Keep.trans k1 k3d
   have b3d:Blk w3.drew g3 57 [ql[i].2.1.v,ql[i].2.2.v]:=b3
   have sm3:=hs.sm.keep k03
   have hsn:=smN sm3
   refine cSl_at (s:=ql[i].2.2) (by rw [addr_add,b3d.cell];rfl) ?_
   refine Chunk.rdS_at sm3 (k:=0) rfl (first_at hpn) fun p0 f0 _=>cI_at f0 ?_
   refine cSl_at (s:=ql[i].2.2) (by rw [addr_add,b3d.cell];rfl)<|cSl_at (s:=ql[i].2.2) (by rw [addr_add,b3d.cell];rfl) ?_
   refine Chunk.rdS_at sm3 (k:=ql[i].1.2.length-1) (by rw [wI64 (by omega) (by omega)];omega) (last_at hpn) fun p1 f1 _=>cI_at f1 ?_
   rw [wI64 (x:=(cntOf ((ql.map (·.1)).take i):Int)+((ql[i].2.2.n:Nat):Int)) (by omega) (by omega),wI64 (x:=(i:Int)+1) (by omega) (by omega),show (i:Int)+1=((i+1:Nat):Int) by omega,
    show (cntOf ((ql.map (·.1)).take i):Int)+((ql[i].2.2.n:Nat):Int)=(cntOf ((ql.map (·.1)).take (i+1)):Int) by omega]
   have fin:∀ a b:Int,a=loOf ((ql.map (·.1)).take (i+1))→b=hiOf ((ql.map (·.1)).take (i+1))→X (some ⟨g,0,none⟩) l (cntOf ((ql.map (·.1)).take (i+1)):Int) a b l ((l.n:Nat):Int) ((i+1:Nat):Int) w3.drew:=by
    rintro a b rfl rfl
    exact ih (i+1) w3.drew (by omega) k03
   refine cond_eq (fun hi0=>cond_eq (fun _=>?_) (fun h=>absurd hi0 h)) (fun hi0=>?_)
   ·have hi0:i=0:=by omega
    rw [if_pos hi0] at el eh
    exact fin _ _ el.symm eh.symm
   have hi1:¬ i=0:=fun h=>hi0 (by omega)
   rw [if_neg hi1] at el eh
   have two:∀ a:Int,a=loOf ((ql.map (·.1)).take (i+1))→G.cond ((i:Int)==(0:Int)) (X (some ⟨g,0,none⟩) l (cntOf ((ql.map (·.1)).take (i+1)):Int) a (Chunk.lastS ql[i].1.2).1 l ((l.n:Nat):Int) ((i+1:Nat):Int) w3.drew) (G.cond (decide ((Chunk.lastS ql[i].1.2).1 > hiOf ((ql.map (·.1)).take i))) (X (some ⟨g,0,none⟩) l (cntOf ((ql.map (·.1)).take (i+1)):Int) a (Chunk.lastS ql[i].1.2).1 l ((l.n:Nat):Int) ((i+1:Nat):Int) w3.drew) (X (some ⟨g,0,none⟩) l (cntOf ((ql.map (·.1)).take (i+1)):Int) a (hiOf ((ql.map (·.1)).take i)) l ((l.n:Nat):Int) ((i+1:Nat):Int) w3.drew)):=by
    intro a ha
    refine cond_eq (fun h=>absurd h hi0) (fun _=>cond_d (fun hgt=>?_) (fun hle=>?_))
    ·rw [if_pos (by omega)] at eh;exact fin _ _ ha eh.symm
    ·rw [if_neg (by omega)] at eh;exact fin _ _ ha eh.symm
   refine cond_d (fun hlt=>?_) (fun hge=>?_)
   ·rw [if_pos hlt] at el;exact two _ el.symm
   ·rw [if_neg hge] at el;exact two _ el.symm
 have:=key ql.length 0 w (by omega) (Keep.refl w)
 exact this
theorem BK.rtg {ωl:Tg} {bs rs:Sl} {b:List UInt8} {q:QS} {F:Lb→List Nat} {es:List IE} {k:Int} (h:BK ωl w' t g gm bs rs b q F es k) (top:Top w ωl w') (ht:0<t) (ω:Tg):BK (Mem.rtg ω ωl w.heap.size id) w' t g gm bs rs b q F es k:=by
 refine ⟨h.hd.rtg top id (by omega),h.by_.rtg top id (by omega),h.row.rtg top id (by omega),⟨⟨h.ix.mp.ex,rtg_new (top.ge h.ix.mp.tag (by omega)) h.ix.mp.tag,h.ix.mp.sm⟩,fun j e he=>(h.ix.own j e he).rtg top id (by omega),h.ix.eq,h.ix.all,h.ix.ne⟩,fun p hp=>⟨(h.el p hp).lb.rtg top id (by omega),(h.el p hp).sm.rtg top id (by omega),(h.el p hp).fl,(h.el p hp).sl,(h.el p hp).rt⟩,h.n⟩
def f5 (x:Nat):Nat:=if x=2 then 52 else if x=8 then 58 else 0
theorem stB_ok {c:Sl} {m:List UInt8} (o:OT ω w t 5 1 c (vBs m)) {k:Nat} (hk:k<m.length) {K:World→Prop} (hK:∀ ω' w',Stp (Mem.One t) ω ω' w w'→OT ω' w' t 5 1 c (vBs (m.set k 99))→K w'):G.ix c.a c.n (k:Int) 1 fun p=>G.st p (.int .u8 (99:Int)) w K:=by
 have hn:c.n=m.length:=by have:=o.own.len;rw [vBs_length] at this;omega
 refine OT.at_ o (k:=k) rfl (by omega) fun a ha _ _ _=>?_
 have e0:G.st (a.add 0) (.int .u8 (99:Int)) w K:=OT.st o (i:=k) (j:=0) (by omega) (by decide) _ ha fun ω' w' k1 o1=>hK ω' w' k1 (by
  have es:(vBs m).set (k*1+0) (.int .u8 (99:Int))=vBs (m.set k 99):=by unfold vBs;rw [Nat.mul_one,Nat.add_zero,List.map_set];rfl
  rw [es] at o1;exact o1)
 rwa [show a.add 0=a by simp [Addr.add]] at e0
theorem opens_law (hT:DTab w0) (ht:UTab w0) (hv:Vint.Tab w0) {s:Sl} {b:List UInt8} (h:RdB w0 s b) (hl:b.length≤2000000) {K:Bool→World→Prop} (hK:∀ w',Keep w0 w'→K true w'):C.tocsinlaw10_BlockOpens s w0 K:=by
 unfold C.tocsinlaw10_BlockOpens
 have aw:∀ w1,Keep w0 w1→C.tocsinlaw10_awake w1 fun b9 w10=>K b9 w10:=fun w1 k1=>awake_ok (hT.keep k1) (ht.keep k1) (hv.keep k1) fun w2 k2=>hK w2 (Keep.trans k1 k2)
 have hsn:=h.len
 refine appNil tiB h vBs_one (by simp only [maxLen];omega) (by omega) fun c w1 k1 o1=>?_
 have top1:=(Top.init w0).stp (k1.stp (fun _=>0) 41)
 have c1:=Own.tag o1 (Nat.le_refl _) (fun _=>0) 41
 generalize ext (fun _=>0) w0.heap.size 41=ω1 at *
 have hcn:c.n=b.length:=by have:=c1.own.len;rw [vBs_length] at this;omega
 -- own,spoilt
 have spoilt:∀ (x:Option Addr) (lq:Sl) (ok:Bool) (ω2:Tg) (w2:World),OT ω2 w2 41 5 1 c (vBs b)→(∀ ω3 w3,Stp (Mem.One 41) ω2 ω3 w2 w3→C.tocsinlaw10_BlockOpens.S11 K s x lq ok w3)→C.tocsinlaw10_BlockOpens.S18 K s c x lq ok w2:=by
  intro x lq ok ω2 w2 o2 hS
  unfold C.tocsinlaw10_BlockOpens.S18
  refine C.tocsinlaw10_BlockOpens.L14_ind fun X hX=>?_
  have key:∀ (d i:Nat) (m:List UInt8) (ω3:Tg) (w3:World),i+d=b.length→m.length=b.length→Stp (Mem.One 41) ω2 ω3 w2 w3→OT ω3 w3 41 5 1 c (vBs m)→X s c x lq ok ((c.n:Nat):Int) (i:Int) w3:=by
   intro d
   induction d with
   | zero =>
    intro i m ω3 w3 hi hm k3 o3
    refine hX _ _ _ _ _ _ _ _ ?_
    unfold C.tocsinlaw10_BlockOpens.S16
    exact cond_d (fun h=>by omega) (fun _=>hS ω3 w3 k3)
   | succ d ih =>
    intro i m ω3 w3 hi hm k3 o3
    refine hX _ _ _ _ _ _ _ _ ?_
    unfold C.tocsinlaw10_BlockOpens.S16
    refine cond_d (fun _=>?_) (fun h=>by omega)
    refine stB_ok o3 (by omega) fun ω4 w4 k4 o4=>?_
    rw [wI64 (by omega) (by omega),show (i:Int)+1=((i+1:Nat):Int) by omega]
    exact ih (i+1) _ ω4 w4 (by omega) (by rw [List.length_set];exact hm) (k3.trans k4) o4
  exact key b.length 0 b ω2 w2 (by omega) rfl (Stp.refl _ _ _) o2
 refine open_ok (hT.keep top1.k) (ht.keep top1.k) (hv.keep top1.k) (b:=b) c1.rd (by omega) 1000 (Nat.le_refl _) (fun hn w2 k2=>?_) (fun l hl' g gm bs rs q2 es ω2 w2 top2 eq bk=>?_)
 ·have s2:=k2.stp0 ω1
  have c2:=c1.stp s2
  have top2:=top1.stp s2
  refine ropen_ok (h.keep top2.k) (by omega) (fun _ w3 k3=>?_) (fun l hl' _ _ _ _ _ _ _ _=>by rw [hn] at hl';cases hl')
  have s3:=k3.stp0 ω1
  have c3:=c2.stp s3
  have top3:=top2.stp s3
  refine Utf.convBS (l:=b) c3.rd<|Utf.convBS (h.keep top3.k) ?_
  rw [str_same,decide_eq_true rfl]
  refine cond_f rfl<|cond_f rfl<|cond_f rfl<|cond_t rfl<|cond_f rfl ?_
  refine spoilt none nilS false ω1 w3 c3 fun ω4 w4 k4=>?_
  unfold C.tocsinlaw10_BlockOpens.S11
  exact cond_t rfl (aw w4 (top3.stp k4).k)
 have hris:Ris (q2.map (·.1))∧q2.length≤1000:=by
  subst eq
  obtain ⟨h1,h2,_⟩:=open_some hl'
  obtain ⟨bl,_⟩:=blo_of h1 (fun x hx y hy=>by obtain ⟨p,hp,rfl⟩:=List.mem_map.1 hx;exact (bk.el p hp).fl y hy) (fun x hx=>by obtain ⟨p,hp,rfl⟩:=List.mem_map.1 hx;exact (bk.el p hp).sl)
  have pm:=srt_perm (q2.map (·.1))
  have hn:=bl.n
  rw [pm.length_eq,List.length_map] at hn
  exact ⟨fun x hx=>bl.ris x (pm.mem_iff.2 hx),hn⟩
 have bkj:=bk.rtg top2 (by decide) ω1
 have sj:=rtg_stp top2.k ω1 ω2 id
 have cj:=c1.stp sj
 have topj:=top1.stp sj
 generalize Mem.rtg ω1 ω2 w1.heap.size id=ω3 at *
 refine ropen_ok (h.keep topj.k) (by omega) (fun hn=>by rw [hn] at hl';cases hl') (fun l2 hl2 r ql ω4 w4 top4 eql or4 hr4=>?_)
 rw [hl'] at hl2
 injection hl2 with hl2
 subst hl2
 have orj:=or4.rtg (ω:=ω3) top4 f5
 have hrj:∀ p∈ql,OT (Mem.rtg ω3 ω4 w2.heap.size f5) w4 58 93 2 p.2.1 (labs p.1.1)∧OT (Mem.rtg ω3 ω4 w2.heap.size f5) w4 58 96 2 p.2.2 (Chunk.smps p.1.2):=fun p hp=>⟨(hr4 p hp).2.2.1.rtg top4 f5,(hr4 p hp).2.2.2.rtg top4 f5⟩
 have s4:=rtg_stp top4.k ω3 ω4 f5
 have c4:=cj.stp s4
 have bk4:=bkj.stp s4 (off_non 1000)
 have top04:=topj.stp s4
 have orj:OT (Mem.rtg ω3 ω4 w2.heap.size f5) w4 52 57 2 r (sers ql):=orj
 generalize Mem.rtg ω3 ω4 w2.heap.size f5=ω5 at *
 have hsq:∀ p∈ql,SeOk w4 p:=fun p hp=>(hr4 p hp).1
 refine Utf.convBS (l:=b) c4.rd<|Utf.convBS (h.keep top04.k) ?_
 rw [str_same,decide_eq_true rfl]
 refine cond_f rfl<|cond_f rfl<|cond_f rfl<|cond_f rfl ?_
 refine spoilt (some ⟨g,0,none⟩) r true ω5 w4 c4 fun ω6 w6 k6=>?_
 have bk6:=bk4.stp k6 (off_one (.inl (by decide)))
 have top6:=top04.stp k6
 have or6:=orj.stp k6
 have hr6:∀ p∈ql,OT ω6 w6 58 93 2 p.2.1 (labs p.1.1)∧OT ω6 w6 58 96 2 p.2.2 (Chunk.smps p.1.2):=fun p hp=>⟨(hrj p hp).1.stp k6,(hrj p hp).2.stp k6⟩
 unfold C.tocsinlaw10_BlockOpens.S11 C.block_Block_All
 refine cond_f rfl<|new_T (ω:=ω6) 6 fun g7 ω7 w7 k7 b7=>isNilF_no (cond_f rfl ?_)
 have bk7:=bk6.stp k7 (off_non 1000)
 have top7:=top6.stp k7
 refine bytes_ok bk7 (by omega) fun c8 w8 k8 o8=>?_
 have s8:=k8.stp ω7 42
 have c8t:=Own.tag o8 (Nat.le_refl _) ω7 42
 have bk8:=bk7.stp s8 (off_non 1000)
 have top8:=top7.stp s8
 have or8:=(or6.stp k7).stp s8
 have hr8:∀ p∈ql,OT (ext ω7 w7.heap.size 42) w8 58 93 2 p.2.1 (labs p.1.1)∧OT (ext ω7 w7.heap.size 42) w8 58 96 2 p.2.2 (Chunk.smps p.1.2):=fun p hp=>⟨((hr6 p hp).1.stp k7).stp s8,((hr6 p hp).2.stp k7).stp s8⟩
 generalize ext ω7 w7.heap.size 42=ω8 at *
 refine Utf.convBS (l:=b) c8t.rd<|Utf.convBS (h.keep top8.k) ?_
 rw [str_same,decide_eq_true rfl]
 refine cond_f rfl ?_
 unfold C.tocsinlaw10_BlockOpens.S9
 refine C.tocsinlaw10_BlockOpens.L5_ind fun X hX=>?_
 have h8n:c8.n=b.length:=by have:=c8t.own.len;rw [vBs_length] at this;omega
 have key:∀ (d i:Nat) (m:List UInt8) (ω9:Tg) (w9:World),i+d=b.length→m.length=b.length→Stp (Mem.One 42) ω8 ω9 w8 w9→OT ω9 w9 42 5 1 c8 (vBs m)→X s (some ⟨g,0,none⟩) r c8 ((c8.n:Nat):Int) (i:Int) w9:=by
  intro d
  induction d with
  | zero =>
   intro i m ω9 w9 hi hm k9 o9
   refine hX _ _ _ _ _ _ _ ?_
   unfold C.tocsinlaw10_BlockOpens.S7 C.tocsinlaw10_BlockOpens.S2
   have bk9:=bk8.stp k9 (off_one (.inl (by decide)))
   have top9:=top8.stp k9
   have sd:=drew_stp ω9 w9
   have bkd:=bk9.stp sd (off_non 1000)
   have topd:=top9.stp sd
   refine cond_d (fun h=>by omega) (fun _=>?_)
   refine Utf.convBS (h.keep topd.k) ?_
   refine bytes_ok bkd (by omega) fun c10 w10 k10 o10=>⟨isS_at (h.keep (Keep.trans topd.k k10)),?_⟩
   refine Utf.convBS (OwnB.rd o10) ?_
   rw [str_same,decide_eq_true rfl]
   refine cond_t rfl ?_
   have s10:=k10.stp0 ω9
   have rq:RdQ w10 r ql:=⟨(((or8.stp k9).stp sd).stp s10).rd,fun p hp=>⟨((((hr8 p hp).1.stp k9).stp sd).stp s10).rd,((((hr8 p hp).2.stp k9).stp sd).stp s10).rd,(hsq p hp).fl,(hsq p hp).sl,(hsq p hp).ll,(hsq p hp).l9⟩⟩
   have bk10:=bkd.stp s10 (off_non 1000)
   rw [← eq] at bk10
   refine whole_ok bk10 hris.2 hris.1 rq (by rw [eql,eq]) fun w11 k11=>cond_t rfl (aw w11 (Keep.trans (topd.stp s10).k k11))
  | succ d ih =>
   intro i m ω9 w9 hi hm k9 o9
   refine hX _ _ _ _ _ _ _ ?_
   unfold C.tocsinlaw10_BlockOpens.S7
   refine cond_d (fun _=>?_) (fun h=>by omega)
   refine stB_ok o9 (by omega) fun ω4 w4 k4 o4=>?_
   rw [wI64 (by omega) (by omega),show (i:Int)+1=((i+1:Nat):Int) by omega]
   exact ih (i+1) _ ω4 w4 (by omega) (by rw [List.length_set];exact hm) (k9.trans k4) o4
 exact key b.length 0 b ω8 w8 (by omega) rfl (Stp.refl _ _ _) c8t
theorem opens_in (hL:DTab w0∧UTab w0∧Vint.Tab w0) {s:Sl} {b:List UInt8} (h:RdB w0 s b) (hl:b.length≤2000000) {K:Bool→World→Prop} (hK:∀ w',Keep w0 w'→K true w'):C.tocsinlaw10_BlockOpens s w0 K:=opens_law hL.1 hL.2.1 hL.2.2 h hl hK
end Go.Proofs.YtmfgmcajelmgbaaGreatDoor.Bk

namespace Go.Proofs.YtmfgmcajelmgbaaGreatDoor.Utf
open Go Vm Go.RowKit Num Mem
open Go.Lib (VarReads cells_of_tab firstTab firstT accLo accHi array_elem ints_of_struct Utf8Tabs)
theorem utab_of {w : World} (h3 : VarReads Tryz.prog w "unicode/utf8.first" Go.Lib.firstData) (h4 : VarReads Tryz.prog w "unicode/utf8.acceptRanges" Go.Lib.acceptData) : UTab w := by
 refine ⟨fun c hc=>?_,fun i hi=>?_⟩
 ·obtain ⟨g,t,cs,fuel,p,hg,hty,hvar,hd⟩:=h3
  obtain rfl := Option.some.inj ((show Tryz.prog.globalNamed "unicode/utf8.first" = some 2 by kernel_rfl).symm.trans hg)
  obtain rfl:=Option.some.inj ((show (Tryz.prog.globals[2]?).map (·.type)=some 219 by kernel_rfl).symm.trans hty)
  have hcs:=cells_of_tab (e:=5) (n:=256) (by kernel_rfl) (by kernel_rfl) (by kernel_rfl) (by kernel_rfl) hd
  have:=World.var?_cell hg hvar c
  rw [this,← Array.getElem?_toList,hcs]
  simp [firstTab,hc]
 ·obtain ⟨g,t,cs,fuel,p,hg,hty,hvar,hd⟩:=h4
  obtain rfl := Option.some.inj ((show Tryz.prog.globalNamed "unicode/utf8.acceptRanges" = some 3 by kernel_rfl).symm.trans hg)
  obtain rfl:=Option.some.inj ((show (Tryz.prog.globals[3]?).map (·.type)=some 222 by kernel_rfl).symm.trans hty)
  obtain ⟨fuel',d,q,hdi,he⟩:=array_elem (n:=16) (e:=221) (by kernel_rfl) hd i hi
  simp only [List.getElem?_map,List.getElem?_range hi,Option.map_some,Option.some.injEq] at hdi
  subst hdi
  have hc2:Tryz.prog.cellsOf 221=2:=by kernel_rfl
  rw [hc2] at he
  obtain ⟨f0,f1,hs,hf0,hf1,ho0,ho1⟩:∃ f0 f1:Field,Tryz.prog.underlying 221=some (.struct #[f0,f1])∧f0.type=5∧f1.type=5∧f0.offset=0∧f1.offset=1 :=
   ⟨{ name := "lo", type := 5, offset := 0, embedded := false, tag := "", pkgPath := "unicode/utf8", byteOffset := 0 }, { name := "hi", type := 5, offset := 1, embedded := false, tag := "", pkgPath := "unicode/utf8", byteOffset := 1 }, by kernel_rfl, rfl, rfl, rfl, rfl⟩
  have ht5:Tryz.prog.underlying 5=some (.int .u8):=by kernel_rfl
  have hc5:Tryz.prog.cellsOf 5=1:=by kernel_rfl
  have hcs:=ints_of_struct (k:=.u8) hs (fun j f hj=>by
   match j,hj with
   | 0,hj=>simp at hj;subst hj;rw [hf0];exact ⟨ht5,ho0,hc5⟩
   | 1,hj=>simp at hj;subst hj;rw [hf1];exact ⟨ht5,ho1,hc5⟩
   | j+2,hj=>simp at hj) (by rw [hc2];rfl) he
  have e0:=congrArg (·[0]?) hcs
  have e1:=congrArg (·[1]?) hcs
  simp only [List.getElem?_take,List.getElem?_drop] at e0 e1
  constructor
  ·rw [World.var?_cell hg hvar (2*i),← Array.getElem?_toList]
   simpa [Nat.mul_comm] using e0
  ·rw [World.var?_cell hg hvar (2*i+1),← Array.getElem?_toList]
   simpa [Nat.mul_comm] using e1
theorem first_same:(Rows.laid_unicode_utf8_first:DataW Unit)=Go.Lib.firstData:=by kernel_rfl
theorem accept_same:(Rows.laid_unicode_utf8_acceptRanges:DataW Unit)=Go.Lib.acceptData:=by kernel_rfl
theorem utab_laid {w : World} {l : List (String × DataW Unit)} (h : laidMet Tryz.prog l w) (h1 : ("unicode/utf8.first", Rows.laid_unicode_utf8_first) ∈ l) (h2 : ("unicode/utf8.acceptRanges", Rows.laid_unicode_utf8_acceptRanges) ∈ l) : UTab w :=
 utab_of (by rw [← first_same];exact Go.Lib.laidMet.reads h h1) (by rw [← accept_same];exact Go.Lib.laidMet.reads h h2)
end Go.Proofs.YtmfgmcajelmgbaaGreatDoor.Utf
namespace Go.Proofs.YtmfgmcajelmgbaaGreatDoor.Utf
open Go Vm Go.RowKit Num Mem
theorem own:ownKnob Tryz.prog.godebug=none:=by kernel_rfl
noncomputable def utfWorld (w:World):World :=
 { w with heap:=(w.heap.modify 2 fun
   | .cells _ t frozen=>.cells (Go.Lib.firstTab.map fun z=>Value.int .u8 z).toArray t frozen
   | o=>o).modify 3 fun
   | .cells _ t frozen=>.cells ((List.range 16).flatMap fun i=>[Value.int .u8 (Go.Lib.accLo i),Value.int .u8 (Go.Lib.accHi i)]).toArray t frozen
   | o=>o }
noncomputable def laidWorld (os:Os):World:=utfWorld (World.holding Tryz.prog os ⟨#[],#[],[]⟩)
end Go.Proofs.YtmfgmcajelmgbaaGreatDoor.Utf

namespace Go.Proofs.YtmfgmcajelmgbaaGreatDoor.Bk
open Go Vm Go.RowKit Num Mem Crc Bits
theorem own:ownKnob Tryz.prog.godebug=none:=by kernel_rfl
def halves:List Int:=[0,274646895,549293790,820201905,1098587580,1361435347,1640403810,1905808397,2197175160,2460548119,2722870694,2987750089,3280807620,3553878443,3811616794,4084100981]
def tz64:List Int:=[0,1,56,2,57,49,28,3,61,58,42,50,38,29,17,4,62,47,59,36,45,43,51,22,53,39,33,30,24,18,12,5,63,55,48,27,60,41,37,16,46,35,44,21,52,32,23,11,54,26,40,15,34,20,31,10,25,14,19,9,13,8,7,6]
theorem tab_reads {w : World} (h : Go.Lib.VarReads Tryz.prog w "tocsin/vint.halves" Rows.laid_tocsin_vint_halves) : Vint.Tab w := by
 obtain ⟨g,t,cs,fuel,p,hg,hty,hvar,hd⟩:=h
 obtain rfl := Option.some.inj ((show Tryz.prog.globalNamed "tocsin/vint.halves" = some 1 by kernel_rfl).symm.trans hg)
 obtain rfl:=Option.some.inj ((show (Tryz.prog.globals[1]?).map (·.type)=some 214 by kernel_rfl).symm.trans hty)
 have hcs:=Go.Lib.cells_of_tab (zs:=halves) (k:=.u32) (e:=142) (n:=16) (by kernel_rfl) (by kernel_rfl) (by kernel_rfl) (by kernel_rfl) hd
 have h : Lib.TabIs Tryz.prog w "tocsin/vint.halves" .u32 halves := by
  unfold Go.Lib.TabIs
  rw [hvar,← hcs]
 intro i hi
 rw [h.cell (by kernel_rfl) i (by simpa [halves] using hi)]
 congr 2
 revert i
 decide +kernel
theorem dtab_reads {w : World} (h : Go.Lib.VarReads Tryz.prog w "math/bits.deBruijn64tab" Rows.laid_math_bits_deBruijn64tab) : DTab w := by
 obtain ⟨g,t,cs,fuel,p,hg,hty,hvar,hd⟩:=h
 obtain rfl := Option.some.inj ((show Tryz.prog.globalNamed "math/bits.deBruijn64tab" = some 5 by kernel_rfl).symm.trans hg)
 obtain rfl:=Option.some.inj ((show (Tryz.prog.globals[5]?).map (·.type)=some 259 by kernel_rfl).symm.trans hty)
 have hcs:=Go.Lib.cells_of_tab (zs:=tz64) (k:=.u8) (e:=5) (n:=64) (by kernel_rfl) (by kernel_rfl) (by kernel_rfl) (by kernel_rfl) hd
 have h : Lib.TabIs Tryz.prog w "math/bits.deBruijn64tab" .u8 tz64 := by
  unfold Go.Lib.TabIs
  rw [hvar,← hcs]
 intro i hi
 rw [h.cell (by kernel_rfl) i (by simpa [tz64,Lib.deBruijn64tab] using hi)]
 congr 2
 revert i
 decide +kernel
theorem tabs_laid {w : World} (h : laidMetH Tryz.prog [("math/bits.deBruijn64tab", Rows.laid_math_bits_deBruijn64tab), ("unicode/utf8.acceptRanges", Rows.laid_unicode_utf8_acceptRanges), ("tocsin/vint.halves", Rows.laid_tocsin_vint_halves), ("unicode/utf8.first", Rows.laid_unicode_utf8_first)] w) : DTab w ∧ Utf.UTab w ∧ Vint.Tab w := by
 have h' : laidMet Tryz.prog [("math/bits.deBruijn64tab", Rows.laid_math_bits_deBruijn64tab), ("unicode/utf8.acceptRanges", Rows.laid_unicode_utf8_acceptRanges), ("tocsin/vint.halves", Rows.laid_tocsin_vint_halves), ("unicode/utf8.first", Rows.laid_unicode_utf8_first)] w := h
 exact ⟨dtab_reads (Go.Lib.laidMet.reads h' (.head _)),Utf.utab_laid h' (.tail _ (.tail _ (.tail _ (.head _)))) (.tail _ (.head _)),tab_reads (Go.Lib.laidMet.reads h' (.tail _ (.tail _ (.head _))))⟩
noncomputable def vintWorld (w:World):World :=
 { w with heap:=w.heap.modify 1 fun
   | .cells _ t frozen=>.cells (halves.map fun z=>Value.int .u32 z).toArray t frozen
   | o=>o }
noncomputable def bitsWorld (w:World):World :=
 { w with heap:=w.heap.modify 5 fun
   | .cells _ t frozen=>.cells (tz64.map fun z=>Value.int .u8 z).toArray t frozen
   | o=>o }
noncomputable def laidWorld (os:Os):World:=bitsWorld (vintWorld (Utf.laidWorld os))
end Go.Proofs.YtmfgmcajelmgbaaGreatDoor.Bk
