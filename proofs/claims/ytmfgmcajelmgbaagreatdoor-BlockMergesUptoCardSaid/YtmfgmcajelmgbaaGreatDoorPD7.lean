/- (several texts in one: BkMz,UtfWB,BkW) Own work. -/
import Derived.Test.YtmfgmcajelmgbaaGreatDoorPD6
namespace Go.Proofs.YtmfgmcajelmgbaaGreatDoor.Bk
open Go Vm Go.RowKit Num Mem Utf Lib Lab Vint Bits Rep
variable {ω ω' : Tg} {w w' w0 : World} {T : Nat → Bool} {t u g gm : Nat}
theorem blo_nil:Blo []:=by
 have h:=hd_len (l:=[]) (fun x hx=>by cases hx) (by decide) (by simp)
 refine ⟨fit_nil,by simp,List.Pairwise.nil,by decide,by simp,?_⟩
 unfold bytesOf
 have h2:=putU_len64 (n:=(hd []).length) (by omega)
 have h3:magicB.length=8:=rfl
 simp only [List.length_append,List.map_nil]
 have h4:(flat []).length=0:=rfl
 have h5:=frameOf_len (m:=hd []) (by omega)
 omega
theorem mgS_one {A:List Ser} (h:Good A):mgS [A]=A:=by
 show A.foldl mg []=A
 rw [fold_self (by simpa using h.nd)];rfl
theorem mgS_left {A B C:List Ser} (ha:Good A) (hb:Good B) (hc:Good C):(mgS [srt (mgS [A,B]),C]).Perm (mgS [A,B,C])∧Good (mgS [A,B,C])∧Good (mgS [A,B]):=by
 have g2:Good (mgS [A,B]):=Good.fold (Good.fold good_nil ha) hb
 have g3:=g2.perm (srt_perm _).symm
 have e:mgS [srt (mgS [A,B]),C]=C.foldl mg (srt (mgS [A,B])):=by
  show C.foldl mg ((srt (mgS [A,B])).foldl mg [])=_
  rw [show (srt (mgS [A,B])).foldl mg []=srt (mgS [A,B]) from (fold_self (A:=srt (mgS [A,B])) (pre:=[]) (by simpa using g3.nd)).trans rfl]
 rw [e]
 exact ⟨fold_perm (srt_perm _) g3 hc,Good.fold g2 hc,g2⟩
theorem newR {o:Array Value} {e:TypeId} (n:Nat) (hl:o.size=n) {K:Addr→World→Prop} (hK:∀ p w',Keep w w'→Rd w' ⟨some p,n,n⟩ 1 o.toList→K p w'):G.new (.cells o e) w K :=
 hK ⟨w.heap.size,0,none⟩ _ (Keep.alloc w _) (rd_new (by omega))
theorem built_any (hT:DTab w0) (ht:UTab w0) (hv:Vint.Tab w0) {s:Sl} {q:QS} (h:RdQ w0 s q) (hl:q.length≤2000000) {K:Option Addr→World→Prop} (hK:∀ p w',Keep w0 w'→K p w'):C.tocsinlaw10_built s w0 K :=
 built_ok hT ht hv h hl (fun _ w' k=>hK _ w' k) (fun _ _ _ _ _ _ _ _ _ w' top _ _ _=>hK _ w' top.k)
theorem merges_law (hT:DTab w0) (ht:UTab w0) (hv:Vint.Tab w0) {s1 s2 s3:Sl} {p1 p2 p3:QS} (h1:RdQ w0 s1 p1) (n1:p1.length≤2000000) (h2:RdQ w0 s2 p2) (n2:p2.length≤2000000) (h3:RdQ w0 s3 p3) (n3:p3.length≤2000000) (fr:Int)
  {K:Bool→World→Prop} (hK:∀ w',Keep w0 w'→K true w'):C.tocsinlaw10_BlockMerges s1 s2 s3 fr w0 K:=by
 unfold C.tocsinlaw10_BlockMerges
 have aw:∀ w1,Keep w0 w1→C.tocsinlaw10_awake w1 fun b9 w10=>K b9 w10:=fun w1 k1=>awake_ok (hT.keep k1) (ht.keep k1) (hv.keep k1) fun w2 k2=>hK w2 (Keep.trans k1 k2)
 refine built_ok hT ht hv h1 n1 (fun _ w1 k1=>built_any (hT.keep k1) (ht.keep k1) (hv.keep k1) (h2.keep k1) n2 fun p w2 k2=>built_any (hT.keep (Keep.trans k1 k2)) (ht.keep (Keep.trans k1 k2)) (hv.keep (Keep.trans k1 k2)) (h3.keep (Keep.trans k1 k2)) n3 fun p' w3 k3=>cond_t rfl (aw w3 (Keep.trans (Keep.trans k1 k2) k3)))
  (fun _ bl1 g1 gm1 bs1 rs1 q1 es1 ω1 w1 top1 e1 hq1 bk1=>?_)
 have k1:=top1.k
 refine built_ok (hT.keep k1) (ht.keep k1) (hv.keep k1) (h2.keep k1) n2 (fun _ w2 k2=>built_any (hT.keep (Keep.trans k1 k2)) (ht.keep (Keep.trans k1 k2)) (hv.keep (Keep.trans k1 k2)) (h3.keep (Keep.trans k1 k2)) n3 fun p' w3 k3=>cond_f rfl (cond_t rfl (aw w3 (Keep.trans (Keep.trans k1 k2) k3))))
  (fun _ bl2 g2 gm2 bs2 rs2 q2 es2 ω2 w2 top2 e2 hq2 bk2=>?_)
 have k2:=Keep.trans k1 top2.k
 refine built_ok (hT.keep k2) (ht.keep k2) (hv.keep k2) (h3.keep k2) n3 (fun _ w3 k3=>cond_f rfl (cond_f rfl (cond_t rfl (aw w3 (Keep.trans k2 k3)))))
  (fun _ bl3 g3 gm3 bs3 rs3 q3 es3 ω3 w3 top3 e3 hq3 bk3=>?_)
 have k3:=Keep.trans k2 top3.k
 have x1:=(bk1.ar (by omega)).keep (Keep.trans top2.k top3.k)
 have x2:=(bk2.ar (by omega)).keep top3.k
 have x3:=bk3.ar (by omega)
 have y1:=bk1.stp ((Keep.trans top2.k top3.k).stp0 ω1) (off_non 1000)
 refine cond_f rfl<|cond_f rfl<|cond_f rfl ?_
 have gA:=Good.of bl1
 have gB:=Good.of bl2
 have gC:=Good.of bl3
 obtain ⟨pL,gM,gM2⟩:=mgS_left gA gB gC
 have bd3:Bd (mgS [srt (p1.map (·.1)),srt (p2.map (·.1)),srt (p3.map (·.1))]) 3:=by
  have:=mgS_bd (l:=[srt (p1.map (·.1)),srt (p2.map (·.1)),srt (p3.map (·.1))]) (fun A hA=>by
   simp only [List.mem_cons,List.not_mem_nil,or_false] at hA
   rcases hA with rfl | rfl | rfl
   ·exact ⟨gA,bl1.n,bl1.len⟩
   ·exact ⟨gB,bl2.n,bl2.len⟩
   ·exact ⟨gC,bl3.n,bl3.len⟩) 3 (Nat.le_refl _)
  exact this
 have bd2:Bd (mgS [srt (p1.map (·.1)),srt (p2.map (·.1))]) 2:=by
  have:=mgS_bd (l:=[srt (p1.map (·.1)),srt (p2.map (·.1))]) (fun A hA=>by
   simp only [List.mem_cons,List.not_mem_nil,or_false] at hA
   rcases hA with rfl | rfl
   ·exact ⟨gA,bl1.n,bl1.len⟩
   ·exact ⟨gB,bl2.n,bl2.len⟩) 2 (Nat.le_refl _)
  exact this
 have ew:=build_perm gM (srt_perm _).symm
 have el:=build_perm gM pL.symm
 refine rsorted_ok (h1.keep k3) (by omega) fun r1 t1 w4 k34 m1 f1 o1=>?_
 have k4:=Keep.trans k3 k34
 have R1:RdQ w4 r1 t1:=⟨Own.rd o1,fun p hp=>(h1.el p (m1.mem_iff.1 hp)).keep k4⟩
 refine rsorted_ok (h2.keep k4) (by omega) fun r2 t2 w5 k45 m2 f2 o2=>?_
 have k5:=Keep.trans k4 k45
 have R2:RdQ w5 r2 t2:=⟨Own.rd o2,fun p hp=>(h2.el p (m2.mem_iff.1 hp)).keep k5⟩
 refine rsorted_ok (h3.keep k5) (by omega) fun r3 t3 w6 k56 m3 f3 o3=>?_
 have k6:=Keep.trans k5 k56
 have R3:RdQ w6 r3 t3:=⟨Own.rd o3,fun p hp=>(h3.el p (m3.mem_iff.1 hp)).keep k6⟩
 refine newR 3 rfl fun a7 w7 k67 d7=>?_
 have k7:=Keep.trans k6 k67
 have tn:∀ {t:QS} {S:List Ser},t.map (·.1)=S→S.length≤1000→t.length≤1000:=fun e h=>by have:=congrArg List.length e;rw [List.length_map] at this;omega
 refine merged_ok (l:=[(r1,t1),(r2,t2),(r3,t3)]) d7 (fun e he=>?_) (by simp) fun r8 q8 w8 k78 d8 f8=>?_
 ·simp only [List.mem_cons,List.not_mem_nil,or_false] at he
  rcases he with rfl | rfl | rfl
  ·exact ⟨R1.keep (Keep.trans k45 (Keep.trans k56 k67)),by rw [f1];exact gA,tn f1 bl1.n,by rw [f1];exact bl1.len⟩
  ·exact ⟨R2.keep (Keep.trans k56 k67),by rw [f2];exact gB,tn f2 bl2.n,by rw [f2];exact bl2.len⟩
  ·exact ⟨R3.keep k67,by rw [f3];exact gC,tn f3 bl3.n,by rw [f3];exact bl3.len⟩
 have k8:=Keep.trans k7 k78
 have f8':q8.map (·.1)=srt (mgS [srt (p1.map (·.1)),srt (p2.map (·.1)),srt (p3.map (·.1))]):=by rw [f8];simp only [qOf,List.map_cons,List.map_nil,f1,f2,f3]
 have hq8:q8.length≤3000:=by have h:=congrArg List.length f8';rw [List.length_map,(srt_perm _).length_eq] at h;have:=bd3.n;omega
 refine rbuild_ok d8 (by omega) fun b9 w9 k89 o9=>?_
 rw [f8'] at o9 ⊢
 have k9:=Keep.trans k8 k89
 have x19:=x1.keep (Keep.trans k34 (Keep.trans k45 (Keep.trans k56 (Keep.trans k67 (Keep.trans k78 k89)))))
 have x29:=x2.keep (Keep.trans k34 (Keep.trans k45 (Keep.trans k56 (Keep.trans k67 (Keep.trans k78 k89)))))
 have x39:=x3.keep (Keep.trans k34 (Keep.trans k45 (Keep.trans k56 (Keep.trans k67 (Keep.trans k78 k89)))))
 have y19:=y1.stp ((Keep.trans k34 (Keep.trans k45 (Keep.trans k56 (Keep.trans k67 (Keep.trans k78 k89))))).stp0 ω1) (off_non 1000)
 have h19:=h1.keep k9
 refine newR 3 rfl fun a10 w10 k910 d10=>?_
 have k10:=Keep.trans k9 k910
 have mk:∀ {w a b:World},Keep w a→Keep a b→Keep w b:=fun h1 h2=>Keep.trans h1 h2
 refine merge_ok (l:=[(g1,rs1,q1),(g2,rs2,q2),(g3,rs3,q3)]) (hT.keep k10) (ht.keep k10) (hv.keep k10) d10 (fun e he=>?_) (by simp) fun b11 w11 k1011 o11=>?_
 ·simp only [List.mem_cons,List.not_mem_nil,or_false] at he
  rcases he with rfl | rfl | rfl
  ·exact ⟨x19.keep k910,by rw [e1];exact bl1⟩
  ·exact ⟨x29.keep k910,by rw [e2];exact bl2⟩
  ·exact ⟨x39.keep k910,by rw [e3];exact bl3⟩
 have es3:sOf [(g1,rs1,q1),(g2,rs2,q2),(g3,rs3,q3)]=[srt (p1.map (·.1)),srt (p2.map (·.1)),srt (p3.map (·.1))]:=by simp only [sOf,List.map_cons,List.map_nil,e1,e2,e3]
 rw [es3] at o11 ⊢
 have k11:=Keep.trans k10 k1011
 have k911:=Keep.trans k910 k1011
 rw [← ew.1] at o9
 rw [← ew.2]
 refine Utf.convBS (OwnB.rd o11)<|Utf.convBS ((OwnB.rd o9).keep k911) ?_
 rw [str_same,decide_eq_true rfl]
 refine cond_f rfl<|cond_ne (fun h=>absurd rfl h) fun _=>?_
 -- one,none
 refine newR 1 rfl fun a12 w12 k1112 d12=>?_
 have k12:=Keep.trans k11 k1112
 have k912:=Keep.trans k911 k1112
 refine merge_ok (l:=[(g1,rs1,q1)]) (hT.keep k12) (ht.keep k12) (hv.keep k12) d12 (fun e he=>?_) (by simp) fun b13 w13 k1213 o13=>?_
 ·rw [List.mem_singleton.1 he]
  exact ⟨x19.keep k912,by rw [e1];exact bl1⟩
 have es1:sOf [(g1,rs1,q1)]=[srt (p1.map (·.1))]:=by simp only [sOf,List.map_cons,List.map_nil,e1]
 rw [es1,mgS_one gA,build_self bl1] at o13 ⊢
 have k13:=Keep.trans k12 k1213
 have k913:=Keep.trans k912 k1213
 refine merge_ok (l:=[]) (hT.keep k13) (ht.keep k13) (hv.keep k13) (Rd.nil _ _) (by simp) (by simp) fun b14 w14 k1314 o14=>?_
 have es0:mgS (sOf [])=[]:=rfl
 rw [es0,build_self blo_nil] at o14 ⊢
 have k14:=Keep.trans k13 k1314
 refine rbuild_ok (q:=[]) ⟨Rd.nil _ _,by simp⟩ (by simp) fun b15 w15 k1415 o15=>?_
 rw [List.map_nil,build_self blo_nil] at o15
 have k1315:=Keep.trans k1314 k1415
 have k15:=Keep.trans k13 k1315
 have kd:Keep w15 w15.drew:=Keep.drew w15
 have k915d:=Keep.trans k913 (Keep.trans k1315 kd)
 refine cond_f rfl ?_
 have r13:=(OwnB.rd o13).keep (Keep.trans k1315 kd)
 refine Utf.convBS r13 ?_
 have hz1:=bl1.sz
 refine bytes_ok (y19.stp (k915d.stp0 ω1) (off_non 1000)) (by omega) fun b16 w16 k1516 o16=>?_
 refine ⟨isS_at (r13.keep k1516),Utf.convBS (OwnB.rd o16) ?_⟩
 rw [str_same,decide_eq_true rfl]
 refine cond_f rfl<|cond_f rfl ?_
 have k1516':=Keep.trans kd k1516
 refine Utf.convBS ((OwnB.rd o14).keep (Keep.trans k1415 k1516'))<|Utf.convBS ((OwnB.rd o15).keep k1516') ?_
 rw [str_same,decide_eq_true rfl]
 refine cond_f rfl ?_
 -- trimmed
 have k16:=Keep.trans k15 k1516'
 have k916:=Keep.trans k915d k1516
 refine trim_ok (hT.keep k16) (ht.keep k16) (hv.keep k16) (x19.keep k916) hq1 fr fun b17 w17 k1617 o17=>?_
 rw [e1] at o17 ⊢
 have k17:=Keep.trans k16 k1617
 refine rsorted_ok (h1.keep k17) (by omega) fun r18 t18 w18 k1718 m18 f18 o18=>?_
 have k18:=Keep.trans k17 k1718
 have R18:RdQ w18 r18 t18:=⟨Own.rd o18,fun p hp=>(h1.el p (m18.mem_iff.1 hp)).keep k18⟩
 have t18n:=tn f18 bl1.n
 refine rtrim_ok R18 (by omega) (by rw [f18];exact gA.ri) fr fun r19 q19 w19 k1819 d19 hn19 f19=>?_
 rw [f18] at f19
 refine rbuild_ok d19 (by omega) fun b20 w20 k1920 o20=>?_
 rw [f19] at o20 ⊢
 have k1720:=Keep.trans k1718 (Keep.trans k1819 k1920)
 have k20:=Keep.trans k17 k1720
 have k920:=Keep.trans k916 (Keep.trans k1617 k1720)
 refine Utf.convBS ((OwnB.rd o17).keep k1720)<|Utf.convBS (OwnB.rd o20) ?_
 rw [str_same,decide_eq_true rfl]
 refine cond_f rfl<|cond_ne (fun h=>absurd rfl h) fun _=>?_
 -- two,then the third
 refine newR 2 rfl fun a21 w21 k2021 d21=>?_
 have k21:=Keep.trans k20 k2021
 have k921:=Keep.trans k920 k2021
 refine merge_ok (l:=[(g1,rs1,q1),(g2,rs2,q2)]) (hT.keep k21) (ht.keep k21) (hv.keep k21) d21 (fun e he=>?_) (by simp) fun b22 w22 k2122 o22=>?_
 ·simp only [List.mem_cons,List.not_mem_nil,or_false] at he
  rcases he with rfl | rfl
  ·exact ⟨x19.keep k921,by rw [e1];exact bl1⟩
  ·exact ⟨x29.keep k921,by rw [e2];exact bl2⟩
 have es2:sOf [(g1,rs1,q1),(g2,rs2,q2)]=[srt (p1.map (·.1)),srt (p2.map (·.1))]:=by simp only [sOf,List.map_cons,List.map_nil,e1,e2]
 rw [es2] at o22 ⊢
 have k22:=Keep.trans k21 k2122
 have k922:=Keep.trans k921 k2122
 refine cond_ne (fun _=>aw w22 k22) fun ok2=>cond_ne (fun _=>aw w22 k22) fun ok3=>?_
 obtain ⟨bl4,eb4⟩:=blo_of ok2 (fun x hx y hy=>(rise_mem (gM2.ri x hx) y hy).2.2) (fun x hx=>by have:=bd2.sl x hx;omega)
 rw [eb4] at o22
 have hz4:=bl4.sz
 refine open_ok (hT.keep k22) (ht.keep k22) (hv.keep k22) (OwnB.rd o22) (by omega) 1000 (Nat.le_refl _) (fun hn=>?_) (fun l hl' g4 gm4 bs4 rs4 q4 es4 ω23 w23 top23 e4 bk4=>?_)
 ·rw [open_bytes bl4] at hn;cases hn
 rw [open_bytes bl4] at hl'
 injection hl' with hl'
 subst hl'
 have hq4:q4.length≤1000:=tn e4 bl4.n
 have k23:=Keep.trans k22 top23.k
 have k923:=Keep.trans k922 top23.k
 refine cond_f rfl<|cond_f rfl<|newR 2 rfl fun a24 w24 k2324 d24=>?_
 have k24:=Keep.trans k23 k2324
 have k924:=Keep.trans k923 k2324
 refine merge_ok (l:=[(g4,rs4,q4),(g3,rs3,q3)]) (hT.keep k24) (ht.keep k24) (hv.keep k24) d24 (fun e he=>?_) (by simp) fun b25 w25 k2425 o25=>?_
 ·simp only [List.mem_cons,List.not_mem_nil,or_false] at he
  rcases he with rfl | rfl
  ·exact ⟨(bk4.ar (by omega)).keep k2324,by rw [e4];exact bl4⟩
  ·exact ⟨x39.keep k924,by rw [e3];exact bl3⟩
 have es4':sOf [(g4,rs4,q4),(g3,rs3,q3)]=[srt (mgS [srt (p1.map (·.1)),srt (p2.map (·.1))]),srt (p3.map (·.1))]:=by simp only [sOf,List.map_cons,List.map_nil,e4,e3]
 rw [es4',← el.1] at o25
 rw [es4',← el.2]
 refine cond_t (by rw [ok3];rfl) ?_
 have k1125:=Keep.trans k1112 (Keep.trans k1213 (Keep.trans k1315 (Keep.trans k1516' (Keep.trans k1617 (Keep.trans k1720 (Keep.trans k2021 (Keep.trans k2122 (Keep.trans top23.k (Keep.trans k2324 k2425)))))))))
 refine Utf.convBS (OwnB.rd o25)<|Utf.convBS ((OwnB.rd o11).keep k1125) ?_
 rw [str_same,decide_eq_true rfl]
 exact cond_t rfl (aw w25 (Keep.trans k24 k2425))
theorem merges_in (hL:DTab w0∧UTab w0∧Vint.Tab w0) {s1 s2 s3:Sl} {a b c:Nat} (h1:Cl w0 serSh s1.v a) (ha:a≤2000000) (h2:Cl w0 serSh s2.v b) (hb:b≤2000000) (h3:Cl w0 serSh s3.v c) (hc:c≤2000000) (fr:Int) {K:Bool→World→Prop} (hK:∀ w',Keep w0 w'→K true w'):C.tocsinlaw10_BlockMerges s1 s2 s3 fr w0 K:=by
 obtain ⟨q,q1,q2,_⟩:=sers_of h1 ha
 obtain ⟨r,r1,r2,_⟩:=sers_of h2 hb
 obtain ⟨p,p1,p2,_⟩:=sers_of h3 hc
 exact merges_law hL.1 hL.2.1 hL.2.2 q1 q2 r1 r2 p1 p2 fr hK
end Go.Proofs.YtmfgmcajelmgbaaGreatDoor.Bk

namespace Go.Proofs.YtmfgmcajelmgbaaGreatDoor.Utf
open Go Vm Go.RowKit Num Mem
open Go.Lib (VarReads cells_of_tab firstTab firstT accLo accHi array_elem ints_of_struct Utf8Tabs)
theorem utab_of {w : World} (h3 : VarReads Tryz.prog w "unicode/utf8.first" Go.Lib.firstData) (h4 : VarReads Tryz.prog w "unicode/utf8.acceptRanges" Go.Lib.acceptData) : UTab w := by
 refine ⟨fun c hc=>?_,fun i hi=>?_⟩
 ·obtain ⟨g,t,cs,fuel,p,hg,hty,hvar,hd⟩:=h3
  obtain rfl := Option.some.inj ((show Tryz.prog.globalNamed "unicode/utf8.first" = some 2 by kernel_rfl).symm.trans hg)
  obtain rfl:=Option.some.inj ((show (Tryz.prog.globals[2]?).map (·.type)=some 219 by kernel_rfl).symm.trans hty)
  have hcs:=cells_of_tab (e:=5) (n:=256) (by kernel_rfl) (by kernel_rfl) (by kernel_rfl) (by kernel_rfl) hd
  have:=World.var?_cell hg hvar c
  rw [this,← Array.getElem?_toList,hcs]
  simp [firstTab,hc]
 ·obtain ⟨g,t,cs,fuel,p,hg,hty,hvar,hd⟩:=h4
  obtain rfl := Option.some.inj ((show Tryz.prog.globalNamed "unicode/utf8.acceptRanges" = some 3 by kernel_rfl).symm.trans hg)
  obtain rfl:=Option.some.inj ((show (Tryz.prog.globals[3]?).map (·.type)=some 222 by kernel_rfl).symm.trans hty)
  obtain ⟨fuel',d,q,hdi,he⟩:=array_elem (n:=16) (e:=221) (by kernel_rfl) hd i hi
  simp only [List.getElem?_map,List.getElem?_range hi,Option.map_some,Option.some.injEq] at hdi
  subst hdi
  have hc2:Tryz.prog.cellsOf 221=2:=by kernel_rfl
  rw [hc2] at he
  obtain ⟨f0,f1,hs,hf0,hf1,ho0,ho1⟩:∃ f0 f1:Field,Tryz.prog.underlying 221=some (.struct #[f0,f1])∧f0.type=5∧f1.type=5∧f0.offset=0∧f1.offset=1 :=
   ⟨{ name := "lo", type := 5, offset := 0, embedded := false, tag := "", pkgPath := "unicode/utf8", byteOffset := 0 }, { name := "hi", type := 5, offset := 1, embedded := false, tag := "", pkgPath := "unicode/utf8", byteOffset := 1 }, by kernel_rfl, rfl, rfl, rfl, rfl⟩
  have ht5:Tryz.prog.underlying 5=some (.int .u8):=by kernel_rfl
  have hc5:Tryz.prog.cellsOf 5=1:=by kernel_rfl
  have hcs:=ints_of_struct (k:=.u8) hs (fun j f hj=>by
   match j,hj with
   | 0,hj=>simp at hj;subst hj;rw [hf0];exact ⟨ht5,ho0,hc5⟩
   | 1,hj=>simp at hj;subst hj;rw [hf1];exact ⟨ht5,ho1,hc5⟩
   | j+2,hj=>simp at hj) (by rw [hc2];rfl) he
  have e0:=congrArg (·[0]?) hcs
  have e1:=congrArg (·[1]?) hcs
  simp only [List.getElem?_take,List.getElem?_drop] at e0 e1
  constructor
  ·rw [World.var?_cell hg hvar (2*i),← Array.getElem?_toList]
   simpa [Nat.mul_comm] using e0
  ·rw [World.var?_cell hg hvar (2*i+1),← Array.getElem?_toList]
   simpa [Nat.mul_comm] using e1
theorem first_same:(Rows.laid_unicode_utf8_first:DataW Unit)=Go.Lib.firstData:=by kernel_rfl
theorem accept_same:(Rows.laid_unicode_utf8_acceptRanges:DataW Unit)=Go.Lib.acceptData:=by kernel_rfl
theorem utab_laid {w : World} {l : List (String × DataW Unit)} (h : laidMet Tryz.prog l w) (h1 : ("unicode/utf8.first", Rows.laid_unicode_utf8_first) ∈ l) (h2 : ("unicode/utf8.acceptRanges", Rows.laid_unicode_utf8_acceptRanges) ∈ l) : UTab w :=
 utab_of (by rw [← first_same];exact Go.Lib.laidMet.reads h h1) (by rw [← accept_same];exact Go.Lib.laidMet.reads h h2)
end Go.Proofs.YtmfgmcajelmgbaaGreatDoor.Utf
namespace Go.Proofs.YtmfgmcajelmgbaaGreatDoor.Utf
open Go Vm Go.RowKit Num Mem
theorem own:ownKnob Tryz.prog.godebug=none:=by kernel_rfl
noncomputable def utfWorld (w:World):World :=
 { w with heap:=(w.heap.modify 2 fun
   | .cells _ t frozen=>.cells (Go.Lib.firstTab.map fun z=>Value.int .u8 z).toArray t frozen
   | o=>o).modify 3 fun
   | .cells _ t frozen=>.cells ((List.range 16).flatMap fun i=>[Value.int .u8 (Go.Lib.accLo i),Value.int .u8 (Go.Lib.accHi i)]).toArray t frozen
   | o=>o }
noncomputable def laidWorld (os:Os):World:=utfWorld (World.holding Tryz.prog os ⟨#[],#[],[]⟩)
end Go.Proofs.YtmfgmcajelmgbaaGreatDoor.Utf

namespace Go.Proofs.YtmfgmcajelmgbaaGreatDoor.Bk
open Go Vm Go.RowKit Num Mem Crc Bits
theorem own:ownKnob Tryz.prog.godebug=none:=by kernel_rfl
def halves:List Int:=[0,274646895,549293790,820201905,1098587580,1361435347,1640403810,1905808397,2197175160,2460548119,2722870694,2987750089,3280807620,3553878443,3811616794,4084100981]
def tz64:List Int:=[0,1,56,2,57,49,28,3,61,58,42,50,38,29,17,4,62,47,59,36,45,43,51,22,53,39,33,30,24,18,12,5,63,55,48,27,60,41,37,16,46,35,44,21,52,32,23,11,54,26,40,15,34,20,31,10,25,14,19,9,13,8,7,6]
theorem tab_reads {w : World} (h : Go.Lib.VarReads Tryz.prog w "tocsin/vint.halves" Rows.laid_tocsin_vint_halves) : Vint.Tab w := by
 obtain ⟨g,t,cs,fuel,p,hg,hty,hvar,hd⟩:=h
 obtain rfl := Option.some.inj ((show Tryz.prog.globalNamed "tocsin/vint.halves" = some 1 by kernel_rfl).symm.trans hg)
 obtain rfl:=Option.some.inj ((show (Tryz.prog.globals[1]?).map (·.type)=some 214 by kernel_rfl).symm.trans hty)
 have hcs:=Go.Lib.cells_of_tab (zs:=halves) (k:=.u32) (e:=142) (n:=16) (by kernel_rfl) (by kernel_rfl) (by kernel_rfl) (by kernel_rfl) hd
 have h : Lib.TabIs Tryz.prog w "tocsin/vint.halves" .u32 halves := by
  unfold Go.Lib.TabIs
  rw [hvar,← hcs]
 intro i hi
 rw [h.cell (by kernel_rfl) i (by simpa [halves] using hi)]
 congr 2
 revert i
 decide +kernel
theorem dtab_reads {w : World} (h : Go.Lib.VarReads Tryz.prog w "math/bits.deBruijn64tab" Rows.laid_math_bits_deBruijn64tab) : DTab w := by
 obtain ⟨g,t,cs,fuel,p,hg,hty,hvar,hd⟩:=h
 obtain rfl := Option.some.inj ((show Tryz.prog.globalNamed "math/bits.deBruijn64tab" = some 5 by kernel_rfl).symm.trans hg)
 obtain rfl:=Option.some.inj ((show (Tryz.prog.globals[5]?).map (·.type)=some 259 by kernel_rfl).symm.trans hty)
 have hcs:=Go.Lib.cells_of_tab (zs:=tz64) (k:=.u8) (e:=5) (n:=64) (by kernel_rfl) (by kernel_rfl) (by kernel_rfl) (by kernel_rfl) hd
 have h : Lib.TabIs Tryz.prog w "math/bits.deBruijn64tab" .u8 tz64 := by
  unfold Go.Lib.TabIs
  rw [hvar,← hcs]
 intro i hi
 rw [h.cell (by kernel_rfl) i (by simpa [tz64,Lib.deBruijn64tab] using hi)]
 congr 2
 revert i
 decide +kernel
theorem tabs_laid {w : World} (h : laidMetH Tryz.prog [("math/bits.deBruijn64tab", Rows.laid_math_bits_deBruijn64tab), ("unicode/utf8.acceptRanges", Rows.laid_unicode_utf8_acceptRanges), ("tocsin/vint.halves", Rows.laid_tocsin_vint_halves), ("unicode/utf8.first", Rows.laid_unicode_utf8_first)] w) : DTab w ∧ Utf.UTab w ∧ Vint.Tab w := by
 have h' : laidMet Tryz.prog [("math/bits.deBruijn64tab", Rows.laid_math_bits_deBruijn64tab), ("unicode/utf8.acceptRanges", Rows.laid_unicode_utf8_acceptRanges), ("tocsin/vint.halves", Rows.laid_tocsin_vint_halves), ("unicode/utf8.first", Rows.laid_unicode_utf8_first)] w := h
 exact ⟨dtab_reads (Go.Lib.laidMet.reads h' (.head _)),Utf.utab_laid h' (.tail _ (.tail _ (.tail _ (.head _)))) (.tail _ (.head _)),tab_reads (Go.Lib.laidMet.reads h' (.tail _ (.tail _ (.head _))))⟩
noncomputable def vintWorld (w:World):World :=
 { w with heap:=w.heap.modify 1 fun
   | .cells _ t frozen=>.cells (halves.map fun z=>Value.int .u32 z).toArray t frozen
   | o=>o }
noncomputable def bitsWorld (w:World):World :=
 { w with heap:=w.heap.modify 5 fun
   | .cells _ t frozen=>.cells (tz64.map fun z=>Value.int .u8 z).toArray t frozen
   | o=>o }
noncomputable def laidWorld (os:Os):World:=bitsWorld (vintWorld (Utf.laidWorld os))
end Go.Proofs.YtmfgmcajelmgbaaGreatDoor.Bk
