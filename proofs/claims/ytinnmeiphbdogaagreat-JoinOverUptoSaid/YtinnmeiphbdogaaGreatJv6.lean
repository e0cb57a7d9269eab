/- Texts joined for a claim (ProjAny, TrieWidth, TrieLev, TrieBuild, MatSt, MatAdd, MatPut, MatchPlain, MatchSt, Match, AllWalk, Over). -/
import Derived.Test.YtinnmeiphbdogaaGreatJv5
set_option linter.unusedVariables false
set_option linter.unusedSimpArgs false
set_option maxRecDepth 100000
namespace Go.Proofs.YtinnmeiphbdogaaGreat
section
open Go.RowKit Go.Shelf
attribute [local go_sem] Oper.semAt_some
theorem xG(fv:Value)(w:World):Calls Tryz.prog 196 #[.slice none 0 0,fv] w (RetN w fun w' v=>v= .slice none 0 0):=by go_enter Tryz.func196,Tryz.ntmps196;go_wp2;go_ret;exact RetN.mk (Kp.refl _) rfl
theorem aBw{lo:Nat}{w:World}{v:Value}{LL:aD}(h:OwnRows lo w v LL)(hst:Strict aB LL)(m:Nat)(hlen:∀x∈LL,x.length=m)(hm:m≤64)(hn:LL.length≤65536):
 Calls Tryz.prog 196 #[v,.func (.func 201) #[] #[]] w (RetF (fun k=>v.ownBlock=some k) w fun w' v'=>OwnRows lo w' v' LL):=by
 obtain⟨ps,rfl,h2,h3,h4⟩:=h;have h2':=h2;rw [List.length_map]at hn;obtain⟨q1,⟨ev,en⟩|⟨g,cap,rest,rfl,hg,hb,hbl,hnc,hcm⟩⟩:=h2'
 ·subst ev;refine(xG _ w).mono ?_;rintro e w2 ⟨v2,rfl,hk,rfl⟩;exact RetF.mk hk.kp ⟨ps,rfl,h2.ext hk,fun p hp=>⟨(h3 p hp).1.ext hk,(h3 p hp).2⟩,h4⟩
 ·have hz:∀i,i<ps.length->(ps.map Prod.fst).getD i default=(ps.getD i default).1:=fun i hi=>by
   rw [List.getD_eq_getElem?_getD,List.getD_eq_getElem?_getD,List.getElem?_map,qG hi];rfl
  have hvs:cB ps=(List.range ps.length).map (cH fun i=>(ps.map Prod.fst).getD i default):=by
   unfold cB;refine List.ext_getElem (by simp) fun i h1 h2=>?_;have hi:i<ps.length:=by simpa using h1
   simp only [List.getElem_map,List.getElem_range];unfold cH;show _=Value.slice ((ps.map Prod.fst).getD i default).1 ((ps.map Prod.fst).getD i default).2.1 ((ps.map Prod.fst).getD i default).2.2;rw [hz i hi,List.getD_eq_getElem?_getD,qG hi];rfl
  have hlike:aLi Tryz.prog 201 #[] #[] g ps.length w (cH fun i=>(ps.map Prod.fst).getD i default) (fun i j=>decide ((ps.getD i default).2=(ps.getD j default).2)):=
   ⟨enters_of Tryz.func201 (by kernel_rfl) rfl,fun w' hw i j hi hj=>by
    have hc:∀i,i<ps.length->(ps.getD i default).1.2.1=m/\m=(ps.getD i default).2.length/\CellsAt w' (ps.getD i default).1.1 (strs (ps.getD i default).2):=fun i hi=>by
     have e:ps.getD i default=ps[i]:=by rw [List.getD_eq_getElem?_getD,qG hi];rfl
     rw [e];have hr:=(h3 ps[i] (List.getElem_mem _)).1;have hr':=Row.kp' hr hw fun g' hg' _ e=>by obtain⟨cs,hb2⟩:=aQ hr hg';have e':g'=g:=e;rw [e']at hb2;exact absurd (aP hb2 hb) (by decide)
     have hl:=hlen ps[i].2 (List.mem_map.2 ⟨ps[i],List.getElem_mem _,rfl⟩);exact⟨(Row.readsAs hr).1.1.trans hl,hl.symm,(Row.readsAs hr').1.2⟩
    have ex:∀i,i<ps.length->cH (fun i=>(ps.map Prod.fst).getD i default) i= .slice (ps.getD i default).1.1 m (ps.getD i default).1.2.2:=fun i hi=>by unfold cH;show Value.slice ((ps.map Prod.fst).getD i default).1 ((ps.map Prod.fst).getD i default).2.1 ((ps.map Prod.fst).getD i default).2.2=_;rw [hz i hi,(hc i hi).1]
    have e0:∀a b:Value,((#[]:Array Value)++(#[a,b]++#[]))=#[a,b]:=fun a b=>rfl;rw [e0];rw [ex i hi,ex j hj];refine(aEw _ _ _ _ m _ _ w' (hc i hi).2.1 (hc j hj).2.1 (hc i hi).2.2 (hc j hj).2.2 (by omega)).mono ?_;rintro e w2 ⟨v2,rfl,hk,rfl⟩;exact⟨rfl,hk⟩⟩
  have hkeep:cI (fun i j=>decide ((ps.getD i default).2=(ps.getD j default).2)) (List.range ps.length) ps.length=List.range ps.length:=by
   rw [lX (by simp) fun j h0 hj=>?_,List.take_of_length_le (by simp)];have e1:∀i,i<ps.length->(List.range ps.length).getD i 0=i:=fun i hi=>by rw [List.getD_eq_getElem?_getD,List.getElem?_range hi];rfl
   rw [e1 j hj,e1 (j-1) (by omega)];refine decide_eq_false fun e=>?_;have h:=List.pairwise_iff_getElem.1 hst (j-1) j (by rw [List.length_map];omega) (by rw [List.length_map];omega) (by omega);simp only [List.getElem_map]at h;have g1:∀i (hi:i<ps.length),ps.getD i default=ps[i]:=fun i hi=>by rw [List.getD_eq_getElem?_getD,qG hi];rfl
   rw [g1 j hj,g1 (j-1) (by omega)]at e;rw [e,dU.refl]at h;omega
  rw [hvs]at hb hbl;have hcomp:=xF (fun i=>(ps.map Prod.fst).getD i default) (List.range ps.length) g ps.length cap ps.length rest 201 #[] #[] _ w hlike (by simp) (fun i hi=>List.mem_range.1 hi) (by omega) hb (by simpa using hbl) hcm;rw [hkeep]at hcomp;refine hcomp.mono ?_;rintro e w2 ⟨v2,rfl,hk,rest',rfl,hb2,hl2⟩;rw [List.length_range];refine RetF.mk (hk.mono fun k _ e=>by have e':k=g:=e;rw [e'];rfl) ⟨ps,rfl,⟨q1,.inr ⟨g,cap,rest',rfl,hg,by rw [hvs];exact hb2,by rw [hvs,hl2];omega,hnc,hcm⟩⟩,fun p hp=>⟨?_,(h3 p hp).2⟩,h4⟩;refine Row.kp' (h3 p hp).1 hk fun g' hg' _ e=>?_;obtain⟨cs,hb3⟩:=aQ (h3 p hp).1 hg';have e':g'=g:=e;rw [e']at hb3;exact absurd (aP hb3 hb) (by decide)
theorem aK1{lo:Nat}{w:World}{v:Value}{LL:aD}(h:lK lo w v LL):∃(Bs:Nat) (ps:List eI) (SB:Nat->Prop),v= .func (.func 171) #[] #[.pointer (some ⟨Bs,0,none⟩)]/\LL=ps.map Prod.snd/\
 (∀p∈ps,Row w 9 1 (.slice p.1.1 p.1.2.1 p.1.2.2) p.2.length (strs p.2) (fun g=>lo≤g))/\(∀g,SB g->lo≤g/\g<w.heap.size)/\
 SeqStopsK Fence.wide 3 Tryz.prog 171 #[.pointer (some ⟨Bs,0,none⟩)] (fun x:{p:eI//p∈ps}=>#[.slice x.1.1.1 x.1.1.2.1 x.1.1.2.2]) (SameOn SB) (fun ys=>ys=ps.attach) (fun pre=>pre<+:ps.attach) ps.attach.length w:=by
 obtain⟨Bs,ivx,rfl,hBs,hBB,hownx,hln⟩:=h;obtain⟨aox,capx,ev,_⟩:=hownx.shape;subst ev;obtain⟨ps2,hL2,x2,x3,x4⟩:=hownx;have hp2:ps2.length=LL.length:=by rw [hL2];simp
 rw [hp2]at x2;have hBsw:=hBB.lt;obtain⟨SB,eSB⟩:∃SB:Nat->Prop,SB=fun g=>g=Bs\/ (Value.slice aox LL.length capx).ownBlock=some g:=⟨_,rfl⟩;refine⟨Bs,ps2,SB,rfl,hL2,fun p hp=>(x3 p hp).1,fun g hg=>?_,?_⟩
 ·rw [eSB]at hg;rcases hg with rfl|hg
  ·exact⟨hBs,hBsw⟩
  ·exact⟨x2.block g hg,x2.lt g hg⟩
 ·have hSBs:SB Bs:=by rw [eSB];exact .inl rfl
  have hSBa:∀a,aox=some a->SB a.block:=fun a e=>by rw [eSB];subst e;exact .inr rfl
  have hc0:=hBB.c0;have hcs:CellsAt w aox (ps2.attach.map fun x=>rowOf x.1):=by
   obtain⟨ao,cap,e,hc,_⟩:=x2.shape;simp only [Value.slice.injEq]at e;obtain⟨rfl,_,_⟩:=e;have e:(ps2.attach.map fun x:{p:eI//p∈ps2}=>rowOf x.1)=cB ps2:=by
    have h:(ps2.attach.map fun x:{p:eI//p∈ps2}=>rowOf x.1)=(ps2.attach.map Subtype.val).map rowOf:=by rw [List.map_map];rfl
    rw [h,List.attach_map_subtype_val];rfl
   rw [e];exact hc
  exact fun l J Jx W hW _ _ hY h0=>jI (fun x:{p:eI//p∈ps2}=> .slice x.1.1.1 x.1.1.2.1 x.1.1.2.2) Fence.wide 3 trivial rfl (by omega) SB l Bs aox LL.length capx ps2.attach (by rw [List.length_attach];exact hp2.symm) hln J Jx hY W hSBs hSBa ((Kp.of_below hW).cell hc0 id) (hcs.ext (Kp.of_below hW)) h0
theorem wE{F:Nat->Prop}{W W':World}(hk:Kp F W W')(hF:∀k,F k->gH W k):KeepsOthers W W':=
 ⟨hk.size,fun k o h ho=>(hk.block k (lt_of_block h) fun hf=>by obtain⟨o',h1,h2⟩:=hF k hf;rw [h]at h1;cases h1;rw [ho]at h2;cases h2).trans h⟩
theorem Row.cellB{w:World}{e:TypeId}{k:Nat}{v:Value}{n:Nat}{xs:List Value}{M:Nat->Prop}(h:Row w e k v n xs M):∀g,v.ownBlock=some g->gH w g:=fun g hg=>by obtain⟨cs,hb⟩:=aQ h hg;exact⟨_,hb,rfl⟩
theorem aKb{w W:World}{P:World->Value->Prop}{tmps:Array Value}{ds:List Deferred}{lo:Nat}{v:Value}(hm:Marks lo W ds)(hk:Ext w W)(hlo:w.heap.size≤lo)(ht:tmps.getD 4 undef=v)
 (hP:∀w',Kp (fun k=>lo≤k/\¬gH W k) W w'->P w' v):
 bodyPostM Fence.wide 4 Tryz.prog Tryz.f177 (RetN w P) .ret {tmps:=tmps,defers:=ds} W:=by
 refine fD hm fun w' e1 e2 e3 e4 e5 e6=>?_;have kx:Kp (fun k=>lo≤k/\¬gH W k) W w':=⟨e1,e2,e3,by omega,fun k hk hf=>by
  by_cases h:lo≤k
  ·by_cases h2:∃o:Obj,W.heap[k]?=some o/\o.isCells=true
   ·obtain⟨o,h2,h3⟩:=h2;rw [h2];exact e6 k o h2 h3
   ·exact absurd ⟨h,h2⟩ hf
  ·exact e5 k (by omega)⟩
 refine⟨v,?_,RetN.mk (hk.trans' kx fun i hi h=>absurd h.1 (by omega)) (hP w' kx)⟩;have ht':tmps[4]?.getD undef=v:=by simpa using ht
 simp [results,Tryz.f177,go_sem,ht']
set_option maxHeartbeats 8000000 in
theorem xY{S:Nat->Prop}{w:World}{rb m oc:Nat}{iv:Value}{oa:Option Addr}{LL:aD}(hR:RowsAt S w rb iv m LL)(hst:Strict aB LL)(hlen:∀x∈LL,x.length=m)(ho:CellsAt w oa (ints ((List.range m).map fun(v:Nat)=>(v:Int))))(hm:m≤64)(hn:LL.length≤65536):
 Calls Tryz.prog 177 #[.pointer (some ⟨rb,0,none⟩),.slice oa m oc] w (RetN w fun w' v=>OwnRows w.heap.size w' v LL):=by
 have HEach:=qH (show ∀W,Ext w W->Calls Tryz.prog 175 #[.pointer (some ⟨rb,0,none⟩)] W (RetN W fun w' v=>lK W.heap.size w' v LL)from fun W hW=>(uW (z:=False) ((hR.ext hW).q)).mono (by rintro e w' ⟨v,rfl,hk,-,h⟩;exact RetN.mk (hk.mono fun k _ h=>h.1) h));have HO:=qH ho;have HL:=qH (nIX hst (nIX hlen hn));clear hR hst hlen ho hn;refine callsIn_wide.1 (callsIn_of_wp_marks (n:=4) Tryz.func177 rfl trivial ?_ rfl);refine wpIn_wide.2 ?_;obtain⟨Q,eQ⟩:∃Q,Q=bodyPostM Fence.wide 4 Tryz.prog Tryz.f177 (RetN w fun w' v=>OwnRows w.heap.size w' v LL):=⟨_,rfl⟩;rw [<-eQ];have EQ:=qH eQ;clear eQ;simp only [Tryz.ntmps177,List.size_toArray,List.length_cons,List.length_nil,Nat.reduceAdd,Nat.reduceSub,Array.replicate_succ,Array.replicate_zero,List.push_toArray,List.append_toArray,List.nil_append,List.cons_append];obtain⟨ob,eob⟩:=nm w.heap.size;obtain⟨w1,e1⟩:=nm (w.alloc (.cells #[.slice oa m oc] 173));obtain⟨w2,e2⟩:=nm (w1.alloc (.cells #[.slice none 0 0] 69));have s1:w1.heap.size=ob+1:=by rw [<-e1,aI,eob]
 have s2:w2.heap.size=ob+1+1:=by rw [<-e2,aI,s1]
 have x1:Ext w w1:=xAX e1;have x2:Ext w1 w2:=xAX e2;have H2:=qH (show Blk w2 ob [.slice oa m oc] 173/\Blk w2 (ob+1) [.slice none 0 0] 69/\Ext w w2 from
  ⟨by have h:=Blk.new w [.slice oa m oc] 173;rw [eob]at h;rw [<-e1]at x2;exact h.ext x2,by have h:=Blk.new w1 [.slice none 0 0] 69;rw [s1]at h;rw [<-e2];exact h,x1.trans x2⟩)
 have HS:=qH (nIX eob s2);clear x1 x2;go_wp2_with fail
 clear e1 e2 s1 s2 eob;refine(HEach.out w2 H2.out.2.2).mono ?_;rintro e w9 ⟨ve,rfl,hk9,hEa⟩;obtain⟨Bs,ps2,SB,rfl,hL2,hrows,hSlt,hseq⟩:=aK1 hEa;have HQ:=qH hseq;have HX:=qH (nIX hL2 (nIX hrows hSlt));have H9:=qH (nIX (H2.out.1.ext hk9) (nIX (H2.out.2.1.ext hk9) (H2.out.2.2.trans hk9)));have hsz9:=hk9.size;have hbb9:ob+1<w9.heap.size:=H9.out.2.1.lt;have HOB:=qH (show w2.heap.size=ob+1+1/\w.heap.size=ob from⟨HS.out.2,HS.out.1⟩);clear hseq hEa hL2 hrows hSlt hk9;go_wp2_with fail
 refine' wpIn_wide.1 (wpIn_rangeFunc_ownG (F:=Fence.wide) (n:=4) (w0:=w9) rfl (by omega) (gf:=171) (lb:=#[.pointer (some ⟨Bs,0,none⟩)]) rfl trivial (enters_of Tryz.func171 (by kernel_rfl) rfl)
  HQ.out SameOn.trans (SameOn.put fun k h=>(HX.out.2.2 k h).2) (Below.refl _ _) (fun _=>rfl) (GotRows (fun x:{p:eI//p∈ps2}=>x.1.2) ps2.length w9 (ob+1)) (fun _ _ _=>False) (GotRows.own (Nat.le_refl _)) (fun _ _ _ _ _ h _ _=>h)
  ⟨Nat.zero_le _,Kp.refl _,_,H9.out.2.1,OwnRows.nil _ _⟩ _ ?assign ?body ?done ?stop)
 case assign=>
  intro l x W K hK;gi_wp2;exact hK
 case stop=>
  rintro D c pre W _ _ h _;exact h.elim
 case body=>
  rintro l pre ⟨⟨⟨ax,mx,cx⟩,sp⟩,hp⟩ X hG hpl;rw [List.length_attach]at hpl;have hkX:=hG.2.1;have hrow:=HX.out.2.1 _ hp;have hrX:=Row.kp' hrow hkX fun g hg hM e=>by have e':g=ob+1:=e;have hM':w2.heap.size≤g:=hM;have:=HOB.out.1;omega
  have hsl:sp.length=m:=HL.out.2.1 sp (by rw [HX.out.1];exact List.mem_map.2 ⟨_,hp,rfl⟩);have hfew:ps2.length≤65536:=by have h:=HL.out.2.2;rw [HX.out.1,List.length_map]at h;exact h
  refine wpIn_mono (Q:=gT (fun X'=>KeepsFrom w9.heap.size X X'/\SameOn SB X X'/\GotRows (fun x:{p:eI//p∈ps2}=>x.1.2) ps2.length w9 (ob+1) (pre++ [⟨((ax,mx,cx),sp),hp⟩]) X') (fun _=>False)) ?_ ?_
  ·show Code.wpIn _ _ _ aCh _ _ _;refine aEv (w:=w) (y:=⟨((ax,mx,cx),sp),hp⟩) (sp:=sp) (ax:=ax) (mx:=mx) (cx:=cx) (m:=m) (H9.out.1.kp hkX (by omega)) (fun i u hu=>by
    obtain⟨b,off,e,c⟩:=HO.out i u hu;have hb:b<w.heap.size:=World.block_lt_of_cell? _ _ c;exact⟨b,off,e,hkX.cell (H9.out.2.2.cell c id) (by show ¬b=ob+1;have:=HOB.out.2;omega)⟩) hm (Row.readsAs hrow).1.1 hsl (Row.readsAs hrX).1.2 rfl ⟨Nat.le_of_lt hpl,by omega⟩ hG hbb9 rfl rfl rfl rfl ?_
   ·intro X' q1 q2 q3 q4;refine⟨q1.from _,SameOn.of_kp q2 (fun k hk=>by have:=(HX.out.2.2 k hk).2;have:=hkX.size;omega) (fun k hk hf=>?_),by rw [List.length_append,List.length_singleton];omega,q3,q4⟩;have h1:=HX.out.2.2 k hk;have:=HOB.out.1;rcases hf with hf|hf<;>omega
  ·intro e a W h;cases e<;>first|exact h|exact h.elim
 case done=>
  rintro D1 ys X2 hD hys hG hd;have hys':=hys.symm;subst hys';clear hys;have hro:ps2.attach.map (fun x:{p:eI//p∈ps2}=>x.1.2)=LL:=by
   rw [HX.out.1];have h1:ps2.attach.map (fun x=>x.1.2)=(ps2.attach.map Subtype.val).map Prod.snd:=by rw [List.map_map];rfl
   rw [h1,List.attach_map_subtype_val]
  obtain⟨-,hkX,v,hBv,hOw⟩:=hG;rw [hro]at hOw;have hm1:Marks w9.heap.size X2 [{target:= .collected D1,args:=#[]}]:=Marks.push (Marks.nil w9.heap.size w9) (wE hkX fun k e=>by have e':k=ob+1:=e;rw [e'];exact⟨_,H9.out.2.1,rfl⟩).same hD hD hd;obtain⟨ao,cap,ev,-⟩:=hOw.shape;subst ev;have b1:=hBv.c0;have HSort:=qH (aJ3 hOw HL.out.1 (fun x hx=>by rw [HL.out.2.1 x hx];exact hm) HL.out.2.2);have hxX:Ext w X2:=H9.out.2.2.trans' hkX fun i hi e=>by have e':i=ob+1:=e;have:=HOB.out.2;omega
  have HZ:=qH (nIX hkX (nIX hBv (nIX hOw (nIX hm1 hxX))));obtain⟨nL,enL⟩:=nm LL.length;rw [enL]at b1 HSort HZ;clear hkX hBv hOw hm1 hxX hd hD hro;go_wp2_with fail
  refine HSort.out.mono ?_;rintro e X3 ⟨rfl,hO3,k3⟩;have hnb:¬(Value.slice ao nL cap).ownBlock=some (ob+1):=fun h=>by obtain⟨ps,_,h2,_⟩:=HZ.out.2.2.1;have h3:w9.heap.size≤ob+1:=h2.block _ h;omega
  have b3:X3.cell? ⟨ob+1,0,none⟩=some (.slice ao nL cap):=k3.cell b1 hnb;have HComp:=qH (aBw hO3 HL.out.1 m HL.out.2.1 hm HL.out.2.2);have H3:=qH (nIX k3 hO3);clear k3 hO3 hnb b1;go_wp2_with fail
  refine HComp.out.mono ?_;rintro e X4 ⟨v4,rfl,k4,hO4⟩;have H4:=qH (nIX k4 hO4);clear k4 hO4 b3;go_wp2_with fail
  show Q .ret _ _;rw [EQ.out];have hcell:∀W:World,OwnRows w9.heap.size W (.slice ao nL cap) LL->∀k,(Value.slice ao nL cap).ownBlock=some k->w9.heap.size≤k/\gH W k:=fun W h k hk=>by obtain⟨ps,_,h2,_⟩:=h;exact⟨h2.block k hk,h2.cellB k hk⟩
  refine aKb (lo:=w9.heap.size) ((HZ.out.2.2.2.1.others (wE H3.out.1 fun k hk=>(hcell _ HZ.out.2.2.1 k hk).2)).others (wE H4.out.1 fun k hk=>(hcell _ H3.out.2 k hk).2)) ((HZ.out.2.2.2.2.trans' H3.out.1 fun i hi h=>by have:=(hcell _ HZ.out.2.2.1 i h).1;have:=HOB.out.2;omega).trans' H4.out.1 fun i hi h=>by have:=(hcell _ H3.out.2 i h).1;have:=HOB.out.2;omega) (by have:=HOB.out.2;omega) rfl fun w' kx=>?_;exact(H4.out.2.mono (by have:=HOB.out.2;omega)).kpc kx fun g h=>h.2
end
section
open Go.RowKit Go.Shelf
set_option maxHeartbeats 1000000 in
theorem uJ{w:World}{tb b off i d lc kn kc n:Nat}{ka:Option Addr}(t0:w.cell? ⟨tb,0,none⟩=some (.slice (some ⟨b,off,none⟩) d lc))(hi:i<d)(l0:w.cell? ⟨b,off+i*2,none⟩=some (.slice ka kn kc)):
 Calls Tryz.prog 178 #[.pointer (some ⟨tb,0,none⟩),.int .i64 i,.int .i64 n] w (RetN w fun w' v=>v= .int .i64 kn):=by
 go_enter Tryz.func178,Tryz.ntmps178;go_wp2;go_ret;exact RetN.mk (Kp.refl _) rfl
set_option maxHeartbeats 1000000 in
theorem rB{w:World}{tb i d lc n:Nat}{la:Option Addr}(t0:w.cell? ⟨tb,0,none⟩=some (.slice la d lc))(hi:¬i<d):
 Calls Tryz.prog 178 #[.pointer (some ⟨tb,0,none⟩),.int .i64 i,.int .i64 n] w (RetN w fun w' v=>v= .int .i64 n):=by
 go_enter Tryz.func178,Tryz.ntmps178;go_wp2;go_ret;exact RetN.mk (Kp.refl _) rfl
end
section
open Go.RowKit Go.Shelf
attribute [local go_sem] Oper.semAt_some
def lA(kv fv:Nat->Value)(d:Nat):List Value:=(List.range d).flatMap fun i=> [kv i,fv i]
theorem qK(kv fv:Nat->Value)(d:Nat):(lA kv fv d).length=d*2:=by
 induction d with
 |zero=>rfl
 |succ d ih=>
  unfold lA at*;rw [List.range_succ,List.flatMap_append,List.length_append,ih];simp;omega
theorem jE(kv fv:Nat->Value)(d:Nat):lA kv fv (d+1)=lA kv fv d++ [kv d,fv d]:=by unfold lA;rw [List.range_succ,List.flatMap_append];simp
theorem cZ(kv fv:Nat->Value){d i:Nat}(hi:i<d):(lA kv fv d)[i*2]?=some (kv i)/\(lA kv fv d)[i*2+1]?=some (fv i):=by
 induction d with
 |zero=>omega
 |succ d ih=>
  rw [jE];by_cases h:i<d
  ·have hl:=qK kv fv d;rw [List.getElem?_append_left (by omega),List.getElem?_append_left (by omega)];exact ih h
  ·obtain rfl:i=d:=by omega
   have hl:=qK kv fv i;rw [List.getElem?_append_right (by omega),List.getElem?_append_right (by omega),hl,Nat.sub_self,show i*2+1-i*2=1 by omega];exact⟨rfl,rfl⟩
theorem vX{kv fv kv' fv':Nat->Value}{d:Nat}(h:∀i,i<d->kv i=kv' i/\fv i=fv' i):lA kv fv d=lA kv' fv' d:=by unfold lA;rw [List.flatMap_def,List.flatMap_def,List.map_congr_left fun i hi=>by obtain⟨h1,h2⟩:=h i (List.mem_range.1 hi);rw [h1,h2]]
theorem aIi(kv fv:Nat->Value){d i:Nat}(hi:i<d)(v:Value):(lA kv fv d).set (i*2) v=lA (dD kv i v) fv d:=by
 induction d with
 |zero=>omega
 |succ d ih=>
  rw [jE,jE];have hl:=qK kv fv d;by_cases h:i<d
  ·rw [List.set_append_left _ _ (by omega),ih h,aH _ _ (by omega)]
  ·obtain rfl:i=d:=by omega
   rw [List.set_append_right _ _ (by omega),hl,Nat.sub_self,List.set_cons_zero,upd_same,vX (kv':=kv) (fv':=fv) (kv:=dD kv i v) (fv:=fv) fun j hj=>⟨aH _ _ (by omega),rfl⟩]
theorem aIj(kv fv:Nat->Value){d i:Nat}(hi:i<d)(v:Value):(lA kv fv d).set (i*2+1) v=lA kv (dD fv i v) d:=by
 induction d with
 |zero=>omega
 |succ d ih=>
  rw [jE,jE];have hl:=qK kv fv d;by_cases h:i<d
  ·rw [List.set_append_left _ _ (by omega),ih h,aH _ _ (by omega)]
  ·obtain rfl:i=d:=by omega
   rw [List.set_append_right _ _ (by omega),hl,show i*2+1-i*2=1 by omega,List.set_cons_succ,List.set_cons_zero,upd_same,vX (kv':=kv) (fv':=fv) (kv:=kv) (fv:=dD fv i v) fun j hj=>⟨rfl,aH _ _ (by omega)⟩]
structure LevSt(w0 w:World)(tb lb d n:Nat)(ks:Nat->List ByteArray)(fs:Nat->List Int)(kv fv:Nat->Value):Prop where
 tri:Blk w tb [.slice (some ⟨lb,0,none⟩) d d,.int .i64 n,.bool true] 241
 blk:Blk w lb (lA kv fv d) 244
 keys:∀i,i<d->Row w 9 1 (kv i) (ks i).length (strs (ks i)) (New w0)
 froms:∀i,i<d->Row w 3 1 (fv i) (fs i).length (ints (fs i)) (New w0)
 kfar:∀i j,i<d->j<d->i≠j->∀g,(kv i).ownBlock=some g->(kv j).ownBlock≠some g
 ffar:∀i j,i<d->j<d->i≠j->∀g,(fv i).ownBlock=some g->(fv j).ownBlock≠some g
 new:w0.heap.size≤tb/\w0.heap.size≤lb
 kp:Ext w0 w
theorem sF:241≠244/\241≠9/\241≠3/\244≠9/\244≠3/\9≠3:=by decide
section
variable {w0 w w':World}{tb lb d n:Nat}{ks:Nat->List ByteArray}{fs:Nat->List Int}{kv fv:Nat->Value}
theorem LevSt.ext(h:LevSt w0 w tb lb d n ks fs kv fv)(hk:Ext w w'):LevSt w0 w' tb lb d n ks fs kv fv:=
 ⟨h.tri.ext hk,h.blk.ext hk,fun i hi=>(h.keys i hi).ext hk,fun i hi=>(h.froms i hi).ext hk,h.kfar,h.ffar,h.new,h.kp.trans hk⟩
theorem LevSt.congr{ks':Nat->List ByteArray}{fs':Nat->List Int}(h:LevSt w0 w tb lb d n ks fs kv fv)(h1:∀i,i<d->ks i=ks' i)(h2:∀i,i<d->fs i=fs' i):LevSt w0 w tb lb d n ks' fs' kv fv:=
 ⟨h.tri,h.blk,fun i hi=>by rw [<-h1 i hi];exact h.keys i hi,fun i hi=>by rw [<-h2 i hi];exact h.froms i hi,h.kfar,h.ffar,h.new,h.kp⟩
theorem LevSt.putK(h:LevSt w0 w tb lb d n ks fs kv fv){i:Nat}(hi:i<d){x:ByteArray}{v':Value}(hr:Row w' 9 1 v' ((ks i).length+1) (strs (ks i)++ [.string x]) (fun g=>(kv i).ownBlock=some g\/w.heap.size≤g))(hk:Kp (fun g=>(kv i).ownBlock=some g) w w'):
 LevSt w0 (w'.setCell ⟨lb,i*2,none⟩ v') tb lb d n (dD ks i (ks i++ [x])) fs (dD kv i v') fv:=by
 obtain⟨t1,t2,t3,t4,t5,t6⟩:=sF;have ks':Kp (fun k=>k=lb) w' (w'.setCell ⟨lb,i*2,none⟩ v'):=Kp.setCell (F:=fun k=>k=lb) (p:=⟨lb,i*2,none⟩) (Kp.refl w') (fun _=>rfl) _;have own:∀g,(kv i).ownBlock=some g->∃cs,Blk w g cs 9:=fun g hg=>aQ (h.keys i hi) hg;have htri:Blk w' tb _ 241:=h.tri.kp hk fun hg=>by obtain⟨cs,hb⟩:=own _ hg;exact t2 (aP h.tri hb)
 have hblk:Blk w' lb (lA kv fv d) 244:=h.blk.kp hk fun hg=>by obtain⟨cs,hb⟩:=own _ hg;exact t4 (aP h.blk hb)
 have hkp:Ext w0 w':=h.kp.trans' hk fun g hg e=>by have h2:w0.heap.size≤g:=(h.keys i hi).block g e;omega
 refine⟨htri.kp ks' fun e=>t1 (by have e':tb=lb:=e;rw [e']at htri;exact aP htri hblk),?_,fun j hj=>?_,fun j hj=>?_,fun j l hj hl hne g h1 h2=>?_,h.ffar,h.new,hkp.trans' ks' fun g hg e=>by have e':g=lb:=e;have:=h.new.2;omega⟩
 ·rw [<-aIi kv fv hi];exact hblk.set _ _
 ·by_cases e:j=i
  ·subst e;rw [upd_same,upd_same,List.length_append,List.length_singleton];have e1:strs (ks j++ [x])=strs (ks j)++ [.string x]:=by simp [strs]
   rw [e1];refine(hr.kp' ks' fun g hg _ e=>?_).mono fun g hg=>?_
   ·obtain⟨cs,hb⟩:=aQ hr hg;have e':g=lb:=e;rw [e']at hb;exact t4 (aP hblk hb)
   ·rcases hg with hg|hg
    ·exact(h.keys j hi).block g hg
    ·exact Nat.le_trans h.kp.size hg
  ·rw [aH _ _ e,aH _ _ e];have h1:=(h.keys j hj).kp' hk fun g hg _ hf=>h.kfar i j hi hj (fun e2=>e e2.symm) g hf hg;exact h1.kp' ks' fun g hg _ e=>by obtain⟨cs,hb⟩:=aQ h1 hg;have e':g=lb:=e;rw [e']at hb;exact t4 (aP hblk hb)
 ·have h1:=(h.froms j hj).kp' hk fun g hg _ hf=>by
   obtain⟨cs,hb⟩:=own _ hf;obtain⟨cs2,hb2⟩:=aQ (h.froms j hj) hg;exact t6 (aP hb hb2)
  exact h1.kp' ks' fun g hg _ e=>by obtain⟨cs,hb⟩:=aQ h1 hg;have e':g=lb:=e;rw [e']at hb;exact t5 (aP hblk hb)
 ·by_cases e1:j=i
  ·subst e1;rw [upd_same]at h1;rw [aH _ _ (fun e=>hne e.symm)]at h2;rcases hr.block g h1 with h3|h3
   ·exact h.kfar j l hj hl hne g h3 h2
   ·have:=(h.keys l hl).lt g h2;omega
  ·rw [aH _ _ e1]at h1;by_cases e2:l=i
   ·subst e2;rw [upd_same]at h2;rcases hr.block g h2 with h3|h3
    ·exact h.kfar j l hj hl hne g h1 h3
    ·have:=(h.keys j hj).lt g h1;omega
   ·rw [aH _ _ e2]at h2;exact h.kfar j l hj hl hne g h1 h2
theorem LevSt.putF(h:LevSt w0 w tb lb d n ks fs kv fv){i:Nat}(hi:i<d){x:Int}{v':Value}(hr:Row w' 3 1 v' ((fs i).length+1) (ints (fs i)++ [.int .i64 x]) (fun g=>(fv i).ownBlock=some g\/w.heap.size≤g))(hk:Kp (fun g=>(fv i).ownBlock=some g) w w'):
 LevSt w0 (w'.setCell ⟨lb,i*2+1,none⟩ v') tb lb d n ks (dD fs i (fs i++ [x])) kv (dD fv i v'):=by
 obtain⟨t1,t2,t3,t4,t5,t6⟩:=sF;have ks':Kp (fun k=>k=lb) w' (w'.setCell ⟨lb,i*2+1,none⟩ v'):=Kp.setCell (F:=fun k=>k=lb) (p:=⟨lb,i*2+1,none⟩) (Kp.refl w') (fun _=>rfl) _;have own:∀g,(fv i).ownBlock=some g->∃cs,Blk w g cs 3:=fun g hg=>aQ (h.froms i hi) hg;have htri:Blk w' tb _ 241:=h.tri.kp hk fun hg=>by obtain⟨cs,hb⟩:=own _ hg;exact t3 (aP h.tri hb)
 have hblk:Blk w' lb (lA kv fv d) 244:=h.blk.kp hk fun hg=>by obtain⟨cs,hb⟩:=own _ hg;exact t5 (aP h.blk hb)
 have hkp:Ext w0 w':=h.kp.trans' hk fun g hg e=>by have h2:w0.heap.size≤g:=(h.froms i hi).block g e;omega
 refine⟨htri.kp ks' fun e=>t1 (by have e':tb=lb:=e;rw [e']at htri;exact aP htri hblk),?_,fun j hj=>?_,fun j hj=>?_,h.kfar,fun j l hj hl hne g h1 h2=>?_,h.new,hkp.trans' ks' fun g hg e=>by have e':g=lb:=e;have:=h.new.2;omega⟩
 ·rw [<-aIj kv fv hi];exact hblk.set _ _
 ·have h1:=(h.keys j hj).kp' hk fun g hg _ hf=>by
   obtain⟨cs,hb⟩:=own _ hf;obtain⟨cs2,hb2⟩:=aQ (h.keys j hj) hg;exact t6 (aP hb2 hb)
  exact h1.kp' ks' fun g hg _ e=>by obtain⟨cs,hb⟩:=aQ h1 hg;have e':g=lb:=e;rw [e']at hb;exact t4 (aP hblk hb)
 ·by_cases e:j=i
  ·subst e;rw [upd_same,upd_same,List.length_append,List.length_singleton];have e1:ints (fs j++ [x])=ints (fs j)++ [.int .i64 x]:=by simp [ints]
   rw [e1];refine(hr.kp' ks' fun g hg _ e=>?_).mono fun g hg=>?_
   ·obtain⟨cs,hb⟩:=aQ hr hg;have e':g=lb:=e;rw [e']at hb;exact t5 (aP hblk hb)
   ·rcases hg with hg|hg
    ·exact(h.froms j hi).block g hg
    ·exact Nat.le_trans h.kp.size hg
  ·rw [aH _ _ e,aH _ _ e];have h1:=(h.froms j hj).kp' hk fun g hg _ hf=>h.ffar i j hi hj (fun e2=>e e2.symm) g hf hg;exact h1.kp' ks' fun g hg _ e=>by obtain⟨cs,hb⟩:=aQ h1 hg;have e':g=lb:=e;rw [e']at hb;exact t5 (aP hblk hb)
 ·by_cases e1:j=i
  ·subst e1;rw [upd_same]at h1;rw [aH _ _ (fun e=>hne e.symm)]at h2;rcases hr.block g h1 with h3|h3
   ·exact h.ffar j l hj hl hne g h3 h2
   ·have:=(h.froms l hl).lt g h2;omega
  ·rw [aH _ _ e1]at h1;by_cases e2:l=i
   ·subst e2;rw [upd_same]at h2;rcases hr.block g h2 with h3|h3
    ·exact h.ffar j l hj hl hne g h1 h3
    ·have:=(h.froms j hj).lt g h1;omega
   ·rw [aH _ _ e2]at h2;exact h.ffar j l hj hl hne g h1 h2
theorem LevSt.done{W:aD}(h:LevSt w0 w tb lb d n ks fs kv fv)(hnW:n=W.length)(hd:d≤64)(hW:W.length≤65536)(hk:∀i,i<d->ks i=bV W d i W.length)(hf:∀i,i<d->fs i=cF W d i W.length++ [(aO W d (i+1) W.length:Int)]):
 Fast w0.heap.size w.heap.size w fun X=>TrieAt X tb W d:=fun X hX=>by
 subst hnW;have noF:∀k,w0.heap.size≤k->k<w.heap.size->¬¬(w0.heap.size≤k/\k<w.heap.size):=fun k h1 h2 h3=>h3 ⟨h1,h2⟩;have htri:=h.tri.kp hX (noF _ h.new.1 h.tri.lt);have hblk:=h.blk.kp hX (noF _ h.new.2 h.blk.lt);refine⟨⟨some ⟨lb,0,none⟩,d,by rw [htri.cell'];rfl,by rw [htri.cell'];rfl,by rw [htri.cell'];rfl,fun i hi=>⟨lb,0,rfl,?_⟩⟩,by omega,by omega⟩;have hkr:=(h.keys i hi).kp' hX fun g hg hM=>noF g hM ((h.keys i hi).lt g hg);have hfr:=(h.froms i hi).kp' hX fun g hg hM=>noF g hM ((h.froms i hi).lt g hg);rw [hk i hi,fN]at hkr;rw [hf i hi,List.length_append,iO,List.length_singleton]at hfr;obtain⟨ka,kc,e1,c1,l1⟩:=hkr.shape;obtain⟨fa,fc,e2,c2,l2⟩:=hfr.shape;refine⟨⟨ka,kc,fa,fc,?_,?_,l1,c1,c2⟩⟩
 ·rw [hblk.cell',Nat.zero_add,(cZ kv fv hi).1,e1]
 ·rw [hblk.cell',Nat.zero_add,(cZ kv fv hi).2,e2]
end
theorem aAl(tb:Nat)(w:World):(binOp .eql 88 (.pointer (some ⟨tb,0,none⟩)) (.pointer none)).run Tryz.prog w= .ok (.bool false) w:=by kernel_rfl
def gY(n:Nat):List Value:=ints ((List.range n).map fun(v:Nat)=>(v:Int))
theorem yV{n i:Nat}(hi:i<n):(gY n)[i]?=some (.int .i64 i):=by unfold gY ints;rw [List.map_map,List.getElem?_map,List.getElem?_range hi];rfl
theorem aA3{w:World}{oa:Option Addr}{i c n:Nat}(h:CellsAt w oa (gY n))(hi:i≤n)(hn:n≤1048576):Calls Tryz.prog 176 #[.slice oa i c,.int .i64 i] w (RetN w fun w' v=>v= .bool false):=by
 have HI:=qH (show Calls Tryz.prog 198 #[.slice oa i c,.int .i64 i] w (RetN w fun w' v=>v= .int .i64 (-1))from by
  have HE:=qH h;clear h;go_enter Tryz.func198,Tryz.ntmps198;go_wp2;go_loopw [8] (fun jv wr=>∃j:Nat,j≤i/\jv= .int .i64 j/\Hid (Ext w wr)) (fun jv _=>i- (intOf jv).toNat)
  case atStart=>exact⟨0,Nat.zero_le _,rfl,qH (Kp.refl w)⟩
  case round=>
   obtain⟨j,hj,rfl,hex⟩:=hrel;by_cases hlt:j<i
   ·obtain⟨b,off,eao,hc0⟩:=(HE.out.ext hex.out) j (.int .i64 j) (yV (by omega));subst eao;have hb:((i:Int)==(j:Int))=false:=by simp;omega
    go_wp2;go_roundw
    case rel=>exact⟨j+1,by omega,nMX,hex⟩
    case measure=>simp [intOf];omega
   ·go_wp2;go_ret;exact RetN.mk hex.out rfl)
 clear h;go_enter Tryz.func176,Tryz.ntmps176;go_wp2_with fail
 refine HI.out.mono ?_;rintro e w1 ⟨v,rfl,hk,rfl⟩;go_wp2;go_ret;exact RetN.mk hk rfl
theorem aJu{S:Nat->Prop}{w W:World}{ao:Option Addr}{LL:aD}{n:Nat}{ss:List ByteArray}(h:RowsIn S w ao LL)(hx:Ext w W)(hn:LL[n]?=some ss):∃b off xa xc,ao=some ⟨b,off,none⟩/\W.cell? ⟨b,off+n,none⟩=some (.slice xa ss.length xc)/\CellsAt W xa (strs ss):=by
 obtain⟨ps,rfl,hc,-,hall⟩:=h;rw [List.getElem?_map]at hn;cases hp:ps[n]? with
 |none=>rw [hp]at hn;cases hn
 |some p=>
  rw [hp]at hn;cases hn;obtain⟨b,off,e,c⟩:=hc n (.slice p.1.1 p.1.2.1 p.1.2.2) (by unfold cB;rw [List.getElem?_map,hp];rfl);obtain⟨⟨h1,h2⟩,-⟩:=hall p (List.mem_of_getElem? hp);rw [h1]at c;exact⟨b,off,_,_,e,hx.cell c id,h2.ext hx⟩
def aM4(w0:World)(tb lb m nL:Nat)(LL:aD)(jv:Value)(W:World):Prop:=∃(n:Nat) (kv fv:Nat->Value),n≤nL/\jv= .int .i64 n/\Hid (LevSt w0 W tb lb m nL (fun i=>bV LL m i n) (fun i=>cF LL m i n) kv fv)
def EndTo(w0:World)(tb lb m nL:Nat)(LL:aD)(jv:Value)(W:World):Prop:=∃(i:Nat) (kv fv:Nat->Value),i≤m/\jv= .int .i64 i/\
 Hid (LevSt w0 W tb lb m nL (fun j=>bV LL m j nL) (fun j=>cF LL m j nL++if j<i then [(aO LL m (j+1) nL:Int)]else []) kv fv)
def WayIn(w0:World)(tb lb m nL n:Nat)(LL:aD)(bv jv:Value)(W:World):Prop:=∃(i:Nat) (kv fv:Nat->Value),i≤m/\jv= .int .i64 i/\bv= .bool (dG LL i n)/\
 Hid (LevSt w0 W tb lb m nL (fun j=>bV LL m j (if j<i then n+1 else n)) (fun j=>cF LL m j (if j<i then n+1 else n)) kv fv)
theorem aKk(v:Value)(d:Nat):List.replicate (d*2) v=lA (fun _=>v) (fun _=>v) d:=by
 induction d with
 |zero=>rfl
 |succ d ih=>
  rw [jE,<-ih,show(d+1)*2=d*2+2 by omega,<-List.replicate_append_replicate];rfl
theorem aIo(W:aD)(d i:Nat):bV W d i 0= []:=by unfold bV aW;split<;>rfl
theorem aIu(W:aD)(d i:Nat):cF W d i 0= []:=by unfold cF aW;split<;>rfl
theorem aIh{w0 w:World}{tb lb d n:Nat}{W:aD}(hB:Blk w lb (List.replicate (d*2) (.slice none 0 0)) 244)(hT:Blk w tb [.slice (some ⟨lb,0,none⟩) d d,.int .i64 n,.bool true] 241)(hk:Ext w0 w)(h1:w0.heap.size≤tb)(h2:w0.heap.size≤lb):
 LevSt w0 w tb lb d n (fun i=>bV W d i 0) (fun i=>cF W d i 0) (fun _=> .slice none 0 0) (fun _=> .slice none 0 0):=
 ⟨hT,by rw [aKk]at hB;exact hB,fun i hi=>by rw [aIo];exact Row.nil _ _ _ _,fun i hi=>by rw [aIu];exact Row.nil _ _ _ _,fun _ _ _ _ _ g h=>(by cases h),fun _ _ _ _ _ g h=>(by cases h),⟨h1,h2⟩,hk⟩
theorem aFx:cL Tryz.prog 239 244 2 48 (.agg #[.slice none 0 0,.slice none 0 0]):=⟨by kernel_rfl,by kernel_rfl,rfl,by decide⟩
set_option maxHeartbeats 4000000 in
theorem aJb{S:Nat->Prop}{w:World}{rb m oc:Nat}{iv:Value}{oa:Option Addr}{LL:aD}(hR:RowsAt S w rb iv m LL)(hst:Strict aB LL)(hlen:∀x∈LL,x.length=m)(ho:CellsAt w oa (gY m))(hm:m≤64)(hoc:m≤oc)(hn:LL.length≤65536):
 Calls Tryz.prog 151 #[.pointer (some ⟨rb,0,none⟩),.slice oa m oc] w (RetN w fun w' v=>∃tb,v= .tuple #[.pointer (some ⟨tb,0,none⟩),.int .i64 0]/\w.heap.size≤tb/\Fast w.heap.size w'.heap.size w' fun X=>TrieAt X tb LL m):=by
 have HAr:=qH (fun W (hW:Ext w W)=>aB1 (z:=False) (hR.ext hW).q);have HPr:=qH (fun W (hW:Ext w W)=>xY (oc:=oc) (hR.ext hW) hst hlen (ho.ext hW) hm hn);have HCo:=qH (fun W (hW:Ext w W) (i c:Nat) (hi:i≤m)=>aA3 (c:=c) (ho.ext hW) hi (by omega));have HO:=qH ho;have HL:=qH (nIX hst (nIX hlen hn));have hnl:=aAl rb w;clear hR hst hlen ho hn;go_enter Tryz.func151,Tryz.ntmps151;go_wp2;clear hnl;go_loopw [21] (fun jv wr=>∃j:Nat,j≤m/\jv= .int .i64 j/\Hid (Ext w wr)) (fun jv _=>m- (intOf jv).toNat)
 case atStart=>exact⟨0,Nat.zero_le _,rfl,qH (Kp.refl w)⟩
 case round=>
  obtain⟨j,hj,rfl,hex⟩:=hrel;by_cases hlt:j<m
  ·obtain⟨b,off,eao,hc0⟩:=(HO.out.ext hex.out) j (.int .i64 j) (yV hlt);subst eao;have i1:(j:Int)< (m:Int):=by omega
   have i0:¬(j:Int)<0:=by omega
   have i2:(j:Int)≤(oc:Int):=by omega
   have hjm:j≤m:=hj;clear hj;go_wp2_with fail
   refine(HAr.out wr hex.out).mono ?_;rintro e w' ⟨rfl,rfl⟩;have i3:¬m≤j:=by omega
   go_wp2_with fail
   refine(HCo.out wr hex.out j oc hjm).mono ?_;rintro e w2 ⟨v,rfl,hk,rfl⟩;have HX:=qH (hex.out.trans hk);clear hk hc0;go_wp2;go_roundw
   case rel=>exact⟨j+1,by omega,nMX,HX⟩
   case measure=>simp [intOf];omega
  ·obtain rfl:m=j:=by omega
   have hmj:=hj;clear hj hlt;go_wp2_with fail
   refine(HPr.out wr hex.out).mono ?_;rintro e w3 ⟨v3,rfl,hk3,hO3⟩;have H3:=qH (nIX (hex.out.trans hk3) (nIX hex.out.size hO3));obtain⟨nL,enL⟩:=nm LL.length;obtain⟨ao,cap,ev,hrows⟩:=hO3.shape;rw [enL]at ev;subst ev;have hmk:=jT (P:=Tryz.prog) aFx (c:= .slice none 0 0) rfl m (by omega) (by unfold maxLen;omega) w3;clear hk3 hO3 hex hmj;have HN:=qH enL;have HRI:=qH hrows;clear hrows enL;go_wp2;clear hmk;obtain⟨lb,elb⟩:=nm w3.heap.size;obtain⟨X1,eX1⟩:=nm (w3.alloc (.cells (Array.replicate (m*2) (.slice none 0 0)) 244));rw [elb,eX1];obtain⟨X2,eX2⟩:=nm (X1.alloc (.cells #[.slice (some ⟨lb,0,none⟩) m m,.int .i64 nL,.bool true] 241));rw [eX2];have x1:Ext w3 X1:=xAX eX1;have x2:Ext X1 X2:=xAX eX2;have hs1:X1.heap.size=lb+1:=by rw [<-eX1,aI,elb]
   have hB1:Blk X1 lb (List.replicate (m*2) (.slice none 0 0)) 244:=by have h:=Blk.new w3 (List.replicate (m*2) (.slice none 0 0)) 244;rw [List.toArray_replicate,eX1,elb]at h;exact h
   have hB2:Blk X2 (lb+1) [.slice (some ⟨lb,0,none⟩) m m,.int .i64 nL,.bool true] 241:=by have h:=Blk.new X1 [.slice (some ⟨lb,0,none⟩) m m,.int .i64 nL,.bool true] 241;rw [hs1]at h;rw [<-eX2];exact h
   have HL2:=qH (show LevSt w3 X2 (lb+1) lb m nL (fun i=>bV LL m i 0) (fun i=>cF LL m i 0) (fun _=> .slice none 0 0) (fun _=> .slice none 0 0)from aIh (hB1.ext x2) hB2 (x1.trans x2) (by rw [<-elb];omega) (by rw [<-elb];exact Nat.le_refl _));obtain⟨tb,etb⟩:=nm (lb+1);rw [etb]at HL2 ⊢;have HG:=qH (nIX elb etb);clear elb etb eX1 eX2 x1 x2 hs1 hB1 hB2;go_loopw [54] (fun jv wk=>aM4 w3 tb lb m nL LL jv wk) (fun jv _=>nL- (intOf jv).toNat)
   case atStart=>exact⟨0,_,_,Nat.zero_le _,rfl,HL2⟩
   case round=>
    obtain⟨n,kv,fv,hn,rfl,hLv⟩:=hrel;by_cases hltn:n<nL
    ·obtain⟨ss,hss⟩:∃ss,LL[n]?=some ss:=⟨_,qG (by rw [HN.out];exact hltn)⟩;have hsl:ss.length=m:=HL.out.2.1 ss (List.mem_of_getElem? hss);obtain⟨wb,wo,xa,xc,eao,wc3,hxs⟩:=aJu HRI.out (Kp.refl w3) hss;subst eao;rw [hsl]at wc3;have wc:=hLv.out.kp.cell wc3 id;have HSS:=qH (nIX hss hsl);have HXS:=qH hxs;have HBZ:=qH (show Value.bool (((n:Int))==0)= .bool (dG LL 0 n)from by rw [aE0];congr 1;cases n<;>simp<;>omega);clear hss hsl hxs hn;generalize hwk:wr=W at*;clear hwk;go_wp2;rw [HBZ.out];go_loopw [12,63] (fun bv jv wk=>WayIn w3 tb lb m nL n LL bv jv wk) (fun _ jv _=>m- (intOf jv).toNat)
     case atStart=>exact⟨0,kv,fv,Nat.zero_le _,rfl,rfl,qH (hLv.out.congr (fun i hi=>by rw [if_neg (by omega)]) (fun i hi=>by rw [if_neg (by omega)]))⟩
     case round=>
      obtain⟨i,kv2,fv2,hi,rfl,rfl,hL2⟩:=hrel;by_cases hlti:i<m
      ·obtain⟨x,hx⟩:∃x,ss[i]?=some x:=⟨_,qG (by rw [HSS.out.2];exact hlti)⟩;obtain⟨xb,xo,exa,xc0⟩:=(HXS.out.ext hL2.out.kp) i (.string x) (by simp [strs,hx]);subst exa;have HXI:=qH hx;clear hx hi;cases hp:dG LL i n
       ·have hn0:0<n:=by
         rcases Nat.eq_zero_or_pos n with h|h
         ·rw [h,aCl]at hp;cases hp
         ·exact h
        obtain⟨k,ek⟩:∃k,k=n-1:=⟨_,rfl⟩;have hkn:k<nL:=by omega
        obtain⟨pp,hpp⟩:∃pp,LL[k]?=some pp:=⟨_,qG (by rw [HN.out];exact hkn)⟩;have hpl:pp.length=m:=HL.out.2.1 pp (List.mem_of_getElem? hpp);obtain⟨pb,po,pa,pc,epo,pc0,hps⟩:=aJu HRI.out hL2.out.kp hpp;cases epo;rw [hpl]at pc0;obtain⟨y,hy⟩:∃y,pp[i]?=some y:=⟨_,qG (by rw [hpl];exact hlti)⟩;obtain⟨yb,yo,eya,yc0⟩:=hps i (.string y) (by simp [strs,hy]);subst eya;have hnext:dG LL (i+1) n=decide (y≠x):=by
         have h1:i<pp.length:=by rw [hpl];exact hlti
         have h2:i<ss.length:=by rw [HSS.out.2];exact hlti
         rw [aE1 hn0 (by rw [<-ek];exact hpp) HSS.out.1 h1 h2,hp,Bool.false_or];have e1:pp[i]=y:=by rw [qG h1]at hy;exact Option.some.inj hy
         have e2:ss[i]=x:=by have h:=HXI.out;rw [qG h2]at h;exact Option.some.inj h
         rw [e1,e2]
        have hwk:IntKind.i64.wrap ((n:Int)-1)=(k:Int):=by rw [IntWalk.i64_in _ (by have:=HN.out;have:=HL.out.2.2;omega)];omega
        have hkn2:(k:Int)< (nL:Int):=by omega
        have hkn3:(0:Int)≤(k:Int):=by omega
        have hkn4:((k:Int)).toNat=k:=by omega
        have HK:=qH (nIX ek hn0);clear ek hn0 hpp hpl hps hy;by_cases hq:y=x
        ·have HPF:=qH (show dG LL (i+1) n=false from by rw [hnext];simp [hq]);subst hq;have hb:=str_eq y;clear hnext;go_wp2;go_roundw
         case rel=>exact⟨i+1,kv2,fv2,by omega,nMX,by rw [HPF.out],qH (hL2.out.congr (fun j hj=>by
          by_cases e:j=i
          ·subst e;rw [if_neg (Nat.lt_irrefl j),if_pos (by omega),rS hlti HSS.out.1 HXI.out,if_neg (by rw [HPF.out];simp),List.append_nil]
          ·by_cases h:j<i
           ·rw [if_pos h,if_pos (by omega)]
           ·rw [if_neg h,if_neg (by omega)]) (fun j hj=>by
          by_cases e:j=i
          ·subst e;rw [if_neg (Nat.lt_irrefl j),if_pos (by omega),rU hlti,if_neg (by rw [HPF.out];simp),List.append_nil]
          ·by_cases h:j<i
           ·rw [if_pos h,if_pos (by omega)]
           ·rw [if_neg h,if_neg (by omega)]))⟩
         case measure=>simp [intOf];omega
        ·have HPT:=qH (show dG LL (i+1) n=true from by rw [hnext];simp [hq]);have hb:=kO hq;clear hnext hq;have hli:=hlti;have hwi:IntKind.i64.wrap ((i:Int)+1)=(i:Int)+1:=IntWalk.i64_in _ (by omega);obtain⟨ka,kc,ekv,kcs,hkc⟩:=(hL2.out.keys i hlti).shape;obtain⟨fa,fc,efv,fcs,hfc⟩:=(hL2.out.froms i hlti).shape;obtain⟨kn,ekn⟩:=nm ((bV LL m i (if i<i then n+1 else n)).length);obtain⟨fn,efn⟩:=nm ((cF LL m i (if i<i then n+1 else n)).length);have hknb:kn≤n:=by rw [<-ekn,if_neg (Nat.lt_irrefl i),fN];exact dM _ _ _ _
         have hfnb:fn≤n:=by rw [<-efn,if_neg (Nat.lt_irrefl i),iO];exact dM _ _ _ _
         have hn16:n<65536:=by have:=HN.out;have:=HL.out.2.2;omega
         rw [ekn]at ekv;rw [efn]at efv;have HKR:=qH (show Row wr 9 1 (.slice ka kn kc) kn (strs (bV LL m i (if i<i then n+1 else n))) (New w3)from by have h:=hL2.out.keys i hlti;rw [ekv,ekn]at h;exact h);have t0:=hL2.out.tri.c0;have k0:wr.cell? ⟨lb,i*2,none⟩=some (.slice ka kn kc):=by rw [hL2.out.blk.cell',(cZ kv2 fv2 hlti).1,ekv]
         have HEK:=qH (nIX ekv (nIX efv (nIX ekn efn)));clear kcs fcs hkc hfc ekv efv ekn efn;go_wp2_with (first|(at_builtin;refine Halted.out ?_))
         refine Halted.mk (iH fF rfl _ _ rfl rfl (HKR.out.alloc _) rfl (CellsAt.one wr (.string x) 9) (by rfl) (by simp;rfl) (by omega) (by unfold maxLen;omega) ?_);intro v4 w4 hr4 hk4;obtain⟨la4,lc4,ev4,_,_⟩:=hr4.shape;subst ev4;have hkw:Kp (fun g=>(kv2 i).ownBlock=some g) wr w4:=by rw [HEK.out.1];exact(Ext.kp ((Kp.refl wr).alloc _)).trans hk4
         have hL5:=qH (hL2.out.putK (x:=x) hlti (v':= .slice la4 (kn+1) lc4) (by rw [HEK.out.2.2.1,HEK.out.1];exact hr4.mono fun g hg=>hg.imp id (fun h=>Nat.le_trans ((Kp.refl wr).alloc (F:=fun _=>False) _).size h)) hkw);have hb4:Blk w4 lb (lA kv2 fv2 m) 244:=hL2.out.blk.kp hkw fun hg=>by obtain⟨cs,hb⟩:=aQ (hL2.out.keys i hlti) hg;exact sF.2.2.2.1 (aP hL2.out.blk hb)
         have k1:w4.cell? ⟨lb,i*2,none⟩=some (.slice ka kn kc):=by rw [hb4.cell',(cZ kv2 fv2 hlti).1,HEK.out.1]
         have kf:=hb4.free (i*2);obtain⟨w5,e5⟩:=nm (w4.setCell ⟨lb,i*2,none⟩ (.slice la4 (kn+1) lc4));rw [e5]at hL5;clear hr4 hk4 hkw hb4 t0 k0;go_wp2;clear e5 k1 kf;have HWd:=qH (show ∀W',Ext w5 W'->Calls Tryz.prog 178 #[.pointer (some ⟨tb,0,none⟩),.int .i64 ((i:Int)+1),.int .i64 n] W' (RetN W' fun _ v=>v= .int .i64 (aO LL m (i+1) n:Nat))from fun W' hW'=>by
          have ei:((i+1:Nat):Int)=(i:Int)+1:=by omega
          have hLx:=hL5.out.ext hW';have tx:=hLx.tri.c0;rw [<-ei];by_cases h1:i+1<m
          ·have hr:=hLx.keys (i+1) h1;rw [aH _ _ (by omega:i+1≠i),aH _ _ (by omega:i+1≠i),if_neg (by omega),fN]at hr;obtain⟨kx,cx2,ex,_,_⟩:=hr.shape;have hc:=(cZ (dD kv2 i (.slice la4 (kn+1) lc4)) fv2 h1).1;rw [aH _ _ (by omega:i+1≠i),ex]at hc;exact uJ (off:=0) tx h1 (by rw [hLx.blk.cell',Nat.zero_add];exact hc)
          ·have e:aO LL m (i+1) n=n:=by rw [show i+1=m by omega];exact pB
           rw [e];exact rB tx h1)
         obtain⟨wd,ewd⟩:=nm (aO LL m (i+1) n);rw [ewd]at HWd;have HED:=qH ewd;have HFR:=qH (show Row w5 3 1 (.slice fa fn fc) fn (ints (cF LL m i (if i<i then n+1 else n))) (New w3)from by have h:=hL5.out.froms i hlti;rw [HEK.out.2.1,HEK.out.2.2.2]at h;exact h);have HJ:=qH (show ∀w',Ext w5 w'->(fun w':World=>w'.cell? ⟨tb,0,none⟩=some (.slice (some ⟨lb,0,none⟩) m m)/\w'.cell? ⟨lb,i*2+1,none⟩=some (.slice fa fn fc)) w' from fun w' hw'=>⟨by rw [(hL5.out.tri.ext hw').cell'];rfl,by rw [(hL5.out.blk.ext hw').cell',(cZ _ fv2 hlti).2,HEK.out.2.1]⟩);clear ewd;refine aY (fun w':World=>w'.cell? ⟨tb,0,none⟩=some (.slice (some ⟨lb,0,none⟩) m m)/\w'.cell? ⟨lb,i*2+1,none⟩=some (.slice fa fn fc)) [11,12,13,14] (by kernel_rfl) (HJ.out _ (Kp.refl w5).drew) (fun hHeld=>?_);refine eFX 0 ?_;refine eFX 1 ?_;refine eFX 2 ?_;refine eFX 3 ?_;refine eIX 4 ?_;refine eFX 5 ?_;refine eFX 6 ?_;refine eFX 7 ?_;refine eFX 8 ?_;refine eTX 9 fun K hK=>?_;go_simp
         (refine(HWd.out _ (Kp.refl w5).drew).mono ?_;rintro e w6 ⟨v6,rfl,hk6,rfl⟩;have X1:=qH (show Ext w5 w6 from((Kp.refl w5).drew).trans hk6);clear hk6)
         go_wp2_with fail
         refine hK.out _ _ (HJ.out _ X1.out) fun hHeld=>?_;clear hK K;refine eTX 10 fun K hK=>?_;go_simp;refine hK.out _ _ (HJ.out _ (X1.out.alloc _)) fun hHeld=>?_;clear hK K;refine eLX 11 fun K hK=>?_;refine jB (m:=1) (n:=fn) jG rfl _ _ rfl rfl ((HFR.out.ext X1.out).alloc _) rfl (CellsAt.one w6 _ _) (by rfl) (by simp;rfl) (by omega) (by unfold maxLen;omega) ?_;intro v7 w7 hr7 hk7;obtain⟨la7,lc7,ev7,_,_⟩:=hr7.shape;subst ev7;have X2:=qH (nIX (show Row w7 3 1 (.slice la7 (fn+1) lc7) (fn+1) (ints (cF LL m i (if i<i then n+1 else n))++ [.int .i64 (wd:Nat)]) (fun g=>(Value.slice fa fn fc).ownBlock=some g\/ (w6.alloc (.cells #[.int .i64 (wd:Nat)] 3)).heap.size≤g)from hr7) (show Kp (fun g=>(Value.slice fa fn fc).ownBlock=some g) (w6.alloc (.cells #[.int .i64 (wd:Nat)] 3)) w7 from hk7));clear hr7 hk7;have X3:=qH (hL5.out.blk.kp ((Ext.kp (X1.out.alloc (.cells #[.int .i64 (wd:Nat)] 3))).trans X2.out.2) fun hg=>(by obtain⟨cs,hb⟩:=aQ HFR.out hg;exact sF.2.2.2.2.1 (aP hL5.out.blk hb)));have f1:w7.cell? ⟨lb,i*2+1,none⟩=some (.slice fa fn fc):=by{rw [X3.out.cell',(cZ _ fv2 hlti).2,HEK.out.2.1]};have ff:=X3.out.free (i*2+1)
         refine hK.out _ _ ?_;clear hK K;refine eLX 12 fun K hK=>?_;go_simp;refine hK.out _ _ ?_;clear hK K;refine eLX 13 fun K hK=>?_;go_simp;refine hK.out _ _ ?_;clear hK K;refine eLX 14 fun K hK=>?_;go_simp;refine hK.out _ _ ?_;clear hK K;refine aL (by kernel_rfl) ?_ _;clear hHeld;have HP2:=qH (hL5.out.putF (w':=w7) (x:=(wd:Nat)) hlti (v':= .slice la7 (fn+1) lc7) (by rw [HEK.out.2.2.2,HEK.out.2.1];exact X2.out.1.mono fun g hg=>hg.imp id (fun h=>Nat.le_trans (X1.out.alloc (.cells #[.int .i64 (wd:Nat)] 3)).size h)) (by rw [HEK.out.2.1];exact(Ext.kp (X1.out.alloc _)).trans X2.out.2));obtain⟨w8,e8⟩:=nm (w7.setCell ⟨lb,i*2+1,none⟩ (.slice la7 (fn+1) lc7));rw [e8]at HP2 ⊢;clear e8 f1 ff;go_wp2;go_roundw
         case rel=>exact⟨i+1,_,_,by omega,nMX,by rw [HPT.out],qH (HP2.out.congr (fun j hj=>by
          by_cases e:j=i
          ·subst e;rw [upd_same,if_neg (Nat.lt_irrefl j),if_pos (by omega),rS hlti HSS.out.1 HXI.out,if_pos HPT.out]
          ·rw [aH _ _ e];by_cases h:j<i
           ·rw [if_pos h,if_pos (by omega)]
           ·rw [if_neg h,if_neg (by omega)]) (fun j hj=>by
          by_cases e:j=i
          ·subst e;rw [upd_same,if_neg (Nat.lt_irrefl j),if_pos (by omega),rU hlti,if_pos HPT.out,HED.out]
          ·rw [aH _ _ e];by_cases h:j<i
           ·rw [if_pos h,if_pos (by omega)]
           ·rw [if_neg h,if_neg (by omega)]))⟩
         case measure=>simp [intOf];omega
       ·have HPT:=qH (show dG LL (i+1) n=true from by
         rcases fC.1 hp with h|h
         ·exact fC.2 (.inl h)
         ·refine fC.2 (.inr fun e=>h ?_);have h2:=congrArg (List.take i) e
          rwa [List.take_take,List.take_take,Nat.min_eq_left (Nat.le_succ i)]at h2)
        have hli:=hlti;have hwi:IntKind.i64.wrap ((i:Int)+1)=(i:Int)+1:=IntWalk.i64_in _ (by omega);obtain⟨ka,kc,ekv,kcs,hkc⟩:=(hL2.out.keys i hlti).shape;obtain⟨fa,fc,efv,fcs,hfc⟩:=(hL2.out.froms i hlti).shape;obtain⟨kn,ekn⟩:=nm ((bV LL m i (if i<i then n+1 else n)).length);obtain⟨fn,efn⟩:=nm ((cF LL m i (if i<i then n+1 else n)).length);have hknb:kn≤n:=by rw [<-ekn,if_neg (Nat.lt_irrefl i),fN];exact dM _ _ _ _
        have hfnb:fn≤n:=by rw [<-efn,if_neg (Nat.lt_irrefl i),iO];exact dM _ _ _ _
        have hn16:n<65536:=by have:=HN.out;have:=HL.out.2.2;omega
        rw [ekn]at ekv;rw [efn]at efv;have HKR:=qH (show Row wr 9 1 (.slice ka kn kc) kn (strs (bV LL m i (if i<i then n+1 else n))) (New w3)from by have h:=hL2.out.keys i hlti;rw [ekv,ekn]at h;exact h);have t0:=hL2.out.tri.c0;have k0:wr.cell? ⟨lb,i*2,none⟩=some (.slice ka kn kc):=by rw [hL2.out.blk.cell',(cZ kv2 fv2 hlti).1,ekv]
        have HEK:=qH (nIX ekv (nIX efv (nIX ekn efn)));clear kcs fcs hkc hfc ekv efv ekn efn;go_wp2_with (first|(at_builtin;refine Halted.out ?_))
        refine Halted.mk (iH fF rfl _ _ rfl rfl (HKR.out.alloc _) rfl (CellsAt.one wr (.string x) 9) (by rfl) (by simp;rfl) (by omega) (by unfold maxLen;omega) ?_);intro v4 w4 hr4 hk4;obtain⟨la4,lc4,ev4,_,_⟩:=hr4.shape;subst ev4;have hkw:Kp (fun g=>(kv2 i).ownBlock=some g) wr w4:=by rw [HEK.out.1];exact(Ext.kp ((Kp.refl wr).alloc _)).trans hk4
        have hL5:=qH (hL2.out.putK (x:=x) hlti (v':= .slice la4 (kn+1) lc4) (by rw [HEK.out.2.2.1,HEK.out.1];exact hr4.mono fun g hg=>hg.imp id (fun h=>Nat.le_trans ((Kp.refl wr).alloc (F:=fun _=>False) _).size h)) hkw);have hb4:Blk w4 lb (lA kv2 fv2 m) 244:=hL2.out.blk.kp hkw fun hg=>by obtain⟨cs,hb⟩:=aQ (hL2.out.keys i hlti) hg;exact sF.2.2.2.1 (aP hL2.out.blk hb)
        have k1:w4.cell? ⟨lb,i*2,none⟩=some (.slice ka kn kc):=by rw [hb4.cell',(cZ kv2 fv2 hlti).1,HEK.out.1]
        have kf:=hb4.free (i*2);obtain⟨w5,e5⟩:=nm (w4.setCell ⟨lb,i*2,none⟩ (.slice la4 (kn+1) lc4));rw [e5]at hL5;clear hr4 hk4 hkw hb4 t0 k0;go_wp2;clear e5 k1 kf;have HWd:=qH (show ∀W',Ext w5 W'->Calls Tryz.prog 178 #[.pointer (some ⟨tb,0,none⟩),.int .i64 ((i:Int)+1),.int .i64 n] W' (RetN W' fun _ v=>v= .int .i64 (aO LL m (i+1) n:Nat))from fun W' hW'=>by
         have ei:((i+1:Nat):Int)=(i:Int)+1:=by omega
         have hLx:=hL5.out.ext hW';have tx:=hLx.tri.c0;rw [<-ei];by_cases h1:i+1<m
         ·have hr:=hLx.keys (i+1) h1;rw [aH _ _ (by omega:i+1≠i),aH _ _ (by omega:i+1≠i),if_neg (by omega),fN]at hr;obtain⟨kx,cx2,ex,_,_⟩:=hr.shape;have hc:=(cZ (dD kv2 i (.slice la4 (kn+1) lc4)) fv2 h1).1;rw [aH _ _ (by omega:i+1≠i),ex]at hc;exact uJ (off:=0) tx h1 (by rw [hLx.blk.cell',Nat.zero_add];exact hc)
         ·have e:aO LL m (i+1) n=n:=by rw [show i+1=m by omega];exact pB
          rw [e];exact rB tx h1)
        obtain⟨wd,ewd⟩:=nm (aO LL m (i+1) n);rw [ewd]at HWd;have HED:=qH ewd;have HFR:=qH (show Row w5 3 1 (.slice fa fn fc) fn (ints (cF LL m i (if i<i then n+1 else n))) (New w3)from by have h:=hL5.out.froms i hlti;rw [HEK.out.2.1,HEK.out.2.2.2]at h;exact h);have HJ:=qH (show ∀w',Ext w5 w'->(fun w':World=>w'.cell? ⟨tb,0,none⟩=some (.slice (some ⟨lb,0,none⟩) m m)/\w'.cell? ⟨lb,i*2+1,none⟩=some (.slice fa fn fc)) w' from fun w' hw'=>⟨by rw [(hL5.out.tri.ext hw').cell'];rfl,by rw [(hL5.out.blk.ext hw').cell',(cZ _ fv2 hlti).2,HEK.out.2.1]⟩);clear ewd;refine aY (fun w':World=>w'.cell? ⟨tb,0,none⟩=some (.slice (some ⟨lb,0,none⟩) m m)/\w'.cell? ⟨lb,i*2+1,none⟩=some (.slice fa fn fc)) [11,12,13,14] (by kernel_rfl) (HJ.out _ (Kp.refl w5).drew) (fun hHeld=>?_);refine eFX 0 ?_;refine eFX 1 ?_;refine eFX 2 ?_;refine eFX 3 ?_;refine eIX 4 ?_;refine eFX 5 ?_;refine eFX 6 ?_;refine eFX 7 ?_;refine eFX 8 ?_;refine eTX 9 fun K hK=>?_;go_simp
        (refine(HWd.out _ (Kp.refl w5).drew).mono ?_;rintro e w6 ⟨v6,rfl,hk6,rfl⟩;have X1:=qH (show Ext w5 w6 from((Kp.refl w5).drew).trans hk6);clear hk6)
        go_wp2_with fail
        refine hK.out _ _ (HJ.out _ X1.out) fun hHeld=>?_;clear hK K;refine eTX 10 fun K hK=>?_;go_simp;refine hK.out _ _ (HJ.out _ (X1.out.alloc _)) fun hHeld=>?_;clear hK K;refine eLX 11 fun K hK=>?_;refine jB (m:=1) (n:=fn) jG rfl _ _ rfl rfl ((HFR.out.ext X1.out).alloc _) rfl (CellsAt.one w6 _ _) (by rfl) (by simp;rfl) (by omega) (by unfold maxLen;omega) ?_;intro v7 w7 hr7 hk7;obtain⟨la7,lc7,ev7,_,_⟩:=hr7.shape;subst ev7;have X2:=qH (nIX (show Row w7 3 1 (.slice la7 (fn+1) lc7) (fn+1) (ints (cF LL m i (if i<i then n+1 else n))++ [.int .i64 (wd:Nat)]) (fun g=>(Value.slice fa fn fc).ownBlock=some g\/ (w6.alloc (.cells #[.int .i64 (wd:Nat)] 3)).heap.size≤g)from hr7) (show Kp (fun g=>(Value.slice fa fn fc).ownBlock=some g) (w6.alloc (.cells #[.int .i64 (wd:Nat)] 3)) w7 from hk7));clear hr7 hk7;have X3:=qH (hL5.out.blk.kp ((Ext.kp (X1.out.alloc (.cells #[.int .i64 (wd:Nat)] 3))).trans X2.out.2) fun hg=>(by obtain⟨cs,hb⟩:=aQ HFR.out hg;exact sF.2.2.2.2.1 (aP hL5.out.blk hb)));have f1:w7.cell? ⟨lb,i*2+1,none⟩=some (.slice fa fn fc):=by{rw [X3.out.cell',(cZ _ fv2 hlti).2,HEK.out.2.1]};have ff:=X3.out.free (i*2+1)
        refine hK.out _ _ ?_;clear hK K;refine eLX 12 fun K hK=>?_;go_simp;refine hK.out _ _ ?_;clear hK K;refine eLX 13 fun K hK=>?_;go_simp;refine hK.out _ _ ?_;clear hK K;refine eLX 14 fun K hK=>?_;go_simp;refine hK.out _ _ ?_;clear hK K;refine aL (by kernel_rfl) ?_ _;clear hHeld;have HP2:=qH (hL5.out.putF (w':=w7) (x:=(wd:Nat)) hlti (v':= .slice la7 (fn+1) lc7) (by rw [HEK.out.2.2.2,HEK.out.2.1];exact X2.out.1.mono fun g hg=>hg.imp id (fun h=>Nat.le_trans (X1.out.alloc (.cells #[.int .i64 (wd:Nat)] 3)).size h)) (by rw [HEK.out.2.1];exact(Ext.kp (X1.out.alloc _)).trans X2.out.2));obtain⟨w8,e8⟩:=nm (w7.setCell ⟨lb,i*2+1,none⟩ (.slice la7 (fn+1) lc7));rw [e8]at HP2 ⊢;clear e8 f1 ff;go_wp2;go_roundw
        case rel=>exact⟨i+1,_,_,by omega,nMX,by rw [HPT.out],qH (HP2.out.congr (fun j hj=>by
         by_cases e:j=i
         ·subst e;rw [upd_same,if_neg (Nat.lt_irrefl j),if_pos (by omega),rS hlti HSS.out.1 HXI.out,if_pos HPT.out]
         ·rw [aH _ _ e];by_cases h:j<i
          ·rw [if_pos h,if_pos (by omega)]
          ·rw [if_neg h,if_neg (by omega)]) (fun j hj=>by
         by_cases e:j=i
         ·subst e;rw [upd_same,if_neg (Nat.lt_irrefl j),if_pos (by omega),rU hlti,if_pos HPT.out,HED.out]
         ·rw [aH _ _ e];by_cases h:j<i
          ·rw [if_pos h,if_pos (by omega)]
          ·rw [if_neg h,if_neg (by omega)]))⟩
        case measure=>simp [intOf];omega
      ·obtain rfl:m=i:=by omega
       have hnb:n<65536:=by have:=HN.out;have:=HL.out.2.2;omega
       have HNX:=qH (hL2.out.congr (ks':=fun i=>bV LL m i (n+1)) (fs':=fun i=>cF LL m i (n+1)) (fun j hj=>by rw [if_pos hj]) (fun j hj=>by rw [if_pos hj]));clear hL2;go_wp2;go_roundw
       case rel=>exact⟨n+1,kv2,fv2,by omega,nMX,HNX⟩
       case measure=>simp [intOf];omega
    ·obtain rfl:nL=n:=by omega
     have hn16:nL≤65536:=by have:=HN.out;have:=HL.out.2.2;omega
     have HL0:=qH (hLv.out.congr (ks':=fun i=>bV LL m i nL) (fs':=fun i=>cF LL m i nL++if i<0 then [(aO LL m (i+1) nL:Int)]else []) (fun j hj=>rfl) (fun j hj=>by rw [if_neg (by omega),List.append_nil]));have t0:=hLv.out.tri.c0;clear hLv hn hltn;go_wp2;clear t0;go_loopw [119] (fun jv wk=>EndTo w3 tb lb m nL LL jv wk) (fun jv _=>m- (intOf jv).toNat)
     case atStart=>exact⟨0,kv,fv,Nat.zero_le _,rfl,HL0⟩
     case round=>
      obtain⟨i,kv2,fv2,hi,rfl,hL2⟩:=hrel;by_cases hlti:i<m
      ·have hwi:IntKind.i64.wrap ((i:Int)+1)=(i:Int)+1:=IntWalk.i64_in _ (by omega);have hlti2:(i:Int)< (m:Int):=by omega
       obtain⟨fa,fc,efv,fcs,hfc⟩:=(hL2.out.froms i hlti).shape;obtain⟨fn,efn⟩:=nm ((cF LL m i nL++if i<i then [(aO LL m (i+1) nL:Int)]else []).length);have hfnb:fn≤nL:=by rw [<-efn,if_neg (Nat.lt_irrefl i),List.append_nil,iO];exact dM _ _ _ _
       rw [efn]at efv;have HEK:=qH (nIX efv efn);clear fcs hfc efv efn hi;have HWd:=qH (show ∀W',Ext wr W'->Calls Tryz.prog 178 #[.pointer (some ⟨tb,0,none⟩),.int .i64 ((i:Int)+1),.int .i64 nL] W' (RetN W' fun _ v=>v= .int .i64 (aO LL m (i+1) nL:Nat))from fun W' hW'=>by
        have ei:((i+1:Nat):Int)=(i:Int)+1:=by omega
        have hLx:=hL2.out.ext hW';have tx:=hLx.tri.c0;rw [<-ei];by_cases h1:i+1<m
        ·have hr:=hLx.keys (i+1) h1;rw [fN]at hr;obtain⟨kx,cx2,ex,_,_⟩:=hr.shape;have hc:=(cZ kv2 fv2 h1).1;rw [ex]at hc;exact uJ (off:=0) tx h1 (by rw [hLx.blk.cell',Nat.zero_add];exact hc)
        ·have e:aO LL m (i+1) nL=nL:=by rw [show i+1=m by omega];exact pB
         rw [e];exact rB tx h1)
       obtain⟨wd,ewd⟩:=nm (aO LL m (i+1) nL);rw [ewd]at HWd;have HED:=qH ewd;have HFR:=qH (show Row wr 3 1 (.slice fa fn fc) fn (ints (cF LL m i nL++if i<i then [(aO LL m (i+1) nL:Int)]else [])) (New w3)from by have h:=hL2.out.froms i hlti;rw [HEK.out.1,HEK.out.2]at h;exact h);have HJ:=qH (show ∀w',Ext wr w'->(fun w':World=>w'.cell? ⟨tb,0,none⟩=some (.slice (some ⟨lb,0,none⟩) m m)/\w'.cell? ⟨lb,i*2+1,none⟩=some (.slice fa fn fc)) w' from fun w' hw'=>⟨by rw [(hL2.out.tri.ext hw').cell'];rfl,by rw [(hL2.out.blk.ext hw').cell',(cZ _ fv2 hlti).2,HEK.out.1]⟩);clear ewd;go_wp2;refine aY (fun w':World=>w'.cell? ⟨tb,0,none⟩=some (.slice (some ⟨lb,0,none⟩) m m)/\w'.cell? ⟨lb,i*2+1,none⟩=some (.slice fa fn fc)) [21,22,23] (by kernel_rfl) (HJ.out _ (Kp.refl wr).drew) (fun hHeld=>?_);refine eFX 0 ?_;refine eFX 1 ?_;refine eFX 2 ?_;refine eIX 3 ?_;refine eFX 4 ?_;refine eFX 5 ?_;refine eFX 6 ?_;refine eFX 7 ?_;refine eIX 8 ?_;refine eFX 9 ?_;refine eIX 10 ?_;refine eFX 11 ?_;refine eIX 12 ?_;refine eFX 13 ?_;refine eFX 14 ?_;refine eFX 15 ?_;refine eFX 16 ?_;refine eIX 17 ?_;refine eTX 18 fun K hK=>?_;go_simp
       (refine(HWd.out _ (Kp.refl wr).drew).mono ?_;rintro e w6 ⟨v6,rfl,hk6,rfl⟩;have X1:=qH (show Ext wr w6 from((Kp.refl wr).drew).trans hk6);clear hk6)
       go_wp2_with fail
       refine hK.out _ _ (HJ.out _ X1.out) fun hHeld=>?_;clear hK K;refine eTX 19 fun K hK=>?_;go_simp;refine hK.out _ _ (HJ.out _ (X1.out.alloc _)) fun hHeld=>?_;clear hK K;refine eTX 20 fun K hK=>?_;refine jB (m:=1) (n:=fn) jG rfl _ _ rfl rfl ((HFR.out.ext X1.out).alloc _) rfl (CellsAt.one w6 _ _) (by rfl) (by simp;rfl) (by omega) (by unfold maxLen;omega) ?_;intro v7 w7 hr7 hk7;obtain⟨la7,lc7,ev7,_,_⟩:=hr7.shape;subst ev7;have X2:=qH (nIX (show Row w7 3 1 (.slice la7 (fn+1) lc7) (fn+1) (ints (cF LL m i nL++if i<i then [(aO LL m (i+1) nL:Int)]else [])++ [.int .i64 (wd:Nat)]) (fun g=>(Value.slice fa fn fc).ownBlock=some g\/ (w6.alloc (.cells #[.int .i64 (wd:Nat)] 3)).heap.size≤g)from hr7) (show Kp (fun g=>(Value.slice fa fn fc).ownBlock=some g) (w6.alloc (.cells #[.int .i64 (wd:Nat)] 3)) w7 from hk7));clear hr7 hk7;have X3:=qH (hL2.out.blk.kp ((Ext.kp (X1.out.alloc (.cells #[.int .i64 (wd:Nat)] 3))).trans X2.out.2) fun hg=>(by obtain⟨cs,hb⟩:=aQ HFR.out hg;exact sF.2.2.2.2.1 (aP hL2.out.blk hb)));have X4:=qH (hL2.out.tri.kp ((Ext.kp (X1.out.alloc (.cells #[.int .i64 (wd:Nat)] 3))).trans X2.out.2) fun hg=>(by obtain⟨cs,hb⟩:=aQ HFR.out hg;exact sF.2.2.1 (aP hL2.out.tri hb)));have f1:w7.cell? ⟨lb,i*2+1,none⟩=some (.slice fa fn fc):=by{rw [X3.out.cell',(cZ _ fv2 hlti).2,HEK.out.1]};have ff:=X3.out.free (i*2+1)
       refine hK.out _ _ (by exact⟨by rw [X4.out.cell'];rfl,f1⟩) fun hHeld=>?_;clear hK K;refine eLX 21 fun K hK=>?_;go_simp;refine hK.out _ _ ?_;clear hK K;refine eLX 22 fun K hK=>?_;go_simp;refine hK.out _ _ ?_;clear hK K;refine eLX 23 fun K hK=>?_;go_simp;refine hK.out _ _ ?_;clear hK K;refine aL (by kernel_rfl) ?_ _;clear hHeld;have HP2:=qH (hL2.out.putF (w':=w7) (x:=(wd:Nat)) hlti (v':= .slice la7 (fn+1) lc7) (by rw [HEK.out.2,HEK.out.1];exact X2.out.1.mono fun g hg=>hg.imp id (fun h=>Nat.le_trans (X1.out.alloc (.cells #[.int .i64 (wd:Nat)] 3)).size h)) (by rw [HEK.out.1];exact(Ext.kp (X1.out.alloc _)).trans X2.out.2));obtain⟨w8,e8⟩:=nm (w7.setCell ⟨lb,i*2+1,none⟩ (.slice la7 (fn+1) lc7));rw [e8]at HP2 ⊢;clear e8 f1 ff;go_wp2;go_roundw
       case rel=>exact⟨i+1,_,_,by omega,nMX,qH (HP2.out.congr (fun j hj=>rfl) (fun j hj=>by
        by_cases e:j=i
        ·subst e;rw [upd_same,if_neg (Nat.lt_irrefl j),if_pos (by omega),List.append_nil,HED.out]
        ·rw [aH _ _ e];by_cases h:j<i
         ·rw [if_pos h,if_pos (by omega)]
         ·rw [if_neg h,if_neg (by omega)]))⟩
       case measure=>simp [intOf];omega
      ·obtain rfl:m=i:=by omega
       have HD:=qH (hL2.out.done (W:=LL) HN.out.symm hm HL.out.2.2 (fun j hj=>by rw [HN.out]) (fun j hj=>by rw [if_pos hj,HN.out]));go_wp2;go_ret2;have hx:Ext w wr:=H3.out.1.trans hL2.out.kp;exact RetN.mk hx ⟨tb,rfl,Nat.le_trans H3.out.1.size hL2.out.new.1,HD.out.mono H3.out.1.size (Nat.le_refl _)⟩
def yE(mb ab sb nv:Nat)(tv:Value)(av sv:Nat->Value)(k:Nat):Prop:=k=mb\/k=ab\/k=sb\/tv.ownBlock=some k\/ (∃v,v<nv/\(av v).ownBlock=some k)\/∃j,j<nv+1/\(sv j).ownBlock=some k
def gZ(E:Nat->Prop)(mb ab sb nv:Nat)(tv:Value)(av sv:Nat->Value)(k:Nat):Prop:=yE mb ab sb nv tv av sv k\/E k
def HeldF(lo:Nat)(own:Nat->Prop)(w:World)(P:World->Prop):Prop:=∃a b,lo≤a/\b≤w.heap.size/\Fast a b w P/\∀k,own k->¬(a≤k/\k<b)
theorem HeldF.turn{lo:Nat}{own own':Nat->Prop}{w w':World}{P:World->Prop}{F:Nat->Prop}(h:HeldF lo own w P)(hk:Kp F w w')(hF:∀k,F k->k<w.heap.size->own k)(ho:∀k,own' k->own k\/w.heap.size≤k):HeldF lo own' w' P:=by
 obtain⟨a,b,h1,h2,h3,h4⟩:=h;refine⟨a,b,h1,Nat.le_trans h2 hk.size,h3.kp (G:=F) hk fun k hf hab=>h4 k (hF k hf (by omega)) hab,fun k hk' hab=>?_⟩;rcases ho k hk' with h|h
 ·exact h4 k h hab
 ·omega
theorem HeldF.here{lo:Nat}{own:Nat->Prop}{w:World}{P:World->Prop}(h:HeldF lo own w P):Fast lo w.heap.size w P:=by obtain⟨a,b,h1,h2,h3,h4⟩:=h;exact h3.mono h1 h2
theorem pY(f:Nat->Value){n v:Nat}(hv:v<n)(x:Value):((List.range n).map f).set v x=(List.range n).map (dD f v x):=by
 refine List.ext_getElem (by simp) fun i h1 h2=>?_;have hi:i<n:=by simpa using h2
 rw [List.getElem_set];simp only [List.getElem_map,List.getElem_range];by_cases e:v=i
 ·rw [if_pos e,<-e,upd_same]
 ·rw [if_neg e,aH _ _ fun e2=>e e2.symm]
theorem fB(f:Nat->Value){n v:Nat}(hv:v<n):((List.range n).map f)[v]?=some (f v):=by rw [List.getElem?_map,List.getElem?_range hv];rfl
theorem bW{F:Nat->Prop}{w w':World}{g:Nat}{cs:List Value}{e e':TypeId}(h:Blk w g cs e')(hk:Kp F w w')(hF:∀k,F k->∃cs,Blk w k cs e)(hne:e≠e'):Blk w' g cs e':=h.kp hk fun hf=>by obtain⟨cs,hb⟩:=hF _ hf;exact hne (aP hb h)
theorem cO{F:Nat->Prop}{w w':World}{e e':TypeId}{k n:Nat}{v:Value}{xs:List Value}{M:Nat->Prop}(h:Row w e' k v n xs M)(hk:Kp F w w')(hF:∀k,F k->∃cs,Blk w k cs e)(hne:e≠e'):Row w' e' k v n xs M:=h.kp' hk fun g hg _ hf=>by obtain⟨cs,hb⟩:=hF _ hf;obtain⟨cs2,hb2⟩:=aQ h hg;exact hne (aP hb hb2)
def aE6(l:List Nat):List Value:=ints (l.map fun(j:Nat)=>(j:Int))
theorem aH9(l:List Nat)(x:Nat):aE6 (l++ [x])=aE6 l++ [.int .i64 (x:Nat)]:=by unfold aE6 ints;simp
structure MatSt(E:Nat->Prop)(lo:Nat)(w0 w:World)(mb ab sb nv:Nat)(na:Option Addr)(nc:Nat)(Ts:List TrieZ)(ats:Nat->List Nat)(tests:Nat->List TestZ)(tv:Value)(av sv:Nat->Value):Prop where
 box:Blk w mb [.slice na nv nc,tv,.slice (some ⟨ab,0,none⟩) nv nv,.slice (some ⟨sb,0,none⟩) (nv+1) (nv+1)] 172
 ptrs:Row w 187 1 tv Ts.length (Ts.map lN) (fun g=>lo≤g)
 atB:Blk w ab ((List.range nv).map av) 173
 slB:Blk w sb ((List.range (nv+1)).map sv) 214
 atR:∀v,v<nv->Row w 3 1 (av v) (ats v).length (aE6 (ats v)) (fun g=>lo≤g)
 slR:∀k,k<nv+1->Row w 180 2 (sv k) (tests k).length ((tests k).flatMap mE) (fun g=>lo≤g)
 afar:∀i j,i<nv->j<nv->i≠j->∀g,(av i).ownBlock=some g->(av j).ownBlock≠some g
 sfar:∀i j,i<nv+1->j<nv+1->i≠j->∀g,(sv i).ownBlock=some g->(sv j).ownBlock≠some g
 tries:∀t∈Ts,HeldF lo (gZ E mb ab sb nv tv av sv) w fun W=>TrieAt W t.tb t.W t.vs.length
 tells:∀k,k<nv+1->∀t∈tests k,HeldF lo (gZ E mb ab sb nv tv av sv) w fun W=>TestOk W nv t
 new:lo≤mb/\lo≤ab/\lo≤sb
 low:w0.heap.size≤lo
 kp:Ext w0 w
theorem iY:172≠187/\172≠173/\172≠214/\172≠3/\172≠180/\187≠173/\187≠214/\187≠3/\187≠180/\
 173≠214/\173≠3/\173≠180/\214≠3/\214≠180/\3≠180:=by decide
section
variable {E:Nat->Prop}{lo:Nat}{w0 w w':World}{mb ab sb nv nc:Nat}{na:Option Addr}{Ts:List TrieZ}{ats:Nat->List Nat}{tests:Nat->List TestZ}{tv:Value}{av sv:Nat->Value}
theorem MatSt.ext(h:MatSt E lo w0 w mb ab sb nv na nc Ts ats tests tv av sv)(hk:Ext w w'):MatSt E lo w0 w' mb ab sb nv na nc Ts ats tests tv av sv:=
 ⟨h.box.ext hk,h.ptrs.ext hk,h.atB.ext hk,h.slB.ext hk,fun v hv=>(h.atR v hv).ext hk,fun v hv=>(h.slR v hv).ext hk,h.afar,h.sfar,fun t ht=>(h.tries t ht).turn hk (fun _ h=>h.elim) fun k hk=> .inl hk,fun k hk' t ht=>(h.tells k hk' t ht).turn hk (fun _ h=>h.elim) fun k hk=> .inl hk,h.new,h.low,h.kp.trans hk⟩
theorem MatSt.congr{ats':Nat->List Nat}{tests':Nat->List TestZ}(h:MatSt E lo w0 w mb ab sb nv na nc Ts ats tests tv av sv)(h1:∀i,i<nv->ats i=ats' i)(h2:∀i,i<nv+1->tests i=tests' i):MatSt E lo w0 w mb ab sb nv na nc Ts ats' tests' tv av sv:=
 ⟨h.box,h.ptrs,h.atB,h.slB,fun v hv=>by rw [<-h1 v hv];exact h.atR v hv,fun v hv=>by rw [<-h2 v hv];exact h.slR v hv,h.afar,h.sfar,h.tries,fun k hk t ht=>h.tells k hk t (by rw [h2 k hk];exact ht),h.new,h.low,h.kp⟩
theorem MatSt.lt(h:MatSt E lo w0 w mb ab sb nv na nc Ts ats tests tv av sv):∀k,yE mb ab sb nv tv av sv k->k<w.heap.size:=fun k hk=>by
 rcases hk with rfl|rfl|rfl|hk|⟨v,hv,hk⟩|⟨v,hv,hk⟩
 ·exact h.box.lt
 ·exact h.atB.lt
 ·exact h.slB.lt
 ·exact h.ptrs.lt k hk
 ·exact(h.atR v hv).lt k hk
 ·exact(h.slR v hv).lt k hk
theorem MatSt.beside{E':Nat->Prop}(h:MatSt E lo w0 w mb ab sb nv na nc Ts ats tests tv av sv)(hE:∀k,E' k->E k\/w.heap.size≤k):MatSt E' lo w0 w mb ab sb nv na nc Ts ats tests tv av sv:=
 ⟨h.box,h.ptrs,h.atB,h.slB,h.atR,h.slR,h.afar,h.sfar,fun t ht=>(h.tries t ht).turn (Kp.refl (F:=fun _=>False) _) (fun _ h=>h.elim) fun k hk=>hk.elim (fun h=> .inl (.inl h)) fun h=>(hE k h).imp .inr id,fun k hk' t ht=>(h.tells k hk' t ht).turn (Kp.refl (F:=fun _=>False) _) (fun _ h=>h.elim) fun k hk=>hk.elim (fun h=> .inl (.inl h)) fun h=>(hE k h).imp .inr id,h.new,h.low,h.kp⟩
theorem MatSt.wrote{F:Nat->Prop}(h:MatSt E lo w0 w mb ab sb nv na nc Ts ats tests tv av sv)(hk:Kp F w w')(hF:∀k,F k->E k/\¬yE mb ab sb nv tv av sv k/\w0.heap.size≤k):MatSt E lo w0 w' mb ab sb nv na nc Ts ats tests tv av sv:=
 ⟨h.box.kp hk fun hf=>(hF _ hf).2.1 (.inl rfl),h.ptrs.kp' hk fun g hg _ hf=>(hF _ hf).2.1 (.inr (.inr (.inr (.inl hg)))),h.atB.kp hk fun hf=>(hF _ hf).2.1 (.inr (.inl rfl)),h.slB.kp hk fun hf=>(hF _ hf).2.1 (.inr (.inr (.inl rfl))),
  fun v hv=>(h.atR v hv).kp' hk fun g hg _ hf=>(hF _ hf).2.1 (.inr (.inr (.inr (.inr (.inl ⟨v,hv,hg⟩))))),fun v hv=>(h.slR v hv).kp' hk fun g hg _ hf=>(hF _ hf).2.1 (.inr (.inr (.inr (.inr (.inr ⟨v,hv,hg⟩))))),h.afar,h.sfar,
  fun t ht=>(h.tries t ht).turn hk (fun k hf _=> .inr (hF k hf).1) fun k hk=> .inl hk,fun k hk' t ht=>(h.tells k hk' t ht).turn hk (fun k hf _=> .inr (hF k hf).1) fun k hk=> .inl hk,h.new,h.low,h.kp.trans' hk fun i hi hf=>by have:=(hF i hf).2.2;omega⟩
theorem MatSt.putAt(h:MatSt E lo w0 w mb ab sb nv na nc Ts ats tests tv av sv){v:Nat}(hv:v<nv){x:Nat}{v':Value}(hr:Row w' 3 1 v' ((ats v).length+1) (aE6 (ats v)++ [.int .i64 (x:Nat)]) (fun g=>(av v).ownBlock=some g\/w.heap.size≤g))(hk:Kp (fun g=>(av v).ownBlock=some g) w w'):
 MatSt E lo w0 (w'.setCell ⟨ab,v,none⟩ v') mb ab sb nv na nc Ts (dD ats v (ats v++ [x])) tests tv (dD av v v') sv:=by
 obtain⟨t1,t2,t3,t4,t5,t6,t7,t8,t9,t10,t11,t12,t13,t14,t15⟩:=iY;have ks:Kp (fun k=>k=ab) w' (w'.setCell ⟨ab,v,none⟩ v'):=kSa;have own:∀g,(av v).ownBlock=some g->∃cs,Blk w g cs 3:=fun g hg=>aQ (h.atR v hv) hg;have hatB:Blk w' ab ((List.range nv).map av) 173:=bW h.atB hk own (Ne.symm t11);have own2:∀g,g=ab->∃cs,Blk w' g cs 173:=fun g e=>by rw [e];exact⟨_,hatB⟩
 have hkp:Ext w0 w':=h.kp.trans' hk fun g hg e=>by have h2:lo≤g:=(h.atR v hv).block g e;have:=h.low;omega
 have hsz:=hk.size;have lowsz:lo≤w.heap.size:=Nat.le_trans h.new.1 (Nat.le_of_lt h.box.lt);have ho:∀k,yE mb ab sb nv tv (dD av v v') sv k->yE mb ab sb nv tv av sv k\/w.heap.size≤k:=fun k hk'=>by
  rcases hk' with e|e|e|e|⟨u,hu,e⟩|e
  ·exact .inl (.inl e)
  ·exact .inl (.inr (.inl e))
  ·exact .inl (.inr (.inr (.inl e)))
  ·exact .inl (.inr (.inr (.inr (.inl e))))
  ·by_cases e2:u=v
   ·subst e2;rw [upd_same]at e;rcases hr.block k e with h3|h3
    ·exact .inl (.inr (.inr (.inr (.inr (.inl ⟨u,hu,h3⟩)))))
    ·exact .inr h3
   ·rw [aH _ _ e2]at e;exact .inl (.inr (.inr (.inr (.inr (.inl ⟨u,hu,e⟩)))))
  ·exact .inl (.inr (.inr (.inr (.inr (.inr e)))))
 have hkk:Kp (fun k=>(av v).ownBlock=some k\/k=ab) w (w'.setCell ⟨ab,v,none⟩ v'):=(hk.mono fun k _ h=>Or.inl h).trans (ks.mono fun k _ h=>Or.inr h);have turn:∀{P:World->Prop},HeldF lo (gZ E mb ab sb nv tv av sv) w P->HeldF lo (gZ E mb ab sb nv tv (dD av v v') sv) (w'.setCell ⟨ab,v,none⟩ v') P:=fun{P} hP=>
  hP.turn hkk (fun k hf _=>by
   rcases hf with hf|hf
   ·exact .inl (.inr (.inr (.inr (.inr (.inl ⟨v,hv,hf⟩)))))
   ·exact .inl (.inr (.inl hf))) fun k hk=>hk.elim (fun h=>(ho k h).imp .inl id) fun h=> .inl (.inr h)
 refine⟨bW (bW h.box hk own (Ne.symm t4)) ks own2 (Ne.symm t2),cO (cO h.ptrs hk own (Ne.symm t8)) ks own2 (Ne.symm t6),by rw [<-pY av hv];exact hatB.set _ _,bW (bW h.slB hk own (Ne.symm t13)) ks own2 t10,fun u hu=>?_,fun k hk'=>cO (cO (h.slR k hk') hk own t15) ks own2 t12,fun i j hi hj hne g h1 h2=>?_,h.sfar,fun t ht=>turn (h.tries t ht),fun k hk' t ht=>turn (h.tells k hk' t ht),h.new,h.low,hkp.trans' ks fun g hg e=>by have e':g=ab:=e;have:=h.new.2.1;have:=h.low;omega⟩
 ·by_cases e:u=v
  ·subst e;rw [upd_same,upd_same,List.length_append,List.length_singleton,aH9];refine(cO hr ks own2 t11).mono fun g hg=>?_;rcases hg with hg|hg
   ·exact(h.atR u hu).block g hg
   ·omega
  ·rw [aH _ _ e,aH _ _ e];exact cO ((h.atR u hu).kp' hk fun g hg _ hf=>h.afar v u hv hu (fun e2=>e e2.symm) g hf hg) ks own2 t11
 ·by_cases e1:i=v
  ·subst e1;rw [upd_same]at h1;rw [aH _ _ (fun e=>hne e.symm)]at h2;rcases hr.block g h1 with h3|h3
   ·exact h.afar i j hi hj hne g h3 h2
   ·have:=(h.atR j hj).lt g h2;omega
  ·rw [aH _ _ e1]at h1;by_cases e2:j=v
   ·subst e2;rw [upd_same]at h2;rcases hr.block g h2 with h3|h3
    ·exact h.afar i j hi hj hne g h1 h3
    ·have:=(h.atR i hi).lt g h1;omega
   ·rw [aH _ _ e2]at h2;exact h.afar i j hi hj hne g h1 h2
theorem MatSt.putSl(h:MatSt E lo w0 w mb ab sb nv na nc Ts ats tests tv av sv){v:Nat}(hv:v<nv+1){x:TestZ}(hx:HeldF lo (gZ E mb ab sb nv tv av sv) w fun W=>TestOk W nv x){v':Value}(hr:Row w' 180 2 v' ((tests v).length+1) ((tests v).flatMap mE++mE x) (fun g=>(sv v).ownBlock=some g\/w.heap.size≤g))(hk:Kp (fun g=>(sv v).ownBlock=some g) w w'):
 MatSt E lo w0 (w'.setCell ⟨sb,v,none⟩ v') mb ab sb nv na nc Ts ats (dD tests v (tests v++ [x])) tv av (dD sv v v'):=by
 obtain⟨t1,t2,t3,t4,t5,t6,t7,t8,t9,t10,t11,t12,t13,t14,t15⟩:=iY;have ks:Kp (fun k=>k=sb) w' (w'.setCell ⟨sb,v,none⟩ v'):=kSa;have own:∀g,(sv v).ownBlock=some g->∃cs,Blk w g cs 180:=fun g hg=>aQ (h.slR v hv) hg;have hslB:Blk w' sb ((List.range (nv+1)).map sv) 214:=bW h.slB hk own (Ne.symm t14);have own2:∀g,g=sb->∃cs,Blk w' g cs 214:=fun g e=>by rw [e];exact⟨_,hslB⟩
 have hkp:Ext w0 w':=h.kp.trans' hk fun g hg e=>by have h2:lo≤g:=(h.slR v hv).block g e;have:=h.low;omega
 have hsz:=hk.size;have lowsz:lo≤w.heap.size:=Nat.le_trans h.new.1 (Nat.le_of_lt h.box.lt);have ho:∀k,yE mb ab sb nv tv av (dD sv v v') k->yE mb ab sb nv tv av sv k\/w.heap.size≤k:=fun k hk'=>by
  rcases hk' with e|e|e|e|e|⟨u,hu,e⟩
  ·exact .inl (.inl e)
  ·exact .inl (.inr (.inl e))
  ·exact .inl (.inr (.inr (.inl e)))
  ·exact .inl (.inr (.inr (.inr (.inl e))))
  ·exact .inl (.inr (.inr (.inr (.inr (.inl e)))))
  ·by_cases e2:u=v
   ·subst e2;rw [upd_same]at e;rcases hr.block k e with h3|h3
    ·exact .inl (.inr (.inr (.inr (.inr (.inr ⟨u,hu,h3⟩)))))
    ·exact .inr h3
   ·rw [aH _ _ e2]at e;exact .inl (.inr (.inr (.inr (.inr (.inr ⟨u,hu,e⟩)))))
 have hkk:Kp (fun k=>(sv v).ownBlock=some k\/k=sb) w (w'.setCell ⟨sb,v,none⟩ v'):=(hk.mono fun k _ h=>Or.inl h).trans (ks.mono fun k _ h=>Or.inr h);have turn:∀{P:World->Prop},HeldF lo (gZ E mb ab sb nv tv av sv) w P->HeldF lo (gZ E mb ab sb nv tv av (dD sv v v')) (w'.setCell ⟨sb,v,none⟩ v') P:=fun{P} hP=>
  hP.turn hkk (fun k hf _=>by
   rcases hf with hf|hf
   ·exact .inl (.inr (.inr (.inr (.inr (.inr ⟨v,hv,hf⟩)))))
   ·exact .inl (.inr (.inr (.inl hf)))) fun k hk=>hk.elim (fun h=>(ho k h).imp .inl id) fun h=> .inl (.inr h)
 refine⟨bW (bW h.box hk own (Ne.symm t5)) ks own2 (Ne.symm t3),cO (cO h.ptrs hk own (Ne.symm t9)) ks own2 (Ne.symm t7),bW (bW h.atB hk own (Ne.symm t12)) ks own2 (Ne.symm t10),by rw [<-pY sv hv];exact hslB.set _ _,fun u hu=>cO (cO (h.atR u hu) hk own (Ne.symm t15)) ks own2 t13,fun u hu=>?_,h.afar,fun i j hi hj hne g h1 h2=>?_,fun t ht=>turn (h.tries t ht),fun k hk' t ht=>?_,h.new,h.low,hkp.trans' ks fun g hg e=>by have e':g=sb:=e;have:=h.new.2.2;have:=h.low;omega⟩
 ·by_cases e:u=v
  ·subst e;rw [upd_same,upd_same,List.length_append,List.length_singleton,List.flatMap_append,List.flatMap_singleton];refine(cO hr ks own2 t14).mono fun g hg=>?_;rcases hg with hg|hg
   ·exact(h.slR u hu).block g hg
   ·omega
  ·rw [aH _ _ e,aH _ _ e];exact cO ((h.slR u hu).kp' hk fun g hg _ hf=>h.sfar v u hv hu (fun e2=>e e2.symm) g hf hg) ks own2 t14
 ·by_cases e1:i=v
  ·subst e1;rw [upd_same]at h1;rw [aH _ _ (fun e=>hne e.symm)]at h2;rcases hr.block g h1 with h3|h3
   ·exact h.sfar i j hi hj hne g h3 h2
   ·have:=(h.slR j hj).lt g h2;omega
  ·rw [aH _ _ e1]at h1;by_cases e2:j=v
   ·subst e2;rw [upd_same]at h2;rcases hr.block g h2 with h3|h3
    ·exact h.sfar i j hi hj hne g h1 h3
    ·have:=(h.slR i hi).lt g h1;omega
   ·rw [aH _ _ e2]at h2;exact h.sfar i j hi hj hne g h1 h2
 ·by_cases e:k=v
  ·subst e;rw [upd_same]at ht;rcases List.mem_append.1 ht with ht|ht
   ·exact turn (h.tells k hk' t ht)
   ·rw [List.mem_singleton]at ht;rw [ht];exact turn hx
  ·rw [aH _ _ e]at ht;exact turn (h.tells k hk' t ht)
theorem MatSt.putTr(h:MatSt E lo w0 w mb ab sb nv na nc Ts ats tests tv av sv){x:TrieZ}(hx:HeldF lo (gZ E mb ab sb nv tv av sv) w fun W=>TrieAt W x.tb x.W x.vs.length){v':Value}(hr:Row w' 187 1 v' (Ts.length+1) (Ts.map lN++ [lN x]) (fun g=>tv.ownBlock=some g\/w.heap.size≤g))(hk:Kp (fun g=>tv.ownBlock=some g) w w'):
 MatSt E lo w0 (w'.setCell ⟨mb,1,none⟩ v') mb ab sb nv na nc (Ts++ [x]) ats tests v' av sv:=by
 obtain⟨t1,t2,t3,t4,t5,t6,t7,t8,t9,t10,t11,t12,t13,t14,t15⟩:=iY;have ks:Kp (fun k=>k=mb) w' (w'.setCell ⟨mb,1,none⟩ v'):=kSa;have own:∀g,tv.ownBlock=some g->∃cs,Blk w g cs 187:=fun g hg=>aQ h.ptrs hg;have hbox:=bW h.box hk own (Ne.symm t1);have own2:∀g,g=mb->∃cs,Blk w' g cs 172:=fun g e=>by rw [e];exact⟨_,hbox⟩
 have hkp:Ext w0 w':=h.kp.trans' hk fun g hg e=>by have h2:lo≤g:=h.ptrs.block g e;have:=h.low;omega
 have hsz:=hk.size;have lowsz:lo≤w.heap.size:=Nat.le_trans h.new.1 (Nat.le_of_lt h.box.lt);have ho:∀k,yE mb ab sb nv v' av sv k->yE mb ab sb nv tv av sv k\/w.heap.size≤k:=fun k hk'=>by
  rcases hk' with e|e|e|e|e|e
  ·exact .inl (.inl e)
  ·exact .inl (.inr (.inl e))
  ·exact .inl (.inr (.inr (.inl e)))
  ·rcases hr.block k e with h3|h3
   ·exact .inl (.inr (.inr (.inr (.inl h3))))
   ·exact .inr h3
  ·exact .inl (.inr (.inr (.inr (.inr (.inl e)))))
  ·exact .inl (.inr (.inr (.inr (.inr (.inr e)))))
 have hkk:Kp (fun k=>tv.ownBlock=some k\/k=mb) w (w'.setCell ⟨mb,1,none⟩ v'):=(hk.mono fun k _ h=>Or.inl h).trans (ks.mono fun k _ h=>Or.inr h);have turn:∀{P:World->Prop},HeldF lo (gZ E mb ab sb nv tv av sv) w P->HeldF lo (gZ E mb ab sb nv v' av sv) (w'.setCell ⟨mb,1,none⟩ v') P:=fun{P} hP=>
  hP.turn hkk (fun k hf _=>by
   rcases hf with hf|hf
   ·exact .inl (.inr (.inr (.inr (.inl hf))))
   ·exact .inl (.inl hf)) fun k hk=>hk.elim (fun h=>(ho k h).imp .inl id) fun h=> .inl (.inr h)
 refine⟨hbox.set 1 _,?_,bW (bW h.atB hk own t6) ks own2 t2,bW (bW h.slB hk own t7) ks own2 t3,fun u hu=>cO (cO (h.atR u hu) hk own t8) ks own2 t4,fun u hu=>cO (cO (h.slR u hu) hk own t9) ks own2 t5,h.afar,h.sfar,fun t ht=>?_,fun k hk' t ht=>turn (h.tells k hk' t ht),h.new,h.low,hkp.trans' ks fun g hg e=>by have e':g=mb:=e;have:=h.new.1;have:=h.low;omega⟩
 ·rw [List.length_append,List.length_singleton,List.map_append,List.map_singleton];refine(cO hr ks own2 t1).mono fun g hg=>?_;rcases hg with hg|hg
  ·exact h.ptrs.block g hg
  ·omega
 ·rcases List.mem_append.1 ht with ht|ht
  ·exact turn (h.tries t ht)
  ·rw [List.mem_singleton]at ht;rw [ht];exact turn hx
end
theorem aI0:cL Tryz.prog 214 180 2 16 (.agg #[.int .i64 0,.nilFunc]):=⟨by kernel_rfl,by kernel_rfl,rfl,by decide⟩
theorem aFw:cL Tryz.prog 168 187 1 8 (.pointer none):=⟨by kernel_rfl,by kernel_rfl,rfl,by decide⟩
set_option maxHeartbeats 4000000 in
theorem aHb{E:Nat->Prop}{lo:Nat}{w0 w:World}{mb ab sb nv nc k:Nat}{na:Option Addr}{Ts:List TrieZ}{ats:Nat->List Nat}{tests:Nat->List TestZ}{tv:Value}{av sv:Nat->Value}{t:TestZ}{L:Int}(h:MatSt E lo w0 w mb ab sb nv na nc Ts ats tests tv av sv)(hL:t.last=L)(hLk:L+1=(k:Int))(hk:k<nv+1)(hnv:nv≤1048576)
 (hx:HeldF lo (gZ E mb ab sb nv tv av sv) w fun W=>TestOk W nv t)(hfew:(tests k).length≤1048576):
 Calls Tryz.prog 119 #[.pointer (some ⟨mb,0,none⟩),.agg #[.int .i64 L,t.val]] w fun e w'=>e= .returned (.tuple #[])/\∃sv',MatSt E lo w0 w' mb ab sb nv na nc Ts ats (dD tests k (tests k++ [t])) tv av sv':=by
 obtain⟨u,eu⟩:=nm t.val;rw [eu];obtain⟨gb,egb⟩:=nm w.heap.size;obtain⟨w1,e1⟩:=nm (w.alloc (.cells #[.int .i64 L,u] 180));have x1:Ext w w1:=xAX e1;have hB1:=bNX egb e1;have H1:=qH (h.ext x1);have HB:=qH hB1;have hsv:=h.slR k hk;obtain⟨ya,yc,esv,_,_⟩:=hsv.shape;obtain⟨n,en⟩:=nm ((tests k).length);rw [en]at esv hsv hfew;obtain⟨n1,en1⟩:=nm (nv+1);rw [esv]at hsv;have HRow:=qH (hsv.ext x1);have hge:∀g,(sv k).ownBlock=some g->g<gb:=fun g hg=>by rw [<-egb];exact(h.slR k hk).lt g hg
 have HJ:=qH (show ∀w',Kp (fun g=>(sv k).ownBlock=some g) w1 w'->(fun w':World=>w'.cell? ⟨mb,3,none⟩=some (.slice (some ⟨sb,0,none⟩) n1 n1)/\w'.cell? ⟨gb,0,none⟩=some (.int .i64 L)/\w'.cell? ⟨gb,1,none⟩=some u/\w'.cell? ⟨sb,k,none⟩=some (.slice ya n yc)) w' from fun w' hw'=>by
  have own:∀g,(sv k).ownBlock=some g->∃cs,Blk w1 g cs 180:=fun g hg=>aQ ((h.slR k hk).ext x1) hg;have b1:=bW (h.box.ext x1) hw' own (Ne.symm iY.2.2.2.2.1);have b2:=bW (h.slB.ext x1) hw' own (Ne.symm iY.2.2.2.2.2.2.2.2.2.2.2.2.2.1);have b3:=hB1.kp hw' fun e=>by have:=hge gb e;omega
  exact⟨by rw [b1.cell',<-en1];rfl,by rw [b3.cell'];rfl,by rw [b3.cell'];rfl,by rw [b2.cell',fB sv hk,esv]⟩)
 have HH:=qH (nIX hx (nIX x1 (nIX hL (nIX eu (nIX esv (nIX en (nIX hk en1)))))));have hwk:IntKind.i64.wrap (L+1)=(k:Int):=by rw [IntWalk.i64_in _ (by omega)];exact hLk
 have hu1:u.oneCell'=true:=by rw [<-HH.out.2.2.2.1];rfl
 have hk1:k<n1:=by omega
 have hk2:(k:Int)< (n1:Int):=by omega
 clear h hx x1 hB1 hsv esv en hge hL eu hLk hk;go_enter Tryz.func119,Tryz.ntmps119;go_wp2;clear e1 egb;refine aY (fun w':World=>w'.cell? ⟨mb,3,none⟩=some (.slice (some ⟨sb,0,none⟩) n1 n1)/\w'.cell? ⟨gb,0,none⟩=some (.int .i64 L)/\w'.cell? ⟨gb,1,none⟩=some u/\w'.cell? ⟨sb,k,none⟩=some (.slice ya n yc)) [19,20] (by kernel_rfl) (HJ.out _ ((Ext.kp (Kp.refl w1)).drew)) (fun hHeld=>?_);refine eFX 0 ?_;refine eFX 1 ?_;refine eFX 2 ?_;refine eIX 3 ?_;refine eFX 4 ?_;refine eIX 5 ?_;refine eFX 6 ?_;refine eFX 7 ?_;refine eFX 8 ?_;refine eFX 9 ?_;refine eIX 10 ?_;refine eFX 11 ?_;refine eIX 12 ?_;refine eFX 13 ?_;refine eIX 14 ?_;refine eIX 15 ?_;refine eIX 16 ?_;refine eTX 17 fun K hK=>?_;go_simp;refine hK.out _ _ (HJ.out _ (((Ext.kp (Kp.refl w1)).drew).alloc _)) fun hHeld=>?_;clear hK K;refine eTX 18 fun K hK=>?_;refine jB (m:=1) (n:=n) aI0 rfl _ _ rfl rfl ((HRow.out.ext ((Kp.refl w1).drew)).alloc _) rfl (CellsAt.two w1.drew (.int .i64 L) u 180) (by rfl) (fun x hx=>(by rcases List.mem_cons.1 hx with e|hx;exact e▸rfl;exact(List.mem_singleton.1 hx)▸hu1)) (by omega) (by unfold maxLen;omega) ?_;intro v7 w7 hr7 hk7;obtain⟨la7,lc7,ev7,_,_⟩:=hr7.shape;subst ev7;have X2:=qH (nIX (show Row w7 180 2 (.slice la7 (n+1) lc7) (n+1) ((tests k).flatMap mE++ [.int .i64 L,u]) (fun g=>(Value.slice ya n yc).ownBlock=some g\/ (w1.drew.alloc (.cells #[.int .i64 L,u] 180)).heap.size≤g)from hr7) (show Kp (fun g=>(sv k).ownBlock=some g) w1 w7 from(by rw [HH.out.2.2.2.2.1];exact(Ext.kp (((Kp.refl w1).drew).alloc _)).trans hk7)));clear hr7 hk7;have X3:=qH (bW H1.out.slB X2.out.2 (fun g hg=>aQ (H1.out.slR k HH.out.2.2.2.2.2.2.1) hg) (Ne.symm iY.2.2.2.2.2.2.2.2.2.2.2.2.2.1));have f1:w7.cell? ⟨sb,k,none⟩=some (.slice ya n yc):=by{rw [X3.out.cell',fB sv HH.out.2.2.2.2.2.2.1,HH.out.2.2.2.2.1]};have ff:=X3.out.free k
 refine hK.out _ _ (HJ.out _ X2.out.2) fun hHeld=>?_;clear hK K;refine eLX 19 fun K hK=>?_;go_simp;refine hK.out _ _ ?_;clear hK K;refine eLX 20 fun K hK=>?_;go_simp;refine hK.out _ _ ?_;clear hK K;refine aL (by kernel_rfl) ?_ _;clear hHeld;obtain⟨hx,x1,hL,eu,esv,en,hk,en1⟩:=HH.out;have HP:=qH (H1.out.putSl hk (hx.turn x1 (fun _ h=>h.elim) fun k hk=> .inl hk) (w':=w7) (v':= .slice la7 (n+1) lc7) (by
  have e:mE t= [.int .i64 L,u]:=by unfold mE;rw [hL,eu]
  rw [en,esv,e];exact X2.out.1.mono fun g hg=>hg.imp id (fun h=>Nat.le_trans (((Kp.refl (F:=fun _=>False) w1).drew).alloc _).size h)) X2.out.2)
 clear hx x1 hL eu esv en hk en1;go_wp2
 go_end0
 exact⟨rfl,_,HP.out⟩
def tY(vs:List Nat)(i nT:Nat)(ats:Nat->List Nat)(v:Nat):List Nat:=if v∈vs.take i then ats v++ [nT]else ats v
theorem aJi{vs:List Nat}{i nT x:Nat}{ats:Nat->List Nat}(hx:vs[i]?=some x)(hnd:vs.Nodup)(v:Nat):dD (tY vs i nT ats) x (tY vs i nT ats x++ [nT]) v=tY vs (i+1) nT ats v:=by
 have hn:x∉vs.take i:=fun hm=>by
  obtain⟨j,hj⟩:=List.getElem?_of_mem hm;have hji:j<i:=by have:=(List.getElem?_eq_some_iff.1 hj).1;rw [List.length_take]at this;omega
  rw [List.getElem?_take,if_pos hji]at hj;have:=(List.getElem?_inj (List.getElem?_eq_some_iff.1 hj).1 hnd).1 (hj.trans hx.symm);omega
 unfold tY;rw [List.take_add_one,hx];by_cases e:v=x
 ·subst e;rw [upd_same,if_neg hn,if_pos (by simp)]
 ·rw [aH _ _ e];by_cases h:v∈vs.take i
  ·rw [if_pos h,if_pos (by simp [h])]
  ·rw [if_neg h,if_neg (by simp [h,e])]
theorem HeldF.beside{lo:Nat}{own own':Nat->Prop}{w:World}{P:World->Prop}(h:HeldF lo own w P)(ho:∀k,own' k->own k\/w.heap.size≤k):HeldF lo own' w P:=h.turn (Kp.refl (F:=fun _=>False) _) (fun _ h=>h.elim) ho
def aMp(P:World->Prop)(E:Nat->Prop)(lo:Nat)(w0:World)(mb ab sb nv:Nat)(na:Option Addr)(nc:Nat)(Ts:List TrieZ)(ats:Nat->List Nat)(tests:Nat->List TestZ)(tv:Value)(sv:Nat->Value)(va:Option Addr)(n vc rb gb ob:Nat)(vs:List Nat)(iv:Value)(W:World):Prop:=
 ∃(i:Nat) (av:Nat->Value),i≤n/\iv= .int .i64 i/\Hid (MatSt (fun k=>E k\/k=ob) lo w0 W mb ab sb nv na nc Ts (tY vs i Ts.length ats) tests tv av sv)/\Hid (HeldF lo (gZ (fun k=>E k\/k=ob) mb ab sb nv tv av sv) W P)/\
  Hid (Blk W ob (gY i++List.replicate (n-i) (.int .i64 0)) 3/\(∀v,v<nv->(av v).ownBlock≠some ob)/\Blk W gb [.slice va n vc,.pointer (some ⟨rb,0,none⟩)] 175)
set_option maxHeartbeats 4000000 in
theorem aGs{E:Nat->Prop}{S:Nat->Prop}{lo:Nat}{w0 w:World}{mb ab sb nv nc n vc rb:Nat}{iv:Value}{na va:Option Addr}{Ts:List TrieZ}{ats:Nat->List Nat}{tests:Nat->List TestZ}{tv:Value}{av sv:Nat->Value}{vs:List Nat}{LL:aD}(h:MatSt E lo w0 w mb ab sb nv na nc Ts ats tests tv av sv)
 (hT:HeldF lo (gZ E mb ab sb nv tv av sv) w fun W=>TableAt S W va rb iv vs LL)(hE:∀k,E k->k<w.heap.size)(hn:n=vs.length)(h0:0<n)(hn64:n≤64)(hvs:∀v∈vs,v<nv)(hnd:vs.Nodup)(hlen:∀x∈LL,x.length=n)(hLL:LL.length≤65536)(hnv:nv≤1048576)(hTs:Ts.length≤1048576)(hats:∀v,(ats v).length≤1048576):
 Calls Tryz.prog 118 #[.pointer (some ⟨mb,0,none⟩),.agg #[.slice va n vc,.pointer (some ⟨rb,0,none⟩)]] w fun e w'=>e= .returned (.tuple #[])/\∃tb tv' av',MatSt E lo w0 w' mb ab sb nv na nc (Ts++ [⟨tb,vs,LL⟩]) (fun v=>if v∈vs then ats v++ [Ts.length]else ats v) tests tv' av' sv:=by
 obtain⟨gb,egb⟩:=nm w.heap.size;obtain⟨w1,e1⟩:=nm (w.alloc (.cells #[.slice va n vc,.pointer (some ⟨rb,0,none⟩)] 175));have x1:Ext w w1:=xAX e1;have hB1:=bNX egb e1;have hs1:w1.heap.size=gb+1:=by rw [<-e1,aI,egb]
 have b0:=hB1.c0;have b1:∀o,(w1.alloc o).cell? ⟨gb,0,none⟩=some (.slice va n vc):=fun o=>by rw [(hB1.alloc o).cell'];rfl
 have HB:=qH hB1;have H:=qH (nIX (h.ext x1) (nIX (hT.turn x1 (fun _ h=>h.elim) fun k hk=> .inl hk) (nIX hE (nIX hn (nIX hvs (nIX hnd (nIX hlen (nIX hLL (nIX hats h.lt)))))))));have HS:=qH (nIX egb hs1);have hmk:=jT (P:=Tryz.prog) jG (c:= .int .i64 0) rfl n (by omega) (by unfold maxLen;omega) w1;rw [Nat.mul_one]at hmk;have hn0:((n:Int)==0)=false:=by simp;omega
 clear h hT hE hn hvs hnd hlen hLL hats x1 hB1 hs1;go_enter Tryz.func118,Tryz.ntmps118;go_wp2;clear e1 egb hmk b0 b1;obtain⟨ob,eob⟩:=nm w1.heap.size;obtain⟨w2,e2⟩:=nm (w1.alloc (.cells (Array.replicate n (.int .i64 0)) 3));have hB2:Blk w2 ob (List.replicate n (.int .i64 0)) 3:=by have h:=Blk.new w1 (List.replicate n (.int .i64 0)) 3;rw [List.toArray_replicate,e2,eob]at h;exact h
 have x2:Ext w1 w2:=xAX e2;rw [eob,e2];have hob:ob=gb+1:=by rw [<-eob];exact HS.out.2
 have HPut:=qH (show aMp (fun W=>TableAt S W va rb iv vs LL) E lo w0 mb ab sb nv na nc Ts ats tests tv sv va n vc rb gb ob vs (.int .i64 0) w2 from
  ⟨0,av,Nat.zero_le _,rfl,qH (((H.out.1.beside (E':=fun k=>E k\/k=ob) fun k hk=>hk.imp id fun e=>by rw [e,<-eob];exact Nat.le_refl _).ext x2).congr (fun i hi=>by unfold tY;rw [if_neg (by simp)]) (fun i hi=>rfl)),
   qH ((H.out.2.1.beside (own':=gZ (fun k=>E k\/k=ob) mb ab sb nv tv av sv) fun k hk=>hk.elim (fun h=> .inl (.inl h)) fun h=>h.elim (fun h=> .inl (.inr h)) fun e=> .inr (by rw [e,<-eob];exact Nat.le_refl _)).turn x2 (fun _ h=>h.elim) fun k hk=> .inl hk),
   qH ⟨by simpa [gY,ints]using hB2,fun v hv e=>by have h1:=H.out.2.2.2.2.2.2.2.2.2 ob (.inr (.inr (.inr (.inr (.inl ⟨v,hv,e⟩)))));have:=HS.out.1;omega,HB.out.ext x2⟩⟩)
 have HO:=qH (nIX hob x2);clear eob e2 hB2 x2 hob;go_loopw [20] (fun jv wk=>aMp (fun W=>TableAt S W va rb iv vs LL) E lo w0 mb ab sb nv na nc Ts ats tests tv sv va n vc rb gb ob vs jv wk) (fun jv _=>n- (intOf jv).toNat)
 case atStart=>exact HPut.out
 case round=>
  clear HPut;obtain⟨i,av2,hi,rfl,hM,hTb,hBs⟩:=hrel;by_cases hlt:i<n
  ·obtain⟨x,hx⟩:∃x,vs[i]?=some x:=⟨_,qG (by rw [<-H.out.2.2.2.1];exact hlt)⟩;have hxn:x<nv:=H.out.2.2.2.2.1 x (List.mem_of_getElem? hx);obtain⟨vb,vo,eva,vc0⟩:=hTb.out.here.here.vars i (.int .i64 x) (by unfold ints;rw [List.map_map,List.getElem?_map,hx];rfl);subst eva;have HX:=qH hx;clear hx;have y0:wr.cell? ⟨ob,i,none⟩=some (.int .i64 0):=by
    have hl:(gY i).length=i:=by unfold gY;rw [aC6,List.length_map,List.length_range]
    rw [hBs.out.1.cell',List.getElem?_append_right (by omega),hl,Nat.sub_self,List.getElem?_replicate,if_pos (by omega)]
   have yf:=hBs.out.1.free i;obtain⟨W1,eW1⟩:=nm (wr.setCell ⟨ob,i,none⟩ (.int .i64 i));have kW:Kp (fun k=>k=ob) wr W1:=by rw [<-eW1];exact kSa
   have hnO:¬yE mb ab sb nv tv av2 sv ob:=by
    rintro(e|e|e|e|⟨v,hv,e⟩|⟨v,hv,e⟩)
    ·exact absurd (aP (e▸hBs.out.1) hM.out.box) (Ne.symm iY.2.2.2.1)
    ·exact absurd (aP (e▸hBs.out.1) hM.out.atB) (Ne.symm iY.2.2.2.2.2.2.2.2.2.2.1)
    ·exact absurd (aP (e▸hBs.out.1) hM.out.slB) (Ne.symm iY.2.2.2.2.2.2.2.2.2.2.2.2.1)
    ·obtain⟨cs,hb⟩:=aQ hM.out.ptrs e;exact absurd (aP hb hBs.out.1) iY.2.2.2.2.2.2.2.1
    ·exact hBs.out.2.1 v hv e
    ·obtain⟨cs,hb⟩:=aQ (hM.out.slR v hv) e;exact absurd (aP hb hBs.out.1) (Ne.symm iY.2.2.2.2.2.2.2.2.2.2.2.2.2.2)
   have hlo:w0.heap.size≤ob:=by have h1:=H.out.1.kp.size;have h2:=HO.out.1;have h3:=HS.out;have h4:=HO.out.2.size;omega
   have hM1:=qH (hM.out.wrote kW fun k e=>by have e':k=ob:=e;rw [e'];exact⟨.inr rfl,hnO,hlo⟩);have hT1:=qH (hTb.out.turn kW (fun k e _=> .inr (.inr e)) fun k hk=> .inl hk);have hB1:=qH (show Blk W1 ob (gY (i+1)++List.replicate (n- (i+1)) (.int .i64 0)) 3/\Blk W1 gb [.slice (some ⟨vb,vo,none⟩) n vc,.pointer (some ⟨rb,0,none⟩)] 175 from by
    refine⟨?_,hBs.out.2.2.kp kW fun e=>by have:=HO.out.1;omega⟩;have h5:=hBs.out.1.set i (.int .i64 (i:Nat));have hl:(gY i).length=i:=by unfold gY;rw [aC6,List.length_map,List.length_range]
    have e5:(gY i++List.replicate (n-i) (Value.int .i64 0)).set i (.int .i64 (i:Nat))=gY (i+1)++List.replicate (n- (i+1)) (.int .i64 0):=by
     rw [List.set_append_right _ _ (by omega),hl,Nat.sub_self,show n-i=(n- (i+1))+1 from by omega,List.replicate_succ,List.set_cons_zero];have e6:gY (i+1)=gY i++ [.int .i64 (i:Nat)]:=by unfold gY ints;rw [List.range_succ];simp
     rw [e6,List.append_assoc];rfl
    rw [e5,eW1]at h5;exact h5)
   have HBN:=qH hBs.out.2.1;clear hM hTb hBs kW hnO hlo;have i1:(x:Int)< (nv:Int):=by omega
   have i2:(i:Int)< (n:Int):=by omega
   go_wp2;clear eW1 y0 yf vc0;obtain⟨ia,ic,eav,_,_⟩:=(hM1.out.atR x hxn).shape;obtain⟨nA,enA⟩:=nm ((tY vs i Ts.length ats x).length);have hnA:nA≤1048577:=by rw [<-enA];unfold tY;have:=H.out.2.2.2.2.2.2.2.2.1 x;split<;>simp<;>omega
   obtain⟨ta,tc,etv,_,_⟩:=hM1.out.ptrs.shape;obtain⟨nT,enT⟩:=nm Ts.length;rw [enA]at eav;rw [enT]at etv;have HRow:=qH (show Row W1 3 1 (.slice ia nA ic) nA (aE6 (tY vs i Ts.length ats x)) (fun g=>lo≤g)from by have h:=hM1.out.atR x hxn;rw [enA,eav]at h;exact h);have HE:=qH (nIX eav (nIX enA (nIX etv enT)));have hown:∀g,(av2 x).ownBlock=some g->∃cs,Blk W1 g cs 3:=fun g hg=>aQ (hM1.out.atR x hxn) hg;have HOwn:=qH hown;have HJ:=qH (show ∀w',Kp (fun g=>(av2 x).ownBlock=some g) W1 w'->(fun w':World=>w'.cell? ⟨mb,2,none⟩=some (.slice (some ⟨ab,0,none⟩) nv nv)/\w'.cell? ⟨mb,1,none⟩=some (.slice ta nT tc)/\w'.cell? ⟨ab,x,none⟩=some (.slice ia nA ic)) w' from fun w' hw'=>by have b1:=bW hM1.out.box hw' hown (Ne.symm iY.2.2.2.1);have b2:=bW hM1.out.atB hw' hown (Ne.symm iY.2.2.2.2.2.2.2.2.2.2.1);exact⟨by rw [b1.cell'];rfl,by rw [b1.cell',etv];rfl,by rw [b2.cell',fB av2 hxn,eav]⟩);clear hown eav enA etv enT;refine aY (fun w':World=>w'.cell? ⟨mb,2,none⟩=some (.slice (some ⟨ab,0,none⟩) nv nv)/\w'.cell? ⟨mb,1,none⟩=some (.slice ta nT tc)/\w'.cell? ⟨ab,x,none⟩=some (.slice ia nA ic)) [19,20] (by kernel_rfl) (HJ.out _ ((Ext.kp (Kp.refl W1)).drew)) (fun hHeld=>?_);refine eFX 0 ?_;refine eFX 1 ?_;refine eFX 2 ?_;refine eIX 3 ?_;refine eFX 4 ?_;refine eFX 5 ?_;refine eFX 6 ?_;refine eFX 7 ?_;refine eIX 8 ?_;refine eFX 9 ?_;refine eIX 10 ?_;refine eIX 11 ?_;refine eFX 12 ?_;refine eFX 13 ?_;refine eFX 14 ?_;refine eIX 15 ?_;refine eIX 16 ?_;refine eTX 17 fun K hK=>?_;go_simp;refine hK.out _ _ (HJ.out _ (((Ext.kp (Kp.refl W1)).drew).alloc _)) fun hHeld=>?_;clear hK K;refine eTX 18 fun K hK=>?_;refine jB (m:=1) (n:=nA) jG rfl _ _ rfl rfl ((HRow.out.ext ((Kp.refl W1).drew)).alloc _) rfl (CellsAt.one W1.drew (.int .i64 (nT:Nat)) 3) (by rfl) (by simp;rfl) (by omega) (by unfold maxLen;omega) ?_;intro v7 w7 hr7 hk7;obtain⟨la7,lc7,ev7,_,_⟩:=hr7.shape;subst ev7;have X2:=qH (nIX (show Row w7 3 1 (.slice la7 (nA+1) lc7) (nA+1) (aE6 (tY vs i Ts.length ats x)++ [.int .i64 (nT:Nat)]) (fun g=>(Value.slice ia nA ic).ownBlock=some g\/ (W1.drew.alloc (.cells #[.int .i64 (nT:Nat)] 3)).heap.size≤g)from hr7) (show Kp (fun g=>(av2 x).ownBlock=some g) W1 w7 from(by rw [HE.out.1];exact(Ext.kp (((Kp.refl W1).drew).alloc _)).trans hk7)));clear hr7 hk7;have X3:=qH (bW hM1.out.atB X2.out.2 HOwn.out (Ne.symm iY.2.2.2.2.2.2.2.2.2.2.1));have f1:w7.cell? ⟨ab,x,none⟩=some (.slice ia nA ic):=by{rw [X3.out.cell',fB av2 hxn,HE.out.1]};have ff:=X3.out.free x
   refine hK.out _ _ (HJ.out _ X2.out.2) fun hHeld=>?_;clear hK K;refine eLX 19 fun K hK=>?_;go_simp;refine hK.out _ _ ?_;clear hK K;refine eLX 20 fun K hK=>?_;go_simp;refine hK.out _ _ ?_;clear hK K;refine aL (by kernel_rfl) ?_ _;clear hHeld;have hP:=hM1.out.putAt hxn (x:=Ts.length) (w':=w7) (v':= .slice la7 (nA+1) lc7) (by rw [HE.out.2.1,HE.out.1];have h2:=X2.out.1.mono (M':=fun g=>(Value.slice ia nA ic).ownBlock=some g\/W1.heap.size≤g) fun g hg=>hg.imp id (fun h=>Nat.le_trans (((Kp.refl (F:=fun _=>False) W1).drew).alloc (.cells #[.int .i64 (nT:Nat)] 3)).size h);rw [<-HE.out.2.2.2]at h2;exact h2) X2.out.2;have HP:=qH (hP.congr (ats':=tY vs (i+1) Ts.length ats) (fun j _=>aJi HX.out H.out.2.2.2.2.2.1 j) (fun _ _=>rfl));obtain⟨w8,e8⟩:=nm (w7.setCell ⟨ab,x,none⟩ (.slice la7 (nA+1) lc7));have k78:Kp (fun k=>k=ab) w7 w8:=by rw [<-e8];exact kSa
   have k18:Kp (fun k=>(av2 x).ownBlock=some k\/k=ab) W1 w8:=(X2.out.2.mono fun k _ h=>Or.inl h).trans (k78.mono fun k _ h=>Or.inr h);have HT2:=qH (hT1.out.turn (own':=gZ (fun k=>E k\/k=ob) mb ab sb nv tv (dD av2 x (.slice la7 (nA+1) lc7)) sv) k18 (fun k hf _=>by
    rcases hf with hf|hf
    ·exact .inl (.inr (.inr (.inr (.inr (.inl ⟨x,hxn,hf⟩)))))
    ·exact .inl (.inr (.inl hf))) fun k hk=>by
    rcases hk with(e|e|e|e|⟨u,hu,e⟩|e)|e
    ·exact .inl (.inl (.inl e))
    ·exact .inl (.inl (.inr (.inl e)))
    ·exact .inl (.inl (.inr (.inr (.inl e))))
    ·exact .inl (.inl (.inr (.inr (.inr (.inl e)))))
    ·by_cases e2:u=x
     ·subst e2;rw [upd_same]at e;rcases X2.out.1.block k e with h3|h3
      ·exact .inl (.inl (.inr (.inr (.inr (.inr (.inl ⟨u,hu,by rw [HE.out.1];exact h3⟩))))))
      ·exact .inr (Nat.le_trans (((Kp.refl (F:=fun _=>False) W1).drew).alloc _).size h3)
     ·rw [aH _ _ e2]at e;exact .inl (.inl (.inr (.inr (.inr (.inr (.inl ⟨u,hu,e⟩))))))
    ·exact .inl (.inl (.inr (.inr (.inr (.inr (.inr e))))))
    ·exact .inl (.inr e))
   have HBx:=qH (show Blk w8 ob (gY (i+1)++List.replicate (n- (i+1)) (.int .i64 0)) 3/\(∀v,v<nv->(dD av2 x (.slice la7 (nA+1) lc7) v).ownBlock≠some ob)/\Blk w8 gb [.slice (some ⟨vb,vo,none⟩) n vc,.pointer (some ⟨rb,0,none⟩)] 175 from by
    have hobl:=hB1.out.1.lt;refine⟨(hB1.out.1.kp X2.out.2 fun e=>HBN.out x hxn e).kp k78 fun e=>absurd (aP (e▸hB1.out.1) hM1.out.atB) (Ne.symm iY.2.2.2.2.2.2.2.2.2.2.1),fun v hv e=>?_,(hB1.out.2.kp X2.out.2 fun e=>?_).kp k78 fun e=>absurd (aP (e▸hB1.out.2) hM1.out.atB) (by decide)⟩
    ·by_cases e2:v=x
     ·subst e2;rw [upd_same]at e;rcases X2.out.1.block ob e with h3|h3
      ·exact HBN.out v hv (by rw [HE.out.1];exact h3)
      ·have:=(((Kp.refl (F:=fun _=>False) W1).drew).alloc (.cells #[.int .i64 (nT:Nat)] 3)).size;omega
     ·rw [aH _ _ e2]at e;exact HBN.out v hv e
    ·obtain⟨cs,hb⟩:=HOwn.out _ e;exact absurd (aP hb hB1.out.2) (by decide))
   rw [e8]at HP ⊢;clear e8 k78 k18 f1 ff hP;go_wp2;go_roundw
   case rel=>exact⟨i+1,_,by omega,nMX,HP,HT2,HBx⟩
   case measure=>simp [intOf];omega
  ·obtain rfl:n=i:=by omega
   have hordB:=hBs.out.1;rw [Nat.sub_self,List.replicate_zero,List.append_nil]at hordB;have hord:CellsAt wr (some ⟨ob,0,none⟩) (gY n):=CellsAt.pre (rest:= []) (by rw [List.append_nil];exact hordB);have hTab:=hTb.out.here.here;have hrow:=hTab.rows;rw [<-H.out.2.2.2.1]at hrow;have HBd:=qH (aJb (oc:=n) hrow hTab.rise H.out.2.2.2.2.2.2.1 hord hn64 (Nat.le_refl _) H.out.2.2.2.2.2.2.2.1);have HM:=qH (hM.out.congr (ats':=fun v=>if v∈vs then ats v++ [Ts.length]else ats v) (fun j _=>by unfold tY;rw [List.take_of_length_le (by rw [<-H.out.2.2.2.1];exact Nat.le_refl _)]) (fun _ _=>rfl));have r1:=hBs.out.2.2.c1;have hobl:=hordB.lt;have HOB:=qH hobl;clear hM hTb hBs hordB hord hTab hrow hobl hi hlt;go_wp2_with fail
   refine HBd.out.mono ?_;rintro e w3 ⟨v3,rfl,hk3,tb,rfl,htb,hF⟩;have HM3:=qH (HM.out.ext hk3);have HF:=qH (show HeldF lo (gZ (fun k=>E k\/k=ob) mb ab sb nv tv av2 sv) w3 fun W=>TrieAt W tb LL n from
    ⟨wr.heap.size,w3.heap.size,by have h1:=HM.out.new.1;have h2:=HM.out.box.lt;omega,Nat.le_refl _,hF,fun k hk hab=>by
     rcases hk with hk|hk|hk
     ·have:=HM.out.lt k hk;omega
     ·have h1:=H.out.2.2.1 k hk;have h2:=HS.out.1;have h3:=HOB.out;have h4:=HO.out.1;omega
     ·have:=HOB.out;omega⟩)
   obtain⟨ta,tc,etv,_,_⟩:=HM3.out.ptrs.shape;obtain⟨nT,enT⟩:=nm Ts.length;rw [enT]at etv hTs;have HRow:=qH (show Row w3 187 1 (.slice ta nT tc) nT (Ts.map lN) (fun g=>lo≤g)from by have h:=HM3.out.ptrs;rw [enT,etv]at h;exact h);have HE:=qH (nIX etv enT);have m1:w3.cell? ⟨mb,1,none⟩=some (.slice ta nT tc):=by rw [HM3.out.box.cell',etv];rfl
   clear hk3 hF htb etv enT r1;go_wp2_with (first|(at_builtin;refine Halted.out ?_))
   refine Halted.mk (iH aFw rfl _ _ rfl rfl (HRow.out.alloc _) rfl (CellsAt.one w3 (.pointer (some ⟨tb,0,none⟩)) 187) (by rfl) (by simp;rfl) (by omega) (by unfold maxLen;omega) ?_);intro v4 w4 hr4 hk4;obtain⟨la4,lc4,ev4,_,_⟩:=hr4.shape;subst ev4;have hkw:Kp (fun g=>tv.ownBlock=some g) w3 w4:=by rw [HE.out.1];exact(Ext.kp ((Kp.refl w3).alloc _)).trans hk4
   have HP:=qH ((HM3.out.putTr (x:=⟨tb,vs,LL⟩) (by
    have h:=HF.out;rw [H.out.2.2.2.1]at h;exact h) (w':=w4) (v':= .slice la4 (nT+1) lc4) (by
    rw [HE.out.1];have h2:=hr4.mono (M':=fun g=>(Value.slice ta nT tc).ownBlock=some g\/w3.heap.size≤g) fun g hg=>hg.imp id (fun h=>Nat.le_trans ((Kp.refl (F:=fun _=>False) w3).alloc (.cells #[.pointer (some ⟨tb,0,none⟩)] 187)).size h);rw [<-HE.out.2]at h2;rw [<-HE.out.2];exact h2) hkw).beside (E':=E) fun k hk=> .inl (.inl hk))
   have hb4:=bW HM3.out.box hkw (fun g hg=>aQ HM3.out.ptrs hg) (Ne.symm iY.1);have m2:w4.cell? ⟨mb,1,none⟩=some (.slice ta nT tc):=by rw [hb4.cell',HE.out.1];rfl
   have mf:=hb4.free 1;clear hr4 hk4 hkw hb4 m1;go_wp2
   go_end0
   exact⟨rfl,tb,_,_,HP.out⟩
end
section
open Go.RowKit
structure MatIs(N:List ByteArray)(ls:List aJ)(R:Nat->aD)(i:Nat)(Ts:List TrieZ)(tests:Nat->List TestZ):Prop where
 from_:∀t∈Ts,∃(j:Nat) (l:aJ),j<i/\ls[j]?=some l/\l.1=1/\t.vs=aU N (aA l)/\t.vs≠ []/\t.W=dL N (aA l) (R j)/\0<t.W.length
 has:∀(j:Nat) (l:aJ),j<i->ls[j]?=some l->l.1=1->(aU N (aA l)= []/\0< (dL N (aA l) (R j)).length)\/∃t∈Ts,t.vs=aU N (aA l)/\t.W=dL N (aA l) (R j)
 tfrom:∀k,k≤N.length->∀t∈tests k,∃(j:Nat) (l:aJ),j<i/\ls[j]?=some l/\l.1≠1/\jU N l< (k:Int)/\∀V:List ByteArray,V.length=N.length->(t.ask V=true↔kC N V (R j) l)
 thas:∀(j:Nat) (l:aJ),j<i->ls[j]?=some l->l.1≠1->∃k,k≤N.length/\∃t∈tests k,∀V:List ByteArray,V.length=N.length->(t.ask V=true↔kC N V (R j) l)
section
variable {N:List ByteArray}{ls:List aJ}{R:Nat->aD}{i:Nat}{Ts:List TrieZ}{tests:Nat->List TestZ}
theorem MatIs.zero:MatIs N ls R 0 [] (fun _=> []):=⟨fun t h=>by simp at h,fun j l h=>by omega,fun k _ t h=>by simp at h,fun j l h=>by omega⟩
theorem MatIs.none(h:MatIs N ls R i Ts tests){l:aJ}(hl:ls[i]?=some l)(h1:l.1=1)(hv:aU N (aA l)= [])(hT:0< (dL N (aA l) (R i)).length):MatIs N ls R (i+1) Ts tests:=by
 refine⟨fun t ht=>?_,fun j m hj hm hk=>?_,fun k hk t ht=>?_,fun j m hj hm hk=>?_⟩
 ·obtain⟨j,m,h2,h3⟩:=h.from_ t ht
  exact⟨j,m,by omega,h3⟩
 ·rcases Nat.lt_or_eq_of_le (Nat.le_of_lt_succ hj)with h2|rfl
  ·exact h.has j m h2 hm hk
  ·rw [hl]at hm;cases hm;exact .inl ⟨hv,hT⟩
 ·obtain⟨j,m,h2,h3⟩:=h.tfrom k hk t ht;exact⟨j,m,by omega,h3⟩
 ·rcases Nat.lt_or_eq_of_le (Nat.le_of_lt_succ hj)with h2|rfl
  ·exact h.thas j m h2 hm hk
  ·rw [hl]at hm;cases hm;exact absurd h1 hk
theorem MatIs.put(h:MatIs N ls R i Ts tests){l:aJ}(hl:ls[i]?=some l)(h1:l.1=1)(hv:aU N (aA l)≠ [])(hT:0< (dL N (aA l) (R i)).length){t:TrieZ}(e1:t.vs=aU N (aA l))(e2:t.W=dL N (aA l) (R i)):MatIs N ls R (i+1) (Ts++ [t]) tests:=by
 refine⟨fun u hu=>?_,fun j m hj hm hk=>?_,fun k hk t ht=>?_,fun j m hj hm hk=>?_⟩
 ·rcases List.mem_append.1 hu with hu|hu
  ·obtain⟨j,m,h2,h3⟩:=h.from_ u hu
   exact⟨j,m,by omega,h3⟩
  ·rw [List.mem_singleton]at hu;subst hu;exact⟨i,l,by omega,hl,h1,e1,by rw [e1];exact hv,e2,by rw [e2];exact hT⟩
 ·rcases Nat.lt_or_eq_of_le (Nat.le_of_lt_succ hj)with h2|rfl
  ·rcases h.has j m h2 hm hk with h3|⟨u,hu,h3⟩
   ·exact .inl h3
   ·exact .inr ⟨u,List.mem_append_left _ hu,h3⟩
  ·rw [hl]at hm;cases hm;exact .inr ⟨t,by simp,e1,e2⟩
 ·obtain⟨j,m,h2,h3⟩:=h.tfrom k hk t ht;exact⟨j,m,by omega,h3⟩
 ·rcases Nat.lt_or_eq_of_le (Nat.le_of_lt_succ hj)with h2|rfl
  ·exact h.thas j m h2 hm hk
  ·rw [hl]at hm;cases hm;exact absurd h1 hk
theorem MatIs.add(h:MatIs N ls R i Ts tests){l:aJ}(hl:ls[i]?=some l)(h1:l.1≠1){t:TestZ}{k:Nat}(hk:k≤N.length)(hlast:jU N l< (k:Int))(hask:∀V:List ByteArray,V.length=N.length->(t.ask V=true↔kC N V (R i) l)):MatIs N ls R (i+1) Ts (dD tests k (tests k++ [t])):=by
 refine⟨fun u hu=>?_,fun j m hj hm hk=>?_,fun k' hk' u hu=>?_,fun j m hj hm hkm=>?_⟩
 ·obtain⟨j,m,h2,h3⟩:=h.from_ u hu
  exact⟨j,m,by omega,h3⟩
 ·rcases Nat.lt_or_eq_of_le (Nat.le_of_lt_succ hj)with h2|rfl
  ·exact h.has j m h2 hm hk
  ·rw [hl]at hm;cases hm;exact absurd hk h1
 ·by_cases e:k'=k
  ·subst e;rw [upd_same]at hu;rcases List.mem_append.1 hu with hu|hu
   ·obtain⟨j,m,h2,h3⟩:=h.tfrom k' hk' u hu;exact⟨j,m,by omega,h3⟩
   ·rw [List.mem_singleton]at hu;subst hu;exact⟨i,l,by omega,hl,h1,hlast,hask⟩
  ·rw [aH _ _ e]at hu;obtain⟨j,m,h2,h3⟩:=h.tfrom k' hk' u hu;exact⟨j,m,by omega,h3⟩
 ·rcases Nat.lt_or_eq_of_le (Nat.le_of_lt_succ hj)with h2|rfl
  ·obtain⟨k',hk',u,hu,h3⟩:=h.thas j m h2 hm hkm;refine⟨k',hk',u,?_,h3⟩;by_cases e:k'=k
   ·subst e;rw [upd_same];exact List.mem_append_left _ hu
   ·rw [aH _ _ e];exact hu
  ·rw [hl]at hm;cases hm;exact⟨k,hk,t,by rw [upd_same];simp,hask⟩
end
theorem wD{r:dC}(h:bG r=0){l:aJ}(hl:l∈r.2.1):l.1=1\/l.1=2\/l.1=3:=by
 unfold bG at h;split at h
 ·rename_i hp;unfold cU at hp;rw [Bool.and_eq_true]at hp;have h1:=List.all_eq_true.1 hp.2 l hl;unfold eO at h1;split at h1
  ·rename_i h2;rcases h2 with h2|h2
   ·exact .inl h2
   ·exact .inr (.inl h2)
  ·split at h1
   ·rename_i h2;exact .inr (.inr h2)
   ·cases h1
 ·cases h
theorem aFc{r:dC}(h:bG r=0){R:Nat->aD}{Ts:List TrieZ}{tests:Nat->List TestZ}(hM:MatIs (aC r.2.1) r.2.1 R r.2.1.length Ts tests):
 MatchOk ⟨aC r.2.1,Ts,tests⟩/\∀V,mG ⟨aC r.2.1,Ts,tests⟩ V↔cP r.2.1 R V:=by
 refine⟨⟨fun t ht=>?_,fun v hv=>?_,fun k hk t ht V V' hV hV' he=>?_⟩,fun V=>?_⟩
 ·obtain⟨j,l,hj,hl,h1,e1,e2,e3,e4⟩:=hM.from_ t ht
  refine⟨⟨fun x hx=>?_,by rw [e3];exact uN _ _ _⟩,by rw [e1];exact yF _ _,e2,fun x hx=>?_,e4⟩
  ·rw [e3]at hx;rw [uA hx,e1]
  ·rw [e1]at hx;exact(dQ.1 hx).1
 ·obtain⟨l,hl,h1,hvl⟩:=nC hv;obtain⟨j,hj⟩:=List.mem_iff_getElem?.1 hl;rcases hM.has j l (List.getElem?_eq_some_iff.1 hj).1 hj h1 with h2|⟨t,ht,e1,e2⟩
  ·rw [h2.1]at hvl;simp at hvl
  ·exact⟨t,ht,by rw [e1];exact hvl⟩
 ·obtain⟨j,l,hj,hl,h1,h2,h3⟩:=hM.tfrom k hk t ht;have hm:=List.mem_of_getElem? hl;have h4:=aJj (R:=R j) he h1 h2 (fun hk2 hv=>by
   rcases wD h hm with h5|h5|h5
   ·exact absurd h5 h1
   ·exact absurd h5 hk2
   ·rcases pT h hm h5 _ (.inl rfl)with h6|h6
    ·exact h6.2
    ·omega) (fun hk2 hv=>by
   rcases wD h hm with h5|h5|h5
   ·exact absurd h5 h1
   ·exact absurd h5 hk2
   ·rcases pT h hm h5 _ (.inr rfl)with h6|h6
    ·exact h6.2
    ·omega)
  rw [Bool.eq_iff_iff,h3 V hV,h3 V' hV',h4]
 ·rw [xK h];refine and_congr_right fun hV=>⟨fun⟨h1,h2⟩ i l hl=>?_,fun hA=>⟨fun t ht=>?_,fun k hk t ht=>?_⟩⟩
  ·have hi:=(List.getElem?_eq_some_iff.1 hl).1;by_cases hk:l.1=1
   ·unfold kC;rw [if_pos hk];rcases hM.has i l hi hl hk with⟨e,hT⟩|⟨t,ht,e1,e2⟩
    ·rw [e];obtain⟨x,hx⟩:=List.exists_mem_of_length_pos hT;have hx0:=uA hx;rw [e]at hx0;have:x= []:=List.eq_nil_of_length_eq_zero hx0;rw [this]at hx;exact hx
    ·have:=h1 t ht
     rwa [e1,e2]at this
   ·obtain⟨k,hkn,t,ht,h3⟩:=hM.thas i l hi hl hk;exact(h3 V hV).1 (h2 k hkn t ht)
  ·obtain⟨j,l,hj,hl,hk,e1,e2,e3,e4⟩:=hM.from_ t ht
   have:=hA j l hl;unfold kC at this;rw [if_pos hk]at this;rw [e1,e3];exact this
  ·obtain⟨j,l,hj,hl,h1,h2,h3⟩:=hM.tfrom k hk t ht;exact(h3 V hV).2 (hA j l hl)
theorem rM(N:List ByteArray)(t:aE):dE N t.1 t.2.1=qN N t:=by
 unfold dE qN dH;by_cases h1:t.1=1
 ·rw [if_pos h1];have e:N.any (fun s=>decide (s=t.2.1))=gJ N t.2.1:=rfl;by_cases h2:gJ N t.2.1=true
  ·rw [if_pos (e.trans h2),if_pos ⟨h1,h2⟩]
  ·rw [if_neg (by rw [e];exact h2),if_neg (fun h=>h2 h.2)]
 ·rw [if_neg h1,if_neg (fun h=>h1 h.1)]
theorem aCi{N V:List ByteArray}{t:aE}(h:t.1=1/\t.2.1∈N\/t.1=3):fM V (dE N t.1 t.2.1) t.2.1=tP N V t:=by
 rw [rM];rcases h with⟨h1,h2⟩|h1
 ·have e:qN N t=((N.findIdx fun s=>decide (s=t.2.1):Nat):Int):=by unfold qN;rw [if_pos ⟨h1,dA.2 h2⟩]
  rw [e];unfold fM tP;rw [if_neg (by omega),if_pos h1,Int.toNat_natCast]
 ·have e:qN N t= -1:=by unfold qN;rw [if_neg (fun h=>by have:=h.1;omega)]
  rw [e];unfold fM tP;rw [if_pos (by decide),if_neg (by omega)]
end
section
open Go.RowKit Go.Shelf
theorem aDy(Ts:List TrieZ)(t:TrieZ)(v:Nat):atL (Ts++ [t]) v=if v∈t.vs then atL Ts v++ [Ts.length]else atL Ts v:=by
 unfold atL;rw [List.length_append,List.length_singleton,List.range_succ,List.filter_append];have e1:(List.range Ts.length).filter (fun j=>((Ts++ [t]).getD j noT).vs.contains v)=(List.range Ts.length).filter fun j=>(Ts.getD j noT).vs.contains v:=by refine List.filter_congr fun j hj=>?_;have hj':=List.mem_range.1 hj;rw [List.getD_eq_getElem?_getD,List.getElem?_append_left hj',<-List.getD_eq_getElem?_getD]
 rw [e1];have e2:(Ts++ [t]).getD Ts.length noT=t:=by rw [List.getD_eq_getElem?_getD,List.getElem?_append_right (Nat.le_refl _),Nat.sub_self];rfl
 by_cases h:v∈t.vs
 ·rw [if_pos h,List.filter_cons,e2,if_pos (List.contains_iff_mem.2 h)];rfl
 ·rw [if_neg h,List.filter_cons,e2,if_neg (fun e=>h (List.contains_iff_mem.1 e))];simp
theorem aG7(Ts:List TrieZ)(v:Nat):(atL Ts v).length≤Ts.length:=by
 unfold atL;have:=List.length_filter_le (fun j=>(Ts.getD j noT).vs.contains v) (List.range Ts.length)
 rwa [List.length_range]at this
theorem sM(v:Value)(n:Nat):List.replicate n v=(List.range n).map fun _=>v:=by refine List.ext_getElem (by simp) fun i h1 h2=>?_;simp
theorem MatSt.start{E:Nat->Prop}{w0 w:World}{mb ab sb nv nc:Nat}{na:Option Addr}{lo:Nat}(hB:Blk w mb [.slice na nv nc,.slice none 0 0,.slice (some ⟨ab,0,none⟩) nv nv,.slice (some ⟨sb,0,none⟩) (nv+1) (nv+1)] 172)(hA:Blk w ab (List.replicate nv (.slice none 0 0)) 173)(hS:Blk w sb (List.replicate (nv+1) (.slice none 0 0)) 214)
 (hnew:lo≤mb/\lo≤ab/\lo≤sb)(hlow:w0.heap.size≤lo)(hk:Ext w0 w):MatSt E lo w0 w mb ab sb nv na nc [] (atL []) (fun _=> []) (.slice none 0 0) (fun _=> .slice none 0 0) (fun _=> .slice none 0 0):=
 ⟨hB,Row.nil _ _ _ _,by rw [sM]at hA;exact hA,by rw [sM]at hS;exact hS,fun v _=>Row.nil _ _ _ _,fun v _=>Row.nil _ _ _ _,fun _ _ _ _ _ g h=>(by cases h),fun _ _ _ _ _ g h=>(by cases h),fun t h=>by simp at h,fun k _ t h=>by simp at h,hnew,hlow,hk⟩
theorem MatSt.done{E:Nat->Prop}{w0 w:World}{mb ab sb nc:Nat}{na:Option Addr}{lo:Nat}{N:List ByteArray}{Ts:List TrieZ}{tests:Nat->List TestZ}{tv:Value}{av sv:Nat->Value}(h:MatSt E lo w0 w mb ab sb N.length na nc Ts (atL Ts) tests tv av sv)(hN:N.length≤1048576)(hT:Ts.length≤1048576)(ht:∀k,(tests k).length≤1048576):
 ∃A,Fast lo w.heap.size w fun W=>MatchAt W mb ⟨N,Ts,tests⟩ A:=by
 have hp:=h.ptrs.shape;obtain⟨ta,tc,etv,_,_⟩:=hp;have hav:∀v,∃ao cap,v<N.length->av v= .slice ao (atL Ts v).length cap:=fun v=>by
  by_cases hv:v<N.length
  ·obtain⟨ao,cap,e,_,_⟩:=(h.atR v hv).shape;exact⟨ao,cap,fun _=>e⟩
  ·exact⟨none,0,fun h=>absurd h hv⟩
 have hsv:∀k,∃ao cap,k<N.length+1->sv k= .slice ao (tests k).length cap:=fun v=>by
  by_cases hv:v<N.length+1
  ·obtain⟨ao,cap,e,_,_⟩:=(h.slR v hv).shape;exact⟨ao,cap,fun _=>e⟩
  ·exact⟨none,0,fun h=>absurd h hv⟩
 refine⟨⟨na,nc,ta,tc,some ⟨ab,0,none⟩,N.length,some ⟨sb,0,none⟩,N.length+1,fun v=>(hav v).choose,fun v=>(hav v).choose_spec.choose,fun v=>(hsv v).choose,fun v=>(hsv v).choose_spec.choose⟩,fun X hX=>?_⟩;have noF:∀k,lo≤k->k<w.heap.size->¬¬(lo≤k/\k<w.heap.size):=fun k h1 h2 h3=>h3 ⟨h1,h2⟩;have hbox:=h.box.kp hX (noF _ h.new.1 h.box.lt);have hat:=h.atB.kp hX (noF _ h.new.2.1 h.atB.lt);have hsl:=h.slB.kp hX (noF _ h.new.2.2 h.slB.lt);have hptr:=h.ptrs.kp' hX fun g _ hM=>noF g hM (by assumption|>fun hg=>h.ptrs.lt g hg);refine⟨by rw [hbox.cell'];rfl,by rw [hbox.cell',etv];rfl,by rw [hbox.cell'];rfl,by rw [hbox.cell'];rfl,?_,fun v hv=>?_,fun k hk=>?_,fun t ht'=>(h.tries t ht').here X hX,fun k hk t ht'=>(h.tells k (by have:k≤N.length:=hk;omega) t ht').here X hX,hN,hT,fun k _=>ht k⟩
 ·obtain⟨ao,cap,e,hc,_⟩:=hptr.shape;rw [etv]at e;cases e;exact hc
 ·have hv':v<N.length:=hv;have hr:=(h.atR v hv').kp' hX fun g hg hM=>noF g hM ((h.atR v hv').lt g hg);obtain⟨ao,cap,e,hc,_⟩:=hr.shape;have e2:=(hav v).choose_spec.choose_spec hv';refine⟨ab,0,rfl,by rw [hat.cell',Nat.zero_add,fB av hv',e2],?_⟩;rw [e2]at e;cases e;exact hc
 ·have hk':k<N.length+1:=by have:k≤N.length:=hk;omega
  have hr:=(h.slR k hk').kp' hX fun g hg hM=>noF g hM ((h.slR k hk').lt g hg);obtain⟨ao,cap,e,hc,_⟩:=hr.shape;have e2:=(hsv k).choose_spec.choose_spec hk';refine⟨sb,0,rfl,by rw [hsl.cell',Nat.zero_add,fB sv hk',e2],?_⟩;rw [e2]at e;cases e;exact hc
end
section
open Go.RowKit Go.Shelf
attribute [local go_sem] Oper.semAt_some
theorem aI2:cL Tryz.prog 169 173 1 24 (.slice none 0 0):=⟨by kernel_rfl,by kernel_rfl,rfl,by decide⟩
theorem aI1:cL Tryz.prog 170 214 1 24 (.slice none 0 0):=⟨by kernel_rfl,by kernel_rfl,rfl,by decide⟩
def cE(Es:Nat->List Ent)(ls:List aJ)(j:Nat):aD:=gR (bS (Es j) ((ls[j]?.map bC).getD ByteArray.empty))
theorem aG2{N:List ByteArray}{l:aJ}: -1≤jU N l:=by
 have hi:∀t,-1≤qN N t:=fun t=>by unfold qN;split<;>omega
 unfold jU;split
 ·split<;>omega
 ·have:=hi (leftOf l);have:=hi (aN l);omega
theorem aMk{r:dC}(h:bG r=0){l:aJ}(hl:l∈r.2.1)(hk:l.1=1\/l.1=2):(aA l).length≤64:=by
 unfold bG at h;split at h
 ·rename_i hp;unfold cU at hp;rw [Bool.and_eq_true]at hp;have h1:=List.all_eq_true.1 hp.2 l hl;unfold eO at h1;rw [if_pos hk,Bool.and_eq_true]at h1;exact of_decide_eq_true h1.1
 ·cases h
def aMf(w0:World)(mb ab sb:Nat)(na:Option Addr)(nc:Nat)(ls:List aJ)(Es:Nat->List Ent)(n:Nat)(jv:Value)(W:World):Prop:=
 ∃(i:Nat) (Ts:List TrieZ) (tests:Nat->List TestZ) (tv:Value) (av sv:Nat->Value),i≤n/\jv= .int .i64 i/\Hid (MatSt (fun _=>False) w0.heap.size w0 W mb ab sb (aC ls).length na nc Ts (atL Ts) tests tv av sv)/\Hid (MatIs (aC ls) ls (cE Es ls) i Ts tests)/\Hid (Ts.length≤i/\∀k,(tests k).length≤i)
theorem vU{lo:Nat}{w0 W W2:World}{mb ab sb nv nv' nc:Nat}{na:Option Addr}{Ts:List TrieZ}{ats:Nat->List Nat}{tests:Nat->List TestZ}{tv:Value}{av sv:Nat->Value}{P:Nat->World->Prop}(h:MatSt (fun _=>False) lo w0 W mb ab sb nv na nc Ts ats tests tv av sv)(hx:Ext W W2)(hf:Fast W.drew.heap.size W2.heap.size W2 (P nv'))(e:nv=nv')(hsz:W.drew.heap.size≤W2.heap.size):
 HeldF lo (gZ (fun _=>False) mb ab sb nv tv av sv) W2 (P nv):=by
 subst e;have hd:W.heap.size≤W.drew.heap.size:=((Kp.refl (F:=fun _=>False) W).drew).size;refine⟨W.drew.heap.size,W2.heap.size,?_,Nat.le_refl _,hf,fun k hk hab=>?_⟩
 ·have h1:=h.new.1;have h2:=h.box.lt;omega
 ·rcases hk with hk|hk
  ·have:=h.lt k hk;omega
  ·exact hk
theorem vW{W1 w4:World}{P:World->Prop}{a:Nat}{x y:Value}(hx:Ext W1 w4)(hf:Fast a w4.heap.size w4 P)(ha:W1.heap.size≤a)(ha2:a≤w4.heap.size):
 ∃a,W1.heap.size≤a/\a≤(w4.alloc (.cells #[x,y] 175)).heap.size/\Ext W1 (w4.alloc (.cells #[x,y] 175))/\Blk (w4.alloc (.cells #[x,y] 175)) w4.heap.size [x,y] 175/\Fast a (w4.alloc (.cells #[x,y] 175)).heap.size (w4.alloc (.cells #[x,y] 175)) P:=by
 have h1:Ext w4 (w4.alloc (.cells #[x,y] 175)):=(Kp.refl w4).alloc _;exact⟨a,ha,Nat.le_trans ha2 h1.size,hx.trans h1,Blk.new w4 _ _,(hf.ext h1).mono (Nat.le_refl _) h1.size⟩
theorem vV{W1 w4:World}{P:World->Prop}{a g:Nat}{u v x y:Value}(hB:Blk w4 g [u,v] 175)(hx:Ext W1 w4)(hf:Fast a w4.heap.size w4 P)(hg:W1.heap.size≤g)(hga:g<a)(ha2:a≤w4.heap.size):
 ∃a,W1.heap.size≤a/\a≤((w4.setCell ⟨g,0,none⟩ x).setCell ⟨g,1,none⟩ y).heap.size/\Ext W1 ((w4.setCell ⟨g,0,none⟩ x).setCell ⟨g,1,none⟩ y)/\Blk ((w4.setCell ⟨g,0,none⟩ x).setCell ⟨g,1,none⟩ y) g [x,y] 175/\Fast a ((w4.setCell ⟨g,0,none⟩ x).setCell ⟨g,1,none⟩ y).heap.size ((w4.setCell ⟨g,0,none⟩ x).setCell ⟨g,1,none⟩ y) P:=by
 have h1:Kp (fun k=>k=g) w4 ((w4.setCell ⟨g,0,none⟩ x).setCell ⟨g,1,none⟩ y):=kSb;refine⟨a,by omega,Nat.le_trans ha2 h1.size,hx.trans' h1 fun i hi e=>by have e':i=g:=e;omega,(hB.set 0 x).set 1 y,(hf.kp h1 fun k e=>by have e':k=g:=e;omega).mono (Nat.le_refl _) h1.size⟩
theorem sU{lo:Nat}{w0 W W2:World}{mb ab sb nv nc a:Nat}{na:Option Addr}{Ts:List TrieZ}{ats:Nat->List Nat}{tests:Nat->List TestZ}{tv:Value}{av sv:Nat->Value}{P:World->Prop}(h:MatSt (fun _=>False) lo w0 W mb ab sb nv na nc Ts ats tests tv av sv)(ha:W.heap.size≤a)(hf:Fast a W2.heap.size W2 P):
 HeldF lo (gZ (fun _=>False) mb ab sb nv tv av sv) W2 P:=by
 refine⟨a,W2.heap.size,?_,Nat.le_refl _,hf,fun k hk hab=>?_⟩
 ·have h1:=h.new.1;have h2:=h.box.lt;omega
 ·rcases hk with hk|hk
  ·have:=h.lt k hk;omega
  ·exact hk
theorem aCe{w:World}{mb rb vc:Nat}{va:Option Addr}:Calls Tryz.prog 118 #[.pointer (some ⟨mb,0,none⟩),.agg #[.slice va 0 vc,.pointer (some ⟨rb,0,none⟩)]] w fun e w'=>e= .returned (.tuple #[])/\Ext w w':=by
 obtain⟨gb,egb⟩:=nm w.heap.size;obtain⟨w1,e1⟩:=nm (w.alloc (.cells #[.slice va 0 vc,.pointer (some ⟨rb,0,none⟩)] 175));have b0:w1.cell? ⟨gb,0,none⟩=some (.slice va 0 vc):=by rw [<-e1,<-egb,(Blk.new w [.slice va 0 vc,.pointer (some ⟨rb,0,none⟩)] 175).cell'];rfl
 have x1:=qH (show Ext w w1 from xAX e1);go_enter Tryz.func118,Tryz.ntmps118;go_wp2;refine bodyPost_ret (results_none rfl _ _ _) rfl ?_;exact⟨rfl,x1.out⟩
def aGf(w0 w:World)(r:dC)(Es:Nat->List Ent)(v:Value):Prop:=
 (v= .pointer none/\(bG r≠0\/∀V,¬cP r.2.1 (cE Es r.2.1) V))\/
 ∃mb Ts tests A,v= .pointer (some ⟨mb,0,none⟩)/\bG r=0/\MatIs (aC r.2.1) r.2.1 (cE Es r.2.1) r.2.1.length Ts tests/\Fast w0.heap.size w.heap.size w fun W=>MatchAt W mb ⟨aC r.2.1,Ts,tests⟩ A
set_option maxHeartbeats 4000000 in
theorem aIc{w:World}{p:ByteArray}{hs:List aE}{ls:List aJ}{ha ba bsa:Option Addr}{hn hcap n bcap nb bsc:Nat}{G:Nat->Prop}{bvs:List Value}{Es:Nat->List Ent}(hhn:hn=hs.length)(hh:aR w G ha hs)(hhl:hn≤1048576)(hbn:n=ls.length)(h:cD w G ba ls)(hf:Fit ls)(hnv:(aC ls).length≤1048576)(hn16:n≤1048576)
 (hnb:nb=bvs.length)(hbs:CellsAt w bsa bvs)(hB:∀j,∃S,BaseV S w (bvs.getD j (.pointer none)) (Es j)):
 Calls Tryz.prog 81 #[dS p ha hn hcap ba n bcap,.slice bsa nb bsc] w (RetN w fun w' v=>aGf w w' ((p,hs,()),ls,()) Es v):=by
 have HCh:=qH (fun W (hW:Ext w W)=>aJa p hs ls ha hn hcap ba n bcap W G hhn (hh.ext hW) hhl hbn (h.ext hW) hf);have HVa:=qH (fun W (hW:Ext w W)=>aBi p ha hn hcap ls ba n bcap W G hbn (h.ext hW) hf);have HL:=qH (nIX hbn (nIX h hf));have HBs:=qH (nIX hnb (nIX hbs hB));obtain⟨cR,ecR⟩:=nm (bG ((p,hs,()),ls,()));rw [ecR]at HCh;have HC:=qH ecR;obtain⟨gb,egb⟩:=nm w.heap.size;obtain⟨w1,e1⟩:=nm (w.alloc (.cells #[.string p,.slice ha hn hcap,.slice ba n bcap] 27));have x1:Ext w w1:=xAX e1;have hB1:=bNX egb e1;have H1:=qH (nIX x1 hB1);have r0:=hB1.c0;have r1:=hB1.c1;have r2:=hB1.c2;clear hhn hh hbn h hf hnb hbs hB ecR x1 hB1;go_enter Tryz.func81,Tryz.ntmps81;go_wp2_with fail
 clear e1;refine(HCh.out w1 H1.out.1).mono ?_;rintro e w2 ⟨v2,rfl,hk2,rfl⟩;have H2:=qH (nIX (H1.out.1.trans hk2) (H1.out.2.ext hk2));by_cases hc:cR=0
 ·have HC0:=qH hc;subst hc;have q0:w2.cell? ⟨gb,0,none⟩=some (.string p):=hk2.cell r0 id;have q1:w2.cell? ⟨gb,1,none⟩=some (.slice ha hn hcap):=hk2.cell r1 id;have q2:w2.cell? ⟨gb,2,none⟩=some (.slice ba n bcap):=hk2.cell r2 id;clear hk2 r0 r1 r2;go_wp2_with fail
  refine(HVa.out w2 H2.out.1).mono ?_;rintro e w3 ⟨v3,rfl,hk3,na,nc,rfl,hnc,hna⟩;obtain⟨nv,env⟩:=nm ((aC ls).length);rw [env]at hnv hnc ⊢;have H3:=qH (nIX (H2.out.1.trans hk3) (nIX (H2.out.2.ext hk3) (nIX hna env)));obtain⟨mb,emb⟩:=nm w3.heap.size;have hmk1:=fun W=>jT (P:=Tryz.prog) aI2 (c:= .slice none 0 0) rfl nv (by omega) (by unfold maxLen;omega) W;have hmk2:=fun W=>jT (P:=Tryz.prog) aI1 (c:= .slice none 0 0) rfl (nv+1) (by omega) (by unfold maxLen;omega) W;simp only [Nat.mul_one]at hmk1 hmk2;have hwn:IntKind.i64.wrap ((nv:Int)+1)=(nv:Int)+1:=IntWalk.i64_in _ (by omega);have ewn:((nv+1:Nat):Int)=(nv:Int)+1:=by omega
  simp only [ewn]at hmk2;clear ewn;have q3:∀o1 o2 o3,(((w3.alloc o1).alloc o2).alloc o3).cell? ⟨gb,2,none⟩=some (.slice ba n bcap):=fun o1 o2 o3=>by rw [((((H3.out.2.1).alloc o1).alloc o2).alloc o3).cell'];rfl
  clear hk3 q0 q1 q2 hnc hna;go_wp2;clear hmk1 hmk2 hwn q3 egb;obtain⟨x1,ex1⟩:=nm (w3.alloc (.cells #[.slice na nv nc,.slice none 0 0,.slice (some ⟨mb+1,0,none⟩) nv nv,.slice (some ⟨mb+1+1,0,none⟩) (nv+1) (nv+1)] 172));rw [ex1];obtain⟨x2,ex2⟩:=nm (x1.alloc (.cells (Array.replicate nv (.slice none 0 0)) 173));rw [ex2];obtain⟨x3,ex3⟩:=nm (x2.alloc (.cells (Array.replicate (nv+1) (.slice none 0 0)) 214));rw [ex3];have hs1:x1.heap.size=mb+1:=by rw [<-ex1,aI,emb]
  have hs2:x2.heap.size=mb+1+1:=by rw [<-ex2,aI,hs1]
  have k1:Ext w3 x1:=xAX ex1;have k2:Ext x1 x2:=xAX ex2;have k3:Ext x2 x3:=xAX ex3;have B1:=bNX emb ex1;have B2:Blk x2 (mb+1) (List.replicate nv (.slice none 0 0)) 173:=by have h:=Blk.new x1 (List.replicate nv (.slice none 0 0)) 173;rw [List.toArray_replicate,ex2,hs1]at h;exact h
  have B3:Blk x3 (mb+1+1) (List.replicate (nv+1) (.slice none 0 0)) 214:=by have h:=Blk.new x2 (List.replicate (nv+1) (.slice none 0 0)) 214;rw [List.toArray_replicate,ex3,hs2]at h;exact h
  have HS:=qH (show MatSt (fun _=>False) w3.heap.size w3 x3 mb (mb+1) (mb+1+1) (aC ls).length na nc [] (atL []) (fun _=> []) (.slice none 0 0) (fun _=> .slice none 0 0) (fun _=> .slice none 0 0)from by rw [env];exact MatSt.start (B1.ext (k2.trans k3)) (B2.ext k3) B3 ⟨by omega,by omega,by omega⟩ (Nat.le_refl _) (k1.trans (k2.trans k3)));obtain⟨ab,eab⟩:=nm (mb+1);rw [eab]at HS ⊢;obtain⟨sb,esb⟩:=nm (ab+1);rw [esb]at HS ⊢;have HG:=qH (nIX emb (nIX eab esb));clear ex1 ex2 ex3 hs1 hs2 k1 k2 k3 B1 B2 B3 emb eab esb;go_loopw [39] (fun jv wk=>aMf w3 mb ab sb na nc ls Es n jv wk) (fun jv _=>n- (intOf jv).toNat)
  case atStart=>exact⟨0,[],_,_,_,_,Nat.zero_le _,rfl,HS,qH MatIs.zero,qH ⟨Nat.le_refl _,fun _=>Nat.le_refl _⟩⟩
  case round=>
   obtain⟨i,Ts,tests,tv,av,sv,hi,rfl,hM,hIs,hFew⟩:=hrel;clear HS;by_cases hlt:i<n
   ·obtain⟨l,hl⟩:∃l,ls[i]?=some l:=⟨_,qG (by rw [<-HL.out.1];exact hlt)⟩;obtain⟨b,off,a2,cap2,eba,hGb,hbl,hLi,c0,c1,c2,c3,c4,c5,c6,c7⟩:=iC (HL.out.2.1.ext H3.out.1) hl;subst eba;replace c0:=hM.out.kp.cell c0 id;replace c1:=hM.out.kp.cell c1 id;replace c2:=hM.out.kp.cell c2 id;replace c3:=hM.out.kp.cell c3 id;replace c4:=hM.out.kp.cell c4 id;replace c5:=hM.out.kp.cell c5 id;replace c6:=hM.out.kp.cell c6 id;replace c7:=hM.out.kp.cell c7 id;obtain⟨m,em⟩:=nm ((aA l).length);rw [em]at c2;have HLi:=qH hl;have HLt:=qH (nIX hLi em);obtain⟨lb,elb⟩:=nm wr.heap.size;obtain⟨W1,eW1⟩:=nm (wr.alloc (.cells #[.int .i64 l.1,.string (bC l),.slice a2 m cap2,.int .i64 (gS l),.int .i64 (leftOf l).1,.string (leftOf l).2.1,.int .i64 (aN l).1,.string (aN l).2.1] 40));have HW:=qH (show Blk W1 lb [.int .i64 l.1,.string (bC l),.slice a2 m cap2,.int .i64 (gS l),.int .i64 (leftOf l).1,.string (leftOf l).2.1,.int .i64 (aN l).1,.string (aN l).2.1] 40/\Ext wr W1 from
     ⟨by rw [<-eW1,<-elb];exact Blk.new wr _ _,xAX eW1⟩)
    have HM1:=qH (hM.out.ext HW.out.2);have l0:=HW.out.1.c0;have HFew:=hFew;clear hGb hbl hLi hl em hi hM hFew;have i1:(i:Int)< (n:Int):=by omega
    by_cases hib:i<nb
    case' pos=>
     obtain⟨bv,hbv⟩:∃bv,bvs[i]?=some bv:=⟨_,qG (by rw [<-HBs.out.1];exact hib)⟩;obtain⟨yb,yo,eyb,yc⟩:=(HBs.out.2.1.ext (H3.out.1.trans HM1.out.kp)) i bv hbv;subst eyb;have i2:(i:Int)< (nb:Int):=by omega
     have HBV:=qH (show bvs.getD i (.pointer none)=bv from bH hbv)
    case' neg=>
     have hbs:=HBs.out.1;have hnb2:nb≤i:=by omega
     have HBV:=qH (show bvs.getD i (.pointer none)= .pointer none from by rw [List.getD_eq_getElem?_getD,List.getElem?_eq_none (by omega)];rfl);have i2:¬(i:Int)< (nb:Int):=by omega
     clear hbs hnb2
    all_goals
     rcases wD (r:=((p,hs,()),ls,())) HC.out (List.mem_of_getElem? HLi.out)with hk3|hk3|hk3
     ·have HKd:=qH hk3;have hb3:(l.1==1)=true:=by simp [hk3]
      have hm64:m≤64:=by rw [<-HLt.out.2];exact aMk HC.out (List.mem_of_getElem? HLi.out) (by omega)
      have HLaid:=qH (show ∀W,Ext w3 W->Calls Tryz.prog 117 #[.agg #[.string (bC l),.slice a2 m cap2],bvs.getD i (.pointer none),.slice na nv nc] W (RetN W fun w' v=>∃va vc rb iv S',v= .agg #[.slice va (aU (aC ls) (aA l)).length vc,.pointer (some ⟨rb,0,none⟩)]/\Fast W.heap.size w'.heap.size w' fun X=>TableAt S' X va rb iv (aU (aC ls) (aA l)) (dL (aC ls) (aA l) (cE Es ls i)))from fun W hW=>by
       obtain⟨Sb,hBb⟩:=HBs.out.2.2 i;have er:cE Es ls i=gR (bS (Es i) (bC l)):=by unfold cE;rw [HLi.out];rfl
       rw [er];exact aC2 (hBb.ext (H3.out.1.trans hW)) HLt.out.2.symm (HLt.out.1.terms.kp hW fun _ _ h=>h) hm64 env.symm (H3.out.2.2.1.ext hW) (dK ls) (by omega))
      rw [HBV.out]at HLaid;have HJ:=qH (show ∀w',Ext W1 w'->(fun w':World=>w'.cell? ⟨lb,1,none⟩=some (.string (bC l))/\w'.cell? ⟨lb,2,none⟩=some (.slice a2 m cap2)/\w'.cell? ⟨mb,0,none⟩=some (.slice na nv nc)) w' from fun w' hw'=>by have hb:=HW.out.1.ext hw';exact⟨by rw [hb.cell'];rfl,by rw [hb.cell'];rfl,by rw [(HM1.out.box.ext hw').cell',env];rfl⟩);have hvl:=nY (ts:=aA l) (dK ls);rw [HLt.out.2]at hvl;rw [hk3]at l0;clear hk3;go_wp2;clear eW1;refine aY (fun w':World=>w'.cell? ⟨lb,1,none⟩=some (.string (bC l))/\w'.cell? ⟨lb,2,none⟩=some (.slice a2 m cap2)/\w'.cell? ⟨mb,0,none⟩=some (.slice na nv nc)) [9] (by kernel_rfl) (HJ.out _ (Kp.refl W1).drew) (fun hHeld=>?_);refine eFX 0 ?_;refine eIX 1 ?_;refine eFX 2 ?_;refine eFX 3 ?_;refine eFX 4 ?_;refine eFX 5 ?_;refine eIX 6 ?_;refine wY (i:=7) (k:=8) ?_ ?_
      ·refine eCX 7 fun K hK=>?_;go_simp
       (refine(HLaid.out _ (by first|exact HM1.out.kp.trans (Kp.refl W1).drew|exact HM1.out.kp.trans (((Kp.refl W1).drew).alloc _))).mono ?_;rintro e w4 ⟨v4,rfl,hk4,va,vc,rb,ivt,St,rfl,hft⟩;have X1:=qH (nIX (show Ext W1 w4 from(by first|exact((Kp.refl W1).drew).trans hk4|exact(((Kp.refl W1).drew).alloc _).trans hk4)) (nIX hk4 hft));clear hk4 hft)
       go_wp2_with fail
       refine hK.out _ _ (HJ.out _ X1.out.1) fun hHeld=>?_;clear hK K;refine eTX 8 fun K hK=>?_;go_simp;refine hK.out _ _ (by first|exact HJ.out _ (((Kp.refl W1).drew).alloc _)|exact HJ.out _ (X1.out.1.alloc _)) fun hHeld=>?_;clear hK K;refine eLX 9 fun K hK=>?_
       (first|(have hB9:=qH (show Blk w4 W1.heap.size [.slice none 0 0,.pointer none] 175 from(Blk.new W1.drew [.slice none 0 0,.pointer none] 175).ext X1.out.2.1);have c90:w4.cell? ⟨W1.heap.size,0,none⟩=some (.slice none 0 0):=(by rw [hB9.out.cell'];rfl);have c91:w4.cell? ⟨W1.heap.size,1,none⟩=some (.pointer none):=(by rw [hB9.out.cell'];rfl);have f90:=hB9.out.free 0;have f91:=hB9.out.free 1)|skip)
       go_simp;refine hK.out _ _ ?_;clear hK K;refine aL (by kernel_rfl) ?_ _;clear hHeld;first
        | (have HX5:=qH (vW (x:= .slice va (aU (aC ls) (aA l)).length vc) (y:= .pointer (some ⟨rb,0,none⟩)) X1.out.1 X1.out.2.2 (Kp.refl (F:=fun _=>False) W1).drew.size X1.out.2.1.size)
           obtain⟨tg,etg⟩:=nm w4.heap.size;obtain⟨W5,eW5⟩:=nm (w4.alloc (.cells #[.slice va (aU (aC ls) (aA l)).length vc,.pointer (some ⟨rb,0,none⟩)] 175));rw [eW5]at HX5 ⊢;rw [etg]at HX5 ⊢;clear eW5 etg)
        | (have HX5:=qH (vV (x:= .slice va (aU (aC ls) (aA l)).length vc) (y:= .pointer (some ⟨rb,0,none⟩)) hB9.out X1.out.1 X1.out.2.2 (Nat.le_refl _) (by show W1.heap.size< (W1.alloc _).heap.size;rw [aI];exact Nat.lt_succ_self _) X1.out.2.1.size)
           clear c90 c91 f90 f91;obtain⟨tg,etg⟩:=nm W1.heap.size;obtain⟨W5,eW5⟩:=nm ((w4.setCell ⟨W1.heap.size,0,none⟩ (.slice va (aU (aC ls) (aA l)).length vc)).setCell ⟨W1.heap.size,1,none⟩ (.pointer (some ⟨rb,0,none⟩)));rw [eW5]at HX5 ⊢;have HTG:=qH etg;rw [etg]at HX5 ⊢;clear eW5)
       have H5:=qH (show ∃a,W1.heap.size≤a/\a≤W5.heap.size/\Ext W1 W5/\Blk W5 tg [.slice va (aU (aC ls) (aA l)).length vc,.pointer (some ⟨rb,0,none⟩)] 175/\Fast a W5.heap.size W5 fun X=>TableAt St X va rb ivt (aU (aC ls) (aA l)) (dL (aC ls) (aA l) (cE Es ls i))from by
        obtain⟨a,h1,h2⟩:=HX5.out;refine⟨a,?_,h2⟩;first
         |exact h1
         | (have h3:=HTG.out
            omega))
       clear HX5;obtain⟨a,ha1,ha2,hx5,hb5,hf5⟩:=H5.out;obtain⟨nV,enV⟩:=nm ((aU (aC ls) (aA l)).length);obtain⟨LLt,eLLt⟩:=nm (dL (aC ls) (aA l) (cE Es ls i));rw [eLLt]at hf5;have hLLt:LLt.length≤65536:=by
        obtain⟨Sb,hBb⟩:=HBs.out.2.2 i;have er:cE Es ls i=gR (bS (Es i) (bC l)):=by unfold cE;rw [HLi.out];rfl
        have h1:=uB (aC ls) (aA l) (cE Es ls i);rw [eLLt,er]at h1;refine Nat.le_trans h1 ?_;cases hfe:bS (Es i) (bC l)with
        |none=>exact Nat.zero_le _
        |some e=>exact(hBb.ok.all _ (List.mem_map.2 ⟨e,(cJ hfe).1,rfl⟩)).few
       have HLen:=qH (rI (z:=False) hf5.here.rows.q);have t1:=hb5.c1;have H6:=qH (nIX ha1 (nIX ha2 (nIX hx5 (nIX hb5 (nIX hf5 (nIX enV (nIX eLLt hLLt)))))));rw [enV]at hvl;clear ha1 ha2 hx5 hb5 hf5 H5 hLLt;go_wp2_with fail
       refine HLen.out.mono ?_;rintro e W6 ⟨v6,rfl,hk6,rfl,-⟩;have hx6:=Kp.fq hk6;obtain⟨nL,enL⟩:=nm LLt.length;rw [enL];have HX6:=qH (nIX hx6 enL);by_cases h0:nL=0
       ·subst h0;have HNone:=qH (show ∀V,¬cP ls (cE Es ls) V from fun V hV=>by
         have h1:=((xK (r:=((p,hs,()),ls,())) HC.out).1 hV).2 i l HLi.out;unfold kC at h1;rw [if_pos HKd.out]at h1;have h2:=H6.out.2.2.2.2.2.2.1;have h3:dL (aC ls) (aA l) (cE Es ls i)= []:=h2.trans (List.eq_nil_of_length_eq_zero HX6.out.2);exact absurd (show _∈([]:aD)from h3▸h1) (by simp))
        clear hk6 hx6 enL t1;go_wp2;go_ret;exact RetN.mk (H3.out.1.trans (HM1.out.kp.trans (H6.out.2.2.1.trans HX6.out.1))) (.inl ⟨rfl,.inr HNone.out⟩)
       ·have hn0:((nL:Int)==0)=false:=by simp;omega
        have HN0:=qH h0;have u0:W6.cell? ⟨tg,0,none⟩=some (.slice va nV vc):=by rw [(H6.out.2.2.2.1.ext hx6).cell',<-H6.out.2.2.2.2.2.1];rfl
        have u1:=(H6.out.2.2.2.1.ext hx6).c1;have HM6:=qH (HM1.out.ext (H6.out.2.2.1.trans hx6));have hFw:=HFew.out;by_cases hv0:nV=0
        ·subst hv0;have hvn:aU (aC ls) (aA l)= []:=List.eq_nil_of_length_eq_zero H6.out.2.2.2.2.2.1;have HP:=qH (MatIs.none hIs.out HLi.out HKd.out hvn (by
          have h2:=H6.out.2.2.2.2.2.2.1;rw [h2,HX6.out.2];exact Nat.pos_of_ne_zero HN0.out))
         clear hk6 hx6 enL t1 hvn h0;go_wp2_with fail
         refine(aCe (w:=W6) (mb:=mb) (rb:=rb) (vc:=vc) (va:=va)).mono ?_;rintro e W7 ⟨rfl,hx7⟩;have HM7:=qH (HM6.out.ext hx7);have HFx:=qH (show Ts.length≤i+1/\∀k,(tests k).length≤i+1 from⟨by omega,fun k=>by have:=hFw.2 k;omega⟩);clear hx7 hFw;go_wp2;go_roundw
         case rel=>exact⟨i+1,Ts,tests,tv,av,sv,by omega,nMX,HM7,HP,HFx⟩
         case measure=>simp [intOf];omega
        ·have HV0:=qH hv0;have HT:=qH (sU HM1.out (W2:=W6) (a:=a) (P:=fun X=>TableAt St X va rb ivt (aU (aC ls) (aA l)) LLt) H6.out.1 ((H6.out.2.2.2.2.1.ext hx6).mono (Nat.le_refl _) hx6.size));clear hk6 hx6 enL t1 h0;go_wp2_with fail
         refine(aGs HM6.out HT.out (fun _ h=>h.elim) H6.out.2.2.2.2.2.1.symm (by omega) (by omega) (fun v hv=>(dQ.1 hv).1) ((List.nodup_range).filter _) (fun x hx=>by have h2:=H6.out.2.2.2.2.2.2.1;rw [<-h2]at hx;rw [uA hx];exact H6.out.2.2.2.2.2.1) H6.out.2.2.2.2.2.2.2 (by omega) (by omega) (fun v=>by have:=aG7 Ts v;omega)).mono ?_;rintro e W7 ⟨rfl,tb,tv2,av2,hM7⟩;have HM7:=qH (hM7.congr (ats':=atL (Ts++ [⟨tb,aU (aC ls) (aA l),LLt⟩])) (fun v _=>by rw [aDy]) (fun _ _=>rfl));have HP:=qH (MatIs.put hIs.out HLi.out HKd.out (fun e=>HV0.out (by rw [<-H6.out.2.2.2.2.2.1,e];rfl)) (by have h2:=H6.out.2.2.2.2.2.2.1;rw [h2,HX6.out.2];exact Nat.pos_of_ne_zero HN0.out) (t:=⟨tb,aU (aC ls) (aA l),LLt⟩) rfl H6.out.2.2.2.2.2.2.1.symm);have HFx:=qH (show(Ts++ [(⟨tb,aU (aC ls) (aA l),LLt⟩:TrieZ)]).length≤i+1/\∀k,(tests k).length≤i+1 from⟨by rw [List.length_append,List.length_singleton];omega,fun k=>by have:=hFw.2 k;omega⟩);clear hM7 hFw;go_wp2;go_roundw
         case rel=>exact⟨i+1,_,tests,tv2,av2,sv,by omega,nMX,HM7,HP,HFx⟩
         case measure=>simp [intOf];omega
      ·refine eCX 8 fun K hK=>?_;go_simp;refine hK.out _ _ (by first|exact HJ.out _ (((Kp.refl W1).drew).alloc _)|exact HJ.out _ (X1.out.1.alloc _)) fun hHeld=>?_;clear hK K;refine eTX 7 fun K hK=>?_;go_simp
       (refine(HLaid.out _ (by first|exact HM1.out.kp.trans (Kp.refl W1).drew|exact HM1.out.kp.trans (((Kp.refl W1).drew).alloc _))).mono ?_;rintro e w4 ⟨v4,rfl,hk4,va,vc,rb,ivt,St,rfl,hft⟩;have X1:=qH (nIX (show Ext W1 w4 from(by first|exact((Kp.refl W1).drew).trans hk4|exact(((Kp.refl W1).drew).alloc _).trans hk4)) (nIX hk4 hft));clear hk4 hft)
       go_wp2_with fail
       refine hK.out _ _ (HJ.out _ X1.out.1) fun hHeld=>?_;clear hK K;refine eLX 9 fun K hK=>?_
       (first|(have hB9:=qH (show Blk w4 W1.heap.size [.slice none 0 0,.pointer none] 175 from(Blk.new W1.drew [.slice none 0 0,.pointer none] 175).ext X1.out.2.1);have c90:w4.cell? ⟨W1.heap.size,0,none⟩=some (.slice none 0 0):=(by rw [hB9.out.cell'];rfl);have c91:w4.cell? ⟨W1.heap.size,1,none⟩=some (.pointer none):=(by rw [hB9.out.cell'];rfl);have f90:=hB9.out.free 0;have f91:=hB9.out.free 1)|skip)
       go_simp;refine hK.out _ _ ?_;clear hK K;refine aL (by kernel_rfl) ?_ _;clear hHeld;first
        | (have HX5:=qH (vW (x:= .slice va (aU (aC ls) (aA l)).length vc) (y:= .pointer (some ⟨rb,0,none⟩)) X1.out.1 X1.out.2.2 (Kp.refl (F:=fun _=>False) W1).drew.size X1.out.2.1.size)
           obtain⟨tg,etg⟩:=nm w4.heap.size;obtain⟨W5,eW5⟩:=nm (w4.alloc (.cells #[.slice va (aU (aC ls) (aA l)).length vc,.pointer (some ⟨rb,0,none⟩)] 175));rw [eW5]at HX5 ⊢;rw [etg]at HX5 ⊢;clear eW5 etg)
        | (have HX5:=qH (vV (x:= .slice va (aU (aC ls) (aA l)).length vc) (y:= .pointer (some ⟨rb,0,none⟩)) hB9.out X1.out.1 X1.out.2.2 (Nat.le_refl _) (by show W1.heap.size< (W1.alloc _).heap.size;rw [aI];exact Nat.lt_succ_self _) X1.out.2.1.size)
           clear c90 c91 f90 f91;obtain⟨tg,etg⟩:=nm W1.heap.size;obtain⟨W5,eW5⟩:=nm ((w4.setCell ⟨W1.heap.size,0,none⟩ (.slice va (aU (aC ls) (aA l)).length vc)).setCell ⟨W1.heap.size,1,none⟩ (.pointer (some ⟨rb,0,none⟩)));rw [eW5]at HX5 ⊢;have HTG:=qH etg;rw [etg]at HX5 ⊢;clear eW5)
       have H5:=qH (show ∃a,W1.heap.size≤a/\a≤W5.heap.size/\Ext W1 W5/\Blk W5 tg [.slice va (aU (aC ls) (aA l)).length vc,.pointer (some ⟨rb,0,none⟩)] 175/\Fast a W5.heap.size W5 fun X=>TableAt St X va rb ivt (aU (aC ls) (aA l)) (dL (aC ls) (aA l) (cE Es ls i))from by
        obtain⟨a,h1,h2⟩:=HX5.out;refine⟨a,?_,h2⟩;first
         |exact h1
         | (have h3:=HTG.out
            omega))
       clear HX5;obtain⟨a,ha1,ha2,hx5,hb5,hf5⟩:=H5.out;obtain⟨nV,enV⟩:=nm ((aU (aC ls) (aA l)).length);obtain⟨LLt,eLLt⟩:=nm (dL (aC ls) (aA l) (cE Es ls i));rw [eLLt]at hf5;have hLLt:LLt.length≤65536:=by
        obtain⟨Sb,hBb⟩:=HBs.out.2.2 i;have er:cE Es ls i=gR (bS (Es i) (bC l)):=by unfold cE;rw [HLi.out];rfl
        have h1:=uB (aC ls) (aA l) (cE Es ls i);rw [eLLt,er]at h1;refine Nat.le_trans h1 ?_;cases hfe:bS (Es i) (bC l)with
        |none=>exact Nat.zero_le _
        |some e=>exact(hBb.ok.all _ (List.mem_map.2 ⟨e,(cJ hfe).1,rfl⟩)).few
       have HLen:=qH (rI (z:=False) hf5.here.rows.q);have t1:=hb5.c1;have H6:=qH (nIX ha1 (nIX ha2 (nIX hx5 (nIX hb5 (nIX hf5 (nIX enV (nIX eLLt hLLt)))))));rw [enV]at hvl;clear ha1 ha2 hx5 hb5 hf5 H5 hLLt;go_wp2_with fail
       refine HLen.out.mono ?_;rintro e W6 ⟨v6,rfl,hk6,rfl,-⟩;have hx6:=Kp.fq hk6;obtain⟨nL,enL⟩:=nm LLt.length;rw [enL];have HX6:=qH (nIX hx6 enL);by_cases h0:nL=0
       ·subst h0;have HNone:=qH (show ∀V,¬cP ls (cE Es ls) V from fun V hV=>by
         have h1:=((xK (r:=((p,hs,()),ls,())) HC.out).1 hV).2 i l HLi.out;unfold kC at h1;rw [if_pos HKd.out]at h1;have h2:=H6.out.2.2.2.2.2.2.1;have h3:dL (aC ls) (aA l) (cE Es ls i)= []:=h2.trans (List.eq_nil_of_length_eq_zero HX6.out.2);exact absurd (show _∈([]:aD)from h3▸h1) (by simp))
        clear hk6 hx6 enL t1;go_wp2;go_ret;exact RetN.mk (H3.out.1.trans (HM1.out.kp.trans (H6.out.2.2.1.trans HX6.out.1))) (.inl ⟨rfl,.inr HNone.out⟩)
       ·have hn0:((nL:Int)==0)=false:=by simp;omega
        have HN0:=qH h0;have u0:W6.cell? ⟨tg,0,none⟩=some (.slice va nV vc):=by rw [(H6.out.2.2.2.1.ext hx6).cell',<-H6.out.2.2.2.2.2.1];rfl
        have u1:=(H6.out.2.2.2.1.ext hx6).c1;have HM6:=qH (HM1.out.ext (H6.out.2.2.1.trans hx6));have hFw:=HFew.out;by_cases hv0:nV=0
        ·subst hv0;have hvn:aU (aC ls) (aA l)= []:=List.eq_nil_of_length_eq_zero H6.out.2.2.2.2.2.1;have HP:=qH (MatIs.none hIs.out HLi.out HKd.out hvn (by
          have h2:=H6.out.2.2.2.2.2.2.1;rw [h2,HX6.out.2];exact Nat.pos_of_ne_zero HN0.out))
         clear hk6 hx6 enL t1 hvn h0;go_wp2_with fail
         refine(aCe (w:=W6) (mb:=mb) (rb:=rb) (vc:=vc) (va:=va)).mono ?_;rintro e W7 ⟨rfl,hx7⟩;have HM7:=qH (HM6.out.ext hx7);have HFx:=qH (show Ts.length≤i+1/\∀k,(tests k).length≤i+1 from⟨by omega,fun k=>by have:=hFw.2 k;omega⟩);clear hx7 hFw;go_wp2;go_roundw
         case rel=>exact⟨i+1,Ts,tests,tv,av,sv,by omega,nMX,HM7,HP,HFx⟩
         case measure=>simp [intOf];omega
        ·have HV0:=qH hv0;have HT:=qH (sU HM1.out (W2:=W6) (a:=a) (P:=fun X=>TableAt St X va rb ivt (aU (aC ls) (aA l)) LLt) H6.out.1 ((H6.out.2.2.2.2.1.ext hx6).mono (Nat.le_refl _) hx6.size));clear hk6 hx6 enL t1 h0;go_wp2_with fail
         refine(aGs HM6.out HT.out (fun _ h=>h.elim) H6.out.2.2.2.2.2.1.symm (by omega) (by omega) (fun v hv=>(dQ.1 hv).1) ((List.nodup_range).filter _) (fun x hx=>by have h2:=H6.out.2.2.2.2.2.2.1;rw [<-h2]at hx;rw [uA hx];exact H6.out.2.2.2.2.2.1) H6.out.2.2.2.2.2.2.2 (by omega) (by omega) (fun v=>by have:=aG7 Ts v;omega)).mono ?_;rintro e W7 ⟨rfl,tb,tv2,av2,hM7⟩;have HM7:=qH (hM7.congr (ats':=atL (Ts++ [⟨tb,aU (aC ls) (aA l),LLt⟩])) (fun v _=>by rw [aDy]) (fun _ _=>rfl));have HP:=qH (MatIs.put hIs.out HLi.out HKd.out (fun e=>HV0.out (by rw [<-H6.out.2.2.2.2.2.1,e];rfl)) (by have h2:=H6.out.2.2.2.2.2.2.1;rw [h2,HX6.out.2];exact Nat.pos_of_ne_zero HN0.out) (t:=⟨tb,aU (aC ls) (aA l),LLt⟩) rfl H6.out.2.2.2.2.2.2.1.symm);have HFx:=qH (show(Ts++ [(⟨tb,aU (aC ls) (aA l),LLt⟩:TrieZ)]).length≤i+1/\∀k,(tests k).length≤i+1 from⟨by rw [List.length_append,List.length_singleton];omega,fun k=>by have:=hFw.2 k;omega⟩);clear hM7 hFw;go_wp2;go_roundw
         case rel=>exact⟨i+1,_,tests,tv2,av2,sv,by omega,nMX,HM7,HP,HFx⟩
         case measure=>simp [intOf];omega
     ·have HKd:=qH hk3;have hb3:(l.1==1)=false:=by simp [hk3]
      have hb4:(l.1==2)=true:=by simp [hk3]
      have hm64:m≤64:=by rw [<-HLt.out.2];exact aMk HC.out (List.mem_of_getElem? HLi.out) (by omega)
      have HLaid:=qH (show ∀W,Ext w3 W->Calls Tryz.prog 117 #[.agg #[.string (bC l),.slice a2 m cap2],bvs.getD i (.pointer none),.slice na nv nc] W (RetN W fun w' v=>∃va vc rb iv S',v= .agg #[.slice va (aU (aC ls) (aA l)).length vc,.pointer (some ⟨rb,0,none⟩)]/\Fast W.heap.size w'.heap.size w' fun X=>TableAt S' X va rb iv (aU (aC ls) (aA l)) (dL (aC ls) (aA l) (cE Es ls i)))from fun W hW=>by
       obtain⟨Sb,hBb⟩:=HBs.out.2.2 i;have er:cE Es ls i=gR (bS (Es i) (bC l)):=by unfold cE;rw [HLi.out];rfl
       rw [er];exact aC2 (hBb.ext (H3.out.1.trans hW)) HLt.out.2.symm (HLt.out.1.terms.kp hW fun _ _ h=>h) hm64 env.symm (H3.out.2.2.1.ext hW) (dK ls) (by omega))
      rw [HBV.out]at HLaid;obtain⟨kx,ekx⟩:∃kx:Nat,jU (aC ls) l+1=(kx:Int):=⟨(jU (aC ls) l+1).toNat,by have:=aG2 (N:=aC ls) (l:=l);omega⟩;have hkn:kx<nv+1:=by have:=aG1 (N:=aC ls) (l:=l);omega
      have HK:=qH (nIX ekx hkn);have HJ:=qH (show ∀w',Ext W1 w'->(fun w':World=>w'.cell? ⟨lb,1,none⟩=some (.string (bC l))/\w'.cell? ⟨lb,2,none⟩=some (.slice a2 m cap2)/\w'.cell? ⟨mb,0,none⟩=some (.slice na nv nc)) w' from fun w' hw'=>by have hb:=HW.out.1.ext hw';exact⟨by rw [hb.cell'];rfl,by rw [hb.cell'];rfl,by rw [(HM1.out.box.ext hw').cell',env];rfl⟩);have hvl:=nY (ts:=aA l) (dK ls);rw [HLt.out.2]at hvl;rw [hk3]at l0;clear ekx hkn hk3;go_wp2;clear eW1;refine aY (fun w':World=>w'.cell? ⟨lb,1,none⟩=some (.string (bC l))/\w'.cell? ⟨lb,2,none⟩=some (.slice a2 m cap2)/\w'.cell? ⟨mb,0,none⟩=some (.slice na nv nc)) [10] (by kernel_rfl) (HJ.out _ (Kp.refl W1).drew) (fun hHeld=>?_);refine eFX 0 ?_;refine eFX 1 ?_;refine eIX 2 ?_;refine eFX 3 ?_;refine eFX 4 ?_;refine eFX 5 ?_;refine eFX 6 ?_;refine eIX 7 ?_;refine eTX 8 fun K hK=>?_;go_simp
      (refine(HLaid.out _ (HM1.out.kp.trans (Kp.refl W1).drew)).mono ?_;rintro e w4 ⟨v4,rfl,hk4,va,vc,rb,ivt,St,rfl,hft⟩;have X1:=qH (nIX (show Ext W1 w4 from((Kp.refl W1).drew).trans hk4) (nIX hk4.size hft));clear hk4 hft)
      go_wp2_with fail
      refine hK.out _ _ (HJ.out _ X1.out.1) fun hHeld=>?_;clear hK K;refine eTX 9 fun K hK=>?_;go_simp
      (refine(aCu (nv:=nv) (lo:=W1.drew.heap.size) X1.out.2.2 rfl (by omega) (fun v hv=>(by have:=(dQ.1 hv).1;omega)) (by omega) X1.out.2.1).mono ?_;rintro e w5 ⟨v5,rfl,hk5,t,rfl,hlast,hask,hfast⟩;have X2:=qH (nIX hk5 (nIX hlast (nIX hask hfast)));clear hk5 hlast hask hfast)
      go_wp2_with fail
      refine hK.out _ _ (HJ.out _ (X1.out.1.trans X2.out.1)) fun hHeld=>?_;clear hK K;refine eLX 10 fun K hK=>?_;go_simp
      (refine(aHb (k:=kx) (L:=t.last) (HM1.out.ext (X1.out.1.trans X2.out.1)) rfl (by rw [X2.out.2.1];have h8:=HK.out.1;unfold jU at h8;rw [if_pos HKd.out]at h8;exact h8) (by rw [env];exact HK.out.2) (by omega) (vU (P:=fun nv W=>TestOk W nv t) HM1.out (X1.out.1.trans X2.out.1) X2.out.2.2.2 env (Nat.le_trans X1.out.2.1 X2.out.1.size)) (by have:=HFew.out.2 kx;omega)).mono ?_;rintro e w6 ⟨rfl,sv2,hM5⟩;have X5:=qH hM5;clear hM5)
      go_wp2_with fail
      refine hK.out _ _ ?_;clear hK K;refine aL (by kernel_rfl) ?_ _;have hFw:=HFew.out;have HP:=qH (MatIs.add hIs.out HLi.out (by rw [HKd.out];decide) (t:=t) (k:=kx) (by rw [env];have:=HK.out.2;omega) (by have:=HK.out.1;omega) fun V hV=>by rw [X2.out.2.2.1 V,aKq dU aA5];unfold kC;rw [if_neg (by rw [HKd.out];decide),if_pos HKd.out]);have HFx:=qH (show Ts.length≤i+1/\∀k,(dD tests kx (tests kx++ [t]) k).length≤i+1 from⟨by omega,fun k=>by
       by_cases e:k=kx
       ·rw [e,upd_same,List.length_append,List.length_singleton];have:=hFw.2 kx;omega
       ·rw [aH _ _ e];have:=hFw.2 k;omega⟩)
      clear hFw;go_wp2;go_roundw
      case rel=>exact⟨i+1,Ts,_,tv,av,sv2,by omega,nMX,X5,HP,HFx⟩
      case measure=>simp [intOf];omega
     ·have HCm:=qH (fun W (hW:Ext w3 W)=>aA4 (a:=a2) (m:=m) (cap:=cap2) (nc:=nc) (aC ls) 3 (bC l) (gS l) (leftOf l).1 (leftOf l).2.1 (aN l).1 (aN l).2.1 H3.out.2.2.2.symm (H3.out.2.2.1.ext hW) (by omega));have HKd:=qH hk3;have hb3:(l.1==1)=false:=by simp [hk3]
      have hb4:(l.1==2)=false:=by simp [hk3]
      have hb5:(l.1==3)=true:=by simp [hk3]
      obtain⟨kx,eK⟩:∃kx:Nat,jU (aC ls) l+1=(kx:Int):=⟨(jU (aC ls) l+1).toNat,by have:=aG2 (N:=aC ls) (l:=l);omega⟩;have hkxn:kx<nv+1:=by have:=aG1 (N:=aC ls) (l:=l);omega
      have HK:=qH (nIX eK hkxn);have HJ:=qH (show ∀w',Ext W1 w'->(fun w':World=>w'.cell? ⟨lb,0,none⟩=some (.int .i64 3)/\w'.cell? ⟨lb,1,none⟩=some (.string (bC l))/\w'.cell? ⟨lb,2,none⟩=some (.slice a2 m cap2)/\w'.cell? ⟨lb,3,none⟩=some (.int .i64 (gS l))/\w'.cell? ⟨lb,4,none⟩=some (.int .i64 (leftOf l).1)/\w'.cell? ⟨lb,5,none⟩=some (.string (leftOf l).2.1)/\w'.cell? ⟨lb,6,none⟩=some (.int .i64 (aN l).1)/\w'.cell? ⟨lb,7,none⟩=some (.string (aN l).2.1)/\w'.cell? ⟨mb,0,none⟩=some (.slice na nv nc)) w' from fun w' hw'=>by have hb:=HW.out.1.ext hw';rw [hk3]at hb;exact⟨by rw [hb.cell'];rfl,by rw [hb.cell'];rfl,by rw [hb.cell'];rfl,by rw [hb.cell'];rfl,by rw [hb.cell'];rfl,by rw [hb.cell'];rfl,by rw [hb.cell'];rfl,by rw [hb.cell'];rfl,by rw [(HM1.out.box.ext hw').cell',env];rfl⟩);rw [hk3]at l0;clear eK hkxn hk3;go_wp2;clear eW1;refine aY (fun w':World=>w'.cell? ⟨lb,0,none⟩=some (.int .i64 3)/\w'.cell? ⟨lb,1,none⟩=some (.string (bC l))/\w'.cell? ⟨lb,2,none⟩=some (.slice a2 m cap2)/\w'.cell? ⟨lb,3,none⟩=some (.int .i64 (gS l))/\w'.cell? ⟨lb,4,none⟩=some (.int .i64 (leftOf l).1)/\w'.cell? ⟨lb,5,none⟩=some (.string (leftOf l).2.1)/\w'.cell? ⟨lb,6,none⟩=some (.int .i64 (aN l).1)/\w'.cell? ⟨lb,7,none⟩=some (.string (aN l).2.1)/\w'.cell? ⟨mb,0,none⟩=some (.slice na nv nc)) [7] (by kernel_rfl) (HJ.out _ (Kp.refl W1).drew) (fun hHeld=>?_);refine eFX 0 ?_;refine eIX 1 ?_;refine eFX 2 ?_;refine eFX 3 ?_;refine eFX 4 ?_;refine eIX 5 ?_;refine eTX 6 fun K hK=>?_;go_simp
      (refine(HCm.out _ (HM1.out.kp.trans (Kp.refl W1).drew)).mono ?_;rintro e w4 ⟨v4,rfl,hk4,t,rfl,hlast,hask,hfast⟩;have X1:=qH (nIX (show Ext W1 w4 from((Kp.refl W1).drew).trans hk4) (nIX hlast (nIX hask (nIX hk4.size hfast))));clear hk4 hlast hask hfast)
      go_wp2_with fail
      refine hK.out _ _ (HJ.out _ X1.out.1) fun hHeld=>?_;clear hK K;refine eLX 7 fun K hK=>?_;go_simp
      (refine(aHb (k:=kx) (L:=t.last) (HM1.out.ext X1.out.1) rfl (by rw [X1.out.2.1,rM (t:=leftOf l),rM (t:=aN l)];have h8:=HK.out.1;unfold jU at h8;rw [if_neg (by rw [HKd.out];decide)]at h8;exact h8) (by rw [env];exact HK.out.2) (by omega) (vU (P:=fun nv W=>TestOk W nv t) HM1.out X1.out.1 X1.out.2.2.2.2 env X1.out.2.2.2.1) (by have:=HFew.out.2 kx;omega)).mono ?_;rintro e w5 ⟨rfl,sv2,hM5⟩;have X5:=qH hM5;clear hM5)
      go_wp2_with fail
      refine hK.out _ _ ?_;clear hK K;refine aL (by kernel_rfl) ?_ _;have hFw:=HFew.out;have HP:=qH (MatIs.add hIs.out HLi.out (by rw [HKd.out];decide) (t:=t) (k:=kx) (by rw [env];have:=HK.out.2;omega) (by have:=HK.out.1;omega) fun V hV=>by rw [X1.out.2.2.1 V,aGv];unfold kC;rw [if_neg (by rw [HKd.out];decide),if_neg (by rw [HKd.out];decide)];have hs:=pT (r:=((p,hs,()),ls,())) HC.out (List.mem_of_getElem? HLi.out) HKd.out;rw [<-aCi (hs _ (.inl rfl)),<-aCi (hs _ (.inr rfl))]);have HFx:=qH (show Ts.length≤i+1/\∀k,(dD tests kx (tests kx++ [t]) k).length≤i+1 from⟨by omega,fun k=>by
       by_cases e:k=kx
       ·rw [e,upd_same,List.length_append,List.length_singleton];have:=hFw.2 kx;omega
       ·rw [aH _ _ e];have:=hFw.2 k;omega⟩)
      clear hFw;go_wp2;go_roundw
      case rel=>exact⟨i+1,Ts,_,tv,av,sv2,by omega,nMX,X5,HP,HFx⟩
      case measure=>simp [intOf];omega
   ·obtain rfl:n=i:=by omega
    have hM2:=hM.out;obtain⟨A,hA⟩:=hM2.done (by first|omega|rw [env]) (by have:=hFew.out.1;omega) (fun k=>by have:=hFew.out.2 k;omega);have hx:Ext w wr:=H3.out.1.trans hM2.kp;have HFin:=qH (show Ext w wr/\aGf w wr ((p,hs,()),ls,()) Es (.pointer (some ⟨mb,0,none⟩))from
     ⟨hx,.inr ⟨mb,Ts,tests,A,rfl,HC.out,by rw [<-HL.out.1];exact hIs.out,hA.mono H3.out.1.size (Nat.le_refl _)⟩⟩)
    clear hM2 hA hx hM hIs hFew hi hlt;go_wp2;go_ret;exact RetN.mk HFin.out.1 HFin.out.2
 ·have hc':((cR:Int)==0)=false:=by simp;omega
  go_wp2;go_ret;exact RetN.mk H2.out.1 (.inl ⟨rfl,.inl (by rw [HC.out];exact hc)⟩)
end
section
open Go.RowKit Go.Shelf
theorem aDd{C:WCtx}(hC:C.Ok){l n:Nat}(hY:C.Yields l n):∀(m v:Nat),v+m=C.M.N.length->C.From v
 |0,v,h=>pQ hC hY (by omega) fun h2=>by omega
 |m+1,v,h=>pQ hC hY (by omega) fun _=>aDd hC hY m (v+1) (by omega)
def aHe(J Jx:(Nat->Prop)->List XB->World->Prop)(Lall:aD)(e:Ending)(W':World):Prop:=
 (∃v,e= .returned v)/\∃T W1,Kp T W1 W'/\((∃xs:List XB,xs.map Prod.snd=Lall/\J T xs W1)\/ (∃pre:List XB,pre.map Prod.snd<+:Lall/\Jx T pre W1))
structure AllAt(M:MatchZ)(W:World)(wb mb rb:Nat)(yv:Value)(m:Nat)(cv:Value)(cb:Nat->Nat)(w:World):Prop where
 box:Blk w wb [.pointer (some ⟨mb,0,none⟩),cv,.slice (some ⟨rb,0,none⟩) M.N.length M.N.length,yv] 186
 row:Blk w rb (strs (List.replicate M.N.length ⟨#[]⟩)) 9
 curs:Row w 188 1 cv m (xB cb m) (fun g=>W.heap.size≤g)
 cur:∀(j:Nat) t,j<m->M.Ts[j]?=some t->CurS w (cb j) t.tb [] (.slice none 0 0)/\W.heap.size≤cb j
 inj:∀i j,i<m->j<m->cb i=cb j->i=j
 kp:Ext W w
theorem AllAt.push{M:MatchZ}{W w w3 w4:World}{wb mb rb m cb3:Nat}{yv cv lv:Value}{cb:Nat->Nat}{t:TrieZ}{e3:Array Value}(h:AllAt M W wb mb rb yv m cv cb w)(hlo:W.heap.size≤wb)(ht:M.Ts[m]?=some t)(h3:Ext w w3)(hn:w.heap.size≤cb3)(hc:CurAt w3 cb3 t.tb [] (.slice none 0 0) (fun k=>w.heap.size≤k))
 (hr:Row w4 188 1 lv (m+1) (xB cb m++ [.pointer (some ⟨cb3,0,none⟩)]) (fun g=>cv.ownBlock=some g\/ (w3.alloc (.cells e3 188)).heap.size≤g))(hk:Kp (fun g=>cv.ownBlock=some g) (w3.alloc (.cells e3 188)) w4):
 AllAt M W wb mb rb yv (m+1) lv (dD cb m cb3) (w4.setCell ⟨wb,1,none⟩ lv):=by
 obtain⟨t1,t2,t3,t4,t5,t6,t7,t8,t9⟩:=aGl;have x4:Ext w (w3.alloc (.cells e3 188)):=h3.alloc _;have own:∀g,cv.ownBlock=some g->∃cs,Blk w g cs 188:=fun g hg=>aQ h.curs hg;have kx:Kp (fun g=>cv.ownBlock=some g) w w4:=(Ext.kp x4).trans hk;have ks:Kp (fun k=>k=wb) w4 (w4.setCell ⟨wb,1,none⟩ lv):=kSa;have hsz:=h3.size;have hsW:=h.kp.size;have hbx:Blk w4 wb [.pointer (some ⟨mb,0,none⟩),cv,.slice (some ⟨rb,0,none⟩) M.N.length M.N.length,yv] 186:=h.box.kp kx fun hg=>by obtain⟨cs,hb⟩:=own _ hg;exact t9 (aP h.box hb)
 have hrb:Blk w4 rb (strs (List.replicate M.N.length ⟨#[]⟩)) 9:=h.row.kp kx fun hg=>by obtain⟨cs,hb⟩:=own _ hg;exact t8 (aP hb h.row)
 have notB:∀(c:Nat) (tb:Nat),CurAt w4 c tb [] (.slice none 0 0) (fun k=>(Value.slice none 0 0).ownBlock=some k)->∀k,iS c (.slice none 0 0) k->¬k=wb:=fun c tb hc k hk e=>by rw [e]at hk;exact hc.notB hbx t1 t2 hk
 have e1:xB (dD cb m cb3) (m+1)=xB cb m++ [.pointer (some ⟨cb3,0,none⟩)]:=by
  unfold xB;rw [List.range_succ,List.map_append,List.map_singleton,upd_same]
  congr 1
  refine List.map_congr_left fun j hj=>?_;rw [aH _ _ (by have:=List.mem_range.1 hj;omega)]
 refine⟨hbx.set 1 lv,hrb.kp ks fun e=>t7 (aP hbx (by rw [<-e];exact hrb)),?_,fun j u hj hu=>?_,fun i j hi hj he=>?_,?_⟩
 ·rw [e1];refine(hr.kp' ks fun g hg _ e=>?_).mono fun g hg=>?_
  ·obtain⟨cs,hb⟩:=aQ hr hg;have e':g=wb:=e;rw [e']at hb;exact t9 (aP hbx hb)
  ·rcases hg with hg|hg
   ·exact h.curs.block g hg
   ·rw [aI]at hg;omega
 ·by_cases e:j=m
  ·subst e;rw [ht]at hu;cases hu;rw [upd_same];have hc4:CurS w4 cb3 t.tb [] (.slice none 0 0):=((hc.ext ((Kp.refl w3).alloc _)).kp hk fun k hk1 hk2=>by
    rcases hk1 with rfl|hk1
    ·obtain⟨cs,hb⟩:=own _ hk2;have:=hb.lt;omega
    ·cases hk1).own
   exact⟨hc4.kp ks (notB _ _ hc4),by omega⟩
  ·rw [aH _ _ e];obtain⟨h1,h2⟩:=h.cur j u (by omega) hu;have hc4:CurS w4 (cb j) u.tb [] (.slice none 0 0):=h1.kp kx fun k hk1 hk2=>by
    obtain⟨cs,hb⟩:=own _ hk2;exact h1.notB hb t5 t6 hk1
   exact⟨hc4.kp ks (notB _ _ hc4),h2⟩
 ·have old:∀j,j<m->j<M.Ts.length->cb j<w.heap.size:=fun j hj hjT=>(h.cur j _ hj (qG hjT)).1.box.lt;have hmT:=(List.getElem?_eq_some_iff.1 ht).1;by_cases e:i=m
  ·by_cases e2:j=m
   ·omega
   ·rw [e,upd_same,aH _ _ e2]at he;have:=old j (by omega) (by omega);omega
  ·by_cases e2:j=m
   ·rw [e2,upd_same,aH _ _ e]at he;have:=old i (by omega) (by omega);omega
   ·rw [aH _ _ e,aH _ _ e2]at he;exact h.inj i j (by omega) (by omega) he
 ·refine(h.kp.trans' kx fun i hi hg=>?_).trans' ks fun i hi hg=>?_
  ·have:=h.curs.block i hg;omega
  ·have e:i=wb:=hg;omega
theorem AllAt.walk{M:MatchZ}{W w:World}{wb mb rb:Nat}{yv cv:Value}{cb:Nat->Nat}(h:AllAt M W wb mb rb yv M.Ts.length cv cb w)(hlo:W.heap.size≤wb)(hlr:W.heap.size≤rb):WalkAt w wb mb M yv cv rb (List.replicate M.N.length ⟨#[]⟩) cb (fun _=> .slice none 0 0) (fun _=> [])/\∀k,aJq wb rb M.Ts.length cv cb (fun _=> .slice none 0 0) k->W.heap.size≤k:=by
 refine⟨⟨h.box,h.row,List.length_replicate,h.curs.ownB,fun j t ht=>(h.cur j t (List.getElem?_eq_some_iff.1 ht).1 ht).1,fun i j hi hj hne=>⟨fun e=>hne (h.inj i j hi hj e),fun k hk=>by cases hk⟩⟩,fun k hk=>?_⟩;rcases hk with rfl|rfl|hk|⟨j,hj,hk|hk⟩
 ·exact hlo
 ·exact hlr
 ·exact h.curs.block k hk
 ·rw [hk];exact(h.cur j _ hj (qG hj)).2
 ·cases hk
def AllR(M:MatchZ)(W:World)(wb mb rb:Nat)(yv:Value)(iv:Value)(w:World):Prop:=∃(m:Nat) (cv:Value) (cb:Nat->Nat),m≤M.Ts.length/\iv= .int .i64 m/\Hid (AllAt M W wb mb rb yv m cv cb w)
set_option maxHeartbeats 4000000 in
theorem aL7{Z:Nat->Prop}{M:MatchZ}{A:MAddr}{mb:Nat}{w0 W:World}{J Jx:(Nat->Prop)->List XB->World->Prop}{Lall:aD}{l n:Nat}(hZ:∀k,Z k->k<W.heap.size)(hW:Kp (fun k=>¬Z k) w0 W)(hmat:∀W',Kp (fun k=>¬Z k) w0 W'->MatchAt W' mb M A)(hM:MatchOk M)(hL:AllB (mG M) [] Lall)
 (hY:∀T T' pre x W1 W2,J T pre W1->Kp T W1 W2->(∀k,T' k->xP T W1 W2 k)->GvRow W1 T' W2 x->(pre++ [x]).map Prod.snd<+:Lall->YieldAt Fence.wide n Tryz.prog l (encX x) W2 fun e W'=>
  (e= .returned (.bool true)/\J T' (pre++ [x]) W'/\Kp (fun k=>¬fI Z T' k) W2 W')\/ (e= .returned (.bool false)/\Jx T' (pre++ [x]) W'/\Kp (fun k=>¬fI Z T' k) W2 W'))(hJ:J (fun _=>False) [] W):
 Calls Tryz.prog 83 #[.pointer (some ⟨mb,0,none⟩),.func (.yield l) #[] #[]] W (aHe J Jx Lall):=by
 have hm:=hmat W hW;have c0:=hm.c0;have c1:=hm.c1;have hfew:=hm.few;obtain⟨nv,env⟩:=nm M.N.length;obtain⟨nT,enT⟩:=nm M.Ts.length;rw [env]at c0 hfew;rw [enT]at c1 hfew;have hnv:=hfew.1;have hnT:=hfew.2.1;clear hfew;have HP:=qH hm.ptrs;have HT:=qH hm.tries;clear hm;obtain⟨w1,e1⟩:=nm (W.alloc (.cells (List.replicate (nv*1) (.string ⟨#[]⟩)).toArray 9));obtain⟨rb,erb⟩:=nm W.heap.size;have hmk:=jT (P:=Tryz.prog) fF (c:= .string ⟨#[]⟩) rfl nv (by omega) (by unfold maxLen;omega) W;rw [e1,erb]at hmk;have hx1:Ext W w1:=xAX e1;have hB1:Blk w1 rb (strs (List.replicate nv ⟨#[]⟩)) 9:=by
  have h1:=Blk.new W (List.replicate (nv*1) (.string ⟨#[]⟩)) 9;have h2:List.replicate (nv*1) (Value.string ⟨#[]⟩)=strs (List.replicate nv ⟨#[]⟩):=by unfold strs;rw [List.map_replicate,Nat.mul_one]
  rw [<-e1,<-erb,<-h2];exact h1
 obtain⟨w2,e2⟩:=nm (w1.alloc (.cells #[.pointer (some ⟨mb,0,none⟩),.slice none 0 0,.slice (some ⟨rb,0,none⟩) nv nv,.func (.yield l) #[] #[]] 186));obtain⟨wb,ewb⟩:=nm w1.heap.size;have hx2:Ext w1 w2:=xAX e2;have hB2:=bNX ewb e2;have hA:=qH (show AllAt M W wb mb rb (.func (.yield l) #[] #[]) 0 (.slice none 0 0) (fun _=>0) w2 from⟨by rw [env];exact hB2,by rw [env];exact hB1.ext hx2,Row.nil _ _ _ _,fun j t hj=>by omega,fun i j hi=>by omega,hx1.trans hx2⟩);have c0':=hx1.cell c0 id;have c1':=(hx1.trans hx2).cell c1 id;have hlo:W.heap.size≤wb:=by rw [<-ewb];exact hx1.size
 have HLo:=qH hlo;clear hB1 hB2 hlo;go_enter Tryz.func83,Tryz.ntmps83;go_wp2;clear e1 e2 ewb hmk;go_loopw [22] (fun iv wr=>AllR M W wb mb rb (.func (.yield l) #[] #[]) iv wr) (fun iv _=>nT- (intOf iv).toNat)
 case atStart=>exact⟨0,_,_,Nat.zero_le _,rfl,hA⟩
 case round=>
  obtain⟨m,cv,cb,hm,rfl,hA2⟩:=hrel;rw [enT]at hm;obtain⟨ca,cc,ecv,hcc,hccap⟩:=hA2.out.curs.shape;subst ecv;by_cases hlt:m<nT
  ·obtain⟨t,ht⟩:∃t,M.Ts[m]?=some t:=⟨_,qG (by rw [enT];exact hlt)⟩;obtain⟨tb0,to0,eta,t0⟩:=(HP.out.ext hA2.out.kp) m (lN t) (by rw [List.getElem?_map,ht];rfl);rw [eta];unfold lN at t0;have HWk:=qH (fun W' (hW':Ext wr W')=>aJv (((HT.out t (List.mem_of_getElem? ht)).ext hA2.out.kp).ext hW'));have HJ:=qH (show ∀w',Ext wr w'->(fun w':World=>w'.cell? ⟨wb,1,none⟩=some (.slice ca m cc)) w' from fun w' hw'=>by
    show w'.cell? ⟨wb,1,none⟩=some (.slice ca m cc);rw [(hA2.out.box.ext hw').cell'];rfl)
   have HTt:=qH ht;have HNo:=qH (show(Value.slice ca m cc).ownBlock≠some wb from fun h=>by obtain⟨cs,hb⟩:=aQ hA2.out.curs h;exact aGl.2.2.2.2.2.2.2.2 (aP hA2.out.box hb));have b1:=HJ.out wr (Kp.refl _);clear ht hcc eta;go_wp2;refine aY (fun w':World=>w'.cell? ⟨wb,1,none⟩=some (.slice ca m cc)) [8,9,10,11] (by kernel_rfl) (HJ.out _ (Kp.refl wr).drew) (fun hHeld=>?_);refine eFX 0 ?_;refine eFX 1 ?_;refine eFX 2 ?_;refine eFX 3 ?_;refine eIX 4 ?_;refine eFX 5 ?_;refine eTX 6 fun K hK=>?_;go_simp
   (refine(HWk.out _ (Kp.refl wr).drew).mono ?_;rintro e w3 ⟨v3,rfl,hk3,cb3,rfl,hn3,hcur3⟩;have X1:=qH (nIX (show Ext wr w3 from((Kp.refl wr).drew).trans hk3) (nIX (show wr.heap.size≤cb3 from hn3) hcur3));clear hk3 hn3 hcur3)
   go_wp2_with fail
   refine hK.out _ _ (HJ.out _ X1.out.1) fun hHeld=>?_;clear hK K;refine eTX 7 fun K hK=>?_;go_simp;refine hK.out _ _ (HJ.out _ (X1.out.1.alloc _)) fun hHeld=>?_;clear hK K;refine eLX 8 fun K hK=>?_;refine jB (m:=1) (n:=m) zT rfl _ _ rfl rfl ((hA2.out.curs.ext X1.out.1).alloc _) rfl (CellsAt.one w3 _ _) (by rfl) (by simp;rfl) (by omega) (by unfold maxLen;omega) ?_;intro v4 w4 hr4 hk4;obtain⟨la4,lcap4,elv4,_,_⟩:=hr4.shape;subst elv4;have HB4:=qH (show Blk w4 wb [.pointer (some ⟨mb,0,none⟩),.slice ca m cc,.slice (some ⟨rb,0,none⟩) M.N.length M.N.length,.func (.yield l) #[] #[]] 186 from((hA2.out.box.ext X1.out.1).alloc _).kp hk4 (fun h2=>HNo.out h2));have X2:=qH (nIX hr4 hk4);have y1:w4.cell? ⟨wb,1,none⟩=some (.slice ca m cc):=(by rw [HB4.out.cell'];rfl);have yf:=HB4.out.free 1;clear hr4 hk4;refine hK.out _ _ ?_;clear hK K;refine eLX 9 fun K hK=>?_;go_simp;refine hK.out _ _ ?_;clear hK K;refine eLX 10 fun K hK=>?_;go_simp;refine hK.out _ _ ?_;clear hK K;refine eLX 11 fun K hK=>?_;go_simp;refine hK.out _ _ ?_;clear hK K;refine aL (by kernel_rfl) ?_ _;clear hHeld;have HP2:=qH (AllAt.push hA2.out HLo.out HTt.out X1.out.1 X1.out.2.1 X1.out.2.2 X2.out.1 X2.out.2);obtain⟨w5,e5⟩:=nm (w4.setCell ⟨wb,1,none⟩ (.slice la4 (m+1) lcap4));rw [e5]at HP2 ⊢;clear e5 y1 yf;go_wp2;go_roundw
   case rel=>exact⟨m+1,_,_,by rw [enT];omega,nMX,HP2⟩
   case measure=>simp [intOf];omega
  ·obtain rfl:m=nT:=by omega
   have hA3:=hA2.out;rw [<-enT]at hA3;obtain⟨hwalk,hnew⟩:=hA3.walk HLo.out (by rw [erb];exact Nat.le_refl _);obtain⟨C,eC⟩:∃C:WCtx,C=⟨Z,W.heap.size,M,A,wb,mb,rb,.func (.yield l) #[] #[],.slice ca M.Ts.length cc,cb,J,Jx,Lall,w0⟩:=⟨_,rfl⟩;have hCok:C.Ok:=by subst eC;exact⟨hZ,hmat,hM⟩
   have hCY:C.Yields l n:=by subst eC;exact⟨rfl,hY⟩
   have hAt:C.At (fun _=> .slice none 0 0) (List.replicate M.N.length ⟨#[]⟩) (fun _=> []) wr:=by subst eC;exact⟨hwalk,hnew,hW.trans' hA2.out.kp fun i _ hi=>hi.elim⟩
   have hFr:=aDd hCok hCY M.N.length 0 (by subst eC;exact Nat.zero_add _) [] (fun _=>False) (fun _=> .slice none 0 0) _ (fun _=> []) [] Lall wr rfl hAt (by rw [List.take_zero]) (fun j t ht=>by
    rw [aJg];exact PathOk.nil) (fun k hk=>by omega) (by subst eC;exact hL) ⟨[],by subst eC;simp⟩ ⟨fun _=>False,W,by subst eC;exact hJ,hA2.out.kp,fun k hk=>by
     rcases hk with hk|hk
     ·refine .inr ?_;have:=hAt.new k hk;subst eC;exact this
     ·exact hk.elim⟩ ⟨fun k hk=>hk.elim,fun k _ hk=>hk,fun k hk=>hk.elim⟩
   have HFr:=qH (show Calls Tryz.prog 123 #[.pointer (some ⟨wb,0,none⟩),.int .i64 0] wr (aHe J Jx Lall)from by
    have e1:C.wb=wb:=by subst eC;rfl
    rw [e1]at hFr;refine hFr.mono ?_;rintro e w' ⟨b,ov',R',rfl,hk,-,-,-,hE⟩;refine⟨⟨_,rfl⟩,?_⟩;subst eC;rcases hE with⟨-,xs,h1,T,W1,h2,h3,-⟩|⟨-,pre',h1,T,W1,h2,h3,-⟩
    ·exact⟨T,W1,h3,.inl ⟨xs,h1,h2⟩⟩
    ·exact⟨T,W1,h3,.inr ⟨pre',h1,h2⟩⟩)
   clear hA3 hwalk hnew hFr hAt hCY hCok eC C hm hlt hcc;go_wp2_with fail
   refine HFr.out.mono ?_;rintro e w9 ⟨⟨v9,rfl⟩,h9⟩;have H9:=qH h9;clear h9;go_wp2
   go_end0
   exact⟨⟨_,rfl⟩,H9.out⟩
end
section
open Go.RowKit Go.Shelf
attribute [local go_sem] Oper.semAt_some
def mD(r:dC)(R:Nat->aD)(L:aD):Prop:=(bG r=0->IsBinds r.2.1 R L)/\(bG r≠0->L= [])
theorem aAy(tb:Nat)(w:World):(binOp .neq 123 (.pointer (some ⟨tb,0,none⟩)) (.pointer none)).run Tryz.prog w= .ok (.bool true) w:=by kernel_rfl
theorem aAz(w:World):(binOp .neq 123 (.pointer none) (.pointer none)).run Tryz.prog w= .ok (.bool false) w:=by kernel_rfl
set_option maxHeartbeats 2000000 in
theorem aH2{w0 w1 w:World}{r:dC}{Es:Nat->List Ent}{v:Value}{xb:Nat}{L:aD}(hM:aGf w0 w1 r Es v)(hx:Ext w1 w)(hB:Blk w xb [v] 123)(hxb:w0.heap.size≤xb)(hL:mD r (cE Es r.2.1) L)(n:Nat):
 pP Fence.wide n Tryz.prog 82 #[.pointer (some ⟨xb,0,none⟩)] encX (fun k=>w0.heap.size≤k/\k<w.heap.size) GvRow (fun xs=>xs.map Prod.snd=L) (fun pre=>pre.map Prod.snd<+:L) w:=by
 intro l J Jx W hW hY hJ;refine callsIn_wide.2 ?_;have hxl:=hB.lt;have c0:W.cell? ⟨xb,0,none⟩=some v:=hW.cell (by rw [hB.cell'];rfl) fun h=>h ⟨hxb,hxl⟩;rcases hM with⟨rfl,hno⟩|⟨mb,Ts,tests,A,rfl,hc,hIs,hF⟩
 ·have hL0:L= []:=by
   by_cases hc:bG r=0
   ·rcases hno with hno|hno
    ·exact absurd hc hno
    ·cases L with
     |nil=>rfl
     |cons V L=>exact absurd (((hL.1 hc).iff V).1 (List.mem_cons_self ..)) (hno V)
   ·exact hL.2 hc
  have HE:=qH (nIX hL0 hJ);have hmn:=aAz W;clear hno hL hL0 hJ hY hW hB;go_enter Tryz.func82,Tryz.ntmps82;go_wp2
  go_end0
  exact⟨⟨_,rfl⟩,fun _=>False,W,Kp.refl _,.inl ⟨[],by rw [HE.out.1];rfl,HE.out.2⟩⟩
 ·have hok:=aFc hc hIs;have hsol:AllB (mG ⟨aC r.2.1,Ts,tests⟩) [] L:=by
   have e:mG ⟨aC r.2.1,Ts,tests⟩=cP r.2.1 (cE Es r.2.1):=funext fun V=>propext (hok.2 V);rw [e];exact hL.1 hc
  have HA:=qH (aL7 (Z:=fun k=>w0.heap.size≤k/\k<w.heap.size) (w0:=w) (W:=W) (n:=n-1) (A:=A) (fun k hk=>Nat.lt_of_lt_of_le hk.2 hW.size) hW (fun W' hW'=>hF W' ((Ext.kp hx).trans' hW' (F:=fun k=>¬(w0.heap.size≤k/\k<w1.heap.size)) fun i hi h=>fun h2=>h ⟨h2.1,Nat.lt_of_lt_of_le h2.2 hx.size⟩)) hok.1 hsol hY hJ);have hms:=aAy mb W;clear hok hsol hL hJ hY hW hB hF hIs;go_enter Tryz.func82,Tryz.ntmps82;go_wp2_with fail
  refine HA.out.mono ?_;rintro e w9 ⟨⟨v9,rfl⟩,h9⟩;have H9:=qH h9;clear h9;go_wp2
  go_end0
  exact⟨⟨_,rfl⟩,H9.out⟩
def aGi(w0 w:World)(L:aD)(v:Value):Prop:=∃xb lo,w0.heap.size≤lo/\v= .func (.func 82) #[] #[.pointer (some ⟨xb,0,none⟩)]/\
 ∀n,pP Fence.wide n Tryz.prog 82 #[.pointer (some ⟨xb,0,none⟩)] encX (fun k=>lo≤k/\k<w.heap.size) GvRow (fun xs=>xs.map Prod.snd=L) (fun pre=>pre.map Prod.snd<+:L) w
set_option maxHeartbeats 2000000 in
theorem aCn{w:World}{p:ByteArray}{hs:List aE}{ls:List aJ}{ha ba bsa:Option Addr}{hn hcap n bcap nb bsc:Nat}{G:Nat->Prop}{bvs:List Value}{Es:Nat->List Ent}{L:aD}(hhn:hn=hs.length)(hh:aR w G ha hs)(hhl:hn≤1048576)(hbn:n=ls.length)(h:cD w G ba ls)(hf:Fit ls)(hnv:(aC ls).length≤1048576)(hn16:n≤1048576)
 (hnb:nb=bvs.length)(hbs:CellsAt w bsa bvs)(hB:∀j,∃S,BaseV S w (bvs.getD j (.pointer none)) (Es j))(hL:mD ((p,hs,()),ls,()) (cE Es ls) L):
 Calls Tryz.prog 39 #[dS p ha hn hcap ba n bcap,.slice bsa nb bsc] w (RetN w fun w' v=>aGi w w' L v):=by
 have HMt:=qH (fun W (hW:Ext w W)=>aIc (w:=W) (p:=p) (hs:=hs) (ls:=ls) (ha:=ha) (ba:=ba) (bsa:=bsa) (hn:=hn) (hcap:=hcap) (n:=n) (bcap:=bcap) (nb:=nb) (bsc:=bsc) (G:=G) (bvs:=bvs) (Es:=Es) hhn (hh.ext hW) hhl hbn (h.ext hW) hf hnv hn16 hnb (hbs.ext hW) (fun j=>by obtain⟨S,hb⟩:=hB j;exact⟨S,hb.ext hW⟩));have HL:=qH hL;obtain⟨gb,egb⟩:=nm w.heap.size;obtain⟨w1,e1⟩:=nm (w.alloc (.cells #[.string p,.slice ha hn hcap,.slice ba n bcap] 27));have x1:Ext w w1:=xAX e1;have hB1:=bNX egb e1;have H1:=qH x1;have r0:=hB1.c0;have r1:=hB1.c1;have r2:=hB1.c2;clear hhn hh hbn h hf hnb hbs hB hL x1 hB1;go_enter Tryz.func39,Tryz.ntmps39;go_wp2_with fail
 clear e1 egb;refine(HMt.out w1 H1.out).mono ?_;rintro e w2 ⟨v2,rfl,hk2,hM⟩;obtain⟨o,rfl⟩:∃o,v2= .pointer o:=by
  rcases hM with⟨e,_⟩|⟨mb,_,_,_,e,_⟩
  ·exact⟨_,e⟩
  ·exact⟨_,e⟩
 have HM:=qH (nIX hk2 hM);clear hk2 hM r0 r1 r2;go_wp2;go_ret;have hx3:Ext w2 (w2.alloc (.cells #[.pointer o] 123)):=(Kp.refl w2).alloc _;exact RetN.mk (H1.out.trans (HM.out.1.trans hx3)) ⟨w2.heap.size,w1.heap.size,H1.out.size,rfl,fun n=>aH2 HM.out.2 hx3 (Blk.new w2 [.pointer o] 123) HM.out.1.size HL.out n⟩
end
end Go.Proofs.YtinnmeiphbdogaaGreat
