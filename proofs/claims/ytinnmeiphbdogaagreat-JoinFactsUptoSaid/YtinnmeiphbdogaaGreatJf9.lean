/- Texts joined for a claim (RefPick, RefHolds, RefUnlike, RefWalk, RefFrom, RefSizeP, RefFrom2, RefFirst, RefEach, RefFacts, JFTail, JFGot, RefBaseNil, RefBasePut). -/
import Derived.Test.YtinnmeiphbdogaaGreatJf8
import Derived.Deep.QuietTactic
set_option linter.unusedVariables false
set_option linter.unusedSimpArgs false
set_option maxRecDepth 100000
namespace Go.Proofs.YtinnmeiphbdogaaGreat
section
open Go.RowKit Go.Shelf
def aIw(w w':World)(v:Value)(L:aD):Prop:=∃qo qc,v= .slice qo L.length qc/\RowsIn (New w) w' qo L/\L.length≤1048576*1048576
def lB(G:List REnt)(s:ByteArray):aD:=match dW G s with|some g=>g.LL|none=> []
section
variable {S:Nat->Prop}{w:World}{cb:Nat}{G:List REnt}
theorem aJi(h:RefB S w cb G)(s:ByteArray):Calls Tryz.prog 54 #[aH7 (dW G s)] w (RetN w fun w' v=>OwnRows w.heap.size w' v (lB G s)/\(lB G s).length≤1048576*1048576):=by
 unfold lB;cases hf:dW G s with
 |none=>
  refine(aF5 w).mono ?_;rintro e w' ⟨rfl,rfl⟩;exact RetN.mk (Kp.refl _) ⟨OwnRows.nil _ _,by simp⟩
 |some g=>
  have hg:=h.rows g (List.mem_of_find?_eq_some hf);have hl:=hg.len;refine(xD hg).mono ?_;rintro e w' ⟨v,rfl,hk,h⟩;exact⟨v,rfl,hk,h,hl⟩
def aOw(w0 w1:World)(ts:List aE)(n:Nat)(LL:aD)(lv iv:Value)(W:World):Prop:=
 ∃i:Nat,i≤n/\iv= .int .i64 i/\Hid (Ext w1 W)/\∃qs:List eY,Hid (bR ts (LL.take i)=qs.map Prod.snd/\Row W 34 1 lv qs.length (cJ qs) (New w1)/\∀q∈qs,ReadsAs w1 q.1 q.2/\q.2.length≤8796093021952/\∀a,q.1.1=some a->w0.heap.size≤a.block)
theorem aF3(ts:List aE)(LL:aD){i:Nat}{x:List ByteArray}(h:LL[i]?=some x):bR ts (LL.take (i+1))=if x.length=ts.length then bR ts (LL.take i)++ [x]else bR ts (LL.take i):=by
 unfold bR;rw [List.take_add_one,h];show List.filter _ (_++ [x])=_;rw [List.filter_append];by_cases hx:x.length=ts.length
 ·simp [hx]
 ·simp [hx]
theorem aDg(ts:List aE)(LL:aD)(i:Nat):(bR ts (LL.take i)).length≤i:=by unfold bR;refine Nat.le_trans (List.length_filter_le _ _) ?_;rw [List.length_take];omega
set_option maxHeartbeats 4000000 in
theorem aDj(p:ByteArray)(ao:Option Addr)(n cap:Nat)(w:World):Calls Tryz.prog 78 #[.agg #[.string p,.slice ao n cap],.pointer none] w (RetN w fun w' v=>aIw w w' v []):=by go_enter Tryz.func78,Tryz.ntmps78;go_wp2;go_ret;exact RetN.mk ((Kp.refl w).alloc _) ⟨none,0,rfl,RowsIn.nil _ _,by simp⟩
set_option maxHeartbeats 4000000 in
theorem aDk(h:RefB S w cb G)(p:ByteArray)(ts:List aE)(ao:Option Addr)(n cap:Nat)(hn:n=ts.length):
 Calls Tryz.prog 78 #[.agg #[.string p,.slice ao n cap],.pointer (some ⟨cb,0,none⟩)] w (RetN w fun w' v=>aIw w w' v (bR ts (lB G p))):=by
 have HN:=qH (nIX h hn);clear h hn;obtain⟨w1,e1⟩:=nm (w.alloc (.cells #[.string p,.slice ao n cap] 24));obtain⟨g0,eg0⟩:=nm w.heap.size;have hB:=bNX eg0 e1;have hx1:Ext w w1:=xAX e1;have c0:=hB.c0;have H1:=qH (nIX hx1 hB);clear hx1 hB;go_enter Tryz.func78,Tryz.ntmps78;go_wp2_with fail
 clear e1 eg0;refine(gS (HN.out.1.ext H1.out.1) p).mono ?_;rintro e w2 ⟨v2,rfl,hk2,rfl⟩;have H2:=qH (nIX (H1.out.1.trans hk2) (H1.out.2.ext hk2));clear hk2 c0;go_wp2_with fail
 refine(aJi (HN.out.1.ext H2.out.1) p).mono ?_;rintro e w3 ⟨v3,rfl,hk3,hown,hlen⟩;obtain⟨ps,eps,hrow,hps,_⟩:=hown;obtain⟨LL,eLL⟩:=nm (lB G p);rw [eLL]at eps hlen;obtain⟨ra,rc,er,hcr,_⟩:=hrow.shape;subst er;obtain⟨N,eN⟩:=nm LL.length;have epl:ps.length=N:=by rw [<-eN,eps,List.length_map]
 rw [epl]at hrow ⊢;have hN:N≤1048576*1048576:=by rw [<-eN];exact hlen
 have H3:=qH (show Ext w w3/\Blk w3 g0 [.string p,.slice ao n cap] 24/\LL=ps.map Prod.snd/\CellsAt w3 ra (cJ ps)/\(∀p∈ps,Row w3 9 1 (.slice p.1.1 p.1.2.1 p.1.2.2) p.2.length (strs p.2) (fun g=>w2.heap.size≤g)/\p.2.length≤8796093021952)/\w.heap.size≤w2.heap.size from
  ⟨H2.out.1.trans hk3,H2.out.2.ext hk3,eps,hcr,hps,H2.out.1.size⟩)
 clear hk3 eps hrow hcr hps hlen epl;go_wp2;go_loopw [6,7] (fun lv iv wr=>aOw w w3 ts N LL lv iv wr) (fun _ iv _=>N- (intOf iv).toNat)
 case atStart=>exact⟨0,Nat.zero_le _,rfl,qH (Kp.refl _),[],qH ⟨by simp [bR],Row.nil _ _ _ _,by simp⟩⟩
 case round=>
  obtain⟨i,hi,rfl,hex,qs,hq⟩:=hrel;have d1:=(H3.out.2.1.ext hex.out).c1;obtain⟨qo,qc,eq,_,_⟩:=hq.out.2.1.shape;subst eq;have hql:qs.length≤i:=by have h1:=congrArg List.length hq.out.1;rw [List.length_map]at h1;have:=aDg ts LL i;omega
  by_cases hlt:i<N
  ·obtain⟨x,hx⟩:∃x,LL[i]?=some x:=⟨_,qG (by omega)⟩;obtain⟨pz,hpz,epz⟩:∃p,ps[i]?=some p/\p.2=x:=by
    rw [H3.out.2.2.1,List.getElem?_map]at hx;cases hp:ps[i]? with
    |none=>rw [hp]at hx;cases hx
    |some p=>rw [hp]at hx;cases hx;exact⟨p,rfl,rfl⟩
   subst epz;obtain⟨⟨xa,xn,xc⟩,xs⟩:=pz;have hRx:=(H3.out.2.2.2.2.1 _ (List.mem_of_getElem? hpz));obtain⟨⟨exn,hcx⟩,hlx⟩:=hRx.1.readsAs;have exn:xn=xs.length:=exn;subst exn;obtain⟨ag,ab,era,x0⟩:=H3.out.2.2.2.1 i _ (tF ps i _ hpz);subst era;replace x0:=hex.out.cell x0 id;simp only at x0;have hsn:=aF3 ts LL hx;simp only at hsn;have HX:=qH (nIX hRx (nIX hcx (nIX hlx hsn)));clear hRx hcx hlx hsn hx hpz;by_cases hlen:xs.length=n
   ·have hq1:((xs.length:Int)==(n:Int))=true:=by simp [hlen]
    have hq2:decide ((xs.length:Int)=(n:Int))=true:=by simp [hlen]
    have HL:=qH hlen;clear hlen;go_wp2;go_quiet (fail)
    go_wp2_with (first|(at_builtin;refine Halted.out ?_))
    refine Halted.mk (iN (n:=qs.length) (m:=1) dP rfl _ _ rfl rfl ((hq.out.2.1.drewN _).alloc _) rfl (CellsAt.one _ (.slice xa xs.length xc) 34) (by rfl) (by simp;rfl) (by omega) (by unfold maxLen;omega) ?_);intro v4 w4 hr4 hk4;obtain⟨a4,c4,ev4,_,_⟩:=hr4.shape;subst ev4;have x4:Ext w3 w4:=((hex.out.drewN _).alloc _).trans' hk4 fun i hi e=>by have:=hq.out.2.1.block i e;omega
    have H4:=qH (nIX x4 hr4);clear x4 hr4 hk4 d1 x0;go_wp2;go_roundw
    case rel=>
     refine⟨i+1,by omega,nMX,qH H4.out.1,qs++ [((xa,xs.length,xc),xs)],qH ⟨?_,?_,?_⟩⟩
     ·rw [HX.out.2.2.2,if_pos (by rw [<-HN.out.2];exact HL.out),hq.out.1,List.map_append];rfl
     ·rw [jC,List.length_append];refine H4.out.2.mono fun g h=>?_;rcases h with h|h
      ·exact hq.out.2.1.block g h
      ·exact Nat.le_trans ((hex.out.drewN _).alloc _).size h
     ·intro q hm;rcases List.mem_append.1 hm with hm|hm
      ·exact hq.out.2.2 q hm
      ·cases List.mem_singleton.1 hm;exact⟨⟨rfl,HX.out.2.1⟩,HX.out.1.2,fun a ea=>by have h:=(HX.out.2.2.1 a ea).1;have:=H3.out.2.2.2.2.2;omega⟩
    case measure=>simp [intOf];omega
   ·have hq1:((xs.length:Int)==(n:Int))=false:=by simp;omega
    have hq2:decide ((xs.length:Int)=(n:Int))=false:=by simp;omega
    have HL:=qH hlen;clear hlen;go_wp2;go_quiet (fail)
    go_wp2;go_roundw
    case rel=>exact⟨i+1,by omega,nMX,qH (hex.out.drewN _),qs,qH ⟨by rw [HX.out.2.2.2,if_neg (by rw [<-HN.out.2];exact HL.out)];exact hq.out.1,hq.out.2.1.drewN _,hq.out.2.2⟩⟩
    case measure=>simp [intOf];omega
  ·obtain rfl:i=N:=by omega
   go_wp2;go_ret;rw [eLL];refine RetN.mk (H3.out.1.trans hex.out) ⟨qo,qc,?_,⟨qs,?_,?_,?_,?_⟩,?_⟩
   ·rw [show(bR ts LL).length=qs.length by
     have h:=congrArg List.length hq.out.1;rw [List.length_map,List.take_of_length_le (by omega)]at h;exact h]
    rfl
   ·have h:=hq.out.1;rw [List.take_of_length_le (by omega)]at h;exact h
   ·obtain⟨_,_,e,hc,_⟩:=hq.out.2.1.shape;cases e;exact hc
   ·intro a ea;subst ea;have h:=hq.out.2.1.block a.block (by rfl);exact Nat.le_trans H3.out.1.size h
   ·intro q hm;obtain⟨h1,h2,h3⟩:=hq.out.2.2 q hm;exact⟨⟨h1.1,h1.2.ext hex.out⟩,h2,h3⟩
   ·have h:=aDg ts LL LL.length;rw [List.take_of_length_le (Nat.le_refl _)]at h;omega
end
end
section
open Go.RowKit Go.Shelf
attribute [local go_sem] Oper.semAt_some
def BaseP(S:Nat->Prop)(w:World)(bv:Value)(G:List REnt):Prop:=(bv= .pointer none/\G= [])\/∃cb,bv= .pointer (some ⟨cb,0,none⟩)/\RefB S w cb G
section
variable {S:Nat->Prop}{w w':World}{bv:Value}{G:List REnt}
theorem BaseP.ext(h:BaseP S w bv G)(hx:Ext w w'):BaseP S w' bv G:=h.imp id fun⟨cb,e,h⟩=>⟨cb,e,h.ext hx⟩
theorem nX(h:BaseP S w bv G)(p:ByteArray)(ts:List aE)(ao:Option Addr)(n cap:Nat)(hn:n=ts.length):
 Calls Tryz.prog 78 #[.agg #[.string p,.slice ao n cap],bv] w (RetN w fun w' v=>aIw w w' v (bR ts (lB G p))):=by
 rcases h with⟨rfl,rfl⟩|⟨cb,rfl,h⟩
 ·exact aDj p ao n cap w
 ·exact aDk h p ts ao n cap hn
theorem FitsV.shape{e:bV}{ts:List aE}{x:List ByteArray}{na va:Option Addr}{m nc vc:Nat}{v:Value}(h:FitsV w w' e ts x (.agg #[.slice na m nc,.slice va m vc]) v):
 ∃xa xn xc ya yn yc,v= .tuple #[.agg #[.slice xa xn xc,.slice ya yn yc],.bool (bU e ts x ts.length).isSome]/\∀f,bU e ts x ts.length=some f->EnvAt w w' f (.slice xa xn xc) (.slice ya yn yc):=by
 unfold FitsV at h;cases hf:bU e ts x ts.length with
 |none=>rw [hf]at h;exact⟨_,_,_,_,_,_,h,fun f e=>by cases e⟩
 |some f=>
  rw [hf]at h;obtain⟨vn,vv,ev,hE⟩:=h;obtain⟨a,c,e1,_,_⟩:=hE.names.shape;obtain⟨b,d,e2,_,_⟩:=hE.vals.shape;subst e1 e2;exact⟨_,_,_,_,_,_,ev,fun g e=>by cases e;exact hE⟩
def aO2(e:bV)(ts:List aE)(L:aD)(n:Nat)(w0:World)(iv:Value)(W:World):Prop:=∃i:Nat,i≤n/\iv= .int .i64 i/\Hid (∀x∈L.take i,bU e ts x ts.length=none)/\Hid (Ext w0 W)
end
set_option maxHeartbeats 4000000 in
theorem aB6{S:Nat->Prop}{w:World}{bv:Value}{G:List REnt}{Gm:Nat->Prop}(e:bV)(l:aL)(a:Option Addr)(cap:Nat)(hl:LitIn w Gm l a cap)(hB:BaseP S w bv G)(na va:Option Addr)(m nc vc n:Nat)(he:EnvOk e)(hm:m=e.1.length)(hn:n=(aA l).length)(h1:CellsAt w na (strs e.1))(h2:CellsAt w va (strs e.2))(hb:m+n≤1048576):
 Calls Tryz.prog 146 #[litV l.1 (bJ l) a n cap (gM l) (leftOf l).1 (leftOf l).2.1 (aN l).1 (aN l).2.1,bv,.agg #[.slice na m nc,.slice va m vc]] w (RetN w fun w' v=>v= .bool (fD e (bR (aA l) (lB G (bJ l))) l)):=by
 have HN:=qH (nIX hn (nIX hm (nIX he hB)));have HF:=qH (fun(W:World) (hW:Ext w W) (x:List ByteArray) (xa:Option Addr) (rc:Nat) (hx:CellsAt W xa (strs x)) (hxl:n=x.length)=>aEl e (bJ l) (aA l) x na va a xa m nc vc n cap x.length rc W Gm he hm (h1.ext hW) (h2.ext hW) hn (hl.terms.kp hW fun _ _=>id) rfl hx (Nat.le_of_eq hxl) hb (by omega));have HV:=qH (fun(W:World) (hW:Ext w W) (k:Int) (s:ByteArray)=>yP e k s na va m nc vc W he hm (h1.ext hW) (h2.ext hW) (by omega));obtain⟨k,ek⟩:=nm l.1;obtain⟨p,ep⟩:=nm (bJ l);obtain⟨op,eop⟩:=nm (gM l);obtain⟨lk,elk⟩:=nm ((leftOf l).1);obtain⟨lt,elt⟩:=nm ((leftOf l).2.1);obtain⟨rk,erk⟩:=nm ((aN l).1);obtain⟨rt,ert⟩:=nm ((aN l).2.1);rw [ek,ep,eop,elk,elt,erk,ert];have HK:=qH (nIX ek (nIX eop (nIX (show leftOf l=(lk,lt,())from by rw [<-elk,<-elt]) (show aN l=(rk,rt,())from by rw [<-erk,<-ert]))));rw [ep]at HF;clear hl hB he hm hn h1 h2 ek ep eop elk elt erk ert;obtain⟨w1,e1⟩:=nm ((w.alloc (.cells #[.int .i64 k,.string p,.slice a n cap,.int .i64 op,.int .i64 lk,.string lt,.int .i64 rk,.string rt] 40)).alloc (.cells #[.slice na m nc,.slice va m vc] 111));obtain⟨g0,eg0⟩:=nm w.heap.size;have hB1:Blk w1 g0 [.int .i64 k,.string p,.slice a n cap,.int .i64 op,.int .i64 lk,.string lt,.int .i64 rk,.string rt] 40:=by rw [<-e1,<-eg0];exact(Blk.new w _ _).alloc _
 have hB2:Blk w1 (g0+1) [.slice na m nc,.slice va m vc] 111:=by have h:=Blk.new (w.alloc (.cells #[.int .i64 k,.string p,.slice a n cap,.int .i64 op,.int .i64 lk,.string lt,.int .i64 rk,.string rt] 40)) [.slice na m nc,.slice va m vc] 111;rw [aJ,eg0]at h;rw [<-e1];exact h
 have hx1:Ext w w1:=by rw [<-e1];exact((Kp.refl w).alloc _).alloc _
 have d0:=hB1.c0;have d1:=hB1.c1;have d2:=hB1.c2;have H1:=qH (nIX hx1 (nIX hB1 hB2));clear hx1 hB1 hB2;go_enter Tryz.func146,Tryz.ntmps146;by_cases hk:k=2
 ·subst hk;go_wp2_with fail
  clear e1 eg0;refine(nX (HN.out.2.2.2.ext H1.out.1) p (aA l) a n cap HN.out.1).mono ?_;rintro e' w2 ⟨v2,rfl,hk2,qo,qc,rfl,hR,hRl⟩;obtain⟨L,eL⟩:=nm (bR (aA l) (lB G p));rw [eL]at hR hRl;have HL:=qH eL;have hLn:∀(x:List ByteArray),x∈L->n=x.length:=fun x hx=>by rw [<-eL]at hx;rw [((gJ x).1 hx).2];exact HN.out.1
  obtain⟨N,eN⟩:=nm L.length;rw [eL,eN];rw [eN]at hRl;have H2:=qH (nIX (H1.out.1.trans hk2) (nIX (H1.out.2.1.ext hk2) (nIX (H1.out.2.2.ext hk2) (nIX hR (nIX hLn eN)))));clear hk2 d0 d1 d2 hR hLn eL eN;go_wp2;go_loopw [8] (fun iv wr=>aO2 e (aA l) L N w2 iv wr) (fun iv _=>N- (intOf iv).toNat)
  case atStart=>exact⟨0,Nat.zero_le _,rfl,qH (by simp),qH (Kp.refl _)⟩
  case round=>
   obtain⟨i,hi,rfl,hno,hex⟩:=hrel;by_cases hlt:i<N
   ·obtain⟨x,hx⟩:∃x,L[i]?=some x:=⟨_,qG (by have:=H2.out.2.2.2.2.2;omega)⟩;obtain⟨rb,ro,xa,xc,era,x0,hcx,_,_⟩:=(H2.out.2.2.2.1.ext hex.out).get hx;subst era;have hxn:=H2.out.2.2.2.2.1 x (List.mem_of_getElem? hx);have HJ:=qH (show ∀X,Ext wr X->(fun X:World=>X.cell? ⟨g0,1,none⟩=some (.string p)/\X.cell? ⟨g0,2,none⟩=some (.slice a n cap)/\X.cell? ⟨g0+1,0,none⟩=some (.slice na m nc)/\X.cell? ⟨g0+1,1,none⟩=some (.slice va m vc)/\X.cell? ⟨rb,ro+i,none⟩=some (.slice xa x.length xc)) X from fun X hX=>⟨by rw [(H2.out.2.1.ext (hex.out.trans hX)).cell'];rfl,by rw [(H2.out.2.1.ext (hex.out.trans hX)).cell'];rfl,by rw [(H2.out.2.2.1.ext (hex.out.trans hX)).cell'];rfl,by rw [(H2.out.2.2.1.ext (hex.out.trans hX)).cell'];rfl,hX.cell x0 id⟩);have HX:=qH (nIX hx (nIX hcx hxn));have HNx:=qH (show bU e (aA l) x (aA l).length=none->∀z∈L.take (i+1),bU e (aA l) z (aA l).length=none from fun hf z hz=>by
     rw [List.take_add_one,hx,List.mem_append]at hz;rcases hz with hz|hz
     ·exact hno.out z hz
     ·simp at hz;subst hz;exact hf)
    have HYs:=qH (show(bU e (aA l) x (aA l).length).isSome=true->fD e (bR (aA l) (lB G p)) l=false from fun hf=>by unfold fD;rw [HK.out.1,if_pos rfl,HL.out,List.all_eq_false];exact⟨x,List.mem_of_getElem? hx,by rw [Option.isNone_eq_false_iff.2 hf];simp⟩);clear hx hcx hxn x0;go_wp2;refine aT (fun X:World=>X.cell? ⟨g0,1,none⟩=some (.string p)/\X.cell? ⟨g0,2,none⟩=some (.slice a n cap)/\X.cell? ⟨g0+1,0,none⟩=some (.slice na m nc)/\X.cell? ⟨g0+1,1,none⟩=some (.slice va m vc)/\X.cell? ⟨rb,ro+i,none⟩=some (.slice xa x.length xc)) [12] (by kernel_rfl) (HJ.out _ (Kp.refl wr).drew) (fun hHeld=>?_);refine eIX 0 ?_;refine eFX 1 ?_;refine eIX 2 ?_;refine eFX 3 ?_;refine eFX 4 ?_;refine eIX 5 ?_;refine eIX 6 ?_;refine yT (i:=7) (k:=11) ?_ ?_
    ·refine eCX 7 fun K hK=>?_;go_simp
     (refine(HF.out _ (H2.out.1.trans (hex.out.trans (by first|exact(Kp.refl wr).drew|exact(Kp.refl wr).drew.alloc _))) x xa xc (HX.out.2.1.ext (by first|exact(Kp.refl wr).drew|exact(Kp.refl wr).drew.alloc _)) HX.out.2.2).mono ?_;rintro e w5 ⟨v5,rfl,hk5,hv5⟩;obtain⟨fa,fn,fc,ya,yn,yc,rfl,-⟩:=hv5.shape;have X5:=qH (show Ext wr w5 from by first|exact(Kp.refl wr).drew.trans hk5|exact((Kp.refl wr).drew.alloc _).trans hk5);have K5:=qH hk5;clear hk5 hv5)
     go_wp2_with fail
     refine hK.out _ _ (HJ.out _ X5.out) fun hHeld=>?_;clear hK K;refine eFX 8 ?_;refine eFX 9 ?_;refine eFX 10 ?_;refine eTX 11 fun K hK=>?_
     (first|have HA9:=qH (Blk.new w5 [.slice none 0 0,.slice none 0 0] 111)|have HA9:=qH (show Blk (wr.drew.alloc (.cells #[.slice none 0 0,.slice none 0 0] 111)) wr.heap.size [.slice none 0 0,.slice none 0 0] 111 from Blk.new wr.drew [.slice none 0 0,.slice none 0 0] 111))
     go_simp;refine hK.out _ _ (by first|exact HJ.out _ (X5.out.alloc _)|exact HJ.out _ ((Kp.refl wr).drew.alloc _)) fun hHeld=>?_;clear hK K;refine eLX 12 fun K hK=>?_
     (first|(have hb9:=HA9.out.ext K5.out;have y0:=hb9.free 0;have y1:w5.cell? ⟨wr.heap.size,0,none⟩=some (.slice none 0 0):=(by rw [hb9.cell'];rfl);have hb8:=hb9.set 0 (.slice fa fn fc);have y2:=hb8.free 1;have y3:(w5.setCell ⟨wr.heap.size,0,none⟩ (.slice fa fn fc)).cell? ⟨wr.heap.size,1,none⟩=some (.slice none 0 0):=(by rw [hb8.cell'];rfl))|skip)
     go_simp;refine hK.out _ _ ?_;clear hK K;refine eFX 13 ?_;refine aK (by kernel_rfl) ?_ _;obtain⟨b,eb⟩:=nm ((bU e (aA l) x (aA l).length).isSome);rw [eb];have HE:=qH eb;clear eb hHeld;cases b with
     |true=>
      go_wp2;go_ret;exact RetN.mk (H2.out.1.trans (hex.out.trans (by first|exact X5.out.alloc _|exact X5.out.trans' (kSb) (fun i hi e=>by have e':i=wr.heap.size:=e;omega)))) (congrArg Value.bool (HYs.out HE.out).symm)
     |false=>
      go_wp2;go_roundw
      case rel=>exact⟨i+1,by omega,nMX,qH (HNx.out (Option.isSome_eq_false_iff.1 HE.out|>Option.isNone_iff_eq_none.1)),qH (hex.out.trans (by first|exact X5.out.alloc _|exact X5.out.trans' (kSb) (fun i hi e=>by have e':i=wr.heap.size:=e;omega)))⟩
      case measure=>simp [intOf];omega
    ·refine eCX 11 fun K hK=>?_
     (first|have HA9:=qH (Blk.new w5 [.slice none 0 0,.slice none 0 0] 111)|have HA9:=qH (show Blk (wr.drew.alloc (.cells #[.slice none 0 0,.slice none 0 0] 111)) wr.heap.size [.slice none 0 0,.slice none 0 0] 111 from Blk.new wr.drew [.slice none 0 0,.slice none 0 0] 111))
     go_simp;refine hK.out _ _ (by first|exact HJ.out _ (X5.out.alloc _)|exact HJ.out _ ((Kp.refl wr).drew.alloc _)) fun hHeld=>?_;clear hK K;refine eTX 7 fun K hK=>?_;go_simp
     (refine(HF.out _ (H2.out.1.trans (hex.out.trans (by first|exact(Kp.refl wr).drew|exact(Kp.refl wr).drew.alloc _))) x xa xc (HX.out.2.1.ext (by first|exact(Kp.refl wr).drew|exact(Kp.refl wr).drew.alloc _)) HX.out.2.2).mono ?_;rintro e w5 ⟨v5,rfl,hk5,hv5⟩;obtain⟨fa,fn,fc,ya,yn,yc,rfl,-⟩:=hv5.shape;have X5:=qH (show Ext wr w5 from by first|exact(Kp.refl wr).drew.trans hk5|exact((Kp.refl wr).drew.alloc _).trans hk5);have K5:=qH hk5;clear hk5 hv5)
     go_wp2_with fail
     refine hK.out _ _ (HJ.out _ X5.out) fun hHeld=>?_;clear hK K;refine eFX 8 ?_;refine eFX 9 ?_;refine eFX 10 ?_;refine eLX 12 fun K hK=>?_
     (first|(have hb9:=HA9.out.ext K5.out;have y0:=hb9.free 0;have y1:w5.cell? ⟨wr.heap.size,0,none⟩=some (.slice none 0 0):=(by rw [hb9.cell'];rfl);have hb8:=hb9.set 0 (.slice fa fn fc);have y2:=hb8.free 1;have y3:(w5.setCell ⟨wr.heap.size,0,none⟩ (.slice fa fn fc)).cell? ⟨wr.heap.size,1,none⟩=some (.slice none 0 0):=(by rw [hb8.cell'];rfl))|skip)
     go_simp;refine hK.out _ _ ?_;clear hK K;refine eFX 13 ?_;refine aK (by kernel_rfl) ?_ _;obtain⟨b,eb⟩:=nm ((bU e (aA l) x (aA l).length).isSome);rw [eb];have HE:=qH eb;clear eb hHeld;cases b with
     |true=>
      go_wp2;go_ret;exact RetN.mk (H2.out.1.trans (hex.out.trans (by first|exact X5.out.alloc _|exact X5.out.trans' (kSb) (fun i hi e=>by have e':i=wr.heap.size:=e;omega)))) (congrArg Value.bool (HYs.out HE.out).symm)
     |false=>
      go_wp2;go_roundw
      case rel=>exact⟨i+1,by omega,nMX,qH (HNx.out (Option.isSome_eq_false_iff.1 HE.out|>Option.isNone_iff_eq_none.1)),qH (hex.out.trans (by first|exact X5.out.alloc _|exact X5.out.trans' (kSb) (fun i hi e=>by have e':i=wr.heap.size:=e;omega)))⟩
      case measure=>simp [intOf];omega
   ·go_wp2;go_ret;exact RetN.mk (H2.out.1.trans hex.out) (by unfold fD;rw [HK.out.1,if_pos rfl,HL.out];exact congrArg Value.bool (List.all_eq_true.2 fun x hx=>by rw [hno.out x (by rw [List.take_of_length_le (by have:=H2.out.2.2.2.2.2;omega)];exact hx)];rfl).symm)
 ·have hkb:(k==2)=false:=by simp [hk]
  have HKn:=qH hk;clear hk;have a0:=H1.out.2.2.c0;have a1:=H1.out.2.2.c1;have d4:=H1.out.2.1.c4;have d5:=H1.out.2.1.c5;go_wp2_with fail
  refine(HV.out w1 H1.out.1 lk lt).mono ?_;rintro e' w2 ⟨v2,rfl,hk2,rfl⟩;have d6:=(H1.out.2.1.ext hk2).c6;have d7:=(H1.out.2.1.ext hk2).c7;have b0:=hk2.cell a0 id;have b1:=hk2.cell a1 id;have H2:=qH (nIX (H1.out.1.trans hk2) (H1.out.2.1.ext hk2));clear hk2 a0 a1 d0 d1 d2 d4 d5 e1 eg0;go_wp2_with fail
  refine(HV.out w2 H2.out.1 rk rt).mono ?_;rintro e' w3 ⟨v3,rfl,hk3,rfl⟩;have d3:=(H2.out.2.ext hk3).c3;have H3:=qH (H2.out.1.trans hk3);clear hk3 d6 d7 b0 b1;obtain⟨x,ex⟩:=nm (pS e (lk,lt,()));obtain⟨y,ey⟩:=nm (pS e (rk,rt,()));rw [ex,ey];have HZ:=qH (show fD e (bR (aA l) (lB G p)) l=opB op x y from by unfold fD;rw [HK.out.1,if_neg HKn.out,HK.out.2.1,HK.out.2.2.1,HK.out.2.2.2,ex,ey]);clear ex ey;by_cases h1:op=1
  ·subst h1;go_wp2;go_ret;exact RetN.mk H3.out (by rw [HZ.out];unfold opB;simp [lY])
  ·have o1:(op==1)=false:=by simp [h1]
   by_cases h2:op=2
   ·subst h2;go_wp2;go_ret;exact RetN.mk H3.out (by rw [HZ.out];unfold opB;simp [lY])
   ·have o2:(op==2)=false:=by simp [h2]
    by_cases h3:op=3
    ·subst h3;go_wp2;go_ret;exact RetN.mk H3.out (by rw [HZ.out];unfold opB;simp [lY])
    ·have o3:(op==3)=false:=by simp [h3]
     go_wp2;go_ret;exact RetN.mk H3.out (by rw [HZ.out,show opB op x y=!Op.bytesLess y.toList x.toList from by unfold opB;rw [if_neg h1,if_neg h2,if_neg h3],<-aId];rfl)
abbrev aHw:=(Option Addr×Nat×Option Addr×Nat)×List ByteArray
def tQ(m:Nat)(p:aHw):List Value:= [.slice p.1.1 m p.1.2.1,.slice p.1.2.2.1 m p.1.2.2.2]
theorem sK(m:Nat)(p:aHw):(tQ m p).length=2:=rfl
theorem aMo(m:Nat)(ps:List aHw):∀u∈ps.flatMap (tQ m),u.oneCell'=true:=fun u hu=>by obtain⟨p,_,h⟩:=List.mem_flatMap.1 hu;unfold tQ at h;simp at h;rcases h with rfl|rfl<;>rfl
theorem aEx:cW Tryz.prog 207 111 2 48 (.agg #[.slice none 0 0,.slice none 0 0]):=⟨by kernel_rfl,by kernel_rfl,rfl,by decide⟩
structure UnAt(w W:World)(F:List ByteArray)(ps:List aHw)(v:Value):Prop where
 row:Row W 111 2 v ps.length (ps.flatMap (tQ F.length)) (New w)
 env:∀p∈ps,EnvAt w W (F,p.2) (.slice p.1.1 F.length p.1.2.1) (.slice p.1.2.2.1 F.length p.1.2.2.2)
def aNb(lo:Nat)(W:World)(F:List ByteArray)(v:Value)(L:aD):Prop:=
 ∃qo qc,∃ps:List aHw,v= .slice qo ps.length qc/\ps.map Prod.snd=L/\CellsAt W qo (ps.flatMap (tQ F.length))/\(∀a,qo=some a->lo≤a.block)/\∀p∈ps,CellsAt W p.1.1 (strs F)/\CellsAt W p.1.2.2.1 (strs p.2)/\p.2.length=F.length/\(∀a,p.1.1=some a->lo≤a.block/\a.block<W.heap.size)/\∀a,p.1.2.2.1=some a->lo≤a.block/\a.block<W.heap.size
theorem UnAt.ext{w W W':World}{F:List ByteArray}{ps:List aHw}{v:Value}(h:UnAt w W F ps v)(hx:Ext W W'):UnAt w W' F ps v:=⟨h.row.ext hx,fun p hp=>(h.env p hp).ext hx⟩
theorem EnvAt.old{w w0 W:World}{f:bV}{vn vv:Value}(h:EnvAt w W f vn vv)(hs:w0.heap.size≤w.heap.size):EnvAt w0 W f vn vv:=
 ⟨h.names.mono fun g hg=>Nat.le_trans hs hg,h.vals.mono fun g hg=>Nat.le_trans hs hg,h.apart⟩
def UnTo(w1:World)(F:List ByteArray)(e:bV)(ts:List aE)(L:aD)(N:Nat)(lv iv:Value)(W:World):Prop:=
 ∃i:Nat,i≤N/\iv= .int .i64 i/\Hid (Ext w1 W)/\∃ps:List aHw,Hid (ps.map Prod.snd=bH e ts (L.take i)/\UnAt w1 W F ps lv)
theorem zK(e:bV)(ts:List aE)(R:aD):Strict aC (bH e ts R):=Strict.new (fG id) _
theorem aAe(e:bV)(ts:List aE)(R:aD)(i:Nat):(bH e ts (R.take i)).length≤i:=by refine Nat.le_trans (aL6 _) (Nat.le_trans (List.length_filterMap_le _ _) ?_);rw [List.length_take];omega
theorem EnvAt.kpR{w W W':World}{f:bV}{vn vv v:Value}{k n:Nat}{xs:List Value}{M:Nat->Prop}(h:EnvAt w W f vn vv)(hr:Row W 111 k v n xs M)(hk:Kp (fun g=>v.ownBlock=some g) W W'):EnvAt w W' f vn vv:=by
 refine⟨h.names.kp' hk fun g hg _ e=>?_,h.vals.kp' hk fun g hg _ e=>?_,h.apart⟩
 ·obtain⟨_,h1⟩:=h.names.blkOf hg;obtain⟨_,h2⟩:=hr.blkOf e;exact nB (cF h1 h2)
 ·obtain⟨_,h1⟩:=h.vals.blkOf hg;obtain⟨_,h2⟩:=hr.blkOf e;exact nB (cF h1 h2)
theorem aA4{α:Type}{c:α->α->Int}(O:OrdLaw c){L:List α}(hs:Strict c L){x:α}{k:Nat}(hk:k≤L.length)(h1:∀u,0<k->L[k-1]?=some u->c u x<0)(h2:∀u,L[k]?=some u->0<c u x):bT c L x=L.take k++x::L.drop k:=by have hp:=hs.place O hk h1 fun u hu=>Int.le_of_lt (h2 u hu);unfold bT;rw [<-hp,if_neg];intro hi;obtain⟨y,hy,hz⟩:=fW.1 hi;obtain⟨j,hj⟩:=List.mem_iff_getElem?.1 hy;have e:=sJ O hs hj hz;rw [<-hp]at e;subst e;have:=h2 y hj;omega
theorem aOp{Q:aD}{q u:List ByteArray}(hu:u∈Q)(h:aC u q=0):bT aC Q q=Q:=by unfold bT;rw [if_pos (fW.2 ⟨u,hu,h⟩)]
set_option maxHeartbeats 16000000 in
theorem zQ(e:bV)(p:ByteArray)(ts:List aE)(L:aD)(na va ao ra:Option Addr)(m nc vc n cap N rc:Nat)(w:World)(Gm Sr:Nat->Prop)(he:EnvOk e)(hm:m=e.1.length)(h1:CellsAt w na (strs e.1))(h2:CellsAt w va (strs e.2))(hn:n=ts.length)(h:aO w Gm ao ts)(hN:N=L.length)(hR:RowsIn Sr w ra L)(hLn:∀x∈L,x.length=n)(hl:m+n≤1048576)(hLl:N≤1048576*1048576):
 Calls Tryz.prog 147 #[.agg #[.string p,.slice ao n cap],.slice ra N rc,.agg #[.slice na m nc,.slice va m vc]] w (RetN w fun w' v=>aNb w.heap.size w' (cE e.1 ts) v (bH e ts L)):=by
 have HN:=qH (nIX hn (nIX hm (nIX hN (nIX he (nIX hLn hR)))));have HF:=qH (fun(W:World) (hW:Ext w W) (x:List ByteArray) (xa:Option Addr) (rc:Nat) (hx:CellsAt W xa (strs x)) (hxl:n=x.length)=>aEl e p ts x na va ao xa m nc vc n cap x.length rc W Gm he hm (h1.ext hW) (h2.ext hW) hn (h.kp hW fun _ _=>id) rfl hx (Nat.le_of_eq hxl) hl (by omega));obtain⟨F,eF⟩:=nm (cE e.1 ts);have hFl:F.length≤1048576:=by have h:=oG ts e.1;rw [eF]at h;omega
 have HFe:=qH eF;rw [eF];clear hn hm hN he hLn hR h h1 h2 eF;obtain⟨w1,e1⟩:=nm ((w.alloc (.cells #[.string p,.slice ao n cap] 24)).alloc (.cells #[.slice na m nc,.slice va m vc] 111));obtain⟨g0,eg0⟩:=nm w.heap.size;have hB1:Blk w1 g0 [.string p,.slice ao n cap] 24:=by rw [<-e1,<-eg0];exact(Blk.new w _ _).alloc _
 have hB2:Blk w1 (g0+1) [.slice na m nc,.slice va m vc] 111:=by have h:=Blk.new (w.alloc (.cells #[.string p,.slice ao n cap] 24)) [.slice na m nc,.slice va m vc] 111;rw [aJ,eg0]at h;rw [<-e1];exact h
 have hx1:Ext w w1:=by rw [<-e1];exact((Kp.refl w).alloc _).alloc _
 have H1:=qH (nIX hx1 (nIX hB1 hB2));clear hx1 hB1 hB2;go_enter Tryz.func147,Tryz.ntmps147;go_wp2;clear e1 eg0;go_loopw [7,8] (fun lv iv wr=>UnTo w1 F e ts L N lv iv wr) (fun _ iv _=>N- (intOf iv).toNat)
 case atStart=>exact⟨0,Nat.zero_le _,rfl,qH (Kp.refl _),[],qH ⟨rfl,Row.nil _ _ _ _,by simp⟩⟩
 case round=>
  obtain⟨i,hi,rfl,hex,ps,hU⟩:=hrel;obtain⟨qo,qc,eq,_,_⟩:=hU.out.2.row.shape;subst eq;have hpl:ps.length≤i:=by have h1:=congrArg List.length hU.out.1;rw [List.length_map]at h1;have:=aAe e ts L i;omega
  by_cases hlt:i<N
  ·obtain⟨x,hx⟩:∃x,L[i]?=some x:=⟨_,qG (by have:=HN.out.2.2.1;omega)⟩;obtain⟨rb,ro,xa,xc,era,x0,hcx,_,_⟩:=(HN.out.2.2.2.2.2.ext (H1.out.1.trans hex.out)).get hx;subst era;have hxn:=HN.out.2.2.2.2.1 x (List.mem_of_getElem? hx);have HJ:=qH (show ∀X,Ext wr X->(fun X:World=>X.cell? ⟨g0,0,none⟩=some (.string p)/\X.cell? ⟨g0,1,none⟩=some (.slice ao n cap)/\X.cell? ⟨g0+1,0,none⟩=some (.slice na m nc)/\X.cell? ⟨g0+1,1,none⟩=some (.slice va m vc)/\X.cell? ⟨rb,ro+i,none⟩=some (.slice xa x.length xc)) X from fun X hX=>⟨by rw [(H1.out.2.1.ext (hex.out.trans hX)).cell'];rfl,by rw [(H1.out.2.1.ext (hex.out.trans hX)).cell'];rfl,by rw [(H1.out.2.2.ext (hex.out.trans hX)).cell'];rfl,by rw [(H1.out.2.2.ext (hex.out.trans hX)).cell'];rfl,hX.cell x0 id⟩);have HX:=qH (nIX hx (nIX hcx hxn.symm));clear hx hcx hxn x0;go_wp2;refine aT (fun X:World=>X.cell? ⟨g0,0,none⟩=some (.string p)/\X.cell? ⟨g0,1,none⟩=some (.slice ao n cap)/\X.cell? ⟨g0+1,0,none⟩=some (.slice na m nc)/\X.cell? ⟨g0+1,1,none⟩=some (.slice va m vc)/\X.cell? ⟨rb,ro+i,none⟩=some (.slice xa x.length xc)) [11] (by kernel_rfl) (HJ.out _ (Kp.refl wr).drew) (fun hHeld=>?_);refine eIX 0 ?_;refine eIX 1 ?_;refine eFX 2 ?_;refine eFX 3 ?_;refine eIX 4 ?_;refine eIX 5 ?_;refine yT (i:=6) (k:=10) ?dw1a ?dw1b
   case' dw1a=>
    refine eCX 6 fun K hK=>?_;go_simp
    (refine(HF.out _ (H1.out.1.trans (hex.out.trans (by first|exact(Kp.refl wr).drew|exact(Kp.refl wr).drew.alloc _))) x xa xc (HX.out.2.1.ext (by first|exact(Kp.refl wr).drew|exact(Kp.refl wr).drew.alloc _)) HX.out.2.2).mono ?_;rintro e w5 ⟨v5,rfl,hk5,hv5⟩;obtain⟨fa,fn,fc,ya,yn,yc,rfl,hfe⟩:=hv5.shape;have X5:=qH (show Ext wr w5 from by first|exact(Kp.refl wr).drew.trans hk5|exact((Kp.refl wr).drew.alloc _).trans hk5);have K5:=qH hk5;have HFE:=qH (show ∀f,bU e ts x ts.length=some f->EnvAt w1 w5 f (.slice fa fn fc) (.slice ya yn yc)from fun f hf=>(hfe f hf).old (Nat.le_trans hex.out.size (by first|exact Nat.le_refl _|exact((Kp.refl (F:=fun _=>False) wr).drew.alloc _).size)));clear hk5 hv5 hfe)
    go_wp2_with fail
    refine hK.out _ _ (HJ.out _ X5.out) fun hHeld=>?_;clear hK K;refine eFX 7 ?_;refine eFX 8 ?_;refine eFX 9 ?_;refine eTX 10 fun K hK=>?_
    (first|have HA9:=qH (Blk.new w5 [.slice none 0 0,.slice none 0 0] 111)|have HA9:=qH (show Blk (wr.drew.alloc (.cells #[.slice none 0 0,.slice none 0 0] 111)) wr.heap.size [.slice none 0 0,.slice none 0 0] 111 from Blk.new wr.drew [.slice none 0 0,.slice none 0 0] 111))
    go_simp;refine hK.out _ _ (by first|exact HJ.out _ (X5.out.alloc _)|exact HJ.out _ ((Kp.refl wr).drew.alloc _)) fun hHeld=>?_;clear hK K;refine eLX 11 fun K hK=>?_
    (first|(have hb9:=HA9.out.ext K5.out;have y0:=hb9.free 0;have y1:w5.cell? ⟨wr.heap.size,0,none⟩=some (.slice none 0 0):=(by rw [hb9.cell'];rfl);have hb8:=hb9.set 0 (.slice fa fn fc);have y2:=hb8.free 1;have y3:(w5.setCell ⟨wr.heap.size,0,none⟩ (.slice fa fn fc)).cell? ⟨wr.heap.size,1,none⟩=some (.slice none 0 0):=(by rw [hb8.cell'];rfl))|skip)
    go_simp;refine hK.out _ _ ?_;clear hK K;refine eFX 12 ?_;refine aK (by kernel_rfl) ?_ _;first
     |(obtain⟨gz,egz⟩:=nm w5.heap.size;obtain⟨wz,ewz⟩:=nm (w5.alloc (.cells #[.slice fa fn fc,.slice ya yn yc] 111));rw [ewz,egz];have HZ:=qH (show Ext wr wz/\Blk wz gz [.slice fa fn fc,.slice ya yn yc] 111/\(∀f,bU e ts x ts.length=some f->EnvAt w1 wz f (.slice fa fn fc) (.slice ya yn yc))/\wr.heap.size≤gz from by rw [<-ewz,<-egz];exact⟨X5.out.alloc _,Blk.new w5 _ _,fun f hf=>(HFE.out f hf).ext ((Kp.refl w5).alloc _),X5.out.size⟩);clear HA9 egz ewz)
     |(obtain⟨gz,egz⟩:=nm wr.heap.size;obtain⟨wz,ewz⟩:=nm ((w5.setCell ⟨wr.heap.size,0,none⟩ (.slice fa fn fc)).setCell ⟨wr.heap.size,1,none⟩ (.slice ya yn yc));rw [ewz,egz];have HZ:=qH (show Ext wr wz/\Blk wz gz [.slice fa fn fc,.slice ya yn yc] 111/\(∀f,bU e ts x ts.length=some f->EnvAt w1 wz f (.slice fa fn fc) (.slice ya yn yc))/\wr.heap.size≤gz from by rw [<-ewz,<-egz];exact⟨X5.out.trans' (kSb) (fun i hi e=>by have e':i=wr.heap.size:=e;omega),hb8.set 1 _,fun f hf=>(HFE.out f hf).kp (kSb) (fun _ h=>h) hb9,Nat.le_refl _⟩);clear HA9 hb9 y0 y1 hb8 y2 y3 egz ewz)
    clear K5 X5 HFE hHeld;obtain⟨b,eb⟩:=nm ((bU e ts x ts.length).isSome);rw [eb];have HE:=qH eb;clear eb
   case' dw1b=>
    refine eCX 10 fun K hK=>?_
    (first|have HA9:=qH (Blk.new w5 [.slice none 0 0,.slice none 0 0] 111)|have HA9:=qH (show Blk (wr.drew.alloc (.cells #[.slice none 0 0,.slice none 0 0] 111)) wr.heap.size [.slice none 0 0,.slice none 0 0] 111 from Blk.new wr.drew [.slice none 0 0,.slice none 0 0] 111))
    go_simp;refine hK.out _ _ (by first|exact HJ.out _ (X5.out.alloc _)|exact HJ.out _ ((Kp.refl wr).drew.alloc _)) fun hHeld=>?_;clear hK K;refine eTX 6 fun K hK=>?_;go_simp
    (refine(HF.out _ (H1.out.1.trans (hex.out.trans (by first|exact(Kp.refl wr).drew|exact(Kp.refl wr).drew.alloc _))) x xa xc (HX.out.2.1.ext (by first|exact(Kp.refl wr).drew|exact(Kp.refl wr).drew.alloc _)) HX.out.2.2).mono ?_;rintro e w5 ⟨v5,rfl,hk5,hv5⟩;obtain⟨fa,fn,fc,ya,yn,yc,rfl,hfe⟩:=hv5.shape;have X5:=qH (show Ext wr w5 from by first|exact(Kp.refl wr).drew.trans hk5|exact((Kp.refl wr).drew.alloc _).trans hk5);have K5:=qH hk5;have HFE:=qH (show ∀f,bU e ts x ts.length=some f->EnvAt w1 w5 f (.slice fa fn fc) (.slice ya yn yc)from fun f hf=>(hfe f hf).old (Nat.le_trans hex.out.size (by first|exact Nat.le_refl _|exact((Kp.refl (F:=fun _=>False) wr).drew.alloc _).size)));clear hk5 hv5 hfe)
    go_wp2_with fail
    refine hK.out _ _ (HJ.out _ X5.out) fun hHeld=>?_;clear hK K;refine eFX 7 ?_;refine eFX 8 ?_;refine eFX 9 ?_;refine eLX 11 fun K hK=>?_
    (first|(have hb9:=HA9.out.ext K5.out;have y0:=hb9.free 0;have y1:w5.cell? ⟨wr.heap.size,0,none⟩=some (.slice none 0 0):=(by rw [hb9.cell'];rfl);have hb8:=hb9.set 0 (.slice fa fn fc);have y2:=hb8.free 1;have y3:(w5.setCell ⟨wr.heap.size,0,none⟩ (.slice fa fn fc)).cell? ⟨wr.heap.size,1,none⟩=some (.slice none 0 0):=(by rw [hb8.cell'];rfl))|skip)
    go_simp;refine hK.out _ _ ?_;clear hK K;refine eFX 12 ?_;refine aK (by kernel_rfl) ?_ _;first
     |(obtain⟨gz,egz⟩:=nm w5.heap.size;obtain⟨wz,ewz⟩:=nm (w5.alloc (.cells #[.slice fa fn fc,.slice ya yn yc] 111));rw [ewz,egz];have HZ:=qH (show Ext wr wz/\Blk wz gz [.slice fa fn fc,.slice ya yn yc] 111/\(∀f,bU e ts x ts.length=some f->EnvAt w1 wz f (.slice fa fn fc) (.slice ya yn yc))/\wr.heap.size≤gz from by rw [<-ewz,<-egz];exact⟨X5.out.alloc _,Blk.new w5 _ _,fun f hf=>(HFE.out f hf).ext ((Kp.refl w5).alloc _),X5.out.size⟩);clear HA9 egz ewz)
     |(obtain⟨gz,egz⟩:=nm wr.heap.size;obtain⟨wz,ewz⟩:=nm ((w5.setCell ⟨wr.heap.size,0,none⟩ (.slice fa fn fc)).setCell ⟨wr.heap.size,1,none⟩ (.slice ya yn yc));rw [ewz,egz];have HZ:=qH (show Ext wr wz/\Blk wz gz [.slice fa fn fc,.slice ya yn yc] 111/\(∀f,bU e ts x ts.length=some f->EnvAt w1 wz f (.slice fa fn fc) (.slice ya yn yc))/\wr.heap.size≤gz from by rw [<-ewz,<-egz];exact⟨X5.out.trans' (kSb) (fun i hi e=>by have e':i=wr.heap.size:=e;omega),hb8.set 1 _,fun f hf=>(HFE.out f hf).kp (kSb) (fun _ h=>h) hb9,Nat.le_refl _⟩);clear HA9 hb9 y0 y1 hb8 y2 y3 egz ewz)
    clear K5 X5 HFE hHeld;obtain⟨b,eb⟩:=nm ((bU e ts x ts.length).isSome);rw [eb];have HE:=qH eb;clear eb
   all_goals
    cases b with
    |false=>
     have hno:=Option.isNone_iff_eq_none.1 (Option.isSome_eq_false_iff.1 HE.out);have HNo:=qH (show bH e ts (L.take (i+1))=bH e ts (L.take i)from by rw [List.take_add_one,HX.out.1];show bH e ts (_++ [x])=_;rw [tX,hno]);clear hno;go_wp2;go_roundw
     case rel=>exact⟨i+1,by omega,nMX,qH (hex.out.trans HZ.out.1),ps,qH ⟨by rw [HNo.out];exact hU.out.1,hU.out.2.ext HZ.out.1⟩⟩
     case measure=>simp [intOf];omega
    |true=>
     obtain⟨f,hf⟩:=Option.isSome_iff_exists.1 HE.out;have hEf:=HZ.out.2.2.1 f hf;have hOk:=iI HN.out.2.2.2.1 hf;have e1:f.1=F:=by rw [hOk.2.2.1,List.take_of_length_le (Nat.le_refl _)];exact HFe.out
     have hql:f.2.length=F.length:=by rw [hOk.1.len,e1]
     obtain⟨F',q⟩:=f;simp only at e1 hql;subst e1;obtain⟨_,_,ev,_,_⟩:=hEf.names.shape;cases ev;obtain⟨_,_,ev,hcq,_⟩:=hEf.vals.shape;cases ev;have HSn:=qH (show bH e ts (L.take (i+1))=bT aC (bH e ts (L.take i)) q from by rw [List.take_add_one,HX.out.1];show bH e ts (_++ [x])=_;rw [tX,hf]);obtain⟨Q,eQ⟩:=nm (bH e ts (L.take i));have HQ:=qH (show Strict aC Q/\ps.map Prod.snd=Q/\Q=bH e ts (L.take i)from⟨by rw [<-eQ];exact zK _ _ _,by rw [<-eQ];exact hU.out.1,eQ.symm⟩);rw [eQ]at HSn;have HQf:=qH (nIX hEf (nIX hcq hql));have HUz:=qH (hU.out.2.ext HZ.out.1);have HGz:=qH (show ∀g,(Value.slice qo ps.length qc).ownBlock=some g->gz≠g from fun g hg e=>by have:=hU.out.2.row.ltB hg;have:=HZ.out.2.2.2;omega);clear hf hEf hOk hcq hql eQ;go_wp2;go_loopw [11] (fun kv W=>∃k:Nat,k≤ps.length/\kv= .int .i64 k/\Hid (∀u,Q[k]?=some u->0<aC u q)/\Hid (Ext wz W)) (fun kv _=>(intOf kv).toNat)
     case atStart=>exact⟨ps.length,Nat.le_refl _,rfl,qH (fun u hu=>by rw [<-HQ.out.2.1]at hu;simp at hu),qH (Kp.refl _)⟩
     case round=>
      obtain⟨k,hk,rfl,hgt,hxW⟩:=hrel;have z0:=(HZ.out.2.1.ext hxW.out).c0;have z1:=(HZ.out.2.1.ext hxW.out).c1;by_cases hk0:k=0
      case' pos=>
       have HP:=qH (show bT aC Q q=Q.take k++q::Q.drop k from aA4 (fG id) HQ.out.1 (by omega) (fun u h=>absurd h (by omega)) hgt.out);have t0:decide (0<k)=false:=by simp [hk0]
       have t1:¬(0<k):=by omega
       clear hk0;go_wp2;go_quiet (fail)
       replace z0:(wr.drewN nq).cell? ⟨gz,0,none⟩=some (.slice fa F'.length fc):=z0;replace z1:(wr.drewN nq).cell? ⟨gz,1,none⟩=some (.slice ya F'.length yc):=z1;have HX6:=qH (show Ext wz (wr.drewN nq)from hxW.out.drewN nq);generalize wr.drewN nq=w6 at z0 z1 HX6 ⊢;go_wp2;go_quiet (fail)
       replace z0:(w6.drewN nq).cell? ⟨gz,0,none⟩=some (.slice fa F'.length fc):=z0;replace z1:(w6.drewN nq).cell? ⟨gz,1,none⟩=some (.slice ya F'.length yc):=z1;have HX7:=qH (show Ext wz (w6.drewN nq)from HX6.out.drewN nq);generalize w6.drewN nq=w7 at z0 z1 HX7 ⊢;clear t0 t1
      case' neg=>
       obtain⟨j,rfl⟩:∃j,k=j+1:=⟨k-1,by omega⟩;obtain⟨pz,hpz⟩:∃p,ps[j]?=some p:=⟨_,qG (by omega)⟩;obtain⟨hlen,⟨_,h0⟩|⟨ob,ocap,orest,eo,_,hoB,_,_,_⟩⟩:=HUz.out.row
       ·omega
       cases eo;obtain⟨_,_,ev,hcz,_⟩:=(HUz.out.env pz (List.mem_of_getElem? hpz)).vals.shape;cases ev;have y0:wr.cell? ⟨ob,j*2+1,none⟩=some (.slice pz.1.2.2.1 F'.length pz.1.2.2.2):=by rw [(hoB.ext hxW.out).cell'];have h:=flat_get (tQ F'.length) 2 (sK _) ps j pz 1 hpz (by omega);rw [List.getElem?_append_left (List.getElem?_eq_some_iff.1 h).1,h];rfl
       have hzl:pz.2.length=F'.length:=by have h:=(HUz.out.env pz (List.mem_of_getElem? hpz)).vals.1;rw [eE]at h;have h:pz.2.length=F'.length*1:=h;omega
       have HCM:=qH (fun W (hW:Ext wz W)=>jS pz.2 q pz.1.2.2.1 ya pz.1.2.2.2 yc W (hcz.ext hW) (HQf.out.2.1.ext hW) (by unfold maxLen;omega) (by unfold maxLen;rw [HQf.out.2.2];omega));rw [hzl,HQf.out.2.2]at HCM;obtain⟨u,eu⟩:=nm pz.2;have HU2:=qH (show Q[j]?=some u from by rw [<-HQ.out.2.1,List.getElem?_map,hpz,<-eu];rfl);rw [eu]at HCM;generalize hcc:aC u q=cc at HCM;have HCC:=qH hcc;clear hcc hcz hlen hoB hzl eu hpz;obtain⟨i1,i2,i3,i4,_,i6,_⟩:=yB (k:=j) (n:=ps.length+1) (by omega) (by omega);have i5:(j:Int)< (ps.length:Int):=by omega
       go_wp2;go_still_tail 11,(by kernel_rfl)
       go_wp2_with fail
       refine(HCM.out _ hxW.out.drew).mono ?_;rintro e w6 ⟨rfl,k6,rfl⟩;replace y0:(wr.drew.drewN k6).cell? ⟨ob,j*2+1,none⟩=some (.slice pz.1.2.2.1 F'.length pz.1.2.2.2):=y0;replace z0:(wr.drew.drewN k6).cell? ⟨gz,0,none⟩=some (.slice fa F'.length fc):=z0;replace z1:(wr.drew.drewN k6).cell? ⟨gz,1,none⟩=some (.slice ya F'.length yc):=z1;have HX6:=qH (show Ext wz (wr.drew.drewN k6)from hxW.out.drew.drewN k6);generalize wr.drew.drewN k6=w6 at y0 z0 z1 HX6;by_cases hc1:0<cc
       case pos=>
        have t2:decide (cc>0)=true:=by simp [hc1]
        have t3:decide (0<cc)=true:=by simp [hc1]
        go_wp2;go_roundw
        case rel=>exact⟨j,by omega,nMX,qH (fun v hv=>by rw [HU2.out]at hv;cases hv;rw [HCC.out];exact hc1),qH HX6.out⟩
        case measure=>simp [intOf];try omega
       have t2:decide (cc>0)=false:=by simp [hc1]
       have t3:decide (0<cc)=false:=by simp [hc1]
       have HC1:=qH hc1;clear hc1;go_wp2;by_cases hc0:cc=0
       case pos=>
        have t4:(cc==0)=true:=by simp [hc0]
        have HSm:=qH (show bT aC Q q=Q from aOp (List.mem_of_getElem? HU2.out) (by rw [HCC.out];exact hc0));go_still_tail 11,(by kernel_rfl)
        go_wp2_with fail
        refine(HCM.out _ HX6.out.drew).mono ?_;rintro e w7 ⟨rfl,k7,rfl⟩;clear y0 z0 z1;go_wp2;go_roundw
        case rel=>exact⟨i+1,by omega,nMX,qH (hex.out.trans (HZ.out.1.trans (HX6.out.drewN _))),ps,qH ⟨by rw [HSn.out,HSm.out];exact HQ.out.2.1,HUz.out.ext (HX6.out.drewN _)⟩⟩
        case measure=>simp [intOf];omega
       have t4:(cc==0)=false:=by simp [hc0]
       have HP:=qH (show bT aC Q q=Q.take (j+1)++q::Q.drop (j+1)from aA4 (fG id) HQ.out.1 (by rw [<-HQ.out.2.1,List.length_map];exact hk) (fun v _ hv=>by rw [Nat.add_sub_cancel,HU2.out]at hv;cases hv;show aC u q<0;rw [HCC.out];have:=HC1.out;omega) hgt.out);go_still_tail 11,(by kernel_rfl)
       go_wp2_with fail
       refine(HCM.out _ HX6.out.drew).mono ?_;rintro e w7 ⟨rfl,k7,rfl⟩;replace z0:(w6.drew.drewN k7).cell? ⟨gz,0,none⟩=some (.slice fa F'.length fc):=z0;replace z1:(w6.drew.drewN k7).cell? ⟨gz,1,none⟩=some (.slice ya F'.length yc):=z1;have HX7:=qH (show Ext wz (w6.drew.drewN k7)from HX6.out.drew.drewN k7);generalize w6.drew.drewN k7=w7 at z0 z1 HX7;clear hc0 y0 t2 t3 i1 i2 i3 i4 i5 i6 HC1 HCM hgt;obtain⟨k,hk'⟩:=nm (j+1);rw [hk']at HP hk;rw [show(j:Int)+1=(k:Int)from by omega]
      all_goals
       go_wp2_with (first|(at_builtin;refine Halted.out ?_))
       have HU7:=qH (HUz.out.ext HX7.out);refine Halted.mk (iN (n:=ps.length) (m:=1) aEx rfl _ _ rfl rfl (HU7.out.row.alloc _) rfl (CellsAt.new w7 [.slice fa F'.length fc,.slice ya F'.length yc] 111) (by rfl) (by simp [Value.oneCell']) (by omega) (by unfold maxLen;omega) ?_);intro v8 w8 hr8 hk8;have hU8:∀p∈ps++ [((fa,fc,ya,yc),q)],EnvAt w1 w8 (F',p.2) (.slice p.1.1 F'.length p.1.2.1) (.slice p.1.2.2.1 F'.length p.1.2.2.2):=fun p hp=>by
        have h:EnvAt w1 w7 (F',p.2) (.slice p.1.1 F'.length p.1.2.1) (.slice p.1.2.2.1 F'.length p.1.2.2.2):=by
         rcases List.mem_append.1 hp with hp|hp
         ·exact HU7.out.env p hp
         ·cases List.mem_singleton.1 hp;exact HQf.out.1.ext HX7.out
        exact(h.ext ((Kp.refl w7).alloc _)).kpR (HU7.out.row.alloc _) hk8
       have hx8:Ext w1 w8:=((hex.out.trans (HZ.out.1.trans HX7.out)).alloc _).trans' hk8 fun j hj e=>by have:=HU7.out.row.block j e;omega
       have hZ8:Blk w8 gz [.slice fa F'.length fc,.slice ya F'.length yc] 111:=((HZ.out.2.1.ext HX7.out).alloc _).kp hk8 fun e=>HGz.out gz e rfl;obtain⟨hl8,⟨_,h0⟩|⟨g8,cap8,rest8,rfl,hM8,hB8,hBl8,hc8,hcm8⟩⟩:=hr8
       ·omega
       have HM8:=qH (show w1.heap.size≤g8/\gz≠g8 from by
        rcases hM8 with h|h
        ·exact⟨HU7.out.row.block g8 h,HGz.out g8 h⟩
        ·exact⟨Nat.le_trans ((hex.out.trans (HZ.out.1.trans HX7.out)).alloc _).size h,fun e=>by have h1:=((HZ.out.2.1.ext HX7.out).alloc (.cells #[.slice fa F'.length fc,.slice ya F'.length yc] 111)).lt;rw [e]at h1;exact Nat.lt_irrefl _ (Nat.lt_of_lt_of_le h1 h)⟩)
       obtain⟨A,eA⟩:=nm ((ps.take k).flatMap (tQ F'.length));obtain⟨B,eB⟩:=nm ((ps.drop k).flatMap (tQ F'.length));have hA:A.length=k*2:=by rw [<-eA,jX _ 2 (sK _),List.length_take,Nat.min_eq_left hk]
       have hBn:B.length=(ps.length-k)*2:=by rw [<-eB,jX _ 2 (sK _),List.length_drop]
       have eAB:ps.flatMap (tQ F'.length)=A++B:=by rw [<-eA,<-eB,<-List.flatMap_append,List.take_append_drop]
       rw [eAB,List.append_assoc (A++B)]at hB8 hBl8;have HAB:=qH (nIX eA eB);have H8:=qH (nIX hx8 (nIX hU8 (nIX hZ8 (nIX hB8 (nIX hBl8 (nIX hc8 hcm8))))));clear hx8 hU8 hZ8 hB8 hBl8 hM8 hk8 hl8 hcm8 z0 z1 eA eB eAB;have p1:(k:Int)+1≤(ps.length:Int)+1:=by omega
       have p2:(0:Int)≤(k:Int)+1:=by omega
       have p3:(k:Int)≤(ps.length:Int)+1:=by omega
       have p4:IntKind.i64.wrap ((k:Int)+1)=(k:Int)+1:=IntWalk.i64_in _ (by omega);have p5:((k:Int)+1).toNat=k+1:=by omega
       have p6:¬cap8=k:=by omega
       go_wp2;go_still_tail 7,(by kernel_rfl)
       refine aLh aEx rfl _ _ rfl (w:=w8.drew) (H8.out.2.2.2.1.drew) (g:=g8) (off:=A.length+2) rfl rfl (cs:=B) (by rw [hBn];simp only [Nat.min_def];split<;>omega) (fun h=>by
        have:¬cap8=k+1:=by have:=H8.out.2.2.2.2.2.1;omega
        first|(simp [this,hA];done)|(simp [this,hA];omega)) (fun j u hu=>⟨g8,k*2,rfl,by rw [H8.out.2.2.2.1.drew.cell',List.append_assoc,List.getElem?_append_right (by omega),show k*2+j-A.length=j by omega,List.getElem?_append_left (List.getElem?_eq_some_iff.1 hu).1];exact hu⟩) (by simp only [List.length_append,List.length_cons,List.length_nil];omega) (by rw [<-HAB.out.2];exact aMo _ _) ?_
       intro w9 hk9 hB9;have hZ9:=H8.out.2.2.1.drew.kp hk9 fun e=>HM8.out.2 e;have z0:=hZ9.c0;have z1:=hZ9.c1;obtain⟨Z,eZ⟩:=nm (splice (A++B++([Value.slice fa F'.length fc,.slice ya F'.length yc]++rest8)) (A.length+2) B);have hZp:(Z.set (k*2) (.slice fa F'.length fc)).set (k*2+1) (.slice ya F'.length yc)=A++ [Value.slice fa F'.length fc,.slice ya F'.length yc]++B++rest8:=by rw [<-eZ,<-hA];exact aFq
       have hZl:Z.length=(A++ [Value.slice fa F'.length fc,.slice ya F'.length yc]++B++rest8).length:=by rw [<-hZp,List.length_set,List.length_set]
       have hB9':Blk w9 g8 Z 111:=by rw [<-eZ];exact hB9
       obtain⟨v0,hv0⟩:∃v,Z[k*2]?=some v:=⟨_,qG (by rw [hZl];simp;omega)⟩;obtain⟨v1,hv1⟩:∃v,Z[k*2+1]?=some v:=⟨_,qG (by rw [hZl];simp;omega)⟩;have y0:w9.cell? ⟨g8,k*2,none⟩=some v0:=by rw [hB9'.cell'];exact hv0
       have y1:=hB9'.free (k*2);have hBs:=hB9'.set (k*2) (.slice fa F'.length fc);have y2:(w9.setCell ⟨g8,k*2,none⟩ (.slice fa F'.length fc)).cell? ⟨g8,k*2+1,none⟩=some v1:=by rw [hBs.cell',List.getElem?_set_ne (by omega)];exact hv1
       have y3:=hBs.free (k*2+1);obtain⟨wW,ewW⟩:=nm ((w9.setCell ⟨g8,k*2,none⟩ (.slice fa F'.length fc)).setCell ⟨g8,k*2+1,none⟩ (.slice ya F'.length yc));have hkW:Kp (fun q=>q=g8) w8 wW:=(((Kp.refl w8).drew).trans hk9).trans (by rw [<-ewW];exact Kp.setCell (F:=fun q=>q=g8) (p:=⟨g8,k*2+1,none⟩) (Kp.setCell (F:=fun q=>q=g8) (p:=⟨g8,k*2,none⟩) (Kp.refl _) (fun _=>rfl) _) (fun _=>rfl) _);have hBW:Blk wW g8 (A++ [Value.slice fa F'.length fc,.slice ya F'.length yc]++B++rest8) 111:=by rw [<-hZp,<-ewW];exact hBs.set (k*2+1) _
       have hxW:Ext w1 wW:=H8.out.1.trans' hkW fun j hj e=>by have e':j=g8:=e;have:=HM8.out.1;omega
       have HW:=qH (nIX hxW (nIX hBW (show ∀p∈ps++ [((fa,fc,ya,yc),q)],EnvAt w1 wW (F',p.2) (.slice p.1.1 F'.length p.1.2.1) (.slice p.1.2.2.1 F'.length p.1.2.2.2)from fun p hp=>(H8.out.2.1 p hp).kp hkW (fun _ h=>h) H8.out.2.2.2.1)));clear hZ9 eZ hZp hZl hB9 hB9' hv0 hv1 hBs hkW hBW hxW hk9;go_wp2;try rw [ewW]
       clear y0 y1 y2 y3 ewW z0 z1;go_roundw
       case rel=>
        refine⟨i+1,by omega,nMX,qH HW.out.1,ps.take k++((fa,fc,ya,yc),q)::ps.drop k,qH ⟨?_,?_,fun p hp=>HW.out.2.2 p ?_⟩⟩
        ·rw [HSn.out,HP.out,<-HQ.out.2.1,List.map_append,List.map_cons,List.map_take,List.map_drop]
        ·have hl:(ps.take k++((fa,fc,ya,yc),q)::ps.drop k).length=ps.length+1:=by rw [List.length_append,List.length_cons,List.length_take,List.length_drop];omega
         have hf:(ps.take k++((fa,fc,ya,yc),q)::ps.drop k).flatMap (tQ F'.length)=A++ [Value.slice fa F'.length fc,.slice ya F'.length yc]++B:=by rw [List.flatMap_append,List.flatMap_cons,HAB.out.1,HAB.out.2,List.append_assoc];rfl
         rw [hl,hf];have h1:=H8.out.2.2.2.2.1;refine⟨by simp;omega,.inr ⟨g8,cap8,rest8,rfl,HM8.out.1,HW.out.2.1,?_,H8.out.2.2.2.2.2.1,H8.out.2.2.2.2.2.2⟩⟩;rw [<-h1];simp;omega
        ·rcases List.mem_append.1 hp with hp|hp
         ·exact List.mem_append_left _ (List.mem_of_mem_take hp)
         ·rcases List.mem_cons.1 hp with hp|hp
          ·exact List.mem_append_right _ (List.mem_singleton.2 hp)
          ·exact List.mem_append_left _ (List.mem_of_mem_drop hp)
       case measure=>simp [intOf];omega
  ·obtain rfl:i=N:=by omega
   go_wp2;go_ret;refine RetN.mk (H1.out.1.trans hex.out) ⟨qo,qc,ps,rfl,?_,?_,fun a e=>Nat.le_trans H1.out.1.size (hU.out.2.row.block a.block (by rw [e];rfl)),?_⟩
   ·rw [hU.out.1,List.take_of_length_le (by have:=HN.out.2.2.1;omega)]
   ·obtain⟨_,_,e,hc,_⟩:=hU.out.2.row.shape;cases e;exact hc
   ·intro p hp;have h:=hU.out.2.env p hp;obtain⟨_,_,e1,c1,_⟩:=h.names.shape;obtain⟨_,_,e2,c2,_⟩:=h.vals.shape;cases e1;cases e2;refine⟨c1,c2,?_,fun a e=>⟨Nat.le_trans H1.out.1.size (h.names.block a.block (by rw [e];rfl)),h.names.ltB (g:=a.block) (by rw [e];rfl)⟩,fun a e=>⟨Nat.le_trans H1.out.1.size (h.vals.block a.block (by rw [e];rfl)),h.vals.ltB (g:=a.block) (by rw [e];rfl)⟩⟩;have h3:=h.vals.1;rw [eE]at h3;have h3:p.2.length=F.length*1:=h3;omega
end
section
open Go.RowKit Go.Shelf
set_option maxHeartbeats 1000000 in
theorem kY(bvs:List Value)(bo:Option Addr)(n bc i:Nat)(w:World)(hn:n=bvs.length)(h:CellsAt w bo bvs)(hl:n≤1048576)(hi:i≤1048576):Calls Tryz.prog 79 #[.slice bo n bc,.int .i64 i] w (Ret (bvs.getD i (.pointer none)) w):=by
 go_enter Tryz.func79,Tryz.ntmps79;by_cases hlt:i<n
 ·obtain⟨v,hv⟩:∃v,bvs[i]?=some v:=⟨_,qG (by omega)⟩;obtain⟨b,o,e,c0⟩:=h i v hv;subst e;have HV:=qH (show bvs.getD i (.pointer none)=v from by rw [List.getD_eq_getElem?_getD,hv];rfl);have i1:(i:Int)< (n:Int):=by omega
  go_wp2;go_ret;exact Ret.mk HV.out
 ·have HV:=qH (show bvs.getD i (.pointer none)= .pointer none from by rw [List.getD_eq_getElem?_getD,List.getElem?_eq_none (by omega)];rfl);go_wp2;go_ret;exact Ret.mk HV.out
structure WSt(w0 W:World)(gw:Nat)(cs:List Value)(OUT:aD)(ov:Value):Prop where
 ext:Ext w0 W
 blk:Blk W gw (cs++ [ov]) 166
 lo:w0.heap.size≤gw
 out:OwnRows w0.heap.size W ov OUT
theorem OwnRows.blk{lo:Nat}{w:World}{v:Value}{LL:aD}(h:OwnRows lo w v LL){g:Nat}(hg:v.ownBlock=some g):lo≤g/\g<w.heap.size/\∃cs,Blk w g cs 34:=by obtain⟨ps,_,h2,_⟩:=h;exact⟨h2.block g hg,h2.ltB hg,h2.blkOf hg⟩
theorem OwnRows.wpN{lo:Nat}{v:Value}{LL:aD}{W w1:World}{x:gZ}{ss:List ByteArray}{ops:Array Oper}{rest:List Oper}{o:Oper}{a:Act}{Q:Exit->Act->World->Prop}(h:OwnRows lo W v LL)(hk:Ext W w1)(hlo:lo≤W.heap.size)
 (hx:Row w1 9 1 (.slice x.1 x.2.1 x.2.2) ss.length (strs ss) (New W))(hss:ss.length≤8796093021952)(hll:LL.length≤1048576*1048576)(hgd:o.guard=none)(s y:Operand)
 (ho:o.op= .call {callee:= .builtin .append,args:=#[s,y],argTypes:=#[69,69]})(hs:a.eval s=v)(hy:a.eval y= .slice (some ⟨w1.heap.size,0,none⟩) 1 1)
 (H:∀v' w',(∃ao cap,v'= .slice ao (LL.length+1) cap)->OwnRows lo w' v' (LL++ [ss])->Kp (fun g=>v.ownBlock=some g) (w1.alloc (.cells #[.slice x.1 x.2.1 x.2.2] 34)) w'->(∀g,v'.ownBlock=some g->v.ownBlock=some g\/W.heap.size≤g)->wpList Tryz.prog ops Q rest (a.put o.dst v') w'):
 wpList Tryz.prog ops Q (o::rest) a (w1.alloc (.cells #[.slice x.1 x.2.1 x.2.2] 34)):=by
 obtain⟨ps,rfl,r2,r3,r4⟩:=h;have hex:Ext W (w1.alloc (.cells #[.slice x.1 x.2.1 x.2.2] 34)):=hk.alloc _;have r2':=r2.ext hex;rw [List.length_map]at hll;refine sR dP hgd s y ho (Kp.refl (F:=fun g=>v.ownBlock=some g) _) (M:=fun g=>v.ownBlock=some g\/ (w1.alloc (.cells #[.slice x.1 x.2.1 x.2.2] 34)).heap.size≤g) (fun g h h'=>by rcases h with h|h;exact h;omega) (fun g h=> .inr h) hs
  (Row.mono r2'.own fun g h=> .inl h) hy (m:=1) (news:= [.slice x.1 x.2.1 x.2.2]) rfl (CellsAt.one w1 _ _) (by simp;rfl) (by omega) (by unfold maxLen;omega) ?_
 intro v' w' hr' hk' _ _;obtain⟨ao,cap,e,_⟩:=hr'.shape;have hnew:=hr'.block;refine H v' w' ⟨ao,cap,by rw [e];simp⟩ ?_ hk' fun g hg=>(hnew g hg).imp id fun h=>Nat.le_trans hex.size h;exact OwnRows.push r2' (fun p hp=>⟨(r3 p hp).1.ext hex,(r3 p hp).2⟩) r4 (B:=W.heap.size) (fun p hp g hg=>(r3 p hp).1.lt g hg) hlo (hx.alloc _) hss
  (Row.mono hr' fun g hg=>by rcases hg with hg|hg;exact r2.block g hg;exact Nat.le_trans hlo (Nat.le_trans hex.size hg)) hk'
section
variable {w0 W W':World}{gw:Nat}{cs:List Value}{OUT:aD}{ov:Value}
theorem WSt.next(h:WSt w0 W gw cs OUT ov)(hx:Ext W W'):WSt w0 W' gw cs OUT ov:=⟨h.ext.trans hx,h.blk.ext hx,h.lo,h.out.ext hx⟩
def zI(gw:Nat)(ov:Value)(g:Nat):Prop:=g=gw\/ov.ownBlock=some g
theorem WSt.off(h:WSt w0 W gw cs OUT ov):∀g,zI gw ov g->w0.heap.size≤g/\g<W.heap.size:=fun g hg=>by
 rcases hg with rfl|hg
 ·exact⟨h.lo,h.blk.lt⟩
 ·exact⟨(h.out.blk hg).1,(h.out.blk hg).2.1⟩
end
structure WIn(w0:World)(ls:List aL)(R:Nat->aD)(ba:Option Addr)(n bcap:Nat)(bo:Option Addr)(m bc:Nat):Prop where
 gm:∃Gm,bW w0 Gm ba ls
 len:n=ls.length
 few:n≤1048576
 bvs:∃bvs,CellsAt w0 bo bvs/\m=bvs.length/\∀i l,ls[i]?=some l->∃S G,BaseP S w0 (bvs.getD i (.pointer none)) G/\R i=lB G (bJ l)
 mfew:m≤1048576
 terms:∀l∈ls,(aB ls).length+(aA l).length≤1048576
 all:(aB ls).length≤1048576
end
section
open Go.RowKit Go.Shelf
attribute [local go_sem] Oper.semAt_some
def iX(p:ByteArray)(ha:Option Addr)(hn hc:Nat)(ba:Option Addr)(n bcap:Nat)(bo:Option Addr)(m bc most:Nat):List Value:= [.string p,.slice ha hn hc,.slice ba n bcap,.slice bo m bc,.int .i64 most]
def aOb(w0:World)(gw:Nat)(cs:List Value)(OUT:aD)(ov:Value)(L:aD)(W W':World)(v:Value):Prop:=
 v= .bool true/\∃ov',WSt w0 W' gw cs (OUT++L) ov'/\∀g,ov'.ownBlock=some g->ov.ownBlock=some g\/W.heap.size≤g
def aO3(ls:List aL)(R:Nat->aD)(e:bV)(n:Nat)(w1:World)(kv:Value)(W:World):Prop:=
 ∃k:Nat,k≤n/\kv= .int .i64 k/\Hid (∀j l,j<k->ls[j]?=some l->l.1≠1->fD e (bR (aA l) (R j)) l=true)/\Hid (Ext w1 W)
theorem aJ7{ls:List aL}{R:Nat->aD}{e:bV}(h:∀j l,ls[j]?=some l->l.1≠1->fD e (bR (aA l) (R j)) l=true):lK e R 0 ls=true:=
 pJ.2 fun j l hj hk=>by rw [Nat.zero_add];exact mN.1 (h j l hj hk)
theorem aJ6{ls:List aL}{R:Nat->aD}{e:bV}{j:Nat}{l:aL}(hj:ls[j]?=some l)(hk:l.1≠1)(h:fD e (bR (aA l) (R j)) l=false):lK e R 0 ls=false:=by
 cases hb:lK e R 0 ls with
 |false=>rfl
 |true=>
  have h2:=pJ.1 hb j l hj hk;rw [Nat.zero_add]at h2;rw [mN.2 h2]at h;cases h
theorem tI(ls:List aL)(i:Nat):(aB (ls.take i)).length≤(aB ls).length:=by have h:=congrArg List.length (jT ls i);rw [List.length_take]at h;omega
section
variable {w0 W:World}{ls:List aL}{R:Nat->aD}{ba:Option Addr}{n bcap:Nat}{bo:Option Addr}{m bc:Nat}{gw:Nat}{p:ByteArray}{ha:Option Addr}{hn hc most:Nat}{OUT:aD}{ov:Value}{e:bV}{na va:Option Addr}{k nc vc:Nat}
set_option maxHeartbeats 16000000 in
theorem aMl(hI:WIn w0 ls R ba n bcap bo m bc)(hok:FromOk ls R n e)(hk:k=e.1.length)(h1:CellsAt W na (strs e.1))(h2:CellsAt W va (strs e.2))(hw:WSt w0 W gw (iX p ha hn hc ba n bcap bo m bc most) OUT ov)(hm:(OUT++if lK e R 0 ls then [e.2]else []).length≤most)(hmm:most≤4611686018427387904)(hO:OUT.length≤1048576):
 Calls Tryz.prog 116 #[.pointer (some ⟨gw,0,none⟩),.int .i64 n,.agg #[.slice na k nc,.slice va k vc]] W (RetF (zI gw ov) W fun W' v=>aOb w0 gw (iX p ha hn hc ba n bcap bo m bc most) OUT ov (if lK e R 0 ls then [e.2]else []) W W' v):=by
 obtain⟨L,eL⟩:=nm ((if lK e R 0 ls then [e.2]else []));rw [eL]at hm ⊢;have HEL:=qH eL;clear eL;obtain⟨bvs,hbc,hbl,hbs⟩:=hI.bvs;obtain⟨Gm,hGm⟩:=hI.gm;have hn:=hI.len;have hnf:=hI.few;have hmf:=hI.mfew;have hkl:k≤1048576:=by have h1:=tI ls n;have h2:=hI.all;rw [hk,hok.names];omega
 have HHo:=qH (fun(X:World) (hX:Ext W X) (j:Nat) (l:aL) (hj:ls[j]?=some l) (a:Option Addr) (cap:Nat) (hl:LitIn X Gm l a cap)=>show Calls Tryz.prog 146 #[litV l.1 (bJ l) a (aA l).length cap (gM l) (leftOf l).1 (leftOf l).2.1 (aN l).1 (aN l).2.1,bvs.getD j (.pointer none),.agg #[.slice na k nc,.slice va k vc]] X (RetN X fun w' v=>v= .bool (fD e (bR (aA l) (R j)) l))from by obtain⟨S,G,hB,eR⟩:=hbs j l hj;rw [eR];exact aB6 e l a cap hl (hB.ext (hw.ext.trans hX)) na va k nc vc _ hok.ok hk rfl (h1.ext hX) (h2.ext hX) (by have h3:=hI.terms l (List.mem_of_getElem? hj);have h4:=tI ls n;rw [hk,hok.names];omega));have HBs:=qH (fun(X:World) (hX:Ext W X) (j:Nat) (hj:j≤1048576)=>kY bvs bo m bc j X hbl (hbc.ext (hw.ext.trans hX)) hmf hj);have HL:=qH (fun(X:World) (hX:Ext W X)=>hGm.ext (hw.ext.trans hX));have HI:=qH (nIX hw (nIX hm (nIX hk (nIX hok (nIX h2 hn)))));obtain⟨be,ebe⟩:=nm W.heap.size;obtain⟨w1,e1⟩:=nm (W.alloc (.cells #[.slice na k nc,.slice va k vc] 111));have hB1:=bNX ebe e1;have hx1:Ext W w1:=xAX e1;obtain⟨oa,oc,eov,_⟩:=hw.out.shape;subst eov;have hbw:=hw.blk.ext hx1;unfold iX at hbw;have c2:=hbw.c2;have H1:=qH (nIX hx1 (nIX hB1 hbw));clear hI hok hk h1 h2 hw hm hbc hbl hbs hGm hB1 hx1 hbw hn hmf;go_enter Tryz.func116,Tryz.ntmps116;go_wp2;clear e1 ebe;go_loopw [7] (fun kv wr=>aO3 ls R e n w1 kv wr) (fun kv _=>n- (intOf kv).toNat)
 case atStart=>exact⟨0,Nat.zero_le _,rfl,qH (fun j l h=>by omega),qH (Kp.refl _)⟩
 case round=>
  obtain⟨j,hj,rfl,hh,hex⟩:=hrel;have d2:wr.cell? ⟨gw,2,none⟩=some (.slice ba n bcap):=hex.out.cell c2 id;by_cases hlt:j<n
  ·obtain⟨l,hl⟩:∃l,ls[j]?=some l:=⟨_,qG (by have:=HI.out.2.2.2.2.2;omega)⟩;obtain⟨b,off,a2,cap2,eao,hG,hb,hL,c0,c1,d2',c3,c4,c5,c6,c7⟩:=gU (HL.out wr (H1.out.1.trans hex.out)) hl;subst eao;obtain⟨kd,ekd⟩:=nm l.1;rw [ekd]at c0;have HSt:=qH (show ∀v:Bool,(kd≠1->fD e (bR (aA l) (R j)) l=v)->v=true->∀i m,i<j+1->ls[i]?=some m->m.1≠1->fD e (bR (aA m) (R i)) m=true from fun v hv ev i m' hi hm hm1=>by
    rcases Nat.lt_or_eq_of_le (Nat.le_of_lt_succ hi)with h|h
    ·exact hh.out i m' h hm hm1
    ·subst h;rw [hl]at hm;cases hm;rw [hv (by rw [<-ekd];exact hm1),ev])
   by_cases hk1:kd=1
   ·subst hk1;go_wp2;go_quiet (fail)
    go_wp2;go_roundw
    case rel=>exact⟨j+1,by omega,nMX,qH (fun i m hi hm hm1=>HSt.out true (fun h=>absurd rfl h) rfl i m hi hm hm1),qH (hex.out.drewN _)⟩
    case measure=>simp [intOf];omega
   ·have t1:(kd==1)=false:=by simp [hk1]
    have t2:(kd !=1)=true:=by simp [hk1]
    have d3:=(H1.out.2.2.ext hex.out).c3;have b0:=(H1.out.2.1.ext hex.out).c0;have b1:=(H1.out.2.1.ext hex.out).c1;have HCa:=qH (fun X hX=>HHo.out X (H1.out.1.trans (hex.out.trans hX)) j l hl a2 cap2 (hL.ext hX));have HCb:=qH (fun X hX=>HBs.out X (H1.out.1.trans (hex.out.trans hX)) j (by omega));have HNo:=qH (show fD e (bR (aA l) (R j)) l=false->lK e R 0 ls=false from aJ6 hl (by rw [ekd];exact hk1));rw [ekd]at HCa;obtain⟨lp,elp⟩:=nm (bJ l);obtain⟨lo,elo⟩:=nm (gM l);obtain⟨lk,elk⟩:=nm ((leftOf l).1);obtain⟨lt,elt⟩:=nm ((leftOf l).2.1);obtain⟨rk,erk⟩:=nm ((aN l).1);obtain⟨rt,ert⟩:=nm ((aN l).2.1);obtain⟨tn,etn⟩:=nm ((aA l).length);obtain⟨bv,ebv⟩:=nm (bvs.getD j (.pointer none));obtain⟨hv,ehv⟩:=nm (fD e (bR (aA l) (R j)) l);rw [elp]at HCa c1;rw [elo]at HCa c3;rw [elk]at HCa c4;rw [elt]at HCa c5;rw [erk]at HCa c6;rw [ert]at HCa c7;rw [etn]at HCa d2';rw [ebv]at HCa HCb;rw [ehv]at HCa HNo;have HHb:=qH ehv;have HJ:=qH (show ∀X,Ext wr X->(fun X:World=>X.cell? ⟨gw,2,none⟩=some (.slice (some ⟨b,off,none⟩) n bcap)/\X.cell? ⟨gw,3,none⟩=some (.slice bo m bc)/\X.cell? ⟨be,0,none⟩=some (.slice na k nc)/\X.cell? ⟨be,1,none⟩=some (.slice va k vc)/\X.cell? ⟨b,off+j*8,none⟩=some (.int .i64 kd)/\X.cell? ⟨b,off+j*8+1,none⟩=some (.string lp)/\X.cell? ⟨b,off+j*8+2,none⟩=some (.slice a2 tn cap2)/\X.cell? ⟨b,off+j*8+3,none⟩=some (.int .i64 lo)/\X.cell? ⟨b,off+j*8+4,none⟩=some (.int .i64 lk)/\X.cell? ⟨b,off+j*8+5,none⟩=some (.string lt)/\X.cell? ⟨b,off+j*8+6,none⟩=some (.int .i64 rk)/\X.cell? ⟨b,off+j*8+7,none⟩=some (.string rt)) X from fun X hX=>⟨hX.cell d2 id,hX.cell d3 id,hX.cell b0 id,hX.cell b1 id,hX.cell c0 id,hX.cell c1 id,hX.cell d2' id,hX.cell c3 id,hX.cell c4 id,hX.cell c5 id,hX.cell c6 id,hX.cell c7 id⟩);clear hl hL hG hb ekd elp elo elk elt erk ert etn ebv ehv hk1 c0 c1 d2' c3 c4 c5 c6 c7 d3 b0 b1;go_wp2;refine aT (fun X:World=>X.cell? ⟨gw,2,none⟩=some (.slice (some ⟨b,off,none⟩) n bcap)/\X.cell? ⟨gw,3,none⟩=some (.slice bo m bc)/\X.cell? ⟨be,0,none⟩=some (.slice na k nc)/\X.cell? ⟨be,1,none⟩=some (.slice va k vc)/\X.cell? ⟨b,off+j*8,none⟩=some (.int .i64 kd)/\X.cell? ⟨b,off+j*8+1,none⟩=some (.string lp)/\X.cell? ⟨b,off+j*8+2,none⟩=some (.slice a2 tn cap2)/\X.cell? ⟨b,off+j*8+3,none⟩=some (.int .i64 lo)/\X.cell? ⟨b,off+j*8+4,none⟩=some (.int .i64 lk)/\X.cell? ⟨b,off+j*8+5,none⟩=some (.string lt)/\X.cell? ⟨b,off+j*8+6,none⟩=some (.int .i64 rk)/\X.cell? ⟨b,off+j*8+7,none⟩=some (.string rt)) [] (by kernel_rfl) (HJ.out _ (Kp.refl wr).drew) (fun hHeld=>?_);refine eFX 0 ?_;refine eFX 1 ?_;refine eFX 2 ?_;refine eFX 3 ?_;refine eIX 4 ?_;refine eFX 5 ?_;refine eIX 6 ?_;refine eFX 7 ?_;refine eIX 8 ?_;refine eFX 9 ?_;refine eFX 10 ?_
    refine eGX 11 ?_;refine eGX 12 ?_;refine eGX 13 ?_;refine eGX 14 ?_;refine eHX 15 ?_;refine eGX 16 ?_;refine eHX 17 ?_;refine eHX 18 ?_;refine eGX 19 ?_;refine eGX 20 ?_;refine eGX 21 ?_;refine eHX 22 ?_;refine eGX 23 ?_;refine eHX 25 ?_;refine eTX 24 fun K hK=>?_;go_simp
    (refine(HCb.out _ (Kp.refl wr).drew).mono ?_;rintro e w5 ⟨rfl,rfl⟩)
    go_wp2_with fail
    refine hK.out _ _ (HJ.out _ (Kp.refl wr).drew) fun hHeld=>?_;clear hK K;refine eTX 26 fun K hK=>?_;go_simp
    (refine(HCa.out _ (Kp.refl wr).drew).mono ?_;rintro e w6 ⟨v6,rfl,hk6,rfl⟩;have X6:=qH (show Ext wr w6 from(Kp.refl wr).drew.trans hk6);clear hk6)
    go_wp2_with fail
    refine hK.out _ _ (HJ.out _ X6.out) fun hHeld=>?_;clear hK K;refine eGX 27 ?_;refine eFX 28 ?_;refine aK (by kernel_rfl) ?_ _;clear hHeld;cases hv with
    |true=>
     go_wp2;go_roundw
     case rel=>exact⟨j+1,by omega,nMX,qH (fun i m hi hm hm1=>HSt.out true (fun h=>HHb.out) rfl i m hi hm hm1),qH (hex.out.trans X6.out)⟩
     case measure=>simp [intOf];omega
    |false=>
     go_wp2;go_ret;refine RetF.mk (Ext.kp (H1.out.1.trans (hex.out.trans X6.out))) ⟨rfl,_,(by
      rw [show L= []from by rw [<-HEL.out,HNo.out (by trivial)];rfl];have h:=HI.out.1.next (H1.out.1.trans (hex.out.trans X6.out))
      simpa using h),fun g hg=> .inl hg⟩
  ·obtain rfl:j=n:=by omega
   have HKp:=qH (show lK e R 0 ls=true from aJ7 fun i l hi hl1=>hh.out i l (by have:=(List.getElem?_eq_some_iff.1 hi).1;have:=HI.out.2.2.2.2.2;omega) hi hl1);obtain rfl:L= [e.2]:=by rw [<-HEL.out,HKp.out];rfl
   have hmm2:=HI.out.2.1;rw [List.length_append,List.length_singleton]at hmm2;have d5:=(H1.out.2.2.ext hex.out).c5;have d4:=(H1.out.2.2.ext hex.out).c4;have t1:decide ((OUT.length:Int)≥(most:Int))=false:=by simp;omega
   have t2:¬((most:Int)≤(OUT.length:Int)):=by omega
   have t3:¬(most≤OUT.length):=by omega
   go_wp2;go_quiet (fail)
   have HX4:=qH (show Ext w1 (wr.drewN nq)from hex.out.drewN nq);generalize wr.drewN nq=w4 at HX4 ⊢;have b1:=(H1.out.2.1.ext HX4.out).c1;have hke:e.2.length=k:=by rw [HI.out.2.2.2.1.ok.len,<-HI.out.2.2.1]
   clear d2 d4 d5 t1 t2 t3 c2;go_wp2_with (first|(at_builtin;refine Halted.out ?_))
   refine Halted.mk (iN (n:=0) (m:=k) dZ rfl _ _ rfl rfl (Row.nil w4 9 1 (New w4)) rfl (HI.out.2.2.2.2.1.ext (H1.out.1.trans HX4.out)) (by rw [eE,Nat.mul_one];exact hke) (fun u hu=>by obtain⟨s,_,rfl⟩:=List.mem_map.1 hu;rfl) (by omega) (by unfold maxLen;omega) ?_);intro v5 w5 hr5 hk5;rw [Nat.zero_add,List.nil_append]at hr5;have x5:Ext w4 w5:=hk5.mono fun k _ h=>by cases h
   obtain⟨a5,c5,ev5,_,_⟩:=hr5.shape;subst ev5;have hr6:Row w5 9 1 (.slice a5 k c5) e.2.length (strs e.2) (New w4):=by
    rw [hke];exact hr5.mono fun g h=>by
     rcases h with h|h
     ·cases h
     ·exact h
   have HW:=qH (HI.out.1.next (H1.out.1.trans HX4.out));have d5:=(HW.out.blk.ext x5).c5;have H5:=qH (nIX x5 (nIX hr6 hke));clear x5 hr5 hr6 hk5 hke b1;go_wp2_with (first|(at_builtin;refine Halted.out ?_))
   refine Halted.mk (HW.out.out.wpN (x:=(a5,k,c5)) (ss:=e.2) H5.out.1 HW.out.ext.size H5.out.2.1 (by rw [H5.out.2.2];omega) (by omega) rfl _ _ rfl rfl rfl ?_);rintro v6 w6 ⟨o6,c6,rfl⟩ hown hk6 hnew;have hb6:=((HW.out.blk.ext H5.out.1).alloc (.cells #[.slice a5 k c5] 34)).kp hk6 fun e=>by obtain⟨_,_,_,hb⟩:=HW.out.out.blk e;exact(by decide:34≠166) (cF hb HW.out.blk)
   have y0:=hb6.c5;have y1:=hb6.free 5;obtain⟨w7,e7⟩:=nm (w6.setCell ⟨gw,5,none⟩ (.slice o6 (OUT.length+1) c6));have hb7:Blk w7 gw (iX p ha hn hc ba j bcap bo m bc most++ [.slice o6 (OUT.length+1) c6]) 166:=by rw [<-e7];exact hb6.set 5 _
   have k7:Kp (fun q=>q=gw) w6 w7:=by rw [<-e7];exact kSa
   have hown7:OwnRows w0.heap.size w7 (.slice o6 (OUT.length+1) c6) (OUT++ [e.2]):=by
    obtain⟨ps,h1,h2,h3,h4⟩:=hown;refine⟨ps,h1,h2.kp' k7 fun g hg _ e=>?_,fun p hp=>⟨(h3 p hp).1.kp' k7 fun g hg _ e=>?_,(h3 p hp).2⟩,h4⟩
    ·obtain⟨_,hb⟩:=h2.blkOf hg;have e':g=gw:=e;rw [e']at hb;exact(by decide:34≠166) (cF hb hb6)
    ·obtain⟨_,hb⟩:=(h3 p hp).1.blkOf hg;have e':g=gw:=e;rw [e']at hb;exact(by decide:9≠166) (cF hb hb6)
   have hz:=(H1.out.1.trans HX4.out).size;have hx6:Ext w0 w6:=((HW.out.ext.trans H5.out.1).alloc _).trans' hk6 fun i hi e=>by have:=(HW.out.out.blk e).1;omega
   have HW7:=qH (show WSt w0 w7 gw (iX p ha hn hc ba j bcap bo m bc most) (OUT++ [e.2]) (.slice o6 (OUT.length+1) c6)from⟨hx6.trans' k7 fun i hi e=>by have e':i=gw:=e;have:=HW.out.lo;omega,hb7,HW.out.lo,hown7⟩);have HK7:=qH (show Kp (zI gw (.slice oa OUT.length oc)) W w7 from(((Ext.kp (F:=zI gw (.slice oa OUT.length oc)) ((H1.out.1.trans HX4.out).trans H5.out.1)).alloc _).trans' hk6 fun i hi e=> .inr e).trans' k7 fun i hi e=> .inl e);have HN7:=qH (show ∀g,(Value.slice o6 (OUT.length+1) c6).ownBlock=some g->(Value.slice oa OUT.length oc).ownBlock=some g\/W.heap.size≤g from fun g hg=>(hnew g hg).imp id fun h=>by omega);clear hb7 k7 hown7 hown hk6 hnew hb6 hz hx6;go_wp2;try rw [e7]
   clear e7 y0 y1;go_ret;exact RetF.mk HK7.out ⟨rfl,_,HW7.out,HN7.out⟩
end
end
section
def iP(R:Nat->aD)(most:Nat):List aL->Nat->Nat->Option Nat
 | [],_,n=>some n
 |l::ls,i,n=>if l.1=1 then(if most<n*(1+(bR (aA l) (R i)).length)then none else iP R most ls (i+1) (n*(1+(bR (aA l) (R i)).length)))else iP R most ls (i+1) n
theorem tA(R:Nat->aD)(most:Nat)(b:List aL):∀(a:List aL) (i n:Nat),iP R most (a++b) i n=(iP R most a i n).bind (iP R most b (i+a.length))
 | [],i,n=>rfl
 |l::a,i,n=>by
  have e:i+(l::a).length=i+1+a.length:=by rw [List.length_cons];omega
  rw [e,List.cons_append];show(if l.1=1 then _ else _)=_;by_cases h1:l.1=1
  ·by_cases h2:most<n*(1+(bR (aA l) (R i)).length)
   ·rw [if_pos h1,if_pos h2];show _=Option.bind (if l.1=1 then _ else _) _;rw [if_pos h1,if_pos h2];rfl
   ·rw [if_pos h1,if_neg h2,tA R most b a];show _=Option.bind (if l.1=1 then _ else _) _;rw [if_pos h1,if_neg h2]
  ·rw [if_neg h1,tA R most b a];show _=Option.bind (if l.1=1 then _ else _) _;rw [if_neg h1]
theorem aA9{α:Type}(f:α->aD)(K m:Nat):∀(L:List α),(∀q∈L,K*(f q).length≤m)->K*(L.flatMap f).length≤L.length*m
 | [],_=>by simp
 |x::L,h=>by have h1:=h x (List.mem_cons_self ..);have h2:=aA9 f K m L fun q hq=>h q (List.mem_cons_of_mem _ hq);rw [List.flatMap_cons,List.length_append,List.length_cons,Nat.mul_add,Nat.add_mul,Nat.one_mul];omega
theorem wF(e:bV)(ts:List aE)(R:aD):(bH e ts R).length≤R.length:=by
 have h:=aAe e ts R R.length
 rwa [List.take_length]at h
theorem qK{all:List aL}{R:Nat->aD}{most:Nat}:∀(rest:List aL) (i n m:Nat) (e:bV),iP R most rest i n=some m->n*(bY all R rest i e).length≤m
 | [],i,n,m,e,h=>by
  obtain rfl:n=m:=Option.some.inj h;have h1:(bY all R [] i e).length≤1:=by
   unfold bY;split
   ·exact Nat.le_refl _
   ·exact Nat.zero_le _
  exact Nat.le_trans (Nat.mul_le_mul_left n h1) (Nat.le_of_eq (Nat.mul_one n))
 |l::rest,i,n,m,e,h=>by
  unfold iP at h;unfold bY;by_cases h1:l.1=1
  ·rw [if_pos h1]at h ⊢;split at h
   ·cases h
   ·obtain⟨a,ea⟩:=nm ((bR (aA l) (R i)).length);rw [ea]at h;have hf:=aA9 (fun q=>bY all R rest (i+1) (cE e.1 (aA l),q)) (n*(1+a)) m (bH e (aA l) (bR (aA l) (R i))) fun q _=>qK rest (i+1) _ m _ h;have hu:(bH e (aA l) (bR (aA l) (R i))).length≤a:=by rw [<-ea];exact wF _ _ _
    generalize ((bH e (aA l) (bR (aA l) (R i))).flatMap fun q=>bY all R rest (i+1) (cE e.1 (aA l),q)).length=x at hf ⊢;have h2:n*(1+a)*x≤(1+a)*m:=Nat.le_trans hf (Nat.mul_le_mul_right m (Nat.le_trans hu (Nat.le_add_left a 1)));rw [Nat.mul_comm n,Nat.mul_assoc]at h2;exact Nat.le_of_mul_le_mul_left h2 (by omega)
  ·rw [if_neg h1]at h ⊢;exact qK rest (i+1) n m e h
end
section
open Go.RowKit Go.Shelf
attribute [local go_sem] Oper.semAt_some
section
variable {w0:World}{ls:List aL}{R:Nat->aD}{ba:Option Addr}{n bcap:Nat}{bo:Option Addr}{m bc:Nat}{gw:Nat}{p:ByteArray}{ha:Option Addr}{hn hc most:Nat}{l:aL}{rest:List aL}{i:Nat}
def aFf(w0:World)(ls:List aL)(R:Nat->aD)(gw:Nat)(cs:List Value)(most:Nat)(rest:List aL)(i:Nat):Prop:=
 ∀(e:bV) (W:World) (OUT:aD) (ov:Value) (na va:Option Addr) (k nc vc:Nat),FromOk ls R i e->k=e.1.length->CellsAt W na (strs e.1)->CellsAt W va (strs e.2)->(∀a,na=some a->¬zI gw ov a.block)->(∀a,va=some a->¬zI gw ov a.block)->WSt w0 W gw cs OUT ov->
  (OUT++bY ls R rest i e).length≤most->(OUT++bY ls R rest i e).length≤1048576->
  Calls Tryz.prog 116 #[.pointer (some ⟨gw,0,none⟩),.int .i64 i,.agg #[.slice na k nc,.slice va k vc]] W (RetF (zI gw ov) W fun W' v=>aOb w0 gw cs OUT ov (bY ls R rest i e) W W' v)
set_option maxHeartbeats 16000000 in
theorem aKd(hI:WIn w0 ls R ba n bcap bo m bc)(hl:ls[i]?=some l)(hk1:l.1≠1)(hC:aFf w0 ls R gw (iX p ha hn hc ba n bcap bo m bc most) most rest (i+1)):aFf w0 ls R gw (iX p ha hn hc ba n bcap bo m bc most) most (l::rest) i:=by
 intro e W OUT ov na va k nc vc hok hk h1 h2 hna hva hw hm hm2;have er:bY ls R (l::rest) i e=bY ls R rest (i+1) e:=by show(if l.1=1 then _ else _)=_;rw [if_neg hk1]
 rw [er]at hm hm2 ⊢;obtain⟨Gm,hGm⟩:=hI.gm;have hin:i<n:=by have:=(List.getElem?_eq_some_iff.1 hl).1;have:=hI.len;omega
 have hnf:=hI.few;have HC:=qH (fun(X:World) (hX:Ext W X)=>hC e X OUT ov na va k nc vc (hok.skip hl hk1) hk (h1.ext hX) (h2.ext hX) hna hva (hw.next hX) hm hm2);obtain⟨b,off,a2,cap2,eao,hG,hb,hL,c0,-⟩:=gU (hGm.ext hw.ext) hl;subst eao;obtain⟨kd,ekd⟩:=nm l.1;rw [ekd]at c0 hk1;obtain⟨be,ebe⟩:=nm W.heap.size;obtain⟨w1,e1⟩:=nm (W.alloc (.cells #[.slice na k nc,.slice va k vc] 111));have hB1:=bNX ebe e1;have hx1:Ext W w1:=xAX e1;have hbw:=hw.blk.ext hx1;unfold iX at hbw;have c2:=hbw.c2;have b0:=hB1.c0;have b1:=hB1.c1;replace c0:=hx1.cell c0 id;have t1:((i:Int)==(n:Int))=false:=by simp;omega
 have t2:(kd==1)=false:=by simp [hk1]
 have t3:(kd !=1)=true:=by simp [hk1]
 have t4:¬i=n:=by omega
 have H1:=qH hx1;clear hI hl hC hok hk h1 h2 hna hva hw hm hm2 er hGm hG hb hL ekd hB1 hx1 hbw hk1;go_enter Tryz.func116,Tryz.ntmps116;go_wp2_with fail
 clear e1 ebe;refine(HC.out w1 H1.out).mono ?_;rintro e' w2 ⟨v,rfl,hk2,rfl,ov',hw2,hn2⟩;have H2:=qH (nIX hk2 (nIX hw2 hn2));clear hk2 hw2 hn2 c0 b0 b1 c2;go_wp2;go_ret;exact RetF.mk ((Ext.kp H1.out).trans H2.out.1) ⟨rfl,ov',H2.out.2.1,fun g hg=>(H2.out.2.2 g hg).imp id fun h=>Nat.le_trans H1.out.size h⟩
theorem aG2{f:List ByteArray->aD}{L:aD}{j:Nat}{q:List ByteArray}(h:L[j]?=some q):(L.take (j+1)).flatMap f=(L.take j).flatMap f++f q:=by rw [List.take_add_one,h];simp
theorem aKg(f:List ByteArray->aD)(L:aD)(j:Nat):((L.take j).flatMap f).length≤(L.flatMap f).length:=by
 have h:(L.flatMap f).length=((L.take j).flatMap f).length+((L.drop j).flatMap f).length:=by rw [<-List.length_append,<-List.flatMap_append,List.take_append_drop]
 omega
def EachC(w0 w7:World)(gw:Nat)(cs:List Value)(OUT:aD)(ov:Value)(f:List ByteArray->aD)(Lq:aD)(N:Nat)(jv:Value)(W:World):Prop:=
 ∃j:Nat,j≤N/\jv= .int .i64 j/\∃ovj,Hid (WSt w0 W gw cs (OUT++(Lq.take j).flatMap f) ovj)/\Hid (Kp (zI gw ov) w7 W)/\Hid (∀g,ovj.ownBlock=some g->ov.ownBlock=some g\/w7.heap.size≤g)
set_option maxHeartbeats 16000000 in
theorem aMk(hI:WIn w0 ls R ba n bcap bo m bc)(hl:ls[i]?=some l)(hk1:l.1=1)(hC:aFf w0 ls R gw (iX p ha hn hc ba n bcap bo m bc most) most rest (i+1)):aFf w0 ls R gw (iX p ha hn hc ba n bcap bo m bc most) most (l::rest) i:=by
 intro e W OUT ov na va k nc vc hok hk h1 h2 hna hva hw hm hm2;obtain⟨F,eF⟩:=nm (cE e.1 (aA l));obtain⟨Lq,eLq⟩:=nm (bH e (aA l) (bR (aA l) (R i)));have er:bY ls R (l::rest) i e=Lq.flatMap fun q=>bY ls R rest (i+1) (F,q):=by show(if l.1=1 then _ else _)=_;rw [if_pos hk1,eF,eLq]
 rw [er]at hm hm2 ⊢;have hFn:F=aB (ls.take (i+1)):=by rw [<-eF,hok.names,gK hl];unfold bQ;rw [if_pos hk1]
 have hEach:=fun q (hq:q∈Lq)=>hok.each hl hk1 (fun x=>gJ x) (by rw [eLq];exact hq);rw [<-hFn]at hEach;obtain⟨Gm,hGm⟩:=hI.gm;obtain⟨bvs,hbc,hbl,hbs⟩:=hI.bvs;obtain⟨S,G,hB,eR⟩:=hbs i l hl;have hin:i<n:=by have:=(List.getElem?_eq_some_iff.1 hl).1;have:=hI.len;omega
 have hnf:=hI.few;obtain⟨bv,ebv⟩:=nm (bvs.getD i (.pointer none));rw [ebv]at hB;have HBs:=qH (fun(X:World) (hX:Ext W X)=>kY bvs bo m bc i X hbl (hbc.ext (hw.ext.trans hX)) hI.mfew (by omega));rw [ebv]at HBs;obtain⟨b,off,a2,cap2,eao,hG,hb,hL,c0,c1,d2',-⟩:=gU (hGm.ext hw.ext) hl;subst eao;rw [hk1]at c0;obtain⟨lp,elp⟩:=nm (bJ l);obtain⟨tn,etn⟩:=nm ((aA l).length);rw [elp]at c1 eR;rw [etn]at d2';have HRo:=qH (fun(X:World) (hX:Ext W X)=>nX (hB.ext (hw.ext.trans hX)) lp (aA l) a2 tn cap2 etn.symm);rw [<-eR]at HRo;have HUn:=qH (fun(X:World) (hX:Ext W X) (ra:Option Addr) (rc:Nat) (hR:RowsIn (New W) X ra (bR (aA l) (R i))) (hRl:(bR (aA l) (R i)).length≤1048576*1048576)=>zQ e lp (aA l) _ na va a2 ra k nc vc tn cap2 _ rc X Gm (New W) hok.ok hk (h1.ext hX) (h2.ext hX) etn.symm (hL.terms.ext hX) rfl hR (fun x hx=>by rw [<-etn];exact((gJ x).1 hx).2) (by have h3:=hI.terms l (List.mem_of_getElem? hl);have h4:=tI ls i;rw [hk,hok.names];omega) hRl);rw [eF,eLq]at HUn;have HLl:=qH (show Lq.length≤(bR (aA l) (R i)).length from by rw [<-eLq];exact wF _ _ _);have HW:=qH (nIX hw (nIX hm (nIX hm2 (nIX hEach (nIX hC etn)))));obtain⟨be,ebe⟩:=nm W.heap.size;obtain⟨w1,e1⟩:=nm (W.alloc (.cells #[.slice na k nc,.slice va k vc] 111));have hB1:=bNX ebe e1;have hx1:Ext W w1:=xAX e1;have hbw:=hw.blk.ext hx1;unfold iX at hbw;have c2:=hbw.c2;replace c0:=hx1.cell c0 id;replace c1:=hx1.cell c1 id;replace d2':=hx1.cell d2' id;have t1:((i:Int)==(n:Int))=false:=by simp;omega
 have t4:¬i=n:=by omega
 obtain⟨gA,egA⟩:=nm w1.heap.size;obtain⟨w2,e2⟩:=nm (w1.alloc (.cells #[.string lp,.slice a2 tn cap2] 24));have hB2:=bNX egA e2;have hx2:Ext w1 w2:=xAX e2;have H1:=qH (show Ext W w2/\W.heap.size≤gA from⟨hx1.trans hx2,by rw [<-egA];exact hx1.size⟩);have HJ:=qH (show ∀X,Ext w2 X->(fun X:World=>X.cell? ⟨gA,0,none⟩=some (.string lp)/\X.cell? ⟨gA,1,none⟩=some (.slice a2 tn cap2)/\X.cell? ⟨gw,3,none⟩=some (.slice bo m bc)/\X.cell? ⟨be,0,none⟩=some (.slice na k nc)/\X.cell? ⟨be,1,none⟩=some (.slice va k vc)) X from fun X hX=>⟨by rw [(hB2.ext hX).cell'];rfl,by rw [(hB2.ext hX).cell'];rfl,by rw [(hbw.ext (hx2.trans hX)).cell'];rfl,by rw [(hB1.ext (hx2.trans hX)).cell'];rfl,by rw [(hB1.ext (hx2.trans hX)).cell'];rfl⟩);clear hI hl hC hok hk h1 h2 hna hva hw hm hm2 er hGm hG hb hL hB1 hx1 hbw hk1 hbc hbl hbs hB ebv elp etn eR hEach eF eLq hFn hB2 hx2;go_enter Tryz.func116,Tryz.ntmps116;go_wp2;clear e1 ebe e2 egA;refine aT (fun X:World=>X.cell? ⟨gA,0,none⟩=some (.string lp)/\X.cell? ⟨gA,1,none⟩=some (.slice a2 tn cap2)/\X.cell? ⟨gw,3,none⟩=some (.slice bo m bc)/\X.cell? ⟨be,0,none⟩=some (.slice na k nc)/\X.cell? ⟨be,1,none⟩=some (.slice va k vc)) [] (by kernel_rfl) (HJ.out _ (Kp.refl w2).drew) (fun hHeld=>?_);refine eIX 0 ?_;refine eIX 1 ?_;refine eFX 2 ?_;refine eFX 3 ?_;refine eFX 4 ?_;refine eIX 5 ?_;refine eFX 6 ?_;refine eIX 9 ?_;refine eTX 7 fun K hK=>?_;go_simp
 (refine(HBs.out _ (H1.out.1.trans (Kp.refl w2).drew)).mono ?_;rintro e w5 ⟨rfl,rfl⟩)
 go_wp2_with fail
 refine hK.out _ _ (HJ.out _ (Kp.refl w2).drew) fun hHeld=>?_;clear hK K;refine eTX 8 fun K hK=>?_;go_simp
 (refine(HRo.out _ (H1.out.1.trans (Kp.refl w2).drew)).mono ?_;rintro e w6 ⟨v6,rfl,hk6,qo,qc,rfl,hR,hRl⟩;have X6:=qH (show Ext w2 w6 from(Kp.refl w2).drew.trans hk6);have HR6:=qH (show RowsIn (New W) w6 qo (bR (aA l) (R i))/\(bR (aA l) (R i)).length≤1048576*1048576 from⟨hR.mono fun g hg=>Nat.le_trans H1.out.1.size hg,hRl⟩);clear hk6 hR hRl)
 go_wp2_with fail
 refine hK.out _ _ (HJ.out _ X6.out) fun hHeld=>?_;clear hK K;refine eTX 10 fun K hK=>?_;go_simp
 (refine(HUn.out w6 (H1.out.1.trans X6.out) qo qc HR6.out.1 HR6.out.2).mono ?_;rintro e w7 ⟨v7,rfl,hk7,hE⟩;have X7:=qH (show Ext w2 w7 from X6.out.trans hk7);obtain⟨eo,ec,ps,rfl,hE1,hE2,hE3,hE4⟩:=hE;have HE7:=qH (show aNb w6.heap.size w7 F (.slice eo ps.length ec) Lq/\ps.map Prod.snd=Lq from⟨⟨eo,ec,ps,rfl,hE1,hE2,hE3,hE4⟩,hE1⟩);have HS6:=qH (nIX X6.out.size (nIX hk7.size (nIX hE2 (nIX hE3 hE4))));clear hk7 hE1 hE2 hE3 hE4)
 go_wp2_with fail
 refine hK.out _ _ (HJ.out _ X7.out) fun hHeld=>?_;clear hK K;refine eFX 11 ?_;refine aK (by kernel_rfl) ?_ _;clear hHeld;have hpl:ps.length≤1048576*1048576:=by have h1:=HLl.out;rw [<-HE7.out.2,List.length_map]at h1;exact Nat.le_trans h1 HR6.out.2
 go_wp2;go_loopw [11] (fun jv W'=>EachC w0 w7 gw (iX p ha hn hc (some ⟨b,off,none⟩) n bcap bo m bc most) OUT ov (fun q=>bY ls R rest (i+1) (F,q)) Lq ps.length jv W') (fun jv _=>ps.length- (intOf jv).toNat)
 case atStart=>exact⟨0,Nat.zero_le _,rfl,ov,qH (by
  have h:=HW.out.1.next (H1.out.1.trans X7.out)
  simpa using h),qH (Kp.refl _),qH fun g hg=> .inl hg⟩
 case round=>
  obtain⟨j,hj,rfl,ovj,hwj,hkj,hoj⟩:=hrel;by_cases hlt:j<ps.length
  ·obtain⟨q,hq⟩:∃q,ps[j]?=some q:=⟨_,qG hlt⟩;have hoff:=HW.out.1.off;have hszW:=H1.out.1.size;have hP:∀g,w6.heap.size≤g->¬zI gw ov g:=fun g hg ho=>by
    have:=(hoff g ho).2;have:=HS6.out.1;omega
   have hLq:Lq[j]?=some q.2:=by rw [<-HE7.out.2,List.getElem?_map,hq];rfl
   have hcq:=HS6.out.2.2.1.kp hkj.out fun a e ho=>hP _ (HS6.out.2.2.2.1 a e) ho;obtain⟨q1,q2,q3,q4,q5⟩:=HS6.out.2.2.2.2 q (List.mem_of_getElem? hq);have hsp:∀c u,(tQ F.length q)[c]?=some u->c<2->(ps.flatMap (tQ F.length))[j*2+c]?=some u:=fun c u hu hc=>(flat_get (tQ F.length) 2 (sK F.length) ps j q c hq hc).trans hu;obtain⟨pb,po,ep,u0⟩:=hcq (j*2+0) (.slice q.1.1 F.length q.1.2.1) (hsp 0 _ rfl (by decide));obtain⟨pb',po',ep',u1⟩:=hcq (j*2+1) (.slice q.1.2.2.1 F.length q.1.2.2.2) (hsp 1 _ rfl (by decide));rw [ep]at ep';obtain⟨rfl,rfl⟩:pb=pb'/\po=po':=by simpa using ep'
   subst ep;replace u0:wr.cell? ⟨pb,po+j*2,none⟩=some (.slice q.1.1 F.length q.1.2.1):=u0;replace u1:wr.cell? ⟨pb,po+j*2+1,none⟩=some (.slice q.1.2.2.1 F.length q.1.2.2.2):=u1;have hon:∀a:Addr,(w6.heap.size≤a.block/\a.block<w7.heap.size)->¬zI gw ovj a.block:=fun a ha ho=>by
    rcases ho with ho|ho
    ·exact hP _ ha.1 (.inl ho)
    ·rcases hoj.out _ ho with h|h
     ·exact hP _ ha.1 (.inr h)
     ·omega
   have hft:=aG2 (f:=fun q=>bY ls R rest (i+1) (F,q)) hLq;have hfp:=aKg (fun q=>bY ls R rest (i+1) (F,q)) Lq (j+1);rw [hft]at hfp;have hmm1:=HW.out.2.1;have hmm2:=HW.out.2.2.1;simp only [List.length_append]at hfp hmm1 hmm2;have HCl:=qH (HW.out.2.2.2.2.1 (F,q.2) wr _ ovj q.1.1 q.1.2.2.1 F.length q.1.2.1 q.1.2.2.2 (HW.out.2.2.2.1 q.2 (List.mem_of_getElem? hLq)).1 rfl (q1.kp hkj.out fun a e ho=>hP _ (q4 a e).1 ho) (q2.kp hkj.out fun a e ho=>hP _ (q5 a e).1 ho) (fun a e=>hon a (q4 a e)) (fun a e=>hon a (q5 a e)) hwj.out (by simp only [List.length_append];omega) (by simp only [List.length_append];omega));have HFt:=qH hft;clear hoff hszW hP hLq hcq q1 q2 q3 q4 q5 hsp hon hft hfp hmm1 hmm2 hq;go_wp2_with fail
   refine HCl.out.mono ?_;rintro e w8 ⟨v8,rfl,hk8,rfl,ov8,hw8,hn8⟩;have HZ:=qH (show WSt w0 w8 gw (iX p ha hn hc (some ⟨b,off,none⟩) n bcap bo m bc most) (OUT++(Lq.take (j+1)).flatMap fun q=>bY ls R rest (i+1) (F,q)) ov8/\Kp (zI gw ov) w7 w8/\∀g,ov8.ownBlock=some g->ov.ownBlock=some g\/w7.heap.size≤g from⟨by rw [HFt.out,<-List.append_assoc];exact hw8,hkj.out.trans' hk8 fun g hg ho=>by
    rcases ho with ho|ho
    ·exact .inl ho
    ·rcases hoj.out _ ho with h|h
     ·exact .inr h
     ·omega,fun g hg=>by
    rcases hn8 g hg with h|h
    ·exact hoj.out g h
    ·exact .inr (Nat.le_trans hkj.out.size h)⟩)
   clear hk8 hw8 hn8;go_wp2;go_roundw
   case rel=>exact⟨j+1,by omega,nMX,ov8,qH HZ.out.1,qH HZ.out.2.1,qH HZ.out.2.2⟩
   case measure=>simp [intOf];omega
  ·obtain rfl:j=ps.length:=by omega
   have HT:=qH (show Lq.take ps.length=Lq from List.take_of_length_le (by rw [<-HE7.out.2,List.length_map];exact Nat.le_refl _));rw [HT.out]at hwj;go_wp2;go_ret;exact RetF.mk ((Ext.kp (H1.out.1.trans X7.out)).trans hkj.out) ⟨rfl,ovj,hwj.out,fun g hg=>(hoj.out g hg).imp id fun h=>Nat.le_trans (H1.out.1.trans X7.out).size h⟩
end
theorem aA5{w0:World}{ls:List aL}{R:Nat->aD}{ba:Option Addr}{n bcap:Nat}{bo:Option Addr}{m bc:Nat}{gw:Nat}{p:ByteArray}{ha:Option Addr}{hn hc most:Nat}(hI:WIn w0 ls R ba n bcap bo m bc)(hmm:most≤4611686018427387904):
 ∀(rest:List aL) (i:Nat),ls.drop i=rest->i≤ls.length->aFf w0 ls R gw (iX p ha hn hc ba n bcap bo m bc most) most rest i
 | [],i,hd,hi=>by
  have hil:n=i:=by have h1:=congrArg List.length hd;rw [List.length_drop]at h1;have h2:=hI.len;simp at h1;omega
  subst hil;intro e W OUT ov na va k nc vc hok hk h1 h2 hna hva hw hm hm2;exact aMl hI hok hk h1 h2 hw hm hmm (by rw [List.length_append]at hm2;omega)
 |l::rest,i,hd,hi=>by
  have hl:ls[i]?=some l:=by
   have:(ls.drop i)[0]?=some l:=by rw [hd];rfl
   rw [List.getElem?_drop]at this;exact this
  have hil:=(List.getElem?_eq_some_iff.1 hl).1;have hd2:ls.drop (i+1)=rest:=by have:=congrArg (List.drop 1) hd;rw [List.drop_drop]at this;exact this
  have hC:=aA5 (gw:=gw) (p:=p) (ha:=ha) (hn:=hn) (hc:=hc) hI hmm rest (i+1) hd2 hil;by_cases hk:l.1=1
  ·exact aMk hI hl hk hC
  ·exact aKd hI hl hk hC
theorem WIn.ext{w w':World}{ls:List aL}{R:Nat->aD}{ba:Option Addr}{n bcap:Nat}{bo:Option Addr}{m bc:Nat}(h:WIn w ls R ba n bcap bo m bc)(hx:Ext w w'):WIn w' ls R ba n bcap bo m bc:=by obtain⟨⟨Gm,h1⟩,h2,h3,⟨bvs,h4,h5,h6⟩,h7,h8,h9⟩:=h;exact⟨⟨Gm,h1.ext hx⟩,h2,h3,⟨bvs,h4.ext hx,h5,fun i l hl=>by obtain⟨S,G,hB,e⟩:=h6 i l hl;exact⟨S,G,hB.ext hx,e⟩⟩,h7,h8,h9⟩
def mW(r:cG)(R:Nat->aD):aD:=if aU r=0 then aIn r R else []
def aO8(lo:Nat)(L:aD)(w':World)(v:Value):Prop:=∃ov,v= .tuple #[ov,.bool true]/\OwnRows lo w' ov L
section
variable {w:World}{p:ByteArray}{hs:List aE}{ls:List aL}{ha ba bo:Option Addr}{hn hcap n bcap m bc most:Nat}{G:Nat->Prop}{R:Nat->aD}
set_option maxHeartbeats 4000000 in
theorem aB7(hhn:hn=hs.length)(hh:aO w G ha hs)(hhl:hn≤1048576)(h:bW w G ba ls)(hf:Fit ls)(hI:WIn w ls R ba n bcap bo m bc)(hm:(mW ((p,hs,()),ls,()) R).length≤most)(hmm:most≤4611686018427387904)(hO:(mW ((p,hs,()),ls,()) R).length≤1048576):
 Calls Tryz.prog 80 #[cI p ha hn hcap ba n bcap,.slice bo m bc,.int .i64 most] w (RetN w fun w' v=>aO8 w.heap.size (mW ((p,hs,()),ls,()) R) w' v):=by
 have HCh:=qH (fun W (hW:Ext w W)=>mF p hs ls ha hn hcap ba n bcap W G hhn (hh.ext hW) hhl hI.len (h.ext hW) hf);obtain⟨cR,ecR⟩:=nm (aU ((p,hs,()),ls,()));rw [ecR]at HCh;obtain⟨w0,e0⟩:=nm (w.alloc (.cells #[.string p,.slice ha hn hcap,.slice ba n bcap] 27));have x0:Ext w w0:=xAX e0;have hB0:Blk w0 w.heap.size [.string p,.slice ha hn hcap,.slice ba n bcap] 27:=by rw [<-e0];exact Blk.new w _ _
 have s0:=x0.size;obtain⟨gb,egb⟩:=nm w.heap.size;obtain⟨gw,egw⟩:=nm w0.heap.size;obtain⟨w1,e1⟩:=nm (w0.alloc (.cells #[.string p,.slice ha hn hcap,.slice ba n bcap,.slice bo m bc,.int .i64 most,.slice none 0 0] 166));have x01:Ext w0 w1:=xAX e1;have x1:Ext w w1:=x0.trans x01;have r0:w0.cell? ⟨gb,0,none⟩=some (.string p):=by rw [<-egb,hB0.cell'];rfl
 have r1:w0.cell? ⟨gb,1,none⟩=some (.slice ha hn hcap):=by rw [<-egb,hB0.cell'];rfl
 have r2:w0.cell? ⟨gb,2,none⟩=some (.slice ba n bcap):=by rw [<-egb,hB0.cell'];rfl
 have q0:=x01.cell r0 id;have q1:=x01.cell r1 id;have q2:=x01.cell r2 id;have hB1:Blk w1 gw (iX p ha hn hcap ba n bcap bo m bc most++ [.slice none 0 0]) 166:=by rw [<-e1,<-egw];exact Blk.new w0 _ _
 have HSt:=qH (fun W (hW:Ext w1 W)=>show WSt w W gw (iX p ha hn hcap ba n bcap bo m bc most) [] (.slice none 0 0)from⟨x1.trans hW,hB1.ext hW,by rw [<-egw];exact s0,OwnRows.nil _ _⟩);have HFr:=qH (fun W (hW:Ext w1 W) (hc:cR=0)=>aA5 hI hmm ls 0 rfl (Nat.zero_le _) ([],[]) W [] (.slice none 0 0) none none 0 0 0 (FromOk.start _ _) rfl (CellsAt.nil _ _) (CellsAt.nil _ _) (by simp) (by simp) (HSt.out W hW) (by
  have e:mW ((p,hs,()),ls,()) R=bY ls R ls 0 ([],[]):=if_pos (ecR.trans hc);rw [e]at hm;simpa using hm) (by
  have e:mW ((p,hs,()),ls,()) R=bY ls R ls 0 ([],[]):=if_pos (ecR.trans hc);rw [e]at hO;simpa using hO))
 have HB:=qH (show(cR=0->mW ((p,hs,()),ls,()) R=bY ls R ls 0 ([],[]))/\(cR≠0->mW ((p,hs,()),ls,()) R= [])from⟨fun hc=>if_pos (ecR.trans hc),fun hc=>if_neg fun h=>hc (ecR.symm.trans h)⟩);have H1:=qH (nIX x1 hB1);generalize mW ((p,hs,()),ls,()) R=L at HB hm hO ⊢;clear hhn hh hhl h hf hI hm hO x0 x01 x1 hB0 hB1 ecR s0;go_enter Tryz.func80,Tryz.ntmps80;go_wp2_with fail
 clear e0 e1 egb egw r0 r1 r2;refine(HCh.out w1 H1.out.1).mono ?_;rintro e w2 ⟨v2,rfl,hk2,rfl⟩;have H2:=qH hk2;have c5:=(H1.out.2.ext hk2).c5;clear hk2 q0 q1 q2;by_cases hc:cR=0
 ·have hL:=HB.out.1 hc;have HF:=qH (HFr.out w2 H2.out hc);rw [<-hL]at HF;have hc':((cR:Int)==0)=true:=by simp;omega
  have hc2:((cR:Int) !=0)=false:=by simp;omega
  clear hL hc c5;go_wp2_with fail
  refine HF.out.mono ?_;rintro e w3 ⟨v3,rfl,hk3,rfl,ov,hw3,-⟩;obtain⟨oa,oc,eov,_⟩:=hw3.out.shape;subst eov;have H3:=qH hw3;have c5:=hw3.blk.c5;clear hk3 hw3;go_wp2;go_ret2;exact RetN.mk H3.out.ext ⟨_,rfl,H3.out.out⟩
 ·have hL:=HB.out.2 hc;subst hL;have hc':((cR:Int)==0)=false:=by simp;omega
  have hc2:((cR:Int) !=0)=true:=by simp;omega
  clear hc;go_wp2;go_ret2;exact RetN.mk (H1.out.1.trans H2.out) ⟨_,rfl,OwnRows.nil _ _⟩
set_option maxHeartbeats 4000000 in
theorem aDl(hhn:hn=hs.length)(hh:aO w G ha hs)(hhl:hn≤1048576)(h:bW w G ba ls)(hf:Fit ls)(hI:WIn w ls R ba n bcap bo m bc)(hO:(mW ((p,hs,()),ls,()) R).length≤1048576):
 Calls Tryz.prog 38 #[cI p ha hn hcap ba n bcap,.slice bo m bc] w (RetN w fun w' v=>OwnRows w.heap.size w' v (mW ((p,hs,()),ls,()) R)):=by
 have HF:=qH (fun W (hW:Ext w W)=>aB7 (w:=W) (p:=p) (hcap:=hcap) (most:=4611686018427387904) hhn (hh.ext hW) hhl (h.ext hW) hf (hI.ext hW) (by omega) (Nat.le_refl _) hO);generalize mW ((p,hs,()),ls,()) R=L at HF ⊢;clear hhn hh hhl h hf hI hO;go_enter Tryz.func38,Tryz.ntmps38;go_wp2_with fail
 refine(HF.out _ ((Kp.refl w).alloc _)).mono ?_;rintro e w1 ⟨v1,rfl,hk1,ov,rfl,ho⟩;obtain⟨oa,oc,eov,_⟩:=ho.shape;subst eov;have H1:=qH (show Ext w w1/\OwnRows w.heap.size w1 (.slice oa L.length oc) L from⟨((Kp.refl w).alloc _).trans hk1,ho.mono ((Kp.refl (F:=fun _=>False) w).alloc _).size⟩);clear hk1 ho;go_wp2;go_ret;exact RetN.mk H1.out.1 H1.out.2
end
theorem aNl{G:List REnt}{C:List aZ}(h:SameC (bC G) C)(s:ByteArray):lB G s=bG C s:=by unfold lB bG;rw [<-h s,qT];cases dW G s<;>rfl
theorem qX:cW Tryz.prog 65 84 1 8 (.pointer none):=⟨by kernel_rfl,by kernel_rfl,rfl,by decide⟩
def RepR(w0:World)(g0:Nat)(cs:List Value)(bv:Value)(n:Nat)(ov iv:Value)(W:World):Prop:=∃i:Nat,i≤n/\iv= .int .i64 i/\Hid (Ext w0 W)/\Hid (Row W 84 1 ov i (List.replicate i bv) (New w0))/\Hid (Blk W g0 cs 27)
section
variable {S:Nat->Prop}{w:World}{p:ByteArray}{hs:List aE}{ls:List aL}{ha ba:Option Addr}{hn hcap n bcap:Nat}{G:Nat->Prop}{C:List aZ}{Gr:List REnt}{o:Option Addr}
theorem WIn.one{bo:Option Addr}{bc:Nat}(hbn:n=ls.length)(hnl:n≤1048576)(h:bW w G ba ls)(hB:BaseP S w (.pointer o) Gr)(hC:SameC (bC Gr) C)(hr:CellsAt w bo (List.replicate n (.pointer o)))(ht:∀l∈ls,(aB ls).length+(aA l).length≤1048576)(hnv:(aB ls).length≤1048576):WIn w ls (wT C ls) ba n bcap bo n bc:=
 ⟨⟨G,h⟩,hbn,hnl,⟨_,hr,by rw [List.length_replicate],fun i l hl=>⟨S,Gr,by have hi:=(List.getElem?_eq_some_iff.1 hl).1;rw [List.getD_eq_getElem?_getD,List.getElem?_replicate,if_pos (by omega)];exact hB,by unfold wT;rw [hl,aNl hC]⟩⟩,hnl,ht,hnv⟩
set_option maxHeartbeats 4000000 in
theorem uB(hhn:hn=hs.length)(hh:aO w G ha hs)(hhl:hn≤1048576)(hbn:n=ls.length)(hnl:n≤1048576)(h:bW w G ba ls)(hf:Fit ls)(hB:BaseP S w (.pointer o) Gr)(hC:SameC (bC Gr) C)(ht:∀l∈ls,(aB ls).length+(aA l).length≤1048576)(hnv:(aB ls).length≤1048576)(hO:(cY ((p,hs,()),ls,()) C).length≤1048576):
 Calls Tryz.prog 50 #[cI p ha hn hcap ba n bcap,.pointer o] w (RetN w fun w' v=>OwnRows w.heap.size w' v (cY ((p,hs,()),ls,()) C)):=by
 have HO:=qH (fun W (hW:Ext w W) (bo:Option Addr) (bc:Nat) (hr:CellsAt W bo (List.replicate n (.pointer o)))=>aDl (p:=p) (hcap:=hcap) (bcap:=bcap) hhn (hh.ext hW) hhl (h.ext hW) hf (WIn.one (bcap:=bcap) (bo:=bo) (bc:=bc) hbn hnl (h.ext hW) (hB.ext hW) hC hr ht hnv) hO);rw [show mW ((p,hs,()),ls,()) (wT C ls)=cY ((p,hs,()),ls,()) C from rfl]at HO;generalize cY ((p,hs,()),ls,()) C=L at HO ⊢;obtain⟨gb,egb⟩:=nm w.heap.size;obtain⟨w1,e1⟩:=nm (w.alloc (.cells #[.string p,.slice ha hn hcap,.slice ba n bcap] 27));have x1:Ext w w1:=xAX e1;have hB1:=bNX egb e1;have H1:=qH (nIX x1 hB1);clear hhn hh hhl hbn h hf hB hC ht hnv x1 hB1;go_enter Tryz.func50,Tryz.ntmps50;go_wp2;clear e1 egb;go_loopw [5,6] (fun ov iv wr=>RepR w gb [.string p,.slice ha hn hcap,.slice ba n bcap] (.pointer o) n ov iv wr) (fun _ iv _=>n- (intOf iv).toNat)
 case atStart=>exact⟨0,Nat.zero_le _,rfl,qH H1.out.1,qH (Row.nil _ _ _ _),qH H1.out.2⟩
 case round=>
  obtain⟨i,hi,rfl,hex,hro,hbk⟩:=hrel;obtain⟨oa,oc,eov,hoc,_⟩:=hro.out.shape;subst eov;have r2:=hbk.out.c2;by_cases hlt:i<n
  ·clear hoc;go_wp2_with (first|(at_builtin;refine Halted.out ?_))
   refine Halted.mk (bO (m:=1) (n:=i) qX rfl _ _ rfl (hex.out.alloc _) rfl (hro.out.alloc _) rfl (CellsAt.one wr (.pointer o) 84) (by rfl) (by simp [Value.oneCell']) (by omega) (by unfold maxLen;omega) ?_);intro v6 w6 hr6 hk6 hk6b _;have hb6:=(hbk.out.alloc (.cells #[.pointer o] 84)).kp hk6b fun hg=>by obtain⟨cs,hb⟩:=aV hro.out hg;exact absurd (aQ hb hbk.out) (by decide)
   have HF:=qH (show Ext w w6/\Row w6 84 1 v6 (i+1) (List.replicate (i+1) (.pointer o)) (New w)/\Blk w6 gb [.string p,.slice ha hn hcap,.slice ba n bcap] 27 from⟨hk6,by rw [List.replicate_succ'];exact hr6,hb6⟩);obtain⟨la,lcap,elv,_,_⟩:=hr6.shape;subst elv;clear hr6 hk6 hk6b hb6;go_wp2;go_roundw
   case rel=>exact⟨i+1,by omega,nMX,qH HF.out.1,qH HF.out.2.1,qH HF.out.2.2⟩
   case measure=>simp [intOf];omega
  ·obtain rfl:n=i:=by omega
   have q0:=hbk.out.c0;have q1:=hbk.out.c1;have HC:=qH (HO.out wr hex.out oa oc hoc);have hsz:=hex.out.size;clear hoc hro hbk;go_wp2_with fail
   refine HC.out.mono ?_;rintro e w3 ⟨v3,rfl,hk3,ho⟩;obtain⟨ra,rc,erv,_⟩:=ho.shape;subst erv;have H3:=qH (show Ext w w3/\OwnRows w.heap.size w3 (.slice ra L.length rc) L from⟨hex.out.trans hk3,ho.mono hsz⟩);clear hk3 ho;go_wp2;go_ret;exact RetN.mk H3.out.1 H3.out.2
end
def gY(r:cG)(nb:Bool)(L:aD):Nat×aD:=
 if aU r≠0 then(aU r,[])else if(r.1.2.1.any fun t=>decide (4≤t.1))=true then(2,[])else if nb=true then(1,[])else bB r.1.2.1.length [] (L.map fun V=>bN (aB r.2.1) V r.1.2.1)
def FactsY(e m:Nat)(A:aD)(w w':World)(v:Value):Prop:=(e≠0/\v= .tuple #[.pointer none,.int .i64 (e:Nat)])\/ (e=0/\∃rb iv S,v= .tuple #[.pointer (some ⟨rb,0,none⟩),.int .i64 0]/\RowsAt S w' rb iv m A/\w.heap.size≤rb/\(∀k,S k->w.heap.size≤k)/\∀k,iv.ownBlock=some k->w.heap.size≤k)
theorem FactsOut.to{r:cG}{nb:Bool}{L:aD}{w w':World}{v:Value}(h:FactsOut r nb L w w' v):FactsY (gY r nb L).1 r.1.2.1.length (gY r nb L).2 w w' v:=by
 unfold gY;rcases h with⟨hc,rfl⟩|⟨hc,ha,rfl⟩|⟨hc,ha,hb,rfl⟩|⟨hc,ha,hb,e,A,hM,h⟩
 ·rw [if_pos hc];exact .inl ⟨hc,rfl⟩
 ·rw [if_neg (fun h=>h hc),if_pos ha];exact .inl ⟨by decide,rfl⟩
 ·rw [if_neg (fun h=>h hc),if_neg (by rw [ha];decide),if_pos hb];exact .inl ⟨by decide,rfl⟩
 ·rw [if_neg (fun h=>h hc),if_neg (by rw [ha];decide),if_neg (by rw [hb];decide),hM];exact h
def RefFactsV(e m:Nat)(A:aD)(w w':World)(v:Value):Prop:=(e≠0/\v= .tuple #[.pointer none,.int .i64 (e:Nat)])\/ (e=0/\∃c S,v= .tuple #[.pointer (some ⟨c,0,none⟩),.int .i64 0]/\RefRows S w' c m A)
def NoAgg(w0:World)(hs:List aE)(n:Nat)(iv:Value)(W:World):Prop:=∃i:Nat,i≤n/\iv= .int .i64 i/\Hid (Ext w0 W)/\Hid (∀t∈hs.take i,t.1<4)
def FillR(w0:World)(c m:Nat)(ls:List aL)(hs:List aE)(L:aD)(lv:Value)(n:Nat)(iv:Value)(W:World):Prop:=
 ∃i:Nat,i≤n/\iv= .int .i64 i/\∃A,Hid (Kp (fun k=>k=c) w0 W)/\Hid (bB m [] ((L.take i).map fun V=>bN (aB ls) V hs)=(0,A))/\Hid (∃S,RefRows S W c m A/\∀k,S k->k<W.heap.size)
section
variable {S:Nat->Prop}{w:World}{p:ByteArray}{hs:List aE}{ls:List aL}{ha ba:Option Addr}{hn hcap n bcap:Nat}{G:Nat->Prop}{C:List aZ}{Gr:List REnt}{o:Option Addr}
set_option maxHeartbeats 8000000 in
theorem rO(hhn:hn=hs.length)(hh:aO w G ha hs)(hhl:hn≤1048576)(hbn:n=ls.length)(hnl:n≤1048576)(h:bW w G ba ls)(hf:Fit ls)(hB:BaseP S w (.pointer o) Gr)(hC:SameC (bC Gr) C)(ht:∀l∈ls,(aB ls).length+(aA l).length≤1048576)(hnv:(aB ls).length≤1048576)(hO:o.isNone=false->(cY ((p,hs,()),ls,()) C).length≤65536):
 Calls Tryz.prog 48 #[cI p ha hn hcap ba n bcap,.pointer o] w (RetN w fun w' v=>RefFactsV (gY ((p,hs,()),ls,()) o.isNone (cY ((p,hs,()),ls,()) C)).1 hn (gY ((p,hs,()),ls,()) o.isNone (cY ((p,hs,()),ls,()) C)).2 w w' v):=by
 have HCh:=qH (fun W (hW:Ext w W)=>mF p hs ls ha hn hcap ba n bcap W G hhn (hh.ext hW) hhl hbn (h.ext hW) hf);have HEa:=qH (fun W (hW:Ext w W) (hb:o.isNone=false)=>uB (p:=p) (hcap:=hcap) (bcap:=bcap) hhn (hh.ext hW) hhl hbn hnl (h.ext hW) hf (hB.ext hW) hC ht hnv (by have:=hO hb;omega));have HHd:=qH (fun W (hW:Ext w W) (V:List ByteArray) (va:Option Addr) (nb vc:Nat) (hV:nb=V.length) (hc:CellsAt W va (strs V)) (hb:nb≤1048576)=>aDm (hcap:=hcap) (bcap:=bcap) (p:=p) (vc:=vc) hhn (hh.ext hW) hhl hbn (h.ext hW) hf hnv hV hc hb);have HT:=qH (nIX hhn hh);obtain⟨cR,ecR⟩:=nm (aU ((p,hs,()),ls,()));rw [ecR]at HCh;obtain⟨L,eL⟩:=nm (cY ((p,hs,()),ls,()) C);rw [eL]at hO HEa ⊢;have HV:=qH (show ∀V∈L,V.length=(aB ls).length from fun V hV=>by
  rw [<-eL]at hV;unfold cY at hV;split at hV
  ·rename_i hc;exact(((aE4 hc _).iff V).1 hV).1
  ·simp at hV)
 obtain⟨fx,efx⟩:=nm (gY ((p,hs,()),ls,()) o.isNone L);have HFx:=qH (show(cR≠0->fx=(cR,[]))/\(cR=0->(∃t∈hs,4≤t.1)->fx=(2,[]))/\(cR=0->(∀t∈hs,t.1<4)->o.isNone=true->fx=(1,[]))/\(cR=0->(∀t∈hs,t.1<4)->o.isNone=false->fx=bB hn [] (L.map fun V=>bN (aB ls) V hs))from by
  rw [<-efx,<-ecR,hhn];unfold gY;refine⟨fun hc=>by rw [if_pos hc],fun hc ha=>?_,fun hc ha hb=>?_,fun hc ha hb=>?_⟩
  ·obtain⟨t,ht,h4⟩:=ha;rw [if_neg (fun h=>h hc),if_pos (List.any_eq_true.2 ⟨t,ht,decide_eq_true h4⟩)]
  ·rw [if_neg (fun h=>h hc),if_neg,if_pos hb];intro ht;obtain⟨t,ht,h4⟩:=List.any_eq_true.1 ht;exact absurd (ha t ht) (by have:=of_decide_eq_true h4;omega)
  ·rw [if_neg (fun h=>h hc),if_neg,if_neg (by rw [hb];decide)];intro ht;obtain⟨t,ht,h4⟩:=List.any_eq_true.1 ht;exact absurd (ha t ht) (by have:=of_decide_eq_true h4;omega))
 rw [efx];have HC:=qH (nIX ecR (show cR=0->hn≤64 from fun hc=>by rw [hhn];exact aMi (ecR.trans hc)));have HO:=qH hO;have HNv:=qH hnv;obtain⟨gb,egb⟩:=nm w.heap.size;obtain⟨w1,e1⟩:=nm (w.alloc (.cells #[.string p,.slice ha hn hcap,.slice ba n bcap] 27));have x1:Ext w w1:=xAX e1;have hB1:=bNX egb e1;have H1:=qH (nIX x1 (nIX hB1 egb));have r0:=hB1.c0;have r1:=hB1.c1;have r2:=hB1.c2;clear hhn hh hbn h hf hB hC ht hnv hO x1 hB1 ecR eL efx;go_enter Tryz.func48,Tryz.ntmps48;go_wp2_with fail
 clear e1 egb;refine(HCh.out w1 H1.out.1).mono ?_;rintro e w2 ⟨v2,rfl,hk2,rfl⟩;have H2:=qH (nIX (H1.out.1.trans hk2) (H1.out.2.1.ext hk2));clear hk2 r0 r1 r2;by_cases hc:cR=0
 ·have hc':((cR:Int)==0)=true:=by simp;omega
  have hc2:((cR:Int) !=0)=false:=by simp;omega
  have HC0:=qH hc;clear hc;go_wp2;go_loopw [7] (fun iv wr=>NoAgg w2 hs hn iv wr) (fun iv _=>hn- (intOf iv).toNat)
  case atStart=>exact⟨0,Nat.zero_le _,rfl,qH (Kp.refl _),qH (fun t ht=>by simp at ht)⟩
  case round=>
   obtain⟨i,hi,rfl,hex,hno⟩:=hrel;have u1:=(H2.out.2.ext hex.out).c1;by_cases hlt:i<hn
   ·obtain⟨t,ht⟩:∃t,hs[i]?=some t:=⟨_,qG (by rw [<-HT.out.1];exact hlt)⟩;obtain⟨b,off,eha,f0,f1,-,-⟩:=cX (HT.out.2.ext (H2.out.1.trans hex.out)) ht;subst eha;obtain⟨kt,st,⟨⟩⟩:=t;simp only at f0 f1;have HTt:=qH ht;clear ht f1;by_cases h4:4≤kt
    ·have q4:decide (kt≥4)=true:=by simp;omega
     have HF:=qH (HFx.out.2.1 HC0.out ⟨_,List.mem_of_getElem? HTt.out,h4⟩);go_wp2;go_ret2;exact RetN.mk (H2.out.1.trans hex.out) (by rw [HF.out];exact .inl ⟨by decide,rfl⟩)
    ·have q4:decide (kt≥4)=false:=by simp;omega
     have HN4:=qH (show kt<4 by omega);clear h4;go_wp2;go_roundw
     case rel=>exact⟨i+1,by omega,nMX,hex,qH (fun t ht=>by
      rw [List.take_add_one,HTt.out]at ht;rcases List.mem_append.1 ht with ht|ht
      ·exact hno.out t ht
      ·obtain rfl:=List.mem_singleton.1 ht;exact HN4.out)⟩
     case measure=>simp [intOf];omega
   ·obtain rfl:hn=i:=by omega
    have HN4:=qH (show ∀t∈hs,t.1<4 from fun t ht=>hno.out t (by rwa [List.take_of_length_le (by rw [<-HT.out.1];exact Nat.le_refl _)]));have H3:=qH (nIX (H2.out.1.trans hex.out) (H2.out.2.ext hex.out));clear hno hex;cases o with
    |none=>
     have HF:=qH (HFx.out.2.2.1 HC0.out HN4.out rfl);go_wp2;go_ret2;exact RetN.mk H3.out.1 (by rw [HF.out];exact .inl ⟨by decide,rfl⟩)
    |some oa=>
     have HF:=qH (HFx.out.2.2.2 HC0.out HN4.out rfl);have HNw:=qH (oA (fun _=>False) wr hn (HC.out.2 HC0.out) (fun _ h=>h.elim));go_wp2_with fail
     refine HNw.out.mono ?_;rintro e w4 ⟨v4,rfl,hk4,rfl,hR4⟩;obtain⟨c,ec⟩:=nm wr.heap.size;rw [ec]at hR4 ⊢;have H4:=qH (nIX (H3.out.1.trans hk4) (nIX (H3.out.2.ext hk4) (nIX hR4 ec)));have r0:=H4.out.2.1.c0;have r1:=H4.out.2.1.c1;have r2:=H4.out.2.1.c2;clear hk4 hR4 ec u1;go_wp2_with fail
     refine(HEa.out w4 H4.out.1 rfl).mono ?_;rintro e w5 ⟨v5,rfl,hk5,ho5⟩;obtain⟨la,lc,elv,hL5⟩:=ho5.shape;subst elv;have hLl:=HO.out rfl;have H5:=qH (show Ext w w5/\Blk w5 gb [.string p,.slice ha hn hcap,.slice ba n bcap] 27/\RefRows (fun _=>False) w5 c hn []/\RowsIn (fun g=>w4.heap.size≤g/\g<w5.heap.size) w5 la L/\gb<c/\c<w4.heap.size/\w.heap.size≤c from⟨H4.out.1.trans hk5,H4.out.2.1.ext hk5,H4.out.2.2.1.ext hk5,hL5,by have h1:=H3.out.2.lt;have h2:=H4.out.2.2.2;omega,H4.out.2.2.1.lt,by have h1:=H3.out.1.size;have h2:=H4.out.2.2.2;omega⟩);clear hk5 ho5 hL5 r0 r1 r2;go_wp2;go_loopw [11] (fun iv W=>FillR w5 c hn ls hs L (.slice la L.length lc) L.length iv W) (fun iv _=>L.length- (intOf iv).toNat)
     case atStart=>exact⟨0,Nat.zero_le _,rfl,[],qH (Kp.refl _),qH rfl,qH ⟨_,H5.out.2.2.1,fun _ h=>h.elim⟩⟩
     case round=>
      obtain⟨k,hk,rfl,A,hkp,hA,hR⟩:=hrel;by_cases hlk:k<L.length
      ·obtain⟨V,hV⟩:∃V,L[k]?=some V:=⟨_,qG hlk⟩;have hRk:=H5.out.2.2.2.1.kp hkp.out (fun g hf hg=>by have e':g=c:=hf;have:=hg.1;have:=H5.out.2.2.2.2.2.1;omega);obtain⟨lb,lo,xa,xc,ela,x0,hcx,_,_⟩:=hRk.get hV;subst ela;obtain⟨S5,hR5,hS5⟩:=hR.out;have hVn:=HV.out V (List.mem_of_getElem? hV);have hnvl:=HNv.out;have hex5:Ext w wr:=H5.out.1.trans' hkp.out fun i hi e=>by have e':i=c:=e;have:=H5.out.2.2.2.2.2.2;omega
       have hgb:Blk wr gb [.string p,.slice ha hn hcap,.slice ba n bcap] 27:=H5.out.2.1.kp hkp.out fun e=>by have e':gb=c:=e;have:=H5.out.2.2.2.2.1;omega
       obtain⟨RW,eRW⟩:=nm (bN (aB ls) V hs);have hRl:RW.length≤hn:=by rw [<-eRW,HT.out.1];exact tL _ _ _
       obtain⟨rn,ern⟩:=nm RW.length;have HRes:=qH (show ∀W W1 v1,zJ ((p,hs,()),ls,()) V W W1 v1->∃ya yc,v1= .tuple #[.slice ya rn yc,.int .i64 0]/\CellsAt W1 ya (strs RW)from fun W W1 v1 h=>by
        rcases h with⟨h1,h2,ya,yc,e,h3,_⟩|⟨h1,_⟩
        ·rw [<-aJ8 h1]at h3 e;rw [show bN (aB ((p,hs,()),ls,()).2.1) V ((p,hs,()),ls,()).1.2.1=RW from eRW]at h3 e;rw [ern]at e;exact⟨ya,yc,e,h3⟩
        ·exact absurd ⟨HC.out.1.trans HC0.out,hVn⟩ h1)
       have HCl:=qH (fun X (hX:Ext wr X)=>HHd.out X (hex5.trans hX) V xa V.length xc rfl (hcx.ext hX) (by omega));have hAs:Strict aC A:=by have h:=jR hn ((L.take k).map fun V=>bN (aB ls) V hs) [] List.Pairwise.nil;rw [hA.out]at h;exact h
       have hAf:A.length≤65536:=by have h:=kG hn ((L.take k).map fun V=>bN (aB ls) V hs) [] (Nat.zero_le _);rw [hA.out]at h;exact h
       obtain⟨er,eer⟩:=nm ((aI hn A RW).2);have HAd:=qH (fun X (hX:Ext wr X) (ya:Option Addr) (yc:Nat) (hy:CellsAt X ya (strs RW))=>qM (hR5.ext hX) hAs (xo:=ya) (m:=rn) (xc:=yc) (ss:=RW) ern.symm hy (by omega) (by omega));have eTk:(L.take (k+1)).map (fun V=>bN (aB ls) V hs)=(L.take k).map (fun V=>bN (aB ls) V hs)++ [RW]:=by rw [List.take_add_one,hV,List.map_append,<-eRW];rfl
       have HNx:=qH (show(er=0->bB hn [] ((L.take (k+1)).map fun V=>bN (aB ls) V hs)=(0,aP hn A RW))/\(er≠0->fx=(er,A))from by
        have hA1:(bB hn [] ((L.take k).map fun V=>bN (aB ls) V hs)).1=0:=by rw [hA.out]
        have hA2:(bB hn [] ((L.take k).map fun V=>bN (aB ls) V hs)).2=A:=by rw [hA.out]
        refine⟨fun h0=>?_,fun h0=>?_⟩
        ·rw [eTk,mD hA1 (by rw [hA2,eer];exact h0),hA2]
        ·have hb:=nR hA1 (x:=RW) (by rw [hA2,eer];exact h0);rw [hA2,eer]at hb;rw [HF.out];have e:L.map (fun V=>bN (aB ls) V hs)=(L.take (k+1)).map (fun V=>bN (aB ls) V hs)++(L.drop (k+1)).map fun V=>bN (aB ls) V hs:=by rw [<-List.map_append,List.take_append_drop]
         rw [e,eTk,rK _ _ _ _ (by rw [hb];exact h0),hb])
       have HJ:=qH (show ∀X,Ext wr X->(fun X:World=>X.cell? ⟨gb,0,none⟩=some (.string p)/\X.cell? ⟨gb,1,none⟩=some (.slice ha hn hcap)/\X.cell? ⟨gb,2,none⟩=some (.slice ba n bcap)/\X.cell? ⟨lb,lo+k,none⟩=some (.slice xa V.length xc)) X from fun X hX=>⟨by rw [(hgb.ext hX).cell'];rfl,by rw [(hgb.ext hX).cell'];rfl,by rw [(hgb.ext hX).cell'];rfl,hX.cell x0 id⟩);obtain⟨vn,evn⟩:=nm V.length;simp only [evn]at HJ HCl;clear hRk x0 hcx hR5 hS5 hVn hnvl hex5 hgb eRW hRl ern hAs hAf eTk hV evn;go_wp2;refine aT (fun X:World=>X.cell? ⟨gb,0,none⟩=some (.string p)/\X.cell? ⟨gb,1,none⟩=some (.slice ha hn hcap)/\X.cell? ⟨gb,2,none⟩=some (.slice ba n bcap)/\X.cell? ⟨lb,lo+k,none⟩=some (.slice xa vn xc)) [] (by kernel_rfl) (HJ.out _ (Kp.refl wr).drew) (fun hHeld=>?_);refine eIX 0 ?_;refine eFX 1 ?_;refine eFX 2 ?_;refine eIX 3 ?_;refine eIX 4 ?_;refine eTX 5 fun K hK=>?_;go_simp
       (refine(HCl.out _ (Kp.refl wr).drew).mono ?_;rintro e w6 ⟨v6,rfl,hk6,ho6⟩;obtain⟨ya,yc,rfl,hy6⟩:=HRes.out _ _ _ ho6;have X6:=qH (show Ext wr w6 from(Kp.refl wr).drew.trans hk6);have HY:=qH hy6;clear hk6 ho6 hy6)
       go_wp2_with fail
       refine hK.out _ _ (HJ.out _ X6.out) fun hHeld=>?_;clear hK K;refine eFX 6 ?_;refine eFX 7 ?_;refine eFX 8 ?_;refine eFX 9 ?_;refine eFX 10 ?_;refine aK (by kernel_rfl) ?_ _;clear hHeld;go_wp2_with fail
       refine(HAd.out w6 X6.out ya yc HY.out).mono ?_;rintro e w7 ⟨v7,rfl,hk7,ev7,S7,-,hR7⟩;subst ev7;rw [eer];have H7:=qH (nIX ((Ext.kp (F:=fun q=>q=c) X6.out).trans hk7) hR7);clear hk7 hR7;obtain⟨bz,ebz⟩:=nm ((aI hn A RW).1);rw [ebz];clear ebz eer;by_cases h0:er=0
       ·subst h0;have HN0:=qH (HNx.out.1 rfl);go_wp2;go_roundw
        case rel=>exact⟨k+1,by omega,nMX,aP hn A RW,qH (hkp.out.trans H7.out.1),HN0,qH ⟨S7,H7.out.2,H7.out.2.inS⟩⟩
        case measure=>simp [intOf];omega
       ·have q0:((er:Int) !=0)=true:=by simp;omega
        have q1:((er:Int)==0)=false:=by simp;omega
        have HN0:=qH (nIX (HNx.out.2 h0) h0);clear h0;go_wp2;go_ret2;exact RetN.mk (H5.out.1.trans' (hkp.out.trans H7.out.1) fun i hi e=>by have e':i=c:=e;have:=H5.out.2.2.2.2.2.2;omega) (by rw [HN0.out.1];exact .inl ⟨HN0.out.2,rfl⟩)
      ·obtain rfl:k=L.length:=by omega
       have hAl:bB hn [] (L.map fun V=>bN (aB ls) V hs)=(0,A):=by rw [<-hA.out,List.take_of_length_le (Nat.le_refl _)]
       have HZ:=qH (show fx=(0,A)from HF.out.trans hAl);go_wp2;go_ret2;obtain⟨S5,h5,_⟩:=hR.out;exact RetN.mk (H5.out.1.trans' hkp.out fun i hi e=>by have e':i=c:=e;have:=H5.out.2.2.2.2.2.2;omega) (by rw [HZ.out];exact .inr ⟨rfl,c,S5,rfl,h5⟩)
 ·have hc':((cR:Int)==0)=false:=by simp;omega
  have hc2:((cR:Int) !=0)=true:=by simp;omega
  have HF:=qH (HFx.out.1 hc);have HN:=qH hc;clear hc;go_wp2;go_ret2;exact RetN.mk H2.out.1 (by rw [HF.out];exact .inl ⟨HN.out,rfl⟩)
end
def aMs:Nat->Code->Code
 |0,c=>c
 |n+1,.seq _ b=>aMs n b
 |_+1,c=>c
noncomputable def aBf:Code:=aMs 12 (Tryz.f8.body.getD .skip)
theorem aL9(t:Array Value)(h:t.size=159):∃u:Nat->Value,(∀i,t.getD i undef=u i)/\t=#[u 0,u 1,u 2,u 3,u 4,u 5,u 6,u 7,u 8,u 9,u 10,u 11,u 12,u 13,u 14,u 15,u 16,u 17,u 18,u 19,u 20,u 21,u 22,u 23,u 24,u 25,u 26,u 27,u 28,u 29,u 30,u 31,u 32,u 33,u 34,u 35,u 36,u 37,u 38,u 39,u 40,u 41,u 42,u 43,u 44,u 45,u 46,u 47,u 48,u 49,u 50,u 51,u 52,u 53,u 54,u 55,u 56,u 57,u 58,u 59,u 60,u 61,u 62,u 63,u 64,u 65,u 66,u 67,u 68,u 69,u 70,u 71,u 72,u 73,u 74,u 75,u 76,u 77,u 78,u 79,u 80,u 81,u 82,u 83,u 84,u 85,u 86,u 87,u 88,u 89,u 90,u 91,u 92,u 93,u 94,u 95,u 96,u 97,u 98,u 99,u 100,u 101,u 102,u 103,u 104,u 105,u 106,u 107,u 108,u 109,u 110,u 111,u 112,u 113,u 114,u 115,u 116,u 117,u 118,u 119,u 120,u 121,u 122,u 123,u 124,u 125,u 126,u 127,u 128,u 129,u 130,u 131,u 132,u 133,u 134,u 135,u 136,u 137,u 138,u 139,u 140,u 141,u 142,u 143,u 144,u 145,u 146,u 147,u 148,u 149,u 150,u 151,u 152,u 153,u 154,u 155,u 156,u 157,u 158]:=by refine⟨fun i=>t.toList.getD i undef,fun i=>by simp [Array.getD_eq_getD_getElem?,List.getD_eq_getElem?_getD],?_⟩;apply Array.ext';have:=lH t.toList 159 (by simpa using h);exact this
theorem aAn(q:Option Addr)(b:Bool)(h:q.isNone=b)(w:World):(binOp .eql 88 (.pointer q) (.pointer none)).run Tryz.prog w= .ok (.bool b) w:=by subst h;cases q<;>kernel_rfl
theorem aJe(q:Option Addr)(b:Bool)(h:q.isNone=b)(w:World):(binOp .eql 85 (.pointer q) (.pointer none)).run Tryz.prog w= .ok (.bool b) w:=by subst h;cases q<;>kernel_rfl
theorem aFz(q:Option Addr)(b:Bool)(h:q.isNone=b)(w:World):(binOp .neq 88 (.pointer q) (.pointer none)).run Tryz.prog w= .ok (.bool !b) w:=by subst h;cases q<;>kernel_rfl
theorem FactsY.val{e m:Nat}{A:aD}{w w':World}{v:Value}(h:FactsY e m A w w' v):∃q:Option Addr,v= .tuple #[.pointer q,.int .i64 (e:Nat)]/\q.isNone=decide (e≠0)/\(e=0->∃rb iv S,q=some ⟨rb,0,none⟩/\RowsAt S w' rb iv m A):=by
 rcases h with⟨h0,rfl⟩|⟨h0,rb,iv,S,rfl,h1,_⟩
 ·exact⟨none,rfl,(decide_eq_true h0).symm,fun h=>absurd h h0⟩
 ·subst h0;exact⟨_,rfl,rfl,fun _=>⟨rb,iv,S,rfl,h1⟩⟩
theorem RefFactsV.val{e m:Nat}{A:aD}{w w':World}{v:Value}(h:RefFactsV e m A w w' v):∃q:Option Addr,v= .tuple #[.pointer q,.int .i64 (e:Nat)]/\q.isNone=decide (e≠0)/\(e=0->∃c S,q=some ⟨c,0,none⟩/\RefRows S w' c m A):=by
 rcases h with⟨h0,rfl⟩|⟨h0,c,S,rfl,h1⟩
 ·exact⟨none,rfl,(decide_eq_true h0).symm,fun h=>absurd h h0⟩
 ·subst h0;exact⟨_,rfl,rfl,fun _=>⟨c,S,rfl,h1⟩⟩
theorem aBr{S S':Nat->Prop}{A:aD}{ao bo:Option Addr}{n acap bcap:Nat}{w:World}(hn:n=A.length)(ha:RowsIn S w ao A)(hb:RowsIn S' w bo A)(hl:n≤4611686018427387904):
 Calls Tryz.prog 40 #[.slice ao n acap,.slice bo n bcap] w (RetN w fun w' v=>v= .bool true):=by
 have h:=aFa (acap:=acap) (bcap:=bcap) hn hn ha hb hl;simpa using h
set_option maxHeartbeats 16000000 in
theorem aG8{W:World}{gb gi gg ab ao bb bo b1 cb er e2 N:Nat}{p:ByteArray}{ha ba ia ib ga:Option Addr}{hn hcap n bcap ic ibc ac bc gc:Nat}{A BL:aD}{pw:Value}{t:Array Value}{ds:List Deferred}{Q:Exit->Act->World->Prop}
 (hG:Blk W gb [.string p,.slice ha hn hcap,.slice ba n bcap] 27)(hI:Blk W gi [.string p,.slice ia hn ic,.slice ib n ibc] 27)(h12:Blk W gg [.slice ga N gc] 69)(hN:N=BL.length)(hNl:N≤1048576)(hga:RowsIn (fun _=>True) W ga BL)(hAl:A.length≤65536)(he2:e2≠0)
 (hA:W.cell? ⟨ab,ao,none⟩=some (.pointer (some ⟨b1,0,none⟩)))(hB:W.cell? ⟨bb,bo,none⟩=some (.pointer (some ⟨cb,0,none⟩)))
 (hRF:∀X,Ext W X->Calls Tryz.prog 48 #[cI p ha hn hcap ba n bcap,.pointer (some ⟨cb,0,none⟩)] X (RetN X fun w' v=>RefFactsV er hn A X w' v))
 (hPF:∀X,Ext W X->Calls Tryz.prog 49 #[cI p ia hn ic ib n ibc,.pointer (some ⟨b1,0,none⟩)] X (RetN X fun w' v=>FactsY er hn A X w' v))
 (hRE:∀X,Ext W X->Calls Tryz.prog 50 #[cI p ha hn hcap ba n bcap,.pointer (some ⟨cb,0,none⟩)] X (RetN X fun w' v=>OwnRows X.heap.size w' v BL))
 (hKe:∀X,Ext W X->Calls Tryz.prog 23 #[cI p ia hn ic ib n ibc,cI p ha hn hcap ba n bcap] X (RetN X fun w' v=>v= .bool true))
 (hSm:∀X,Ext W X->Calls Tryz.prog 47 #[.pointer (some ⟨b1,0,none⟩),pw] X (RetN X fun w' v=>v= .bool true))
 (hPN:∀X,Ext W X->Calls Tryz.prog 49 #[cI p ia hn ic ib n ibc,.pointer none] X (RetN X fun w' v=>v= .tuple #[.pointer none,.int .i64 (e2:Nat)]))
 (hRN:∀X,Ext W X->Calls Tryz.prog 48 #[cI p ha hn hcap ba n bcap,.pointer none] X (RetN X fun w' v=>v= .tuple #[.pointer none,.int .i64 (e2:Nat)]))
 (hz:t.size=159)(t2:t.getD 2 undef= .pointer (some ⟨gb,0,none⟩))(t5:t.getD 5 undef= .slice (some ⟨ab,ao,none⟩) 1 ac)(t6:t.getD 6 undef= .slice (some ⟨bb,bo,none⟩) 1 bc)(t10:t.getD 10 undef= .pointer (some ⟨gi,0,none⟩))(t11:t.getD 11 undef=pw)(t12:t.getD 12 undef= .pointer (some ⟨gg,0,none⟩))
 (hQ:∀X t',Ext W X->t'.getD 4 undef= .bool true->Q .ret {tmps:=t',defers:=ds} X):
 aBf.wp Tryz.prog Q {tmps:=t,defers:=ds} W:=by
 obtain⟨u,hu,rfl⟩:=aL9 t hz;have k2:=(hu 2).symm.trans t2;have k5:=(hu 5).symm.trans t5;have k6:=(hu 6).symm.trans t6;have k10:=(hu 10).symm.trans t10;have k11:=(hu 11).symm.trans t11;have k12:=(hu 12).symm.trans t12;rw [k2,k5,k6,k10,k11,k12];clear hz t2 k2 t5 k5 t6 k6 t10 k10 t11 k11 t12 k12 hu;have HRF:=qH hRF;have HPF:=qH hPF;have HRE:=qH hRE;have HKe:=qH hKe;have HSm:=qH hSm;have HPN:=qH hPN;have HRN:=qH hRN;have HQ:=qH hQ;have HGa:=qH (nIX hN hga);have HAl:=qH hAl;have HE2:=qH he2;have HK:=qH (show ∀X,Ext W X->(fun X:World=>X.cell? ⟨gb,0,none⟩=some (.string p)/\X.cell? ⟨gb,1,none⟩=some (.slice ha hn hcap)/\X.cell? ⟨gb,2,none⟩=some (.slice ba n bcap)/\X.cell? ⟨gi,0,none⟩=some (.string p)/\X.cell? ⟨gi,1,none⟩=some (.slice ia hn ic)/\X.cell? ⟨gi,2,none⟩=some (.slice ib n ibc)/\X.cell? ⟨gg,0,none⟩=some (.slice ga N gc)/\X.cell? ⟨ab,ao,none⟩=some (.pointer (some ⟨b1,0,none⟩))/\X.cell? ⟨bb,bo,none⟩=some (.pointer (some ⟨cb,0,none⟩))) X from fun X hX=>
  ⟨by rw [(hG.ext hX).cell'];rfl,by rw [(hG.ext hX).cell'];rfl,by rw [(hG.ext hX).cell'];rfl,by rw [(hI.ext hX).cell'];rfl,by rw [(hI.ext hX).cell'];rfl,by rw [(hI.ext hX).cell'];rfl,by rw [(h12.ext hX).cell'];rfl,hX.cell hA id,hX.cell hB id⟩)
 clear hG hI h12 hN hga hA hB hRF hPF hRE hKe hSm hPN hRN hQ hAl he2;conv=>arg 2;whnf
 go_wp2_with fail
 refine lT ?_;refine aT (fun X:World=>X.cell? ⟨gb,0,none⟩=some (.string p)/\X.cell? ⟨gb,1,none⟩=some (.slice ha hn hcap)/\X.cell? ⟨gb,2,none⟩=some (.slice ba n bcap)/\X.cell? ⟨bb,bo,none⟩=some (.pointer (some ⟨cb,0,none⟩))) [] (by kernel_rfl) (nIX (HK.out _ (Kp.refl W).drew).1 (nIX (HK.out _ (Kp.refl W).drew).2.1 (nIX (HK.out _ (Kp.refl W).drew).2.2.1 (HK.out _ (Kp.refl W).drew).2.2.2.2.2.2.2.2))) (fun hHeld=>?_);refine eIX 0 ?_;refine eFX 1 ?_;refine eIX 2 ?_;refine eIX 3 ?_;refine eTX 4 fun K hK=>?_;go_simp
 (refine(HRF.out _ (Kp.refl W).drew).mono ?_;rintro e w1 ⟨v1,rfl,hk1,hv1⟩;obtain⟨q1,rfl,hq1,hr1⟩:=hv1.val;have X1:=qH (nIX (show Ext W w1 from(Kp.refl W).drew.trans hk1) (nIX hq1 hr1));clear hk1 hv1 hq1 hr1)
 go_wp2_with fail
 refine hK.out _ _ (nIX (HK.out _ X1.out.1).1 (nIX (HK.out _ X1.out.1).2.1 (nIX (HK.out _ X1.out.1).2.2.1 (HK.out _ X1.out.1).2.2.2.2.2.2.2.2))) fun hHeld=>?_;clear hK K;refine eFX 5 ?_;refine eFX 6 ?_;refine eFX 7 ?_;refine eFX 8 ?_;refine eFX 9 ?_;refine aK (by kernel_rfl) ?_ _;clear hHeld;refine gT ?_;go_wp2_with fail
 refine lT ?_;refine aT (fun X:World=>X.cell? ⟨gi,0,none⟩=some (.string p)/\X.cell? ⟨gi,1,none⟩=some (.slice ia hn ic)/\X.cell? ⟨gi,2,none⟩=some (.slice ib n ibc)/\X.cell? ⟨ab,ao,none⟩=some (.pointer (some ⟨b1,0,none⟩))) [] (by kernel_rfl) (nIX (HK.out _ X1.out.1.drew).2.2.2.1 (nIX (HK.out _ X1.out.1.drew).2.2.2.2.1 (nIX (HK.out _ X1.out.1.drew).2.2.2.2.2.1 (HK.out _ X1.out.1.drew).2.2.2.2.2.2.2.1))) (fun hHeld=>?_);refine eIX 0 ?_;refine eFX 1 ?_;refine eIX 2 ?_;refine eIX 3 ?_;refine eTX 4 fun K hK=>?_;go_simp
 (refine(HPF.out _ X1.out.1.drew).mono ?_;rintro e w2 ⟨v2,rfl,hk2,hv2⟩;obtain⟨q2,rfl,hq2,hr2⟩:=hv2.val;have X2:=qH (show Ext W w2/\q2.isNone=decide (er≠0)/\(er=0->∃rb iv S,q2=some ⟨rb,0,none⟩/\RowsAt S w2 rb iv hn A)/\(er=0->∃c S,q1=some ⟨c,0,none⟩/\RefRows S w2 c hn A)from⟨X1.out.1.drew.trans hk2,hq2,hr2,fun h0=>by obtain⟨c,S,h1,h2⟩:=X1.out.2.2 h0;exact⟨c,S,h1,h2.ext ((Kp.refl w1).drew.trans hk2)⟩⟩);clear hk2 hv2 hq2 hr2)
 go_wp2_with fail
 refine hK.out _ _ (nIX (HK.out _ X2.out.1).2.2.2.1 (nIX (HK.out _ X2.out.1).2.2.2.2.1 (nIX (HK.out _ X2.out.1).2.2.2.2.2.1 (HK.out _ X2.out.1).2.2.2.2.2.2.2.1))) fun hHeld=>?_;clear hK K;refine eFX 5 ?_;refine eFX 6 ?_;refine eFX 7 ?_;refine eFX 8 ?_;refine eFX 9 ?_;refine aK (by kernel_rfl) ?_ _;clear hHeld;refine gT ?_;obtain⟨nb,enb⟩:=nm (decide (er≠0));have n1:=aAn q2 nb (X2.out.2.1.trans enb);have n2:=aJe q1 nb (X1.out.2.1.trans enb);have n3:=aFz q2 nb (X2.out.2.1.trans enb);have n4:((er:Int) !=(er:Int))=false:=by simp
 have HEn:=qH enb;have n5:(nb !=nb)=false:=by simp
 clear enb;go_wp2_with fail
 refine lT ?_;refine aT (fun X:World=>X.cell? ⟨gb,0,none⟩=some (.string p)/\X.cell? ⟨gb,1,none⟩=some (.slice ha hn hcap)/\X.cell? ⟨gb,2,none⟩=some (.slice ba n bcap)/\X.cell? ⟨gi,0,none⟩=some (.string p)/\X.cell? ⟨gi,1,none⟩=some (.slice ia hn ic)/\X.cell? ⟨gi,2,none⟩=some (.slice ib n ibc)/\X.cell? ⟨gg,0,none⟩=some (.slice ga N gc)/\X.cell? ⟨ab,ao,none⟩=some (.pointer (some ⟨b1,0,none⟩))/\X.cell? ⟨bb,bo,none⟩=some (.pointer (some ⟨cb,0,none⟩))) [] (by kernel_rfl) (HK.out _ X2.out.1.drew) (fun hHeld=>?_);refine eFX 0 ?_;refine eFX 2 ?_;refine eTX 1 fun K hK=>?_;go_simp
 (refine(lD (er:Nat) _).mono ?_;rintro e u1 ⟨v,rfl,hk,rfl⟩;have Y1:=qH (show Ext W u1 from X2.out.1.drew.trans hk);have Y1k:=qH (show Ext w2 u1 from(Kp.refl w2).drew.trans hk);clear hk)
 go_wp2_with fail
 refine hK.out _ _ (HK.out _ Y1.out) fun hHeld=>?_;clear hK K;refine eFX 3 ?_;refine eFX 4 ?_;refine eGX 5 ?_;refine eGX 6 ?_;refine eGX 7 ?_;refine eGX 8 ?_;refine eGX 9 ?_;refine eFX 10 ?_;refine eFX 11 ?_;refine eHX 12 ?_;refine eHX 13 ?_;refine eGX 14 ?_;refine eHX 15 ?_;refine eHX 16 ?_;refine eTX 17 fun K hK=>?_;go_simp
 (refine(HRE.out _ Y1.out).mono ?_;rintro e u2 ⟨v,rfl,hk,ho⟩;obtain⟨ra,rc,rfl,hro⟩:=ho.shape;rw [<-HGa.out.1];have Y2:=qH (nIX (show Ext W u2 from Y1.out.trans hk) (nIX hro (Y1k.out.trans hk)));clear hk ho hro)
 go_wp2_with fail
 refine hK.out _ _ (HK.out _ Y2.out.1) fun hHeld=>?_;clear hK K;refine eTX 18 fun K hK=>?_;go_simp
 (refine(aBr HGa.out.1 (HGa.out.2.ext Y2.out.1) Y2.out.2.1 (by omega)).mono ?_;rintro e u3 ⟨v,rfl,hk,rfl⟩;have Y3:=qH (show Ext W u3 from Y2.out.1.trans hk);have Y3k:=qH (show Ext w2 u3 from Y2.out.2.2.trans hk);clear hk)
 go_wp2_with fail
 refine hK.out _ _ (HK.out _ Y3.out) fun hHeld=>?_;clear hK K;refine eGX 19 ?_;refine eFX 20 ?_;refine eFX 21 ?_;refine eHX 22 ?_;refine eHX 23 ?_;refine eTX 24 fun K hK=>?_;go_simp
 (refine(HKe.out _ Y3.out).mono ?_;rintro e u4 ⟨v,rfl,hk,rfl⟩;have Y4:=qH (show Ext W u4 from Y3.out.trans hk);have Y4k:=qH (show Ext w2 u4 from Y3k.out.trans hk);clear hk)
 go_wp2_with fail
 refine hK.out _ _ (HK.out _ Y4.out) fun hHeld=>?_;clear hK K;refine eGX 25 ?_;refine eFX 26 ?_;refine eFX 27 ?_;refine eGX 28 ?_;refine eHX 29 ?_;refine eHX 30 ?_;refine eGX 31 ?_;refine eTX 32 fun K hK=>?_;go_simp
 (refine(HSm.out _ Y4.out).mono ?_;rintro e u5 ⟨v,rfl,hk,rfl⟩;have Y5:=qH (show Ext W u5 from Y4.out.trans hk);have Y5k:=qH (show Ext w2 u5 from Y4k.out.trans hk);clear hk)
 go_wp2_with fail
 refine hK.out _ _ (HK.out _ Y5.out) fun hHeld=>?_;clear hK K;refine eGX 33 ?_;refine eFX 34 ?_;refine aK (by kernel_rfl) ?_ _;clear hHeld;refine gT ?_;obtain⟨-,-,-,d0,d1,d2,-,-,-⟩:=HK.out u5 Y5.out;have m1:=aAn none true rfl;cases nb with
 |true=>
  go_wp2_with fail
  refine(HPN.out u5 Y5.out).mono ?_;rintro e y1 ⟨v,rfl,hk,rfl⟩;have Z1:=qH (show Ext W y1 from(Y5.out).trans hk);clear hk;obtain⟨g0,g1,g2,-,-,-,-,-,-⟩:=HK.out y1 Z1.out;go_wp2_with fail
  refine(HRN.out y1 Z1.out).mono ?_;rintro e y2 ⟨v,rfl,hk,rfl⟩;have Z2:=qH (show Ext W y2 from Z1.out.trans hk);clear hk;go_wp2_with fail
  refine(lD (e2:Nat) y2).mono ?_;rintro e y3 ⟨v,rfl,hk,rfl⟩;have Z3:=qH (show Ext W y3 from Z2.out.trans hk);clear hk;go_wp2_with fail
  refine(kR y3).mono ?_;rintro e y4 ⟨v,rfl,hk,rfl⟩;have Z4:=qH (show Ext W y4 from Z3.out.trans hk);clear hk;go_wp2_with fail
  exact HQ.out _ _ Z4.out rfl
 |false=>
  have he0:er=0:=Decidable.not_not.1 (of_decide_eq_false HEn.out);obtain⟨rb,iv,S2,eq2,hRA⟩:=X2.out.2.2.1 he0;obtain⟨c,S1,eq1,hRR⟩:=X2.out.2.2.2 he0;subst eq2 eq1;have HR:=qH (nIX (fun X (hX:Ext w2 X)=>(RowsAt.q (z:=False) hRA).ext hX) (fun X (hX:Ext w2 X)=>hRR.ext hX));have m2:((hn:Int) !=(hn:Int))=false:=by simp
  clear hRA hRR he0;go_wp2_with fail
  refine(uA (HR.out.1 u5 Y5k.out)).mono ?_;rintro e z1 ⟨rfl,rfl⟩;go_wp2_with fail
  refine(aCa (HR.out.2 u5 Y5k.out)).mono ?_;rintro e z2 ⟨rfl,rfl⟩;go_wp2_with fail
  refine(aAo (HR.out.1 u5 Y5k.out)).mono ?_;rintro e z3 ⟨v3,rfl,hk3,-,ho3⟩;obtain⟨sa,sc,rfl,hs3⟩:=ho3.shape;have x3:Ext u5 z3:=hk3.mono fun k _ h=>h.1;have Z3:=qH (show Ext W z3/\Ext w2 z3/\RowsIn _ z3 sa A from⟨Y5.out.trans x3,Y5k.out.trans x3,hs3⟩);clear hk3 ho3 hs3 x3;go_wp2_with fail
  refine(xD (HR.out.2 z3 Z3.out.2.1)).mono ?_;rintro e z4 ⟨v4,rfl,hk4,ho4⟩;obtain⟨ta,tc,rfl,hs4⟩:=ho4.shape;have hAl:=HAl.out;obtain⟨an,ean⟩:=nm A.length;rw [ean];have Z4:=qH (show Ext W z4/\Calls Tryz.prog 40 #[.slice sa an sc,.slice ta an tc] z4 (RetN z4 fun w' v=>v= .bool true)from⟨Z3.out.1.trans hk4,aBr ean.symm (Z3.out.2.2.ext hk4) hs4 (by omega)⟩);clear hk4 ho4 hs4 hAl ean;go_wp2_with fail
  refine Z4.out.2.mono ?_;rintro e z5 ⟨v,rfl,hk5,rfl⟩;have Z5:=qH (show Ext W z5 from Z4.out.1.trans hk5);obtain⟨-,-,-,d0',d1',d2',-,-,-⟩:=HK.out z5 Z5.out;clear hk5 d0 d1 d2;go_wp2_with fail
  refine(HPN.out z5 Z5.out).mono ?_;rintro e y1 ⟨v,rfl,hk,rfl⟩;have Z1:=qH (show Ext W y1 from(Z5.out).trans hk);clear hk;obtain⟨g0,g1,g2,-,-,-,-,-,-⟩:=HK.out y1 Z1.out;go_wp2_with fail
  refine(HRN.out y1 Z1.out).mono ?_;rintro e y2 ⟨v,rfl,hk,rfl⟩;have Z2:=qH (show Ext W y2 from Z1.out.trans hk);clear hk;go_wp2_with fail
  refine(lD (e2:Nat) y2).mono ?_;rintro e y3 ⟨v,rfl,hk,rfl⟩;have Z3:=qH (show Ext W y3 from Z2.out.trans hk);clear hk;go_wp2_with fail
  refine(kR y3).mono ?_;rintro e y4 ⟨v,rfl,hk,rfl⟩;have Z4:=qH (show Ext W y4 from Z3.out.trans hk);clear hk;go_wp2_with fail
  exact HQ.out _ _ Z4.out rfl
theorem uT{w W:World}{tmps:Array Value}{ds:List Deferred}{lo:Nat}(hm:Marks lo W ds)(hk:Ext w W)(hlo:w.heap.size≤lo)(h4:tmps.getD 4 undef= .bool true):
 bodyPostM Fence.wide 4 Tryz.prog Tryz.f8 (RetN w fun _ v=>v= .bool true) .ret {tmps:=tmps,defers:=ds} W:=by
 refine fJ hm fun w' e1 e2 e3 e4 e5 e6=>?_;have kx:Kp (fun k=>lo≤k/\¬fA W k) W w':=⟨e1,e2,e3,by omega,fun k hk hf=>by
  by_cases h:lo≤k
  ·by_cases h2:∃o:Obj,W.heap[k]?=some o/\o.isCells=true
   ·obtain⟨o,h2,h3⟩:=h2;rw [h2];exact e6 k o h2 h3
   ·exact absurd ⟨h,h2⟩ hf
  ·exact e5 k (by omega)⟩
 have hx:Ext w w':=hk.trans' kx fun i hi h=>absurd h.1 (by omega);refine⟨.bool true,?_,RetN.mk hx rfl⟩;have h4':tmps[4]?.getD undef= .bool true:=by simpa using h4
 simp [results,Tryz.f8,go_sem,h4']
noncomputable def yO:Code:=((Tryz.f8.body.bind cM).getD .skip)
set_option maxHeartbeats 4000000 in
theorem aG6{X:World}{gg l N:Nat}{xa:Option Addr}{V:List ByteArray}{v:Value}{vals:List Value}{M:Nat->Prop}{t:Array Value}{Qn:World->Prop}
 (h12:Blk X gg [v] 69)(hr:Row X 34 1 v N vals M)(hN:N≤1048576*1048576)
 (hz:t.size=159)(t12:t.getD 12 undef= .pointer (some ⟨gg,0,none⟩))(t14:t.getD 14 undef= .slice xa V.length V.length)
 (hQ:∀X' v',Kp (fun k=>k=gg\/v.ownBlock=some k) X X'->Blk X' gg [v'] 69->Row X' 34 1 v' (N+1) (vals++ [.slice xa V.length V.length]) (fun g=>v.ownBlock=some g\/X.heap.size≤g)->Qn X'):
 yO.wpIn (Fence.wide.inRound l) 2 Tryz.prog (fU Qn fun _=>False) {tmps:=t,defers:= []} X:=by
 obtain⟨u,hu,rfl⟩:=aL9 t hz;have e12:=(hu 12).symm.trans t12;have e14:=(hu 14).symm.trans t14;rw [e12,e14];clear hz t12 t14 e12 e14 hu;obtain⟨oa,oc,ev,_,_⟩:=hr.shape;subst ev;have HQ:=qH hQ;have H0:=qH (nIX h12 hr);have b0:=h12.c0;obtain⟨m,em⟩:=nm V.length;rw [em]at HQ ⊢;clear hQ h12 hr em;conv=>arg 4;whnf
 gi_wp2_with (first|(gi_at_builtin;refine Halted.out ?_))
 refine Halted.mk (aCv aHf rfl _ _ rfl (F:=fun k=>(Value.slice oa N oc).ownBlock=some k) (w0:=X) (M:=fun g=>(Value.slice oa N oc).ownBlock=some g\/X.heap.size≤g) ((Kp.refl X).alloc _) (fun g hg hlt2=>by rcases hg with hg|hg;exact hg;omega) (fun g hg=> .inr (by have h2:(X.alloc _).heap.size≤g:=hg;rw [aJ]at h2;omega)) rfl ((H0.out.2.alloc _).own.mono fun g hg=> .inl hg) rfl (m:=1) (by rfl) (CellsAt.one X (.slice xa m m) 34) (by simp [Value.oneCell']) (by omega) (by unfold maxLen;omega) ?_);intro v6 w6 hr6 hk6 hk6b _ _;have hB6:Blk w6 gg [.slice oa N oc] 69:=(H0.out.1.alloc _).kp hk6b fun hg=>by obtain⟨cs,hb⟩:=aV H0.out.2 hg;exact absurd (aQ hb H0.out.1) (by decide)
 have c6:=hB6.c0;have f6:=hB6.free 0;obtain⟨la,lcap,elv,_,_⟩:=hr6.shape;subst elv;have ks:Kp (fun k=>k=gg) w6 (w6.setCell ⟨gg,0,none⟩ (.slice la (N+1) lcap)):=kSa;have HF:=qH (HQ.out (w6.setCell ⟨gg,0,none⟩ (.slice la (N+1) lcap)) (.slice la (N+1) lcap) ((hk6.mono fun k _ h=>Or.inr h).trans (ks.mono fun k _ h=>Or.inl h)) (hB6.set 0 _) (by refine hr6.kp' ks fun g hg _ e2=>?_;obtain⟨cs,hb⟩:=aV hr6 hg;rw [show g=gg from e2]at hb;exact absurd (aQ hb hB6) (by decide)));clear hr6 hk6 hk6b b0 hB6 ks;gi_wp2;exact HF.out
end
section
open Go.RowKit
theorem aDo(S:Nat->Prop)(w:World)(hS:∀k,S k->k<w.heap.size):Calls Tryz.prog 112 #[] w (RetN w fun w' v=>v= .pointer (some ⟨w.heap.size,0,none⟩)/\RefB S w' w.heap.size []):=by go_enter Tryz.func112,Tryz.ntmps112;go_wp2;go_ret;refine RetN.mk ((Kp.refl w).alloc _) ⟨rfl,⟨none,0,none,0,Blk.new w [_,_] _,CellsAt.nil _ _,CellsAt.nil _ _,fun a e=>(by cases e),fun a e=>(by cases e),⟨Nat.le_refl _,by decide,.inl ⟨rfl,rfl⟩⟩,⟨Nat.le_refl _,by decide,.inl ⟨rfl,rfl⟩⟩⟩,fun g hg=>(by simp at hg),List.Pairwise.nil,fun h=>by have:=hS _ h;omega,fun g hg=>(by simp at hg),fun k hk=>by have h1:=hS k hk;show k< (w.heap.push _).size;simp;omega,by simp⟩
theorem jJ:cW Tryz.prog 202 85 1 8 (.pointer none):=⟨by kernel_rfl,by kernel_rfl,rfl,by decide⟩
theorem rQ(G:List REnt):∀u∈G.map REnt.ptr,u.oneCell'=true:=fun u hu=>by obtain⟨g,_,rfl⟩:=List.mem_map.1 hu;rfl
section
variable {S:Nat->Prop}{w w':World}{cb:Nat}{G:List REnt}
theorem RefB.place(hst:Strict mP (G.map REnt.name)){s:ByteArray}{i:Nat}(hi:i≤G.length)(h1:∀(j:Nat) (g:REnt),j<i->G[j]?=some g->Op.bytesLess g.name.toList s.toList=true)
 (h2:∀g,G[i]?=some g->Op.bytesLess g.name.toList s.toList=false):i=below mP (G.map REnt.name) s:=by
 refine hst.place sN (by simpa using hi) (fun y h0 hy=>?_) fun y hy=>?_
 ·rw [List.getElem?_map]at hy;obtain⟨g,hg,rfl⟩:=Option.map_eq_some_iff.1 hy;exact eI.2 (h1 (i-1) g (by omega) hg)
 ·rw [List.getElem?_map]at hy;obtain⟨g,hg,rfl⟩:=Option.map_eq_some_iff.1 hy;have:=h2 g hg;have h3:¬bE g.name.toList s.toList<0:=fun h=>by rw [eI.1 h]at this;cases this
  show 0≤bE g.name.toList s.toList;omega
theorem RefB.put(h:RefB S w cb G){g:REnt}{i:Nat}(hi:i=below mP (G.map REnt.name) g.name)(hr:RefRows S w g.c g.ar g.LL)(hoff:∀x∈G,x.c≠g.c)(hgb:g.c≠cb)(hl:G.length<4194304)
 (hk:Ext w w'){v1 v2:Value}(h1:Row w' 9 1 v1 (i+1+(G.length-i)) (((strs (G.map REnt.name)).take i++ [.string g.name])++(strs (G.map REnt.name)).drop i) (New w))(h2:Row w' 85 1 v2 (i+1+(G.length-i)) (((G.map REnt.ptr).take i++ [g.ptr])++(G.map REnt.ptr).drop i) (New w)):
 ∃S',Grows w S S'/\RefB S' ((w'.setCell ⟨cb,0,none⟩ v1).setCell ⟨cb,1,none⟩ v2) cb (eS REnt.name G g):=by
 have hil:i≤G.length:=by have:=below_le (c:=mP) (G.map REnt.name) g.name;rw [List.length_map]at this;omega
 have hlen:(eS REnt.name G g).length=G.length+1:=by rw [(fK REnt.name G g).length_eq];simp
 have e1:((strs (G.map REnt.name)).take i++ [Value.string g.name])++(strs (G.map REnt.name)).drop i=strs ((eS REnt.name G g).map REnt.name):=by unfold eS strs;rw [<-hi];simp [List.map_take,List.map_drop]
 have e2:((G.map REnt.ptr).take i++ [g.ptr])++(G.map REnt.ptr).drop i=(eS REnt.name G g).map REnt.ptr:=by unfold eS;rw [<-hi];simp [List.map_take,List.map_drop]
 have en:i+1+(G.length-i)=(eS REnt.name G g).length:=by rw [hlen];omega
 rw [e1,en]at h1;rw [e2,en]at h2;have hcb:cb<w.heap.size:=by obtain⟨na,nc,aa,ac,hB,_⟩:=h.blk;exact hB.lt
 obtain⟨na,nc,rfl,c1,f1,b1⟩:=h1.form;obtain⟨aa,ac,rfl,c2,f2,b2⟩:=h2.form;obtain⟨na0,nc0,aa0,ac0,hB,_⟩:=h.blk;have hk2:Kp (fun k=>k=cb) w ((w'.setCell ⟨cb,0,none⟩ (.slice na (eS REnt.name G g).length nc)).setCell ⟨cb,1,none⟩ (.slice aa (eS REnt.name G g).length ac)):=by refine((Ext.kp hk).setCell (F:=fun k=>k=cb) (p:=⟨cb,0,none⟩) (fun _=>rfl) _).setCell (p:=⟨cb,1,none⟩) (fun _=>rfl) _
 have hk3:Kp (fun k=>k=cb) w' ((w'.setCell ⟨cb,0,none⟩ (.slice na (eS REnt.name G g).length nc)).setCell ⟨cb,1,none⟩ (.slice aa (eS REnt.name G g).length ac)):=by refine((Kp.refl w').setCell (F:=fun k=>k=cb) (p:=⟨cb,0,none⟩) (fun _=>rfl) _).setCell (p:=⟨cb,1,none⟩) (fun _=>rfl) _
 have hB':=((hB.ext hk).set 0 (.slice na (eS REnt.name G g).length nc)).set 1 (.slice aa (eS REnt.name G g).length ac);have hz2:=hk2.size;have hz3:=hk3.size;generalize hW:(w'.setCell ⟨cb,0,none⟩ (.slice na (eS REnt.name G g).length nc)).setCell ⟨cb,1,none⟩ (.slice aa (eS REnt.name G g).length ac)=W at*;have hSn:∀k,k=cb->¬S k:=fun k e=>by subst e;exact h.notS
 refine⟨fun k=>S k\/ (w.heap.size≤k/\k<W.heap.size),⟨fun k h=> .inl h,fun k h=>h.imp id fun h=>h.1⟩,?_⟩;have hmem:∀x,x∈eS REnt.name G g↔x=g\/x∈G:=fun x=>by rw [(fK REnt.name G g).mem_iff];simp [or_comm]
 have hlt:∀x,x∈eS REnt.name G g->x.c<w.heap.size/\¬S x.c/\x.c≠cb/\RefRows S w x.c x.ar x.LL:=fun x hx=>by
  rcases(hmem x).1 hx with rfl|hx
  ·exact⟨hr.lt,hr.notS,hgb,hr⟩
  ·exact⟨(h.rows x hx).lt,(h.rows x hx).notS,h.off x hx,h.rows x hx⟩
 refine⟨⟨na,nc,aa,ac,by simpa using hB',c1.kp hk3 (fun a e f=>?_),c2.kp hk3 (fun a e f=>?_),fun a e=> .inr ⟨(b1 a e).1,Nat.lt_of_lt_of_le (b1 a e).2 hz3⟩,fun a e=> .inr ⟨(b2 a e).1,Nat.lt_of_lt_of_le (b2 a e).2 hz3⟩,f1,f2⟩,
  fun x hx=>?_,?_,?_,fun x hx=>(hlt x hx).2.2.1,fun k hk'=>?_,by rw [hlen];omega⟩
 ·have h9:w.heap.size≤a.block:=(b1 a e).1;have f9:a.block=cb:=f;omega
 ·have h9:w.heap.size≤a.block:=(b2 a e).1;have f9:a.block=cb:=f;omega
 ·obtain⟨p1,p2,p3,p4⟩:=hlt x hx;refine((p4.kp hk2 p3 fun k e=>hSn k e)).wide (fun k h=> .inl h) (fun h=>?_) fun k h=>?_
  ·rcases h with h|h
   ·exact p2 h
   ·omega
  ·rcases h with h|h
   ·have:=p4.inS k h;omega
   ·exact h.2
 ·refine(List.Perm.pairwise_iff (fun{a b} h=>Ne.symm h) (fK REnt.name G g)).2 ?_;refine List.pairwise_append.2 ⟨h.apart,List.pairwise_singleton _ _,fun a ha b hb=>?_⟩;rw [List.mem_singleton]at hb;subst hb;exact hoff a ha
 ·intro hc;rcases hc with hc|hc
  ·exact h.notS hc
  ·omega
 ·rcases hk' with hk'|hk'
  ·have:=h.inS k hk';omega
  ·exact hk'.2
set_option maxHeartbeats 4000000 in
theorem uC(h:RefB S w cb G)(hst:Strict mP (G.map REnt.name))(g:REnt)(hr:RefRows S w g.c g.ar g.LL)(hoff:∀x∈G,x.c≠g.c)(hgb:g.c≠cb)(hl:G.length<4194304):
 Calls Tryz.prog 144 #[.pointer (some ⟨cb,0,none⟩),.string g.name,g.ptr] w (RetF (fun k=>k=cb) w fun w' v=>∃S',Grows w S S'/\RefB S' w' cb (eS REnt.name G g)):=by
 have H:=qH (nIX h (nIX hst (nIX hr (nIX hoff (nIX hgb hl)))));obtain⟨na,nc,aa,ac,hB,hN,hA,_,_,⟨n1,n2,n3⟩,a1,a2,a3⟩:=h.blk;obtain⟨n,en⟩:=nm G.length;rw [en]at hB n1 a1 hl;obtain⟨s,es⟩:=nm g.name;obtain⟨c,ec⟩:=nm g.c;have ept:g.ptr= .pointer (some ⟨c,0,none⟩):=by rw [<-ec];rfl
 have c0:=hB.c0;have c1:=hB.c1;have HCell:=qH (fun w' (hw:Ext w w')=>(⟨hw.cell c0 id,hw.cell c1 id⟩:w'.cell? ⟨cb,0,none⟩=some (.slice na n nc)/\w'.cell? ⟨cb,1,none⟩=some (.slice aa n ac)));have HG:=qH (nIX en (nIX hN (nIX hA hB)));have HE:=qH (nIX es (nIX ec ept));rw [es,ept];have N3:=qH n3;have A3:=qH a3;unfold maxLen at n2 a2;clear h hst hr hoff hgb hB hN hA en es ec ept n3 a3;go_enter Tryz.func144,Tryz.ntmps144;go_wp2;go_loopw [8] (fun kv wr=>∃i:Nat,i≤n/\kv= .int .i64 i/\Hid (Ext w wr)/\Hid (∀(j:Nat) (x:REnt),j<i->G[j]?=some x->Op.bytesLess x.name.toList s.toList=true)) (fun k _=>n- (intOf k).toNat)
 case atStart=>exact⟨0,Nat.zero_le _,rfl,qH (Kp.refl _),qH fun j g hj=>by omega⟩
 case round=>
  obtain⟨i,hi,rfl,hex,hin⟩:=hrel;clear c0 c1;obtain⟨c0,c1⟩:=HCell.out wr hex.out;by_cases hgo:∃x,G[i]?=some x/\Op.bytesLess x.name.toList s.toList=true
  ·obtain⟨x,hx,q1⟩:=hgo;have hlt:i<n:=by rw [<-HG.out.1];exact(List.getElem?_eq_some_iff.1 hx).1
   obtain⟨nb,no,rfl,d0⟩:=HG.out.2.1 i (.string x.name) (by simp [strs,hx]);replace d0:=hex.out.cell d0 id;have HX:=qH (nIX hx q1);generalize x.name=xn at d0 q1;clear hx;go_wp2;go_roundw
   case rel=>exact⟨i+1,by omega,nMX,hex,qH fun j y hj hy=>by
    by_cases hji:j<i
    ·exact hin.out j y hji hy
    ·obtain rfl:j=i:=by omega
     rw [HX.out.1]at hy;cases hy;exact HX.out.2⟩
   case measure=>simp [intOf];omega
  ·have hbel:i=below mP (G.map REnt.name) s:=RefB.place H.out.2.1 (by rw [HG.out.1];exact hi) hin.out fun x hx=>by
    cases hb:Op.bytesLess x.name.toList s.toList with
    |false=>rfl
    |true=>exact absurd ⟨x,hx,hb⟩ hgo
   have HBel:=qH hbel;clear hbel;have hway:(∃(b:Bool) (x:ByteArray),b=true/\i<n/\(∃nb no,na=some ⟨nb,no,none⟩/\wr.cell? ⟨nb,no+i,none⟩=some (.string x))/\Op.bytesLess x.toList s.toList=false)\/i=n:=by
    by_cases hlt:i<n
    ·obtain⟨x,hx⟩:∃x,G[i]?=some x:=⟨_,qG (by rw [HG.out.1];exact hlt)⟩;obtain⟨nb,no,e,d0⟩:=HG.out.2.1 i (.string x.name) (by simp [strs,hx]);refine .inl ⟨true,x.name,rfl,hlt,⟨nb,no,e,hex.out.cell d0 id⟩,?_⟩;cases hb:Op.bytesLess x.name.toList s.toList with
     |false=>rfl
     |true=>exact absurd ⟨x,hx,hb⟩ hgo
    ·exact .inr (by omega)
   clear hgo hin;have HH:=qH (show(strs (G.map REnt.name)).length=n/\(G.map REnt.ptr).length=n from⟨by rw [eE,List.length_map,HG.out.1],by rw [List.length_map,HG.out.1]⟩);have hp0:(i:Int)≤(n:Int):=by omega
   have hp1:(i:Int)≤(nc:Int):=by omega
   have hp2:(i:Int)≤(ac:Int):=by omega
   have hne:=qH (show 9≠85 by decide);have HEX:=qH hex.out;rcases hway with⟨b0,x,_,hlt,⟨nb,no,e,d0⟩,q1⟩|hin'
   ·subst e;have hcn:¬nc=i:=by omega
    have hca:¬ac=i:=by omega
    rcases N3.out with⟨e,_⟩|⟨gn,e⟩
    ·cases e
    ·cases e;rcases A3.out with⟨e,e0⟩|⟨ga,e⟩
     ·omega
     ·subst e;rw [Nat.zero_add]at d0;go_wp2_with (first|(at_builtin;refine Halted.out ?_))
      refine Halted.mk (bO jY rfl _ _ rfl HEX.out rfl (Row.nil wr 9 1 (New w)) rfl ((HG.out.2.1.ext HEX.out).take' i) (by rw [List.length_take,HH.out.1];omega) (fun u hu=>gP _ u (List.mem_of_mem_take hu)) (by omega) (by unfold maxLen;omega) ?_);intro v1 w3 hr1 hk3 _ _;obtain⟨c0,c1⟩:=HCell.out w3 hk3;have HR1:=qH hr1;clear hr1;go_wp2_with (first|(at_builtin;refine Halted.out ?_))
      refine Halted.mk (bO jY rfl _ _ rfl (hk3.alloc (.cells #[.string s] 9)) rfl (HR1.out.alloc _) rfl (CellsAt.one w3 (.string s) 9) rfl (by simp;rfl) (by omega) (by unfold maxLen;omega) ?_);intro v2 w4 hr2 hk4 _ _;obtain⟨c0,c1⟩:=HCell.out w4 hk4;have HR2:=qH hr2;clear hr2;go_wp2_with (first|(at_builtin;refine Halted.out ?_))
      refine Halted.mk (bO jY rfl _ _ rfl hk4 rfl HR2.out rfl (news:=(strs (G.map REnt.name)).drop i) (by
       first
        |(have:=(HG.out.2.1.ext hk4).sub' i;rwa [Nat.zero_add]at this)
        |(rw [List.drop_of_length_le (by rw [HH.out.1];omega)];exact CellsAt.nil _ _)) (by rw [List.length_drop,HH.out.1];omega) (fun u hu=>gP _ u (List.mem_of_mem_drop hu)) (by omega) (by unfold maxLen;omega) ?_)
      intro v3 w5 hr3 hk5 _ _;obtain⟨c0,c1⟩:=HCell.out w5 hk5;have HR3:=qH hr3;clear hr3;go_wp2_with (first|(at_builtin;refine Halted.out ?_))
      refine Halted.mk (bO jJ rfl _ _ rfl hk5 rfl (Row.nil w5 85 1 (New w)) rfl ((HG.out.2.2.1.ext hk5).take' i) (by rw [List.length_take,HH.out.2];omega) (fun u hu=>rQ _ u (List.mem_of_mem_take hu)) (by omega) (by unfold maxLen;omega) ?_);intro u1 w6 hq1 hk6 hk6' _;obtain⟨c0,c1⟩:=HCell.out w6 hk6;have HQ1:=qH (nIX hq1 hk6');clear hq1 hk6';go_wp2_with (first|(at_builtin;refine Halted.out ?_))
      refine Halted.mk (bO jJ rfl _ _ rfl (hk6.alloc (.cells #[.pointer (some ⟨c,0,none⟩)] 85)) rfl (HQ1.out.1.alloc _) rfl (CellsAt.one w6 (.pointer (some ⟨c,0,none⟩)) 85) rfl (by simp;rfl) (by omega) (by unfold maxLen;omega) ?_);intro u2 w7 hq2 hk7 hk7' _;obtain⟨c0,c1⟩:=HCell.out w7 hk7;have HQ2:=qH (nIX hq2 hk7');clear hq2 hk7';go_wp2_with (first|(at_builtin;refine Halted.out ?_))
      refine Halted.mk (bO jJ rfl _ _ rfl hk7 rfl HQ2.out.1 rfl (news:=(G.map REnt.ptr).drop i) (by
       first
        |(have:=(HG.out.2.2.1.ext hk7).sub' i;rwa [Nat.zero_add]at this)
        |(rw [List.drop_of_length_le (by rw [HH.out.2];omega)];exact CellsAt.nil _ _)) (by rw [List.length_drop,HH.out.2];omega) (fun u hu=>rQ _ u (List.mem_of_mem_drop hu)) (by omega) (by unfold maxLen;omega) ?_)
      intro u3 w8 hq3 hk8 hk8' _;have HQ3:=qH (nIX hq3 hk8');clear hq3 hk8';obtain⟨a1',n1',p1',e1,_⟩:∃ao n cap,v3= .slice ao n cap/\True:=by obtain⟨ao,cap,e,_⟩:=HR3.out.shape;exact⟨_,_,_,e,trivial⟩
      obtain⟨a2',n2',p2',e2,_⟩:∃ao n cap,u3= .slice ao n cap/\True:=by obtain⟨ao,cap,e,_⟩:=HQ3.out.1.shape;exact⟨_,_,_,e,trivial⟩
      subst e1 e2;have f0:=(HG.out.2.2.2.ext hk8).free 0;have f1:=(HG.out.2.2.2.ext hk8).free 1;obtain⟨c0,c1⟩:=HCell.out w8 hk8;have HK8:=qH hk8;clear hk3 hk4 hk5 hk6 hk7 hk8;go_wp2
      go_end0
      have r1:=HR3.out.kp' HQ1.out.2 fun g hg _ hf=>by cases hf
      have r2:=r1.alloc (.cells #[.pointer (some ⟨c,0,none⟩)] 85);have r3:=r2.kp' HQ2.out.2 fun g hg _ hf=>r2.sort_ne (HQ1.out.1.alloc (.cells #[.pointer (some ⟨c,0,none⟩)] 85)) hne.out hg hf;have r4:=r3.kp' HQ3.out.2 fun g hg _ hf=>r3.sort_ne HQ2.out.1 hne.out hg hf;obtain⟨h1,h2,h3,h4,h5,h6⟩:=H.out;refine RetF.mk ((Ext.kp HK8.out).setCell (F:=fun k=>k=cb) (p:=⟨cb,0,none⟩) (fun _=>rfl) _|>.setCell (p:=⟨cb,1,none⟩) (fun _=>rfl) _) (h1.put (i:=i) (by rw [HE.out.1];exact HBel.out) h3 h4 h5 h6 HK8.out ?_ ?_)
      ·exact r4.cast' (by rw [HG.out.1];omega) (by rw [HE.out.1];simp)
      ·exact HQ3.out.1.cast' (by rw [HG.out.1];omega) (by rw [HE.out.2.2];simp)
   ·subst hin';rcases N3.out with⟨e,e0⟩|⟨gn,e⟩
    all_goals
     subst e;rcases A3.out with⟨e,e1⟩|⟨ga,e⟩
     all_goals
      subst e;by_cases hcn:nc=i
      all_goals
       first
        |(exfalso;omega)
        | (by_cases hca:ac=i
           all_goals
            first
             |(exfalso;omega)
             |skip)
    all_goals
     go_wp2_with (first|(at_builtin;refine Halted.out ?_))
     refine Halted.mk (bO jY rfl _ _ rfl HEX.out rfl (Row.nil wr 9 1 (New w)) rfl ((HG.out.2.1.ext HEX.out).take' i) (by rw [List.length_take,HH.out.1];omega) (fun u hu=>gP _ u (List.mem_of_mem_take hu)) (by omega) (by unfold maxLen;omega) ?_);intro v1 w3 hr1 hk3 _ _;obtain⟨c0,c1⟩:=HCell.out w3 hk3;have HR1:=qH hr1;clear hr1;go_wp2_with (first|(at_builtin;refine Halted.out ?_))
     refine Halted.mk (bO jY rfl _ _ rfl (hk3.alloc (.cells #[.string s] 9)) rfl (HR1.out.alloc _) rfl (CellsAt.one w3 (.string s) 9) rfl (by simp;rfl) (by omega) (by unfold maxLen;omega) ?_);intro v2 w4 hr2 hk4 _ _;obtain⟨c0,c1⟩:=HCell.out w4 hk4;have HR2:=qH hr2;clear hr2;go_wp2_with (first|(at_builtin;refine Halted.out ?_))
     refine Halted.mk (bO jY rfl _ _ rfl hk4 rfl HR2.out rfl (news:=(strs (G.map REnt.name)).drop i) (by
      first
       |(have:=(HG.out.2.1.ext hk4).sub' i;rwa [Nat.zero_add]at this)
       |(rw [List.drop_of_length_le (by rw [HH.out.1];omega)];exact CellsAt.nil _ _)) (by rw [List.length_drop,HH.out.1];omega) (fun u hu=>gP _ u (List.mem_of_mem_drop hu)) (by omega) (by unfold maxLen;omega) ?_)
     intro v3 w5 hr3 hk5 _ _;obtain⟨c0,c1⟩:=HCell.out w5 hk5;have HR3:=qH hr3;clear hr3;go_wp2_with (first|(at_builtin;refine Halted.out ?_))
     refine Halted.mk (bO jJ rfl _ _ rfl hk5 rfl (Row.nil w5 85 1 (New w)) rfl ((HG.out.2.2.1.ext hk5).take' i) (by rw [List.length_take,HH.out.2];omega) (fun u hu=>rQ _ u (List.mem_of_mem_take hu)) (by omega) (by unfold maxLen;omega) ?_);intro u1 w6 hq1 hk6 hk6' _;obtain⟨c0,c1⟩:=HCell.out w6 hk6;have HQ1:=qH (nIX hq1 hk6');clear hq1 hk6';go_wp2_with (first|(at_builtin;refine Halted.out ?_))
     refine Halted.mk (bO jJ rfl _ _ rfl (hk6.alloc (.cells #[.pointer (some ⟨c,0,none⟩)] 85)) rfl (HQ1.out.1.alloc _) rfl (CellsAt.one w6 (.pointer (some ⟨c,0,none⟩)) 85) rfl (by simp;rfl) (by omega) (by unfold maxLen;omega) ?_);intro u2 w7 hq2 hk7 hk7' _;obtain⟨c0,c1⟩:=HCell.out w7 hk7;have HQ2:=qH (nIX hq2 hk7');clear hq2 hk7';go_wp2_with (first|(at_builtin;refine Halted.out ?_))
     refine Halted.mk (bO jJ rfl _ _ rfl hk7 rfl HQ2.out.1 rfl (news:=(G.map REnt.ptr).drop i) (by
      first
       |(have:=(HG.out.2.2.1.ext hk7).sub' i;rwa [Nat.zero_add]at this)
       |(rw [List.drop_of_length_le (by rw [HH.out.2];omega)];exact CellsAt.nil _ _)) (by rw [List.length_drop,HH.out.2];omega) (fun u hu=>rQ _ u (List.mem_of_mem_drop hu)) (by omega) (by unfold maxLen;omega) ?_)
     intro u3 w8 hq3 hk8 hk8' _;have HQ3:=qH (nIX hq3 hk8');clear hq3 hk8';obtain⟨a1',n1',p1',e1,_⟩:∃ao n cap,v3= .slice ao n cap/\True:=by obtain⟨ao,cap,e,_⟩:=HR3.out.shape;exact⟨_,_,_,e,trivial⟩
     obtain⟨a2',n2',p2',e2,_⟩:∃ao n cap,u3= .slice ao n cap/\True:=by obtain⟨ao,cap,e,_⟩:=HQ3.out.1.shape;exact⟨_,_,_,e,trivial⟩
     subst e1 e2;have f0:=(HG.out.2.2.2.ext hk8).free 0;have f1:=(HG.out.2.2.2.ext hk8).free 1;obtain⟨c0,c1⟩:=HCell.out w8 hk8;have HK8:=qH hk8;clear hk3 hk4 hk5 hk6 hk7 hk8;go_wp2
     go_end0
     have r1:=HR3.out.kp' HQ1.out.2 fun g hg _ hf=>by cases hf
     have r2:=r1.alloc (.cells #[.pointer (some ⟨c,0,none⟩)] 85);have r3:=r2.kp' HQ2.out.2 fun g hg _ hf=>r2.sort_ne (HQ1.out.1.alloc (.cells #[.pointer (some ⟨c,0,none⟩)] 85)) hne.out hg hf;have r4:=r3.kp' HQ3.out.2 fun g hg _ hf=>r3.sort_ne HQ2.out.1 hne.out hg hf;obtain⟨h1,h2,h3,h4,h5,h6⟩:=H.out;refine RetF.mk ((Ext.kp HK8.out).setCell (F:=fun k=>k=cb) (p:=⟨cb,0,none⟩) (fun _=>rfl) _|>.setCell (p:=⟨cb,1,none⟩) (fun _=>rfl) _) (h1.put (i:=i) (by rw [HE.out.1];exact HBel.out) h3 h4 h5 h6 HK8.out ?_ ?_)
     ·exact r4.cast' (by rw [HG.out.1];omega) (by rw [HE.out.1];simp)
     ·exact HQ3.out.1.cast' (by rw [HG.out.1];omega) (by rw [HE.out.2.2];simp)
end
end
end Go.Proofs.YtinnmeiphbdogaaGreat
