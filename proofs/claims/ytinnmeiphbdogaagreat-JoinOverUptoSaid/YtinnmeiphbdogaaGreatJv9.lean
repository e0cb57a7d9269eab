/- Texts joined for a claim (RefFrom2, RefFirst, RefEach, RefBaseNil, RefBasePut, RefBaseAdd, RefBaseFrom, JBases, JOvP, JOvT, RefSize, JOv). -/
import Derived.Test.YtinnmeiphbdogaaGreatJv8
import Derived.StillTailTactics
import Derived.OwnWalk
set_option linter.unusedVariables false
set_option linter.unusedSimpArgs false
set_option maxRecDepth 100000
namespace Go.Proofs.YtinnmeiphbdogaaGreat
section
open Go.RowKit Go.Shelf
attribute [local go_sem] Oper.semAt_some
section
variable {w0:World}{ls:List aJ}{R:Nat->aD}{ba:Option Addr}{n bcap:Nat}{bo:Option Addr}{m bc:Nat}{gw:Nat}{p:ByteArray}{ha:Option Addr}{hn hc most:Nat}{l:aJ}{rest:List aJ}{i:Nat}
def aD4(w0:World)(ls:List aJ)(R:Nat->aD)(gw:Nat)(cs:List Value)(most:Nat)(rest:List aJ)(i:Nat):Prop:=
 ∀(e:bR) (W:World) (OUT:aD) (ov:Value) (na va:Option Addr) (k nc vc:Nat),FromOk ls R i e->k=e.1.length->CellsAt W na (strs e.1)->CellsAt W va (strs e.2)->(∀a,na=some a->¬xO gw ov a.block)->(∀a,va=some a->¬xO gw ov a.block)->WSt w0 W gw cs OUT ov->
  (OUT++bT ls R rest i e).length≤most->(OUT++bT ls R rest i e).length≤1048576->
  Calls Tryz.prog 116 #[.pointer (some ⟨gw,0,none⟩),.int .i64 i,.agg #[.slice na k nc,.slice va k vc]] W (RetF (xO gw ov) W fun W' v=>aMn w0 gw cs OUT ov (bT ls R rest i e) W W' v)
set_option maxHeartbeats 16000000 in
theorem aIt(hI:WIn w0 ls R ba n bcap bo m bc)(hl:ls[i]?=some l)(hk1:l.1≠1)(hC:aD4 w0 ls R gw (iX p ha hn hc ba n bcap bo m bc most) most rest (i+1)):aD4 w0 ls R gw (iX p ha hn hc ba n bcap bo m bc most) most (l::rest) i:=by
 intro e W OUT ov na va k nc vc hok hk h1 h2 hna hva hw hm hm2;have er:bT ls R (l::rest) i e=bT ls R rest (i+1) e:=by show(if l.1=1 then _ else _)=_;rw [if_neg hk1]
 rw [er]at hm hm2 ⊢;obtain⟨Gm,hGm⟩:=hI.gm;have hin:i<n:=by have:=(List.getElem?_eq_some_iff.1 hl).1;have:=hI.len;omega
 have hnf:=hI.few;have HC:=qH (fun(X:World) (hX:Ext W X)=>hC e X OUT ov na va k nc vc (hok.skip hl hk1) hk (h1.ext hX) (h2.ext hX) hna hva (hw.next hX) hm hm2);obtain⟨b,off,a2,cap2,eao,hG,hb,hL,c0,-⟩:=iC (hGm.ext hw.ext) hl;subst eao;obtain⟨kd,ekd⟩:=nm l.1;rw [ekd]at c0 hk1;obtain⟨be,ebe⟩:=nm W.heap.size;obtain⟨w1,e1⟩:=nm (W.alloc (.cells #[.slice na k nc,.slice va k vc] 111));have hB1:=bNX ebe e1;have hx1:Ext W w1:=xAX e1;have hbw:=hw.blk.ext hx1;unfold iX at hbw;have c2:=hbw.c2;have b0:=hB1.c0;have b1:=hB1.c1;replace c0:=hx1.cell c0 id;have t1:((i:Int)==(n:Int))=false:=by simp;omega
 have t2:(kd==1)=false:=by simp [hk1]
 have t3:(kd !=1)=true:=by simp [hk1]
 have t4:¬i=n:=by omega
 have H1:=qH hx1;clear hI hl hC hok hk h1 h2 hna hva hw hm hm2 er hGm hG hb hL ekd hB1 hx1 hbw hk1;go_enter Tryz.func116,Tryz.ntmps116;go_wp2_with fail
 clear e1 ebe;refine(HC.out w1 H1.out).mono ?_;rintro e' w2 ⟨v,rfl,hk2,rfl,ov',hw2,hn2⟩;have H2:=qH (nIX hk2 (nIX hw2 hn2));clear hk2 hw2 hn2 c0 b0 b1 c2;go_wp2;go_ret;exact RetF.mk ((Ext.kp H1.out).trans H2.out.1) ⟨rfl,ov',H2.out.2.1,fun g hg=>(H2.out.2.2 g hg).imp id fun h=>Nat.le_trans H1.out.size h⟩
theorem aFn{f:List ByteArray->aD}{L:aD}{j:Nat}{q:List ByteArray}(h:L[j]?=some q):(L.take (j+1)).flatMap f=(L.take j).flatMap f++f q:=by rw [List.take_add_one,h];simp
theorem aIv(f:List ByteArray->aD)(L:aD)(j:Nat):((L.take j).flatMap f).length≤(L.flatMap f).length:=by
 have h:(L.flatMap f).length=((L.take j).flatMap f).length+((L.drop j).flatMap f).length:=by rw [<-List.length_append,<-List.flatMap_append,List.take_append_drop]
 omega
def EachC(w0 w7:World)(gw:Nat)(cs:List Value)(OUT:aD)(ov:Value)(f:List ByteArray->aD)(Lq:aD)(N:Nat)(jv:Value)(W:World):Prop:=
 ∃j:Nat,j≤N/\jv= .int .i64 j/\∃ovj,Hid (WSt w0 W gw cs (OUT++(Lq.take j).flatMap f) ovj)/\Hid (Kp (xO gw ov) w7 W)/\Hid (∀g,ovj.ownBlock=some g->ov.ownBlock=some g\/w7.heap.size≤g)
set_option maxHeartbeats 16000000 in
theorem aKv(hI:WIn w0 ls R ba n bcap bo m bc)(hl:ls[i]?=some l)(hk1:l.1=1)(hC:aD4 w0 ls R gw (iX p ha hn hc ba n bcap bo m bc most) most rest (i+1)):aD4 w0 ls R gw (iX p ha hn hc ba n bcap bo m bc most) most (l::rest) i:=by
 intro e W OUT ov na va k nc vc hok hk h1 h2 hna hva hw hm hm2;obtain⟨F,eF⟩:=nm (bZ e.1 (aA l));obtain⟨Lq,eLq⟩:=nm (bD e (aA l) (bL (aA l) (R i)));have er:bT ls R (l::rest) i e=Lq.flatMap fun q=>bT ls R rest (i+1) (F,q):=by show(if l.1=1 then _ else _)=_;rw [if_pos hk1,eF,eLq]
 rw [er]at hm hm2 ⊢;have hFn:F=aC (ls.take (i+1)):=by rw [<-eF,hok.names,gD hl];unfold bK;rw [if_pos hk1]
 have hEach:=fun q (hq:q∈Lq)=>hok.each hl hk1 (fun x=>gB x) (by rw [eLq];exact hq);rw [<-hFn]at hEach;obtain⟨Gm,hGm⟩:=hI.gm;obtain⟨bvs,hbc,hbl,hbs⟩:=hI.bvs;obtain⟨S,G,hB,eR⟩:=hbs i l hl;have hin:i<n:=by have:=(List.getElem?_eq_some_iff.1 hl).1;have:=hI.len;omega
 have hnf:=hI.few;obtain⟨bv,ebv⟩:=nm (bvs.getD i (.pointer none));rw [ebv]at hB;have HBs:=qH (fun(X:World) (hX:Ext W X)=>kR bvs bo m bc i X hbl (hbc.ext (hw.ext.trans hX)) hI.mfew (by omega));rw [ebv]at HBs;obtain⟨b,off,a2,cap2,eao,hG,hb,hL,c0,c1,d2',-⟩:=iC (hGm.ext hw.ext) hl;subst eao;rw [hk1]at c0;obtain⟨lp,elp⟩:=nm (bC l);obtain⟨tn,etn⟩:=nm ((aA l).length);rw [elp]at c1 eR;rw [etn]at d2';have HRo:=qH (fun(X:World) (hX:Ext W X)=>mW (hB.ext (hw.ext.trans hX)) lp (aA l) a2 tn cap2 etn.symm);rw [<-eR]at HRo;have HUn:=qH (fun(X:World) (hX:Ext W X) (ra:Option Addr) (rc:Nat) (hR:RowsIn (New W) X ra (bL (aA l) (R i))) (hRl:(bL (aA l) (R i)).length≤1048576*1048576)=>xX e lp (aA l) _ na va a2 ra k nc vc tn cap2 _ rc X Gm (New W) hok.ok hk (h1.ext hX) (h2.ext hX) etn.symm (hL.terms.ext hX) rfl hR (fun x hx=>by rw [<-etn];exact((gB x).1 hx).2) (by have h3:=hI.terms l (List.mem_of_getElem? hl);have h4:=rQ ls i;rw [hk,hok.names];omega) hRl);rw [eF,eLq]at HUn;have HLl:=qH (show Lq.length≤(bL (aA l) (R i)).length from by rw [<-eLq];exact uL _ _ _);have HW:=qH (nIX hw (nIX hm (nIX hm2 (nIX hEach (nIX hC etn)))));obtain⟨be,ebe⟩:=nm W.heap.size;obtain⟨w1,e1⟩:=nm (W.alloc (.cells #[.slice na k nc,.slice va k vc] 111));have hB1:=bNX ebe e1;have hx1:Ext W w1:=xAX e1;have hbw:=hw.blk.ext hx1;unfold iX at hbw;have c2:=hbw.c2;replace c0:=hx1.cell c0 id;replace c1:=hx1.cell c1 id;replace d2':=hx1.cell d2' id;have t1:((i:Int)==(n:Int))=false:=by simp;omega
 have t4:¬i=n:=by omega
 obtain⟨gA,egA⟩:=nm w1.heap.size;obtain⟨w2,e2⟩:=nm (w1.alloc (.cells #[.string lp,.slice a2 tn cap2] 24));have hB2:=bNX egA e2;have hx2:Ext w1 w2:=xAX e2;have H1:=qH (show Ext W w2/\W.heap.size≤gA from⟨hx1.trans hx2,by rw [<-egA];exact hx1.size⟩);have HJ:=qH (show ∀X,Ext w2 X->(fun X:World=>X.cell? ⟨gA,0,none⟩=some (.string lp)/\X.cell? ⟨gA,1,none⟩=some (.slice a2 tn cap2)/\X.cell? ⟨gw,3,none⟩=some (.slice bo m bc)/\X.cell? ⟨be,0,none⟩=some (.slice na k nc)/\X.cell? ⟨be,1,none⟩=some (.slice va k vc)) X from fun X hX=>⟨by rw [(hB2.ext hX).cell'];rfl,by rw [(hB2.ext hX).cell'];rfl,by rw [(hbw.ext (hx2.trans hX)).cell'];rfl,by rw [(hB1.ext (hx2.trans hX)).cell'];rfl,by rw [(hB1.ext (hx2.trans hX)).cell'];rfl⟩);clear hI hl hC hok hk h1 h2 hna hva hw hm hm2 er hGm hG hb hL hB1 hx1 hbw hk1 hbc hbl hbs hB ebv elp etn eR hEach eF eLq hFn hB2 hx2;go_enter Tryz.func116,Tryz.ntmps116;go_wp2;clear e1 ebe e2 egA;refine aY (fun X:World=>X.cell? ⟨gA,0,none⟩=some (.string lp)/\X.cell? ⟨gA,1,none⟩=some (.slice a2 tn cap2)/\X.cell? ⟨gw,3,none⟩=some (.slice bo m bc)/\X.cell? ⟨be,0,none⟩=some (.slice na k nc)/\X.cell? ⟨be,1,none⟩=some (.slice va k vc)) [] (by kernel_rfl) (HJ.out _ (Kp.refl w2).drew) (fun hHeld=>?_);refine eIX 0 ?_;refine eIX 1 ?_;refine eFX 2 ?_;refine eFX 3 ?_;refine eFX 4 ?_;refine eIX 5 ?_;refine eFX 6 ?_;refine eIX 9 ?_;refine eTX 7 fun K hK=>?_;go_simp
 (refine(HBs.out _ (H1.out.1.trans (Kp.refl w2).drew)).mono ?_;rintro e w5 ⟨rfl,rfl⟩)
 go_wp2_with fail
 refine hK.out _ _ (HJ.out _ (Kp.refl w2).drew) fun hHeld=>?_;clear hK K;refine eTX 8 fun K hK=>?_;go_simp
 (refine(HRo.out _ (H1.out.1.trans (Kp.refl w2).drew)).mono ?_;rintro e w6 ⟨v6,rfl,hk6,qo,qc,rfl,hR,hRl⟩;have X6:=qH (show Ext w2 w6 from(Kp.refl w2).drew.trans hk6);have HR6:=qH (show RowsIn (New W) w6 qo (bL (aA l) (R i))/\(bL (aA l) (R i)).length≤1048576*1048576 from⟨hR.mono fun g hg=>Nat.le_trans H1.out.1.size hg,hRl⟩);clear hk6 hR hRl)
 go_wp2_with fail
 refine hK.out _ _ (HJ.out _ X6.out) fun hHeld=>?_;clear hK K;refine eTX 10 fun K hK=>?_;go_simp
 (refine(HUn.out w6 (H1.out.1.trans X6.out) qo qc HR6.out.1 HR6.out.2).mono ?_;rintro e w7 ⟨v7,rfl,hk7,hE⟩;have X7:=qH (show Ext w2 w7 from X6.out.trans hk7);obtain⟨eo,ec,ps,rfl,hE1,hE2,hE3,hE4⟩:=hE;have HE7:=qH (show aLk w6.heap.size w7 F (.slice eo ps.length ec) Lq/\ps.map Prod.snd=Lq from⟨⟨eo,ec,ps,rfl,hE1,hE2,hE3,hE4⟩,hE1⟩);have HS6:=qH (nIX X6.out.size (nIX hk7.size (nIX hE2 (nIX hE3 hE4))));clear hk7 hE1 hE2 hE3 hE4)
 go_wp2_with fail
 refine hK.out _ _ (HJ.out _ X7.out) fun hHeld=>?_;clear hK K;refine eFX 11 ?_;refine aL (by kernel_rfl) ?_ _;clear hHeld;have hpl:ps.length≤1048576*1048576:=by have h1:=HLl.out;rw [<-HE7.out.2,List.length_map]at h1;exact Nat.le_trans h1 HR6.out.2
 go_wp2;go_loopw [11] (fun jv W'=>EachC w0 w7 gw (iX p ha hn hc (some ⟨b,off,none⟩) n bcap bo m bc most) OUT ov (fun q=>bT ls R rest (i+1) (F,q)) Lq ps.length jv W') (fun jv _=>ps.length- (intOf jv).toNat)
 case atStart=>exact⟨0,Nat.zero_le _,rfl,ov,qH (by
  have h:=HW.out.1.next (H1.out.1.trans X7.out)
  simpa using h),qH (Kp.refl _),qH fun g hg=> .inl hg⟩
 case round=>
  obtain⟨j,hj,rfl,ovj,hwj,hkj,hoj⟩:=hrel;by_cases hlt:j<ps.length
  ·obtain⟨q,hq⟩:∃q,ps[j]?=some q:=⟨_,qG hlt⟩;have hoff:=HW.out.1.off;have hszW:=H1.out.1.size;have hP:∀g,w6.heap.size≤g->¬xO gw ov g:=fun g hg ho=>by
    have:=(hoff g ho).2;have:=HS6.out.1;omega
   have hLq:Lq[j]?=some q.2:=by rw [<-HE7.out.2,List.getElem?_map,hq];rfl
   have hcq:=HS6.out.2.2.1.kp hkj.out fun a e ho=>hP _ (HS6.out.2.2.2.1 a e) ho;obtain⟨q1,q2,q3,q4,q5⟩:=HS6.out.2.2.2.2 q (List.mem_of_getElem? hq);have hsp:∀c u,(rW F.length q)[c]?=some u->c<2->(ps.flatMap (rW F.length))[j*2+c]?=some u:=fun c u hu hc=>(flat_get (rW F.length) 2 (qR F.length) ps j q c hq hc).trans hu;obtain⟨pb,po,ep,u0⟩:=hcq (j*2+0) (.slice q.1.1 F.length q.1.2.1) (hsp 0 _ rfl (by decide));obtain⟨pb',po',ep',u1⟩:=hcq (j*2+1) (.slice q.1.2.2.1 F.length q.1.2.2.2) (hsp 1 _ rfl (by decide));rw [ep]at ep';obtain⟨rfl,rfl⟩:pb=pb'/\po=po':=by simpa using ep'
   subst ep;replace u0:wr.cell? ⟨pb,po+j*2,none⟩=some (.slice q.1.1 F.length q.1.2.1):=u0;replace u1:wr.cell? ⟨pb,po+j*2+1,none⟩=some (.slice q.1.2.2.1 F.length q.1.2.2.2):=u1;have hon:∀a:Addr,(w6.heap.size≤a.block/\a.block<w7.heap.size)->¬xO gw ovj a.block:=fun a ha ho=>by
    rcases ho with ho|ho
    ·exact hP _ ha.1 (.inl ho)
    ·rcases hoj.out _ ho with h|h
     ·exact hP _ ha.1 (.inr h)
     ·omega
   have hft:=aFn (f:=fun q=>bT ls R rest (i+1) (F,q)) hLq;have hfp:=aIv (fun q=>bT ls R rest (i+1) (F,q)) Lq (j+1);rw [hft]at hfp;have hmm1:=HW.out.2.1;have hmm2:=HW.out.2.2.1;simp only [List.length_append]at hfp hmm1 hmm2;have HCl:=qH (HW.out.2.2.2.2.1 (F,q.2) wr _ ovj q.1.1 q.1.2.2.1 F.length q.1.2.1 q.1.2.2.2 (HW.out.2.2.2.1 q.2 (List.mem_of_getElem? hLq)).1 rfl (q1.kp hkj.out fun a e ho=>hP _ (q4 a e).1 ho) (q2.kp hkj.out fun a e ho=>hP _ (q5 a e).1 ho) (fun a e=>hon a (q4 a e)) (fun a e=>hon a (q5 a e)) hwj.out (by simp only [List.length_append];omega) (by simp only [List.length_append];omega));have HFt:=qH hft;clear hoff hszW hP hLq hcq q1 q2 q3 q4 q5 hsp hon hft hfp hmm1 hmm2 hq;go_wp2_with fail
   refine HCl.out.mono ?_;rintro e w8 ⟨v8,rfl,hk8,rfl,ov8,hw8,hn8⟩;have HZ:=qH (show WSt w0 w8 gw (iX p ha hn hc (some ⟨b,off,none⟩) n bcap bo m bc most) (OUT++(Lq.take (j+1)).flatMap fun q=>bT ls R rest (i+1) (F,q)) ov8/\Kp (xO gw ov) w7 w8/\∀g,ov8.ownBlock=some g->ov.ownBlock=some g\/w7.heap.size≤g from⟨by rw [HFt.out,<-List.append_assoc];exact hw8,hkj.out.trans' hk8 fun g hg ho=>by
    rcases ho with ho|ho
    ·exact .inl ho
    ·rcases hoj.out _ ho with h|h
     ·exact .inr h
     ·omega,fun g hg=>by
    rcases hn8 g hg with h|h
    ·exact hoj.out g h
    ·exact .inr (Nat.le_trans hkj.out.size h)⟩)
   clear hk8 hw8 hn8;go_wp2;go_roundw
   case rel=>exact⟨j+1,by omega,nMX,ov8,qH HZ.out.1,qH HZ.out.2.1,qH HZ.out.2.2⟩
   case measure=>simp [intOf];omega
  ·obtain rfl:j=ps.length:=by omega
   have HT:=qH (show Lq.take ps.length=Lq from List.take_of_length_le (by rw [<-HE7.out.2,List.length_map];exact Nat.le_refl _));rw [HT.out]at hwj;go_wp2;go_ret;exact RetF.mk ((Ext.kp (H1.out.1.trans X7.out)).trans hkj.out) ⟨rfl,ovj,hwj.out,fun g hg=>(hoj.out g hg).imp id fun h=>Nat.le_trans (H1.out.1.trans X7.out).size h⟩
end
theorem zF{w0:World}{ls:List aJ}{R:Nat->aD}{ba:Option Addr}{n bcap:Nat}{bo:Option Addr}{m bc:Nat}{gw:Nat}{p:ByteArray}{ha:Option Addr}{hn hc most:Nat}(hI:WIn w0 ls R ba n bcap bo m bc)(hmm:most≤4611686018427387904):
 ∀(rest:List aJ) (i:Nat),ls.drop i=rest->i≤ls.length->aD4 w0 ls R gw (iX p ha hn hc ba n bcap bo m bc most) most rest i
 | [],i,hd,hi=>by
  have hil:n=i:=by have h1:=congrArg List.length hd;rw [List.length_drop]at h1;have h2:=hI.len;simp at h1;omega
  subst hil;intro e W OUT ov na va k nc vc hok hk h1 h2 hna hva hw hm hm2;exact aKw hI hok hk h1 h2 hw hm hmm (by rw [List.length_append]at hm2;omega)
 |l::rest,i,hd,hi=>by
  have hl:ls[i]?=some l:=by
   have:(ls.drop i)[0]?=some l:=by rw [hd];rfl
   rw [List.getElem?_drop]at this;exact this
  have hil:=(List.getElem?_eq_some_iff.1 hl).1;have hd2:ls.drop (i+1)=rest:=by have:=congrArg (List.drop 1) hd;rw [List.drop_drop]at this;exact this
  have hC:=zF (gw:=gw) (p:=p) (ha:=ha) (hn:=hn) (hc:=hc) hI hmm rest (i+1) hd2 hil;by_cases hk:l.1=1
  ·exact aKv hI hl hk hC
  ·exact aIt hI hl hk hC
theorem WIn.ext{w w':World}{ls:List aJ}{R:Nat->aD}{ba:Option Addr}{n bcap:Nat}{bo:Option Addr}{m bc:Nat}(h:WIn w ls R ba n bcap bo m bc)(hx:Ext w w'):WIn w' ls R ba n bcap bo m bc:=by obtain⟨⟨Gm,h1⟩,h2,h3,⟨bvs,h4,h5,h6⟩,h7,h8,h9⟩:=h;exact⟨⟨Gm,h1.ext hx⟩,h2,h3,⟨bvs,h4.ext hx,h5,fun i l hl=>by obtain⟨S,G,hB,e⟩:=h6 i l hl;exact⟨S,G,hB.ext hx,e⟩⟩,h7,h8,h9⟩
def eU(r:dC)(R:Nat->aD):aD:=if bG r=0 then aG6 r R else []
def aNi(lo:Nat)(L:aD)(w':World)(v:Value):Prop:=∃ov,v= .tuple #[ov,.bool true]/\OwnRows lo w' ov L
section
variable {w:World}{p:ByteArray}{hs:List aE}{ls:List aJ}{ha ba bo:Option Addr}{hn hcap n bcap m bc most:Nat}{G:Nat->Prop}{R:Nat->aD}
set_option maxHeartbeats 4000000 in
theorem aAo(hhn:hn=hs.length)(hh:aR w G ha hs)(hhl:hn≤1048576)(h:cD w G ba ls)(hf:Fit ls)(hI:WIn w ls R ba n bcap bo m bc)(hm:(eU ((p,hs,()),ls,()) R).length≤most)(hmm:most≤4611686018427387904)(hO:(eU ((p,hs,()),ls,()) R).length≤1048576):
 Calls Tryz.prog 80 #[dS p ha hn hcap ba n bcap,.slice bo m bc,.int .i64 most] w (RetN w fun w' v=>aNi w.heap.size (eU ((p,hs,()),ls,()) R) w' v):=by
 have HCh:=qH (fun W (hW:Ext w W)=>aAp p hs ls ha hn hcap ba n bcap W G hhn (hh.ext hW) hhl hI.len (h.ext hW) hf);obtain⟨cR,ecR⟩:=nm (bG ((p,hs,()),ls,()));rw [ecR]at HCh;obtain⟨w0,e0⟩:=nm (w.alloc (.cells #[.string p,.slice ha hn hcap,.slice ba n bcap] 27));have x0:Ext w w0:=xAX e0;have hB0:Blk w0 w.heap.size [.string p,.slice ha hn hcap,.slice ba n bcap] 27:=by rw [<-e0];exact Blk.new w _ _
 have s0:=x0.size;obtain⟨gb,egb⟩:=nm w.heap.size;obtain⟨gw,egw⟩:=nm w0.heap.size;obtain⟨w1,e1⟩:=nm (w0.alloc (.cells #[.string p,.slice ha hn hcap,.slice ba n bcap,.slice bo m bc,.int .i64 most,.slice none 0 0] 166));have x01:Ext w0 w1:=xAX e1;have x1:Ext w w1:=x0.trans x01;have r0:w0.cell? ⟨gb,0,none⟩=some (.string p):=by rw [<-egb,hB0.cell'];rfl
 have r1:w0.cell? ⟨gb,1,none⟩=some (.slice ha hn hcap):=by rw [<-egb,hB0.cell'];rfl
 have r2:w0.cell? ⟨gb,2,none⟩=some (.slice ba n bcap):=by rw [<-egb,hB0.cell'];rfl
 have q0:=x01.cell r0 id;have q1:=x01.cell r1 id;have q2:=x01.cell r2 id;have hB1:Blk w1 gw (iX p ha hn hcap ba n bcap bo m bc most++ [.slice none 0 0]) 166:=by rw [<-e1,<-egw];exact Blk.new w0 _ _
 have HSt:=qH (fun W (hW:Ext w1 W)=>show WSt w W gw (iX p ha hn hcap ba n bcap bo m bc most) [] (.slice none 0 0)from⟨x1.trans hW,hB1.ext hW,by rw [<-egw];exact s0,OwnRows.nil _ _⟩);have HFr:=qH (fun W (hW:Ext w1 W) (hc:cR=0)=>zF hI hmm ls 0 rfl (Nat.zero_le _) ([],[]) W [] (.slice none 0 0) none none 0 0 0 (FromOk.start _ _) rfl (CellsAt.nil _ _) (CellsAt.nil _ _) (by simp) (by simp) (HSt.out W hW) (by
  have e:eU ((p,hs,()),ls,()) R=bT ls R ls 0 ([],[]):=if_pos (ecR.trans hc);rw [e]at hm;simpa using hm) (by
  have e:eU ((p,hs,()),ls,()) R=bT ls R ls 0 ([],[]):=if_pos (ecR.trans hc);rw [e]at hO;simpa using hO))
 have HB:=qH (show(cR=0->eU ((p,hs,()),ls,()) R=bT ls R ls 0 ([],[]))/\(cR≠0->eU ((p,hs,()),ls,()) R= [])from⟨fun hc=>if_pos (ecR.trans hc),fun hc=>if_neg fun h=>hc (ecR.symm.trans h)⟩);have H1:=qH (nIX x1 hB1);generalize eU ((p,hs,()),ls,()) R=L at HB hm hO ⊢;clear hhn hh hhl h hf hI hm hO x0 x01 x1 hB0 hB1 ecR s0;go_enter Tryz.func80,Tryz.ntmps80;go_wp2_with fail
 clear e0 e1 egb egw r0 r1 r2;refine(HCh.out w1 H1.out.1).mono ?_;rintro e w2 ⟨v2,rfl,hk2,rfl⟩;have H2:=qH hk2;have c5:=(H1.out.2.ext hk2).c5;clear hk2 q0 q1 q2;by_cases hc:cR=0
 ·have hL:=HB.out.1 hc;have HF:=qH (HFr.out w2 H2.out hc);rw [<-hL]at HF;have hc':((cR:Int)==0)=true:=by simp;omega
  have hc2:((cR:Int) !=0)=false:=by simp;omega
  clear hL hc c5;go_wp2_with fail
  refine HF.out.mono ?_;rintro e w3 ⟨v3,rfl,hk3,rfl,ov,hw3,-⟩;obtain⟨oa,oc,eov,_⟩:=hw3.out.shape;subst eov;have H3:=qH hw3;have c5:=hw3.blk.c5;clear hk3 hw3;go_wp2;go_ret2;exact RetN.mk H3.out.ext ⟨_,rfl,H3.out.out⟩
 ·have hL:=HB.out.2 hc;subst hL;have hc':((cR:Int)==0)=false:=by simp;omega
  have hc2:((cR:Int) !=0)=true:=by simp;omega
  clear hc;go_wp2;go_ret2;exact RetN.mk (H1.out.1.trans H2.out) ⟨_,rfl,OwnRows.nil _ _⟩
set_option maxHeartbeats 4000000 in
theorem aCa(hhn:hn=hs.length)(hh:aR w G ha hs)(hhl:hn≤1048576)(h:cD w G ba ls)(hf:Fit ls)(hI:WIn w ls R ba n bcap bo m bc)(hO:(eU ((p,hs,()),ls,()) R).length≤1048576):
 Calls Tryz.prog 38 #[dS p ha hn hcap ba n bcap,.slice bo m bc] w (RetN w fun w' v=>OwnRows w.heap.size w' v (eU ((p,hs,()),ls,()) R)):=by
 have HF:=qH (fun W (hW:Ext w W)=>aAo (w:=W) (p:=p) (hcap:=hcap) (most:=4611686018427387904) hhn (hh.ext hW) hhl (h.ext hW) hf (hI.ext hW) (by omega) (Nat.le_refl _) hO);generalize eU ((p,hs,()),ls,()) R=L at HF ⊢;clear hhn hh hhl h hf hI hO;go_enter Tryz.func38,Tryz.ntmps38;go_wp2_with fail
 refine(HF.out _ ((Kp.refl w).alloc _)).mono ?_;rintro e w1 ⟨v1,rfl,hk1,ov,rfl,ho⟩;obtain⟨oa,oc,eov,_⟩:=ho.shape;subst eov;have H1:=qH (show Ext w w1/\OwnRows w.heap.size w1 (.slice oa L.length oc) L from⟨((Kp.refl w).alloc _).trans hk1,ho.mono ((Kp.refl (F:=fun _=>False) w).alloc _).size⟩);clear hk1 ho;go_wp2;go_ret;exact RetN.mk H1.out.1 H1.out.2
end
theorem aLt{G:List REnt}{C:List bA}(h:SameC (bB G) C)(s:ByteArray):kU G s=bO C s:=by unfold kU bO;rw [<-h s,pK];cases dN G s<;>rfl
theorem aFy:cL Tryz.prog 65 84 1 8 (.pointer none):=⟨by kernel_rfl,by kernel_rfl,rfl,by decide⟩
section
variable {S:Nat->Prop}{w:World}{p:ByteArray}{hs:List aE}{ls:List aJ}{ha ba:Option Addr}{hn hcap n bcap:Nat}{G:Nat->Prop}{C:List bA}{Gr:List REnt}{o:Option Addr}
end
end
section
open Go.RowKit
theorem aCc(S:Nat->Prop)(w:World)(hS:∀k,S k->k<w.heap.size):Calls Tryz.prog 112 #[] w (RetN w fun w' v=>v= .pointer (some ⟨w.heap.size,0,none⟩)/\RefB S w' w.heap.size []):=by go_enter Tryz.func112,Tryz.ntmps112;go_wp2;go_ret;refine RetN.mk ((Kp.refl w).alloc _) ⟨rfl,⟨none,0,none,0,Blk.new w [_,_] _,CellsAt.nil _ _,CellsAt.nil _ _,fun a e=>(by cases e),fun a e=>(by cases e),⟨Nat.le_refl _,by decide,.inl ⟨rfl,rfl⟩⟩,⟨Nat.le_refl _,by decide,.inl ⟨rfl,rfl⟩⟩⟩,fun g hg=>(by simp at hg),List.Pairwise.nil,fun h=>by have:=hS _ h;omega,fun g hg=>(by simp at hg),fun k hk=>by have h1:=hS k hk;show k< (w.heap.push _).size;simp;omega,by simp⟩
theorem jF:cL Tryz.prog 202 85 1 8 (.pointer none):=⟨by kernel_rfl,by kernel_rfl,rfl,by decide⟩
theorem pZ(G:List REnt):∀u∈G.map REnt.ptr,u.oneCell'=true:=fun u hu=>by obtain⟨g,_,rfl⟩:=List.mem_map.1 hu;rfl
section
variable {S:Nat->Prop}{w w':World}{cb:Nat}{G:List REnt}
theorem RefB.place(hst:Strict mB (G.map REnt.name)){s:ByteArray}{i:Nat}(hi:i≤G.length)(h1:∀(j:Nat) (g:REnt),j<i->G[j]?=some g->Op.bytesLess g.name.toList s.toList=true)
 (h2:∀g,G[i]?=some g->Op.bytesLess g.name.toList s.toList=false):i=below mB (G.map REnt.name) s:=by
 refine hst.place qU (by simpa using hi) (fun y h0 hy=>?_) fun y hy=>?_
 ·rw [List.getElem?_map]at hy;obtain⟨g,hg,rfl⟩:=Option.map_eq_some_iff.1 hy;exact dY.2 (h1 (i-1) g (by omega) hg)
 ·rw [List.getElem?_map]at hy;obtain⟨g,hg,rfl⟩:=Option.map_eq_some_iff.1 hy;have:=h2 g hg;have h3:¬aZ g.name.toList s.toList<0:=fun h=>by rw [dY.1 h]at this;cases this
  show 0≤aZ g.name.toList s.toList;omega
theorem RefB.put(h:RefB S w cb G){g:REnt}{i:Nat}(hi:i=below mB (G.map REnt.name) g.name)(hr:RefRows S w g.c g.ar g.LL)(hoff:∀x∈G,x.c≠g.c)(hgb:g.c≠cb)(hl:G.length<4194304)
 (hk:Ext w w'){v1 v2:Value}(h1:Row w' 9 1 v1 (i+1+(G.length-i)) (((strs (G.map REnt.name)).take i++ [.string g.name])++(strs (G.map REnt.name)).drop i) (New w))(h2:Row w' 85 1 v2 (i+1+(G.length-i)) (((G.map REnt.ptr).take i++ [g.ptr])++(G.map REnt.ptr).drop i) (New w)):
 ∃S',Grows w S S'/\RefB S' ((w'.setCell ⟨cb,0,none⟩ v1).setCell ⟨cb,1,none⟩ v2) cb (eE REnt.name G g):=by
 have hil:i≤G.length:=by have:=below_le (c:=mB) (G.map REnt.name) g.name;rw [List.length_map]at this;omega
 have hlen:(eE REnt.name G g).length=G.length+1:=by rw [(fE REnt.name G g).length_eq];simp
 have e1:((strs (G.map REnt.name)).take i++ [Value.string g.name])++(strs (G.map REnt.name)).drop i=strs ((eE REnt.name G g).map REnt.name):=by unfold eE strs;rw [<-hi];simp [List.map_take,List.map_drop]
 have e2:((G.map REnt.ptr).take i++ [g.ptr])++(G.map REnt.ptr).drop i=(eE REnt.name G g).map REnt.ptr:=by unfold eE;rw [<-hi];simp [List.map_take,List.map_drop]
 have en:i+1+(G.length-i)=(eE REnt.name G g).length:=by rw [hlen];omega
 rw [e1,en]at h1;rw [e2,en]at h2;have hcb:cb<w.heap.size:=by obtain⟨na,nc,aa,ac,hB,_⟩:=h.blk;exact hB.lt
 obtain⟨na,nc,rfl,c1,f1,b1⟩:=h1.form;obtain⟨aa,ac,rfl,c2,f2,b2⟩:=h2.form;obtain⟨na0,nc0,aa0,ac0,hB,_⟩:=h.blk;have hk2:Kp (fun k=>k=cb) w ((w'.setCell ⟨cb,0,none⟩ (.slice na (eE REnt.name G g).length nc)).setCell ⟨cb,1,none⟩ (.slice aa (eE REnt.name G g).length ac)):=by refine((Ext.kp hk).setCell (F:=fun k=>k=cb) (p:=⟨cb,0,none⟩) (fun _=>rfl) _).setCell (p:=⟨cb,1,none⟩) (fun _=>rfl) _
 have hk3:Kp (fun k=>k=cb) w' ((w'.setCell ⟨cb,0,none⟩ (.slice na (eE REnt.name G g).length nc)).setCell ⟨cb,1,none⟩ (.slice aa (eE REnt.name G g).length ac)):=by refine((Kp.refl w').setCell (F:=fun k=>k=cb) (p:=⟨cb,0,none⟩) (fun _=>rfl) _).setCell (p:=⟨cb,1,none⟩) (fun _=>rfl) _
 have hB':=((hB.ext hk).set 0 (.slice na (eE REnt.name G g).length nc)).set 1 (.slice aa (eE REnt.name G g).length ac);have hz2:=hk2.size;have hz3:=hk3.size;generalize hW:(w'.setCell ⟨cb,0,none⟩ (.slice na (eE REnt.name G g).length nc)).setCell ⟨cb,1,none⟩ (.slice aa (eE REnt.name G g).length ac)=W at*;have hSn:∀k,k=cb->¬S k:=fun k e=>by subst e;exact h.notS
 refine⟨fun k=>S k\/ (w.heap.size≤k/\k<W.heap.size),⟨fun k h=> .inl h,fun k h=>h.imp id fun h=>h.1⟩,?_⟩;have hmem:∀x,x∈eE REnt.name G g↔x=g\/x∈G:=fun x=>by rw [(fE REnt.name G g).mem_iff];simp [or_comm]
 have hlt:∀x,x∈eE REnt.name G g->x.c<w.heap.size/\¬S x.c/\x.c≠cb/\RefRows S w x.c x.ar x.LL:=fun x hx=>by
  rcases(hmem x).1 hx with rfl|hx
  ·exact⟨hr.lt,hr.notS,hgb,hr⟩
  ·exact⟨(h.rows x hx).lt,(h.rows x hx).notS,h.off x hx,h.rows x hx⟩
 refine⟨⟨na,nc,aa,ac,by simpa using hB',c1.kp hk3 (fun a e f=>?_),c2.kp hk3 (fun a e f=>?_),fun a e=> .inr ⟨(b1 a e).1,Nat.lt_of_lt_of_le (b1 a e).2 hz3⟩,fun a e=> .inr ⟨(b2 a e).1,Nat.lt_of_lt_of_le (b2 a e).2 hz3⟩,f1,f2⟩,
  fun x hx=>?_,?_,?_,fun x hx=>(hlt x hx).2.2.1,fun k hk'=>?_,by rw [hlen];omega⟩
 ·have h9:w.heap.size≤a.block:=(b1 a e).1;have f9:a.block=cb:=f;omega
 ·have h9:w.heap.size≤a.block:=(b2 a e).1;have f9:a.block=cb:=f;omega
 ·obtain⟨p1,p2,p3,p4⟩:=hlt x hx;refine((p4.kp hk2 p3 fun k e=>hSn k e)).wide (fun k h=> .inl h) (fun h=>?_) fun k h=>?_
  ·rcases h with h|h
   ·exact p2 h
   ·omega
  ·rcases h with h|h
   ·have:=p4.inS k h;omega
   ·exact h.2
 ·refine(List.Perm.pairwise_iff (fun{a b} h=>Ne.symm h) (fE REnt.name G g)).2 ?_;refine List.pairwise_append.2 ⟨h.apart,List.pairwise_singleton _ _,fun a ha b hb=>?_⟩;rw [List.mem_singleton]at hb;subst hb;exact hoff a ha
 ·intro hc;rcases hc with hc|hc
  ·exact h.notS hc
  ·omega
 ·rcases hk' with hk'|hk'
  ·have:=h.inS k hk';omega
  ·exact hk'.2
set_option maxHeartbeats 4000000 in
theorem sJ(h:RefB S w cb G)(hst:Strict mB (G.map REnt.name))(g:REnt)(hr:RefRows S w g.c g.ar g.LL)(hoff:∀x∈G,x.c≠g.c)(hgb:g.c≠cb)(hl:G.length<4194304):
 Calls Tryz.prog 144 #[.pointer (some ⟨cb,0,none⟩),.string g.name,g.ptr] w (RetF (fun k=>k=cb) w fun w' v=>∃S',Grows w S S'/\RefB S' w' cb (eE REnt.name G g)):=by
 have H:=qH (nIX h (nIX hst (nIX hr (nIX hoff (nIX hgb hl)))));obtain⟨na,nc,aa,ac,hB,hN,hA,_,_,⟨n1,n2,n3⟩,a1,a2,a3⟩:=h.blk;obtain⟨n,en⟩:=nm G.length;rw [en]at hB n1 a1 hl;obtain⟨s,es⟩:=nm g.name;obtain⟨c,ec⟩:=nm g.c;have ept:g.ptr= .pointer (some ⟨c,0,none⟩):=by rw [<-ec];rfl
 have c0:=hB.c0;have c1:=hB.c1;have HCell:=qH (fun w' (hw:Ext w w')=>(⟨hw.cell c0 id,hw.cell c1 id⟩:w'.cell? ⟨cb,0,none⟩=some (.slice na n nc)/\w'.cell? ⟨cb,1,none⟩=some (.slice aa n ac)));have HG:=qH (nIX en (nIX hN (nIX hA hB)));have HE:=qH (nIX es (nIX ec ept));rw [es,ept];have N3:=qH n3;have A3:=qH a3;unfold maxLen at n2 a2;clear h hst hr hoff hgb hB hN hA en es ec ept n3 a3;go_enter Tryz.func144,Tryz.ntmps144;go_wp2;go_loopw [8] (fun kv wr=>∃i:Nat,i≤n/\kv= .int .i64 i/\Hid (Ext w wr)/\Hid (∀(j:Nat) (x:REnt),j<i->G[j]?=some x->Op.bytesLess x.name.toList s.toList=true)) (fun k _=>n- (intOf k).toNat)
 case atStart=>exact⟨0,Nat.zero_le _,rfl,qH (Kp.refl _),qH fun j g hj=>by omega⟩
 case round=>
  obtain⟨i,hi,rfl,hex,hin⟩:=hrel;clear c0 c1;obtain⟨c0,c1⟩:=HCell.out wr hex.out;by_cases hgo:∃x,G[i]?=some x/\Op.bytesLess x.name.toList s.toList=true
  ·obtain⟨x,hx,q1⟩:=hgo;have hlt:i<n:=by rw [<-HG.out.1];exact(List.getElem?_eq_some_iff.1 hx).1
   obtain⟨nb,no,rfl,d0⟩:=HG.out.2.1 i (.string x.name) (by simp [strs,hx]);replace d0:=hex.out.cell d0 id;have HX:=qH (nIX hx q1);generalize x.name=xn at d0 q1;clear hx;go_wp2;go_roundw
   case rel=>exact⟨i+1,by omega,nMX,hex,qH fun j y hj hy=>by
    by_cases hji:j<i
    ·exact hin.out j y hji hy
    ·obtain rfl:j=i:=by omega
     rw [HX.out.1]at hy;cases hy;exact HX.out.2⟩
   case measure=>simp [intOf];omega
  ·have hbel:i=below mB (G.map REnt.name) s:=RefB.place H.out.2.1 (by rw [HG.out.1];exact hi) hin.out fun x hx=>by
    cases hb:Op.bytesLess x.name.toList s.toList with
    |false=>rfl
    |true=>exact absurd ⟨x,hx,hb⟩ hgo
   have HBel:=qH hbel;clear hbel;have hway:(∃(b:Bool) (x:ByteArray),b=true/\i<n/\(∃nb no,na=some ⟨nb,no,none⟩/\wr.cell? ⟨nb,no+i,none⟩=some (.string x))/\Op.bytesLess x.toList s.toList=false)\/i=n:=by
    by_cases hlt:i<n
    ·obtain⟨x,hx⟩:∃x,G[i]?=some x:=⟨_,qG (by rw [HG.out.1];exact hlt)⟩;obtain⟨nb,no,e,d0⟩:=HG.out.2.1 i (.string x.name) (by simp [strs,hx]);refine .inl ⟨true,x.name,rfl,hlt,⟨nb,no,e,hex.out.cell d0 id⟩,?_⟩;cases hb:Op.bytesLess x.name.toList s.toList with
     |false=>rfl
     |true=>exact absurd ⟨x,hx,hb⟩ hgo
    ·exact .inr (by omega)
   clear hgo hin;have HH:=qH (show(strs (G.map REnt.name)).length=n/\(G.map REnt.ptr).length=n from⟨by rw [dR,List.length_map,HG.out.1],by rw [List.length_map,HG.out.1]⟩);have hp0:(i:Int)≤(n:Int):=by omega
   have hp1:(i:Int)≤(nc:Int):=by omega
   have hp2:(i:Int)≤(ac:Int):=by omega
   have hne:=qH (show 9≠85 by decide);have HEX:=qH hex.out;rcases hway with⟨b0,x,_,hlt,⟨nb,no,e,d0⟩,q1⟩|hin'
   ·subst e;have hcn:¬nc=i:=by omega
    have hca:¬ac=i:=by omega
    rcases N3.out with⟨e,_⟩|⟨gn,e⟩
    ·cases e
    ·cases e;rcases A3.out with⟨e,e0⟩|⟨ga,e⟩
     ·omega
     ·subst e;rw [Nat.zero_add]at d0;go_wp2_with (first|(at_builtin;refine Halted.out ?_))
      refine Halted.mk (bQ jW rfl _ _ rfl HEX.out rfl (Row.nil wr 9 1 (New w)) rfl ((HG.out.2.1.ext HEX.out).take' i) (by rw [List.length_take,HH.out.1];omega) (fun u hu=>gN _ u (List.mem_of_mem_take hu)) (by omega) (by unfold maxLen;omega) ?_);intro v1 w3 hr1 hk3 _ _;obtain⟨c0,c1⟩:=HCell.out w3 hk3;have HR1:=qH hr1;clear hr1;go_wp2_with (first|(at_builtin;refine Halted.out ?_))
      refine Halted.mk (bQ jW rfl _ _ rfl (hk3.alloc (.cells #[.string s] 9)) rfl (HR1.out.alloc _) rfl (CellsAt.one w3 (.string s) 9) rfl (by simp;rfl) (by omega) (by unfold maxLen;omega) ?_);intro v2 w4 hr2 hk4 _ _;obtain⟨c0,c1⟩:=HCell.out w4 hk4;have HR2:=qH hr2;clear hr2;go_wp2_with (first|(at_builtin;refine Halted.out ?_))
      refine Halted.mk (bQ jW rfl _ _ rfl hk4 rfl HR2.out rfl (news:=(strs (G.map REnt.name)).drop i) (by
       first
        |(have:=(HG.out.2.1.ext hk4).sub' i;rwa [Nat.zero_add]at this)
        |(rw [List.drop_of_length_le (by rw [HH.out.1];omega)];exact CellsAt.nil _ _)) (by rw [List.length_drop,HH.out.1];omega) (fun u hu=>gN _ u (List.mem_of_mem_drop hu)) (by omega) (by unfold maxLen;omega) ?_)
      intro v3 w5 hr3 hk5 _ _;obtain⟨c0,c1⟩:=HCell.out w5 hk5;have HR3:=qH hr3;clear hr3;go_wp2_with (first|(at_builtin;refine Halted.out ?_))
      refine Halted.mk (bQ jF rfl _ _ rfl hk5 rfl (Row.nil w5 85 1 (New w)) rfl ((HG.out.2.2.1.ext hk5).take' i) (by rw [List.length_take,HH.out.2];omega) (fun u hu=>pZ _ u (List.mem_of_mem_take hu)) (by omega) (by unfold maxLen;omega) ?_);intro u1 w6 hq1 hk6 hk6' _;obtain⟨c0,c1⟩:=HCell.out w6 hk6;have HQ1:=qH (nIX hq1 hk6');clear hq1 hk6';go_wp2_with (first|(at_builtin;refine Halted.out ?_))
      refine Halted.mk (bQ jF rfl _ _ rfl (hk6.alloc (.cells #[.pointer (some ⟨c,0,none⟩)] 85)) rfl (HQ1.out.1.alloc _) rfl (CellsAt.one w6 (.pointer (some ⟨c,0,none⟩)) 85) rfl (by simp;rfl) (by omega) (by unfold maxLen;omega) ?_);intro u2 w7 hq2 hk7 hk7' _;obtain⟨c0,c1⟩:=HCell.out w7 hk7;have HQ2:=qH (nIX hq2 hk7');clear hq2 hk7';go_wp2_with (first|(at_builtin;refine Halted.out ?_))
      refine Halted.mk (bQ jF rfl _ _ rfl hk7 rfl HQ2.out.1 rfl (news:=(G.map REnt.ptr).drop i) (by
       first
        |(have:=(HG.out.2.2.1.ext hk7).sub' i;rwa [Nat.zero_add]at this)
        |(rw [List.drop_of_length_le (by rw [HH.out.2];omega)];exact CellsAt.nil _ _)) (by rw [List.length_drop,HH.out.2];omega) (fun u hu=>pZ _ u (List.mem_of_mem_drop hu)) (by omega) (by unfold maxLen;omega) ?_)
      intro u3 w8 hq3 hk8 hk8' _;have HQ3:=qH (nIX hq3 hk8');clear hq3 hk8';obtain⟨a1',n1',p1',e1,_⟩:∃ao n cap,v3= .slice ao n cap/\True:=by obtain⟨ao,cap,e,_⟩:=HR3.out.shape;exact⟨_,_,_,e,trivial⟩
      obtain⟨a2',n2',p2',e2,_⟩:∃ao n cap,u3= .slice ao n cap/\True:=by obtain⟨ao,cap,e,_⟩:=HQ3.out.1.shape;exact⟨_,_,_,e,trivial⟩
      subst e1 e2;have f0:=(HG.out.2.2.2.ext hk8).free 0;have f1:=(HG.out.2.2.2.ext hk8).free 1;obtain⟨c0,c1⟩:=HCell.out w8 hk8;have HK8:=qH hk8;clear hk3 hk4 hk5 hk6 hk7 hk8;go_wp2
      go_end0
      have r1:=HR3.out.kp' HQ1.out.2 fun g hg _ hf=>by cases hf
      have r2:=r1.alloc (.cells #[.pointer (some ⟨c,0,none⟩)] 85);have r3:=r2.kp' HQ2.out.2 fun g hg _ hf=>r2.sort_ne (HQ1.out.1.alloc (.cells #[.pointer (some ⟨c,0,none⟩)] 85)) hne.out hg hf;have r4:=r3.kp' HQ3.out.2 fun g hg _ hf=>r3.sort_ne HQ2.out.1 hne.out hg hf;obtain⟨h1,h2,h3,h4,h5,h6⟩:=H.out;refine RetF.mk ((Ext.kp HK8.out).setCell (F:=fun k=>k=cb) (p:=⟨cb,0,none⟩) (fun _=>rfl) _|>.setCell (p:=⟨cb,1,none⟩) (fun _=>rfl) _) (h1.put (i:=i) (by rw [HE.out.1];exact HBel.out) h3 h4 h5 h6 HK8.out ?_ ?_)
      ·exact r4.cast' (by rw [HG.out.1];omega) (by rw [HE.out.1];simp)
      ·exact HQ3.out.1.cast' (by rw [HG.out.1];omega) (by rw [HE.out.2.2];simp)
   ·subst hin';rcases N3.out with⟨e,e0⟩|⟨gn,e⟩
    all_goals
     subst e;rcases A3.out with⟨e,e1⟩|⟨ga,e⟩
     all_goals
      subst e;by_cases hcn:nc=i
      all_goals
       first
        |(exfalso;omega)
        | (by_cases hca:ac=i
           all_goals
            first
             |(exfalso;omega)
             |skip)
    all_goals
     go_wp2_with (first|(at_builtin;refine Halted.out ?_))
     refine Halted.mk (bQ jW rfl _ _ rfl HEX.out rfl (Row.nil wr 9 1 (New w)) rfl ((HG.out.2.1.ext HEX.out).take' i) (by rw [List.length_take,HH.out.1];omega) (fun u hu=>gN _ u (List.mem_of_mem_take hu)) (by omega) (by unfold maxLen;omega) ?_);intro v1 w3 hr1 hk3 _ _;obtain⟨c0,c1⟩:=HCell.out w3 hk3;have HR1:=qH hr1;clear hr1;go_wp2_with (first|(at_builtin;refine Halted.out ?_))
     refine Halted.mk (bQ jW rfl _ _ rfl (hk3.alloc (.cells #[.string s] 9)) rfl (HR1.out.alloc _) rfl (CellsAt.one w3 (.string s) 9) rfl (by simp;rfl) (by omega) (by unfold maxLen;omega) ?_);intro v2 w4 hr2 hk4 _ _;obtain⟨c0,c1⟩:=HCell.out w4 hk4;have HR2:=qH hr2;clear hr2;go_wp2_with (first|(at_builtin;refine Halted.out ?_))
     refine Halted.mk (bQ jW rfl _ _ rfl hk4 rfl HR2.out rfl (news:=(strs (G.map REnt.name)).drop i) (by
      first
       |(have:=(HG.out.2.1.ext hk4).sub' i;rwa [Nat.zero_add]at this)
       |(rw [List.drop_of_length_le (by rw [HH.out.1];omega)];exact CellsAt.nil _ _)) (by rw [List.length_drop,HH.out.1];omega) (fun u hu=>gN _ u (List.mem_of_mem_drop hu)) (by omega) (by unfold maxLen;omega) ?_)
     intro v3 w5 hr3 hk5 _ _;obtain⟨c0,c1⟩:=HCell.out w5 hk5;have HR3:=qH hr3;clear hr3;go_wp2_with (first|(at_builtin;refine Halted.out ?_))
     refine Halted.mk (bQ jF rfl _ _ rfl hk5 rfl (Row.nil w5 85 1 (New w)) rfl ((HG.out.2.2.1.ext hk5).take' i) (by rw [List.length_take,HH.out.2];omega) (fun u hu=>pZ _ u (List.mem_of_mem_take hu)) (by omega) (by unfold maxLen;omega) ?_);intro u1 w6 hq1 hk6 hk6' _;obtain⟨c0,c1⟩:=HCell.out w6 hk6;have HQ1:=qH (nIX hq1 hk6');clear hq1 hk6';go_wp2_with (first|(at_builtin;refine Halted.out ?_))
     refine Halted.mk (bQ jF rfl _ _ rfl (hk6.alloc (.cells #[.pointer (some ⟨c,0,none⟩)] 85)) rfl (HQ1.out.1.alloc _) rfl (CellsAt.one w6 (.pointer (some ⟨c,0,none⟩)) 85) rfl (by simp;rfl) (by omega) (by unfold maxLen;omega) ?_);intro u2 w7 hq2 hk7 hk7' _;obtain⟨c0,c1⟩:=HCell.out w7 hk7;have HQ2:=qH (nIX hq2 hk7');clear hq2 hk7';go_wp2_with (first|(at_builtin;refine Halted.out ?_))
     refine Halted.mk (bQ jF rfl _ _ rfl hk7 rfl HQ2.out.1 rfl (news:=(G.map REnt.ptr).drop i) (by
      first
       |(have:=(HG.out.2.2.1.ext hk7).sub' i;rwa [Nat.zero_add]at this)
       |(rw [List.drop_of_length_le (by rw [HH.out.2];omega)];exact CellsAt.nil _ _)) (by rw [List.length_drop,HH.out.2];omega) (fun u hu=>pZ _ u (List.mem_of_mem_drop hu)) (by omega) (by unfold maxLen;omega) ?_)
     intro u3 w8 hq3 hk8 hk8' _;have HQ3:=qH (nIX hq3 hk8');clear hq3 hk8';obtain⟨a1',n1',p1',e1,_⟩:∃ao n cap,v3= .slice ao n cap/\True:=by obtain⟨ao,cap,e,_⟩:=HR3.out.shape;exact⟨_,_,_,e,trivial⟩
     obtain⟨a2',n2',p2',e2,_⟩:∃ao n cap,u3= .slice ao n cap/\True:=by obtain⟨ao,cap,e,_⟩:=HQ3.out.1.shape;exact⟨_,_,_,e,trivial⟩
     subst e1 e2;have f0:=(HG.out.2.2.2.ext hk8).free 0;have f1:=(HG.out.2.2.2.ext hk8).free 1;obtain⟨c0,c1⟩:=HCell.out w8 hk8;have HK8:=qH hk8;clear hk3 hk4 hk5 hk6 hk7 hk8;go_wp2
     go_end0
     have r1:=HR3.out.kp' HQ1.out.2 fun g hg _ hf=>by cases hf
     have r2:=r1.alloc (.cells #[.pointer (some ⟨c,0,none⟩)] 85);have r3:=r2.kp' HQ2.out.2 fun g hg _ hf=>r2.sort_ne (HQ1.out.1.alloc (.cells #[.pointer (some ⟨c,0,none⟩)] 85)) hne.out hg hf;have r4:=r3.kp' HQ3.out.2 fun g hg _ hf=>r3.sort_ne HQ2.out.1 hne.out hg hf;obtain⟨h1,h2,h3,h4,h5,h6⟩:=H.out;refine RetF.mk ((Ext.kp HK8.out).setCell (F:=fun k=>k=cb) (p:=⟨cb,0,none⟩) (fun _=>rfl) _|>.setCell (p:=⟨cb,1,none⟩) (fun _=>rfl) _) (h1.put (i:=i) (by rw [HE.out.1];exact HBel.out) h3 h4 h5 h6 HK8.out ?_ ?_)
     ·exact r4.cast' (by rw [HG.out.1];omega) (by rw [HE.out.1];simp)
     ·exact HQ3.out.1.cast' (by rw [HG.out.1];omega) (by rw [HE.out.2.2];simp)
end
structure RefOk(G:List REnt):Prop where
 ok:BaseOk (bB G)
 names:Strict mB (G.map REnt.name)
theorem aF3(G:List REnt):(bB G).map (·.1)=G.map REnt.name:=by unfold bB;rw [List.map_map];rfl
theorem kH{G:List REnt}{s:ByteArray}(h:dN G s=none):bU (bB G) s=none/\s∉G.map REnt.name:=by
 have h1:bU (bB G) s=none:=by rw [pK,h];rfl
 exact⟨h1,by rw [<-aF3];exact lF.1 h1⟩
theorem pL{G:List REnt}{s:ByteArray}{g:REnt}(h:dN G s=some g):bU (bB G) s=some (g.ar,g.LL)/\bO (bB G) s=g.LL:=by
 have h1:bU (bB G) s=some (g.ar,g.LL):=by rw [pK,h];rfl
 exact⟨h1,fA h1⟩
section
variable {S S':Nat->Prop}{w w1 w2 w3:World}{cb:Nat}{G:List REnt}{s:ByteArray}{ss:List ByteArray}
def RefBTo(S:Nat->Prop)(w:World)(cb:Nat)(G:List REnt)(C':List bA)(w':World):Prop:=
 ∃S' G',Grows w S S'/\RefB S' w' cb G'/\RefOk G'/\SameC (bB G') C'/\G'.length≤G.length+1/\∀k,qY cb G' k->qY cb G k\/w.heap.size≤k
theorem RefBTo.same{C':List bA}(h:RefB S w cb G)(ho:RefOk G)(hk:Ext w w1)(hc:C'=bB G):RefBTo S w cb G C' w1:=
 ⟨S,G,Grows.refl _ _,h.ext hk,ho,by rw [hc];exact SameC.refl _,Nat.le_succ _,fun k h=> .inl h⟩
theorem RefB.turn{pre post:List REnt}{g:REnt}(h:RefB S w cb (pre++g::post)){LL':List (List ByteArray)}(hk:Kp (fun k=>k=g.c) w w1)(hS:Grows w S S')(hr:RefRows S' w1 g.c g.ar LL'):
 RefB S' w1 cb (pre++{g with LL:=LL'}::post):=by
 have hg:g∈pre++g::post:=by simp
 have hgc:=h.off g hg;have hgS:=(h.rows g hg).notS;have hlt:=(h.rows g hg).lt;obtain⟨na,nc,aa,ac,h1,h2,h3,h4,h5,h6⟩:=h.blk;have hF:∀k,k=g.c->¬S k:=fun k e hs=>by subst e;exact hgS hs
 have en:(pre++{g with LL:=LL'}::post).map REnt.name=(pre++g::post).map REnt.name:=by simp
 have ep:(pre++{g with LL:=LL'}::post).map REnt.ptr=(pre++g::post).map REnt.ptr:=by simp [REnt.ptr]
 have el:(pre++{g with LL:=LL'}::post).length=(pre++g::post).length:=by simp
 have hap:=h.apart;have hoff:∀x∈pre++g::post,x=g\/x.c≠g.c:=fun x hx=>by
  rw [List.pairwise_append]at hap;obtain⟨_,p2,p3⟩:=hap;rw [List.pairwise_cons]at p2;rcases List.mem_append.1 hx with hx|hx
  ·exact .inr (p3 x hx g (List.mem_cons_self ..))
  ·rcases List.mem_cons.1 hx with rfl|hx
   ·exact .inl rfl
   ·exact .inr fun e=>p2.1 x hx e.symm
 have hmem:∀x∈pre++{g with LL:=LL'}::post,x={g with LL:=LL'}\/ (x∈pre++g::post/\x.c≠g.c):=fun x hx=>by
  rw [List.pairwise_append]at hap;obtain⟨_,p2,p3⟩:=hap;rw [List.pairwise_cons]at p2;rcases List.mem_append.1 hx with hx|hx
  ·exact .inr ⟨by simp [hx],p3 x hx g (List.mem_cons_self ..)⟩
  ·rcases List.mem_cons.1 hx with rfl|hx
   ·exact .inl rfl
   ·exact .inr ⟨by simp [hx],fun e=>p2.1 x hx e.symm⟩
 have hS':=hr.inS;refine⟨⟨na,nc,aa,ac,?_,?_,?_,fun a e=>hS.1 _ (h4 a e),fun a e=>hS.1 _ (h5 a e),?_⟩,fun x hx=>?_,?_,?_,fun x hx=>?_,hS',?_⟩
 ·rw [el];exact h1.kp hk fun e=>hgc e.symm
 ·rw [en];exact h2.kp hk fun a e=>hF _|>fun f e2=>f e2 (h4 a e)
 ·rw [ep];exact h3.kp hk fun a e=>hF _|>fun f e2=>f e2 (h5 a e)
 ·rw [el];exact h6
 ·rcases hmem x hx with rfl|⟨hx,hne⟩
  ·exact hr
  ·refine((h.rows x hx).kp hk hne hF).wide hS.1 (fun h9=>?_) hS';rcases hS.2 _ h9 with h9|h9
   ·exact(h.rows x hx).notS h9
   ·have:=(h.rows x hx).lt;omega
 ·have:=hap;rw [List.pairwise_append,List.pairwise_cons]at this ⊢;obtain⟨p1,⟨p2,p3⟩,p4⟩:=this;refine⟨p1,⟨p2,p3⟩,fun a ha b hb=>?_⟩;rcases List.mem_cons.1 hb with rfl|hb
  ·exact p4 a ha g (List.mem_cons_self ..)
  ·exact p4 a ha b (List.mem_cons_of_mem _ hb)
 ·intro h9;rcases hS.2 _ h9 with h9|h9
  ·exact h.notS h9
  ·have:=h1.lt;omega
 ·rcases hmem x hx with rfl|⟨hx,hne⟩
  ·exact hgc
  ·exact h.off x hx
 ·rw [el];exact h.len
theorem aA2{g:REnt}(h:dN G s=some g):∃pre post,G=pre++g::post:=List.append_of_mem (kG h).1
theorem aK5{pre post:List REnt}{g:REnt}(hn:((bB (pre++g::post)).map (·.1)).Nodup)(LL':List (List ByteArray)):iV (bB (pre++g::post)) g.name (g.ar,LL')=bB (pre++{g with LL:=LL'}::post):=by
 have hg:bU (bB (pre++g::post)) g.name=some (g.ar,g.LL):=(fP hn).2 (List.mem_map.2 ⟨g,by simp,rfl⟩);unfold iV;rw [hg];simp only [Option.isSome_some,if_true];have e1:bB (pre++g::post)=bB pre++g.cnt::bB post:=by simp [bB]
 have e2:bB (pre++{g with LL:=LL'}::post)=bB pre++(g.name,g.ar,LL')::bB post:=by simp [bB,REnt.cnt]
 rw [e1]at hn ⊢;rw [e2];rw [List.map_append,List.map_cons,List.nodup_append,List.nodup_cons]at hn;obtain⟨_,⟨p2,_⟩,p4⟩:=hn;rw [List.map_append,List.map_cons]
 congr 1
 ·conv=>rhs;rw [<-List.map_id (bB pre)]
  apply List.map_congr_left;intro x hx;rw [if_neg]
  ·rfl
  ·exact p4 x.1 (List.mem_map.2 ⟨x,hx,rfl⟩) g.name (List.mem_cons_self ..)
 ·rw [if_pos (show(REnt.cnt g).1=g.name from rfl)]
  congr 1
  conv=>rhs;rw [<-List.map_id (bB post)]
  apply List.map_congr_left;intro x hx;rw [if_neg]
  ·rfl
  ·intro e;exact p2 (by rw [show(REnt.cnt g).1=g.name from rfl,<-e];exact List.mem_map.2 ⟨x,hx,rfl⟩)
theorem xH(hn:(bB G).map (·.1)|>.Nodup){g:REnt}(h:g.name∉G.map REnt.name):(bB (eE REnt.name G g)).Perm (bB G++ [g.cnt]):=by unfold bB;have:=(fE REnt.name G g).map REnt.cnt;simpa using this
theorem RefOk.ins(h:RefOk G){g:REnt}(hn:g.name∉G.map REnt.name)(hb:BaseOk (bB G++ [g.cnt])):RefOk (eE REnt.name G g)/\SameC (bB (eE REnt.name G g)) (bB G++ [g.cnt]):=
 have hp:=xH h.ok.nodup hn
 ⟨⟨aGt hp.symm hb,sY REnt.name h.names hn⟩,(yS hp.symm hb.nodup).symm⟩
theorem pW{c n:Nat}{LL:List (List ByteArray)}(h:RefRows S w c n LL):w.cell? ⟨c,0,none⟩=some (.int .i64 n)/\∃lo lc,w.cell? ⟨c,1,none⟩=some (.slice lo LL.length lc):=by obtain⟨ao,cap,h1,_⟩:=h;exact⟨by rw [h1.cell'];rfl,ao,cap,by rw [h1.cell'];rfl⟩
theorem vG{k c:Nat}(h:RefB S w cb G)(ho:RefOk G)(hn:bM s=true)(he:dN G s=none)(hk:k≤64)(hx:Ext w w1)(hc:w.heap.size≤c)(hr:RefRows S w1 c k [])(w2:World)(hk2:Kp (fun k=>k=cb) w1 w2)(hg:Grows w1 S S')
 (hb:RefB S' w2 cb (eE REnt.name G ⟨s,c,k,[]⟩)):Kp (fun k=>k=cb) w w2/\Grows w S S'/\RefOk (eE REnt.name G ⟨s,c,k,[]⟩)/\SameC (bB (eE REnt.name G ⟨s,c,k,[]⟩)) (bB G++ [(s,k,[])])/\(eE REnt.name G ⟨s,c,k,[]⟩).length≤G.length+1/\∀q,qY cb (eE REnt.name G ⟨s,c,k,[]⟩) q->qY cb G q\/w.heap.size≤q:=by
 obtain⟨g1,g2⟩:=kH he;have hd:cV (bB G) s (k:Int)=0:=pM hn (by omega) g1;have hC:cW (bB G) s (k:Int)=bB G++ [(s,k,[])]:=by unfold cW;rw [if_pos ⟨hd,g1⟩];rfl
 have hbo:BaseOk (bB G++ [(s,k,[])]):=by rw [<-hC];exact aAv ho.ok s _
 obtain⟨i1,i2⟩:=ho.ins (g:=⟨s,c,k,[]⟩) g2 hbo;refine⟨(Ext.kp hx).trans hk2,(Grows.refl w S).trans hg hx.size,i1,i2,by rw [(fE REnt.name G _).length_eq];simp,fun q hq=>?_⟩;rcases hq with rfl|⟨x,hx,rfl⟩
 ·exact .inl (.inl rfl)
 ·rcases List.mem_append.1 ((fE REnt.name G _).mem_iff.1 hx)with hx|hx
  ·exact .inl (.inr ⟨x,hx,rfl⟩)
  ·obtain rfl:=List.mem_singleton.1 hx;exact .inr hc
set_option maxHeartbeats 4000000 in
theorem aAq(h:RefB S w cb G)(ho:RefOk G)(s:ByteArray)(a:Int)(hl:G.length<4194304):
 Calls Tryz.prog 113 #[.pointer (some ⟨cb,0,none⟩),.string s,.int .i64 a] w (RetF (fun k=>k=cb) w fun w' v=>v= .int .i64 ((cV (bB G) s a:Nat):Int)/\RefBTo S w cb G (cW (bB G) s a) w'):=by
 have H:=qH (nIX h (nIX ho hl));have HN:=qH (pX s w);clear h ho hl;cases hn:bM s with
 |false=>
  rw [hn]at HN;have HNM:=qH hn;clear hn;go_enter Tryz.func113,Tryz.ntmps113;go_wp2_with fail
  refine HN.out.mono ?_;rintro e w' ⟨rfl,rfl⟩;go_wp2;go_ret;have e2:=pN (C:=bB G) a HNM.out;exact RetF.mk (Kp.refl _) ⟨by rw [e2];rfl,RefBTo.same H.out.1 H.out.2.1 (Kp.refl _) (oK (by rw [e2];decide))⟩
 |true=>
  rw [hn]at HN;have HNM:=qH hn;clear hn;by_cases ha:a<0\/64<a
  ·have HNB:=qH (vE a w ha);have HAB:=qH ha;clear ha;go_enter Tryz.func113,Tryz.ntmps113;go_wp2_with fail
   refine HN.out.mono ?_;rintro e w' ⟨rfl,rfl⟩;go_wp2_with fail
   refine HNB.out.mono ?_;rintro e w' ⟨rfl,rfl⟩;go_wp2;go_ret;have e2:=zW (s:=s) (C:=bB G) HNM.out HAB.out;exact RetF.mk (Kp.refl _) ⟨by rw [e2];rfl,RefBTo.same H.out.1 H.out.2.1 (Kp.refl _) (oK (by rw [e2];decide))⟩
  ·obtain⟨k,rfl⟩:=Int.eq_ofNat_of_zero_le (show 0≤a by omega);have hk64:k≤64:=by omega
   have HNR:=qH (vF S w k hk64 H.out.1.inS);have HAN:=qH ha;clear ha;cases he:dN G s with
   |none=>
    have HE:=qH he;clear he;go_enter Tryz.func113,Tryz.ntmps113;go_wp2_with fail
    refine HN.out.mono ?_;rintro e w' ⟨rfl,rfl⟩;go_wp2_with fail
    refine HNR.out.mono ?_;rintro e w1 ⟨v,rfl,hk1,rfl,hrows⟩;have HK1:=qH (nIX hk1 hrows);clear hk1 hrows;go_wp2_with fail
    refine(gQ (H.out.1.ext HK1.out.1) s).mono ?_;rintro e w2 ⟨v,rfl,hk2,hv⟩;rw [HE.out]at hv;replace hv:v= .pointer none:=hv;subst hv;have HK2:=qH (nIX hk2 (HK1.out.1.trans hk2));clear hk2;go_wp2_with fail
    obtain⟨gc,egc⟩:=nm w.heap.size;have HP:=qH (sJ (H.out.1.ext HK2.out.2) H.out.2.1.names ⟨s,w.heap.size,k,[]⟩ (HK1.out.2.ext HK2.out.1) (fun x hx e=>by have:=(H.out.1.rows x hx).lt;simp only at e;omega) (fun e=>by obtain⟨na,nc,aa,ac,hB,_⟩:=H.out.1.blk;have:=hB.lt;simp only at e;omega) H.out.2.2);refine HP.out.mono ?_;rintro e w4 ⟨v,rfl,hk4,S',hS',hb⟩;have HM4:=qH (nIX hk4 (nIX hS' hb));clear hk4 hS' hb;go_wp2;go_ret;obtain⟨g1,g2⟩:=kH HE.out;have hd:cV (bB G) s (k:Int)=0:=pM HNM.out (by omega) g1;obtain⟨f1,f2,f3,f4,f5,f6⟩:=vG H.out.1 H.out.2.1 HNM.out HE.out hk64 HK2.out.2 (Nat.le_refl _) (HK1.out.2.ext HK2.out.1) w4 HM4.out.1 HM4.out.2.1 HM4.out.2.2;refine RetF.mk f1 ⟨by rw [hd];rfl,S',_,f2,HM4.out.2.2,f3,?_,f5,f6⟩;have hC:cW (bB G) s (k:Int)=bB G++ [(s,k,[])]:=by unfold cW;rw [if_pos ⟨hd,g1⟩];rfl
    rw [hC];exact f4
   |some g=>
    have HE:=qH he;obtain⟨c,ec⟩:=nm g.c;obtain⟨ar,ear⟩:=nm g.ar;have hcell:=(pW (H.out.1.rows g (kG he).1)).1;rw [ec,ear]at hcell;have hg:=(pL he).1;have hR:=wZ (C:=bB G) HNM.out HAN.out hg;rw [ear]at hR;have HR:=qH (nIX hR (nIX (xA (C:=bB G) (a:=(k:Int)) hg) ec));clear he ec ear hg hR;by_cases hq:ar=k
    all_goals
     have HQ:=qH hq;first
      |have q1:((ar:Int) !=(k:Int))=false:=by simp [hq]
      |have q1:((ar:Int) !=(k:Int))=true:=by rw [bne_iff_ne];omega
     clear hq;go_enter Tryz.func113,Tryz.ntmps113;go_wp2_with fail
     refine HN.out.mono ?_;rintro e w' ⟨rfl,rfl⟩;go_wp2_with fail
     refine HNR.out.mono ?_;rintro e w1 ⟨v,rfl,hk1,rfl,hrows⟩;have HK1:=qH hk1;clear hk1 hrows;go_wp2_with fail
     refine(gQ (H.out.1.ext HK1.out) s).mono ?_;rintro e w2 ⟨v,rfl,hk2,hv⟩;rw [HE.out]at hv;replace hv:v= .pointer (some ⟨g.c,0,none⟩):=hv;rw [HR.out.2.2]at hv;subst hv;have HK2:=qH (HK1.out.trans hk2);have d1:=HK2.out.cell hcell id;clear hk2 hcell;go_wp2;go_ret;refine RetF.mk (Ext.kp HK2.out) ⟨?_,RefBTo.same H.out.1 H.out.2.1 HK2.out HR.out.2.1⟩;rw [HR.out.1];first
      |rw [if_pos (by rw [HQ.out])];rfl
      |rw [if_neg (fun q=>HQ.out (by omega))];rfl
theorem cT(h:RefB S w cb G)(ho:RefOk G)(hk:Ext w w1){n:Nat}(hR:dB (bB G) s ss=(false,n))(hn:n≠0):
 RetF (qY cb G) w (fun w' v=>v= .tuple #[.bool (dB (bB G) s ss).1,.int .i64 ((dB (bB G) s ss).2:Nat)]/\RefBTo S w cb G (gW (bB G) s ss) w') (.returned (.tuple #[.bool false,.int .i64 (n:Nat)])) w1:=
 RetF.mk (Ext.kp hk) ⟨by rw [hR],RefBTo.same h ho hk (xM (by rw [hR];exact hn))⟩
theorem pE{n:Nat}{LL:List (List ByteArray)}(h1:ss.length=n)(h2:bI ss=true)(h3:¬(65536≤LL.length/\aX aB LL ss=false)):aM n LL ss=(!aX aB LL ss,0)/\aS n LL ss=bN aB LL ss:=by
 have e:aM n LL ss=(!aX aB LL ss,0):=by unfold aM;rw [if_neg (by simp [h1]),if_neg (by simp [h2]),if_neg h3]
 exact⟨e,by unfold aS;rw [e,if_pos rfl]⟩
theorem sL{g:REnt}(h:RefB S w cb G)(ho:RefOk G)(hf:dN G s=some g)(hR:dB (bB G) s ss=(!aX aB g.LL ss,0))(har:g.ar=ss.length)(hx:Ext w w2)(hk:Kp (fun k=>k=g.c) w2 w3)(hS:Grows w2 S S')(hr:RefRows S' w3 g.c g.ar (bN aB g.LL ss)):
 RetF (qY cb G) w (fun w' v=>v= .tuple #[.bool (dB (bB G) s ss).1,.int .i64 ((dB (bB G) s ss).2:Nat)]/\RefBTo S w cb G (gW (bB G) s ss) w') (.returned (.tuple #[.bool (!aX aB g.LL ss),.int .i64 0])) w3:=by
 obtain⟨g1,g2⟩:=pL hf;obtain⟨hm,hn⟩:=kG hf;obtain⟨pre,post,e⟩:=aA2 hf;have hC:gW (bB G) s ss=iV (bB G) s (g.ar,bN aB g.LL ss):=by unfold gW;rw [hR,if_pos rfl,g2,har]
 have hbo:=rO ho.ok s ss;rw [hC]at hbo ⊢;have hx2:=(h.ext hx);subst e;have hs:=aK5 ho.ok.nodup (bN aB g.LL ss);rw [<-hn,hs]at hbo ⊢;have en:(pre++{g with LL:=bN aB g.LL ss}::post).map REnt.name=(pre++g::post).map REnt.name:=by simp
 refine RetF.mk ((Ext.kp hx).trans (hk.mono fun k _ e=> .inr ⟨g,hm,e⟩)) ⟨by rw [hn,hR];rfl,S',_,(Grows.refl w S).trans hS hx.size,hx2.turn hk hS hr,⟨hbo,by rw [en];exact ho.names⟩,SameC.refl _,by simp,?_⟩;rintro k (e|⟨x,hx,e⟩)
 ·exact .inl (.inl e)
 ·rcases List.mem_append.1 hx with hx|hx
  ·exact .inl (.inr ⟨x,by simp [hx],e⟩)
  ·rcases List.mem_cons.1 hx with rfl|hx
   ·exact .inl (.inr ⟨g,hm,e⟩)
   ·exact .inl (.inr ⟨x,by simp [hx],e⟩)
theorem aCd{S2:Nat->Prop}{c:Nat}(h:RefB S w cb G)(ho:RefOk G)(hf:dN G s=none)(hn:bM s=true)(hl:ss.length≤64)(hR:dB (bB G) s ss=(true,0))(hx:Ext w w1)(hc:w.heap.size≤c)(hr1:RefRows S w1 c ss.length [])(hk2:Kp (fun k=>k=cb) w1 w2)(hS2:Grows w1 S S2)(hb:RefB S2 w2 cb (eE REnt.name G ⟨s,c,ss.length,[]⟩))
 (hk:Kp (fun k=>k=c) w2 w3)(hS:Grows w2 S2 S')(hr:RefRows S' w3 c ss.length (bN aB [] ss)):
 RetF (qY cb G) w (fun w' v=>v= .tuple #[.bool (dB (bB G) s ss).1,.int .i64 ((dB (bB G) s ss).2:Nat)]/\RefBTo S w cb G (gW (bB G) s ss) w') (.returned (.tuple #[.bool true,.int .i64 0])) w3:=by
 obtain⟨g1,g2⟩:=kH hf;obtain⟨f1,f2,f3,f4,f5,f6⟩:=vG h ho hn hf hl hx hc hr1 w2 hk2 hS2 hb;have hC:gW (bB G) s ss=iV (bB G) s (ss.length,bN aB [] ss):=by unfold gW;rw [hR,if_pos rfl,fZ g1]
 have hsame:SameC (bB (eE REnt.name G ⟨s,c,ss.length,bN aB [] ss⟩)) (gW (bB G) s ss):=by
  have hp:=xH ho.ok.nodup (g:=⟨s,c,ss.length,bN aB [] ss⟩) g2;rw [hC];have e:iV (bB G) s (ss.length,bN aB [] ss)=bB G++ [(s,ss.length,bN aB [] ss)]:=by unfold iV;rw [g1];rfl
  have hbo:=rO ho.ok s ss;rw [hC,e]at hbo;rw [e];exact(yS hp.symm hbo.nodup).symm
 have hbo:=rO ho.ok s ss;have hbo2:BaseOk (bB (eE REnt.name G ⟨s,c,ss.length,bN aB [] ss⟩)):=by
  have hp:=xH ho.ok.nodup (g:=⟨s,c,ss.length,bN aB [] ss⟩) g2;refine aGt hp.symm ?_;have e:iV (bB G) s (ss.length,bN aB [] ss)=bB G++ [(s,ss.length,bN aB [] ss)]:=by unfold iV;rw [g1];rfl
  rw [hC,e]at hbo;exact hbo
 have hturn:RefB S' w3 cb (eE REnt.name G ⟨s,c,ss.length,bN aB [] ss⟩):=by unfold eE at hb ⊢;exact hb.turn hk hS hr
 refine RetF.mk ((f1.mono fun k _ e=> .inl e).trans' hk fun k hk e=>by omega) ⟨by rw [hR];rfl,S',_,f2.trans hS f1.size,hturn,⟨hbo2,?_⟩,hsame,?_,?_⟩
 ·exact sY REnt.name ho.names g2
 ·have:=(fE REnt.name G ⟨s,c,ss.length,bN aB [] ss⟩).length_eq;rw [this];simp
 ·rintro k (e|⟨x,hx,e⟩)
  ·exact .inl (.inl e)
  ·rcases List.mem_append.1 ((fE REnt.name G _).mem_iff.1 hx)with hx|hx
   ·exact .inl (.inr ⟨x,hx,e⟩)
   ·obtain rfl:=List.mem_singleton.1 hx;rw [e];exact .inr hc
set_option maxHeartbeats 4000000 in
theorem aAr(h:RefB S w cb G)(ho:RefOk G)(s:ByteArray){xo:Option Addr}{m xc:Nat}{ss:List ByteArray}(hm:m=ss.length)(hx:CellsAt w xo (strs ss))(hss:ss.length≤8796093021952)(hxo:ss≠ []->Off (fun k=>k=cb) xo)(hl:G.length<4194304):
 Calls Tryz.prog 114 #[.pointer (some ⟨cb,0,none⟩),.string s,.slice xo m xc] w (RetF (qY cb G) w fun w' v=>v= .tuple #[.bool (dB (bB G) s ss).1,.int .i64 ((dB (bB G) s ss).2:Nat)]/\RefBTo S w cb G (gW (bB G) s ss) w'):=by
 have H:=qH (nIX h (nIX ho hl));have HN:=qH (pX s w);have HX:=qH (nIX hm (nIX hx (nIX hss hxo)));have HT:=qH (fun W (hW:Ext w W)=>pV ss xo m xc W hm (hx.ext hW) (by omega));have hm8:m≤8796093021952:=by omega
 clear h ho hl hm hx hss hxo;cases hn:bM s with
 |false=>
  rw [hn]at HN;have HNM:=qH hn;clear hn;go_enter Tryz.func114,Tryz.ntmps114;go_wp2_with fail
  refine HN.out.mono ?_;rintro e w' ⟨rfl,rfl⟩;go_wp2;go_ret2;exact cT H.out.1 H.out.2.1 (Kp.refl _) (aAc ss HNM.out) (by decide)
 |true=>
  rw [hn]at HN;have HNM:=qH hn;clear hn;cases hf:dN G s with
  |some g=>
   obtain⟨hmem,hname⟩:=kG hf;obtain⟨hget,hrows⟩:=pL hf;have hrr:=H.out.1.rows g hmem;have hok:=H.out.2.1.ok.all g.cnt (List.mem_map.2 ⟨g,hmem,rfl⟩);have har64:g.ar≤64:=hok.ar;have hst:Strict aB g.LL:=hok.strict;have hfew:g.LL.length≤65536:=hok.few;obtain⟨d0,lo,lc,d1⟩:=pW hrr;have HF:=qH (nIX hf (nIX hget (nIX hrows (nIX hrr hst))));have HB:=qH (gQ H.out.1 s);have HFind:=qH (fun W (hW:Ext w W)=>mY (hrr.ext hW) hst (xc:=xc) HX.out.1 (HX.out.2.1.ext hW) HX.out.2.2.1);have HAdd:=qH (fun W (hW:Ext w W)=>vH (hrr.ext hW) hst (xc:=xc) HX.out.1 (HX.out.2.1.ext hW) HX.out.2.2.1 (by omega));have HLen:=qH (fun W (hW:Ext w W)=>sK (H.out.1.ext hW) (by have:=H.out.2.1.ok.few;omega));obtain⟨c,ec⟩:=nm g.c;obtain⟨ar,ear⟩:=nm g.ar;obtain⟨ln,eln⟩:=nm g.LL.length;have hB2:Calls Tryz.prog 115 #[.pointer (some ⟨cb,0,none⟩),.string s] w (RetN w fun w' v=>v= .pointer (some ⟨c,0,none⟩)):=by rw [<-ec];have:=HB.out;rw [hf]at this;exact this
   have HB2:=qH hB2;rw [ec]at d0 d1 HFind HAdd;rw [ear]at d0 har64;rw [eln]at d1 hfew;have HE:=qH (nIX ec (nIX ear eln));clear hf hmem hname hget hrows hrr hok hst HB hB2 ec ear eln;by_cases h64:m≤64
   ·by_cases har:ar=m
    ·have q1:((ar:Int) !=(m:Int))=false:=by simp [har]
     have t1:decide ((m:Int)>64)=false:=by simp;omega
     have t2:decide (64< (m:Int))=false:=by simp;omega
     have HAr:=qH har;have hlen:ss.length=g.ar:=by rw [HE.out.2.1,HAr.out,HX.out.1]
     have hao:oS (bB G) s ss=true:=oM HF.out.2.1 hlen.symm;have HAo:=qH (nIX hlen hao);clear har hlen hao h64 hm8 har64;cases ht:bI ss with
     |false=>
      have HT2:=qH ht;rw [ht]at HT;clear ht;go_enter Tryz.func114,Tryz.ntmps114;go_wp2_with fail
      refine HN.out.mono ?_;rintro e w' ⟨rfl,rfl⟩;go_wp2_with fail
      refine HB2.out.mono ?_;rintro e w1 ⟨v,rfl,hk1,rfl⟩;have d01:=hk1.cell d0 id;have HK1:=qH hk1;clear hk1 d0 d1;go_wp2_with fail
      refine(HT.out w1 HK1.out).mono ?_;rintro e w' ⟨rfl,rfl⟩;go_wp2;go_ret2;exact cT H.out.1 H.out.2.1 HK1.out (oO HNM.out HAo.out.2 HT2.out) (by decide)
     |true=>
      have HT2:=qH ht;rw [ht]at HT;clear ht;cases hin:aX aB g.LL ss with
      |true=>
       have hRR:=iG (C:=bB G) (row:=ss) HNM.out HAo.out.2 HT2.out (by rw [HF.out.2.2.1,hin];simp);rw [HF.out.2.2.1,hin,if_neg (by simp)]at hRR;have hadd:=pE (n:=g.ar) (LL:=g.LL) (ss:=ss) HAo.out.1 HT2.out (by rw [hin];simp);have ef:lG g.LL ss=(below aB g.LL ss:Nat):=by unfold lG;rw [if_pos hin]
       rw [ef]at HFind;obtain⟨bl,ebl⟩:=nm (below aB g.LL ss);rw [ebl]at HFind;have HIn:=qH (nIX hRR (nIX hadd hin));have t1':decide ((bl:Int)<0)=false:=by simp
       clear hRR hadd hin ef ebl;go_enter Tryz.func114,Tryz.ntmps114;go_wp2_with fail
       refine HN.out.mono ?_;rintro e w' ⟨rfl,rfl⟩;go_wp2_with fail
       refine HB2.out.mono ?_;rintro e w1 ⟨v,rfl,hk1,rfl⟩;have d01:=hk1.cell d0 id;have HK1:=qH hk1;clear hk1 d0 d1;go_wp2_with fail
       refine(HT.out w1 HK1.out).mono ?_;rintro e w' ⟨rfl,rfl⟩;go_wp2_with fail
       refine(HFind.out w1 HK1.out).mono ?_;rintro e w2 ⟨v,rfl,hk2,rfl⟩;have HK2:=qH (HK1.out.trans hk2);clear hk2;go_wp2_with fail
       refine(HAdd.out w2 HK2.out).mono ?_;rintro e w3 ⟨v,rfl,hk3,hv,S',hS',hr3⟩;rw [HIn.out.2.1.1,HIn.out.2.2]at hv;subst hv;have HK3:=qH (nIX hk3 (nIX hS' hr3));clear hk3 hS' hr3;go_wp2;go_ret2;have hfin:=sL (ss:=ss) H.out.1 H.out.2.1 HF.out.1 (by rw [HIn.out.1,HIn.out.2.2]) HAo.out.1.symm HK2.out (by rw [HE.out.1];exact HK3.out.1) HK3.out.2.1 (by rw [HE.out.1];rw [<-HIn.out.2.1.2];exact HK3.out.2.2);rw [HIn.out.2.2]at hfin;exact hfin
      |false=>
       have ef:lG g.LL ss= -1:=by unfold lG;rw [if_neg (by simp [hin])]
       rw [ef]at HFind;have hir:aX aB (bO (bB G) s) ss=false:=by rw [HF.out.2.2.1];exact hin
       obtain⟨tot,etot⟩:=nm (aV (bB G));rw [etot]at HLen;by_cases hmany:262144≤tot
       ·have t3:decide ((tot:Int)≥262144)=true:=by simp;omega
        have t4:decide ((262144:Int)≤(tot:Int))=true:=by simp;omega
        have hR:=oP (C:=bB G) HNM.out HAo.out.2 HT2.out (by rw [etot];exact hmany) hir;have HR:=qH hR;clear hin ef hir etot hmany hR;go_enter Tryz.func114,Tryz.ntmps114;go_wp2_with fail
        refine HN.out.mono ?_;rintro e w' ⟨rfl,rfl⟩;go_wp2_with fail
        refine HB2.out.mono ?_;rintro e w1 ⟨v,rfl,hk1,rfl⟩;have d01:=hk1.cell d0 id;have HK1:=qH hk1;clear hk1 d0 d1;go_wp2_with fail
        refine(HT.out w1 HK1.out).mono ?_;rintro e w' ⟨rfl,rfl⟩;go_wp2_with fail
        refine(HFind.out w1 HK1.out).mono ?_;rintro e w2 ⟨v,rfl,hk2,rfl⟩;have HK2:=qH (HK1.out.trans hk2);clear hk2;go_wp2_with fail
        refine(HLen.out w2 HK2.out).mono ?_;rintro e w3 ⟨v,rfl,hk3,rfl⟩;have HK3:=qH (HK2.out.trans hk3);clear hk3;go_wp2;go_ret2;exact cT H.out.1 H.out.2.1 HK3.out HR.out (by decide)
       ·have t3:decide ((tot:Int)≥262144)=false:=by simp;omega
        have t4:decide ((262144:Int)≤(tot:Int))=false:=by simp;omega
        have hRR:=iG (C:=bB G) (row:=ss) HNM.out HAo.out.2 HT2.out (by rw [etot];omega);rw [HF.out.2.2.1,hin]at hRR;by_cases hfull:65536≤ln
        ·have t5:decide ((ln:Int)≥65536)=true:=by simp;omega
         have t6:decide ((65536:Int)≤(ln:Int))=true:=by simp;omega
         rw [if_pos ⟨by rw [HE.out.2.2];exact hfull,rfl⟩]at hRR;have HR:=qH hRR;clear hin ef hir etot hmany hRR hfull hfew;go_enter Tryz.func114,Tryz.ntmps114;go_wp2_with fail
         refine HN.out.mono ?_;rintro e w' ⟨rfl,rfl⟩;go_wp2_with fail
         refine HB2.out.mono ?_;rintro e w1 ⟨v,rfl,hk1,rfl⟩;have d01:=hk1.cell d0 id;have HK1:=qH hk1;clear hk1 d0;go_wp2_with fail
         refine(HT.out w1 HK1.out).mono ?_;rintro e w' ⟨rfl,rfl⟩;go_wp2_with fail
         refine(HFind.out w1 HK1.out).mono ?_;rintro e w2 ⟨v,rfl,hk2,rfl⟩;have HK2:=qH (HK1.out.trans hk2);clear hk2;go_wp2_with fail
         refine(HLen.out w2 HK2.out).mono ?_;rintro e w3 ⟨v,rfl,hk3,rfl⟩;have HK3:=qH (HK2.out.trans hk3);have d13:=HK3.out.cell d1 id;clear hk3 d1;go_wp2;go_ret2;exact cT H.out.1 H.out.2.1 HK3.out HR.out (by decide)
        ·have t5:decide ((ln:Int)≥65536)=false:=by simp;omega
         have t6:decide ((65536:Int)≤(ln:Int))=false:=by simp;omega
         rw [if_neg (fun h=>hfull (by rw [<-HE.out.2.2];exact h.1))]at hRR;have hadd:=pE (n:=g.ar) (LL:=g.LL) (ss:=ss) HAo.out.1 HT2.out (fun h=>hfull (by rw [<-HE.out.2.2];exact h.1));have HIn:=qH (nIX hRR (nIX hadd hin));clear hin ef hir etot hmany hRR hfull hfew hadd;go_enter Tryz.func114,Tryz.ntmps114;go_wp2_with fail
         refine HN.out.mono ?_;rintro e w' ⟨rfl,rfl⟩;go_wp2_with fail
         refine HB2.out.mono ?_;rintro e w1 ⟨v,rfl,hk1,rfl⟩;have d01:=hk1.cell d0 id;have HK1:=qH hk1;clear hk1 d0;go_wp2_with fail
         refine(HT.out w1 HK1.out).mono ?_;rintro e w' ⟨rfl,rfl⟩;go_wp2_with fail
         refine(HFind.out w1 HK1.out).mono ?_;rintro e w2 ⟨v,rfl,hk2,rfl⟩;have HK2:=qH (HK1.out.trans hk2);clear hk2;go_wp2_with fail
         refine(HLen.out w2 HK2.out).mono ?_;rintro e w3 ⟨v,rfl,hk3,rfl⟩;have HK3:=qH (HK2.out.trans hk3);have d13:=HK3.out.cell d1 id;clear hk3 d1;go_wp2_with fail
         refine(HAdd.out w3 HK3.out).mono ?_;rintro e w4 ⟨v,rfl,hk4,hv,S',hS',hr4⟩;rw [HIn.out.2.1.1,HIn.out.2.2]at hv;subst hv;have HK4:=qH (nIX hk4 (nIX hS' hr4));clear hk4 hS' hr4;go_wp2;go_ret2;have hfin:=sL (ss:=ss) H.out.1 H.out.2.1 HF.out.1 (by rw [HIn.out.1,HIn.out.2.2]) HAo.out.1.symm HK3.out (by rw [HE.out.1];exact HK4.out.1) HK4.out.2.1 (by rw [HE.out.1];rw [<-HIn.out.2.1.2];exact HK4.out.2.2);rw [HIn.out.2.2]at hfin;exact hfin
    ·have q1:((ar:Int) !=(m:Int))=true:=by rw [bne_iff_ne];omega
     have t1:decide ((m:Int)>64)=false:=by simp;omega
     have t2:decide (64< (m:Int))=false:=by simp;omega
     have hR:=pO (row:=ss) HNM.out HF.out.2.1 (by rw [<-HX.out.1];show g.ar≠m;rw [HE.out.2.1];exact har);have HR:=qH hR;clear har hR h64 hm8 har64 d1;go_enter Tryz.func114,Tryz.ntmps114;go_wp2_with fail
     refine HN.out.mono ?_;rintro e w' ⟨rfl,rfl⟩;go_wp2_with fail
     refine HB2.out.mono ?_;rintro e w1 ⟨v,rfl,hk1,rfl⟩;have d01:=hk1.cell d0 id;have HK1:=qH hk1;clear hk1 d0;go_wp2;go_ret2;exact cT H.out.1 H.out.2.1 HK1.out HR.out (by decide)
   ·have t1:decide ((m:Int)>64)=true:=by simp;omega
    have t2:decide (64< (m:Int))=true:=by simp;omega
    have hR:=pO (row:=ss) HNM.out HF.out.2.1 (by rw [<-HX.out.1];show g.ar≠m;rw [HE.out.2.1];omega);have HR:=qH hR;clear hR h64 hm8 har64 d0 d1;go_enter Tryz.func114,Tryz.ntmps114;go_wp2_with fail
    refine HN.out.mono ?_;rintro e w' ⟨rfl,rfl⟩;go_wp2_with fail
    refine HB2.out.mono ?_;rintro e w1 ⟨v,rfl,hk1,rfl⟩;have HK1:=qH hk1;clear hk1;go_wp2;go_ret2;exact cT H.out.1 H.out.2.1 HK1.out HR.out (by decide)
  |none=>
   obtain⟨hget,hno⟩:=kH hf;have HB:=qH (gQ H.out.1 s);rw [hf]at HB;have HB2:=qH (show Calls Tryz.prog 115 #[.pointer (some ⟨cb,0,none⟩),.string s] w (RetN w fun w' v=>v= .pointer none)from HB.out);have HLen:=qH (fun W (hW:Ext w W)=>sK (H.out.1.ext hW) (by have:=H.out.2.1.ok.few;omega));have HF:=qH (nIX hf (nIX hget hno));clear hf hget hno HB;by_cases h64:m≤64
   ·have t1:decide ((m:Int)>64)=false:=by simp;omega
    have t2:decide (64< (m:Int))=false:=by simp;omega
    have hss:ss.length≤64:=by rw [<-HX.out.1];exact h64
    have hao:oS (bB G) s ss=true:=uH HF.out.2.1 hss;have HAo:=qH (nIX hss hao);clear hss hao h64 hm8;cases ht:bI ss with
    |false=>
     have HT2:=qH ht;rw [ht]at HT;clear ht;go_enter Tryz.func114,Tryz.ntmps114;go_wp2_with fail
     refine HN.out.mono ?_;rintro e w' ⟨rfl,rfl⟩;go_wp2_with fail
     refine HB2.out.mono ?_;rintro e w1 ⟨v,rfl,hk1,rfl⟩;have HK1:=qH hk1;clear hk1;go_wp2_with fail
     refine(HT.out w1 HK1.out).mono ?_;rintro e w' ⟨rfl,rfl⟩;go_wp2;go_ret2;exact cT H.out.1 H.out.2.1 HK1.out (oO HNM.out HAo.out.2 HT2.out) (by decide)
    |true=>
     have HT2:=qH ht;rw [ht]at HT;clear ht;have hir:aX aB (bO (bB G) s) ss=false:=by rw [fZ HF.out.2.1];rfl
     obtain⟨tot,etot⟩:=nm (aV (bB G));rw [etot]at HLen;by_cases hmany:262144≤tot
     ·have t3:decide ((tot:Int)≥262144)=true:=by simp;omega
      have t4:decide ((262144:Int)≤(tot:Int))=true:=by simp;omega
      have HR:=qH (oP (C:=bB G) HNM.out HAo.out.2 HT2.out (by rw [etot];exact hmany) hir);clear hir etot hmany;go_enter Tryz.func114,Tryz.ntmps114;go_wp2_with fail
      refine HN.out.mono ?_;rintro e w' ⟨rfl,rfl⟩;go_wp2_with fail
      refine HB2.out.mono ?_;rintro e w1 ⟨v,rfl,hk1,rfl⟩;have HK1:=qH hk1;clear hk1;go_wp2_with fail
      refine(HT.out w1 HK1.out).mono ?_;rintro e w' ⟨rfl,rfl⟩;go_wp2_with fail
      refine(mX _ w1).mono ?_;rintro e w' ⟨rfl,rfl⟩;go_wp2_with fail
      refine(HLen.out w1 HK1.out).mono ?_;rintro e w3 ⟨v,rfl,hk3,rfl⟩;have HK3:=qH (HK1.out.trans hk3);clear hk3;go_wp2;go_ret2;exact cT H.out.1 H.out.2.1 HK3.out HR.out (by decide)
     ·have t3:decide ((tot:Int)≥262144)=false:=by simp;omega
      have t4:decide ((262144:Int)≤(tot:Int))=false:=by simp;omega
      have hRR:=iG (C:=bB G) (row:=ss) HNM.out HAo.out.2 HT2.out (by rw [etot];omega);rw [fZ HF.out.2.1,if_neg (by simp)]at hRR;have hadd:=pE (n:=ss.length) (LL:= []) (ss:=ss) rfl HT2.out (by simp);have HIn:=qH (nIX hRR hadd);clear hir etot hmany hRR hadd;have hcb:cb<w.heap.size:=by obtain⟨na,nc,aa,ac,hB,_⟩:=H.out.1.blk;exact hB.lt
      have HCb:=qH hcb;clear hcb;go_enter Tryz.func114,Tryz.ntmps114;go_wp2_with fail
      refine HN.out.mono ?_;rintro e w' ⟨rfl,rfl⟩;go_wp2_with fail
      refine HB2.out.mono ?_;rintro e w1 ⟨v,rfl,hk1,rfl⟩;have HK1:=qH hk1;clear hk1;go_wp2_with fail
      refine(HT.out w1 HK1.out).mono ?_;rintro e w' ⟨rfl,rfl⟩;go_wp2_with fail
      refine(mX _ w1).mono ?_;rintro e w' ⟨rfl,rfl⟩;go_wp2_with fail
      refine(HLen.out w1 HK1.out).mono ?_;rintro e w3 ⟨v,rfl,hk3,rfl⟩;have HK3:=qH (HK1.out.trans hk3);clear hk3;go_wp2_with fail
      obtain⟨gc,egc⟩:=nm w3.heap.size;obtain⟨w4,ew4⟩:=nm (w3.alloc (.cells #[.int .i64 m,.slice none 0 0] 149));rw [egc,ew4];have hz3:=HK3.out.size;have hB4:Blk w4 gc [.int .i64 m,.slice none 0 0] 149:=by rw [<-ew4,<-egc];exact Blk.new w3 [_,_] _
      have hk4:Ext w w4:=by rw [<-ew4];exact HK3.out.alloc _
      have hr4:RefRows S w4 gc m []:=⟨none,0,hB4,RowsIn.nil _ _,⟨Nat.le_refl _,by decide,.inl ⟨rfl,rfl⟩⟩,fun h=>by have:=H.out.1.inS _ h;omega,fun k h=>Nat.lt_of_lt_of_le (H.out.1.inS k h) hk4.size,by simp⟩;have HK4:=qH (nIX hk4 (nIX hr4 (show w.heap.size≤gc by omega)));have HP:=qH (sJ (H.out.1.ext hk4) H.out.2.1.names ⟨s,gc,m,[]⟩ hr4 (fun x hx e=>by have:=(H.out.1.rows x hx).lt;simp only at e;omega) (fun e=>by have:=HCb.out;simp only at e;omega) H.out.2.2);clear hB4 hk4 hr4 ew4 egc hz3;refine HP.out.mono ?_;rintro e w5 ⟨v,rfl,hk5,S2,hS2,hb5⟩;have hgm:(⟨s,gc,m,[]⟩:REnt)∈eE REnt.name G ⟨s,gc,m,[]⟩:=(fE REnt.name G _).mem_iff.2 (by simp);have hr5:RefRows S2 w5 gc m []:=hb5.rows _ hgm;have hx5:CellsAt w5 xo (strs ss):=by
       by_cases e0:ss= []
       ·rw [e0];exact CellsAt.nil _ _
       ·exact(HX.out.2.1.ext HK4.out.1).kp hk5 fun a e f=>HX.out.2.2.2 e0 a e f
      have HK5:=qH (nIX hk5 (nIX hS2 (nIX hb5 (nIX hr5 hx5))));clear hk5 hS2 hb5 hr5 hx5 hgm;go_wp2_with fail
      refine(vH HK5.out.2.2.2.1 fV (xc:=xc) HX.out.1 HK5.out.2.2.2.2 HX.out.2.2.1 (by simp)).mono ?_;rintro e w6 ⟨v,rfl,hk6,hv,S',hS',hr6⟩;have hm2:=HX.out.1;rw [hm2,HIn.out.2.1]at hv;subst hv;have HK6:=qH (nIX hk6 (nIX hS' hr6));clear hk6 hS' hr6 hm2;go_wp2;go_ret2;have hm2:=HX.out.1;have hr6:=HK6.out.2.2;have hb5:=HK5.out.2.2.1;have hr4:=HK4.out.2.1;rw [hm2]at hr4 hb5 hr6;rw [HIn.out.2.2]at hr6;exact aCd H.out.1 H.out.2.1 HF.out.1 HNM.out HAo.out.1 HIn.out.1 HK4.out.1 HK4.out.2.2 hr4 HK5.out.1 HK5.out.2.1 hb5 HK6.out.1 HK6.out.2.1 hr6
   ·have t1:decide ((m:Int)>64)=true:=by simp;omega
    have t2:decide (64< (m:Int))=true:=by simp;omega
    have HR:=qH (aAd (row:=ss) HNM.out HF.out.2.1 (by rw [<-HX.out.1];omega));clear h64 hm8;go_enter Tryz.func114,Tryz.ntmps114;go_wp2_with fail
    refine HN.out.mono ?_;rintro e w' ⟨rfl,rfl⟩;go_wp2_with fail
    refine HB2.out.mono ?_;rintro e w1 ⟨v,rfl,hk1,rfl⟩;have HK1:=qH hk1;clear hk1;go_wp2;go_ret2;exact cT H.out.1 H.out.2.1 HK1.out HR.out (by decide)
end
theorem aHr{C D:List bA}(hC:(C.map (·.1)).Nodup)(hD:(D.map (·.1)).Nodup)(h:SameC C D):C.length=D.length:=by have h1:=(jR C).length_eq;have h2:=(jR D).length_eq;rw [vR hC hD h]at h1;rw [List.length_map]at h1 h2;omega
theorem aIk(C:List bA)(s:ByteArray)(a:Int):(cW C s a).length≤C.length+1:=by
 unfold cW;split
 ·simp
 ·omega
theorem aKl{C:List bA}{s:ByteArray}(row:List ByteArray)(h:∃v,bU C s=some v):(gW C s row).length=C.length/\∃v,bU (gW C s row) s=some v:=by
 obtain⟨v,hv⟩:=h;unfold gW;split
 ·refine⟨?_,(row.length,bN aB (bO C s) row),by rw [wM,if_pos rfl]⟩;unfold iV;rw [hv];simp
 ·exact⟨rfl,v,hv⟩
theorem aK6(G:List REnt):(bB G).length=G.length:=by unfold bB;simp
def aD3(w:World)(L:List dW)(w':World)(v:Value):Prop:=
 ((cS [] L).2=0->∃cb S G,v= .tuple #[.pointer (some ⟨cb,0,none⟩),.int .i64 0]/\RefB S w' cb G/\RefOk G/\SameC (bB G) (cS [] L).1/\G.length≤L.length/\(∀k,S k->w.heap.size≤k)/\∀k,qY cb G k->w.heap.size≤k)/\
 ((cS [] L).2≠0->v= .tuple #[.pointer none,.int .i64 (((cS [] L).2:Nat):Int)])
structure MyRef(w0:World)(S:Nat->Prop)(w:World)(cb:Nat)(G:List REnt)(C:List bA):Prop where
 base:RefB S w cb G
 ok:RefOk G
 same:SameC (bB G) C
 okC:BaseOk C
 ext:Ext w0 w
 pool:∀k,S k->w0.heap.size≤k
 own:∀k,qY cb G k->w0.heap.size≤k
theorem MyRef.len{w0 w:World}{S:Nat->Prop}{cb:Nat}{G:List REnt}{C:List bA}(h:MyRef w0 S w cb G C):G.length=C.length:=by rw [<-aK6,aHr h.ok.ok.nodup h.okC.nodup h.same]
theorem MyRef.drew{w0 w w':World}{S:Nat->Prop}{cb:Nat}{G:List REnt}{C:List bA}(h:MyRef w0 S w cb G C)(hk:Ext w w'):MyRef w0 S w' cb G C:=
 ⟨h.base.ext hk,h.ok,h.same,h.okC,h.ext.trans hk,h.pool,h.own⟩
theorem MyRef.next{w0 w w':World}{S:Nat->Prop}{cb:Nat}{G:List REnt}{C D C':List bA}{F:Nat->Prop}(h:MyRef w0 S w cb G C)(hk:Kp F w w')(hF:∀k,F k->qY cb G k)(ht:RefBTo S w cb G C' w')(hs:SameC C' D)(hD:BaseOk D):∃S' G',MyRef w0 S' w' cb G' D:=by
 obtain⟨S',G',h1,h2,h3,h4,h5,h6⟩:=ht;have hz:=h.ext.size;refine⟨S',G',h2,h3,h4.trans hs,hD,h.ext.trans' hk fun k hk f=>absurd (h.own k (hF k f)) (by omega),fun k hk=>?_,fun k hk=>?_⟩
 ·rcases h1.2 k hk with h|h'
  ·exact MyRef.pool ‹_› k h
  ·omega
 ·rcases h6 k hk with h'|h'
  ·exact h.own k h'
  ·omega
def aJo(w0:World)(cb:Nat)(L:List dW)(n:Nat)(iv:Value)(w:World):Prop:=∃i:Nat,i≤n/\iv= .int .i64 i/\Hid (∃S G C,MyRef w0 S w cb G C/\C.length≤i/\cS C (L.drop i)=cS [] L)
def aJp(w0:World)(cb:Nat)(q:dW)(R:List bA×Nat)(i m:Nat)(jv:Value)(w:World):Prop:=∃j:Nat,j≤m/\jv= .int .i64 j/\Hid (∃S G C,MyRef w0 S w cb G C/\C.length≤i+1/\(∃v,bU C q.1=some v)/\eV C q.1 (q.2.2.1.drop j)=R)
set_option maxHeartbeats 4000000 in
theorem aCb(L:List dW)(ao:Option Addr)(n cap:Nat)(w:World)(S0:Nat->Prop)(hn:n=L.length)(hL:RelsIn S0 w ao L)(hl:n≤2097152)(hr:∀q∈L,q.2.2.1.length≤1048576):
 Calls Tryz.prog 77 #[.slice ao n cap] w (RetN w (aD3 w L)):=by
 have HN:=qH hn;have HL:=qH hL;have HR:=qH hr;clear hn hL hr;go_enter Tryz.func77,Tryz.ntmps77;go_wp2_with fail
 refine(aCc (fun _=>False) w (fun _ x=>x.elim)).mono ?_;rintro e w1 ⟨v,rfl,hk1,rfl,hB⟩;obtain⟨cb,ecb⟩:=nm w.heap.size;have HM0:=qH (show MyRef w (fun _=>False) w1 cb [] []from
  {base:=by rw [<-ecb];exact hB
   ok:=⟨vL,List.Pairwise.nil⟩
   same:=SameC.refl _
   okC:=vL
   ext:=hk1,pool:=fun _ x=>x.elim
   own:=fun k hk=>by
    rcases hk with rfl|⟨e,he,_⟩
    ·omega
    ·simp at he})
 rw [ecb];clear hB hk1 ecb;go_wp2;go_loopw [5] (fun iv wr=>aJo w cb L n iv wr) (fun iv _=>n- (intOf iv).toNat)
 case atStart=>exact⟨0,Nat.zero_le _,rfl,_,[],[],HM0.out,Nat.le_refl _,rfl⟩
 case round=>
  clear HM0;obtain⟨i,hi,rfl,hin⟩:=hrel;obtain⟨S,G,C,hM,hlen,hF⟩:=hin.out;have HM:=qH hM;have HF:=qH (nIX hF hlen);clear hin hM hF hlen;by_cases hlt:i<n
  ·obtain⟨q,hq⟩:∃q,L[i]?=some q:=⟨_,qG (by rw [<-HN.out];exact hlt)⟩;obtain⟨b,off,ra,rcap,eao,hSb,c0,c1,c2,hrl,hrm,hrows⟩:=HL.out i q hq;subst eao;obtain⟨s,es⟩:=nm q.1;obtain⟨a,ea⟩:=nm q.2.1;obtain⟨m,em⟩:=nm q.2.2.1.length;rw [es]at c0;rw [ea]at c1;rw [em]at c2 hrl;have hm1:m≤1048576:=by rw [<-em];exact HR.out q (List.mem_of_getElem? hq)
   have HQ:=qH (nIX hq (nIX es (nIX ea em)));have HRows:=qH hrows;have HC:=qH (fun W (hW:Ext w W)=>(⟨hW.cell c0 id,hW.cell c1 id,hW.cell c2 id⟩:W.cell? ⟨b,off+i*3,none⟩=some (.string s)/\W.cell? ⟨b,off+i*3+1,none⟩=some (.int .i64 a)/\W.cell? ⟨b,off+i*3+2,none⟩=some (.slice ra m rcap)));clear hq es ea em hrows hSb c0 c1 c2;obtain⟨c0,c1,c2⟩:=HC.out wr HM.out.ext;go_wp2;go_still_tail 11,(by kernel_rfl)
   go_wp2_with fail
   obtain⟨wd,ewd⟩:=nm wr.drew;rw [ewd];have HMd:=qH (show MyRef w S wd cb G C by rw [<-ewd];exact HM.out.drew (Kp.refl wr).drew);clear ewd;refine(aAq HMd.out.base HMd.out.ok s a (by rw [HMd.out.len];have:=HF.out.2;omega)).mono ?_;rintro e w2 ⟨v,rfl,hk2,rfl,hT2⟩;obtain⟨S1,G1,hM1⟩:=HMd.out.next hk2 (fun k e=> .inl e) hT2 (aEm HMd.out.same s a) (aAv HMd.out.okC s a)
   have HM1:=qH hM1;clear hk2 hT2 hM1 c0 c1 c2;rw [uS HMd.out.same];obtain⟨d,ed⟩:=nm (cV C s a);rw [ed];have ED:=qH ed;clear ed;by_cases hd:d=0
   ·have q1:((d:Int) !=0)=false:=by simp [hd]
    have HD:=qH hd;clear hd;have hdr:(L.drop i)=q::L.drop (i+1):=drop_at HQ.out.1;have HDr:=qH hdr;clear hdr;go_wp2;clear q1;generalize hw5:w2=w5 at*;clear hw5;go_loopw [7] (fun jv wk=>aJp w cb q (eV (cW C s a) s q.2.2.1) i m jv wk) (fun jv _=>m- (intOf jv).toNat)
    case atStart=>
     have h0:=aL4 (C:=C) (s:=s) (a:=a) (by rw [ED.out];exact HD.out);exact⟨0,Nat.zero_le _,rfl,S1,G1,_,HM1.out,by have:=aIk C s a;have:=HF.out.2;omega,by obtain⟨LL,e,_⟩:=h0;exact⟨_,by rw [HQ.out.2.1];exact e⟩,by rw [HQ.out.2.1];rfl⟩
    case round=>
     clear HM1 HM HMd;obtain⟨j,hj,rfl,hin⟩:=hrel;obtain⟨S2,G2,C2,hM2,hl2,hv2,hA2⟩:=hin.out;have HM2:=qH (nIX hM2 (nIX hl2 (nIX hv2 hA2)));clear hin hM2 hl2 hv2 hA2;obtain⟨c0,c1,c2⟩:=HC.out wr HM2.out.1.ext;by_cases hlt2:j<m
     ·obtain⟨ss,hss⟩:∃ss,q.2.2.1[j]?=some ss:=⟨_,qG (by rw [HQ.out.2.2.2];exact hlt2)⟩;obtain⟨g,o,xa,xcap,era,d0,d1,d2,d3⟩:=HRows.out.get hss;subst era;obtain⟨k,ek⟩:=nm ss.length;rw [ek]at d0;have d0w:=d0;replace d0:=HM2.out.1.ext.cell d0 id;obtain⟨c0w,_,c2w⟩:=HC.out w (Kp.refl w);have HMd:=qH (HM2.out.1.drew (Kp.refl wr).drew);have HSS:=qH (nIX hss ek);have HRow:=qH (nIX d1 (nIX d2 d3));clear hss ek d1 d2 d3;go_wp2;have HCd:=qH (fun W (hW:Ext w W)=>(⟨hW.cell c0w id,hW.cell c2w id,hW.cell d0w id⟩:W.cell? ⟨b,off+i*3,none⟩=some (.string s)/\W.cell? ⟨b,off+i*3+2,none⟩=some (.slice (some ⟨g,o,none⟩) m rcap)/\W.cell? ⟨g,o+j,none⟩=some (.slice xa k xcap)));clear c0w c2w d0w;refine aY (fun w':World=>w'.cell? ⟨b,off+i*3,none⟩=some (.string s)/\w'.cell? ⟨b,off+i*3+2,none⟩=some (.slice (some ⟨g,o,none⟩) m rcap)/\w'.cell? ⟨g,o+j,none⟩=some (.slice xa k xcap)) [] (by kernel_rfl) (HCd.out _ (HM2.out.1.ext.drew)) (fun hHeld=>?_);refine eFX 0 ?_;refine eFX 1 ?_;refine eFX 2 ?_;refine eIX 3 ?_;refine eFX 4 ?_;refine eIX 5 ?_;refine eFX 6 ?_;refine eFX 7 ?_;refine eIX 8 ?_;refine eFX 9 ?_;refine eIX 10 ?_;refine eFX 11 ?_;refine eIX 12 ?_;refine eIX 13 ?_;refine eTX 14 fun K hK=>?_;go_simp
      (refine(aAr HMd.out.base HMd.out.ok s (xo:=xa) (m:=k) (xc:=xcap) (ss:=ss) HSS.out.2.symm (HRow.out.1.ext HMd.out.ext) HRow.out.2.1 (fun hne a e ho=>by have h1:=HMd.out.own _ (.inl ho);have h2:=cells_lt HRow.out.1 hne a e;omega) (by rw [HMd.out.len];have:=HM2.out.2.1;omega)).mono ?_;rintro e w3 ⟨v,rfl,hk3,rfl,hT3⟩;obtain⟨S3,G3,hM3⟩:=HMd.out.next hk3 (fun k e=>e) hT3 (aHs HMd.out.ok.ok HMd.out.okC HMd.out.same s ss) (rO HMd.out.okC s ss);have HM3:=qH hM3;clear hk3 hT3 hM3;rw [yO HMd.out.ok.ok HMd.out.okC HMd.out.same];obtain⟨x1,ex1⟩:=nm ((dB C2 s ss).1);obtain⟨x2,ex2⟩:=nm ((dB C2 s ss).2);rw [ex1,ex2];have EX:=qH ex2;clear ex1 ex2)
      go_wp2_with fail
      refine hK.out _ _ (HCd.out _ HM3.out.ext) fun hHeld=>?_;clear hK K;refine eFX 15 ?_;refine eFX 16 ?_;refine eFX 17 ?_;refine eFX 18 ?_;refine eFX 19 ?_;refine aL (by kernel_rfl) ?_ _;clear hHeld;have hdj:q.2.2.1.drop j=ss::q.2.2.1.drop (j+1):=drop_at HSS.out.1;have HDj:=qH hdj;clear hdj;by_cases hx:x2=0
      ·have q1:((x2:Int) !=0)=false:=by simp [hx]
       have HX:=qH hx;clear hx;go_wp2;go_roundw
       case rel=>
        have hla:=aKl (C:=C2) (s:=s) ss (by rw [<-HQ.out.2.1];exact HM2.out.2.2.1);refine⟨j+1,by omega,nMX,S3,G3,_,HM3.out,by rw [hla.1];exact HM2.out.2.1,by rw [HQ.out.2.1];exact hla.2,?_⟩;rw [<-HM2.out.2.2.2,HDj.out,HQ.out.2.1];exact(aAe (by rw [EX.out];exact HX.out)).symm
       case measure=>simp [intOf];omega
      ·have q1:((x2:Int) !=0)=true:=by simp;omega
       have HX:=qH hx;clear hx;go_wp2;go_ret2;have hall:=HM2.out.2.2.2;rw [HDj.out,HQ.out.2.1,xN (by rw [EX.out];exact HX.out),EX.out]at hall;have hfr:cS [] L=(C2,x2):=by rw [<-HF.out.1,HDr.out,aDa (by rw [HQ.out.2.1,HQ.out.2.2.1,ED.out];exact HD.out) (by rw [HQ.out.2.1,HQ.out.2.2.1,<-hall];exact HX.out),HQ.out.2.1,HQ.out.2.2.1,<-hall]
       exact RetN.mk HM3.out.ext ⟨fun h0=>by rw [hfr]at h0;exact absurd h0 HX.out,fun _=>by rw [hfr];rfl⟩
     ·obtain rfl:j=m:=by omega
      have hall:=HM2.out.2.2.2;rw [List.drop_of_length_le (by rw [HQ.out.2.2.2];exact Nat.le_refl _)]at hall;have hall':eV (cW C s a) s q.2.2.1=(C2,0):=hall.symm;have HAll:=qH hall';clear hall hall';go_wp2;go_roundw
      case rel=>
       refine⟨i+1,by omega,nMX,S2,G2,C2,HM2.out.1,HM2.out.2.1,?_⟩;rw [<-HF.out.1,HDr.out,aG4 (by rw [HQ.out.2.1,HQ.out.2.2.1,ED.out];exact HD.out) (by rw [HQ.out.2.1,HQ.out.2.2.1,HAll.out]),HQ.out.2.1,HQ.out.2.2.1,HAll.out]
      case measure=>simp [intOf];omega
   ·have q1:((d:Int) !=0)=true:=by simp;omega
    have HD:=qH hd;clear hd;go_wp2;go_ret2;have hfr:cS [] L=(C,d):=by rw [<-HF.out.1,drop_at HQ.out.1,aDb (by rw [HQ.out.2.1,HQ.out.2.2.1,ED.out];exact HD.out),HQ.out.2.1,HQ.out.2.2.1,ED.out]
    exact RetN.mk HM1.out.ext ⟨fun h0=>by rw [hfr]at h0;exact absurd h0 HD.out,fun _=>by rw [hfr];rfl⟩
  ·obtain rfl:i=n:=by omega
   have hfr:cS [] L=(C,0):=by rw [<-HF.out.1,List.drop_of_length_le (by rw [<-HN.out];exact Nat.le_refl _)];rfl
   have HFr:=qH hfr;clear hfr;go_wp2;go_ret2;exact RetN.mk HM.out.ext ⟨fun _=>⟨cb,S,G,rfl,HM.out.base,HM.out.ok,by rw [HFr.out];exact HM.out.same,by rw [HM.out.len,<-HN.out];exact HF.out.2,HM.out.pool,HM.out.own⟩,fun h0=>absurd (by rw [HFr.out]) h0⟩
end
section
open Go.RowKit Go.Shelf
attribute [local go_sem] Oper.semAt_some
theorem aB5{P:Program}{t e:TypeId}{bytes:Nat}{z:Value}(E:cL P t e 1 bytes z){lo:Nat}{v x:Value}{n:Nat}{xs:List Value}{w1:World}{ops:Array Oper}{rest:List Oper}{o:Oper}{a:Act}{Q:Exit->Act->World->Prop}
 (h:Row w1 e 1 v n xs fun g=>lo≤g)(hlo:lo≤w1.heap.size)(hgd:o.guard=none)(s y:Operand)
 (ho:o.op= .call {callee:= .builtin .append,args:=#[s,y],argTypes:=#[t,t]})(hs:a.eval s=v)(hy:a.eval y= .slice (some ⟨w1.heap.size,0,none⟩) 1 1)(hx:x.oneCell'=true)(hb:(n+1)*bytes≤140737488355328)(hn:n≤1048576*1048576)
 (H:∀v' w',(∃ao cap,v'= .slice ao (n+1) cap)->Row w' e 1 v' (n+1) (xs++ [x]) (fun g=>lo≤g)->Kp (fun g=>v.ownBlock=some g) w1 w'->(∀g,v'.ownBlock=some g->v.ownBlock=some g\/w1.heap.size≤g)->wpList P ops Q rest (a.put o.dst v') w'):
 wpList P ops Q (o::rest) a (w1.alloc (.cells #[x] e)):=by
 have hex:Ext w1 (w1.alloc (.cells #[x] e)):=(Kp.refl w1).alloc _;have h2:=h.ext hex;refine rA E hgd s y ho (Kp.refl (F:=fun g=>v.ownBlock=some g) _) (M:=fun g=>v.ownBlock=some g\/ (w1.alloc (.cells #[x] e)).heap.size≤g) (fun g h h'=>by rcases h with h|h;exact h;omega) (fun g h=> .inr h) hs
  (Row.mono h2.own fun g h=> .inl h) hy (m:=1) (news:= [x]) rfl (CellsAt.one w1 _ _) (by simp [hx]) hb (by unfold maxLen;omega) ?_
 intro v' w' hr' hk' _ _;obtain⟨ao,cap,ev,_⟩:=hr'.shape;have hnew:=hr'.block;exact H v' w' ⟨ao,cap,ev⟩ (hr'.mono fun g hg=>by
  rcases hg with hg|hg
  ·exact h2.block g hg
  ·exact Nat.le_trans hlo (Nat.le_trans hex.size hg)) (hex.kp.trans hk') fun g hg=>(hnew g hg).imp id fun h=>Nat.le_trans hex.size h
def RelsLL(w:World)(ao:Option Addr)(Ls:List (List dW)):Prop:=∀(i:Nat) (L:List dW),Ls[i]?=some L->∃b off la lc,ao=some ⟨b,off,none⟩/\w.cell? ⟨b,off+i,none⟩=some (.slice la L.length lc)/\RelsIn TT w la L
theorem RelsLL.ext{w w':World}{ao:Option Addr}{Ls:List (List dW)}(h:RelsLL w ao Ls)(hx:Ext w w'):RelsLL w' ao Ls:=fun i L hL=>by obtain⟨b,off,la,lc,e,h1,h2⟩:=h i L hL;exact⟨b,off,la,lc,e,hx.cell h1 id,h2.ext hx⟩
abbrev mF:=(Value×Value×Nat×Nat)×List dW
structure BothAt(W:World)(p:mF):Prop where
 own:∃bb r S E,p.1.1= .pointer (some ⟨bb,0,none⟩)/\BaseAt S W bb r E/\aT E=(cS [] p.2).1/\(∀k,S k->p.1.2.2.1≤k/\k<p.1.2.2.2)/\∀k,eJ bb r E k->p.1.2.2.1≤k/\k<p.1.2.2.2
 ref:∃cb S G,p.1.2.1= .pointer (some ⟨cb,0,none⟩)/\RefB S W cb G/\SameC (bB G) (cS [] p.2).1/\(∀k,S k->p.1.2.2.1≤k/\k<p.1.2.2.2)/\∀k,qY cb G k->p.1.2.2.1≤k/\k<p.1.2.2.2
 ok:(cS [] p.2).2=0
theorem BothAt.kp{W W':World}{p:mF}{F:Nat->Prop}(h:BothAt W p)(hk:Kp F W W')(hF:∀k,F k->¬(p.1.2.2.1≤k/\k<p.1.2.2.2)):BothAt W' p:=by obtain⟨⟨bb,r,S,E,e1,h1,h2,h3,h4⟩,⟨cb,U,G,e2,g1,g2,g3,g4⟩,h5⟩:=h;exact⟨⟨bb,r,S,E,e1,h1.kp hk (fun k hf ho=>hF k hf (h4 k ho)) (fun k hf ho=>hF k hf (h3 k ho)),h2,h3,h4⟩,⟨cb,U,G,e2,g1.kp hk (fun k hf ho=>hF k hf (g4 k ho)) (fun k hf ho=>hF k hf (g3 k ho)),g2,g3,g4⟩,h5⟩
structure BothsAt(w0 W:World)(Ls:List (List dW))(ps:List mF)(av bv:Value):Prop where
 of:ps.map (·.2)=Ls
 one:∀p∈ps,BothAt W p/\w0.heap.size≤p.1.2.2.1/\p.1.2.2.2≤W.heap.size
 apart:ps.Pairwise fun p q=>p.1.2.2.2≤q.1.2.2.1
 la:Row W 29 1 av ps.length (ps.map (·.1.1)) fun g=>w0.heap.size≤g
 lb:Row W 84 1 bv ps.length (ps.map (·.1.2.1)) fun g=>w0.heap.size≤g
 offA:∀g,av.ownBlock=some g->∀p∈ps,¬(p.1.2.2.1≤g/\g<p.1.2.2.2)
 offB:∀g,bv.ownBlock=some g->∀p∈ps,¬(p.1.2.2.1≤g/\g<p.1.2.2.2)
theorem BothsAt.ext{w0 W W':World}{Ls:List (List dW)}{ps:List mF}{av bv:Value}(h:BothsAt w0 W Ls ps av bv)(hx:Ext W W'):BothsAt w0 W' Ls ps av bv:=
 ⟨h.of,fun p hp=>⟨(h.one p hp).1.kp hx fun _ h=>h.elim,(h.one p hp).2.1,Nat.le_trans (h.one p hp).2.2 hx.size⟩,h.apart,h.la.ext hx,h.lb.ext hx,h.offA,h.offB⟩
theorem aJ9{S:Nat->Prop}{w:World}{cb:Nat}{G:List REnt}(h:RefB S w cb G):∀k,qY cb G k->k<w.heap.size:=by
 rintro k (rfl|⟨g,hg,rfl⟩)
 ·obtain⟨_,_,_,_,h1,_⟩:=h.blk;exact h1.lt
 ·exact(h.rows g hg).lt
def aNk(w:World)(Ls:List (List dW))(w':World)(v:Value):Prop:=
 ((∃L∈Ls,(cS [] L).2≠0)/\v= .tuple #[.slice none 0 0,.slice none 0 0,.bool false])\/
 ∃ps av bv,v= .tuple #[av,bv,.bool true]/\BothsAt w w' Ls ps av bv
def aMg(w:World)(Ls:List (List dW))(n:Nat)(av bv iv:Value)(W:World):Prop:=
 ∃i:Nat,i≤n/\iv= .int .i64 i/\Hid (Ext w W)/\∃ps,Hid (BothsAt w W (Ls.take i) ps av bv)
theorem aGm:29≠84:=by decide
set_option maxHeartbeats 8000000 in
theorem aJh(Ls:List (List dW))(ao:Option Addr)(n cap:Nat)(w:World)(hn:n=Ls.length)(hL:RelsLL w ao Ls)(hl:n≤1048576)(hq:∀L∈Ls,L.length≤1048576/\∀q∈L,q.2.2.1.length≤1048576):
 Calls Tryz.prog 36 #[.slice ao n cap] w (RetN w (aNk w Ls)):=by
 have HN:=qH (nIX hn (nIX hL hq));clear hn hL hq;go_enter Tryz.func36,Tryz.ntmps36;go_wp2;go_loopw [5,6,7] (fun av bv iv wr=>aMg w Ls n av bv iv wr) (fun _ _ iv _=>n- (intOf iv).toNat)
 case atStart=>exact⟨0,Nat.zero_le _,rfl,qH (Kp.refl w),[],qH ⟨rfl,fun p hp=>(by simp at hp),List.Pairwise.nil,Row.nil _ _ _ _,Row.nil _ _ _ _,fun g h=>(by cases h),fun g h=>(by cases h)⟩⟩
 case round=>
  obtain⟨i,hi,rfl,hex,ps,hP⟩:=hrel;have hpl:ps.length=i:=by have h:=congrArg List.length hP.out.of;rw [List.length_map,List.length_take]at h;have:=HN.out.1;omega
  obtain⟨aa,ac,eav,_⟩:=hP.out.la.shape;subst eav;obtain⟨ba,bc,ebv,_⟩:=hP.out.lb.shape;subst ebv;have HA0:=qH (show(∀g,(Value.slice aa ps.length ac).ownBlock=some g->g<wr.heap.size)/\∀g,(Value.slice ba ps.length bc).ownBlock=some g->g<wr.heap.size from⟨fun g hg=>hP.out.la.ltB hg,fun g hg=>hP.out.lb.ltB hg⟩);rw [hpl];by_cases hlt:i<n
  ·obtain⟨L,hLi⟩:∃L,Ls[i]?=some L:=⟨_,qG (by rw [<-HN.out.1];exact hlt)⟩;obtain⟨b,off,la,lc,eao,c0,hLr⟩:=(HN.out.2.1.ext hex.out) i L hLi;subst eao;have hLq:=HN.out.2.2 L (List.mem_of_getElem? hLi);have HF:=qH (aDc L la L.length lc wr TT rfl hLr (by omega) hLq.2);have HG:=qH (fun W (hW:Ext wr W)=>aCb L la L.length lc W TT rfl (hLr.ext hW) (by omega) hLq.2);have HLi:=qH hLi;clear hLr hLi hLq;go_wp2_with fail
   refine HF.out.mono ?_;rintro e w2 ⟨v2,rfl,hk2,hv2⟩;have d0:=hk2.cell c0 id;by_cases hc:(cS [] L).2=0
   ·obtain⟨bb,r,S,E,rfl,hb,hC,h1,h2⟩:=hv2.1 hc;have H2:=qH (nIX hk2 (nIX hb (nIX hC (nIX h1 h2))));have HC:=qH hc;clear hv2 hk2 hb hC h1 h2 hc c0;go_wp2_with fail
    refine(HG.out w2 H2.out.1).mono ?_;rintro e w3 ⟨v3,rfl,hk3,hv3⟩;obtain⟨cb,U,G,rfl,gb,-,gC,-,g1,g2⟩:=hv3.1 HC.out;have H3:=qH (nIX hk3 (nIX gb (nIX gC (nIX g1 g2))));clear hv3 hk3 gb gC g1 g2 d0;go_wp2_with fail
    refine(yT 0 w3).mono ?_;rintro e w4 ⟨v4,rfl,hk4,rfl⟩;have H4:=qH (show Ext w wr/\Ext wr w4/\BothAt w4 ((.pointer (some ⟨bb,0,none⟩),.pointer (some ⟨cb,0,none⟩),wr.heap.size,w4.heap.size),L)from⟨hex.out,H2.out.1.trans (H3.out.1.trans hk4),⟨bb,r,S,E,rfl,H2.out.2.1.ext (H3.out.1.trans hk4),H2.out.2.2.1,fun k hk=>⟨H2.out.2.2.2.1 k hk,Nat.lt_of_lt_of_le (H2.out.2.1.inS k hk) (H3.out.1.trans hk4).size⟩,fun k hk=>⟨H2.out.2.2.2.2 k hk,Nat.lt_of_lt_of_le (H2.out.2.1.ownLt k hk) (H3.out.1.trans hk4).size⟩⟩,⟨cb,U,G,rfl,H3.out.2.1.ext hk4,H3.out.2.2.1,fun k hk=>⟨Nat.le_trans H2.out.1.size (H3.out.2.2.2.1 k hk),Nat.lt_of_lt_of_le (H3.out.2.1.inS k hk) hk4.size⟩,fun k hk=>⟨Nat.le_trans H2.out.1.size (H3.out.2.2.2.2 k hk),Nat.lt_of_lt_of_le (aJ9 H3.out.2.1 k hk) hk4.size⟩⟩,HC.out⟩);have HP4:=qH (hP.out.ext (H4.out.2.1));have HI0:=qH (show ∀p∈ps,p.1.2.2.2≤wr.heap.size from fun p hp=>(hP.out.one p hp).2.2);have hsz:=H4.out.2.1.size;have hsw:=H4.out.1.size;clear hk4 hP;go_wp2_with (first|(at_builtin;refine Halted.out ?_))
    refine Halted.mk (aB5 oJ (n:=i) (by have h:=HP4.out.la;rw [hpl]at h;exact h) (Nat.le_trans hsw hsz) rfl _ _ rfl rfl rfl rfl (by omega) (by omega) ?_);rintro v5 w5 ⟨a5,c5,rfl⟩ hr5 hk5 hn5;have H5:=qH (nIX hr5 (nIX hk5 hn5));clear hr5 hk5 hn5;have HB5:=qH (show Row w5 84 1 (.slice ba i bc) i (ps.map (·.1.2.1)) (fun g=>w.heap.size≤g)from by have h:=HP4.out.lb;rw [hpl]at h;exact h.kp' H5.out.2.1 fun g hg _ e=>by obtain⟨_,h1⟩:=h.blkOf hg;obtain⟨_,h2⟩:=HP4.out.la.blkOf (by rw [hpl];exact e);exact aGm (bX h2 h1));have hs5:=H5.out.2.1.size;go_wp2_with (first|(at_builtin;refine Halted.out ?_))
    refine Halted.mk (aB5 aFy (n:=i) HB5.out (by omega) rfl _ _ rfl rfl rfl rfl (by omega) (by omega) ?_);rintro v6 w6 ⟨a6,c6,rfl⟩ hr6 hk6 hn6;have HE:=qH (show Ext w w6/\BothsAt w w6 (Ls.take (i+1)) (ps++ [((.pointer (some ⟨bb,0,none⟩),.pointer (some ⟨cb,0,none⟩),wr.heap.size,w4.heap.size),L)]) (.slice a5 (i+1) c5) (.slice a6 (i+1) c6)from by
     have ha4:=HP4.out.la;rw [hpl]at ha4;have hb5:=HB5.out;have hoA:=HP4.out.offA;have hoB:=HP4.out.offB;have hA0:=HA0.out;rw [hpl]at hoA hoB hA0;have keep:∀p:mF,BothAt w4 p->(∀g,(Value.slice aa i ac).ownBlock=some g->¬(p.1.2.2.1≤g/\g<p.1.2.2.2))->(∀g,(Value.slice ba i bc).ownBlock=some g->¬(p.1.2.2.1≤g/\g<p.1.2.2.2))->BothAt w6 p:=fun p hp h1 h2=>(hp.kp H5.out.2.1 h1).kp hk6 h2;have hs6:=hk6.size;refine⟨((H4.out.1.trans H4.out.2.1).trans' H5.out.2.1 fun k hk e=>absurd (ha4.block k e) (by omega)).trans' hk6 fun k hk e=>absurd (hb5.block k e) (by omega),?_,fun p hp=>?_,?_,?_,?_,fun g hg p hp hq=>?_,fun g hg p hp hq=>?_⟩
     ·rw [List.map_append,HP4.out.of,List.take_add_one,HLi.out];rfl
     ·rcases List.mem_append.1 hp with hp|hp
      ·obtain⟨h1,h2,h3⟩:=HP4.out.one p hp;exact⟨keep p h1 (fun g hg=>hoA g hg p hp) (fun g hg=>hoB g hg p hp),h2,by omega⟩
      ·obtain rfl:=List.mem_singleton.1 hp;exact⟨keep _ H4.out.2.2 (fun g hg h=>by have:=hA0.1 g hg;have h1:wr.heap.size≤g:=h.1;omega) (fun g hg h=>by have:=hA0.2 g hg;have h1:wr.heap.size≤g:=h.1;omega),hsw,by show w4.heap.size≤_;omega⟩
     ·refine List.pairwise_append.2 ⟨HP4.out.apart,List.pairwise_singleton _ _,fun p hp q hq=>?_⟩;obtain rfl:=List.mem_singleton.1 hq;exact HI0.out p hp
     ·have e1:(ps++ [((Value.pointer (some ⟨bb,0,none⟩),Value.pointer (some ⟨cb,0,none⟩),wr.heap.size,w4.heap.size),L)]).length=i+1:=by rw [List.length_append,hpl];rfl
      rw [e1,List.map_append];exact H5.out.1.kp' hk6 fun g hg _ e=>by obtain⟨_,h1⟩:=H5.out.1.blkOf hg;obtain⟨_,h2⟩:=hb5.blkOf e;exact aGm (bX h1 h2)
     ·have e1:(ps++ [((Value.pointer (some ⟨bb,0,none⟩),Value.pointer (some ⟨cb,0,none⟩),wr.heap.size,w4.heap.size),L)]).length=i+1:=by rw [List.length_append,hpl];rfl
      rw [e1,List.map_append];exact hr6
     ·rcases List.mem_append.1 hp with hp|hp
      ·rcases H5.out.2.2 g hg with h|h
       ·exact hoA g h p hp hq
       ·have:=(HP4.out.one p hp).2.2;have:=HI0.out p hp;omega
      ·obtain rfl:=List.mem_singleton.1 hp;rcases H5.out.2.2 g hg with h|h
       ·have:=hA0.1 g h;have h1:wr.heap.size≤g:=hq.1;omega
       ·have h1:g<w4.heap.size:=hq.2;omega
     ·rcases List.mem_append.1 hp with hp|hp
      ·rcases hn6 g hg with h|h
       ·exact hoB g h p hp hq
       ·have:=HI0.out p hp;omega
      ·obtain rfl:=List.mem_singleton.1 hp;rcases hn6 g hg with h|h
       ·have:=hA0.2 g h;have h1:wr.heap.size≤g:=hq.1;omega
       ·have h1:g<w4.heap.size:=hq.2;omega)
    clear hr6 hk6 hn6;go_wp2;go_roundw
    case rel=>exact⟨i+1,by omega,nMX,qH HE.out.1,_,qH HE.out.2⟩
    case measure=>simp [intOf];omega
   ·have hv:=hv2.2 hc;subst hv;have HB:=qH (show ∃L∈Ls,(cS [] L).2≠0 from⟨L,List.mem_of_getElem? HLi.out,hc⟩);obtain⟨z,ez⟩:=nm ((cS [] L).2);have HG2:=qH (show ∀W w' v,aD3 W L w' v->v= .tuple #[.pointer none,.int .i64 (z:Nat)]from fun W w' v h=>by rw [h.2 hc,ez]);have hz:((z:Int)==0)=false:=by simp;omega
    have hz2:((z:Int) !=0)=true:=by simp;omega
    rw [ez];have H2:=qH hk2;clear hv2 hk2 hc ez c0;go_wp2_with fail
    refine(HG.out w2 H2.out).mono ?_;rintro e w3 ⟨v3,rfl,hk3,hv3⟩;obtain rfl:=HG2.out _ _ _ hv3;have H3:=qH hk3;clear hv3 hk3 d0;go_wp2_with fail
    refine(yT z w3).mono ?_;rintro e w4 ⟨v4,rfl,hk4,rfl⟩;have H4:=qH hk4;clear hk4;go_wp2;go_ret3;exact RetN.mk (hex.out.trans (H2.out.trans (H3.out.trans H4.out))) (.inl ⟨HB.out,rfl⟩)
  ·obtain rfl:n=i:=by omega
   go_wp2;go_ret3;refine RetN.mk hex.out (.inr ⟨ps,_,_,rfl,?_⟩);have h:=hP.out
   rwa [hpl,List.take_of_length_le (by rw [<-HN.out.1];exact Nat.le_refl _)]at h
def mT(ps:List mF)(ls:List aJ)(j:Nat):aD:=match ls[j]?,ps[j]? with|some l,some p=>bO (cS [] p.2).1 (bC l)|_,_=> []
theorem aA7{ls:List aJ}{R R':Nat->aD}(h:∀(i:Nat) (l:aJ),ls[i]?=some l->R i=R' i):cP ls R=cP ls R':=by
 funext V
 unfold cP;refine propext (and_congr_right fun _=>⟨fun k i l hl=>?_,fun k i l hl=>?_⟩)
 ·rw [<-h i l hl];exact k i l hl
 ·rw [h i l hl];exact k i l hl
section
variable {w0 W:World}{Ls:List (List dW)}{ps:List mF}{av bv:Value}{ls:List aJ}{r:dC}
theorem BothsAt.binds(h:BothsAt w0 W Ls ps av bv)(r:dC):∃Es:Nat->List Ent,(∀j,∃S,BaseV S W ((ps.map (·.1.1)).getD j (.pointer none)) (Es j))/\mD r (cE Es r.2.1) (eU r (mT ps r.2.1)):=by
 have key:∀j,∃E:List Ent,(∃S,BaseV S W ((ps.map (·.1.1)).getD j (.pointer none)) E)/\(∀p,ps[j]?=some p->aT E=(cS [] p.2).1)/\(ps[j]?=none->E= []):=fun j=>by
  cases hp:ps[j]? with
  |none=>exact⟨[],⟨fun _=>False,by rw [List.getD_eq_getElem?_getD,List.getElem?_map,hp];exact .nil⟩,fun p h=>(by cases h),fun _=>rfl⟩
  |some p=>
   obtain⟨⟨bb,r,S,E,e1,hA,hC,-,-⟩,-,-⟩:=(h.one p (List.mem_of_getElem? hp)).1;exact⟨E,⟨S,by rw [List.getD_eq_getElem?_getD,List.getElem?_map,hp];show BaseV S W p.1.1 E;rw [e1];exact .full bb r E hA⟩,fun q hq=>(by cases hq;exact hC),fun h=>by cases h⟩
 obtain⟨Es,hEs⟩:=Classical.axiomOfChoice key;refine⟨Es,fun j=>(hEs j).1,fun hc=>?_,fun hc=>by unfold eU;rw [if_neg hc]⟩;unfold eU;rw [if_pos hc];have h1:=xL hc (mT ps r.2.1);unfold IsBinds at h1 ⊢;rw [aA7 (R:=cE Es r.2.1) (R':=mT ps r.2.1) fun i l hl=>?_]
 ·exact h1
 ·unfold cE mT;rw [hl];show gR (bS (Es i) (bC l))=_;rw [vK];cases hp:ps[i]? with
  |none=>rw [(hEs i).2.2 hp];rfl
  |some p=>rw [(hEs i).2.1 p hp]
theorem BothsAt.win{G:Nat->Prop}{ba bo:Option Addr}{n bcap m bc:Nat}(h:BothsAt w0 W Ls ps av (.slice bo m bc))(hm:m=ps.length)(hml:m≤1048576)(hbn:n=ls.length)(hnl:n≤1048576)(hl:cD W G ba ls)(ht:∀l∈ls,(aC ls).length+(aA l).length≤1048576)(hnv:(aC ls).length≤1048576):WIn W ls (mT ps ls) ba n bcap bo m bc:=by
 obtain⟨bo',bc',eb,hb,-⟩:=h.lb.shape;cases eb;refine⟨⟨G,hl⟩,hbn,hnl,⟨ps.map (·.1.2.1),hb,by rw [hm,List.length_map],fun i l hl=>?_⟩,hml,ht,hnv⟩;rw [List.getD_eq_getElem?_getD,List.getElem?_map];unfold mT;rw [hl];cases hp:ps[i]? with
 |none=>exact⟨fun _=>False,[],.inl ⟨rfl,rfl⟩,rfl⟩
 |some p=>
  obtain⟨-,⟨cb,S,Gr,e2,hB,hC,-,-⟩,-⟩:=(h.one p (List.mem_of_getElem? hp)).1;exact⟨S,Gr,by show BaseP S W p.1.2.1 Gr;rw [e2];exact .inr ⟨cb,rfl,hB⟩,(aLt hC (bC l)).symm⟩
end
theorem aEj{r:dC}{R:Nat->aD}{most k:Nat}(h:iK R most r.2.1 0 1=some k):(eU r R).length≤k:=by
 unfold eU;split
 ·have h1:=pD (all:=r.2.1) r.2.1 0 1 k ([],[]) h;unfold aG6;omega
 ·exact Nat.zero_le _
theorem aJe{r:dC}{R:Nat->aD}:∀V∈eU r R,V.length=(aC r.2.1).length:=fun V hV=>by
 unfold eU at hV;split at hV
 ·rename_i hc;exact(((xL hc _).iff V).1 hV).1
 ·simp at hV
def OwnAt(W:World)(p:mF):Prop:=∃bb r S E,p.1.1= .pointer (some ⟨bb,0,none⟩)/\BaseAt S W bb r E/\(∀k,S k->p.1.2.2.1≤k/\k<p.1.2.2.2)/\∀k,eJ bb r E k->p.1.2.2.1≤k/\k<p.1.2.2.2
theorem OwnAt.kp{W W':World}{p:mF}{F:Nat->Prop}(h:OwnAt W p)(hk:Kp F W W')(hF:∀k,F k->¬(p.1.2.2.1≤k/\k<p.1.2.2.2)):OwnAt W' p:=by obtain⟨bb,r,S,E,e1,h1,h3,h4⟩:=h;exact⟨bb,r,S,E,e1,h1.kp hk (fun k hf ho=>hF k hf (h4 k ho)) (fun k hf ho=>hF k hf (h3 k ho)),h3,h4⟩
def aBe(ps:List mF)(k:Nat):Prop:=∃p∈ps,p.1.2.2.1≤k/\k<p.1.2.2.2
def aMc(w0:World)(ps:List mF)(n:Nat)(iv:Value)(W:World):Prop:=∃i:Nat,i≤n/\iv= .int .i64 i/\Hid (Kp (aBe ps) w0 W)/\Hid (∀p∈ps.drop i,OwnAt W p)
def Shaken(w0 W:World)(bb r:Nat)(O:Nat->Prop):Prop:=Kp (fun k=>O k\/w0.heap.size≤k) w0 W/\∃S E,BaseAt S W bb r E/\∀k,eJ bb r E k->O k\/w0.heap.size≤k
theorem aB6{W:World}{S:Nat->Prop}{bb r:Nat}{E:List Ent}(h:BaseAt S W bb r E)(ss:List ByteArray)(hl:ss.length≤1048576):BaseAt S (W.alloc (.cells (strs ss).toArray 9)) bb r E/\RowIn (W.alloc (.cells (strs ss).toArray 9)) (some ⟨W.heap.size,0,none⟩,ss.length,ss.length) ss/\fX (some ⟨W.heap.size,0,none⟩,ss.length,ss.length) (eJ bb r E):=by
 refine⟨h.ext ((Kp.refl W).alloc _),⟨⟨rfl,?_⟩,by omega,fun a e _=>?_⟩,fun a e _ ho=>?_⟩
 ·have hb:=Blk.new W (strs ss) 9;exact CellsAt.pre (rest:= []) (by rw [List.append_nil];exact hb)
 ·cases e;rw [aI];exact Nat.lt_succ_self _
 ·cases e;exact Nat.lt_irrefl _ (h.ownLt _ ho)
theorem Shaken.add{w0 W:World}{bb r:Nat}{O:Nat->Prop}(h:Shaken w0 W bb r O)(s:ByteArray)(ss:List ByteArray)(hl:ss.length≤1048576):
 Calls Tryz.prog 42 #[.pointer (some ⟨bb,0,none⟩),.string s,.slice (some ⟨W.heap.size,0,none⟩) ss.length ss.length] (W.alloc (.cells (strs ss).toArray 9)) (fun e w'=>∃v,e= .returned v/\Shaken w0 w' bb r O):=by
 obtain⟨hk,S,E,hB,hO⟩:=h;obtain⟨h1,h2,h3⟩:=aB6 hB ss hl;refine(tN h1 s h2 h3).mono ?_;rintro e w' ⟨v,rfl,hk2,-,S',E',-,-,hB',-,hO'⟩;have hsz:w0.heap.size≤(W.alloc (.cells (strs ss).toArray 9)).heap.size:=Nat.le_trans hk.size ((Kp.refl (F:=fun _=>False) W).alloc _).size;exact⟨v,rfl,((hk.alloc _).trans (hk2.mono fun k _ h=>hO k h)),S',E',hB',fun k hk'=>by
  rcases hO' k hk' with h|h
  ·exact hO k h
  ·exact .inr (Nat.le_trans hsz h)⟩
theorem Shaken.drop{w0 W:World}{bb r:Nat}{O:Nat->Prop}(h:Shaken w0 W bb r O)(s:ByteArray)(ss:List ByteArray)(hl:ss.length≤1048576):
 Calls Tryz.prog 43 #[.pointer (some ⟨bb,0,none⟩),.string s,.slice (some ⟨W.heap.size,0,none⟩) ss.length ss.length] (W.alloc (.cells (strs ss).toArray 9)) (fun e w'=>∃v,e= .returned v/\Shaken w0 w' bb r O):=by
 obtain⟨hk,S,E,hB,hO⟩:=h;obtain⟨h1,h2,h3⟩:=aB6 hB ss hl;refine(aA9 h1 s h2 h3).mono ?_;rintro e w' ⟨v,rfl,hk2,-,E',hB',-,hO'⟩;exact⟨v,rfl,((hk.alloc _).trans (hk2.mono fun k _ h=>hO k h)),S,E',hB',fun k hk'=>hO k (hO' k hk')⟩
def aF1:Nat->Code->Code
 |0,c=>c
 |n+1,.seq _ b=>aF1 n b
 |_+1,c=>c
noncomputable def aCo:Code:=aF1 11 (Tryz.f6.body.getD .skip)
noncomputable def rN:Code:=((Tryz.f6.body.bind cG).getD .skip)
theorem aFd(t:Array Value)(h:t.size=109):∃u:Nat->Value,(∀i,t.getD i undef=u i)/\t=#[u 0,u 1,u 2,u 3,u 4,u 5,u 6,u 7,u 8,u 9,u 10,u 11,u 12,u 13,u 14,u 15,u 16,u 17,u 18,u 19,u 20,u 21,u 22,u 23,u 24,u 25,u 26,u 27,u 28,u 29,u 30,u 31,u 32,u 33,u 34,u 35,u 36,u 37,u 38,u 39,u 40,u 41,u 42,u 43,u 44,u 45,u 46,u 47,u 48,u 49,u 50,u 51,u 52,u 53,u 54,u 55,u 56,u 57,u 58,u 59,u 60,u 61,u 62,u 63,u 64,u 65,u 66,u 67,u 68,u 69,u 70,u 71,u 72,u 73,u 74,u 75,u 76,u 77,u 78,u 79,u 80,u 81,u 82,u 83,u 84,u 85,u 86,u 87,u 88,u 89,u 90,u 91,u 92,u 93,u 94,u 95,u 96,u 97,u 98,u 99,u 100,u 101,u 102,u 103,u 104,u 105,u 106,u 107,u 108]:=by refine⟨fun i=>t.toList.getD i undef,fun i=>by simp [Array.getD_eq_getD_getElem?,List.getD_eq_getElem?_getD],?_⟩;apply Array.ext';have:=kY t.toList 109 (by simpa using h);exact this
theorem RowsIn.takeK{S:Nat->Prop}{w:World}{ao:Option Addr}{LL:aD}(h:RowsIn S w ao LL)(k:Nat):RowsIn S w ao (LL.take k):=by obtain⟨ps,rfl,h1,h2,h3⟩:=h;exact⟨ps.take k,by rw [List.map_take],by rw [<-pF];exact h1.take' k,h2,fun p hp=>h3 p (List.mem_of_mem_take hp)⟩
theorem kD{S S':Nat->Prop}{A:aD}{ao bo:Option Addr}{n acap bcap:Nat}{w:World}(hn:n=A.length)(ha:RowsIn S w ao A)(hb:RowsIn S' w bo A)(hl:n≤4611686018427387904):
 Calls Tryz.prog 40 #[.slice ao n acap,.slice bo n bcap] w (RetN w fun w' v=>v= .bool true):=by
 have h:=aD0 (acap:=acap) (bcap:=bcap) hn hn ha hb hl;simpa using h
theorem pH{w W:World}{tmps:Array Value}{ds:List Deferred}{lo:Nat}(hm:Marks lo W ds)(hk:Ext w W)(hlo:w.heap.size≤lo)(h6:tmps.getD 6 undef= .bool true):
 bodyPostM Fence.wide 4 Tryz.prog Tryz.f6 (RetN w fun _ v=>v= .bool true) .ret {tmps:=tmps,defers:=ds} W:=by
 refine fD hm fun w' e1 e2 e3 e4 e5 e6=>?_;have kx:Kp (fun k=>lo≤k/\¬gH W k) W w':=⟨e1,e2,e3,by omega,fun k hk hf=>by
  by_cases h:lo≤k
  ·by_cases h2:∃o:Obj,W.heap[k]?=some o/\o.isCells=true
   ·obtain⟨o,h2,h3⟩:=h2;rw [h2];exact e6 k o h2 h3
   ·exact absurd ⟨h,h2⟩ hf
  ·exact e5 k (by omega)⟩
 have hx:Ext w w':=hk.trans' kx fun i hi h=>absurd h.1 (by omega);refine⟨.bool true,?_,RetN.mk hx rfl⟩;have h6':tmps[6]?.getD undef= .bool true:=by simpa using h6
 simp [results,Tryz.f6,go_sem,h6']
set_option maxHeartbeats 4000000 in
theorem vM{X:World}{gg l N:Nat}{xa:Option Addr}{V:List ByteArray}{v:Value}{vals:List Value}{M:Nat->Prop}{t:Array Value}{Qn:World->Prop}
 (h16:Blk X gg [v] 69)(hr:Row X 34 1 v N vals M)(hN:N≤1048576*1048576)
 (hz:t.size=109)(t16:t.getD 16 undef= .pointer (some ⟨gg,0,none⟩))(t17:t.getD 17 undef= .slice xa V.length V.length)
 (hQ:∀X' v',Kp (fun k=>k=gg\/v.ownBlock=some k) X X'->Blk X' gg [v'] 69->Row X' 34 1 v' (N+1) (vals++ [.slice xa V.length V.length]) (fun g=>v.ownBlock=some g\/X.heap.size≤g)->Qn X'):
 rN.wpIn (Fence.wide.inRound l) 2 Tryz.prog (gT Qn fun _=>False) {tmps:=t,defers:= []} X:=by
 obtain⟨u,hu,rfl⟩:=aFd t hz;have e16:=(hu 16).symm.trans t16;have e17:=(hu 17).symm.trans t17;rw [e16,e17];clear hz t16 t17 e16 e17 hu;obtain⟨oa,oc,ev,_,_⟩:=hr.shape;subst ev;have HQ:=qH hQ;have H0:=qH (nIX h16 hr);have b0:=h16.c0;obtain⟨m,em⟩:=nm V.length;rw [em]at HQ ⊢;clear hQ h16 hr em;conv=>arg 4;whnf
 gi_wp2_with (first|(gi_at_builtin;refine Halted.out ?_))
 refine Halted.mk (uI wV rfl _ _ rfl (F:=fun k=>(Value.slice oa N oc).ownBlock=some k) (w0:=X) (M:=fun g=>(Value.slice oa N oc).ownBlock=some g\/X.heap.size≤g) ((Kp.refl X).alloc _) (fun g hg hlt2=>by rcases hg with hg|hg;exact hg;omega) (fun g hg=> .inr (by have h2:(X.alloc _).heap.size≤g:=hg;rw [aI]at h2;omega)) rfl ((H0.out.2.alloc _).own.mono fun g hg=> .inl hg) rfl (m:=1) (by rfl) (CellsAt.one X (.slice xa m m) 34) (by simp [Value.oneCell']) (by omega) (by unfold maxLen;omega) ?_);intro v6 w6 hr6 hk6 hk6b _ _;have hB6:Blk w6 gg [.slice oa N oc] 69:=(H0.out.1.alloc _).kp hk6b fun hg=>by obtain⟨cs,hb⟩:=aQ H0.out.2 hg;exact absurd (aP hb H0.out.1) (by decide)
 have c6:=hB6.c0;have f6:=hB6.free 0;obtain⟨la,lcap,elv,_,_⟩:=hr6.shape;subst elv;have ks:Kp (fun k=>k=gg) w6 (w6.setCell ⟨gg,0,none⟩ (.slice la (N+1) lcap)):=kSa;have HF:=qH (HQ.out (w6.setCell ⟨gg,0,none⟩ (.slice la (N+1) lcap)) (.slice la (N+1) lcap) ((hk6.mono fun k _ h=>Or.inr h).trans (ks.mono fun k _ h=>Or.inl h)) (hB6.set 0 _) (by refine hr6.kp' ks fun g hg _ e2=>?_;obtain⟨cs,hb⟩:=aQ hr6 hg;rw [show g=gg from e2]at hb;exact absurd (aP hb hB6) (by decide)));clear hr6 hk6 hk6b b0 hB6 ks;gi_wp2;exact HF.out
set_option maxHeartbeats 16000000 in
theorem aH1{w w8 W:World}{lo xb z:Nat}{L:aD}{wa pa:Option Addr}{wc pc:Nat}{S1 S2:Nat->Prop}{t:Array Value}(hw:Ext w W)(hw8:w8.heap.size≤W.heap.size)
 (hS:pP Fence.wide 3 Tryz.prog 82 #[.pointer (some ⟨xb,0,none⟩)] (fun x:XB=>#[.slice x.1.1 x.1.2.1 x.1.2.2]) (fun k=>lo≤k/\k<w8.heap.size) GvRow (fun xs=>xs.map Prod.snd=L) (fun pre=>pre.map Prod.snd<+:L) w8)
 (hb0:Kp (fun k=>¬(lo≤k/\k<w8.heap.size)) w8 W)(hwa:RowsIn S1 W wa L)(hwc:L.length≤wc)(hwm:wc≤maxLen)(hpa:RowsIn S2 W pa (L.take z))(hz1:1≤z)(hLl:L.length≤1048576)(hVl:∀V∈L,V.length≤1048576)
 (hz:t.size=109)(t2:t.getD 2 undef= .int .i64 z)(t11:t.getD 11 undef= .slice wa L.length wc)(t12:t.getD 12 undef= .func (.func 82) #[] #[.pointer (some ⟨xb,0,none⟩)])(t13:t.getD 13 undef= .slice pa (L.take z).length pc):
 aCo.wp Tryz.prog (bodyPostM Fence.wide 4 Tryz.prog Tryz.f6 (RetN w fun _ v=>v= .bool true)) {tmps:=t,defers:= []} W:=by
 obtain⟨u,hu,rfl⟩:=aFd t hz;have e2:=(hu 2).symm.trans t2;have e11:=(hu 11).symm.trans t11;have e12:=(hu 12).symm.trans t12;have e13:=(hu 13).symm.trans t13;rw [e2,e11,e12,e13];clear hz t2 t11 t12 t13 e2 e11 e12 e13 hu;obtain⟨Q,eQ⟩:∃Q,Q=bodyPostM Fence.wide 4 Tryz.prog Tryz.f6 (RetN w fun _ v=>v= .bool true):=⟨_,rfl⟩;rw [<-eQ];have EQ:=qH eQ;have HS:=qH hS;have HW:=qH (nIX hw (nIX hw8 (nIX hb0 (nIX hwa (nIX hpa (nIX hLl (nIX hVl (nIX hwc hwm))))))));have HT:=qH (show Ext W W/\Marks W.heap.size W []from⟨Kp.refl W,Marks.nil _ _⟩);have hq0:∀w:World,(binOp .eql 72 (.func (Fn.func 82) #[] #[.pointer (some ⟨xb,0,none⟩)]) .nilFunc).run Tryz.prog w= .ok (.bool false) w:=fun w=>by kernel_rfl
 obtain⟨n,en⟩:=nm L.length;obtain⟨m,em⟩:=nm ((L.take z).length);rw [en]at hLl ⊢;rw [em];have HEn:=qH (nIX en em);obtain⟨wr,ewr⟩:=nm W;have HT2:Hid (Ext W wr/\Marks W.heap.size wr []):=by rw [<-ewr];exact HT
 rw [show(Code.wp _ _ _ _ W)=(Code.wp _ _ _ _ wr)from by rw [ewr]];clear hw hw8 hS hb0 hwa hpa hVl eQ en em HT ewr hwc hwm;conv=>arg 2;whnf
 go_wp2_with fail
 refine wp_loop_rounds 3 ?_;rw [rounds_succ];go_wp2_with fail
 obtain⟨gg,egg⟩:=nm wr.heap.size;obtain⟨w9,e9⟩:=nm (wr.alloc (.cells #[.slice none 0 0] 69));rw [e9,egg];have H9:=qH (show Blk w9 gg [.slice none 0 0] 69/\Ext wr w9/\wr.heap.size≤gg from⟨by rw [<-e9,<-egg];exact Blk.new wr _ _,xAX e9,by omega⟩);have hb9:gg<w9.heap.size:=H9.out.1.lt;have hZ9:Kp (fun k=>¬(lo≤k/\k<w8.heap.size)) w8 w9:=HW.out.2.2.1.trans (Ext.kp (HT2.out.1.trans H9.out.2.1));have hsz9:w8.heap.size≤w9.heap.size:=hZ9.size;have hgl:w8.heap.size≤gg:=by have h1:=HW.out.2.1;have h2:=HT2.out.1.size;have h3:=H9.out.2.2;omega
 clear e9 egg;refine' wpIn_wide.1 (iI (F:=Fence.wide) (n:=4) (w0:=w8) rfl (by omega) (gf:=82) (lb:=#[.pointer (some ⟨xb,0,none⟩)]) rfl trivial (enters_of Tryz.func82 (by kernel_rfl) rfl)
  HS.out hZ9 (fun k h=>Nat.lt_of_lt_of_le h.2 hsz9) (fun _=>rfl) GvRow.put (GotI w9 gg) (fun _ _ _ _=>False)
  (fun T s W l o o' h _ hl ho hc=>h.put hb9 hl ho hc) (fun c T s W l o o' h _ hl ho hc=>h.elim)
  (fun W o h=>h.step hb9 ((Kp.refl W).alloc o) (fun k hk=>hk.elim)) (GotI.start H9.out.1) _ ?assign1 ?body1 ?done1 ?stop1)
 case assign1=>
  intro l x W K hK;gi_wp2;exact hK
 case body1=>
  rintro l T T' pre ⟨⟨xa,xn,xc⟩,V⟩ W1 W2 hI hT hk hsub hgv hpre;have hI2:=hI.step hb9 hk hsub;have hTlt:∀k,T' k->k<W2.heap.size:=fun k hk'=>by
   rcases hsub k hk' with h|h
   ·exact Nat.lt_of_lt_of_le (hT k h) hk.size
   ·exact h.2
  obtain⟨hx1,hxc⟩:=hgv.cells;have hxn:xn=V.length:=hx1.1;have hxc2:xc=V.length:=hx1.2;subst hxn hxc2;have hgot:=hgv.got hI.kp.size;have hpl:pre.length<L.length:=by have h:=hpre.length_le;rw [List.length_map,List.length_append,List.length_singleton]at h;omega
  have hBL:=HW.out.2.2.2.2.2.1;obtain⟨v,hv,hrv⟩:=hI2.val;refine wpIn_mono (Q:=gT (fun X'=>KeepsFrom w9.heap.size W2 X'/\Kp (fun k=>¬fI (fun k=>lo≤k/\k<w8.heap.size) T' k) W2 X'/\GotI w9 gg T' (pre++ [((xa,V.length,V.length),V)]) X') (fun _=>False)) ?_ ?_
  ·show Code.wpIn _ _ _ rN _ _ _;refine vM (N:=pre.length) (v:=v) (vals:=pre.map zZ) (V:=V) hv hrv (by omega) rfl rfl rfl ?_;intro X' v' hk' hv' hr';obtain⟨q1,q2,q3⟩:=hI2.round (Z:=fun k=>gg<k/\k<w9.heap.size) hb9 hTlt (fun k hk=>hk) hv hgot hk' hv' hr';refine⟨q1,hk'.mono fun k hk2 hf hz=>?_,q3⟩;rcases hz with hz|hz
   ·rcases hf with hf|hf
    ·have h1:=hI2.ge k hz;have hf':k=gg:=hf;omega
    ·have h1:=hrv.block k hf;exact h1.2 hz
   ·rcases hf with hf|hf
    ·have hf':k=gg:=hf;have:=hz.2;omega
    ·have h1:=hrv.block k hf;have:=hz.2;have:=h1.1;omega
  ·intro e a W' h;cases e<;>first|exact h|exact h.elim
 case stop1=>
  rintro D c T pre W1 W2 hD hpre hX hT hk hd;exact hX.elim
 rintro D T xs W1 W2 hD hxs hI hT hk hd;have hI2:=hI.step (T':=fun _=>False) hb9 hk (fun k hk'=>hk'.elim);have hxs':xs.map Prod.snd=L:=hxs;have hxl:xs.length=n:=by rw [<-HEn.out.1,<-hxs',List.length_map]
 obtain⟨v,ga,gc,rfl,hv,hrows⟩:=hI2.rowsIn (fun x hx=>HW.out.2.2.2.2.2.2.1 x.2 (by rw [<-hxs'];exact List.mem_map_of_mem (f:=Prod.snd) hx));rw [show xs.map (·.2)=L from hxs']at hrows;rw [hxl]at hv;have xW:Ext W W2:=(HT2.out.1.trans H9.out.2.1).trans' hI2.kp fun i hi hf=>by have e:i=gg:=hf;have:=HT2.out.1.size;have:=H9.out.2.2;omega
 have hsz:W.heap.size≤w9.heap.size:=(HT2.out.1.trans H9.out.2.1).size;have hm1:=HT2.out.2.push (w':=W2) (D:=D) (fun k o h ho=>(hI2.kp.block k (lt_of_block (H9.out.2.1.block k (lt_of_block h) id|>.trans h)) (fun e=>by have e':k=gg:=e;have h1:=lt_of_block h;have:=H9.out.2.2;omega)).trans ((H9.out.2.1.block k (lt_of_block h) id).trans h)) (by have:=H9.out.2.1.size;omega) (by omega) hd;have g0:=hv.c0;have HT3:=qH (show Ext W W2/\Marks W.heap.size W2 _/\RowsIn (fun _=>True) W2 ga L from⟨xW,hm1,hrows⟩);clear hI2 hI hT hk hd hD hxs hxs' hxl hv hrows xW hsz hm1 H9 hb9 hZ9 hsz9 hgl HT2;go_wp2_with fail
 refine(kD HEn.out.1.symm HT3.out.2.2 (HW.out.2.2.2.1.ext HT3.out.1) (by omega)).mono ?_;rintro e W3 ⟨v,rfl,hk3,rfl⟩;have HT4:=qH (show Ext W W3/\Marks W.heap.size W3 _ from⟨HT3.out.1.trans hk3,HT3.out.2.1.kp hk3 fun _ h=>h.elim⟩);clear hk3 HT3 g0;obtain⟨wr,ewr⟩:=nm W3;rw [ewr]at HT4 ⊢;have HT2:=HT4;clear HT4 ewr;go_wp2_with fail
 rw [rounds_succ];go_wp2_with fail
 obtain⟨gg,egg⟩:=nm wr.heap.size;obtain⟨w9,e9⟩:=nm (wr.alloc (.cells #[.slice none 0 0] 69));rw [e9,egg];have H9:=qH (show Blk w9 gg [.slice none 0 0] 69/\Ext wr w9/\wr.heap.size≤gg from⟨by rw [<-e9,<-egg];exact Blk.new wr _ _,xAX e9,by omega⟩);have hb9:gg<w9.heap.size:=H9.out.1.lt;have hZ9:Kp (fun k=>¬(lo≤k/\k<w8.heap.size)) w8 w9:=HW.out.2.2.1.trans (Ext.kp (HT2.out.1.trans H9.out.2.1));have hsz9:w8.heap.size≤w9.heap.size:=hZ9.size;have hgl:w8.heap.size≤gg:=by have h1:=HW.out.2.1;have h2:=HT2.out.1.size;have h3:=H9.out.2.2;omega
 clear e9 egg;refine' wpIn_wide.1 (iI (F:=Fence.wide) (n:=4) (w0:=w8) rfl (by omega) (gf:=82) (lb:=#[.pointer (some ⟨xb,0,none⟩)]) rfl trivial (enters_of Tryz.func82 (by kernel_rfl) rfl)
  HS.out hZ9 (fun k h=>Nat.lt_of_lt_of_le h.2 hsz9) (fun _=>rfl) GvRow.put (GotI w9 gg) (fun _ _ _ _=>False)
  (fun T s W l o o' h _ hl ho hc=>h.put hb9 hl ho hc) (fun c T s W l o o' h _ hl ho hc=>h.elim)
  (fun W o h=>h.step hb9 ((Kp.refl W).alloc o) (fun k hk=>hk.elim)) (GotI.start H9.out.1) _ ?assign2 ?body2 ?done2 ?stop2)
 case assign2=>
  intro l x W K hK;gi_wp2;exact hK
 case body2=>
  rintro l T T' pre ⟨⟨xa,xn,xc⟩,V⟩ W1 W2 hI hT hk hsub hgv hpre;have hI2:=hI.step hb9 hk hsub;have hTlt:∀k,T' k->k<W2.heap.size:=fun k hk'=>by
   rcases hsub k hk' with h|h
   ·exact Nat.lt_of_lt_of_le (hT k h) hk.size
   ·exact h.2
  obtain⟨hx1,hxc⟩:=hgv.cells;have hxn:xn=V.length:=hx1.1;have hxc2:xc=V.length:=hx1.2;subst hxn hxc2;have hgot:=hgv.got hI.kp.size;have hpl:pre.length<L.length:=by have h:=hpre.length_le;rw [List.length_map,List.length_append,List.length_singleton]at h;omega
  have hBL:=HW.out.2.2.2.2.2.1;obtain⟨v,hv,hrv⟩:=hI2.val;refine wpIn_mono (Q:=gT (fun X'=>KeepsFrom w9.heap.size W2 X'/\Kp (fun k=>¬fI (fun k=>lo≤k/\k<w8.heap.size) T' k) W2 X'/\GotI w9 gg T' (pre++ [((xa,V.length,V.length),V)]) X') (fun _=>False)) ?_ ?_
  ·show Code.wpIn _ _ _ rN _ _ _;refine vM (N:=pre.length) (v:=v) (vals:=pre.map zZ) (V:=V) hv hrv (by omega) rfl rfl rfl ?_;intro X' v' hk' hv' hr';obtain⟨q1,q2,q3⟩:=hI2.round (Z:=fun k=>gg<k/\k<w9.heap.size) hb9 hTlt (fun k hk=>hk) hv hgot hk' hv' hr';refine⟨q1,hk'.mono fun k hk2 hf hz=>?_,q3⟩;rcases hz with hz|hz
   ·rcases hf with hf|hf
    ·have h1:=hI2.ge k hz;have hf':k=gg:=hf;omega
    ·have h1:=hrv.block k hf;exact h1.2 hz
   ·rcases hf with hf|hf
    ·have hf':k=gg:=hf;have:=hz.2;omega
    ·have h1:=hrv.block k hf;have:=hz.2;have:=h1.1;omega
  ·intro e a W' h;cases e<;>first|exact h|exact h.elim
 case stop2=>
  rintro D c T pre W1 W2 hD hpre hX hT hk hd;exact hX.elim
 rintro D T xs W1 W2 hD hxs hI hT hk hd;have hI2:=hI.step (T':=fun _=>False) hb9 hk (fun k hk'=>hk'.elim);have hxs':xs.map Prod.snd=L:=hxs;have hxl:xs.length=n:=by rw [<-HEn.out.1,<-hxs',List.length_map]
 obtain⟨v,ga,gc,rfl,hv,hrows⟩:=hI2.rowsIn (fun x hx=>HW.out.2.2.2.2.2.2.1 x.2 (by rw [<-hxs'];exact List.mem_map_of_mem (f:=Prod.snd) hx));rw [show xs.map (·.2)=L from hxs']at hrows;rw [hxl]at hv;have xW:Ext W W2:=(HT2.out.1.trans H9.out.2.1).trans' hI2.kp fun i hi hf=>by have e:i=gg:=hf;have:=HT2.out.1.size;have:=H9.out.2.2;omega
 have hsz:W.heap.size≤w9.heap.size:=(HT2.out.1.trans H9.out.2.1).size;have hm1:=HT2.out.2.push (w':=W2) (D:=D) (fun k o h ho=>(hI2.kp.block k (lt_of_block (H9.out.2.1.block k (lt_of_block h) id|>.trans h)) (fun e=>by have e':k=gg:=e;have h1:=lt_of_block h;have:=H9.out.2.2;omega)).trans ((H9.out.2.1.block k (lt_of_block h) id).trans h)) (by have:=H9.out.2.1.size;omega) (by omega) hd;have g0:=hv.c0;have HT3:=qH (show Ext W W2/\Marks W.heap.size W2 _/\RowsIn (fun _=>True) W2 ga L from⟨xW,hm1,hrows⟩);clear hI2 hI hT hk hd hD hxs hxs' hxl hv hrows xW hsz hm1 H9 hb9 hZ9 hsz9 hgl HT2;go_wp2_with fail
 refine(kD HEn.out.1.symm HT3.out.2.2 (HW.out.2.2.2.1.ext HT3.out.1) (by omega)).mono ?_;rintro e W3 ⟨v,rfl,hk3,rfl⟩;have HT4:=qH (show Ext W W3/\Marks W.heap.size W3 _ from⟨HT3.out.1.trans hk3,HT3.out.2.1.kp hk3 fun _ h=>h.elim⟩);clear hk3 HT3 g0;obtain⟨wr,ewr⟩:=nm W3;rw [ewr]at HT4 ⊢;have HT2:=HT4;clear HT4 ewr;go_wp2_with fail
 rw [rounds_succ];have hn:=HEn.out.1;have hm:=HEn.out.2;have hwc:=HW.out.2.2.2.2.2.2.2.1;have hwm:wc≤9223372036854775807:=HW.out.2.2.2.2.2.2.2.2;by_cases hzn:n<z
 ·have i1:decide ((z:Int)>(n:Int))=true:=by simp;omega
  have i2:(n:Int)≤(wc:Int):=by omega
  obtain rfl:m=n:=by rw [<-hm,List.length_take];omega
  have HZn:=qH hzn;clear hn hm hzn;go_wp2_with fail
  refine(kD HEn.out.2.symm (HW.out.2.2.2.2.1.ext HT2.out.1) (by rw [List.take_of_length_le (by have:=HEn.out.1;have:=HZn.out;omega)];exact HW.out.2.2.2.1.ext HT2.out.1) (by omega)).mono ?_;rintro e W3 ⟨v,rfl,hk3,rfl⟩;have HT4:=qH (show Ext W W3/\Marks W.heap.size W3 _ from⟨HT2.out.1.trans hk3,HT2.out.2.kp hk3 fun _ h=>h.elim⟩);clear hk3;go_wp2_with fail
  refine(kM W3).mono ?_;rintro e W4 ⟨v,rfl,hk4,rfl⟩;have HT5:=qH (show Ext W W4/\Marks W.heap.size W4 _ from⟨HT4.out.1.trans hk4,HT4.out.2.kp hk4 fun _ h=>h.elim⟩);clear hk4;go_wp2_with fail
  rw [EQ.out];exact pH HT5.out.2 (HW.out.1.trans HT5.out.1) HW.out.1.size rfl
 ·have i1:decide ((z:Int)>(n:Int))=false:=by simp;omega
  have i2:(z:Int)≤(wc:Int):=by omega
  obtain rfl:z=m:=by rw [<-hm,List.length_take];omega
  clear hn hm;go_wp2_with fail
  refine(kD HEn.out.2.symm (HW.out.2.2.2.2.1.ext HT2.out.1) ((HW.out.2.2.2.1.takeK _).ext HT2.out.1) (by omega)).mono ?_;rintro e W3 ⟨v,rfl,hk3,rfl⟩;have HT4:=qH (show Ext W W3/\Marks W.heap.size W3 _ from⟨HT2.out.1.trans hk3,HT2.out.2.kp hk3 fun _ h=>h.elim⟩);clear hk3;go_wp2_with fail
  refine(kM W3).mono ?_;rintro e W4 ⟨v,rfl,hk4,rfl⟩;have HT5:=qH (show Ext W W4/\Marks W.heap.size W4 _ from⟨HT4.out.1.trans hk4,HT4.out.2.kp hk4 fun _ h=>h.elim⟩);clear hk4;go_wp2_with fail
  rw [EQ.out];exact pH HT5.out.2 (HW.out.1.trans HT5.out.1) HW.out.1.size rfl
def aM6(w0:World)(R:Nat->aD)(ls:List aJ)(most n:Nat)(g0:Nat)(cs:List Value)(nv iv:Value)(W:World):Prop:=∃i m:Nat,i≤n/\iv= .int .i64 i/\nv= .int .i64 m/\m≤most/\Hid (Ext w0 W)/\Hid (Blk W g0 cs 27)/\Hid (iK R most (ls.take i) 0 1=some m)
theorem aEk{R:Nat->aD}{most i m:Nat}{ls:List aJ}{l:aJ}(h:iK R most (ls.take i) 0 1=some m)(hl:ls[i]?=some l):iK R most (ls.take (i+1)) 0 1=iK R most [l] i m:=by have hi:=(List.getElem?_eq_some_iff.1 hl).1;rw [List.take_add_one,hl];show iK R most (ls.take i++ [l]) 0 1=_;rw [rH,h,List.length_take,Nat.min_eq_left (by omega),Nat.zero_add];rfl
set_option maxHeartbeats 8000000 in
theorem aB7{w:World}{p:ByteArray}{ls:List aJ}{ha ba bo:Option Addr}{hn hcap n bcap m bc most:Nat}{R:Nat->aD}(hI:WIn w ls R ba n bcap bo m bc)(h1:1≤most)(hm:most≤1048576):
 Calls Tryz.prog 37 #[dS p ha hn hcap ba n bcap,.slice bo m bc,.int .i64 most] w (RetN w fun w' v=>∃k:Nat,v= .int .i64 k/\(k<most->iK R most ls 0 1=some k)):=by
 obtain⟨bvs,hbc,hbl,hbs⟩:=hI.bvs;obtain⟨Gm,hGm⟩:=hI.gm;have hln:=hI.len;have hnf:=hI.few;have hmf:=hI.mfew;have HBs:=qH (fun(X:World) (hX:Ext w X) (j:Nat) (hj:j≤1048576)=>kR bvs bo m bc j X hbl (hbc.ext hX) hmf hj);have HRo:=qH (fun(X:World) (hX:Ext w X) (j:Nat) (l:aJ) (hj:ls[j]?=some l) (a2:Option Addr) (tn cap2:Nat) (ht:tn=(aA l).length)=>show Calls Tryz.prog 78 #[.agg #[.string (bC l),.slice a2 tn cap2],bvs.getD j (.pointer none)] X (RetN X fun w' v=>aHf X w' v (bL (aA l) (R j)))from by obtain⟨S,G,hB,eR⟩:=hbs j l hj;rw [eR];exact mW (hB.ext hX) (bC l) (aA l) a2 tn cap2 ht);have HL:=qH (nIX hln hGm);obtain⟨gb,egb⟩:=nm w.heap.size;obtain⟨w1,e1⟩:=nm (w.alloc (.cells #[.string p,.slice ha hn hcap,.slice ba n bcap] 27));have x1:Ext w w1:=xAX e1;have hB1:=bNX egb e1;have H1:=qH (nIX x1 hB1);clear hI hbc hbl hbs hGm hmf x1 hB1 hln;go_enter Tryz.func37,Tryz.ntmps37;go_wp2;clear e1 egb;go_loopw [7,8] (fun nv iv wr=>aM6 w R ls most n gb [.string p,.slice ha hn hcap,.slice ba n bcap] nv iv wr) (fun _ iv _=>n- (intOf iv).toNat)
 case atStart=>exact⟨0,1,Nat.zero_le _,rfl,rfl,h1,qH H1.out.1,qH H1.out.2,qH rfl⟩
 case round=>
  obtain⟨j,k,hj,rfl,rfl,hkm,hex,hbk,hsz⟩:=hrel;have r2:=hbk.out.c2;by_cases hlt:j<n
  ·obtain⟨l,hl⟩:∃l,ls[j]?=some l:=⟨_,qG (by have:=HL.out.1;omega)⟩;obtain⟨b,off,a2,cap2,eao,hG,hb,hL,c0,c1,d2',-⟩:=iC (HL.out.2.ext hex.out) hl;subst eao;have HT:=qH (aEk hsz.out hl);by_cases hk1:l.1=1
   ·rw [hk1]at c0;have HS:=qH (show iK R most [l] j k=if most<k*(1+(bL (aA l) (R j)).length)then none else some (k*(1+(bL (aA l) (R j)).length))from by
     show(if l.1=1 then _ else _)=_;rw [if_pos hk1];rfl)
    obtain⟨lp,elp⟩:=nm (bC l);obtain⟨tn,etn⟩:=nm ((aA l).length);obtain⟨bv,ebv⟩:=nm (bvs.getD j (.pointer none));obtain⟨RA,eRA⟩:=nm (bL (aA l) (R j));have HCa:=qH (fun X (hX:Ext wr X)=>HRo.out X (hex.out.trans hX) j l hl a2 tn cap2 etn.symm);have HCb:=qH (fun X (hX:Ext wr X)=>HBs.out X (hex.out.trans hX) j (by omega));rw [elp]at c1 HCa;rw [etn]at d2';rw [ebv]at HCa HCb;rw [eRA]at HCa HS;have HJ:=qH (show ∀X,Ext wr X->(fun X:World=>X.cell? ⟨gb,2,none⟩=some (.slice (some ⟨b,off,none⟩) n bcap)/\X.cell? ⟨b,off+j*8+1,none⟩=some (.string lp)/\X.cell? ⟨b,off+j*8+2,none⟩=some (.slice a2 tn cap2)) X from fun X hX=>⟨hX.cell r2 id,hX.cell c1 id,hX.cell d2' id⟩);clear hl hL hG hb hk1 elp etn ebv eRA hsz;go_wp2;refine aY (fun X:World=>X.cell? ⟨gb,2,none⟩=some (.slice (some ⟨b,off,none⟩) n bcap)/\X.cell? ⟨b,off+j*8+1,none⟩=some (.string lp)/\X.cell? ⟨b,off+j*8+2,none⟩=some (.slice a2 tn cap2)) [] (by kernel_rfl) (HJ.out _ (Kp.refl wr).drew) (fun hHeld=>?_);refine eFX 0 ?_;refine eFX 1 ?_;refine eIX 2 ?_;refine eFX 3 ?_;refine eIX 4 ?_;refine eFX 5 ?_;refine eIX 6 ?_;refine eFX 7 ?_;refine eFX 8 ?_;refine eTX 9 fun K hK=>?_;go_simp
    (refine(HCb.out _ (Kp.refl wr).drew).mono ?_;rintro e w5 ⟨rfl,rfl⟩)
    go_wp2_with fail
    refine hK.out _ _ (HJ.out _ (Kp.refl wr).drew) fun hHeld=>?_;clear hK K;refine eTX 10 fun K hK=>?_;go_simp
    (refine(HCa.out _ (Kp.refl wr).drew).mono ?_;rintro e w6 ⟨v6,rfl,hk6,qo,qc,rfl,hR6,hRl⟩;have X6:=qH (show Ext wr w6 from(Kp.refl wr).drew.trans hk6);obtain⟨z,ez⟩:=nm RA.length;rw [ez]at HS hRl ⊢;obtain⟨kz,ekz⟩:=nm (k*(1+z));rw [ekz]at HS;have hkz:kz≤1048576*(1+1048576*1048576):=(by rw [<-ekz];exact Nat.mul_le_mul (by omega) (by omega));have u0:IntKind.i64.wrap (1+(z:Int))=1+(z:Int):=IntWalk.i64_in _ (by omega);have u1:(k:Int)*(1+(z:Int))=(kz:Int):=(by rw [<-ekz,Int.natCast_mul,Int.natCast_add];rfl);have u2:IntKind.i64.wrap ((k:Int)*(1+(z:Int)))=(kz:Int):=(by rw [u1];exact IntWalk.i64_in _ (by omega));clear u1 hk6 hR6 ez ekz)
    go_wp2_with fail
    refine hK.out _ _ (HJ.out _ X6.out) fun hHeld=>?_;clear hK K;refine eIX 11 ?_;refine eFX 12 ?_;refine eFX 13 ?_;refine eFX 14 ?_;refine aL (by kernel_rfl) ?_ _;clear hHeld;by_cases hmz:most<kz
    ·have q1:decide ((kz:Int)>(most:Int))=true:=by simp;omega
     go_wp2;go_ret;exact RetN.mk (hex.out.trans X6.out) ⟨most,rfl,fun h=>absurd h (Nat.lt_irrefl _)⟩
    ·have q1:decide ((kz:Int)>(most:Int))=false:=by simp;omega
     rw [if_neg hmz]at HS;go_wp2;go_roundw
     case rel=>exact⟨j+1,kz,by omega,nMX,rfl,by omega,qH (hex.out.trans X6.out),qH (hbk.out.ext X6.out),qH (HT.out.trans HS.out)⟩
     case measure=>simp [intOf];omega
   ·have HS:=qH (show iK R most [l] j k=some k from by
     show(if l.1=1 then _ else _)=_;rw [if_neg hk1];rfl)
    obtain⟨kd,ekd⟩:=nm l.1;rw [ekd]at c0 hk1;have t1:(kd==1)=false:=by simp [hk1]
    clear hl hL hG hb hk1 ekd c1 d2' hsz;go_wp2;go_roundw
    case rel=>exact⟨j+1,k,by omega,nMX,rfl,hkm,hex,hbk,qH (HT.out.trans HS.out)⟩
    case measure=>simp [intOf];omega
  ·obtain rfl:j=n:=by omega
   have HZ:=qH (show iK R most ls 0 1=some k from by rw [<-hsz.out,List.take_of_length_le (by rw [<-HL.out.1];exact Nat.le_refl _)]);go_wp2;go_ret;exact RetN.mk hex.out ⟨k,rfl,fun _=>HZ.out⟩
noncomputable def aAt:Code:=aF1 4 (Tryz.f6.body.getD .skip)
set_option maxHeartbeats 16000000 in
theorem aKc{w w1 w5:World}{p:ByteArray}{hs:List aE}{ls:List aJ}{ha ba aa b0:Option Addr}{hn hcap n bcap m ac bc g0 z:Nat}{G:Nat->Prop}{Ls:List (List dW)}{ps:List mF}{t:Array Value}(hhn:hn=hs.length)(hh:aR w G ha hs)(hhl:hn≤1048576)(hbn:n=ls.length)(h:cD w G ba ls)(hf:Fit ls)(hnv:(aC ls).length≤1048576)
 (hl:n≤1048576)(ht:∀l∈ls,(aC ls).length+(aA l).length≤1048576)(hx:Ext w w5)(hG:Blk w5 g0 [.string p,.slice ha hn hcap,.slice ba n bcap] 27)(hps:BothsAt w1 w5 Ls ps (.slice aa m ac) (.slice b0 m bc))(hw1:w.heap.size≤w1.heap.size/\w1.heap.size≤w5.heap.size)(hm:m=ps.length)(hml:m≤1048576)(hLl:(eU ((p,hs,()),ls,()) (mT ps ls)).length≤4000)(hz1:1≤z)
 (hz:t.size=109)(t2:t.getD 2 undef= .int .i64 z)(t3:t.getD 3 undef= .pointer (some ⟨g0,0,none⟩))(t7:t.getD 7 undef= .slice aa m ac)(t8:t.getD 8 undef= .slice b0 m bc):
 aAt.wp Tryz.prog (bodyPostM Fence.wide 4 Tryz.prog Tryz.f6 (RetN w fun _ v=>v= .bool true)) {tmps:=t,defers:= []} w5:=by
 obtain⟨u,hu,rfl⟩:=aFd t hz;have e2:=(hu 2).symm.trans t2;have e3:=(hu 3).symm.trans t3;have e7:=(hu 7).symm.trans t7;have e8:=(hu 8).symm.trans t8;rw [e2,e3,e7,e8];clear hz t2 t3 t7 t8 e2 e3 e7 e8 hu;obtain⟨Q,eQ⟩:∃Q,Q=bodyPostM Fence.wide 4 Tryz.prog Tryz.f6 (RetN w fun _ v=>v= .bool true):=⟨_,rfl⟩;rw [<-eQ];have EQ:=qH eQ;have HLe:=qH (aFe p hs ls ha hn hcap ba n bcap w5 G hhn (hh.ext hx) hhl hbn (h.ext hx) hf);have HRo:=qH (fun(X:World) (hX:Ext w5 X)=>aCa (p:=p) (hcap:=hcap) (bcap:=bcap) (m:=m) (bc:=bc) hhn (hh.ext (hx.trans hX)) hhl (h.ext (hx.trans hX)) hf ((hps.ext hX).win hm hml hbn hl (h.ext (hx.trans hX)) ht hnv) (Nat.le_trans hLl (by decide)));obtain⟨Es,hEs,hBi⟩:=hps.binds ((p,hs,()),ls,());have HPo:=qH (fun(X:World) (hX:Ext w5 X) (w0:World) (ia ib:Option Addr) (ic ibc:Nat) (hM:RuleK w0 X hs ls ia hn ic ib n ibc)=>aCn (w:=X) (p:=p) (hs:=hs) (ls:=ls) (ha:=ia) (ba:=ib) (bsa:=aa) (hn:=hn) (hcap:=ic) (n:=n) (bcap:=ibc) (nb:=m) (bsc:=ac) (G:=New w0) (bvs:=ps.map (·.1.1)) (Es:=Es) hhn (hM.terms (yJ hh)) hhl hbn (hM.lits (aCw h)) hf hnv hl (by rw [hm,List.length_map]) (by obtain⟨a,c,e,hc,-⟩:=hps.la.shape;cases e;exact hc.ext hX) (fun j=>by obtain⟨S,hB⟩:=hEs j;exact⟨S,hB.ext hX⟩) hBi);have HVl:=qH (show ∀V∈eU ((p,hs,()),ls,()) (mT ps ls),V.length≤1048576 from fun V hV=>by have h1:V.length=(aC ls).length:=aJe V hV;omega);have HP:=qH (nIX hps (nIX hm hx));have HF:=qH (fun l (hl:l∈ls)=>show(aA l).length≤1048576 by have:=ht l hl;omega);obtain⟨L,eL⟩:=nm (eU ((p,hs,()),ls,()) (mT ps ls));simp only [eL]at HRo HPo HVl hLl;have r0:=hG.c0;have r1:=hG.c1;have r2:=hG.c2;have HG:=qH hG;clear hh h hf ht hx hG hps hEs hBi eL eQ hhn hbn hnv hm;conv=>arg 2;whnf
 show Code.wp _ (Code.seq _ (Code.seq _ (Code.seq _ (Code.seq _ (Code.seq _ (Code.seq _ (Code.seq _ aCo))))))) _ _ _;go_wp2_with fail
 refine HLe.out.mono ?_;rintro e w6 ⟨v6,rfl,hk6,ia,ic,ib,ibc,rfl,hM⟩;obtain⟨gL,rfl,hSp⟩:=aHm hM HF.out;obtain⟨gi,egi⟩:=nm w6.heap.size;obtain⟨wi,ei⟩:=nm (w6.alloc (.cells #[.string p,.slice ia hn ic,.slice (some ⟨gL,0,none⟩) n ibc] 27));have hBi:=bNX egi ei;have hxi:Ext w6 wi:=xAX ei;have HI:=qH (show Ext w5 w6/\Ext w6 wi/\Blk wi gi [.string p,.slice ia hn ic,.slice (some ⟨gL,0,none⟩) n ibc] 27/\RuleK w5 w6 hs ls ia hn ic (some ⟨gL,0,none⟩) n ibc/\SpoilS w6 w5.heap.size gi gL n 0 ia hn/\w6.heap.size=gi from⟨hk6,hxi,hBi,hM,by rw [<-egi];exact hSp,egi⟩);have s0:wi.cell? ⟨g0,0,none⟩=some (.string p):=(hk6.trans hxi).cell r0 id;have s1:wi.cell? ⟨g0,1,none⟩=some (.slice ha hn hcap):=(hk6.trans hxi).cell r1 id;have s2:wi.cell? ⟨g0,2,none⟩=some (.slice ba n bcap):=(hk6.trans hxi).cell r2 id;clear hk6 hM hSp hBi hxi r0 r1 r2;go_wp2_with fail
 clear ei egi;refine(HRo.out wi (HI.out.1.trans HI.out.2.1)).mono ?_;rintro e w7 ⟨v7,rfl,hk7,ho7⟩;obtain⟨wa,wc,rfl,hwa,hwc,hwm,-⟩:=ho7.form;have H7:=qH (show Ext wi w7/\RowsIn (fun g=>wi.heap.size≤g/\g<w7.heap.size) w7 wa L/\L.length≤wc/\wc≤maxLen from⟨hk7,hwa,hwc,hwm⟩);have q0:=(HI.out.2.2.1.ext hk7).c0;have q1:=(HI.out.2.2.1.ext hk7).c1;have q2:=(HI.out.2.2.1.ext hk7).c2;have HRk:=qH (fun(X:World) (hX:Ext w7 X)=>HPo.out X (HI.out.1.trans (HI.out.2.1.trans (hk7.trans hX))) w5 ia (some ⟨gL,0,none⟩) ic ibc (HI.out.2.2.2.1.ext (HI.out.2.1.trans (hk7.trans hX))));clear hk7 ho7 hwa hwc hwm s0 s1 s2;go_wp2_with fail
 refine(HRk.out w7 (Kp.refl _)).mono ?_;rintro e w8 ⟨v8,rfl,hk8,xb,lo,hlo,rfl,hseq⟩;have H8:=qH (show Ext w7 w8/\w7.heap.size≤lo/\pP Fence.wide 3 Tryz.prog 82 #[.pointer (some ⟨xb,0,none⟩)] (fun x:XB=>#[.slice x.1.1 x.1.2.1 x.1.2.2]) (fun k=>lo≤k/\k<w8.heap.size) GvRow (fun xs=>xs.map Prod.snd=L) (fun pre=>pre.map Prod.snd<+:L) w8 from⟨hk8,hlo,hseq 3⟩);have q0:=hk8.cell q0 id;have q1:=hk8.cell q1 id;have q2:=hk8.cell q2 id;clear hk8 hlo hseq;go_wp2_with fail
 refine(aAb (p:=p) (ia:=ia) (ib:=some ⟨gL,0,none⟩) (hn:=hn) (ic:=ic) (n:=n) (ibc:=ibc) (z:=1073741824) (L:=L) (by decide) (by omega) HVl.out (fun X hX=>HRk.out X (H8.out.1.trans hX))).mono ?_;rintro e w9 ⟨v9,rfl,hk9,oa,oc,rfl,hoa⟩;rw [List.take_of_length_le (show L.length≤1073741824 by omega)]at hoa ⊢;have H9:=qH (show Ext w7 w9/\RowsIn (New w8) w9 oa L/\Ext w8 w9 from⟨H8.out.1.trans hk9,hoa,hk9⟩);have q0:=hk9.cell q0 id;have q1:=hk9.cell q1 id;have q2:=hk9.cell q2 id;clear hk9 hoa;go_wp2_with fail
 refine(kD rfl H9.out.2.1 (H7.out.2.1.ext H9.out.1) (by omega)).mono ?_;rintro e wA ⟨v,rfl,hkA,rfl⟩;have HA:=qH (show Ext w7 wA/\Ext w8 wA from⟨H9.out.1.trans hkA,H9.out.2.2.trans hkA⟩);have q0:=hkA.cell q0 id;have q1:=hkA.cell q1 id;have q2:=hkA.cell q2 id;clear hkA;go_wp2_with fail
 refine(aAb (p:=p) (ia:=ia) (ib:=some ⟨gL,0,none⟩) (hn:=hn) (ic:=ic) (n:=n) (ibc:=ibc) (z:=z) (L:=L) hz1 (by omega) HVl.out (fun X hX=>HRk.out X (HA.out.1.trans hX))).mono ?_;rintro e wB ⟨vB,rfl,hkB,pa,pc,rfl,hpa⟩;have HB:=qH (show Ext w7 wB/\Ext w8 wB/\RowsIn (New wA) wB pa (L.take z)from⟨HA.out.1.trans hkB,HA.out.2.trans hkB,hpa⟩);have hca:CellsAt wB aa (ps.map (·.1.1)):=by obtain⟨a,c,e,hc,-⟩:=HP.out.1.la.shape;cases e;exact hc.ext (HI.out.1.trans (HI.out.2.1.trans (H7.out.1.trans HB.out.1)))
 have HCa:=qH hca;have HOw:=qH (show ∀q∈ps,OwnAt wB q from fun q hq=>by obtain⟨⟨bb,r,S,E,e1,hA,hC,h3,h4⟩,-,-⟩:=(HP.out.1.one q hq).1;exact⟨bb,r,S,E,e1,hA.ext (HI.out.1.trans (HI.out.2.1.trans (H7.out.1.trans HB.out.1))),h3,h4⟩);have HLo:=qH (show ∀k,aBe ps k->k<w5.heap.size from fun k ⟨q,hq,hk⟩=>by have:=(HP.out.1.one q hq).2.2;omega);clear hkB hpa hca q0 q1 q2;go_wp2_with fail
 go_loopw [14] (fun iv wr=>aMc wB ps m iv wr) (fun iv _=>m- (intOf iv).toNat)
 case atStart=>exact⟨0,Nat.zero_le _,rfl,qH (Kp.refl _),HOw⟩
 case round=>
  obtain⟨i,hi,rfl,hkp,hown⟩:=hrel;by_cases hlt:i<m
  ·obtain⟨q,hq⟩:∃q,ps[i]?=some q:=⟨_,qG (by have:=HP.out.2.1;omega)⟩;have hqm:=List.mem_of_getElem? hq;obtain⟨bb,r,S,E,e1,hA,h3,h4⟩:=hown.out q (by
    have:(ps.drop i)[0]?=some q:=by rw [List.getElem?_drop];exact hq
    exact List.mem_of_getElem? this)
   obtain⟨ab,ao,eaa,hca⟩:=HCa.out i q.1.1 (by rw [List.getElem?_map,hq];rfl);subst eaa;rw [e1]at hca;have hab:¬aBe ps ab:=fun⟨x,hx,hk⟩=>HP.out.1.offA ab rfl x hx hk;have ca:=hkp.out.cell hca hab;have HSh:=qH (show Shaken wr wr bb r (eJ bb r E)from⟨Kp.refl wr,S,E,hA,fun k hk=> .inl hk⟩);have HQ:=qH (nIX hq (nIX hqm (nIX h4 hca)));have HFq:=qH (show ¬(eJ bb r E ab\/wr.heap.size≤ab)from fun h=>by
    rcases h with h|h
    ·exact HP.out.1.offA ab rfl q hqm (h4 ab h)
    ·have h1:=World.block_lt_of_cell? _ _ ca;have h2:ab<wr.heap.size:=h1;omega)
   clear hA h3 h4 e1 hq hqm hca hab;go_wp2_with fail
   refine(HSh.out.add ⟨#[101]⟩ [⟨#[110,101,119]⟩,⟨#[110,101,119]⟩] (by decide)).mono ?_;rintro e x1 ⟨v,rfl,hs1⟩;have HS1:=qH hs1;have ca1:x1.cell? ⟨ab,ao+i,none⟩=some (.pointer (some ⟨bb,0,none⟩)):=HS1.out.1.cell ca HFq.out;clear hs1;go_wp2_with fail
   refine(HS1.out.add ⟨#[110]⟩ [⟨#[110,101,119]⟩] (by decide)).mono ?_;rintro e x2 ⟨v,rfl,hs2⟩;have HS2:=qH hs2;have ca2:x2.cell? ⟨ab,ao+i,none⟩=some (.pointer (some ⟨bb,0,none⟩)):=HS2.out.1.cell ca HFq.out;clear hs2;go_wp2_with fail
   refine(HS2.out.drop ⟨#[101]⟩ [⟨#[97]⟩,⟨#[98]⟩] (by decide)).mono ?_;rintro e x3 ⟨v,rfl,hs3⟩;have HS3:=qH hs3;clear hs3 ca1 ca2 ca;go_wp2;go_roundw
   case rel=>
    obtain⟨hq,hqm,h4,-⟩:=HQ.out;have hsz:=hkp.out.size;refine⟨i+1,by omega,nMX,qH (hkp.out.trans' HS3.out.1 fun k hk ho=>?_),qH fun x hx=>?_⟩
    ·rcases ho with ho|ho
     ·exact⟨q,hqm,h4 k ho⟩
     ·omega
    ·obtain⟨j,hj⟩:=List.mem_iff_getElem?.1 hx;rw [List.getElem?_drop]at hj;have hxm:=List.mem_of_getElem? hj;have hx1:x∈ps.drop i:=by
      have:(ps.drop i)[1+j]?=some x:=by rw [List.getElem?_drop,<-Nat.add_assoc];exact hj
      exact List.mem_of_getElem? this
     have hap:q.1.2.2.2≤x.1.2.2.1:=by
      obtain⟨hi1,e1⟩:=List.getElem?_eq_some_iff.1 hq;obtain⟨hj1,e2⟩:=List.getElem?_eq_some_iff.1 hj;have:=List.pairwise_iff_getElem.1 HP.out.1.apart i (i+1+j) hi1 hj1 (by omega)
      rwa [e1,e2]at this
     refine(hown.out x hx1).kp HS3.out.1 fun k ho hk=>?_;rcases ho with ho|ho
     ·have:=h4 k ho;omega
     ·have h1:=(HP.out.1.one x hxm).2.2;have h2:=(HI.out.1.trans (HI.out.2.1.trans (H7.out.1.trans HB.out.1))).size;omega
   case measure=>simp [intOf];omega
  ·obtain rfl:m=i:=by omega
   have x6:=HI.out.2.1.trans (H7.out.1.trans HB.out.1);have s5:=HI.out.1.size;have s6:=HI.out.2.2.2.2.2;have s7:=(HI.out.2.1.trans H7.out.1).size;have s8:=HB.out.1.size;have s9:=hkp.out.size;have hFb:∀k,aBe ps k->k<w5.heap.size:=HLo.out;have hbi:Blk wr gi [.string p,.slice ia hn ic,.slice (some ⟨gL,0,none⟩) n ibc] 27:=(HI.out.2.2.1.ext (H7.out.1.trans HB.out.1)).kp hkp.out fun h=>by have:=hFb gi h;omega
   have q0:=hbi.c0;have q1:=hbi.c1;have q2:=hbi.c2;have hSp:SpoilS wr w5.heap.size gi gL n 0 ia hn:=((HI.out.2.2.2.2.1.kp x6 fun k _ _ h=>h.elim).kp hkp.out fun k h1 h2 h3=>by have:=hFb k h3;omega);have HSp:=qH (aBr (p:=p) (ic:=ic) (ibc:=ibc) hSp (by omega) hhl hl);clear hbi hSp;go_wp2_with fail
   refine HSp.out.mono ?_;rintro e wC ⟨v,rfl,hkC,-⟩;go_wp2_with fail
   rw [EQ.out];have hx:=HP.out.2.2;have s0:=hx.size;have kB:Kp (fun k=>k<gi/\w1.heap.size≤k) wB wC:=(hkp.out.mono fun k _ h=>⟨by have:=hFb k h;omega,by obtain⟨q,hq,hk⟩:=h;have:=(HP.out.1.one q hq).2.1;omega⟩).trans (hkC.mono fun k _ h=>⟨h.2,by have:=hw1.2;omega⟩);refine aH1 (w:=w) (w8:=w8) (W:=wC) (lo:=lo) (L:=L) (pa:=pa) (wa:=wa) (wc:=wc) (pc:=pc) ((hx.trans (HI.out.1.trans x6)).trans' kB fun k hk h=>by have:=h.2;have:=hw1.1;omega) (by have:=HB.out.2.1.size;have:=kB.size;omega) H8.out.2.2 ((Ext.kp HB.out.2.1).trans (kB.mono fun k _ h hz=>by have:=h.1;have:=H8.out.2.1;have:=hz.1;omega))
    ((H7.out.2.1.ext HB.out.1).kp kB fun k h hs=>by have:=h.1;have:=HI.out.2.1.size;have:=hs.1;omega) H7.out.2.2.1 H7.out.2.2.2 (HB.out.2.2.kp kB fun k h hs=>by have:=h.1;have:=HA.out.1.size;have hs':wA.heap.size≤k:=hs;omega) hz1 (by omega) HVl.out rfl rfl rfl rfl (by rw [List.length_take];rfl)
set_option maxHeartbeats 16000000 in
theorem aA0{w:World}{p:ByteArray}{hs:List aE}{ls:List aJ}{ha ba la:Option Addr}{hn hcap n bcap ln lc:Nat}{G:Nat->Prop}{Ls:List (List dW)}{z:Int}(hhn:hn=hs.length)(hh:aR w G ha hs)(hhl:hn≤1048576)(hbn:n=ls.length)(h:cD w G ba ls)(hf:Fit ls)(hnv:(aC ls).length≤1048576)
 (hl:n≤1048576)(hln:ln=Ls.length)(hLs:RelsLL w la Ls)(hll:ln≤1048576)(hq:∀L∈Ls,L.length≤1048576/\∀q∈L,q.2.2.1.length≤1048576)(ht:∀l∈ls,(aC ls).length+(aA l).length≤1048576):
 Calls Tryz.prog 6 #[dS p ha hn hcap ba n bcap,.slice la ln lc,.int .i64 z] w (RetN w fun w' v=>v= .bool true):=by
 have HBa:=qH (fun(W:World) (hW:Ext w W)=>aJh Ls la ln lc W hln (hLs.ext hW) hll hq);have HLl:=qH (nIX hln hll);have HH:=qH (nIX hhn (nIX hh (nIX hhl (nIX hbn (nIX h (nIX hf (nIX hnv (nIX hl ht))))))));obtain⟨g0,eg0⟩:=nm w.heap.size;obtain⟨w1,e1⟩:=nm (w.alloc (.cells #[.string p,.slice ha hn hcap,.slice ba n bcap] 27));have hB1:=bNX eg0 e1;have hx1:Ext w w1:=xAX e1;have H1:=qH (nIX hx1 hB1);clear hB1 hx1 hhn hh hhl hbn h hf hnv hln hLs hll hq ht hl;refine callsIn_wide.1 (callsIn_of_wp_marks (n:=4) Tryz.func6 rfl trivial ?_ rfl);refine wpIn_wide.2 ?_;obtain⟨Q,eQ⟩:∃Q,Q=bodyPostM Fence.wide 4 Tryz.prog Tryz.f6 (RetN w fun _ v=>v= .bool true):=⟨_,rfl⟩;rw [<-eQ];have EQ:=qH eQ;clear eQ;have HRet:=qH (show ∀(W:World) (t:Array Value),Ext w W->t.getD 6 undef= .bool true->Q .ret {tmps:=t,defers:= []} W from fun W t hW ht=>by rw [EQ.out];exact pH (Marks.nil _ _) hW hW.size ht);simp only [Tryz.ntmps6,List.size_toArray,List.length_cons,List.length_nil,Nat.reduceAdd,Nat.reduceSub,Array.replicate_succ,Array.replicate_zero,List.push_toArray,List.append_toArray,List.nil_append,List.cons_append];show Code.wp _ (Code.seq _ (Code.seq _ (Code.seq _ (Code.seq _ aAt)))) _ _ _;go_wp2_with fail
 clear e1 eg0;refine(HBa.out w1 H1.out.1).mono ?_;rintro e w3 ⟨v3,rfl,hk3,hv3⟩;rcases hv3 with⟨-,rfl⟩|⟨ps,av,bv,rfl,hps⟩
 ·have H3:=qH (H1.out.1.trans hk3);clear hk3;go_wp2_with fail
  refine(kM w3).mono ?_;rintro e w4 ⟨v,rfl,hk4,rfl⟩;have X4:=qH (H3.out.trans hk4);clear hk4;go_wp2_with fail
  exact HRet.out _ _ X4.out rfl
 obtain⟨aa,ac,rfl,-⟩:=hps.la.shape;obtain⟨b0,bc,rfl,-⟩:=hps.lb.shape;have hml:ps.length=ln:=by have h1:=congrArg List.length hps.of;rw [List.length_map]at h1;rw [h1,HLl.out.1]
 have hm16:ln≤1048576:=HLl.out.2;rw [hml]at hps ⊢;have HP:=qH (show Ext w w3/\Blk w3 g0 [.string p,.slice ha hn hcap,.slice ba n bcap] 27/\BothsAt w1 w3 Ls ps (.slice aa ln ac) (.slice b0 ln bc)/\ln=ps.length/\Ext w1 w3 from⟨H1.out.1.trans hk3,H1.out.2.ext hk3,hps,hml.symm,hk3⟩);have HSz:=qH (aB7 (p:=p) (ha:=ha) (hn:=hn) (hcap:=hcap) (bcap:=bcap) (most:=4000) (hps.win hml.symm hm16 HH.out.2.2.2.1 HH.out.2.2.2.2.2.2.2.1 (HH.out.2.2.2.2.1.ext (H1.out.1.trans hk3)) HH.out.2.2.2.2.2.2.2.2 HH.out.2.2.2.2.2.2.1) (by decide) (by decide));have r0:=HP.out.2.1.c0;have r1:=HP.out.2.1.c1;have r2:=HP.out.2.1.c2;clear hps hml hk3;go_wp2_with fail
 refine HSz.out.mono ?_;rintro e w5 ⟨v5,rfl,hk5,k,rfl,hk⟩;have H5:=qH (show Ext w3 w5/\(k<4000->(eU ((p,hs,()),ls,()) (mT ps ls)).length≤k)from⟨hk5,fun h0=>aEj (r:=((p,hs,()),ls,())) (hk h0)⟩);clear hk5 hk r0 r1 r2;by_cases h4000:4000≤k
 ·have i4:decide ((k:Int)≥4000)=true:=by simp;omega
  have X5:=qH (HP.out.1.trans H5.out.1);clear h4000;go_wp2_with fail
  refine(kM w5).mono ?_;rintro e w6 ⟨v,rfl,hk6,rfl⟩;have X6:=qH (X5.out.trans hk6);clear hk6;go_wp2_with fail
  exact HRet.out _ _ X6.out rfl
 have i4:decide ((k:Int)≥4000)=false:=by simp;omega
 have HBl:=qH (show(eU ((p,hs,()),ls,()) (mT ps ls)).length≤4000 from Nat.le_trans (H5.out.2 (by omega)) (by omega));clear h4000;have HMid:=qH (show ∀(z':Nat) (t:Array Value),1≤z'->t.size=109->t.getD 2 undef= .int .i64 z'->t.getD 3 undef= .pointer (some ⟨g0,0,none⟩)->t.getD 7 undef= .slice aa ln ac->t.getD 8 undef= .slice b0 ln bc->aAt.wp Tryz.prog Q {tmps:=t,defers:= []} w5 from fun z' t h1 h2 h3 h4 h5 h6=>by rw [EQ.out];exact aKc (w1:=w1) (Ls:=Ls) (ps:=ps) (hcap:=hcap) (bcap:=bcap) HH.out.1 HH.out.2.1 HH.out.2.2.1 HH.out.2.2.2.1 HH.out.2.2.2.2.1 HH.out.2.2.2.2.2.1 HH.out.2.2.2.2.2.2.1 HH.out.2.2.2.2.2.2.2.1 HH.out.2.2.2.2.2.2.2.2 (HP.out.1.trans H5.out.1) (HP.out.2.1.ext H5.out.1) (HP.out.2.2.1.ext H5.out.1) ⟨H1.out.1.size,(HP.out.2.2.2.2.trans H5.out.1).size⟩ HP.out.2.2.2.1 hm16 HBl.out h1 h2 h3 h4 h5 h6);by_cases hz:z<1
 ·have i5:decide (z<1)=true:=decide_eq_true hz;go_wp2_with fail
  exact HMid.out 1 _ (Nat.le_refl _) rfl rfl rfl rfl rfl
 ·have i5:decide (z<1)=false:=decide_eq_false hz;obtain⟨z',rfl⟩:∃z':Nat,z=(z':Int):=⟨z.toNat,by omega⟩;have hz':1≤z':=by omega
  go_wp2_with fail
  exact HMid.out z' _ hz' rfl rfl rfl rfl rfl
end
end Go.Proofs.YtinnmeiphbdogaaGreat
