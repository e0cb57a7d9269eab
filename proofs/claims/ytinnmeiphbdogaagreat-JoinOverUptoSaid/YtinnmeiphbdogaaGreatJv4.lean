/- Texts joined for a claim (CurOpen, CurOpen0, CurStep, JoinStep, MatchAt, WalkAt, WalkPlain, Leap, LeapWalk, FromWalk, RefEnv, RefFits, RefVal). -/
import Derived.Test.YtinnmeiphbdogaaGreatJv3
import Derived.Deep.QuietTactic
set_option linter.unusedVariables false
set_option linter.unusedSimpArgs false
set_option maxRecDepth 100000
namespace Go.Proofs.YtinnmeiphbdogaaGreat
section
open Go.RowKit Go.Shelf
set_option maxHeartbeats 1000000 in
theorem aLa{w:World}{cb tb:Nat}{st:List (Nat×Nat)}{ao:Option Addr}{n c:Nat}{M:Nat->Prop}(h:CurAt w cb tb st (.slice ao n c) M):
 Calls Tryz.prog 182 #[.pointer (some ⟨cb,0,none⟩)] w (RetN w fun w' v=>v= .int .i64 n):=by
 have hq:=nR cb;have c1:=h.box.c1;clear h;go_enter Tryz.func182,Tryz.ntmps182;go_wp2;go_ret;exact RetN.mk (Kp.refl _) rfl
set_option maxHeartbeats 4000000 in
theorem aJf{w:World}{tb:Nat}{W:aD}{d i k f t:Nat}(h:TrieAt w tb W d)(hi:i<d)(hf:(cF W d i W.length++ [(aO W d (i+1) W.length:Int)])[k]?=some ((f:Nat):Int))(ht:(cF W d i W.length++ [(aO W d (i+1) W.length:Int)])[k+1]?=some ((t:Nat):Int)):
 Calls Tryz.prog 186 #[.pointer (some ⟨tb,0,none⟩),.int .i64 i,.int .i64 k] w (RetN w fun w' v=>v= .agg #[.int .i64 f,.int .i64 t]):=by
 have hfew:=h.few;obtain⟨⟨la,lc,t0,-,-,hlev⟩,-,-⟩:=h;obtain⟨bl,ol,ela,hL⟩:=hlev i hi;subst ela;obtain⟨ka,kc,fa,fc,-,l1,-,-,hf1⟩:=hL.ex;have hkl:=(List.getElem?_eq_some_iff.1 ht).1;rw [List.length_append,iO,List.length_singleton]at hkl;have hwl:=dM W d i W.length;obtain⟨fb,fo,efa,k0⟩:=hf1 k (.int .i64 f) (by unfold ints;rw [List.getElem?_map,hf];rfl);obtain⟨fb',fo',efa',k1⟩:=hf1 (k+1) (.int .i64 t) (by unfold ints;rw [List.getElem?_map,ht];rfl);subst efa;cases efa';obtain⟨nk,enk⟩:=nm (aO W d i W.length);have hnk:nk≤1048576:=by unfold aO at enk;omega
 rw [enk]at l1 hkl;have hw:IntKind.i64.wrap ((k:Int)+1)=(k:Int)+1:=IntWalk.i64_in _ (by omega);have hk1:k<nk+1:=by omega
 have hk5:(k:Int)< (nk:Int)+1:=by omega
 have hk6:k<nk:=by omega
 have hk7:k≤nk:=by omega
 have hk8:(k:Int)< ((nk+1:Nat):Int):=by omega
 have hk2:(0:Int)≤(k:Int)+1:=by omega
 have hk3:(k:Int)+1< ((nk+1:Nat):Int):=by omega
 have hk4:((k:Int)+1).toNat=k+1:=by omega
 clear hf ht hlev hL hf1 hwl enk hfew;go_enter Tryz.func186,Tryz.ntmps186;obtain⟨w1,e1⟩:=nm (w.alloc (.cells #[.int .i64 0,.int .i64 0] 249));obtain⟨g0,eg0⟩:=nm w.heap.size;have hB:=bNX eg0 e1;have hx1:Ext w w1:=xAX e1;have s0:=hB.c0;have s1:=hB.c1;have f0:=hB.free 0;have f1:=hB.free 1;replace t0:=hx1.cell t0 id;replace l1:=hx1.cell l1 id;replace k0:=hx1.cell k0 id;replace k1:=hx1.cell k1 id;have H1:=qH (nIX hx1 (nIX hB eg0));clear hx1 hB;go_wp2;go_still_tail 24,(by kernel_rfl)
 go_wp2;generalize hw9:World.setCell (World.setCell _ _ _) _ _=w9;have hD:Blk w9 g0 [.int .i64 f,.int .i64 t] 249:=by rw [<-hw9];exact(H1.out.2.1.set 0 _).set 1 _
 have hk9:Ext w w9:=by rw [<-hw9];have h:=H1.out.2.2;exact Kp.setCell (p:=⟨g0,1,none⟩) (Kp.setCell (p:=⟨g0,0,none⟩) H1.out.1 (fun h2=>by have h3:g0<w.heap.size:=h2;omega) _) (fun h2=>by have h3:g0<w.heap.size:=h2;omega) _
 have r0:=(hD.ext ((Kp.refl w9).drew)).c0;have r1:=(hD.ext ((Kp.refl w9).drew)).c1;clear hw9;refine bodyPost_ret (v:= .agg #[.int .i64 f,.int .i64 t]) (by simp [results,Tryz.results186,go_sem,r0,r1]) rfl ?_;exact RetN.mk hk9.drew rfl
theorem jB{P:Program}{t e:TypeId}{k bytes:Nat}{z:Value}(E:cL P t e k bytes z){l:List Oper}{a:Act}{w:World}{Q:Exit->Act->World->Prop}{o:Oper}{K:Act->World->Prop}{El:Prop}(hgd:o.guard=none)(s x:Operand)
 (ho:o.op= .call {callee:= .builtin .append,args:=#[s,x],argTypes:=#[t,t]})
 {v:Value}{n:Nat}{xs:List Value}{M:Nat->Prop}(hs:a.eval s=v)(hr:Row w e k v n xs M)
 {ao:Option Addr}{m c:Nat}{news:List Value}(hx:a.eval x= .slice ao m c)(hsrc:CellsAt w ao news)(hl:news.length=m*k)(h1:∀u∈news,u.oneCell'=true)
 (hb:(n+m)*bytes≤140737488355328)(h63:n+m≤maxLen)
 (h:∀v' w',Row w' e k v' (n+m) (xs++news) (fun g=>v.ownBlock=some g\/w.heap.size≤g)->Kp (fun g=>v.ownBlock=some g) w w'->K (a.put o.dst v') w'):
 if Region.wanted o (yielded l.toArray a.tmps)=true then Oper.wp P o a w K Q else El:=by
 obtain⟨v',w',hrun,h2,h3,h4⟩:=oE (P:=P) E o.type hr hl hsrc h1 hb h63 (c:=c);exact aDr hgd s x ho hs hx hrun (h v' w' h2 h3)
theorem oG{w:World}{e:TypeId}{k:Nat}{v:Value}{n:Nat}{xs:List Value}{M:Nat->Prop}(h:Row w e k v n xs M)(hn:0<n):∃g c,v= .slice (some ⟨g,0,none⟩) n c/\M g:=by
 obtain⟨h1,⟨e1,h0⟩|⟨g',cap,rest,e1,hM,_⟩⟩:=h
 ·omega
 ·exact⟨g',cap,e1,hM⟩
theorem zS:cL Tryz.prog 216 249 2 16 (.agg #[.int .i64 0,.int .i64 0]):=⟨by kernel_rfl,by kernel_rfl,rfl,by decide⟩
set_option maxHeartbeats 4000000 in
theorem aKe{w:World}{cb tb:Nat}{st:List (Nat×Nat)}{g c m a b d f t:Nat}{W:aD}{M:Nat->Prop}(h:CurIn w cb tb st g c m a b M)(ht:TrieAt w tb W d)(hab:a≠b)(hm:m+1<d)(hW:0<W.length)
 (hf:(cF W d m W.length++ [(aO W d (m+1) W.length:Int)])[a]?=some ((f:Nat):Int))(hto:(cF W d m W.length++ [(aO W d (m+1) W.length:Int)])[a+1]?=some ((t:Nat):Int)):
 Calls Tryz.prog 157 #[.pointer (some ⟨cb,0,none⟩)] w (RetF (fun k=>k=cb\/k=g) w fun w' v=>v= .bool true/\∃g' c',CurAt w' cb tb (st++ [(f,t)]) (.slice (some ⟨g',0,none⟩) (m+2) c') (fun k=>k=g\/w.heap.size≤k)):=by
 have HE:=qH (fun(W:World) (hW:Ext w W)=>iF (h.ext hW));have HA:=qH (fun(W:World) (hW:Ext w W)=>aLa (h.at_.ext hW));have HD:=qH (fun(W':World) (hW:Ext w W')=>zV (ht.ext hW));have HLn:=qH (fun(W':World) (hW:Ext w W')=>aGz (ht.ext hW));have hd:decide (a=b)=false:=decide_eq_false hab;rw [hd]at HE;have hq:=nR cb;have HJ:=qH (show ∀w',Ext w w'->(fun w':World=>w'.cell? ⟨cb,0,none⟩=some (.pointer (some ⟨tb,0,none⟩))) w' from fun w' hw'=>by show w'.cell? ⟨cb,0,none⟩=some (.pointer (some ⟨tb,0,none⟩));rw [(h.at_.box.ext hw').cell'];rfl);have HC:=qH h;have HL:=qH (fun(W:World) (hW:Ext w W)=>lB (h.at_.ext hW));have HBl:=qH (fun(W':World) (hW:Ext w W')=>aJf (ht.ext hW) (by omega) hf hto);have HT:=qH ht;have c0:=HJ.out w (Kp.refl _);have hwl:=mH h.small;have e1:((m:Int)+1==(d:Int))=false:=by
  have:¬(m:Int)+1=d:=by omega
  simp [this]
 obtain⟨nw,enw⟩:=nm W.length;have e2:((nw:Int)==0)=false:=by
  have hz:¬(nw:Int)=0:=by omega
  have hz2:¬nw=0:=by omega
  simp [hz2]
 rw [enw]at HLn;clear h hd;go_enter Tryz.func157,Tryz.ntmps157;go_wp2;refine aY (fun w':World=>w'.cell? ⟨cb,0,none⟩=some (.pointer (some ⟨tb,0,none⟩))) [] (by kernel_rfl) (HJ.out _ (Kp.refl w).drew) (fun hHeld=>?_);refine eFX 0 ?_;refine eFX 1 ?_;refine eFX 2 ?_;refine eGX 3 ?_;refine eTX 4 fun K hK=>?_;go_simp
 (refine(HE.out _ (Kp.refl w).drew).mono ?_;rintro e w1 ⟨v,rfl,hk1,rfl⟩;have X1:=qH (show Ext w w1 from((Kp.refl w).drew).trans hk1);clear hk1)
 go_wp2_with fail
 refine hK.out _ _ (HJ.out _ X1.out) fun hHeld=>?_;clear hK K;refine eFX 5 ?_;refine eFX 6 ?_;refine eGX 7 ?_;refine eGX 9 ?_;refine eGX 10 ?_;refine eGX 11 ?_;refine eHX 12 ?_;refine eTX 8 fun K hK=>?_;go_simp
 (refine(HA.out _ X1.out).mono ?_;rintro e w2 ⟨v,rfl,hk2,rfl⟩;have X2:=qH (show Ext w w2 from X1.out.trans hk2);clear hk2)
 go_wp2_with fail
 refine hK.out _ _ (HJ.out _ X2.out) fun hHeld=>?_;clear hK K;refine eTX 13 fun K hK=>?_;go_simp
 (refine(HD.out _ X2.out).mono ?_;rintro e w3 ⟨v,rfl,hk3,rfl⟩;have X3:=qH (show Ext w w3 from X2.out.trans hk3);clear hk3)
 go_wp2_with fail
 refine hK.out _ _ (HJ.out _ X3.out) fun hHeld=>?_;clear hK K;refine eGX 14 ?_;refine eFX 15 ?_;refine eFX 16 ?_;refine eGX 17 ?_;refine eGX 18 ?_;refine eGX 19 ?_;refine eHX 20 ?_;refine eTX 21 fun K hK=>?_;go_simp
 (refine(HLn.out _ X3.out).mono ?_;rintro e w4 ⟨v,rfl,hk4,rfl⟩;have X4:=qH (show Ext w w4 from X3.out.trans hk4);clear hk4)
 go_wp2_with fail
 refine hK.out _ _ (HJ.out _ X4.out) fun hHeld=>?_;clear hK K;refine eGX 22 ?_;refine eFX 23 ?_;refine aL (by kernel_rfl) ?_ _;clear hHeld c0 e1 e2;obtain⟨⟨la,lc,t0,-,-,hlev⟩,-,-⟩:=HT.out.ext X4.out;obtain⟨bl,ol,ela,hL⟩:=hlev 0 (by omega);subst ela;obtain⟨ka,kc,fa,fc,l0,-,-,-,-⟩:=hL.ex;rw [Nat.zero_mul,Nat.add_zero]at l0;generalize aO W d 0 W.length=nk at l0;have c0:=HJ.out w4 X4.out;have hd0:0<d:=by omega
 clear hL hlev hf hto;obtain⟨w5,e5⟩:=nm (w4.alloc (.cells #[.int .i64 0,.int .i64 0] 249));obtain⟨g5,eg5⟩:=nm w4.heap.size;have hB5:=bNX eg5 e5;have hx5:Ext w4 w5:=xAX e5;have s0:=hB5.c0;have s1:=hB5.c1;have f0:=hB5.free 0;have f1:=hB5.free 1;obtain⟨w6,e6⟩:=nm ((w5.setCell ⟨g5,0,none⟩ (.int .i64 0)).setCell ⟨g5,1,none⟩ (.int .i64 nk));have hB6:Blk w6 g5 [.int .i64 0,.int .i64 nk] 249:=by rw [<-e6];exact(hB5.set 0 _).set 1 _
 have hx6:Ext w w6:=by rw [<-e6];have h1:=X4.out.size;exact Kp.setCell (p:=⟨g5,1,none⟩) (Kp.setCell (p:=⟨g5,0,none⟩) (X4.out.trans hx5) (fun h2=>by have h3:g5<w.heap.size:=h2;omega) _) (fun h2=>by have h3:g5<w.heap.size:=h2;omega) _
 have H6:=qH (nIX hx6 (nIX hB6 (show w.heap.size≤g5 by have h1:=X4.out.size;omega)));clear hB5 hx5 hB6 hx6;go_wp2_with fail
 refine(HL.out w6 H6.out.1).mono ?_;rintro e w7 ⟨v,rfl,hk7,rfl⟩;have H7:=qH (nIX (H6.out.1.trans hk7) (H6.out.2.1.ext hk7));have hq2:=yM g (m*2);have HJ7:=qH (show ∀w',Ext w7 w'->(fun w':World=>w'.cell? ⟨cb,0,none⟩=some (.pointer (some ⟨tb,0,none⟩))/\w'.cell? ⟨cb,1,none⟩=some (.slice (some ⟨g,0,none⟩) (m+1) c)/\w'.cell? ⟨g,m*2,none⟩=some (.int .i64 a)) w' from fun w' hw'=>by have hc:=HC.out.ext (H7.out.1.trans hw');obtain⟨z0,z1,-⟩:=hc.cells;exact⟨by rw [hc.at_.box.cell'];rfl,by rw [hc.at_.box.cell'];rfl,z0⟩);clear hk7 e5 e6 eg5 s0 s1 f0 f1 c0 t0 l0 hd0;go_wp2;refine aY (fun w':World=>w'.cell? ⟨cb,0,none⟩=some (.pointer (some ⟨tb,0,none⟩))/\w'.cell? ⟨cb,1,none⟩=some (.slice (some ⟨g,0,none⟩) (m+1) c)/\w'.cell? ⟨g,m*2,none⟩=some (.int .i64 a)) [15] (by kernel_rfl) (HJ7.out _ (Kp.refl w7).drew) (fun hHeld=>?_);refine eFX 0 ?_;refine eFX 1 ?_;refine eFX 2 ?_;refine eIX 3 ?_;refine eFX 4 ?_;refine eFX 5 ?_;refine eFX 6 ?_;refine eIX 7 ?_;refine eIX 8 ?_;refine eFX 9 ?_;refine eFX 10 ?_;refine eFX 11 ?_;refine eFX 12 ?_;refine eIX 13 ?_;refine eTX 14 fun K hK=>?_;go_simp
 (refine(HBl.out _ (H7.out.1.trans ((Kp.refl w7).drew))).mono ?_;rintro e w8 ⟨v,rfl,hk8,rfl⟩;have X8:=qH (show Ext w7 w8 from((Kp.refl w7).drew).trans hk8);have s0:w8.cell? ⟨g5,0,none⟩=some (.int .i64 0):=(by rw [(H7.out.2.ext X8.out).cell'];rfl);have s1:w8.cell? ⟨g5,1,none⟩=some (.int .i64 nk):=(by rw [(H7.out.2.ext X8.out).cell'];rfl);have f0:=(H7.out.2.ext X8.out).free 0;have f1:=(H7.out.2.ext X8.out).free 1;clear hk8)
 go_wp2_with fail
 refine hK.out _ _ (HJ7.out _ X8.out) fun hHeld=>?_;clear hK K;refine eLX 15 fun K hK=>?_;go_simp;refine hK.out _ _ ?_;clear hK K;refine aL (by kernel_rfl) ?_ _;clear hHeld;obtain⟨w9,e9⟩:=nm ((w8.setCell ⟨g5,0,none⟩ (.int .i64 f)).setCell ⟨g5,1,none⟩ (.int .i64 t));rw [e9];have hB9:Blk w9 g5 [.int .i64 f,.int .i64 t] 249:=by rw [<-e9];exact((H7.out.2.ext X8.out).set 0 _).set 1 _
 have hx9:Ext w w9:=by rw [<-e9];have h1:=H6.out.2.2;exact Kp.setCell (p:=⟨g5,1,none⟩) (Kp.setCell (p:=⟨g5,0,none⟩) (H7.out.1.trans X8.out) (fun h2=>by have h3:g5<w.heap.size:=h2;omega) _) (fun h2=>by have h3:g5<w.heap.size:=h2;omega) _
 have hc9:=HC.out.ext hx9;have hl9:=hc9.len;have hr9:=hc9.at_.row;rw [hl9]at hr9;have hmx:=hc9.small;have hap:=hc9.at_.apart;have HR9:=qH (nIX hr9 (nIX hap (nIX hx9 (nIX hl9 hB9))));have HJ9:=qH (show ∀w',Ext w9 w'->(fun w':World=>w'.cell? ⟨cb,1,none⟩=some (.slice (some ⟨g,0,none⟩) (m+1) c)/\w'.cell? ⟨g5,0,none⟩=some (.int .i64 f)/\w'.cell? ⟨g5,1,none⟩=some (.int .i64 t)) w' from fun w' hw'=>by have hc:=HC.out.ext (HR9.out.2.2.1.trans hw');have hb:=HR9.out.2.2.2.2.ext hw';exact⟨by rw [hc.at_.box.cell'];rfl,by rw [hb.cell'];rfl,by rw [hb.cell'];rfl⟩);have hcb:=hc9.at_.box;have HCB:=qH hcb;clear hB9 hx9 hc9 hl9 hr9 hap hcb e9 s0 s1 f0 f1;go_wp2;refine aY (fun w':World=>w'.cell? ⟨cb,1,none⟩=some (.slice (some ⟨g,0,none⟩) (m+1) c)/\w'.cell? ⟨g5,0,none⟩=some (.int .i64 f)/\w'.cell? ⟨g5,1,none⟩=some (.int .i64 t)) [7,8,9,10] (by kernel_rfl) (HJ9.out _ (Kp.refl w9).drew) (fun hHeld=>?_);refine eFX 0 ?_;refine eFX 1 ?_;refine eFX 2 ?_;refine eFX 3 ?_;refine eIX 4 ?_;refine eIX 5 ?_;refine eTX 6 fun K hK=>?_;go_simp;refine hK.out _ _ (HJ9.out _ (by first|exact((Kp.refl w9).alloc _).drew|exact(Kp.refl w9).drew.alloc _)) fun hHeld=>?_;clear hK K;refine eLX 7 fun K hK=>?_;refine jB (m:=1) (n:=m+1) zS rfl _ _ rfl rfl ((HR9.out.1.alloc _).drew) rfl ((CellsAt.two w9 (.int .i64 f) (.int .i64 t) 249).ext ((Kp.refl _).drew)) (by rfl) (by simp [Value.oneCell']) (by have:=HT.out.dep;omega) (by have:=HT.out.dep;unfold maxLen;omega) ?_;intro v10 w10 hr10 hk10;obtain⟨g10,c10,e10,hM10⟩:=oG hr10 (by omega);subst e10;have HB10:=qH (show Blk w10 cb [.pointer (some ⟨tb,0,none⟩),.slice (some ⟨g,0,none⟩) (m+1) c] 218 from((HCB.out.alloc _).ext ((Kp.refl _).drew)).kp hk10 (fun h2=>HR9.out.2.1.1 (by have h3:some g=some cb:=h2;exact(Option.some.inj h3).symm)));have HR10:=qH (nIX hr10 hk10);have y1:w10.cell? ⟨cb,1,none⟩=some (.slice (some ⟨g,0,none⟩) (m+1) c):=(by rw [HB10.out.cell'];rfl);have yf:=HB10.out.free 1;clear hr10 hk10 hM10;refine hK.out _ _ ?_;clear hK K;refine eLX 8 fun K hK=>?_;go_simp;refine hK.out _ _ ?_;clear hK K;refine eLX 9 fun K hK=>?_;go_simp;refine hK.out _ _ ?_;clear hK K;refine eLX 10 fun K hK=>?_;go_simp;refine hK.out _ _ ?_;clear hK K;refine aL (by kernel_rfl) ?_ _;clear hHeld y1 yf;obtain⟨w11,e11⟩:=nm (w10.setCell ⟨cb,1,none⟩ (.slice (some ⟨g10,0,none⟩) (m+1+1) c10));rw [e11];have hks:Kp (fun k=>k=cb) w10 w11:=by rw [<-e11];exact kSa
 have hbx:Blk w11 cb [.pointer (some ⟨tb,0,none⟩),.slice (some ⟨g10,0,none⟩) (m+1+1) c10] 218:=by rw [<-e11];exact HB10.out.set 1 _
 have hpool:∀k,((Value.slice (some ⟨g,0,none⟩) (m+1) c).ownBlock=some k\/ (w9.alloc (.cells #[.int .i64 f,.int .i64 t] 249)).drew.heap.size≤k)->k=g\/w.heap.size≤k:=fun k hk=>by
  rcases hk with hk|hk
  ·have h3:some g=some k:=hk;exact .inl (Option.some.inj h3).symm
  ·refine .inr ?_;have h4:=HR9.out.2.2.1.size;have h5:(w9.alloc (.cells #[.int .i64 f,.int .i64 t] 249)).heap.size≤k:=hk;rw [aI]at h5;omega
 have hrw:Row w11 249 2 (.slice (some ⟨g10,0,none⟩) (m+1+1) c10) (st++ [(f,t)]).length ((st++ [(f,t)]).flatMap jL) (fun k=>k=g\/w.heap.size≤k):=by
  have e1:(st++ [(f,t)]).length=m+1+1:=by rw [List.length_append,HR9.out.2.2.2.1];rfl
  have e2:(st++ [(f,t)]).flatMap jL=st.flatMap jL++ [.int .i64 f,.int .i64 t]:=by rw [List.flatMap_append];rfl
  rw [e1,e2];refine(HR10.out.1.mono hpool).kp' hks fun g' hg _ e=>?_;have h3:some g10=some g':=hg;have h4:=Option.some.inj h3;obtain⟨cs,hb⟩:∃cs,Blk w10 g10 cs 249:=by
   obtain⟨_,⟨e1,h0⟩|⟨g',cap,rest,e1,hM,hB,_⟩⟩:=HR10.out.1
   ·omega
   ·simp only [Value.slice.injEq,Option.some.injEq,Addr.mk.injEq,and_true]at e1;obtain⟨rfl,_⟩:=e1;exact⟨_,hB⟩
  rw [h4,e]at hb;exact rD (aP HB10.out hb)
 have hkF:Kp (fun k=>k=cb\/k=g) w w11:=by
  have h1:Kp (fun k=>k=cb\/k=g) w w10:=(Ext.kp ((HR9.out.2.2.1.alloc (.cells #[.int .i64 f,.int .i64 t] 249)).drew)).trans' HR10.out.2 fun k _ hk=>by have h3:some g=some k:=hk;exact .inr (Option.some.inj h3).symm
  exact h1.trans' hks fun k _ hk=> .inl hk
 have HFin:=qH (nIX hbx (nIX hrw hkF));clear e11 hks hbx hpool hrw hkF;go_wp2;go_ret;exact RetF.mk HFin.out.2.2 ⟨rfl,g10,c10,HFin.out.1,HFin.out.2.1⟩
theorem aQ{w:World}{e:TypeId}{k:Nat}{v:Value}{n:Nat}{xs:List Value}{M:Nat->Prop}(h:Row w e k v n xs M){g:Nat}(hg:v.ownBlock=some g):∃cs,Blk w g cs e:=by
 obtain⟨_,⟨e1,_⟩|⟨g',cap,rest,e1,hM,hB,_⟩⟩:=h
 ·rw [e1]at hg;cases hg
 ·rw [e1]at hg;cases hg;exact⟨_,hB⟩
set_option maxHeartbeats 1000000 in
theorem aGa{w:World}{cb tb:Nat}{ao:Option Addr}{c:Nat}{M:Nat->Prop}(h:CurAt w cb tb [] (.slice ao 0 c) M):
 Calls Tryz.prog 181 #[.pointer (some ⟨cb,0,none⟩)] w (RetN w fun w' v=>v= .bool false):=by
 have HL:=qH (yZ h);clear h;go_enter Tryz.func181,Tryz.ntmps181;go_wp2_with fail
 refine HL.out.mono ?_;rintro e w1 ⟨v,rfl,hk,rfl⟩;have hq:∀w:World,(binOp .neq 250 (.pointer none) (.pointer none)).run Tryz.prog w= .ok (.bool false) w:=fun _=>by kernel_rfl
 have HK:=qH hk;clear hk;go_wp2;go_quiet (fail)
 go_wp2;go_ret;exact RetN.mk (HK.out.drewN _) rfl
set_option maxHeartbeats 4000000 in
theorem aKd{w:World}{cb tb:Nat}{ao:Option Addr}{c d:Nat}{W:aD}{M:Nat->Prop}(h:CurAt w cb tb [] (.slice ao 0 c) M)(ht:TrieAt w tb W d)(hm:0<d)(hW:0<W.length):
 Calls Tryz.prog 157 #[.pointer (some ⟨cb,0,none⟩)] w (RetF (fun k=>k=cb\/ (Value.slice ao 0 c).ownBlock=some k) w fun w' v=>v= .bool true/\∃g' c',CurAt w' cb tb [(0,aO W d 0 W.length)] (.slice (some ⟨g',0,none⟩) 1 c') (fun k=>(Value.slice ao 0 c).ownBlock=some k\/w.heap.size≤k)):=by
 have HE:=qH (fun(W:World) (hW:Ext w W)=>aGa (h.ext hW));have HA:=qH (fun(W:World) (hW:Ext w W)=>aLa (h.ext hW));have HD:=qH (fun(W':World) (hW:Ext w W')=>zV (ht.ext hW));have HLn:=qH (fun(W':World) (hW:Ext w W')=>aGz (ht.ext hW));have hq:=nR cb;have HJ:=qH (show ∀w',Ext w w'->(fun w':World=>w'.cell? ⟨cb,0,none⟩=some (.pointer (some ⟨tb,0,none⟩))) w' from fun w' hw'=>by show w'.cell? ⟨cb,0,none⟩=some (.pointer (some ⟨tb,0,none⟩));rw [(h.box.ext hw').cell'];rfl);have HC:=qH h;have HL:=qH (fun(W:World) (hW:Ext w W)=>yZ (h.ext hW));have HT:=qH ht;have c0:=HJ.out w (Kp.refl _);have e1:((0:Int)==(d:Int))=false:=by
  have:¬(0:Int)=d:=by omega
  simp [this]
 obtain⟨nw,enw⟩:=nm W.length;have e2:((nw:Int)==0)=false:=by
  have hz:¬(nw:Int)=0:=by omega
  have hz2:¬nw=0:=by omega
  simp [hz2]
 rw [enw]at HLn;clear h;go_enter Tryz.func157,Tryz.ntmps157;go_wp2;refine aY (fun w':World=>w'.cell? ⟨cb,0,none⟩=some (.pointer (some ⟨tb,0,none⟩))) [] (by kernel_rfl) (HJ.out _ (Kp.refl w).drew) (fun hHeld=>?_);refine eFX 0 ?_;refine eFX 1 ?_;refine eFX 2 ?_;refine eGX 3 ?_;refine eTX 4 fun K hK=>?_;go_simp
 (refine(HE.out _ (Kp.refl w).drew).mono ?_;rintro e w1 ⟨v,rfl,hk1,rfl⟩;have X1:=qH (show Ext w w1 from((Kp.refl w).drew).trans hk1);clear hk1)
 go_wp2_with fail
 refine hK.out _ _ (HJ.out _ X1.out) fun hHeld=>?_;clear hK K;refine eFX 5 ?_;refine eFX 6 ?_;refine eGX 7 ?_;refine eGX 9 ?_;refine eGX 10 ?_;refine eGX 11 ?_;refine eHX 12 ?_;refine eTX 8 fun K hK=>?_;go_simp
 (refine(HA.out _ X1.out).mono ?_;rintro e w2 ⟨v,rfl,hk2,rfl⟩;have X2:=qH (show Ext w w2 from X1.out.trans hk2);clear hk2)
 go_wp2_with fail
 refine hK.out _ _ (HJ.out _ X2.out) fun hHeld=>?_;clear hK K;refine eTX 13 fun K hK=>?_;go_simp
 (refine(HD.out _ X2.out).mono ?_;rintro e w3 ⟨v,rfl,hk3,rfl⟩;have X3:=qH (show Ext w w3 from X2.out.trans hk3);clear hk3)
 go_wp2_with fail
 refine hK.out _ _ (HJ.out _ X3.out) fun hHeld=>?_;clear hK K;refine eGX 14 ?_;refine eFX 15 ?_;refine eFX 16 ?_;refine eGX 17 ?_;refine eGX 18 ?_;refine eGX 19 ?_;refine eHX 20 ?_;refine eTX 21 fun K hK=>?_;go_simp
 (refine(HLn.out _ X3.out).mono ?_;rintro e w4 ⟨v,rfl,hk4,rfl⟩;have X4:=qH (show Ext w w4 from X3.out.trans hk4);clear hk4)
 go_wp2_with fail
 refine hK.out _ _ (HJ.out _ X4.out) fun hHeld=>?_;clear hK K;refine eGX 22 ?_;refine eFX 23 ?_;refine aL (by kernel_rfl) ?_ _;clear hHeld c0 e1 e2;obtain⟨⟨la,lc,t0,-,-,hlev⟩,-,-⟩:=HT.out.ext X4.out;obtain⟨bl,ol,ela,hL⟩:=hlev 0 (by omega);subst ela;obtain⟨ka,kc,fa,fc,l0,-,-,-,-⟩:=hL.ex;rw [Nat.zero_mul,Nat.add_zero]at l0;obtain⟨nk,enk⟩:=nm (aO W d 0 W.length);rw [enk]at l0;have HNk:=qH enk;clear enk;have c0:=HJ.out w4 X4.out;have hd0:0<d:=by omega
 clear hL hlev;obtain⟨w5,e5⟩:=nm (w4.alloc (.cells #[.int .i64 0,.int .i64 0] 249));obtain⟨g5,eg5⟩:=nm w4.heap.size;have hB5:=bNX eg5 e5;have hx5:Ext w4 w5:=xAX e5;have s0:=hB5.c0;have s1:=hB5.c1;have f0:=hB5.free 0;have f1:=hB5.free 1;obtain⟨w6,e6⟩:=nm ((w5.setCell ⟨g5,0,none⟩ (.int .i64 0)).setCell ⟨g5,1,none⟩ (.int .i64 nk));have hB6:Blk w6 g5 [.int .i64 0,.int .i64 nk] 249:=by rw [<-e6];exact(hB5.set 0 _).set 1 _
 have hx6:Ext w w6:=by rw [<-e6];have h1:=X4.out.size;exact Kp.setCell (p:=⟨g5,1,none⟩) (Kp.setCell (p:=⟨g5,0,none⟩) (X4.out.trans hx5) (fun h2=>by have h3:g5<w.heap.size:=h2;omega) _) (fun h2=>by have h3:g5<w.heap.size:=h2;omega) _
 have H6:=qH (nIX hx6 (nIX hB6 (show w.heap.size≤g5 by have h1:=X4.out.size;omega)));clear hB5 hx5 hB6 hx6;go_wp2_with fail
 refine(HL.out w6 H6.out.1).mono ?_;rintro e w7 ⟨v,rfl,hk7,rfl⟩;have H7:=qH (nIX (H6.out.1.trans hk7) (H6.out.2.1.ext hk7));have hq2:∀w:World,(binOp .neq 250 (.pointer none) (.pointer none)).run Tryz.prog w= .ok (.bool false) w:=fun _=>by kernel_rfl
 clear hk7 e5 e6 eg5 s0 s1 f0 f1 c0 t0 l0 hd0;obtain⟨w9,e9⟩:∃x,x=w7:=⟨_,rfl⟩;subst e9;have hB9:=H7.out.2;have hx9:=H7.out.1;have hc9:=HC.out.ext hx9;have hr9:=hc9.row;have hap:∀k,(Value.slice ao 0 c).ownBlock=some k->k≠cb:=fun k hk e=>by subst e;obtain⟨cs,hb⟩:=aQ hc9.row hk;exact rD (aP hc9.box hb)
 have HR9:=qH (nIX hr9 (nIX hap (nIX hx9 hB9)));have HJ9:=qH (show ∀w',Ext w9 w'->(fun w':World=>w'.cell? ⟨cb,1,none⟩=some (.slice ao 0 c)/\w'.cell? ⟨g5,0,none⟩=some (.int .i64 0)/\w'.cell? ⟨g5,1,none⟩=some (.int .i64 nk)) w' from fun w' hw'=>by have hc:=HC.out.ext (HR9.out.2.2.1.trans hw');have hb:=HR9.out.2.2.2.ext hw';exact⟨by rw [hc.box.cell'];rfl,by rw [hb.cell'];rfl,by rw [hb.cell'];rfl⟩);have hcb:=hc9.box;have HCB:=qH hcb;clear hB9 hx9 hc9 hr9 hap hcb;go_wp2;refine aY (fun w':World=>w'.cell? ⟨cb,1,none⟩=some (.slice ao 0 c)/\w'.cell? ⟨g5,0,none⟩=some (.int .i64 0)/\w'.cell? ⟨g5,1,none⟩=some (.int .i64 nk)) [7,8,9,10] (by kernel_rfl) (HJ9.out _ (Kp.refl w9).drew) (fun hHeld=>?_);refine eFX 0 ?_;refine eFX 1 ?_;refine eFX 2 ?_;refine eFX 3 ?_;refine eIX 4 ?_;refine eIX 5 ?_;refine eTX 6 fun K hK=>?_;go_simp;refine hK.out _ _ (HJ9.out _ (by first|exact((Kp.refl w9).alloc _).drew|exact(Kp.refl w9).drew.alloc _)) fun hHeld=>?_;clear hK K;refine eLX 7 fun K hK=>?_;refine jB (m:=1) (n:=0) zS rfl _ _ rfl rfl ((HR9.out.1.alloc _).drew) rfl ((CellsAt.two w9 (.int .i64 0) (.int .i64 nk) 249).ext ((Kp.refl _).drew)) (by rfl) (by simp [Value.oneCell']) (by have:=HT.out.dep;omega) (by have:=HT.out.dep;unfold maxLen;omega) ?_;intro v10 w10 hr10 hk10;obtain⟨g10,c10,e10,hM10⟩:=oG hr10 (by omega);subst e10;have HB10:=qH (show Blk w10 cb [.pointer (some ⟨tb,0,none⟩),.slice ao 0 c] 218 from((HCB.out.alloc _).ext ((Kp.refl _).drew)).kp hk10 (fun h2=>HR9.out.2.1 cb h2 rfl));have HR10:=qH (nIX hr10 hk10);have y1:w10.cell? ⟨cb,1,none⟩=some (.slice ao 0 c):=(by rw [HB10.out.cell'];rfl);have yf:=HB10.out.free 1;clear hr10 hk10 hM10;refine hK.out _ _ ?_;clear hK K;refine eLX 8 fun K hK=>?_;go_simp;refine hK.out _ _ ?_;clear hK K;refine eLX 9 fun K hK=>?_;go_simp;refine hK.out _ _ ?_;clear hK K;refine eLX 10 fun K hK=>?_;go_simp;refine hK.out _ _ ?_;clear hK K;refine aL (by kernel_rfl) ?_ _;clear hHeld y1 yf;obtain⟨w11,e11⟩:=nm (w10.setCell ⟨cb,1,none⟩ (.slice (some ⟨g10,0,none⟩) (0+1) c10));rw [e11];have hks:Kp (fun k=>k=cb) w10 w11:=by rw [<-e11];exact kSa
 have hbx:Blk w11 cb [.pointer (some ⟨tb,0,none⟩),.slice (some ⟨g10,0,none⟩) (0+1) c10] 218:=by rw [<-e11];exact HB10.out.set 1 _
 have hpool:∀k,((Value.slice ao 0 c).ownBlock=some k\/ (w9.alloc (.cells #[.int .i64 0,.int .i64 nk] 249)).drew.heap.size≤k)->(Value.slice ao 0 c).ownBlock=some k\/w.heap.size≤k:=fun k hk=>by
  rcases hk with hk|hk
  ·exact .inl hk
  ·refine .inr ?_;have h4:=HR9.out.2.2.1.size;have h5:(w9.alloc (.cells #[.int .i64 0,.int .i64 nk] 249)).heap.size≤k:=hk;rw [aI]at h5;omega
 have hrw:Row w11 249 2 (.slice (some ⟨g10,0,none⟩) (0+1) c10) [(0,nk)].length ([(0,nk)].flatMap jL) (fun k=>(Value.slice ao 0 c).ownBlock=some k\/w.heap.size≤k):=by
  refine Row.kp' (HR10.out.1.mono hpool) hks fun g' hg _ e=>?_;have h3:some g10=some g':=hg;have h4:=Option.some.inj h3;obtain⟨cs,hb⟩:∃cs,Blk w10 g10 cs 249:=by
   obtain⟨_,⟨e1,h0⟩|⟨g',cap,rest,e1,hM,hB,_⟩⟩:=HR10.out.1
   ·omega
   ·simp only [Value.slice.injEq,Option.some.injEq,Addr.mk.injEq,and_true]at e1;obtain⟨rfl,_⟩:=e1;exact⟨_,hB⟩
  rw [h4,e]at hb;exact rD (aP HB10.out hb)
 have hkF:Kp (fun k=>k=cb\/ (Value.slice ao 0 c).ownBlock=some k) w w11:=by have h1:Kp (fun k=>k=cb\/ (Value.slice ao 0 c).ownBlock=some k) w w10:=(Ext.kp ((HR9.out.2.2.1.alloc (.cells #[.int .i64 0,.int .i64 nk] 249)).drew)).trans' HR10.out.2 fun k _ hk=> .inr hk;exact h1.trans' hks fun k _ hk=> .inl hk
 have HFin:=qH (nIX hbx (nIX hrw hkF));clear e11 hks hbx hpool hrw hkF;go_wp2;go_ret;exact RetF.mk HFin.out.2.2 ⟨rfl,g10,c10,HFin.out.1,by rw [HNk.out];exact HFin.out.2.1⟩
abbrev CurS(w:World)(cb tb:Nat)(st:List (Nat×Nat))(ov:Value):Prop:=CurAt w cb tb st ov (fun k=>ov.ownBlock=some k)
def iS(cb:Nat)(ov:Value):Nat->Prop:=fun k=>k=cb\/ov.ownBlock=some k
theorem Row.ownB{w:World}{e:TypeId}{k n:Nat}{v:Value}{xs:List Value}{M:Nat->Prop}(h:Row w e k v n xs M):Row w e k v n xs (fun g=>v.ownBlock=some g):=by
 obtain⟨h1,h2|⟨g,cap,rest,rfl,b,c⟩⟩:=h
 ·exact⟨h1,.inl h2⟩
 ·exact⟨h1,.inr ⟨g,cap,rest,rfl,rfl,c⟩⟩
theorem CurAt.own{w:World}{cb tb:Nat}{st:List (Nat×Nat)}{ov:Value}{M:Nat->Prop}(h:CurAt w cb tb st ov M):CurS w cb tb st ov:=⟨h.box,h.row.ownB⟩
theorem CurAt.kp{F:Nat->Prop}{w w':World}{cb tb:Nat}{st:List (Nat×Nat)}{ov:Value}{M:Nat->Prop}(h:CurAt w cb tb st ov M)(hk:Kp F w w')(hf:∀k,iS cb ov k->¬F k):CurAt w' cb tb st ov M:=
 ⟨h.box.kp hk (hf _ (.inl rfl)),h.row.kp' hk fun g hg _=>hf g (.inr hg)⟩
theorem CurAt.foot{w:World}{cb tb:Nat}{st:List (Nat×Nat)}{ov:Value}{M:Nat->Prop}(h:CurAt w cb tb st ov M):∀k,iS cb ov k->k<w.heap.size:=fun k hk=>by
 rcases hk with rfl|hk
 ·exact h.box.lt
 ·obtain⟨cs,hb⟩:=aQ h.row hk;exact hb.lt
theorem CurS.inn{w:World}{cb tb a b:Nat}{st:List (Nat×Nat)}{ov:Value}(h:CurS w cb tb (st++ [(a,b)]) ov):∃g c,ov= .slice (some ⟨g,0,none⟩) (st.length+1) c/\CurIn w cb tb (st++ [(a,b)]) g c st.length a b (fun k=>ov.ownBlock=some k):=by
 obtain⟨g,c,e,_⟩:=oG h.row (by simp);have el:(st++ [(a,b)]).length=st.length+1:=by simp
 rw [el]at e;subst e;exact⟨g,c,rfl,h,by simp⟩
theorem CurIn.outS{w:World}{cb tb g c m a b:Nat}{st:List (Nat×Nat)}{M:Nat->Prop}(h:CurIn w cb tb st g c m a b M):CurS w cb tb st (.slice (some ⟨g,0,none⟩) (m+1) c):=h.at_.own
section
variable {w:World}{cb tb a b d:Nat}{st:List (Nat×Nat)}{ov:Value}{W:aD}
theorem aK0(h:CurS w cb tb (st++ [(a,b)]) ov):Calls Tryz.prog 181 #[.pointer (some ⟨cb,0,none⟩)] w (RetN w fun w' v=>v= .bool (decide (a=b))):=by obtain⟨g,c,rfl,hi⟩:=h.inn;exact iF hi
theorem aKp{x:ByteArray}(h:CurS w cb tb (st++ [(a,b)]) ov)(ht:TrieAt w tb W d)(hm:st.length<d)(hab:a≠b)(hx:(bV W d st.length W.length)[a]?=some x):
 Calls Tryz.prog 187 #[.pointer (some ⟨cb,0,none⟩)] w (RetN w fun w' v=>v= .string x):=by
 obtain⟨g,c,rfl,hi⟩:=h.inn;exact aLy hi ht hm hab hx
theorem aBv(st:List (Nat×Nat))(x y:Nat×Nat):(st++ [x]).set st.length y=st++ [y]:=by rw [List.set_append_right _ _ (Nat.le_refl _),Nat.sub_self];rfl
theorem aHq(t:ByteArray)(h:CurS w cb tb (st++ [(a,b)]) ov)(ht:TrieAt w tb W d)(hm:st.length<d)(hab:a<b)(hb:b≤aO W d st.length W.length):
 Calls Tryz.prog 188 #[.pointer (some ⟨cb,0,none⟩),.string t] w (RetF (iS cb ov) w fun w' v=>∃p:Nat,iJ (bV W d st.length W.length) t a b p/\v= .bool (decide (p≠b))/\CurS w' cb tb (st++ [(p,b)]) ov):=by
 obtain⟨g,c,rfl,hi⟩:=h.inn;refine(aI6 t hi ht hm hab hb).mono ?_;rintro e w' ⟨v,rfl,hk,p,h1,rfl,h2⟩;rw [aBv]at h2;exact RetF.mk (hk.mono fun k _ e=> .inr (by rw [e];rfl)) ⟨p,h1,rfl,h2.outS⟩
theorem aH6(h:CurS w cb tb (st++ [(a,b)]) ov)(hab:a<b)(hb:b≤1048576):
 Calls Tryz.prog 189 #[.pointer (some ⟨cb,0,none⟩)] w (RetF (iS cb ov) w fun w' v=>v= .bool (decide (a+1≠b))/\CurS w' cb tb (st++ [(a+1,b)]) ov):=by
 obtain⟨g,c,rfl,hi⟩:=h.inn;refine(aKf hi hab hb).mono ?_;rintro e w' ⟨v,rfl,hk,rfl,h2⟩;rw [aBv]at h2;exact RetF.mk (hk.mono fun k _ e=> .inr (by rw [e];rfl)) ⟨rfl,h2.outS⟩
theorem aLp(h:CurS w cb tb (st++ [(a,b)]) ov):
 Calls Tryz.prog 159 #[.pointer (some ⟨cb,0,none⟩)] w (RetF (iS cb ov) w fun w' v=>v= .bool true/\∃ov',ov'.ownBlock=ov.ownBlock/\CurS w' cb tb st ov'):=by
 obtain⟨g,c,rfl,hi⟩:=h.inn;refine(aMs hi).mono ?_;rintro e w' ⟨v,rfl,hk,rfl,h2⟩;rw [List.take_left]at h2;exact RetF.mk (hk.mono fun k _ e=> .inl e) ⟨rfl,.slice (some ⟨g,0,none⟩) st.length c,rfl,h2.own⟩
theorem aH3{q:List ByteArray}(h:CurS w cb tb st ov)(ht:TrieAt w tb W d)(hW:WaysOk W d)(hne:0<W.length)(hp:PathOk W d q st)(hq:q.length<d):
 Calls Tryz.prog 157 #[.pointer (some ⟨cb,0,none⟩)] w (RetF (iS cb ov) w fun w' v=>v= .bool true/\∃ov' f t,CurS w' cb tb (st++ [(f,t)]) ov'/\SpanOf W d q f t/\f<t/\∀k,ov'.ownBlock=some k->ov.ownBlock=some k\/w.heap.size≤k):=by
 obtain⟨f,t,hs,hft,h1|⟨m,e,hqm,he,h1,h2⟩⟩:=hp.open hW hne hq
 ·obtain⟨rfl,rfl,rfl⟩:=h1;have est:st= []:=List.eq_nil_of_length_eq_zero (by rw [hp.len];rfl);subst est;obtain⟨ao,cap,rfl,_⟩:=uZ h.row;refine(aKd h ht hq hne).mono ?_;rintro e w' ⟨v,rfl,hk,rfl,g',c',h2⟩;refine RetF.mk (hk.mono fun k _ e=>e) ⟨rfl,_,0,_,h2.own,hs,hft,fun k hk'=>?_⟩;exact h2.row.block k hk'
 ·obtain⟨a',x,p1,p2,p3,p4,p5⟩:=hp.at_ m e he;obtain⟨g,c,e1,hM⟩:=oG h.row (by rw [hp.len];omega);rw [hp.len,hqm]at e1;subst e1;refine(aKe (a:=e.1) (b:=e.2) ⟨h,he⟩ ht (by omega) (by omega) hne h1 h2).mono ?_;rintro e' w' ⟨v,rfl,hk,rfl,g',c',h3⟩;refine RetF.mk (hk.mono fun k _ e=>by rcases e with e|e;exact .inl e;exact .inr (by rw [e];rfl)) ⟨rfl,_,f,t,h3.own,hs,hft,fun k hk'=>?_⟩;rcases h3.row.block k hk' with h4|h4
  ·exact .inl (by rw [h4];rfl)
  ·exact .inr h4
end
end
section
theorem aM2{W:aD}{d:Nat}(hW:WaysOk W d){q:List ByteArray}{a b:Nat}(h:SpanOf W d q a b)(hq:q.length<d):CurOk ⟨bV W d q.length W.length,a,b⟩:=
 ⟨h.le.1,by show b≤(bV W d q.length W.length).length;rw [fN];exact h.le.2,fun k l x y h1 h2 h3 h4 h5=>h.rise hW hq h1 h2 h3 h4 h5⟩
theorem aF2{W:aD}{d:Nat}(hW:WaysOk W d){q:List ByteArray}{a b:Nat}(h:SpanOf W d q a b)(hq:q.length<d){r:List ByteArray}{x:ByteArray}(hr:r∈W)(he:r.take (q.length+1)=q++ [x]):lJ ⟨bV W d q.length W.length,a,b⟩ a x:=by obtain⟨k,h1,h2,h3⟩:=h.all hW hq hr he;exact⟨k,h1,h2,h3⟩
def qN(N:List ByteArray)(t:aE):Int:=if t.1=1/\gJ N t.2.1=true then((N.findIdx fun s=>decide (s=t.2.1):Nat):Int)else-1
def jU(N:List ByteArray)(l:aJ):Int:=
 if l.1=2 then match (aU N (aA l)).getLast? with|some v=>(v:Int)|none=> -1
 else max (qN N (leftOf l)) (qN N (aN l))
theorem aC7{V V':List ByteArray}{k v:Nat}(h:V.take k=V'.take k)(hv:v<k):bF V v=bF V' v:=by unfold bF;rw [List.getD_eq_getElem?_getD,List.getD_eq_getElem?_getD,<-List.getElem?_take_of_lt hv,h,List.getElem?_take_of_lt hv]
theorem aBk{N V V':List ByteArray}{k:Nat}(h:V.take k=V'.take k){t:aE}(hk:qN N t<k)(hin:t.1=1->t.2.1∈N):tP N V t=tP N V' t:=by
 unfold tP;split
 ·rename_i h1;refine aC7 h ?_;unfold qN at hk;rw [if_pos ⟨h1,dA.2 (hin h1)⟩]at hk;omega
 ·rfl
theorem aJj{N V V':List ByteArray}{R:aD}{l:aJ}{k:Nat}(h:V.take k=V'.take k)(h1:l.1≠1)(hk:jU N l<k)(hin:l.1≠2->(leftOf l).1=1->(leftOf l).2.1∈N)(hin2:l.1≠2->(aN l).1=1->(aN l).2.1∈N):kC N V R l↔kC N V' R l:=by
 unfold kC;rw [if_neg h1,if_neg h1];by_cases h2:l.1=2
 ·rw [if_pos h2,if_pos h2];unfold jU at hk;rw [if_pos h2]at hk;have e:(aU N (aA l)).map (bF V)=(aU N (aA l)).map (bF V'):=by
   refine List.map_congr_left fun v hv=>aC7 h ?_;obtain⟨j,hj⟩:=List.mem_iff_getElem?.1 hv;have hjl:=List.getElem?_eq_some_iff.1 hj;have hlast:(aU N (aA l)).getLast?=(aU N (aA l))[(aU N (aA l)).length-1]?:=List.getLast?_eq_getElem?;obtain⟨u,hu⟩:∃u,(aU N (aA l))[(aU N (aA l)).length-1]?=some u:=⟨_,qG (by have:=hjl.1;omega)⟩;rw [hlast,hu]at hk;have hul:=List.getElem?_eq_some_iff.1 hu;have hk':(u:Int)<k:=hk;rcases Nat.lt_or_ge j ((aU N (aA l)).length-1)with h3|h3
   ·have:=List.pairwise_iff_getElem.1 (yF N (aA l)) j _ hjl.1 hul.1 h3;rw [hjl.2,hul.2]at this;omega
   ·have:j=(aU N (aA l)).length-1:=by have:=hjl.1;omega
    subst this;rw [hj]at hu;cases hu;omega
  rw [e]
 ·rw [if_neg h2,if_neg h2];unfold jU at hk;rw [if_neg h2]at hk;rw [aBk h (by omega) (hin h2),aBk h (by omega) (hin2 h2)]
theorem aG1{N:List ByteArray}{l:aJ}:jU N l<N.length:=by
 have hi:∀t,qN N t<N.length:=fun t=>by
  unfold qN;split
  ·rename_i h;have:=(List.getElem?_eq_some_iff.1 (aKs (dA.1 h.2))).1;omega
  ·omega
 unfold jU;split
 ·split
  ·rename_i v hv;have:=(dQ.1 (List.mem_of_getLast? hv)).1;omega
  ·omega
 ·have h1:=hi (leftOf l);have h2:=hi (aN l);omega
end
section
open Go.RowKit Go.Shelf
structure TestZ where
 fn:Nat
 cap:Array Value
 last:Int
 ask:List ByteArray->Bool
def TestZ.val(t:TestZ):Value:= .func (Fn.func t.fn) #[] t.cap
def mE(t:TestZ):List Value:= [.int .i64 t.last,t.val]
structure TestOk(w:World)(nv:Nat)(t:TestZ):Prop where
 ent:∀args w,(callFunc t.fn args).run Tryz.prog w= .ok (Next.enter t.fn args) w
 tells:∀W,Ext w W->∀(ra:Option Addr) (cp:Nat) (V:List ByteArray),V.length=nv->CellsAt W ra (strs V)->Calls Tryz.prog t.fn (#[.slice ra nv cp]++t.cap) W (RetN W fun w' v=>v= .bool (t.ask V))
theorem TestOk.ext{w w':World}{nv:Nat}{t:TestZ}(h:TestOk w nv t)(hk:Ext w w'):TestOk w' nv t:=⟨h.ent,fun W hW=>h.tells W (hk.trans hW)⟩
theorem aGn{α:Type}(f:α->List Value)(hf:∀x,(f x).length=2):∀(l:List α) {m:Nat} {x:α},l[m]?=some x->∀(a b:Value),f x= [a,b]->(l.flatMap f)[m*2]?=some a/\(l.flatMap f)[m*2+1]?=some b
 | [],m,x,h,a,b,_=>by simp at h
 |y::l,0,x,h,a,b,e=>by cases h;rw [List.flatMap_cons,e];exact⟨rfl,rfl⟩
 |y::l,m+1,x,h,a,b,e=>by
  obtain⟨h1,h2⟩:=aGn f hf l (m:=m) (x:=x) (by simpa using h) a b e;have hl:=hf y;refine⟨?_,?_⟩
  ·rw [List.flatMap_cons,List.getElem?_append_right (by omega),hl,show(m+1)*2-2=m*2 by omega];exact h1
  ·rw [List.flatMap_cons,List.getElem?_append_right (by omega),hl,show(m+1)*2+1-2=m*2+1 by omega];exact h2
theorem aJz{w:World}{ta:Option Addr}{ts:List TestZ}(h:CellsAt w ta (ts.flatMap mE)){i:Nat}{t:TestZ}(hi:ts[i]?=some t):∃b off,ta=some ⟨b,off,none⟩/\w.cell? ⟨b,off+i*2,none⟩=some (.int .i64 t.last)/\w.cell? ⟨b,off+i*2+1,none⟩=some t.val:=by obtain⟨h1,h2⟩:=aGn mE (fun _=>rfl) ts hi _ _ rfl;obtain⟨b,off,e,c1⟩:=h _ _ h1;obtain⟨b',off',e',c2⟩:=h _ _ h2;rw [e]at e';cases e';exact⟨b,off,e,c1,by rw [Nat.add_assoc];exact c2⟩
set_option maxHeartbeats 1000000 in
theorem aEz{w:World}{nv bb wb cp:Nat}{ra:Option Addr}{V:List ByteArray}(t:TestZ)(ht:TestOk w nv t)(hb:w.cell? ⟨bb,0,none⟩=some (.pointer (some ⟨wb,0,none⟩)))(hr:w.cell? ⟨wb,2,none⟩=some (.slice ra nv cp))(hc:CellsAt w ra (strs V))(hV:V.length=nv):
 Calls Tryz.prog 180 #[.agg #[.int .i64 t.last,t.val],.pointer (some ⟨bb,0,none⟩)] w (RetN w fun w' v=>v= .bool (!t.ask V)):=by
 have HT:=qH (fun W (hW:Ext w W)=>ht.tells W hW ra cp V hV (hc.ext hW));have hent:=ht.ent;obtain⟨f,cap,last,ask⟩:=t;unfold TestZ.val at*;simp only at HT hent;clear ht hc hV;obtain⟨r,er⟩:=nm (ask V);rw [er]at HT;simp only [er];go_enter Tryz.func180,Tryz.ntmps180;obtain⟨w1,e1⟩:=nm (w.alloc (.cells #[.int .i64 last,.func (Fn.func f) #[] cap] 180));obtain⟨g0,eg0⟩:=nm w.heap.size;have hB:=bNX eg0 e1;have hx:Ext w w1:=xAX e1;have b0:=hx.cell hb id;have r0:=hx.cell hr id;have f0:=hB.c1;have HX:=qH hx;clear hx hB hb hr;go_wp2;go_still_tail 6,(by kernel_rfl)
 go_wp2_with fail
 refine(HT.out _ (HX.out.drew)).mono ?_;rintro e w1 ⟨v,rfl,hk,rfl⟩;have HK:=qH (HX.out.drew.trans hk);clear hk b0 r0 f0;go_wp2;go_ret;exact RetN.mk HK.out rfl
def NoneP(w0:World)(V:List ByteArray)(ts:List TestZ)(n:Nat)(iv:Value)(w:World):Prop:=∃i:Nat,i≤n/\iv= .int .i64 i/\Hid (∀(j:Nat) u,j<i->ts[j]?=some u->(!TestZ.ask u V)=false)/\Hid (Ext w0 w)
theorem aGb{α:Type}{l:List α}{q:α->Bool}{n:Nat}(hn:n=l.length)(h:∀(j:Nat) u,j<n->l[j]?=some u->q u=false):l.any q=false:=by rw [List.any_eq_false];intro t ht;obtain⟨j,hj,rfl⟩:=List.mem_iff_getElem.1 ht;rw [h j _ (by omega) (qG hj)];decide
theorem aJl{α:Type}{l:List α}{q:α->Bool}{i:Nat}{u:α}(h:l[i]?=some u)(hq:q u=true):l.any q=true:=List.any_eq_true.2 ⟨u,List.mem_of_getElem? h,hq⟩
set_option maxHeartbeats 1000000 in
theorem aFk{w:World}{nv bb wb cp n tc:Nat}{ra ta:Option Addr}{V:List ByteArray}(ts:List TestZ)(hn:n=ts.length)(h:CellsAt w ta (ts.flatMap mE))(ht:∀t∈ts,TestOk w nv t)(hb:w.cell? ⟨bb,0,none⟩=some (.pointer (some ⟨wb,0,none⟩)))(hr:w.cell? ⟨wb,2,none⟩=some (.slice ra nv cp))(hc:CellsAt w ra (strs V))(hV:V.length=nv)(hl:n≤1048576):
 Calls Tryz.prog 203 #[.slice ta n tc,.func (Fn.func 180) #[] #[.pointer (some ⟨bb,0,none⟩)]] w (RetN w fun w' v=>∃z:Int,v= .int .i64 z/\decide (0≤z)=ts.any fun t=>!t.ask V):=by
 have HN:=qH hn;have HE:=qH h;have HQ:=qH (fun W (hW:Ext w W) t (hm:t∈ts)=>aEz t ((ht t hm).ext hW) (hW.cell hb id) (hW.cell hr id) (hc.ext hW) hV);clear hn h ht hb hr hc hV;go_enter Tryz.func203,Tryz.ntmps203;go_wp2;go_loopw [8] (fun iv wr=>NoneP w V ts n iv wr) (fun iv _=>n- (intOf iv).toNat)
 case atStart=>exact⟨0,Nat.zero_le _,rfl,fun j u h=>by omega,Kp.refl w⟩
 case round=>
  obtain⟨i,hi,rfl,hno,hex⟩:=hrel;by_cases hlt:i<n
  ·have hlt':i<ts.length:=by rw [<-HN.out];exact hlt
   obtain⟨t,ht⟩:∃t,ts[i]?=some t:=⟨_,qG hlt'⟩;obtain⟨b,off,eao,hc0,hc1⟩:=aJz (HE.out.ext hex.out) ht;subst eao;have HC:=qH (HQ.out wr hex.out t (List.mem_of_getElem? ht));obtain⟨r,er⟩:∃r:Bool,(!t.ask V)=r:=⟨_,rfl⟩;rw [er]at HC;obtain⟨la,ela⟩:=nm t.last;obtain⟨tv,etv⟩:=nm t.val;rw [ela]at hc0 HC;rw [etv]at hc1 HC;have HT:=qH (nIX ht er);clear ht hlt' er ela;unfold TestZ.val at etv;subst etv;cases r
   ·go_wp2_with fail
    refine HC.out.mono ?_;rintro e w1 ⟨v,rfl,hk1,rfl⟩;have HX:=qH (hex.out.trans hk1);clear hk1 hc0 hc1;go_wp2;go_roundw
    case rel=>
     refine⟨i+1,by omega,nMX,fun j u hj hu=>?_,HX⟩;by_cases e:j=i
     ·subst e;rw [HT.out.1]at hu;cases hu;exact HT.out.2
     ·exact hno.out j u (by omega) hu
    case measure=>simp [intOf];omega
   ·go_wp2_with fail
    refine HC.out.mono ?_;rintro e w1 ⟨v,rfl,hk1,rfl⟩;have HX:=qH (hex.out.trans hk1);clear hk1 hc0 hc1;go_wp2;go_ret;exact RetN.mk HX.out ⟨i,rfl,by rw [aJl HT.out.1 HT.out.2];simp⟩
  ·go_wp2;go_ret;exact RetN.mk hex.out ⟨-1,rfl,by rw [aGb HN.out fun j u hj=>hno.out j u (by omega)];decide⟩
theorem yC{w:World}{nv bb wb cp n tc:Nat}{ra ta:Option Addr}{V:List ByteArray}(ts:List TestZ)(hn:n=ts.length)(h:CellsAt w ta (ts.flatMap mE))(ht:∀t∈ts,TestOk w nv t)(hb:w.cell? ⟨bb,0,none⟩=some (.pointer (some ⟨wb,0,none⟩)))(hr:w.cell? ⟨wb,2,none⟩=some (.slice ra nv cp))(hc:CellsAt w ra (strs V))(hV:V.length=nv)(hl:n≤1048576):
 Calls Tryz.prog 179 #[.slice ta n tc,.func (Fn.func 180) #[] #[.pointer (some ⟨bb,0,none⟩)]] w (RetN w fun w' v=>v= .bool (ts.any fun t=>!t.ask V)):=by
 have HI:=qH (aFk (tc:=tc) ts hn h ht hb hr hc hV hl);clear hn h ht hb hr hc hV hl;go_enter Tryz.func179,Tryz.ntmps179;go_wp2_with fail
 refine HI.out.mono ?_;rintro e w1 ⟨v,rfl,hk,z,rfl,hz⟩;go_wp2;go_ret;exact RetN.mk hk (congrArg Value.bool (by first|exact hz|simp [<-hz]))
set_option maxHeartbeats 1000000 in
theorem aEy{w:World}{nv wb mb k cp n tc sc sb so:Nat}{ra ta:Option Addr}{V:List ByteArray}(ts:List TestZ)(hn:n=ts.length)(h:CellsAt w ta (ts.flatMap mE))(ht:∀t∈ts,TestOk w nv t)(hm:w.cell? ⟨wb,0,none⟩=some (.pointer (some ⟨mb,0,none⟩)))(hs:w.cell? ⟨mb,3,none⟩=some (.slice (some ⟨sb,so,none⟩) (nv+1) sc))(hk:k≤nv)(hk2:w.cell? ⟨sb,so+k,none⟩=some (.slice ta n tc))(hr:w.cell? ⟨wb,2,none⟩=some (.slice ra nv cp))(hc:CellsAt w ra (strs V))(hV:V.length=nv)(hl:n≤1048576)(hl2:nv≤1048576):
 Calls Tryz.prog 156 #[.pointer (some ⟨wb,0,none⟩),.int .i64 k] w (RetN w fun w' v=>v= .bool (!ts.any fun t=>!t.ask V)):=by
 go_enter Tryz.func156,Tryz.ntmps156;obtain⟨w1,e1⟩:=nm (w.alloc (.cells #[.pointer (some ⟨wb,0,none⟩)] 183));obtain⟨g0,eg0⟩:=nm w.heap.size;have hB:=bNX eg0 e1;have hx:Ext w w1:=xAX e1;have b0:=hB.c0;have m0:=hx.cell hm id;have s0:=hx.cell hs id;have k0:=hx.cell hk2 id;have HC:=qH (yC (tc:=tc) ts hn (h.ext hx) (fun t hm=>(ht t hm).ext hx) b0 (hx.cell hr id) (hc.ext hx) hV hl);have HX:=qH hx;clear hx hB hm hs hk2 hr hc hV ht h hn;go_wp2_with fail
 refine HC.out.mono ?_;rintro e w2 ⟨v,rfl,hk3,rfl⟩;have HK:=qH (HX.out.trans hk3);clear hk3;go_wp2;go_ret;exact RetN.mk HK.out rfl
structure TrieZ where
 tb:Nat
 vs:List Nat
 W:aD
structure MatchZ where
 N:List ByteArray
 Ts:List TrieZ
 tests:Nat->List TestZ
def noT:TrieZ:=⟨0,[],[]⟩
def atL(Ts:List TrieZ)(v:Nat):List Nat:=(List.range Ts.length).filter fun j=>(Ts.getD j noT).vs.contains v
theorem uG{Ts:List TrieZ}{v j:Nat}:j∈atL Ts v↔∃t,Ts[j]?=some t/\v∈t.vs:=by
 unfold atL;rw [List.mem_filter,List.mem_range];refine⟨fun⟨h1,h2⟩=>⟨Ts[j],qG h1,?_⟩,fun⟨t,h1,h2⟩=>⟨(List.getElem?_eq_some_iff.1 h1).1,?_⟩⟩
 ·rw [bH (qG h1)]at h2;exact List.contains_iff_mem.1 h2
 ·rw [bH h1];exact List.contains_iff_mem.2 h2
theorem aAa(Ts:List TrieZ)(v:Nat):(atL Ts v).Nodup:=(List.nodup_range).filter _
def mG(M:MatchZ)(V:List ByteArray):Prop:=V.length=M.N.length/\(∀t∈M.Ts,t.vs.map (bF V)∈t.W)/\∀k≤M.N.length,∀t∈M.tests k,t.ask V=true
structure MatchOk(M:MatchZ):Prop where
 ways:∀t∈M.Ts,WaysOk t.W t.vs.length/\t.vs.Pairwise (· < ·)/\t.vs≠ []/\(∀x∈t.vs,x<M.N.length)/\0<t.W.length
 all:∀v,v<M.N.length->∃t∈M.Ts,v∈t.vs
 local_:∀k≤M.N.length,∀t∈M.tests k,∀V V':List ByteArray,V.length=M.N.length->V'.length=M.N.length->V.take k=V'.take k->t.ask V=t.ask V'
def lN(t:TrieZ):Value:= .pointer (some ⟨t.tb,0,none⟩)
structure MAddr where
 na:Option Addr
 nc:Nat
 ta:Option Addr
 tc:Nat
 aa:Option Addr
 ac:Nat
 sa:Option Addr
 sc:Nat
 ia:Nat->Option Addr
 ic:Nat->Nat
 ya:Nat->Option Addr
 yc:Nat->Nat
structure MatchAt(w:World)(mb:Nat)(M:MatchZ)(A:MAddr):Prop where
 c0:w.cell? ⟨mb,0,none⟩=some (.slice A.na M.N.length A.nc)
 c1:w.cell? ⟨mb,1,none⟩=some (.slice A.ta M.Ts.length A.tc)
 c2:w.cell? ⟨mb,2,none⟩=some (.slice A.aa M.N.length A.ac)
 c3:w.cell? ⟨mb,3,none⟩=some (.slice A.sa (M.N.length+1) A.sc)
 ptrs:CellsAt w A.ta (M.Ts.map lN)
 ats:∀v,v<M.N.length->∃b o,A.aa=some ⟨b,o,none⟩/\w.cell? ⟨b,o+v,none⟩=some (.slice (A.ia v) (atL M.Ts v).length (A.ic v))/\CellsAt w (A.ia v) (ints ((atL M.Ts v).map fun(j:Nat)=>(j:Int)))
 slots:∀k,k≤M.N.length->∃b o,A.sa=some ⟨b,o,none⟩/\w.cell? ⟨b,o+k,none⟩=some (.slice (A.ya k) (M.tests k).length (A.yc k))/\CellsAt w (A.ya k) ((M.tests k).flatMap mE)
 tries:∀t∈M.Ts,TrieAt w t.tb t.W t.vs.length
 tests:∀k,k≤M.N.length->∀t∈M.tests k,TestOk w M.N.length t
 few:M.N.length≤1048576/\M.Ts.length≤1048576/\∀k,k≤M.N.length->(M.tests k).length≤1048576
def xB(cb:Nat->Nat)(n:Nat):List Value:=(List.range n).map fun j=> .pointer (some ⟨cb j,0,none⟩)
structure WalkAt(w:World)(wb mb:Nat)(M:MatchZ)(yv cv:Value)(rb:Nat)(R:List ByteArray)(cb:Nat->Nat)(ov:Nat->Value)(st:Nat->List (Nat×Nat)):Prop where
 box:Blk w wb [.pointer (some ⟨mb,0,none⟩),cv,.slice (some ⟨rb,0,none⟩) M.N.length M.N.length,yv] 186
 rowB:Blk w rb (strs R) 9
 rowL:R.length=M.N.length
 curs:Row w 188 1 cv M.Ts.length (xB cb M.Ts.length) (fun k=>cv.ownBlock=some k)
 cur:∀(j:Nat) t,M.Ts[j]?=some t->CurS w (cb j) t.tb (st j) (ov j)
 apart:∀i j,i<M.Ts.length->j<M.Ts.length->i≠j->cb i≠cb j/\∀k,(ov i).ownBlock=some k->(ov j).ownBlock≠some k
def aJq(wb rb n:Nat)(cv:Value)(cb:Nat->Nat)(ov:Nat->Value):Nat->Prop:=fun k=>k=wb\/k=rb\/cv.ownBlock=some k\/∃j,j<n/\iS (cb j) (ov j) k
def dD{α:Type}(f:Nat->α)(j:Nat)(x:α):Nat->α:=fun i=>if i=j then x else f i
theorem upd_same{α:Type}(f:Nat->α)(j:Nat)(x:α):dD f j x j=x:=if_pos rfl
theorem aH{α:Type}(f:Nat->α){j i:Nat}(x:α)(h:i≠j):dD f j x i=f i:=if_neg h
section
variable {w w':World}{wb mb rb:Nat}{M:MatchZ}{yv cv:Value}{R:List ByteArray}{cb:Nat->Nat}{ov:Nat->Value}{st:Nat->List (Nat×Nat)}
theorem WalkAt.kp{F:Nat->Prop}(h:WalkAt w wb mb M yv cv rb R cb ov st)(hk:Kp F w w')(hf:∀k,aJq wb rb M.Ts.length cv cb ov k->¬F k):WalkAt w' wb mb M yv cv rb R cb ov st:=
 ⟨h.box.kp hk (hf _ (.inl rfl)),h.rowB.kp hk (hf _ (.inr (.inl rfl))),h.rowL,h.curs.kp' hk fun g hg _=>hf g (.inr (.inr (.inl hg))),fun j t ht=>(h.cur j t ht).kp hk fun k hk'=>hf k (.inr (.inr (.inr ⟨j,(List.getElem?_eq_some_iff.1 ht).1,hk'⟩))),h.apart⟩
theorem WalkAt.ext(h:WalkAt w wb mb M yv cv rb R cb ov st)(hk:Ext w w'):WalkAt w' wb mb M yv cv rb R cb ov st:=h.kp hk fun _ _=>id
theorem WalkAt.lt(h:WalkAt w wb mb M yv cv rb R cb ov st):∀k,aJq wb rb M.Ts.length cv cb ov k->k<w.heap.size:=fun k hk=>by
 rcases hk with rfl|rfl|hk|⟨j,hj,hk⟩
 ·exact h.box.lt
 ·exact h.rowB.lt
 ·obtain⟨cs,hb⟩:=aQ h.curs hk;exact hb.lt
 ·exact(h.cur j _ (qG hj)).foot k hk
theorem aGl:186≠218/\186≠249/\9≠218/\9≠249/\188≠218/\188≠249/\186≠9/\188≠9/\186≠188:=by decide
theorem CurAt.notB{tb:Nat}{c:Nat}{s:List (Nat×Nat)}{o:Value}{M':Nat->Prop}(h:CurAt w c tb s o M'){g:Nat}{cs:List Value}{e:TypeId}(hb:Blk w g cs e)(h1:e≠218)(h2:e≠249):¬iS c o g:=fun hk=>by
 rcases hk with rfl|hk
 ·exact h1 (aP hb h.box)
 ·obtain⟨cs',hb'⟩:=aQ h.row hk;exact h2 (aP hb hb')
theorem WalkAt.turn(h:WalkAt w wb mb M yv cv rb R cb ov st){j:Nat}{t:TrieZ}(ht:M.Ts[j]?=some t)(hk:Kp (iS (cb j) (ov j)) w w'){ov':Value}{st':List (Nat×Nat)}(hc:CurS w' (cb j) t.tb st' ov')(ho:∀k,ov'.ownBlock=some k->(ov j).ownBlock=some k\/w.heap.size≤k):
 WalkAt w' wb mb M yv cv rb R cb (dD ov j ov') (dD st j st'):=by
 have hcj:=h.cur j t ht;have hj:=(List.getElem?_eq_some_iff.1 ht).1;obtain⟨t1,t2,t3,t4,t5,t6,-⟩:=aGl;have far:∀i,i<M.Ts.length->i≠j->∀k,iS (cb i) (ov i) k->¬iS (cb j) (ov j) k:=fun i hi hne k h1 h2=>by
  obtain⟨a1,a2⟩:=h.apart i j hi hj hne;rcases h1 with rfl|h1
  ·rcases h2 with h2|h2
   ·exact a1 h2
   ·obtain⟨cs,hb⟩:=aQ hcj.row h2;exact rD (aP (h.cur i _ (qG hi)).box hb)
  ·rcases h2 with rfl|h2
   ·obtain⟨cs,hb⟩:=aQ (h.cur i _ (qG hi)).row h1;exact rD (aP hcj.box hb)
   ·exact a2 k h1 h2
 refine⟨h.box.kp hk (hcj.notB h.box t1 t2),h.rowB.kp hk (hcj.notB h.rowB t3 t4),h.rowL,h.curs.kp' hk fun g hg _=>?_,fun i u hi=>?_,fun i l hi hl hne=>⟨(h.apart i l hi hl hne).1,fun k h1 h2=>?_⟩⟩
 ·obtain⟨cs,hb⟩:=aQ h.curs hg;exact hcj.notB hb t5 t6
 ·by_cases e:i=j
  ·subst e;rw [ht]at hi;cases hi;rw [upd_same,upd_same];exact hc
  ·rw [aH _ _ e,aH _ _ e];exact(h.cur i u hi).kp hk (far i (List.getElem?_eq_some_iff.1 hi).1 e)
 ·have old:∀i,i<M.Ts.length->∀k,(ov i).ownBlock=some k->k<w.heap.size:=fun i hi k hk=>(h.cur i _ (qG hi)).foot k (.inr hk);by_cases e:i=j
  ·subst e;rw [upd_same]at h1;rw [aH _ _ (fun e=>hne e.symm)]at h2;rcases ho k h1 with h3|h3
   ·exact(h.apart i l hi hl hne).2 k h3 h2
   ·have:=old l hl k h2;omega
  ·rw [aH _ _ e]at h1;by_cases e2:l=j
   ·subst e2;rw [upd_same]at h2;rcases ho k h2 with h3|h3
    ·exact(h.apart i l hi hl hne).2 k h1 h3
    ·have:=old i hi k h1;omega
   ·rw [aH _ _ e2]at h2;exact(h.apart i l hi hl hne).2 k h1 h2
theorem WalkAt.own_turn{ov':Value}{j n:Nat}(ho:∀k,ov'.ownBlock=some k->(ov j).ownBlock=some k\/w.heap.size≤k):∀k,aJq wb rb n cv cb (dD ov j ov') k->aJq wb rb n cv cb ov k\/w.heap.size≤k:=fun k hk=>by
 rcases hk with hk|hk|hk|⟨i,hi,hk⟩
 ·exact .inl (.inl hk)
 ·exact .inl (.inr (.inl hk))
 ·exact .inl (.inr (.inr (.inl hk)))
 ·by_cases e:i=j
  ·subst e;rw [upd_same]at hk;rcases hk with hk|hk
   ·exact .inl (.inr (.inr (.inr ⟨i,hi,.inl hk⟩)))
   ·rcases ho k hk with h|h
    ·exact .inl (.inr (.inr (.inr ⟨i,hi,.inr h⟩)))
    ·exact .inr h
  ·rw [aH _ _ e]at hk;exact .inl (.inr (.inr (.inr ⟨i,hi,hk⟩)))
theorem WalkAt.put(h:WalkAt w wb mb M yv cv rb R cb ov st)(v:Nat)(x:ByteArray):WalkAt (w.setCell ⟨rb,v,none⟩ (.string x)) wb mb M yv cv rb (R.set v x) cb ov st/\Kp (fun k=>k=rb) w (w.setCell ⟨rb,v,none⟩ (.string x)):=by
 have hk:Kp (fun k=>k=rb) w (w.setCell ⟨rb,v,none⟩ (.string x)):=kSa;obtain⟨t1,t2,t3,t4,t5,t6,t7,t8,t9⟩:=aGl;refine⟨⟨h.box.kp hk fun e=>?_,?_,by rw [List.length_set];exact h.rowL,h.curs.kp' hk fun g hg _ e=>?_,fun j t ht=>(h.cur j t ht).kp hk fun k hf e=>?_,h.apart⟩,hk⟩
 ·have h1:=h.box;rw [e]at h1;exact t7 (aP h1 h.rowB)
 ·have:=h.rowB.set v (.string x);have e:(strs R).set v (.string x)=strs (R.set v x):=by unfold strs;rw [List.map_set]
  rw [e]at this;exact this
 ·obtain⟨cs,hb⟩:=aQ h.curs hg;rw [e]at hb;exact t8 (aP hb h.rowB)
 ·have e':k=rb:=e;rw [e']at hf;exact(h.cur j t ht).notB h.rowB t3 t4 hf
theorem WalkAt.ptr(h:WalkAt w wb mb M yv cv rb R cb ov st):∃ca cc,cv= .slice ca M.Ts.length cc/\∀j,j<M.Ts.length->∃b o,ca=some ⟨b,o,none⟩/\w.cell? ⟨b,o+j,none⟩=some (.pointer (some ⟨cb j,0,none⟩)):=by obtain⟨ca,cc,e,hc,_⟩:=h.curs.shape;refine⟨ca,cc,e,fun j hj=>?_⟩;exact hc j _ (by unfold xB;rw [List.getElem?_map,List.getElem?_range hj];rfl)
end
end
section
open Go.RowKit
def eG(vs:List Nat)(v:Nat)(p:List ByteArray):List ByteArray:=(vs.filter fun x=>decide (x<v)).map (bF p)
theorem nO:∀{vs:List Nat},vs.Pairwise (· < ·)->∀(v:Nat),v∈vs->∃m:Nat,vs[m]?=some v/\vs.filter (fun x=>decide (x<v))=vs.take m/\vs.filter (fun x=>decide (x<v+1))=vs.take (m+1)
 | [],_,v,h=>by simp at h
 |a::vs,hp,v,h=>by
  obtain⟨h1,h2⟩:=List.pairwise_cons.1 hp;rcases List.mem_cons.1 h with rfl|h3
  ·have nn:∀n,n≤v+1->vs.filter (fun x=>decide (x<n))= []:=fun n hn=>by
    rw [List.filter_eq_nil_iff];intro x hx;have:=h1 x hx;simp;omega
   refine⟨0,rfl,?_,?_⟩
   ·rw [List.filter_cons,if_neg (by simp),nn v (by omega)];rfl
   ·rw [List.filter_cons,if_pos (by simp),nn _ (Nat.le_refl _)];rfl
  ·obtain⟨m,e1,e2,e3⟩:=nO h2 v h3;have h4:=h1 v h3;refine⟨m+1,by simpa using e1,?_,?_⟩
   ·rw [List.filter_cons,if_pos (by simp;omega),e2];rfl
   ·rw [List.filter_cons,if_pos (by simp;omega),e3];rfl
theorem sV{vs:List Nat}{v:Nat}{p V:List ByteArray}(hp:V.take v=p):(vs.filter fun x=>decide (x<v)).map (bF V)=eG vs v p:=by
 refine List.map_congr_left fun x hx=>?_;have hxv:x<v:=by have:=(List.mem_filter.1 hx).2;simpa using this
 unfold bF;rw [List.getD_eq_getElem?_getD,List.getD_eq_getElem?_getD,<-hp,List.getElem?_take_of_lt hxv]
theorem uF{vs:List Nat}(hr:vs.Pairwise (· < ·)){v:Nat}(hv:v∈vs){p:List ByteArray}(hp:p.length=v)(x:ByteArray):eG vs (v+1) (p++ [x])=eG vs v p++ [x]/\(eG vs v p).length<vs.length:=by
 obtain⟨m,e1,e2,e3⟩:=nO hr v hv;have hm:=(List.getElem?_eq_some_iff.1 e1).1;have e4:(p++ [x]).take v=p:=by rw [<-hp];exact List.take_left
 refine⟨?_,?_⟩
 ·rw [<-sV (V:=p++ [x]) e4];unfold eG;rw [e3,e2,List.take_add_one,e1];simp only [Option.toList,List.map_append,List.map_cons,List.map_nil]
  congr 2
  unfold bF;rw [List.getD_eq_getElem?_getD,List.getElem?_append_right (by omega),hp,Nat.sub_self];rfl
 ·unfold eG;rw [e2,List.length_map,List.length_take];omega
theorem aK8{vs:List Nat}{v:Nat}(hv:v∉vs){p p':List ByteArray}(hp:p'.take v=p):eG vs (v+1) p'=eG vs v p:=by
 rw [<-sV hp];unfold eG
 congr 1
 refine List.filter_congr fun x hx=>decide_eq_decide.2 ⟨fun h=>?_,fun h=>by omega⟩;have:x≠v:=fun e=>hv (e▸hx);omega
theorem aJg(vs:List Nat):eG vs 0 []= []:=by unfold eG;rw [List.filter_eq_nil_iff.2 (by intro x _;simp)];rfl
theorem aK9{vs:List Nat}{p:List ByteArray}(h:∀x∈vs,x<p.length):eG vs p.length p=vs.map (bF p):=by unfold eG;rw [List.filter_eq_self.2 (by intro x hx;simpa using h x hx)]
theorem PathOk.way{W:aD}{d:Nat}(hW:WaysOk W d){q:List ByteArray}{st:List (Nat×Nat)}(h:PathOk W d q st)(hq:q.length=d)(hd:0<d):q∈W:=by
 obtain⟨m,rfl⟩:∃m,d=m+1:=⟨d-1,by omega⟩;obtain⟨e,he⟩:∃e,st[m]?=some e:=⟨_,qG (by rw [h.len];omega)⟩;obtain⟨a,x,h1,h2,h3,h4,h5⟩:=h.at_ m e he;have hl:(q.take m).length=m:=by rw [List.length_take];omega
 obtain⟨s,r,x',k1,k2,k3,k4,k5⟩:=h1.place hW (by omega) h2 h3;rw [hl]at k3 k4;rw [h5]at k4;cases k4;have e1:q.take m++ [x]=q:=by
  have:q.take (m+1)=q.take m++ [x]:=by rw [List.take_add_one,h4];rfl
  rw [<-this,<-hq,List.take_length]
 rw [e1]at k3;have hrl:=hW.len r (List.mem_of_getElem? k2);rw [List.take_of_length_le (by omega)]at k3;rw [<-k3];exact List.mem_of_getElem? k2
def PathsAt(M:MatchZ)(v:Nat)(p:List ByteArray)(st:Nat->List (Nat×Nat)):Prop:=∀(j:Nat) t,M.Ts[j]?=some t->PathOk t.W t.vs.length (eG t.vs v p) (st j)
def Seen(M:MatchZ)(v:Nat)(p:List ByteArray):Prop:=∀k,k<v->∀t∈M.tests k,∀V:List ByteArray,V.length=M.N.length->V.take v=p->t.ask V=true
section
variable {M:MatchZ}{v:Nat}{p:List ByteArray}
theorem Seen.next(hM:MatchOk M)(h:Seen M v p)(hv:v≤M.N.length){R:List ByteArray}(hR:R.length=M.N.length)(hp:R.take v=p)(ha:∀t∈M.tests v,t.ask R=true){p':List ByteArray}(hp':p'.take v=p):Seen M (v+1) p':=fun k hk t ht V hV he=>by
 have e1:V.take v=p:=by have:=congrArg (List.take v) he;rw [List.take_take,hp',show min v (v+1)=v by omega]at this;exact this
 rcases Nat.lt_or_eq_of_le (Nat.le_of_lt_succ hk)with h1|h1
 ·exact h k h1 t ht V hV e1
 ·subst h1;rw [hM.local_ k hv t ht V R hV hR (e1.trans hp.symm)];exact ha t ht
theorem aMx(hM:MatchOk M)(hv:v≤M.N.length){R:List ByteArray}(hR:R.length=M.N.length)(hp:R.take v=p){t:TestZ}(ht:t∈M.tests v)(ha:t.ask R=false)(hl:p.length=v):AllB (mG M) p []:=
 AllB.none fun V hV he=>by rw [hl]at he;have h1:=hV.2.2 v hv t ht;rw [hM.local_ v hv t ht V R hV.1 hR (he.trans hp.symm),ha]at h1;cases h1
theorem aKu(hM:MatchOk M){st:Nat->List (Nat×Nat)}(hs:Seen M M.N.length p)(hP:PathsAt M M.N.length p st)(hl:p.length=M.N.length)(ha:∀t∈M.tests M.N.length,t.ask p=true):AllB (mG M) p [p]:=by
 refine AllB.one ⟨hl,fun t ht=>?_,fun k hk t ht=>?_⟩ fun V hV=>by rw [hV.1,hl]
 ·obtain⟨j,hj⟩:=List.mem_iff_getElem?.1 ht;obtain⟨h1,h2,h3,h4,h5⟩:=hM.ways t ht;have h6:=hP j t hj;have e:eG t.vs M.N.length p=t.vs.map (bF p):=by
   rw [<-hl];exact aK9 fun x hx=>by rw [hl];exact h4 x hx
  rw [e]at h6;exact h6.way h1 (by rw [List.length_map]) (by cases ht2:t.vs with|nil=>exact absurd ht2 h3|cons a l=>simp)
 ·rcases Nat.lt_or_eq_of_le hk with h1|h1
  ·exact hs k h1 t ht p hl (by rw [<-hl,List.take_length])
  ·subst h1;exact ha t ht
theorem aI7(hM:MatchOk M)(hv:v<M.N.length)(hl:p.length=v){js:List Nat}(hjs:∀j∈js,∃t,M.Ts[j]?=some t/\v∈t.vs){sp:Nat->Nat×Nat}{Cs:List CurZ}(hCs:Cs=js.map fun j=>⟨bV (M.Ts.getD j noT).W (M.Ts.getD j noT).vs.length (eG (M.Ts.getD j noT).vs v p).length (M.Ts.getD j noT).W.length,(sp j).1,(sp j).2⟩)
 (hsp:∀j∈js,SpanOf (M.Ts.getD j noT).W (M.Ts.getD j noT).vs.length (eG (M.Ts.getD j noT).vs v p) (sp j).1 (sp j).2):
 (∀c∈Cs,CurOk c)/\∀V,mG M V->V.take p.length=p->∃x,V[p.length]?=some x/\∀(k:Nat) (c:CurZ),Cs[k]?=some c->lJ c c.lo x:=by
 subst hCs;have key:∀j∈js,∃t,M.Ts[j]?=some t/\M.Ts.getD j noT=t/\v∈t.vs/\WaysOk t.W t.vs.length/\t.vs.Pairwise (· < ·)/\(eG t.vs v p).length<t.vs.length:=fun j hj=>by obtain⟨t,h1,h2⟩:=hjs j hj;obtain⟨h3,h4,h5,h6,h7⟩:=hM.ways t (List.mem_of_getElem? h1);exact⟨t,h1,bH h1,h2,h3,h4,(uF h4 h2 hl ByteArray.empty).2⟩
 refine⟨fun c hc=>?_,fun V hV he=>?_⟩
 ·obtain⟨j,hj,rfl⟩:=List.mem_map.1 hc;obtain⟨t,h1,h2,h3,h4,h5,h6⟩:=key j hj;have:=hsp j hj;rw [h2]at this ⊢;exact aM2 h4 this h6
 ·rw [hl]at he ⊢;have hvl:v<V.length:=by rw [hV.1];exact hv
  refine⟨V[v],qG hvl,fun k c hk=>?_⟩;rw [List.getElem?_map]at hk;cases hj:js[k]? with
  |none=>rw [hj]at hk;cases hk
  |some j=>
   rw [hj]at hk;cases hk;have hjm:=List.mem_of_getElem? hj;obtain⟨t,h1,h2,h3,h4,h5,h6⟩:=key j hjm;have hs:=hsp j hjm;show lJ ⟨bV (M.Ts.getD j noT).W (M.Ts.getD j noT).vs.length (eG (M.Ts.getD j noT).vs v p).length (M.Ts.getD j noT).W.length,(sp j).1,(sp j).2⟩ (sp j).1 V[v];rw [h2]at hs ⊢;refine aF2 h4 hs h6 (hV.2.1 t (List.mem_of_getElem? h1)) ?_;obtain⟨m,e1,e2,e3⟩:=nO h5 v h3;have e4:(eG t.vs v p).length=m:=by unfold eG;rw [e2,List.length_map,List.length_take];have:=(List.getElem?_eq_some_iff.1 e1).1;omega
   have h7:=aD9 h5 e1 he hvl;rw [e4,h7];unfold eG;rw [e2]
   congr 2
   unfold bF;rw [List.getD_eq_getElem?_getD,qG hvl];rfl
theorem PathsAt.next(hM:MatchOk M){st0 st:Nat->List (Nat×Nat)}(h:PathsAt M v p st0)(hl:p.length=v){key:ByteArray}(hin:∀(j:Nat) t,M.Ts[j]?=some t->v∈t.vs->∃a b k,SpanOf t.W t.vs.length (eG t.vs v p) a b/\a≤k/\k<b/\(bV t.W t.vs.length (eG t.vs v p).length t.W.length)[k]?=some key/\st j=st0 j++ [(k,b)])
 (hout:∀(j:Nat) t,M.Ts[j]?=some t->v∉t.vs->st j=st0 j):PathsAt M (v+1) (p++ [key]) st:=fun j t hj=>by
 have ht:=List.mem_of_getElem? hj;obtain⟨h3,h4,h5,h6,h7⟩:=hM.ways t ht;by_cases hv:v∈t.vs
 ·obtain⟨a,b,k,h8,h9,h10,h11,h12⟩:=hin j t hj hv;obtain⟨e1,e2⟩:=uF h4 hv hl key;rw [e1,h12];exact(h j t hj).push e2 h8 h9 h10 h11
 ·rw [hout j t hj hv,aK8 hv (p:=p) (by rw [<-hl];exact List.take_left)];exact h j t hj
end
def qM(Cs:List CurZ)(key:ByteArray):Nat:=(Cs.map fun c=>((c.keys.take c.hi).filter fun x=>decide (aZ key.toList x.toList<0)).length).sum
theorem sum_lt{α:Type}{f g:α->Nat}:∀{l:List α},(∀x∈l,f x≤g x)->(∃x∈l,f x<g x)->(l.map f).sum< (l.map g).sum
 | [],_,h=>by obtain⟨x,hx,_⟩:=h;simp at hx
 |y::l,h,⟨x,hx,hlt⟩=>by
  have le:∀l:List α,(∀x∈l,f x≤g x)->(l.map f).sum≤(l.map g).sum:=fun l=>by
   induction l with
   |nil=>intro _;exact Nat.le_refl _
   |cons z l ih=>
    intro hz;have h1:=hz z (List.mem_cons_self ..);have h2:=ih fun x hx=>hz x (List.mem_cons_of_mem _ hx);simp only [List.map_cons,List.sum_cons];omega
  simp only [List.map_cons,List.sum_cons];rcases List.mem_cons.1 hx with rfl|hx
  ·have:=le l fun z hz=>h z (List.mem_cons_of_mem _ hz);omega
  ·have h1:=h y (List.mem_cons_self ..);have h2:=sum_lt (fun z hz=>h z (List.mem_cons_of_mem _ hz)) ⟨x,hx,hlt⟩;omega
theorem aG0{Cs:List CurZ}{key key2:ByteArray}(h:aZ key.toList key2.toList<0){c:CurZ}(hc:c∈Cs){m:Nat}(hm:m<c.hi)(hk:c.keys[m]?=some key2):qM Cs key2<qM Cs key:=by
 have imp:∀x:ByteArray,aZ key2.toList x.toList<0->aZ key.toList x.toList<0:=fun x hx=>jX h hx;have le:∀l:List ByteArray,(l.filter fun x=>decide (aZ key2.toList x.toList<0)).length≤(l.filter fun x=>decide (aZ key.toList x.toList<0)).length:=fun l=>by rw [<-List.countP_eq_length_filter,<-List.countP_eq_length_filter];exact List.countP_mono_left fun x _ hx=>by simp at hx ⊢;exact imp x hx
 have lt:∀l:List ByteArray,key2∈l->(l.filter fun x=>decide (aZ key2.toList x.toList<0)).length< (l.filter fun x=>decide (aZ key.toList x.toList<0)).length:=fun l=>by
  induction l with
  |nil=>intro h;simp at h
  |cons y l ih=>
   intro hy;rcases List.mem_cons.1 hy with rfl|hy
   ·rw [List.filter_cons,if_neg (by rw [fG];simp),List.filter_cons,if_pos (by simpa using h),List.length_cons];have:=le l;omega
   ·have h1:=ih hy;rw [List.filter_cons,List.filter_cons];by_cases h2:aZ key2.toList y.toList<0
    ·rw [if_pos (by simpa using h2),if_pos (by simpa using imp y h2)];simp only [List.length_cons];omega
    ·rw [if_neg (by simpa using h2)];split
     ·simp only [List.length_cons];omega
     ·exact h1
 unfold qM;refine sum_lt (fun x _=>le _) ⟨c,hc,lt _ ?_⟩;refine List.mem_of_getElem? (i:=m) ?_;rw [List.getElem?_take_of_lt hm];exact hk
theorem AllB.split{Sol:List ByteArray->Prop}{p:List ByteArray}{D:ByteArray->Prop}{key:ByteArray}{Lp Lk L:aD}(hp:AllB Sol p Lp)(h:PartB Sol p D L)(hk:AllB Sol (p++ [key]) Lk)(hlow:∀V,Sol V->V.take p.length=p->∀y,V[p.length]?=some y->D y->aZ y.toList key.toList<0)
 (hup:∀V,Sol V->V.take p.length=p->∃x,V[p.length]?=some x/\(D x\/¬aZ x.toList key.toList<0)):∃R,L++Lk++R=Lp:=by
 classical
 have h2:=h.next hk hlow
 refine⟨Lp.filter fun V=>decide (¬∃x,V[p.length]?=some x/\(D x\/x=key)),?_⟩;refine Strict.unique dU ?_ hp.rise fun V=>?_
 ·refine List.pairwise_append.2 ⟨h2.rise,hp.rise.filter _,fun a ha b hb=>?_⟩;obtain⟨hb1,hb2⟩:=List.mem_filter.1 hb;have hb3:=of_decide_eq_true hb2;obtain⟨a1,a2,x,a3,a4⟩:=(h2.iff a).1 ha;obtain⟨b1,b2⟩:=(hp.iff b).1 hb1;obtain⟨y,b3,b4⟩:=hup b b1 b2;have ny:¬(D y\/y=key):=fun e=>hb3 ⟨y,b3,e⟩;have hky:aZ key.toList y.toList<0:=by
   rcases b4 with b4|b4
   ·exact absurd (.inl b4) ny
   ·rcases jY key.toList y.toList with h5|h5|h5
    ·omega
    ·exact absurd (.inr (cY (eD h5)).symm) ny
    ·have:=cX key.toList y.toList;omega
  obtain⟨r,rfl⟩:=pR a2 a3;obtain⟨s,rfl⟩:=pR b2 b3;refine nU p x y r s ?_;rcases a4 with a4|a4
  ·exact jX (hlow _ a1 a2 x a3 a4) hky
  ·rw [a4];exact hky
 ·rw [List.mem_append,h2.iff V,List.mem_filter,hp.iff V,decide_eq_true_iff];refine⟨fun h3=>?_,fun h3=>?_⟩
  ·rcases h3 with h3|h3
   ·exact⟨h3.1,h3.2.1⟩
   ·exact h3.1
  ·by_cases h4:∃x,V[p.length]?=some x/\(D x\/x=key)
   ·exact .inl ⟨h3.1,h3.2,h4⟩
   ·exact .inr ⟨h3,h4⟩
end
section
open Go.RowKit Go.Shelf
theorem aC1{R:Nat->Prop}:∀m,R m->∃n,R n/\∀k,R k->n≤k:=by
 intro m;induction m using Nat.strongRecOn with
 |ind m ih=>
  intro h;by_cases h2:∃k,k<m/\R k
  ·obtain⟨k,hk,h3⟩:=h2;exact ih k hk h3
  ·exact⟨m,h,fun k hk=>Nat.not_lt.1 fun h4=>h2 ⟨k,h4,hk⟩⟩
open Classical in
noncomputable def vY(R:Nat->Prop):Nat:=if h:∃n,R n/\∀k,R k->n≤k then Classical.choose h else 0
theorem aKm{R:Nat->Prop}(h:∃m,R m):R (vY R):=by obtain⟨m,hm⟩:=h;have h2:=aC1 m hm;unfold vY;rw [dif_pos h2];exact(Classical.choose_spec h2).1
theorem aC0{R:Nat->Prop}{m:Nat}(h:R m):vY R≤m:=by have h2:=aC1 m h;unfold vY;rw [dif_pos h2];exact(Classical.choose_spec h2).2 m h
abbrev XB:=gK×List ByteArray
def encX(x:XB):Array Value:=#[.slice x.1.1 x.1.2.1 x.1.2.2]
def GvRow(W1:World)(T':Nat->Prop)(W2:World)(x:XB):Prop:=x.1.2=(x.2.length,x.2.length)/\((x.1.1=none/\x.2= [])\/∃g rest,x.1.1=some ⟨g,0,none⟩/\Blk W2 g (strs x.2++rest) 9/\W1.heap.size≤g/\¬T' g)
def Held(J:(Nat->Prop)->List XB->World->Prop)(E own:Nat->Prop)(pre:List XB)(W:World):Prop:=∃T W1,J T pre W1/\Kp T W1 W/\∀k,own k\/E k->T k\/W1.heap.size≤k
theorem Held.step{J:(Nat->Prop)->List XB->World->Prop}{E E' own own' G:Nat->Prop}{pre:List XB}{W W':World}(h:Held J E own pre W)(hk:Kp G W W')(hG:∀k,G k->own k\/E k\/W.heap.size≤k)(ho:∀k,own' k->own k\/W.heap.size≤k)(hE:∀k,E' k->E k\/W.heap.size≤k):Held J E' own' pre W':=by
 obtain⟨T,W1,h1,h2,h3⟩:=h;have hs:=h2.size;refine⟨T,W1,h1,h2.trans' hk fun i hi hg=>?_,fun k hk'=>?_⟩
 ·rcases hG i hg with h4|h4|h4
  ·rcases h3 i (.inl h4)with h5|h5
   ·exact h5
   ·omega
  ·rcases h3 i (.inr h4)with h5|h5
   ·exact h5
   ·omega
  ·omega
 ·rcases hk' with h4|h4
  ·rcases ho k h4 with h5|h5
   ·exact h3 k (.inl h5)
   ·exact .inr (by omega)
  ·rcases hE k h4 with h5|h5
   ·exact h3 k (.inr h5)
   ·exact .inr (by omega)
structure WCtx where
 Z:Nat->Prop
 lo:Nat
 M:MatchZ
 A:MAddr
 wb:Nat
 mb:Nat
 rb:Nat
 yv:Value
 cv:Value
 cb:Nat->Nat
 J:(Nat->Prop)->List XB->World->Prop
 Jx:(Nat->Prop)->List XB->World->Prop
 Lall:aD
 w0:World
structure WCtx.Ok(C:WCtx):Prop where
 hZ:∀k,C.Z k->k<C.lo
 mat:∀W,Kp (fun k=>¬C.Z k) C.w0 W->MatchAt W C.mb C.M C.A
 ok:MatchOk C.M
def WCtx.Own(C:WCtx)(ov:Nat->Value):Nat->Prop:=aJq C.wb C.rb C.M.Ts.length C.cv C.cb ov
structure WCtx.At(C:WCtx)(ov:Nat->Value)(R:List ByteArray)(st:Nat->List (Nat×Nat))(W:World):Prop where
 wlk:WalkAt W C.wb C.mb C.M C.yv C.cv C.rb R C.cb ov st
 new:∀k,C.Own ov k->C.lo≤k
 w0k:Kp (fun k=>¬C.Z k) C.w0 W
def WCtx.QE(C:WCtx)(E:Nat->Prop):Nat->Prop:=fun k=>¬C.Z k/\¬E k
def WCtx.Ends(C:WCtx)(E:Nat->Prop)(pre:List XB)(L:aD)(ov:Nat->Value)(b:Bool)(W:World):Prop:=
 (b=true/\∃xs:List XB,xs.map Prod.snd=L/\Held C.J E (C.Own ov) (pre++xs) W)\/ (b=false/\∃pre':List XB,pre'.map Prod.snd<+:C.Lall/\Held C.Jx E (C.Own ov) pre' W)
def WCtx.Post(C:WCtx)(E:Nat->Prop)(v:Nat)(p:List ByteArray)(st:Nat->List (Nat×Nat))(pre:List XB)(L:aD)(W:World)(e:Ending)(W':World):Prop:=
 ∃(b:Bool) (ov':Nat->Value) (R':List ByteArray),e= .returned (.bool b)/\Kp (C.QE E) W W'/\C.At ov' R' st W'/\R'.take v=p/\(∀k,C.Own ov' k->¬E k)/\C.Ends E pre L ov' b W'
structure WCtx.Fit(C:WCtx)(E:Nat->Prop)(ov:Nat->Value)(W:World):Prop where
 lt:∀k,E k->k<W.heap.size
 off:∀k,C.Own ov k->¬E k
 lo:∀k,E k->C.lo≤k
def WCtx.From(C:WCtx)(v:Nat):Prop:=∀(p:List ByteArray) (E:Nat->Prop) (ov:Nat->Value) (R:List ByteArray) (st:Nat->List (Nat×Nat)) (pre:List XB) (L:aD) (W:World),
 p.length=v->C.At ov R st W->R.take v=p->PathsAt C.M v p st->Seen C.M v p->AllB (mG C.M) p L->(∃R0,pre.map Prod.snd++L++R0=C.Lall)->Held C.J E (C.Own ov) pre W->C.Fit E ov W->
 Calls Tryz.prog 123 #[.pointer (some ⟨C.wb,0,none⟩),.int .i64 v] W (C.Post E v p st pre L W)
def StOk(st0:Nat->List (Nat×Nat))(js:List Nat)(Cs:List CurZ)(pos:Nat->Nat)(st:Nat->List (Nat×Nat)):Prop:=(∀(k j:Nat) (c:CurZ),js[k]?=some j->Cs[k]?=some c->st j=st0 j++ [(pos k,c.hi)])/\∀j,j∉js->st j=st0 j
theorem StOk.turn{st0:Nat->List (Nat×Nat)}{js:List Nat}{Cs:List CurZ}{pos:Nat->Nat}{st:Nat->List (Nat×Nat)}(h:StOk st0 js Cs pos st)(hn:js.Nodup){k j:Nat}{c:CurZ}(hj:js[k]?=some j)(hc:Cs[k]?=some c)(q:Nat):StOk st0 js Cs (fun m=>if m=k then q else pos m) (dD st j (st0 j++ [(q,c.hi)])):=by
 refine⟨fun m i d hi hd=>?_,fun i hi=>?_⟩
 ·by_cases e:m=k
  ·subst e;rw [hj]at hi;cases hi;rw [hc]at hd;cases hd;show _=st0 j++ [((if m=m then q else pos m),c.hi)];rw [upd_same,if_pos rfl]
  ·show _=st0 i++ [((if m=k then q else pos m),d.hi)];rw [if_neg e,aH _ _ (fun e2=>e ?_)]
   ·exact h.1 m i d hi hd
   ·subst e2;exact(List.getElem?_inj (List.getElem?_eq_some_iff.1 hi).1 hn).1 (hi.trans hj.symm)
 ·rw [aH _ _ (fun e=>hi (by rw [e];exact List.mem_of_getElem? hj))];exact h.2 i hi
def WCtx.LeapPost(C:WCtx)(E:Nat->Prop)(v:Nat)(p:List ByteArray)(st0:Nat->List (Nat×Nat))(js:List Nat)(Cs:List CurZ)(pre:List XB)(L:aD)(W:World)(e:Ending)(W':World):Prop:=
 ∃(b:Bool) (ov':Nat->Value) (R':List ByteArray) (st':Nat->List (Nat×Nat)) (pos':Nat->Nat),e= .returned (.bool b)/\Kp (C.QE E) W W'/\C.At ov' R' st' W'/\R'.take v=p/\(∀k,C.Own ov' k->¬E k)/\StOk st0 js Cs pos' st'/\C.Ends E pre L ov' b W'
structure WCtx.Turn(C:WCtx)(E:Nat->Prop)(v:Nat)(p:List ByteArray)(st0:Nat->List (Nat×Nat))(js:List Nat)(Cs:List CurZ)(pre:List XB)(W0:World)(i:Nat)(pos:Nat->Nat)(D:ByteArray->Prop)(xs:List XB)(ov:Nat->Value)(R:List ByteArray)(st:Nat->List (Nat×Nat))(W:World):Prop where
 inv:LeapInv (mG C.M) p Cs pos i D (xs.map Prod.snd)
 at_:C.At ov R st W
 row:R.take v=p
 st_:StOk st0 js Cs pos st
 held:Held C.J E (C.Own ov) (pre++xs) W
 fit:C.Fit E ov W
 kp:Kp (C.QE E) W0 W
section
variable {C:WCtx}{E:Nat->Prop}{v:Nat}{p:List ByteArray}{st0 st:Nat->List (Nat×Nat)}{js:List Nat}{Cs:List CurZ}{pre xs:List XB}{W0 W W':World}{i:Nat}{pos:Nat->Nat}{D:ByteArray->Prop}{ov:Nat->Value}{R:List ByteArray}
theorem WCtx.At.ext(h:C.At ov R st W)(hk:Ext W W'):C.At ov R st W':=⟨h.wlk.ext hk,h.new,h.w0k.ext hk⟩
theorem WCtx.Fit.ext(h:C.Fit E ov W)(hk:Ext W W'):C.Fit E ov W':=⟨fun k hk'=>Nat.lt_of_lt_of_le (h.lt k hk') hk.size,h.off,h.lo⟩
theorem WCtx.Turn.ext(h:C.Turn E v p st0 js Cs pre W0 i pos D xs ov R st W)(hk:Ext W W'):C.Turn E v p st0 js Cs pre W0 i pos D xs ov R st W':=
 ⟨h.inv,h.at_.ext hk,h.row,h.st_,h.held.step (G:=fun _=>False) hk (fun _ h=>h.elim) (fun k h=> .inl h) (fun k h=> .inl h),h.fit.ext hk,h.kp.ext hk⟩
theorem WCtx.At.turn(hC:C.Ok)(h:C.At ov R st W){j:Nat}{t:TrieZ}(ht:C.M.Ts[j]?=some t)(hk:Kp (iS (C.cb j) (ov j)) W W'){ov':Value}{st':List (Nat×Nat)}(hc:CurS W' (C.cb j) t.tb st' ov')(ho:∀k,ov'.ownBlock=some k->(ov j).ownBlock=some k\/W.heap.size≤k):
 C.At (dD ov j ov') R (dD st j st') W'/\(∀k,C.Own (dD ov j ov') k->C.Own ov k\/W.heap.size≤k)/\(∀k,iS (C.cb j) (ov j) k->C.Own ov k):=by
 have hown:∀k,iS (C.cb j) (ov j) k->C.Own ov k:=fun k hk=> .inr (.inr (.inr ⟨j,(List.getElem?_eq_some_iff.1 ht).1,hk⟩));have hnew:∀k,C.Own (dD ov j ov') k->C.Own ov k\/W.heap.size≤k:=WalkAt.own_turn ho;have hlo:C.lo≤W.heap.size:=Nat.le_of_lt (Nat.lt_of_le_of_lt (h.new C.wb (.inl rfl)) (h.wlk.lt C.wb (.inl rfl)));refine⟨⟨h.wlk.turn ht hk hc ho,fun k hk'=>?_,h.w0k.trans' hk fun i _ hf hz=>?_⟩,hnew,hown⟩
 ·rcases hnew k hk' with h1|h1
  ·exact h.new k h1
  ·omega
 ·have:=hC.hZ i hz;have:=h.new i (hown i hf);omega
theorem WCtx.Fit.turn(h:C.Fit E ov W)(hk:W.heap.size≤W'.heap.size){ov2:Nat->Value}(ho:∀k,C.Own ov2 k->C.Own ov k\/W.heap.size≤k):C.Fit E ov2 W':=
 ⟨fun k hk'=>Nat.lt_of_lt_of_le (h.lt k hk') hk,fun k h1 h2=>by
  rcases ho k h1 with h3|h3
  ·exact h.off k h3 h2
  ·have:=h.lt k h2;omega,h.lo⟩
theorem yG{α:Type}(f:Nat->α)(j:Nat):dD f j (f j)=f:=by
 funext i
 unfold dD;split
 ·rename_i e;rw [e]
 ·rfl
theorem aDj{c:CurZ}(hc:CurOk c){t:ByteArray}{a q:Nat}(ha:c.lo≤a)(h:iJ c.keys t a c.hi q):∀k x,a≤k->k<q->c.keys[k]?=some x->aZ x.toList t.toList<0:=fun k x h1 h2 h3=>by
 obtain⟨p1,p2,p3,p4⟩:=h;have hq:q-1<c.keys.length:=by have:=hc.few;omega
 have h4:=p3 c.keys[q-1] (by omega) (qG hq);by_cases e:k=q-1
 ·subst e;rw [qG hq]at h3;cases h3;exact h4
 ·exact jX (hc.rise k (q-1) x _ (by omega) (by omega) (by omega) h3 (qG hq)) h4
theorem WCtx.QE_own(hC:C.Ok)(h:C.At ov R st W)(hf:C.Fit E ov W):∀k,C.Own ov k->C.QE E k:=fun k hk=>⟨fun hz=>by have:=hC.hZ k hz;have:=h.new k hk;omega,hf.off k hk⟩
theorem WCtx.Turn.seek(hC:C.Ok)(hn:js.Nodup)(h:C.Turn E v p st0 js Cs pre W0 i pos D xs ov R st W){ci:CurZ}(hi:Cs[i]?=some ci)(hlt:pos i<ci.hi){key:ByteArray}(hkey:ci.keys[pos i]?=some key){k j q:Nat}{c:CurZ}{t:TrieZ}(hj:js[k]?=some j)(hc:Cs[k]?=some c)(ht:C.M.Ts[j]?=some t)
 (hk:Kp (iS (C.cb j) (ov j)) W W')(hcur:CurS W' (C.cb j) t.tb (st0 j++ [(q,c.hi)]) (ov j))(hf:iJ c.keys key (pos k) c.hi q):C.Turn E v p st0 js Cs pre W0 i (fun m=>if m=k then q else pos m) D xs ov R (dD st j (st0 j++ [(q,c.hi)])) W'/\(k=i->q=pos i):=by
 obtain⟨a1,a2,a3⟩:=h.at_.turn hC ht hk hcur (fun k h=> .inl h);rw [yG]at a1 a2;have hok:=h.inv.ok c (List.mem_of_getElem? hc);have hb:=aDj hok (h.inv.inn k c hc).1 hf;have hki:k=i->q=pos i:=fun e=>by
  subst e;rw [hc]at hi;cases hi;rcases Nat.lt_or_eq_of_le hf.1 with h1|h1
  ·have:=hb (pos k) key (Nat.le_refl _) h1 hkey;rw [fG]at this;omega
  ·exact h1.symm
 exact⟨⟨h.inv.seek hi hlt hkey hc hf.1 hf.2.1 hb hki,a1,h.row,h.st_.turn hn hj hc q,h.held.step hk (fun k hk=> .inl (a3 k hk)) a2 (fun k h=> .inl h),h.fit.turn hk.size a2,h.kp.trans' hk fun k _ hf=>WCtx.QE_own hC h.at_ h.fit k (a3 k hf)⟩,hki⟩
theorem WCtx.next_turn(hC:C.Ok)(hn:js.Nodup)(inv:LeapInv (mG C.M) p Cs pos i D (xs.map Prod.snd)){ci:CurZ}(hi:Cs[i]?=some ci)(hlt:pos i<ci.hi){key:ByteArray}(hkey:ci.keys[pos i]?=some key){xs':List XB}(hk':AllB (mG C.M) (p++ [key]) (xs'.map Prod.snd))
 (hat:C.At ov R st W)(hrow:R.take v=p)(hst:StOk st0 js Cs pos st)(held:Held C.J E (C.Own ov) (pre++(xs++xs')) W)(fit:C.Fit E ov W)(kp:Kp (C.QE E) W0 W){j:Nat}{t:TrieZ}(hj:js[i]?=some j)(ht:C.M.Ts[j]?=some t)
 (hk:Kp (iS (C.cb j) (ov j)) W W')(hcur:CurS W' (C.cb j) t.tb (st0 j++ [(pos i+1,ci.hi)]) (ov j)):C.Turn E v p st0 js Cs pre W0 i (fun m=>if m=i then pos i+1 else pos m) (fun y=>D y\/y=key) (xs++xs') ov R (dD st j (st0 j++ [(pos i+1,ci.hi)])) W':=by
 obtain⟨a1,a2,a3⟩:=hat.turn hC ht hk hcur (fun k h=> .inl h);rw [yG]at a1 a2;refine⟨?_,a1,hrow,hst.turn hn hj hi _,held.step hk (fun k hk=> .inl (a3 k hk)) a2 (fun k h=> .inl h),fit.turn hk.size a2,kp.trans' hk fun k _ hf=>WCtx.QE_own hC hat fit k (a3 k hf)⟩;rw [List.map_append];exact inv.next hi hlt hkey hk'
theorem WCtx.Turn.of_key(h:C.Turn E v p st0 js Cs pre W0 i pos D xs ov R st W){ci:CurZ}(hi:Cs[i]?=some ci)(hlt:pos i<ci.hi){key:ByteArray}(hkey:ci.keys[pos i]?=some key){L:aD}(hL:AllB (mG C.M) p L)(hpre:∃R0,pre.map Prod.snd++L++R0=C.Lall):
 ∃Lk,AllB (mG C.M) (p++ [key]) Lk/\∃R0,(pre++xs).map Prod.snd++Lk++R0=C.Lall:=by
 classical
 have hk:AllB (mG C.M) (p++ [key]) (L.filter fun V=>decide (V.take (p++ [key]).length=p++ [key])):=by refine⟨hL.rise.filter _,fun V=>?_⟩;rw [List.mem_filter,hL.iff V,decide_eq_true_iff];refine⟨fun h1=>⟨h1.1.1,h1.2⟩,fun h1=>⟨⟨h1.1,?_⟩,h1.2⟩⟩;have:=congrArg (List.take p.length) h1.2;rw [List.take_take,List.take_left,List.length_append,List.length_singleton,show min p.length (p.length+1)=p.length by omega]at this;exact this
 generalize (L.filter fun V=>decide (V.take (p++ [key]).length=p++ [key]))=Lk at hk;obtain⟨R1,e1⟩:=hL.split h.inv.told hk (fun V _ _ y hy hD=>h.inv.below ci y key hi hD ⟨pos i,Nat.le_refl _,hlt,hkey⟩) fun V h1 h2=>by
  obtain⟨x,hx,h3⟩:=h.inv.common V h1 h2;refine⟨x,hx,?_⟩;rcases h3 with h3|h3
  ·exact .inl h3
  ·obtain⟨m,h4,h5,h6⟩:=h3 i ci hi;refine .inr ?_;rcases Nat.lt_or_eq_of_le h4 with h7|h7
   ·have h8:=(h.inv.ok ci (List.mem_of_getElem? hi)).rise (pos i) m key x (h.inv.inn i ci hi).1 h7 h5 hkey h6;have:=cX x.toList key.toList;omega
   ·rw [h7]at hkey;rw [hkey]at h6;cases h6;rw [fG];omega
 obtain⟨R0,e0⟩:=hpre;refine⟨Lk,hk,R1++R0,?_⟩;rw [<-e0,<-e1,List.map_append];simp only [List.append_assoc]
end
end
section
open Go.RowKit Go.Shelf
structure WCtx.Lay(C:WCtx)(v:Nat)(p:List ByteArray)(st0:Nat->List (Nat×Nat))(js:List Nat)(Cs:List CurZ):Prop where
 nd:js.Nodup
 len:Cs.length=js.length
 cur:∀k j:Nat,js[k]?=some j->∃t a b,C.M.Ts[j]?=some t/\v∈t.vs/\SpanOf t.W t.vs.length (eG t.vs v p) a b/\Cs[k]?=some ⟨bV t.W t.vs.length (eG t.vs v p).length t.W.length,a,b⟩
 paths:PathsAt C.M v p st0
 hl:p.length=v
 all:∀(j:Nat) t,C.M.Ts[j]?=some t->v∈t.vs->j∈js
theorem aJy{i k n:Nat}(hi:i<n)(hk:k<n):∃m,m<n/\(i+m) % n=k:=by
 by_cases h:i≤k
 ·exact⟨k-i,by omega,by rw [show i+(k-i)=k by omega];exact Nat.mod_eq_of_lt hk⟩
 ·exact⟨k+n-i,by omega,by rw [show i+(k+n-i)=k+n by omega,Nat.add_mod_right];exact Nat.mod_eq_of_lt hk⟩
def sN(cb:Nat->Nat)(js:List Nat):List Value:=js.map fun j=> .pointer (some ⟨cb j,0,none⟩)
section
variable {C:WCtx}{E:Nat->Prop}{v:Nat}{p:List ByteArray}{st0 st:Nat->List (Nat×Nat)}{js:List Nat}{Cs:List CurZ}{pre xs:List XB}{W0 W:World}{i:Nat}{pos:Nat->Nat}{D:ByteArray->Prop}{ov:Nat->Value}{R:List ByteArray}
theorem WCtx.Turn.cur(hC:C.Ok)(hY:C.Lay v p st0 js Cs)(h:C.Turn E v p st0 js Cs pre W0 i pos D xs ov R st W){k:Nat}(hk:k<js.length):
 ∃j t c,js[k]?=some j/\C.M.Ts[j]?=some t/\Cs[k]?=some c/\CurS W (C.cb j) t.tb (st0 j++ [(pos k,c.hi)]) (ov j)/\TrieAt W t.tb t.W t.vs.length/\(st0 j).length<t.vs.length/\c.keys=bV t.W t.vs.length (st0 j).length t.W.length/\c.hi≤aO t.W t.vs.length (st0 j).length t.W.length/\c.hi≤1048576:=by
 obtain⟨j,hj⟩:∃j,js[k]?=some j:=⟨_,qG hk⟩;obtain⟨t,a,b,h1,h2,h3,h4⟩:=hY.cur k j hj;have hT:=(hC.mat W h.at_.w0k).tries t (List.mem_of_getElem? h1);have hlen:=(hY.paths j t h1).len;have hlt:=(uF (hC.ok.ways t (List.mem_of_getElem? h1)).2.1 h2 hY.hl ByteArray.empty).2;have hb:=h3.le.2;have hs:=dM t.W t.vs.length (eG t.vs v p).length t.W.length;have hw:aO t.W t.vs.length (eG t.vs v p).length t.W.length≤t.W.length:=hs;have hcur:=h.at_.wlk.cur j t h1;rw [h.st_.1 k j _ hj h4]at hcur;refine⟨j,t,_,hj,h1,h4,hcur,hT,by omega,by rw [hlen],by rw [hlen];exact hb,?_⟩;have:=hT.few;show b≤_;omega
theorem WCtx.Turn.seekK(hC:C.Ok)(hY:C.Lay v p st0 js Cs)(h:C.Turn E v p st0 js Cs pre W0 i pos D xs ov R st W){ci:CurZ}(hi:Cs[i]?=some ci)(hlt:pos i<ci.hi){key:ByteArray}(hkey:ci.keys[pos i]?=some key){k j:Nat}{c:CurZ}(hj:js[k]?=some j)(hc:Cs[k]?=some c)(hp:pos k<c.hi):
 Calls Tryz.prog 188 #[.pointer (some ⟨C.cb j,0,none⟩),.string key] W fun e W'=>∃q st',e= .returned (.bool (decide (q≠c.hi)))/\C.Turn E v p st0 js Cs pre W0 i (fun m=>if m=k then q else pos m) D xs ov R st' W'/\iJ c.keys key (pos k) c.hi q/\(k=i->q=pos i):=by
 obtain⟨j',t,c',h1,h2,h3,h4,h5,h6,h7,h8,h9⟩:=h.cur hC hY (List.getElem?_eq_some_iff.1 hj).1;rw [hj]at h1;cases h1;rw [hc]at h3;cases h3;refine(aHq key h4 h5 h6 hp h8).mono ?_;rintro e W' ⟨_,rfl,hk,q,hf,rfl,hcur⟩;rw [<-h7]at hf;obtain⟨a1,a2⟩:=h.seek hC hY.nd hi hlt hkey hj hc h2 hk hcur hf;exact⟨q,_,rfl,a1,hf,a2⟩
theorem WCtx.Turn.endK(hC:C.Ok)(hY:C.Lay v p st0 js Cs)(h:C.Turn E v p st0 js Cs pre W0 i pos D xs ov R st W){k j:Nat}{c:CurZ}(hj:js[k]?=some j)(hc:Cs[k]?=some c):
 Calls Tryz.prog 181 #[.pointer (some ⟨C.cb j,0,none⟩)] W (RetN W fun W' v=>v= .bool (decide (pos k=c.hi))):=by
 obtain⟨j',t,c',h1,h2,h3,h4,h5,h6,h7,h8,h9⟩:=h.cur hC hY (List.getElem?_eq_some_iff.1 hj).1;rw [hj]at h1;cases h1;rw [hc]at h3;cases h3;exact aK0 h4
theorem WCtx.Turn.keyK(hC:C.Ok)(hY:C.Lay v p st0 js Cs)(h:C.Turn E v p st0 js Cs pre W0 i pos D xs ov R st W){k j:Nat}{c:CurZ}(hj:js[k]?=some j)(hc:Cs[k]?=some c)(hp:pos k<c.hi){key:ByteArray}(hkey:c.keys[pos k]?=some key):
 Calls Tryz.prog 187 #[.pointer (some ⟨C.cb j,0,none⟩)] W (RetN W fun W' v=>v= .string key):=by
 obtain⟨j',t,c',h1,h2,h3,h4,h5,h6,h7,h8,h9⟩:=h.cur hC hY (List.getElem?_eq_some_iff.1 hj).1;rw [hj]at h1;cases h1;rw [hc]at h3;cases h3;exact aKp h4 h5 h6 (by omega) (by rw [<-h7];exact hkey)
theorem WCtx.Turn.put(hC:C.Ok)(hl:p.length=v)(hv:v<C.M.N.length)(h:C.Turn E v p st0 js Cs pre W0 i pos D xs ov R st W)(key:ByteArray):
 C.At ov (R.set v key) st (W.setCell ⟨C.rb,v,none⟩ (.string key))/\(R.set v key).take (v+1)=p++ [key]/\Held C.J E (C.Own ov) (pre++xs) (W.setCell ⟨C.rb,v,none⟩ (.string key))/\C.Fit E ov (W.setCell ⟨C.rb,v,none⟩ (.string key))/\Kp (C.QE E) W0 (W.setCell ⟨C.rb,v,none⟩ (.string key)):=by
 obtain⟨a1,a2⟩:=h.at_.wlk.put v key;have own:C.Own ov C.rb:= .inr (.inl rfl);have hq:=WCtx.QE_own hC h.at_ h.fit C.rb own;refine⟨⟨a1,h.at_.new,h.at_.w0k.trans' a2 fun k _ e=>?_⟩,?_,h.held.step a2 (fun k e=> .inl ?_) (fun k h=> .inl h) (fun k h=> .inl h),⟨fun k hk=>by rw [show(W.setCell ⟨C.rb,v,none⟩ (.string key)).heap.size=W.heap.size by simp [World.setCell]];exact h.fit.lt k hk,h.fit.off,h.fit.lo⟩,h.kp.trans' a2 fun k _ e=>?_⟩
 ·have e':k=C.rb:=e;rw [e'];exact hq.1
 ·have hlR:=h.at_.wlk.rowL;rw [List.take_add_one,List.take_set,List.getElem?_set_self (by omega)];have e1:(R.take v).set v key=R.take v:=List.set_eq_of_length_le (by rw [List.length_take];omega);rw [e1,h.row];rfl
 ·have e':k=C.rb:=e;rw [e'];exact own
 ·have e':k=C.rb:=e;rw [e'];exact hq
theorem WCtx.Turn.lead(h:C.Turn E v p st0 js Cs pre W0 i pos D xs ov R st W){ci:CurZ}(hi:Cs[i]?=some ci)(hlt:pos i<ci.hi){key:ByteArray}(hk:ci.keys[pos i]?=some key){j:Nat}{c:CurZ}(hj:Cs[j]?=some c)(hl2:pos j<c.hi){key2:ByteArray}(hk2:c.keys[pos j]?=some key2)(hge:¬aZ key2.toList key.toList<0):C.Turn E v p st0 js Cs pre W0 j pos D xs ov R st W:=
 ⟨h.inv.lead hi hlt hk hj hl2 hk2 hge,h.at_,h.row,h.st_,h.held,h.fit,h.kp⟩
theorem WCtx.nextK(hC:C.Ok)(hY:C.Lay v p st0 js Cs)(inv:LeapInv (mG C.M) p Cs pos i D (xs.map Prod.snd)){ci:CurZ}(hi:Cs[i]?=some ci)(hlt:pos i<ci.hi){key:ByteArray}(hkey:ci.keys[pos i]?=some key){xs':List XB}(hk':AllB (mG C.M) (p++ [key]) (xs'.map Prod.snd))
 (hat:C.At ov R st W)(hrow:R.take v=p)(hst:StOk st0 js Cs pos st)(held:Held C.J E (C.Own ov) (pre++(xs++xs')) W)(fit:C.Fit E ov W)(kp:Kp (C.QE E) W0 W){j:Nat}(hj:js[i]?=some j):
 Calls Tryz.prog 189 #[.pointer (some ⟨C.cb j,0,none⟩)] W fun e W'=>∃st',e= .returned (.bool (decide (pos i+1≠ci.hi)))/\C.Turn E v p st0 js Cs pre W0 i (fun m=>if m=i then pos i+1 else pos m) (fun y=>D y\/y=key) (xs++xs') ov R st' W':=by
 obtain⟨t,a,b,h1,h2,h3,h4⟩:=hY.cur i j hj;have hT:=(hC.mat W hat.w0k).tries t (List.mem_of_getElem? h1);have hs:aO t.W t.vs.length (eG t.vs v p).length t.W.length≤t.W.length:=dM t.W t.vs.length (eG t.vs v p).length t.W.length;have hb:=h3.le.2;have hfw:=hT.few;rw [hi]at h4;cases h4;have hcur:=hat.wlk.cur j t h1;rw [hst.1 i j _ hj hi]at hcur;refine(aH6 hcur hlt (show b≤1048576 by omega)).mono ?_;rintro e W' ⟨_,rfl,hk,rfl,hc2⟩;exact⟨_,rfl,WCtx.next_turn hC hY.nd inv hi hlt hkey hk' hat hrow hst held fit kp hj h1 hk hc2⟩
def Before(Cs:List CurZ)(pos:Nat->Nat):Prop:=∀(k:Nat) (c:CurZ),Cs[k]?=some c->pos k<c.hi
def aMr(Cs:List CurZ)(pos:Nat->Nat)(key:ByteArray)(k:Nat):Prop:=∀c,Cs[k]?=some c->c.keys[pos k]?=some key
def aBf(C:WCtx)(E:Nat->Prop)(v:Nat)(p:List ByteArray)(st0:Nat->List (Nat×Nat))(js:List Nat)(Cs:List CurZ)(pre:List XB)(W0:World)(m:Nat)(x:Value×World):Prop:=
 ∃(i:Nat) (pos:Nat->Nat) (D:ByteArray->Prop) (xs:List XB) (ov:Nat->Value) (R:List ByteArray) (st:Nat->List (Nat×Nat)) (ci:CurZ) (key:ByteArray),x.1= .int .i64 i/\i<js.length/\Hid (C.Turn E v p st0 js Cs pre W0 i pos D xs ov R st x.2)/\Hid (Cs[i]?=some ci/\ci.keys[pos i]?=some key/\Before Cs pos/\m=qM Cs key)
def aGe(C:WCtx)(E:Nat->Prop)(v:Nat)(p:List ByteArray)(st0:Nat->List (Nat×Nat))(js:List Nat)(Cs:List CurZ)(pre:List XB)(W0:World)(iv:Value)(w:World):Prop:=∃m,aBf C E v p st0 js Cs pre W0 m (iv,w)
noncomputable def aBg(C:WCtx)(E:Nat->Prop)(v:Nat)(p:List ByteArray)(st0:Nat->List (Nat×Nat))(js:List Nat)(Cs:List CurZ)(pre:List XB)(W0:World)(iv:Value)(w:World):Nat:=vY fun m=>aBf C E v p st0 js Cs pre W0 m (iv,w)
theorem aE3{iv:Value}(h:aGe C E v p st0 js Cs pre W0 iv W):∃(i:Nat) (pos:Nat->Nat) (D:ByteArray->Prop) (xs:List XB) (ov:Nat->Value) (R:List ByteArray) (st:Nat->List (Nat×Nat)) (ci:CurZ) (key:ByteArray),iv= .int .i64 i/\i<js.length/\Hid (C.Turn E v p st0 js Cs pre W0 i pos D xs ov R st W)/\Hid (Cs[i]?=some ci/\ci.keys[pos i]?=some key/\Before Cs pos/\aBg C E v p st0 js Cs pre W0 iv W=qM Cs key):=aKm h
def aNb(C:WCtx)(E:Nat->Prop)(v:Nat)(p:List ByteArray)(st0:Nat->List (Nat×Nat))(js:List Nat)(Cs:List CurZ)(pre:List XB)(W0:World)(i pi:Nat)(D:ByteArray->Prop)(xs:List XB)(ov:Nat->Value)(R:List ByteArray)(key:ByteArray)(iv nv:Value)(w:World):Prop:=
 ∃(n:Nat) (pos:Nat->Nat) (st:Nat->List (Nat×Nat)),n≤js.length/\iv= .int .i64 i/\nv= .int .i64 n/\Hid (C.Turn E v p st0 js Cs pre W0 i pos D xs ov R st w/\Before Cs pos/\pos i=pi/\∀m,m<n->aMr Cs pos key ((i+m) % js.length))
end
set_option maxHeartbeats 4000000 in
theorem aKn{C:WCtx}(hC:C.Ok){v:Nat}(hv:v<C.M.N.length)(hF:C.From (v+1)){p:List ByteArray}{E:Nat->Prop}{ov:Nat->Value}{R:List ByteArray}{st0 st:Nat->List (Nat×Nat)}{js:List Nat}{Cs:List CurZ}{pos0:Nat->Nat}{pre:List XB}{L:aD}{W:World}{lb lo lc:Nat}
 (hY:C.Lay v p st0 js Cs)(hne:0<js.length)(hsm:js.length≤1048576)(hT:C.Turn E v p st0 js Cs pre W 0 pos0 (fun _=>False) [] ov R st W)(hB:Before Cs pos0)(hs:∀key,Seen C.M (v+1) (p++ [key]))(hL:AllB (mG C.M) p L)(hpre:∃R0,pre.map Prod.snd++L++R0=C.Lall)
 (hcells:∀W',Kp (C.QE E) W W'->∀k j:Nat,js[k]?=some j->W'.cell? ⟨lb,lo+k,none⟩=some (.pointer (some ⟨C.cb j,0,none⟩))):
 Calls Tryz.prog 158 #[.pointer (some ⟨C.wb,0,none⟩),.int .i64 v,.slice (some ⟨lb,lo,none⟩) js.length lc] W (C.LeapPost E v p st0 js Cs pre L W):=by
 obtain⟨wb,ewb⟩:=nm C.wb;obtain⟨nl,enl⟩:=nm js.length;have HC:=qH hcells;have HT:=qH hT;have HB:=qH hB;have HN:=qH enl;have HP:=qH hpre;have hst0:aGe C E v p st0 js Cs pre W (.int .i64 0) W:=by obtain⟨j,t,c,h1,h2,h3,h4,h5,h6,h7,h8,h9⟩:=hT.cur hC hY hne;have hlt:=hB 0 c h3;obtain⟨key,hk⟩:∃key,c.keys[pos0 0]?=some key:=⟨_,qG (by rw [h7,fN];omega)⟩;exact⟨_,0,pos0,_,[],ov,R,st,c,key,rfl,hne,qH hT,qH ⟨h3,hk,hB,rfl⟩⟩
 have HS:=qH hst0;clear hcells hT hB hpre hst0;rw [enl,ewb];rw [enl]at hne hsm;go_enter Tryz.func158,Tryz.ntmps158;go_wp2
 go_step3
 go_wp2
 go_step3
 go_wp2;go_loopw [7] (fun iv wr=>aGe C E v p st0 js Cs pre W iv wr) (fun iv wr=>aBg C E v p st0 js Cs pre W iv wr)
 case atStart=>exact HS.out
 case round=>
  obtain⟨i,pos,D,xs,ov1,R1,st1,ci,key,rfl,hil,hT,hM⟩:=aE3 hrel;rw [HN.out]at hil;obtain⟨j,hj⟩:∃j,js[i]?=some j:=⟨_,qG (by rw [HN.out];exact hil)⟩;have HJ:=qH hj;have c0:=HC.out wr hT.out.kp i j hj;have HE:=qH (hT.out.endK hC hY hj hM.out.1);have hlt:=hM.out.2.2.1 i ci hM.out.1;have hd:decide (pos i=ci.hi)=false:=decide_eq_false (by omega);rw [hd]at HE;have HK:=qH (fun W' (hW:Ext wr W')=>(hT.out.ext hW).keyK hC hY hj hM.out.1 hlt hM.out.2.1);have HL:=qH hlt;have HR:=qH hrel;clear hd hj hlt hrel;go_wp2_with fail
  refine HE.out.mono ?_;rintro e w1 ⟨v1,rfl,hk1,rfl⟩;have T1:=qH (hT.out.ext hk1);have K1:=qH hk1;have c1:=HC.out w1 T1.out.kp i j HJ.out;clear hk1 c0;go_wp2_with fail
  refine(HK.out w1 K1.out).mono ?_;rintro e w2 ⟨v1,rfl,hk2,rfl⟩;have T2:=qH (T1.out.ext hk2);have K2:=qH (K1.out.trans hk2);clear hk2 c1;go_wp2;go_loopw [7,24] (fun iv nv w=>aNb C E v p st0 js Cs pre W i (pos i) D xs ov1 R1 key iv nv w) (fun _ nv _=>nl- (intOf nv).toNat)
  case atStart=>exact⟨0,pos,st1,Nat.zero_le _,rfl,rfl,qH ⟨T2.out,hM.out.2.2.1,rfl,fun m hm=>by omega⟩⟩
  case round=>
   obtain⟨n,pos2,st2,hnl,rfl,rfl,HI⟩:=hrel;rw [HN.out]at hnl;by_cases hlt2:n<nl
   ·obtain⟨kk,ekk⟩:=nm ((i+n) % nl);have hkk:kk<nl:=by rw [<-ekk];exact Nat.mod_lt _ hne
    obtain⟨j2,t2,c2,h1,h2,h3,-⟩:=HI.out.1.cur hC hY (k:=kk) (by rw [HN.out];exact hkk);have d0:=HC.out wr HI.out.1.kp kk j2 h1;have hp2:=HI.out.2.1 kk c2 h3;have hci:pos2 i<ci.hi:=by rw [HI.out.2.2.1];exact HL.out
    have hkey:ci.keys[pos2 i]?=some key:=by rw [HI.out.2.2.1];exact hM.out.2.1
    have HSk:=qH (HI.out.1.seekK hC hY hM.out.1 hci hkey h1 h3 hp2);have HX:=qH (nIX h1 (nIX h3 (nIX hp2 (nIX hci hkey))));have hrem:((i:Int)+(n:Int)) % (nl:Int)=(kk:Int):=by rw [<-ekk];rfl
    have HKK:=qH ekk;clear h1 h2 h3 hp2 hci hkey ekk;go_wp2_with fail
    refine HSk.out.mono ?_;rintro e w3 ⟨q,st3,rfl,hT3,hf3,hq3⟩;have HT3:=qH (nIX hT3 (nIX hf3 hq3));clear hT3 hf3 hq3 d0;by_cases hqe:q=c2.hi
    ·have hd:decide (q≠c2.hi)=false:=decide_eq_false fun h=>h hqe;have HQ:=qH hqe;rw [hd];clear hqe hd hrem;go_wp2;go_ret;refine⟨true,ov1,R1,st3,_,rfl,HT3.out.1.kp,HT3.out.1.at_,HT3.out.1.row,HT3.out.1.fit.off,HT3.out.1.st_,.inl ⟨rfl,xs,?_,HT3.out.1.held⟩⟩;refine AllB.unique (HT3.out.1.inv.end HX.out.2.1 ?_) hL;show(if kk=kk then q else pos2 kk)=c2.hi;rw [if_pos rfl];exact HQ.out
    ·have hd:decide (q≠c2.hi)=true:=decide_eq_true hqe;have hqlt:q<c2.hi:=by have:=HT3.out.2.1.2.1;omega
     obtain⟨key2,hk2⟩:∃k2,c2.keys[q]?=some k2:=⟨_,qG (by have:=(HT3.out.1.inv.ok c2 (List.mem_of_getElem? HX.out.2.1)).few;omega)⟩;have hge:0≤aZ key2.toList key.toList:=HT3.out.2.1.2.2.2 key2 hqlt hk2;have HQ:=qH (nIX hqlt (nIX hk2 hge));have eupd:(if kk=kk then q else pos2 kk)=q:=if_pos rfl;have HKey:=qH (fun W' (hW:Ext w3 W')=>(HT3.out.1.ext hW).keyK hC hY HX.out.1 HX.out.2.1 (by show(if kk=kk then q else pos2 kk)<_;rw [eupd];exact hqlt) (key:=key2) (by show c2.keys[(if kk=kk then q else pos2 kk)]?=_;rw [eupd];exact hk2));rw [hd];clear hqe hd hqlt hk2 hge eupd;go_wp2_with fail
     refine(HKey.out w3 (Kp.refl _)).mono ?_;rintro e w4 ⟨v1,rfl,hk4,rfl⟩;have HT4:=qH (HT3.out.1.ext hk4);clear hk4;have bef:Hid (Before Cs fun m=>if m=kk then q else pos2 m):=qH fun m c hc=>by
      show(if m=kk then q else pos2 m)<_;split
      ·rename_i e;subst e;rw [HX.out.2.1]at hc;cases hc;exact HQ.out.1
      ·exact HI.out.2.1 m c hc
     by_cases hkk2:key2=key
     ·have hd:(key2.toList==key.toList)=true:=by rw [hkk2];exact beq_self_eq_true _
      have HEq:=qH hkk2;clear hkk2;go_wp2;go_roundw
      case rel=>
       refine⟨n+1,_,st3,by rw [HN.out];omega,rfl,nMX,qH ⟨HT4.out,bef.out,?_,fun m hm=>?_⟩⟩
       ·show(if i=kk then q else pos2 i)=pos i;split
        ·rename_i e;rw [HT3.out.2.2 e.symm];exact HI.out.2.2.1
        ·exact HI.out.2.2.1
       ·rw [HN.out];by_cases em:m=n
        ·rw [em,HKK.out];intro c hc;rw [HX.out.2.1]at hc;cases hc;show c2.keys[(if kk=kk then q else pos2 kk)]?=some key;rw [if_pos rfl,<-HEq.out];exact HQ.out.2.1
        ·intro c hc;have h5:=HI.out.2.2.2 m (by omega) c (by rw [HN.out];exact hc);rw [HN.out]at h5;show c.keys[(if(i+m) % nl=kk then q else pos2 ((i+m) % nl))]?=some key;split
         ·rename_i e;rw [e,HX.out.2.1]at hc;cases hc;rw [<-HEq.out];exact HQ.out.2.1
         ·exact h5
      case measure=>simp [intOf];omega
     ·have hd:(key2.toList==key.toList)=false:=by
       rw [beq_eq_false_iff_ne];exact fun h=>hkk2 (cY h)
      have HNe:=qH (show aZ key.toList key2.toList<0 from by have h5:=cX key2.toList key.toList;have h6:aZ key2.toList key.toList≠0:=fun h=>hkk2 (cY (eD h));have h7:=HQ.out.2.2;omega);clear hkk2;have hpi:(if i=kk then q else pos2 i)=pos i:=by
       split
       ·rename_i e;rw [HT3.out.2.2 e.symm];exact HI.out.2.2.1
       ·exact HI.out.2.2.1
      have HT5:=qH (HT4.out.lead hM.out.1 (by show(if i=kk then q else pos2 i)<_;rw [hpi];exact HL.out) (key:=key) (by show ci.keys[(if i=kk then q else pos2 i)]?=_;rw [hpi];exact hM.out.2.1) HX.out.2.1 (by show(if kk=kk then q else pos2 kk)<_;rw [if_pos rfl];exact HQ.out.1) (key2:=key2) (by show c2.keys[(if kk=kk then q else pos2 kk)]?=_;rw [if_pos rfl];exact HQ.out.2.1) (by have:=HQ.out.2.2;omega));have HO:=qH (show aBf C E v p st0 js Cs pre W (qM Cs key2) (.int .i64 kk,w4)from⟨kk,_,D,xs,ov1,R1,st3,c2,key2,rfl,by rw [HN.out];exact hkk,HT5,qH ⟨HX.out.2.1,by show c2.keys[(if kk=kk then q else pos2 kk)]?=_;rw [if_pos rfl];exact HQ.out.2.1,bef.out,rfl⟩⟩);clear hpi;go_wp2;go_roundw
      case rel=>exact⟨_,by rw [hrem];exact HO.out⟩
      case measure=>
       have h8:aBg C E v p st0 js Cs pre W (.int .i64 kk) w4≤qM Cs key2:=aC0 HO.out;have h9:=aG0 HNe.out (List.mem_of_getElem? HX.out.2.1) HQ.out.1 HQ.out.2.1;have h10:=hM.out.2.2.2;rw [hrem];omega
   ·obtain rfl:n=nl:=by omega
    have hall:∀k,k<n->aMr Cs pos2 key k:=fun k hk=>by obtain⟨m,hm,e⟩:=aJy hil hk;have h5:=HI.out.2.2.2 m hm;rw [HN.out,e]at h5;exact h5
    have hpath:PathsAt C.M (v+1) (p++ [key]) st2:=by
     refine hY.paths.next hC.ok hY.hl (fun j t hj hvt=>?_) fun j t hj hvt=>HI.out.1.st_.2 j fun hm=>?_
     ·obtain⟨k,hk⟩:=List.mem_iff_getElem?.1 (hY.all j t hj hvt);obtain⟨t',a,b,h1,h2,h3,h4⟩:=hY.cur k j hk;rw [hj]at h1;cases h1;have hkn:k<n:=by rw [<-HN.out];exact(List.getElem?_eq_some_iff.1 hk).1
      exact⟨a,b,pos2 k,h3,(HI.out.1.inv.inn k _ h4).1,HI.out.2.1 k _ h4,hall k hkn _ h4,HI.out.1.st_.1 k j _ hk h4⟩
     ·obtain⟨k,hk⟩:=List.mem_iff_getElem?.1 hm;obtain⟨t',a,b,h1,h2,-⟩:=hY.cur k j hk;rw [hj]at h1;cases h1;exact hvt h2
    obtain⟨Lk,hLk,hpre2⟩:=HI.out.1.of_key hM.out.1 (by rw [HI.out.2.2.1];exact HL.out) (key:=key) (by rw [HI.out.2.2.1];exact hM.out.2.1) hL HP.out;obtain⟨q1,q2,q3,q4,q5⟩:=HI.out.1.put hC hY.hl hv key;have HFr:=qH (hF (p++ [key]) E ov1 (R1.set v key) st2 (pre++xs) Lk _ (by rw [List.length_append,hY.hl];rfl) q1 q2 hpath (hs key) hLk hpre2 q3 q4);have HLk:=qH (nIX hLk q5);have hwk:=HI.out.1.at_.wlk;have b2:wr.cell? ⟨wb,2,none⟩=some (.slice (some ⟨C.rb,0,none⟩) C.M.N.length C.M.N.length):=by rw [<-ewb,hwk.box.cell'];rfl
    obtain⟨ox,hox⟩:∃x,R1[v]?=some x:=⟨_,qG (by rw [hwk.rowL];exact hv)⟩;have r0:wr.cell? ⟨C.rb,v,none⟩=some (.string ox):=by rw [hwk.rowB.cell'];unfold strs;rw [List.getElem?_map,hox];rfl
    have f0:=hwk.rowB.free v;obtain⟨rb,erb⟩:=nm C.rb;obtain⟨nv,env⟩:=nm C.M.N.length;have hfew:=(hC.mat _ HI.out.1.at_.w0k).few.1;rw [env]at b2 hv hfew;rw [erb]at b2 r0 f0 HFr HLk;rw [ewb]at HFr;obtain⟨w5,e5⟩:=nm (wr.setCell ⟨rb,v,none⟩ (.string key));rw [e5]at HFr HLk;have HFs:=qH (show Calls Tryz.prog 123 #[.pointer (some ⟨wb,0,none⟩),.int .i64 ((v:Int)+1)] w5 _ from HFr.out);clear hox hwk q1 q2 q3 q4 q5 hpath hall hLk hpre2 hnl hlt2 HFr;go_wp2_with fail
    refine HFs.out.mono ?_;rintro e w6 ⟨b,ov6,R6,rfl,hk6,hat6,hrow6,hoff6,hends⟩;have hrow:R6.take v=p:=by have:=congrArg (List.take v) hrow6;rw [List.take_take,show min v (v+1)=v by omega,<-hY.hl,List.take_left]at this;rw [<-hY.hl];exact this
    have hkp:=HLk.out.2.trans hk6;have H6:=qH (nIX hat6 (nIX hrow (nIX hoff6 hkp)));clear hk6 hat6 hrow6 hoff6 hkp hrow b2 r0 f0 e5;rcases hends with⟨rfl,xs',hxs,hheld⟩|⟨rfl,pre2,hpre2,hheld⟩
    ·have hfit:C.Fit E ov6 w6:=⟨fun k hk=>Nat.lt_of_lt_of_le (HT.out.fit.lt k hk) H6.out.2.2.2.size,H6.out.2.2.1,HT.out.fit.lo⟩;rw [List.append_assoc]at hheld;have hLk:=HLk.out.1;rw [<-hxs]at hLk;have hci:pos2 i<ci.hi:=by rw [HI.out.2.2.1];exact HL.out
     have HNx:=qH (WCtx.nextK hC hY HI.out.1.inv hM.out.1 hci (key:=key) (by rw [HI.out.2.2.1];exact hM.out.2.1) hLk H6.out.1 H6.out.2.1 HI.out.1.st_ hheld hfit H6.out.2.2.2 HJ.out);have c6:=HC.out w6 H6.out.2.2.2 i j HJ.out;clear hfit hxs hheld hLk hci;go_wp2_with fail
     refine HNx.out.mono ?_;rintro e w7 ⟨st7,rfl,hT7⟩;have HT7:=qH hT7;clear hT7 c6;by_cases hend:pos2 i+1=ci.hi
     ·have hd:decide (pos2 i+1≠ci.hi)=false:=decide_eq_false fun h=>h hend;have HE7:=qH hend;rw [hd];clear hend hd;go_wp2;go_ret;refine⟨true,ov6,R6,st7,_,rfl,HT7.out.kp,HT7.out.at_,HT7.out.row,HT7.out.fit.off,HT7.out.st_,.inl ⟨rfl,xs++xs',?_,HT7.out.held⟩⟩;refine AllB.unique (HT7.out.inv.end hM.out.1 ?_) hL;show(if i=i then pos2 i+1 else pos2 i)=ci.hi;rw [if_pos rfl];exact HE7.out
     ·have hd:decide (pos2 i+1≠ci.hi)=true:=decide_eq_true hend;have hlt7:pos2 i+1<ci.hi:=by have:=HI.out.2.1 i ci hM.out.1;omega
      have hok:=HT7.out.inv.ok ci (List.mem_of_getElem? hM.out.1);obtain⟨key2,hk2⟩:∃k2,ci.keys[pos2 i+1]?=some k2:=⟨_,qG (by have:=hok.few;omega)⟩;have hlow:aZ key.toList key2.toList<0:=hok.rise (pos2 i) (pos2 i+1) key key2 (HI.out.1.inv.inn i ci hM.out.1).1 (by omega) hlt7 (by rw [HI.out.2.2.1];exact hM.out.2.1) hk2;have HO:=qH (show aBf C E v p st0 js Cs pre W (qM Cs key2) (.int .i64 i,w7)from⟨i,_,_,xs++xs',ov6,R6,st7,ci,key2,rfl,by rw [HN.out];exact hil,HT7,qH ⟨hM.out.1,by show ci.keys[(if i=i then pos2 i+1 else pos2 i)]?=_;rw [if_pos rfl];exact hk2,fun m c hc=>by
       show(if m=i then pos2 i+1 else pos2 m)<_;split
       ·rename_i e;subst e;rw [hM.out.1]at hc;cases hc;exact hlt7
       ·exact HI.out.2.1 m c hc,rfl⟩⟩)
      have HLt:=qH (aG0 hlow (List.mem_of_getElem? hM.out.1) hlt7 hk2);rw [hd];clear hend hd hlt7 hok hk2 hlow;go_wp2;go_roundw
      case rel=>exact⟨_,HO.out⟩
      case measure=>
       have h8:aBg C E v p st0 js Cs pre W (.int .i64 i) w7≤qM Cs key2:=aC0 HO.out;have h9:=HLt.out;have h10:=hM.out.2.2.2;omega
    ·have HFin:=qH (nIX hpre2 hheld);clear hpre2 hheld;go_wp2;go_ret;exact⟨false,ov6,R6,st2,pos2,rfl,H6.out.2.2.2,H6.out.1,H6.out.2.1,H6.out.2.2.1,HI.out.1.st_,.inr ⟨rfl,pre2,HFin.out⟩⟩
structure WCtx.Yields(C:WCtx)(l n:Nat):Prop where
 yv:C.yv= .func (.yield l) #[] #[]
 one:∀T T' pre x W1 W2,C.J T pre W1->Kp T W1 W2->(∀k,T' k->xP T W1 W2 k)->GvRow W1 T' W2 x->(pre++ [x]).map Prod.snd<+:C.Lall->YieldAt Fence.wide n Tryz.prog l (encX x) W2 fun e W'=>
  (e= .returned (.bool true)/\C.J T' (pre++ [x]) W'/\Kp (fun k=>¬fI C.Z T' k) W2 W')\/ (e= .returned (.bool false)/\C.Jx T' (pre++ [x]) W'/\Kp (fun k=>¬fI C.Z T' k) W2 W')
section
variable {C:WCtx}{E:Nat->Prop}{v:Nat}{p:List ByteArray}{st0 st:Nat->List (Nat×Nat)}{js:List Nat}{Cs:List CurZ}{pre xs:List XB}{W0 W W':World}{i:Nat}{pos:Nat->Nat}{D:ByteArray->Prop}{ov:Nat->Value}{R:List ByteArray}
theorem WCtx.passK(hC:C.Ok)(h:C.At ov R st W)(hv:v≤C.M.N.length):Calls Tryz.prog 156 #[.pointer (some ⟨C.wb,0,none⟩),.int .i64 v] W (RetN W fun W' u=>u= .bool (!(C.M.tests v).any fun t=>!t.ask R)):=by obtain⟨h1,h2,h3,h4,h5,h6,h7,h8,h9,h10⟩:=hC.mat W h.w0k;obtain⟨b,o,e,c,d⟩:=h7 v hv;rw [e]at h4;have hb:=h.wlk.box;refine aEy (tc:=C.A.yc v) (C.M.tests v) rfl d (h9 v hv) (by rw [hb.cell'];rfl) h4 hv c (ra:=some ⟨C.rb,0,none⟩) (cp:=C.M.N.length) (by rw [hb.cell'];rfl) ?_ h.wlk.rowL (h10.2.2 v hv) h10.1;have:=h.wlk.rowB;have h11:strs R++ []=strs R:=List.append_nil _;rw [<-h11]at this;exact CellsAt.pre this
theorem aJ0(hC:C.Ok){l n:Nat}(hY:C.Yields l n){w1:World}(hat:C.At ov R st w1)(hfit:C.Fit E ov w1)(hheld:Held C.J E (C.Own ov) pre w1)(hkp:Kp (C.QE E) W w1)(hrow:R.take v=p)(hRp:R=p){R0:aD}(hpre:pre.map Prod.snd++ [p]++R0=C.Lall):
 ∀(ao:Option Addr) (W2:World),Ext w1 W2->((ao=none/\strs R= [])\/∃g rest,ao=some ⟨g,0,none⟩/\Blk W2 g (strs R++rest) 9/\w1.heap.size≤g)->YieldAt Fence.wide n Tryz.prog l #[.slice ao C.M.N.length C.M.N.length] W2 fun e W'=>∃b,e= .returned (.bool b)/\C.Post E v p st pre [p] W (.returned (.bool b)) W':=by
 intro ao W2 hx hB;obtain⟨T,W1,hJ,hT,hown⟩:=hheld;have hlt:∀k,(C.Own ov k\/E k)->k<w1.heap.size:=fun k hk=>by
  rcases hk with hk|hk
  ·exact hat.wlk.lt k hk
  ·exact hfit.lt k hk
 have hlen:(pre++ [((ao,C.M.N.length,C.M.N.length),R)]).map Prod.snd<+:C.Lall:=by rw [<-hpre,List.map_append,<-hRp];exact List.prefix_append _ _
 have hsz:=hT.size;have hsz2:=hx.size;have hRl:=hat.wlk.rowL;have hgv:GvRow W1 (fun k=>C.Own ov k\/E k) W2 ((ao,C.M.N.length,C.M.N.length),R):=⟨by rw [hRl],by
  rcases hB with⟨h1,h2⟩|⟨g,rest,h1,h2,h3⟩
  ·exact .inl ⟨h1,List.map_eq_nil_iff.1 h2⟩
  ·exact .inr ⟨g,rest,h1,h2,by omega,fun h=>by have:=hlt g h;omega⟩⟩
 obtain⟨fn,tmps,assign,body,hy,hR⟩:=hY.one T (fun k=>C.Own ov k\/E k) pre ((ao,C.M.N.length,C.M.N.length),R) W1 W2 hJ (hT.ext hx) (fun k hk=>by
  rcases hown k hk with h|h
  ·exact .inl h
  ·exact .inr ⟨h,Nat.lt_of_lt_of_le (hlt k hk) hsz2⟩) hgv hlen
 refine⟨fn,tmps,assign,body,hy,hR.mono ?_⟩;have fin:∀W',Kp (fun k=>¬fI C.Z (fun k=>C.Own ov k\/E k) k) W2 W'->Kp (C.QE E) W W'/\C.At ov R st W':=fun W' hk=>
  ⟨(hkp.ext hx).trans' hk fun i _ hi=>⟨fun hz=>hi (.inr hz),fun he=>hi (.inl (.inr he))⟩,(hat.wlk.ext hx).kp hk fun k hk' hn=>hn (.inl (.inl hk')),hat.new,(hat.w0k.ext hx).trans' hk fun i _ hi hz=>hi (.inr hz)⟩
 rintro e W' (⟨rfl,hJ',hk⟩|⟨rfl,hJ',hk⟩)
 ·obtain⟨f1,f2⟩:=fin W' hk;exact⟨true,rfl,true,ov,R,rfl,f1,f2,hrow,hfit.off,.inl ⟨rfl,[_],by rw [<-hRp];rfl,_,W',hJ',Kp.refl _,fun k hk=> .inl hk⟩⟩
 ·obtain⟨f1,f2⟩:=fin W' hk;refine⟨false,rfl,false,ov,R,rfl,f1,f2,hrow,hfit.off,.inr ⟨rfl,_,?_,_,W',hJ',Kp.refl _,fun k hk=> .inl hk⟩⟩;rw [<-hpre,List.map_append,<-hRp];exact List.prefix_append _ _
end
theorem iH{P:Program}{t e:TypeId}{k bytes:Nat}{z:Value}{w:World}(E:cL P t e k bytes z){ops:Array Oper}{rest:List Oper}{o:Oper}{a:Act}{Q:Exit->Act->World->Prop}(hgd:o.guard=none)(s x:Operand)
 (ho:o.op= .call {callee:= .builtin .append,args:=#[s,x],argTypes:=#[t,t]})
 {v:Value}{n:Nat}{xs:List Value}{M:Nat->Prop}(hs:a.eval s=v)(hr:Row w e k v n xs M)
 {ao:Option Addr}{m c:Nat}{news:List Value}(hx:a.eval x= .slice ao m c)(hsrc:CellsAt w ao news)(hl:news.length=m*k)(h1:∀u∈news,u.oneCell'=true)
 (hb:(n+m)*bytes≤140737488355328)(h63:n+m≤maxLen)
 (h:∀v' w',Row w' e k v' (n+m) (xs++news) (fun g=>v.ownBlock=some g\/w.heap.size≤g)->Kp (fun g=>v.ownBlock=some g) w w'->wpList P ops Q rest (a.put o.dst v') w'):wpList P ops Q (o::rest) a w:=by
 refine wpList_plain hgd fun K hK=>?_;obtain⟨v',w',hrun,h2,h3,h4⟩:=oE (P:=P) E o.type hr hl hsrc h1 hb h63 (c:=c);unfold Oper.wp execOp;simp only [ho,resolve,invoke,builtin,Sem.run_bind,Sem.run_pure,Result.andThen_ok,List.map_toArray,List.map_cons,List.map_nil,hs,hx,hrun];exact hK _ _ (h v' w' h2 h3)
theorem zT:cL Tryz.prog 184 188 1 8 (.pointer none):=⟨by kernel_rfl,by kernel_rfl,rfl,by decide⟩
section
variable {C:WCtx}{E:Nat->Prop}{v:Nat}{p:List ByteArray}{st0 st:Nat->List (Nat×Nat)}{js:List Nat}{Cs:List CurZ}{pre xs:List XB}{W0 W W':World}{i:Nat}{pos:Nat->Nat}{D:ByteArray->Prop}{ov:Nat->Value}{R:List ByteArray}
def EL(E:Nat->Prop)(lv:Value):Nat->Prop:=fun k=>E k\/lv.ownBlock=some k
structure WCtx.Opened(C:WCtx)(E:Nat->Prop)(v:Nat)(p R:List ByteArray)(st:Nat->List (Nat×Nat))(js:List Nat)(pre:List XB)(w1:World)(m:Nat)(lv:Value)(ov:Nat->Value)(st':Nat->List (Nat×Nat))(sp:Nat->Nat×Nat)(w:World):Prop where
 row:Row w 188 1 lv m (sN C.cb (js.take m)) (fun g=>w1.heap.size≤g)
 at_:C.At ov R st' w
 held:Held C.J (EL E lv) (C.Own ov) pre w
 fit:C.Fit (EL E lv) ov w
 kp:Kp (C.QE E) w1 w
 done:∀k j:Nat,k<m->js[k]?=some j->∃t,C.M.Ts[j]?=some t/\SpanOf t.W t.vs.length (eG t.vs v p) (sp j).1 (sp j).2/\(sp j).1< (sp j).2/\st' j=st j++ [sp j]
 rest:∀j,j∉js.take m->st' j=st j
def OpenR(C:WCtx)(E:Nat->Prop)(v:Nat)(p R:List ByteArray)(st:Nat->List (Nat×Nat))(js:List Nat)(pre:List XB)(w1:World)(lv iv:Value)(w:World):Prop:=
 ∃(m:Nat) (ov:Nat->Value) (st':Nat->List (Nat×Nat)) (sp:Nat->Nat×Nat),m≤js.length/\iv= .int .i64 m/\Hid (C.Opened E v p R st js pre w1 m lv ov st' sp w)
theorem WCtx.At.ptrAt(h:C.At ov R st W){ca:Option Addr}{n cc:Nat}(e:C.cv= .slice ca n cc){j:Nat}(hj:j<C.M.Ts.length):∃b o,ca=some ⟨b,o,none⟩/\W.cell? ⟨b,o+j,none⟩=some (.pointer (some ⟨C.cb j,0,none⟩)):=by obtain⟨ca',cc',e',hp⟩:=h.wlk.ptr;rw [e]at e';simp only [Value.slice.injEq]at e';obtain⟨rfl,-,-⟩:=e';exact hp j hj
theorem WCtx.Opened.open(hC:C.Ok)(hn:js.Nodup)(hl:p.length=v)(hP:PathsAt C.M v p st){w1:World}{m j:Nat}{lv:Value}{sp:Nat->Nat×Nat}(h:C.Opened E v p R st js pre w1 m lv ov st0 sp W){t:TrieZ}(hj:js[m]?=some j)(ht:C.M.Ts[j]?=some t)(hv:v∈t.vs):
 Calls Tryz.prog 157 #[.pointer (some ⟨C.cb j,0,none⟩)] W fun e W'=>∃(b:Bool) (ov':Nat->Value) (st':Nat->List (Nat×Nat)) (sp':Nat->Nat×Nat),e= .returned (.bool b)/\W.heap.size≤W'.heap.size/\Row W' 188 1 lv m (sN C.cb (js.take m)) (fun g=>w1.heap.size≤g)/\C.At ov' R st' W'/\Held C.J (EL E lv) (C.Own ov') pre W'/\C.Fit (EL E lv) ov' W'/\Kp (C.QE E) w1 W'/\
  (∀k i:Nat,k<m+1->js[k]?=some i->∃t,C.M.Ts[i]?=some t/\SpanOf t.W t.vs.length (eG t.vs v p) (sp' i).1 (sp' i).2/\(sp' i).1< (sp' i).2/\st' i=st i++ [sp' i])/\∀i,i∉js.take (m+1)->st' i=st i:=by
 have hnot:j∉js.take m:=fun hm=>by
  obtain⟨k,hk⟩:=List.mem_iff_getElem?.1 hm;have hkm:k<m:=by have:=(List.getElem?_eq_some_iff.1 hk).1;rw [List.length_take]at this;omega
  rw [List.getElem?_take_of_lt hkm]at hk;have:=(List.getElem?_inj (List.getElem?_eq_some_iff.1 hk).1 hn).1 (hk.trans hj.symm);omega
 obtain⟨w2,w3,w4,w5,w6⟩:=hC.ok.ways t (List.mem_of_getElem? ht);have hcur:=h.at_.wlk.cur j t ht;rw [h.rest j hnot]at hcur;have hT:=(hC.mat W h.at_.w0k).tries t (List.mem_of_getElem? ht);refine(aH3 hcur hT w2 w6 (hP j t ht) (uF w3 hv hl ByteArray.empty).2).mono ?_;rintro e W' ⟨_,rfl,hk,rfl,ov2,f,u,hc2,hs,hft,ho⟩;obtain⟨a1,a2,a3⟩:=h.at_.turn hC ht hk hc2 ho;refine⟨true,dD ov j ov2,_,dD sp j (f,u),rfl,hk.size,h.row.kp' hk fun g hg _ hf=>h.fit.off g (a3 g hf) (.inr hg),a1,h.held.step hk (fun k hk=> .inl (a3 k hk)) a2 (fun k h=> .inl h),h.fit.turn hk.size a2,h.kp.trans' hk fun k _ hf=>?_,fun k i hkm hi=>?_,fun i hi=>?_⟩
 ·have:=WCtx.QE_own hC h.at_ h.fit k (a3 k hf);exact⟨this.1,fun he=>this.2 (.inl he)⟩
 ·by_cases e:i=j
  ·subst e;rw [upd_same,upd_same];exact⟨t,ht,hs,hft,rfl⟩
  ·have hkm':k<m:=by
    rcases Nat.lt_or_eq_of_le (Nat.le_of_lt_succ hkm)with h1|h1
    ·exact h1
    ·subst h1;rw [hj]at hi;cases hi;exact absurd rfl e
   rw [aH _ _ e,aH _ _ e];exact h.done k i hkm' hi
 ·have e1:js.take (m+1)=js.take m++ [j]:=by rw [List.take_add_one,hj];rfl
  rw [e1,List.mem_append,List.mem_singleton,not_or]at hi;rw [aH _ _ hi.2];exact h.rest i hi.1
theorem WCtx.Opened.push(hC:C.Ok){w1 w3 w4:World}{m j:Nat}{lv lv4:Value}{sp:Nat->Nat×Nat}(hj:js[m]?=some j)(q2:Row w3 188 1 lv m (sN C.cb (js.take m)) (fun g=>w1.heap.size≤g))(q3:C.At ov R st0 w3)(q4:Held C.J (EL E lv) (C.Own ov) pre w3)(q5:C.Fit (EL E lv) ov w3)(q6:Kp (C.QE E) w1 w3)
 (q7:∀k i:Nat,k<m+1->js[k]?=some i->∃t,C.M.Ts[i]?=some t/\SpanOf t.W t.vs.length (eG t.vs v p) (sp i).1 (sp i).2/\(sp i).1< (sp i).2/\st0 i=st i++ [sp i])(q8:∀i,i∉js.take (m+1)->st0 i=st i)(hr:Row w4 188 1 lv4 (m+1) (sN C.cb (js.take m)++ [.pointer (some ⟨C.cb j,0,none⟩)]) (fun g=>lv.ownBlock=some g\/w3.heap.size≤g))(hk:Kp (fun g=>lv.ownBlock=some g) w3 w4)(hE:∀k,E k->k<w1.heap.size):
 C.Opened E v p R st js pre w1 (m+1) lv4 ov st0 sp w4:=by
 have e1:js.take (m+1)=js.take m++ [j]:=by rw [List.take_add_one,hj];rfl
 have e2:sN C.cb (js.take m)++ [.pointer (some ⟨C.cb j,0,none⟩)]=sN C.cb (js.take (m+1)):=by unfold sN;rw [e1,List.map_append];rfl
 rw [e2]at hr;have hs:=q6.size;have hlo:C.lo≤w3.heap.size:=Nat.le_of_lt (Nat.lt_of_le_of_lt (q3.new C.wb (.inl rfl)) (q3.wlk.lt C.wb (.inl rfl)));refine⟨hr.mono fun g hg=>?_,⟨q3.wlk.kp hk fun k h1 h2=>q5.off k h1 (.inr h2),q3.new,q3.w0k.trans' hk fun k _ h1 h2=>?_⟩,q4.step hk (fun k h=> .inr (.inl (.inr h))) (fun k h=> .inl h) (fun k h=>?_),⟨fun k h=>?_,fun k h1 h2=>?_,fun k h=>?_⟩,q6.trans' hk fun k h0 h1=>?_,q7,q8⟩
 ·rcases hg with hg|hg
  ·exact q2.block g hg
  ·omega
 ·have:=hC.hZ k h2;have:=q5.lo k (.inr h1);omega
 ·rcases h with h|h
  ·exact .inl (.inl h)
  ·rcases hr.block k h with h|h
   ·exact .inl (.inr h)
   ·exact .inr h
 ·rcases h with h|h
  ·have:=q5.lt k (.inl h);have:=hk.size;omega
  ·obtain⟨cs,hb⟩:=aQ hr h;exact hb.lt
 ·rcases h2 with h2|h2
  ·exact q5.off k h1 (.inl h2)
  ·rcases hr.block k h2 with h|h
   ·exact q5.off k h1 (.inr h)
   ·have:=q3.wlk.lt k h1;omega
 ·rcases h with h|h
  ·exact q5.lo k (.inl h)
  ·rcases hr.block k h with h|h
   ·exact q5.lo k (.inr h)
   ·omega
 ·refine⟨fun hz=>?_,fun he=>?_⟩
  ·have:=hC.hZ k hz;have:=q5.lo k (.inr h1);omega
  ·have:=q2.block k h1;have:=hE k he;omega
theorem WCtx.Ends.step{L:aD}{b:Bool}{E' G:Nat->Prop}{ov2:Nat->Value}(h:C.Ends E pre L ov b W)(hk:Kp G W W')(hG:∀k,G k->C.Own ov k\/E k\/W.heap.size≤k)(ho:∀k,C.Own ov2 k->C.Own ov k\/W.heap.size≤k)(hE:∀k,E' k->E k\/W.heap.size≤k):C.Ends E' pre L ov2 b W':=by
 rcases h with⟨h1,xs,h2,h3⟩|⟨h1,pre',h2,h3⟩
 ·exact .inl ⟨h1,xs,h2,h3.step hk hG ho hE⟩
 ·exact .inr ⟨h1,pre',h2,h3.step hk hG ho hE⟩
structure WCtx.Shut(C:WCtx)(E:Nat->Prop)(v:Nat)(p:List ByteArray)(st:Nat->List (Nat×Nat))(js:List Nat)(pre:List XB)(L:aD)(b:Bool)(w1:World)(m:Nat)(ov:Nat->Value)(R:List ByteArray)(st':Nat->List (Nat×Nat))(w:World):Prop where
 at_:C.At ov R st' w
 off:∀k,C.Own ov k->¬E k
 kp:Kp (C.QE E) w1 w
 ends:C.Ends E pre L ov b w
 todo:∀k j:Nat,m≤k->js[k]?=some j->∃x,st' j=st j++ [x]
 rest:∀j,j∉js.drop m->st' j=st j
theorem WCtx.Shut.up(hC:C.Ok)(hn:js.Nodup){L:aD}{b:Bool}(hE:∀k,E k->k<W.heap.size)(h:C.Shut E v p st js pre L b W0 i ov R st0 W){j:Nat}{t:TrieZ}(hj:js[i]?=some j)(ht:C.M.Ts[j]?=some t):
 Calls Tryz.prog 159 #[.pointer (some ⟨C.cb j,0,none⟩)] W fun e W'=>∃(c:Bool) (ov':Nat->Value) (st':Nat->List (Nat×Nat)),e= .returned (.bool c)/\W.heap.size≤W'.heap.size/\C.Shut E v p st js pre L b W0 (i+1) ov' R st' W':=by
 obtain⟨⟨x1,x2⟩,hx⟩:=h.todo i j (Nat.le_refl _) hj;have hcur:=h.at_.wlk.cur j t ht;rw [hx]at hcur;refine(aLp hcur).mono ?_;rintro e W' ⟨_,rfl,hk,rfl,ov2,ho2,hc2⟩;obtain⟨a1,a2,a3⟩:=h.at_.turn hC ht hk hc2 (fun k hk=> .inl (by rw [<-ho2];exact hk));have edrop:js.drop i=j::js.drop (i+1):=by have hl:=List.getElem?_eq_some_iff.1 hj;rw [List.drop_eq_getElem_cons hl.1,hl.2]
 have hjn:j∉js.drop (i+1):=by have h1:(js.drop i).Nodup:=hn.sublist (List.drop_sublist _ _);rw [edrop]at h1;exact(List.nodup_cons.1 h1).1
 refine⟨true,dD ov j ov2,_,rfl,hk.size,a1,fun k hk2 he=>?_,h.kp.trans' hk fun k _ hf=>?_,h.ends.step hk (fun k hk=> .inl (a3 k hk)) a2 (fun k h=> .inl h),fun k i2 hik hi2=>?_,fun i2 hi2=>?_⟩
 ·rcases a2 k hk2 with h1|h1
  ·exact h.off k h1 he
  ·have:=hE k he;omega
 ·refine⟨fun hz=>?_,h.off k (a3 k hf)⟩;have:=hC.hZ k hz;have:=h.at_.new k (a3 k hf);omega
 ·have hne:i2≠j:=fun e=>hjn (by
   rw [<-e];refine List.mem_of_getElem? (i:=k- (i+1)) ?_;rw [List.getElem?_drop,show i+1+(k- (i+1))=k by omega];exact hi2)
  rw [aH _ _ hne];exact h.todo k i2 (by omega) hi2
 ·by_cases e:i2=j
  ·subst e;rw [upd_same]
  ·rw [aH _ _ e];refine h.rest i2 fun hm=>?_;rw [edrop]at hm;rcases List.mem_cons.1 hm with h1|h1
   ·exact e h1
   ·exact hi2 h1
def ShutR(C:WCtx)(E:Nat->Prop)(v:Nat)(p:List ByteArray)(st:Nat->List (Nat×Nat))(js:List Nat)(pre:List XB)(L:aD)(b:Bool)(w1:World)(R:List ByteArray)(iv:Value)(w:World):Prop:=
 ∃(m:Nat) (ov:Nat->Value) (st':Nat->List (Nat×Nat)),m≤js.length/\iv= .int .i64 m/\Hid (C.Shut E v p st js pre L b w1 m ov R st' w)
theorem WCtx.Opened.start(hC:C.Ok)(hl:p.length=v)(hvn:v<C.M.N.length)(hP:PathsAt C.M v p st)(hrow:R.take v=p)(hj:atL C.M.Ts v=js){w1:World}{lv:Value}{sp:Nat->Nat×Nat}(h:C.Opened E v p R st js pre w1 js.length lv ov st0 sp W):
 0<js.length/\∃Cs pos0,C.Lay v p st js Cs/\C.Turn (EL E lv) v p st js Cs pre W 0 pos0 (fun _=>False) [] ov R st0 W/\Before Cs pos0:=by
 have hne:0<js.length:=by
  obtain⟨t,ht,hv⟩:=hC.ok.all v hvn;obtain⟨j,hj2⟩:=List.mem_iff_getElem?.1 ht;have:j∈js:=by rw [<-hj];exact uG.2 ⟨t,hj2,hv⟩
  exact List.length_pos_of_mem this
 have hdone:∀j∈js,∃t,C.M.Ts[j]?=some t/\v∈t.vs/\SpanOf t.W t.vs.length (eG t.vs v p) (sp j).1 (sp j).2/\(sp j).1< (sp j).2/\st0 j=st j++ [sp j]:=fun j hm=>by obtain⟨k,hk⟩:=List.mem_iff_getElem?.1 hm;obtain⟨t,h1,h2,h3,h4⟩:=h.done k j (List.getElem?_eq_some_iff.1 hk).1 hk;rw [<-hj]at hm;obtain⟨t',h5,h6⟩:=uG.1 hm;rw [h1]at h5;cases h5;exact⟨t,h1,h6,h2,h3,h4⟩
 obtain⟨Cs,eCs⟩:=nm (js.map (fun j=>(⟨bV (C.M.Ts.getD j noT).W (C.M.Ts.getD j noT).vs.length (eG (C.M.Ts.getD j noT).vs v p).length (C.M.Ts.getD j noT).W.length,(sp j).1,(sp j).2⟩:CurZ)));obtain⟨hok,hcom⟩:=aI7 hC.ok hvn hl (js:=js) (fun j hm=>by obtain⟨t,h1,h2,-⟩:=hdone j hm;exact⟨t,h1,h2⟩) (sp:=sp) eCs.symm (fun j hm=>by obtain⟨t,h1,h2,h3,-⟩:=hdone j hm;rw [bH h1];exact h3);have hget:∀k j:Nat,js[k]?=some j->∃t,C.M.Ts[j]?=some t/\v∈t.vs/\SpanOf t.W t.vs.length (eG t.vs v p) (sp j).1 (sp j).2/\(sp j).1< (sp j).2/\st0 j=st j++ [sp j]/\Cs[k]?=some ⟨bV t.W t.vs.length (eG t.vs v p).length t.W.length,(sp j).1,(sp j).2⟩:=fun k j hk=>by obtain⟨t,h1,h2,h3,h4,h5⟩:=hdone j (List.mem_of_getElem? hk);refine⟨t,h1,h2,h3,h4,h5,?_⟩;rw [<-eCs,List.getElem?_map,hk];simp only [Option.map_some,bH h1]
 have hlen:Cs.length=js.length:=by rw [<-eCs,List.length_map]
 have hpos:∀(k:Nat) (c:CurZ),Cs[k]?=some c->(Cs.getD k ⟨[],0,0⟩).lo=c.lo:=fun k c hc=>by rw [bH hc]
 refine⟨hne,Cs,fun k=>(Cs.getD k ⟨[],0,0⟩).lo,⟨?_,hlen,fun k j hk=>?_,hP,hl,fun j t hjt hv=>?_⟩,⟨LeapInv.start hok (by omega) hcom,h.at_,hrow,⟨fun k j c hk hc=>?_,fun j hm=>h.rest j (by rw [List.take_length];exact hm)⟩,by rw [List.append_nil];exact h.held,h.fit,Kp.refl _⟩,fun k c hc=>?_⟩
 ·rw [<-hj];exact aAa _ _
 ·obtain⟨t,h1,h2,h3,h4,h5,h6⟩:=hget k j hk;exact⟨t,_,_,h1,h2,h3,h6⟩
 ·rw [<-hj];exact uG.2 ⟨t,hjt,hv⟩
 ·obtain⟨t,h1,h2,h3,h4,h5,h6⟩:=hget k j hk;rw [h6]at hc;cases hc;show st0 j=st j++ [((Cs.getD k ⟨[],0,0⟩).lo,(sp j).2)];rw [hpos k _ h6];exact h5
 ·have hk:k<js.length:=by rw [<-hlen];exact(List.getElem?_eq_some_iff.1 hc).1
  obtain⟨t,h1,h2,h3,h4,h5,h6⟩:=hget k _ (qG hk);show(Cs.getD k ⟨[],0,0⟩).lo<c.hi;rw [hpos k c hc];rw [h6]at hc;cases hc;exact h4
end
theorem aDt{w:World}{v:Value}{n:Nat}{xs:List Value}{e:TypeId}{w0:World}(h:Row w e 1 v n xs (New w0)):∃ao cap,v= .slice ao n cap/\n≤cap/\((ao=none/\xs= [])\/∃g rest,ao=some ⟨g,0,none⟩/\Blk w g (xs++rest) e/\w0.heap.size≤g):=by
 obtain⟨h1,⟨h2,h3⟩|⟨g,cap,rest,e1,hM,hB,h3,h4,_⟩⟩:=h
 ·subst h3;exact⟨none,0,h2,Nat.le_refl _,.inl ⟨rfl,List.eq_nil_of_length_eq_zero (by simpa using h1)⟩⟩
 ·exact⟨_,cap,e1,h4,.inr ⟨g,rest,rfl,hB,hM⟩⟩
theorem aF4{w w':World}{xs:List Value}{e:TypeId}{ao:Option Addr}{m m':Nat}(h:(ao=none/\xs= [])\/∃g rest,ao=some ⟨g,0,none⟩/\Blk w g (xs++rest) e/\m≤g)(hk:Ext w w')(hm:m'≤m):(ao=none/\xs= [])\/∃g rest,ao=some ⟨g,0,none⟩/\Blk w' g (xs++rest) e/\m'≤g:=by
 rcases h with h|⟨g,rest,h1,h2,h3⟩
 ·exact .inl h
 ·exact .inr ⟨g,rest,h1,h2.ext hk,by omega⟩
set_option maxHeartbeats 4000000 in
theorem pQ{C:WCtx}(hC:C.Ok){l n:Nat}(hY:C.Yields l n){v:Nat}(hvn:v≤C.M.N.length)(hF:v<C.M.N.length->C.From (v+1)):C.From v:=by
 intro p E ov R st pre L W hl hat hrow hpath hseen hL hpre hheld hfit;have HPs:=qH (WCtx.passK hC hat hvn);have hb:=hat.wlk.box;obtain⟨wb,ewb⟩:=nm C.wb;obtain⟨nv,env⟩:=nm C.M.N.length;obtain⟨r,er⟩:=nm (((C.M.tests v).any fun t=>!t.ask R));rw [er,ewb]at HPs;rw [ewb];have HR:=qH er;have HA:=qH (nIX hat (nIX hheld hfit));have HL:=qH (nIX hL hpre);clear hb hat hheld hfit hL hpre er;go_enter Tryz.func123,Tryz.ntmps123;go_wp2_with fail
 refine HPs.out.mono ?_;rintro e w1 ⟨u,rfl,hk1,rfl⟩;have H1:=qH (nIX (HA.out.1.ext hk1) (nIX (HA.out.2.1.step (G:=fun _=>False) hk1 (fun _ h=>h.elim) (fun k h=> .inl h) (fun k h=> .inl h):Held C.J E (C.Own ov) pre w1) (nIX (HA.out.2.2.ext hk1) (Ext.kp (F:=C.QE E) hk1))));clear hk1;cases r
 ·rw [Bool.not_false];have hall:∀t∈C.M.tests v,t.ask R=true:=fun t ht=>by
   have:=List.any_eq_false.1 HR.out t ht;simpa using this
  have HAll:=qH hall;clear hall;have hb:=H1.out.1.wlk.box;obtain⟨h1,h2,h3,h4,h5,h6,h7,h8,h9,h10⟩:=hC.mat w1 H1.out.1.w0k;have b0:w1.cell? ⟨wb,0,none⟩=some (.pointer (some ⟨C.mb,0,none⟩)):=by rw [<-ewb,hb.cell'];rfl
  have b2:w1.cell? ⟨wb,2,none⟩=some (.slice (some ⟨C.rb,0,none⟩) nv nv):=by rw [<-ewb,hb.cell',env];rfl
  have b3:w1.cell? ⟨wb,3,none⟩=some (.func (.yield l) #[] #[]):=by rw [<-ewb,hb.cell',hY.yv];rfl
  have HM:=qH (nIX h5 (nIX h6 h10));rw [env]at h1 h3 hvn hF;clear h2 h4 h5 h6 h7 h8 h9 h10 hb;by_cases hvv:v=nv
  ·subst hvv;have hRv:R=p:=by rw [<-hrow,List.take_of_length_le (by have:=HA.out.1.wlk.rowL;omega)]
   have hfull:AllB (mG C.M) p [p]:=by have hs:=hseen;have hp:=hpath;rw [<-env]at hs hp;exact aKu hC.ok hs hp (by omega) fun t ht=>by rw [<-hRv];rw [env]at ht;exact HAll.out t ht
   have eL:L= [p]:=AllB.unique HL.out.1 hfull;obtain⟨R0,e0⟩:=HL.out.2;rw [eL]at e0;have HTell:=qH (aJ0 hC hY H1.out.1 H1.out.2.2.1 H1.out.2.1 H1.out.2.2.2 hrow hRv (R0:=R0) e0);rw [<-eL]at HTell;rw [env]at HTell;clear hfull e0 hpath hseen HL hF;have hrb:=H1.out.1.wlk.rowB;have hcells:CellsAt w1 (some ⟨C.rb,0,none⟩) (strs R):=by have h11:strs R++ []=strs R:=List.append_nil _;rw [<-h11]at hrb;exact CellsAt.pre hrb
   have hRl:=H1.out.1.wlk.rowL;rw [env]at hRl;have hfew:=HM.out.2.2.1;rw [env]at hfew;have HCl:=qH (jC (strs R) (some ⟨C.rb,0,none⟩) v w1.drew v (by rw [dR,hRl]) (hcells.ext (Kp.refl w1).drew) (gN R) (by omega));have HRl:=qH hRl;clear hcells hrb hRl;go_wp2;refine(wpIn_wide (n:=n+1)).1 ?_
   gi_region_with (first
    |(refine nIX trivial ?_;gi_at_call 101;refine(callsIn_wide.2 HCl.out).mono ?_;rintro e w2 ⟨v2,rfl,hk2,hr2⟩;obtain⟨ao2,cap2,e2,hn2,hB2⟩:=aDt hr2;subst e2;have HC2:=qH (nIX hk2 hB2);have b3:=(show w2.cell? ⟨wb,3,none⟩=_ from hk2.cell b3 id);have HCp:=qH (zY ao2 v cap2 w2 hn2);clear hk2 hr2 hB2)
    |(refine nIX trivial ?_;gi_at_call 76;refine(callsIn_wide.2 HCp.out).mono ?_;rintro e w3 ⟨v3,rfl,hk3,rfl⟩;have b3:=(show w3.cell? ⟨wb,3,none⟩=_ from hk3.cell b3 id);obtain⟨fn,tmps,assign,body,hy,hRd⟩:=HTell.out ao2 w3 ((Kp.refl w1).drew.trans (HC2.out.1.trans hk3)) (aF4 HC2.out.2 hk3 (Nat.le_refl _));clear hk3)
    |(refine hRd.mono ?_;rintro e w4 ⟨bb,rfl,hpost⟩;have HPost:=qH hpost;clear hpost hy))
   all_goals
    go_wp2;go_ret;exact HPost.out
  ·have hvlt:v<nv:=by omega
   obtain⟨ab,ao,eaa,c6,hia⟩:=HM.out.2.1 v (by rw [env];exact hvlt);rw [eaa]at h3;obtain⟨js,ejs⟩:=nm (atL C.M.Ts v);rw [ejs]at c6 hia;obtain⟨n2,en2⟩:=nm js.length;rw [en2]at c6;have hJ:=qH (nIX ejs (nIX en2 hia));have hsm:n2≤1048576:=by have h20:(atL C.M.Ts v).length≤C.M.Ts.length:=Nat.le_trans (List.length_filter_le _ _) (by rw [List.length_range];exact Nat.le_refl _);have h21:=HM.out.2.2.2.1;rw [ejs,en2]at h20;omega
   clear ejs en2 hia;have hne:((v:Int)==(nv:Int))=false:=by
    have:¬(v:Int)=nv:=by omega
    simp [this]
   go_wp2;go_loopw [5,47] (fun lv iv wr=>OpenR C E v p R st js pre w1 lv iv wr) (fun _ iv _=>n2- (intOf iv).toNat)
   case atStart=>
    refine⟨0,ov,st,fun _=>(0,0),Nat.zero_le _,rfl,qH ⟨Row.nil _ _ _ _,H1.out.1,H1.out.2.1.step (G:=fun _=>False) (Kp.refl _) (fun _ h=>h.elim) (fun k h=> .inl h) (fun k h=> .inl ?_),⟨fun k hk=>?_,fun k hk he=>?_,fun k hk=>?_⟩,Kp.refl _,fun k j hk=>by omega,fun j _=>rfl⟩⟩
    ·exact h.resolve_right (by simp [Value.ownBlock])
    ·exact H1.out.2.2.1.lt k (hk.resolve_right (by simp [Value.ownBlock]))
    ·exact H1.out.2.2.1.off k hk (he.resolve_right (by simp [Value.ownBlock]))
    ·exact H1.out.2.2.1.lo k (hk.resolve_right (by simp [Value.ownBlock]))
   case round=>
    obtain⟨m,ov2,st2,sp,hmn,rfl,HO⟩:=hrel;rw [hJ.out.2.1]at hmn;obtain⟨la,lcap,elv,hlc,hlcap⟩:=HO.out.row.shape;subst elv;by_cases hlt:m<n2
    ·obtain⟨j,hj⟩:∃j,js[m]?=some j:=⟨_,qG (by rw [hJ.out.2.1];exact hlt)⟩;have hm0:j∈atL C.M.Ts v:=by rw [hJ.out.1];exact List.mem_of_getElem? hj
     obtain⟨t,ht,hvt⟩:=uG.1 hm0;have hjT:=(List.getElem?_eq_some_iff.1 ht).1;have hnd:js.Nodup:=by rw [<-hJ.out.1];exact aAa _ _
     have HOp:=qH (HO.out.open hC hnd hl hpath hj ht hvt);have hmat:=hC.mat wr HO.out.at_.w0k;obtain⟨_,_,_,_,hia2⟩:=hmat.ats v (by rw [env];exact hvlt);rw [hJ.out.1]at hia2;obtain⟨ib,io,eia,i0⟩:=hia2 m (.int .i64 j) (by unfold ints;rw [List.map_map,List.getElem?_map,hj];rfl);rw [eia];obtain⟨ca,cc,ecv,-⟩:=HO.out.at_.wlk.ptr;obtain⟨cb,co,eca,p0⟩:=HO.out.at_.ptrAt ecv hjT;have hb2:=HO.out.at_.wlk.box;have b1:wr.cell? ⟨wb,1,none⟩=some (.slice (some ⟨cb,co,none⟩) C.M.Ts.length cc):=by rw [<-ewb,hb2.cell',ecv,eca];rfl
     obtain⟨nT,enT⟩:=nm C.M.Ts.length;have HX:=qH (nIX hj (nIX hjT (nIX ecv eca)));rw [enT]at b1 hjT;clear hj hm0 ht hvt hnd hmat hia2 hb2 hlc eia ecv eca;go_wp2_with fail
     refine HOp.out.mono ?_;rintro e w3 ⟨b,ov3,st3,sp3,rfl,q1,q2,q3,q4,q5,q6,q7,q8⟩;obtain⟨cb',co',eca,p3⟩:=q3.ptrAt HX.out.2.2.1 HX.out.2.1;rw [HX.out.2.2.2]at eca;cases eca;have hb2:=q3.wlk.box;have b3:w3.cell? ⟨wb,1,none⟩=some (.slice (some ⟨cb,co,none⟩) nT cc):=by rw [<-ewb,hb2.cell',HX.out.2.2.1,HX.out.2.2.2,enT];rfl
     have HQ:=qH (nIX q2 (nIX q3 (nIX q4 (nIX q5 (nIX q6 (nIX q7 q8))))));clear q1 q2 q3 q4 q5 q6 q7 q8 hb2 i0 p0 b1;go_wp2_with (first|(at_builtin;refine Halted.out ?_))
     refine Halted.mk (iH zT rfl _ _ rfl rfl (HQ.out.1.alloc _) rfl (CellsAt.one w3 _ _) rfl (by simp;rfl) (by omega) (by unfold maxLen;omega) ?_);intro lv4 w4 hr4 hk4;obtain⟨la4,lcap4,elv4,_,_⟩:=hr4.shape;subst elv4;obtain⟨a1,a2,a3,a4,a5,a6,a7⟩:=HQ.out;have HP:=qH (WCtx.Opened.push hC HX.out.1 a1 a2 a3 a4 a5 a6 a7 (hr4.mono fun g hg=>by rcases hg with hg|hg;exact .inl hg;exact .inr (by rw [aI]at hg;omega)) (((Kp.refl w3).alloc _).trans hk4) (fun k hk=>Nat.lt_of_lt_of_le (H1.out.2.2.1.lt k hk) (Nat.le_refl _)));clear hr4 hk4 a1 a2 a3 a4 a5 a6 a7 p3 b3;go_wp2;go_roundw
     case rel=>exact⟨m+1,ov3,st3,sp3,by rw [hJ.out.2.1];omega,nMX,HP⟩
     case measure=>simp [intOf];omega
    ·obtain rfl:m=n2:=by omega
     generalize hw4:wr=w4 at*;clear hw4;have HO2:=HO.out;rw [<-hJ.out.2.1]at HO2;obtain⟨hpos,Cs,pos0,hLay,hTurn,hBef⟩:=HO2.start hC hl (by rw [env];exact hvlt) hpath hrow hJ.out.1;rw [hJ.out.2.1]at hpos;have hrow2:=HO.out.row;obtain⟨gl,cl,el,hMl⟩:=oG hrow2 hpos;simp only [Value.slice.injEq]at el;obtain⟨rfl,-,rfl⟩:=el;have hseen2:∀key,Seen C.M (v+1) (p++ [key]):=fun key=>hseen.next hC.ok (by rw [env];omega) HA.out.1.wlk.rowL hrow HAll.out (by rw [<-hl];exact List.take_left)
     have hcl:∀W',Kp (C.QE (EL E (.slice (some ⟨gl,0,none⟩) js.length lcap))) w4 W'->∀k j:Nat,js[k]?=some j->W'.cell? ⟨gl,0+k,none⟩=some (.pointer (some ⟨C.cb j,0,none⟩)):=fun W' hW k j hk=>by
      have hc:=hlc.kp hW fun a ha hf=>by cases ha;exact hf.2 (.inr rfl)
      have hkm:k<m:=by rw [<-hJ.out.2.1];exact(List.getElem?_eq_some_iff.1 hk).1
      obtain⟨b,o,e,c⟩:=hc k (.pointer (some ⟨C.cb j,0,none⟩)) (by unfold sN;rw [List.getElem?_map,List.getElem?_take_of_lt hkm,hk];rfl);cases e;exact c
     have HLp:=qH (aKn (lc:=lcap) hC (by rw [env];exact hvlt) (hF hvlt) hLay (by rw [hJ.out.2.1];exact hpos) (by rw [hJ.out.2.1];exact hsm) hTurn hBef hseen2 HL.out.1 HL.out.2 hcl);rw [ewb,hJ.out.2.1]at HLp;have HCl:=qH hcl;have HLay:=qH hLay;have HFit:=qH HO2.fit.lt;have HKw:=qH HO.out.kp;clear HO2 hLay hTurn hBef hrow2 hseen2 hcl hlc hlt hmn;go_wp2_with fail
     refine HLp.out.mono ?_;rintro e w5 ⟨b,ov5,R5,st5,pos5,rfl,hk5,hat5,hrow5,hoff5,hst5,hends5⟩;obtain⟨EE,eEE⟩:=nm (EL E (.slice (some ⟨gl,0,none⟩) m lcap));rw [eEE]at hk5 hoff5 hends5;have HSh:=qH (show C.Shut EE v p st js pre L b w5 0 ov5 R5 st5 w5 from⟨hat5,hoff5,Kp.refl _,hends5,fun k j _ hk=>by obtain⟨t,a,c,h1,h2,h3,h4⟩:=HLay.out.cur k j hk;exact⟨_,hst5.1 k j _ hk h4⟩,fun j hm=>hst5.2 j (by rw [List.drop_zero]at hm;exact hm)⟩);have H5:=qH (nIX hk5 hrow5);have HEE:=qH eEE;clear hk5 hat5 hrow5 hoff5 hst5 hends5 eEE;go_wp2;go_loopw [76] (fun iv wr=>ShutR C EE v p st js pre L b w5 R5 iv wr) (fun iv _=>m- (intOf iv).toNat)
     case atStart=>exact⟨0,ov5,st5,Nat.zero_le _,rfl,HSh⟩
     case round=>
      obtain⟨m2,ov6,st6,hmn2,rfl,HS6⟩:=hrel;rw [hJ.out.2.1]at hmn2;by_cases hlt2:m2<m
      ·obtain⟨j,hj⟩:∃j,js[m2]?=some j:=⟨_,qG (by rw [hJ.out.2.1];exact hlt2)⟩;obtain⟨t,-,-,ht,-⟩:=HLay.out.cur m2 j hj;have hkw:Kp (C.QE EE) w4 wr:=H5.out.1.trans HS6.out.kp;have c0:=HCl.out wr (by rw [hJ.out.2.1,HEE.out];exact hkw) m2 j hj;rw [Nat.zero_add]at c0;have HUp:=qH (HS6.out.up hC HLay.out.nd (fun k hk=>by
        have h8:=HFit.out k (by rw [hJ.out.2.1,HEE.out];exact hk);have h9:=hkw.size;omega) hj ht)
       clear hj ht hkw;go_wp2_with fail
       refine HUp.out.mono ?_;rintro e w7 ⟨c,ov7,st7,rfl,hz7,hs7⟩;have HS7:=qH hs7;clear hz7 hs7 c0;go_wp2;go_roundw
       case rel=>exact⟨m2+1,ov7,st7,by rw [hJ.out.2.1];omega,nMX,HS7⟩
       case measure=>simp [intOf];omega
      ·obtain rfl:m2=m:=by omega
       have est:st6=st:=by
        funext j
        refine HS6.out.rest j ?_;rw [List.drop_of_length_le (by rw [hJ.out.2.1];exact Nat.le_refl _)];simp
       have sub:∀k,E k->EE k:=fun k hk=>by rw [<-HEE.out];exact .inl hk
       have hQ:∀k,C.QE EE k->C.QE E k:=fun k hk=>⟨hk.1,fun he=>hk.2 (sub k he)⟩;have hFin:=qH (show C.Post E v p st pre L W (.returned (.bool b)) wr from⟨b,ov6,R5,rfl,((H1.out.2.2.2.trans HKw.out).trans' H5.out.1 fun k _ h=>hQ k h).trans' HS6.out.kp fun k _ h=>hQ k h,by rw [<-est];exact HS6.out.at_,H5.out.2,fun k hk he=>HS6.out.off k hk (sub k he),HS6.out.ends.step (G:=fun _=>False) (Kp.refl _) (fun _ h=>h.elim) (fun k h=> .inl h) (fun k h=> .inl (sub k h))⟩);clear est hQ sub hlt2 hmn2;go_wp2;go_ret;exact hFin.out
 ·rw [Bool.not_true];obtain⟨t,ht,h2⟩:=List.any_eq_true.1 HR.out;have h3:t.ask R=false:=by simpa using h2
  have he:=AllB.unique HL.out.1 (aMx hC.ok hvn HA.out.1.wlk.rowL hrow ht h3 hl);clear ht h2 h3;go_wp2;go_ret;exact⟨true,ov,R,rfl,H1.out.2.2.2,H1.out.1,hrow,H1.out.2.2.1.off,.inl ⟨rfl,[],by rw [he];rfl,by rw [List.append_nil];exact H1.out.2.1⟩⟩
def ofV:Option ByteArray->Value
 |some y=> .tuple #[.string y,.bool true]
 |none=> .tuple #[.string ⟨#[]⟩,.bool false]
def OfTo(w0:World)(N:List ByteArray)(s:ByteArray)(n:Nat)(iv:Value)(w:World):Prop:=∃i:Nat,i≤n/\iv= .int .i64 i/\Hid (∀x∈N.take i,x≠s)/\Hid (Ext w0 w)
set_option maxHeartbeats 1000000 in
theorem zO(e:bR)(s:ByteArray)(na va:Option Addr)(n nc vc:Nat)(w:World)(he:EnvOk e)(hn:n=e.1.length)(h1:CellsAt w na (strs e.1))(h2:CellsAt w va (strs e.2))(hl:n≤1048576):
 Calls Tryz.prog 111 #[.agg #[.slice na n nc,.slice va n vc],.string s] w (RetN w fun w' v=>v=ofV (ofE e s)):=by
 have HN:=qH (nIX he (nIX hn (nIX h1 h2)));clear he hn h1 h2;go_enter Tryz.func111,Tryz.ntmps111;obtain⟨w1,e1⟩:=nm (w.alloc (.cells #[.slice na n nc,.slice va n vc] 111));obtain⟨g0,eg0⟩:=nm w.heap.size;have hB:=bNX eg0 e1;have hx1:Ext w w1:=xAX e1;have H1:=qH (nIX hx1 hB);clear hx1 hB;go_wp2;clear e1 eg0;go_loopw [6] (fun iv wr=>OfTo w1 e.1 s n iv wr) (fun iv _=>n- (intOf iv).toNat)
 case atStart=>exact⟨0,Nat.zero_le _,rfl,qH (by simp),qH (Kp.refl _)⟩
 case round=>
  obtain⟨i,hi,rfl,hno,hex⟩:=hrel;have hb2:=H1.out.2.ext hex.out;have c0:=hb2.c0;have c1:=hb2.c1;clear hb2;by_cases hlt:i<n
  ·obtain⟨x,hx⟩:∃x,e.1[i]?=some x:=⟨_,qG (by have:=HN.out.2.1;omega)⟩;obtain⟨nb,no,ena,n0⟩:=HN.out.2.2.1 i (.string x) (by simp [strs,hx]);subst ena;replace n0:=hex.out.cell (H1.out.1.cell n0 id) id;have HX:=qH hx;clear hx;by_cases hs:x=s
   ·subst hs;have hq:=uD x;obtain⟨y,hy⟩:∃y,e.2[i]?=some y:=⟨_,qG (by have:=HN.out.2.1;have:=HN.out.1.len;omega)⟩;obtain⟨vb,vo,eva,v0⟩:=HN.out.2.2.2 i (.string y) (by simp [strs,hy]);subst eva;replace v0:=hex.out.cell (H1.out.1.cell v0 id) id;have HF:=qH (show ofE e x=some y from(vN HN.out.1).2 ⟨i,HX.out,hy⟩);clear hy;go_wp2;go_ret2;exact RetN.mk (H1.out.1.trans hex.out) (by rw [HF.out];rfl)
   ·have hq:=uC hs;have HS:=qH hs;clear hs;go_wp2;go_roundw
    case rel=>
     refine⟨i+1,by omega,nMX,qH fun z hz=>?_,hex⟩;rw [List.take_add_one,HX.out,List.mem_append]at hz;rcases hz with hz|hz
     ·exact hno.out z hz
     ·simp at hz;subst hz;exact HS.out
    case measure=>simp [intOf];omega
  ·have HF:=qH (show ofE e s=none from vO.2 fun hm=>hno.out s (by rw [List.take_of_length_le (by have:=HN.out.2.1;omega)];exact hm) rfl);go_wp2;go_ret2;exact RetN.mk (H1.out.1.trans hex.out) (by rw [HF.out];rfl)
end
section
open Go.RowKit Go.Shelf
attribute [local go_sem] Oper.semAt_some
theorem aI5{P:Program}{t e:TypeId}{k bytes:Nat}{z:Value}(E:cL P t e k bytes z){l:List Oper}{a:Act}{w:World}{Q:Exit->Act->World->Prop}{o:Oper}{K:Act->World->Prop}{El:Prop}(hgd:o.guard=none)(s x:Operand)
 (ho:o.op= .call {callee:= .builtin .append,args:=#[s,x],argTypes:=#[t,t]})
 {v:Value}{n:Nat}{xs:List Value}{M:Nat->Prop}(hs:a.eval s=v)(hr:Row w e k v n xs M)
 {ao:Option Addr}{m c:Nat}{news:List Value}(hx:a.eval x= .slice ao m c)(hsrc:CellsAt w ao news)(hl:news.length=m*k)(h1:∀u∈news,u.oneCell'=true)
 (hb:(n+m)*bytes≤140737488355328)(h63:n+m≤maxLen)
 (h:∀v' w',Row w' e k v' (n+m) (xs++news) (fun g=>v.ownBlock=some g\/w.heap.size≤g)->Kp (fun g=>v.ownBlock=some g) w w'->K (a.put o.dst v') w'):
 if Region.wanted o (yielded l.toArray a.tmps)=true then Oper.wp P o a w K Q else El:=by
 obtain⟨v',w',hrun,h2,h3,h4⟩:=oE (P:=P) E o.type hr hl hsrc h1 hb h63 (c:=c);exact aDr hgd s x ho hs hx hrun (h v' w' h2 h3)
theorem wP{e:bR}{ts:List aE}{x:List ByteArray}{i:Nat}(h:bP e ts x i=none):∀d,bP e ts x (i+d)=none
 |0=>h
 |d+1=>by show bP e ts x (i+d+1)=none;unfold bP;rw [wP h d]
theorem aFq{e f:bR}{ts:List aE}{x:List ByteArray}{i:Nat}{t:aE}(h:bP e ts x i=some f)(ht:ts[i]?=some t):bP e ts x (i+1)=gU f t (bF x i):=by show(match bP e ts x i,ts[i]? with|some f,some t=>gU f t (bF x i)|_,_=>none)=_;rw [h,ht]
theorem aBd(a:List ByteArray)(t:aE):(bE a t).length≤a.length+1:=by
 unfold bE;split
 ·rw [List.length_append];exact Nat.le_refl _
 ·exact Nat.le_succ _
theorem nG:∀(ts:List aE) (a:List ByteArray),(bZ a ts).length≤a.length+ts.length
 | [],a=>Nat.le_refl _
 |t::ts,a=>by have h1:=nG ts (bE a t);have h2:=aBd a t;show(bZ (bE a t) ts).length≤_;rw [List.length_cons];omega
structure EnvAt(w0 W:World)(f:bR)(vn vv:Value):Prop where
 names:Row W 9 1 vn f.1.length (strs f.1) (New w0)
 vals:Row W 9 1 vv f.1.length (strs f.2) (New w0)
 apart:∀g,vn.ownBlock=some g->vv.ownBlock≠some g
theorem EnvAt.ext{w0 W W':World}{f:bR}{vn vv:Value}(h:EnvAt w0 W f vn vv)(hx:Ext W W'):EnvAt w0 W' f vn vv:=⟨h.names.ext hx,h.vals.ext hx,h.apart⟩
theorem mI:9≠111:=by decide
theorem EnvAt.kp{w0 W W':World}{f:bR}{vn vv:Value}{F:Nat->Prop}{gf:Nat}{cs:List Value}(h:EnvAt w0 W f vn vv)(hk:Kp F W W')(hF:∀k,F k->k=gf)(hb:Blk W gf cs 111):EnvAt w0 W' f vn vv:=
 ⟨h.names.kp' hk fun g hg _ e=>by
  obtain⟨cs',hb'⟩:=h.names.blkOf hg;rw [hF g e]at hb';exact mI (bX hb' hb),h.vals.kp' hk fun g hg _ e=>by
  obtain⟨cs',hb'⟩:=h.vals.blkOf hg;rw [hF g e]at hb';exact mI (bX hb' hb),h.apart⟩
def FitsS(w0 W:World)(g3 gf:Nat)(ev av:List Value)(f:bR)(vn vv:Value):Prop:=Ext w0 W/\Blk W g3 ev 111/\Blk W (g3+1) av 24/\Blk W (g3+1+1) [.slice none 0 0,.slice none 0 0] 111/\Blk W gf [vn,vv] 111/\EnvAt w0 W f vn vv
theorem FitsS.ext{w0 W W':World}{g3 gf:Nat}{ev av:List Value}{f:bR}{vn vv:Value}(h:FitsS w0 W g3 gf ev av f vn vv)(hx:Ext W W'):FitsS w0 W' g3 gf ev av f vn vv:=⟨h.1.trans hx,h.2.1.ext hx,h.2.2.1.ext hx,h.2.2.2.1.ext hx,h.2.2.2.2.1.ext hx,h.2.2.2.2.2.ext hx⟩
def aNh(w0:World)(e:bR)(ts:List aE)(x:List ByteArray)(g3 gf:Nat)(ev av:List Value)(n:Nat)(iv:Value)(W:World):Prop:=
 ∃i:Nat,i≤n/\iv= .int .i64 i/\∃f vn vv,Hid (bP e ts x i=some f)/\Hid (FitsS w0 W g3 gf ev av f vn vv)
def FitsV(w w':World)(e:bR)(ts:List aE)(x:List ByteArray)(ev v:Value):Prop:=match bP e ts x ts.length with
 |none=>v= .tuple #[ev,.bool false]
 |some f=>∃vn vv,v= .tuple #[.agg #[vn,vv],.bool true]/\EnvAt w w' f vn vv
theorem wN{w W:World}{g5:Nat}{tmps:Array Value}{b:Bool}{v0 v1:Value}{P:World->Value->Prop}(hB:Blk W g5 [.slice none 0 0,.slice none 0 0] 111)(hx:Ext w W)(hlo:w.heap.size≤g5)(t6:tmps.getD 6 undef= .pointer (some ⟨g5,0,none⟩))(t7:tmps.getD 7 undef= .bool b)
 (hP:∀X,Kp (fun k=>k=g5) W X->P X (.tuple #[.agg #[v0,v1],.bool b])):bodyPost Tryz.prog Tryz.f174 (RetN w P) .ret {tmps:=tmps,defers:= []} ((W.setCell ⟨g5,0,none⟩ v0).setCell ⟨g5,1,none⟩ v1):=by
 obtain⟨X,eX⟩:=nm ((W.setCell ⟨g5,0,none⟩ v0).setCell ⟨g5,1,none⟩ v1);have hBX:Blk X g5 [v0,v1] 111:=by rw [<-eX];exact(hB.set 0 _).set 1 _
 have kX:Kp (fun k=>k=g5) W X:=by rw [<-eX];exact kSb
 have d0:=hBX.c0;have d1:=hBX.c1;have t6':tmps[6]?.getD undef= .pointer (some ⟨g5,0,none⟩):=by simpa using t6
 have t7':tmps[7]?.getD undef= .bool b:=by simpa using t7
 rw [eX];refine bodyPost_ret (v:= .tuple #[.agg #[v0,v1],.bool b]) (by simp [results,Tryz.f174,go_sem,t6',t7',d0,d1]) rfl ?_;exact RetN.mk (hx.trans' kX fun i hi e=>by have e':i=g5:=e;omega) (hP X kX)
theorem aIw{w wb w11:World}{g3 gf xb:Nat}{xo:Nat}{ev av:List Value}{f:bR}{st y:ByteArray}{fl:Nat}{a9 ga a11:Option Addr}{c9 gc c11:Nat}
 (h:(Ext w wb/\Blk wb g3 ev 111/\Blk wb (g3+1) av 24/\Blk wb (g3+1+1) [.slice none 0 0,.slice none 0 0] 111)/\Blk wb gf [.slice a9 (fl+1) c9,.slice ga fl gc] 111/\Row wb 9 1 (.slice a9 (fl+1) c9) (fl+1) (strs (f.1++ [st])) (New w)/\Row wb 9 1 (.slice ga fl gc) fl (strs f.2) (New w)/\wb.cell? ⟨xb,xo,none⟩=some (.string y))
 (hap:∀g,(Value.slice a9 (fl+1) c9).ownBlock=some g->(Value.slice ga fl gc).ownBlock≠some g)(hxb:xb<w.heap.size)
 (hr:Row w11 9 1 (.slice a11 (fl+1) c11) (fl+1) (strs f.2++ [.string y]) (fun g=>(Value.slice ga fl gc).ownBlock=some g\/ (wb.drew.alloc (.cells #[.string y] 9)).heap.size≤g))(hk:Kp (fun g=>(Value.slice ga fl gc).ownBlock=some g) (wb.drew.alloc (.cells #[.string y] 9)) w11):
 (Ext w w11/\Blk w11 g3 ev 111/\Blk w11 (g3+1) av 24/\Blk w11 (g3+1+1) [.slice none 0 0,.slice none 0 0] 111)/\(∀g,(Value.slice a9 (fl+1) c9).ownBlock=some g->(Value.slice a11 (fl+1) c11).ownBlock≠some g)/\Blk w11 gf [.slice a9 (fl+1) c9,.slice ga fl gc] 111/\Row w11 9 1 (.slice a9 (fl+1) c9) (fl+1) (strs (f.1++ [st])) (New w)/\Row w11 9 1 (.slice a11 (fl+1) c11) (fl+1) (strs (f.2++ [y])) (New w)/\True/\w11.cell? ⟨xb,xo,none⟩=some (.string y):=by
 obtain⟨⟨hx,b3,b4,b5⟩,bf,hn,hv,hc⟩:=h;have xa:Ext wb (wb.drew.alloc (.cells #[.string y] 9)):=(Kp.refl wb).drew.alloc _;generalize wb.drew.alloc (.cells #[.string y] 9)=wa at hr hk xa;have hva:=hv.ext xa;have hbl:∀{k cs},Blk wb k cs 111->Blk w11 k cs 111:=fun hb=>(hb.ext xa).kp hk fun e=>by obtain⟨cs',hb'⟩:=hva.blkOf e;exact mI (bX hb' (hb.ext xa))
 have hblA:∀{k cs},Blk wb k cs 24->Blk w11 k cs 24:=fun hb=>(hb.ext xa).kp hk fun e=>by obtain⟨cs',hb'⟩:=hva.blkOf e;exact(by decide:9≠24) (bX hb' (hb.ext xa))
 refine⟨⟨(hx.trans xa).trans' hk fun i hi e=>?_,hbl b3,hblA b4,hbl b5⟩,fun g hg hg2=>?_,hbl bf,(hn.ext xa).kp' hk fun g hg _ e=>hap g hg e,?_,trivial,hk.cell (xa.cell hc id) fun e=>?_⟩
 ·have h1:w.heap.size≤i:=hva.block i e;omega
 ·rcases hr.block g hg2 with h|h
  ·exact hap g hg h
  ·have:=(hn.ext xa).ltB hg;omega
 ·have h:=hr.mono (M':=New w) fun g h=>by
   rcases h with h|h
   ·exact hva.block g h
   ·exact Nat.le_trans (hx.trans xa).size h
  unfold strs at h ⊢;rw [List.map_append];exact h
 ·have h1:w.heap.size≤xb:=hva.block _ e;omega
set_option maxHeartbeats 16000000 in
theorem aDe(e:bR)(p:ByteArray)(ts:List aE)(x:List ByteArray)(na va ao ra:Option Addr)(m nc vc n cap rn rc:Nat)(w:World)(G:Nat->Prop)(he:EnvOk e)(hm:m=e.1.length)(h1:CellsAt w na (strs e.1))(h2:CellsAt w va (strs e.2))(hn:n=ts.length)(h:aR w G ao ts)(hr:rn=x.length)(hx:CellsAt w ra (strs x))(hle:n≤rn)(hl:m+n≤1048576)(hrl:rn≤1048576):
 Calls Tryz.prog 174 #[.agg #[.slice na m nc,.slice va m vc],.agg #[.string p,.slice ao n cap],.slice ra rn rc] w (RetN w fun w' v=>FitsV w w' e ts x (.agg #[.slice na m nc,.slice va m vc]) v):=by
 have hml:e.2.length=m:=by rw [hm];exact he.len
 have HN:=qH (nIX hn (nIX hm (nIX hr (nIX he hml))));have HC:=qH (nIX h1 (nIX h2 (nIX h hx)));obtain⟨g3,eg3⟩:=nm w.heap.size;obtain⟨w1,e1⟩:=nm ((((w.alloc (.cells #[.slice na m nc,.slice va m vc] 111)).alloc (.cells #[.string p,.slice ao n cap] 24)).alloc (.cells #[.slice none 0 0,.slice none 0 0] 111)).alloc (.cells #[.slice none 0 0,.slice none 0 0] 111));have hB3:Blk w1 g3 [.slice na m nc,.slice va m vc] 111:=by rw [<-e1,<-eg3];exact(((Blk.new w _ _).alloc _).alloc _).alloc _
 have hB4:Blk w1 (g3+1) [.string p,.slice ao n cap] 24:=by have h:=Blk.new (w.alloc (.cells #[.slice na m nc,.slice va m vc] 111)) [.string p,.slice ao n cap] 24;rw [aI,eg3]at h;rw [<-e1];exact(h.alloc _).alloc _
 have hB5:Blk w1 (g3+1+1) [.slice none 0 0,.slice none 0 0] 111:=by have h:=Blk.new ((w.alloc (.cells #[.slice na m nc,.slice va m vc] 111)).alloc (.cells #[.string p,.slice ao n cap] 24)) [.slice none 0 0,.slice none 0 0] 111;rw [aI,aI,eg3]at h;rw [<-e1];exact h.alloc _
 have hB6:Blk w1 (g3+1+1+1) [.slice none 0 0,.slice none 0 0] 111:=by have h:=Blk.new (((w.alloc (.cells #[.slice na m nc,.slice va m vc] 111)).alloc (.cells #[.string p,.slice ao n cap] 24)).alloc (.cells #[.slice none 0 0,.slice none 0 0] 111)) [.slice none 0 0,.slice none 0 0] 111;rw [aI,aI,aI,eg3]at h;rw [<-e1];exact h
 have hx1:Ext w w1:=by rw [<-e1];exact((((Kp.refl w).alloc _).alloc _).alloc _).alloc _
 obtain⟨gf,egf⟩:=nm (g3+1+1+1);rw [egf]at hB6;have H1:=qH (nIX hx1 (nIX hB3 (nIX hB4 (nIX hB5 (nIX hB6 egf)))));have a0:=hB3.c0;have f0:=hB6.c0;clear hx1 hB3 hB4 hB5 hB6 h1 h2 h hx hn hm hr he hml;have HG:=qH eg3;go_enter Tryz.func174,Tryz.ntmps174;go_wp2_with (first|(at_builtin;refine Halted.out ?_))
 clear e1 eg3 a0;refine Halted.mk (iH (n:=0) (m:=m) fF rfl _ _ rfl rfl (Row.nil w1 9 1 (New w)) rfl (HC.out.1.ext H1.out.1) (by rw [dR,Nat.mul_one];exact HN.out.2.1.symm) (fun u hu=>by obtain⟨s,_,rfl⟩:=List.mem_map.1 hu;rfl) (by omega) (by unfold maxLen;omega) ?_);intro v2 w2 hr2 hk2;rw [Nat.zero_add,List.nil_append]at hr2;have x2:Ext w1 w2:=hk2.mono fun k _ h=>by cases h
 obtain⟨a2,c2,ev2,_,_⟩:=hr2.shape;subst ev2;have hb2:=H1.out.2.2.2.2.1.ext x2;obtain⟨w3,e3⟩:=nm (w2.setCell ⟨gf,0,none⟩ (.slice a2 m c2));have k3:Kp (fun k=>k=gf) w2 w3:=by rw [<-e3];exact kSa
 have hb3:Blk w3 gf [.slice a2 m c2,.slice none 0 0] 111:=by rw [<-e3];exact hb2.set 0 _
 have x2w:=H1.out.1.trans x2;have x3:Ext w w3:=x2w.trans' k3 fun i hi e=>by have e':i=gf:=e;have:=H1.out.2.2.2.2.2;have:=HG.out;omega
 have n3:g3≠gf/\g3+1≠gf/\g3+1+1≠gf:=by have:=H1.out.2.2.2.2.2;omega
 have hr3:Row w3 9 1 (.slice a2 m c2) m (strs e.1) (fun g=>w1.heap.size≤g/\g<w2.heap.size):=by
  have h:=hr2.mono (M':=fun g=>w1.heap.size≤g) fun g h=>by
   rcases h with h|h
   ·cases h
   ·exact h
  have h4:Row w2 9 1 (.slice a2 m c2) m (strs e.1) (fun g=>w1.heap.size≤g/\g<w2.heap.size):=by refine(Row.own h).mono fun g hg=>⟨h.block g hg,hr2.ltB hg⟩
  exact h4.kp' k3 fun g hg _ e=>by obtain⟨cs',hb'⟩:=hr2.blkOf hg;have e':g=gf:=e;rw [e']at hb';exact mI (bX hb' hb2)
 have H3:=qH (show Ext w w3/\(Blk w3 g3 [.slice na m nc,.slice va m vc] 111/\Blk w3 (g3+1) [.string p,.slice ao n cap] 24/\Blk w3 (g3+1+1) [.slice none 0 0,.slice none 0 0] 111)/\Blk w3 gf [.slice a2 m c2,.slice none 0 0] 111/\Row w3 9 1 (.slice a2 m c2) m (strs e.1) (fun g=>w1.heap.size≤g/\g<w2.heap.size)/\w2.heap.size≤w3.heap.size/\(g3≠gf/\g3+1≠gf/\g3+1+1≠gf)from
  ⟨x3,⟨(H1.out.2.1.ext x2).kp k3 n3.1,(H1.out.2.2.1.ext x2).kp k3 n3.2.1,(H1.out.2.2.2.1.ext x2).kp k3 n3.2.2⟩,hb3,hr3,k3.size,n3⟩)
 have y0:=hb2.c0;have y1:=hb2.free 0;have a1:=H3.out.2.1.1.c1;have f1:=hb3.c1;clear hr2 hk2 x2 hb2 k3 hb3 x2w x3 n3 hr3 f0;go_wp2_with (first|(at_builtin;refine Halted.out ?_))
 clear e3 y0 y1 a1 f1;refine Halted.mk (iH (n:=0) (m:=m) fF rfl _ _ rfl rfl (Row.nil w3 9 1 (New w)) rfl (HC.out.2.1.ext H3.out.1) (by rw [dR,Nat.mul_one];exact HN.out.2.2.2.2) (fun u hu=>by obtain⟨s,_,rfl⟩:=List.mem_map.1 hu;rfl) (by omega) (by unfold maxLen;omega) ?_);intro v4 w4 hr4 hk4;rw [Nat.zero_add,List.nil_append]at hr4;have x4:Ext w3 w4:=hk4.mono fun k _ h=>by cases h
 obtain⟨a4,c4,ev4,_,_⟩:=hr4.shape;subst ev4;have hb4:=H3.out.2.2.1.ext x4;obtain⟨w5,e5⟩:=nm (w4.setCell ⟨gf,1,none⟩ (.slice a4 m c4));have k5:Kp (fun k=>k=gf) w4 w5:=by rw [<-e5];exact kSa
 have hb5:Blk w5 gf [.slice a2 m c2,.slice a4 m c4] 111:=by rw [<-e5];exact hb4.set 1 _
 have HE4:EnvAt w w4 e (.slice a2 m c2) (.slice a4 m c4):=by
  have hlo:∀{g:Nat},w1.heap.size≤g->w.heap.size≤g:=fun h=>Nat.le_trans H1.out.1.size h;have h2:=hr4.mono (M':=fun g=>w3.heap.size≤g) fun g h=>by
   rcases h with h|h
   ·cases h
   ·exact h
  have em:=HN.out.2.1;refine⟨?_,?_,fun g hg hg2=>?_⟩
  ·rw [<-em];exact(H3.out.2.2.2.1.ext x4).mono fun g h=>hlo h.1
  ·rw [<-em];exact h2.mono fun g h=>Nat.le_trans H3.out.1.size h
  ·have h3:=H3.out.2.2.2.1.block g hg;have h4:=h2.block g hg2;have:=H3.out.2.2.2.2.1;omega
 have H5:=qH (show Ext w w5/\(Blk w5 g3 [.slice na m nc,.slice va m vc] 111/\Blk w5 (g3+1) [.string p,.slice ao n cap] 24/\Blk w5 (g3+1+1) [.slice none 0 0,.slice none 0 0] 111)/\Blk w5 gf [.slice a2 m c2,.slice a4 m c4] 111/\EnvAt w w5 e (.slice a2 m c2) (.slice a4 m c4)from
  ⟨(H3.out.1.trans x4).trans' k5 fun i hi e=>by have e':i=gf:=e;have:=H1.out.2.2.2.2.2;have:=HG.out;omega,⟨(H3.out.2.1.1.ext x4).kp k5 H3.out.2.2.2.2.2.1,(H3.out.2.1.2.1.ext x4).kp k5 H3.out.2.2.2.2.2.2.1,(H3.out.2.1.2.2.ext x4).kp k5 H3.out.2.2.2.2.2.2.2⟩,hb5,HE4.kp k5 (fun _ h=>h) hb4⟩)
 have y0:=hb4.c1;have y1:=hb4.free 1;have HNe:=qH H3.out.2.2.2.2.2;clear hr4 hk4 x4 hb4 k5 hb5 HE4 H3;go_wp2;try rw [e5]
 clear e5 y0 y1;have HBad:=qH (show ∀(X:World) (i:Nat),i<n->bP e ts x (i+1)=none->FitsV w X e ts x (.agg #[.slice na m nc,.slice va m vc]) (.tuple #[.agg #[.slice na m nc,.slice va m vc],.bool false])from fun X i hi h=>by unfold FitsV;have h2:=wP h (ts.length- (i+1));rw [show i+1+(ts.length- (i+1))=ts.length by have:=HN.out.1;omega]at h2;rw [h2]);go_loopw [9] (fun iv wr=>aNh w e ts x g3 gf [.slice na m nc,.slice va m vc] [.string p,.slice ao n cap] n iv wr) (fun iv _=>n- (intOf iv).toNat)
 case atStart=>exact⟨0,Nat.zero_le _,rfl,e,_,_,qH rfl,qH ⟨H5.out.1,H5.out.2.1.1,H5.out.2.1.2.1,H5.out.2.1.2.2,H5.out.2.2.1,H5.out.2.2.2⟩⟩
 case round=>
  obtain⟨i,hi,rfl,f,vn,vv,hfi,hS⟩:=hrel;have hOk:=(iD HN.out.2.2.2.1 hfi.out);have hfl:f.1.length≤m+i:=by have h1:=hOk.2.2.1;rw [h1];have h2:=nG (ts.take i) e.1;rw [List.length_take]at h2;have:=HN.out.2.1;omega
  obtain⟨fl,efl⟩:=nm f.1.length;have hEn:=hS.out.2.2.2.2.2;obtain⟨fa,fc,evn,hcn,_⟩:=hEn.names.shape;obtain⟨ga,gc,evv,hcv,_⟩:=hEn.vals.shape;rw [efl]at evn evv hfl;subst evn evv;have HO:=qH (fun(W:World) (hW:Ext wr W) (s:ByteArray)=>zO f s fa ga fl fc gc W hOk.1 efl.symm (hcn.ext hW) (hcv.ext hW) (by omega));have HF:=qH (nIX hfi.out (nIX efl hOk));have b1:=hS.out.2.2.1.c1;have r0:=hS.out.2.2.2.1.c0;have r1:=hS.out.2.2.2.1.c1;by_cases hlt:i<n
  ·obtain⟨t,ht⟩:∃t,ts[i]?=some t:=⟨_,qG (by rw [<-HN.out.1];exact hlt)⟩;obtain⟨bt,offt,eao,t0,t1,_⟩:=dT (HC.out.2.2.1.ext hS.out.1) ht;subst eao;obtain⟨kt,st,⟨⟩⟩:=t;simp only at t0 t1;obtain⟨y,hy⟩:∃y,x[i]?=some y:=⟨_,qG (by have:=HN.out.2.2.1;omega)⟩;obtain⟨xb,xo,era,x0⟩:=HC.out.2.2.2 i (.string y) (by simp [strs,hy]);subst era;replace x0:=hS.out.1.cell x0 id;have HXy:=qH (show(strs x)[i]?=some (.string y)from by simp [strs,hy]);have hgy:bF x i=y:=by unfold bF;rw [List.getD_eq_getElem?_getD,hy];rfl
   have HT:=qH (show bP e ts x (i+1)=gU f (kt,st,()) y from by rw [<-hgy];exact aFq hfi.out ht);obtain⟨gt,egt⟩:=nm wr.heap.size;obtain⟨wt,ewt⟩:=nm (wr.alloc (.cells #[.int .i64 kt,.string st] 38));have hgt:=bNX egt ewt;have hxt:Ext wr wt:=xAX ewt;have u0:=hgt.c0;have u1:=hgt.c1;have x1:=hxt.cell x0 id;have HX:=qH (nIX hxt hgt);have a0:=(hS.out.2.1.ext hxt).c0;have a1:=(hS.out.2.1.ext hxt).c1;have q0:=hxt.cell r0 id;have q1:=hxt.cell r1 id;have i1:(i:Int)< (n:Int):=by omega
   have i2:(i:Int)< (rn:Int):=by omega
   have i3:i<rn:=by omega
   clear ht hy hgy hgt hxt hOk hEn hcn hcv;by_cases hk3:kt=3
   ·subst hk3;by_cases hsy:st=y
    ·subst hsy;have e1:=uD st;have HNx:=qH (show bP e ts x (i+1)=some f from by rw [HT.out];unfold gU;simp);go_wp2;go_quiet (fail)
     go_wp2;go_roundw
     case rel=>exact⟨i+1,by omega,nMX,f,_,_,qH HNx.out,qH (hS.out.ext (HX.out.1.drewN _))⟩
     case measure=>simp [intOf];omega
    ·have e1:=uC hsy;have HNo:=qH (show bP e ts x (i+1)=none from by rw [HT.out];unfold gU;rw [if_pos ⟨rfl,hsy⟩]);have HB5:=qH (hS.out.2.2.2.1.ext HX.out.1);have n5:=HNe.out.2.2;have p0:=HB5.out.free 0;have p1:=HB5.out.free 1;go_wp2;go_quiet (fail)
     go_wp2;exact wN (W:=wt.drewN nq) (HB5.out.ext ((Kp.refl wt).drewN nq)) ((hS.out.1.trans HX.out.1).drewN nq) (by have:=HG.out;omega) rfl rfl fun X _=>HBad.out X i hlt HNo.out
   ·by_cases hk1:kt=1
    ·subst hk1;have h1:((1:Int)==3)=false:=by decide
     have h2:((1:Int) !=1)=false:=by decide
     have g0:=(hS.out.2.2.2.2.1.ext HX.out.1).c0;have g1:=(hS.out.2.2.2.2.1.ext HX.out.1).c1;go_wp2;go_quiet (fail)
     go_wp2_with fail
     refine(HO.out (wt.drewN nq) (HX.out.1.drewN nq) st).mono ?_;rintro e8 w8 ⟨v8,rfl,hk8,rfl⟩;have xw8:Ext wt w8:=((Kp.refl wt).drewN nq).trans hk8;have HS8:=qH (hS.out.ext (HX.out.1.trans xw8));have HGt:=qH (HX.out.2.ext xw8);have x8:w8.cell? ⟨xb,xo+i,none⟩=some (.string y):=xw8.cell x1 id;clear g0 g1 u0 u1 x1 x0 t0 t1 q0 q1 a0 a1 hk8 xw8;cases ho:ofE f st with
     |some z=>
      unfold ofV;by_cases hzy:z=y
      ·subst hzy;have e1:=uD z;have HNx:=qH (show bP e ts x (i+1)=some f from by
        rw [HT.out];unfold gU;rw [if_neg (fun h=>hk3 h.1),if_neg (fun h=>h rfl)];show(match ofE f st with|some s=>if s=z then some f else none|none=>_)=_;rw [ho];exact if_pos rfl)
       clear ho;go_wp2;go_roundw
       case rel=>exact⟨i+1,by omega,nMX,f,_,_,qH HNx.out,qH HS8.out⟩
       case measure=>simp [intOf];omega
      ·have e1:=uC hzy;have HNo:=qH (show bP e ts x (i+1)=none from by
        rw [HT.out];unfold gU;rw [if_neg (fun h=>hk3 h.1),if_neg (fun h=>h rfl)];show(match ofE f st with|some s=>if s=y then some f else none|none=>_)=_;rw [ho];exact if_neg hzy)
       have p0:=HS8.out.2.2.2.1.free 0;have p1:=HS8.out.2.2.2.1.free 1;have a0:=HS8.out.2.1.c0;have a1:=HS8.out.2.1.c1;have q0:=HS8.out.2.2.2.1.c0;have q1:=HS8.out.2.2.2.1.c1;have n5:=HNe.out.2.2;clear ho;go_wp2;exact wN HS8.out.2.2.2.1 HS8.out.1 (by have:=HG.out;omega) rfl rfl fun X _=>HBad.out X i hlt HNo.out
     |none=>
      unfold ofV;have HNx:=qH (show bP e ts x (i+1)=some (f.1++ [st],f.2++ [y])from by rw [HT.out];unfold gU;rw [if_neg (fun h=>hk3 h.1),if_neg (fun h=>h rfl)];show(match ofE f st with|some s=>if s=y then some f else none|none=>some (f.1++ [st],f.2++ [y]))=_;rw [ho]);have g0:=HS8.out.2.2.2.2.1.c0;have u1:=HGt.out.c1;have HXb:=qH (show xb<w.heap.size from by obtain⟨b',o',e',hc'⟩:=HC.out.2.2.2 i (.string y) (HXy.out);cases e';exact World.block_lt_of_cell? _ _ hc');clear ho;go_wp2_with (first|(at_builtin;refine Halted.out ?_))
      refine Halted.mk (iH (n:=fl) (m:=1) fF rfl _ _ rfl rfl (by have h:=HS8.out.2.2.2.2.2.names;rw [HF.out.2.1]at h;exact h.alloc _) rfl (CellsAt.one w8 (.string st) 9) (by rfl) (by simp;rfl) (by omega) (by unfold maxLen;omega) ?_);intro v9 w9 hr9 hk9;obtain⟨wa,ewa⟩:=nm (w8.alloc (.cells #[.string st] 9));rw [ewa]at hr9 hk9;have xa:Ext w8 wa:=xAX ewa;obtain⟨a9,c9,ev9,_,_⟩:=hr9.shape;subst ev9;have hna:=HS8.out.2.2.2.2.2.names.ext xa;have hva:=HS8.out.2.2.2.2.2.vals.ext xa;have hap:=HS8.out.2.2.2.2.2.apart;have hbl:∀{k cs},Blk w8 k cs 111->Blk w9 k cs 111:=fun hb=>(hb.ext xa).kp hk9 fun e=>by obtain⟨cs',hb'⟩:=hna.blkOf e;exact mI (bX hb' (hb.ext xa))
      have hblA:∀{k cs},Blk w8 k cs 24->Blk w9 k cs 24:=fun hb=>(hb.ext xa).kp hk9 fun e=>by obtain⟨cs',hb'⟩:=hna.blkOf e;exact(by decide:9≠24) (bX hb' (hb.ext xa))
      have xw9:Ext w w9:=(HS8.out.1.trans xa).trans' hk9 fun i hi e=>by have h1:w.heap.size≤i:=hna.block i e;omega
      have hn9:Row w9 9 1 (.slice a9 (fl+1) c9) (fl+1) (strs (f.1++ [st])) (New w):=by
       have h:=hr9.mono (M':=New w) fun g h=>by
        rcases h with h|h
        ·exact hna.block g h
        ·exact Nat.le_trans (HS8.out.1.trans xa).size h
       unfold strs at h ⊢;rw [List.map_append];exact h
      have hv9:Row w9 9 1 (.slice ga fl gc) fl (strs f.2) (New w):=by have h:=hva.kp' hk9 fun g hg _ e=>hap g e hg;rw [HF.out.2.1]at h;exact h
      have hap9:∀g,(Value.slice a9 (fl+1) c9).ownBlock=some g->(Value.slice ga fl gc).ownBlock≠some g:=fun g hg hg2=>by
       rcases hr9.block g hg with h|h
       ·exact hap g h hg2
       ·have:=hva.ltB hg2;omega
      have x9:w9.cell? ⟨xb,xo+i,none⟩=some (.string y):=hk9.cell (xa.cell x8 id) fun e=>by have h1:w.heap.size≤xb:=hna.block _ e;have:=HXb.out;omega
      have hg9:=hbl HS8.out.2.2.2.2.1;obtain⟨wb,ewb⟩:=nm (w9.setCell ⟨gf,0,none⟩ (.slice a9 (fl+1) c9));have kb:Kp (fun k=>k=gf) w9 wb:=by rw [<-ewb];exact kSa
      have hgf:w.heap.size≤gf:=by have:=HG.out;omega
      have noS:∀{v n xs M},Row w9 9 1 v n xs M->Row wb 9 1 v n xs M:=fun hr=>hr.kp' kb fun g hg _ e=>by obtain⟨cs',hb'⟩:=hr.blkOf hg;have e':g=gf:=e;rw [e']at hb';exact mI (bX hb' hg9)
      have H10:=qH (show(Ext w wb/\Blk wb g3 [.slice na m nc,.slice va m vc] 111/\Blk wb (g3+1) [.string p,.slice (some ⟨bt,offt,none⟩) n cap] 24/\Blk wb (g3+1+1) [.slice none 0 0,.slice none 0 0] 111)/\Blk wb gf [.slice a9 (fl+1) c9,.slice ga fl gc] 111/\Row wb 9 1 (.slice a9 (fl+1) c9) (fl+1) (strs (f.1++ [st])) (New w)/\Row wb 9 1 (.slice ga fl gc) fl (strs f.2) (New w)/\wb.cell? ⟨xb,xo+i,none⟩=some (.string y)from
       ⟨⟨xw9.trans' kb fun i hi e=>by have e':i=gf:=e;omega,(hbl HS8.out.2.1).kp kb HNe.out.1,(hblA HS8.out.2.2.1).kp kb HNe.out.2.1,(hbl HS8.out.2.2.2.1).kp kb HNe.out.2.2⟩,by rw [<-ewb];exact hg9.set 0 _,noS hn9,noS hv9,kb.cell x9 fun e=>by have e':xb=gf:=e;have:=HXb.out;omega⟩)
      have HAp:=qH (nIX hap9 hgf);have y0:=hg9.c0;have y1:=hg9.free 0;have y2:wb.cell? ⟨gt,1,none⟩=wb.cell? ⟨gt,1,none⟩:=rfl;clear ewa xa hna hva hap hbl hblA xw9 hn9 hv9 hap9 x9 hg9 kb noS hr9 hk9 g0 u1 x8 hgf y2;go_wp2;try rw [ewb]
      clear ewb y0 y1;have HJ:=qH (show ∀X,Ext wb X->(fun X:World=>X.cell? ⟨gf,1,none⟩=some (.slice ga fl gc)/\X.cell? ⟨xb,xo+i,none⟩=some (.string y)) X from fun X hX=>⟨by rw [(H10.out.2.1.ext hX).cell'];rfl,hX.cell H10.out.2.2.2.2 id⟩);refine aY (fun X:World=>X.cell? ⟨gf,1,none⟩=some (.slice ga fl gc)/\X.cell? ⟨xb,xo+i,none⟩=some (.string y)) [9] (by kernel_rfl) (HJ.out _ (Kp.refl wb).drew) (fun hHeld=>?_);refine eFX 0 ?_;refine eIX 1 ?_;refine eFX 2 ?_;refine eFX 3 ?_;refine eIX 4 ?_;refine eIX 5 ?_;refine eTX 6 fun K hK=>?_;go_simp;refine hK.out _ _ (HJ.out _ ((Kp.refl wb).drew.alloc _)) fun hHeld=>?_;clear hK K;refine eTX 7 fun K hK=>?_;refine aI5 (n:=fl) (m:=1) fF rfl _ _ rfl rfl (H10.out.2.2.2.1.ext ((Kp.refl wb).drew.alloc _)) rfl (CellsAt.one wb.drew (.string y) 9) (by rfl) (by simp;rfl) (by omega) (by unfold maxLen;omega) ?_;intro v11 w11 hr11 hk11;obtain⟨a11,c11,ev11,_,_⟩:=hr11.shape;subst ev11;have HA:=qH (aIw (H10.out) (HAp.out.1) HXb.out hr11 hk11);clear hr11 hk11;refine hK.out _ _ (by exact⟨by rw [HA.out.2.2.1.cell'];rfl,HA.out.2.2.2.2.2.2⟩) fun hHeld=>?_;clear hK K;refine eFX 8 ?_;refine eLX 9 fun K hK=>?_
      (have y0:w11.cell? ⟨gf,1,none⟩=some (.slice ga fl gc):=(by rw [HA.out.2.2.1.cell'];rfl);have y1:=HA.out.2.2.1.free 1)
      go_simp;refine hK.out _ _ ?_;clear hK K;refine aL (by kernel_rfl) ?_ _;obtain⟨wz,ewz⟩:=nm (w11.setCell ⟨gf,1,none⟩ (.slice a11 (fl+1) c11));rw [ewz];have kz:Kp (fun k=>k=gf) w11 wz:=by rw [<-ewz];exact kSa
      have hbz:Blk wz gf [.slice a9 (fl+1) c9,.slice a11 (fl+1) c11] 111:=by rw [<-ewz];exact HA.out.2.2.1.set 1 _
      have HZ:=qH (show FitsS w wz g3 gf [.slice na m nc,.slice va m vc] [.string p,.slice (some ⟨bt,offt,none⟩) n cap] (f.1++ [st],f.2++ [y]) (.slice a9 (fl+1) c9) (.slice a11 (fl+1) c11)from
       ⟨HA.out.1.1.trans' kz fun i hi e=>by have e':i=gf:=e;have:=HAp.out.2;omega,HA.out.1.2.1.kp kz HNe.out.1,HA.out.1.2.2.1.kp kz HNe.out.2.1,HA.out.1.2.2.2.kp kz HNe.out.2.2,hbz,EnvAt.kp (by
        have h:=HA.out.2.2.2;refine⟨?_,?_,HA.out.2.1⟩
        ·rw [List.length_append,HF.out.2.1];exact h.1
        ·rw [List.length_append,HF.out.2.1];exact h.2.1) kz (fun _ h=>h) HA.out.2.2.1⟩)
      clear ewz kz hbz y0 y1 HA HJ hHeld;go_wp2;go_roundw
      case rel=>exact⟨i+1,by omega,nMX,_,_,_,qH HNx.out,qH HZ.out⟩
      case measure=>simp [intOf];omega
    ·have h1:(kt==3)=false:=by simp [hk3]
     have h2:(kt !=1)=true:=by simp [hk1]
     have HNx:=qH (show bP e ts x (i+1)=some f from by rw [HT.out];unfold gU;rw [if_neg (fun h=>hk3 h.1),if_pos hk1]);go_wp2;go_quiet (fail)
     go_wp2;go_roundw
     case rel=>exact⟨i+1,by omega,nMX,f,_,_,qH HNx.out,qH (hS.out.ext (HX.out.1.drewN _))⟩
     case measure=>simp [intOf];omega
  ·obtain rfl:i=n:=by omega
   have HB5:=qH hS.out.2.2.2.1;have p0:=HB5.out.free 0;have p1:=HB5.out.free 1;have g0:=hS.out.2.2.2.2.1.c0;have g1:=hS.out.2.2.2.2.1.c1;have n5:=HNe.out.2.2;go_wp2;exact wN HB5.out hS.out.1 (by have:=HG.out;omega) rfl rfl fun X kX=>by unfold FitsV;rw [<-HN.out.1,hfi.out];exact⟨_,_,rfl,hS.out.2.2.2.2.2.kp kX (fun _ h=>h) HB5.out⟩
end
section
open Go.RowKit Go.Shelf
set_option maxHeartbeats 1000000 in
theorem aFs(e:bR)(k:Int)(s:ByteArray)(na va:Option Addr)(n nc vc:Nat)(w:World)(he:EnvOk e)(hn:n=e.1.length)(h1:CellsAt w na (strs e.1))(h2:CellsAt w va (strs e.2))(hl:n≤1048576):
 Calls Tryz.prog 74 #[.agg #[.slice na n nc,.slice va n vc],.agg #[.int .i64 k,.string s]] w (RetN w fun w' v=>v= .string (rC e (k,s,()))):=by
 have HO:=qH (fun(W:World) (hW:Ext w W)=>zO e s na va n nc vc W he hn (h1.ext hW) (h2.ext hW) hl);clear he hn h1 h2;go_enter Tryz.func74,Tryz.ntmps74;obtain⟨w1,e1⟩:=nm ((w.alloc (.cells #[.slice na n nc,.slice va n vc] 111)).alloc (.cells #[.int .i64 k,.string s] 38));obtain⟨g0,eg0⟩:=nm w.heap.size;have hB:Blk w1 g0 [.slice na n nc,.slice va n vc] 111:=by rw [<-e1,<-eg0];exact(Blk.new w _ _).alloc _
 have hB2:Blk w1 (g0+1) [.int .i64 k,.string s] 38:=by have h:=Blk.new (w.alloc (.cells #[.slice na n nc,.slice va n vc] 111)) [.int .i64 k,.string s] 38;rw [aI,eg0]at h;rw [<-e1];exact h
 have hx1:Ext w w1:=by rw [<-e1];exact((Kp.refl w).alloc _).alloc _
 have c0:=hB.c0;have c1:=hB.c1;have d0:=hB2.c0;have d1:=hB2.c1;have H1:=qH hx1;clear hx1 hB hB2;by_cases hk:k=3
 ·subst hk;go_wp2;go_ret;exact RetN.mk H1.out rfl
 ·have HK:=qH hk;go_wp2_with fail
  refine(HO.out w1 H1.out).mono ?_;rintro e' w2 ⟨v,rfl,hk2,rfl⟩;have H2:=qH (H1.out.trans hk2);clear hk2 c0 c1 d0 d1 hk;cases ho:ofE e s with
  |none=>
   have HF:=qH (show rC e (k,s,())=⟨#[]⟩from by unfold rC;rw [if_neg HK.out];show(ofE e s).getD _=_;rw [ho];rfl);clear ho;unfold ofV;go_wp2;go_ret;exact RetN.mk H2.out (by first|(rw [HF.out];done)|(rw [HF.out];rfl)|simp [HF.out])
  |some y=>
   have HF:=qH (show rC e (k,s,())=y from by unfold rC;rw [if_neg HK.out];show(ofE e s).getD _=_;rw [ho];rfl);clear ho;unfold ofV;go_wp2;go_ret;exact RetN.mk H2.out (by first|(rw [HF.out];done)|(rw [HF.out];rfl)|simp [HF.out])
end
end Go.Proofs.YtinnmeiphbdogaaGreat
