/- Texts joined for a claim (FactsRound, Facts, JGot, RefEnv, RefFits, RefVal, JoinSmall, JColl, JEach, JRefHead, JLent, RowSame, BaseAdd). -/
import Derived.Test.YtinnmeiphbdogaaGreatJf6
import Derived.Deep.QuietTactic
import Derived.Laws.Concat
set_option linter.unusedVariables false
set_option linter.unusedSimpArgs false
set_option maxRecDepth 100000
namespace Go.Proofs.YtinnmeiphbdogaaGreat
section
open Go.RowKit Go.Shelf
attribute [local go_sem] Oper.semAt_some
noncomputable def aBg:Code:=((Tryz.f49.body.bind cM).getD .skip)
theorem lit53(t:Array Value)(h:t.size=53):∃u:Nat->Value,(∀i,t.getD i undef=u i)/\t=#[u 0,u 1,u 2,u 3,u 4,u 5,u 6,u 7,u 8,u 9,u 10,u 11,u 12,u 13,u 14,u 15,u 16,u 17,u 18,u 19,u 20,u 21,u 22,u 23,u 24,u 25,u 26,u 27,u 28,u 29,u 30,u 31,u 32,u 33,u 34,u 35,u 36,u 37,u 38,u 39,u 40,u 41,u 42,u 43,u 44,u 45,u 46,u 47,u 48,u 49,u 50,u 51,u 52]:=by refine⟨fun i=>t.toList.getD i undef,fun i=>by simp [Array.getD_eq_getD_getElem?,List.getD_eq_getElem?_getD],?_⟩;apply Array.ext';have:=lH t.toList 53 (by simpa using h);exact this
set_option maxHeartbeats 4000000 in
theorem aEs{S:Nat->Prop}{X:World}{gb r4 r5 b7 rb l m:Nat}{p:ByteArray}{hs:List aE}{ls:List aL}{ha ba xa:Option Addr}{hn hcap n bcap xc:Nat}{V:List ByteArray}{iv:Value}{RL:aD}{t:Array Value}{Qn Qr:World->Prop}
 (hG:Blk X gb [.string p,.slice ha hn hcap,.slice ba n bcap] 27)(h4:Blk X r4 [.pointer none] 88)(h5:Blk X r5 [.int .i64 0] 41)(h7:Blk X b7 [.pointer (some ⟨rb,0,none⟩)] 88)(h47:r4≠b7)
 (hHd:∀W,Ext X W->Calls Tryz.prog 25 #[cI p ha hn hcap ba n bcap,.slice xa V.length xc] W (RetN W fun w' v=>aIx ((p,hs,()),ls,()) V W w' v))(hc:aU ((p,hs,()),ls,())=0)(hVl:V.length=(aB ls).length)(hh16:hs.length≤1048576)
 (hR:RowsAt S X rb iv m RL)(hst:Strict aC RL)(hRl:RL.length≤65536)
 (hz:t.size=53)(t2:t.getD 2 undef= .pointer (some ⟨gb,0,none⟩))(t4:t.getD 4 undef= .pointer (some ⟨r4,0,none⟩))(t5:t.getD 5 undef= .pointer (some ⟨r5,0,none⟩))(t7:t.getD 7 undef= .pointer (some ⟨b7,0,none⟩))(t9:t.getD 9 undef= .slice xa V.length xc)
 (hQn:(aI m RL (bN (aB ls) V hs)).2=0->∀X',Kp (dY rb iv) X X'->(∃S' iv',RowsAt S' X' rb iv' m (aP m RL (bN (aB ls) V hs))/\(∀k,S' k->S k\/X.heap.size≤k)/\∀k,iv'.ownBlock=some k->iv.ownBlock=some k\/X.heap.size≤k)->Qn X')
 (hQr:(aI m RL (bN (aB ls) V hs)).2≠0->∀X',Kp (fun k=>dY rb iv k\/k=r4\/k=r5) X X'->Blk X' r4 [.pointer none] 88->Blk X' r5 [.int .i64 ((aI m RL (bN (aB ls) V hs)).2:Nat)] 41->Qr X'):
 aBg.wpIn (Fence.wide.inRound l) 2 Tryz.prog (fU Qn Qr) {tmps:=t,defers:= []} X:=by
 obtain⟨u,hu,rfl⟩:=lit53 t hz;have e2:=(hu 2).symm.trans t2;have e4:=(hu 4).symm.trans t4;have e5:=(hu 5).symm.trans t5;have e7:=(hu 7).symm.trans t7;have e9:=(hu 9).symm.trans t9;rw [e2,e4,e5,e7,e9];clear hz t2 t4 t5 t7 t9 e2 e4 e5 e7 e9 hu;have HQ:=qH (nIX hQn hQr);have HB:=qH (nIX h4 (nIX h5 h7));have HH:=qH (hHd X (Kp.refl X));have HC:=qH (nIX hc (nIX hVl hh16));have HR:=qH (nIX hR (nIX hst (nIX hRl h47)));have g0:=hG.c0;have g1:=hG.c1;have g2:=hG.c2;clear hQn hQr h4 h5 h7 hHd hc hVl hh16 hR hst hRl hG h47;obtain⟨nV,enV⟩:=nm V.length;rw [enV]at HH ⊢;conv=>arg 4;whnf
 gi_wp2;refine nIX trivial ?_;refine(CallsIn.inRound l (callsIn_wide.2 HH.out)).mono ?_;rintro e W1 ⟨v1,rfl,hk1,hO⟩;obtain⟨ao,cap,rfl,hcs,hcap,hnew⟩:∃ao cap,v1= .tuple #[.slice ao (bN (aB ls) V hs).length cap,.int .i64 0]/\CellsAt W1 ao (strs (bN (aB ls) V hs))/\(bN (aB ls) V hs).length≤cap/\∀a,ao=some a->X.heap.size≤a.block:=by
  rcases hO with⟨-,-,ao,cap,e,h1,h2,h3⟩|⟨hno,-⟩
  ·exact⟨ao,cap,e,h1,h2,h3.1⟩
  ·exact absurd ⟨HC.out.1,HC.out.2.1⟩ hno
 obtain⟨RW,eRW⟩:=nm (bN (aB ls) V hs);have hfew:=tL (aB ls) V hs;rw [eRW]at hcs hcap HQ hfew ⊢;obtain⟨rn,ern⟩:=nm RW.length;have hAdd:=aAp (z:=False) ((HR.out.1.ext hk1).q) HR.out.2.1 (ao:=ao) (n:=rn) (cap:=cap) (ss:=RW) ⟨⟨ern.symm,hcs⟩,by have:=HC.out.2.2;omega,fun a e hne=>by
  have e':ao=some a:=e;subst e';have hpos:0<RW.length:=by rw [ern];exact Nat.pos_of_ne_zero hne
  obtain⟨b',o',e2,c'⟩:=hcs 0 (.string RW[0]) (by simp [strs,qG hpos]);cases e2;exact World.block_lt_of_cell? _ _ c'⟩ (fun a e _ ho=>by
  have e':ao=some a:=e;have h1:=hnew a e';have h2:a.block<X.heap.size:=RowsQ.ownLt (z:=False) HR.out.1.q _ ho;omega) (by have:=HR.out.2.2.1;omega)
 have HAdd:=qH hAdd;obtain⟨er,eer⟩:=nm ((aI m RL RW).2);have b7c:=(HB.out.2.2.ext hk1).c0;have HK:=qH (nIX hk1 eer);rw [ern];clear hcs hcap hnew hAdd hO hk1 g0 g1 g2;gi_wp2;refine nIX trivial ?_;refine(CallsIn.inRound l (callsIn_wide.2 HAdd.out)).mono ?_;rintro e W2 ⟨v2,rfl,hk2,ev2,S',iv',-,q2,q3,q4⟩;subst ev2;rw [eer];obtain⟨fr,efr⟩:=nm ((aI m RL RW).1);rw [efr];have kX:Kp (dY rb iv) X W2:=(Ext.kp HK.out.1).trans hk2;have hown:∀k,dY rb iv k->(∃cs,Blk X k cs 135)\/∃cs,Blk X k cs 34:=fun k hk=>by
  obtain⟨con,zs,hcon,hs2,hl⟩:=HR.out.1;rcases hk with e|e
  ·rw [e];exact .inl ⟨_,hs2.blk⟩
  ·exact .inr (aV hs2.row e)
 have hn4:¬dY rb iv r4:=fun h=>by
  rcases hown r4 h with⟨cs,hb⟩|⟨cs,hb⟩
  ·exact absurd (aQ hb HB.out.1) (by decide)
  ·exact absurd (aQ hb HB.out.1) (by decide)
 have hn5:¬dY rb iv r5:=fun h=>by
  rcases hown r5 h with⟨cs,hb⟩|⟨cs,hb⟩
  ·exact absurd (aQ hb HB.out.2.1) (by decide)
  ·exact absurd (aQ hb HB.out.2.1) (by decide)
 have h4:=HB.out.1.kp kX hn4;have h5:=HB.out.2.1.kp kX hn5;by_cases h0:er=0
 ·subst h0;have hszX:=HK.out.1.size;have HFin:=qH (HQ.out.1 HK.out.2 W2 kX ⟨S',iv',by
   rcases q3 with q3|q3
   ·exact q3
   ·exact q3.1.elim,fun k hk=>(q2 k hk).imp id (fun h=>Nat.le_trans hszX h),fun k hk=>(q4 k hk).imp id (fun h=>Nat.le_trans hszX h)⟩)
  clear q2 q3 q4 hk2 kX hown hn4 hn5 h4 h5;gi_wp2;exact HFin.out
 ·have he0:((er:Int)==0)=false:=by simp;omega
  have HE:=qH (nIX h0 (nIX kX (nIX h4 h5)));have c4:=h4.c0;have c5:=h5.c0;have f4:=h4.free 0;have f5:=h5.free 0;have h45:r4≠r5:=fun e=>absurd (aQ (e▸h4) h5) (by decide);have H45:=qH h45;clear q2 q3 q4 hk2 kX hown hn4 hn5 h4 h5 h0;gi_wp2;have k34:Kp (fun k=>k=r4\/k=r5) W2 ((W2.setCell ⟨r4,0,none⟩ (.pointer none)).setCell ⟨r5,0,none⟩ (.int .i64 (er:Nat))):=Kp.setCell (F:=fun k=>k=r4\/k=r5) (p:=⟨r5,0,none⟩) (Kp.setCell (F:=fun k=>k=r4\/k=r5) (p:=⟨r4,0,none⟩) (Kp.refl W2) (fun _=> .inl rfl) _) (fun _=> .inr rfl) _;refine HQ.out.2 (by rw [HK.out.2];exact HE.out.1) _ ((HE.out.2.1.mono fun k _ h=>Or.inl h).trans (k34.mono fun k _ h=>Or.inr h)) ((HE.out.2.2.1.set 0 (.pointer none)).other H45.out _) ?_;rw [HK.out.2];exact(HE.out.2.2.2.other (fun e=>H45.out e.symm) _).set 0 _
theorem tO{w W:World}{P:World->Value->Prop}{tmps:Array Value}{ds:List Deferred}{lo g4 g5:Nat}{a b:Value}(hm:Marks lo W ds)(hk:Ext w W)(hlo:w.heap.size≤lo)(h4:tmps.getD 4 undef= .pointer (some ⟨g4,0,none⟩))(h5:tmps.getD 5 undef= .pointer (some ⟨g5,0,none⟩))(hB4:Blk W g4 [a] 88)(hB5:Blk W g5 [b] 41)
 (hP:∀w',Ext w w'->Kp (fun k=>lo≤k/\¬fA W k) W w'->P w' (.tuple #[a,b])):
 bodyPostM Fence.wide 4 Tryz.prog Tryz.f49 (RetN w P) .ret {tmps:=tmps,defers:=ds} W:=by
 refine fJ hm fun w' e1 e2 e3 e4 e5 e6=>?_;have kx:Kp (fun k=>lo≤k/\¬fA W k) W w':=⟨e1,e2,e3,by omega,fun k hk hf=>by
  by_cases h:lo≤k
  ·by_cases h2:∃o:Obj,W.heap[k]?=some o/\o.isCells=true
   ·obtain⟨o,h2,h3⟩:=h2;rw [h2];exact e6 k o h2 h3
   ·exact absurd ⟨h,h2⟩ hf
  ·exact e5 k (by omega)⟩
 have hx:Ext w w':=hk.trans' kx fun i hi h=>absurd h.1 (by omega);refine⟨.tuple #[a,b],?_,RetN.mk hx (hP w' hx kx)⟩;have hB42:Blk w' g4 [a] 88:=hB4.kp kx fun h=>h.2 ⟨_,hB4,rfl⟩;have hB52:Blk w' g5 [b] 41:=hB5.kp kx fun h=>h.2 ⟨_,hB5,rfl⟩;have c0:=hB42.c0;have c1:=hB52.c0;have h4':tmps[4]?.getD undef= .pointer (some ⟨g4,0,none⟩):=by simpa using h4
 have h5':tmps[5]?.getD undef= .pointer (some ⟨g5,0,none⟩):=by simpa using h5
 simp [results,Tryz.f49,go_sem,h4',h5',c0,c1]
theorem aMi{r:cG}(h:aU r=0):r.1.2.1.length≤64:=by
 unfold aU at h;split at h
 ·rename_i hp;unfold cU fE at hp;rw [Bool.and_eq_true,Bool.and_eq_true]at hp;exact of_decide_eq_true hp.1.2
 ·cases h
def FactsOut(r:cG)(nb:Bool)(L:aD)(w w':World)(v:Value):Prop:=
 (aU r≠0/\v= .tuple #[.pointer none,.int .i64 (aU r:Nat)])\/
 (aU r=0/\(r.1.2.1.any fun t=>decide (4≤t.1))=true/\v= .tuple #[.pointer none,.int .i64 2])\/
 (aU r=0/\(r.1.2.1.any fun t=>decide (4≤t.1))=false/\nb=true/\v= .tuple #[.pointer none,.int .i64 1])\/
 (aU r=0/\(r.1.2.1.any fun t=>decide (4≤t.1))=false/\nb=false/\∃e A,bB r.1.2.1.length [] (L.map fun V=>bN (aB r.2.1) V r.1.2.1)=(e,A)/\
  ((e≠0/\v= .tuple #[.pointer none,.int .i64 (e:Nat)])\/ (e=0/\∃rb iv S,v= .tuple #[.pointer (some ⟨rb,0,none⟩),.int .i64 0]/\RowsAt S w' rb iv r.1.2.1.length A/\w.heap.size≤rb/\(∀k,S k->w.heap.size≤k)/\∀k,iv.ownBlock=some k->w.heap.size≤k)))
structure FactsAt(w X:World)(gb b7 rb:Nat)(cs:List Value):Prop where
 rule:Blk X gb cs 27
 r4:Blk X (gb+1) [.pointer none] 88
 r5:Blk X (gb+1+1) [.int .i64 0] 41
 rows:Blk X b7 [.pointer (some ⟨rb,0,none⟩)] 88
 ext:Ext w X
 lt:gb+1+1<b7
def gF(ls:List aL)(hs:List aE)(pre:List XB):aD:=pre.map fun x=>bN (aB ls) x.2 hs
def FactsI(w8:World)(rb m:Nat)(ls:List aL)(hs:List aE)(T:Nat->Prop)(pre:List XB)(W:World):Prop:=
 Kp (fun k=>k=rb) w8 W/\(∀k,T k->w8.heap.size≤k)/\(bB m [] (gF ls hs pre)).1=0/\
 ∃(S:Nat->Prop) (iv:Value),RowsAt S W rb iv m (bB m [] (gF ls hs pre)).2/\(∀k,S k->w8.heap.size≤k/\fA W k/\¬T k)/\∀k,iv.ownBlock=some k->w8.heap.size≤k/\¬T k
def FactsX(w8:World)(rb r4 r5 m:Nat)(ls:List aL)(hs:List aE)(c:Code)(T:Nat->Prop)(pre:List XB)(W:World):Prop:=
 c= .ret/\Kp (fun k=>k=rb\/k=r4\/k=r5) w8 W/\(∀k,T k->w8.heap.size≤k)/\Blk W r4 [.pointer none] 88/\Blk W r5 [.int .i64 ((bB m [] (gF ls hs pre)).1:Nat)] 41/\(bB m [] (gF ls hs pre)).1≠0
theorem FactsI.step{w8 W1 W:World}{rb m:Nat}{ls:List aL}{hs:List aE}{T T':Nat->Prop}{pre:List XB}(h:FactsI w8 rb m ls hs T pre W1)(hrb:rb<w8.heap.size)(hk:Kp T W1 W)(hT:∀k,T' k->vH T W1 W k):FactsI w8 rb m ls hs T' pre W:=by
 obtain⟨h1,h2,h3,S,iv,h4,h5,h6⟩:=h;have hs1:=h1.size;have hso:∀k,iv.ownBlock=some k->k<W1.heap.size:=fun k hk=>RowsQ.ownLt (z:=False) h4.q k (.inr hk);refine⟨h1.trans' hk fun i hi hf=>absurd (h2 i hf) (by omega),fun k hk'=>?_,h3,S,iv,h4.move hk (fun k hf ho=>?_) (fun k hf hs=>(h5 k hs).2.2 hf) (fun k h=>h) (fun k h=>Nat.lt_of_lt_of_le (h4.inS k h) hk.size) h4.notS,fun k hs=>⟨(h5 k hs).1,?_,fun ht=>?_⟩,fun k ho=>⟨(h6 k ho).1,fun ht=>?_⟩⟩
 ·rcases hT k hk' with h|h
  ·exact h2 k h
  ·omega
 ·rcases ho with ho|ho
  ·have:=h2 k hf;omega
  ·exact(h6 k ho).2 hf
 ·obtain⟨o,ho,hc⟩:=(h5 k hs).2.1;exact⟨o,(hk.block k (lt_of_block ho) fun hf=>(h5 k hs).2.2 hf).trans ho,hc⟩
 ·rcases hT k ht with h|h
  ·exact(h5 k hs).2.2 h
  ·have:=h4.inS k hs;omega
 ·rcases hT k ht with h|h
  ·exact(h6 k ho).2 h
  ·have:=hso k ho;omega
theorem FactsI.put{w8 W:World}{rb m:Nat}{ls:List aL}{hs:List aE}{T:Nat->Prop}{pre:List XB}(h:FactsI w8 rb m ls hs T pre W)(hrb:rb<w8.heap.size){l:Nat}{o o':Obj}(hl:w8.heap.size≤l)(ho:W.heap[l]?=some o)(hc:o.isCells=false):FactsI w8 rb m ls hs T pre (W.putObj l o'):=by
 obtain⟨h1,h2,h3,S,iv,h4,h5,h6⟩:=h;have hk:Kp (fun k=>k=l) W (W.putObj l o'):=Kp.putF (F:=fun k=>k=l) rfl _;have nc:∀k,fA W k->¬k=l:=fun k hk e=>by obtain⟨o2,h,h'⟩:=hk;rw [e,ho]at h;cases h;rw [hc]at h';cases h'
 refine⟨h1.trans' hk fun i hi hf=>by have e:i=l:=hf;omega,h2,h3,S,iv,h4.move hk (fun k hf ho=>nc k (h4.cellOwn k ho) hf) (fun k hf hs=>nc k (h5 k hs).2.1 hf) (fun k h=>h) (fun k h=>Nat.lt_of_lt_of_le (h4.inS k h) hk.size) h4.notS,fun k hs=>⟨(h5 k hs).1,?_,(h5 k hs).2.2⟩,h6⟩;obtain⟨o2,ho2,hc2⟩:=(h5 k hs).2.1;exact⟨o2,(hk.block k (lt_of_block ho2) fun hf=>nc k (h5 k hs).2.1 hf).trans ho2,hc2⟩
theorem FactsX.put{w8 W:World}{rb r4 r5 m:Nat}{ls:List aL}{hs:List aE}{c:Code}{T:Nat->Prop}{pre:List XB}(h:FactsX w8 rb r4 r5 m ls hs c T pre W)(h4:r4<w8.heap.size)(h5:r5<w8.heap.size){l:Nat}{o':Obj}(hl:w8.heap.size≤l):FactsX w8 rb r4 r5 m ls hs c T pre (W.putObj l o'):=by obtain⟨q1,q2,q3,q4,q5,q6⟩:=h;have hk:Kp (fun k=>k=l) W (W.putObj l o'):=Kp.putF (F:=fun k=>k=l) rfl _;exact⟨q1,q2.trans' hk fun i hi hf=>by have e:i=l:=hf;omega,q3,q4.kp hk fun e=>by have e':r4=l:=e;omega,q5.kp hk fun e=>by have e':r5=l:=e;omega,q6⟩
theorem FactsX.step{w8 W1 W:World}{rb r4 r5 m:Nat}{ls:List aL}{hs:List aE}{c:Code}{T:Nat->Prop}{pre:List XB}(h:FactsX w8 rb r4 r5 m ls hs c T pre W1)(h4:r4<w8.heap.size)(h5:r5<w8.heap.size)(hk:Kp T W1 W):FactsX w8 rb r4 r5 m ls hs c T pre W:=by obtain⟨q1,q2,q3,q4,q5,q6⟩:=h;exact⟨q1,q2.trans' hk fun i hi hf=>absurd (q3 i hf) (by omega),q3,q4.kp hk fun e=>by have:=q3 _ e;omega,q5.kp hk fun e=>by have:=q3 _ e;omega,q6⟩
theorem GvRow.put(T:Nat->Prop)(W1 W2:World)(x:XB)(l:Nat)(r o:Obj)(h:GvRow W1 T W2 x)(hr:W2.heap[l]?=some r)(hc:r.isCells=false):GvRow (W1.putObj l o) T (W2.putObj l o) x:=by
 refine⟨h.1,?_⟩;rcases h.2 with h2|⟨g,rest,h1,h2,h3,h4⟩
 ·exact .inl h2
 ·refine .inr ⟨g,rest,h1,h2.kp (F:=fun k=>k=l) (Kp.putF (F:=fun k=>k=l) rfl _) (fun e=>?_),by rw [size_put];exact h3,h4⟩;have e':g=l:=e;unfold Blk at h2;rw [e',hr]at h2;cases h2;cases hc
theorem GvRow.cells{W1 W2:World}{T:Nat->Prop}{xa:Option Addr}{xn xc:Nat}{V:List ByteArray}(h:GvRow W1 T W2 ((xa,xn,xc),V)):(xn=V.length/\xc=V.length)/\CellsAt W2 xa (strs V):=by
 obtain⟨h1,h2⟩:=h;have h1':(xn,xc)=(V.length,V.length):=h1;refine⟨⟨congrArg Prod.fst h1',congrArg Prod.snd h1'⟩,?_⟩;rcases h2 with⟨e,e2⟩|⟨g,rest,e,hb,_⟩
 ·have e2':V= []:=e2;rw [e2'];exact CellsAt.nil _ _
 ·have e':xa=some ⟨g,0,none⟩:=e;rw [e'];exact CellsAt.pre hb
theorem FactsI.start{w8:World}{rb m:Nat}{ls:List aL}{hs:List aE}(h:RowsAt (fun _=>False) w8 rb (.slice none 0 0) m []):FactsI w8 rb m ls hs (fun _=>False) [] w8:=
 ⟨Kp.refl _,fun k h=>h.elim,rfl,fun _=>False,_,h,fun k h=>h.elim,fun k h=>by cases h⟩
theorem aKl{w X:World}{gb b7 rb m:Nat}{cs:List Value}{S:Nat->Prop}{iv:Value}{LL:aD}(h:FactsAt w X gb b7 rb cs)(hR:RowsAt S X rb iv m LL):gb≠rb/\gb+1≠rb/\gb+1+1≠rb/\b7≠rb:=by
 have hb:=hR.blk;refine⟨fun e=>?_,fun e=>?_,fun e=>?_,fun e=>?_⟩
 ·exact absurd (aQ (e▸h.rule) hb) (by decide)
 ·exact absurd (aQ (e▸h.r4) hb) (by decide)
 ·exact absurd (aQ (e▸h.r5) hb) (by decide)
 ·exact absurd (aQ (e▸h.rows) hb) (by decide)
theorem FactsAt.kp{w X Y:World}{gb b7 rb:Nat}{cs:List Value}(h:FactsAt w X gb b7 rb cs)(ho:gb≠rb/\gb+1≠rb/\gb+1+1≠rb/\b7≠rb)(hk:Kp (fun k=>k=rb) X Y)(hlo:w.heap.size≤rb):FactsAt w Y gb b7 rb cs:=
 ⟨h.rule.kp hk ho.1,h.r4.kp hk ho.2.1,h.r5.kp hk ho.2.2.1,h.rows.kp hk ho.2.2.2,h.ext.trans' hk fun i hi e=>by have e':i=rb:=e;omega,h.lt⟩
set_option maxHeartbeats 4000000 in
theorem aBe{S:Nat->Prop}{w:World}{p:ByteArray}{hs:List aE}{ls:List aL}{ha ba:Option Addr}{hn hcap n bcap:Nat}{G:Nat->Prop}{o:Option Addr}{E:List Ent}{L:aD}(hhn:hn=hs.length)(hh:aO w G ha hs)(hhl:hn≤1048576)(hbn:n=ls.length)(h:bW w G ba ls)(hf:Fit ls)(hnv:(aB ls).length≤1048576)(hn16:n≤1048576)
 (hB:BaseV S w (.pointer o) E)(hL:mT ((p,hs,()),ls,()) (cP (zS ls E) ls) L):
 Calls Tryz.prog 49 #[cI p ha hn hcap ba n bcap,.pointer o] w (RetN w fun w' v=>FactsOut ((p,hs,()),ls,()) o.isNone L w w' v):=by
 have HCh:=qH (fun W (hW:Ext w W)=>tS p hs ls ha hn hcap ba n bcap W G hhn (hh.ext hW) (by omega) hbn (h.ext hW) hf);have HAg:=qH (fun W (hW:Ext w W)=>aNy (hcap:=hcap) hhn (hh.ext hW) (by omega));have HEa:=qH (fun W (hW:Ext w W)=>yS (hcap:=hcap) (bcap:=bcap) (p:=p) hhn (hh.ext hW) (by omega) hbn (h.ext hW) hf hnv hn16 (hB.ext hW) hL);have HHd:=qH (fun W (hW:Ext w W) (V:List ByteArray) (va:Option Addr) (nb vc:Nat) (hV:nb=V.length) (hc:CellsAt W va (strs V)) (hb:nb≤1048576)=>aJ9 (hcap:=hcap) (bcap:=bcap) (p:=p) (vc:=vc) hhn (hh.ext hW) hhl hbn (h.ext hW) hf hnv hV hc hb);have HN:=qH (nIX hhn (nIX hhl (nIX hL hnv)));obtain⟨cR,ecR⟩:=nm (aU ((p,hs,()),ls,()));rw [ecR]at HCh;have HC:=qH ecR;obtain⟨gb,egb⟩:=nm w.heap.size;obtain⟨w1,e1⟩:=nm (w.alloc (.cells #[.string p,.slice ha hn hcap,.slice ba n bcap] 27));obtain⟨w2,e2⟩:=nm (w1.alloc (.cells #[.pointer none] 88));obtain⟨w3,e3⟩:=nm (w2.alloc (.cells #[.int .i64 0] 41));have s1:w1.heap.size=gb+1:=by rw [<-e1,aJ,egb]
 have s2:w2.heap.size=gb+1+1:=by rw [<-e2,aJ,s1]
 have x1:Ext w w1:=xAX e1;have x2:Ext w1 w2:=xAX e2;have x3:Ext w2 w3:=xAX e3;have H3:=qH (show Blk w3 gb [.string p,.slice ha hn hcap,.slice ba n bcap] 27/\Blk w3 (gb+1) [.pointer none] 88/\Blk w3 (gb+1+1) [.int .i64 0] 41/\Ext w w3 from
  ⟨Blk.ext (by have h:=Blk.new w [.string p,.slice ha hn hcap,.slice ba n bcap] 27;rw [egb]at h;rw [<-e1];exact h) (x2.trans x3),Blk.ext (by have h:=Blk.new w1 [.pointer none] 88;rw [s1]at h;rw [<-e2];exact h) x3,by have h:=Blk.new w2 [.int .i64 0] 41;rw [s2]at h;rw [<-e3];exact h,x1.trans (x2.trans x3)⟩)
 have r0:=H3.out.1.c0;have r1:=H3.out.1.c1;have r2:=H3.out.1.c2;have HG:=qH egb;clear hhn hh hhl hbn h hf hnv hn16 hB hL ecR x1 x2 x3;refine callsIn_wide.1 (callsIn_of_wp_marks (n:=4) Tryz.func49 rfl trivial ?_ rfl);refine wpIn_wide.2 ?_;obtain⟨Q,eQ⟩:∃Q,Q=bodyPostM Fence.wide 4 Tryz.prog Tryz.f49 (RetN w fun w' v=>FactsOut ((p,hs,()),ls,()) o.isNone L w w' v):=⟨_,rfl⟩;rw [<-eQ];have EQ:=qH eQ;clear eQ;simp only [Tryz.ntmps49,List.size_toArray,List.length_cons,List.length_nil,Nat.reduceAdd,Nat.reduceSub,Array.replicate_succ,Array.replicate_zero,List.push_toArray,List.append_toArray,List.nil_append,List.cons_append];go_wp2_with fail
 clear e1 e2 e3 egb s1 s2;refine(HCh.out w3 H3.out.2.2.2).mono ?_;rintro e w4 ⟨v4,rfl,hk4,rfl⟩;have H4:=qH (show Blk w4 gb [.string p,.slice ha hn hcap,.slice ba n bcap] 27/\Blk w4 (gb+1) [.pointer none] 88/\Blk w4 (gb+1+1) [.int .i64 0] 41/\Ext w w4 from⟨H3.out.1.ext hk4,H3.out.2.1.ext hk4,H3.out.2.2.1.ext hk4,H3.out.2.2.2.trans hk4⟩);have c4:=H4.out.2.1.c0;have c5:=H4.out.2.2.1.c0;have f4:=H4.out.2.1.free 0;have f5:=H4.out.2.2.1.free 0;have r1':=H4.out.1.c1;clear hk4 r0 r1 r2;have HEX:=qH (show ∀(W:World) (tmps:Array Value) (c:Int),Blk W (gb+1) [.pointer none] 88->Blk W (gb+1+1) [.int .i64 0] 41->Ext w W->tmps.getD 4 undef= .pointer (some ⟨gb+1,0,none⟩)->tmps.getD 5 undef= .pointer (some ⟨gb+1+1,0,none⟩)->(∀w',FactsOut ((p,hs,()),ls,()) o.isNone L w w' (.tuple #[.pointer none,.int .i64 c]))->Q .ret {tmps:=tmps,defers:= []} ((W.setCell ⟨gb+1,0,none⟩ (.pointer none)).setCell ⟨gb+1+1,0,none⟩ (.int .i64 c))from fun W tmps c hb4 hb5 hx h4 h5 hF=>by
  have k1:Kp (fun k=>k=gb+1\/k=gb+1+1) W ((W.setCell ⟨gb+1,0,none⟩ (.pointer none)).setCell ⟨gb+1+1,0,none⟩ (.int .i64 c)):=Kp.setCell (F:=fun k=>k=gb+1\/k=gb+1+1) (p:=⟨gb+1+1,0,none⟩) (Kp.setCell (F:=fun k=>k=gb+1\/k=gb+1+1) (p:=⟨gb+1,0,none⟩) (Kp.refl W) (fun _=> .inl rfl) _) (fun _=> .inr rfl) _;have hne:gb+1≠gb+1+1:=by omega
  rw [EQ.out];exact tO (lo:=W.heap.size) (Marks.nil _ _) (hx.trans' k1 fun i hi e=>by have:=HG.out;omega) hx.size h4 h5 ((hb4.set 0 (.pointer none)).other hne _) ((hb5.other hne.symm _).set 0 _) (fun w' _ _=>hF w'))
 by_cases hc:cR=0
 ·subst hc;go_wp2_with fail
  refine(HAg.out w4 H4.out.2.2.2).mono ?_;rintro e w5 ⟨v5,rfl,hk5,rfl⟩;have H5:=qH (show Blk w5 gb [.string p,.slice ha hn hcap,.slice ba n bcap] 27/\Blk w5 (gb+1) [.pointer none] 88/\Blk w5 (gb+1+1) [.int .i64 0] 41/\Ext w w5 from⟨H4.out.1.ext hk5,H4.out.2.1.ext hk5,H4.out.2.2.1.ext hk5,H4.out.2.2.2.trans hk5⟩);have c45:=H5.out.2.1.c0;have c55:=H5.out.2.2.1.c0;have f45:=H5.out.2.1.free 0;have f55:=H5.out.2.2.1.free 0;have r15:=H5.out.1.c1;clear hk5 c4 c5 f4 f5 r1';obtain⟨ag,eag⟩:=nm ((hs.any fun t=>decide (4≤t.1)));rw [eag];have HA:=qH eag;clear eag;cases ag
  ·cases o with
   |none=>
    have hnn:(binOp .eql 29 (.pointer none) (.pointer none)).run Tryz.prog w5= .ok (.bool true) w5:=by kernel_rfl
    go_wp2_with fail
    exact HEX.out w5 _ 1 H5.out.2.1 H5.out.2.2.1 H5.out.2.2.2 rfl rfl fun w'=> .inr (.inr (.inl ⟨HC.out,HA.out,rfl,rfl⟩))
   |some ob=>
    have h64:hn≤64:=by rw [HN.out.1];exact aMi HC.out
    have HNR:=qH (kI (fun _=>False) w5 hn h64 (fun k h=>h.elim));go_wp2_with fail
    refine HNR.out.mono ?_;rintro e w6 ⟨v6,rfl,hk6,rfl,hr6⟩;obtain⟨rb,erb⟩:=nm w5.heap.size;rw [erb]at hr6 ⊢;have H6:=qH (show Blk w6 gb [.string p,.slice ha hn hcap,.slice ba n bcap] 27/\Blk w6 (gb+1) [.pointer none] 88/\Blk w6 (gb+1+1) [.int .i64 0] 41/\Ext w w6/\RowsAt (fun _=>False) w6 rb (.slice none 0 0) hn []/\w.heap.size≤rb from
     ⟨H5.out.1.ext hk6,H5.out.2.1.ext hk6,H5.out.2.2.1.ext hk6,H5.out.2.2.2.trans hk6,hr6,by rw [<-erb];exact H5.out.2.2.2.size⟩)
    have g0:∀o,(w6.alloc o).cell? ⟨gb,0,none⟩=some (.string p):=fun o=>by rw [(H6.out.1.alloc o).cell'];rfl
    have g1:∀o,(w6.alloc o).cell? ⟨gb,1,none⟩=some (.slice ha hn hcap):=fun o=>by rw [(H6.out.1.alloc o).cell'];rfl
    have g2:∀o,(w6.alloc o).cell? ⟨gb,2,none⟩=some (.slice ba n bcap):=fun o=>by rw [(H6.out.1.alloc o).cell'];rfl
    clear hk6 hr6 erb c45 c55 f45 f55 r15;go_wp2_with fail
    obtain⟨b7,eb7⟩:=nm w6.heap.size;obtain⟨w7,ew7⟩:=nm (w6.alloc (.cells #[.pointer (some ⟨rb,0,none⟩)] 88));have x67:Ext w6 w7:=xAX ew7;have hB7:=bNX eb7 ew7;try rw [ew7]
    try rw [eb7]
    refine(HEa.out w7 (H6.out.2.2.2.1.trans x67)).mono ?_;rintro e w8 ⟨v8,rfl,hk8,xb,lo,hlo,rfl,hseq⟩;have HS:=qH (show tV Fence.wide 3 Tryz.prog 82 #[.pointer (some ⟨xb,0,none⟩)] (fun x:XB=>#[.slice x.1.1 x.1.2.1 x.1.2.2]) (fun k=>lo≤k/\k<w8.heap.size) GvRow (fun xs=>xs.map Prod.snd=L) (fun pre=>pre.map Prod.snd<+:L) w8 from hseq 3);have H8:=qH (show FactsAt w w8 gb b7 rb [.string p,.slice ha hn hcap,.slice ba n bcap]from
     ⟨(H6.out.1.ext x67).ext hk8,(H6.out.2.1.ext x67).ext hk8,(H6.out.2.2.1.ext x67).ext hk8,hB7.ext hk8,(H6.out.2.2.2.1.trans x67).trans hk8,by have:=H6.out.2.2.1.lt;rw [<-eb7];omega⟩)
    have HR8:=qH (show RowsAt (fun _=>False) w8 rb (.slice none 0 0) hn []from(H6.out.2.2.2.2.1.ext x67).ext hk8);have HLo:=qH (show b7<lo/\w.heap.size≤rb/\rb<lo/\lo≤w8.heap.size+lo from⟨Nat.lt_of_lt_of_le hB7.lt hlo,H6.out.2.2.2.2.2,Nat.lt_of_lt_of_le (Nat.lt_of_lt_of_le H6.out.2.2.2.2.1.blk.lt x67.size) hlo,by omega⟩);clear hseq hk8 x67 hB7 ew7 eb7 hlo H6 g0 g1 g2;go_wp2_with fail
    have hrb8:rb<w8.heap.size:=HR8.out.blk.lt;have hTy:=aKl H8.out HR8.out;refine' wpIn_wide.1 (kS (F:=Fence.wide) (n:=4) (w0:=w8) rfl (by omega) (gf:=82) (lb:=#[.pointer (some ⟨xb,0,none⟩)]) rfl trivial (enters_of Tryz.func82 (by kernel_rfl) rfl)
     HS.out (Kp.refl _) (fun k h=>h.2) (fun _=>rfl) GvRow.put (FactsI w8 rb hn ls hs) (FactsX w8 rb (gb+1) (gb+1+1) hn ls hs)
     (fun T s W l o o' h _ hl ho hc=>h.put hrb8 hl ho hc) (fun c T s W l o o' h _ hl ho hc=>h.put H8.out.r4.lt H8.out.r5.lt hl)
     (fun W o h=>h.step hrb8 ((Kp.refl W).alloc o) (fun k hk=>hk.elim)) (FactsI.start HR8.out) _ ?assign ?body ?done ?stop)
    case assign=>
     intro l x W K hK;gi_wp2;exact hK
    case body=>
     rintro l T T' pre ⟨⟨xa,xn,xc⟩,V⟩ W1 W hI hT hk hsub hgv hpre;have hI2:=hI.step hrb8 hk hsub;have hTlt:∀k,T' k->k<W.heap.size:=fun k hk'=>by
      rcases hsub k hk' with h|h
      ·exact Nat.lt_of_lt_of_le (hT k h) hk.size
      ·exact h.2
     obtain⟨kX,hTge,hr0,S,iv,hR,hS,hown⟩:=hI2;have hA:=H8.out.kp hTy kX HLo.out.2.1;obtain⟨hx1,hxc⟩:=hgv.cells;have hxn:xn=V.length:=hx1.1;have hxc2:xc=V.length:=hx1.2;subst hxn hxc2;have hmem:V∈L:=by have h:=hpre.subset;exact h (by rw [List.map_append];exact List.mem_append_right _ (List.mem_singleton.2 rfl))
     have hVl:V.length=(aB ls).length:=(((HN.out.2.2.1.1 HC.out).iff V).1 hmem).1;have hsn:gF ls hs (pre++ [((xa,V.length,V.length),V)])=gF ls hs pre++ [bN (aB ls) V hs]:=by unfold gF;rw [List.map_append];rfl
     have hsz8:=kX.size;refine wpIn_mono (Q:=fU (fun X'=>KeepsFrom w8.heap.size W X'/\Kp (fun k=>¬fY (fun k=>lo≤k/\k<w8.heap.size) T' k) W X'/\FactsI w8 rb hn ls hs T' (pre++ [((xa,V.length,V.length),V)]) X') (fun X'=>KeepsFrom w8.heap.size W X'/\Kp (fun k=>¬fY (fun k=>lo≤k/\k<w8.heap.size) T' k) W X'/\FactsX w8 rb (gb+1) (gb+1+1) hn ls hs .ret T' (pre++ [((xa,V.length,V.length),V)]) X')) ?_ ?_
     ·show Code.wpIn _ _ _ aBg _ _ _;refine aEs (S:=S) (iv:=iv) (RL:=(bB hn [] (gF ls hs pre)).2) (V:=V) (xa:=xa) (xc:=V.length) (m:=hn) (b7:=b7) (rb:=rb) (r4:=gb+1) (r5:=gb+1+1) (gb:=gb) hA.rule hA.r4 hA.r5 hA.rows (by have:=H8.out.lt;omega) (fun W' hW'=>HHd.out W' (hA.ext.trans hW') V xa V.length V.length rfl (hxc.ext hW') (by rw [hVl];exact HN.out.2.2.2)) HC.out hVl (by rw [<-HN.out.1];exact HN.out.2.1) hR (jR hn _ [] List.Pairwise.nil) (kG hn _ [] (Nat.zero_le _)) rfl rfl rfl rfl rfl rfl ?_ ?_
      ·rintro h0 X' hk' ⟨S',iv',q1,q2,q3⟩;have hno:∀k,dY rb iv k->¬T' k/\(k=rb\/w8.heap.size≤k):=fun k ho=>by
        rcases ho with ho|ho
        ·exact⟨fun ht=>by have:=hTge k ht;omega,.inl ho⟩
        ·exact⟨(hown k ho).2,.inr (hown k ho).1⟩
       refine⟨⟨hk'.size,fun k o hB hk2 ho=>(hk'.block k (lt_of_block hk2) fun f=>?_).trans hk2⟩,hk'.mono fun k hk2 ho hz=>?_,?_⟩
       ·obtain⟨o',h1,h2⟩:=hR.cellOwn k f;rw [hk2]at h1;cases h1;rw [ho]at h2;cases h2
       ·rcases hz with hz|hz
        ·exact(hno k ho).1 hz
        ·rcases(hno k ho).2 with h|h
         ·have:=HLo.out.2.2.1;have:=hz.1;omega
         ·have:=hz.2;omega
       ·refine⟨kX.trans' hk' fun k hk2 ho=>?_,hTge,?_,fun k=>S' k/\fA X' k,iv',?_,fun k hk2=>⟨?_,hk2.2,fun ht=>?_⟩,fun k hk2=>⟨?_,fun ht=>?_⟩⟩
        ·rcases(hno k ho).2 with h|h
         ·exact h
         ·omega
        ·rw [hsn,mD hr0 h0]
        ·rw [hsn,mD hr0 h0];exact q1.tight
        ·rcases q2 k hk2.1 with h|h
         ·exact(hS k h).1
         ·omega
        ·rcases q2 k hk2.1 with h|h
         ·exact(hS k h).2.2 ht
         ·have:=hTlt k ht;omega
        ·rcases q3 k hk2 with h|h
         ·exact(hown k h).1
         ·omega
        ·rcases q3 k hk2 with h|h
         ·exact(hown k h).2 ht
         ·have:=hTlt k ht;omega
      ·intro h0 X' hk' hb4 hb5;have g4:=H8.out.r4.lt;have g5:=H8.out.r5.lt;have glt:=H8.out.lt;have hno:∀k,(dY rb iv k\/k=gb+1\/k=gb+1+1)->¬T' k/\(k=rb\/k=gb+1\/k=gb+1+1\/w8.heap.size≤k):=fun k ho=>by
        rcases ho with(ho|ho)|ho|ho
        ·exact⟨fun ht=>by have:=hTge k ht;omega,.inl ho⟩
        ·exact⟨(hown k ho).2,.inr (.inr (.inr (hown k ho).1))⟩
        ·exact⟨fun ht=>by have:=hTge k ht;omega,.inr (.inl ho)⟩
        ·exact⟨fun ht=>by have:=hTge k ht;omega,.inr (.inr (.inl ho))⟩
       refine⟨⟨hk'.size,fun k o hB hk2 ho=>(hk'.block k (lt_of_block hk2) fun f=>?_).trans hk2⟩,hk'.mono fun k hk2 ho hz=>?_,rfl,?_,hTge,hb4,?_,?_⟩
       ·have hc:fA W k:=by
         rcases f with f|f|f
         ·exact hR.cellOwn k f
         ·exact⟨_,by rw [f];exact hA.r4,rfl⟩
         ·exact⟨_,by rw [f];exact hA.r5,rfl⟩
        obtain⟨o',h1,h2⟩:=hc;rw [hk2]at h1;cases h1;rw [ho]at h2;cases h2
       ·rcases hz with hz|hz
        ·exact(hno k ho).1 hz
        ·have h1:=HLo.out.1;have h2:=HLo.out.2.2.1;have h3:=hz.1;have h4:=hz.2;rcases(hno k ho).2 with h|h|h|h<;>omega
       ·exact(kX.mono fun k _ h=>Or.inl h).trans' hk' fun k hk2 ho=>by
         rcases(hno k ho).2 with h|h|h|h
         ·exact .inl h
         ·exact .inr (.inl h)
         ·exact .inr (.inr h)
         ·omega
       ·rw [hsn,nR hr0 h0];exact hb5
       ·rw [hsn,nR hr0 h0];exact h0
     ·intro e a W' h;cases e<;>first|exact h|exact h.elim
    case done=>
     rintro D T xs W1 W hD hxs hI hT hk hd;have hI2:=hI.step (T':=fun _=>False) hrb8 hk (fun k hk'=>hk'.elim);obtain⟨kX,hTge,hr0,S,iv,hR,hS,hown⟩:=hI2;have hA:=H8.out.kp hTy kX HLo.out.2.1;have hxs':gF ls hs xs=L.map fun V=>bN (aB ls) V hs:=by have h:xs.map Prod.snd=L:=hxs;rw [<-h,List.map_map];rfl
     have hm1:Marks w8.heap.size W [{target:= .collected D,args:=#[]}]:=Marks.push (Marks.nil w8.heap.size w8) (fun k o h ho=>(kX.block k (lt_of_block h) (fun e=>by have e':k=rb:=e;obtain⟨o',h1,h2⟩:=HR8.out.cellOwn rb (.inl rfl);rw [e',h1]at h;cases h;rw [h2]at ho;cases ho)).trans h) hD hD hd;have v7:=hA.rows.c0;have v4:=hA.r4.c0;have v5:=hA.r5.c0;have z4:=hA.r4.free 0;have z5:=hA.r5.free 0;have HZ:=qH (nIX hA (nIX hxs' (nIX hm1 (nIX hr0 (nIX hR (nIX hS (nIX hown kX)))))));clear hA hxs' hm1 hr0 hR hS hown kX hTge hI hT hk hd hD hxs;go_wp2_with fail
     obtain⟨hA,hxs',hm1,hr0,hR,hS,hown,kX⟩:=HZ.out;have hg4:gb+1<w8.heap.size:=H8.out.r4.lt;have hg5:gb+1+1<w8.heap.size:=H8.out.r5.lt;have ks:Kp (fun k=>k=gb+1\/k=gb+1+1) W ((W.setCell ⟨gb+1,0,none⟩ (.pointer (some ⟨rb,0,none⟩))).setCell ⟨gb+1+1,0,none⟩ (.int .i64 0)):=Kp.setCell (F:=fun k=>k=gb+1\/k=gb+1+1) (p:=⟨gb+1+1,0,none⟩) (Kp.setCell (F:=fun k=>k=gb+1\/k=gb+1+1) (p:=⟨gb+1,0,none⟩) (Kp.refl W) (fun _=> .inl rfl) _) (fun _=> .inr rfl) _;have hne:gb+1≠gb+1+1:=by omega
     have hb4:=(hA.r4.set 0 (.pointer (some ⟨rb,0,none⟩))).other (p:=⟨gb+1+1,0,none⟩) hne (.int .i64 0);have hb5:=(hA.r5.other (p:=⟨gb+1,0,none⟩) hne.symm (.pointer (some ⟨rb,0,none⟩))).set 0 (.int .i64 0);generalize ((W.setCell ⟨gb+1,0,none⟩ (.pointer (some ⟨rb,0,none⟩))).setCell ⟨gb+1+1,0,none⟩ (.int .i64 0))=W2 at ks hb4 hb5 ⊢;have hglo:=HG.out;have hoff:∀k,dY rb iv k->¬(k=gb+1\/k=gb+1+1):=fun k ho h=>by
      rcases ho with ho|ho
      ·rcases h with h|h
       ·exact hTy.2.1 (by rw [<-h,<-ho])
       ·exact hTy.2.2.1 (by rw [<-h,<-ho])
      ·have:=hown k ho;omega
     have hR2:RowsAt S W2 rb iv hn (bB hn [] (gF ls hs xs)).2:=hR.move ks (fun k hf ho=>hoff k ho hf) (fun k hf hs'=>by have:=(hS k hs').1;omega) (fun k h=>h) (fun k h=>Nat.lt_of_lt_of_le (hR.inS k h) ks.size) hR.notS;have hS2:∀k,S k->w8.heap.size≤k/\fA W2 k:=fun k hs'=>⟨(hS k hs').1,by obtain⟨o,ho,hc⟩:=(hS k hs').2.1;exact⟨o,(ks.block k (lt_of_block ho) fun hf=>by have:=(hS k hs').1;omega).trans ho,hc⟩⟩;have hx8:=H8.out.ext.size;rw [EQ.out];refine tO (lo:=w8.heap.size) (hm1.kp ks fun k hf=>by omega) (hA.ext.trans' ks fun i hi hf=>by omega) hx8 rfl rfl hb4 hb5 fun w' hx' kx=> .inr (.inr (.inr ⟨HC.out,HA.out,rfl,0,(bB hn [] (gF ls hs xs)).2,?_,.inr ⟨rfl,rb,iv,S,rfl,?_,HLo.out.2.1,fun k hs'=>by have:=(hS k hs').1;omega,fun k ho=>by have:=hown k ho;omega⟩⟩))
     ·rw [<-hxs',<-HN.out.1,<-hr0]
     ·rw [<-HN.out.1];exact hR2.move kx (fun k hf ho=>hf.2 (hR2.cellOwn k ho)) (fun k hf hs'=>hf.2 (hS2 k hs').2) (fun k h=>h) (fun k h=>Nat.lt_of_lt_of_le (hR2.inS k h) kx.size) hR2.notS
    case stop=>
     rintro D c T pre W1 W hD hpre hX hT hk hd;have hX2:=hX.step H8.out.r4.lt H8.out.r5.lt hk;obtain⟨rfl,kX,hTge,hb4,hb5,hne⟩:=hX2;have hTy4:rb≠gb+1+1/\rb≠gb+1:=⟨fun e=>hTy.2.2.1 e.symm,fun e=>hTy.2.1 e.symm⟩;have hm1:Marks w8.heap.size W [{target:= .collected D,args:=#[]}]:=Marks.push (Marks.nil w8.heap.size w8) (fun k o h ho=>(kX.block k (lt_of_block h) (fun e=>by
      have hcb:fA w8 k:=by
       rcases e with e|e|e
       ·rw [e];exact HR8.out.cellOwn rb (.inl rfl)
       ·rw [e];exact⟨_,H8.out.r4,rfl⟩
       ·rw [e];exact⟨_,H8.out.r5,rfl⟩
      obtain⟨o',h1,h2⟩:=hcb;rw [h1]at h;cases h;rw [h2]at ho;cases ho)).trans h) hD hD hd
     have hxp:bB hn [] (L.map fun V=>bN (aB ls) V hs)=bB hn [] (gF ls hs pre):=by
      obtain⟨rest,er⟩:pre.map Prod.snd<+:L:=hpre;have e1:(L.map fun V=>bN (aB ls) V hs)=gF ls hs pre++rest.map fun V=>bN (aB ls) V hs:=by rw [<-er,List.map_append,List.map_map];rfl
      rw [e1,rK hn _ _ _ hne]
     have HZ:=qH (nIX kX (nIX hb4 (nIX hb5 (nIX hne (nIX hm1 hxp)))));clear kX hb4 hb5 hne hm1 hxp hX hk hd hD hpre hTge hT;refine wpIn_wide.2 ?_;go_wp2_with fail
     obtain⟨kX,hb4,hb5,hne,hm1,hxp⟩:=HZ.out;have hx8:=H8.out.ext.size;have hglo:=HG.out;rw [EQ.out];have hlor:=HLo.out.2.1;refine tO (lo:=w8.heap.size) hm1 (H8.out.ext.trans' kX fun i hi hf=>by rcases hf with hf|hf|hf<;>omega) hx8 rfl rfl hb4 hb5 fun w' hx' kx=> .inr (.inr (.inr ⟨HC.out,HA.out,rfl,(bB hn [] (gF ls hs pre)).1,(bB hn [] (gF ls hs pre)).2,?_,.inl ⟨hne,rfl⟩⟩));rw [<-HN.out.1];exact hxp
  ·go_wp2_with fail
   exact HEX.out w5 _ 2 H5.out.2.1 H5.out.2.2.1 H5.out.2.2.2 rfl rfl fun w'=> .inr (.inl ⟨HC.out,HA.out,rfl⟩)
 ·have hc':((cR:Int)==0)=false:=by simp;omega
  have HNc:=qH hc;clear hc;go_wp2_with fail
  exact HEX.out w4 _ cR H4.out.2.1 H4.out.2.2.1 H4.out.2.2.2 rfl rfl fun w'=> .inl ⟨by rw [HC.out];exact HNc.out,by rw [HC.out]⟩
theorem aHf:cW Tryz.prog 69 34 1 24 (.slice none 0 0):=⟨by kernel_rfl,by kernel_rfl,rfl,by decide⟩
def aIm(x:XB):Value:= .slice x.1.1 x.1.2.1 x.1.2.2
def GotRow(W:World)(M:Nat->Prop)(x:XB):Prop:=x.1.2=(x.2.length,x.2.length)/\((x.1.1=none/\x.2= [])\/∃g rest,x.1.1=some ⟨g,0,none⟩/\Blk W g (strs x.2++rest) 9/\M g)
theorem GotRow.kp{W W':World}{M F M':Nat->Prop}{x:XB}(h:GotRow W M x)(hk:Kp F W W')(hF:∀g cs,Blk W g cs 9->M g->¬F g)(hM:∀g,g<W.heap.size->M g->M' g):GotRow W' M' x:=by
 obtain⟨h1,h2|⟨g,rest,h2,h3,h4⟩⟩:=h
 ·exact⟨h1,.inl h2⟩
 ·exact⟨h1,.inr ⟨g,rest,h2,h3.kp hk (hF g _ h3 h4),hM g h3.lt h4⟩⟩
structure GotI(w8:World)(b:Nat)(T:Nat->Prop)(pre:List XB)(W:World):Prop where
 kp:Kp (fun k=>k=b) w8 W
 ge:∀k,T k->w8.heap.size≤k
 val:∃v,Blk W b [v] 69/\Row W 34 1 v pre.length (pre.map aIm) (fun g=>w8.heap.size≤g/\¬T g)
 rows:∀x∈pre,GotRow W (fun g=>w8.heap.size≤g/\¬T g) x
section
variable {w8 W1 W:World}{b:Nat}{T T':Nat->Prop}{pre:List XB}
theorem GotI.step(h:GotI w8 b T pre W1)(hb:b<w8.heap.size)(hk:Kp T W1 W)(hT:∀k,T' k->vH T W1 W k):GotI w8 b T' pre W:=by
 obtain⟨h1,h2,⟨v,h3,h4⟩,hr⟩:=h;have hs1:=h1.size;have hM:∀g,g<W1.heap.size->(w8.heap.size≤g/\¬T g)->w8.heap.size≤g/\¬T' g:=fun g hg hm=>⟨hm.1,fun ht=>by
  rcases hT g ht with h|h
  ·exact hm.2 h
  ·omega⟩
 refine⟨h1.trans' hk fun i hi hf=>absurd (h2 i hf) (by omega),fun k hk'=>?_,⟨v,h3.kp hk fun hf=>by have:=h2 b hf;omega,?_⟩,fun x hx=>(hr x hx).kp hk (fun g _ _ hm=>hm.2) hM⟩
 ·rcases hT k hk' with h|h
  ·exact h2 k h
  ·omega
 ·have h5:=h4.kp' hk fun g hg hM hf=>hM.2 hf;obtain⟨q1,q2|⟨g,cap,rest,a,hm,c,d⟩⟩:=h4
  ·obtain⟨q3,q4⟩:=q2;exact⟨q1,.inl ⟨q3,q4⟩⟩
  ·obtain⟨r1,⟨r2,_⟩|⟨g',cap',rest',a',hm',c',d'⟩⟩:=h5
   ·rw [a]at r2;cases r2
   ·have hgg:g'=g:=by rw [a]at a';cases a';rfl
    exact⟨r1,.inr ⟨g',cap',rest',a',hM g' (by rw [hgg];exact c.lt) hm',c',d'⟩⟩
theorem GotI.put(h:GotI w8 b T pre W)(hb:b<w8.heap.size){l:Nat}{o o':Obj}(hl:w8.heap.size≤l)(ho:W.heap[l]?=some o)(hc:o.isCells=false):GotI w8 b T pre (W.putObj l o'):=by
 obtain⟨h1,h2,⟨v,h3,h4⟩,hr⟩:=h;have hk:Kp (fun k=>k=l) W (W.putObj l o'):=Kp.putF (F:=fun k=>k=l) rfl _;have hne:∀g cs e,Blk W g cs e->¬g=l:=fun g cs e hb' e'=>by unfold Blk at hb';rw [e',ho]at hb';cases hb';cases hc
 refine⟨h1.trans' hk fun i hi hf=>by have e:i=l:=hf;omega,h2,⟨v,h3.kp hk fun e=>by have e':b=l:=e;omega,h4.kp' hk fun g hg _ e=>?_⟩,fun x hx=>(hr x hx).kp hk (fun g cs hb' _=>hne g cs _ hb') fun _ _ h=>h⟩;obtain⟨cs,hb'⟩:=aV h4 hg;exact hne g cs _ hb' e
theorem GotI.start(h:Blk w8 b [.slice none 0 0] 69):GotI w8 b (fun _=>False) [] w8:=
 ⟨Kp.refl _,fun k h=>h.elim,⟨_,h,Row.nil _ _ _ _⟩,fun x hx=>by simp at hx⟩
theorem GotI.round{v v':Value}{X:World}{x:XB}{Z:Nat->Prop}(h:GotI w8 b T pre W)(hb:b<w8.heap.size)(hTlt:∀k,T k->k<W.heap.size)(hZ:∀k,Z k->b<k/\k<w8.heap.size)(hv:Blk W b [v] 69)(hx:GotRow W (fun g=>w8.heap.size≤g/\¬T g) x)(hk:Kp (fun k=>k=b\/v.ownBlock=some k) W X)(hB:Blk X b [v'] 69)(hr:Row X 34 1 v' (pre.length+1) (pre.map aIm++ [aIm x]) (fun g=>v.ownBlock=some g\/W.heap.size≤g)):
 KeepsFrom w8.heap.size W X/\Kp (fun k=>¬fY Z T k) W X/\GotI w8 b T (pre++ [x]) X:=by
 obtain⟨h1,h2,⟨v0,h3,h4⟩,hro⟩:=h;have e0:v0=v:=by unfold Blk at h3 hv;rw [h3]at hv;cases hv;rfl
 subst e0;have hsz:=h1.size;have hno:∀k,(k=b\/v0.ownBlock=some k)->¬T k/\(k=b\/w8.heap.size≤k):=fun k hk=>by
  rcases hk with h|h
  ·exact⟨fun ht=>by have:=h2 k ht;omega,.inl h⟩
  ·exact⟨(h4.block k h).2,.inr (h4.block k h).1⟩
 have hns:∀g cs,Blk W g cs 9->¬(g=b\/v0.ownBlock=some g):=fun g cs hg e=>by
  rcases e with e|e
  ·rw [e]at hg;exact absurd (aQ hg h3) (by decide)
  ·obtain⟨cs2,hb2⟩:=aV h4 e;exact absurd (aQ hg hb2) (by decide)
 refine⟨⟨hk.size,fun k o hB2 hk2 ho=>(hk.block k (lt_of_block hk2) fun hf=>?_).trans hk2⟩,hk.mono fun k hk2 hf hz=>?_,⟨h1.trans' hk fun k hk2 hf=>?_,h2,⟨v',hB,?_⟩,fun y hy=>?_⟩⟩
 ·rcases hf with e|e
  ·unfold Blk at h3;rw [e,h3]at hk2;cases hk2;cases ho
  ·obtain⟨cs,hb'⟩:=aV h4 e;unfold Blk at hb';rw [hb']at hk2;cases hk2;cases ho
 ·rcases hz with hz|hz
  ·exact(hno k hf).1 hz
  ·have:=hZ k hz;rcases(hno k hf).2 with h|h<;>omega
 ·rcases(hno k hf).2 with h|h
  ·exact h
  ·omega
 ·rw [List.length_append,List.length_singleton,List.map_append];refine hr.mono fun g hg=>?_;rcases hg with hg|hg
  ·exact h4.block g hg
  ·exact⟨by omega,fun ht=>by have:=hTlt g ht;omega⟩
 ·rcases List.mem_append.1 hy with hy|hy
  ·exact(hro y hy).kp hk (fun g cs hb' _=>hns g cs hb') fun _ _ h=>h
  ·obtain rfl:=List.mem_singleton.1 hy;exact hx.kp hk (fun g cs hb' _=>hns g cs hb') fun _ _ h=>h
theorem GotI.rowsIn(h:GotI w8 b (fun _=>False) pre W)(hl:∀x∈pre,x.2.length≤1048576):∃v ao cap,v= .slice ao pre.length cap/\Blk W b [v] 69/\RowsIn (fun _=>True) W ao (pre.map (·.2)):=by
 obtain⟨h1,h2,⟨v,h3,h4⟩,hr⟩:=h;obtain⟨ao,cap,ev,hc,_⟩:=h4.shape;subst ev;refine⟨_,ao,cap,rfl,h3,pre,rfl,hc,fun _ _=>trivial,fun x hx=>⟨?_,by have:=hl x hx;omega,fun _ _=>trivial⟩⟩;obtain⟨q1,q2⟩:=hr x hx;have e2:x.1.2.1=x.2.length:=by rw [q1]
 refine⟨e2,?_⟩;rcases q2 with⟨_,q3⟩|⟨g,rest,q3,q4,_⟩
 ·rw [q3];exact CellsAt.nil _ _
 ·rw [q3];exact CellsAt.pre q4
end
theorem GvRow.got{w8 W1 W:World}{T':Nat->Prop}{x:XB}(h:GvRow W1 T' W x)(hs:w8.heap.size≤W1.heap.size):GotRow W (fun g=>w8.heap.size≤g/\¬T' g) x:=by
 obtain⟨h1,h2|⟨g,rest,h2,h3,h4,h5⟩⟩:=h
 ·exact⟨h1,.inl h2⟩
 ·exact⟨h1,.inr ⟨g,rest,h2,h3,by omega,h5⟩⟩
end
section
open Go.RowKit Go.Shelf
def ofV:Option ByteArray->Value
 |some y=> .tuple #[.string y,.bool true]
 |none=> .tuple #[.string ⟨#[]⟩,.bool false]
def OfTo(w0:World)(N:List ByteArray)(s:ByteArray)(n:Nat)(iv:Value)(w:World):Prop:=∃i:Nat,i≤n/\iv= .int .i64 i/\Hid (∀x∈N.take i,x≠s)/\Hid (Ext w0 w)
set_option maxHeartbeats 1000000 in
theorem aBh(e:bV)(s:ByteArray)(na va:Option Addr)(n nc vc:Nat)(w:World)(he:EnvOk e)(hn:n=e.1.length)(h1:CellsAt w na (strs e.1))(h2:CellsAt w va (strs e.2))(hl:n≤1048576):
 Calls Tryz.prog 111 #[.agg #[.slice na n nc,.slice va n vc],.string s] w (RetN w fun w' v=>v=ofV (ofE e s)):=by
 have HN:=qH (nIX he (nIX hn (nIX h1 h2)));clear he hn h1 h2;go_enter Tryz.func111,Tryz.ntmps111;obtain⟨w1,e1⟩:=nm (w.alloc (.cells #[.slice na n nc,.slice va n vc] 111));obtain⟨g0,eg0⟩:=nm w.heap.size;have hB:=bNX eg0 e1;have hx1:Ext w w1:=xAX e1;have H1:=qH (nIX hx1 hB);clear hx1 hB;go_wp2;clear e1 eg0;go_loopw [6] (fun iv wr=>OfTo w1 e.1 s n iv wr) (fun iv _=>n- (intOf iv).toNat)
 case atStart=>exact⟨0,Nat.zero_le _,rfl,qH (by simp),qH (Kp.refl _)⟩
 case round=>
  obtain⟨i,hi,rfl,hno,hex⟩:=hrel;have hb2:=H1.out.2.ext hex.out;have c0:=hb2.c0;have c1:=hb2.c1;clear hb2;by_cases hlt:i<n
  ·obtain⟨x,hx⟩:∃x,e.1[i]?=some x:=⟨_,qG (by have:=HN.out.2.1;omega)⟩;obtain⟨nb,no,ena,n0⟩:=HN.out.2.2.1 i (.string x) (by simp [strs,hx]);subst ena;replace n0:=hex.out.cell (H1.out.1.cell n0 id) id;have HX:=qH hx;clear hx;by_cases hs:x=s
   ·subst hs;have hq:=vV x;obtain⟨y,hy⟩:∃y,e.2[i]?=some y:=⟨_,qG (by have:=HN.out.2.1;have:=HN.out.1.len;omega)⟩;obtain⟨vb,vo,eva,v0⟩:=HN.out.2.2.2 i (.string y) (by simp [strs,hy]);subst eva;replace v0:=hex.out.cell (H1.out.1.cell v0 id) id;have HF:=qH (show ofE e x=some y from(xH HN.out.1).2 ⟨i,HX.out,hy⟩);clear hy;go_wp2;go_ret2;exact RetN.mk (H1.out.1.trans hex.out) (by rw [HF.out];rfl)
   ·have hq:=vU hs;have HS:=qH hs;clear hs;go_wp2;go_roundw
    case rel=>
     refine⟨i+1,by omega,nMX,qH fun z hz=>?_,hex⟩;rw [List.take_add_one,HX.out,List.mem_append]at hz;rcases hz with hz|hz
     ·exact hno.out z hz
     ·simp at hz;subst hz;exact HS.out
    case measure=>simp [intOf];omega
  ·have HF:=qH (show ofE e s=none from xI.2 fun hm=>hno.out s (by rw [List.take_of_length_le (by have:=HN.out.2.1;omega)];exact hm) rfl);go_wp2;go_ret2;exact RetN.mk (H1.out.1.trans hex.out) (by rw [HF.out];rfl)
end
section
open Go.RowKit Go.Shelf
attribute [local go_sem] Oper.semAt_some
theorem aKq{P:Program}{t e:TypeId}{k bytes:Nat}{z:Value}(E:cW P t e k bytes z){l:List Oper}{a:Act}{w:World}{Q:Exit->Act->World->Prop}{o:Oper}{K:Act->World->Prop}{El:Prop}(hgd:o.guard=none)(s x:Operand)
 (ho:o.op= .call {callee:= .builtin .append,args:=#[s,x],argTypes:=#[t,t]})
 {v:Value}{n:Nat}{xs:List Value}{M:Nat->Prop}(hs:a.eval s=v)(hr:Row w e k v n xs M)
 {ao:Option Addr}{m c:Nat}{news:List Value}(hx:a.eval x= .slice ao m c)(hsrc:CellsAt w ao news)(hl:news.length=m*k)(h1:∀u∈news,u.oneCell'=true)
 (hb:(n+m)*bytes≤140737488355328)(h63:n+m≤maxLen)
 (h:∀v' w',Row w' e k v' (n+m) (xs++news) (fun g=>v.ownBlock=some g\/w.heap.size≤g)->Kp (fun g=>v.ownBlock=some g) w w'->K (a.put o.dst v') w'):
 if Region.wanted o (yielded l.toArray a.tmps)=true then Oper.wp P o a w K Q else El:=by
 obtain⟨v',w',hrun,h2,h3,h4⟩:=pG (P:=P) E o.type hr hl hsrc h1 hb h63 (c:=c);exact aEz hgd s x ho hs hx hrun (h v' w' h2 h3)
theorem yK{e:bV}{ts:List aE}{x:List ByteArray}{i:Nat}(h:bU e ts x i=none):∀d,bU e ts x (i+d)=none
 |0=>h
 |d+1=>by show bU e ts x (i+d+1)=none;unfold bU;rw [yK h d]
theorem aG5{e f:bV}{ts:List aE}{x:List ByteArray}{i:Nat}{t:aE}(h:bU e ts x i=some f)(ht:ts[i]?=some t):bU e ts x (i+1)=gV f t (bK x i):=by show(match bU e ts x i,ts[i]? with|some f,some t=>gV f t (bK x i)|_,_=>none)=_;rw [h,ht]
theorem aCr(a:List ByteArray)(t:aE):(bI a t).length≤a.length+1:=by
 unfold bI;split
 ·rw [List.length_append];exact Nat.le_refl _
 ·exact Nat.le_succ _
theorem oG:∀(ts:List aE) (a:List ByteArray),(cE a ts).length≤a.length+ts.length
 | [],a=>Nat.le_refl _
 |t::ts,a=>by have h1:=oG ts (bI a t);have h2:=aCr a t;show(cE (bI a t) ts).length≤_;rw [List.length_cons];omega
structure EnvAt(w0 W:World)(f:bV)(vn vv:Value):Prop where
 names:Row W 9 1 vn f.1.length (strs f.1) (New w0)
 vals:Row W 9 1 vv f.1.length (strs f.2) (New w0)
 apart:∀g,vn.ownBlock=some g->vv.ownBlock≠some g
theorem EnvAt.ext{w0 W W':World}{f:bV}{vn vv:Value}(h:EnvAt w0 W f vn vv)(hx:Ext W W'):EnvAt w0 W' f vn vv:=⟨h.names.ext hx,h.vals.ext hx,h.apart⟩
theorem nB:9≠111:=by decide
theorem EnvAt.kp{w0 W W':World}{f:bV}{vn vv:Value}{F:Nat->Prop}{gf:Nat}{cs:List Value}(h:EnvAt w0 W f vn vv)(hk:Kp F W W')(hF:∀k,F k->k=gf)(hb:Blk W gf cs 111):EnvAt w0 W' f vn vv:=
 ⟨h.names.kp' hk fun g hg _ e=>by
  obtain⟨cs',hb'⟩:=h.names.blkOf hg;rw [hF g e]at hb';exact nB (cF hb' hb),h.vals.kp' hk fun g hg _ e=>by
  obtain⟨cs',hb'⟩:=h.vals.blkOf hg;rw [hF g e]at hb';exact nB (cF hb' hb),h.apart⟩
def FitsS(w0 W:World)(g3 gf:Nat)(ev av:List Value)(f:bV)(vn vv:Value):Prop:=Ext w0 W/\Blk W g3 ev 111/\Blk W (g3+1) av 24/\Blk W (g3+1+1) [.slice none 0 0,.slice none 0 0] 111/\Blk W gf [vn,vv] 111/\EnvAt w0 W f vn vv
theorem FitsS.ext{w0 W W':World}{g3 gf:Nat}{ev av:List Value}{f:bV}{vn vv:Value}(h:FitsS w0 W g3 gf ev av f vn vv)(hx:Ext W W'):FitsS w0 W' g3 gf ev av f vn vv:=⟨h.1.trans hx,h.2.1.ext hx,h.2.2.1.ext hx,h.2.2.2.1.ext hx,h.2.2.2.2.1.ext hx,h.2.2.2.2.2.ext hx⟩
def aO7(w0:World)(e:bV)(ts:List aE)(x:List ByteArray)(g3 gf:Nat)(ev av:List Value)(n:Nat)(iv:Value)(W:World):Prop:=
 ∃i:Nat,i≤n/\iv= .int .i64 i/\∃f vn vv,Hid (bU e ts x i=some f)/\Hid (FitsS w0 W g3 gf ev av f vn vv)
def FitsV(w w':World)(e:bV)(ts:List aE)(x:List ByteArray)(ev v:Value):Prop:=match bU e ts x ts.length with
 |none=>v= .tuple #[ev,.bool false]
 |some f=>∃vn vv,v= .tuple #[.agg #[vn,vv],.bool true]/\EnvAt w w' f vn vv
theorem yI{w W:World}{g5:Nat}{tmps:Array Value}{b:Bool}{v0 v1:Value}{P:World->Value->Prop}(hB:Blk W g5 [.slice none 0 0,.slice none 0 0] 111)(hx:Ext w W)(hlo:w.heap.size≤g5)(t6:tmps.getD 6 undef= .pointer (some ⟨g5,0,none⟩))(t7:tmps.getD 7 undef= .bool b)
 (hP:∀X,Kp (fun k=>k=g5) W X->P X (.tuple #[.agg #[v0,v1],.bool b])):bodyPost Tryz.prog Tryz.f174 (RetN w P) .ret {tmps:=tmps,defers:= []} ((W.setCell ⟨g5,0,none⟩ v0).setCell ⟨g5,1,none⟩ v1):=by
 obtain⟨X,eX⟩:=nm ((W.setCell ⟨g5,0,none⟩ v0).setCell ⟨g5,1,none⟩ v1);have hBX:Blk X g5 [v0,v1] 111:=by rw [<-eX];exact(hB.set 0 _).set 1 _
 have kX:Kp (fun k=>k=g5) W X:=by rw [<-eX];exact kSb
 have d0:=hBX.c0;have d1:=hBX.c1;have t6':tmps[6]?.getD undef= .pointer (some ⟨g5,0,none⟩):=by simpa using t6
 have t7':tmps[7]?.getD undef= .bool b:=by simpa using t7
 rw [eX];refine bodyPost_ret (v:= .tuple #[.agg #[v0,v1],.bool b]) (by simp [results,Tryz.f174,go_sem,t6',t7',d0,d1]) rfl ?_;exact RetN.mk (hx.trans' kX fun i hi e=>by have e':i=g5:=e;omega) (hP X kX)
theorem aKh{w wb w11:World}{g3 gf xb:Nat}{xo:Nat}{ev av:List Value}{f:bV}{st y:ByteArray}{fl:Nat}{a9 ga a11:Option Addr}{c9 gc c11:Nat}
 (h:(Ext w wb/\Blk wb g3 ev 111/\Blk wb (g3+1) av 24/\Blk wb (g3+1+1) [.slice none 0 0,.slice none 0 0] 111)/\Blk wb gf [.slice a9 (fl+1) c9,.slice ga fl gc] 111/\Row wb 9 1 (.slice a9 (fl+1) c9) (fl+1) (strs (f.1++ [st])) (New w)/\Row wb 9 1 (.slice ga fl gc) fl (strs f.2) (New w)/\wb.cell? ⟨xb,xo,none⟩=some (.string y))
 (hap:∀g,(Value.slice a9 (fl+1) c9).ownBlock=some g->(Value.slice ga fl gc).ownBlock≠some g)(hxb:xb<w.heap.size)
 (hr:Row w11 9 1 (.slice a11 (fl+1) c11) (fl+1) (strs f.2++ [.string y]) (fun g=>(Value.slice ga fl gc).ownBlock=some g\/ (wb.drew.alloc (.cells #[.string y] 9)).heap.size≤g))(hk:Kp (fun g=>(Value.slice ga fl gc).ownBlock=some g) (wb.drew.alloc (.cells #[.string y] 9)) w11):
 (Ext w w11/\Blk w11 g3 ev 111/\Blk w11 (g3+1) av 24/\Blk w11 (g3+1+1) [.slice none 0 0,.slice none 0 0] 111)/\(∀g,(Value.slice a9 (fl+1) c9).ownBlock=some g->(Value.slice a11 (fl+1) c11).ownBlock≠some g)/\Blk w11 gf [.slice a9 (fl+1) c9,.slice ga fl gc] 111/\Row w11 9 1 (.slice a9 (fl+1) c9) (fl+1) (strs (f.1++ [st])) (New w)/\Row w11 9 1 (.slice a11 (fl+1) c11) (fl+1) (strs (f.2++ [y])) (New w)/\True/\w11.cell? ⟨xb,xo,none⟩=some (.string y):=by
 obtain⟨⟨hx,b3,b4,b5⟩,bf,hn,hv,hc⟩:=h;have xa:Ext wb (wb.drew.alloc (.cells #[.string y] 9)):=(Kp.refl wb).drew.alloc _;generalize wb.drew.alloc (.cells #[.string y] 9)=wa at hr hk xa;have hva:=hv.ext xa;have hbl:∀{k cs},Blk wb k cs 111->Blk w11 k cs 111:=fun hb=>(hb.ext xa).kp hk fun e=>by obtain⟨cs',hb'⟩:=hva.blkOf e;exact nB (cF hb' (hb.ext xa))
 have hblA:∀{k cs},Blk wb k cs 24->Blk w11 k cs 24:=fun hb=>(hb.ext xa).kp hk fun e=>by obtain⟨cs',hb'⟩:=hva.blkOf e;exact(by decide:9≠24) (cF hb' (hb.ext xa))
 refine⟨⟨(hx.trans xa).trans' hk fun i hi e=>?_,hbl b3,hblA b4,hbl b5⟩,fun g hg hg2=>?_,hbl bf,(hn.ext xa).kp' hk fun g hg _ e=>hap g hg e,?_,trivial,hk.cell (xa.cell hc id) fun e=>?_⟩
 ·have h1:w.heap.size≤i:=hva.block i e;omega
 ·rcases hr.block g hg2 with h|h
  ·exact hap g hg h
  ·have:=(hn.ext xa).ltB hg;omega
 ·have h:=hr.mono (M':=New w) fun g h=>by
   rcases h with h|h
   ·exact hva.block g h
   ·exact Nat.le_trans (hx.trans xa).size h
  unfold strs at h ⊢;rw [List.map_append];exact h
 ·have h1:w.heap.size≤xb:=hva.block _ e;omega
set_option maxHeartbeats 16000000 in
theorem aEl(e:bV)(p:ByteArray)(ts:List aE)(x:List ByteArray)(na va ao ra:Option Addr)(m nc vc n cap rn rc:Nat)(w:World)(G:Nat->Prop)(he:EnvOk e)(hm:m=e.1.length)(h1:CellsAt w na (strs e.1))(h2:CellsAt w va (strs e.2))(hn:n=ts.length)(h:aO w G ao ts)(hr:rn=x.length)(hx:CellsAt w ra (strs x))(hle:n≤rn)(hl:m+n≤1048576)(hrl:rn≤1048576):
 Calls Tryz.prog 174 #[.agg #[.slice na m nc,.slice va m vc],.agg #[.string p,.slice ao n cap],.slice ra rn rc] w (RetN w fun w' v=>FitsV w w' e ts x (.agg #[.slice na m nc,.slice va m vc]) v):=by
 have hml:e.2.length=m:=by rw [hm];exact he.len
 have HN:=qH (nIX hn (nIX hm (nIX hr (nIX he hml))));have HC:=qH (nIX h1 (nIX h2 (nIX h hx)));obtain⟨g3,eg3⟩:=nm w.heap.size;obtain⟨w1,e1⟩:=nm ((((w.alloc (.cells #[.slice na m nc,.slice va m vc] 111)).alloc (.cells #[.string p,.slice ao n cap] 24)).alloc (.cells #[.slice none 0 0,.slice none 0 0] 111)).alloc (.cells #[.slice none 0 0,.slice none 0 0] 111));have hB3:Blk w1 g3 [.slice na m nc,.slice va m vc] 111:=by rw [<-e1,<-eg3];exact(((Blk.new w _ _).alloc _).alloc _).alloc _
 have hB4:Blk w1 (g3+1) [.string p,.slice ao n cap] 24:=by have h:=Blk.new (w.alloc (.cells #[.slice na m nc,.slice va m vc] 111)) [.string p,.slice ao n cap] 24;rw [aJ,eg3]at h;rw [<-e1];exact(h.alloc _).alloc _
 have hB5:Blk w1 (g3+1+1) [.slice none 0 0,.slice none 0 0] 111:=by have h:=Blk.new ((w.alloc (.cells #[.slice na m nc,.slice va m vc] 111)).alloc (.cells #[.string p,.slice ao n cap] 24)) [.slice none 0 0,.slice none 0 0] 111;rw [aJ,aJ,eg3]at h;rw [<-e1];exact h.alloc _
 have hB6:Blk w1 (g3+1+1+1) [.slice none 0 0,.slice none 0 0] 111:=by have h:=Blk.new (((w.alloc (.cells #[.slice na m nc,.slice va m vc] 111)).alloc (.cells #[.string p,.slice ao n cap] 24)).alloc (.cells #[.slice none 0 0,.slice none 0 0] 111)) [.slice none 0 0,.slice none 0 0] 111;rw [aJ,aJ,aJ,eg3]at h;rw [<-e1];exact h
 have hx1:Ext w w1:=by rw [<-e1];exact((((Kp.refl w).alloc _).alloc _).alloc _).alloc _
 obtain⟨gf,egf⟩:=nm (g3+1+1+1);rw [egf]at hB6;have H1:=qH (nIX hx1 (nIX hB3 (nIX hB4 (nIX hB5 (nIX hB6 egf)))));have a0:=hB3.c0;have f0:=hB6.c0;clear hx1 hB3 hB4 hB5 hB6 h1 h2 h hx hn hm hr he hml;have HG:=qH eg3;go_enter Tryz.func174,Tryz.ntmps174;go_wp2_with (first|(at_builtin;refine Halted.out ?_))
 clear e1 eg3 a0;refine Halted.mk (iN (n:=0) (m:=m) dZ rfl _ _ rfl rfl (Row.nil w1 9 1 (New w)) rfl (HC.out.1.ext H1.out.1) (by rw [eE,Nat.mul_one];exact HN.out.2.1.symm) (fun u hu=>by obtain⟨s,_,rfl⟩:=List.mem_map.1 hu;rfl) (by omega) (by unfold maxLen;omega) ?_);intro v2 w2 hr2 hk2;rw [Nat.zero_add,List.nil_append]at hr2;have x2:Ext w1 w2:=hk2.mono fun k _ h=>by cases h
 obtain⟨a2,c2,ev2,_,_⟩:=hr2.shape;subst ev2;have hb2:=H1.out.2.2.2.2.1.ext x2;obtain⟨w3,e3⟩:=nm (w2.setCell ⟨gf,0,none⟩ (.slice a2 m c2));have k3:Kp (fun k=>k=gf) w2 w3:=by rw [<-e3];exact kSa
 have hb3:Blk w3 gf [.slice a2 m c2,.slice none 0 0] 111:=by rw [<-e3];exact hb2.set 0 _
 have x2w:=H1.out.1.trans x2;have x3:Ext w w3:=x2w.trans' k3 fun i hi e=>by have e':i=gf:=e;have:=H1.out.2.2.2.2.2;have:=HG.out;omega
 have n3:g3≠gf/\g3+1≠gf/\g3+1+1≠gf:=by have:=H1.out.2.2.2.2.2;omega
 have hr3:Row w3 9 1 (.slice a2 m c2) m (strs e.1) (fun g=>w1.heap.size≤g/\g<w2.heap.size):=by
  have h:=hr2.mono (M':=fun g=>w1.heap.size≤g) fun g h=>by
   rcases h with h|h
   ·cases h
   ·exact h
  have h4:Row w2 9 1 (.slice a2 m c2) m (strs e.1) (fun g=>w1.heap.size≤g/\g<w2.heap.size):=by refine(Row.own h).mono fun g hg=>⟨h.block g hg,hr2.ltB hg⟩
  exact h4.kp' k3 fun g hg _ e=>by obtain⟨cs',hb'⟩:=hr2.blkOf hg;have e':g=gf:=e;rw [e']at hb';exact nB (cF hb' hb2)
 have H3:=qH (show Ext w w3/\(Blk w3 g3 [.slice na m nc,.slice va m vc] 111/\Blk w3 (g3+1) [.string p,.slice ao n cap] 24/\Blk w3 (g3+1+1) [.slice none 0 0,.slice none 0 0] 111)/\Blk w3 gf [.slice a2 m c2,.slice none 0 0] 111/\Row w3 9 1 (.slice a2 m c2) m (strs e.1) (fun g=>w1.heap.size≤g/\g<w2.heap.size)/\w2.heap.size≤w3.heap.size/\(g3≠gf/\g3+1≠gf/\g3+1+1≠gf)from
  ⟨x3,⟨(H1.out.2.1.ext x2).kp k3 n3.1,(H1.out.2.2.1.ext x2).kp k3 n3.2.1,(H1.out.2.2.2.1.ext x2).kp k3 n3.2.2⟩,hb3,hr3,k3.size,n3⟩)
 have y0:=hb2.c0;have y1:=hb2.free 0;have a1:=H3.out.2.1.1.c1;have f1:=hb3.c1;clear hr2 hk2 x2 hb2 k3 hb3 x2w x3 n3 hr3 f0;go_wp2_with (first|(at_builtin;refine Halted.out ?_))
 clear e3 y0 y1 a1 f1;refine Halted.mk (iN (n:=0) (m:=m) dZ rfl _ _ rfl rfl (Row.nil w3 9 1 (New w)) rfl (HC.out.2.1.ext H3.out.1) (by rw [eE,Nat.mul_one];exact HN.out.2.2.2.2) (fun u hu=>by obtain⟨s,_,rfl⟩:=List.mem_map.1 hu;rfl) (by omega) (by unfold maxLen;omega) ?_);intro v4 w4 hr4 hk4;rw [Nat.zero_add,List.nil_append]at hr4;have x4:Ext w3 w4:=hk4.mono fun k _ h=>by cases h
 obtain⟨a4,c4,ev4,_,_⟩:=hr4.shape;subst ev4;have hb4:=H3.out.2.2.1.ext x4;obtain⟨w5,e5⟩:=nm (w4.setCell ⟨gf,1,none⟩ (.slice a4 m c4));have k5:Kp (fun k=>k=gf) w4 w5:=by rw [<-e5];exact kSa
 have hb5:Blk w5 gf [.slice a2 m c2,.slice a4 m c4] 111:=by rw [<-e5];exact hb4.set 1 _
 have HE4:EnvAt w w4 e (.slice a2 m c2) (.slice a4 m c4):=by
  have hlo:∀{g:Nat},w1.heap.size≤g->w.heap.size≤g:=fun h=>Nat.le_trans H1.out.1.size h;have h2:=hr4.mono (M':=fun g=>w3.heap.size≤g) fun g h=>by
   rcases h with h|h
   ·cases h
   ·exact h
  have em:=HN.out.2.1;refine⟨?_,?_,fun g hg hg2=>?_⟩
  ·rw [<-em];exact(H3.out.2.2.2.1.ext x4).mono fun g h=>hlo h.1
  ·rw [<-em];exact h2.mono fun g h=>Nat.le_trans H3.out.1.size h
  ·have h3:=H3.out.2.2.2.1.block g hg;have h4:=h2.block g hg2;have:=H3.out.2.2.2.2.1;omega
 have H5:=qH (show Ext w w5/\(Blk w5 g3 [.slice na m nc,.slice va m vc] 111/\Blk w5 (g3+1) [.string p,.slice ao n cap] 24/\Blk w5 (g3+1+1) [.slice none 0 0,.slice none 0 0] 111)/\Blk w5 gf [.slice a2 m c2,.slice a4 m c4] 111/\EnvAt w w5 e (.slice a2 m c2) (.slice a4 m c4)from
  ⟨(H3.out.1.trans x4).trans' k5 fun i hi e=>by have e':i=gf:=e;have:=H1.out.2.2.2.2.2;have:=HG.out;omega,⟨(H3.out.2.1.1.ext x4).kp k5 H3.out.2.2.2.2.2.1,(H3.out.2.1.2.1.ext x4).kp k5 H3.out.2.2.2.2.2.2.1,(H3.out.2.1.2.2.ext x4).kp k5 H3.out.2.2.2.2.2.2.2⟩,hb5,HE4.kp k5 (fun _ h=>h) hb4⟩)
 have y0:=hb4.c1;have y1:=hb4.free 1;have HNe:=qH H3.out.2.2.2.2.2;clear hr4 hk4 x4 hb4 k5 hb5 HE4 H3;go_wp2;try rw [e5]
 clear e5 y0 y1;have HBad:=qH (show ∀(X:World) (i:Nat),i<n->bU e ts x (i+1)=none->FitsV w X e ts x (.agg #[.slice na m nc,.slice va m vc]) (.tuple #[.agg #[.slice na m nc,.slice va m vc],.bool false])from fun X i hi h=>by unfold FitsV;have h2:=yK h (ts.length- (i+1));rw [show i+1+(ts.length- (i+1))=ts.length by have:=HN.out.1;omega]at h2;rw [h2]);go_loopw [9] (fun iv wr=>aO7 w e ts x g3 gf [.slice na m nc,.slice va m vc] [.string p,.slice ao n cap] n iv wr) (fun iv _=>n- (intOf iv).toNat)
 case atStart=>exact⟨0,Nat.zero_le _,rfl,e,_,_,qH rfl,qH ⟨H5.out.1,H5.out.2.1.1,H5.out.2.1.2.1,H5.out.2.1.2.2,H5.out.2.2.1,H5.out.2.2.2⟩⟩
 case round=>
  obtain⟨i,hi,rfl,f,vn,vv,hfi,hS⟩:=hrel;have hOk:=(iI HN.out.2.2.2.1 hfi.out);have hfl:f.1.length≤m+i:=by have h1:=hOk.2.2.1;rw [h1];have h2:=oG (ts.take i) e.1;rw [List.length_take]at h2;have:=HN.out.2.1;omega
  obtain⟨fl,efl⟩:=nm f.1.length;have hEn:=hS.out.2.2.2.2.2;obtain⟨fa,fc,evn,hcn,_⟩:=hEn.names.shape;obtain⟨ga,gc,evv,hcv,_⟩:=hEn.vals.shape;rw [efl]at evn evv hfl;subst evn evv;have HO:=qH (fun(W:World) (hW:Ext wr W) (s:ByteArray)=>aBh f s fa ga fl fc gc W hOk.1 efl.symm (hcn.ext hW) (hcv.ext hW) (by omega));have HF:=qH (nIX hfi.out (nIX efl hOk));have b1:=hS.out.2.2.1.c1;have r0:=hS.out.2.2.2.1.c0;have r1:=hS.out.2.2.2.1.c1;by_cases hlt:i<n
  ·obtain⟨t,ht⟩:∃t,ts[i]?=some t:=⟨_,qG (by rw [<-HN.out.1];exact hlt)⟩;obtain⟨bt,offt,eao,t0,t1,_⟩:=cX (HC.out.2.2.1.ext hS.out.1) ht;subst eao;obtain⟨kt,st,⟨⟩⟩:=t;simp only at t0 t1;obtain⟨y,hy⟩:∃y,x[i]?=some y:=⟨_,qG (by have:=HN.out.2.2.1;omega)⟩;obtain⟨xb,xo,era,x0⟩:=HC.out.2.2.2 i (.string y) (by simp [strs,hy]);subst era;replace x0:=hS.out.1.cell x0 id;have HXy:=qH (show(strs x)[i]?=some (.string y)from by simp [strs,hy]);have hgy:bK x i=y:=by unfold bK;rw [List.getD_eq_getElem?_getD,hy];rfl
   have HT:=qH (show bU e ts x (i+1)=gV f (kt,st,()) y from by rw [<-hgy];exact aG5 hfi.out ht);obtain⟨gt,egt⟩:=nm wr.heap.size;obtain⟨wt,ewt⟩:=nm (wr.alloc (.cells #[.int .i64 kt,.string st] 38));have hgt:=bNX egt ewt;have hxt:Ext wr wt:=xAX ewt;have u0:=hgt.c0;have u1:=hgt.c1;have x1:=hxt.cell x0 id;have HX:=qH (nIX hxt hgt);have a0:=(hS.out.2.1.ext hxt).c0;have a1:=(hS.out.2.1.ext hxt).c1;have q0:=hxt.cell r0 id;have q1:=hxt.cell r1 id;have i1:(i:Int)< (n:Int):=by omega
   have i2:(i:Int)< (rn:Int):=by omega
   have i3:i<rn:=by omega
   clear ht hy hgy hgt hxt hOk hEn hcn hcv;by_cases hk3:kt=3
   ·subst hk3;by_cases hsy:st=y
    ·subst hsy;have e1:=vV st;have HNx:=qH (show bU e ts x (i+1)=some f from by rw [HT.out];unfold gV;simp);go_wp2;go_quiet (fail)
     go_wp2;go_roundw
     case rel=>exact⟨i+1,by omega,nMX,f,_,_,qH HNx.out,qH (hS.out.ext (HX.out.1.drewN _))⟩
     case measure=>simp [intOf];omega
    ·have e1:=vU hsy;have HNo:=qH (show bU e ts x (i+1)=none from by rw [HT.out];unfold gV;rw [if_pos ⟨rfl,hsy⟩]);have HB5:=qH (hS.out.2.2.2.1.ext HX.out.1);have n5:=HNe.out.2.2;have p0:=HB5.out.free 0;have p1:=HB5.out.free 1;go_wp2;go_quiet (fail)
     go_wp2;exact yI (W:=wt.drewN nq) (HB5.out.ext ((Kp.refl wt).drewN nq)) ((hS.out.1.trans HX.out.1).drewN nq) (by have:=HG.out;omega) rfl rfl fun X _=>HBad.out X i hlt HNo.out
   ·by_cases hk1:kt=1
    ·subst hk1;have h1:((1:Int)==3)=false:=by decide
     have h2:((1:Int) !=1)=false:=by decide
     have g0:=(hS.out.2.2.2.2.1.ext HX.out.1).c0;have g1:=(hS.out.2.2.2.2.1.ext HX.out.1).c1;go_wp2;go_quiet (fail)
     go_wp2_with fail
     refine(HO.out (wt.drewN nq) (HX.out.1.drewN nq) st).mono ?_;rintro e8 w8 ⟨v8,rfl,hk8,rfl⟩;have xw8:Ext wt w8:=((Kp.refl wt).drewN nq).trans hk8;have HS8:=qH (hS.out.ext (HX.out.1.trans xw8));have HGt:=qH (HX.out.2.ext xw8);have x8:w8.cell? ⟨xb,xo+i,none⟩=some (.string y):=xw8.cell x1 id;clear g0 g1 u0 u1 x1 x0 t0 t1 q0 q1 a0 a1 hk8 xw8;cases ho:ofE f st with
     |some z=>
      unfold ofV;by_cases hzy:z=y
      ·subst hzy;have e1:=vV z;have HNx:=qH (show bU e ts x (i+1)=some f from by
        rw [HT.out];unfold gV;rw [if_neg (fun h=>hk3 h.1),if_neg (fun h=>h rfl)];show(match ofE f st with|some s=>if s=z then some f else none|none=>_)=_;rw [ho];exact if_pos rfl)
       clear ho;go_wp2;go_roundw
       case rel=>exact⟨i+1,by omega,nMX,f,_,_,qH HNx.out,qH HS8.out⟩
       case measure=>simp [intOf];omega
      ·have e1:=vU hzy;have HNo:=qH (show bU e ts x (i+1)=none from by
        rw [HT.out];unfold gV;rw [if_neg (fun h=>hk3 h.1),if_neg (fun h=>h rfl)];show(match ofE f st with|some s=>if s=y then some f else none|none=>_)=_;rw [ho];exact if_neg hzy)
       have p0:=HS8.out.2.2.2.1.free 0;have p1:=HS8.out.2.2.2.1.free 1;have a0:=HS8.out.2.1.c0;have a1:=HS8.out.2.1.c1;have q0:=HS8.out.2.2.2.1.c0;have q1:=HS8.out.2.2.2.1.c1;have n5:=HNe.out.2.2;clear ho;go_wp2;exact yI HS8.out.2.2.2.1 HS8.out.1 (by have:=HG.out;omega) rfl rfl fun X _=>HBad.out X i hlt HNo.out
     |none=>
      unfold ofV;have HNx:=qH (show bU e ts x (i+1)=some (f.1++ [st],f.2++ [y])from by rw [HT.out];unfold gV;rw [if_neg (fun h=>hk3 h.1),if_neg (fun h=>h rfl)];show(match ofE f st with|some s=>if s=y then some f else none|none=>some (f.1++ [st],f.2++ [y]))=_;rw [ho]);have g0:=HS8.out.2.2.2.2.1.c0;have u1:=HGt.out.c1;have HXb:=qH (show xb<w.heap.size from by obtain⟨b',o',e',hc'⟩:=HC.out.2.2.2 i (.string y) (HXy.out);cases e';exact World.block_lt_of_cell? _ _ hc');clear ho;go_wp2_with (first|(at_builtin;refine Halted.out ?_))
      refine Halted.mk (iN (n:=fl) (m:=1) dZ rfl _ _ rfl rfl (by have h:=HS8.out.2.2.2.2.2.names;rw [HF.out.2.1]at h;exact h.alloc _) rfl (CellsAt.one w8 (.string st) 9) (by rfl) (by simp;rfl) (by omega) (by unfold maxLen;omega) ?_);intro v9 w9 hr9 hk9;obtain⟨wa,ewa⟩:=nm (w8.alloc (.cells #[.string st] 9));rw [ewa]at hr9 hk9;have xa:Ext w8 wa:=xAX ewa;obtain⟨a9,c9,ev9,_,_⟩:=hr9.shape;subst ev9;have hna:=HS8.out.2.2.2.2.2.names.ext xa;have hva:=HS8.out.2.2.2.2.2.vals.ext xa;have hap:=HS8.out.2.2.2.2.2.apart;have hbl:∀{k cs},Blk w8 k cs 111->Blk w9 k cs 111:=fun hb=>(hb.ext xa).kp hk9 fun e=>by obtain⟨cs',hb'⟩:=hna.blkOf e;exact nB (cF hb' (hb.ext xa))
      have hblA:∀{k cs},Blk w8 k cs 24->Blk w9 k cs 24:=fun hb=>(hb.ext xa).kp hk9 fun e=>by obtain⟨cs',hb'⟩:=hna.blkOf e;exact(by decide:9≠24) (cF hb' (hb.ext xa))
      have xw9:Ext w w9:=(HS8.out.1.trans xa).trans' hk9 fun i hi e=>by have h1:w.heap.size≤i:=hna.block i e;omega
      have hn9:Row w9 9 1 (.slice a9 (fl+1) c9) (fl+1) (strs (f.1++ [st])) (New w):=by
       have h:=hr9.mono (M':=New w) fun g h=>by
        rcases h with h|h
        ·exact hna.block g h
        ·exact Nat.le_trans (HS8.out.1.trans xa).size h
       unfold strs at h ⊢;rw [List.map_append];exact h
      have hv9:Row w9 9 1 (.slice ga fl gc) fl (strs f.2) (New w):=by have h:=hva.kp' hk9 fun g hg _ e=>hap g e hg;rw [HF.out.2.1]at h;exact h
      have hap9:∀g,(Value.slice a9 (fl+1) c9).ownBlock=some g->(Value.slice ga fl gc).ownBlock≠some g:=fun g hg hg2=>by
       rcases hr9.block g hg with h|h
       ·exact hap g h hg2
       ·have:=hva.ltB hg2;omega
      have x9:w9.cell? ⟨xb,xo+i,none⟩=some (.string y):=hk9.cell (xa.cell x8 id) fun e=>by have h1:w.heap.size≤xb:=hna.block _ e;have:=HXb.out;omega
      have hg9:=hbl HS8.out.2.2.2.2.1;obtain⟨wb,ewb⟩:=nm (w9.setCell ⟨gf,0,none⟩ (.slice a9 (fl+1) c9));have kb:Kp (fun k=>k=gf) w9 wb:=by rw [<-ewb];exact kSa
      have hgf:w.heap.size≤gf:=by have:=HG.out;omega
      have noS:∀{v n xs M},Row w9 9 1 v n xs M->Row wb 9 1 v n xs M:=fun hr=>hr.kp' kb fun g hg _ e=>by obtain⟨cs',hb'⟩:=hr.blkOf hg;have e':g=gf:=e;rw [e']at hb';exact nB (cF hb' hg9)
      have H10:=qH (show(Ext w wb/\Blk wb g3 [.slice na m nc,.slice va m vc] 111/\Blk wb (g3+1) [.string p,.slice (some ⟨bt,offt,none⟩) n cap] 24/\Blk wb (g3+1+1) [.slice none 0 0,.slice none 0 0] 111)/\Blk wb gf [.slice a9 (fl+1) c9,.slice ga fl gc] 111/\Row wb 9 1 (.slice a9 (fl+1) c9) (fl+1) (strs (f.1++ [st])) (New w)/\Row wb 9 1 (.slice ga fl gc) fl (strs f.2) (New w)/\wb.cell? ⟨xb,xo+i,none⟩=some (.string y)from
       ⟨⟨xw9.trans' kb fun i hi e=>by have e':i=gf:=e;omega,(hbl HS8.out.2.1).kp kb HNe.out.1,(hblA HS8.out.2.2.1).kp kb HNe.out.2.1,(hbl HS8.out.2.2.2.1).kp kb HNe.out.2.2⟩,by rw [<-ewb];exact hg9.set 0 _,noS hn9,noS hv9,kb.cell x9 fun e=>by have e':xb=gf:=e;have:=HXb.out;omega⟩)
      have HAp:=qH (nIX hap9 hgf);have y0:=hg9.c0;have y1:=hg9.free 0;have y2:wb.cell? ⟨gt,1,none⟩=wb.cell? ⟨gt,1,none⟩:=rfl;clear ewa xa hna hva hap hbl hblA xw9 hn9 hv9 hap9 x9 hg9 kb noS hr9 hk9 g0 u1 x8 hgf y2;go_wp2;try rw [ewb]
      clear ewb y0 y1;have HJ:=qH (show ∀X,Ext wb X->(fun X:World=>X.cell? ⟨gf,1,none⟩=some (.slice ga fl gc)/\X.cell? ⟨xb,xo+i,none⟩=some (.string y)) X from fun X hX=>⟨by rw [(H10.out.2.1.ext hX).cell'];rfl,hX.cell H10.out.2.2.2.2 id⟩);refine aT (fun X:World=>X.cell? ⟨gf,1,none⟩=some (.slice ga fl gc)/\X.cell? ⟨xb,xo+i,none⟩=some (.string y)) [9] (by kernel_rfl) (HJ.out _ (Kp.refl wb).drew) (fun hHeld=>?_);refine eFX 0 ?_;refine eIX 1 ?_;refine eFX 2 ?_;refine eFX 3 ?_;refine eIX 4 ?_;refine eIX 5 ?_;refine eTX 6 fun K hK=>?_;go_simp;refine hK.out _ _ (HJ.out _ ((Kp.refl wb).drew.alloc _)) fun hHeld=>?_;clear hK K;refine eTX 7 fun K hK=>?_;refine aKq (n:=fl) (m:=1) dZ rfl _ _ rfl rfl (H10.out.2.2.2.1.ext ((Kp.refl wb).drew.alloc _)) rfl (CellsAt.one wb.drew (.string y) 9) (by rfl) (by simp;rfl) (by omega) (by unfold maxLen;omega) ?_;intro v11 w11 hr11 hk11;obtain⟨a11,c11,ev11,_,_⟩:=hr11.shape;subst ev11;have HA:=qH (aKh (H10.out) (HAp.out.1) HXb.out hr11 hk11);clear hr11 hk11;refine hK.out _ _ (by exact⟨by rw [HA.out.2.2.1.cell'];rfl,HA.out.2.2.2.2.2.2⟩) fun hHeld=>?_;clear hK K;refine eFX 8 ?_;refine eLX 9 fun K hK=>?_
      (have y0:w11.cell? ⟨gf,1,none⟩=some (.slice ga fl gc):=(by rw [HA.out.2.2.1.cell'];rfl);have y1:=HA.out.2.2.1.free 1)
      go_simp;refine hK.out _ _ ?_;clear hK K;refine aK (by kernel_rfl) ?_ _;obtain⟨wz,ewz⟩:=nm (w11.setCell ⟨gf,1,none⟩ (.slice a11 (fl+1) c11));rw [ewz];have kz:Kp (fun k=>k=gf) w11 wz:=by rw [<-ewz];exact kSa
      have hbz:Blk wz gf [.slice a9 (fl+1) c9,.slice a11 (fl+1) c11] 111:=by rw [<-ewz];exact HA.out.2.2.1.set 1 _
      have HZ:=qH (show FitsS w wz g3 gf [.slice na m nc,.slice va m vc] [.string p,.slice (some ⟨bt,offt,none⟩) n cap] (f.1++ [st],f.2++ [y]) (.slice a9 (fl+1) c9) (.slice a11 (fl+1) c11)from
       ⟨HA.out.1.1.trans' kz fun i hi e=>by have e':i=gf:=e;have:=HAp.out.2;omega,HA.out.1.2.1.kp kz HNe.out.1,HA.out.1.2.2.1.kp kz HNe.out.2.1,HA.out.1.2.2.2.kp kz HNe.out.2.2,hbz,EnvAt.kp (by
        have h:=HA.out.2.2.2;refine⟨?_,?_,HA.out.2.1⟩
        ·rw [List.length_append,HF.out.2.1];exact h.1
        ·rw [List.length_append,HF.out.2.1];exact h.2.1) kz (fun _ h=>h) HA.out.2.2.1⟩)
      clear ewz kz hbz y0 y1 HA HJ hHeld;go_wp2;go_roundw
      case rel=>exact⟨i+1,by omega,nMX,_,_,_,qH HNx.out,qH HZ.out⟩
      case measure=>simp [intOf];omega
    ·have h1:(kt==3)=false:=by simp [hk3]
     have h2:(kt !=1)=true:=by simp [hk1]
     have HNx:=qH (show bU e ts x (i+1)=some f from by rw [HT.out];unfold gV;rw [if_neg (fun h=>hk3 h.1),if_pos hk1]);go_wp2;go_quiet (fail)
     go_wp2;go_roundw
     case rel=>exact⟨i+1,by omega,nMX,f,_,_,qH HNx.out,qH (hS.out.ext (HX.out.1.drewN _))⟩
     case measure=>simp [intOf];omega
  ·obtain rfl:i=n:=by omega
   have HB5:=qH hS.out.2.2.2.1;have p0:=HB5.out.free 0;have p1:=HB5.out.free 1;have g0:=hS.out.2.2.2.2.1.c0;have g1:=hS.out.2.2.2.2.1.c1;have n5:=HNe.out.2.2;go_wp2;exact yI HB5.out hS.out.1 (by have:=HG.out;omega) rfl rfl fun X kX=>by unfold FitsV;rw [<-HN.out.1,hfi.out];exact⟨_,_,rfl,hS.out.2.2.2.2.2.kp kX (fun _ h=>h) HB5.out⟩
end
section
open Go.RowKit Go.Shelf
set_option maxHeartbeats 1000000 in
theorem yP(e:bV)(k:Int)(s:ByteArray)(na va:Option Addr)(n nc vc:Nat)(w:World)(he:EnvOk e)(hn:n=e.1.length)(h1:CellsAt w na (strs e.1))(h2:CellsAt w va (strs e.2))(hl:n≤1048576):
 Calls Tryz.prog 74 #[.agg #[.slice na n nc,.slice va n vc],.agg #[.int .i64 k,.string s]] w (RetN w fun w' v=>v= .string (pS e (k,s,()))):=by
 have HO:=qH (fun(W:World) (hW:Ext w W)=>aBh e s na va n nc vc W he hn (h1.ext hW) (h2.ext hW) hl);clear he hn h1 h2;go_enter Tryz.func74,Tryz.ntmps74;obtain⟨w1,e1⟩:=nm ((w.alloc (.cells #[.slice na n nc,.slice va n vc] 111)).alloc (.cells #[.int .i64 k,.string s] 38));obtain⟨g0,eg0⟩:=nm w.heap.size;have hB:Blk w1 g0 [.slice na n nc,.slice va n vc] 111:=by rw [<-e1,<-eg0];exact(Blk.new w _ _).alloc _
 have hB2:Blk w1 (g0+1) [.int .i64 k,.string s] 38:=by have h:=Blk.new (w.alloc (.cells #[.slice na n nc,.slice va n vc] 111)) [.int .i64 k,.string s] 38;rw [aJ,eg0]at h;rw [<-e1];exact h
 have hx1:Ext w w1:=by rw [<-e1];exact((Kp.refl w).alloc _).alloc _
 have c0:=hB.c0;have c1:=hB.c1;have d0:=hB2.c0;have d1:=hB2.c1;have H1:=qH hx1;clear hx1 hB hB2;by_cases hk:k=3
 ·subst hk;go_wp2;go_ret;exact RetN.mk H1.out rfl
 ·have HK:=qH hk;go_wp2_with fail
  refine(HO.out w1 H1.out).mono ?_;rintro e' w2 ⟨v,rfl,hk2,rfl⟩;have H2:=qH (H1.out.trans hk2);clear hk2 c0 c1 d0 d1 hk;cases ho:ofE e s with
  |none=>
   have HF:=qH (show pS e (k,s,())=⟨#[]⟩from by unfold pS;rw [if_neg HK.out];show(ofE e s).getD _=_;rw [ho];rfl);clear ho;unfold ofV;go_wp2;go_ret;exact RetN.mk H2.out (by first|(rw [HF.out];done)|(rw [HF.out];rfl)|simp [HF.out])
  |some y=>
   have HF:=qH (show pS e (k,s,())=y from by unfold pS;rw [if_neg HK.out];show(ofE e s).getD _=_;rw [ho];rfl);clear ho;unfold ofV;go_wp2;go_ret;exact RetN.mk H2.out (by first|(rw [HF.out];done)|(rw [HF.out];rfl)|simp [HF.out])
end
section
theorem aG0{x:List ByteArray}{i:Nat}(h:bP x=true):(bK x i).size≤4096:=by
 unfold bK;rw [List.getD_eq_getElem?_getD];cases hx:x[i]? with
 |none=>show ByteArray.empty.size≤4096;exact Nat.zero_le _
 |some s=>
  unfold bP at h;exact of_decide_eq_true (List.all_eq_true.1 h s (List.mem_of_getElem? hx))
theorem aHm{ls:List aL}{R:Nat->aD}{V:List ByteArray}(hV:dN ls R V)(hR:∀j x,x∈R j->bP x=true):∀s∈V,s.size≤4096:=fun s hs=>by
 obtain⟨v,hv⟩:=List.mem_iff_getElem?.1 hs;have hvl:=(List.getElem?_eq_some_iff.1 hv).1;rw [hV.1]at hvl;obtain⟨l,hl,h1,hva⟩:=oD hvl;obtain⟨j,hj⟩:=List.mem_iff_getElem?.1 hl;have hh:=hV.2 j l hj;unfold mM at hh;rw [if_pos h1]at hh;obtain⟨x,hx,-,hf⟩:=hh;obtain⟨hvn,i,t,hi,ht,he⟩:=eD.1 hva;obtain⟨v',hv',e'⟩:=(hf i t hi).2 ht;have hv0:(aB ls)[v]?=some (bK (aB ls) v):=by unfold bK;rw [List.getD_eq_getElem?_getD,qG hvn];rfl
 rw [he]at hv';have:v=v':=(List.getElem?_inj hvn (dG ls)).1 (hv0.trans hv'.symm);subst this;rw [hv]at e';cases e';exact aG0 (hR j x hx)
def jW(V:List ByteArray):ByteArray:=V.foldl (fun s x=>s++x++⟨#[59]⟩) ⟨#[]⟩
theorem aGu(V:List ByteArray)(x:ByteArray):jW (V++ [x])=jW V++x++⟨#[59]⟩:=by unfold jW;rw [List.foldl_append];rfl
theorem xZ{V:List ByteArray}{i:Nat}{x:ByteArray}(h:V[i]?=some x):jW (V.take (i+1))=jW (V.take i)++x++⟨#[59]⟩:=by rw [List.take_add_one,h];exact aGu _ _
theorem aEb{V:List ByteArray}(h:∀s∈V,s.size≤4096)(i:Nat):(jW (V.take i)).size≤i*4097:=by
 induction i with
 |zero=>exact Nat.zero_le _
 |succ i ih=>
  rw [Nat.succ_mul];generalize i*4097=m at ih ⊢;cases hx:V[i]? with
  |none=>
   rw [List.take_add_one,hx,Option.toList_none,List.append_nil];exact Nat.le_trans ih (Nat.le_add_right _ _)
  |some x=>
   have h2:=h x (List.mem_of_getElem? hx);rw [xZ hx,ByteArray.size_append,ByteArray.size_append,show(⟨#[59]⟩:ByteArray).size=1 from rfl];omega
end
section
open Go.RowKit Go.Shelf
attribute [local go_sem] Oper.semAt_some
def ListI(w8:World)(b:Nat)(f:List XB->List ByteArray)(T:Nat->Prop)(pre:List XB)(W:World):Prop:=
 Kp (fun k=>k=b) w8 W/\(∀k,T k->w8.heap.size≤k)/\∃v,Blk W b [v] 34/\Row W 9 1 v (f pre).length (strs (f pre)) (fun g=>w8.heap.size≤g/\¬T g)
section
variable {w8 W1 W:World}{b:Nat}{f:List XB->List ByteArray}{T T':Nat->Prop}{pre:List XB}
theorem ListI.step(h:ListI w8 b f T pre W1)(hb:b<w8.heap.size)(hk:Kp T W1 W)(hT:∀k,T' k->vH T W1 W k):ListI w8 b f T' pre W:=by
 obtain⟨h1,h2,v,h3,h4⟩:=h;have hs1:=h1.size;refine⟨h1.trans' hk fun i hi hf=>absurd (h2 i hf) (by omega),fun k hk'=>?_,v,h3.kp hk fun hf=>by have:=h2 b hf;omega,?_⟩
 ·rcases hT k hk' with h|h
  ·exact h2 k h
  ·omega
 ·have h5:=h4.kp' hk fun g hg hM hf=>hM.2 hf;obtain⟨q1,q2|⟨g,cap,rest,a,hM,c,d⟩⟩:=h4
  ·obtain⟨q3,q4⟩:=q2;exact⟨q1,.inl ⟨q3,q4⟩⟩
  ·obtain⟨r1,⟨r2,_⟩|⟨g',cap',rest',a',hM',c',d'⟩⟩:=h5
   ·rw [a]at r2;cases r2
   ·have hgg:g'=g:=by rw [a]at a';cases a';rfl
    refine⟨r1,.inr ⟨g',cap',rest',a',⟨hM'.1,fun ht=>?_⟩,c',d'⟩⟩;rcases hT g' ht with h|h
    ·exact hM'.2 h
    ·have:=c.lt;omega
theorem ListI.put(h:ListI w8 b f T pre W)(hb:b<w8.heap.size){l:Nat}{o o':Obj}(hl:w8.heap.size≤l)(ho:W.heap[l]?=some o)(hc:o.isCells=false):ListI w8 b f T pre (W.putObj l o'):=by obtain⟨h1,h2,v,h3,h4⟩:=h;have hk:Kp (fun k=>k=l) W (W.putObj l o'):=Kp.putF (F:=fun k=>k=l) rfl _;refine⟨h1.trans' hk fun i hi hf=>by have e:i=l:=hf;omega,h2,v,h3.kp hk fun e=>by have e':b=l:=e;omega,h4.kp' hk fun g hg _ e=>?_⟩;obtain⟨cs,hb'⟩:=aV h4 hg;have e':g=l:=e;unfold Blk at hb';rw [e',ho]at hb';cases hb';cases hc
theorem ListI.start(h:Blk w8 b [.slice none 0 0] 34)(hf:f []= []):ListI w8 b f (fun _=>False) [] w8:=
 ⟨Kp.refl _,fun k h=>h.elim,_,h,by rw [hf];exact Row.nil _ _ _ _⟩
theorem ListI.round{v v':Value}{X:World}{x:XB}{s:ByteArray}{Z:Nat->Prop}(h:ListI w8 b f T pre W)(hb:b<w8.heap.size)(hTlt:∀k,T k->k<W.heap.size)(hZ:∀k,Z k->b<k/\k<w8.heap.size)(hv:Blk W b [v] 34)(hk:Kp (fun k=>k=b\/v.ownBlock=some k) W X)(hB:Blk X b [v'] 34)(hr:Row X 9 1 v' ((f pre).length+1) (strs (f pre++ [s])) (fun g=>v.ownBlock=some g\/W.heap.size≤g))(hf:f (pre++ [x])=f pre++ [s]):
 KeepsFrom w8.heap.size W X/\Kp (fun k=>¬fY Z T k) W X/\ListI w8 b f T (pre++ [x]) X:=by
 obtain⟨h1,h2,v0,h3,h4⟩:=h;have e0:v0=v:=by unfold Blk at h3 hv;rw [h3]at hv;cases hv;rfl
 subst e0;have hsz:=h1.size;have hno:∀k,(k=b\/v0.ownBlock=some k)->¬T k/\(k=b\/w8.heap.size≤k):=fun k hk=>by
  rcases hk with h|h
  ·exact⟨fun ht=>by have:=h2 k ht;omega,.inl h⟩
  ·exact⟨(h4.block k h).2,.inr (h4.block k h).1⟩
 refine⟨⟨hk.size,fun k o hB2 hk2 ho=>(hk.block k (lt_of_block hk2) fun hf=>?_).trans hk2⟩,hk.mono fun k hk2 hf hz=>?_,h1.trans' hk fun k hk2 hf=>?_,h2,v',hB,?_⟩
 ·rcases hf with e|e
  ·unfold Blk at h3;rw [e,h3]at hk2;cases hk2;cases ho
  ·obtain⟨cs,hb'⟩:=aV h4 e;unfold Blk at hb';rw [hb']at hk2;cases hk2;cases ho
 ·rcases hz with hz|hz
  ·exact(hno k hf).1 hz
  ·have:=hZ k hz;rcases(hno k hf).2 with h|h<;>omega
 ·rcases(hno k hf).2 with h|h
  ·exact h
  ·omega
 ·rw [hf,List.length_append,List.length_singleton];refine hr.mono fun g hg=>?_;rcases hg with hg|hg
  ·exact h4.block g hg
  ·exact⟨by omega,fun ht=>by have:=hTlt g ht;omega⟩
end
def uU(pre:List XB):List ByteArray:=pre.map fun x=>jW x.2
noncomputable def aEy:Code:=((Tryz.f18.body.bind cM).getD .skip)
theorem lit31(t:Array Value)(h:t.size=31):∃u:Nat->Value,(∀i,t.getD i undef=u i)/\t=#[u 0,u 1,u 2,u 3,u 4,u 5,u 6,u 7,u 8,u 9,u 10,u 11,u 12,u 13,u 14,u 15,u 16,u 17,u 18,u 19,u 20,u 21,u 22,u 23,u 24,u 25,u 26,u 27,u 28,u 29,u 30]:=by refine⟨fun i=>t.toList.getD i undef,fun i=>by simp [Array.getD_eq_getD_getElem?,List.getD_eq_getElem?_getD],?_⟩;apply Array.ext';have:=lH t.toList 31 (by simpa using h);exact this
def aO0(X:World)(V:List ByteArray)(n:Nat)(sv iv:Value)(W:World):Prop:=∃i:Nat,i≤n/\iv= .int .i64 i/\sv= .string (jW (V.take i))/\Hid (Ext X W)
set_option maxHeartbeats 4000000 in
theorem aHh{X:World}{b5 n l:Nat}{xa:Option Addr}{xc:Nat}{V ss:List ByteArray}{v:Value}{M:Nat->Prop}{t:Array Value}{Qn:World->Prop}
 (h5:Blk X b5 [v] 34)(hr:Row X 9 1 v n (strs ss) M)(hn:n≤1048576*1048576)(hV:CellsAt X xa (strs V))(hVl:V.length≤1048576)(hVs:∀s∈V,s.size≤4096)
 (hz:t.size=31)(t5:t.getD 5 undef= .pointer (some ⟨b5,0,none⟩))(t6:t.getD 6 undef= .slice xa V.length xc)
 (hQn:∀X',Kp (fun k=>k=b5\/v.ownBlock=some k) X X'->(∃v',Blk X' b5 [v'] 34/\Row X' 9 1 v' (n+1) (strs (ss++ [jW V])) (fun g=>v.ownBlock=some g\/X.heap.size≤g))->Qn X'):
 aEy.wpIn (Fence.wide.inRound l) 2 Tryz.prog (fU Qn fun _=>False) {tmps:=t,defers:= []} X:=by
 obtain⟨u,hu,rfl⟩:=lit31 t hz;have e5:=(hu 5).symm.trans t5;have e6:=(hu 6).symm.trans t6;rw [e5,e6];clear hz t5 t6 e5 e6 hu;obtain⟨oa,oc,ev,_,_⟩:=hr.shape;subst ev;have HQ:=qH hQn;have H0:=qH (nIX h5 hr);have HV:=qH (nIX hV hVs);obtain⟨m,em⟩:=nm V.length;rw [em]at hVl ⊢;have HM:=qH em;clear hQn h5 hr hV hVs em;conv=>arg 4;whnf
 gi_wp2;gi_loopw [7,8] (fun sv iv wr=>aO0 X V m sv iv wr) (fun _ iv _=>m- (intOf iv).toNat)
 case atStart=>exact⟨0,Nat.zero_le _,rfl,rfl,qH (Kp.refl _)⟩
 case round=>
  obtain⟨i,hi,rfl,rfl,hex⟩:=hrel;by_cases hlt:i<m
  ·obtain⟨x,hx⟩:∃x,V[i]?=some x:=⟨_,qG (by rw [HM.out];exact hlt)⟩;obtain⟨xb,xo,exa,xc0⟩:=(HV.out.1.ext hex.out) i (.string x) (by simp [strs,hx]);subst exa;have HX:=qH (xZ hx);have hs1:=aEb HV.out.2 i;have hs2:=HV.out.2 x (List.mem_of_getElem? hx);obtain⟨sa,esa⟩:=nm (jW (V.take i));rw [esa]at HX hs1 ⊢;have hadd1:(Op.stringOp .add sa x).run Tryz.prog wr= .ok (.string (sa++x)) wr:=run_string_add_sum _ _ _ (by omega);have hadd2:(Op.stringOp .add (sa++x) ⟨#[59]⟩).run Tryz.prog wr= .ok (.string (sa++x++⟨#[59]⟩)) wr:=run_string_add_sum _ _ _ (by rw [ByteArray.size_append];have h3:(⟨#[59]⟩:ByteArray).size=1:=rfl;omega);have i1:(i:Int)< (m:Int):=by omega
   clear hx hs1 hs2 esa;gi_wp2;go_roundw
   case rel=>exact⟨i+1,by omega,nMX,by rw [HX.out],hex⟩
   case measure=>simp [intOf];omega
  ·obtain rfl:i=m:=by omega
   have hall:V.take i=V:=List.take_of_length_le (by rw [HM.out];exact Nat.le_refl _);rw [hall];obtain⟨s,es⟩:=nm (jW V);rw [es]at HQ ⊢;have b0:=(H0.out.1.ext hex.out).c0;gi_wp2_with (first|(gi_at_builtin;refine Halted.out ?_))
   refine Halted.mk (aCv dZ rfl _ _ rfl (F:=fun k=>(Value.slice oa n oc).ownBlock=some k) (w0:=X) (M:=fun g=>(Value.slice oa n oc).ownBlock=some g\/X.heap.size≤g) ((Ext.kp hex.out).alloc _) (fun g hg hlt2=>by rcases hg with hg|hg;exact hg;omega) (fun g hg=> .inr (by have:=hex.out.size;have h2:(wr.alloc _).heap.size≤g:=hg;rw [aJ]at h2;omega)) rfl (((H0.out.2.ext hex.out).alloc _).own.mono fun g hg=> .inl hg) rfl (by rfl) (CellsAt.one wr (.string s) 9) (by simp [Value.oneCell']) (by omega) (by unfold maxLen;omega) ?_);intro v6 w6 hr6 hk6 hk6b _ _;have hB6:Blk w6 b5 [.slice oa n oc] 34:=((H0.out.1.ext hex.out).alloc _).kp hk6b fun hg=>by obtain⟨cs,hb⟩:=aV (H0.out.2.ext hex.out) hg;exact absurd (aQ hb (H0.out.1.ext hex.out)) (by decide)
   have c6:=hB6.c0;have f6:=hB6.free 0;obtain⟨la,lcap,elv,_,_⟩:=hr6.shape;subst elv;have H6:=qH (nIX hr6 (nIX hk6 hB6));clear hr6 hk6 hk6b hB6 b0;gi_wp2;have ks:Kp (fun k=>k=b5) w6 (w6.setCell ⟨b5,0,none⟩ (.slice la (n+1) lcap)):=kSa;refine HQ.out _ ((H6.out.2.1.mono fun k _ h=>Or.inr h).trans (ks.mono fun k _ h=>Or.inl h)) ⟨_,H6.out.2.2.set 0 _,?_⟩;have e:strs (ss++ [s])=strs ss++ [.string s]:=by simp [strs]
   rw [e];refine H6.out.1.kp' ks fun g hg _ e2=>?_;obtain⟨cs,hb⟩:=aV H6.out.1 hg;rw [show g=b5 from e2]at hb;exact absurd (aQ hb H6.out.2.2) (by decide)
theorem aHo{S:Nat->Prop}{w:World}{v:Value}{E:List Ent}(hB:BaseV S w v E)(s:ByteArray):∀x∈iB (bS E s),bP x=true:=fun x hx=>by
 have hok:=hB.ok;cases he:bS E s with
 |none=>rw [he]at hx;simp [iB]at hx
 |some e=>
  rw [he]at hx;exact(hok.all _ (List.mem_map.2 ⟨e,(cZ he).1,rfl⟩)).txt x hx
theorem vD{r:cG}{Es:Nat->List Ent}{L:aD}(hL:mT r (cP Es r.2.1) L)(hT:∀j x,x∈cP Es r.2.1 j->bP x=true):∀V∈L,aU r=0/\V.length=(aB r.2.1).length/\∀s∈V,s.size≤4096:=fun V hV=>by
 by_cases hc:aU r=0
 ·have hb:=((hL.1 hc).iff V).1 hV;exact⟨hc,hb.1,aHm hb hT⟩
 ·rw [hL.2 hc]at hV;simp at hV
theorem aAu{S:Nat->Prop}{w:World}{v:Value}{E:List Ent}{ls:List aL}(hB:BaseV S w v E):∀j x,x∈cP (zS ls E) ls j->bP x=true:=fun j x hx=>by
 unfold cP zS at hx;split at hx
 ·exact aHo hB _ x hx
 ·simp [bS,iB]at hx
theorem aMr{w W:World}{P:World->Value->Prop}{tmps:Array Value}{ds:List Deferred}{lo:Nat}{v:Value}(hm:Marks lo W ds)(hk:Ext w W)(hlo:w.heap.size≤lo)(h4:tmps.getD 4 undef=v)
 (hP:∀w',Ext w w'->Kp (fun k=>lo≤k/\¬fA W k) W w'->P w' v):
 bodyPostM Fence.wide 4 Tryz.prog Tryz.f18 (RetN w P) .ret {tmps:=tmps,defers:=ds} W:=by
 refine fJ hm fun w' e1 e2 e3 e4 e5 e6=>?_;have kx:Kp (fun k=>lo≤k/\¬fA W k) W w':=⟨e1,e2,e3,by omega,fun k hk hf=>by
  by_cases h:lo≤k
  ·by_cases h2:∃o:Obj,W.heap[k]?=some o/\o.isCells=true
   ·obtain⟨o,h2,h3⟩:=h2;rw [h2];exact e6 k o h2 h3
   ·exact absurd ⟨h,h2⟩ hf
  ·exact e5 k (by omega)⟩
 have hx:Ext w w':=hk.trans' kx fun i hi h=>absurd h.1 (by omega);refine⟨v,?_,RetN.mk hx (hP w' hx kx)⟩;have h4':tmps[4]?.getD undef=v:=by simpa using h4
 simp [results,Tryz.f18,go_sem,h4']
set_option maxHeartbeats 4000000 in
theorem aHi{S:Nat->Prop}{w:World}{p:ByteArray}{hs:List aE}{ls:List aL}{ha ba:Option Addr}{hn hcap n bcap:Nat}{G:Nat->Prop}{o:Option Addr}{E:List Ent}{L:aD}(hhn:hn=hs.length)(hh:aO w G ha hs)(hhl:hn≤1048576)(hbn:n=ls.length)(h:bW w G ba ls)(hf:Fit ls)(hnv:(aB ls).length≤1048576)(hn16:n≤1048576)
 (hB:BaseV S w (.pointer o) E)(hL:mT ((p,hs,()),ls,()) (cP (zS ls E) ls) L)(hLn:L.length≤1048576*1048576):
 Calls Tryz.prog 18 #[cI p ha hn hcap ba n bcap,.pointer o] w (RetN w fun w' v=>Row w' 9 1 v L.length (strs (L.map jW)) (New w)):=by
 have HEa:=qH (fun W (hW:Ext w W)=>yS (hcap:=hcap) (bcap:=bcap) (p:=p) hhn (hh.ext hW) hhl hbn (h.ext hW) hf hnv hn16 (hB.ext hW) hL);have HK:=qH (vD hL (aAu hB));have HN:=qH (nIX hnv hLn);obtain⟨gb,egb⟩:=nm w.heap.size;obtain⟨w1,e1⟩:=nm (w.alloc (.cells #[.string p,.slice ha hn hcap,.slice ba n bcap] 27));obtain⟨w2,e2⟩:=nm (w1.alloc (.cells #[.slice none 0 0] 34));have s1:w1.heap.size=gb+1:=by rw [<-e1,aJ,egb]
 have x1:Ext w w1:=xAX e1;have x2:Ext w1 w2:=xAX e2;have H2:=qH (show Blk w2 gb [.string p,.slice ha hn hcap,.slice ba n bcap] 27/\Blk w2 (gb+1) [.slice none 0 0] 34/\Ext w w2 from
  ⟨Blk.ext (by have h:=Blk.new w [.string p,.slice ha hn hcap,.slice ba n bcap] 27;rw [egb]at h;rw [<-e1];exact h) x2,by have h:=Blk.new w1 [.slice none 0 0] 34;rw [s1]at h;rw [<-e2];exact h,x1.trans x2⟩)
 have r0:=H2.out.1.c0;have r1:=H2.out.1.c1;have r2:=H2.out.1.c2;have HG:=qH egb;clear hhn hh hhl hbn h hf hnv hn16 hB hL x1 x2 hLn;refine callsIn_wide.1 (callsIn_of_wp_marks (n:=4) Tryz.func18 rfl trivial ?_ rfl);refine wpIn_wide.2 ?_;obtain⟨Q,eQ⟩:∃Q,Q=bodyPostM Fence.wide 4 Tryz.prog Tryz.f18 (RetN w fun w' v=>Row w' 9 1 v L.length (strs (L.map jW)) (New w)):=⟨_,rfl⟩;rw [<-eQ];have EQ:=qH eQ;clear eQ;simp only [Tryz.ntmps18,List.size_toArray,List.length_cons,List.length_nil,Nat.reduceAdd,Nat.reduceSub,Array.replicate_succ,Array.replicate_zero,List.push_toArray,List.append_toArray,List.nil_append,List.cons_append];go_wp2_with fail
 clear e1 e2 egb s1;refine(HEa.out w2 H2.out.2.2).mono ?_;rintro e w8 ⟨v8,rfl,hk8,xb,lo,hlo,rfl,hseq⟩;have HS:=qH (show tV Fence.wide 3 Tryz.prog 82 #[.pointer (some ⟨xb,0,none⟩)] (fun x:XB=>#[.slice x.1.1 x.1.2.1 x.1.2.2]) (fun k=>lo≤k/\k<w8.heap.size) GvRow (fun xs=>xs.map Prod.snd=L) (fun pre=>pre.map Prod.snd<+:L) w8 from hseq 3);have H8:=qH (show Blk w8 (gb+1) [.slice none 0 0] 34/\Ext w w8/\gb+1<lo from⟨H2.out.2.1.ext hk8,H2.out.2.2.trans hk8,Nat.lt_of_lt_of_le H2.out.2.1.lt hlo⟩);clear hseq hk8 hlo r0 r1 r2;go_wp2_with fail
 have hb8:gb+1<w8.heap.size:=H8.out.1.lt;refine' wpIn_wide.1 (kS (F:=Fence.wide) (n:=4) (w0:=w8) rfl (by omega) (gf:=82) (lb:=#[.pointer (some ⟨xb,0,none⟩)]) rfl trivial (enters_of Tryz.func82 (by kernel_rfl) rfl)
  HS.out (Kp.refl _) (fun k h=>h.2) (fun _=>rfl) GvRow.put (ListI w8 (gb+1) uU) (fun _ _ _ _=>False)
  (fun T s W l o o' h _ hl ho hc=>h.put hb8 hl ho hc) (fun c T s W l o o' h _ hl ho hc=>h.elim)
  (fun W o h=>h.step hb8 ((Kp.refl W).alloc o) (fun k hk=>hk.elim)) (ListI.start H8.out.1 rfl) _ ?assign ?body ?done ?stop)
 case assign=>
  intro l x W K hK;gi_wp2;exact hK
 case body=>
  rintro l T T' pre ⟨⟨xa,xn,xc⟩,V⟩ W1 W hI hT hk hsub hgv hpre;have hI2:=hI.step hb8 hk hsub;have hTlt:∀k,T' k->k<W.heap.size:=fun k hk'=>by
   rcases hsub k hk' with h|h
   ·exact Nat.lt_of_lt_of_le (hT k h) hk.size
   ·exact h.2
  obtain⟨hx1,hxc⟩:=hgv.cells;have hxn:xn=V.length:=hx1.1;have hxc2:xc=V.length:=hx1.2;subst hxn hxc2;have hmem:V∈L:=hpre.subset (by rw [List.map_append];exact List.mem_append_right _ (List.mem_singleton.2 rfl));have hpl:pre.length<L.length:=by have h:=hpre.length_le;rw [List.length_map,List.length_append,List.length_singleton]at h;omega
  obtain⟨hc0,hVl,hVs⟩:=HK.out V hmem;have hN1:=HN.out.1;have hN2:=HN.out.2;have hVl':V.length=(aB ls).length:=hVl;obtain⟨v,hv,hrv⟩:=hI2.2.2;have hel:(uU pre).length=pre.length:=by unfold uU;rw [List.length_map]
  rw [hel]at hrv;refine wpIn_mono (Q:=fU (fun X'=>KeepsFrom w8.heap.size W X'/\Kp (fun k=>¬fY (fun k=>lo≤k/\k<w8.heap.size) T' k) W X'/\ListI w8 (gb+1) uU T' (pre++ [((xa,V.length,V.length),V)]) X') (fun _=>False)) ?_ ?_
  ·show Code.wpIn _ _ _ aEy _ _ _;refine aHh (v:=v) (ss:=uU pre) (V:=V) hv hrv (by omega) hxc (by omega) hVs rfl rfl rfl ?_;rintro X' hk' ⟨v',hv',hr'⟩;exact hI2.round hb8 hTlt (fun k hk=>⟨by have:=H8.out.2.2;have:=hk.1;omega,hk.2⟩) hv hk' hv' (by rw [hel];exact hr') (by unfold uU;rw [List.map_append];rfl)
  ·intro e a W' h;cases e<;>first|exact h|exact h.elim
 case done=>
  rintro D T xs W1 W hD hxs hI hT hk hd;have hI2:=hI.step (T':=fun _=>False) hb8 hk (fun k hk'=>hk'.elim);obtain⟨kX,hTge,v,hv,hrv⟩:=hI2;have hxs':uU xs=L.map jW:=by have h:xs.map Prod.snd=L:=hxs;unfold uU;rw [<-h,List.map_map];rfl
  rw [hxs',List.length_map]at hrv;have hm1:Marks w8.heap.size W [{target:= .collected D,args:=#[]}]:=Marks.push (Marks.nil w8.heap.size w8) (fun k o h ho=>(kX.block k (lt_of_block h) (fun e=>by have e':k=gb+1:=e;have h8:=H8.out.1;unfold Blk at h8;rw [e',h8]at h;cases h;cases ho)).trans h) hD hD hd;have v7:=hv.c0;obtain⟨la,lc,ev,_,_⟩:=hrv.shape;subst ev;have HZ:=qH (nIX hm1 (nIX hrv kX));clear hxs' hm1 hrv kX hTge hI hT hk hd hD hxs hv;go_wp2_with fail
  obtain⟨hm1,hrv,kX⟩:=HZ.out;have hx8:=H8.out.2.1.size;have hgl:=HG.out;rw [EQ.out];refine aMr (lo:=w8.heap.size) hm1 (H8.out.2.1.trans' kX fun i hi hf=>by have e:i=gb+1:=hf;omega) hx8 rfl fun w' hx' kx=>?_;refine(hrv.kp' kx fun g hg hM hf=>?_).mono fun g hg=>Nat.le_trans hx8 hg.1;obtain⟨cs,hb⟩:=aV hrv hg;exact hf.2 ⟨_,hb,rfl⟩
 case stop=>
  rintro D c T pre W1 W hD hpre hX hT hk hd;exact hX.elim
def aM5(w0:World)(ss tt:List ByteArray)(n:Nat)(iv:Value)(w:World):Prop:=∃i:Nat,i≤n/\iv= .int .i64 i/\Hid (Ext w0 w)/\Hid (ss.take i=tt.take i)
set_option maxHeartbeats 1000000 in
theorem wR(ss tt:List ByteArray)(ao bo:Option Addr)(n m acap bcap:Nat)(w:World)(hn:n=ss.length)(hm:m=tt.length)(ha:CellsAt w ao (strs ss))(hb:CellsAt w bo (strs tt))(hl:n≤4611686018427387904):
 Calls Tryz.prog 17 #[.slice ao n acap,.slice bo m bcap] w (RetN w fun w' v=>v= .bool (decide (ss=tt))):=by
 have HN:=qH (nIX hn hm);have HA:=qH ha;have HB:=qH hb;clear hn hm ha hb;by_cases hnm:n=m
 ·subst hnm;have q1:((n:Int) !=(n:Int))=false:=by simp
  go_enter Tryz.func17,Tryz.ntmps17;go_wp2;go_loopw [5] (fun iv wr=>aM5 w ss tt n iv wr) (fun iv _=>n- (intOf iv).toNat)
  case atStart=>exact⟨0,Nat.zero_le _,rfl,qH (Kp.refl w),qH rfl⟩
  case round=>
   obtain⟨i,hi,rfl,hex,heq⟩:=hrel;by_cases hlt:i<n
   ·obtain⟨s,hs⟩:∃s,ss[i]?=some s:=⟨_,qG (by rw [<-HN.out.1];exact hlt)⟩;obtain⟨t,ht⟩:∃t,tt[i]?=some t:=⟨_,qG (by rw [<-HN.out.2];exact hlt)⟩;obtain⟨g1,o1,e1,c0⟩:=HA.out i (.string s) (by simp [strs,hs]);obtain⟨g2,o2,e2,d0⟩:=HB.out i (.string t) (by simp [strs,ht]);subst e1 e2;replace c0:=hex.out.cell c0 id;replace d0:=hex.out.cell d0 id;have HST:=qH (nIX hs ht);clear hs ht;by_cases hst:s=t
    ·subst hst;have q4:=str_eq s;go_wp2;go_quiet (fail)
     go_wp2;go_roundw
     case rel=>exact⟨i+1,by omega,nMX,qH (hex.out.drewN _),qH (by rw [List.take_add_one,List.take_add_one,HST.out.1,HST.out.2,heq.out])⟩
     case measure=>simp [intOf];omega
    ·have q4:=kU hst;have HD:=qH (show decide (ss=tt)=false from decide_eq_false fun e=>hst (by have h:=HST.out.1;rw [e,HST.out.2]at h;cases h;rfl));clear hst;go_wp2;go_quiet (fail)
     go_wp2;go_ret;exact RetN.mk (hex.out.drewN _) (by rw [HD.out];rfl)
   ·obtain rfl:n=i:=by omega
    have HD:=qH (show decide (ss=tt)=true from decide_eq_true (by have h:=heq.out;rw [List.take_of_length_le (by rw [<-HN.out.1];exact Nat.le_refl _),List.take_of_length_le (by rw [<-HN.out.2];exact Nat.le_refl _)]at h;exact h));go_wp2;go_ret;exact RetN.mk hex.out (by rw [HD.out];rfl)
 ·have q1:((n:Int) !=(m:Int))=true:=by simp;omega
  have q2:((n:Int)==(m:Int))=false:=by simp;omega
  have HD:=qH (show decide (ss=tt)=false from decide_eq_false fun e=>hnm (by rw [HN.out.1,HN.out.2,e]));clear hnm;go_enter Tryz.func17,Tryz.ntmps17;go_wp2;go_ret;exact RetN.mk (Kp.refl w) (by rw [HD.out];rfl)
def aLb(w0:World)(e:bV)(hs:List aE)(n:Nat)(ov jv:Value)(W:World):Prop:=
 ∃i:Nat,i≤n/\jv= .int .i64 i/\Hid (Ext w0 W)/\Hid (Row W 9 1 ov (jA e (hs.take i)).length (strs (jA e (hs.take i))) (New w0))
theorem aGz(e:bV){hs:List aE}{i:Nat}{t:aE}(h:hs[i]?=some t):jA e (hs.take (i+1))=jA e (hs.take i)++(if t.1<4 then [pS e t]else []):=by
 unfold jA;rw [List.take_add_one,h,List.filterMap_append]
 congr 1
 show List.filterMap _ [t]=_;by_cases h1:t.1<4
 ·simp [h1]
 ·simp [h1]
theorem aKa(e:bV)(hs:List aE):(jA e hs).length≤hs.length:=List.length_filterMap_le _ _
def zJ(r:cG)(V:List ByteArray)(w w':World)(v:Value):Prop:=
 (aU r=0/\V.length=(aB r.2.1).length/\∃ao cap,v= .tuple #[.slice ao (jA (aB r.2.1,V) r.1.2.1).length cap,.int .i64 0]/\CellsAt w' ao (strs (jA (aB r.2.1,V) r.1.2.1))/\∀a,ao=some a->w.heap.size≤a.block)\/
 (¬(aU r=0/\V.length=(aB r.2.1).length)/\v= .tuple #[.slice none 0 0,.int .i64 2])
set_option maxHeartbeats 4000000 in
theorem aDm{w:World}{p:ByteArray}{hs:List aE}{ls:List aL}{ha ba va:Option Addr}{hn hcap n bcap nb vc:Nat}{G:Nat->Prop}{V:List ByteArray}(hhn:hn=hs.length)(hh:aO w G ha hs)(hhl:hn≤1048576)(hbn:n=ls.length)(h:bW w G ba ls)(hf:Fit ls)(hnv:(aB ls).length≤1048576)(hV:nb=V.length)(hVc:CellsAt w va (strs V))(hvb:nb≤1048576):
 Calls Tryz.prog 24 #[cI p ha hn hcap ba n bcap,.slice va nb vc] w (RetN w fun w' v=>zJ ((p,hs,()),ls,()) V w w' v):=by
 have HCh:=qH (fun W (hW:Ext w W)=>mF p hs ls ha hn hcap ba n bcap W G hhn (hh.ext hW) hhl hbn (h.ext hW) hf);have HVa:=qH (fun W (hW:Ext w W)=>uM p ha hn hcap ls ba n bcap W G hbn (h.ext hW) hf);have HT:=qH (nIX hhn hh);have HVc:=qH (nIX hV hVc);obtain⟨cR,ecR⟩:=nm (aU ((p,hs,()),ls,()));rw [ecR]at HCh;have HC:=qH ecR;obtain⟨gb,egb⟩:=nm w.heap.size;obtain⟨w1,e1⟩:=nm (w.alloc (.cells #[.string p,.slice ha hn hcap,.slice ba n bcap] 27));have x1:Ext w w1:=xAX e1;have hB1:=bNX egb e1;have H1:=qH (nIX x1 hB1);have r0:=hB1.c0;have r1:=hB1.c1;have r2:=hB1.c2;clear hh hbn h hf hV hVc ecR x1 hB1 hhn;go_enter Tryz.func24,Tryz.ntmps24;go_wp2_with fail
 clear e1 egb;refine(HVa.out w1 H1.out.1).mono ?_;rintro e w2 ⟨v2,rfl,hk2,na,nc,rfl,hnc,hna⟩;obtain⟨nv,env⟩:=nm ((aB ls).length);rw [env]at hnv ⊢;have HEv:=qH env;have H2:=qH (nIX (H1.out.1.trans hk2) (nIX (H1.out.2.ext hk2) hna));have q0:w2.cell? ⟨gb,0,none⟩=some (.string p):=hk2.cell r0 id;have q1:w2.cell? ⟨gb,1,none⟩=some (.slice ha hn hcap):=hk2.cell r1 id;have q2:w2.cell? ⟨gb,2,none⟩=some (.slice ba n bcap):=hk2.cell r2 id;clear hk2 r0 r1 r2 hnc hna env;go_wp2_with fail
 refine(HCh.out w2 H2.out.1).mono ?_;rintro e w3 ⟨v3,rfl,hk3,rfl⟩;have H3:=qH (nIX (H2.out.1.trans hk3) (nIX (H2.out.2.1.ext hk3) (H2.out.2.2.ext hk3)));clear hk3 q0 q1 q2;by_cases hc:cR=0
 ·subst hc;by_cases hl:nb=nv
  ·subst hl;obtain⟨ge,ege⟩:=nm w3.heap.size;obtain⟨w4,e4⟩:=nm (w3.alloc (.cells #[.slice na nb nc,.slice va nb vc] 111));have hB4:=bNX ege e4;have x34:Ext w3 w4:=xAX e4;have HE:=qH (nIX (H3.out.1.trans x34) (nIX hB4 (nIX (H3.out.2.1.ext x34) (H3.out.2.2.ext x34))));have HNd:=qH (show EnvOk (aB ls,V)from⟨dG ls,by rw [<-HVc.out.1];exact HEv.out.symm⟩);have q3:((nb:Int) !=(nb:Int))=false:=by simp
   clear hB4 x34;go_wp2;clear e4 ege q3;go_loopw [8,9] (fun ov jv wk=>aLb w4 (aB ls,V) hs hn ov jv wk) (fun _ jv _=>hn- (intOf jv).toNat)
   case atStart=>exact⟨0,Nat.zero_le _,rfl,qH (Kp.refl _),qH (Row.nil _ _ _ _)⟩
   case round=>
    obtain⟨i,hi,rfl,hex,hro⟩:=hrel;obtain⟨oa,oc,eov,hoc,hle⟩:=hro.out.shape;subst eov;have u1:=(HE.out.2.2.1.ext hex.out).c1;by_cases hlt:i<hn
    ·obtain⟨t,ht⟩:∃t,hs[i]?=some t:=⟨_,qG (by rw [<-HT.out.1];exact hlt)⟩;obtain⟨b,off,eha,f0,f1,-,-⟩:=cX (HT.out.2.ext (HE.out.1.trans hex.out)) ht;subst eha;obtain⟨kt,st,⟨⟩⟩:=t;simp only at f0 f1;have HTt:=qH ht;obtain⟨bx,ebx⟩:=nm wr.heap.size;obtain⟨W1,eW1⟩:=nm (wr.alloc (.cells #[.int .i64 kt,.string st] 38));have hBx:=bNX ebx eW1;have x1:Ext wr W1:=xAX eW1;have g0:=hBx.c0;have g1:=hBx.c1;have v0:=((HE.out.2.1.ext hex.out).ext x1).c0;have v1:=((HE.out.2.1.ext hex.out).ext x1).c1;have HX:=qH (nIX (hex.out.trans x1) (hro.out.ext x1));have hfew:=aKa (aB ls,V) (hs.take i);rw [List.length_take]at hfew;have HS:=qH (aGz (aB ls,V) HTt.out);have HVl:=qH (yP (aB ls,V) kt st na va nb nc vc W1 HNd.out HEv.out.symm (HE.out.2.2.2.ext HX.out.1) (HVc.out.2.ext (HE.out.1.trans HX.out.1)) hvb);clear hBx x1 ht hoc hle hex hro hi;by_cases h4:kt<4
     ·rw [if_pos h4]at HS;go_wp2_with fail
      refine HVl.out.mono ?_;rintro e w5 ⟨v5,rfl,hk5,rfl⟩;obtain⟨x,ex⟩:=nm (pS (aB ls,V) (kt,st,()));rw [ex]at HS ⊢;have HX5:=qH (nIX (HX.out.1.trans hk5) (HX.out.2.ext hk5));clear hk5 eW1 g0 g1 v0 v1 ex h4 u1 f0 f1 ebx;go_wp2_with (first|(at_builtin;refine Halted.out ?_))
      refine Halted.mk (bO dZ rfl _ _ rfl (HX5.out.1.alloc _) rfl (HX5.out.2.alloc _) rfl (CellsAt.one w5 (.string x) 9) rfl (by simp;rfl) (by omega) (by unfold maxLen;omega) ?_);intro v6 w6 hr6 hk6 hk6b _;obtain⟨la,lcap,elv,_,_⟩:=hr6.shape;subst elv;have HF:=qH (show Ext w4 w6/\Row w6 9 1 (.slice la ((jA (aB ls,V) (hs.take i)).length+1) lcap) (jA (aB ls,V) (hs.take (i+1))).length (strs (jA (aB ls,V) (hs.take (i+1)))) (New w4)from by
       refine⟨hk6,?_⟩;rw [HS.out,List.length_append,List.length_singleton];have e:strs (jA (aB ls,V) (hs.take i)++ [x])=strs (jA (aB ls,V) (hs.take i))++ [.string x]:=by simp [strs]
       rw [e];exact hr6)
      clear hr6 hk6 hk6b;go_wp2;go_roundw
      case rel=>exact⟨i+1,by omega,nMX,qH HF.out.1,qH HF.out.2⟩
      case measure=>simp [intOf];omega
     ·rw [if_neg h4,List.append_nil]at HS;go_wp2;go_roundw
      case rel=>exact⟨i+1,by omega,nMX,qH HX.out.1,qH (by rw [HS.out];exact HX.out.2)⟩
      case measure=>simp [intOf];omega
    ·obtain rfl:hn=i:=by omega
     have hall:hs.take hn=hs:=List.take_of_length_le (by rw [<-HT.out.1];exact Nat.le_refl _);have hro2:=hro.out;rw [hall]at hoc hle hro2 ⊢;have HR:=qH (show Ext w wr/\CellsAt wr oa (strs (jA (aB ls,V) hs))/\∀a,oa=some a->w.heap.size≤a.block from⟨HE.out.1.trans hex.out,hoc,fun a e=>by subst e;have h1:w4.heap.size≤a.block:=hro2.block a.block rfl;have h2:=HE.out.1.size;omega⟩);clear hex hro hro2 hoc hle hi hlt hall;go_wp2;go_ret2;exact RetN.mk HR.out.1 (.inl ⟨HC.out,by rw [<-HVc.out.1];exact HEv.out.symm,_,_,rfl,HR.out.2⟩)
  ·have hnl:((nv:Int)==(nb:Int))=false:=by simp;omega
   have hnl2:((nv:Int) !=(nb:Int))=true:=by simp;omega
   have HNl:=qH (show ¬(aU ((p,hs,()),ls,())=0/\V.length=(aB ls).length)from fun h=>hl (by rw [HVc.out.1,<-HEv.out];exact h.2));clear hl;go_wp2;go_ret2;exact RetN.mk H3.out.1 (.inr ⟨HNl.out,rfl⟩)
 ·have hc':((cR:Int)==0)=false:=by simp;omega
  have hc2:((cR:Int) !=0)=true:=by simp;omega
  have HN:=qH hc;clear hc;go_wp2;go_ret2;exact RetN.mk H3.out.1 (.inr ⟨fun h=>HN.out (by rw [<-HC.out];exact h.1),rfl⟩)
end
section
open Go.RowKit
abbrev markK:aE:=(-71,⟨#[]⟩,())
def TermsK(w0 w:World)(a:Option Addr)(n cap:Nat)(ts:List aE):Prop:=∃g rest,a=some ⟨g,0,none⟩/\n=ts.length/\n+1≤cap/\cap≤maxLen/\w0.heap.size≤g/\Blk w g (lX (ts++ [markK])++rest) 38
theorem TermsK.at{w0 w:World}{a:Option Addr}{n cap:Nat}{ts:List aE}(h:TermsK w0 w a n cap ts)(hf:∀t∈ts,fO t):aO w (New w0) a ts:=by obtain⟨g,rest,rfl,_,_,_,hg,hB⟩:=h;rw [nD,List.append_assoc]at hB;exact aEv (s:=cH) (f:=nC) (fun x=>rfl) (fun i x hi=>pD (hf x (List.mem_of_getElem? hi))) hg hB
theorem TermsK.mark{w0 w:World}{a:Option Addr}{n cap:Nat}{ts:List aE}(h:TermsK w0 w a n cap ts):∃g,a=some ⟨g,0,none⟩/\w.cell? ⟨g,n*2,none⟩=some (.int .i64 (-71))/\n+1≤cap/\cap≤maxLen:=by obtain⟨g,rest,rfl,hn,h1,h2,hg,hB⟩:=h;refine⟨g,rfl,?_,h1,h2⟩;rw [nD,List.append_assoc]at hB;rw [hB.cell',hn,<-wI ts,List.getElem?_append_right (Nat.le_refl _),Nat.sub_self];rfl
theorem TermsK.kp{w0 w w':World}{F:Nat->Prop}{a:Option Addr}{n cap:Nat}{ts:List aE}(h:TermsK w0 w a n cap ts)(hk:Kp F w w')(hF:∀k cs,Blk w k cs 38->¬F k):TermsK w0 w' a n cap ts:=by obtain⟨g,rest,e,hn,h1,h2,hg,hB⟩:=h;exact⟨g,rest,e,hn,h1,h2,hg,hB.kp hk (hF g _ hB)⟩
theorem TermsK.ext{w0 w w':World}{a:Option Addr}{n cap:Nat}{ts:List aE}(h:TermsK w0 w a n cap ts)(hk:Ext w w'):TermsK w0 w' a n cap ts:=h.kp hk fun _ _ _=>id
theorem TermsK.old{w0 w1 w:World}{a:Option Addr}{n cap:Nat}{ts:List aE}(h:TermsK w1 w a n cap ts)(hs:w0.heap.size≤w1.heap.size):TermsK w0 w a n cap ts:=by obtain⟨g,rest,e,hn,h1,h2,hg,hB⟩:=h;exact⟨g,rest,e,hn,h1,h2,Nat.le_trans hs hg,hB⟩
theorem aFn:38≠24:=by decide
set_option maxHeartbeats 2000000 in
theorem sD(p:ByteArray)(ts:List aE)(ao:Option Addr)(n cap:Nat)(w:World)(G:Nat->Prop)(hn:n=ts.length)(h:aO w G ao ts)(hl:n≤1048576):
 Calls Tryz.prog 68 #[.agg #[.string p,.slice ao n cap]] w (RetN w fun w' v=>∃a c,v= .agg #[.string p,.slice a n c]/\TermsK w w' a n c ts):=by
 have HN:=qH hn;have HC:=qH (aC1 h);have HL:=qH (wI ts);obtain⟨g0,eg0⟩:=nm w.heap.size;obtain⟨w1,e1⟩:=nm ((w.alloc (.cells #[.string p,.slice ao n cap] 24)).alloc (.cells #[.string ⟨#[]⟩,.slice none 0 0] 24));have hB1:Blk w1 g0 [.string p,.slice ao n cap] 24:=by rw [<-e1,<-eg0];exact(Blk.new w _ _).alloc _
 have hB2:Blk w1 (g0+1) [.string ⟨#[]⟩,.slice none 0 0] 24:=by have h:=Blk.new (w.alloc (.cells #[.string p,.slice ao n cap] 24)) [.string ⟨#[]⟩,.slice none 0 0] 24;rw [aJ,eg0]at h;rw [<-e1];exact h
 have hx1:Ext w w1:=by rw [<-e1];exact((Kp.refl w).alloc _).alloc _
 have r1:=hB1.c1;have H1:=qH (nIX hx1 (nIX hB1 (nIX hB2 eg0)));clear hn h hB1 hB2 hx1;go_enter Tryz.func68,Tryz.ntmps68;go_wp2_with (first|(at_builtin;refine Halted.out ?_))
 clear e1 eg0;refine Halted.mk (bO (m:=n) (n:=0) aBj rfl _ _ rfl H1.out.1 rfl (Row.nil _ _ _ (New w)) rfl (HC.out.ext H1.out.1) (by rw [HL.out,HN.out]) (aFp ts) (by omega) (by unfold maxLen;omega) ?_);intro v1 w2 hr1 hk1 hk1b _;rw [Nat.zero_add,List.nil_append]at hr1;obtain⟨a1,c1,ev1,_,_⟩:=hr1.shape;subst ev1;have HR1:=qH hr1;have X1:=qH (nIX hk1 (show Ext w1 w2 from hk1b.mono fun k _ h=>by cases h));clear hr1 hk1 hk1b r1;go_wp2_with (first|(at_builtin;refine Halted.out ?_))
 refine Halted.mk (bO (m:=1) (n:=n) aBj rfl _ _ rfl (X1.out.1.alloc _) rfl (HR1.out.alloc _) rfl (CellsAt.two w2 (.int .i64 (-71)) (.string ⟨#[]⟩) 38) (by rfl) (by simp [Value.oneCell']) (by omega) (by unfold maxLen;omega) ?_);intro v2 w3 hr2 hk2 hk2b _;have hno:∀g cs,Blk w2 g cs 24->Blk w3 g cs 24:=fun g cs hb=>(hb.alloc _).kp hk2b fun hg=>by obtain⟨cs',hb'⟩:=HR1.out.blkOf hg;exact aFn (cF hb' hb)
 have hB13:=hno _ _ (H1.out.2.1.ext X1.out.2);have hB23:=hno _ _ (H1.out.2.2.1.ext X1.out.2);obtain⟨h1,⟨rfl,h0⟩|⟨g,cap2,rest,rfl,hM,hB,hlen,hnc,hcm⟩⟩:=hr2
 ·omega
 ·have hcm2:cap2≤9223372036854775807:=hcm;have i1:(n:Int)≤(cap2:Int):=by omega
  have q0:=hB13.c0;have q1:=hB13.c1;have q2:=hB23.c0;have q3:=hB23.c1;have f1:=hB13.free 1;have f2:=hB23.free 0;have f3:=hB23.free 1;have H3:=qH (nIX hk2 (nIX hB13 (nIX hB23 (nIX hM hB))));clear h1 hk2 hk2b hno hB13 hB23 hM hB hlen;go_wp2;obtain⟨W,eW⟩:=nm ((((w3.setCell ⟨g0,1,none⟩ (.slice (some ⟨g,0,none⟩) n cap2)).setCell ⟨g0+1,0,none⟩ (.string p)).setCell ⟨g0+1,1,none⟩ (.slice (some ⟨g,0,none⟩) n cap2)));have n1:g0≠g0+1:=by omega
  have hBW:Blk W (g0+1) [.string p,.slice (some ⟨g,0,none⟩) n cap2] 24:=by rw [<-eW];exact((H3.out.2.2.1.other (p:=⟨g0,1,none⟩) (fun e=>n1 e.symm) _).set 0 _).set 1 _
  have kW:Kp (fun k=>k=g0\/k=g0+1) w3 W:=by rw [<-eW];exact Kp.setCell (F:=fun k=>k=g0\/k=g0+1) (p:=⟨g0+1,1,none⟩) (Kp.setCell (F:=fun k=>k=g0\/k=g0+1) (p:=⟨g0+1,0,none⟩) (Kp.setCell (F:=fun k=>k=g0\/k=g0+1) (p:=⟨g0,1,none⟩) (Kp.refl w3) (fun _=> .inl rfl) _) (fun _=> .inr rfl) _) (fun _=> .inr rfl) _
  have d0:=hBW.c0;have d1:=hBW.c1;rw [eW];refine bodyPost_ret (v:= .agg #[.string p,.slice (some ⟨g,0,none⟩) n cap2]) (by simp [results,Tryz.results68,go_sem,d0,d1]) rfl ?_;refine RetN.mk (H3.out.1.trans' kW fun i hi h=>by have:=H1.out.2.2.2;omega) ⟨_,_,rfl,g,rest,rfl,HN.out,hnc,hcm,H3.out.2.2.2.1,?_⟩;rw [nD];refine H3.out.2.2.2.2.kp kW fun h=>?_;rcases h with h|h
  ·rw [h]at H3;exact aFn (cF H3.out.2.2.2.2 H3.out.2.1)
  ·rw [h]at H3;exact aFn (cF H3.out.2.2.2.2 H3.out.2.2.1)
def aN6:List Value:= [.int .i64 (-72),.string ⟨#[]⟩,.slice none 0 0,.int .i64 0,.int .i64 0,.string ⟨#[]⟩,.int .i64 0,.string ⟨#[]⟩]
structure RuleK(w0 w:World)(hs:List aE)(ls:List aL)(ha:Option Addr)(hn hcap:Nat)(ba:Option Addr)(n bcap:Nat):Prop where
 head:TermsK w0 w ha hn hcap hs
 body:∃g rest vs,ba=some ⟨g,0,none⟩/\n=ls.length/\n+1≤bcap/\bcap≤maxLen/\w0.heap.size≤g/\vs.length=ls.length/\Blk w g ((ls.zip vs).flatMap iH++(aN6++rest)) 40/\∀x∈ls.zip vs,TermsK w0 w x.2.1 (aA x.1).length x.2.2 (aA x.1)
section
variable {w0 w w':World}{F:Nat->Prop}{hs:List aE}{ls:List aL}{ha:Option Addr}{hn hcap:Nat}{ba:Option Addr}{n bcap:Nat}
theorem RuleK.kp(h:RuleK w0 w hs ls ha hn hcap ba n bcap)(hk:Kp F w w')(hF:∀k cs,Blk w k cs 38\/Blk w k cs 40->¬F k):RuleK w0 w' hs ls ha hn hcap ba n bcap:=by obtain⟨h1,g,rest,vs,e,a1,a2,a3,a4,a5,hB,hx⟩:=h;exact⟨h1.kp hk fun k cs hb=>hF k cs (.inl hb),g,rest,vs,e,a1,a2,a3,a4,a5,hB.kp hk (hF g _ (.inr hB)),fun x hxx=>(hx x hxx).kp hk fun k cs hb=>hF k cs (.inl hb)⟩
theorem RuleK.ext(h:RuleK w0 w hs ls ha hn hcap ba n bcap)(hk:Ext w w'):RuleK w0 w' hs ls ha hn hcap ba n bcap:=h.kp hk fun _ _ _=>id
theorem RuleK.lits(h:RuleK w0 w hs ls ha hn hcap ba n bcap)(hall:∀l∈ls,LitAll l):bW w (New w0) ba ls:=by obtain⟨_,g,rest,vs,rfl,a1,a2,a3,a4,a5,hB,hx⟩:=h;refine qR a5 hall (fun x hxx=>?_) a4 hB;have hm:=hx x hxx;have hl:x.1∈ls:=(List.of_mem_zip (show(x.1,x.2)∈ls.zip vs from hxx)).1;refine⟨hm.at (hall _ hl).terms,?_⟩;obtain⟨_,_,_,_,q1,q2,_,_⟩:=hm;exact⟨by omega,q2⟩
theorem RuleK.terms(h:RuleK w0 w hs ls ha hn hcap ba n bcap)(hf:∀t∈hs,fO t):aO w (New w0) ha hs:=h.head.at hf
theorem RuleK.mark(h:RuleK w0 w hs ls ha hn hcap ba n bcap):∃g,ba=some ⟨g,0,none⟩/\w.cell? ⟨g,n*8,none⟩=some (.int .i64 (-72))/\n+1≤bcap/\bcap≤maxLen/\∀i l,ls[i]?=some l->∃a2 c2,TermsK w0 w a2 (aA l).length c2 (aA l)/\∀c u,(iH (l,(a2,c2)))[c]?=some u->w.cell? ⟨g,i*8+c,none⟩=some u:=by
 obtain⟨_,g,rest,vs,rfl,hn,hc,hm,_,hv,hB,hx⟩:=h;have hz:(ls.zip vs).length=n:=by rw [List.length_zip,hv,Nat.min_self,hn]
 have hfl:((ls.zip vs).flatMap iH).length=n*8:=by rw [jX iH 8 lG,hz]
 refine⟨g,rfl,?_,hc,hm,fun i l hi=>?_⟩
 ·rw [hB.cell',<-hfl,List.getElem?_append_right (Nat.le_refl _),Nat.sub_self];rfl
 ·have hil:=(List.getElem?_eq_some_iff.1 hi).1;have hv2:i<vs.length:=by omega
  have hzi:(ls.zip vs)[i]?=some (l,vs[i]):=by rw [List.getElem?_zip_eq_some];exact⟨hi,qG hv2⟩
  refine⟨vs[i].1,vs[i].2,hx _ (List.mem_of_getElem? hzi),fun c u hu=>?_⟩;have hc8:c<8:=(List.getElem?_eq_some_iff.1 hu).1;have hg:=flat_get iH 8 lG (ls.zip vs) i _ c hzi hc8;rw [hB.cell',List.getElem?_append_left (by rw [hfl];omega),hg];exact hu
end
def aOy(ls:List aL)(hs:List aE)(p:ByteArray)(w0 wb:World)(g0:Nat)(ha:Option Addr)(hn hcap:Nat)(ba:Option Addr)(bcap n:Nat)(bv iv:Value)(w:World):Prop:=∃i:Nat,i≤n/\iv= .int .i64 i/\Hid (Ext w0 w)/\Hid (Blk w g0 [.string p,.slice ha hn hcap,.slice ba n bcap] 27/\Blk w (g0+1) [.string ⟨#[]⟩,.slice none 0 0,.slice none 0 0] 27/\TermsK w0 w ha hn hcap hs)/\Hid (∃vs,vs.length=i/\Row w 40 8 bv i (((ls.take i).zip vs).flatMap iH) (New w0)/\∀x∈(ls.take i).zip vs,TermsK w0 w x.2.1 (aA x.1).length x.2.2 (aA x.1))
set_option maxHeartbeats 8000000 in
theorem aGq(p:ByteArray)(hs:List aE)(ls:List aL)(ha:Option Addr)(hn hcap:Nat)(ba:Option Addr)(n bcap:Nat)(w:World)(G:Nat->Prop)(hhn:hn=hs.length)(hh:aO w G ha hs)(hhl:hn≤1048576)(hbn:n=ls.length)(h:bW w G ba ls)(hf:Fit ls):
 Calls Tryz.prog 19 #[cI p ha hn hcap ba n bcap] w (RetN w fun w' v=>∃ha' hcap' ba' bcap',v=cI p ha' hn hcap' ba' n bcap'/\RuleK w w' hs ls ha' hn hcap' ba' n bcap'):=by
 have HN:=qH hbn;have HE:=qH h;have HF:=qH hf;have hl:n≤1048576:=by have:=hf.len;omega
 have HHd:=qH (fun(W:World) (hW:Ext w W)=>sD p hs ha hn hcap W G hhn (hh.ext hW) hhl);obtain⟨g0,eg0⟩:=nm w.heap.size;obtain⟨w1,e1⟩:=nm ((w.alloc (.cells #[.string p,.slice ha hn hcap,.slice ba n bcap] 27)).alloc (.cells #[.string ⟨#[]⟩,.slice none 0 0,.slice none 0 0] 27));have hB1:Blk w1 g0 [.string p,.slice ha hn hcap,.slice ba n bcap] 27:=by rw [<-e1,<-eg0];exact(Blk.new w _ _).alloc _
 have hB2:Blk w1 (g0+1) [.string ⟨#[]⟩,.slice none 0 0,.slice none 0 0] 27:=by have h:=Blk.new (w.alloc (.cells #[.string p,.slice ha hn hcap,.slice ba n bcap] 27)) [.string ⟨#[]⟩,.slice none 0 0,.slice none 0 0] 27;rw [aJ,eg0]at h;rw [<-e1];exact h
 have hx1:Ext w w1:=by rw [<-e1];exact((Kp.refl w).alloc _).alloc _
 have r0:=hB1.c0;have r1:=hB1.c1;have r2:=hB1.c2;have H1:=qH (nIX hx1 (nIX hB1 (nIX hB2 eg0)));clear hbn h hf hhn hh hB1 hB2 hx1;go_enter Tryz.func19,Tryz.ntmps19;go_wp2_with fail
 clear e1 eg0;refine(HHd.out _ H1.out.1).mono ?_;rintro e w2 ⟨v,rfl,hk2,ha',hcap',rfl,htm⟩;have hB2a:=H1.out.2.1.ext hk2;have s0:=hB2a.c0;have s1:=hB2a.c1;have sf0:=hB2a.free 0;have sf1:=hB2a.free 1;obtain⟨w3,e3⟩:=nm ((w2.setCell ⟨g0,0,none⟩ (.string p)).setCell ⟨g0,1,none⟩ (.slice ha' hn hcap'));have k23:Kp (fun k=>k=g0) w2 w3:=by rw [<-e3];exact kSb
 have hB3:Blk w3 g0 [.string p,.slice ha' hn hcap',.slice ba n bcap] 27:=by rw [<-e3];exact(hB2a.set 0 _).set 1 _
 have hB3b:Blk w3 (g0+1) [.string ⟨#[]⟩,.slice none 0 0,.slice none 0 0] 27:=(H1.out.2.2.1.ext hk2).kp k23 (by omega);have hx3:Ext w w3:=(H1.out.1.trans hk2).trans' k23 fun i hi e=>by have:=H1.out.2.2.2;omega
 have htm3:TermsK w w3 ha' hn hcap' hs:=(htm.old H1.out.1.size).kp k23 fun k cs hb e=>by rw [e]at hb;exact aFl (cF hb hB2a)
 have H3:=qH (nIX hx3 (nIX hB3 (nIX hB3b htm3)));clear hB2a k23 hB3 hB3b hx3 htm3 htm hk2 r0 r1 r2;go_wp2;try rw [e3]
 clear e3 s0 s1 sf0 sf1;go_loopw [4,5] (fun bv iv wr=>aOy ls hs p w w3 g0 ha' hn hcap' ba bcap n bv iv wr) (fun _ iv _=>n- (intOf iv).toNat)
 case atStart=>exact⟨0,Nat.zero_le _,rfl,qH H3.out.1,qH H3.out.2,qH ⟨[],rfl,Row.nil _ _ _ _,fun x hx=>by simp at hx⟩⟩
 case round=>
  obtain⟨i,hi,rfl,hex,hbk,hin⟩:=hrel;obtain⟨vs,hvs,hrow,hterms⟩:=hin.out;obtain⟨bo,bc,ebv,_,_⟩:=hrow.shape;subst ebv;by_cases hlt:i<n
  ·have hltl:i<ls.length:=by rw [<-HN.out];exact hlt
   obtain⟨l,hli⟩:∃l,ls[i]?=some l:=⟨_,qG hltl⟩;obtain⟨b,off,a2,cap2,eao,hG,hb,hL,c0,c1,c2,c3,c4,c5,c6,c7⟩:=gU HE.out hli;subst eao;replace c0:=hex.out.cell c0 id;replace c1:=hex.out.cell c1 id;replace c2:=hex.out.cell c2 id;replace c3:=hex.out.cell c3 id;replace c4:=hex.out.cell c4 id;replace c5:=hex.out.cell c5 id;replace c6:=hex.out.cell c6 id;replace c7:=hex.out.cell c7 id;obtain⟨mm,emm⟩:∃mm,mm=(aA l).length:=⟨_,rfl⟩;rw [<-emm]at c2;have hmm:mm≤1048576:=by rw [emm];exact HF.out.terms l (List.mem_of_getElem? hli)
   obtain⟨k,ek⟩:∃k,k=l.1:=⟨_,rfl⟩;rw [<-ek]at c0;clear hltl hG hb;have HOL:=qH (fun(W:World) (hW:Ext w W)=>sD (bJ l) (aA l) a2 mm cap2 W G emm (hL.terms.ext hW) hmm);have b2:=hbk.out.1.c2;obtain⟨pl,epl⟩:=nm (bJ l);rw [epl]at c1 HOL;obtain⟨s3,e3⟩:=nm (gM l);rw [e3]at c3;obtain⟨s4,e4⟩:=nm ((leftOf l).1);rw [e4]at c4;obtain⟨s5,e5⟩:=nm ((leftOf l).2.1);rw [e5]at c5;obtain⟨s6,e6⟩:=nm ((aN l).1);rw [e6]at c6;obtain⟨s7,e7⟩:=nm ((aN l).2.1);rw [e7]at c7;have HL:=qH (nIX hli (show ∀a c,iH (l,(a,c))= [.int .i64 k,.string pl,.slice a mm c,.int .i64 s3,.int .i64 s4,.string s5,.int .i64 s6,.string s7]from fun a c=>by rw [ek,<-epl,emm,<-e3,<-e4,<-e5,<-e6,<-e7];rfl));have EMM:=qH emm;obtain⟨gt,egt⟩:=nm wr.heap.size;obtain⟨wx,ewx⟩:=nm (wr.alloc (.cells #[.int .i64 k,.string pl,.slice a2 mm cap2,.int .i64 s3,.int .i64 s4,.string s5,.int .i64 s6,.string s7] 40));have hgt:=bNX egt ewx;have hxx:Ext wr wx:=xAX ewx;have g1:=hgt.c1;have g2:=hgt.c2;have HX:=qH (nIX hxx (nIX hgt egt));have HIn:=qH (nIX hvs (nIX hrow hterms));clear hli emm ek epl e3 e4 e5 e6 e7 hL hgt hxx hvs hrow hterms hin;go_wp2_with fail
   clear ewx egt c0 c1 c2 c3 c4 c5 c6 c7 b2;refine(HOL.out _ (hex.out.trans HX.out.1)).mono ?_;rintro e w4 ⟨v,rfl,hk4,a3,c3,rfl,htm⟩;have hg4:=HX.out.2.1.ext hk4;have h1:=hg4.c1;have h2:=hg4.c2;have h1f:=hg4.free 1;have h2f:=hg4.free 2;obtain⟨w5,ew5⟩:=nm ((w4.setCell ⟨gt,1,none⟩ (.string pl)).setCell ⟨gt,2,none⟩ (.slice a3 mm c3));have hg5:Blk w5 gt [.int .i64 k,.string pl,.slice a3 mm c3,.int .i64 s3,.int .i64 s4,.string s5,.int .i64 s6,.string s7] 40:=by rw [<-ew5];exact(hg4.set 1 _).set 2 _
   have hk45:Kp (fun k=>k=gt) w4 w5:=by rw [<-ew5];exact kSb
   have hx5:Ext wr w5:=(HX.out.1.trans hk4).trans' hk45 fun j hj e=>by have:=HX.out.2.2;omega
   have hT5:TermsK w w5 a3 mm c3 (aA l):=(htm.old (Nat.le_trans hex.out.size HX.out.1.size)).kp hk45 fun k cs hb e=>by rw [e]at hb;exact aFm (cF hb hg4)
   have q0:=hg5.c0;have q1:=hg5.c1;have q2:=hg5.c2;have q3:=hg5.c3;have q4:=hg5.c4;have q5:=hg5.c5;have q6:=hg5.c6;have q7:=hg5.c7;have X5:=qH (nIX hx5 hT5);have HR5:=qH (HIn.out.2.1.ext hx5);clear hk4 htm hg4 hg5 hx5 hk45 hT5 g1 g2;go_wp2_with (first|(at_builtin;refine Halted.out ?_))
   clear ew5 h1 h2 h1f h2f;refine Halted.mk (bO (m:=1) (n:=i) yQ rfl _ _ rfl ((hex.out.trans X5.out.1).alloc _) rfl (HR5.out.alloc _) rfl (CellsAt.new w5 [.int .i64 k,.string pl,.slice a3 mm c3,.int .i64 s3,.int .i64 s4,.string s5,.int .i64 s6,.string s7] 40) (by rfl) (by rw [<-HL.out.2];exact aD4 _) (by omega) (by unfold maxLen;omega) ?_);intro v1 w6 hr1 hk1 hk2 _;have hbl:∀g cs,Blk w5 g cs 27->Blk w6 g cs 27:=fun g cs hb=>(hb.alloc _).kp hk2 fun e=>by obtain⟨cs',hb'⟩:=HR5.out.blkOf e;exact pB (cF hb' hb)
   have hT6:∀{a:Option Addr} {m c:Nat} {ts:List aE},TermsK w w5 a m c ts->TermsK w w6 a m c ts:=fun ht=>(ht.ext ((Kp.refl w5).alloc _)).kp hk2 fun k cs hb e=>by obtain⟨cs',hb'⟩:=(HR5.out.alloc _).blkOf e;exact aFm (cF hb hb')
   have hlen:(ls.take i).length=vs.length:=by rw [List.length_take,HIn.out.1];have:=HN.out;omega
   have et:ls.take (i+1)=ls.take i++ [l]:=by rw [List.take_add_one,HL.out.1];rfl
   have HFin:=qH (show Ext w w6/\(Blk w6 g0 [.string p,.slice ha' hn hcap',.slice (some ⟨b,off,none⟩) n bcap] 27/\Blk w6 (g0+1) [.string ⟨#[]⟩,.slice none 0 0,.slice none 0 0] 27/\TermsK w w6 ha' hn hcap' hs)/\∃vs,vs.length=i+1/\Row w6 40 8 v1 (i+1) (((ls.take (i+1)).zip vs).flatMap iH) (New w)/\∀x∈(ls.take (i+1)).zip vs,TermsK w w6 x.2.1 (aA x.1).length x.2.2 (aA x.1)from by
    refine⟨hk1,⟨hbl _ _ (hbk.out.1.ext X5.out.1),hbl _ _ (hbk.out.2.1.ext X5.out.1),hT6 (hbk.out.2.2.ext X5.out.1)⟩,vs++ [(a3,c3)],by rw [List.length_append,HIn.out.1];rfl,?_,?_⟩
    ·rw [et,List.zip_append hlen,List.flatMap_append];have e2:(([l].zip [(a3,c3)]).flatMap iH)= [.int .i64 k,.string pl,.slice a3 mm c3,.int .i64 s3,.int .i64 s4,.string s5,.int .i64 s6,.string s7]:=by
      show iH (l,(a3,c3))++ []=_;rw [HL.out.2,List.append_nil]
     rw [e2];exact hr1
    ·intro x hx;rw [et,List.zip_append hlen,List.mem_append]at hx;rcases hx with hx|hx
     ·exact hT6 ((HIn.out.2.2 x hx).ext X5.out.1)
     ·simp at hx;subst hx;have h:=hT6 X5.out.2;rw [EMM.out]at h;exact h)
   obtain⟨b6,c6,ev6,_,_⟩:=hr1.shape;subst ev6;clear hr1 hk1 hk2 hbl hT6 hlen et q0 q1 q2 q3 q4 q5 q6 q7;go_wp2;go_roundw
   case rel=>exact⟨i+1,by omega,nMX,qH HFin.out.1,qH HFin.out.2.1,qH HFin.out.2.2⟩
   case measure=>simp [intOf];omega
  ·obtain rfl:n=i:=by omega
   have hall:ls.take n=ls:=List.take_of_length_le (by have:=HN.out;omega);rw [hall]at hrow hterms;have HR5:=qH hrow;have HTs:=qH (nIX hvs hterms);have HBk:=hbk;have HEx:=hex;clear hrow hterms hvs hall hin hbk;go_wp2_with (first|(at_builtin;refine Halted.out ?_))
   refine Halted.mk (bO (m:=1) (n:=n) yQ rfl _ _ rfl (HEx.out.alloc _) rfl (HR5.out.alloc _) rfl (CellsAt.new wr [.int .i64 (-72),.string ⟨#[]⟩,.slice none 0 0,.int .i64 0,.int .i64 0,.string ⟨#[]⟩,.int .i64 0,.string ⟨#[]⟩] 40) (by rfl) (by intro u hu;simp at hu;rcases hu with rfl|rfl|rfl|rfl|rfl|rfl|rfl|rfl<;>rfl) (by omega) (by unfold maxLen;omega) ?_);intro v1 w6 hr1 hk1 hk2 _;have hbl:∀g cs,Blk wr g cs 27->Blk w6 g cs 27:=fun g cs hb=>(hb.alloc _).kp hk2 fun e=>by obtain⟨cs',hb'⟩:=HR5.out.blkOf e;exact pB (cF hb' hb)
   have hT6:∀{a:Option Addr} {m c:Nat} {ts:List aE},TermsK w wr a m c ts->TermsK w w6 a m c ts:=fun ht=>(ht.ext ((Kp.refl wr).alloc _)).kp hk2 fun k cs hb e=>by obtain⟨cs',hb'⟩:=(HR5.out.alloc _).blkOf e;exact aFm (cF hb hb')
   obtain⟨h1,⟨rfl,h0⟩|⟨gb,cap2,rest,rfl,hM,hBB,hlen,hnc,hcm⟩⟩:=hr1
   ·omega
   ·have hB6:=hbl _ _ HBk.out.1;have hB6b:=hbl _ _ HBk.out.2.1;have hcm2:cap2≤9223372036854775807:=hcm;have i1:(n:Int)≤(cap2:Int):=by omega
    have q0:=hB6.c0;have q1:=hB6.c1;have q2:=hB6.c2;have p0:=hB6b.c0;have p1:=hB6b.c1;have p2:=hB6b.c2;have f2:=hB6.free 2;have f3:=hB6b.free 0;have f4:=hB6b.free 1;have f5:=hB6b.free 2;have H6:=qH (show Ext w w6/\Blk w6 g0 [.string p,.slice ha' hn hcap',.slice ba n bcap] 27/\Blk w6 (g0+1) [.string ⟨#[]⟩,.slice none 0 0,.slice none 0 0] 27/\TermsK w w6 ha' hn hcap' hs/\Blk w6 gb ((ls.zip vs).flatMap iH++(aN6++rest)) 40/\(∀x∈ls.zip vs,TermsK w w6 x.2.1 (aA x.1).length x.2.2 (aA x.1))/\New w gb from
     ⟨hk1,hB6,hB6b,hT6 HBk.out.2.2,by rw [<-List.append_assoc];exact hBB,fun x hx=>hT6 (HTs.out.2 x hx),hM⟩)
    clear h1 hk1 hk2 hbl hT6 hB6 hB6b hM hBB hlen;go_wp2;obtain⟨W,eW⟩:=nm (((((w6.setCell ⟨g0,2,none⟩ (.slice (some ⟨gb,0,none⟩) n cap2)).setCell ⟨g0+1,0,none⟩ (.string p)).setCell ⟨g0+1,1,none⟩ (.slice ha' hn hcap')).setCell ⟨g0+1,2,none⟩ (.slice (some ⟨gb,0,none⟩) n cap2)));have n1:g0≠g0+1:=by omega
    have hBW:Blk W (g0+1) [.string p,.slice ha' hn hcap',.slice (some ⟨gb,0,none⟩) n cap2] 27:=by rw [<-eW];exact(((H6.out.2.2.1.other (p:=⟨g0,2,none⟩) (fun e=>n1 e.symm) _).set 0 _).set 1 _).set 2 _
    have kW:Kp (fun k=>k=g0\/k=g0+1) w6 W:=by rw [<-eW];exact Kp.setCell (F:=fun k=>k=g0\/k=g0+1) (p:=⟨g0+1,2,none⟩) (Kp.setCell (F:=fun k=>k=g0\/k=g0+1) (p:=⟨g0+1,1,none⟩) (Kp.setCell (F:=fun k=>k=g0\/k=g0+1) (p:=⟨g0+1,0,none⟩) (Kp.setCell (F:=fun k=>k=g0\/k=g0+1) (p:=⟨g0,2,none⟩) (Kp.refl w6) (fun _=> .inl rfl) _) (fun _=> .inr rfl) _) (fun _=> .inr rfl) _) (fun _=> .inr rfl) _
    have d0:=hBW.c0;have d1:=hBW.c1;have d2:=hBW.c2;rw [eW];have noT:∀k cs,Blk w6 k cs 38->¬(k=g0\/k=g0+1):=fun k cs hb h=>by
     rcases h with h|h
     ·rw [h]at hb;exact aFl (cF hb H6.out.2.1)
     ·rw [h]at hb;exact aFl (cF hb H6.out.2.2.1)
    have noL:¬(gb=g0\/gb=g0+1):=fun h=>by
     rcases h with h|h
     ·have hb:=H6.out.2.2.2.2.1;rw [h]at hb;exact pB (cF hb H6.out.2.1)
     ·have hb:=H6.out.2.2.2.2.1;rw [h]at hb;exact pB (cF hb H6.out.2.2.1)
    refine bodyPost_ret (v:=cI p ha' hn hcap' (some ⟨gb,0,none⟩) n cap2) (by simp [results,Tryz.results19,go_sem,d0,d1,d2]) rfl ?_;exact RetN.mk (H6.out.1.trans' kW fun i hi h=>by have:=H1.out.2.2.2;omega) ⟨_,_,_,_,rfl,H6.out.2.2.2.1.kp kW noT,gb,rest,vs,rfl,HN.out,hnc,hcm,H6.out.2.2.2.2.2.2,by rw [HTs.out.1,HN.out],H6.out.2.2.2.2.1.kp kW noL,fun x hx=>(H6.out.2.2.2.2.2.1 x hx).kp kW noT⟩
end
section
open Go.RowKit Go.Shelf
section
variable {z z1 z2:Prop}{S:Nat->Prop}{w w':World}{b b1 b2:Nat}{iv iv1 iv2:Value}{arity a1 a2:Nat}{LL L1 L2:List (List ByteArray)}
theorem aB3(h1:RowsAt S w b1 iv1 a1 L1)(h2:RowsAt S w b2 iv2 a2 L2):
 Calls Tryz.prog 132 #[.pointer (some ⟨b1,0,none⟩),.pointer (some ⟨b2,0,none⟩)] w (RetN w fun w' v=>v= .bool (decide (L1=L2))):=by
 obtain⟨con,zs,zs2,hc,hs,hp,hd,hl,hl2⟩:=h1.two h2;refine(wL hs hp hd).mono ?_;rintro e w' ⟨v,rfl,hk,r,rfl,hr⟩;refine RetN.mk hk ?_;have e:r=decide (L1=L2):=by
  rw [Bool.eq_iff_iff,hr,decide_eq_true_iff,<-hl,<-hl2];constructor
  ·rintro⟨h1,h2⟩;refine List.ext_getElem (by simpa using h1) fun i hi hj=>?_;rw [List.length_map]at hi hj;rw [List.getElem_map,List.getElem_map];exact iT (h2 i _ _ (qG hi) (qG hj))
  ·intro h;have hn:=congrArg List.length h;rw [List.length_map,List.length_map]at hn;refine⟨hn,fun i x y hx hy=>?_⟩;have h3:=congrArg (fun l=>l[i]?) h;simp only [List.getElem?_map,hx,hy,Option.map_some,Option.some.injEq]at h3;rw [h3];exact oU _
 rw [e]
theorem wS(c1:w.cell? ⟨b1,2,none⟩=some (.int .i64 a1))(c2:w.cell? ⟨b2,2,none⟩=some (.int .i64 a2))(hne:a1≠a2):
 Calls Tryz.prog 94 #[.pointer (some ⟨b1,0,none⟩),.pointer (some ⟨b2,0,none⟩)] w (RetD (.bool false) w):=by
 have t:((a1:Int)==(a2:Int))=false:=by simp;omega
 go_enter Tryz.func94,Tryz.ntmps94;go_wp2;refine wp_region_held_drew (S:=fun w'=>w'.cell? ⟨b1,2,none⟩=some (.int .i64 a1)/\w'.cell? ⟨b2,2,none⟩=some (.int .i64 a2)) (by kernel_rfl) ⟨by assumption,by assumption⟩ (fun hHeld=>?_)
 (refine aW (i:=0) (v:=?_) rfl ?_ ?_;rotate_left;(intro w hSw;(try dsimp only at hSw);go_simp;try with_reducible rfl));(try simp only [Act.put,sI,sZ,sS])
 (refine aW (i:=1) (v:=?_) rfl ?_ ?_;rotate_left;(intro w hSw;(try dsimp only at hSw);go_simp;try with_reducible rfl));(try simp only [Act.put,sI,sZ,sS])
 (refine aW (i:=2) (v:=?_) rfl ?_ ?_;rotate_left;(intro w hSw;(try dsimp only at hSw);go_simp;try with_reducible rfl));(try simp only [Act.put,sI,sZ,sS])
 (first|(refine aW (i:=3) (v:=?_) rfl ?_ ?_;rotate_left;(intro w hSw;(try dsimp only at hSw);go_simp;try with_reducible rfl))|(refine bF (i:=3) rfl ?_));(try simp only [Act.put,sI,sZ,sS])
 (first|(refine aW (i:=4) (v:=?_) rfl ?_ ?_;rotate_left;(intro w hSw;(try dsimp only at hSw);go_simp;try with_reducible rfl))|(refine bF (i:=4) rfl ?_));(try simp only [Act.put,sI,sZ,sS])
 (refine aW (i:=5) (v:=?_) rfl ?_ ?_;rotate_left;(intro w hSw;(try dsimp only at hSw);go_simp;try with_reducible rfl));(try simp only [Act.put,sI,sZ,sS])
 (refine aW (i:=6) (v:=?_) rfl ?_ ?_;rotate_left;(intro w hSw;(try dsimp only at hSw);go_simp;try with_reducible rfl));(try simp only [Act.put,sI,sZ,sS])
 (first|(refine aW (i:=7) (v:=?_) rfl ?_ ?_;rotate_left;(intro w hSw;(try dsimp only at hSw);go_simp;try with_reducible rfl))|(refine bF (i:=7) rfl ?_));(try simp only [Act.put,sI,sZ,sS])
 (first|(refine aW (i:=8) (v:=?_) rfl ?_ ?_;rotate_left;(intro w hSw;(try dsimp only at hSw);go_simp;try with_reducible rfl))|(refine bF (i:=8) rfl ?_));(try simp only [Act.put,sI,sZ,sS])
 (first|(refine aW (i:=9) (v:=?_) rfl ?_ ?_;rotate_left;(intro w hSw;(try dsimp only at hSw);go_simp;try with_reducible rfl))|(refine bF (i:=9) rfl ?_));(try simp only [Act.put,sI,sZ,sS])
 (first|(refine aW (i:=10) (v:=?_) rfl ?_ ?_;rotate_left;(intro w hSw;(try dsimp only at hSw);go_simp;try with_reducible rfl))|(refine bF (i:=10) rfl ?_));(try simp only [Act.put,sI,sZ,sS])
 (first|(refine aW (i:=11) (v:=?_) rfl ?_ ?_;rotate_left;(intro w hSw;(try dsimp only at hSw);go_simp;try with_reducible rfl))|(refine bF (i:=11) rfl ?_));(try simp only [Act.put,sI,sZ,sS])
 (first|(refine aW (i:=12) (v:=?_) rfl ?_ ?_;rotate_left;(intro w hSw;(try dsimp only at hSw);go_simp;try with_reducible rfl))|(refine bF (i:=12) rfl ?_));(try simp only [Act.put,sI,sZ,sS])
 (first|(refine aW (i:=13) (v:=?_) rfl ?_ ?_;rotate_left;(intro w hSw;(try dsimp only at hSw);go_simp;try with_reducible rfl))|(refine bF (i:=13) rfl ?_));(try simp only [Act.put,sI,sZ,sS])
 (first|(refine aW (i:=14) (v:=?_) rfl ?_ ?_;rotate_left;(intro w hSw;(try dsimp only at hSw);go_simp;try with_reducible rfl))|(refine bF (i:=14) rfl ?_));(try simp only [Act.put,sI,sZ,sS])
 (first|(refine aW (i:=15) (v:=?_) rfl ?_ ?_;rotate_left;(intro w hSw;(try dsimp only at hSw);go_simp;try with_reducible rfl))|(refine bF (i:=15) rfl ?_));(try simp only [Act.put,sI,sZ,sS])
 (refine aW (i:=16) (v:=?_) rfl ?_ ?_;rotate_left;(intro w hSw;(try dsimp only at hSw);go_simp;try with_reducible rfl));(try simp only [Act.put,sI,sZ,sS])
 (refine aW (i:=17) (v:=?_) rfl ?_ ?_;rotate_left;(intro w hSw;(try dsimp only at hSw);go_simp;try with_reducible rfl));(try simp only [Act.put,sI,sZ,sS])
 (first|(refine aW (i:=18) (v:=?_) rfl ?_ ?_;rotate_left;(intro w hSw;(try dsimp only at hSw);go_simp;try with_reducible rfl))|(refine bF (i:=18) rfl ?_));(try simp only [Act.put,sI,sZ,sS])
 (first|(refine aW (i:=20) (v:=?_) rfl ?_ ?_;rotate_left;(intro w hSw;(try dsimp only at hSw);go_simp;try with_reducible rfl))|(refine bF (i:=20) rfl ?_));(try simp only [Act.put,sI,sZ,sS])
 (first|(refine bF (i:=19) rfl ?_)|(refine jF (i:=19) rfl (fun K hK=>?_);go_simp;(fail);go_wp2_with fail;refine hK.out _ _ ?_ (fun hHeld=>?_);(try dsimp only);(exact⟨by assumption,by assumption⟩);clear hK K));(try simp only [Act.put,sI,sZ,sS])
 (first|(refine bF (i:=21) rfl ?_)|(refine jF (i:=21) rfl (fun K hK=>?_);go_simp;(fail);go_wp2_with fail;refine hK.out _ _ ?_ (fun hHeld=>?_);(try dsimp only);(exact⟨by assumption,by assumption⟩);clear hK K));(try simp only [Act.put,sI,sZ,sS])
 (first|(refine bF (i:=22) rfl ?_)|(refine jF (i:=22) rfl (fun K hK=>?_);go_simp;(fail);go_wp2_with fail;refine hK.out _ _ ?_ (fun hHeld=>?_);(try dsimp only);(exact⟨by assumption,by assumption⟩);clear hK K));(try simp only [Act.put,sI,sZ,sS])
 (refine aW (i:=23) (v:=?_) rfl ?_ ?_;rotate_left;(intro w hSw;(try dsimp only at hSw);go_simp;try with_reducible rfl));(try simp only [Act.put,sI,sZ,sS])
 (refine aW (i:=24) (v:=?_) rfl ?_ ?_;rotate_left;(intro w hSw;(try dsimp only at hSw);go_simp;try with_reducible rfl));(try simp only [Act.put,sI,sZ,sS])
 refine wpAnyH_done (by kernel_rfl) ?_ _;go_wp2;go_ret;exact RetD.mk rfl 1
set_option maxHeartbeats 2000000 in
theorem rJ(h1:RowsQ z1 S w b1 iv1 a1 L1)(c2:w.cell? ⟨b2,2,none⟩=some (.int .i64 a2))(he:a1=a2)
 (h2:∀W,Kp (FQ z1 b1) w W->RowsAt S W b1 iv1 a1 L1->RowsQ z2 S W b2 iv2 a2 L2)(h3:∀W W',RowsAt S W b1 iv1 a1 L1->Kp (FQ z2 b2) W W'->RowsAt S W' b2 iv2 a2 L2->RowsAt S W' b1 iv1 a1 L1):
 Calls Tryz.prog 94 #[.pointer (some ⟨b1,0,none⟩),.pointer (some ⟨b2,0,none⟩)] w
  (RetF (fun k=>FQ z1 b1 k\/FQ z2 b2 k) w fun w' v=>v= .bool (decide (L1=L2))/\RowsAt S w' b1 iv1 a1 L1/\RowsAt S w' b2 iv2 a2 L2):=by
 have t:((a1:Int)==(a2:Int))=true:=by simp [he]
 have c1:=h1.ar;have HS1:=qH (fun W (hW:Ext w W)=>jG (h1.ext hW));have H2:=qH h2;have H1:=qH h3;clear h1 h2 h3;go_enter Tryz.func94,Tryz.ntmps94;go_wp2;refine wp_region_held_drew (S:=fun w'=>w'.cell? ⟨b1,2,none⟩=some (.int .i64 a1)/\w'.cell? ⟨b2,2,none⟩=some (.int .i64 a2)) (by kernel_rfl) ⟨by assumption,by assumption⟩ (fun hHeld=>?_)
 (refine aW (i:=0) (v:=?_) rfl ?_ ?_;rotate_left;(intro w hSw;(try dsimp only at hSw);go_simp;try with_reducible rfl));(try simp only [Act.put,sI,sZ,sS])
 (refine aW (i:=1) (v:=?_) rfl ?_ ?_;rotate_left;(intro w hSw;(try dsimp only at hSw);go_simp;try with_reducible rfl));(try simp only [Act.put,sI,sZ,sS])
 (refine aW (i:=2) (v:=?_) rfl ?_ ?_;rotate_left;(intro w hSw;(try dsimp only at hSw);go_simp;try with_reducible rfl));(try simp only [Act.put,sI,sZ,sS])
 (first|(refine aW (i:=3) (v:=?_) rfl ?_ ?_;rotate_left;(intro w hSw;(try dsimp only at hSw);go_simp;try with_reducible rfl))|(refine bF (i:=3) rfl ?_));(try simp only [Act.put,sI,sZ,sS])
 (first|(refine aW (i:=4) (v:=?_) rfl ?_ ?_;rotate_left;(intro w hSw;(try dsimp only at hSw);go_simp;try with_reducible rfl))|(refine bF (i:=4) rfl ?_));(try simp only [Act.put,sI,sZ,sS])
 (refine aW (i:=5) (v:=?_) rfl ?_ ?_;rotate_left;(intro w hSw;(try dsimp only at hSw);go_simp;try with_reducible rfl));(try simp only [Act.put,sI,sZ,sS])
 (refine aW (i:=6) (v:=?_) rfl ?_ ?_;rotate_left;(intro w hSw;(try dsimp only at hSw);go_simp;try with_reducible rfl));(try simp only [Act.put,sI,sZ,sS])
 (first|(refine aW (i:=7) (v:=?_) rfl ?_ ?_;rotate_left;(intro w hSw;(try dsimp only at hSw);go_simp;try with_reducible rfl))|(refine bF (i:=7) rfl ?_));(try simp only [Act.put,sI,sZ,sS])
 (first|(refine aW (i:=8) (v:=?_) rfl ?_ ?_;rotate_left;(intro w hSw;(try dsimp only at hSw);go_simp;try with_reducible rfl))|(refine bF (i:=8) rfl ?_));(try simp only [Act.put,sI,sZ,sS])
 (first|(refine aW (i:=9) (v:=?_) rfl ?_ ?_;rotate_left;(intro w hSw;(try dsimp only at hSw);go_simp;try with_reducible rfl))|(refine bF (i:=9) rfl ?_));(try simp only [Act.put,sI,sZ,sS])
 (first|(refine aW (i:=10) (v:=?_) rfl ?_ ?_;rotate_left;(intro w hSw;(try dsimp only at hSw);go_simp;try with_reducible rfl))|(refine bF (i:=10) rfl ?_));(try simp only [Act.put,sI,sZ,sS])
 (first|(refine aW (i:=11) (v:=?_) rfl ?_ ?_;rotate_left;(intro w hSw;(try dsimp only at hSw);go_simp;try with_reducible rfl))|(refine bF (i:=11) rfl ?_));(try simp only [Act.put,sI,sZ,sS])
 (first|(refine aW (i:=12) (v:=?_) rfl ?_ ?_;rotate_left;(intro w hSw;(try dsimp only at hSw);go_simp;try with_reducible rfl))|(refine bF (i:=12) rfl ?_));(try simp only [Act.put,sI,sZ,sS])
 (first|(refine aW (i:=13) (v:=?_) rfl ?_ ?_;rotate_left;(intro w hSw;(try dsimp only at hSw);go_simp;try with_reducible rfl))|(refine bF (i:=13) rfl ?_));(try simp only [Act.put,sI,sZ,sS])
 (first|(refine aW (i:=14) (v:=?_) rfl ?_ ?_;rotate_left;(intro w hSw;(try dsimp only at hSw);go_simp;try with_reducible rfl))|(refine bF (i:=14) rfl ?_));(try simp only [Act.put,sI,sZ,sS])
 (first|(refine aW (i:=15) (v:=?_) rfl ?_ ?_;rotate_left;(intro w hSw;(try dsimp only at hSw);go_simp;try with_reducible rfl))|(refine bF (i:=15) rfl ?_));(try simp only [Act.put,sI,sZ,sS])
 (refine aW (i:=16) (v:=?_) rfl ?_ ?_;rotate_left;(intro w hSw;(try dsimp only at hSw);go_simp;try with_reducible rfl));(try simp only [Act.put,sI,sZ,sS])
 (refine aW (i:=17) (v:=?_) rfl ?_ ?_;rotate_left;(intro w hSw;(try dsimp only at hSw);go_simp;try with_reducible rfl));(try simp only [Act.put,sI,sZ,sS])
 (first|(refine aW (i:=18) (v:=?_) rfl ?_ ?_;rotate_left;(intro w hSw;(try dsimp only at hSw);go_simp;try with_reducible rfl))|(refine bF (i:=18) rfl ?_));(try simp only [Act.put,sI,sZ,sS])
 (first|(refine aW (i:=20) (v:=?_) rfl ?_ ?_;rotate_left;(intro w hSw;(try dsimp only at hSw);go_simp;try with_reducible rfl))|(refine bF (i:=20) rfl ?_));(try simp only [Act.put,sI,sZ,sS])
 (first|(refine bF (i:=19) rfl ?_)|(refine jF (i:=19) rfl (fun K hK=>?_);go_simp;((with_reducible refine(HS1.out _ ?_).mono ?_);exact(Kp.refl w).drew;rintro e w1 ⟨v1,rfl,hk1,rfl,hr1⟩;have hk1':Kp (FQ z1 b1) w w1:=(show Kp (FQ z1 b1) w _ from(Kp.refl w).drew).trans hk1;have hq2:=H2.out _ hk1' hr1;have d1:=(hr1.q (z:=False)).ar;have d2:=hq2.ar;have HK1:=qH (nIX hk1' hr1);have HS2:=qH (jG hq2);clear hk1 hk1' hr1 hq2);go_wp2_with fail;refine hK.out _ _ ?_ (fun hHeld=>?_);(try dsimp only);(exact⟨by assumption,by assumption⟩);clear hK K));(try simp only [Act.put,sI,sZ,sS])
 (first|(refine bF (i:=21) rfl ?_)|(refine jF (i:=21) rfl (fun K hK=>?_);go_simp;(refine HS2.out.mono ?_;rintro e w2 ⟨v2,rfl,hk2,rfl,hr2⟩;have hr1':=H1.out _ _ HK1.out.2 hk2 hr2;have e1:=(hr1'.q (z:=False)).ar;have e2:=(hr2.q (z:=False)).ar;have HK2:=qH (nIX hk2 (nIX hr1' hr2));have HFF:=qH (aB3 hr1' hr2);clear hk2 hr1' hr2);go_wp2_with fail;refine hK.out _ _ ?_ (fun hHeld=>?_);(try dsimp only);(exact⟨by assumption,by assumption⟩);clear hK K));(try simp only [Act.put,sI,sZ,sS])
 (first|(refine bF (i:=22) rfl ?_)|(refine jF (i:=22) rfl (fun K hK=>?_);go_simp;(refine HFF.out.mono ?_;rintro e w3 ⟨v3,rfl,hk3,rfl⟩;have f1:=hk3.cell e1 id;have f2:=hk3.cell e2 id;have HK3:=qH hk3;clear hk3);go_wp2_with fail;refine hK.out _ _ ?_ (fun hHeld=>?_);(try dsimp only);(exact⟨by assumption,by assumption⟩);clear hK K));(try simp only [Act.put,sI,sZ,sS])
 (refine aW (i:=23) (v:=?_) rfl ?_ ?_;rotate_left;(intro w hSw;(try dsimp only at hSw);go_simp;try with_reducible rfl));(try simp only [Act.put,sI,sZ,sS])
 (refine aW (i:=24) (v:=?_) rfl ?_ ?_;rotate_left;(intro w hSw;(try dsimp only at hSw);go_simp;try with_reducible rfl));(try simp only [Act.put,sI,sZ,sS])
 refine wpAnyH_done (by kernel_rfl) ?_ _;go_wp2;go_ret;obtain⟨hk2,hr1,hr2⟩:=HK2.out;exact RetF.mk (((HK1.out.1.mono fun _ _ h=> .inl h).trans (hk2.mono fun _ _ h=> .inr h)).ext HK3.out) ⟨rfl,hr1.ext HK3.out,hr2.ext HK3.out⟩
theorem aF0(h1:RowsQ z1 S w b1 iv1 arity L1)(h2:RowsQ z2 S w b2 iv2 arity L2)(hap:∀k,dY b1 iv1 k->¬dY b2 iv2 k):
 Calls Tryz.prog 94 #[.pointer (some ⟨b1,0,none⟩),.pointer (some ⟨b2,0,none⟩)] w
  (RetF (fun k=>FQ z1 b1 k\/FQ z2 b2 k) w fun w' v=>v= .bool (decide (L1=L2))/\RowsAt S w' b1 iv1 arity L1/\RowsAt S w' b2 iv2 arity L2):=
 rJ h1 h2.ar rfl (fun W hk _=>h2.kp hk (fun k hk ho=>hap k (FQ.owns k hk) ho) (fun k hk hS=>h1.notS k (FQ.owns k hk) hS))
  (fun W W' hr hk _=>hr.move hk (fun k hk ho=>hap k ho (FQ.owns k hk)) (fun k hk hS=>h2.notS k (FQ.owns k hk) hS) (fun _ h=>h) (fun k hS=>Nat.lt_of_lt_of_le (hr.inS k hS) hk.size) hr.notS)
theorem zP(h:RowsQ z S w b iv arity LL):
 Calls Tryz.prog 94 #[.pointer (some ⟨b,0,none⟩),.pointer (some ⟨b,0,none⟩)] w (RetF (FQ z b) w fun w' v=>v= .bool true/\RowsAt S w' b iv arity LL):=by
 refine(rJ (z2:=z) h h.ar rfl (fun W hk hr=>hr.q) (fun W W' hr hk h=>h)).mono ?_;rintro e w' ⟨v,rfl,hk,rfl,h1,_⟩;exact RetF.mk (hk.mono fun _ _ h=>by rcases h with h|h<;>exact h) ⟨by simp,h1⟩
theorem uH(a:Int)(w:World)(ha:a<0\/64<a):Calls Tryz.prog 85 #[.int .i64 a] w (Ret (.tuple #[.pointer none,.int .i64 2]) w):=by
 by_cases h0:a<0
 ·have t1:decide (a<0)=true:=by simp [h0]
  go_enter Tryz.func85,Tryz.ntmps85;go_wp2;go_ret2;exact Ret.mk rfl
 ·have h1:64<a:=by omega
  have t1:decide (a<0)=false:=by simp;omega
  have t2:decide (a>64)=true:=by simp;omega
  have t3:decide (64<a)=true:=by simp;omega
  go_enter Tryz.func85,Tryz.ntmps85;go_wp2;go_ret2;exact Ret.mk rfl
end
end
section
open Go.RowKit
theorem aBs{C:List aZ}{s:ByteArray}(row:List ByteArray)(h:bZ s=false):dD C s row=(false,32):=if_pos h
theorem aBt{C:List aZ}{s:ByteArray}{row:List ByteArray}(h:bZ s=true)(hg:bL C s=none)(hl:64<row.length):dD C s row=(false,30):=by unfold dD;rw [if_neg (by rw [h];simp),if_pos (by unfold oX;rw [hg];exact decide_eq_false (by omega))]
theorem rA{C:List aZ}{s:ByteArray}{row:List ByteArray}{v:Nat×aD}(h:bZ s=true)(hg:bL C s=some v)(hl:v.1≠row.length):dD C s row=(false,30):=by unfold dD;rw [if_neg (by rw [h];simp),if_pos (by unfold oX;rw [hg];exact decide_eq_false hl)]
theorem pQ{C:List aZ}{s:ByteArray}{row:List ByteArray}(h:bZ s=true)(hg:oX C s row=true)(ht:bP row=false):dD C s row=(false,31):=by unfold dD;rw [if_neg (by rw [h];simp),if_neg (by rw [hg];simp),if_pos ht]
theorem pR{C:List aZ}{s:ByteArray}{row:List ByteArray}(h:bZ s=true)(hg:oX C s row=true)(ht:bP row=true)(hm:262144≤aX C)(hi:bD aC (bG C s) row=false):dD C s row=(false,4):=by unfold dD;rw [if_neg (by rw [h];simp),if_neg (by rw [hg];simp),if_neg (by rw [ht];simp),if_pos ⟨hm,hi⟩]
theorem iM{C:List aZ}{s:ByteArray}{row:List ByteArray}(h:bZ s=true)(hg:oX C s row=true)(ht:bP row=true)(hm:¬(262144≤aX C/\bD aC (bG C s) row=false)):
 dD C s row=if 65536≤(bG C s).length/\bD aC (bG C s) row=false then(false,4)else(!bD aC (bG C s) row,0):=by
 unfold dD;rw [if_neg (by rw [h];simp),if_neg (by rw [hg];simp),if_neg (by rw [ht];simp),if_neg hm]
theorem pO{C:List aZ}{s:ByteArray}{row:List ByteArray}{v:Nat×aD}(hg:bL C s=some v)(h:v.1=row.length):oX C s row=true:=by unfold oX;rw [hg];exact decide_eq_true h
theorem vZ{C:List aZ}{s:ByteArray}{row:List ByteArray}(hg:bL C s=none)(h:row.length≤64):oX C s row=true:=by unfold oX;rw [hg];exact decide_eq_true h
theorem zG{C:List aZ}{s:ByteArray}{row:List ByteArray}(h:(dD C s row).2≠0):fN C s row=C:=if_neg h
section
variable {S S':Nat->Prop}{w w1 w2 w3 w4:World}{bb r:Nat}{E:List Ent}{s:ByteArray}{ss:List ByteArray}{e:Ent}{iv':Value}
def BaseAdded(S:Nat->Prop)(w:World)(bb r:Nat)(E:List Ent)(s:ByteArray)(ss:List ByteArray)(w':World)(v:Value):Prop:=
 v= .tuple #[.bool (dD (aS E) s ss).1,.int .i64 ((dD (aS E) s ss).2:Nat)]/\∃S' E',(∀k,S k->S' k)/\(∀k,S' k->S k\/w.heap.size≤k)/\BaseAt S' w' bb r E'/\aS E'=fN (aS E) s ss/\∀k,iA bb r E' k->iA bb r E k\/w.heap.size≤k
theorem BaseAdded.same(h:BaseAt S w bb r E)(hk:Ext w w1){n:Nat}(hR:dD (aS E) s ss=(false,n))(hn:n≠0){v:Value}(hv:v= .tuple #[.bool false,.int .i64 (n:Nat)]):BaseAdded S w bb r E s ss w1 v:=
 ⟨by rw [hv,hR],S,E,fun _ h=>h,fun _ h=> .inl h,h.ext hk,(zG (by rw [hR];exact hn)).symm,fun _ h=> .inl h⟩
theorem xG{pre post:List Ent}(hiv:∀k,iv'.ownBlock=some k->e.iv.ownBlock=some k\/w.heap.size≤k)(LL':List (List ByteArray)):∀k,iA bb r (pre++{e with iv:=iv',LL:=LL'}::post) k->iA bb r (pre++e::post) k\/w.heap.size≤k:=by
 rintro k (h|h|⟨f,hf,ho⟩)
 ·exact .inl (.inl h)
 ·exact .inl (.inr (.inl h))
 ·rcases List.mem_append.1 hf with hf|hf
  ·exact .inl (.inr (.inr ⟨f,List.mem_append_left _ hf,ho⟩))
  ·rcases List.mem_cons.1 hf with rfl|hf
   ·rcases ho with ho|ho
    ·exact .inl (.inr (.inr ⟨e,List.mem_append_right _ List.mem_cons_self,.inl ho⟩))
    ·rcases hiv k ho with h2|h2
     ·exact .inl (.inr (.inr ⟨e,List.mem_append_right _ List.mem_cons_self,.inr h2⟩))
     ·exact .inr h2
   ·exact .inl (.inr (.inr ⟨f,List.mem_append_right _ (List.mem_cons_of_mem _ hf),ho⟩))
theorem oW(h:BaseAt S w bb r E)(he:bS E s=some e)(hx:Ext w w2)(hk:Kp e.own w2 w3):MapIs w3 r (eT E):=(h.map.ext hx).kp hk fun ho=>(h.off e (cZ he).1 r ho).2 rfl
theorem iU(h:BaseAt S w bb r E)(he:bS E s=some e)(hx:Ext w w2)(hk:Kp e.own w2 w3):Blk w3 bb [.map (some r),.int .i64 (aX (aS E):Nat)] 129:=(h.blk.ext hx).kp hk fun ho=>(h.off e (cZ he).1 bb ho).1 rfl
theorem sO{LL:List (List ByteArray)}(h:BaseAt S w bb r E)(he:bS E s=some e)(hf:bZ s=true/\e.ar=ss.length/\bP ss=true/\e.LL=LL/\¬(262144≤aX (aS E)/\bD aC LL ss=false))(hx:Ext w w2)(hk:Kp e.own w2 w3)(hss:∀k,S k->S' k)(hsn:∀k,S' k->S k\/w2.heap.size≤k)
 (hr:RowsAt S' w3 e.b iv' e.ar (aP e.ar LL ss))(hiv:∀k,iv'.ownBlock=some k->e.iv.ownBlock=some k\/w2.heap.size≤k)(h0:aI e.ar LL ss=if 65536≤LL.length/\bD aC LL ss=false then(false,4)else(!bD aC LL ss,0))(h4:65536≤LL.length/\bD aC LL ss=false):
 RetF (iA bb r E) w (BaseAdded S w bb r E s ss) (.returned (.tuple #[.bool false,.int .i64 4])) w3:=by
 obtain⟨f1,f2,f3,f4,f5⟩:=hf;obtain⟨g1,g2⟩:=fF he;have hL:aP e.ar LL ss=LL:=by unfold aP;rw [h0,if_pos h4];rfl
 rw [hL]at hr;have hR:dD (aS E) s ss=(false,4):=by rw [iM f1 (pO g1 f2) f3 (by rw [g2,f4];exact f5),g2,f4,if_pos h4]
 have hC:fN (aS E) s ss=aS E:=zG (by rw [hR];decide);obtain⟨pre,post,rfl⟩:=kN he;have hem:e∈pre++e::post:=List.mem_append_right _ List.mem_cons_self;have hkw:Kp e.own w w3:=(Ext.kp hx).trans hk;have hz:=hx.size;have hs2:∀k,S' k->S k\/w.heap.size≤k:=fun k hk'=>(hsn k hk').imp id fun q=>Nat.le_trans hz q;have hiv2:∀k,iv'.ownBlock=some k->e.iv.ownBlock=some k\/w.heap.size≤k:=fun k hk'=>(hiv k hk').imp id fun q=>Nat.le_trans hz q;have hsame:aS (pre++{e with iv:=iv',LL:=LL}::post)=aS (pre++e::post):=by rw [<-f4];simp [aS,Ent.cnt]
 refine RetF.mk (hkw.mono fun k _ ho=> .inr (.inr ⟨e,hem,ho⟩)) ⟨by rw [hR];rfl,S',pre++{e with iv:=iv',LL:=LL}::post,hss,hs2,?_,by rw [hC,hsame],xG hiv2 LL⟩;exact h.turn hkw hss hs2 hr hiv2 (Kp.refl _) (oW h he hx hk) (iU h he hx hk) (by rw [hsame]) (by rw [hsame];exact h.ok)
theorem vE{LL:List (List ByteArray)}(h:BaseAt S w bb r E)(he:bS E s=some e)(hf:bZ s=true/\e.ar=ss.length/\bP ss=true/\e.LL=LL/\¬(262144≤aX (aS E)/\bD aC LL ss=false))(hx:Ext w w2)(hk:Kp e.own w2 w3)(hss:∀k,S k->S' k)(hsn:∀k,S' k->S k\/w2.heap.size≤k)
 (hr:RowsAt S' w3 e.b iv' e.ar (aP e.ar LL ss))(hiv:∀k,iv'.ownBlock=some k->e.iv.ownBlock=some k\/w2.heap.size≤k)(h0:aI e.ar LL ss=if 65536≤LL.length/\bD aC LL ss=false then(false,4)else(!bD aC LL ss,0))(hi:bD aC LL ss=true)
 (hk4:Kp (fun k=>k=r) w3 w4)(hm4:MapIs w4 r (mG (eT E) s (.pointer (some ⟨e.b,0,none⟩)))):RetF (iA bb r E) w (BaseAdded S w bb r E s ss) (.returned (.tuple #[.bool false,.int .i64 0])) w4:=by
 obtain⟨f1,f2,f3,f4,f5⟩:=hf;obtain⟨g1,g2⟩:=fF he;have hn4:¬(65536≤LL.length/\bD aC LL ss=false):=fun k=>by rw [hi]at k;cases k.2
 have hadd:bT aC LL ss=LL:=by unfold bT;rw [if_pos hi]
 have hL:aP e.ar LL ss=LL:=by unfold aP;rw [h0,if_neg hn4];exact hadd
 rw [hL]at hr;have hR:dD (aS E) s ss=(false,0):=by rw [iM f1 (pO g1 f2) f3 (by rw [g2,f4];exact f5),g2,f4,if_neg hn4,hi];rfl
 have hnd:=h.ok.nodup;rw [show mG (eT E) s (.pointer (some ⟨e.b,0,none⟩))=eT E from aEu he (by rw [qW];exact hnd)]at hm4;obtain⟨pre,post,rfl⟩:=kN he;have hem:e∈pre++e::post:=List.mem_append_right _ List.mem_cons_self;have hkw:Kp e.own w w3:=(Ext.kp hx).trans hk;have hz:=hx.size;have hs2:∀k,S' k->S k\/w.heap.size≤k:=fun k hk'=>(hsn k hk').imp id fun q=>Nat.le_trans hz q;have hiv2:∀k,iv'.ownBlock=some k->e.iv.ownBlock=some k\/w.heap.size≤k:=fun k hk'=>(hiv k hk').imp id fun q=>Nat.le_trans hz q;have hsame:aS (pre++{e with iv:=iv',LL:=LL}::post)=aS (pre++e::post):=by rw [<-f4];simp [aS,Ent.cnt]
 have hC:fN (aS (pre++e::post)) s ss=aS (pre++{e with iv:=iv',LL:=LL}::post):=by unfold fN;rw [if_pos (by rw [hR]),g2,f4,hadd,<-f2];exact aE1 he hnd iv' LL
 refine RetF.mk ((hkw.mono fun k _ ho=> .inr (.inr ⟨e,hem,ho⟩)).trans (hk4.mono fun k _ ho=> .inr (.inl ho))) ⟨by rw [hR];rfl,S',pre++{e with iv:=iv',LL:=LL}::post,hss,hs2,?_,hC.symm,xG hiv2 LL⟩;exact h.turn hkw hss hs2 hr hiv2 (hk4.mono fun k _ ho=> .inr ho) hm4 ((iU h he hx hk).kp hk4 h.ne) (by rw [hsame]) (by rw [hsame];exact h.ok)
theorem vF{LL:List (List ByteArray)}{n:Nat}(h:BaseAt S w bb r E)(he:bS E s=some e)(hf:bZ s=true/\e.ar=ss.length/\bP ss=true/\e.LL=LL/\¬(262144≤aX (aS E)/\bD aC LL ss=false))(hx:Ext w w2)(hk:Kp e.own w2 w3)(hss:∀k,S k->S' k)(hsn:∀k,S' k->S k\/w2.heap.size≤k)
 (hr:RowsAt S' w3 e.b iv' e.ar (aP e.ar LL ss))(hiv:∀k,iv'.ownBlock=some k->e.iv.ownBlock=some k\/w2.heap.size≤k)(h0:aI e.ar LL ss=if 65536≤LL.length/\bD aC LL ss=false then(false,4)else(!bD aC LL ss,0))(hi:bD aC LL ss=false)(hn4:¬(65536≤LL.length/\bD aC LL ss=false))
 (hk4:Kp (fun k=>k=r) w3 w4)(hm4:MapIs w4 r (mG (eT E) s (.pointer (some ⟨e.b,0,none⟩))))(en:aX (aS E)=n):RetF (iA bb r E) w (BaseAdded S w bb r E s ss) (.returned (.tuple #[.bool true,.int .i64 0])) (w4.setCell ⟨bb,1,none⟩ (.int .i64 ((n:Int)+1))):=by
 obtain⟨f1,f2,f3,f4,f5⟩:=hf;obtain⟨g1,g2⟩:=fF he;have hL:aP e.ar LL ss=bT aC LL ss:=by unfold aP;rw [h0,if_neg hn4];rfl
 rw [hL]at hr;have hR:dD (aS E) s ss=(true,0):=by rw [iM f1 (pO g1 f2) f3 (by rw [g2,f4];exact f5),g2,f4,if_neg hn4,hi];rfl
 have hnd:=h.ok.nodup;rw [show mG (eT E) s (.pointer (some ⟨e.b,0,none⟩))=eT E from aEu he (by rw [qW];exact hnd)]at hm4;obtain⟨pre,post,rfl⟩:=kN he;have hem:e∈pre++e::post:=List.mem_append_right _ List.mem_cons_self;have hkw:Kp e.own w w3:=(Ext.kp hx).trans hk;have hz:=hx.size;have hs2:∀k,S' k->S k\/w.heap.size≤k:=fun k hk'=>(hsn k hk').imp id fun q=>Nat.le_trans hz q;have hiv2:∀k,iv'.ownBlock=some k->e.iv.ownBlock=some k\/w.heap.size≤k:=fun k hk'=>(hiv k hk').imp id fun q=>Nat.le_trans hz q;have hset:=aE1 he hnd iv' (bT aC LL ss);have hC:fN (aS (pre++e::post)) s ss=aS (pre++{e with iv:=iv',LL:=bT aC LL ss}::post):=by unfold fN;rw [if_pos (by rw [hR]),g2,f4,<-f2];exact hset
 have htot:n+1=aX (aS (pre++{e with iv:=iv',LL:=bT aC LL ss}::post)):=by have h1:=aAf hnd (s:=s) (v:=(e.ar,bT aC LL ss));rw [hset,g2,f4]at h1;have h2:=oY (c:=aC) LL ss;rw [hi]at h2;simp only [Bool.false_eq_true,if_false]at h2;have h3:(e.ar,bT aC LL ss).2.length=LL.length+1:=h2;omega
 have kf:Kp (fun k=>k=bb\/k=r) w3 (w4.setCell ⟨bb,1,none⟩ (.int .i64 ((n:Int)+1))):=(hk4.mono fun k _ ho=> .inr ho).trans (Kp.setCell (F:=fun k=>k=bb\/k=r) (Kp.refl w4) (fun _=> .inl rfl) _);have hb5:Blk (w4.setCell ⟨bb,1,none⟩ (.int .i64 ((n:Int)+1))) bb [.map (some r),.int .i64 ((n+1:Nat):Int)] 129:=by have h1:=((iU h he hx hk).kp hk4 h.ne).set 1 (.int .i64 ((n:Int)+1));exact h1
 have hm5:=hm4.kp (Kp.setCell (F:=fun k=>k=bb) (Kp.refl w4) (p:=⟨bb,1,none⟩) (fun _=>rfl) (.int .i64 ((n:Int)+1))) (fun e2=>h.ne e2.symm);refine RetF.mk ((hkw.mono fun k _ ho=> .inr (.inr ⟨e,hem,ho⟩)).trans (kf.mono fun k _ ho=>ho.elim .inl fun h=> .inr (.inl h))) ⟨by rw [hR];rfl,S',pre++{e with iv:=iv',LL:=bT aC LL ss}::post,hss,hs2,?_,hC.symm,xG hiv2 _⟩;exact h.turn hkw hss hs2 hr hiv2 kf hm5 hb5 htot (by rw [<-hC];exact oC h.ok s ss)
theorem aE6{n:Nat}{b:Nat}(h:BaseAt S w bb r E)(he:bS E s=none)(hf:bZ s=true/\ss.length≤64/\bP ss=true/\¬262144≤aX (aS E))(hx:Ext w w3)(hss:∀k,S k->S' k)(hsn:∀k,S' k->S k\/w.heap.size≤k)
 (hr:RowsAt S' w3 b iv' ss.length [ss])(hb:w.heap.size≤b)(hiv:∀k,iv'.ownBlock=some k->w.heap.size≤k)
 (hk4:Kp (fun k=>k=r) w3 w4)(hm4:MapIs w4 r (mG (eT E) s (.pointer (some ⟨b,0,none⟩))))(en:aX (aS E)=n):RetF (iA bb r E) w (BaseAdded S w bb r E s ss) (.returned (.tuple #[.bool true,.int .i64 0])) (w4.setCell ⟨bb,1,none⟩ (.int .i64 ((n:Int)+1))):=by
 obtain⟨f1,f2,f3,f4⟩:=hf;obtain⟨g1,g2⟩:=gG he;have hR:dD (aS E) s ss=(true,0):=by rw [iM f1 (vZ g1 f2) f3 (fun k=>f4 k.1),g2,if_neg (by simp)];rfl
 have hone:bT aC [] ss= [ss]:=by simp [bT,bD,below]
 have hpush:=aKt he b iv' ss.length [ss];have hC:fN (aS E) s ss=aS (E++ [{name:=s,b:=b,iv:=iv',ar:=ss.length,LL:= [ss]}]):=by unfold fN;rw [if_pos (by rw [hR]),g2,hone];exact hpush
 have htot:n+1=aX (aS (E++ [{name:=s,b:=b,iv:=iv',ar:=ss.length,LL:= [ss]}])):=by rw [<-en];simp [aX,aS,Ent.cnt]
 rw [aBi he b iv' ss.length [ss]]at hm4;have kf:Kp (fun k=>k=bb\/k=r) w3 (w4.setCell ⟨bb,1,none⟩ (.int .i64 ((n:Int)+1))):=(hk4.mono fun k _ ho=> .inr ho).trans (Kp.setCell (F:=fun k=>k=bb\/k=r) (Kp.refl w4) (fun _=> .inl rfl) _);have hb5:Blk (w4.setCell ⟨bb,1,none⟩ (.int .i64 ((n:Int)+1))) bb [.map (some r),.int .i64 ((n+1:Nat):Int)] 129:=((h.blk.ext hx).kp hk4 h.ne).set 1 (.int .i64 ((n:Int)+1));have hm5:=hm4.kp (Kp.setCell (F:=fun k=>k=bb) (Kp.refl w4) (p:=⟨bb,1,none⟩) (fun _=>rfl) (.int .i64 ((n:Int)+1))) (fun e2=>h.ne e2.symm);have ho:∀k,dY b iv' k->w.heap.size≤k:=fun k ho=>by
  rcases ho with rfl|ho
  ·exact hb
  ·exact hiv k ho
 refine RetF.mk ((Ext.kp hx).trans (kf.mono fun k _ ho=>ho.elim .inl fun h=> .inr (.inl h))) ⟨by rw [hR];rfl,S',E++ [{name:=s,b:=b,iv:=iv',ar:=ss.length,LL:= [ss]}],hss,hsn,?_,hC.symm,?_⟩
 ·exact h.push (e:={name:=s,b:=b,iv:=iv',ar:=ss.length,LL:= [ss]}) hx hss hsn hr ho kf hb5 hm5 htot (by rw [<-hC];exact oC h.ok s ss)
 ·rintro k (h1|h1|⟨f,hf,ho2⟩)
  ·exact .inl (.inl h1)
  ·exact .inl (.inr (.inl h1))
  ·rcases List.mem_append.1 hf with hf|hf
   ·exact .inl (.inr (.inr ⟨f,hf,ho2⟩))
   ·obtain rfl:=List.mem_singleton.1 hf;exact .inr (ho k ho2)
end
end
end Go.Proofs.YtinnmeiphbdogaaGreat
