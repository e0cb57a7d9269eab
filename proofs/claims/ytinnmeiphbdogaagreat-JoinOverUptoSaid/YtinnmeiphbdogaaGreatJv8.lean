/- Texts joined for a claim (JAll, JAlike, JPath, JAwake, RelRead, RefRow, RefRow2, RefRow3, RefBase, RefPick, RefHolds, RefUnlike, RefWalk, RefFrom, RefSizeP). -/
import Derived.Test.YtinnmeiphbdogaaGreatJv7
import Derived.Deep.QuietTactic
set_option linter.unusedVariables false
set_option linter.unusedSimpArgs false
set_option maxRecDepth 100000
namespace Go.Proofs.YtinnmeiphbdogaaGreat
section
open Go.RowKit Go.Shelf
attribute [local go_sem] Oper.semAt_some
theorem GotI.rowsC{w8 W:World}{b:Nat}{pre:List XB}(h:GotI w8 b (fun _=>False) pre W)(hl:∀x∈pre,x.2.length≤1048576):∃ao cap,Blk W b [.slice ao pre.length cap] 69/\RowsIn (fun k=>gH W k/\w8.heap.size≤k) W ao (pre.map (·.2)):=by
 obtain⟨h1,h2,⟨v,h3,h4⟩,hr⟩:=h;obtain⟨ao,cap,ev,hc,_⟩:=h4.shape;subst ev;refine⟨ao,cap,h3,pre,rfl,hc,fun a e=>?_,fun x hx=>?_⟩
 ·obtain⟨cs,hb⟩:=aQ h4 (show(Value.slice ao pre.length cap).ownBlock=some a.block by rw [e];rfl);exact⟨⟨_,hb,rfl⟩,(h4.block a.block (by rw [e];rfl)).1⟩
 ·obtain⟨q1,q2⟩:=hr x hx;have e2:x.1.2.1=x.2.length:=by rw [q1]
  refine⟨⟨e2,?_⟩,by have:=hl x hx;omega,fun a e=>?_⟩
  ·rcases q2 with⟨_,q3⟩|⟨g,rest,q3,q4,_⟩
   ·rw [q3];exact CellsAt.nil _ _
   ·rw [q3];exact CellsAt.pre q4
  ·rcases q2 with⟨q3,_⟩|⟨g,rest,q3,q4,q5⟩
   ·rw [q3]at e;cases e
   ·rw [q3]at e;cases e;exact⟨⟨_,q4,rfl⟩,q5.1⟩
theorem aL6{w W:World}{P:World->Value->Prop}{tmps:Array Value}{ds:List Deferred}{lo:Nat}{v:Value}(hm:Marks lo W ds)(hk:Ext w W)(hlo:w.heap.size≤lo)(h6:tmps.getD 6 undef=v)(hP:∀w',Kp (fun k=>lo≤k/\¬gH W k) W w'->P w' v):
 bodyPostM Fence.wide 4 Tryz.prog Tryz.f41 (RetN w P) .ret {tmps:=tmps,defers:=ds} W:=by
 refine fD hm fun w' e1 e2 e3 e4 e5 e6=>?_;have kx:Kp (fun k=>lo≤k/\¬gH W k) W w':=⟨e1,e2,e3,by omega,fun k hk hf=>by
  by_cases h:lo≤k
  ·by_cases h2:∃o:Obj,W.heap[k]?=some o/\o.isCells=true
   ·obtain⟨o,h2,h3⟩:=h2;rw [h2];exact e6 k o h2 h3
   ·exact absurd ⟨h,h2⟩ hf
  ·exact e5 k (by omega)⟩
 have hx:Ext w w':=hk.trans' kx fun i hi h=>absurd h.1 (by omega);refine⟨v,?_,RetN.mk hx (hP w' kx)⟩;have h6':tmps[6]?.getD undef=v:=by simpa using h6
 simp [results,Tryz.f41,go_sem,h6']
noncomputable def aG9:Code:=((Tryz.f41.body.bind cG).getD .skip)
def aG8(Qn Qx:World->Prop):Exit->Act->World->Prop
 | .normal,_,W=>Qn W
 | .exit 0,_,W=>Qx W
 |_,_,_=>False
theorem aKj(t:Array Value)(h:t.size=26):∃u:Nat->Value,(∀i,t.getD i undef=u i)/\t=#[u 0,u 1,u 2,u 3,u 4,u 5,u 6,u 7,u 8,u 9,u 10,u 11,u 12,u 13,u 14,u 15,u 16,u 17,u 18,u 19,u 20,u 21,u 22,u 23,u 24,u 25]:=by refine⟨fun i=>t.toList.getD i undef,fun i=>by simp [Array.getD_eq_getD_getElem?,List.getD_eq_getElem?_getD],?_⟩;apply Array.ext';have:=kY t.toList 26 (by simpa using h);exact this
set_option maxHeartbeats 4000000 in
theorem aGc{X:World}{gg gu l N z:Nat}{xa:Option Addr}{V:List ByteArray}{v:Value}{vals:List Value}{M:Nat->Prop}{t:Array Value}{Qn Qx:World->Prop}
 (h7:Blk X gg [v] 69)(h5:Blk X gu [.int .i64 z] 3)(hr:Row X 34 1 v N vals M)(hN:N≤1048576*1048576)
 (hz:t.size=26)(t5:t.getD 5 undef= .pointer (some ⟨gu,0,none⟩))(t7:t.getD 7 undef= .pointer (some ⟨gg,0,none⟩))(t9:t.getD 9 undef= .slice xa V.length V.length)
 (hQ:∀X' v',Kp (fun k=>k=gg\/v.ownBlock=some k) X X'->Blk X' gg [v'] 69->Row X' 34 1 v' (N+1) (vals++ [.slice xa V.length V.length]) (fun g=>v.ownBlock=some g\/X.heap.size≤g)->(z≤N+1->Qx X')/\(¬z≤N+1->Qn X')):
 aG9.wpIn (Fence.wide.inRound l) 2 Tryz.prog (aG8 Qn Qx) {tmps:=t,defers:= []} X:=by
 obtain⟨u,hu,rfl⟩:=aKj t hz;have e5:=(hu 5).symm.trans t5;have e7:=(hu 7).symm.trans t7;have e9:=(hu 9).symm.trans t9;rw [e5,e7,e9];clear hz t5 t7 t9 e5 e7 e9 hu;obtain⟨oa,oc,ev,_,_⟩:=hr.shape;subst ev;have HQ:=qH hQ;have H0:=qH (nIX h7 (nIX hr h5));have b0:=h7.c0;obtain⟨m,em⟩:=nm V.length;rw [em]at HQ ⊢;clear hQ h7 hr em h5;conv=>arg 4;whnf
 gi_wp2_with (first|(gi_at_builtin;refine Halted.out ?_))
 refine Halted.mk (uI wV rfl _ _ rfl (F:=fun k=>(Value.slice oa N oc).ownBlock=some k) (w0:=X) (M:=fun g=>(Value.slice oa N oc).ownBlock=some g\/X.heap.size≤g) ((Kp.refl X).alloc _) (fun g hg hlt2=>by rcases hg with hg|hg;exact hg;omega) (fun g hg=> .inr (by have h2:(X.alloc _).heap.size≤g:=hg;rw [aI]at h2;omega)) rfl ((H0.out.2.1.alloc _).own.mono fun g hg=> .inl hg) rfl (m:=1) (by rfl) (CellsAt.one X (.slice xa m m) 34) (by simp [Value.oneCell']) (by omega) (by unfold maxLen;omega) ?_);intro v6 w6 hr6 hk6 hk6b _ _;have hB6:Blk w6 gg [.slice oa N oc] 69:=(H0.out.1.alloc _).kp hk6b fun hg=>by obtain⟨cs,hb⟩:=aQ H0.out.2.1 hg;exact absurd (aP hb H0.out.1) (by decide)
 have c6:=hB6.c0;have f6:=hB6.free 0;obtain⟨la,lcap,elv,_,_⟩:=hr6.shape;subst elv;have ks:Kp (fun k=>k=gg) w6 (w6.setCell ⟨gg,0,none⟩ (.slice la (N+1) lcap)):=kSa;have kA:Kp (fun k=>k=gg\/ (Value.slice oa N oc).ownBlock=some k) X (w6.setCell ⟨gg,0,none⟩ (.slice la (N+1) lcap)):=(hk6.mono fun k _ h=>Or.inr h).trans (ks.mono fun k _ h=>Or.inl h);have HF:=qH (HQ.out (w6.setCell ⟨gg,0,none⟩ (.slice la (N+1) lcap)) (.slice la (N+1) lcap) kA (hB6.set 0 _) (by refine hr6.kp' ks fun g hg _ e2=>?_;obtain⟨cs,hb⟩:=aQ hr6 hg;rw [show g=gg from e2]at hb;exact absurd (aP hb hB6) (by decide)));have r7:(w6.setCell ⟨gg,0,none⟩ (.slice la (N+1) lcap)).cell? ⟨gg,0,none⟩=some (.slice la (N+1) lcap):=by rw [(hB6.set 0 _).cell'];rfl
 have r5:(w6.setCell ⟨gg,0,none⟩ (.slice la (N+1) lcap)).cell? ⟨gu,0,none⟩=some (.int .i64 z):=by
  rw [(H0.out.2.2.kp kA fun e=>?_).cell'];rfl;rcases e with e|e
  ·rw [e]at H0;exact absurd (aP H0.out.1 H0.out.2.2) (by decide)
  ·obtain⟨cs,hb⟩:=aQ H0.out.2.1 e;exact absurd (aP hb H0.out.2.2) (by decide)
 clear hr6 hk6 hk6b b0 hB6 ks kA;by_cases hzN:z≤N+1
 ·have i3:decide (((N+1:Nat):Int)≥(z:Int))=true:=by simp;omega
  have i4:(z:Int)≤((N+1:Nat):Int):=by omega
  have HE:=qH (HF.out.1 hzN);clear hzN;gi_wp2;exact HE.out
 ·have i3:decide (((N+1:Nat):Int)≥(z:Int))=false:=by simp;omega
  have i4:¬(z:Int)≤((N+1:Nat):Int):=by omega
  have HE:=qH (HF.out.2 hzN);clear hzN;gi_wp2;exact HE.out
set_option maxHeartbeats 8000000 in
theorem aAb{w:World}{p:ByteArray}{ia ib oa:Option Addr}{hn ic n ibc m oc z:Nat}{L:aD}(hz1:1≤z)(hLl:L.length≤1048576)(hVl:∀V∈L,V.length≤1048576)
 (hOv:∀X,Ext w X->Calls Tryz.prog 39 #[dS p ia hn ic ib n ibc,.slice oa m oc] X (RetN X fun w' v=>aGi X w' L v)):
 Calls Tryz.prog 41 #[dS p ia hn ic ib n ibc,.slice oa m oc,.int .i64 z] w (RetN w fun w' v=>∃ao cap,v= .slice ao (L.take z).length cap/\RowsIn (New w) w' ao (L.take z)):=by
 have HOv:=qH hOv;have HV:=qH hVl;obtain⟨gb,egb⟩:=nm w.heap.size;obtain⟨w1,e1⟩:=nm (w.alloc (.cells #[.string p,.slice ia hn ic,.slice ib n ibc] 27));have hB1:=bNX egb e1;have x1:Ext w w1:=xAX e1;obtain⟨gu,egu⟩:=nm w1.heap.size;obtain⟨w2,e2⟩:=nm (w1.alloc (.cells #[.int .i64 z] 3));have hB2:=bNX egu e2;have x2:Ext w1 w2:=xAX e2;obtain⟨gg,egg⟩:=nm w2.heap.size;obtain⟨w3,e3⟩:=nm (w2.alloc (.cells #[.slice none 0 0] 69));have hB3:=bNX egg e3;have x3:Ext w2 w3:=xAX e3;have H3:=qH (show Ext w w3/\Blk w3 gb [.string p,.slice ia hn ic,.slice ib n ibc] 27/\Blk w3 gu [.int .i64 z] 3/\Blk w3 gg [.slice none 0 0] 69/\w.heap.size≤gg from⟨x1.trans (x2.trans x3),hB1.ext (x2.trans x3),hB2.ext x3,hB3,by rw [<-egg];exact(x1.trans x2).size⟩);have r0:=H3.out.2.1.c0;have r1:=H3.out.2.1.c1;have r2:=H3.out.2.1.c2;clear hB1 x1 hB2 x2 hB3 x3 hOv hVl;refine callsIn_wide.1 (callsIn_of_wp_marks (n:=4) Tryz.func41 rfl trivial ?_ rfl);refine wpIn_wide.2 ?_;obtain⟨Q,eQ⟩:∃Q,Q=bodyPostM Fence.wide 4 Tryz.prog Tryz.f41 (RetN w fun w' v=>∃ao cap,v= .slice ao (L.take z).length cap/\RowsIn (New w) w' ao (L.take z)):=⟨_,rfl⟩;rw [<-eQ];have EQ:=qH eQ;clear eQ;simp only [Tryz.ntmps41,List.size_toArray,List.length_cons,List.length_nil,Nat.reduceAdd,Nat.reduceSub,Array.replicate_succ,Array.replicate_zero,List.push_toArray,List.append_toArray,List.nil_append,List.cons_append];go_wp2_with fail
 clear e1 egb e2 egu e3 egg;refine(HOv.out w3 H3.out.1).mono ?_;rintro e w9 ⟨v9,rfl,hk9,xb,lo,hlo,rfl,hseq⟩;have HS:=qH (show pP Fence.wide 3 Tryz.prog 82 #[.pointer (some ⟨xb,0,none⟩)] (fun x:XB=>#[.slice x.1.1 x.1.2.1 x.1.2.2]) (fun k=>lo≤k/\k<w9.heap.size) GvRow (fun xs=>xs.map Prod.snd=L) (fun pre=>pre.map Prod.snd<+:L) w9 from hseq 3);have H9:=qH (show Blk w9 gg [.slice none 0 0] 69/\Ext w w9/\gg<lo/\Blk w9 gu [.int .i64 z] 3 from⟨H3.out.2.2.2.1.ext hk9,H3.out.1.trans hk9,Nat.lt_of_lt_of_le H3.out.2.2.2.1.lt hlo,H3.out.2.2.1.ext hk9⟩);have hq0:∀w:World,(binOp .eql 72 (.func (Fn.func 82) #[] #[.pointer (some ⟨xb,0,none⟩)]) .nilFunc).run Tryz.prog w= .ok (.bool false) w:=fun w=>by kernel_rfl
 clear hk9 hlo hseq r0 r1 r2;go_wp2_with fail
 rename_i K0 hK0;have HK0:=qH hK0;have hb9:gg<w9.heap.size:=H9.out.1.lt;have hug:gu≠gg:=fun e=>by have h1:=H9.out.2.2.2;rw [e]at h1;exact absurd (aP h1 H9.out.1) (by decide)
 clear hK0 hq0;have hEnd:∀(pre:List XB) (t:Array Value) (ds:List Deferred) (W:World),GotI w9 gg (fun _=>False) pre W->pre.map Prod.snd=L.take z->Marks w9.heap.size W ds->t.size=26->t.getD 7 undef= .pointer (some ⟨gg,0,none⟩)->K0 {tmps:=t,defers:=ds} W:=fun pre t ds W hI hpre hm hz t7=>by
  obtain⟨u,hu,rfl⟩:=aKj t hz;have e7:=(hu 7).symm.trans t7;rw [e7];obtain⟨ao,cap,hbk,hrows⟩:=hI.rowsC (fun x hx=>HV.out x.2 (List.mem_of_mem_take (by rw [<-hpre];exact List.mem_map_of_mem (f:=Prod.snd) hx)));have hpl:pre.length=(L.take z).length:=by rw [<-hpre,List.length_map]
  rw [show pre.map (·.2)=L.take z from hpre]at hrows;have c7:=hbk.c0;have HZ:=qH (show Ext w W/\Marks w9.heap.size W ds/\RowsIn (fun k=>gH W k/\w9.heap.size≤k) W ao (L.take z)/\pre.length=(L.take z).length from⟨H9.out.2.1.trans' hI.kp fun i hi e=>by have e':i=gg:=e;have:=H3.out.2.2.2.2;omega,hm,hrows,hpl⟩);refine HK0.out _ _ ?_;clear hu t7 e7 hbk hrows hpl hI hpre hm hz;go_wp2_with fail
  rw [EQ.out];refine aL6 (v:= .slice ao pre.length cap) HZ.out.2.1 HZ.out.1 H9.out.2.1.size rfl fun w' kx=>⟨ao,cap,by rw [HZ.out.2.2.2],(HZ.out.2.2.1.kp kx fun k hf hS=>hf.2 hS.1).mono fun k hk=>Nat.le_trans H9.out.2.1.size hk.2⟩
 refine' wpIn_wide.1 (iI (F:=Fence.wide) (n:=4) (w0:=w9) rfl (by omega) (gf:=82) (lb:=#[.pointer (some ⟨xb,0,none⟩)]) rfl trivial (enters_of Tryz.func82 (by kernel_rfl) rfl)
  HS.out (Kp.refl _) (fun k h=>h.2) (fun _=>rfl) GvRow.put (fun T pre W=>GotI w9 gg T pre W/\pre.length<z) (fun c T pre W=>c= .exit 0/\GotI w9 gg T pre W/\pre.length=z)
  (fun T s W l o o' h _ hl ho hc=>⟨h.1.put hb9 hl ho hc,h.2⟩) (fun c T s W l o o' h _ hl ho hc=>⟨h.1,h.2.1.put hb9 hl ho hc,h.2.2⟩)
  (fun W o h=>⟨h.1.step hb9 ((Kp.refl W).alloc o) (fun k hk=>hk.elim),h.2⟩) ⟨GotI.start H9.out.1,by show 0<z;omega⟩ _ ?assign ?body ?done ?stop)
 case assign=>
  intro l x W K hK;gi_wp2;exact hK
 case body=>
  rintro l T T' pre ⟨⟨xa,xn,xc⟩,V⟩ W1 W ⟨hI,hlt⟩ hT hk hsub hgv hpre;have hI2:=hI.step hb9 hk hsub;have hTlt:∀k,T' k->k<W.heap.size:=fun k hk'=>by
   rcases hsub k hk' with h|h
   ·exact Nat.lt_of_lt_of_le (hT k h) hk.size
   ·exact h.2
  obtain⟨hx1,hxc⟩:=hgv.cells;have hxn:xn=V.length:=hx1.1;have hxc2:xc=V.length:=hx1.2;subst hxn hxc2;have hgot:=hgv.got hI.kp.size;have hpl:pre.length<L.length:=by have h:=hpre.length_le;rw [List.length_map,List.length_append,List.length_singleton]at h;omega
  obtain⟨v,hv,hrv⟩:=hI2.val;have hu5:Blk W gu [.int .i64 z] 3:=H9.out.2.2.2.kp hI2.kp hug;refine wpIn_mono (Q:=aG8 (fun X'=>KeepsFrom w9.heap.size W X'/\Kp (fun k=>¬fI (fun k=>lo≤k/\k<w9.heap.size) T' k) W X'/\GotI w9 gg T' (pre++ [((xa,V.length,V.length),V)]) X'/\(pre++ [((xa,V.length,V.length),V)]).length<z) (fun X'=>KeepsFrom w9.heap.size W X'/\Kp (fun k=>¬fI (fun k=>lo≤k/\k<w9.heap.size) T' k) W X'/\GotI w9 gg T' (pre++ [((xa,V.length,V.length),V)]) X'/\(pre++ [((xa,V.length,V.length),V)]).length=z)) ?_ ?_
  ·show Code.wpIn _ _ _ aG9 _ _ _;refine aGc (N:=pre.length) (v:=v) (vals:=pre.map zZ) (V:=V) hv hu5 hrv (by omega) rfl rfl rfl rfl ?_;intro X' v' hk' hv' hr';obtain⟨q1,q2,q3⟩:=hI2.round (Z:=fun k=>lo≤k/\k<w9.heap.size) hb9 hTlt (fun k hk=>⟨by have:=H9.out.2.2.1;have:=hk.1;omega,hk.2⟩) hv hgot hk' hv' hr';exact⟨fun h=>⟨q1,q2,q3,by rw [List.length_append,List.length_singleton];omega⟩,fun h=>⟨q1,q2,q3,by rw [List.length_append,List.length_singleton];omega⟩⟩
  ·intro e a W' h;cases e with
   |normal=>exact h
   |exit id=>
    cases id with
    |zero=>exact⟨h.1,h.2.1,rfl,h.2.2⟩
    |succ id=>exact h.elim
   |_=>exact h.elim
 case done=>
  rintro D T xs W1 W hD hxs ⟨hI,hlt⟩ hT hk hd;have hI2:=hI.step (T':=fun _=>False) hb9 hk (fun k hk'=>hk'.elim);have hxs':xs.map Prod.snd=L:=hxs;have hxl:xs.length=L.length:=by rw [<-hxs',List.length_map]
  have hm1:Marks w9.heap.size W [{target:= .collected D,args:=#[]}]:=Marks.push (Marks.nil w9.heap.size w9) (fun k o h ho=>(hI2.kp.block k (lt_of_block h) (fun e=>by have e':k=gg:=e;have h8:=H9.out.1;unfold Blk at h8;rw [e',h8]at h;cases h;cases ho)).trans h) hD hD hd;exact hEnd _ _ _ _ hI2 (by rw [hxs',List.take_of_length_le (by omega)]) hm1 rfl rfl
 case stop=>
  rintro D c T pre W1 W hD hpre ⟨rfl,hI,hlen⟩ hT hk hd;have hI2:=hI.step (T':=fun _=>False) hb9 hk (fun k hk'=>hk'.elim);have hm1:Marks w9.heap.size W [{target:= .collected D,args:=#[]}]:=Marks.push (Marks.nil w9.heap.size w9) (fun k o h ho=>(hI2.kp.block k (lt_of_block h) (fun e=>by have e':k=gg:=e;have h8:=H9.out.1;unfold Blk at h8;rw [e',h8]at h;cases h;cases ho)).trans h) hD hD hd;have hpre':pre.map Prod.snd<+:L:=hpre;have hp2:pre.map Prod.snd=L.take z:=by rw [List.prefix_iff_eq_take.1 hpre',List.length_map,hlen]
  gi_wp2;exact hEnd _ _ _ _ hI2 hp2 hm1 rfl rfl
def aJs(w0:World)(A B:aD)(n:Nat)(iv:Value)(w:World):Prop:=∃i:Nat,i≤n/\iv= .int .i64 i/\Hid (Ext w0 w)/\Hid (A.take i=B.take i)
set_option maxHeartbeats 4000000 in
theorem aD0{S S':Nat->Prop}{A B:aD}{ao bo:Option Addr}{n m acap bcap:Nat}{w:World}(hn:n=A.length)(hm:m=B.length)(ha:RowsIn S w ao A)(hb:RowsIn S' w bo B)(hl:n≤4611686018427387904):
 Calls Tryz.prog 40 #[.slice ao n acap,.slice bo m bcap] w (RetN w fun w' v=>v= .bool (decide (A=B))):=by
 have HN:=qH (nIX hn hm);have HA:=qH ha;have HB:=qH hb;clear hn hm ha hb;by_cases hnm:n=m
 ·subst hnm;have q1:((n:Int) !=(n:Int))=false:=by simp
  go_enter Tryz.func40,Tryz.ntmps40;go_wp2;go_loopw [5] (fun iv wr=>aJs w A B n iv wr) (fun iv _=>n- (intOf iv).toNat)
  case atStart=>exact⟨0,Nat.zero_le _,rfl,qH (Kp.refl w),qH rfl⟩
  case round=>
   obtain⟨i,hi,rfl,hex,heq⟩:=hrel;by_cases hlt:i<n
   ·obtain⟨s,hs⟩:∃s,A[i]?=some s:=⟨_,qG (by rw [<-HN.out.1];exact hlt)⟩;obtain⟨t,ht⟩:∃t,B[i]?=some t:=⟨_,qG (by rw [<-HN.out.2];exact hlt)⟩;obtain⟨g1,o1,x1,c1,e1,d1,hc1,hl1,-⟩:=(HA.out.ext hex.out).get hs;obtain⟨g2,o2,x2,c2,e2,d2,hc2,hl2,-⟩:=(HB.out.ext hex.out).get ht;subst e1 e2;have HST:=qH (nIX hs ht);have HSm:=qH (fun W (hW:Ext wr W)=>uT s t x1 x2 s.length t.length c1 c2 W rfl rfl (hc1.ext hW) (hc2.ext hW) (by omega));obtain⟨ns,ens⟩:=nm s.length;obtain⟨nt,ent⟩:=nm t.length;rw [ens]at d1 HSm;rw [ent]at d2 HSm;have i1:(i:Int)< (n:Int):=by omega
    have HJ:=qH (show ∀w',Ext wr w'->(fun w':World=>w'.cell? ⟨g1,o1+i,none⟩=some (.slice x1 ns c1)/\w'.cell? ⟨g2,o2+i,none⟩=some (.slice x2 nt c2)) w' from fun w' hw=>⟨hw.cell d1 id,hw.cell d2 id⟩);clear hs ht hc1 hc2 hl1 hl2 ens ent d1 d2;go_wp2;refine aY (fun w':World=>w'.cell? ⟨g1,o1+i,none⟩=some (.slice x1 ns c1)/\w'.cell? ⟨g2,o2+i,none⟩=some (.slice x2 nt c2)) [] (by kernel_rfl) (HJ.out _ (Kp.refl wr).drew) (fun hHeld=>?_);refine eFX 0 ?_;refine eFX 1 ?_;refine eIX 2 ?_;refine eIX 3 ?_;refine eFX 4 ?_;refine eFX 5 ?_;refine eIX 6 ?_;refine eIX 7 ?_;refine eTX 8 fun K hK=>?_;go_simp
    (refine(HSm.out _ ((Kp.refl wr).drew)).mono ?_;rintro e w5 ⟨v,rfl,hk5,rfl⟩;have X5:=qH (show Ext wr w5 from((Kp.refl wr).drew).trans hk5);clear hk5)
    go_wp2_with fail
    refine hK.out _ _ (HJ.out _ X5.out) fun hHeld=>?_;clear hK K;refine eFX 9 ?_;refine aL (by kernel_rfl) ?_ _;clear hHeld;by_cases hst:s=t
    ·have hd:decide (s=t)=true:=decide_eq_true hst;rw [hd];have HE:=qH hst;clear hst hd;go_wp2;go_roundw
     case rel=>exact⟨i+1,by omega,nMX,qH (hex.out.trans X5.out),qH (by rw [List.take_add_one,List.take_add_one,HST.out.1,HST.out.2,heq.out,HE.out])⟩
     case measure=>simp [intOf];omega
    ·have hd:decide (s=t)=false:=decide_eq_false hst;rw [hd];have HD:=qH (show decide (A=B)=false from decide_eq_false fun e=>hst (by have h:=HST.out.1;rw [e,HST.out.2]at h;cases h;rfl));clear hst hd;go_wp2;go_ret;exact RetN.mk (hex.out.trans X5.out) (by rw [HD.out];rfl)
   ·obtain rfl:n=i:=by omega
    have HD:=qH (show decide (A=B)=true from decide_eq_true (by have h:=heq.out;rw [List.take_of_length_le (by rw [<-HN.out.1];exact Nat.le_refl _),List.take_of_length_le (by rw [<-HN.out.2];exact Nat.le_refl _)]at h;exact h));go_wp2;go_ret;exact RetN.mk hex.out (by rw [HD.out];rfl)
 ·have q1:((n:Int) !=(m:Int))=true:=by simp;omega
  have q2:((n:Int)==(m:Int))=false:=by simp;omega
  have HD:=qH (show decide (A=B)=false from decide_eq_false fun e=>hnm (by rw [HN.out.1,HN.out.2,e]));clear hnm;go_enter Tryz.func40,Tryz.ntmps40;go_wp2;go_ret;exact RetN.mk (Kp.refl w) (by rw [HD.out];rfl)
def fewB(ls:List aJ):Bool:=decide ((aC ls).length≤1048576)
theorem aKy{ls:List aJ}(h:fewB ls=true):(aC ls).length≤1048576:=of_decide_eq_true h
def aMl(ls:List aJ):Bool:=decide (ls.length≤64) && ls.all fun l=>decide ((aA l).length≤64)
theorem aKx{ls:List aJ}(h:aMl ls=true):Fit ls:=by unfold aMl at h;rw [Bool.and_eq_true,decide_eq_true_eq]at h;exact⟨by omega,fun l hl=>by have:=of_decide_eq_true (List.all_eq_true.1 h.2 l hl);omega⟩
def aAs:List aE:= [((1:Int),(⟨#[88]⟩:ByteArray),()),((1:Int),(⟨#[89]⟩:ByteArray),())]
def pG:List aJ:= [(((1):Int),((⟨#[101]⟩:ByteArray),[((1:Int),(⟨#[89]⟩:ByteArray),()),((1:Int),(⟨#[90]⟩:ByteArray),())],()),(0:Int),((0:Int),(⟨#[]⟩:ByteArray),()),((0:Int),(⟨#[]⟩:ByteArray),()),()),(((1):Int),((⟨#[101]⟩:ByteArray),[((1:Int),(⟨#[90]⟩:ByteArray),()),((1:Int),(⟨#[88]⟩:ByteArray),())],()),(0:Int),((0:Int),(⟨#[]⟩:ByteArray),()),((0:Int),(⟨#[]⟩:ByteArray),()),())]
theorem pC{w:World}{G:Nat->Prop}{g o:Nat}{ts:List aE}(h:aR w TT (some ⟨g,o,none⟩) ts)(hG:G g):aR w G (some ⟨g,o,none⟩) ts:=fun i x hx=>by obtain⟨b,off,es,e,_,hb,ha,hc⟩:=h i x hx;cases e;refine⟨g,o,es,rfl,hG,hb,?_,hc⟩;have hf:=jJ ha;rw [iA ha];exact oB hf
theorem aHi{w:World}{G:Nat->Prop}{a:Option Addr}{ts:List aE}(h:aR w G a ts):aR w (fun k=>k<w.heap.size) a ts:=fun i x hx=>by obtain⟨b,off,es,e,_,hb,ha,hc⟩:=h i x hx;refine⟨b,off,es,e,hb,hb,?_,hc⟩;have hf:=jJ ha;rw [iA ha];exact oB hf
theorem aBn{w:World}{G:Nat->Prop}{g o:Nat}{ts:List aE}(h:aR w G (some ⟨g,o,none⟩) ts)(hne:ts≠ []):g<w.heap.size:=by
 cases ts with
 |nil=>exact absurd rfl hne
 |cons t ts=>
  obtain⟨b,off,es,e,_,hb,_⟩:=h 0 t rfl;cases e;exact hb
set_option maxHeartbeats 4000000 in
theorem aCk{ls:List aJ}{ma:Option Addr}{mn mc:Nat}{w:World}(hn:mn=ls.length)(h:cD w TT ma ls)(hl:mn≤65536):
 Calls Tryz.prog 27 #[.slice ma mn mc] w (RetN w fun w' u=>∃ha hc ba bc,u=dS ⟨#[116]⟩ ha 2 hc ba (2+mn) bc/\aR w' TT ha aAs/\cD w' TT ba (pG++ls)):=by
 obtain⟨vs,hvs,hcs,hin⟩:=aIe h;have HV:=qH (nIX hvs (nIX hcs (nIX hin (nIX hn (aCw h)))));clear hvs hcs hin h hn;obtain⟨w1,ew1⟩:=nm (w.alloc (.cells #[.string ⟨#[]⟩,.slice none 0 0,.slice none 0 0] 27));have Xw1:=qH (show Ext w w1 from xAX ew1);have HR:=qH (show Blk w1 w.heap.size [.string ⟨#[]⟩,.slice none 0 0,.slice none 0 0] 27 from by rw [<-ew1];exact Blk.new w _ _);go_enter Tryz.func27,Tryz.ntmps27;go_wp2_with fail
 refine(lM ⟨#[89]⟩ w1).mono ?_;rintro e w2 ⟨vw2,rfl,hkw2,rfl⟩;have Xw2:=qH (show Ext w1 w2 from hkw2);clear hkw2;go_wp2_with fail
 refine(lM ⟨#[90]⟩ w2).mono ?_;rintro e w3 ⟨vw3,rfl,hkw3,rfl⟩;have Xw3:=qH (show Ext w2 w3 from hkw3);clear hkw3;obtain⟨w4,ew4⟩:=nm (w3.alloc (.cells #[.int .i64 1,.string ⟨#[89]⟩,.int .i64 1,.string ⟨#[90]⟩] 38));have Xw4:=qH (show Ext w3 w4 from xAX ew4);have T1:=qH (show aR w4 TT (some ⟨w3.heap.size,0,none⟩) [((1:Int),(⟨#[89]⟩:ByteArray),()),((1:Int),(⟨#[90]⟩:ByteArray),())]from by rw [<-ew4];exact oA w3 [((1:Int),(⟨#[89]⟩:ByteArray),()),((1:Int),(⟨#[90]⟩:ByteArray),())] (by kernel_rfl));go_wp2_with fail
 clear ew4;refine(yQ ⟨#[101]⟩ (some ⟨w3.heap.size,0,none⟩) 2 2 w4).mono ?_;rintro e w5 ⟨vw5,rfl,hkw5,rfl⟩;have Xw5:=qH (show Ext w4 w5 from hkw5);clear hkw5;go_wp2_with fail
 refine(lM ⟨#[90]⟩ w5).mono ?_;rintro e w6 ⟨vw6,rfl,hkw6,rfl⟩;have Xw6:=qH (show Ext w5 w6 from hkw6);clear hkw6;go_wp2_with fail
 refine(lM ⟨#[88]⟩ w6).mono ?_;rintro e w7 ⟨vw7,rfl,hkw7,rfl⟩;have Xw7:=qH (show Ext w6 w7 from hkw7);clear hkw7;obtain⟨w8,ew8⟩:=nm (w7.alloc (.cells #[.int .i64 1,.string ⟨#[90]⟩,.int .i64 1,.string ⟨#[88]⟩] 38));have Xw8:=qH (show Ext w7 w8 from xAX ew8);have T2:=qH (show aR w8 TT (some ⟨w7.heap.size,0,none⟩) [((1:Int),(⟨#[90]⟩:ByteArray),()),((1:Int),(⟨#[88]⟩:ByteArray),())]from by rw [<-ew8];exact oA w7 [((1:Int),(⟨#[90]⟩:ByteArray),()),((1:Int),(⟨#[88]⟩:ByteArray),())] (by kernel_rfl));go_wp2_with fail
 clear ew8;refine(yQ ⟨#[101]⟩ (some ⟨w7.heap.size,0,none⟩) 2 2 w8).mono ?_;rintro e w9 ⟨vw9,rfl,hkw9,rfl⟩;have Xw9:=qH (show Ext w8 w9 from hkw9);clear hkw9;obtain⟨w10,ew10⟩:=nm (w9.alloc (.cells #[.int .i64 1,.string ⟨#[101]⟩,.slice (some ⟨w3.heap.size,0,none⟩) 2 2,.int .i64 0,.int .i64 0,.string ⟨#[]⟩,.int .i64 0,.string ⟨#[]⟩,.int .i64 1,.string ⟨#[101]⟩,.slice (some ⟨w7.heap.size,0,none⟩) 2 2,.int .i64 0,.int .i64 0,.string ⟨#[]⟩,.int .i64 0,.string ⟨#[]⟩] 40));have Xw10:=qH (show Ext w9 w10 from xAX ew10);have HB:=qH (show Blk w10 w9.heap.size [.int .i64 1,.string ⟨#[101]⟩,.slice (some ⟨w3.heap.size,0,none⟩) 2 2,.int .i64 0,.int .i64 0,.string ⟨#[]⟩,.int .i64 0,.string ⟨#[]⟩,.int .i64 1,.string ⟨#[101]⟩,.slice (some ⟨w7.heap.size,0,none⟩) 2 2,.int .i64 0,.int .i64 0,.string ⟨#[]⟩,.int .i64 0,.string ⟨#[]⟩] 40 from by rw [<-ew10];exact Blk.new w9 _ _);go_wp2_with fail
 refine(lM ⟨#[88]⟩ w10).mono ?_;rintro e w11 ⟨vw11,rfl,hkw11,rfl⟩;have Xw11:=qH (show Ext w10 w11 from hkw11);clear hkw11;go_wp2_with fail
 refine(lM ⟨#[89]⟩ w11).mono ?_;rintro e w12 ⟨vw12,rfl,hkw12,rfl⟩;have Xw12:=qH (show Ext w11 w12 from hkw12);clear hkw12;obtain⟨w13,ew13⟩:=nm (w12.alloc (.cells #[.int .i64 1,.string ⟨#[88]⟩,.int .i64 1,.string ⟨#[89]⟩] 38));have Xw13:=qH (show Ext w12 w13 from xAX ew13);have T3:=qH (show aR w13 TT (some ⟨w12.heap.size,0,none⟩) [((1:Int),(⟨#[88]⟩:ByteArray),()),((1:Int),(⟨#[89]⟩:ByteArray),())]from by rw [<-ew13];exact oA w12 [((1:Int),(⟨#[88]⟩:ByteArray),()),((1:Int),(⟨#[89]⟩:ByteArray),())] (by kernel_rfl));have hgL:w9.heap.size<w10.heap.size:=HB.out.lt;have hg0:w.heap.size<w1.heap.size:=HR.out.lt;have hg1:w.heap.size<w9.heap.size:=by have h2:=(Xw2.out.trans (Xw3.out.trans (Xw4.out.trans (Xw5.out.trans (Xw6.out.trans (Xw7.out.trans (Xw8.out.trans Xw9.out))))))).size;omega
 have HX:=qH (show Ext w w13/\Row w13 40 8 (.slice (some ⟨w9.heap.size,0,none⟩) 2 2) 2 ((pG.zip [((some ⟨w3.heap.size,0,none⟩:Option Addr),2),((some ⟨w7.heap.size,0,none⟩:Option Addr),2)]).flatMap gI) (New w)/\Blk w13 w.heap.size [.string ⟨#[]⟩,.slice none 0 0,.slice none 0 0] 27/\w.heap.size<w9.heap.size from
  ⟨(Xw1.out.trans (Xw2.out.trans (Xw3.out.trans (Xw4.out.trans (Xw5.out.trans (Xw6.out.trans (Xw7.out.trans (Xw8.out.trans (Xw9.out.trans (Xw10.out.trans (Xw11.out.trans (Xw12.out.trans Xw13.out)))))))))))),⟨rfl,.inr ⟨_,2,[],rfl,Nat.le_of_lt hg1,by rw [List.append_nil];exact HB.out.ext (Xw11.out.trans (Xw12.out.trans Xw13.out)),rfl,Nat.le_refl _,by decide⟩⟩,HR.out.ext (Xw2.out.trans (Xw3.out.trans (Xw4.out.trans (Xw5.out.trans (Xw6.out.trans (Xw7.out.trans (Xw8.out.trans (Xw9.out.trans (Xw10.out.trans (Xw11.out.trans (Xw12.out.trans Xw13.out))))))))))),hg1⟩)
 have HP0:=qH (pC (G:=(fun k=>k≠w9.heap.size/\k≠w.heap.size)) (T1.out.ext (Xw5.out.trans (Xw6.out.trans (Xw7.out.trans (Xw8.out.trans (Xw9.out.trans (Xw10.out.trans (Xw11.out.trans (Xw12.out.trans Xw13.out))))))))) ⟨by have h1:=aBn T1.out (by simp);have h2:=(Xw5.out.trans (Xw6.out.trans (Xw7.out.trans (Xw8.out.trans Xw9.out)))).size;omega,by have h3:=(Xw2.out.trans Xw3.out).size;omega⟩);have HP1:=qH (pC (G:=(fun k=>k≠w9.heap.size/\k≠w.heap.size)) (T2.out.ext (Xw9.out.trans (Xw10.out.trans (Xw11.out.trans (Xw12.out.trans Xw13.out))))) ⟨by have h1:=aBn T2.out (by simp);have h2:=Xw9.out.size;omega,by have h3:=(Xw2.out.trans (Xw3.out.trans (Xw4.out.trans (Xw5.out.trans (Xw6.out.trans Xw7.out))))).size;omega⟩);have HPh:=qH (pC (G:=(fun k=>k≠w9.heap.size/\k≠w.heap.size)) (T3.out.ext (Kp.refl w13)) ⟨by have h2:=(Xw11.out.trans Xw12.out).size;omega,by have h2:=(Xw11.out.trans Xw12.out).size;omega⟩);clear HB HR hgL hg0 hg1 Xw1 Xw2 Xw3 Xw4 Xw5 Xw6 Xw7 Xw8 Xw9 Xw10 Xw11 Xw12 Xw13 T1 T2 T3;go_wp2_with (first|(at_builtin;refine Halted.out ?_))
 clear ew13 ew10;refine Halted.mk (bQ (m:=mn) (n:=2) wU rfl _ _ rfl HX.out.1 rfl HX.out.2.1 rfl (HV.out.2.1.ext HX.out.1) (by rw [iP gI 8 iN,List.length_zip,HV.out.1,Nat.min_self,HV.out.2.2.2.1]) (fun u hu=>by obtain⟨x,_,hx⟩:=List.mem_flatMap.1 hu;exact aCy x u hx) (by omega) (by unfold maxLen;omega) ?_);intro vA wA hrA hkA hkB _;have hRA:Blk wA w.heap.size [.string ⟨#[]⟩,.slice none 0 0,.slice none 0 0] 27:=HX.out.2.2.1.kp hkB fun hg=>by obtain⟨cs,hb⟩:=aQ HX.out.2.1 hg;exact nZ (bX hb HX.out.2.2.1)
 have hoff:∀k,(fun k=>k≠w9.heap.size/\k≠w.heap.size) k->¬(Value.slice (some ⟨w9.heap.size,0,none⟩) 2 2).ownBlock=some k:=fun k hk e=>by cases e;exact hk.1 rfl
 obtain⟨h1,⟨_,h0⟩|⟨gb,cap2,rest,rfl,hM,hBB,hlen,hnc,hcm⟩⟩:=hrA
 ·omega
 ·have HF:=qH (show Ext w wA/\Blk wA w.heap.size [.string ⟨#[]⟩,.slice none 0 0,.slice none 0 0] 27/\aR wA (fun k=>k≠w9.heap.size/\k≠w.heap.size) (some ⟨w12.heap.size,0,none⟩) aAs/\Blk wA gb (((pG++ls).zip ([((some ⟨w3.heap.size,0,none⟩:Option Addr),2),((some ⟨w7.heap.size,0,none⟩:Option Addr),2)]++vs)).flatMap gI++rest) 40/\(∀x∈(pG++ls).zip ([((some ⟨w3.heap.size,0,none⟩:Option Addr),2),((some ⟨w7.heap.size,0,none⟩:Option Addr),2)]++vs),aR wA (fun k=>k≠w9.heap.size/\k≠w.heap.size) x.2.1 (aA x.1)/\(aA x.1).length≤x.2.2/\x.2.2≤maxLen)from by
   refine⟨hkA,hRA,HPh.out.kp hkB hoff,?_,fun x hx=>?_⟩
   ·rw [List.zip_append (by rfl),List.flatMap_append];exact hBB
   ·rw [List.zip_append (by rfl)]at hx;rcases List.mem_append.1 hx with hx|hx
    ·have hx':x∈ [((((1):Int),((⟨#[101]⟩:ByteArray),[((1:Int),(⟨#[89]⟩:ByteArray),()),((1:Int),(⟨#[90]⟩:ByteArray),())],()),(0:Int),((0:Int),(⟨#[]⟩:ByteArray),()),((0:Int),(⟨#[]⟩:ByteArray),()),()),((some ⟨w3.heap.size,0,none⟩:Option Addr),2)),((((1):Int),((⟨#[101]⟩:ByteArray),[((1:Int),(⟨#[90]⟩:ByteArray),()),((1:Int),(⟨#[88]⟩:ByteArray),())],()),(0:Int),((0:Int),(⟨#[]⟩:ByteArray),()),((0:Int),(⟨#[]⟩:ByteArray),()),()),((some ⟨w7.heap.size,0,none⟩:Option Addr),2))]:=hx;simp only [List.mem_cons,List.not_mem_nil,or_false]at hx';rcases hx' with rfl|rfl
     ·exact⟨HP0.out.kp hkB hoff,Nat.le_refl _,(by decide:2≤maxLen)⟩
     ·exact⟨HP1.out.kp hkB hoff,Nat.le_refl _,(by decide:2≤maxLen)⟩
    ·have hi:=HV.out.2.2.1 x hx;exact⟨((aHi hi.terms).mono fun k hk=>⟨by have:=HX.out.2.2.2;omega,by omega⟩).ext hkA,hi.len,hi.cap⟩)
  have p0:=hRA.c0;have p1:=hRA.c1;have p2:=hRA.c2;clear h1 hM hBB hlen hnc hcm hkA hkB hRA hoff;go_wp2_with fail
  refine(aEo (some ⟨w12.heap.size,0,none⟩) (some ⟨gb,0,none⟩) 2 2 (2+mn) cap2 wA).mono ?_;rintro e wB ⟨vB,rfl,hkC,rfl⟩;have HRB:=qH (HF.out.2.1.ext hkC);have XB:=qH hkC;have c0:=HRB.out.c0;have c1:=HRB.out.c1;have c2:=HRB.out.c2;have f0:=HRB.out.free 0;have f1:=HRB.out.free 1;have f2:=HRB.out.free 2;clear hkC p0 p1 p2;go_wp2;obtain⟨Z,eZ⟩:=nm ((((wB.setCell ⟨w.heap.size,0,none⟩ (.string ⟨#[116]⟩)).setCell ⟨w.heap.size,1,none⟩ (.slice (some ⟨w12.heap.size,0,none⟩) 2 2)).setCell ⟨w.heap.size,2,none⟩ (.slice (some ⟨gb,0,none⟩) (2+mn) cap2)));have hBZ:Blk Z w.heap.size [.string ⟨#[116]⟩,.slice (some ⟨w12.heap.size,0,none⟩) 2 2,.slice (some ⟨gb,0,none⟩) (2+mn) cap2] 27:=by rw [<-eZ];exact((HRB.out.set 0 _).set 1 _).set 2 _
  have kZ:Kp (fun k=>k=w.heap.size) wB Z:=by rw [<-eZ];exact Kp.setCell (F:=fun k=>k=w.heap.size) (p:=⟨w.heap.size,2,none⟩) (kSb) (fun _=>rfl) _
  have d0:=hBZ.c0;have d1:=hBZ.c1;have d2:=hBZ.c2;rw [eZ];have hno:∀k,(fun k=>k≠w9.heap.size/\k≠w.heap.size) k->¬k=w.heap.size:=fun k hk=>hk.2;have hgb:¬gb=w.heap.size:=fun e=>by have hb:=HF.out.2.2.2.1;rw [e]at hb;exact nZ (bX hb HF.out.2.1)
  refine bodyPost_ret (v:=dS ⟨#[116]⟩ (some ⟨w12.heap.size,0,none⟩) 2 2 (some ⟨gb,0,none⟩) (2+mn) cap2) (by simp [results,Tryz.results27,go_sem,d0,d1,d2]) rfl ?_;refine RetN.mk ((HF.out.1.trans XB.out).trans' kZ fun i hi e=>by have e':i=w.heap.size:=e;omega) ⟨_,_,_,_,rfl,((HF.out.2.2.1.ext XB.out).kp kZ hno).mono fun _ _=>trivial,?_⟩;refine pJ (vs:= [((some ⟨w3.heap.size,0,none⟩:Option Addr),2),((some ⟨w7.heap.size,0,none⟩:Option Addr),2)]++vs) (rest:=rest) (e:=40) (by rw [List.length_append,List.length_append,HV.out.1];rfl) (fun l hl=>?_) (fun x hx=>?_) trivial ((HF.out.2.2.2.1.ext XB.out).kp kZ hgb)
  ·rcases List.mem_append.1 hl with hl|hl
   ·exact sW (ls:=pG) (by kernel_rfl) l hl
   ·exact HV.out.2.2.2.2 l hl
  ·obtain⟨q1,q2,q3⟩:=HF.out.2.2.2.2 x hx;exact⟨((q1.ext XB.out).kp kZ hno).mono fun _ _=>trivial,q2,q3⟩
theorem aF7(bb:Nat)(w:World):(binOp .neq 29 (.pointer (some ⟨bb,0,none⟩)) (.pointer none)).run Tryz.prog w= .ok (.bool true) w:=by kernel_rfl
set_option maxHeartbeats 4000000 in
theorem kM(w:World):Calls Tryz.prog 12 #[] w (RetN w fun w' v=>v= .bool true):=by
 go_enter Tryz.func12,Tryz.ntmps12;go_wp2_with fail
 refine(aIr w).mono ?_;rintro e w1 ⟨vw1,rfl,hkw1,bb,E,SS,rfl,hBv,hCv⟩;have Xw1:=qH (show Ext w w1 from hkw1);clear hkw1;have HBv:=qH (nIX hBv hCv);clear hBv hCv;have hnb:=aF7 bb w1;go_wp2_with fail
 refine(aCk (ls:= []) (ma:=none) (mn:=0) (mc:=0) (w:=w1) rfl (aKh w1 none) (by decide)).mono ?_;rintro e w2 ⟨vw2,rfl,hkw2,ha1,hc1,ba1,bc1,hv1,hT1,hL1⟩;have Xw2:=qH (show Ext w1 w2 from hkw2);clear hkw2;have hv12:vw2=dS ⟨#[116]⟩ ha1 2 hc1 ba1 2 bc1:=hv1;subst hv12;have T1:=qH hT1;have L1:=qH hL1;clear hT1 hL1 hv1;go_wp2_with fail
 refine(wX (p:=⟨#[116]⟩) (hs:=aAs) (ls:=(pG++ [])) (ha:=ha1) (ba:=ba1) (hn:=2) (hcap:=hc1) (n:=2) (bcap:=bc1) rfl (T1.out.ext (Kp.refl w2)) (by decide) rfl (L1.out.ext (Kp.refl w2)) (aKx (by kernel_rfl)) (aKy (by kernel_rfl)) (by decide) (HBv.out.1.ext Xw2.out) HBv.out.2 [(⟨#[97,59,98,59,98,59]⟩:ByteArray),(⟨#[97,59,98,59,99,59]⟩:ByteArray),(⟨#[98,59,98,59,98,59]⟩:ByteArray),(⟨#[98,59,98,59,99,59]⟩:ByteArray),(⟨#[98,59,99,59,97,59]⟩:ByteArray),(⟨#[99,59,97,59,98,59]⟩:ByteArray)] 6 (by kernel_rfl) rfl (by decide)).mono ?_;rintro e w3 ⟨vw3,rfl,hkw3,ea2,ec2,rfl,hE2⟩;have Xw3:=qH (show Ext w2 w3 from hkw3);clear hkw3;have E2:=qH hE2;clear hE2;obtain⟨w4,ew4⟩:=nm (w3.alloc (.cells #[.string ⟨#[97,59,98,59,98,59]⟩,.string ⟨#[97,59,98,59,99,59]⟩,.string ⟨#[98,59,98,59,98,59]⟩,.string ⟨#[98,59,98,59,99,59]⟩,.string ⟨#[98,59,99,59,97,59]⟩,.string ⟨#[99,59,97,59,98,59]⟩] 9));have Xw4:=qH (show Ext w3 w4 from xAX ew4);have Sw4:=qH (show CellsAt w4 (some ⟨w3.heap.size,0,none⟩) (strs [(⟨#[97,59,98,59,98,59]⟩:ByteArray),(⟨#[97,59,98,59,99,59]⟩:ByteArray),(⟨#[98,59,98,59,98,59]⟩:ByteArray),(⟨#[98,59,98,59,99,59]⟩:ByteArray),(⟨#[98,59,99,59,97,59]⟩:ByteArray),(⟨#[99,59,97,59,98,59]⟩:ByteArray)])from by rw [<-ew4];exact CellsAt.new w3 (strs [(⟨#[97,59,98,59,98,59]⟩:ByteArray),(⟨#[97,59,98,59,99,59]⟩:ByteArray),(⟨#[98,59,98,59,98,59]⟩:ByteArray),(⟨#[98,59,98,59,99,59]⟩:ByteArray),(⟨#[98,59,99,59,97,59]⟩:ByteArray),(⟨#[99,59,97,59,98,59]⟩:ByteArray)]) _);go_wp2_with fail
 clear ew4;refine(uR [(⟨#[97,59,98,59,98,59]⟩:ByteArray),(⟨#[97,59,98,59,99,59]⟩:ByteArray),(⟨#[98,59,98,59,98,59]⟩:ByteArray),(⟨#[98,59,98,59,99,59]⟩:ByteArray),(⟨#[98,59,99,59,97,59]⟩:ByteArray),(⟨#[99,59,97,59,98,59]⟩:ByteArray)] (ea2) (some ⟨w3.heap.size,0,none⟩) 6 ec2 6 w4 rfl (E2.out.ext Xw4.out) (Sw4.out.ext (Kp.refl w4)) (by decide)).mono ?_;rintro e w5 ⟨vw5,rfl,hkw5,rfl⟩;have Xw5:=qH (show Ext w4 w5 from hkw5);clear hkw5;clear hnb;go_wp2_with fail
 refine(lM ⟨#[88]⟩ w5).mono ?_;rintro e w6 ⟨vw6,rfl,hkw6,rfl⟩;have Xw6:=qH (show Ext w5 w6 from hkw6);clear hkw6;obtain⟨w7,ew7⟩:=nm (w6.alloc (.cells #[.int .i64 1,.string ⟨#[88]⟩] 38));have Xw7:=qH (show Ext w6 w7 from xAX ew7);have T3:=qH (show aR w7 TT (some ⟨w6.heap.size,0,none⟩) [((1:Int),(⟨#[88]⟩:ByteArray),())]from by rw [<-ew7];exact oA w6 [((1:Int),(⟨#[88]⟩:ByteArray),())] (by kernel_rfl));go_wp2_with fail
 clear ew7;refine(aH8 ⟨#[110]⟩ (some ⟨w6.heap.size,0,none⟩) 1 1 w7).mono ?_;rintro e w8 ⟨vw8,rfl,hkw8,rfl⟩;have Xw8:=qH (show Ext w7 w8 from hkw8);clear hkw8;obtain⟨w9,ew9⟩:=nm (w8.alloc (.cells #[.int .i64 2,.string ⟨#[110]⟩,.slice (some ⟨w6.heap.size,0,none⟩) 1 1,.int .i64 0,.int .i64 0,.string ⟨#[]⟩,.int .i64 0,.string ⟨#[]⟩] 40));have Xw9:=qH (show Ext w8 w9 from xAX ew9);have L4:=qH (show cD w9 TT (some ⟨w8.heap.size,0,none⟩) [(((2):Int),((⟨#[110]⟩:ByteArray),[((1:Int),(⟨#[88]⟩:ByteArray),())],()),(0:Int),((0:Int),(⟨#[]⟩:ByteArray),()),((0:Int),(⟨#[]⟩:ByteArray),()),())]from by
  rw [<-ew9];refine aKi w8 [(((2):Int),((⟨#[110]⟩:ByteArray),[((1:Int),(⟨#[88]⟩:ByteArray),())],()),(0:Int),((0:Int),(⟨#[]⟩:ByteArray),()),((0:Int),(⟨#[]⟩:ByteArray),()),())] [(some ⟨w6.heap.size,0,none⟩,1)] rfl (by kernel_rfl) fun x hx=>?_;simp only [List.zip_cons_cons,List.zip_nil_right,List.mem_cons,List.not_mem_nil,or_false]at hx;rcases hx with rfl
  ·exact⟨(T3.out.ext Xw8.out),Nat.le_refl _,(by decide:1≤maxLen)⟩)
 go_wp2_with fail
 clear ew9;refine(aCk (ls:= [(((2):Int),((⟨#[110]⟩:ByteArray),[((1:Int),(⟨#[88]⟩:ByteArray),())],()),(0:Int),((0:Int),(⟨#[]⟩:ByteArray),()),((0:Int),(⟨#[]⟩:ByteArray),()),())]) (ma:=some ⟨w8.heap.size,0,none⟩) (mn:=1) (mc:=1) (w:=w9) rfl (L4.out.ext (Kp.refl w9)) (by decide)).mono ?_;rintro e w10 ⟨vw10,rfl,hkw10,ha5,hc5,ba5,bc5,hv5,hT5,hL5⟩;have Xw10:=qH (show Ext w9 w10 from hkw10);clear hkw10;have hv52:vw10=dS ⟨#[116]⟩ ha5 2 hc5 ba5 3 bc5:=hv5;subst hv52;have T5:=qH hT5;have L5:=qH hL5;clear hT5 hL5 hv5;go_wp2_with fail
 refine(wX (p:=⟨#[116]⟩) (hs:=aAs) (ls:=(pG++ [(((2):Int),((⟨#[110]⟩:ByteArray),[((1:Int),(⟨#[88]⟩:ByteArray),())],()),(0:Int),((0:Int),(⟨#[]⟩:ByteArray),()),((0:Int),(⟨#[]⟩:ByteArray),()),())])) (ha:=ha5) (ba:=ba5) (hn:=2) (hcap:=hc5) (n:=3) (bcap:=bc5) rfl (T5.out.ext (Kp.refl w10)) (by decide) rfl (L5.out.ext (Kp.refl w10)) (aKx (by kernel_rfl)) (aKy (by kernel_rfl)) (by decide) (HBv.out.1.ext (Xw2.out.trans (Xw3.out.trans (Xw4.out.trans (Xw5.out.trans (Xw6.out.trans (Xw7.out.trans (Xw8.out.trans (Xw9.out.trans Xw10.out))))))))) HBv.out.2 [(⟨#[97,59,98,59,99,59]⟩:ByteArray),(⟨#[98,59,98,59,99,59]⟩:ByteArray),(⟨#[98,59,99,59,97,59]⟩:ByteArray)] 3 (by kernel_rfl) rfl (by decide)).mono ?_;rintro e w11 ⟨vw11,rfl,hkw11,ea6,ec6,rfl,hE6⟩;have Xw11:=qH (show Ext w10 w11 from hkw11);clear hkw11;have E6:=qH hE6;clear hE6;obtain⟨w12,ew12⟩:=nm (w11.alloc (.cells #[.string ⟨#[97,59,98,59,99,59]⟩,.string ⟨#[98,59,98,59,99,59]⟩,.string ⟨#[98,59,99,59,97,59]⟩] 9));have Xw12:=qH (show Ext w11 w12 from xAX ew12);have Sw12:=qH (show CellsAt w12 (some ⟨w11.heap.size,0,none⟩) (strs [(⟨#[97,59,98,59,99,59]⟩:ByteArray),(⟨#[98,59,98,59,99,59]⟩:ByteArray),(⟨#[98,59,99,59,97,59]⟩:ByteArray)])from by rw [<-ew12];exact CellsAt.new w11 (strs [(⟨#[97,59,98,59,99,59]⟩:ByteArray),(⟨#[98,59,98,59,99,59]⟩:ByteArray),(⟨#[98,59,99,59,97,59]⟩:ByteArray)]) _);go_wp2_with fail
 clear ew12;refine(uR [(⟨#[97,59,98,59,99,59]⟩:ByteArray),(⟨#[98,59,98,59,99,59]⟩:ByteArray),(⟨#[98,59,99,59,97,59]⟩:ByteArray)] (ea6) (some ⟨w11.heap.size,0,none⟩) 3 ec6 3 w12 rfl (E6.out.ext Xw12.out) (Sw12.out.ext (Kp.refl w12)) (by decide)).mono ?_;rintro e w13 ⟨vw13,rfl,hkw13,rfl⟩;have Xw13:=qH (show Ext w12 w13 from hkw13);clear hkw13;go_wp2;go_ret;exact RetN.mk (Xw1.out.trans (Xw2.out.trans (Xw3.out.trans (Xw4.out.trans (Xw5.out.trans (Xw6.out.trans (Xw7.out.trans (Xw8.out.trans (Xw9.out.trans (Xw10.out.trans (Xw11.out.trans (Xw12.out.trans Xw13.out)))))))))))) rfl
end
section
open Go.ChangeShapes Go.WideShapes Go.ChangeAt Go.RowKit
noncomputable def shT:Shp Tryz.prog ByteArray:=aBu 9 Tryz.underlying9 (by kernel_rfl)
noncomputable def aBt:Shp Tryz.prog (List ByteArray):=oC 34 shT Tryz.underlying34 (by kernel_rfl) (by decide)
noncomputable def shTss:Shp Tryz.prog (List (List ByteArray)):=oC 69 aBt Tryz.underlying69 (by kernel_rfl) (by decide)
noncomputable def pS:Shp Tryz.prog dW:=mQ 116 (gV shT (gV (aGp 3 .i64 Tryz.underlying3 (by kernel_rfl)) (gV shTss aDk))) (fs:=_) Tryz.underlying116 ⟨_,_,rfl,rfl,rfl,_,_,rfl,rfl,rfl,_,_,rfl,rfl,rfl,rfl⟩ (by kernel_rfl)
theorem aCz{α β:Type}{P:Nat->α->β->Prop}:∀(L:List α),(∀i x,L[i]?=some x->∃y,P i x y)->∃ys:List β,ys.length=L.length/\∀(i:Nat) (x:α) (y:β),L[i]?=some x->ys[i]?=some y->P i x y:=by
 intro L;induction L generalizing P with
 |nil=>exact fun _=>⟨[],rfl,fun i x y h=>by simp at h⟩
 |cons a L ih=>
  intro h;obtain⟨y0,h0⟩:=h 0 a rfl;obtain⟨ys,h1,h2⟩:=ih (P:=fun i x y=>P (i+1) x y) fun i x hx=>h (i+1) x (by simpa using hx);refine⟨y0::ys,by simp [h1],fun i x y hx hy=>?_⟩;cases i with
  |zero=>simp at hx hy;subst hx;subst hy;exact h0
  |succ i=>exact h2 i x y (by simpa using hx) (by simpa using hy)
theorem aFu{w:World}{G:Nat->Prop}{ao:Option Addr}{LL:List (List ByteArray)}(h:ElemsAt aBt w G ao LL)(hl:∀ss∈LL,ss.length≤8796093021952):RowsIn (fun _=>True) w ao LL:=by
 have h1:∀(i:Nat) (ss:List ByteArray),LL[i]?=some ss->∃p:Option Addr×Nat×Nat,∃b off,ao=some ⟨b,off,none⟩/\w.cell? ⟨b,off+i,none⟩=some (.slice p.1 p.2.1 p.2.2)/\p.2.1=ss.length/\CellsAt w p.1 (strs ss):=fun i ss hi=>by obtain⟨b,off,es,e,_,_,⟨a1,c1,ee,hl,_,hc⟩,hcell⟩:=h i ss hi;refine⟨(a1,ss.length,c1),b,off,e,?_,rfl,aFt (hu:=Tryz.underlying9) (hc:=by kernel_rfl) hc⟩;have:=hcell 0 (.slice a1 ss.length c1) (by rw [ee];rfl);rw [show aBt.n=1 from rfl,Nat.mul_one,Nat.add_zero]at this;exact this
 obtain⟨qs,hq,hP⟩:=aCz LL h1;have hz:∀p∈qs.zip LL,ReadsAs w p.1 p.2/\p.2.length≤8796093021952/\∀a,p.1.1=some a->True:=fun p hp=>by
  obtain⟨i,hi,e⟩:=List.getElem_of_mem hp;have h2:(qs.zip LL)[i]?=some p:=by rw [qG hi,e]
  obtain⟨h3,h4⟩:=List.getElem?_zip_eq_some.1 h2;obtain⟨b,off,_,_,h5,h6⟩:=hP i _ _ h4 h3;exact⟨⟨h5,h6⟩,hl _ (List.mem_of_getElem? h4),fun _ _=>trivial⟩
 refine⟨qs.zip LL,?_,fun i u hu=>?_,fun _ _=>trivial,hz⟩
 ·rw [List.map_snd_zip (by omega)]
 ·cases hp:(qs.zip LL)[i]? with
  |none=>rw [show(cB (qs.zip LL))[i]?=((qs.zip LL)[i]?).map _ from List.getElem?_map ..,hp]at hu;cases hu
  |some p=>
   rw [rL _ _ _ hp]at hu;cases hu;obtain⟨h3,h4⟩:=List.getElem?_zip_eq_some.1 hp;obtain⟨b,off,e,hc,_⟩:=hP i _ _ h4 h3;exact⟨b,off,e,hc⟩
theorem aFv{w:World}{G:Nat->Prop}{ao:Option Addr}{L:List dW}(h:ElemsAt pS w G ao L)(hl:∀q∈L,∀ss∈q.2.2.1,ss.length≤8796093021952):RelsIn (fun _=>True) w ao L:=fun i q hq=>by
 obtain⟨b,off,es,e,_,_,hat,hcell⟩:=h i q hq;obtain⟨x1,y1,e1,⟨ex1,_⟩,x2,y2,e2,⟨ex2,_⟩,x3,y3,e3,⟨ra,rcap,ex3,r1,r2,r3⟩,e4⟩:=hat;have e4':y3= []:=e4;have ee:es= [.string q.1,.int .i64 q.2.1,.slice ra q.2.2.1.length rcap]:=by rw [e1,ex1,e2,ex2,e3,ex3,e4'];rfl
 have hc:∀c u,es[c]?=some u->w.cell? ⟨b,off+i*3+c,none⟩=some u:=fun c u hu=>by have:=hcell c u hu;rw [show pS.n=3 from rfl,<-Nat.add_assoc]at this;exact this
 exact⟨b,off,ra,rcap,e,trivial,hc 0 _ (by rw [ee];rfl),hc 1 _ (by rw [ee];rfl),hc 2 _ (by rw [ee];rfl),r1,r2,aFu r3 (hl q (List.mem_of_getElem? hq))⟩
theorem vD{L:List dW}{N:Nat}(h:cK pS.bulk L≤N):L.length≤N/\∀q∈L,q.2.2.1.length≤N/\∀ss∈q.2.2.1,ss.length≤N:=by refine⟨Nat.le_trans (gE pS.bulk (fun x=>by show 1≤_+1;omega) L) h,fun q hq=>?_⟩;have h1:pS.bulk q≤N:=Nat.le_trans (jH pS.bulk hq) h;have h2:shT.bulk q.1+(1+((cK aBt.bulk q.2.2.1+1)+0))+1≤N:=h1;have h3:=gE aBt.bulk (fun x=>by show 1≤_+1;omega) q.2.2.1;refine⟨by omega,fun ss hs=>?_⟩;have h4:aBt.bulk ss≤_:=jH aBt.bulk hs;have h5:cK shT.bulk ss+1≤cK aBt.bulk q.2.2.1:=h4;have h6:=gE shT.bulk (fun x=>by show 1≤_+1;omega) ss;omega
end
section
open Go.RowKit
def RefRows(S:Nat->Prop)(w:World)(c:Nat)(n:Nat)(LL:List (List ByteArray)):Prop:=
 ∃ao cap,Blk w c [.int .i64 n,.slice ao LL.length cap] 149/\RowsIn S w ao LL/\(LL.length≤cap/\cap≤maxLen/\(ao=none/\cap=0\/∃g,ao=some ⟨g,0,none⟩))/\¬S c/\(∀k,S k->k<w.heap.size)/\LL.length≤1048576*1048576
def ReadR(n:Nat)(ok:Nat->Prop)(w0:World)(kv:Value)(w:World):Prop:=∃i:Nat,i≤n/\kv= .int .i64 i/\ok i/\Ext w0 w
def aNj(n:Nat)(f:Nat->Nat)(w0:World)(nv kv:Value)(w:World):Prop:=∃i:Nat,i≤n/\nv= .int .i64 (f i:Nat)/\kv= .int .i64 i/\Ext w0 w
theorem aDw{α:Type}(c:α->α->Int)(zs:List α)(x y:α)(i:Nat)(h:zs[i]?=some y):below c (zs.take (i+1)) x=below c (zs.take i) x+(if c y x<0 then 1 else 0):=by obtain⟨hl,e⟩:=List.getElem?_eq_some_iff.1 h;unfold below;rw [List.take_succ_eq_append_getElem hl,List.filter_append,e];by_cases hc:c y x<0<;>simp [hc]
def lG(LL:List (List ByteArray))(ss:List ByteArray):Int:=if aX aB LL ss then(below aB LL ss:Nat)else-1
theorem qQ{α:Type}{c:α->α->Int}(O:OrdLaw c){zs:List α}(hs:Strict c zs){x y:α}{i:Nat}(hy:zs[i]?=some y)(hz:c y x=0):i=below c zs x:=by
 refine hs.place O (by have:=(List.getElem?_eq_some_iff.1 hy).1;omega) (fun u h0 hu=>?_) (fun u hu=>?_)
 ·obtain⟨h1,e1⟩:=List.getElem?_eq_some_iff.1 hu;obtain⟨h2,e2⟩:=List.getElem?_eq_some_iff.1 hy;have:=List.pairwise_iff_getElem.1 hs (i-1) i h1 h2 (by omega);rw [e1,e2]at this;exact O.lt_trans this (by omega)
 ·rw [hy]at hu;cases hu;omega
section
variable {S S':Nat->Prop}{w w':World}{c n:Nat}{LL:List (List ByteArray)}
theorem RefRows.kp{F:Nat->Prop}(h:RefRows S w c n LL)(hk:Kp F w w')(hc:¬F c)(hF:∀k,F k->¬S k):RefRows S w' c n LL:=by obtain⟨ao,cap,h1,h2,h3,h4,h5,h6⟩:=h;exact⟨ao,cap,h1.kp hk hc,h2.kp hk hF,h3,h4,fun k hS=>Nat.lt_of_lt_of_le (h5 k hS) hk.size,h6⟩
theorem RefRows.ext(h:RefRows S w c n LL)(hk:Ext w w'):RefRows S w' c n LL:=h.kp hk id fun _ x=>x.elim
theorem RefRows.wide(h:RefRows S w c n LL)(hs:∀k,S k->S' k)(hc:¬S' c)(hl:∀k,S' k->k<w.heap.size):RefRows S' w c n LL:=by obtain⟨ao,cap,h1,h2,h3,h4,h5,h6⟩:=h;exact⟨ao,cap,h1,h2.mono hs,h3,hc,hl,h6⟩
theorem RefRows.lt(h:RefRows S w c n LL):c<w.heap.size:=by obtain⟨ao,cap,h1,_⟩:=h;exact h1.lt
theorem RefRows.inS(h:RefRows S w c n LL):∀k,S k->k<w.heap.size:=by obtain⟨ao,cap,h1,h2,h3,h4,h5,_⟩:=h;exact h5
theorem RefRows.notS(h:RefRows S w c n LL):¬S c:=by obtain⟨ao,cap,h1,h2,h3,h4,h5,_⟩:=h;exact h4
theorem RefRows.len(h:RefRows S w c n LL):LL.length≤1048576*1048576:=by obtain⟨ao,cap,h1,h2,h3,h4,h5,h6⟩:=h;exact h6
theorem vF(S:Nat->Prop)(w:World)(a:Nat)(ha:a≤64)(hS:∀k,S k->k<w.heap.size):
 Calls Tryz.prog 95 #[.int .i64 a] w (RetN w fun w' v=>v= .tuple #[.pointer (some ⟨w.heap.size,0,none⟩),.int .i64 0]/\RefRows S w' w.heap.size a []):=by
 have t1:decide ((a:Int)<0)=false:=by simp
 have t2:decide ((a:Int)>64)=false:=by simp;omega
 have t3:decide (64< (a:Int))=false:=by simp;omega
 go_enter Tryz.func95,Tryz.ntmps95;go_wp2;go_ret2;refine RetN.mk ((Kp.refl w).alloc _) ⟨rfl,none,0,Blk.new w [_,_] _,RowsIn.nil _ _,⟨Nat.le_refl _,by decide,.inl ⟨rfl,rfl⟩⟩,fun h=>by have:=hS _ h;omega,fun k h=>by have:=hS k h;rw [aI];omega,by simp⟩
theorem vE(a:Int)(w:World)(ha:a<0\/64<a):Calls Tryz.prog 95 #[.int .i64 a] w (Ret (.tuple #[.pointer none,.int .i64 2]) w):=by
 by_cases h0:a<0
 ·have t1:decide (a<0)=true:=by simp [h0]
  go_enter Tryz.func95,Tryz.ntmps95;go_wp2;go_ret2;exact Ret.mk rfl
 ·have h1:64<a:=by omega
  have t1:decide (a<0)=false:=by simp;omega
  have t2:decide (a>64)=true:=by simp;omega
  have t3:decide (64<a)=true:=by simp;omega
  go_enter Tryz.func95,Tryz.ntmps95;go_wp2;go_ret2;exact Ret.mk rfl
theorem xC(ss:List ByteArray)(ao:Option Addr)(m cap:Nat)(w:World)(hm:m=ss.length)(hc:CellsAt w ao (strs ss))(hl:ss.length≤8796093021952):
 Calls Tryz.prog 102 #[.slice ao m cap] w (RetN w fun w' v=>aLg w w' v ss):=by
 subst hm;go_enter Tryz.func102,Tryz.ntmps102;go_wp2_with (first|(at_builtin;refine Halted.out ?_))
 refine Halted.mk (bQ jW rfl _ _ rfl (Kp.refl (F:=fun _=>False) w) rfl (Row.nil w 9 1 (New w)) rfl hc (by simp [strs]) (gN ss) (by omega) (by unfold maxLen;omega) ?_);intro v1 w1 hr1 hk1 _ _;have HR:=qH hr1;clear hr1;go_wp2;go_ret;refine RetN.mk hk1 ?_;unfold aLg;simpa using HR.out
theorem pV(ss:List ByteArray)(ao:Option Addr)(m cap:Nat)(w:World)(hm:m=ss.length)(hc:CellsAt w ao (strs ss))(hl:m≤4611686018427387904):
 Calls Tryz.prog 133 #[.slice ao m cap] w (Ret (.bool (bI ss)) w):=by
 have HC:=qH hc;have EN:=qH hm;clear hc hm;go_enter Tryz.func133,Tryz.ntmps133;go_wp2;go_loopw [3] (fun kv wr=>wr=w/\∃i:Nat,i≤m/\kv= .int .i64 i/\∀j s,j<i->ss[j]?=some s->s.size≤4096) (fun k _=>m- (intOf k).toNat)
 case atStart=>exact⟨rfl,0,Nat.zero_le _,rfl,fun j s h=>by omega⟩
 case round=>
  obtain⟨ew,i,hi,rfl,hok⟩:=hrel;subst ew;have OK:=qH hok;clear hok;by_cases hlt:i<m
  ·obtain⟨y,hy⟩:∃y,ss[i]?=some y:=⟨_,qG (by have:=EN.out;omega)⟩;obtain⟨g,o,eao,c3⟩:=HC.out i (.string y) (by simp [strs,hy]);subst eao;have HY:=qH hy;clear hy;have i1:(i:Int)< (m:Int):=by omega
   by_cases hz:4096<y.size
   ·have t1:decide ((y.size:Int)>4096)=true:=by simp;omega
    have t2:decide ((4096:Int)< (y.size:Int))=true:=by simp;omega
    go_wp2;go_ret;have key:bI ss=false:=by
     cases hb:bI ss with
     |false=>rfl
     |true=>
      have:=List.all_eq_true.1 hb y (List.mem_of_getElem? HY.out);simp at this;omega
    exact Ret.mk (by rw [key];rfl)
   ·have t1:decide ((y.size:Int)>4096)=false:=by simp;omega
    have t2:decide ((4096:Int)< (y.size:Int))=false:=by simp;omega
    go_wp2;go_roundw
    case rel=>
     refine⟨by first|rfl|trivial,i+1,by omega,nMX,fun j s hj hs=>?_⟩;by_cases e:j=i
     ·subst e;rw [HY.out]at hs;cases hs;omega
     ·exact OK.out j s (by omega) hs
    case measure=>simp [intOf];omega
  ·go_wp2;go_ret;have key:bI ss=true:=List.all_eq_true.2 fun y hy=>by
    obtain⟨j,hj,rfl⟩:=List.mem_iff_getElem.1 hy;have:=OK.out j _ (by have:=EN.out;omega) (qG hj);simpa using this
   exact Ret.mk (by rw [key];rfl)
theorem mX(v:Value)(w:World):Calls Tryz.prog 134 #[.pointer none,v] w (Ret (.int .i64 (-1)) w):=by go_enter Tryz.func134,Tryz.ntmps134;go_wp2;go_ret;exact Ret.mk rfl
set_option maxHeartbeats 1000000 in
theorem mY(h:RefRows S w c n LL)(hst:Strict aB LL){xo:Option Addr}{m xc:Nat}{ss:List ByteArray}(hm:m=ss.length)(hx:CellsAt w xo (strs ss))(hss:ss.length≤8796093021952):
 Calls Tryz.prog 134 #[.pointer (some ⟨c,0,none⟩),.slice xo m xc] w (RetN w fun w' v=>v= .int .i64 (lG LL ss)):=by
 have hl:=h.len;obtain⟨ao,cap,h1,h2,_⟩:=h;have c2:=h1.c1;obtain⟨N,en⟩:∃n,n=LL.length:=⟨_,rfl⟩;rw [<-en]at c2 hl;have HC:=qH h2;have EN:=qH en;have HX:=qH hx;have HT:=qH hst;clear h1 h2 en hx hst;subst hm;go_enter Tryz.func134,Tryz.ntmps134;go_wp2;go_loopw [5] (ReadR N (fun i=>∀j z,j<i->LL[j]?=some z->¬aB z ss=0) w) (fun k _=>N- (intOf k).toNat)
 case atStart=>exact⟨0,Nat.zero_le _,rfl,fun j z h=>by omega,Kp.refl _⟩
 case round=>
  obtain⟨i,hi,rfl,hok,hex⟩:=hrel;have OK:=qH hok;clear hok;have d2:=hex.cell c2 id;by_cases hlt:i<N
  ·obtain⟨y,hy⟩:∃y,LL[i]?=some y:=⟨_,qG (by have:=EN.out;omega)⟩;obtain⟨g,o,x,xcap,eao,c3,hcy,hly,_⟩:=(HC.out.ext hex).get hy;subst eao;have HY:=qH hy;clear hy;have i1:(i:Int)< (N:Int):=by omega
   have i2:(0:Int)≤(i:Int):=by omega
   have HCM:=qH (fun W (hW:Ext wr W)=>jQ y ss x xo xcap xc W (hcy.ext hW) ((HX.out.ext hex).ext hW) (by unfold maxLen;omega) (by unfold maxLen;omega));generalize hcc:aB y ss=cc at HCM;have HCC:=qH hcc;clear hcc hcy;by_cases hz:cc=0
   ·have t1:(cc==0)=true:=by simp [hz]
    go_wp2_with fail
    refine(HCM.out _ (Kp.refl _)).mono ?_;rintro e w1 ⟨rfl,k1,rfl⟩;clear d2 c3;go_wp2;go_ret;have key:lG LL ss=i:=by unfold lG;rw [if_pos (fO.2 ⟨y,List.mem_of_getElem? HY.out,by rw [HCC.out];exact hz⟩),<-qQ (c:=aB) (dV id) HT.out HY.out (by rw [HCC.out];exact hz)]
    exact RetN.mk (hex.drewN k1) (by rw [key];rfl)
   ·have t1:(cc==0)=false:=by simp [hz]
    go_wp2_with fail
    refine(HCM.out _ (Kp.refl _)).mono ?_;rintro e w1 ⟨rfl,k1,rfl⟩;clear d2 c3;go_wp2;go_roundw
    case rel=>
     refine⟨i+1,by omega,nMX,fun j z hj hz'=>?_,hex.drewN k1⟩;by_cases e:j=i
     ·subst e;rw [HY.out]at hz';cases hz';rw [HCC.out];exact hz
     ·exact OK.out j z (by omega) hz'
    case measure=>simp [intOf];omega
  ·go_wp2;go_ret;have key:lG LL ss= -1:=by
    unfold lG;rw [if_neg];intro hb;obtain⟨y,hy,hz⟩:=fO.1 hb;obtain⟨j,hj,rfl⟩:=List.mem_iff_getElem.1 hy;exact OK.out j _ (by have:=EN.out;omega) (qG hj) hz
   exact RetN.mk hex (by rw [key];rfl)
set_option maxHeartbeats 1000000 in
theorem tU(h:RefRows S w c n LL){xo:Option Addr}{m xc:Nat}{ss:List ByteArray}(hm:m=ss.length)(hx:CellsAt w xo (strs ss))(hss:ss.length≤8796093021952):
 Calls Tryz.prog 135 #[.pointer (some ⟨c,0,none⟩),.slice xo m xc] w (RetN w fun w' v=>v= .int .i64 (below aB LL ss:Nat)):=by
 have hl:=h.len;obtain⟨ao,cap,h1,h2,_⟩:=h;have c2:=h1.c1;obtain⟨N,en⟩:∃n,n=LL.length:=⟨_,rfl⟩;rw [<-en]at c2 hl;have HC:=qH h2;have EN:=qH en;have HX:=qH hx;clear h1 h2 en hx;subst hm;obtain⟨f,ef⟩:∃f:Nat->Nat,f=fun i=>below aB (LL.take i) ss:=⟨_,rfl⟩;have F0:f 0=0:=by rw [ef];rfl
 have FL:=qH (show ∀i,f i≤i from fun i=>by rw [ef];exact Nat.le_trans (below_le _ _) (by simp;omega));have FS:=qH (show ∀i y,LL[i]?=some y->f (i+1)=f i+(if aB y ss<0 then 1 else 0)from fun i y h=>by rw [ef];exact aDw aB LL ss y i h);have FN:=qH (show f N=below aB LL ss by rw [ef];show below aB (LL.take N) ss=_;rw [List.take_of_length_le (by have:=EN.out;omega)]);clear ef;go_enter Tryz.func135,Tryz.ntmps135;go_wp2;go_loopw [5,6] (aNj N f w) (fun _ k _=>N- (intOf k).toNat)
 case atStart=>exact⟨0,Nat.zero_le _,by rw [F0];rfl,rfl,Kp.refl _⟩
 case round=>
  obtain⟨i,hi,rfl,rfl,hex⟩:=hrel;have d2:=hex.cell c2 id;by_cases hlt:i<N
  ·obtain⟨y,hy⟩:∃y,LL[i]?=some y:=⟨_,qG (by have:=EN.out;omega)⟩;obtain⟨g,o,x,xcap,eao,c3,hcy,hly,_⟩:=(HC.out.ext hex).get hy;subst eao;have hs:=FS.out i y hy;have hbi:=FL.out i;have HCM:=qH (fun W (hW:Ext wr W)=>jQ y ss x xo xcap xc W (hcy.ext hW) ((HX.out.ext hex).ext hW) (by unfold maxLen;omega) (by unfold maxLen;omega));generalize hcc:aB y ss=cc at HCM hs;have HS:=qH hs;have i1:(i:Int)< (N:Int):=by omega
   have i2:(0:Int)≤(i:Int):=by omega
   clear hcc hcy hs hy;by_cases hz:cc<0
   ·have t1:decide (cc<0)=true:=by simp [hz]
    go_wp2_with fail
    refine(HCM.out _ (Kp.refl _)).mono ?_;rintro e w1 ⟨rfl,k1,rfl⟩;clear d2 c3;go_wp2;go_roundw
    case rel=>exact⟨i+1,by omega,by rw [HS.out,if_pos hz];go_num,nMX,hex.drewN k1⟩
    case measure=>simp [intOf];omega
   ·have t1:decide (cc<0)=false:=by simp;omega
    go_wp2_with fail
    refine(HCM.out _ (Kp.refl _)).mono ?_;rintro e w1 ⟨rfl,k1,rfl⟩;clear d2 c3;go_wp2;go_roundw
    case rel=>exact⟨i+1,by omega,by rw [HS.out,if_neg (by omega)];rfl,nMX,hex.drewN k1⟩
    case measure=>simp [intOf];omega
  ·obtain rfl:i=N:=by omega
   go_wp2;go_ret;exact RetN.mk hex (by rw [<-FN.out];rfl)
end
def GathR(n:Nat)(LL:Nat->List (List ByteArray))(w0:World)(lv kv:Value)(w:World):Prop:=∃i:Nat,i≤n/\kv= .int .i64 i/\Ext w0 w/\OwnRows w0.heap.size w lv (LL i)
def Grows(w:World)(S S':Nat->Prop):Prop:=(∀k,S k->S' k)/\∀k,S' k->S k\/w.heap.size≤k
theorem Grows.refl(w:World)(S:Nat->Prop):Grows w S S:=⟨fun _ h=>h,fun _ h=> .inl h⟩
theorem Grows.trans{w w':World}{S S' S'':Nat->Prop}(h:Grows w S S')(h':Grows w' S' S'')(hs:w.heap.size≤w'.heap.size):Grows w S S'':=
 ⟨fun k hk=>h'.1 k (h.1 k hk),fun k hk=>(h'.2 k hk).elim (fun h2=>h.2 k h2) (fun h2=> .inr (Nat.le_trans hs h2))⟩
section
variable {S S':Nat->Prop}{w w':World}{c n c1 c2 n1 n2:Nat}{LL L1 L2:List (List ByteArray)}{v:Value}{lo:Nat}
theorem OwnRows.wp{W w1:World}{x:gK}{ss:List ByteArray}{ops:Array Oper}{rest:List Oper}{o:Oper}{a:Act}{Q:Exit->Act->World->Prop}(h:OwnRows lo W v LL)(hk:Ext W w1)(hlo:lo≤W.heap.size)
 (hx:Row w1 9 1 (.slice x.1 x.2.1 x.2.2) ss.length (strs ss) (New W))(hss:ss.length≤8796093021952)(hll:LL.length≤1048576*1048576)(hgd:o.guard=none)(s y:Operand)
 (ho:o.op= .call {callee:= .builtin .append,args:=#[s,y],argTypes:=#[69,69]})(hs:a.eval s=v)(hy:a.eval y= .slice (some ⟨w1.heap.size,0,none⟩) 1 1)
 (H:∀v' w',(∃ao cap,v'= .slice ao (LL.length+1) cap)->OwnRows lo w' v' (LL++ [ss])->Kp (fun g=>v.ownBlock=some g) (w1.alloc (.cells #[.slice x.1 x.2.1 x.2.2] 34)) w'->wpList Tryz.prog ops Q rest (a.put o.dst v') w'):
 wpList Tryz.prog ops Q (o::rest) a (w1.alloc (.cells #[.slice x.1 x.2.1 x.2.2] 34)):=by
 obtain⟨ps,rfl,r2,r3,r4⟩:=h;have hex:Ext W (w1.alloc (.cells #[.slice x.1 x.2.1 x.2.2] 34)):=hk.alloc _;have r2':=r2.ext hex;rw [List.length_map]at hll;refine rA cQ hgd s y ho (Kp.refl (F:=fun g=>v.ownBlock=some g) _) (M:=fun g=>v.ownBlock=some g\/ (w1.alloc (.cells #[.slice x.1 x.2.1 x.2.2] 34)).heap.size≤g) (fun g h h'=>by rcases h with h|h;exact h;omega) (fun g h=> .inr h) hs
  (Row.mono r2'.own fun g h=> .inl h) hy (m:=1) (news:= [.slice x.1 x.2.1 x.2.2]) rfl (CellsAt.one w1 _ _) (by simp;rfl) (by omega) (by unfold maxLen;omega) ?_
 intro v' w' hr' hk' _ _;obtain⟨ao,cap,e,_⟩:=hr'.shape;refine H v' w' ⟨ao,cap,by rw [e];simp⟩ ?_ hk';exact OwnRows.push r2' (fun p hp=>⟨(r3 p hp).1.ext hex,(r3 p hp).2⟩) r4 (B:=W.heap.size) (fun p hp g hg=>(r3 p hp).1.lt g hg) hlo (hx.alloc _) hss
  (Row.mono hr' fun g hg=>by rcases hg with hg|hg;exact r2.block g hg;exact Nat.le_trans hlo (Nat.le_trans hex.size hg)) hk'
theorem aEt(w:World):Calls Tryz.prog 54 #[.pointer none] w (Ret (.slice none 0 0) w):=by go_enter Tryz.func54,Tryz.ntmps54;go_wp2;go_ret;exact Ret.mk rfl
set_option maxHeartbeats 1000000 in
theorem aEu(h:RefRows S w c n LL):Calls Tryz.prog 54 #[.pointer (some ⟨c,0,none⟩)] w (RetN w fun w' v=>OwnRows w.heap.size w' v LL):=by
 have hl:=h.len;obtain⟨ao,cap,h1,h2,_⟩:=h;have c2:=h1.c1;obtain⟨N,en⟩:∃n,n=LL.length:=⟨_,rfl⟩;rw [<-en]at c2 hl;have HC:=qH h2;have EN:=qH en;clear h1 h2 en;go_enter Tryz.func54,Tryz.ntmps54;go_wp2;go_loopw [3,4] (GathR N (fun i=>LL.take i) w) (fun _ k _=>N- (intOf k).toNat)
 case atStart=>exact⟨0,Nat.zero_le _,rfl,Kp.refl _,OwnRows.nil _ _⟩
 case round=>
  obtain⟨i,hi,rfl,hex,hown⟩:=hrel;have d2:=hex.cell c2 id;by_cases hlt:i<N
  ·obtain⟨y,hy⟩:∃y,LL[i]?=some y:=⟨_,qG (by have:=EN.out;omega)⟩;obtain⟨g,o,x,xcap,eao,c3,hcy,hly,_⟩:=(HC.out.ext hex).get hy;subst eao;have et:LL.take (i+1)=LL.take i++ [y]:=by rw [List.take_add_one,hy];rfl
   have htl:(LL.take i).length=i:=by rw [List.length_take,<-EN.out];omega
   have hz:=hex.size;have i1:(i:Int)< (N:Int):=by omega
   have i2:(0:Int)≤(i:Int):=by omega
   have HCP:=qH (xC y x y.length xcap wr rfl hcy hly);have hown:OwnRows w.heap.size wr u3 (LL.take i):=hown;obtain⟨aov,capv,ev,_⟩:=hown.shape;rw [htl]at ev;subst ev;have HR:=qH hown;have ET:=qH et;clear hcy hy et hown;go_wp2_with fail
   refine HCP.out.mono ?_;rintro e w1 ⟨v1,rfl,hk1,hr1⟩;obtain⟨ao1,cap1,ev,_,_⟩:=hr1.shape;subst ev;clear d2 c3;go_wp2_with (first|(at_builtin;refine Halted.out ?_))
   refine Halted.mk (OwnRows.wp (x:=(ao1,y.length,cap1)) HR.out hk1 hz hr1 hly (by omega) rfl _ _ rfl rfl rfl ?_);rintro v' w2 ⟨ao2,cap2,rfl⟩ hown2 hk2;have HO:=qH (nIX hown2 hk2);have HB:=qH (fun g hg=>(HR.out.lt g hg).1);clear hown2 hk2;go_wp2;go_roundw
   case rel=>exact⟨i+1,by omega,nMX,(hex.trans (hk1.alloc _)).trans' HO.out.2 (fun k hk h=>by have:=HB.out k h;omega),by have h:=HO.out.1;rw [htl]at h;show OwnRows _ _ _ (LL.take (i+1));rw [ET.out];exact h⟩
   case measure=>simp [intOf];omega
  ·obtain rfl:i=N:=by omega
   have hown:OwnRows w.heap.size wr u3 (LL.take i):=hown;rw [List.take_of_length_le (by have:=EN.out;omega)]at hown;obtain⟨aov,capv,ev,_⟩:=hown.shape;subst ev;have HR:=qH hown;clear hown;go_wp2;go_ret;exact RetN.mk hex HR.out
theorem OwnRows.form(h:OwnRows lo w v LL):∃ao cap,v= .slice ao LL.length cap/\RowsIn (fun g=>lo≤g/\g<w.heap.size) w ao LL/\(LL.length≤cap/\cap≤maxLen/\(ao=none/\cap=0\/∃g,ao=some ⟨g,0,none⟩)):=by
 obtain⟨ao,cap,e,h1⟩:=h.shape;obtain⟨ps,rfl,h2,_⟩:=h;refine⟨ao,cap,e,h1,?_⟩;subst e;obtain⟨_,⟨e,h3⟩|⟨g,cap',rest,e,_,_,_,h4,h5⟩⟩:=h2
 ·simp only [Value.slice.injEq]at e;obtain⟨rfl,_,rfl⟩:=e;exact⟨by simp;exact List.eq_nil_of_length_eq_zero h3,by decide,.inl ⟨rfl,rfl⟩⟩
 ·simp only [Value.slice.injEq]at e;obtain⟨rfl,_,rfl⟩:=e;exact⟨by simpa using h4,h5,.inr ⟨_,rfl⟩⟩
end
theorem CellsAt.sub'{w:World}{g off:Nat}{vs:List Value}(h:CellsAt w (some ⟨g,off,none⟩) vs)(k:Nat):CellsAt w (some ⟨g,off+k,none⟩) (vs.drop k):=by intro i u hu;rw [List.getElem?_drop]at hu;obtain⟨b,o,e,hc⟩:=h (k+i) u hu;cases e;exact⟨g,off+k,rfl,by rw [Nat.add_assoc];exact hc⟩
theorem CellsAt.take'{w:World}{ao:Option Addr}{vs:List Value}(h:CellsAt w ao vs)(k:Nat):CellsAt w ao (vs.take k):=by
 intro i u hu;rw [List.getElem?_take]at hu;split at hu
 ·exact h i u hu
 ·cases hu
theorem Row.cast'{w:World}{e:TypeId}{k:Nat}{v:Value}{n n':Nat}{xs xs':List Value}{M:Nat->Prop}(h:Row w e k v n xs M)(hn:n=n')(hx:xs=xs'):Row w e k v n' xs' M:=by subst hn hx;exact h
theorem pF(ps:List eI)(k:Nat):(cB ps).take k=cB (ps.take k):=by simp [cB]
theorem uY(ps:List eI)(k:Nat):(cB ps).drop k=cB (ps.drop k):=by simp [cB]
section
variable {S S':Nat->Prop}{w w0 w':World}{c n:Nat}{LL:List (List ByteArray)}{v:Value}
theorem RefRows.store{lv0:Value}(hex:Ext w0 w)(hc:c<w0.heap.size)(hnS:¬S c)(hS:∀k,S k->k<w0.heap.size)(hB:Blk w c [.int .i64 n,lv0] 149){ps:List eI}(hr:Row w 34 1 v ps.length (cB ps) (New w0))
 (hall:∀p∈ps,ReadsAs w p.1 p.2/\p.2.length≤8796093021952/\∀a,p.1.1=some a->S a.block\/ (w0.heap.size≤a.block/\a.block<w.heap.size))(hl:ps.length≤1048576*1048576):
 RefRows (fun k=>S k\/ (w0.heap.size≤k/\k<w.heap.size)) (w.setCell ⟨c,1,none⟩ v) c n (ps.map Prod.snd):=by
 have hk:Kp (fun k=>k=c) w (w.setCell ⟨c,1,none⟩ v):=Kp.setCell (F:=fun k=>k=c) (Kp.refl w) (fun _=>rfl) v;have hz:=hex.size;have hlt:=hr.lt;have hb:=hr.block;have hform:∃ao cap,v= .slice ao ps.length cap/\CellsAt w ao (cB ps)/\(ps.length≤cap/\cap≤maxLen/\(ao=none/\cap=0\/∃g,ao=some ⟨g,0,none⟩)):=by
  obtain⟨ao,cap,e,h1,h2⟩:=hr.shape;refine⟨ao,cap,e,h1,h2,?_⟩;subst e;obtain⟨_,⟨e,h3⟩|⟨g,cap',rest,e,_,_,_,h4,h5⟩⟩:=hr
  ·simp only [Value.slice.injEq]at e;obtain⟨rfl,_,rfl⟩:=e;exact⟨by decide,.inl ⟨rfl,rfl⟩⟩
  ·simp only [Value.slice.injEq]at e;obtain⟨rfl,_,rfl⟩:=e;exact⟨h5,.inr ⟨_,rfl⟩⟩
 obtain⟨ao,cap,rfl,hcs,hf⟩:=hform;have hin:RowsIn (fun k=>S k\/ (w0.heap.size≤k/\k<w.heap.size)) w ao (ps.map Prod.snd):=
  ⟨ps,rfl,hcs,fun a e=>by subst e;exact .inr ⟨hb _ rfl,hlt _ rfl⟩,hall⟩
 have hcn:¬(S c\/ (w0.heap.size≤c/\c<w.heap.size)):=fun h=>by
  rcases h with h|h
  ·exact hnS h
  ·omega
 refine⟨ao,cap,by simpa using hB.set 1 (.slice ao ps.length cap),hin.kp hk (fun k e h=>by subst e;exact hcn h),by simpa using hf,hcn,fun k h=>?_,by simpa using hl⟩;have:=hk.size;rcases h with h|h
 ·have:=hS k h;omega
 ·omega
def RefAdded(S:Nat->Prop)(w:World)(c n:Nat)(LL:List (List ByteArray))(ss:List ByteArray)(w':World)(v:Value):Prop:=
 v= .tuple #[.bool (aM n LL ss).1,.int .i64 ((aM n LL ss).2:Nat)]/\∃S',Grows w S S'/\RefRows S' w' c n (aS n LL ss)
theorem RefAdded.same{ss:List ByteArray}(h:RefRows S w c n LL)(hk:Ext w w')(hv:v= .tuple #[.bool (aM n LL ss).1,.int .i64 ((aM n LL ss).2:Nat)])(h0:aS n LL ss=LL):RefAdded S w c n LL ss w' v:=
 ⟨hv,S,Grows.refl _ _,by rw [h0];exact h.ext hk⟩
set_option maxHeartbeats 2000000 in
theorem vH(h:RefRows S w c n LL)(hst:Strict aB LL){xo:Option Addr}{m xc:Nat}{ss:List ByteArray}(hm:m=ss.length)(hx:CellsAt w xo (strs ss))(hss:ss.length≤8796093021952)(hl1:LL.length+1≤1048576*1048576):
 Calls Tryz.prog 96 #[.pointer (some ⟨c,0,none⟩),.slice xo m xc] w (RetF (fun k=>k=c) w (RefAdded S w c n LL ss)):=by
 have HH:=qH h;obtain⟨ao,cap,B0,R0,⟨f1,f2,f3⟩,hnS,hSw,_⟩:=h;have c1:=B0.c0;have HT:=qH (pV ss xo m xc w hm hx (by omega));have HF:=qH (mY HH.out hst (xc:=xc) hm hx hss);have HX:=qH (nIX hx (nIX hst (nIX hnS hSw)));have HB:=qH (nIX B0 R0);have F3:=qH f3;clear hst hx hnS hSw B0 R0 f3;by_cases h1:m=n
 ·have q1:((m:Int) !=(n:Int))=false:=by simp [h1]
  have H1:=qH h1;clear h1;have hn:ss.length=n:=by rw [<-hm,H1.out]
  have HN:=qH hn;have HM:=qH hm;cases ht:bI ss with
  |false=>
   have e0:aM n LL ss=(false,31):=by unfold aM;rw [if_neg (by simp [hn]),if_pos ht]
   rw [ht]at HT;clear ht hn hm f1 f2 hss hl1;go_enter Tryz.func96,Tryz.ntmps96;go_wp2_with fail
   refine HT.out.mono ?_;rintro e w1 ⟨rfl,rfl⟩;go_wp2;go_ret2;exact RetF.mk (Kp.refl _) (RefAdded.same HH.out (Kp.refl _) (by rw [e0];rfl) (by unfold aS;rw [e0];rfl))
  |true=>
   rw [ht]at HT;cases hin:aX aB LL ss with
   |true=>
    have e0:aM n LL ss=(false,0):=by unfold aM;rw [if_neg (by simp [hn]),if_neg (by simp [ht]),if_neg (by simp [hin]),hin];rfl
    have e1:aS n LL ss=LL:=by unfold aS bN;rw [e0,if_pos rfl,if_pos hin]
    have ef:lG LL ss=(below aB LL ss:Nat):=by unfold lG;rw [if_pos hin]
    rw [ef]at HF;generalize below aB LL ss=bl at HF;have E:=qH (nIX e0 e1);clear e0 e1 ef hin ht hn hm f1 f2 hss hl1;have t1:decide ((bl:Int)≥0)=true:=by simp
    go_enter Tryz.func96,Tryz.ntmps96;go_wp2_with fail
    refine HT.out.mono ?_;rintro e w1 ⟨rfl,rfl⟩;go_wp2_with fail
    refine HF.out.mono ?_;rintro e w1 ⟨v,rfl,hk,rfl⟩;have HK:=qH hk;clear hk;go_wp2;go_ret2;exact RetF.mk (Ext.kp HK.out) (RefAdded.same HH.out HK.out (by rw [E.out.1];rfl) E.out.2)
   |false=>
    have ef:lG LL ss= -1:=by unfold lG;rw [if_neg (by simp [hin])]
    rw [ef]at HF;by_cases h65:65536≤LL.length
    ·have e0:aM n LL ss=(false,4):=by unfold aM;rw [if_neg (by simp [hn]),if_neg (by simp [ht]),if_pos ⟨h65,hin⟩]
     have E:=qH e0;clear e0 ef hin ht hn hm hss hl1;have c2:=HB.out.1.c1;have t1:decide ((LL.length:Int)≥65536)=true:=by simp;omega
     have t2:decide ((65536:Int)≤(LL.length:Int))=true:=by simp;omega
     go_enter Tryz.func96,Tryz.ntmps96;go_wp2_with fail
     refine HT.out.mono ?_;rintro e w1 ⟨rfl,rfl⟩;go_wp2_with fail
     refine HF.out.mono ?_;rintro e w1 ⟨v,rfl,hk,rfl⟩;have d2:=hk.cell c2 id;have HK:=qH hk;clear hk;go_wp2;go_ret2;exact RetF.mk (Ext.kp HK.out) (RefAdded.same HH.out HK.out (by rw [E.out];rfl) (by unfold aS;rw [E.out];rfl))
    ·have e0:aM n LL ss=(true,0):=by unfold aM;rw [if_neg (by simp [hn]),if_neg (by simp [ht]),if_neg (by simp [h65]),hin];rfl
     have e1:aS n LL ss=LL.take (below aB LL ss)++ss::LL.drop (below aB LL ss):=by unfold aS bN;rw [e0,if_pos rfl,if_neg (by simp [hin])]
     have E:=qH (nIX e0 e1);clear e0 e1 ef hin ht;have hle:=below_le (c:=aB) LL ss;have HW:=qH (fun W (hW:Ext w W)=>tU (HH.out.ext hW) (xc:=xc) hm (HX.out.1.ext hW) hss);generalize below aB LL ss=b at*;have HCP:=qH (fun W (hW:Ext w W)=>xC ss xo m xc W hm (HX.out.1.ext hW) hss);obtain⟨N,en⟩:∃n,n=LL.length:=⟨_,rfl⟩;have c2:w.cell? ⟨c,1,none⟩=some (.slice ao N cap):=by rw [en,HB.out.1.cell'];rfl
     rw [<-en]at hle h65 hl1 f1;have EN:=qH (nIX en hm);clear en;have t1:decide ((N:Int)≥65536)=false:=by simp;omega
     have t2:decide ((65536:Int)≤(N:Int))=false:=by simp;omega
     unfold maxLen at f2;have hcw:=HH.out.lt;have hmm:m≤8796093021952:=by omega
     clear hm hn;go_enter Tryz.func96,Tryz.ntmps96;go_wp2_with fail
     refine HT.out.mono ?_;rintro e w1 ⟨rfl,rfl⟩;go_wp2_with fail
     refine HF.out.mono ?_;rintro e w1 ⟨v,rfl,hk1,rfl⟩;have d2:=hk1.cell c2 id;go_wp2_with fail
     refine(HW.out _ hk1).mono ?_;rintro e w2 ⟨v,rfl,hk2,rfl⟩;have hx2:=hk1.trans hk2;have d3:=hx2.cell c2 id;clear d2 t1 t2;obtain⟨ps,hE,hcs,_,hall⟩:=HB.out.2;have hpn:ps.length=N:=by rw [EN.out.1,hE];simp
     have PS:=qH (nIX hE (nIX hcs (nIX hall hpn)));clear hE hcs hall hpn;rcases F3.out with⟨rfl,rfl⟩|⟨g,rfl⟩
     ·have hN0:N=0:=by omega
      have hb0:b=0:=by omega
      subst hN0 hb0;clear f1 f2 hle;go_wp2_with (first|(at_builtin;refine Halted.out ?_))
      refine Halted.mk (bQ cQ rfl _ _ rfl hx2 rfl (Row.nil w2 34 1 (New w)) rfl (news:=(cB ps).take 0) (by simp;exact CellsAt.nil _ _) (by simp) (by simp) (by decide) (by decide) ?_);intro v1 w3 hr1 hk3 _ _;have HR1:=qH hr1;clear hr1;go_wp2_with fail
      refine(HCP.out _ hk3).mono ?_;rintro e w3c ⟨vc,rfl,hkc,hrc⟩;obtain⟨ao1,cap1,ev,_,_⟩:=hrc.shape;subst ev;have HRC:=qH (nIX hkc hrc);have hk3c:=hk3.trans hkc;clear hkc hrc;go_wp2_with (first|(at_builtin;refine Halted.out ?_))
      refine Halted.mk (bQ cQ rfl _ _ rfl (hk3c.alloc (.cells #[.slice ao1 ss.length cap1] 34)) rfl ((HR1.out.ext HRC.out.1).alloc _) rfl (CellsAt.one w3c (.slice ao1 ss.length cap1) 34) rfl (by simp;rfl) (by omega) (by unfold maxLen;omega) ?_);intro v2 w4 hr2 hk4 hk4' _;have HR2:=qH (nIX hr2 (nIX hk4 hk4'));clear hr2 hk4';have e1:=hk4.cell c2 id;go_wp2_with (first|(at_builtin;refine Halted.out ?_))
      refine Halted.mk (bQ cQ rfl _ _ rfl hk4 rfl HR2.out.1 rfl (news:=(cB ps).drop 0) (by rw [List.drop_of_length_le (by rw [kV,PS.out.2.2.2];exact Nat.le_refl _)];exact CellsAt.nil _ _) (by rw [List.length_drop,kV];have:=PS.out.2.2.2;omega) (fun u hu=>rK ps u (List.mem_of_mem_drop hu)) (by omega) (by unfold maxLen;omega) ?_);intro v3 w5 hr3 hk5 hk5' _;obtain⟨ao3,n3,cap3,e3,_⟩:∃ao n cap,v3= .slice ao n cap/\True:=by obtain⟨ao,cap,e,_⟩:=hr3.shape;exact⟨_,_,_,e,trivial⟩
      subst e3;have g1:=hk5.cell c2 id;have g2:=(HB.out.1.ext hk5).free 1;have HR3:=qH (nIX hr3 (nIX hk5 hk5'));clear hr3 hk5';go_wp2;go_ret2;obtain⟨hr3,hk5,hk5'⟩:=HR3.out;obtain⟨hr2,hk4,hk4'⟩:=HR2.out;obtain⟨hkc,hrc⟩:=HRC.out;obtain⟨hE,hcs,hall,hpn⟩:=PS.out;obtain⟨hx0,hst0,hnS0,hSw0⟩:=HX.out;have hne:9≠34:=by decide
      have q1:=(show Row w3c 9 1 (.slice ao1 ss.length cap1) ss.length (strs ss) (New w3)from hrc).alloc (.cells #[.slice ao1 ss.length cap1] 34);have q2:=q1.kp' hk4' fun g hg _ hf=>q1.sort_ne ((HR1.out.ext hkc).alloc (.cells #[.slice ao1 ss.length cap1] 34)) hne hg hf;have q3:=q2.kp' hk5' fun g hg _ hf=>q2.sort_ne hr2 hne hg hf;have q4:=Row.readsAs (x:=(ao1,ss.length,cap1)) q3;have eL:(ps.take 0++((ao1,ss.length,cap1),ss)::ps.drop 0).map Prod.snd=aS n LL ss:=by rw [E.out.2,hE];simp
      have hlen:(ps.take 0++(((ao1,ss.length,cap1),ss):eI)::ps.drop 0).length=0+1:=by rw [List.length_append,List.length_cons,List.length_take,List.length_drop];omega
      have hfin:=RefRows.store (S:=S) (n:=n) hk5 hcw hnS0 hSw0 (HB.out.1.ext hk5) (ps:=ps.take 0++((ao1,ss.length,cap1),ss)::ps.drop 0) (v:= .slice ao3 n3 cap3)
       (hr3.cast' (by first|(rw [hlen];omega)|rw [hlen]) (by rw [jA,pF,uY];simp [cB])) (fun p hp=>by
        have hp':p∈ps\/p=((ao1,ss.length,cap1),ss):=by
         rcases List.mem_append.1 hp with h|h
         ·exact .inl (List.mem_of_mem_take h)
         ·rcases List.mem_cons.1 h with h|h
          ·exact .inr h
          ·exact .inl (List.mem_of_mem_drop h)
        rcases hp' with hp'|rfl
        ·obtain⟨h1,h2,h3⟩:=hall p hp';exact⟨⟨h1.1,h1.2.ext hk5⟩,h2,fun a e=> .inl (h3 a e)⟩
        ·refine⟨q4.1,hss,fun a e=> .inr ?_⟩;have:=q4.2 a e;have hz3:=hk3.size;exact⟨Nat.le_trans hz3 this.1,this.2⟩) (by rw [hlen];omega)
      rw [eL]at hfin;refine RetF.mk (Kp.setCell (F:=fun k=>k=c) (Ext.kp hk5) (fun _=>rfl) _) ⟨by rw [E.out.1];rfl,_,⟨fun k h=> .inl h,fun k h=>h.imp id fun h=>h.1⟩,hfin⟩
     ·have hp1:(b:Int)≤(cap:Int):=by omega
      have hp2:(b:Int)≤(N:Int):=by omega
      by_cases hcm:cap=b
      all_goals
       go_wp2_with (first|(at_builtin;refine Halted.out ?_))
       refine Halted.mk (bQ cQ rfl _ _ rfl hx2 rfl (Row.nil w2 34 1 (New w)) rfl ((PS.out.2.1.ext hx2).take' b) (by rw [List.length_take,kV,PS.out.2.2.2];omega) (fun u hu=>rK ps u (List.mem_of_mem_take hu)) (by omega) (by unfold maxLen;omega) ?_);intro v1 w3 hr1 hk3 _ _;have HR1:=qH hr1;clear hr1;go_wp2_with fail
       refine(HCP.out _ hk3).mono ?_;rintro e w3c ⟨vc,rfl,hkc,hrc⟩;obtain⟨ao1,cap1,ev,_,_⟩:=hrc.shape;subst ev;have HRC:=qH (nIX hkc hrc);have hk3c:=hk3.trans hkc;clear hkc hrc;go_wp2_with (first|(at_builtin;refine Halted.out ?_))
       refine Halted.mk (bQ cQ rfl _ _ rfl (hk3c.alloc (.cells #[.slice ao1 ss.length cap1] 34)) rfl ((HR1.out.ext HRC.out.1).alloc _) rfl (CellsAt.one w3c (.slice ao1 ss.length cap1) 34) rfl (by simp;rfl) (by omega) (by unfold maxLen;omega) ?_);intro v2 w4 hr2 hk4 hk4' _;have HR2:=qH (nIX hr2 (nIX hk4 hk4'));clear hr2 hk4';have e1:=hk4.cell c2 id;go_wp2_with (first|(at_builtin;refine Halted.out ?_))
       refine Halted.mk (bQ cQ rfl _ _ rfl hk4 rfl HR2.out.1 rfl (news:=(cB ps).drop b) (by
        first
         |(have:=(PS.out.2.1.ext hk4).sub' b;rwa [Nat.zero_add]at this)
         |(rw [List.drop_of_length_le (by rw [kV,PS.out.2.2.2];omega)];exact CellsAt.nil _ _)) (by rw [List.length_drop,kV];have:=PS.out.2.2.2;omega) (fun u hu=>rK ps u (List.mem_of_mem_drop hu)) (by omega) (by unfold maxLen;omega) ?_)
       intro v3 w5 hr3 hk5 hk5' _;obtain⟨ao3,n3,cap3,e3,_⟩:∃ao n cap,v3= .slice ao n cap/\True:=by obtain⟨ao,cap,e,_⟩:=hr3.shape;exact⟨_,_,_,e,trivial⟩
       subst e3;have g1:=hk5.cell c2 id;have g2:=(HB.out.1.ext hk5).free 1;have HR3:=qH (nIX hr3 (nIX hk5 hk5'));clear hr3 hk5';go_wp2;go_ret2;obtain⟨hr3,hk5,hk5'⟩:=HR3.out;obtain⟨hr2,hk4,hk4'⟩:=HR2.out;obtain⟨hkc,hrc⟩:=HRC.out;obtain⟨hE,hcs,hall,hpn⟩:=PS.out;obtain⟨hx0,hst0,hnS0,hSw0⟩:=HX.out;have hne:9≠34:=by decide
       have q1:=(show Row w3c 9 1 (.slice ao1 ss.length cap1) ss.length (strs ss) (New w3)from hrc).alloc (.cells #[.slice ao1 ss.length cap1] 34);have q2:=q1.kp' hk4' fun g hg _ hf=>q1.sort_ne ((HR1.out.ext hkc).alloc (.cells #[.slice ao1 ss.length cap1] 34)) hne hg hf;have q3:=q2.kp' hk5' fun g hg _ hf=>q2.sort_ne hr2 hne hg hf;have q4:=Row.readsAs (x:=(ao1,ss.length,cap1)) q3;have eL:(ps.take b++((ao1,ss.length,cap1),ss)::ps.drop b).map Prod.snd=aS n LL ss:=by rw [E.out.2,hE];simp
       have hlen:(ps.take b++(((ao1,ss.length,cap1),ss):eI)::ps.drop b).length=N+1:=by rw [List.length_append,List.length_cons,List.length_take,List.length_drop];omega
       have hfin:=RefRows.store (S:=S) (n:=n) hk5 hcw hnS0 hSw0 (HB.out.1.ext hk5) (ps:=ps.take b++((ao1,ss.length,cap1),ss)::ps.drop b) (v:= .slice ao3 n3 cap3)
        (hr3.cast' (by first|(rw [hlen];omega)|rw [hlen]) (by rw [jA,pF,uY];simp [cB])) (fun p hp=>by
         have hp':p∈ps\/p=((ao1,ss.length,cap1),ss):=by
          rcases List.mem_append.1 hp with h|h
          ·exact .inl (List.mem_of_mem_take h)
          ·rcases List.mem_cons.1 h with h|h
           ·exact .inr h
           ·exact .inl (List.mem_of_mem_drop h)
         rcases hp' with hp'|rfl
         ·obtain⟨h1,h2,h3⟩:=hall p hp';exact⟨⟨h1.1,h1.2.ext hk5⟩,h2,fun a e=> .inl (h3 a e)⟩
         ·refine⟨q4.1,hss,fun a e=> .inr ?_⟩;have:=q4.2 a e;have hz3:=hk3.size;exact⟨Nat.le_trans hz3 this.1,this.2⟩) (by rw [hlen];omega)
       rw [eL]at hfin;refine RetF.mk (Kp.setCell (F:=fun k=>k=c) (Ext.kp hk5) (fun _=>rfl) _) ⟨by rw [E.out.1];rfl,_,⟨fun k h=> .inl h,fun k h=>h.imp id fun h=>h.1⟩,hfin⟩
 ·have q1:((m:Int) !=(n:Int))=true:=by simp;omega
  have e0:aM n LL ss=(false,30):=by unfold aM;rw [if_pos (by omega)]
  have E:=qH e0;clear e0 hm hss hl1 f1 f2;go_enter Tryz.func96,Tryz.ntmps96;go_wp2;go_ret2;exact RetF.mk (Kp.refl _) (RefAdded.same HH.out (Kp.refl _) (by rw [E.out];rfl) (by unfold aS;rw [E.out];rfl))
end
structure REnt where
 name:ByteArray
 c:Nat
 ar:Nat
 LL:List (List ByteArray)
def REnt.ptr(g:REnt):Value:= .pointer (some ⟨g.c,0,none⟩)
def REnt.cnt(g:REnt):bA:=(g.name,g.ar,g.LL)
def bB(G:List REnt):List bA:=G.map REnt.cnt
def dN(G:List REnt)(s:ByteArray):Option REnt:=G.find? fun g=>decide (g.name=s)
def aGu:Option REnt->Value
 |some g=>g.ptr
 |none=> .pointer none
theorem zN{s:ByteArray}:∀{G:List REnt} {i:Nat} {g:REnt},G[i]?=some g->g.name=s->(∀(j:Nat) (g':REnt),j<i->G[j]?=some g'->g'.name≠s)->dN G s=some g
 | [],i,g,h,_,_=>by simp at h
 |a::G,0,g,h,hn,_=>by simp at h;subst h;unfold dN;rw [List.find?_cons,decide_eq_true hn]
 |a::G,i+1,g,h,hn,hb=>by have ha:=hb 0 a (by omega) rfl;unfold dN;rw [List.find?_cons,decide_eq_false ha];exact zN (i:=i) (by simpa using h) hn fun j g' hj hg=>hb (j+1) g' (by omega) (by simpa using hg)
theorem aIz{s:ByteArray}{G:List REnt}(h:∀(j:Nat) (g:REnt),j<G.length->G[j]?=some g->g.name≠s):dN G s=none:=by unfold dN;rw [List.find?_eq_none];intro g hg;obtain⟨i,hi,e⟩:=List.getElem_of_mem hg;simpa using h i g hi (by rw [qG hi,e])
def aLj(n:Nat)(ao:Option Addr)(cap:Nat):Prop:=n≤cap/\cap≤maxLen/\(ao=none/\cap=0\/∃g,ao=some ⟨g,0,none⟩)
theorem Row.form{w:World}{e:TypeId}{v:Value}{n:Nat}{xs:List Value}{M:Nat->Prop}(h:Row w e 1 v n xs M):∃ao cap,v= .slice ao n cap/\CellsAt w ao xs/\aLj n ao cap/\∀a,ao=some a->M a.block/\a.block<w.heap.size:=by
 obtain⟨h1,⟨rfl,rfl⟩|⟨g,cap,rest,rfl,b,c,d,e,f⟩⟩:=h
 ·have:xs= []:=List.eq_nil_of_length_eq_zero (by simpa using h1);subst this;exact⟨none,0,rfl,CellsAt.nil _ _,⟨Nat.le_refl _,by decide,.inl ⟨rfl,rfl⟩⟩,fun a e=>by cases e⟩
 ·exact⟨_,cap,rfl,CellsAt.pre c,⟨e,f,.inr ⟨g,rfl⟩⟩,fun a e=>by cases e;exact⟨b,c.lt⟩⟩
structure RefB(S:Nat->Prop)(w:World)(cb:Nat)(G:List REnt):Prop where
 blk:∃na nc aa ac,Blk w cb [.slice na G.length nc,.slice aa G.length ac] 204/\CellsAt w na (strs (G.map REnt.name))/\CellsAt w aa (G.map REnt.ptr)/\(∀a,na=some a->S a.block)/\(∀a,aa=some a->S a.block)/\aLj G.length na nc/\aLj G.length aa ac
 rows:∀g∈G,RefRows S w g.c g.ar g.LL
 apart:G.Pairwise fun g h=>g.c≠h.c
 notS:¬S cb
 off:∀g∈G,g.c≠cb
 inS:∀k,S k->k<w.heap.size
 len:G.length≤4194304
section
variable {S:Nat->Prop}{w w':World}{cb:Nat}{G:List REnt}
def qY(cb:Nat)(G:List REnt)(k:Nat):Prop:=k=cb\/∃g∈G,k=g.c
theorem RefB.kp{F:Nat->Prop}(h:RefB S w cb G)(hk:Kp F w w')(hF:∀k,F k->¬qY cb G k)(hS:∀k,F k->¬S k):RefB S w' cb G:=by
 obtain⟨na,nc,aa,ac,h1,h2,h3,h4,h5,h6⟩:=h.blk;exact⟨⟨na,nc,aa,ac,h1.kp hk (fun f=>hF _ f (.inl rfl)),h2.kp hk (fun a e f=>hS _ f (h4 a e)),h3.kp hk (fun a e f=>hS _ f (h5 a e)),h4,h5,h6⟩,
  fun g hg=>(h.rows g hg).kp hk (fun f=>hF _ f (.inr ⟨g,hg,rfl⟩)) hS,h.apart,h.notS,h.off,fun k hk'=>Nat.lt_of_lt_of_le (h.inS k hk') hk.size,h.len⟩
theorem RefB.ext(h:RefB S w cb G)(hk:Ext w w'):RefB S w' cb G:=h.kp hk (fun _ x=>x.elim) (fun _ x=>x.elim)
set_option maxHeartbeats 1000000 in
theorem gQ(h:RefB S w cb G)(s:ByteArray):Calls Tryz.prog 115 #[.pointer (some ⟨cb,0,none⟩),.string s] w (RetN w fun w' v=>v=aGu (dN G s)):=by
 obtain⟨na,nc,aa,ac,hB,hN,hA,_,_⟩:=h.blk;obtain⟨n,en⟩:=nm G.length;have hl:=h.len;rw [en]at hB hl;have c0:=hB.c0;have c1:=hB.c1;have HCell:=qH (fun w' (hw:Ext w w')=>(⟨hw.cell c0 id,hw.cell c1 id⟩:w'.cell? ⟨cb,0,none⟩=some (.slice na n nc)/\w'.cell? ⟨cb,1,none⟩=some (.slice aa n ac)));have HG:=qH (nIX en (nIX hN hA));clear h hB hN hA en;go_enter Tryz.func115,Tryz.ntmps115;go_wp2;clear c0 c1;go_loopw [5] (fun kv wr=>∃i:Nat,i≤n/\kv= .int .i64 i/\Hid (Ext w wr)/\Hid (∀(j:Nat) (g:REnt),j<i->G[j]?=some g->g.name≠s)) (fun k _=>n- (intOf k).toNat)
 case atStart=>exact⟨0,Nat.zero_le _,rfl,qH (Kp.refl _),qH fun j g hj=>by omega⟩
 case round=>
  obtain⟨i,hi,rfl,hex,hin⟩:=hrel;obtain⟨c0,c1⟩:=HCell.out wr hex.out;by_cases hlt:i<n
  ·obtain⟨g,hg⟩:∃g,G[i]?=some g:=⟨_,qG (by rw [HG.out.1];exact hlt)⟩;obtain⟨nb,no,rfl,d0⟩:=HG.out.2.1 i (.string g.name) (by simp [strs,hg]);obtain⟨ab,ao,rfl,d1⟩:=HG.out.2.2 i g.ptr (by simp [hg]);replace d0:=hex.out.cell d0 id;replace d1:=hex.out.cell d1 id;obtain⟨x,ex⟩:=nm g.name;obtain⟨p,ep⟩:=nm g.c;have ept:g.ptr= .pointer (some ⟨p,0,none⟩):=by rw [<-ep];rfl
   rw [ex]at d0;rw [ept]at d1;have HGi:=qH (nIX hg (nIX ex ept));clear hg ex ep ept;by_cases hxs:x=s
   ·subst hxs;have HX:=qH hex.out;have q1:(x.toList==x.toList)=true:=by simp
    go_wp2;go_ret;refine RetN.mk HX.out ?_;rw [zN HGi.out.1 HGi.out.2.1 hin.out];exact HGi.out.2.2.symm
   ·have q1:(x.toList==s.toList)=false:=by
     cases h:(x.toList==s.toList)
     ·rfl
     ·exact absurd (cY (eq_of_beq h)) hxs
    have HXS:=qH hxs;clear hxs;go_wp2;go_roundw
    case rel=>exact⟨i+1,by omega,nMX,hex,qH fun j g' hj hg'=>by
     by_cases hji:j<i
     ·exact hin.out j g' hji hg'
     ·obtain rfl:j=i:=by omega
      rw [HGi.out.1]at hg'
      injection hg' with hg'
      rw [<-hg',HGi.out.2.1];exact HXS.out⟩
    case measure=>simp [intOf];omega
  ·obtain rfl:i=n:=by omega
   go_wp2;go_ret;refine RetN.mk hex.out ?_;rw [aIz (by rw [HG.out.1];exact hin.out)];rfl
def xR(G:List REnt)(i:Nat):Nat:=((G.take i).map fun g=>g.LL.length).sum
theorem aHk{G:List REnt}{i:Nat}{g:REnt}(h:G[i]?=some g):xR G (i+1)=xR G i+g.LL.length:=by unfold xR;rw [show G.take (i+1)=G.take i++ [g] by rw [List.take_add_one,h];rfl,List.map_append,List.sum_append];simp
theorem aLr(G:List REnt)(i:Nat):xR G i≤aV (bB G):=by
 have h:aV (bB G)=xR G i+((G.drop i).map fun g=>g.LL.length).sum:=by unfold xR aV bB;rw [<-List.sum_append,<-List.map_append,List.take_append_drop,List.map_map];rfl
 omega
theorem aJ1{G:List REnt}{n:Nat}(h:G.length=n):xR G n=aV (bB G):=by unfold xR aV bB;rw [List.take_of_length_le (by omega),List.map_map];rfl
set_option maxHeartbeats 1000000 in
theorem sK(h:RefB S w cb G)(hb:aV (bB G)≤1099511627776):Calls Tryz.prog 145 #[.pointer (some ⟨cb,0,none⟩)] w (RetN w fun w' v=>v= .int .i64 (aV (bB G):Nat)):=by
 obtain⟨na,nc,aa,ac,hB,hN,hA,_,_⟩:=h.blk;obtain⟨n,en⟩:=nm G.length;have hl:=h.len;rw [en]at hB hl;have c1:=hB.c1;have HG:=qH (nIX en (nIX h hA));have HB:=qH hb;clear h hB hN hA en hb;go_enter Tryz.func145,Tryz.ntmps145;go_wp2;go_loopw [3,4] (fun nv kv wr=>∃i:Nat,i≤n/\kv= .int .i64 i/\nv= .int .i64 (xR G i:Nat)/\Hid (Ext w wr)) (fun _ k _=>n- (intOf k).toNat)
 case atStart=>exact⟨0,Nat.zero_le _,rfl,rfl,qH (Kp.refl _)⟩
 case round=>
  obtain⟨i,hi,rfl,rfl,hex⟩:=hrel;have c2:=hex.out.cell c1 id;by_cases hlt:i<n
  ·obtain⟨g,hg⟩:∃g,G[i]?=some g:=⟨_,qG (by rw [HG.out.1];exact hlt)⟩;obtain⟨ab,ao,rfl,d1⟩:=HG.out.2.2 i g.ptr (by simp [hg]);replace d1:=hex.out.cell d1 id;obtain⟨lo,lc,hB2,_⟩:=HG.out.2.1.rows g (List.mem_of_getElem? hg);obtain⟨p,ep⟩:=nm g.c;obtain⟨l0,el⟩:=nm g.LL.length;have ept:g.ptr= .pointer (some ⟨p,0,none⟩):=by rw [<-ep];rfl
   rw [ept]at d1;rw [ep,el]at hB2;have d2:wr.cell? ⟨p,1,none⟩=some (.slice lo l0 lc):=hex.out.cell (by rw [hB2.cell'];rfl) id;have hst:=aHk hg;have hle:=aLr G (i+1);have HS:=qH (nIX hst el);obtain⟨s0,es0⟩:=nm (xR G i);have hs0:s0+l0≤1099511627776:=by have:=HB.out;rw [hst,el,es0]at hle;omega
   rw [es0];have HE:=qH es0;clear hst hle es0 el ept ep hB2 hg;go_wp2;go_roundw
   case rel=>exact⟨i+1,by omega,nMX,by rw [HS.out.1,HS.out.2,HE.out,Int.natCast_add],hex⟩
   case measure=>simp [intOf];omega
  ·obtain rfl:i=n:=by omega
   rw [aJ1 HG.out.1];go_wp2;go_ret;exact RetN.mk hex.out rfl
theorem pK(G:List REnt)(s:ByteArray):bU (bB G) s=(dN G s).map fun g=>(g.ar,g.LL):=by unfold bU bB dN;rw [List.find?_map,Option.map_map];rfl
theorem kG{G:List REnt}{s:ByteArray}{g:REnt}(h:dN G s=some g):g∈G/\g.name=s:=⟨List.mem_of_find?_eq_some h,by have:=List.find?_some h;simpa using this⟩
theorem pX(s:ByteArray)(w:World):Calls Tryz.prog 143 #[.string s] w (Ret (.bool (bM s)) w):=by
 unfold bM;by_cases h1:1≤s.size
 ·have q1:(0:Int)< (s.size:Int):=by omega
  by_cases h2:s.size≤4096
  ·have q2:(s.size:Int)≤4096:=by omega
   rw [decide_eq_true (show 1≤s.size/\s.size≤4096 from⟨h1,h2⟩)];go_enter Tryz.func143,Tryz.ntmps143;go_wp2;go_ret;exact Ret.mk rfl
  ·have q2:¬(s.size:Int)≤4096:=by omega
   rw [decide_eq_false (show ¬(1≤s.size/\s.size≤4096)from fun h=>h2 h.2)];go_enter Tryz.func143,Tryz.ntmps143;go_wp2;go_ret;exact Ret.mk rfl
 ·have q1:¬(0:Int)< (s.size:Int):=by omega
  rw [decide_eq_false (show ¬(1≤s.size/\s.size≤4096)from fun h=>h1 h.1)];go_enter Tryz.func143,Tryz.ntmps143;go_wp2;go_ret;exact Ret.mk rfl
end
end
section
open Go.RowKit Go.Shelf
def aHf(w w':World)(v:Value)(L:aD):Prop:=∃qo qc,v= .slice qo L.length qc/\RowsIn (New w) w' qo L/\L.length≤1048576*1048576
def kU(G:List REnt)(s:ByteArray):aD:=match dN G s with|some g=>g.LL|none=> []
section
variable {S:Nat->Prop}{w:World}{cb:Nat}{G:List REnt}
theorem aHz(h:RefB S w cb G)(s:ByteArray):Calls Tryz.prog 54 #[aGu (dN G s)] w (RetN w fun w' v=>OwnRows w.heap.size w' v (kU G s)/\(kU G s).length≤1048576*1048576):=by
 unfold kU;cases hf:dN G s with
 |none=>
  refine(aEt w).mono ?_;rintro e w' ⟨rfl,rfl⟩;exact RetN.mk (Kp.refl _) ⟨OwnRows.nil _ _,by simp⟩
 |some g=>
  have hg:=h.rows g (List.mem_of_find?_eq_some hf);have hl:=hg.len;refine(aEu hg).mono ?_;rintro e w' ⟨v,rfl,hk,h⟩;exact⟨v,rfl,hk,h,hl⟩
def aM7(w0 w1:World)(ts:List aE)(n:Nat)(LL:aD)(lv iv:Value)(W:World):Prop:=
 ∃i:Nat,i≤n/\iv= .int .i64 i/\Hid (Ext w1 W)/\∃qs:List eI,Hid (bL ts (LL.take i)=qs.map Prod.snd/\Row W 34 1 lv qs.length (cB qs) (New w1)/\∀q∈qs,ReadsAs w1 q.1 q.2/\q.2.length≤8796093021952/\∀a,q.1.1=some a->w0.heap.size≤a.block)
theorem aEr(ts:List aE)(LL:aD){i:Nat}{x:List ByteArray}(h:LL[i]?=some x):bL ts (LL.take (i+1))=if x.length=ts.length then bL ts (LL.take i)++ [x]else bL ts (LL.take i):=by
 unfold bL;rw [List.take_add_one,h];show List.filter _ (_++ [x])=_;rw [List.filter_append];by_cases hx:x.length=ts.length
 ·simp [hx]
 ·simp [hx]
theorem aB4(ts:List aE)(LL:aD)(i:Nat):(bL ts (LL.take i)).length≤i:=by unfold bL;refine Nat.le_trans (List.length_filter_le _ _) ?_;rw [List.length_take];omega
set_option maxHeartbeats 4000000 in
theorem aB8(p:ByteArray)(ao:Option Addr)(n cap:Nat)(w:World):Calls Tryz.prog 78 #[.agg #[.string p,.slice ao n cap],.pointer none] w (RetN w fun w' v=>aHf w w' v []):=by go_enter Tryz.func78,Tryz.ntmps78;go_wp2;go_ret;exact RetN.mk ((Kp.refl w).alloc _) ⟨none,0,rfl,RowsIn.nil _ _,by simp⟩
set_option maxHeartbeats 4000000 in
theorem aB9(h:RefB S w cb G)(p:ByteArray)(ts:List aE)(ao:Option Addr)(n cap:Nat)(hn:n=ts.length):
 Calls Tryz.prog 78 #[.agg #[.string p,.slice ao n cap],.pointer (some ⟨cb,0,none⟩)] w (RetN w fun w' v=>aHf w w' v (bL ts (kU G p))):=by
 have HN:=qH (nIX h hn);clear h hn;obtain⟨w1,e1⟩:=nm (w.alloc (.cells #[.string p,.slice ao n cap] 24));obtain⟨g0,eg0⟩:=nm w.heap.size;have hB:=bNX eg0 e1;have hx1:Ext w w1:=xAX e1;have c0:=hB.c0;have H1:=qH (nIX hx1 hB);clear hx1 hB;go_enter Tryz.func78,Tryz.ntmps78;go_wp2_with fail
 clear e1 eg0;refine(gQ (HN.out.1.ext H1.out.1) p).mono ?_;rintro e w2 ⟨v2,rfl,hk2,rfl⟩;have H2:=qH (nIX (H1.out.1.trans hk2) (H1.out.2.ext hk2));clear hk2 c0;go_wp2_with fail
 refine(aHz (HN.out.1.ext H2.out.1) p).mono ?_;rintro e w3 ⟨v3,rfl,hk3,hown,hlen⟩;obtain⟨ps,eps,hrow,hps,_⟩:=hown;obtain⟨LL,eLL⟩:=nm (kU G p);rw [eLL]at eps hlen;obtain⟨ra,rc,er,hcr,_⟩:=hrow.shape;subst er;obtain⟨N,eN⟩:=nm LL.length;have epl:ps.length=N:=by rw [<-eN,eps,List.length_map]
 rw [epl]at hrow ⊢;have hN:N≤1048576*1048576:=by rw [<-eN];exact hlen
 have H3:=qH (show Ext w w3/\Blk w3 g0 [.string p,.slice ao n cap] 24/\LL=ps.map Prod.snd/\CellsAt w3 ra (cB ps)/\(∀p∈ps,Row w3 9 1 (.slice p.1.1 p.1.2.1 p.1.2.2) p.2.length (strs p.2) (fun g=>w2.heap.size≤g)/\p.2.length≤8796093021952)/\w.heap.size≤w2.heap.size from
  ⟨H2.out.1.trans hk3,H2.out.2.ext hk3,eps,hcr,hps,H2.out.1.size⟩)
 clear hk3 eps hrow hcr hps hlen epl;go_wp2;go_loopw [6,7] (fun lv iv wr=>aM7 w w3 ts N LL lv iv wr) (fun _ iv _=>N- (intOf iv).toNat)
 case atStart=>exact⟨0,Nat.zero_le _,rfl,qH (Kp.refl _),[],qH ⟨by simp [bL],Row.nil _ _ _ _,by simp⟩⟩
 case round=>
  obtain⟨i,hi,rfl,hex,qs,hq⟩:=hrel;have d1:=(H3.out.2.1.ext hex.out).c1;obtain⟨qo,qc,eq,_,_⟩:=hq.out.2.1.shape;subst eq;have hql:qs.length≤i:=by have h1:=congrArg List.length hq.out.1;rw [List.length_map]at h1;have:=aB4 ts LL i;omega
  by_cases hlt:i<N
  ·obtain⟨x,hx⟩:∃x,LL[i]?=some x:=⟨_,qG (by omega)⟩;obtain⟨pz,hpz,epz⟩:∃p,ps[i]?=some p/\p.2=x:=by
    rw [H3.out.2.2.1,List.getElem?_map]at hx;cases hp:ps[i]? with
    |none=>rw [hp]at hx;cases hx
    |some p=>rw [hp]at hx;cases hx;exact⟨p,rfl,rfl⟩
   subst epz;obtain⟨⟨xa,xn,xc⟩,xs⟩:=pz;have hRx:=(H3.out.2.2.2.2.1 _ (List.mem_of_getElem? hpz));obtain⟨⟨exn,hcx⟩,hlx⟩:=hRx.1.readsAs;have exn:xn=xs.length:=exn;subst exn;obtain⟨ag,ab,era,x0⟩:=H3.out.2.2.2.1 i _ (rL ps i _ hpz);subst era;replace x0:=hex.out.cell x0 id;simp only at x0;have hsn:=aEr ts LL hx;simp only at hsn;have HX:=qH (nIX hRx (nIX hcx (nIX hlx hsn)));clear hRx hcx hlx hsn hx hpz;by_cases hlen:xs.length=n
   ·have hq1:((xs.length:Int)==(n:Int))=true:=by simp [hlen]
    have hq2:decide ((xs.length:Int)=(n:Int))=true:=by simp [hlen]
    have HL:=qH hlen;clear hlen;go_wp2;go_quiet (fail)
    go_wp2_with (first|(at_builtin;refine Halted.out ?_))
    refine Halted.mk (iH (n:=qs.length) (m:=1) cQ rfl _ _ rfl rfl ((hq.out.2.1.drewN _).alloc _) rfl (CellsAt.one _ (.slice xa xs.length xc) 34) (by rfl) (by simp;rfl) (by omega) (by unfold maxLen;omega) ?_);intro v4 w4 hr4 hk4;obtain⟨a4,c4,ev4,_,_⟩:=hr4.shape;subst ev4;have x4:Ext w3 w4:=((hex.out.drewN _).alloc _).trans' hk4 fun i hi e=>by have:=hq.out.2.1.block i e;omega
    have H4:=qH (nIX x4 hr4);clear x4 hr4 hk4 d1 x0;go_wp2;go_roundw
    case rel=>
     refine⟨i+1,by omega,nMX,qH H4.out.1,qs++ [((xa,xs.length,xc),xs)],qH ⟨?_,?_,?_⟩⟩
     ·rw [HX.out.2.2.2,if_pos (by rw [<-HN.out.2];exact HL.out),hq.out.1,List.map_append];rfl
     ·rw [jA,List.length_append];refine H4.out.2.mono fun g h=>?_;rcases h with h|h
      ·exact hq.out.2.1.block g h
      ·exact Nat.le_trans ((hex.out.drewN _).alloc _).size h
     ·intro q hm;rcases List.mem_append.1 hm with hm|hm
      ·exact hq.out.2.2 q hm
      ·cases List.mem_singleton.1 hm;exact⟨⟨rfl,HX.out.2.1⟩,HX.out.1.2,fun a ea=>by have h:=(HX.out.2.2.1 a ea).1;have:=H3.out.2.2.2.2.2;omega⟩
    case measure=>simp [intOf];omega
   ·have hq1:((xs.length:Int)==(n:Int))=false:=by simp;omega
    have hq2:decide ((xs.length:Int)=(n:Int))=false:=by simp;omega
    have HL:=qH hlen;clear hlen;go_wp2;go_quiet (fail)
    go_wp2;go_roundw
    case rel=>exact⟨i+1,by omega,nMX,qH (hex.out.drewN _),qs,qH ⟨by rw [HX.out.2.2.2,if_neg (by rw [<-HN.out.2];exact HL.out)];exact hq.out.1,hq.out.2.1.drewN _,hq.out.2.2⟩⟩
    case measure=>simp [intOf];omega
  ·obtain rfl:i=N:=by omega
   go_wp2;go_ret;rw [eLL];refine RetN.mk (H3.out.1.trans hex.out) ⟨qo,qc,?_,⟨qs,?_,?_,?_,?_⟩,?_⟩
   ·rw [show(bL ts LL).length=qs.length by
     have h:=congrArg List.length hq.out.1;rw [List.length_map,List.take_of_length_le (by omega)]at h;exact h]
    rfl
   ·have h:=hq.out.1;rw [List.take_of_length_le (by omega)]at h;exact h
   ·obtain⟨_,_,e,hc,_⟩:=hq.out.2.1.shape;cases e;exact hc
   ·intro a ea;subst ea;have h:=hq.out.2.1.block a.block (by rfl);exact Nat.le_trans H3.out.1.size h
   ·intro q hm;obtain⟨h1,h2,h3⟩:=hq.out.2.2 q hm;exact⟨⟨h1.1,h1.2.ext hex.out⟩,h2,h3⟩
   ·have h:=aB4 ts LL LL.length;rw [List.take_of_length_le (Nat.le_refl _)]at h;omega
end
end
section
open Go.RowKit Go.Shelf
attribute [local go_sem] Oper.semAt_some
def BaseP(S:Nat->Prop)(w:World)(bv:Value)(G:List REnt):Prop:=(bv= .pointer none/\G= [])\/∃cb,bv= .pointer (some ⟨cb,0,none⟩)/\RefB S w cb G
section
variable {S:Nat->Prop}{w w':World}{bv:Value}{G:List REnt}
theorem BaseP.ext(h:BaseP S w bv G)(hx:Ext w w'):BaseP S w' bv G:=h.imp id fun⟨cb,e,h⟩=>⟨cb,e,h.ext hx⟩
theorem mW(h:BaseP S w bv G)(p:ByteArray)(ts:List aE)(ao:Option Addr)(n cap:Nat)(hn:n=ts.length):
 Calls Tryz.prog 78 #[.agg #[.string p,.slice ao n cap],bv] w (RetN w fun w' v=>aHf w w' v (bL ts (kU G p))):=by
 rcases h with⟨rfl,rfl⟩|⟨cb,rfl,h⟩
 ·exact aB8 p ao n cap w
 ·exact aB9 h p ts ao n cap hn
theorem FitsV.shape{e:bR}{ts:List aE}{x:List ByteArray}{na va:Option Addr}{m nc vc:Nat}{v:Value}(h:FitsV w w' e ts x (.agg #[.slice na m nc,.slice va m vc]) v):
 ∃xa xn xc ya yn yc,v= .tuple #[.agg #[.slice xa xn xc,.slice ya yn yc],.bool (bP e ts x ts.length).isSome]/\∀f,bP e ts x ts.length=some f->EnvAt w w' f (.slice xa xn xc) (.slice ya yn yc):=by
 unfold FitsV at h;cases hf:bP e ts x ts.length with
 |none=>rw [hf]at h;exact⟨_,_,_,_,_,_,h,fun f e=>by cases e⟩
 |some f=>
  rw [hf]at h;obtain⟨vn,vv,ev,hE⟩:=h;obtain⟨a,c,e1,_,_⟩:=hE.names.shape;obtain⟨b,d,e2,_,_⟩:=hE.vals.shape;subst e1 e2;exact⟨_,_,_,_,_,_,ev,fun g e=>by cases e;exact hE⟩
def aNc(e:bR)(ts:List aE)(L:aD)(n:Nat)(w0:World)(iv:Value)(W:World):Prop:=∃i:Nat,i≤n/\iv= .int .i64 i/\Hid (∀x∈L.take i,bP e ts x ts.length=none)/\Hid (Ext w0 W)
end
set_option maxHeartbeats 4000000 in
theorem aAn{S:Nat->Prop}{w:World}{bv:Value}{G:List REnt}{Gm:Nat->Prop}(e:bR)(l:aJ)(a:Option Addr)(cap:Nat)(hl:LitIn w Gm l a cap)(hB:BaseP S w bv G)(na va:Option Addr)(m nc vc n:Nat)(he:EnvOk e)(hm:m=e.1.length)(hn:n=(aA l).length)(h1:CellsAt w na (strs e.1))(h2:CellsAt w va (strs e.2))(hb:m+n≤1048576):
 Calls Tryz.prog 146 #[litV l.1 (bC l) a n cap (gS l) (leftOf l).1 (leftOf l).2.1 (aN l).1 (aN l).2.1,bv,.agg #[.slice na m nc,.slice va m vc]] w (RetN w fun w' v=>v= .bool (eS e (bL (aA l) (kU G (bC l))) l)):=by
 have HN:=qH (nIX hn (nIX hm (nIX he hB)));have HF:=qH (fun(W:World) (hW:Ext w W) (x:List ByteArray) (xa:Option Addr) (rc:Nat) (hx:CellsAt W xa (strs x)) (hxl:n=x.length)=>aDe e (bC l) (aA l) x na va a xa m nc vc n cap x.length rc W Gm he hm (h1.ext hW) (h2.ext hW) hn (hl.terms.kp hW fun _ _=>id) rfl hx (Nat.le_of_eq hxl) hb (by omega));have HV:=qH (fun(W:World) (hW:Ext w W) (k:Int) (s:ByteArray)=>aFs e k s na va m nc vc W he hm (h1.ext hW) (h2.ext hW) (by omega));obtain⟨k,ek⟩:=nm l.1;obtain⟨p,ep⟩:=nm (bC l);obtain⟨op,eop⟩:=nm (gS l);obtain⟨lk,elk⟩:=nm ((leftOf l).1);obtain⟨lt,elt⟩:=nm ((leftOf l).2.1);obtain⟨rk,erk⟩:=nm ((aN l).1);obtain⟨rt,ert⟩:=nm ((aN l).2.1);rw [ek,ep,eop,elk,elt,erk,ert];have HK:=qH (nIX ek (nIX eop (nIX (show leftOf l=(lk,lt,())from by rw [<-elk,<-elt]) (show aN l=(rk,rt,())from by rw [<-erk,<-ert]))));rw [ep]at HF;clear hl hB he hm hn h1 h2 ek ep eop elk elt erk ert;obtain⟨w1,e1⟩:=nm ((w.alloc (.cells #[.int .i64 k,.string p,.slice a n cap,.int .i64 op,.int .i64 lk,.string lt,.int .i64 rk,.string rt] 40)).alloc (.cells #[.slice na m nc,.slice va m vc] 111));obtain⟨g0,eg0⟩:=nm w.heap.size;have hB1:Blk w1 g0 [.int .i64 k,.string p,.slice a n cap,.int .i64 op,.int .i64 lk,.string lt,.int .i64 rk,.string rt] 40:=by rw [<-e1,<-eg0];exact(Blk.new w _ _).alloc _
 have hB2:Blk w1 (g0+1) [.slice na m nc,.slice va m vc] 111:=by have h:=Blk.new (w.alloc (.cells #[.int .i64 k,.string p,.slice a n cap,.int .i64 op,.int .i64 lk,.string lt,.int .i64 rk,.string rt] 40)) [.slice na m nc,.slice va m vc] 111;rw [aI,eg0]at h;rw [<-e1];exact h
 have hx1:Ext w w1:=by rw [<-e1];exact((Kp.refl w).alloc _).alloc _
 have d0:=hB1.c0;have d1:=hB1.c1;have d2:=hB1.c2;have H1:=qH (nIX hx1 (nIX hB1 hB2));clear hx1 hB1 hB2;go_enter Tryz.func146,Tryz.ntmps146;by_cases hk:k=2
 ·subst hk;go_wp2_with fail
  clear e1 eg0;refine(mW (HN.out.2.2.2.ext H1.out.1) p (aA l) a n cap HN.out.1).mono ?_;rintro e' w2 ⟨v2,rfl,hk2,qo,qc,rfl,hR,hRl⟩;obtain⟨L,eL⟩:=nm (bL (aA l) (kU G p));rw [eL]at hR hRl;have HL:=qH eL;have hLn:∀(x:List ByteArray),x∈L->n=x.length:=fun x hx=>by rw [<-eL]at hx;rw [((gB x).1 hx).2];exact HN.out.1
  obtain⟨N,eN⟩:=nm L.length;rw [eL,eN];rw [eN]at hRl;have H2:=qH (nIX (H1.out.1.trans hk2) (nIX (H1.out.2.1.ext hk2) (nIX (H1.out.2.2.ext hk2) (nIX hR (nIX hLn eN)))));clear hk2 d0 d1 d2 hR hLn eL eN;go_wp2;go_loopw [8] (fun iv wr=>aNc e (aA l) L N w2 iv wr) (fun iv _=>N- (intOf iv).toNat)
  case atStart=>exact⟨0,Nat.zero_le _,rfl,qH (by simp),qH (Kp.refl _)⟩
  case round=>
   obtain⟨i,hi,rfl,hno,hex⟩:=hrel;by_cases hlt:i<N
   ·obtain⟨x,hx⟩:∃x,L[i]?=some x:=⟨_,qG (by have:=H2.out.2.2.2.2.2;omega)⟩;obtain⟨rb,ro,xa,xc,era,x0,hcx,_,_⟩:=(H2.out.2.2.2.1.ext hex.out).get hx;subst era;have hxn:=H2.out.2.2.2.2.1 x (List.mem_of_getElem? hx);have HJ:=qH (show ∀X,Ext wr X->(fun X:World=>X.cell? ⟨g0,1,none⟩=some (.string p)/\X.cell? ⟨g0,2,none⟩=some (.slice a n cap)/\X.cell? ⟨g0+1,0,none⟩=some (.slice na m nc)/\X.cell? ⟨g0+1,1,none⟩=some (.slice va m vc)/\X.cell? ⟨rb,ro+i,none⟩=some (.slice xa x.length xc)) X from fun X hX=>⟨by rw [(H2.out.2.1.ext (hex.out.trans hX)).cell'];rfl,by rw [(H2.out.2.1.ext (hex.out.trans hX)).cell'];rfl,by rw [(H2.out.2.2.1.ext (hex.out.trans hX)).cell'];rfl,by rw [(H2.out.2.2.1.ext (hex.out.trans hX)).cell'];rfl,hX.cell x0 id⟩);have HX:=qH (nIX hx (nIX hcx hxn));have HNx:=qH (show bP e (aA l) x (aA l).length=none->∀z∈L.take (i+1),bP e (aA l) z (aA l).length=none from fun hf z hz=>by
     rw [List.take_add_one,hx,List.mem_append]at hz;rcases hz with hz|hz
     ·exact hno.out z hz
     ·simp at hz;subst hz;exact hf)
    have HYs:=qH (show(bP e (aA l) x (aA l).length).isSome=true->eS e (bL (aA l) (kU G p)) l=false from fun hf=>by unfold eS;rw [HK.out.1,if_pos rfl,HL.out,List.all_eq_false];exact⟨x,List.mem_of_getElem? hx,by rw [Option.isNone_eq_false_iff.2 hf];simp⟩);clear hx hcx hxn x0;go_wp2;refine aY (fun X:World=>X.cell? ⟨g0,1,none⟩=some (.string p)/\X.cell? ⟨g0,2,none⟩=some (.slice a n cap)/\X.cell? ⟨g0+1,0,none⟩=some (.slice na m nc)/\X.cell? ⟨g0+1,1,none⟩=some (.slice va m vc)/\X.cell? ⟨rb,ro+i,none⟩=some (.slice xa x.length xc)) [12] (by kernel_rfl) (HJ.out _ (Kp.refl wr).drew) (fun hHeld=>?_);refine eIX 0 ?_;refine eFX 1 ?_;refine eIX 2 ?_;refine eFX 3 ?_;refine eFX 4 ?_;refine eIX 5 ?_;refine eIX 6 ?_;refine wY (i:=7) (k:=11) ?_ ?_
    ·refine eCX 7 fun K hK=>?_;go_simp
     (refine(HF.out _ (H2.out.1.trans (hex.out.trans (by first|exact(Kp.refl wr).drew|exact(Kp.refl wr).drew.alloc _))) x xa xc (HX.out.2.1.ext (by first|exact(Kp.refl wr).drew|exact(Kp.refl wr).drew.alloc _)) HX.out.2.2).mono ?_;rintro e w5 ⟨v5,rfl,hk5,hv5⟩;obtain⟨fa,fn,fc,ya,yn,yc,rfl,-⟩:=hv5.shape;have X5:=qH (show Ext wr w5 from by first|exact(Kp.refl wr).drew.trans hk5|exact((Kp.refl wr).drew.alloc _).trans hk5);have K5:=qH hk5;clear hk5 hv5)
     go_wp2_with fail
     refine hK.out _ _ (HJ.out _ X5.out) fun hHeld=>?_;clear hK K;refine eFX 8 ?_;refine eFX 9 ?_;refine eFX 10 ?_;refine eTX 11 fun K hK=>?_
     (first|have HA9:=qH (Blk.new w5 [.slice none 0 0,.slice none 0 0] 111)|have HA9:=qH (show Blk (wr.drew.alloc (.cells #[.slice none 0 0,.slice none 0 0] 111)) wr.heap.size [.slice none 0 0,.slice none 0 0] 111 from Blk.new wr.drew [.slice none 0 0,.slice none 0 0] 111))
     go_simp;refine hK.out _ _ (by first|exact HJ.out _ (X5.out.alloc _)|exact HJ.out _ ((Kp.refl wr).drew.alloc _)) fun hHeld=>?_;clear hK K;refine eLX 12 fun K hK=>?_
     (first|(have hb9:=HA9.out.ext K5.out;have y0:=hb9.free 0;have y1:w5.cell? ⟨wr.heap.size,0,none⟩=some (.slice none 0 0):=(by rw [hb9.cell'];rfl);have hb8:=hb9.set 0 (.slice fa fn fc);have y2:=hb8.free 1;have y3:(w5.setCell ⟨wr.heap.size,0,none⟩ (.slice fa fn fc)).cell? ⟨wr.heap.size,1,none⟩=some (.slice none 0 0):=(by rw [hb8.cell'];rfl))|skip)
     go_simp;refine hK.out _ _ ?_;clear hK K;refine eFX 13 ?_;refine aL (by kernel_rfl) ?_ _;obtain⟨b,eb⟩:=nm ((bP e (aA l) x (aA l).length).isSome);rw [eb];have HE:=qH eb;clear eb hHeld;cases b with
     |true=>
      go_wp2;go_ret;exact RetN.mk (H2.out.1.trans (hex.out.trans (by first|exact X5.out.alloc _|exact X5.out.trans' (kSb) (fun i hi e=>by have e':i=wr.heap.size:=e;omega)))) (congrArg Value.bool (HYs.out HE.out).symm)
     |false=>
      go_wp2;go_roundw
      case rel=>exact⟨i+1,by omega,nMX,qH (HNx.out (Option.isSome_eq_false_iff.1 HE.out|>Option.isNone_iff_eq_none.1)),qH (hex.out.trans (by first|exact X5.out.alloc _|exact X5.out.trans' (kSb) (fun i hi e=>by have e':i=wr.heap.size:=e;omega)))⟩
      case measure=>simp [intOf];omega
    ·refine eCX 11 fun K hK=>?_
     (first|have HA9:=qH (Blk.new w5 [.slice none 0 0,.slice none 0 0] 111)|have HA9:=qH (show Blk (wr.drew.alloc (.cells #[.slice none 0 0,.slice none 0 0] 111)) wr.heap.size [.slice none 0 0,.slice none 0 0] 111 from Blk.new wr.drew [.slice none 0 0,.slice none 0 0] 111))
     go_simp;refine hK.out _ _ (by first|exact HJ.out _ (X5.out.alloc _)|exact HJ.out _ ((Kp.refl wr).drew.alloc _)) fun hHeld=>?_;clear hK K;refine eTX 7 fun K hK=>?_;go_simp
     (refine(HF.out _ (H2.out.1.trans (hex.out.trans (by first|exact(Kp.refl wr).drew|exact(Kp.refl wr).drew.alloc _))) x xa xc (HX.out.2.1.ext (by first|exact(Kp.refl wr).drew|exact(Kp.refl wr).drew.alloc _)) HX.out.2.2).mono ?_;rintro e w5 ⟨v5,rfl,hk5,hv5⟩;obtain⟨fa,fn,fc,ya,yn,yc,rfl,-⟩:=hv5.shape;have X5:=qH (show Ext wr w5 from by first|exact(Kp.refl wr).drew.trans hk5|exact((Kp.refl wr).drew.alloc _).trans hk5);have K5:=qH hk5;clear hk5 hv5)
     go_wp2_with fail
     refine hK.out _ _ (HJ.out _ X5.out) fun hHeld=>?_;clear hK K;refine eFX 8 ?_;refine eFX 9 ?_;refine eFX 10 ?_;refine eLX 12 fun K hK=>?_
     (first|(have hb9:=HA9.out.ext K5.out;have y0:=hb9.free 0;have y1:w5.cell? ⟨wr.heap.size,0,none⟩=some (.slice none 0 0):=(by rw [hb9.cell'];rfl);have hb8:=hb9.set 0 (.slice fa fn fc);have y2:=hb8.free 1;have y3:(w5.setCell ⟨wr.heap.size,0,none⟩ (.slice fa fn fc)).cell? ⟨wr.heap.size,1,none⟩=some (.slice none 0 0):=(by rw [hb8.cell'];rfl))|skip)
     go_simp;refine hK.out _ _ ?_;clear hK K;refine eFX 13 ?_;refine aL (by kernel_rfl) ?_ _;obtain⟨b,eb⟩:=nm ((bP e (aA l) x (aA l).length).isSome);rw [eb];have HE:=qH eb;clear eb hHeld;cases b with
     |true=>
      go_wp2;go_ret;exact RetN.mk (H2.out.1.trans (hex.out.trans (by first|exact X5.out.alloc _|exact X5.out.trans' (kSb) (fun i hi e=>by have e':i=wr.heap.size:=e;omega)))) (congrArg Value.bool (HYs.out HE.out).symm)
     |false=>
      go_wp2;go_roundw
      case rel=>exact⟨i+1,by omega,nMX,qH (HNx.out (Option.isSome_eq_false_iff.1 HE.out|>Option.isNone_iff_eq_none.1)),qH (hex.out.trans (by first|exact X5.out.alloc _|exact X5.out.trans' (kSb) (fun i hi e=>by have e':i=wr.heap.size:=e;omega)))⟩
      case measure=>simp [intOf];omega
   ·go_wp2;go_ret;exact RetN.mk (H2.out.1.trans hex.out) (by unfold eS;rw [HK.out.1,if_pos rfl,HL.out];exact congrArg Value.bool (List.all_eq_true.2 fun x hx=>by rw [hno.out x (by rw [List.take_of_length_le (by have:=H2.out.2.2.2.2.2;omega)];exact hx)];rfl).symm)
 ·have hkb:(k==2)=false:=by simp [hk]
  have HKn:=qH hk;clear hk;have a0:=H1.out.2.2.c0;have a1:=H1.out.2.2.c1;have d4:=H1.out.2.1.c4;have d5:=H1.out.2.1.c5;go_wp2_with fail
  refine(HV.out w1 H1.out.1 lk lt).mono ?_;rintro e' w2 ⟨v2,rfl,hk2,rfl⟩;have d6:=(H1.out.2.1.ext hk2).c6;have d7:=(H1.out.2.1.ext hk2).c7;have b0:=hk2.cell a0 id;have b1:=hk2.cell a1 id;have H2:=qH (nIX (H1.out.1.trans hk2) (H1.out.2.1.ext hk2));clear hk2 a0 a1 d0 d1 d2 d4 d5 e1 eg0;go_wp2_with fail
  refine(HV.out w2 H2.out.1 rk rt).mono ?_;rintro e' w3 ⟨v3,rfl,hk3,rfl⟩;have d3:=(H2.out.2.ext hk3).c3;have H3:=qH (H2.out.1.trans hk3);clear hk3 d6 d7 b0 b1;obtain⟨x,ex⟩:=nm (rC e (lk,lt,()));obtain⟨y,ey⟩:=nm (rC e (rk,rt,()));rw [ex,ey];have HZ:=qH (show eS e (bL (aA l) (kU G p)) l=opB op x y from by unfold eS;rw [HK.out.1,if_neg HKn.out,HK.out.2.1,HK.out.2.2.1,HK.out.2.2.2,ex,ey]);clear ex ey;by_cases h1:op=1
  ·subst h1;go_wp2;go_ret;exact RetN.mk H3.out (by rw [HZ.out];unfold opB;simp [lO])
  ·have o1:(op==1)=false:=by simp [h1]
   by_cases h2:op=2
   ·subst h2;go_wp2;go_ret;exact RetN.mk H3.out (by rw [HZ.out];unfold opB;simp [lO])
   ·have o2:(op==2)=false:=by simp [h2]
    by_cases h3:op=3
    ·subst h3;go_wp2;go_ret;exact RetN.mk H3.out (by rw [HZ.out];unfold opB;simp [lO])
    ·have o3:(op==3)=false:=by simp [h3]
     go_wp2;go_ret;exact RetN.mk H3.out (by rw [HZ.out,show opB op x y=!Op.bytesLess y.toList x.toList from by unfold opB;rw [if_neg h1,if_neg h2,if_neg h3],<-aGy];rfl)
abbrev aGh:=(Option Addr×Nat×Option Addr×Nat)×List ByteArray
def rW(m:Nat)(p:aGh):List Value:= [.slice p.1.1 m p.1.2.1,.slice p.1.2.2.1 m p.1.2.2.2]
theorem qR(m:Nat)(p:aGh):(rW m p).length=2:=rfl
theorem aKz(m:Nat)(ps:List aGh):∀u∈ps.flatMap (rW m),u.oneCell'=true:=fun u hu=>by obtain⟨p,_,h⟩:=List.mem_flatMap.1 hu;unfold rW at h;simp at h;rcases h with rfl|rfl<;>rfl
theorem aDp:cL Tryz.prog 207 111 2 48 (.agg #[.slice none 0 0,.slice none 0 0]):=⟨by kernel_rfl,by kernel_rfl,rfl,by decide⟩
structure UnAt(w W:World)(F:List ByteArray)(ps:List aGh)(v:Value):Prop where
 row:Row W 111 2 v ps.length (ps.flatMap (rW F.length)) (New w)
 env:∀p∈ps,EnvAt w W (F,p.2) (.slice p.1.1 F.length p.1.2.1) (.slice p.1.2.2.1 F.length p.1.2.2.2)
def aLk(lo:Nat)(W:World)(F:List ByteArray)(v:Value)(L:aD):Prop:=
 ∃qo qc,∃ps:List aGh,v= .slice qo ps.length qc/\ps.map Prod.snd=L/\CellsAt W qo (ps.flatMap (rW F.length))/\(∀a,qo=some a->lo≤a.block)/\∀p∈ps,CellsAt W p.1.1 (strs F)/\CellsAt W p.1.2.2.1 (strs p.2)/\p.2.length=F.length/\(∀a,p.1.1=some a->lo≤a.block/\a.block<W.heap.size)/\∀a,p.1.2.2.1=some a->lo≤a.block/\a.block<W.heap.size
theorem UnAt.ext{w W W':World}{F:List ByteArray}{ps:List aGh}{v:Value}(h:UnAt w W F ps v)(hx:Ext W W'):UnAt w W' F ps v:=⟨h.row.ext hx,fun p hp=>(h.env p hp).ext hx⟩
theorem EnvAt.old{w w0 W:World}{f:bR}{vn vv:Value}(h:EnvAt w W f vn vv)(hs:w0.heap.size≤w.heap.size):EnvAt w0 W f vn vv:=
 ⟨h.names.mono fun g hg=>Nat.le_trans hs hg,h.vals.mono fun g hg=>Nat.le_trans hs hg,h.apart⟩
def UnTo(w1:World)(F:List ByteArray)(e:bR)(ts:List aE)(L:aD)(N:Nat)(lv iv:Value)(W:World):Prop:=
 ∃i:Nat,i≤N/\iv= .int .i64 i/\Hid (Ext w1 W)/\∃ps:List aGh,Hid (ps.map Prod.snd=bD e ts (L.take i)/\UnAt w1 W F ps lv)
theorem xQ(e:bR)(ts:List aE)(R:aD):Strict aB (bD e ts R):=Strict.new (dV id) _
theorem yH(e:bR)(ts:List aE)(R:aD)(i:Nat):(bD e ts (R.take i)).length≤i:=by refine Nat.le_trans (aKg _) (Nat.le_trans (List.length_filterMap_le _ _) ?_);rw [List.length_take];omega
theorem EnvAt.kpR{w W W':World}{f:bR}{vn vv v:Value}{k n:Nat}{xs:List Value}{M:Nat->Prop}(h:EnvAt w W f vn vv)(hr:Row W 111 k v n xs M)(hk:Kp (fun g=>v.ownBlock=some g) W W'):EnvAt w W' f vn vv:=by
 refine⟨h.names.kp' hk fun g hg _ e=>?_,h.vals.kp' hk fun g hg _ e=>?_,h.apart⟩
 ·obtain⟨_,h1⟩:=h.names.blkOf hg;obtain⟨_,h2⟩:=hr.blkOf e;exact mI (bX h1 h2)
 ·obtain⟨_,h1⟩:=h.vals.blkOf hg;obtain⟨_,h2⟩:=hr.blkOf e;exact mI (bX h1 h2)
theorem zD{α:Type}{c:α->α->Int}(O:OrdLaw c){L:List α}(hs:Strict c L){x:α}{k:Nat}(hk:k≤L.length)(h1:∀u,0<k->L[k-1]?=some u->c u x<0)(h2:∀u,L[k]?=some u->0<c u x):bN c L x=L.take k++x::L.drop k:=by have hp:=hs.place O hk h1 fun u hu=>Int.le_of_lt (h2 u hu);unfold bN;rw [<-hp,if_neg];intro hi;obtain⟨y,hy,hz⟩:=fO.1 hi;obtain⟨j,hj⟩:=List.mem_iff_getElem?.1 hy;have e:=qQ O hs hj hz;rw [<-hp]at e;subst e;have:=h2 y hj;omega
theorem aM1{Q:aD}{q u:List ByteArray}(hu:u∈Q)(h:aB u q=0):bN aB Q q=Q:=by unfold bN;rw [if_pos (fO.2 ⟨u,hu,h⟩)]
set_option maxHeartbeats 16000000 in
theorem xX(e:bR)(p:ByteArray)(ts:List aE)(L:aD)(na va ao ra:Option Addr)(m nc vc n cap N rc:Nat)(w:World)(Gm Sr:Nat->Prop)(he:EnvOk e)(hm:m=e.1.length)(h1:CellsAt w na (strs e.1))(h2:CellsAt w va (strs e.2))(hn:n=ts.length)(h:aR w Gm ao ts)(hN:N=L.length)(hR:RowsIn Sr w ra L)(hLn:∀x∈L,x.length=n)(hl:m+n≤1048576)(hLl:N≤1048576*1048576):
 Calls Tryz.prog 147 #[.agg #[.string p,.slice ao n cap],.slice ra N rc,.agg #[.slice na m nc,.slice va m vc]] w (RetN w fun w' v=>aLk w.heap.size w' (bZ e.1 ts) v (bD e ts L)):=by
 have HN:=qH (nIX hn (nIX hm (nIX hN (nIX he (nIX hLn hR)))));have HF:=qH (fun(W:World) (hW:Ext w W) (x:List ByteArray) (xa:Option Addr) (rc:Nat) (hx:CellsAt W xa (strs x)) (hxl:n=x.length)=>aDe e p ts x na va ao xa m nc vc n cap x.length rc W Gm he hm (h1.ext hW) (h2.ext hW) hn (h.kp hW fun _ _=>id) rfl hx (Nat.le_of_eq hxl) hl (by omega));obtain⟨F,eF⟩:=nm (bZ e.1 ts);have hFl:F.length≤1048576:=by have h:=nG ts e.1;rw [eF]at h;omega
 have HFe:=qH eF;rw [eF];clear hn hm hN he hLn hR h h1 h2 eF;obtain⟨w1,e1⟩:=nm ((w.alloc (.cells #[.string p,.slice ao n cap] 24)).alloc (.cells #[.slice na m nc,.slice va m vc] 111));obtain⟨g0,eg0⟩:=nm w.heap.size;have hB1:Blk w1 g0 [.string p,.slice ao n cap] 24:=by rw [<-e1,<-eg0];exact(Blk.new w _ _).alloc _
 have hB2:Blk w1 (g0+1) [.slice na m nc,.slice va m vc] 111:=by have h:=Blk.new (w.alloc (.cells #[.string p,.slice ao n cap] 24)) [.slice na m nc,.slice va m vc] 111;rw [aI,eg0]at h;rw [<-e1];exact h
 have hx1:Ext w w1:=by rw [<-e1];exact((Kp.refl w).alloc _).alloc _
 have H1:=qH (nIX hx1 (nIX hB1 hB2));clear hx1 hB1 hB2;go_enter Tryz.func147,Tryz.ntmps147;go_wp2;clear e1 eg0;go_loopw [7,8] (fun lv iv wr=>UnTo w1 F e ts L N lv iv wr) (fun _ iv _=>N- (intOf iv).toNat)
 case atStart=>exact⟨0,Nat.zero_le _,rfl,qH (Kp.refl _),[],qH ⟨rfl,Row.nil _ _ _ _,by simp⟩⟩
 case round=>
  obtain⟨i,hi,rfl,hex,ps,hU⟩:=hrel;obtain⟨qo,qc,eq,_,_⟩:=hU.out.2.row.shape;subst eq;have hpl:ps.length≤i:=by have h1:=congrArg List.length hU.out.1;rw [List.length_map]at h1;have:=yH e ts L i;omega
  by_cases hlt:i<N
  ·obtain⟨x,hx⟩:∃x,L[i]?=some x:=⟨_,qG (by have:=HN.out.2.2.1;omega)⟩;obtain⟨rb,ro,xa,xc,era,x0,hcx,_,_⟩:=(HN.out.2.2.2.2.2.ext (H1.out.1.trans hex.out)).get hx;subst era;have hxn:=HN.out.2.2.2.2.1 x (List.mem_of_getElem? hx);have HJ:=qH (show ∀X,Ext wr X->(fun X:World=>X.cell? ⟨g0,0,none⟩=some (.string p)/\X.cell? ⟨g0,1,none⟩=some (.slice ao n cap)/\X.cell? ⟨g0+1,0,none⟩=some (.slice na m nc)/\X.cell? ⟨g0+1,1,none⟩=some (.slice va m vc)/\X.cell? ⟨rb,ro+i,none⟩=some (.slice xa x.length xc)) X from fun X hX=>⟨by rw [(H1.out.2.1.ext (hex.out.trans hX)).cell'];rfl,by rw [(H1.out.2.1.ext (hex.out.trans hX)).cell'];rfl,by rw [(H1.out.2.2.ext (hex.out.trans hX)).cell'];rfl,by rw [(H1.out.2.2.ext (hex.out.trans hX)).cell'];rfl,hX.cell x0 id⟩);have HX:=qH (nIX hx (nIX hcx hxn.symm));clear hx hcx hxn x0;go_wp2;refine aY (fun X:World=>X.cell? ⟨g0,0,none⟩=some (.string p)/\X.cell? ⟨g0,1,none⟩=some (.slice ao n cap)/\X.cell? ⟨g0+1,0,none⟩=some (.slice na m nc)/\X.cell? ⟨g0+1,1,none⟩=some (.slice va m vc)/\X.cell? ⟨rb,ro+i,none⟩=some (.slice xa x.length xc)) [11] (by kernel_rfl) (HJ.out _ (Kp.refl wr).drew) (fun hHeld=>?_);refine eIX 0 ?_;refine eIX 1 ?_;refine eFX 2 ?_;refine eFX 3 ?_;refine eIX 4 ?_;refine eIX 5 ?_;refine wY (i:=6) (k:=10) ?dw1a ?dw1b
   case' dw1a=>
    refine eCX 6 fun K hK=>?_;go_simp
    (refine(HF.out _ (H1.out.1.trans (hex.out.trans (by first|exact(Kp.refl wr).drew|exact(Kp.refl wr).drew.alloc _))) x xa xc (HX.out.2.1.ext (by first|exact(Kp.refl wr).drew|exact(Kp.refl wr).drew.alloc _)) HX.out.2.2).mono ?_;rintro e w5 ⟨v5,rfl,hk5,hv5⟩;obtain⟨fa,fn,fc,ya,yn,yc,rfl,hfe⟩:=hv5.shape;have X5:=qH (show Ext wr w5 from by first|exact(Kp.refl wr).drew.trans hk5|exact((Kp.refl wr).drew.alloc _).trans hk5);have K5:=qH hk5;have HFE:=qH (show ∀f,bP e ts x ts.length=some f->EnvAt w1 w5 f (.slice fa fn fc) (.slice ya yn yc)from fun f hf=>(hfe f hf).old (Nat.le_trans hex.out.size (by first|exact Nat.le_refl _|exact((Kp.refl (F:=fun _=>False) wr).drew.alloc _).size)));clear hk5 hv5 hfe)
    go_wp2_with fail
    refine hK.out _ _ (HJ.out _ X5.out) fun hHeld=>?_;clear hK K;refine eFX 7 ?_;refine eFX 8 ?_;refine eFX 9 ?_;refine eTX 10 fun K hK=>?_
    (first|have HA9:=qH (Blk.new w5 [.slice none 0 0,.slice none 0 0] 111)|have HA9:=qH (show Blk (wr.drew.alloc (.cells #[.slice none 0 0,.slice none 0 0] 111)) wr.heap.size [.slice none 0 0,.slice none 0 0] 111 from Blk.new wr.drew [.slice none 0 0,.slice none 0 0] 111))
    go_simp;refine hK.out _ _ (by first|exact HJ.out _ (X5.out.alloc _)|exact HJ.out _ ((Kp.refl wr).drew.alloc _)) fun hHeld=>?_;clear hK K;refine eLX 11 fun K hK=>?_
    (first|(have hb9:=HA9.out.ext K5.out;have y0:=hb9.free 0;have y1:w5.cell? ⟨wr.heap.size,0,none⟩=some (.slice none 0 0):=(by rw [hb9.cell'];rfl);have hb8:=hb9.set 0 (.slice fa fn fc);have y2:=hb8.free 1;have y3:(w5.setCell ⟨wr.heap.size,0,none⟩ (.slice fa fn fc)).cell? ⟨wr.heap.size,1,none⟩=some (.slice none 0 0):=(by rw [hb8.cell'];rfl))|skip)
    go_simp;refine hK.out _ _ ?_;clear hK K;refine eFX 12 ?_;refine aL (by kernel_rfl) ?_ _;first
     |(obtain⟨gz,egz⟩:=nm w5.heap.size;obtain⟨wz,ewz⟩:=nm (w5.alloc (.cells #[.slice fa fn fc,.slice ya yn yc] 111));rw [ewz,egz];have HZ:=qH (show Ext wr wz/\Blk wz gz [.slice fa fn fc,.slice ya yn yc] 111/\(∀f,bP e ts x ts.length=some f->EnvAt w1 wz f (.slice fa fn fc) (.slice ya yn yc))/\wr.heap.size≤gz from by rw [<-ewz,<-egz];exact⟨X5.out.alloc _,Blk.new w5 _ _,fun f hf=>(HFE.out f hf).ext ((Kp.refl w5).alloc _),X5.out.size⟩);clear HA9 egz ewz)
     |(obtain⟨gz,egz⟩:=nm wr.heap.size;obtain⟨wz,ewz⟩:=nm ((w5.setCell ⟨wr.heap.size,0,none⟩ (.slice fa fn fc)).setCell ⟨wr.heap.size,1,none⟩ (.slice ya yn yc));rw [ewz,egz];have HZ:=qH (show Ext wr wz/\Blk wz gz [.slice fa fn fc,.slice ya yn yc] 111/\(∀f,bP e ts x ts.length=some f->EnvAt w1 wz f (.slice fa fn fc) (.slice ya yn yc))/\wr.heap.size≤gz from by rw [<-ewz,<-egz];exact⟨X5.out.trans' (kSb) (fun i hi e=>by have e':i=wr.heap.size:=e;omega),hb8.set 1 _,fun f hf=>(HFE.out f hf).kp (kSb) (fun _ h=>h) hb9,Nat.le_refl _⟩);clear HA9 hb9 y0 y1 hb8 y2 y3 egz ewz)
    clear K5 X5 HFE hHeld;obtain⟨b,eb⟩:=nm ((bP e ts x ts.length).isSome);rw [eb];have HE:=qH eb;clear eb
   case' dw1b=>
    refine eCX 10 fun K hK=>?_
    (first|have HA9:=qH (Blk.new w5 [.slice none 0 0,.slice none 0 0] 111)|have HA9:=qH (show Blk (wr.drew.alloc (.cells #[.slice none 0 0,.slice none 0 0] 111)) wr.heap.size [.slice none 0 0,.slice none 0 0] 111 from Blk.new wr.drew [.slice none 0 0,.slice none 0 0] 111))
    go_simp;refine hK.out _ _ (by first|exact HJ.out _ (X5.out.alloc _)|exact HJ.out _ ((Kp.refl wr).drew.alloc _)) fun hHeld=>?_;clear hK K;refine eTX 6 fun K hK=>?_;go_simp
    (refine(HF.out _ (H1.out.1.trans (hex.out.trans (by first|exact(Kp.refl wr).drew|exact(Kp.refl wr).drew.alloc _))) x xa xc (HX.out.2.1.ext (by first|exact(Kp.refl wr).drew|exact(Kp.refl wr).drew.alloc _)) HX.out.2.2).mono ?_;rintro e w5 ⟨v5,rfl,hk5,hv5⟩;obtain⟨fa,fn,fc,ya,yn,yc,rfl,hfe⟩:=hv5.shape;have X5:=qH (show Ext wr w5 from by first|exact(Kp.refl wr).drew.trans hk5|exact((Kp.refl wr).drew.alloc _).trans hk5);have K5:=qH hk5;have HFE:=qH (show ∀f,bP e ts x ts.length=some f->EnvAt w1 w5 f (.slice fa fn fc) (.slice ya yn yc)from fun f hf=>(hfe f hf).old (Nat.le_trans hex.out.size (by first|exact Nat.le_refl _|exact((Kp.refl (F:=fun _=>False) wr).drew.alloc _).size)));clear hk5 hv5 hfe)
    go_wp2_with fail
    refine hK.out _ _ (HJ.out _ X5.out) fun hHeld=>?_;clear hK K;refine eFX 7 ?_;refine eFX 8 ?_;refine eFX 9 ?_;refine eLX 11 fun K hK=>?_
    (first|(have hb9:=HA9.out.ext K5.out;have y0:=hb9.free 0;have y1:w5.cell? ⟨wr.heap.size,0,none⟩=some (.slice none 0 0):=(by rw [hb9.cell'];rfl);have hb8:=hb9.set 0 (.slice fa fn fc);have y2:=hb8.free 1;have y3:(w5.setCell ⟨wr.heap.size,0,none⟩ (.slice fa fn fc)).cell? ⟨wr.heap.size,1,none⟩=some (.slice none 0 0):=(by rw [hb8.cell'];rfl))|skip)
    go_simp;refine hK.out _ _ ?_;clear hK K;refine eFX 12 ?_;refine aL (by kernel_rfl) ?_ _;first
     |(obtain⟨gz,egz⟩:=nm w5.heap.size;obtain⟨wz,ewz⟩:=nm (w5.alloc (.cells #[.slice fa fn fc,.slice ya yn yc] 111));rw [ewz,egz];have HZ:=qH (show Ext wr wz/\Blk wz gz [.slice fa fn fc,.slice ya yn yc] 111/\(∀f,bP e ts x ts.length=some f->EnvAt w1 wz f (.slice fa fn fc) (.slice ya yn yc))/\wr.heap.size≤gz from by rw [<-ewz,<-egz];exact⟨X5.out.alloc _,Blk.new w5 _ _,fun f hf=>(HFE.out f hf).ext ((Kp.refl w5).alloc _),X5.out.size⟩);clear HA9 egz ewz)
     |(obtain⟨gz,egz⟩:=nm wr.heap.size;obtain⟨wz,ewz⟩:=nm ((w5.setCell ⟨wr.heap.size,0,none⟩ (.slice fa fn fc)).setCell ⟨wr.heap.size,1,none⟩ (.slice ya yn yc));rw [ewz,egz];have HZ:=qH (show Ext wr wz/\Blk wz gz [.slice fa fn fc,.slice ya yn yc] 111/\(∀f,bP e ts x ts.length=some f->EnvAt w1 wz f (.slice fa fn fc) (.slice ya yn yc))/\wr.heap.size≤gz from by rw [<-ewz,<-egz];exact⟨X5.out.trans' (kSb) (fun i hi e=>by have e':i=wr.heap.size:=e;omega),hb8.set 1 _,fun f hf=>(HFE.out f hf).kp (kSb) (fun _ h=>h) hb9,Nat.le_refl _⟩);clear HA9 hb9 y0 y1 hb8 y2 y3 egz ewz)
    clear K5 X5 HFE hHeld;obtain⟨b,eb⟩:=nm ((bP e ts x ts.length).isSome);rw [eb];have HE:=qH eb;clear eb
   all_goals
    cases b with
    |false=>
     have hno:=Option.isNone_iff_eq_none.1 (Option.isSome_eq_false_iff.1 HE.out);have HNo:=qH (show bD e ts (L.take (i+1))=bD e ts (L.take i)from by rw [List.take_add_one,HX.out.1];show bD e ts (_++ [x])=_;rw [sE,hno]);clear hno;go_wp2;go_roundw
     case rel=>exact⟨i+1,by omega,nMX,qH (hex.out.trans HZ.out.1),ps,qH ⟨by rw [HNo.out];exact hU.out.1,hU.out.2.ext HZ.out.1⟩⟩
     case measure=>simp [intOf];omega
    |true=>
     obtain⟨f,hf⟩:=Option.isSome_iff_exists.1 HE.out;have hEf:=HZ.out.2.2.1 f hf;have hOk:=iD HN.out.2.2.2.1 hf;have e1:f.1=F:=by rw [hOk.2.2.1,List.take_of_length_le (Nat.le_refl _)];exact HFe.out
     have hql:f.2.length=F.length:=by rw [hOk.1.len,e1]
     obtain⟨F',q⟩:=f;simp only at e1 hql;subst e1;obtain⟨_,_,ev,_,_⟩:=hEf.names.shape;cases ev;obtain⟨_,_,ev,hcq,_⟩:=hEf.vals.shape;cases ev;have HSn:=qH (show bD e ts (L.take (i+1))=bN aB (bD e ts (L.take i)) q from by rw [List.take_add_one,HX.out.1];show bD e ts (_++ [x])=_;rw [sE,hf]);obtain⟨Q,eQ⟩:=nm (bD e ts (L.take i));have HQ:=qH (show Strict aB Q/\ps.map Prod.snd=Q/\Q=bD e ts (L.take i)from⟨by rw [<-eQ];exact xQ _ _ _,by rw [<-eQ];exact hU.out.1,eQ.symm⟩);rw [eQ]at HSn;have HQf:=qH (nIX hEf (nIX hcq hql));have HUz:=qH (hU.out.2.ext HZ.out.1);have HGz:=qH (show ∀g,(Value.slice qo ps.length qc).ownBlock=some g->gz≠g from fun g hg e=>by have:=hU.out.2.row.ltB hg;have:=HZ.out.2.2.2;omega);clear hf hEf hOk hcq hql eQ;go_wp2;go_loopw [11] (fun kv W=>∃k:Nat,k≤ps.length/\kv= .int .i64 k/\Hid (∀u,Q[k]?=some u->0<aB u q)/\Hid (Ext wz W)) (fun kv _=>(intOf kv).toNat)
     case atStart=>exact⟨ps.length,Nat.le_refl _,rfl,qH (fun u hu=>by rw [<-HQ.out.2.1]at hu;simp at hu),qH (Kp.refl _)⟩
     case round=>
      obtain⟨k,hk,rfl,hgt,hxW⟩:=hrel;have z0:=(HZ.out.2.1.ext hxW.out).c0;have z1:=(HZ.out.2.1.ext hxW.out).c1;by_cases hk0:k=0
      case' pos=>
       have HP:=qH (show bN aB Q q=Q.take k++q::Q.drop k from zD (dV id) HQ.out.1 (by omega) (fun u h=>absurd h (by omega)) hgt.out);have t0:decide (0<k)=false:=by simp [hk0]
       have t1:¬(0<k):=by omega
       clear hk0;go_wp2;go_quiet (fail)
       replace z0:(wr.drewN nq).cell? ⟨gz,0,none⟩=some (.slice fa F'.length fc):=z0;replace z1:(wr.drewN nq).cell? ⟨gz,1,none⟩=some (.slice ya F'.length yc):=z1;have HX6:=qH (show Ext wz (wr.drewN nq)from hxW.out.drewN nq);generalize wr.drewN nq=w6 at z0 z1 HX6 ⊢;go_wp2;go_quiet (fail)
       replace z0:(w6.drewN nq).cell? ⟨gz,0,none⟩=some (.slice fa F'.length fc):=z0;replace z1:(w6.drewN nq).cell? ⟨gz,1,none⟩=some (.slice ya F'.length yc):=z1;have HX7:=qH (show Ext wz (w6.drewN nq)from HX6.out.drewN nq);generalize w6.drewN nq=w7 at z0 z1 HX7 ⊢;clear t0 t1
      case' neg=>
       obtain⟨j,rfl⟩:∃j,k=j+1:=⟨k-1,by omega⟩;obtain⟨pz,hpz⟩:∃p,ps[j]?=some p:=⟨_,qG (by omega)⟩;obtain⟨hlen,⟨_,h0⟩|⟨ob,ocap,orest,eo,_,hoB,_,_,_⟩⟩:=HUz.out.row
       ·omega
       cases eo;obtain⟨_,_,ev,hcz,_⟩:=(HUz.out.env pz (List.mem_of_getElem? hpz)).vals.shape;cases ev;have y0:wr.cell? ⟨ob,j*2+1,none⟩=some (.slice pz.1.2.2.1 F'.length pz.1.2.2.2):=by rw [(hoB.ext hxW.out).cell'];have h:=flat_get (rW F'.length) 2 (qR _) ps j pz 1 hpz (by omega);rw [List.getElem?_append_left (List.getElem?_eq_some_iff.1 h).1,h];rfl
       have hzl:pz.2.length=F'.length:=by have h:=(HUz.out.env pz (List.mem_of_getElem? hpz)).vals.1;rw [dR]at h;have h:pz.2.length=F'.length*1:=h;omega
       have HCM:=qH (fun W (hW:Ext wz W)=>jQ pz.2 q pz.1.2.2.1 ya pz.1.2.2.2 yc W (hcz.ext hW) (HQf.out.2.1.ext hW) (by unfold maxLen;omega) (by unfold maxLen;rw [HQf.out.2.2];omega));rw [hzl,HQf.out.2.2]at HCM;obtain⟨u,eu⟩:=nm pz.2;have HU2:=qH (show Q[j]?=some u from by rw [<-HQ.out.2.1,List.getElem?_map,hpz,<-eu];rfl);rw [eu]at HCM;generalize hcc:aB u q=cc at HCM;have HCC:=qH hcc;clear hcc hcz hlen hoB hzl eu hpz;obtain⟨i1,i2,i3,i4,_,i6,_⟩:=wI (k:=j) (n:=ps.length+1) (by omega) (by omega);have i5:(j:Int)< (ps.length:Int):=by omega
       go_wp2;go_still_tail 11,(by kernel_rfl)
       go_wp2_with fail
       refine(HCM.out _ hxW.out.drew).mono ?_;rintro e w6 ⟨rfl,k6,rfl⟩;replace y0:(wr.drew.drewN k6).cell? ⟨ob,j*2+1,none⟩=some (.slice pz.1.2.2.1 F'.length pz.1.2.2.2):=y0;replace z0:(wr.drew.drewN k6).cell? ⟨gz,0,none⟩=some (.slice fa F'.length fc):=z0;replace z1:(wr.drew.drewN k6).cell? ⟨gz,1,none⟩=some (.slice ya F'.length yc):=z1;have HX6:=qH (show Ext wz (wr.drew.drewN k6)from hxW.out.drew.drewN k6);generalize wr.drew.drewN k6=w6 at y0 z0 z1 HX6;by_cases hc1:0<cc
       case pos=>
        have t2:decide (cc>0)=true:=by simp [hc1]
        have t3:decide (0<cc)=true:=by simp [hc1]
        go_wp2;go_roundw
        case rel=>exact⟨j,by omega,nMX,qH (fun v hv=>by rw [HU2.out]at hv;cases hv;rw [HCC.out];exact hc1),qH HX6.out⟩
        case measure=>simp [intOf];try omega
       have t2:decide (cc>0)=false:=by simp [hc1]
       have t3:decide (0<cc)=false:=by simp [hc1]
       have HC1:=qH hc1;clear hc1;go_wp2;by_cases hc0:cc=0
       case pos=>
        have t4:(cc==0)=true:=by simp [hc0]
        have HSm:=qH (show bN aB Q q=Q from aM1 (List.mem_of_getElem? HU2.out) (by rw [HCC.out];exact hc0));go_still_tail 11,(by kernel_rfl)
        go_wp2_with fail
        refine(HCM.out _ HX6.out.drew).mono ?_;rintro e w7 ⟨rfl,k7,rfl⟩;clear y0 z0 z1;go_wp2;go_roundw
        case rel=>exact⟨i+1,by omega,nMX,qH (hex.out.trans (HZ.out.1.trans (HX6.out.drewN _))),ps,qH ⟨by rw [HSn.out,HSm.out];exact HQ.out.2.1,HUz.out.ext (HX6.out.drewN _)⟩⟩
        case measure=>simp [intOf];omega
       have t4:(cc==0)=false:=by simp [hc0]
       have HP:=qH (show bN aB Q q=Q.take (j+1)++q::Q.drop (j+1)from zD (dV id) HQ.out.1 (by rw [<-HQ.out.2.1,List.length_map];exact hk) (fun v _ hv=>by rw [Nat.add_sub_cancel,HU2.out]at hv;cases hv;show aB u q<0;rw [HCC.out];have:=HC1.out;omega) hgt.out);go_still_tail 11,(by kernel_rfl)
       go_wp2_with fail
       refine(HCM.out _ HX6.out.drew).mono ?_;rintro e w7 ⟨rfl,k7,rfl⟩;replace z0:(w6.drew.drewN k7).cell? ⟨gz,0,none⟩=some (.slice fa F'.length fc):=z0;replace z1:(w6.drew.drewN k7).cell? ⟨gz,1,none⟩=some (.slice ya F'.length yc):=z1;have HX7:=qH (show Ext wz (w6.drew.drewN k7)from HX6.out.drew.drewN k7);generalize w6.drew.drewN k7=w7 at z0 z1 HX7;clear hc0 y0 t2 t3 i1 i2 i3 i4 i5 i6 HC1 HCM hgt;obtain⟨k,hk'⟩:=nm (j+1);rw [hk']at HP hk;rw [show(j:Int)+1=(k:Int)from by omega]
      all_goals
       go_wp2_with (first|(at_builtin;refine Halted.out ?_))
       have HU7:=qH (HUz.out.ext HX7.out);refine Halted.mk (iH (n:=ps.length) (m:=1) aDp rfl _ _ rfl rfl (HU7.out.row.alloc _) rfl (CellsAt.new w7 [.slice fa F'.length fc,.slice ya F'.length yc] 111) (by rfl) (by simp [Value.oneCell']) (by omega) (by unfold maxLen;omega) ?_);intro v8 w8 hr8 hk8;have hU8:∀p∈ps++ [((fa,fc,ya,yc),q)],EnvAt w1 w8 (F',p.2) (.slice p.1.1 F'.length p.1.2.1) (.slice p.1.2.2.1 F'.length p.1.2.2.2):=fun p hp=>by
        have h:EnvAt w1 w7 (F',p.2) (.slice p.1.1 F'.length p.1.2.1) (.slice p.1.2.2.1 F'.length p.1.2.2.2):=by
         rcases List.mem_append.1 hp with hp|hp
         ·exact HU7.out.env p hp
         ·cases List.mem_singleton.1 hp;exact HQf.out.1.ext HX7.out
        exact(h.ext ((Kp.refl w7).alloc _)).kpR (HU7.out.row.alloc _) hk8
       have hx8:Ext w1 w8:=((hex.out.trans (HZ.out.1.trans HX7.out)).alloc _).trans' hk8 fun j hj e=>by have:=HU7.out.row.block j e;omega
       have hZ8:Blk w8 gz [.slice fa F'.length fc,.slice ya F'.length yc] 111:=((HZ.out.2.1.ext HX7.out).alloc _).kp hk8 fun e=>HGz.out gz e rfl;obtain⟨hl8,⟨_,h0⟩|⟨g8,cap8,rest8,rfl,hM8,hB8,hBl8,hc8,hcm8⟩⟩:=hr8
       ·omega
       have HM8:=qH (show w1.heap.size≤g8/\gz≠g8 from by
        rcases hM8 with h|h
        ·exact⟨HU7.out.row.block g8 h,HGz.out g8 h⟩
        ·exact⟨Nat.le_trans ((hex.out.trans (HZ.out.1.trans HX7.out)).alloc _).size h,fun e=>by have h1:=((HZ.out.2.1.ext HX7.out).alloc (.cells #[.slice fa F'.length fc,.slice ya F'.length yc] 111)).lt;rw [e]at h1;exact Nat.lt_irrefl _ (Nat.lt_of_lt_of_le h1 h)⟩)
       obtain⟨A,eA⟩:=nm ((ps.take k).flatMap (rW F'.length));obtain⟨B,eB⟩:=nm ((ps.drop k).flatMap (rW F'.length));have hA:A.length=k*2:=by rw [<-eA,iP _ 2 (qR _),List.length_take,Nat.min_eq_left hk]
       have hBn:B.length=(ps.length-k)*2:=by rw [<-eB,iP _ 2 (qR _),List.length_drop]
       have eAB:ps.flatMap (rW F'.length)=A++B:=by rw [<-eA,<-eB,<-List.flatMap_append,List.take_append_drop]
       rw [eAB,List.append_assoc (A++B)]at hB8 hBl8;have HAB:=qH (nIX eA eB);have H8:=qH (nIX hx8 (nIX hU8 (nIX hZ8 (nIX hB8 (nIX hBl8 (nIX hc8 hcm8))))));clear hx8 hU8 hZ8 hB8 hBl8 hM8 hk8 hl8 hcm8 z0 z1 eA eB eAB;have p1:(k:Int)+1≤(ps.length:Int)+1:=by omega
       have p2:(0:Int)≤(k:Int)+1:=by omega
       have p3:(k:Int)≤(ps.length:Int)+1:=by omega
       have p4:IntKind.i64.wrap ((k:Int)+1)=(k:Int)+1:=IntWalk.i64_in _ (by omega);have p5:((k:Int)+1).toNat=k+1:=by omega
       have p6:¬cap8=k:=by omega
       go_wp2;go_still_tail 7,(by kernel_rfl)
       refine aJt aDp rfl _ _ rfl (w:=w8.drew) (H8.out.2.2.2.1.drew) (g:=g8) (off:=A.length+2) rfl rfl (cs:=B) (by rw [hBn];simp only [Nat.min_def];split<;>omega) (fun h=>by
        have:¬cap8=k+1:=by have:=H8.out.2.2.2.2.2.1;omega
        first|(simp [this,hA];done)|(simp [this,hA];omega)) (fun j u hu=>⟨g8,k*2,rfl,by rw [H8.out.2.2.2.1.drew.cell',List.append_assoc,List.getElem?_append_right (by omega),show k*2+j-A.length=j by omega,List.getElem?_append_left (List.getElem?_eq_some_iff.1 hu).1];exact hu⟩) (by simp only [List.length_append,List.length_cons,List.length_nil];omega) (by rw [<-HAB.out.2];exact aKz _ _) ?_
       intro w9 hk9 hB9;have hZ9:=H8.out.2.2.1.drew.kp hk9 fun e=>HM8.out.2 e;have z0:=hZ9.c0;have z1:=hZ9.c1;obtain⟨Z,eZ⟩:=nm (splice (A++B++([Value.slice fa F'.length fc,.slice ya F'.length yc]++rest8)) (A.length+2) B);have hZp:(Z.set (k*2) (.slice fa F'.length fc)).set (k*2+1) (.slice ya F'.length yc)=A++ [Value.slice fa F'.length fc,.slice ya F'.length yc]++B++rest8:=by rw [<-eZ,<-hA];exact aEh
       have hZl:Z.length=(A++ [Value.slice fa F'.length fc,.slice ya F'.length yc]++B++rest8).length:=by rw [<-hZp,List.length_set,List.length_set]
       have hB9':Blk w9 g8 Z 111:=by rw [<-eZ];exact hB9
       obtain⟨v0,hv0⟩:∃v,Z[k*2]?=some v:=⟨_,qG (by rw [hZl];simp;omega)⟩;obtain⟨v1,hv1⟩:∃v,Z[k*2+1]?=some v:=⟨_,qG (by rw [hZl];simp;omega)⟩;have y0:w9.cell? ⟨g8,k*2,none⟩=some v0:=by rw [hB9'.cell'];exact hv0
       have y1:=hB9'.free (k*2);have hBs:=hB9'.set (k*2) (.slice fa F'.length fc);have y2:(w9.setCell ⟨g8,k*2,none⟩ (.slice fa F'.length fc)).cell? ⟨g8,k*2+1,none⟩=some v1:=by rw [hBs.cell',List.getElem?_set_ne (by omega)];exact hv1
       have y3:=hBs.free (k*2+1);obtain⟨wW,ewW⟩:=nm ((w9.setCell ⟨g8,k*2,none⟩ (.slice fa F'.length fc)).setCell ⟨g8,k*2+1,none⟩ (.slice ya F'.length yc));have hkW:Kp (fun q=>q=g8) w8 wW:=(((Kp.refl w8).drew).trans hk9).trans (by rw [<-ewW];exact Kp.setCell (F:=fun q=>q=g8) (p:=⟨g8,k*2+1,none⟩) (Kp.setCell (F:=fun q=>q=g8) (p:=⟨g8,k*2,none⟩) (Kp.refl _) (fun _=>rfl) _) (fun _=>rfl) _);have hBW:Blk wW g8 (A++ [Value.slice fa F'.length fc,.slice ya F'.length yc]++B++rest8) 111:=by rw [<-hZp,<-ewW];exact hBs.set (k*2+1) _
       have hxW:Ext w1 wW:=H8.out.1.trans' hkW fun j hj e=>by have e':j=g8:=e;have:=HM8.out.1;omega
       have HW:=qH (nIX hxW (nIX hBW (show ∀p∈ps++ [((fa,fc,ya,yc),q)],EnvAt w1 wW (F',p.2) (.slice p.1.1 F'.length p.1.2.1) (.slice p.1.2.2.1 F'.length p.1.2.2.2)from fun p hp=>(H8.out.2.1 p hp).kp hkW (fun _ h=>h) H8.out.2.2.2.1)));clear hZ9 eZ hZp hZl hB9 hB9' hv0 hv1 hBs hkW hBW hxW hk9;go_wp2;try rw [ewW]
       clear y0 y1 y2 y3 ewW z0 z1;go_roundw
       case rel=>
        refine⟨i+1,by omega,nMX,qH HW.out.1,ps.take k++((fa,fc,ya,yc),q)::ps.drop k,qH ⟨?_,?_,fun p hp=>HW.out.2.2 p ?_⟩⟩
        ·rw [HSn.out,HP.out,<-HQ.out.2.1,List.map_append,List.map_cons,List.map_take,List.map_drop]
        ·have hl:(ps.take k++((fa,fc,ya,yc),q)::ps.drop k).length=ps.length+1:=by rw [List.length_append,List.length_cons,List.length_take,List.length_drop];omega
         have hf:(ps.take k++((fa,fc,ya,yc),q)::ps.drop k).flatMap (rW F'.length)=A++ [Value.slice fa F'.length fc,.slice ya F'.length yc]++B:=by rw [List.flatMap_append,List.flatMap_cons,HAB.out.1,HAB.out.2,List.append_assoc];rfl
         rw [hl,hf];have h1:=H8.out.2.2.2.2.1;refine⟨by simp;omega,.inr ⟨g8,cap8,rest8,rfl,HM8.out.1,HW.out.2.1,?_,H8.out.2.2.2.2.2.1,H8.out.2.2.2.2.2.2⟩⟩;rw [<-h1];simp;omega
        ·rcases List.mem_append.1 hp with hp|hp
         ·exact List.mem_append_left _ (List.mem_of_mem_take hp)
         ·rcases List.mem_cons.1 hp with hp|hp
          ·exact List.mem_append_right _ (List.mem_singleton.2 hp)
          ·exact List.mem_append_left _ (List.mem_of_mem_drop hp)
       case measure=>simp [intOf];omega
  ·obtain rfl:i=N:=by omega
   go_wp2;go_ret;refine RetN.mk (H1.out.1.trans hex.out) ⟨qo,qc,ps,rfl,?_,?_,fun a e=>Nat.le_trans H1.out.1.size (hU.out.2.row.block a.block (by rw [e];rfl)),?_⟩
   ·rw [hU.out.1,List.take_of_length_le (by have:=HN.out.2.2.1;omega)]
   ·obtain⟨_,_,e,hc,_⟩:=hU.out.2.row.shape;cases e;exact hc
   ·intro p hp;have h:=hU.out.2.env p hp;obtain⟨_,_,e1,c1,_⟩:=h.names.shape;obtain⟨_,_,e2,c2,_⟩:=h.vals.shape;cases e1;cases e2;refine⟨c1,c2,?_,fun a e=>⟨Nat.le_trans H1.out.1.size (h.names.block a.block (by rw [e];rfl)),h.names.ltB (g:=a.block) (by rw [e];rfl)⟩,fun a e=>⟨Nat.le_trans H1.out.1.size (h.vals.block a.block (by rw [e];rfl)),h.vals.ltB (g:=a.block) (by rw [e];rfl)⟩⟩;have h3:=h.vals.1;rw [dR]at h3;have h3:p.2.length=F.length*1:=h3;omega
end
section
open Go.RowKit Go.Shelf
set_option maxHeartbeats 1000000 in
theorem kR(bvs:List Value)(bo:Option Addr)(n bc i:Nat)(w:World)(hn:n=bvs.length)(h:CellsAt w bo bvs)(hl:n≤1048576)(hi:i≤1048576):Calls Tryz.prog 79 #[.slice bo n bc,.int .i64 i] w (Ret (bvs.getD i (.pointer none)) w):=by
 go_enter Tryz.func79,Tryz.ntmps79;by_cases hlt:i<n
 ·obtain⟨v,hv⟩:∃v,bvs[i]?=some v:=⟨_,qG (by omega)⟩;obtain⟨b,o,e,c0⟩:=h i v hv;subst e;have HV:=qH (show bvs.getD i (.pointer none)=v from by rw [List.getD_eq_getElem?_getD,hv];rfl);have i1:(i:Int)< (n:Int):=by omega
  go_wp2;go_ret;exact Ret.mk HV.out
 ·have HV:=qH (show bvs.getD i (.pointer none)= .pointer none from by rw [List.getD_eq_getElem?_getD,List.getElem?_eq_none (by omega)];rfl);go_wp2;go_ret;exact Ret.mk HV.out
structure WSt(w0 W:World)(gw:Nat)(cs:List Value)(OUT:aD)(ov:Value):Prop where
 ext:Ext w0 W
 blk:Blk W gw (cs++ [ov]) 166
 lo:w0.heap.size≤gw
 out:OwnRows w0.heap.size W ov OUT
theorem OwnRows.blk{lo:Nat}{w:World}{v:Value}{LL:aD}(h:OwnRows lo w v LL){g:Nat}(hg:v.ownBlock=some g):lo≤g/\g<w.heap.size/\∃cs,Blk w g cs 34:=by obtain⟨ps,_,h2,_⟩:=h;exact⟨h2.block g hg,h2.ltB hg,h2.blkOf hg⟩
theorem OwnRows.wpN{lo:Nat}{v:Value}{LL:aD}{W w1:World}{x:gK}{ss:List ByteArray}{ops:Array Oper}{rest:List Oper}{o:Oper}{a:Act}{Q:Exit->Act->World->Prop}(h:OwnRows lo W v LL)(hk:Ext W w1)(hlo:lo≤W.heap.size)
 (hx:Row w1 9 1 (.slice x.1 x.2.1 x.2.2) ss.length (strs ss) (New W))(hss:ss.length≤8796093021952)(hll:LL.length≤1048576*1048576)(hgd:o.guard=none)(s y:Operand)
 (ho:o.op= .call {callee:= .builtin .append,args:=#[s,y],argTypes:=#[69,69]})(hs:a.eval s=v)(hy:a.eval y= .slice (some ⟨w1.heap.size,0,none⟩) 1 1)
 (H:∀v' w',(∃ao cap,v'= .slice ao (LL.length+1) cap)->OwnRows lo w' v' (LL++ [ss])->Kp (fun g=>v.ownBlock=some g) (w1.alloc (.cells #[.slice x.1 x.2.1 x.2.2] 34)) w'->(∀g,v'.ownBlock=some g->v.ownBlock=some g\/W.heap.size≤g)->wpList Tryz.prog ops Q rest (a.put o.dst v') w'):
 wpList Tryz.prog ops Q (o::rest) a (w1.alloc (.cells #[.slice x.1 x.2.1 x.2.2] 34)):=by
 obtain⟨ps,rfl,r2,r3,r4⟩:=h;have hex:Ext W (w1.alloc (.cells #[.slice x.1 x.2.1 x.2.2] 34)):=hk.alloc _;have r2':=r2.ext hex;rw [List.length_map]at hll;refine rA cQ hgd s y ho (Kp.refl (F:=fun g=>v.ownBlock=some g) _) (M:=fun g=>v.ownBlock=some g\/ (w1.alloc (.cells #[.slice x.1 x.2.1 x.2.2] 34)).heap.size≤g) (fun g h h'=>by rcases h with h|h;exact h;omega) (fun g h=> .inr h) hs
  (Row.mono r2'.own fun g h=> .inl h) hy (m:=1) (news:= [.slice x.1 x.2.1 x.2.2]) rfl (CellsAt.one w1 _ _) (by simp;rfl) (by omega) (by unfold maxLen;omega) ?_
 intro v' w' hr' hk' _ _;obtain⟨ao,cap,e,_⟩:=hr'.shape;have hnew:=hr'.block;refine H v' w' ⟨ao,cap,by rw [e];simp⟩ ?_ hk' fun g hg=>(hnew g hg).imp id fun h=>Nat.le_trans hex.size h;exact OwnRows.push r2' (fun p hp=>⟨(r3 p hp).1.ext hex,(r3 p hp).2⟩) r4 (B:=W.heap.size) (fun p hp g hg=>(r3 p hp).1.lt g hg) hlo (hx.alloc _) hss
  (Row.mono hr' fun g hg=>by rcases hg with hg|hg;exact r2.block g hg;exact Nat.le_trans hlo (Nat.le_trans hex.size hg)) hk'
section
variable {w0 W W':World}{gw:Nat}{cs:List Value}{OUT:aD}{ov:Value}
theorem WSt.next(h:WSt w0 W gw cs OUT ov)(hx:Ext W W'):WSt w0 W' gw cs OUT ov:=⟨h.ext.trans hx,h.blk.ext hx,h.lo,h.out.ext hx⟩
def xO(gw:Nat)(ov:Value)(g:Nat):Prop:=g=gw\/ov.ownBlock=some g
theorem WSt.off(h:WSt w0 W gw cs OUT ov):∀g,xO gw ov g->w0.heap.size≤g/\g<W.heap.size:=fun g hg=>by
 rcases hg with rfl|hg
 ·exact⟨h.lo,h.blk.lt⟩
 ·exact⟨(h.out.blk hg).1,(h.out.blk hg).2.1⟩
end
structure WIn(w0:World)(ls:List aJ)(R:Nat->aD)(ba:Option Addr)(n bcap:Nat)(bo:Option Addr)(m bc:Nat):Prop where
 gm:∃Gm,cD w0 Gm ba ls
 len:n=ls.length
 few:n≤1048576
 bvs:∃bvs,CellsAt w0 bo bvs/\m=bvs.length/\∀i l,ls[i]?=some l->∃S G,BaseP S w0 (bvs.getD i (.pointer none)) G/\R i=kU G (bC l)
 mfew:m≤1048576
 terms:∀l∈ls,(aC ls).length+(aA l).length≤1048576
 all:(aC ls).length≤1048576
end
section
open Go.RowKit Go.Shelf
attribute [local go_sem] Oper.semAt_some
def iX(p:ByteArray)(ha:Option Addr)(hn hc:Nat)(ba:Option Addr)(n bcap:Nat)(bo:Option Addr)(m bc most:Nat):List Value:= [.string p,.slice ha hn hc,.slice ba n bcap,.slice bo m bc,.int .i64 most]
def aMn(w0:World)(gw:Nat)(cs:List Value)(OUT:aD)(ov:Value)(L:aD)(W W':World)(v:Value):Prop:=
 v= .bool true/\∃ov',WSt w0 W' gw cs (OUT++L) ov'/\∀g,ov'.ownBlock=some g->ov.ownBlock=some g\/W.heap.size≤g
def aNd(ls:List aJ)(R:Nat->aD)(e:bR)(n:Nat)(w1:World)(kv:Value)(W:World):Prop:=
 ∃k:Nat,k≤n/\kv= .int .i64 k/\Hid (∀j l,j<k->ls[j]?=some l->l.1≠1->eS e (bL (aA l) (R j)) l=true)/\Hid (Ext w1 W)
theorem aIq{ls:List aJ}{R:Nat->aD}{e:bR}(h:∀j l,ls[j]?=some l->l.1≠1->eS e (bL (aA l) (R j)) l=true):lD e R 0 ls=true:=
 oH.2 fun j l hj hk=>by rw [Nat.zero_add];exact lZ.1 (h j l hj hk)
theorem aIp{ls:List aJ}{R:Nat->aD}{e:bR}{j:Nat}{l:aJ}(hj:ls[j]?=some l)(hk:l.1≠1)(h:eS e (bL (aA l) (R j)) l=false):lD e R 0 ls=false:=by
 cases hb:lD e R 0 ls with
 |false=>rfl
 |true=>
  have h2:=oH.1 hb j l hj hk;rw [Nat.zero_add]at h2;rw [lZ.2 h2]at h;cases h
theorem rQ(ls:List aJ)(i:Nat):(aC (ls.take i)).length≤(aC ls).length:=by have h:=congrArg List.length (jS ls i);rw [List.length_take]at h;omega
section
variable {w0 W:World}{ls:List aJ}{R:Nat->aD}{ba:Option Addr}{n bcap:Nat}{bo:Option Addr}{m bc:Nat}{gw:Nat}{p:ByteArray}{ha:Option Addr}{hn hc most:Nat}{OUT:aD}{ov:Value}{e:bR}{na va:Option Addr}{k nc vc:Nat}
set_option maxHeartbeats 16000000 in
theorem aKw(hI:WIn w0 ls R ba n bcap bo m bc)(hok:FromOk ls R n e)(hk:k=e.1.length)(h1:CellsAt W na (strs e.1))(h2:CellsAt W va (strs e.2))(hw:WSt w0 W gw (iX p ha hn hc ba n bcap bo m bc most) OUT ov)(hm:(OUT++if lD e R 0 ls then [e.2]else []).length≤most)(hmm:most≤4611686018427387904)(hO:OUT.length≤1048576):
 Calls Tryz.prog 116 #[.pointer (some ⟨gw,0,none⟩),.int .i64 n,.agg #[.slice na k nc,.slice va k vc]] W (RetF (xO gw ov) W fun W' v=>aMn w0 gw (iX p ha hn hc ba n bcap bo m bc most) OUT ov (if lD e R 0 ls then [e.2]else []) W W' v):=by
 obtain⟨L,eL⟩:=nm ((if lD e R 0 ls then [e.2]else []));rw [eL]at hm ⊢;have HEL:=qH eL;clear eL;obtain⟨bvs,hbc,hbl,hbs⟩:=hI.bvs;obtain⟨Gm,hGm⟩:=hI.gm;have hn:=hI.len;have hnf:=hI.few;have hmf:=hI.mfew;have hkl:k≤1048576:=by have h1:=rQ ls n;have h2:=hI.all;rw [hk,hok.names];omega
 have HHo:=qH (fun(X:World) (hX:Ext W X) (j:Nat) (l:aJ) (hj:ls[j]?=some l) (a:Option Addr) (cap:Nat) (hl:LitIn X Gm l a cap)=>show Calls Tryz.prog 146 #[litV l.1 (bC l) a (aA l).length cap (gS l) (leftOf l).1 (leftOf l).2.1 (aN l).1 (aN l).2.1,bvs.getD j (.pointer none),.agg #[.slice na k nc,.slice va k vc]] X (RetN X fun w' v=>v= .bool (eS e (bL (aA l) (R j)) l))from by obtain⟨S,G,hB,eR⟩:=hbs j l hj;rw [eR];exact aAn e l a cap hl (hB.ext (hw.ext.trans hX)) na va k nc vc _ hok.ok hk rfl (h1.ext hX) (h2.ext hX) (by have h3:=hI.terms l (List.mem_of_getElem? hj);have h4:=rQ ls n;rw [hk,hok.names];omega));have HBs:=qH (fun(X:World) (hX:Ext W X) (j:Nat) (hj:j≤1048576)=>kR bvs bo m bc j X hbl (hbc.ext (hw.ext.trans hX)) hmf hj);have HL:=qH (fun(X:World) (hX:Ext W X)=>hGm.ext (hw.ext.trans hX));have HI:=qH (nIX hw (nIX hm (nIX hk (nIX hok (nIX h2 hn)))));obtain⟨be,ebe⟩:=nm W.heap.size;obtain⟨w1,e1⟩:=nm (W.alloc (.cells #[.slice na k nc,.slice va k vc] 111));have hB1:=bNX ebe e1;have hx1:Ext W w1:=xAX e1;obtain⟨oa,oc,eov,_⟩:=hw.out.shape;subst eov;have hbw:=hw.blk.ext hx1;unfold iX at hbw;have c2:=hbw.c2;have H1:=qH (nIX hx1 (nIX hB1 hbw));clear hI hok hk h1 h2 hw hm hbc hbl hbs hGm hB1 hx1 hbw hn hmf;go_enter Tryz.func116,Tryz.ntmps116;go_wp2;clear e1 ebe;go_loopw [7] (fun kv wr=>aNd ls R e n w1 kv wr) (fun kv _=>n- (intOf kv).toNat)
 case atStart=>exact⟨0,Nat.zero_le _,rfl,qH (fun j l h=>by omega),qH (Kp.refl _)⟩
 case round=>
  obtain⟨j,hj,rfl,hh,hex⟩:=hrel;have d2:wr.cell? ⟨gw,2,none⟩=some (.slice ba n bcap):=hex.out.cell c2 id;by_cases hlt:j<n
  ·obtain⟨l,hl⟩:∃l,ls[j]?=some l:=⟨_,qG (by have:=HI.out.2.2.2.2.2;omega)⟩;obtain⟨b,off,a2,cap2,eao,hG,hb,hL,c0,c1,d2',c3,c4,c5,c6,c7⟩:=iC (HL.out wr (H1.out.1.trans hex.out)) hl;subst eao;obtain⟨kd,ekd⟩:=nm l.1;rw [ekd]at c0;have HSt:=qH (show ∀v:Bool,(kd≠1->eS e (bL (aA l) (R j)) l=v)->v=true->∀i m,i<j+1->ls[i]?=some m->m.1≠1->eS e (bL (aA m) (R i)) m=true from fun v hv ev i m' hi hm hm1=>by
    rcases Nat.lt_or_eq_of_le (Nat.le_of_lt_succ hi)with h|h
    ·exact hh.out i m' h hm hm1
    ·subst h;rw [hl]at hm;cases hm;rw [hv (by rw [<-ekd];exact hm1),ev])
   by_cases hk1:kd=1
   ·subst hk1;go_wp2;go_quiet (fail)
    go_wp2;go_roundw
    case rel=>exact⟨j+1,by omega,nMX,qH (fun i m hi hm hm1=>HSt.out true (fun h=>absurd rfl h) rfl i m hi hm hm1),qH (hex.out.drewN _)⟩
    case measure=>simp [intOf];omega
   ·have t1:(kd==1)=false:=by simp [hk1]
    have t2:(kd !=1)=true:=by simp [hk1]
    have d3:=(H1.out.2.2.ext hex.out).c3;have b0:=(H1.out.2.1.ext hex.out).c0;have b1:=(H1.out.2.1.ext hex.out).c1;have HCa:=qH (fun X hX=>HHo.out X (H1.out.1.trans (hex.out.trans hX)) j l hl a2 cap2 (hL.ext hX));have HCb:=qH (fun X hX=>HBs.out X (H1.out.1.trans (hex.out.trans hX)) j (by omega));have HNo:=qH (show eS e (bL (aA l) (R j)) l=false->lD e R 0 ls=false from aIp hl (by rw [ekd];exact hk1));rw [ekd]at HCa;obtain⟨lp,elp⟩:=nm (bC l);obtain⟨lo,elo⟩:=nm (gS l);obtain⟨lk,elk⟩:=nm ((leftOf l).1);obtain⟨lt,elt⟩:=nm ((leftOf l).2.1);obtain⟨rk,erk⟩:=nm ((aN l).1);obtain⟨rt,ert⟩:=nm ((aN l).2.1);obtain⟨tn,etn⟩:=nm ((aA l).length);obtain⟨bv,ebv⟩:=nm (bvs.getD j (.pointer none));obtain⟨hv,ehv⟩:=nm (eS e (bL (aA l) (R j)) l);rw [elp]at HCa c1;rw [elo]at HCa c3;rw [elk]at HCa c4;rw [elt]at HCa c5;rw [erk]at HCa c6;rw [ert]at HCa c7;rw [etn]at HCa d2';rw [ebv]at HCa HCb;rw [ehv]at HCa HNo;have HHb:=qH ehv;have HJ:=qH (show ∀X,Ext wr X->(fun X:World=>X.cell? ⟨gw,2,none⟩=some (.slice (some ⟨b,off,none⟩) n bcap)/\X.cell? ⟨gw,3,none⟩=some (.slice bo m bc)/\X.cell? ⟨be,0,none⟩=some (.slice na k nc)/\X.cell? ⟨be,1,none⟩=some (.slice va k vc)/\X.cell? ⟨b,off+j*8,none⟩=some (.int .i64 kd)/\X.cell? ⟨b,off+j*8+1,none⟩=some (.string lp)/\X.cell? ⟨b,off+j*8+2,none⟩=some (.slice a2 tn cap2)/\X.cell? ⟨b,off+j*8+3,none⟩=some (.int .i64 lo)/\X.cell? ⟨b,off+j*8+4,none⟩=some (.int .i64 lk)/\X.cell? ⟨b,off+j*8+5,none⟩=some (.string lt)/\X.cell? ⟨b,off+j*8+6,none⟩=some (.int .i64 rk)/\X.cell? ⟨b,off+j*8+7,none⟩=some (.string rt)) X from fun X hX=>⟨hX.cell d2 id,hX.cell d3 id,hX.cell b0 id,hX.cell b1 id,hX.cell c0 id,hX.cell c1 id,hX.cell d2' id,hX.cell c3 id,hX.cell c4 id,hX.cell c5 id,hX.cell c6 id,hX.cell c7 id⟩);clear hl hL hG hb ekd elp elo elk elt erk ert etn ebv ehv hk1 c0 c1 d2' c3 c4 c5 c6 c7 d3 b0 b1;go_wp2;refine aY (fun X:World=>X.cell? ⟨gw,2,none⟩=some (.slice (some ⟨b,off,none⟩) n bcap)/\X.cell? ⟨gw,3,none⟩=some (.slice bo m bc)/\X.cell? ⟨be,0,none⟩=some (.slice na k nc)/\X.cell? ⟨be,1,none⟩=some (.slice va k vc)/\X.cell? ⟨b,off+j*8,none⟩=some (.int .i64 kd)/\X.cell? ⟨b,off+j*8+1,none⟩=some (.string lp)/\X.cell? ⟨b,off+j*8+2,none⟩=some (.slice a2 tn cap2)/\X.cell? ⟨b,off+j*8+3,none⟩=some (.int .i64 lo)/\X.cell? ⟨b,off+j*8+4,none⟩=some (.int .i64 lk)/\X.cell? ⟨b,off+j*8+5,none⟩=some (.string lt)/\X.cell? ⟨b,off+j*8+6,none⟩=some (.int .i64 rk)/\X.cell? ⟨b,off+j*8+7,none⟩=some (.string rt)) [] (by kernel_rfl) (HJ.out _ (Kp.refl wr).drew) (fun hHeld=>?_);refine eFX 0 ?_;refine eFX 1 ?_;refine eFX 2 ?_;refine eFX 3 ?_;refine eIX 4 ?_;refine eFX 5 ?_;refine eIX 6 ?_;refine eFX 7 ?_;refine eIX 8 ?_;refine eFX 9 ?_;refine eFX 10 ?_
    refine eGX 11 ?_;refine eGX 12 ?_;refine eGX 13 ?_;refine eGX 14 ?_;refine eHX 15 ?_;refine eGX 16 ?_;refine eHX 17 ?_;refine eHX 18 ?_;refine eGX 19 ?_;refine eGX 20 ?_;refine eGX 21 ?_;refine eHX 22 ?_;refine eGX 23 ?_;refine eHX 25 ?_;refine eTX 24 fun K hK=>?_;go_simp
    (refine(HCb.out _ (Kp.refl wr).drew).mono ?_;rintro e w5 ⟨rfl,rfl⟩)
    go_wp2_with fail
    refine hK.out _ _ (HJ.out _ (Kp.refl wr).drew) fun hHeld=>?_;clear hK K;refine eTX 26 fun K hK=>?_;go_simp
    (refine(HCa.out _ (Kp.refl wr).drew).mono ?_;rintro e w6 ⟨v6,rfl,hk6,rfl⟩;have X6:=qH (show Ext wr w6 from(Kp.refl wr).drew.trans hk6);clear hk6)
    go_wp2_with fail
    refine hK.out _ _ (HJ.out _ X6.out) fun hHeld=>?_;clear hK K;refine eGX 27 ?_;refine eFX 28 ?_;refine aL (by kernel_rfl) ?_ _;clear hHeld;cases hv with
    |true=>
     go_wp2;go_roundw
     case rel=>exact⟨j+1,by omega,nMX,qH (fun i m hi hm hm1=>HSt.out true (fun h=>HHb.out) rfl i m hi hm hm1),qH (hex.out.trans X6.out)⟩
     case measure=>simp [intOf];omega
    |false=>
     go_wp2;go_ret;refine RetF.mk (Ext.kp (H1.out.1.trans (hex.out.trans X6.out))) ⟨rfl,_,(by
      rw [show L= []from by rw [<-HEL.out,HNo.out (by trivial)];rfl];have h:=HI.out.1.next (H1.out.1.trans (hex.out.trans X6.out))
      simpa using h),fun g hg=> .inl hg⟩
  ·obtain rfl:j=n:=by omega
   have HKp:=qH (show lD e R 0 ls=true from aIq fun i l hi hl1=>hh.out i l (by have:=(List.getElem?_eq_some_iff.1 hi).1;have:=HI.out.2.2.2.2.2;omega) hi hl1);obtain rfl:L= [e.2]:=by rw [<-HEL.out,HKp.out];rfl
   have hmm2:=HI.out.2.1;rw [List.length_append,List.length_singleton]at hmm2;have d5:=(H1.out.2.2.ext hex.out).c5;have d4:=(H1.out.2.2.ext hex.out).c4;have t1:decide ((OUT.length:Int)≥(most:Int))=false:=by simp;omega
   have t2:¬((most:Int)≤(OUT.length:Int)):=by omega
   have t3:¬(most≤OUT.length):=by omega
   go_wp2;go_quiet (fail)
   have HX4:=qH (show Ext w1 (wr.drewN nq)from hex.out.drewN nq);generalize wr.drewN nq=w4 at HX4 ⊢;have b1:=(H1.out.2.1.ext HX4.out).c1;have hke:e.2.length=k:=by rw [HI.out.2.2.2.1.ok.len,<-HI.out.2.2.1]
   clear d2 d4 d5 t1 t2 t3 c2;go_wp2_with (first|(at_builtin;refine Halted.out ?_))
   refine Halted.mk (iH (n:=0) (m:=k) fF rfl _ _ rfl rfl (Row.nil w4 9 1 (New w4)) rfl (HI.out.2.2.2.2.1.ext (H1.out.1.trans HX4.out)) (by rw [dR,Nat.mul_one];exact hke) (fun u hu=>by obtain⟨s,_,rfl⟩:=List.mem_map.1 hu;rfl) (by omega) (by unfold maxLen;omega) ?_);intro v5 w5 hr5 hk5;rw [Nat.zero_add,List.nil_append]at hr5;have x5:Ext w4 w5:=hk5.mono fun k _ h=>by cases h
   obtain⟨a5,c5,ev5,_,_⟩:=hr5.shape;subst ev5;have hr6:Row w5 9 1 (.slice a5 k c5) e.2.length (strs e.2) (New w4):=by
    rw [hke];exact hr5.mono fun g h=>by
     rcases h with h|h
     ·cases h
     ·exact h
   have HW:=qH (HI.out.1.next (H1.out.1.trans HX4.out));have d5:=(HW.out.blk.ext x5).c5;have H5:=qH (nIX x5 (nIX hr6 hke));clear x5 hr5 hr6 hk5 hke b1;go_wp2_with (first|(at_builtin;refine Halted.out ?_))
   refine Halted.mk (HW.out.out.wpN (x:=(a5,k,c5)) (ss:=e.2) H5.out.1 HW.out.ext.size H5.out.2.1 (by rw [H5.out.2.2];omega) (by omega) rfl _ _ rfl rfl rfl ?_);rintro v6 w6 ⟨o6,c6,rfl⟩ hown hk6 hnew;have hb6:=((HW.out.blk.ext H5.out.1).alloc (.cells #[.slice a5 k c5] 34)).kp hk6 fun e=>by obtain⟨_,_,_,hb⟩:=HW.out.out.blk e;exact(by decide:34≠166) (bX hb HW.out.blk)
   have y0:=hb6.c5;have y1:=hb6.free 5;obtain⟨w7,e7⟩:=nm (w6.setCell ⟨gw,5,none⟩ (.slice o6 (OUT.length+1) c6));have hb7:Blk w7 gw (iX p ha hn hc ba j bcap bo m bc most++ [.slice o6 (OUT.length+1) c6]) 166:=by rw [<-e7];exact hb6.set 5 _
   have k7:Kp (fun q=>q=gw) w6 w7:=by rw [<-e7];exact kSa
   have hown7:OwnRows w0.heap.size w7 (.slice o6 (OUT.length+1) c6) (OUT++ [e.2]):=by
    obtain⟨ps,h1,h2,h3,h4⟩:=hown;refine⟨ps,h1,h2.kp' k7 fun g hg _ e=>?_,fun p hp=>⟨(h3 p hp).1.kp' k7 fun g hg _ e=>?_,(h3 p hp).2⟩,h4⟩
    ·obtain⟨_,hb⟩:=h2.blkOf hg;have e':g=gw:=e;rw [e']at hb;exact(by decide:34≠166) (bX hb hb6)
    ·obtain⟨_,hb⟩:=(h3 p hp).1.blkOf hg;have e':g=gw:=e;rw [e']at hb;exact(by decide:9≠166) (bX hb hb6)
   have hz:=(H1.out.1.trans HX4.out).size;have hx6:Ext w0 w6:=((HW.out.ext.trans H5.out.1).alloc _).trans' hk6 fun i hi e=>by have:=(HW.out.out.blk e).1;omega
   have HW7:=qH (show WSt w0 w7 gw (iX p ha hn hc ba j bcap bo m bc most) (OUT++ [e.2]) (.slice o6 (OUT.length+1) c6)from⟨hx6.trans' k7 fun i hi e=>by have e':i=gw:=e;have:=HW.out.lo;omega,hb7,HW.out.lo,hown7⟩);have HK7:=qH (show Kp (xO gw (.slice oa OUT.length oc)) W w7 from(((Ext.kp (F:=xO gw (.slice oa OUT.length oc)) ((H1.out.1.trans HX4.out).trans H5.out.1)).alloc _).trans' hk6 fun i hi e=> .inr e).trans' k7 fun i hi e=> .inl e);have HN7:=qH (show ∀g,(Value.slice o6 (OUT.length+1) c6).ownBlock=some g->(Value.slice oa OUT.length oc).ownBlock=some g\/W.heap.size≤g from fun g hg=>(hnew g hg).imp id fun h=>by omega);clear hb7 k7 hown7 hown hk6 hnew hb6 hz hx6;go_wp2;try rw [e7]
   clear e7 y0 y1;go_ret;exact RetF.mk HK7.out ⟨rfl,_,HW7.out,HN7.out⟩
end
end
section
def iK(R:Nat->aD)(most:Nat):List aJ->Nat->Nat->Option Nat
 | [],_,n=>some n
 |l::ls,i,n=>if l.1=1 then(if most<n*(1+(bL (aA l) (R i)).length)then none else iK R most ls (i+1) (n*(1+(bL (aA l) (R i)).length)))else iK R most ls (i+1) n
theorem rH(R:Nat->aD)(most:Nat)(b:List aJ):∀(a:List aJ) (i n:Nat),iK R most (a++b) i n=(iK R most a i n).bind (iK R most b (i+a.length))
 | [],i,n=>rfl
 |l::a,i,n=>by
  have e:i+(l::a).length=i+1+a.length:=by rw [List.length_cons];omega
  rw [e,List.cons_append];show(if l.1=1 then _ else _)=_;by_cases h1:l.1=1
  ·by_cases h2:most<n*(1+(bL (aA l) (R i)).length)
   ·rw [if_pos h1,if_pos h2];show _=Option.bind (if l.1=1 then _ else _) _;rw [if_pos h1,if_pos h2];rfl
   ·rw [if_pos h1,if_neg h2,rH R most b a];show _=Option.bind (if l.1=1 then _ else _) _;rw [if_pos h1,if_neg h2]
  ·rw [if_neg h1,rH R most b a];show _=Option.bind (if l.1=1 then _ else _) _;rw [if_neg h1]
theorem zJ{α:Type}(f:α->aD)(K m:Nat):∀(L:List α),(∀q∈L,K*(f q).length≤m)->K*(L.flatMap f).length≤L.length*m
 | [],_=>by simp
 |x::L,h=>by have h1:=h x (List.mem_cons_self ..);have h2:=zJ f K m L fun q hq=>h q (List.mem_cons_of_mem _ hq);rw [List.flatMap_cons,List.length_append,List.length_cons,Nat.mul_add,Nat.add_mul,Nat.one_mul];omega
theorem uL(e:bR)(ts:List aE)(R:aD):(bD e ts R).length≤R.length:=by
 have h:=yH e ts R R.length
 rwa [List.take_length]at h
theorem pD{all:List aJ}{R:Nat->aD}{most:Nat}:∀(rest:List aJ) (i n m:Nat) (e:bR),iK R most rest i n=some m->n*(bT all R rest i e).length≤m
 | [],i,n,m,e,h=>by
  obtain rfl:n=m:=Option.some.inj h;have h1:(bT all R [] i e).length≤1:=by
   unfold bT;split
   ·exact Nat.le_refl _
   ·exact Nat.zero_le _
  exact Nat.le_trans (Nat.mul_le_mul_left n h1) (Nat.le_of_eq (Nat.mul_one n))
 |l::rest,i,n,m,e,h=>by
  unfold iK at h;unfold bT;by_cases h1:l.1=1
  ·rw [if_pos h1]at h ⊢;split at h
   ·cases h
   ·obtain⟨a,ea⟩:=nm ((bL (aA l) (R i)).length);rw [ea]at h;have hf:=zJ (fun q=>bT all R rest (i+1) (bZ e.1 (aA l),q)) (n*(1+a)) m (bD e (aA l) (bL (aA l) (R i))) fun q _=>pD rest (i+1) _ m _ h;have hu:(bD e (aA l) (bL (aA l) (R i))).length≤a:=by rw [<-ea];exact uL _ _ _
    generalize ((bD e (aA l) (bL (aA l) (R i))).flatMap fun q=>bT all R rest (i+1) (bZ e.1 (aA l),q)).length=x at hf ⊢;have h2:n*(1+a)*x≤(1+a)*m:=Nat.le_trans hf (Nat.mul_le_mul_right m (Nat.le_trans hu (Nat.le_add_left a 1)));rw [Nat.mul_comm n,Nat.mul_assoc]at h2;exact Nat.le_of_mul_le_mul_left h2 (by omega)
  ·rw [if_neg h1]at h ⊢;exact pD rest (i+1) n m e h
end
end Go.Proofs.YtinnmeiphbdogaaGreat
