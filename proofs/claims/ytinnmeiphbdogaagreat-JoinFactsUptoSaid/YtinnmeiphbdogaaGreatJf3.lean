/- Texts joined for a claim (IterRow, IterVRow, BinStr, IndexStr, GenStr, RowSet, BaseC, TriePlain, JoinTree, JoinPlain, JoinEnv, JoinEnv2, LeapPlain, TrieSpan, TriePath, JoinSol, JoinStep, IndexX, BaseC2, BasePut, RowQ, RowQ2, RowQ3, RowOwn, RowAll). -/
import Derived.Test.YtinnmeiphbdogaaGreatJf2
import Derived.Test.YtinnmeiphbdogaaGreatProg
import Derived.Laws.EntriesVeiled
set_option linter.unusedVariables false
set_option linter.unusedSimpArgs false
set_option maxRecDepth 100000
namespace Go.Proofs.YtinnmeiphbdogaaGreat
section
open Go.RowKit Go.Shelf
attribute [local go_sem] Oper.semAt_some
set_option maxHeartbeats 1000000 in
theorem kT(ao:Option Addr)(len cap:Nat)(w:World):
 Calls Tryz.prog 137 #[.slice ao len cap] w (RetN w fun w' v=>v= .func (.func 171) #[] #[.pointer (some ⟨w.heap.size,0,none⟩)]/\w'=w.alloc (.cells #[.slice ao len cap] 69)):=by
 go_enter Tryz.func137,Tryz.ntmps137;go_wp2;go_ret;exact RetN.mk ((Kp.refl w).alloc _) ⟨rfl,rfl⟩
def IterRow(w:World)(v:Value)(zs:List (Option Addr×Nat×Nat))(lo:Nat):Prop:=
 ∃Bs ao cap,v= .func (.func 171) #[] #[.pointer (some ⟨Bs,0,none⟩)]/\lo≤Bs/\(∀a,ao=some a->lo≤a.block/\a.block<w.heap.size)/\w.cell? ⟨Bs,0,none⟩=some (.slice ao zs.length cap)/\CellsAt w ao (zs.map fun x=>(Value.slice (x).1 (x).2.1 (x).2.2))/\zs.length≤1048576*1048576
set_option maxHeartbeats 1000000 in
theorem wM{S:Nat->Prop}{w:World}{v:Value}{zs:List (Option Addr×Nat×Nat)}(h:PtrSetRow Tryz.prog S w v zs):
 Calls Tryz.prog 100 #[v] w (RetN w fun w' r=>IterRow w' r zs w.heap.size):=by
 have hl:=h.len;have HI:=qH (mV h);clear h;go_enter Tryz.func100,Tryz.ntmps100;go_wp2_with fail
 refine HI.out.mono ?_;rintro e w1 ⟨v1,rfl,hk,hr⟩;have hb1:=hr.block;have hlt:=hr.lt;obtain⟨ao,cap,ev,hc,_⟩:=hr.shape;subst ev;have HK:=qH (nIX hk hc);clear hk hr hc;go_wp2_with fail
 refine(kT ao zs.length cap w1).mono ?_;rintro e w2 ⟨v2,rfl,hk2,rfl,ew⟩;have HK2:=qH (nIX hk2 ew);clear hk2 ew;go_wp2;go_ret;have hsz:=HK.out.1.size;refine RetN.mk (HK.out.1.trans HK2.out.1) ⟨w1.heap.size,ao,cap,rfl,hsz,fun a e=>?_,?_,HK.out.2.ext HK2.out.1,hl⟩
 ·subst e;have h1:=hb1 a.block rfl;have h2:=hlt a.block rfl;exact⟨h1,Nat.lt_of_lt_of_le h2 HK2.out.1.size⟩
 ·rw [HK2.out.2];exact(Blk.new w1 [Value.slice ao zs.length cap] 69).cell' 0
set_option maxHeartbeats 2000000 in
theorem jL{α:Type}(f:α->Value)(F:Fence)(n:Nat)(h7:F.fn 171)(hro:F.round=none)(hn:1≤n)(S:Nat->Prop)(l Bs:Nat)(ao:Option Addr)(m cap:Nat)(zs:List α)(hm:m=zs.length)(hreach:m≤1048576*1048576)(J Jx:List α->World->Prop)
 (hY:∀pre x W,J pre W->pre.length<zs.length->YieldAt F (n-1) Tryz.prog l #[f x] W fun e W'=>
  (e= .returned (.bool true)/\J (pre++ [x]) W'/\SameOn S W W')\/ (e= .returned (.bool false)/\Jx (pre++ [x]) W'))
 (W:World)(hSB:S Bs)(hSa:∀a,ao=some a->S a.block)(hBs:W.cell? ⟨Bs,0,none⟩=some (.slice ao m cap))(hc:CellsAt W ao (zs.map fun x=>f x))(h0:J [] W):
 CallsIn F n Tryz.prog 171 #[.func (.yield l) #[] #[],.pointer (some ⟨Bs,0,none⟩)] W fun e W'=>(∃v,e= .returned v)/\
  ((∃ys,ys=zs/\J ys W')\/ (∃pre,pre<+:zs/\Jx pre W')):=by
 have HC:=qH hc;have HM:=qH hm;clear hc hm;refine callsIn_of_wp Tryz.func171 rfl h7 ?_ hro;simp only [Tryz.ntmps171,List.size_toArray,List.length_cons,List.length_nil,Nat.reduceAdd,Nat.reduceSub,Array.replicate_succ,Array.replicate_zero,List.push_toArray,List.append_toArray,List.nil_append,List.cons_append];gi_wp2;gi_loopw [7] (fun i wr=>∃k:Nat,k≤m/\i= .int .i64 k/\J (zs.take k) wr/\SameOn S W wr)
  (fun i _=>m- (intOf i).toNat)
 case atStart=>exact⟨0,Nat.zero_le _,rfl,h0,SameOn.refl _ _⟩
 case round=>
  obtain⟨k,hk,rfl,hJs,hnx⟩:=hrel;by_cases hlt:k<m
  ·have hkl:k<zs.length:=by rw [<-HM.out];exact hlt
   obtain⟨x,hx⟩:∃x,zs[k]?=some x:=⟨_,qG hkl⟩;obtain⟨g,o,eao,c3⟩:=HC.out k (f x) (by rw [List.getElem?_map,hx];rfl);have c3':=(hnx.cell (o:=o+k) (hSa _ eao)).trans c3;have et:zs.take (k+1)=zs.take k++ [x]:=by rw [List.take_add_one,hx];rfl
   have ET:=qH et;have hy0:=hY _ x wr hJs (by rw [List.length_take];omega);have HX:=qH (nIX hx hkl);clear hx hkl et c3;subst eao;obtain⟨fn,tmps,assign,body,hy,hR⟩:=hy0;gi_wp2;refine hR.mono ?_;rintro e W3 (⟨rfl,hJ3,hk3⟩|⟨rfl,hJx3⟩)
   ·gi_wp2;go_roundw
    case rel=>exact⟨k+1,by omega,by simp,by rw [ET.out];exact hJ3,hnx.trans hk3⟩
    case measure=>first|(simp [intOf];done)|(simp [intOf];omega)
   ·gi_wp2;refine bodyPost_ret (results_none rfl _ _ _) rfl ?_;exact⟨⟨_,rfl⟩,.inr ⟨_,by rw [<-ET.out];exact List.take_prefix _ _,hJx3⟩⟩
  ·obtain rfl:k=m:=by omega
   gi_wp2
   go_end0
   exact⟨⟨_,rfl⟩,.inl ⟨_,by rw [HM.out,List.take_length],hJs⟩⟩
def IterVRow(w:World)(v:Value){α:Type}(f:α->Value)(zs:List α)(lo:Nat):Prop:=
 ∃Bs ao cap,v= .func (.func 171) #[] #[.pointer (some ⟨Bs,0,none⟩)]/\lo≤Bs/\(∀a,ao=some a->lo≤a.block/\a.block<w.heap.size)/\w.cell? ⟨Bs,0,none⟩=some (.slice ao zs.length cap)/\CellsAt w ao (zs.map fun x=>f x)/\zs.length≤1048576*1048576
theorem IterVRow.stops{w:World}{v:Value}{α:Type}{f:α->Value}{zs:List α}{lo:Nat}(h:IterVRow w v f zs lo)(F:Fence)(n:Nat)(h7:F.fn 171)(hro:F.round=none)(hn:1≤n):
 ∃Bs,v= .func (.func 171) #[] #[.pointer (some ⟨Bs,0,none⟩)]/\SeqStopsK F n Tryz.prog 171 #[.pointer (some ⟨Bs,0,none⟩)] (fun x=>#[f x]) (SameOn fun k=>lo≤k/\k<w.heap.size) (fun ys=>ys=zs) (fun pre=>pre<+:zs) zs.length w:=by
 obtain⟨Bs,ao,cap,h1,h2,h3,h4,h5,h6⟩:=h;refine⟨Bs,h1,fun l J Jx W hW _ _ hY h0=>?_⟩;have hb:=World.block_lt_of_cell? _ _ h4;exact jL f F n h7 hro hn _ l Bs ao zs.length cap zs rfl h6 J Jx hY W ⟨h2,hb⟩ (fun a e=>h3 a e) ((Kp.of_below hW).cell h4 id) (h5.ext (Kp.of_below hW)) h0
theorem IterRow.sub{w:World}{v:Value}{zs:List (Option Addr×Nat×Nat)}{lo:Nat}(h:IterRow w v zs lo):IterVRow w v (fun x:{x//x∈zs}=>(Value.slice (x.1).1 (x.1).2.1 (x.1).2.2)) zs.attach lo:=by
 obtain⟨Bs,ao,cap,h1,h2,h3,h4,h5,h6⟩:=h;refine⟨Bs,ao,cap,h1,h2,h3,by rw [List.length_attach];exact h4,?_,by rw [List.length_attach];exact h6⟩;have e:(zs.attach.map fun x:{x//x∈zs}=>(Value.slice (x.1).1 (x.1).2.1 (x.1).2.2))=zs.map fun x=>(Value.slice (x).1 (x).2.1 (x).2.2):=by
  have h:(zs.attach.map fun x:{x//x∈zs}=>(Value.slice (x.1).1 (x.1).2.1 (x.1).2.2))=(zs.attach.map Subtype.val).map fun x=>(Value.slice (x).1 (x).2.1 (x).2.2):=by rw [List.map_map];rfl
  rw [h,List.attach_map_subtype_val]
 rw [e];exact h5
end
section
open Go.RowKit
theorem dZ:cW Tryz.prog 34 9 1 16 (.string ⟨#[]⟩):=⟨by kernel_rfl,by kernel_rfl,rfl,by decide⟩
def vG(P:Program)(f:FuncId)(first captured:Array Value)(w0:World)(vs:List Value)(q:Nat->Bool):Prop:=
 (∀args w,(callFunc f args).run P w= .ok (Next.enter f args) w)/\∀w,Ext w0 w->∀i u,vs[i]?=some u->Calls P f (first.push u++captured) w fun e w'=>e= .returned (.bool (q i))/\Ext w w'
def aLf(n:Nat)(q:Nat->Bool)(w0:World)(iv:Value)(w:World):Prop:=
 ∃i:Nat,i≤n/\iv= .int .i64 i/\(∀j,j<i->q j=false)/\Ext w0 w
def aHv(n:Nat)(q:Nat->Bool)(v:Value):Prop:=(∃i:Nat,i<n/\v= .int .i64 i/\q i=true/\∀j,j<i->q j=false)\/ (v= .int .i64 (-1)/\∀j,j<n->q j=false)
set_option maxHeartbeats 2000000 in
theorem tK(vs:List Value)(ao:Option Addr)(c:Nat)(f:FuncId)(first captured:Array Value)(q:Nat->Bool)(w:World)(n:Nat)(hn:n=vs.length)
 (ha:CellsAt w ao vs)(hcmp:vG Tryz.prog f first captured w vs q)(hbig:n≤4611686018427387904):
 Calls Tryz.prog 161 #[.slice ao n c,.func (Fn.func f) first captured] w (RetN w fun w' v=>aHv n q v):=by
 have hent:=hcmp.1;have HC:=qH hcmp.2;clear hcmp;have HA:=qH ha;clear ha;have HN:=qH hn;clear hn;go_enter Tryz.func161,Tryz.ntmps161;go_wp2;go_loopw [8] (aLf n q w) (fun i _=>n- (intOf i).toNat)
 case atStart=>exact⟨0,Nat.zero_le _,rfl,by simp,Kp.refl _⟩
 case round=>
  obtain⟨i,hi,rfl,hq,hkp⟩:=hrel;have HQ:=qH hq;clear hq;by_cases hlt:i<n
  ·have g1:vs[i]?=some (vs[i]'(by have:=HN.out;omega)):=qG _;obtain⟨b1,o1,eao,c1⟩:=(HA.out.ext hkp) i _ g1;have hcall:=fun W hW=>HC.out W hW i _ g1;have HCall:=qH hcall;clear hcall;clear g1;generalize vs[i]'(by have:=HN.out;omega)=u at*;subst eao;cases hqi:q i
   ·rw [hqi]at HCall;have HI:=qH hqi;clear hqi;go_wp2_with fail
    refine(HCall.out _ hkp).mono ?_;rintro e w1 ⟨rfl,hk2⟩;have hkp2:=hkp.ext hk2;clear hk2 c1;go_wp2;go_roundw
    case rel=>
     refine⟨i+1,by omega,nMX,fun j hj=>?_,hkp2⟩;by_cases e:j=i
     ·subst e;exact HI.out
     ·exact HQ.out j (by omega)
    case measure=>first|(simp [intOf];done)|(simp [intOf];omega)
   ·rw [hqi]at HCall;have HI:=qH hqi;clear hqi;go_wp2_with fail
    refine(HCall.out _ hkp).mono ?_;rintro e w1 ⟨rfl,hk2⟩;have hkp2:=hkp.ext hk2;clear hk2 c1;go_wp2;go_ret;exact RetN.mk hkp2 (.inl ⟨i,hlt,rfl,HI.out,HQ.out⟩)
  ·have e:n=i:=by omega
   subst e;clear hlt hi;go_wp2;go_ret;exact RetN.mk hkp (.inr ⟨rfl,HQ.out⟩)
theorem pT(vs:List Value)(ao:Option Addr)(c:Nat)(f:FuncId)(first captured:Array Value)(q:Nat->Bool)(w:World)(n:Nat)(hn:n=vs.length)
 (ha:CellsAt w ao vs)(hcmp:vG Tryz.prog f first captured w vs q)(hbig:n≤4611686018427387904):
 Calls Tryz.prog 125 #[.slice ao n c,.func (Fn.func f) first captured] w (RetN w fun w' v=>v= .bool ((List.range n).any q)):=by
 have HI:=qH (tK vs ao c f first captured q w n hn ha hcmp hbig);clear ha hcmp hn;go_enter Tryz.func125,Tryz.ntmps125;go_wp2_with fail
 refine HI.out.mono ?_;rintro e w1 ⟨v,rfl,hk,⟨i,hi,rfl,hq,_⟩|⟨rfl,hq⟩⟩
 ·have t:(List.range n).any q=true:=List.any_eq_true.2 ⟨i,List.mem_range.2 hi,hq⟩;have HK:=qH (nIX hk t);clear hk hq t;go_wp2;go_ret;exact RetN.mk HK.out.1 (by rw [HK.out.2];first|rfl|simp)
 ·have t:(List.range n).any q=false:=by
   rw [List.any_eq_false];intro i hi;simp [hq i (List.mem_range.1 hi)]
  have HK:=qH (nIX hk t);clear hk hq t;go_wp2;go_ret;exact RetN.mk HK.out.1 (by rw [HK.out.2];first|rfl|simp)
theorem jE(vs:List Value)(ao:Option Addr)(cap:Nat)(w:World)(n:Nat)(hn:n=vs.length)(hc:CellsAt w ao vs)(h1:∀u∈vs,u.oneCell'=true)(hm:n*16≤140737488355328):
 Calls Tryz.prog 101 #[.slice ao n cap] w (RetN w fun w' v=>Row w' 9 1 v n vs (New w)):=by
 have hq:∀w:World,(binOp .eql 34 (.slice ao n cap) (.slice none 0 0)).run Tryz.prog w= .ok (.bool ao.isNone) w:=fun w=>Lib.run_eql_slice_nil w _ _ _ _ _ _ _ Tryz.underlying34;have HNN:=qH hn;clear hn;have hl:n≤maxLen:=by unfold maxLen;omega
 cases ao with
 |none=>
  have hv:vs= []:=by
   cases vs with
   |nil=>rfl
   |cons x vs=>obtain⟨b,o,h,_⟩:=hc.off (by simp);cases h
  subst hv;have h0:n=0:=HNN.out;subst h0;go_enter Tryz.func101,Tryz.ntmps101;go_wp2;go_ret;exact RetN.mk (Kp.refl _) (Row.nil _ _ _ _)
 |some a=>
  go_enter Tryz.func101,Tryz.ntmps101;go_wp2_with (first|(at_builtin;refine Halted.out ?_))
  refine Halted.mk (bO dZ rfl _ _ rfl ((Kp.refl (F:=fun _=>False) w).alloc _) rfl (Row.empty w 9 1 (New w) (Nat.le_refl _)) rfl (hc.alloc _) (by rw [HNN.out,Nat.mul_one]) h1 (by omega) (by omega) ?_);intro v1 w1 hr1 hk1 _ _;have HR:=qH hr1;clear hr1;go_wp2;go_ret;exact RetN.mk hk1 (by simpa using HR.out)
end
end Go.Proofs.YtinnmeiphbdogaaGreat
namespace Go.Proofs.YtinnmeiphbdogaaGreat
open Go.RowKit
abbrev gZ:=Option Addr×Nat×Nat
def ReadsAs(w:World)(x:gZ)(ss:List ByteArray):Prop:=x.2.1=ss.length/\CellsAt w x.1 (strs ss)
theorem ReadsAs.unique{w:World}{x:gZ}{a b:List ByteArray}(h:ReadsAs w x a)(h':ReadsAs w x b):a=b:=by obtain⟨h1,h2⟩:=h;obtain⟨h3,h4⟩:=h';refine List.ext_getElem (by omega) fun i hi hj=>?_;obtain⟨b1,o1,e1,c1⟩:=h2.str hi;obtain⟨b2,o2,e2,c2⟩:=h4.str hj;rw [e1]at e2;cases e2;rw [c1]at c2;simpa using c2
theorem yZ(w:World):∃con:gZ->List ByteArray,∀x ss,ReadsAs w x ss->con x=ss:=by
 have h:∀x:gZ,∃l:List ByteArray,∀ss,ReadsAs w x ss->l=ss:=fun x=>by
  by_cases hx:∃ss,ReadsAs w x ss
  ·obtain⟨ss,hs⟩:=hx;exact⟨ss,fun ss' hs'=>hs.unique hs'⟩
  ·exact⟨[],fun ss hs=>absurd ⟨ss,hs⟩ hx⟩
 exact⟨fun x=>Classical.choose (h x),fun x=>Classical.choose_spec (h x)⟩
def aAa(S:Nat->Prop)(w:World)(x:gZ):Prop:=∃ss,ReadsAs w x ss/\ss.length≤8796093021952/\∀a,x.1=some a->x.2.1≠0->S a.block
theorem ReadsAs.same{S:Nat->Prop}{w w':World}{x:gZ}{ss:List ByteArray}(h:ReadsAs w x ss)(hs:Same S w w')(ha:∀a,x.1=some a->x.2.1≠0->S a.block):ReadsAs w' x ss:=by
 refine⟨h.1,fun i u hu=>?_⟩;have hne:x.2.1≠0:=by have h1:=(List.getElem?_eq_some_iff.1 hu).1;simp only [strs,List.length_map]at h1;rw [h.1];omega
 obtain⟨b,o,e,c⟩:=h.2 i u hu;refine⟨b,o,e,?_⟩;rw [World.cell?_of_block (w:=w) (hs b (ha _ e hne)).2];exact c
theorem fG{α:Type}(f:α->List ByteArray):OrdLaw (fun x y=>aC (f x) (f y)):=
 ⟨fun x y=>by have:=oT (f x) (f y);omega,fun x y z h h'=>mO h h'⟩
theorem lA{S:Nat->Prop}{w:World}{con:gZ->List ByteArray}(hc:∀x ss,ReadsAs w x ss->con x=ss):
 OrdVRow Tryz.prog S w (.func (Fn.func 124) #[] #[]) (aAa S w) (fun x y=>aC (con x) (con y)):=by
 refine .inr ⟨_,_,_,rfl,enters_of Tryz.func124 (by kernel_rfl) rfl,fun w' hw x y hx hy=>?_⟩;obtain⟨xs,hx1,hx2,hx3⟩:=hx;obtain⟨ys,hy1,hy2,hy3⟩:=hy;have ex:=hc x xs hx1;have ey:=hc y ys hy1;have hx':=hx1.same hw hx3;have hy':=hy1.same hw hy3;obtain⟨ax,nx,cx⟩:=x;obtain⟨ay,ny,cy⟩:=y;obtain⟨h1,h2⟩:=hx';obtain⟨h3,h4⟩:=hy';simp only at h1 h2 h3 h4;subst h1 h3;simp only [ex,ey];refine(sV xs ys ax ay cx cy w' h2 h4 (by unfold maxLen;omega) (by unfold maxLen;omega)).mono ?_;rintro e w2 ⟨rfl,rfl⟩;exact⟨rfl,Kp.refl w'⟩
def RowsAt(S:Nat->Prop)(w:World)(b:Nat)(iv:Value)(arity:Nat)(LL:List (List ByteArray)):Prop:=
 ∃con zs,(∀x ss,ReadsAs w x ss->con x=ss)/\SetAtRow Tryz.prog S w b (.func (Fn.func 124) #[] #[]) iv [.int .i64 arity] 135 (aAa S w) (fun x y=>aC (con x) (con y)) zs/\zs.map con=LL
theorem aAz(s:ByteArray)(w:World):Calls Tryz.prog 84 #[.string s] w (Ret (.bool (decide (1≤s.size/\s.size≤4096))) w):=by
 by_cases h1:1≤s.size
 ·have q1:(1:Int)≤(s.size:Int):=by omega
  by_cases h2:s.size≤4096
  ·have q2:(s.size:Int)≤4096:=by omega
   have H:=qH (nIX h1 h2);go_enter Tryz.func84,Tryz.ntmps84;go_wp2;go_ret;exact Ret.mk (by simp [H.out.1,H.out.2])
  ·have q2:¬(s.size:Int)≤4096:=by omega
   have H:=qH h2;go_enter Tryz.func84,Tryz.ntmps84;go_wp2;go_ret;exact Ret.mk (by simp)
 ·have q1:¬(1:Int)≤(s.size:Int):=by omega
  have H:=qH h1;go_enter Tryz.func84,Tryz.ntmps84;go_wp2;go_ret;exact Ret.mk (by simp)
theorem aCz(s:ByteArray)(w:World):Calls Tryz.prog 126 #[.string s] w (Ret (.bool (decide (4096<s.size))) w):=by
 by_cases h:4096<s.size
 ·have q:(4096:Int)< (s.size:Int):=by omega
  have H:=qH h;go_enter Tryz.func126,Tryz.ntmps126;go_wp2;go_ret;exact Ret.mk (by simp [H.out])
 ·have q:¬(4096:Int)< (s.size:Int):=by omega
  have H:=qH h;go_enter Tryz.func126,Tryz.ntmps126;go_wp2;go_ret;exact Ret.mk (by simp)
def bP(ss:List ByteArray):Bool:=ss.all fun s=>decide (s.size≤4096)
theorem sW(ss:List ByteArray)(ao:Option Addr)(n c:Nat)(w:World)(hn:n=ss.length)(hc:CellsAt w ao (strs ss))(hl:n≤4611686018427387904):
 Calls Tryz.prog 86 #[.slice ao n c] w (RetN w fun w' v=>v= .bool (bP ss)):=by
 have hent:∀args w,(callFunc 126 args).run Tryz.prog w= .ok (.enter 126 args) w:=enters_of Tryz.func126 (by kernel_rfl) rfl;have hi:=pT (strs ss) ao c 126 #[] #[] (fun i=>decide (4096< (ss[i]?.getD ⟨#[]⟩).size)) w n (by simp [strs,hn]) hc ⟨hent,fun w' _ i u hu=>by
  rw [strs,List.getElem?_map]at hu;cases hs:ss[i]? with
  |none=>rw [hs]at hu;cases hu
  |some s=>
   rw [hs]at hu;cases hu;refine(aCz s w').mono ?_;rintro e w2 ⟨rfl,rfl⟩;exact⟨by simp [hs],Kp.refl _⟩⟩ hl
 have key:(!(List.range n).any fun i=>decide (4096< (ss[i]?.getD ⟨#[]⟩).size))=bP ss:=by
  rw [Bool.eq_iff_iff];simp only [Bool.not_eq_true',List.any_eq_false,List.mem_range,decide_eq_true_eq,bP,List.all_eq_true];constructor
  ·intro h s hs;obtain⟨i,hi,rfl⟩:=List.mem_iff_getElem.1 hs;have:=h i (by omega);simp only [qG hi,Option.getD_some]at this;omega
  ·intro h i hi;have hi':i<ss.length:=by omega
   have:=h ss[i] (List.getElem_mem _);simp only [qG hi',Option.getD_some];omega
 have HI:=qH (nIX hi key);clear hi key hent hc hn;go_enter Tryz.func86,Tryz.ntmps86;go_wp2_with fail
 refine HI.out.1.mono ?_;rintro e w1 ⟨v,rfl,hk,rfl⟩;have HK:=qH hk;clear hk;go_wp2;go_ret;exact RetN.mk HK.out (by rw [<-HI.out.2];rfl)
end Go.Proofs.YtinnmeiphbdogaaGreat
namespace Go.Proofs.YtinnmeiphbdogaaGreat
open Go.RowKit
section
variable {S S':Nat->Prop}{w w':World}{b:Nat}{iv:Value}{arity:Nat}{LL:List (List ByteArray)}
theorem RowsAt.move{F:Nat->Prop}(h:RowsAt S w b iv arity LL)(hk:Kp F w w')(hF:∀k,F k->¬dY b iv k)(hS:∀k,F k->¬S k)(hsub:∀k,S k->S' k)(hin:∀k,S' k->k<w'.heap.size)(hno:∀k,dY b iv k->¬S' k):
 RowsAt S' w' b iv arity LL:=by
 obtain⟨con,zs,hc,hs,hl⟩:=h;obtain⟨con',hc'⟩:=yZ w';have hs':=hs.kp hk hF hS;have hsame:Same S w w':=hk.same hs.inS fun k h1 h2=>hS k h2 h1;have all:∀z∈zs,aAa S' w' z/\con' z=con z:=fun z hz=>by obtain⟨ss,h1,h2,h3⟩:=hs.all z hz;have h1':=h1.same hsame h3;exact⟨⟨ss,h1',h2,fun a e hne=>hsub _ (h3 a e hne)⟩,by rw [hc' z ss h1',hc z ss h1]⟩
 refine⟨con',zs,hc',⟨hs'.blk,hs'.row,hs'.apart,hin,hno,lA hc',fun z hz=>(all z hz).1,hs.len⟩,?_⟩;rw [<-hl];exact List.map_congr_left fun z hz=>(all z hz).2
theorem RowsAt.ext(h:RowsAt S w b iv arity LL)(hk:Ext w w'):RowsAt S w' b iv arity LL:=by have hb:=h;obtain⟨con,zs,hc,hs,hl⟩:=hb;exact h.move hk (fun _ x=>x.elim) (fun _ x=>x.elim) (fun _ h=>h) (fun k hk'=>Nat.lt_of_lt_of_le (hs.inS k hk') hk.size) hs.notS
theorem RowsAt.blk(h:RowsAt S w b iv arity LL):Blk w b [.func (Fn.func 124) #[] #[],iv,.int .i64 arity] 135:=by obtain⟨con,zs,hc,hs,hl⟩:=h;exact hs.blk
theorem aDb(w:World):Calls Tryz.prog 99 #[.pointer none] w (Ret (.pointer none) w):=by go_enter Tryz.func99,Tryz.ntmps99;go_wp2;go_ret;exact Ret.mk rfl
theorem iQ(h:RowsAt S w b iv arity LL):Calls Tryz.prog 99 #[.pointer (some ⟨b,0,none⟩)] w (Ret (.pointer (some ⟨b,0,none⟩)) w):=by
 have c0:=h.blk.c0;have hq:∀w:World,(binOp .eql 131 (.func (Fn.func 124) #[] #[]) .nilFunc).run Tryz.prog w= .ok (.bool false) w:=fun _=>by kernel_rfl
 clear h;go_enter Tryz.func99,Tryz.ntmps99;go_wp2;go_ret;exact Ret.mk rfl
theorem aDc(h:RowsAt S w b iv arity LL):Calls Tryz.prog 105 #[.pointer (some ⟨b,0,none⟩)] w (Ret (.int .i64 (LL.length:Nat)) w):=by
 have H:=qH h;obtain⟨con,zs,hc,hs,hl⟩:=h;have HS:=qH hs;have HL:=qH (show zs.length=LL.length by rw [<-hl];simp);clear hs hc hl;go_enter Tryz.func105,Tryz.ntmps105;go_wp2_with fail
 refine(iQ H.out).mono ?_;rintro e w' ⟨rfl,rfl⟩;go_wp2_with fail
 refine(pW HS.out).mono ?_;rintro e w' ⟨rfl,rfl⟩;go_wp2;go_ret;exact Ret.mk (by rw [<-HL.out];rfl)
theorem aF2(S:Nat->Prop)(w:World)(a:Nat)(hS:∀k,S k->k<w.heap.size):
 RowsAt S (w.alloc (.cells #[.func (Fn.func 124) #[] #[],.slice none 0 0,.int .i64 a] 135)) w.heap.size (.slice none 0 0) a []:=by
 obtain⟨con,hc⟩:=yZ (w.alloc (.cells #[.func (Fn.func 124) #[] #[],.slice none 0 0,.int .i64 a] 135));refine⟨con,[],hc,⟨Blk.new w [.func (Fn.func 124) #[] #[],.slice none 0 0,.int .i64 a] 135,Row.nil _ _ _ _,by simp [Value.ownBlock],fun k hk=>by rw [aJ];have:=hS k hk;omega,fun k ho hs=>?_,lA hc,by simp,by simp⟩,rfl⟩;rcases ho with rfl|ho
 ·have:=hS _ hs;omega
 ·cases ho
theorem kI(S:Nat->Prop)(w:World)(a:Nat)(ha:a≤64)(hS:∀k,S k->k<w.heap.size):
 Calls Tryz.prog 85 #[.int .i64 a] w (RetN w fun w' v=>v= .tuple #[.pointer (some ⟨w.heap.size,0,none⟩),.int .i64 0]/\RowsAt S w' w.heap.size (.slice none 0 0) a []):=by
 have HR:=qH (aF2 S w a hS);have q1:¬(a:Int)<0:=by omega
 have q2:¬(64:Int)< (a:Int):=by omega
 clear hS;go_enter Tryz.func85,Tryz.ntmps85;go_wp2;go_ret2;exact RetN.mk ((Kp.refl w).alloc _) ⟨rfl,HR.out⟩
end
end Go.Proofs.YtinnmeiphbdogaaGreat
namespace Go.Proofs.YtinnmeiphbdogaaGreat
open Go.RowKit
def RowIn(w:World)(x:gZ)(ss:List ByteArray):Prop:=ReadsAs w x ss/\ss.length≤8796093021952/\∀a,x.1=some a->x.2.1≠0->a.block<w.heap.size
def kE(x:gZ)(F:Nat->Prop):Prop:=∀a,x.1=some a->x.2.1≠0->¬F a.block
def mH(S:Nat->Prop)(x:gZ):Nat->Prop:=fun k=>S k\/∃a,x.1=some a/\x.2.1≠0/\a.block=k
section
variable {S:Nat->Prop}{w w':World}{b:Nat}{iv:Value}{arity:Nat}{LL:List (List ByteArray)}
theorem RowsAt.inS(h:RowsAt S w b iv arity LL):∀k,S k->k<w.heap.size:=by obtain⟨con,zs,hc,hs,hl⟩:=h;exact hs.inS
theorem RowsAt.notS(h:RowsAt S w b iv arity LL):∀k,dY b iv k->¬S k:=by obtain⟨con,zs,hc,hs,hl⟩:=h;exact hs.notS
theorem RowsAt.pool(h:RowsAt S w b iv arity LL){x:gZ}{ss:List ByteArray}(hx:RowIn w x ss)(ho:kE x (dY b iv)):RowsAt (mH S x) w b iv arity LL:=by
 refine h.move (F:=fun _=>False) (Kp.refl w) (fun _ x=>x.elim) (fun _ x=>x.elim) (fun k hk=> .inl hk) (fun k hk=>?_) (fun k hk hs=>?_)
 ·rcases hk with hk|⟨a,e,hne,rfl⟩
  ·exact h.inS k hk
  ·exact hx.2.2 a e hne
 ·rcases hs with hs|⟨a,e,hne,rfl⟩
  ·exact h.notS k hk hs
  ·exact ho a e hne hk
theorem RowsAt.open(h:RowsAt S w b iv arity LL)(hst:Strict aC LL){x:gZ}{ss:List ByteArray}(hx:RowIn w x ss)(ho:kE x (dY b iv)):
 ∃con zs,(∀x ss,ReadsAs w x ss->con x=ss)/\SetAtRow Tryz.prog (mH S x) w b (.func (Fn.func 124) #[] #[]) iv [.int .i64 arity] 135 (aAa (mH S x) w) (fun x y=>aC (con x) (con y)) zs/\zs.map con=LL/\
  aAa (mH S x) w x/\con x=ss/\Strict (fun x y=>aC (con x) (con y)) zs/\bD (fun x y=>aC (con x) (con y)) zs x=bD aC LL ss/\below (fun x y=>aC (con x) (con y)) zs x=below aC LL ss:=by
 obtain⟨con,zs,hc,hs,hl⟩:=h.pool hx ho;have ex:=hc x ss hx.1;refine⟨con,zs,hc,hs,hl,⟨ss,hx.1,hx.2.1,fun a e hne=> .inr ⟨a,e,hne,rfl⟩⟩,ex,?_,?_,?_⟩
 ·rw [<-hl]at hst;exact List.pairwise_map.1 hst
 ·rw [<-hl,<-ex];simp [bD,List.any_map,Function.comp_def]
 ·rw [<-hl,<-ex];simp [below,List.filter_map,Function.comp_def]
theorem nU(h:RowsAt S w b iv arity LL)(hst:Strict aC LL){x:gZ}{ss:List ByteArray}(hx:RowIn w x ss)(ho:kE x (dY b iv)):
 Calls Tryz.prog 87 #[.pointer (some ⟨b,0,none⟩),.slice x.1 x.2.1 x.2.2] w (RetN w fun w' v=>v= .bool (bD aC LL ss)):=by
 have H:=qH h;obtain⟨con,zs,hc,hs,hl,hd,ex,hz,e1,e2⟩:=h.open hst hx ho;have HF:=qH (pX (fG con) x hd hz hs);rw [e1]at HF;clear h hst hx ho hc hs hl hd ex hz e1 e2;go_enter Tryz.func87,Tryz.ntmps87;go_wp2_with fail
 refine(iQ H.out).mono ?_;rintro e w' ⟨rfl,rfl⟩;go_wp2_with fail
 refine HF.out.mono ?_;rintro e w1 ⟨v,rfl,hk,rfl⟩;have HK:=qH hk;clear hk;go_wp2;go_ret;exact RetN.mk HK.out rfl
theorem RowsAt.of_set{S':Nat->Prop}{w1 w2:World}{con:gZ->List ByteArray}{zs:List gZ}(hc:∀x ss,ReadsAs w1 x ss->con x=ss)(hsame:Same S' w1 w2)
 (h:SetAtRow Tryz.prog S' w2 b (.func (Fn.func 124) #[] #[]) iv [.int .i64 arity] 135 (aAa S' w1) (fun x y=>aC (con x) (con y)) zs):RowsAt S' w2 b iv arity (zs.map con):=by
 obtain⟨con',hc'⟩:=yZ w2;have all:∀z∈zs,aAa S' w2 z/\con' z=con z:=fun z hz=>by have hd:=h.all z hz;obtain⟨ss,h1,h2,h3⟩:=hd;have h1':=h1.same hsame h3;exact⟨⟨ss,h1',h2,h3⟩,by rw [hc' z ss h1',hc z ss h1]⟩
 exact⟨con',zs,hc',⟨h.blk,h.row,h.apart,h.inS,h.notS,lA hc',fun z hz=>(all z hz).1,h.len⟩,List.map_congr_left fun z hz=>(all z hz).2⟩
def aI(arity:Nat)(LL:List (List ByteArray))(ss:List ByteArray):Bool×Nat:=
 if ss.length≠arity then(false,30)else if bP ss=false then(false,31)else if 65536≤LL.length/\bD aC LL ss=false then(false,4)else(!bD aC LL ss,0)
def aP(arity:Nat)(LL:List (List ByteArray))(ss:List ByteArray):List (List ByteArray):=if(aI arity LL ss).2=0 then bT aC LL ss else LL
theorem aH3(h:RowsAt S w b iv arity LL)(hst:Strict aC LL){ao:Option Addr}{n cap:Nat}{ss:List ByteArray}{w1:World}(hk:Ext w w1)(hr:Row w1 9 1 (.slice ao n cap) n (strs ss) (New w))(hn:n=ss.length)(hl:n≤8796093021952)(hLL:LL.length+1≤1048576*1048576):
 Calls Tryz.prog 128 #[.pointer (some ⟨b,0,none⟩),.slice ao n cap] w1 (RetF (dY b iv) w1 fun w' v=>v= .bool (!bD aC LL ss)/\
  ∃iv',RowsAt (mH S (ao,n,cap)) w' b iv' arity (bT aC LL ss)/\∀k,iv'.ownBlock=some k->iv.ownBlock=some k\/w1.heap.size≤k):=by
 have hx:RowIn w1 (ao,n,cap) ss:=by obtain⟨ao',cap',e,hc,_⟩:=hr.shape;cases e;refine⟨⟨hn,hc⟩,by omega,fun a e _=>?_⟩;have e':ao=some a:=e;subst e';exact hr.lt a.block rfl
 have ho:kE (ao,n,cap) (dY b iv):=fun a e _ ho=>by
  have e':ao=some a:=e;subst e';have h1:w.heap.size≤a.block:=hr.block a.block rfl;have h2:a.block<w.heap.size:=by
   obtain⟨con,zs,hc,hs,hl⟩:=h;rcases ho with ho|ho
   ·rw [ho];exact hs.blk.lt
   ·exact hs.row.lt _ ho
  omega
 obtain⟨con,zs,hc,hs,hlz,hd,ex,hz,e1,e2⟩:=(h.ext hk).open hst hx ho;have hzl:zs.length=LL.length:=by rw [<-hlz];simp
 refine(zM (fG con) (ao,n,cap) hd hz hs (by omega)).mono ?_;rintro e w2 ⟨v,rfl,hk2,rfl,iv',hs2,hiv⟩;refine RetF.mk hk2 ⟨by rw [e1],iv',?_,hiv⟩;have hsame:Same (mH S (ao,n,cap)) w1 w2:=hk2.same hs.inS fun k h1 h2=>hs.notS k h2 h1;have:=RowsAt.of_set hc hsame hs2
 rwa [<-aM2 con zs (ao,n,cap),hlz,ex]at this
end
end Go.Proofs.YtinnmeiphbdogaaGreat
namespace Go.Proofs.YtinnmeiphbdogaaGreat
open Go.RowKit
section
variable {S:Nat->Prop}{w w':World}{b:Nat}{iv:Value}{arity:Nat}{LL:List (List ByteArray)}
def RowsAdded(S:Nat->Prop)(w:World)(b:Nat)(iv:Value)(arity:Nat)(LL:List (List ByteArray))(ss:List ByteArray)(w':World)(v:Value):Prop:=
 v= .tuple #[.bool (aI arity LL ss).1,.int .i64 ((aI arity LL ss).2:Nat)]/\
  ∃S' iv',(∀k,S k->S' k)/\(∀k,S' k->S k\/w.heap.size≤k)/\RowsAt S' w' b iv' arity (aP arity LL ss)/\∀k,iv'.ownBlock=some k->iv.ownBlock=some k\/w.heap.size≤k
theorem RowsAdded.same(h:RowsAt S w b iv arity LL){ss:List ByteArray}{w1:World}(hk:Ext w w1){v:Value}(hv:v= .tuple #[.bool (aI arity LL ss).1,.int .i64 ((aI arity LL ss).2:Nat)])(h0:aP arity LL ss=LL):RowsAdded S w b iv arity LL ss w1 v:=
 ⟨hv,S,iv,fun _ h=>h,fun _ h=> .inl h,by rw [h0];exact h.ext hk,fun _ h=> .inl h⟩
set_option maxHeartbeats 2000000 in
theorem nW(h:RowsAt S w b iv arity LL)(hst:Strict aC LL){ao:Option Addr}{n cap:Nat}{ss:List ByteArray}(hx:RowIn w (ao,n,cap) ss)(ho:kE (ao,n,cap) (dY b iv))(hLL:LL.length+1≤1048576*1048576):
 Calls Tryz.prog 88 #[.pointer (some ⟨b,0,none⟩),.slice ao n cap] w (RetF (dY b iv) w (RowsAdded S w b iv arity LL ss)):=by
 have hn:n=ss.length:=hx.1.1;have hcs:CellsAt w ao (strs ss):=hx.1.2;have hl:ss.length≤8796093021952:=hx.2.1;have c2:=h.blk.c2;have HT:=qH (sW ss ao n cap w hn hcs (by omega));have HH:=qH (fun w1 (hw:Ext w w1)=>nU (h.ext hw) hst (x:=(ao,n,cap)) (ss:=ss) ⟨⟨hn,hcs.ext hw⟩,hl,fun a e hne=>Nat.lt_of_lt_of_le (hx.2.2 a e hne) hw.size⟩ ho);have HLN:=qH (fun w1 (hw:Ext w w1)=>aDc (h.ext hw));have HS:=qH (fun w1 (hw:Ext w w1)=>iQ (h.ext hw));have HCL:=qH (fun w1 (hw:Ext w w1)=>jE (strs ss) ao cap w1 n (by simp [strs,hn]) (hcs.ext hw) (gP ss) (by omega));have HP:=qH (fun w0 w1 ao1 cap1 (hw:Ext w w0) (hk:Ext w0 w1) hr=>aH3 (w:=w0) (w1:=w1) (ao:=ao1) (n:=n) (cap:=cap1) (h.ext hw) hst hk hr hn (by omega) hLL);have H:=qH h;have HN:=qH hn;clear h hst hx ho hcs hn;obtain⟨m,em⟩:∃m,m=LL.length:=⟨_,rfl⟩;rw [<-em]at HLN hLL;have EM:=qH em;clear em hLL;by_cases h1:n=arity
 ·have q1:((n:Int) !=(arity:Int))=false:=by simp [h1]
  have H1:=qH h1;clear h1;cases ht:bP ss with
  |false=>
   have HTX:=qH ht;rw [ht]at HT;clear ht;go_enter Tryz.func88,Tryz.ntmps88;go_wp2_with fail
   refine HT.out.mono ?_;rintro e w1 ⟨v,rfl,hk,rfl⟩;have HK:=qH hk;clear hk;go_wp2;go_ret2;have e0:aI arity LL ss=(false,31):=by unfold aI;rw [if_neg (by rw [<-HN.out,H1.out];simp),if_pos HTX.out]
   exact RetF.mk (Ext.kp HK.out) (RowsAdded.same H.out HK.out (by rw [e0];rfl) (by unfold aP;rw [e0];rfl))
  |true=>
   have HTX:=qH ht;rw [ht]at HT;clear ht;by_cases hf:65536≤m
   ·have q2:decide ((65536:Int)≤(m:Int))=true:=by rw [decide_eq_true_iff];omega
    have HF:=qH hf;clear hf;cases hi:bD aC LL ss with
    |false=>
     have HI:=qH hi;rw [hi]at HH;clear hi;go_enter Tryz.func88,Tryz.ntmps88;go_wp2_with fail
     refine HT.out.mono ?_;rintro e w0 ⟨v,rfl,hk0,rfl⟩;go_wp2_with fail
     refine(HLN.out w0 hk0).mono ?_;rintro e w' ⟨rfl,rfl⟩;go_wp2_with fail
     refine(HH.out w0 hk0).mono ?_;rintro e w1 ⟨v,rfl,hk01,rfl⟩;have hk1:=hk0.trans hk01;clear hk0 hk01;have HK:=qH hk1;clear hk1;go_wp2;go_ret2;have e0:aI arity LL ss=(false,4):=by unfold aI;rw [if_neg (by rw [<-HN.out,H1.out];simp),if_neg (by rw [HTX.out];simp),if_pos ⟨EM.out▸HF.out,HI.out⟩]
     exact RetF.mk (Ext.kp HK.out) (RowsAdded.same H.out HK.out (by rw [e0];rfl) (by unfold aP;rw [e0];rfl))
    |true=>
     have HI:=qH hi;rw [hi]at HH;clear hi;go_enter Tryz.func88,Tryz.ntmps88;go_wp2_with fail
     refine HT.out.mono ?_;rintro e w0 ⟨v,rfl,hk0,rfl⟩;go_wp2_with fail
     refine(HLN.out w0 hk0).mono ?_;rintro e w' ⟨rfl,rfl⟩;go_wp2_with fail
     refine(HH.out w0 hk0).mono ?_;rintro e w1 ⟨v,rfl,hk01,rfl⟩;have hk1:=hk0.trans hk01;clear hk0 hk01;go_wp2_with fail
     refine(HS.out w1 hk1).mono ?_;rintro e w' ⟨rfl,rfl⟩;go_wp2_with fail
     refine(HCL.out w1 hk1).mono ?_;rintro e w2 ⟨v,rfl,hk2,hr2⟩;obtain⟨ao2,cap2,ev,_,_⟩:=hr2.shape;subst ev;go_wp2_with fail
     refine(HP.out w1 w2 ao2 cap2 hk1 hk2 hr2).mono ?_;rintro e w3 ⟨v,rfl,hk3,rfl,iv',hrows,hiv⟩;have HR:=qH (nIX hk3 (nIX hrows hiv));have hb2:=hr2.block;clear hk3 hrows hiv hr2;go_wp2;go_ret2;have e0:aI arity LL ss=(!bD aC LL ss,0):=by unfold aI;rw [if_neg (by rw [<-HN.out,H1.out];simp),if_neg (by rw [HTX.out];simp),if_neg (fun h=>by rw [HI.out]at h;cases h.2)]
     have z1:=hk1.size;have z2:=hk2.size;refine RetF.mk ((Ext.kp (hk1.trans hk2)).trans HR.out.1) ⟨by rw [e0];rfl,mH S (ao2,n,cap2),iv',fun k h=> .inl h,fun k h=>?_,by unfold aP;rw [e0];exact HR.out.2.1,fun k h=>(HR.out.2.2 k h).imp id (fun h=>by omega)⟩;rcases h with h|⟨a,e,_,rfl⟩
     ·exact .inl h
     ·have e':ao2=some a:=e;subst e';have:=hb2 a.block rfl;exact .inr (Nat.le_trans z1 this)
   ·have q2:decide ((65536:Int)≤(m:Int))=false:=by rw [decide_eq_false_iff_not];omega
    have HF:=qH hf;clear hf;go_enter Tryz.func88,Tryz.ntmps88;go_wp2_with fail
    refine HT.out.mono ?_;rintro e w1 ⟨v,rfl,hk1,rfl⟩;go_wp2_with fail
    refine(HLN.out w1 hk1).mono ?_;rintro e w' ⟨rfl,rfl⟩;go_wp2_with fail
    refine(HS.out w1 hk1).mono ?_;rintro e w' ⟨rfl,rfl⟩;go_wp2_with fail
    refine(HCL.out w1 hk1).mono ?_;rintro e w2 ⟨v,rfl,hk2,hr2⟩;obtain⟨ao2,cap2,ev,_,_⟩:=hr2.shape;subst ev;go_wp2_with fail
    refine(HP.out w1 w2 ao2 cap2 hk1 hk2 hr2).mono ?_;rintro e w3 ⟨v,rfl,hk3,rfl,iv',hrows,hiv⟩;have HR:=qH (nIX hk3 (nIX hrows hiv));have hb2:=hr2.block;clear hk3 hrows hiv hr2;go_wp2;go_ret2;have e0:aI arity LL ss=(!bD aC LL ss,0):=by unfold aI;rw [if_neg (by rw [<-HN.out,H1.out];simp),if_neg (by rw [HTX.out];simp),if_neg (fun h=>HF.out (EM.out▸h.1))]
    have z1:=hk1.size;have z2:=hk2.size;refine RetF.mk ((Ext.kp (hk1.trans hk2)).trans HR.out.1) ⟨by rw [e0];rfl,mH S (ao2,n,cap2),iv',fun k h=> .inl h,fun k h=>?_,by unfold aP;rw [e0];exact HR.out.2.1,fun k h=>(HR.out.2.2 k h).imp id (fun h=>by omega)⟩;rcases h with h|⟨a,e,_,rfl⟩
    ·exact .inl h
    ·have e':ao2=some a:=e;subst e';have:=hb2 a.block rfl;exact .inr (Nat.le_trans z1 this)
 ·have q1:((n:Int) !=(arity:Int))=true:=by rw [bne_iff_ne];omega
  have H1:=qH h1;clear h1;go_enter Tryz.func88,Tryz.ntmps88;go_wp2;go_ret2;have e0:aI arity LL ss=(false,30):=by unfold aI;rw [if_pos (by rw [<-HN.out];exact H1.out)]
  exact RetF.mk (Kp.refl _) (RowsAdded.same H.out (Kp.refl _) (by rw [e0];rfl) (by unfold aP;rw [e0];rfl))
end
end Go.Proofs.YtinnmeiphbdogaaGreat
namespace Go.Proofs.YtinnmeiphbdogaaGreat
section
abbrev aZ:=ByteArray×Nat×List (List ByteArray)
abbrev eJ:=ByteArray×Int×List (List ByteArray)×Unit
abbrev aD:=List (List ByteArray)
theorem dX:OrdLaw aC:=fG id
theorem sM:aIu aC:=fun _ _ h=>iT h
def bL(C:List aZ)(s:ByteArray):Option (Nat×aD):=(C.find? fun p=>decide (p.1=s)).map (·.2)
def jB(C:List aZ)(s:ByteArray)(v:Nat×aD):List aZ:=if(bL C s).isSome then C.map fun p=>if p.1=s then(p.1,v)else p else C++ [(s,v)]
def aX(C:List aZ):Nat:=(C.map fun p=>p.2.2.length).sum
def bZ(s:ByteArray):Bool:=decide (1≤s.size/\s.size≤4096)
def dC(C:List aZ)(s:ByteArray)(a:Int):Nat:=if bZ s=false then 32 else if a<0\/64<a then 2 else match bL C s with|some v=>if(v.1:Int)=a then 0 else 30|none=>0
def cV(C:List aZ)(s:ByteArray)(a:Int):List aZ:=if dC C s a=0/\bL C s=none then C++ [(s,a.toNat,[])]else C
def bG(C:List aZ)(s:ByteArray):aD:=match bL C s with|some v=>v.2|none=> []
def oX(C:List aZ)(s:ByteArray)(row:List ByteArray):Bool:=match bL C s with|some v=>decide (v.1=row.length)|none=>decide (row.length≤64)
def dD(C:List aZ)(s:ByteArray)(row:List ByteArray):Bool×Nat:=
 if bZ s=false then(false,32)else
 if oX C s row=false then(false,30)else
 if bP row=false then(false,31)else
 if 262144≤aX C/\bD aC (bG C s) row=false then(false,4)else
 if 65536≤(bG C s).length/\bD aC (bG C s) row=false then(false,4)else(!bD aC (bG C s) row,0)
def fN(C:List aZ)(s:ByteArray)(row:List ByteArray):List aZ:=if(dD C s row).2=0 then jB C s (row.length,bT aC (bG C s) row)else C
def dA(C:List aZ)(s:ByteArray):aD->List aZ×Nat
 | []=>(C,0)
 |r::rs=>if(dD C s r).2=0 then dA (fN C s r) s rs else(C,(dD C s r).2)
def bX(C:List aZ):List eJ->List aZ×Nat
 | []=>(C,0)
 |r::rs=>if dC C r.1 r.2.1=0 then(if(dA (cV C r.1 r.2.1) r.1 r.2.2.1).2=0 then bX (dA (cV C r.1 r.2.1) r.1 r.2.2.1).1 rs else dA (cV C r.1 r.2.1) r.1 r.2.2.1)else(C,dC C r.1 r.2.1)
structure CntOk(p:aZ):Prop where
 name:bZ p.1=true
 ar:p.2.1≤64
 strict:Strict aC p.2.2
 len:∀r∈p.2.2,r.length=p.2.1
 txt:∀r∈p.2.2,bP r=true
 few:p.2.2.length≤65536
structure BaseOk(C:List aZ):Prop where
 nodup:(C.map (·.1)).Nodup
 all:∀p∈C,CntOk p
 few:aX C≤262144
theorem dT{C:List aZ}(h:(C.map (·.1)).Nodup){s:ByteArray}{v:Nat×aD}:bL C s=some v↔(s,v)∈C:=by
 unfold bL;induction C with
 |nil=>simp
 |cons p C ih=>
  rw [List.map_cons,List.nodup_cons]at h;by_cases e:p.1=s
  ·rw [List.find?_cons_of_pos (by simp [e])];subst e;simp only [Option.map_some,Option.some.injEq,List.mem_cons];constructor
   ·rintro rfl;exact .inl rfl
   ·rintro(h1|h1)
    ·rw [<-h1]
    ·exact absurd (List.mem_map.2 ⟨_,h1,rfl⟩) h.1
  ·rw [List.find?_cons_of_neg (by simp [e]),ih h.2,List.mem_cons];constructor
   ·exact .inr
   ·rintro(h1|h1)
    ·exact absurd (by rw [<-h1]) e
    ·exact h1
theorem jI{C:List aZ}{s:ByteArray}:bL C s=none↔s∉C.map (·.1):=by
 unfold bL;rw [Option.map_eq_none_iff,List.find?_eq_none];constructor
 ·intro h hm;obtain⟨p,hp,rfl⟩:=List.mem_map.1 hm;exact h p hp (by simp)
 ·intro h p hp hd;exact h (List.mem_map.2 ⟨p,hp,by simpa using hd⟩)
theorem sH{C:List aZ}{s t:ByteArray}{v:Nat×aD}(h:bL C s=none):bL (C++ [(s,v)]) t=if s=t then some v else bL C t:=by
 unfold bL at*;rw [List.find?_append];by_cases e:s=t
 ·subst e;rw [Option.map_eq_none_iff]at h;rw [h,if_pos rfl];simp
 ·rw [if_neg e];cases hc:C.find? (fun p=>decide (p.1=t))with
  |none=>simp [e]
  |some x=>simp
theorem oM{C:List aZ}{s t:ByteArray}{v:Nat×aD}:bL (jB C s v) t=if s=t then some v else bL C t:=by
 unfold jB;cases hg:bL C s with
 |none=>rw [if_neg (by simp)];exact sH hg
 |some u=>
  rw [if_pos (by simp)];unfold bL at*;rw [List.find?_map];have hf:((fun p:aZ=>decide (p.1=t)) ∘ fun p:aZ=>if p.1=s then(p.1,v)else p)=fun p=>decide (p.1=t):=by funext p;simp only [Function.comp];split<;>rfl
  rw [hf];by_cases e:s=t
  ·subst e;rw [if_pos rfl];cases hc:C.find? (fun p=>decide (p.1=s))with
   |none=>rw [hc]at hg;cases hg
   |some x=>
    have hx:=List.find?_some hc;simp only [decide_eq_true_eq]at hx;simp [hx]
  ·rw [if_neg e];cases hc:C.find? (fun p=>decide (p.1=t))with
   |none=>rfl
   |some x=>
    have hx:=List.find?_some hc;simp only [decide_eq_true_eq]at hx;have hne:¬x.1=s:=fun e2=>e (by rw [<-e2,hx]);simp [hne]
theorem aI6{C:List aZ}{s:ByteArray}{v:Nat×aD}:(jB C s v).map (·.1)=if(bL C s).isSome then C.map (·.1)else C.map (·.1)++ [s]:=by
 unfold jB;split
 ·rw [List.map_map];apply List.map_congr_left;intro p _;simp only [Function.comp];split<;>rfl
 ·simp
theorem aJl{C:List aZ}(h:(C.map (·.1)).Nodup)(s:ByteArray)(v:Nat×aD):((jB C s v).map (·.1)).Nodup:=by
 rw [aI6];split
 ·exact h
 ·rename_i hn;have h0:bL C s=none:=by
   cases hg:bL C s with
   |none=>rfl
   |some u=>rw [hg]at hn;simp at hn
  exact List.nodup_append.2 ⟨h,by simp,fun a ha b hb e=>jI.1 h0 (by rw [List.mem_singleton]at hb;rw [<-hb,<-e];exact ha)⟩
theorem aNo{C:List aZ}{s:ByteArray}{v:Nat×aD}{p:aZ}(h:p∈jB C s v):p=(s,v)\/p∈C:=by
 unfold jB at h;split at h
 ·obtain⟨q,hq,e⟩:=List.mem_map.1 h;split at e
  ·rename_i e2;left;rw [<-e,e2]
  ·right;rw [<-e];exact hq
 ·rcases List.mem_append.1 h with h|h
  ·exact .inr h
  ·left;simpa using h
theorem gI{C:List aZ}{s:ByteArray}(h:bL C s=none):bG C s= []:=by unfold bG;rw [h]
theorem iG{C:List aZ}{s:ByteArray}{v:Nat×aD}(h:bL C s=some v):bG C s=v.2:=by unfold bG;rw [h]
theorem aLs{C:List aZ}{s t:ByteArray}{v:Nat×aD}:bG (jB C s v) t=if s=t then v.2 else bG C t:=by
 unfold bG;rw [oM];by_cases e:s=t
 ·rw [if_pos e,if_pos e]
 ·rw [if_neg e,if_neg e]
theorem aIs{C:List aZ}{s:ByteArray}{row:List ByteArray}(h:(dD C s row).2=0):bZ s=true/\oX C s row=true:=by
 unfold dD at h;split at h
 ·cases h
 ·rename_i h1;split at h
  ·cases h
  ·rename_i h2;exact⟨by simpa using h1,by simpa using h2⟩
theorem aHs{C:List aZ}{s:ByteArray}{row:List ByteArray}(h:(dD C s row).2=0):bP row=true/\(262144≤aX C->bD aC (bG C s) row=true)/\(65536≤(bG C s).length->bD aC (bG C s) row=true):=by
 unfold dD at h;split at h
 ·cases h
 ·split at h
  ·cases h
  ·split at h
   ·cases h
   ·rename_i h3;split at h
    ·cases h
    ·rename_i h4;split at h
     ·cases h
     ·rename_i h5;refine⟨by simpa using h3,fun h6=>?_,fun h6=>?_⟩
      ·cases hi:bD aC (bG C s) row with
       |true=>rfl
       |false=>exact absurd ⟨h6,hi⟩ h4
      ·cases hi:bD aC (bG C s) row with
       |true=>rfl
       |false=>exact absurd ⟨h6,hi⟩ h5
theorem aDa{C:List aZ}(h:BaseOk C)(s:ByteArray):Strict aC (bG C s):=by
 cases hg:bL C s with
 |none=>rw [gI hg];exact gD
 |some v=>rw [iG hg];exact(h.all _ ((dT h.nodup).1 hg)).strict
theorem aGo{C:List aZ}(h:BaseOk C){s:ByteArray}{row:List ByteArray}:bD aC (bG C s) row=true↔row∈bG C s:=aEc dX sM
theorem aAf{C:List aZ}(hn:(C.map (·.1)).Nodup){s:ByteArray}{v:Nat×aD}:aX (jB C s v)+(bG C s).length=aX C+v.2.length:=by
 unfold jB;cases hg:bL C s with
 |none=>rw [if_neg (by simp),gI hg];simp [aX]
 |some u=>
  rw [if_pos (by simp),iG hg];have hm:∀(D:List aZ),(D.map (·.1)).Nodup->(s,u)∈D->aX (D.map fun p=>if p.1=s then(p.1,v)else p)+u.2.length=aX D+v.2.length:=by
   intro D;induction D with
   |nil=>intro _ h;cases h
   |cons p D ih=>
    intro hnd hin;rw [List.map_cons,List.nodup_cons]at hnd;simp only [aX,List.map_cons,List.sum_cons]at ih ⊢;by_cases e:p.1=s
    ·have hp:p=(s,u):=by
      rcases List.mem_cons.1 hin with h|h
      ·exact h.symm
      ·exact absurd (List.mem_map.2 ⟨_,h,rfl⟩) (by rw [<-e]at h ⊢;exact hnd.1)
     have hid:(D.map fun q:aZ=>if q.1=s then(q.1,v)else q)=D:=by
      conv=>rhs;rw [<-List.map_id D]
      apply List.map_congr_left;intro q hq;have:¬q.1=s:=fun e2=>hnd.1 (List.mem_map.2 ⟨q,hq,by rw [e2,e]⟩);rw [if_neg this];rfl
     rw [hid,if_pos e,hp];dsimp only;omega
    ·have h1:(s,u)∈D:=by
      rcases List.mem_cons.1 hin with h|h
      ·exact absurd (by rw [<-h]) e
      ·exact h
     have:=ih hnd.2 h1;rw [if_neg e];omega
  exact hm C hn ((dT hn).1 hg)
theorem mI{C:List aZ}(h:BaseOk C)(s:ByteArray)(a:Int):BaseOk (cV C s a):=by
 unfold cV;split
 ·rename_i hc;obtain⟨h1,h2⟩:=hc;have hn:bZ s=true/\0≤a/\a≤64:=by
   unfold dC at h1;split at h1
   ·cases h1
   ·rename_i e1;split at h1
    ·cases h1
    ·rename_i e2;exact⟨by simpa using e1,by omega,by omega⟩
  refine⟨?_,fun p hp=>?_,?_⟩
  ·rw [List.map_append];exact List.nodup_append.2 ⟨h.nodup,by simp,fun x hx y hy e=>jI.1 h2 (by
    have:y=s:=by simpa using hy
    rw [<-this,<-e];exact hx)⟩
  ·rcases List.mem_append.1 hp with hp|hp
   ·exact h.all p hp
   ·have e:p=(s,a.toNat,[]):=by simpa using hp
    subst e;exact⟨hn.1,show a.toNat≤64 by omega,gD,fun r hr=>(by cases hr),fun r hr=>(by cases hr),Nat.zero_le _⟩
  ·have e:aX (C++ [(s,a.toNat,[])])=aX C:=by simp [aX]
   rw [e];exact h.few
 ·exact h
theorem lM{C:List aZ}{s t:ByteArray}{a:Int}(h:dC C s a=0):bL (cV C s a) t=if s=t/\bL C s=none then some (a.toNat,[])else bL C t:=by
 unfold cV;cases hg:bL C s with
 |none=>
  rw [if_pos ⟨h,rfl⟩,sH hg];by_cases e:s=t
  ·rw [if_pos e,if_pos ⟨e,rfl⟩]
  ·rw [if_neg e,if_neg (fun k=>e k.1)]
 |some v=>rw [if_neg (fun k=>by cases k.2),if_neg (fun k=>by cases k.2)]
theorem aIk{C:List aZ}{s:ByteArray}{a:Int}(h:dC C s a=0):∃LL,bL (cV C s a) s=some (a.toNat,LL)/\0≤a/\a≤64/\bZ s=true:=by
 have h0:=h;unfold dC at h;split at h
 ·cases h
 ·rename_i e1;split at h
  ·cases h
  ·rename_i e2;cases hg:bL C s with
   |none=>exact⟨[],by rw [lM h0,if_pos ⟨rfl,hg⟩],by omega,by omega,by simpa using e1⟩
   |some v=>
    rw [hg]at h;have h1:(v.1:Int)=a:=by
     by_cases e:(v.1:Int)=a
     ·exact e
     ·simp [e]at h
    refine⟨v.2,?_,by omega,by omega,by simpa using e1⟩;rw [lM h0,if_neg (fun k=>by rw [hg]at k;cases k.2),hg];have:v.1=a.toNat:=by omega
    rw [<-this]
theorem aJf{C:List aZ}{s t:ByteArray}{a:Int}(h:dC C s a=0):bG (cV C s a) t=bG C t:=by
 unfold bG;rw [lM h];by_cases e:s=t/\bL C s=none
 ·rw [if_pos e,<-e.1,e.2]
 ·rw [if_neg e]
theorem oC{C:List aZ}(h:BaseOk C)(s:ByteArray)(row:List ByteArray):BaseOk (fN C s row):=by
 unfold fN;split
 ·rename_i h0;obtain⟨t1,t2,t3⟩:=aHs h0;obtain⟨n1,n4⟩:=aIs h0;have n2:∀v,bL C s=some v->v.1=row.length:=fun v hv=>by
   unfold oX at n4;rw [hv]at n4;exact of_decide_eq_true n4
  have n3:row.length≤64:=by
   cases hg:bL C s with
   |none=>unfold oX at n4;rw [hg]at n4;exact of_decide_eq_true n4
   |some v=>
    have h1:v.1≤64:=(h.all _ ((dT h.nodup).1 hg)).ar;have:=n2 v hg;omega
  ·have hst:=aDa h s;have hlen:∀r∈bG C s,r.length=row.length/\bP r=true:=fun r hr=>by
    cases hg:bL C s with
    |none=>rw [gI hg]at hr;cases hr
    |some v=>
     rw [iG hg]at hr;have hp:=h.all _ ((dT h.nodup).1 hg);exact⟨(hp.len r hr).trans (n2 v hg),hp.txt r hr⟩
   have hfew:(bG C s).length≤65536:=by
    cases hg:bL C s with
    |none=>rw [gI hg];exact Nat.zero_le _
    |some v=>rw [iG hg];exact(h.all _ ((dT h.nodup).1 hg)).few
   have hl:=oY (c:=aC) (bG C s) row;refine⟨aJl h.nodup _ _,fun p hp=>?_,?_⟩
   ·rcases aNo hp with rfl|hp
    ·refine⟨n1,n3,hst.add dX row,fun r hr=>?_,fun r hr=>?_,?_⟩
     ·rcases(lF (c:=aC)).1 hr with hr|⟨rfl,_⟩
      ·exact(hlen r hr).1
      ·rfl
     ·rcases(lF (c:=aC)).1 hr with hr|⟨rfl,_⟩
      ·exact(hlen r hr).2
      ·exact t1
     ·show(bT aC (bG C s) row).length≤65536;rw [hl];split
      ·omega
      ·rename_i hi;have:¬65536≤(bG C s).length:=fun k=>hi (t3 k);omega
    ·exact h.all p hp
   ·have:=aAf h.nodup (s:=s) (v:=(row.length,bT aC (bG C s) row));have hf:=h.few;rw [hl]at this;split at this
    ·omega
    ·rename_i hi;have:¬262144≤aX C:=fun k=>hi (t2 k);omega
 ·exact h
theorem aK9{C:List aZ}(h:BaseOk C){s:ByteArray}{row:List ByteArray}(h0:(dD C s row).2=0):bZ s=true/\∀v,bL C s=some v->v.1=row.length:=by obtain⟨n1,n4⟩:=aIs h0;exact⟨n1,fun v hv=>by unfold oX at n4;rw [hv]at n4;exact of_decide_eq_true n4⟩
theorem aLu{C:List aZ}(h:BaseOk C){s t:ByteArray}{row x:List ByteArray}(h0:(dD C s row).2=0):x∈bG (fN C s row) t↔x∈bG C t\/ (s=t/\x=row):=by
 unfold fN;rw [if_pos h0,aLs];by_cases e:s=t
 ·subst e;rw [if_pos rfl];show x∈bT aC (bG C s) row↔_;rw [lF];constructor
  ·rintro(h1|⟨h1,_⟩)
   ·exact .inl h1
   ·exact .inr ⟨rfl,h1⟩
  ·rintro(h1|⟨_,h1⟩)
   ·exact .inl h1
   ·cases hi:bD aC (bG C s) row with
    |true=>left;rw [h1];exact(aGo h).1 hi
    |false=>exact .inr ⟨h1,rfl⟩
 ·rw [if_neg e];constructor
  ·exact .inl
  ·rintro(h1|⟨h1,_⟩)
   ·exact h1
   ·exact absurd h1 e
theorem aK4{C:List aZ}(h:BaseOk C){s t:ByteArray}{row:List ByteArray}(h0:(dD C s row).2=0)(hs:∃v,bL C s=some v):(bL (fN C s row) t).map (·.1)=(bL C t).map (·.1):=by
 unfold fN;rw [if_pos h0,oM];by_cases e:s=t
 ·subst e;rw [if_pos rfl];obtain⟨v,hv⟩:=hs;rw [hv];simp [(aK9 h h0).2 v hv]
 ·rw [if_neg e]
structure InC(C D:List aZ):Prop where
 ar:∀s v,bL C s=some v->∃LL,bL D s=some (v.1,LL)
 rows:∀s r,r∈bG C s->r∈bG D s
def dS(W:aD)(i n:Nat):Bool:=n==0||decide ((W.getD (n-1) []).take i≠(W.getD n []).take i)
def bA(W:aD)(d i n:Nat):List Nat:=if i<d then(List.range n).filter fun k=>dS W (i+1) k else List.range n
theorem nH(W:aD){d i n:Nat}(hi:i<d):bA W d i (n+1)=bA W d i n++if dS W (i+1) n then [n]else []:=by
 unfold bA;rw [if_pos hi,if_pos hi,List.range_succ,List.filter_append]
 congr 1
 simp only [List.filter_cons,List.filter_nil]
theorem nI(W:aD){d i n:Nat}(hi:¬i<d):bA W d i n=List.range n:=if_neg hi
theorem dV(W:aD)(d i n:Nat):(bA W d i n).length≤n:=by
 unfold bA;split
 ·exact Nat.le_trans (List.length_filter_le _ _) (by rw [List.length_range];exact Nat.le_refl _)
 ·rw [List.length_range];exact Nat.le_refl _
def cB(W:aD)(d i n:Nat):List ByteArray:=(bA W d i n).map fun k=>(W.getD k []).getD i ByteArray.empty
def aR(W:aD)(d i n:Nat):Nat:=(bA W d i n).length
def cL(W:aD)(d i n:Nat):List Int:=(bA W d i n).map fun k=>(aR W d (i+1) k:Int)
theorem fV(W:aD)(d i n:Nat):(cB W d i n).length=aR W d i n:=by unfold cB aR;rw [List.length_map]
theorem iS(W:aD)(d i n:Nat):(cL W d i n).length=aR W d i n:=by unfold cL aR;rw [List.length_map]
theorem aDw(W:aD)(i:Nat):dS W i 0=true:=rfl
theorem fI{W:aD}{i n:Nat}:dS W i n=true↔n=0\/ (W.getD (n-1) []).take i≠(W.getD n []).take i:=by unfold dS;rw [Bool.or_eq_true,decide_eq_true_iff,beq_iff_eq]
theorem bM{α:Type}{l:List α}{i:Nat}{x d:α}(h:l[i]?=some x):l.getD i d=x:=by rw [List.getD_eq_getElem?_getD,h];rfl
theorem aGc{W:aD}{i n:Nat}{x y:List ByteArray}(hn:0<n)(hx:W[n-1]?=some x)(hy:W[n]?=some y)(h1:i<x.length)(h2:i<y.length):dS W (i+1) n=(dS W i n||decide (x[i]≠y[i])):=by
 rw [Bool.eq_iff_iff,Bool.or_eq_true,decide_eq_true_iff,fI,fI,bM hx,bM hy];have ex:x.take (i+1)=x.take i++ [x[i]]:=by rw [List.take_add_one,qG h1];rfl
 have ey:y.take (i+1)=y.take i++ [y[i]]:=by rw [List.take_add_one,qG h2];rfl
 rw [ex,ey];have hl:(x.take i).length=(y.take i).length:=by rw [List.length_take,List.length_take];omega
 refine⟨fun h=>?_,fun h=> .inr fun e=>?_⟩
 ·by_cases h3:x.take i=y.take i
  ·refine .inr fun h4=>?_;rcases h with h|h
   ·omega
   ·exact h (by rw [h3,h4])
  ·exact .inl (.inr h3)
 ·obtain⟨e1,e2⟩:=List.append_inj e hl;rcases h with(h|h)|h
  ·omega
  ·exact h e1
  ·exact h (by simpa using e2)
structure WaysOk(W:aD)(d:Nat):Prop where
 len:∀r∈W,r.length=d
 rise:Strict aC W
theorem kP:∀(j:Nat) {x y:List ByteArray},x.length=y.length->aC x y≤0->aC (x.take j) (y.take j)≤0
 |0,_,_,_,_=>by simp [aC]
 |j+1,[],[],_,_=>by simp [aC]
 |j+1,[],_::_,h,_=>by simp at h
 |j+1,_::_,[],h,_=>by simp at h
 |j+1,a::x,b::y,hl,h=>by
  simp only [List.take_succ_cons];unfold aC at h ⊢;split at h
  ·rename_i h1;rw [if_pos h1];exact h
  ·rename_i h1;rw [if_neg h1];exact kP j (by simpa using hl) h
theorem uV:∀(q:List ByteArray) (a b:ByteArray),aC (q++ [a]) (q++ [b])=bE a.toList b.toList
 | [],a,b=>by
  show(if bE a.toList b.toList≠0 then bE a.toList b.toList else aC [] [])=_;split
  ·rfl
  ·rename_i h;have:bE a.toList b.toList=0:=Classical.not_not.1 h;rw [this];rfl
 |c::q,a,b=>by show(if bE c.toList c.toList≠0 then bE c.toList c.toList else aC (q++ [a]) (q++ [b]))=_;rw [if_neg (by rw [fL];simp)];exact uV q a b
theorem WaysOk.le{W:aD}{d:Nat}(h:WaysOk W d){m n:Nat}{x y:List ByteArray}(hx:W[m]?=some x)(hy:W[n]?=some y)(hmn:m≤n):aC x y≤0:=by
 rcases Nat.lt_or_eq_of_le hmn with h1|h1
 ·obtain⟨l1,e1⟩:=List.getElem?_eq_some_iff.1 hx;obtain⟨l2,e2⟩:=List.getElem?_eq_some_iff.1 hy;have:=List.pairwise_iff_getElem.1 h.rise m n l1 l2 h1;rw [e1,e2]at this;omega
 ·subst h1;rw [hx]at hy;cases hy;rw [oU];omega
theorem WaysOk.between{W:aD}{d:Nat}(h:WaysOk W d){m k n j:Nat}{x y z:List ByteArray}(hx:W[m]?=some x)(hy:W[k]?=some y)(hz:W[n]?=some z)(h1:m≤k)(h2:k≤n)(he:x.take j=z.take j):y.take j=x.take j:=by have lx:=h.len x (List.mem_of_getElem? hx);have ly:=h.len y (List.mem_of_getElem? hy);have lz:=h.len z (List.mem_of_getElem? hz);have a1:=kP j (lx.trans ly.symm) (h.le hx hy h1);have a2:=kP j (ly.trans lz.symm) (h.le hy hz h2);rw [<-he]at a2;have a3:=oT (x.take j) (y.take j);exact(iT (xs:=x.take j) (ys:=y.take j) (by omega)).symm
structure Iv(W:aD)(q:List ByteArray)(lo hi:Nat):Prop where
 le:lo<hi
 few:hi≤W.length
 iff:∀n x,W[n]?=some x->(x.take q.length=q↔lo≤n/\n<hi)
theorem mB{W:aD}{d i n k:Nat}(hi:i<d):k∈bA W d i n↔k<n/\dS W (i+1) k=true:=by unfold bA;rw [if_pos hi,List.mem_filter,List.mem_range]
theorem gH(W:aD)(d i n:Nat):(bA W d i n).Pairwise (· < ·):=by
 unfold bA;split
 ·exact List.Pairwise.filter _ List.pairwise_lt_range
 ·exact List.pairwise_lt_range
theorem nG(W:aD)(d i:Nat){m n:Nat}(h:m≤n):∃r,bA W d i n=bA W d i m++r/\∀k∈r,m≤k:=by
 induction n with
 |zero=>exact⟨[],by rw [show m=0 by omega];simp,by simp⟩
 |succ n ih=>
  by_cases e:m=n+1
  ·subst e;exact⟨[],by simp,by simp⟩
  ·obtain⟨r,h1,h2⟩:=ih (by omega);by_cases hi:i<d
   ·rw [nH W hi,h1];refine⟨r++(if dS W (i+1) n then [n]else []),by rw [List.append_assoc],fun k hk=>?_⟩;rcases List.mem_append.1 hk with hk|hk
    ·exact h2 k hk
    ·split at hk
     ·rw [List.mem_singleton]at hk;omega
     ·simp at hk
   ·rw [nI W hi]at h1 ⊢;rw [nI W hi]at*;rw [List.range_succ,h1];refine⟨r++ [n],by rw [List.append_assoc],fun k hk=>?_⟩;rcases List.mem_append.1 hk with hk|hk
    ·exact h2 k hk
    ·rw [List.mem_singleton]at hk;omega
theorem mA{W:aD}{d i n k s:Nat}(h:(bA W d i n)[k]?=some s):aR W d i s=k/\s<n:=by
 have hk:=(List.getElem?_eq_some_iff.1 h).1;have hs:s<n:=by
  have hm:=List.mem_of_getElem? h;unfold bA at hm;split at hm
  ·exact List.mem_range.1 (List.mem_filter.1 hm).1
  ·exact List.mem_range.1 hm
 obtain⟨r,h1,h2⟩:=nG W d i (Nat.le_of_lt hs);refine⟨?_,hs⟩;unfold aR;have hp:=gH W d i n;rcases Nat.lt_trichotomy (bA W d i s).length k with h3|h3|h3
 ·-- the element at the border is s or above, yet below s
  have hl:(bA W d i s).length< (bA W d i n).length:=by omega
  have h4:=List.pairwise_iff_getElem.1 hp _ k hl hk h3;rw [(List.getElem?_eq_some_iff.1 h).2]at h4;have h5:(bA W d i n)[(bA W d i s).length]'hl∈r:=by
   have:(bA W d i n)[(bA W d i s).length]?=r[0]?:=by rw [h1,List.getElem?_append_right (Nat.le_refl _),Nat.sub_self]
   rw [qG hl]at this;exact List.mem_of_getElem? this.symm
  have:=h2 _ h5;omega
 ·exact h3
 ·rw [h1,List.getElem?_append_left h3]at h;have hm:=List.mem_of_getElem? h;have:s<s:=by
   unfold bA at hm;split at hm
   ·exact List.mem_range.1 (List.mem_filter.1 hm).1
   ·exact List.mem_range.1 hm
  omega
section
variable {Sol:List ByteArray->Prop}{v:Nat}{p:List ByteArray}
structure AllB(Sol:List ByteArray->Prop)(p:List ByteArray)(L:aD):Prop where
 rise:Strict aC L
 iff:∀V,V∈L↔Sol V/\V.take p.length=p
structure PartB(Sol:List ByteArray->Prop)(p:List ByteArray)(D:ByteArray->Prop)(L:aD):Prop where
 rise:Strict aC L
 iff:∀V,V∈L↔Sol V/\V.take p.length=p/\∃x,V[p.length]?=some x/\D x
theorem AllB.none(h:∀V,Sol V->V.take p.length=p->False):AllB Sol p []:=
 ⟨gD,fun V=>⟨fun h=>by simp at h,fun h1=>(h V h1.1 h1.2).elim⟩⟩
theorem AllB.one(hs:Sol p)(hl:∀V,Sol V->V.length=p.length):AllB Sol p [p]:=
 ⟨List.pairwise_singleton _ _,fun V=>⟨fun h=>by
  rw [List.mem_singleton]at h;subst h;exact⟨hs,List.take_length⟩,fun⟨h1,h2⟩=>by
  rw [List.mem_singleton,<-h2,List.take_of_length_le (Nat.le_of_eq (hl V h1))]⟩⟩
theorem AllB.unique{L L':aD}(h:AllB Sol p L)(h':AllB Sol p L'):L=L':=Strict.unique dX h.rise h'.rise fun V=>(h.iff V).trans (h'.iff V).symm
theorem PartB.none{D:ByteArray->Prop}(h:∀V,Sol V->V.take p.length=p->∀x,V[p.length]?=some x->¬D x):PartB Sol p D []:=
 ⟨gD,fun V=>⟨fun h=>by simp at h,fun⟨h1,h2,x,h3,h4⟩=>(h V h1 h2 x h3 h4).elim⟩⟩
theorem PartB.all{D:ByteArray->Prop}{L:aD}(h:PartB Sol p D L)(hd:∀V,Sol V->V.take p.length=p->∃x,V[p.length]?=some x/\D x):AllB Sol p L:=
 ⟨h.rise,fun V=>(h.iff V).trans ⟨fun⟨h1,h2,_⟩=>⟨h1,h2⟩,fun⟨h1,h2⟩=>⟨h1,h2,hd V h1 h2⟩⟩⟩
theorem oV:∀(q:List ByteArray) (a b:ByteArray) (r s:List ByteArray),bE a.toList b.toList<0->aC (q++a::r) (q++b::s)<0
 | [],a,b,r,s,h=>by show(if bE a.toList b.toList≠0 then bE a.toList b.toList else aC r s)<0;rw [if_pos (by omega)];exact h
 |c::q,a,b,r,s,h=>by show(if bE c.toList c.toList≠0 then bE c.toList c.toList else aC (q++a::r) (q++b::s))<0;rw [if_neg (by rw [fL];simp)];exact oV q a b r s h
theorem rD{V q:List ByteArray}{x:ByteArray}(h:V.take q.length=q)(hx:V[q.length]?=some x):∃r,V=q++x::r:=by refine⟨V.drop (q.length+1),?_⟩;have hl:=(List.getElem?_eq_some_iff.1 hx);conv=>lhs;rw [<-List.take_append_drop q.length V,h,List.drop_eq_getElem_cons hl.1,hl.2]
theorem PartB.next{D:ByteArray->Prop}{L L':aD}{x:ByteArray}(h:PartB Sol p D L)(h':AllB Sol (p++ [x]) L')(hx:∀V,Sol V->V.take p.length=p->∀y,V[p.length]?=some y->D y->bE y.toList x.toList<0):PartB Sol p (fun y=>D y\/y=x) (L++L'):=by
 have key:∀V,V∈L'↔Sol V/\V.take p.length=p/\V[p.length]?=some x:=fun V=>by
  rw [h'.iff V,List.length_append,List.length_singleton];refine⟨fun⟨h1,h2⟩=>?_,fun⟨h1,h2,h3⟩=>⟨h1,by rw [List.take_add_one,h2,h3];rfl⟩⟩;have h3:V.take p.length=p:=by have:=congrArg (List.take p.length) h2;rw [List.take_take,List.take_left,show min p.length (p.length+1)=p.length by omega]at this;exact this
  refine⟨h1,h3,?_⟩;rw [List.take_add_one,h3]at h2;have h4:=(List.append_right_inj p).1 h2;cases h5:V[p.length]? with
  |none=>rw [h5]at h4;simp at h4
  |some y=>rw [h5]at h4;simpa using h4
 refine⟨List.pairwise_append.2 ⟨h.rise,h'.rise,fun a ha b hb=>?_⟩,fun V=>?_⟩
 ·obtain⟨a1,a2,y,a3,a4⟩:=(h.iff a).1 ha;obtain⟨b1,b2,b3⟩:=(key b).1 hb;obtain⟨r,rfl⟩:=rD a2 a3;obtain⟨s,rfl⟩:=rD b2 b3;exact oV p y x r s (hx _ a1 a2 y a3 a4)
 ·rw [List.mem_append,h.iff V,key V];refine⟨fun h1=>?_,fun⟨h1,h2,y,h3,h4⟩=>?_⟩
  ·rcases h1 with⟨h1,h2,y,h3,h4⟩|⟨h1,h2,h3⟩
   ·exact⟨h1,h2,y,h3,.inl h4⟩
   ·exact⟨h1,h2,x,h3,.inr rfl⟩
  ·rcases h4 with h4|h4
   ·exact .inl ⟨h1,h2,y,h3,h4⟩
   ·subst h4;exact .inr ⟨h1,h2,h3⟩
structure PartQ(Sol:List ByteArray->Prop)(p:List ByteArray)(m:Nat)(D:List ByteArray->Prop)(L:aD):Prop where
 rise:Strict aC L
 iff:∀V,V∈L↔Sol V/\V.take p.length=p/\D (V.take m)
theorem uW:∀(m:Nat) {x y:List ByteArray},m≤x.length->m≤y.length->aC (x.take m) (y.take m)<0->aC x y<0
 |0,x,y,_,_,h=>by simp [aC]at h
 |m+1,[],_,h,_,_=>by simp at h
 |m+1,_::_,[],_,h,_=>by simp at h
 |m+1,a::x,b::y,hx,hy,h=>by
  simp only [List.take_succ_cons]at h;unfold aC at h ⊢;split at h
  ·rename_i h1;rw [if_pos h1];exact h
  ·rename_i h1;rw [if_neg h1];exact uW m (by simpa using hx) (by simpa using hy) h
theorem PartQ.none{m:Nat}:PartQ Sol p m (fun _=>False) []:=⟨gD,fun V=>⟨fun h=>by simp at h,fun h=>h.2.2.elim⟩⟩
theorem PartQ.next{m:Nat}{D:List ByteArray->Prop}{L L':aD}{q:List ByteArray}(h:PartQ Sol p m D L)(hq:q.length=m)(hp:q.take p.length=p)(hm:p.length≤m)(hl:∀V,Sol V->m≤V.length)(h':AllB Sol q L')(hx:∀y,D y->aC y q<0):PartQ Sol p m (fun y=>D y\/y=q) (L++L'):=by
 refine⟨List.pairwise_append.2 ⟨h.rise,h'.rise,fun a ha b hb=>?_⟩,fun V=>?_⟩
 ·obtain⟨a1,a2,a3⟩:=(h.iff a).1 ha;obtain⟨b1,b2⟩:=(h'.iff b).1 hb;rw [hq]at b2;exact uW m (hl a a1) (hl b b1) (by rw [b2];exact hx _ a3)
 ·rw [List.mem_append,h.iff V,h'.iff V,hq];refine⟨fun h1=>?_,fun⟨h1,h2,h3⟩=>?_⟩
  ·rcases h1 with⟨h1,h2,h3⟩|⟨h1,h2⟩
   ·exact⟨h1,h2,.inl h3⟩
   ·refine⟨h1,?_,.inr h2⟩;have:=congrArg (List.take p.length) h2;rw [List.take_take,hp,show min p.length m=p.length by omega]at this;exact this
  ·rcases h3 with h3|h3
   ·exact .inl ⟨h1,h2,h3⟩
   ·exact .inr ⟨h1,h3⟩
theorem PartQ.all{m:Nat}{D:List ByteArray->Prop}{L:aD}(h:PartQ Sol p m D L)(hd:∀V,Sol V->V.take p.length=p->D (V.take m)):AllB Sol p L:=
 ⟨h.rise,fun V=>(h.iff V).trans ⟨fun⟨h1,h2,_⟩=>⟨h1,h2⟩,fun⟨h1,h2⟩=>⟨h1,h2,hd V h1 h2⟩⟩⟩
theorem PartQ.congr{m:Nat}{D D':List ByteArray->Prop}{L:aD}(h:PartQ Sol p m D L)(hd:∀y,D y↔D' y):PartQ Sol p m D' L:=⟨h.rise,fun V=>(h.iff V).trans (by rw [hd])⟩
end
def isV(s:ByteArray)(t:aE):Bool:=decide (t.1=1/\t.2.1=s)
def fQ(ts:List aE)(s:ByteArray):Nat:=ts.findIdx (isV s)
def aY(N:List ByteArray)(ts:List aE):List Nat:=(List.range N.length).filter fun i=>ts.any (isV (N.getD i ByteArray.empty))
def bK(x:List ByteArray)(i:Nat):ByteArray:=x.getD i ByteArray.empty
def qA(ts:List aE)(x:List ByteArray):Prop:=∀(i:Nat) (t:aE),ts[i]?=some t->(t.1=3->bK x i=t.2.1)/\(t.1=1->bK x (fQ ts t.2.1)=bK x i)
def iR(N:List ByteArray)(ts:List aE)(x:List ByteArray):List ByteArray:=(aY N ts).map fun v=>bK x (fQ ts (bK N v))
def aEo(N V:List ByteArray)(ts:List aE)(x:List ByteArray):Prop:=∀(i:Nat) (t:aE),ts[i]?=some t->(t.1=3->bK x i=t.2.1)/\(t.1=1->∃v:Nat,N[v]?=some t.2.1/\V[v]?=some (bK x i))
theorem aEp{ts:List aE}{s:ByteArray}{i:Nat}{t:aE}(hi:ts[i]?=some t)(ht:t.1=1)(hs:t.2.1=s):∃u,ts[fQ ts s]?=some u/\u.1=1/\u.2.1=s:=by have h:fQ ts s<ts.length:=List.findIdx_lt_length_of_exists ⟨t,List.mem_of_getElem? hi,by unfold isV;exact decide_eq_true ⟨ht,hs⟩⟩;have h2:=List.findIdx_getElem (w:=h);refine⟨_,qG h,?_⟩;unfold isV at h2;exact of_decide_eq_true h2
theorem eD{N:List ByteArray}{ts:List aE}{v:Nat}:v∈aY N ts↔v<N.length/\∃(i:Nat) (t:aE),ts[i]?=some t/\t.1=1/\t.2.1=bK N v:=by unfold aY;rw [List.mem_filter,List.mem_range,List.any_eq_true];refine and_congr_right fun _=>⟨fun⟨t,ht,h⟩=>?_,fun⟨i,t,hi,h1,h2⟩=>⟨t,List.mem_of_getElem? hi,by unfold isV;exact decide_eq_true ⟨h1,h2⟩⟩⟩;obtain⟨i,hi⟩:=List.mem_iff_getElem?.1 ht;unfold isV at h;have h':=of_decide_eq_true h;exact⟨i,t,hi,h'.1,h'.2⟩
theorem aAc(N:List ByteArray)(ts:List aE):(aY N ts).Pairwise (· < ·):=List.Pairwise.filter _ List.pairwise_lt_range
theorem aDr{N V:List ByteArray}{ts:List aE}(hN:N.Nodup)(hV:V.length=N.length)(hin:∀t∈ts,t.1=1->t.2.1∈N)(x:List ByteArray):
 qA ts x/\iR N ts x=(aY N ts).map (bK V)↔aEo N V ts x:=by
 have get:∀{v:Nat} {s:ByteArray},N[v]?=some s->bK N v=s:=fun h=>bM h;have getv:∀{v:Nat} {s:ByteArray},N[v]?=some s->V[v]?=some (bK V v):=fun{v s} h=>by
  have hv:v<V.length:=by rw [hV];exact(List.getElem?_eq_some_iff.1 h).1
  unfold bK;rw [List.getD_eq_getElem?_getD,qG hv];rfl
 have proj:iR N ts x=(aY N ts).map (bK V)↔∀v∈aY N ts,bK x (fQ ts (bK N v))=bK V v:=by unfold iR;exact List.map_inj_left
 rw [proj];refine⟨fun⟨h1,h2⟩ i t hi=>⟨(h1 i t hi).1,fun ht=>?_⟩,fun h=>⟨fun i t hi=>⟨(h i t hi).1,fun ht=>?_⟩,fun v hv=>?_⟩⟩
 ·obtain⟨v,hv⟩:=List.mem_iff_getElem?.1 (hin t (List.mem_of_getElem? hi) ht);refine⟨v,hv,?_⟩;have hm:v∈aY N ts:=eD.2 ⟨(List.getElem?_eq_some_iff.1 hv).1,i,t,hi,ht,(get hv).symm⟩;have h3:=h2 v hm;rw [get hv,(h1 i t hi).2 ht]at h3;rw [h3];exact getv hv
 ·obtain⟨v,hv,e⟩:=(h i t hi).2 ht;obtain⟨u,hu,u1,u2⟩:=aEp hi ht rfl;obtain⟨v',hv',e'⟩:=(h _ u hu).2 u1;rw [u2]at hv';have:v=v':=(List.getElem?_inj (List.getElem?_eq_some_iff.1 hv).1 hN).1 (hv.trans hv'.symm);subst this;rw [e]at e';exact(Option.some.inj e').symm
 ·obtain⟨hl,i,t,hi,h1,h2⟩:=eD.1 hv;obtain⟨u,hu,u1,u2⟩:=aEp hi h1 h2;obtain⟨v',hv',e'⟩:=(h _ u hu).2 u1;have hv0:N[v]?=some (bK N v):=by unfold bK;rw [List.getD_eq_getElem?_getD,qG hl];rfl
  rw [u2]at hv';have:v=v':=(List.getElem?_inj hl hN).1 (hv0.trans hv'.symm);subst this;rw [getv hv0]at e';exact(Option.some.inj e').symm
open Classical in
noncomputable def dU(N:List ByteArray)(ts:List aE)(R:aD):aD:=vN aC ((R.filter fun x=>decide (x.length=ts.length/\qA ts x)).map (iR N ts))
theorem aA7{x:List ByteArray}:∀(xs acc:aD),x∈xs\/x∈acc->x∈xs.foldl (bT aC) acc
 | [],acc,h=>by
  rcases h with h|h
  ·simp at h
  ·exact h
 |y::xs,acc,h=>by
  refine aA7 xs (bT aC acc y) ?_;by_cases hx:x∈xs
  ·exact .inl hx
  ·refine .inr (lF.2 ?_);rcases h with h|h
   ·rcases List.mem_cons.1 h with h|h
    ·subst h;by_cases hi:bD aC acc x=true
     ·obtain⟨z,hz,e⟩:=fW.1 hi;rw [<-iT e];exact .inl hz
     ·exact .inr ⟨rfl,by simpa using hi⟩
    ·exact absurd h hx
   ·exact .inl h
theorem aD0{xs:aD}{x:List ByteArray}:x∈vN aC xs↔x∈xs:=⟨aDz,fun h=>aA7 xs [] (.inl h)⟩
open Classical in
theorem aH1{N V:List ByteArray}{ts:List aE}(R:aD)(hN:N.Nodup)(hV:V.length=N.length)(hin:∀t∈ts,t.1=1->t.2.1∈N):
 (aY N ts).map (bK V)∈dU N ts R↔∃x∈R,x.length=ts.length/\aEo N V ts x:=by
 unfold dU;rw [aD0,List.mem_map];refine⟨fun⟨x,hx,e⟩=>?_,fun⟨x,hx,hl,hf⟩=>?_⟩
 ·obtain⟨h1,h2⟩:=List.mem_filter.1 hx;obtain⟨h3,h4⟩:=of_decide_eq_true h2;exact⟨x,h1,h3,(aDr hN hV hin x).1 ⟨h4,e⟩⟩
 ·obtain⟨h1,h2⟩:=(aDr hN hV hin x).2 hf;exact⟨x,List.mem_filter.2 ⟨hx,decide_eq_true ⟨hl,h1⟩⟩,h2⟩
theorem vS{N:List ByteArray}{ts:List aE}{R:aD}{x:List ByteArray}(h:x∈dU N ts R):x.length=(aY N ts).length:=by unfold dU at h;obtain⟨y,_,rfl⟩:=List.mem_map.1 (aDz h);unfold iR;rw [List.length_map]
theorem wJ(N:List ByteArray)(ts:List aE)(R:aD):Strict aC (dU N ts R):=Strict.new dX _
def mZ(N V:List ByteArray)(t:aE):ByteArray:=if t.1=1 then bK V (N.findIdx fun s=>decide (s=t.2.1))else t.2.1
def rR(op:Int)(x y:ByteArray):Prop:=if op=1 then x=y else if op=2 then x≠y else if op=3 then Op.bytesLess x.toList y.toList=true else Op.bytesLess y.toList x.toList=false
def mM(N V:List ByteArray)(R:aD)(l:aL):Prop:=
 if l.1=1 then ∃x∈R,x.length=(aA l).length/\aEo N V (aA l) x
 else if l.1=2 then ¬∃x∈R,x.length=(aA l).length/\aEo N V (aA l) x
 else rR (gM l) (mZ N V (leftOf l)) (mZ N V (aN l))
def dN(ls:List aL)(R:Nat->aD)(V:List ByteArray):Prop:=V.length=(aB ls).length/\∀(i:Nat) (l:aL),ls[i]?=some l->mM (aB ls) V (R i) l
def IsBinds(ls:List aL)(R:Nat->aD)(L:aD):Prop:=AllB (dN ls R) [] L
theorem IsBinds.iff{ls:List aL}{R:Nat->aD}{L:aD}(h:IsBinds ls R L)(V:List ByteArray):V∈L↔dN ls R V:=(AllB.iff h V).trans ⟨fun h=>h.1,fun h=>⟨h,rfl⟩⟩
end
section
abbrev bV:=List ByteArray×List ByteArray
def ofE(e:bV)(s:ByteArray):Option ByteArray:=if gN e.1 s=true then some (bK e.2 (e.1.findIdx fun x=>decide (x=s)))else none
def gV(e:bV)(t:aE)(y:ByteArray):Option bV:=
 if t.1=3/\t.2.1≠y then none
 else if t.1≠1 then some e
 else match ofE e t.2.1 with
  |some s=>if s=y then some e else none
  |none=>some (e.1++ [t.2.1],e.2++ [y])
def bU(e:bV)(ts:List aE)(x:List ByteArray):Nat->Option bV
 |0=>some e
 |k+1=>match bU e ts x k,ts[k]? with
  |some f,some t=>gV f t (bK x k)
  |_,_=>none
structure EnvOk(e:bV):Prop where
 nodup:e.1.Nodup
 len:e.2.length=e.1.length
theorem aGy{N:List ByteArray}{s:ByteArray}(h:s∈N):N[N.findIdx fun x=>decide (x=s)]?=some s:=by have h1:(N.findIdx fun x=>decide (x=s))<N.length:=List.findIdx_lt_length_of_exists ⟨s,h,decide_eq_true rfl⟩;have h2:=List.findIdx_getElem (w:=h1);rw [qG h1];exact congrArg some (of_decide_eq_true h2)
theorem xH{e:bV}{s y:ByteArray}(he:EnvOk e):ofE e s=some y↔∃v:Nat,e.1[v]?=some s/\e.2[v]?=some y:=by
 unfold ofE;by_cases h:gN e.1 s=true
 ·rw [if_pos h];have hi:=aGy (dB.1 h);have hl:=(List.getElem?_eq_some_iff.1 hi).1;have hv:e.2[e.1.findIdx fun x=>decide (x=s)]?=some (bK e.2 (e.1.findIdx fun x=>decide (x=s))):=by
   unfold bK;rw [List.getD_eq_getElem?_getD,qG (by rw [he.len];exact hl)];rfl
  refine⟨fun h1=>⟨_,hi,by rw [hv];exact h1⟩,fun⟨v,h1,h2⟩=>?_⟩;have:(e.1.findIdx fun x=>decide (x=s))=v:=(List.getElem?_inj hl he.nodup).1 (hi.trans h1.symm);rw [this]at hv;rw [this,<-hv];exact h2
 ·rw [if_neg h];refine⟨fun h1=>(by cases h1),fun⟨v,h1,h2⟩=>absurd (dB.2 (List.mem_of_getElem? h1)) h⟩
theorem xI{e:bV}{s:ByteArray}:ofE e s=none↔s∉e.1:=by
 unfold ofE;rw [<-dB];split
 ·rename_i h;simp [h]
 ·rename_i h;simp [h]
def aBb(e:bV)(t:aE)(y:ByteArray):Prop:=(t.1=3->y=t.2.1)/\(t.1=1->∃v:Nat,e.1[v]?=some t.2.1/\e.2[v]?=some y)
structure EnvLe(e f:bV):Prop where
 names:f.1.take e.1.length=e.1
 vals:f.2.take e.2.length=e.2
theorem EnvLe.refl(e:bV):EnvLe e e:=⟨List.take_length,List.take_length⟩
theorem nE{l k:List ByteArray}(h:l.take k.length=k){i:Nat}{x:ByteArray}(hx:k[i]?=some x):l[i]?=some x:=by have hi:=(List.getElem?_eq_some_iff.1 hx).1;rw [<-h,List.getElem?_take_of_lt hi]at hx;exact hx
theorem EnvLe.fit{e f:bV}(h:EnvLe e f){t:aE}{y:ByteArray}(ht:aBb e t y):aBb f t y:=
 ⟨ht.1,fun h1=>by obtain⟨v,a,b⟩:=ht.2 h1;exact⟨v,nE h.names a,nE h.vals b⟩⟩
theorem jN{a b c:List ByteArray}(h:b.take a.length=a)(h':c.take b.length=b):c.take a.length=a:=by
 have hl:a.length≤b.length:=by have:=congrArg List.length h;rw [List.length_take]at this;omega
 have h2:(c.take b.length).take a.length=c.take a.length:=by rw [List.take_take];congr 1;omega
 rw [<-h2,h',h]
theorem EnvLe.trans{e f g:bV}(h:EnvLe e f)(h':EnvLe f g):EnvLe e g:=⟨jN h.names h'.names,jN h.vals h'.vals⟩
theorem aEn{e f:bV}{t:aE}{y:ByteArray}(he:EnvOk e)(h:gV e t y=some f):EnvOk f/\EnvLe e f/\f.1=bI e.1 t/\aBb f t y:=by
 unfold gV at h;split at h
 ·cases h
 ·rename_i h1;have h3:t.1=3->y=t.2.1:=fun h3=>Classical.byContradiction fun hn=>h1 ⟨h3,fun e=>hn e.symm⟩;split at h
  ·rename_i h2;cases h;exact⟨he,EnvLe.refl _,by unfold bI;rw [if_neg (fun h=>h2 h.1)],h3,fun h=>absurd h h2⟩
  ·rename_i h2;have h2':t.1=1:=Classical.not_not.1 h2;split at h
   ·rename_i s hs;split at h
    ·rename_i e1;cases h;subst e1;have h4:=(xH he).1 hs;refine⟨he,EnvLe.refl _,?_,h3,fun _=>h4⟩;obtain⟨v,h5,_⟩:=h4;unfold bI;rw [if_neg fun h=>by have:=dB.2 (List.mem_of_getElem? h5);rw [this]at h;cases h.2]
    ·cases h
   ·rename_i hs;cases h;have h4:=xI.1 hs;refine⟨⟨?_,by simp [he.len]⟩,⟨List.take_left,List.take_left⟩,?_,h3,fun _=>⟨e.1.length,by simp,by rw [<-he.len];simp⟩⟩
    ·refine List.nodup_append.2 ⟨he.nodup,by simp,fun a ha b hb=>?_⟩;rw [List.mem_singleton]at hb;subst hb;intro e;subst e;exact h4 ha
    ·unfold bI;rw [if_pos ⟨h2',by rw [<-Bool.not_eq_true,dB];exact h4⟩]
theorem aG4{e g:bV}{t:aE}{y:ByteArray}(he:EnvOk e)(hg:EnvOk g)(hle:EnvLe e g)(hn:g.1.take (bI e.1 t).length=bI e.1 t)(h:aBb g t y):∃f,gV e t y=some f/\EnvLe f g:=by
 unfold gV;rw [if_neg (fun h1=>h1.2 (h.1 h1.1).symm)];by_cases h2:t.1≠1
 ·rw [if_pos h2];exact⟨e,rfl,hle⟩
 ·rw [if_neg h2];have h2':t.1=1:=Classical.not_not.1 h2;obtain⟨v,hv,hy⟩:=h.2 h2';cases hs:ofE e t.2.1 with
  |some s=>
   obtain⟨u,hu,hs'⟩:=(xH he).1 hs;have h3:=nE hle.names hu;have:u=v:=(List.getElem?_inj (List.getElem?_eq_some_iff.1 h3).1 hg.nodup).1 (h3.trans hv.symm);subst this;have h4:=nE hle.vals hs';rw [hy]at h4;cases h4;exact⟨e,by simp,hle⟩
  |none=>
   refine⟨_,rfl,?_⟩;have h4:=xI.1 hs;have ea:bI e.1 t=e.1++ [t.2.1]:=by unfold bI;rw [if_pos ⟨h2',by rw [<-Bool.not_eq_true,dB];exact h4⟩]
   rw [ea]at hn;refine⟨hn,?_⟩;have h5:g.1[e.1.length]?=some t.2.1:=nE hn (by simp);have:e.1.length=v:=(List.getElem?_inj (List.getElem?_eq_some_iff.1 h5).1 hg.nodup).1 (h5.trans hv.symm);subst this;have h6:=hle.vals;show g.2.take (e.2++ [y]).length=e.2++ [y];rw [List.length_append,List.length_singleton,List.take_add_one,h6,he.len,hy];rfl
theorem xK(a:List ByteArray)(ts:List aE)(t:aE):cE a (ts++ [t])=bI (cE a ts) t:=by unfold cE;rw [List.foldl_append];rfl
theorem aIq(a:List ByteArray)(t:aE):(bI a t).take a.length=a:=by
 unfold bI;split
 ·exact List.take_left
 ·exact List.take_length
theorem tH:∀(ts:List aE) (a:List ByteArray),(cE a ts).take a.length=a
 | [],a=>List.take_length
 |t::ts,a=>jN (aIq a t) (tH ts (bI a t))
theorem aGk(a:List ByteArray)(l:aL):(bQ a l).take a.length=a:=by
 unfold bQ;split
 ·exact tH _ _
 ·exact List.take_length
theorem aA8:∀(ls:List aL) (a:List ByteArray),(ls.foldl bQ a).take a.length=a
 | [],a=>List.take_length
 |l::ls,a=>jN (aGk a l) (aA8 ls (bQ a l))
theorem jT(ls:List aL)(i:Nat):(aB ls).take (aB (ls.take i)).length=aB (ls.take i):=by
 have h:=aA8 (ls.drop i) (aB (ls.take i));have e:(ls.drop i).foldl bQ (aB (ls.take i))=aB ls:=by unfold aB;rw [<-List.foldl_append,List.take_append_drop]
 rw [e]at h;exact h
theorem gK{ls:List aL}{i:Nat}{l:aL}(h:ls[i]?=some l):aB (ls.take (i+1))=bQ (aB (ls.take i)) l:=by rw [List.take_add_one,h];unfold aB;rw [List.foldl_append];rfl
theorem aK8{a:List ByteArray}(h:a.Nodup)(t:aE):(bI a t).Nodup:=by
 unfold bI;split
 ·rename_i h1;refine List.nodup_append.2 ⟨h,by simp,fun x hx y hy=>?_⟩;rw [List.mem_singleton]at hy;subst hy;intro e;subst e;have:=dB.2 hx;rw [h1.2]at this;cases this
 ·exact h
theorem rT:∀(ts:List aE) {a:List ByteArray},a.Nodup->(cE a ts).Nodup
 | [],_,h=>h
 |t::ts,_,h=>rT ts (aK8 h t)
theorem rX:∀(ls:List aL) {a:List ByteArray},a.Nodup->(ls.foldl bQ a).Nodup
 | [],_,h=>h
 |l::ls,_,h=>rX ls (by unfold bQ;split;exact rT _ h;exact h)
theorem dG(ls:List aL):(aB ls).Nodup:=rX ls List.nodup_nil
theorem iI{e:bV}{ts:List aE}{x:List ByteArray}(he:EnvOk e):∀{k:Nat} {f:bV},bU e ts x k=some f->EnvOk f/\EnvLe e f/\f.1=cE e.1 (ts.take k)/\∀(i:Nat) (t:aE),i<k->ts[i]?=some t->aBb f t (bK x i)
 |0,f,h=>by cases h;exact⟨he,EnvLe.refl _,by rw [List.take_zero];rfl,fun i t hi=>by omega⟩
 |k+1,f,h=>by
  unfold bU at h;split at h
  ·rename_i g t hg ht;obtain⟨h1,h2,h3,h4⟩:=iI he hg;obtain⟨h5,h6,h7,h8⟩:=aEn h1 h;refine⟨h5,h2.trans h6,?_,fun i u hi hu=>?_⟩
   ·rw [h7,h3,List.take_add_one,ht];exact(xK _ _ _).symm
   ·rcases Nat.lt_or_eq_of_le (Nat.le_of_lt_succ hi)with h9|h9
    ·exact h6.fit (h4 i u h9 hu)
    ·subst h9;rw [ht]at hu;cases hu;exact h8
  ·cases h
theorem tN{e g:bV}{ts:List aE}{x:List ByteArray}(he:EnvOk e)(hg:EnvOk g)(hle:EnvLe e g):∀{k:Nat},k≤ts.length->g.1.take (cE e.1 (ts.take k)).length=cE e.1 (ts.take k)->(∀(i:Nat) (t:aE),ts[i]?=some t->aBb g t (bK x i))->∃f,bU e ts x k=some f/\EnvLe f g
 |0,_,_,_=>⟨e,rfl,hle⟩
 |k+1,hk,hn,h=>by
  obtain⟨t,ht⟩:∃t,ts[k]?=some t:=⟨_,qG (by omega)⟩;have e1:ts.take (k+1)=ts.take k++ [t]:=by rw [List.take_add_one,ht];rfl
  rw [e1,xK]at hn;obtain⟨f,hf,hle2⟩:=tN he hg hle (by omega) (jN (aIq _ _) hn) h;obtain⟨h1,h2,h3,h4⟩:=iI he hf;obtain⟨f2,hf2,hle3⟩:=aG4 h1 hg hle2 (by rw [h3];exact hn) (h k t ht);refine⟨f2,?_,hle3⟩;unfold bU;rw [hf,ht];exact hf2
structure FromOk(ls:List aL)(R:Nat->aD)(i:Nat)(e:bV):Prop where
 ok:EnvOk e
 names:e.1=aB (ls.take i)
 done:∀(j:Nat) (l:aL),j<i->ls[j]?=some l->l.1=1->∃x∈R j,x.length=(aA l).length/\aEo e.1 e.2 (aA l) x
theorem FromOk.start(ls:List aL)(R:Nat->aD):FromOk ls R 0 ([],[]):=⟨⟨List.nodup_nil,rfl⟩,by rw [List.take_zero];rfl,fun j l hj=>by omega⟩
theorem FromOk.skip{ls:List aL}{R:Nat->aD}{i:Nat}{e:bV}(h:FromOk ls R i e){l:aL}(hl:ls[i]?=some l)(hk:l.1≠1):FromOk ls R (i+1) e:=
 ⟨h.ok,by rw [h.names,gK hl];unfold bQ;rw [if_neg hk],fun j m hj hm h1=>by
  rcases Nat.lt_or_eq_of_le (Nat.le_of_lt_succ hj)with h2|h2
  ·exact h.done j m h2 hm h1
  ·subst h2;rw [hl]at hm;cases hm;exact absurd h1 hk⟩
theorem EnvLe.fitA{e f:bV}(h:EnvLe e f){ts:List aE}{x:List ByteArray}(hx:aEo e.1 e.2 ts x):aEo f.1 f.2 ts x:=fun i t hi=>h.fit (hx i t hi)
theorem FromOk.next{ls:List aL}{R:Nat->aD}{i:Nat}{e f:bV}(h:FromOk ls R i e){l:aL}(hl:ls[i]?=some l)(hk:l.1=1){x:List ByteArray}(hx:x∈R i)(hxl:x.length=(aA l).length)(hf:bU e (aA l) x (aA l).length=some f):FromOk ls R (i+1) f/\EnvLe e f:=by
 obtain⟨h1,h2,h3,h4⟩:=iI h.ok hf;rw [List.take_length]at h3;refine⟨⟨h1,?_,fun j m hj hm hm1=>?_⟩,h2⟩
 ·rw [h3,h.names,gK hl];unfold bQ;rw [if_pos hk]
 ·rcases Nat.lt_or_eq_of_le (Nat.le_of_lt_succ hj)with h5|h5
  ·obtain⟨y,hy,hyl,hyf⟩:=h.done j m h5 hm hm1;exact⟨y,hy,hyl,h2.fitA hyf⟩
  ·subst h5;rw [hl]at hm;cases hm;exact⟨x,hx,hxl,fun j t hj2=>h4 j t (List.getElem?_eq_some_iff.1 hj2).1 hj2⟩
theorem FromOk.has{ls:List aL}{R:Nat->aD}{i:Nat}{e:bV}(h:FromOk ls R i e){l:aL}(hl:ls[i]?=some l)(hk:l.1=1){V:List ByteArray}(hV:dN ls R V)(hp:V.take e.2.length=e.2):
 ∃x∈R i,x.length=(aA l).length/\∃f,bU e (aA l) x (aA l).length=some f/\V.take f.2.length=f.2:=by
 have h1:=hV.2 i l hl;unfold mM at h1;rw [if_pos hk]at h1;obtain⟨x,hx,hxl,hxf⟩:=h1;have hg:EnvOk (aB ls,V):=⟨dG ls,hV.1⟩;have hle:EnvLe e (aB ls,V):=⟨by rw [h.names];exact jT ls i,hp⟩;obtain⟨f,hf,hle2⟩:=tN (x:=x) h.ok hg hle (Nat.le_refl (aA l).length) (by rw [List.take_length,h.names];have:=jT ls (i+1);rw [gK hl]at this;unfold bQ at this;rw [if_pos hk]at this;exact this) hxf;exact⟨x,hx,hxl,f,hf,hle2.vals⟩
theorem FromOk.len{ls:List aL}{R:Nat->aD}{i:Nat}{e:bV}(h:FromOk ls R i e):e.2.length=(aB (ls.take i)).length:=by rw [h.ok.len,h.names]
theorem FromOk.last{ls:List aL}{R:Nat->aD}{e:bV}(h:FromOk ls R ls.length e):e.1=aB ls/\(dN ls R e.2↔∀(i:Nat) (l:aL),ls[i]?=some l->l.1≠1->mM (aB ls) e.2 (R i) l)/\∀V,dN ls R V->V.length=e.2.length:=by
 have hn:e.1=aB ls:=by rw [h.names,List.take_length]
 have hl:e.2.length=(aB ls).length:=by rw [h.ok.len,hn]
 refine⟨hn,⟨fun hB i l hi _=>hB.2 i l hi,fun hB=>⟨hl,fun i l hi=>?_⟩⟩,fun V hV=>by rw [hV.1,hl]⟩;by_cases hk:l.1=1
 ·unfold mM;rw [if_pos hk];have:=h.done i l (List.getElem?_eq_some_iff.1 hi).1 hi hk;rw [hn]at this;exact this
 ·exact hB i l hi hk
structure CurZ where
 keys:List ByteArray
 lo:Nat
 hi:Nat
structure CurOk(c:CurZ):Prop where
 le:c.lo≤c.hi
 few:c.hi≤c.keys.length
 rise:∀(k l:Nat) (x y:ByteArray),c.lo≤k->k<l->l<c.hi->c.keys[k]?=some x->c.keys[l]?=some y->bE x.toList y.toList<0
def lR(c:CurZ)(p:Nat)(x:ByteArray):Prop:=∃k,p≤k/\k<c.hi/\c.keys[k]?=some x
theorem jZ{a b c:ByteArray}(h:bE a.toList b.toList<0)(h':bE b.toList c.toList<0):bE a.toList c.toList<0:=by rw [eI]at h h' ⊢;exact fZ h h'
theorem zX{a b c:ByteArray}(h:bE a.toList b.toList<0)(h':¬bE c.toList b.toList<0):bE a.toList c.toList<0:=by
 rcases kA b.toList c.toList with h2|h2|h2
 ·exact jZ h (by omega)
 ·rw [<-dL (eO h2)];exact h
 ·have:=dK b.toList c.toList;omega
section
variable {Sol:List ByteArray->Prop}{p:List ByteArray}{Cs:List CurZ}
structure LeapInv(Sol:List ByteArray->Prop)(p:List ByteArray)(Cs:List CurZ)(pos:Nat->Nat)(i:Nat)(D:ByteArray->Prop)(L:aD):Prop where
 ok:∀c∈Cs,CurOk c
 here:i<Cs.length
 inn:∀j c,Cs[j]?=some c->c.lo≤pos j/\pos j≤c.hi
 told:PartB Sol p D L
 common:∀V,Sol V->V.take p.length=p->∃x,V[p.length]?=some x/\(D x\/∀(j:Nat) (c:CurZ),Cs[j]?=some c->lR c (pos j) x)
 below:∀c x y,Cs[i]?=some c->D x->lR c (pos i) y->bE x.toList y.toList<0
theorem LeapInv.start(hok:∀c∈Cs,CurOk c)(hne:0<Cs.length)(hc:∀V,Sol V->V.take p.length=p->∃x,V[p.length]?=some x/\∀(j:Nat) (c:CurZ),Cs[j]?=some c->lR c c.lo x):LeapInv Sol p Cs (fun j=>(Cs.getD j ⟨[],0,0⟩).lo) 0 (fun _=>False) []:=by
 refine⟨hok,hne,fun j c hj=>?_,PartB.none fun V _ _ x _ h=>h,fun V h1 h2=>?_,fun c x y _ h=>h.elim⟩
 ·have e:Cs.getD j ⟨[],0,0⟩=c:=by rw [List.getD_eq_getElem?_getD,hj];rfl
  show _≤(Cs.getD j ⟨[],0,0⟩).lo/\(Cs.getD j ⟨[],0,0⟩).lo≤_;rw [e];exact⟨Nat.le_refl _,(hok c (List.mem_of_getElem? hj)).le⟩
 ·obtain⟨x,hx,h3⟩:=hc V h1 h2;refine⟨x,hx,.inr fun j c hj=>?_⟩;have e:Cs.getD j ⟨[],0,0⟩=c:=by rw [List.getD_eq_getElem?_getD,hj];rfl
  show lR c (Cs.getD j ⟨[],0,0⟩).lo x;rw [e];exact h3 j c hj
theorem LeapInv.end{pos:Nat->Nat}{i:Nat}{D:ByteArray->Prop}{L:aD}(h:LeapInv Sol p Cs pos i D L){j:Nat}{c:CurZ}(hj:Cs[j]?=some c)(he:pos j=c.hi):AllB Sol p L:=by
 refine h.told.all fun V h1 h2=>?_;obtain⟨x,hx,h3⟩:=h.common V h1 h2;refine⟨x,hx,?_⟩;rcases h3 with h3|h3
 ·exact h3
 ·obtain⟨k,h4,h5,_⟩:=h3 j c hj;omega
theorem LeapInv.seek{pos:Nat->Nat}{i:Nat}{D:ByteArray->Prop}{L:aD}(h:LeapInv Sol p Cs pos i D L){ci:CurZ}(hi:Cs[i]?=some ci)(hlt:pos i<ci.hi){key:ByteArray}(hk:ci.keys[pos i]?=some key){j:Nat}{c:CurZ}(hj:Cs[j]?=some c){q:Nat}(hq:pos j≤q)(hq2:q≤c.hi)(hb:∀k x,pos j≤k->k<q->c.keys[k]?=some x->bE x.toList key.toList<0)(hij:j=i->q=pos i):
 LeapInv Sol p Cs (fun m=>if m=j then q else pos m) i D L:=by
 have hp:=h.inn j c hj;refine⟨h.ok,h.here,fun m d hm=>?_,h.told,fun V h1 h2=>?_,fun d x y hd hx hy=>?_⟩
 ·show _≤(if m=j then q else pos m)/\(if m=j then q else pos m)≤_;split
  ·rename_i e;subst e;rw [hj]at hm;cases hm;exact⟨by omega,hq2⟩
  ·exact h.inn m d hm
 ·obtain⟨x,hx,h3⟩:=h.common V h1 h2;refine⟨x,hx,?_⟩;rcases h3 with h3|h3
  ·exact .inl h3
  ·refine .inr fun m d hm=>?_;show lR d (if m=j then q else pos m) x;split
   ·rename_i e;subst e;rw [hj]at hm;cases hm;obtain⟨k,h4,h5,h6⟩:=h3 m c hj;obtain⟨k',h7,h8,h9⟩:=h3 i ci hi;refine⟨k,?_,h5,h6⟩;rcases Nat.lt_or_ge k q with h10|h10
    ·exfalso;have h11:=hb k x h4 h10 h6;rcases Nat.lt_or_eq_of_le h7 with h12|h12
     ·have h13:=(h.ok ci (List.mem_of_getElem? hi)).rise (pos i) k' key x (h.inn i ci hi).1 h12 h8 hk h9;have:=dK x.toList key.toList;omega
     ·subst h12;rw [hk]at h9;cases h9;rw [fL]at h11;omega
    ·exact h10
   ·exact h3 m d hm
 ·have e:(if i=j then q else pos i)=pos i:=by
   split
   ·rename_i e;exact hij e.symm
   ·rfl
  have hy':lR d (pos i) y:=by have h0:lR d (if i=j then q else pos i) y:=hy;rw [e]at h0;exact h0
  exact h.below d x y hd hx hy'
theorem LeapInv.lead{pos:Nat->Nat}{i:Nat}{D:ByteArray->Prop}{L:aD}(h:LeapInv Sol p Cs pos i D L){ci:CurZ}(hi:Cs[i]?=some ci)(hlt:pos i<ci.hi){key:ByteArray}(hk:ci.keys[pos i]?=some key){j:Nat}{c:CurZ}(hj:Cs[j]?=some c)(hl2:pos j<c.hi){key2:ByteArray}(hk2:c.keys[pos j]?=some key2)(hge:¬bE key2.toList key.toList<0):LeapInv Sol p Cs pos j D L:=by
 refine⟨h.ok,(List.getElem?_eq_some_iff.1 hj).1,h.inn,h.told,h.common,fun d x y hd hx hy=>?_⟩;rw [hj]at hd;cases hd;have h1:=h.below ci x key hi hx ⟨pos i,Nat.le_refl _,hlt,hk⟩;have h2:=zX h1 hge;obtain⟨k,h3,h4,h5⟩:=hy;rcases Nat.lt_or_eq_of_le h3 with h6|h6
 ·exact jZ h2 ((h.ok c (List.mem_of_getElem? hj)).rise (pos j) k key2 y (h.inn j c hj).1 h6 h4 hk2 h5)
 ·subst h6;rw [hk2]at h5;cases h5;exact h2
theorem LeapInv.next{pos:Nat->Nat}{i:Nat}{D:ByteArray->Prop}{L L':aD}(h:LeapInv Sol p Cs pos i D L){ci:CurZ}(hi:Cs[i]?=some ci)(hlt:pos i<ci.hi){key:ByteArray}(hk:ci.keys[pos i]?=some key)(h':AllB Sol (p++ [key]) L'):LeapInv Sol p Cs (fun m=>if m=i then pos i+1 else pos m) i (fun y=>D y\/y=key) (L++L'):=by
 refine⟨h.ok,h.here,fun m d hm=>?_,h.told.next h' fun V h1 h2 y hy hD=>h.below ci y key hi hD ⟨pos i,Nat.le_refl _,hlt,hk⟩,fun V h1 h2=>?_,fun d x y hd hx hy=>?_⟩
 ·show _≤(if m=i then pos i+1 else pos m)/\(if m=i then pos i+1 else pos m)≤_;split
  ·rename_i e;subst e;rw [hi]at hm;cases hm;have:=(h.inn m ci hi).1;exact⟨by omega,hlt⟩
  ·exact h.inn m d hm
 ·obtain⟨x,hx,h3⟩:=h.common V h1 h2;refine⟨x,hx,?_⟩;rcases h3 with h3|h3
  ·exact .inl (.inl h3)
  ·by_cases e:x=key
   ·exact .inl (.inr e)
   ·refine .inr fun m d hm=>?_;show lR d (if m=i then pos i+1 else pos m) x;split
    ·rename_i e2;subst e2;rw [hi]at hm;cases hm;obtain⟨k,h4,h5,h6⟩:=h3 m ci hi;refine⟨k,?_,h5,h6⟩;rcases Nat.lt_or_eq_of_le h4 with h7|h7
     ·exact h7
     ·subst h7;rw [hk]at h6;cases h6;exact absurd rfl e
    ·exact h3 m d hm
 ·rw [hi]at hd;cases hd;have hy':lR ci (pos i+1) y:=by
   have h0:lR ci (if i=i then pos i+1 else pos i) y:=hy;rw [if_pos rfl]at h0;exact h0
  obtain⟨k,h3,h4,h5⟩:=hy';have h6:=(h.ok ci (List.mem_of_getElem? hi)).rise (pos i) k key y (h.inn i ci hi).1 (by omega) h4 hk h5;rcases hx with hx|hx
  ·exact h.below ci x y hi hx ⟨k,by omega,h4,h5⟩
  ·rw [hx];exact h6
end
section
variable {W:aD}{d:Nat}
def SpanOf(W:aD)(d:Nat)(q:List ByteArray)(a b:Nat):Prop:=∃lo hi,Iv W q lo hi/\a=aR W d q.length lo/\b=aR W d q.length hi
theorem aFh(i:Nat):aR W d i 0=0:=by have:=dV W d i 0;unfold aR;omega
theorem lU(i:Nat){m n:Nat}(h:m≤n):aR W d i m≤aR W d i n:=by obtain⟨r,e,_⟩:=nG W d i h;unfold aR;rw [e,List.length_append];omega
theorem aI5(hne:0<W.length):SpanOf W d [] 0 (aR W d 0 W.length):=
 ⟨0,W.length,⟨hne,Nat.le_refl _,fun n x hx=>⟨fun _=>⟨Nat.zero_le _,(List.getElem?_eq_some_iff.1 hx).1⟩,fun _=>rfl⟩⟩,(aFh 0).symm,rfl⟩
theorem nJ{i n k s:Nat}(h:(bA W d i n)[k]?=some s){m:Nat}(hm:m≤n):k<aR W d i m↔s<m:=by
 obtain⟨r,e,hr⟩:=nG W d i hm;rw [e]at h;unfold aR;refine⟨fun hk=>?_,fun hs=>?_⟩
 ·rw [List.getElem?_append_left hk]at h;exact(mA h).2
 ·rcases Nat.lt_or_ge k (bA W d i m).length with h1|h1
  ·exact h1
  ·rw [List.getElem?_append_right h1]at h;have:=hr _ (List.mem_of_getElem? h);omega
theorem WaysOk.cell(h:WaysOk W d){n:Nat}{r:List ByteArray}(hr:W[n]?=some r){i:Nat}(hi:i<d):∃x,r[i]?=some x/\r.take (i+1)=r.take i++ [x]:=by
 have hl:i<r.length:=by rw [h.len r (List.mem_of_getElem? hr)];exact hi
 refine⟨_,qG hl,?_⟩;rw [List.take_add_one,qG hl];rfl
theorem SpanOf.place(hW:WaysOk W d){q:List ByteArray}{a b:Nat}(h:SpanOf W d q a b)(hq:q.length<d){k:Nat}(ha:a≤k)(hb:k<b):
 ∃s r x,(bA W d q.length W.length)[k]?=some s/\W[s]?=some r/\r.take (q.length+1)=q++ [x]/\(cB W d q.length W.length)[k]?=some x/\Iv W (q++ [x]) s ((bA W d q.length W.length).getD (k+1) W.length):=by
 obtain⟨lo,hi,hI,rfl,rfl⟩:=h;have hkS:k< (bA W d q.length W.length).length:=Nat.lt_of_lt_of_le hb (lU _ hI.few);obtain⟨s,hs⟩:∃s,(bA W d q.length W.length)[k]?=some s:=⟨_,qG hkS⟩;have hsn:=(mA hs).2;have h1:s<hi:=(nJ hs hI.few).1 hb;have h2:¬s<lo:=fun h=>Nat.not_lt.2 ha ((nJ hs (Nat.le_trans (Nat.le_of_lt hI.le) hI.few)).2 h);obtain⟨r,hr⟩:∃r,W[s]?=some r:=⟨_,qG hsn⟩;obtain⟨x,hx,et⟩:=hW.cell hr hq;have eq:r.take q.length=q:=(hI.iff s r hr).2 ⟨by omega,h1⟩;rw [eq]at et;have hst:=(mB hq).1 (List.mem_of_getElem? hs);refine⟨s,r,x,hs,hr,et,?_,?_,?_,?_⟩
 ·unfold cB;rw [List.getElem?_map,hs];show some ((W.getD s []).getD q.length ByteArray.empty)=some x;rw [bM hr,bM hx]
 ·rw [List.getD_eq_getElem?_getD];cases h4:(bA W d q.length W.length)[k+1]? with
  |none=>exact hsn
  |some e=>
   obtain⟨l1,e1⟩:=List.getElem?_eq_some_iff.1 hs;obtain⟨l2,e2⟩:=List.getElem?_eq_some_iff.1 h4;have:=List.pairwise_iff_getElem.1 (gH W d q.length W.length) k (k+1) l1 l2 (by omega);rw [e1,e2]at this;exact this
 ·rw [List.getD_eq_getElem?_getD];cases h4:(bA W d q.length W.length)[k+1]? with
  |none=>exact Nat.le_refl _
  |some e=>exact Nat.le_of_lt (mA h4).2
 ·intro n y hy;have hn:=(List.getElem?_eq_some_iff.1 hy).1;rw [List.length_append,List.length_singleton,<-et];refine⟨fun he=>⟨?_,?_⟩,fun⟨h3,h4⟩=>?_⟩
  ·rcases Nat.lt_or_ge n s with h3|h3
   ·exfalso;rcases fI.1 hst.2 with h4|h4
    ·omega
    ·obtain⟨z,hz⟩:∃z,W[s-1]?=some z:=⟨_,qG (by omega)⟩;rw [bM hz,bM hr]at h4;exact h4 ((hW.between hy hz hr (by omega) (by omega) he).trans he)
   ·exact h3
  ·rcases Nat.lt_or_ge n ((bA W d q.length W.length).getD (k+1) W.length)with h3|h3
   ·exact h3
   ·exfalso;rw [List.getD_eq_getElem?_getD]at h3;cases h4:(bA W d q.length W.length)[k+1]? with
    |none=>
     rw [h4]at h3;have h5:W.length≤n:=h3;omega
    |some e=>
     rw [h4]at h3;have h5:e≤n:=h3;have h6:=(mB hq).1 (List.mem_of_getElem? h4);obtain⟨l1,e1⟩:=List.getElem?_eq_some_iff.1 hs;obtain⟨l2,e2⟩:=List.getElem?_eq_some_iff.1 h4;have h7:=List.pairwise_iff_getElem.1 (gH W d q.length W.length) k (k+1) l1 l2 (by omega);rw [e1,e2]at h7;obtain⟨z,hz⟩:∃z,W[e-1]?=some z:=⟨_,qG (by omega)⟩;obtain⟨u,hu⟩:∃u,W[e]?=some u:=⟨_,qG (by omega)⟩;rcases fI.1 h6.2 with h8|h8
     ·omega
     ·rw [bM hz,bM hu]at h8;exact h8 ((hW.between hr hz hy (by omega) (by omega) he.symm).trans (hW.between hr hu hy (by omega) h5 he.symm).symm)
  ·-- no start lies between
   have key:∀m,s≤m->m≤n->∀z,W[m]?=some z->z.take (q.length+1)=r.take (q.length+1):=by
    intro m;induction m with
    |zero=>
     intro h5 _ z hz;have:s=0:=by omega
     rw [this]at hr;rw [hr]at hz;cases hz;rfl
    |succ m ih=>
     intro h5 h6 z hz;rcases Nat.lt_or_eq_of_le h5 with h7|h7
     ·obtain⟨u,hu⟩:∃u,W[m]?=some u:=⟨_,qG (by omega)⟩;have h8:=ih (by omega) (by omega) u hu;have h9:¬dS W (q.length+1) (m+1)=true:=fun h10=>by
       have hm:=(mB (W:=W) (n:=W.length) hq).2 ⟨(List.getElem?_eq_some_iff.1 hz).1,h10⟩;obtain⟨j,hj⟩:=List.mem_iff_getElem?.1 hm;obtain⟨l1,e1⟩:=List.getElem?_eq_some_iff.1 hs;obtain⟨l2,e2⟩:=List.getElem?_eq_some_iff.1 hj;have hjk:k<j:=by
        rcases Nat.lt_trichotomy k j with h|h|h
        ·exact h
        ·subst h;rw [hs]at hj;cases hj;omega
        ·have:=List.pairwise_iff_getElem.1 (gH W d q.length W.length) j k l2 l1 h;rw [e1,e2]at this;omega
       rw [List.getD_eq_getElem?_getD,qG (by omega:k+1<_)]at h4;have h11:n< (bA W d q.length W.length)[k+1]:=h4;rcases Nat.lt_or_eq_of_le (show k+1≤j from hjk)with h|h
       ·have:=List.pairwise_iff_getElem.1 (gH W d q.length W.length) (k+1) j (by omega) l2 h;rw [e2]at this;omega
       ·subst h;rw [e2]at h11;omega
      have h12:u.take (q.length+1)=z.take (q.length+1):=by refine Classical.byContradiction fun h13=>h9 (fI.2 (.inr ?_));rw [Nat.add_sub_cancel,bM hu,bM hz];exact h13
      rw [<-h12];exact h8
     ·rw [<-h7]at hz;rw [hr]at hz;cases hz;rfl
   exact key n h3 (Nat.le_refl _) y hy
theorem SpanOf.all(hW:WaysOk W d){q:List ByteArray}{a b:Nat}(h:SpanOf W d q a b)(hq:q.length<d){x:ByteArray}{r:List ByteArray}(hr:r∈W)(he:r.take (q.length+1)=q++ [x]):
 ∃k,a≤k/\k<b/\(cB W d q.length W.length)[k]?=some x:=by
 have hS:=h;obtain⟨lo,hi,hI,ea,eb⟩:=h;obtain⟨n,hn⟩:=List.mem_iff_getElem?.1 hr;have hnl:=(List.getElem?_eq_some_iff.1 hn).1;have e1:r.take q.length=q:=by have:=congrArg (List.take q.length) he;rw [List.take_take,List.take_left]at this;rw [show min q.length (q.length+1)=q.length by omega]at this;exact this
 obtain⟨h1,h2⟩:=(hI.iff n r hn).1 e1;have hlo:dS W (q.length+1) lo=true:=by
  refine fI.2 ?_;by_cases h0:lo=0
  ·exact .inl h0
  ·refine .inr fun h3=>?_;obtain⟨z,hz⟩:∃z,W[lo-1]?=some z:=⟨_,qG (by omega)⟩;obtain⟨u,hu⟩:∃u,W[lo]?=some u:=⟨_,qG (by omega)⟩;rw [bM hz,bM hu]at h3;have h4:z.take q.length=u.take q.length:=by
    have:=congrArg (List.take q.length) h3;rw [List.take_take,List.take_take]at this;rw [show min q.length (q.length+1)=q.length by omega]at this;exact this
   have h5:=(hI.iff lo u hu).2 ⟨Nat.le_refl _,hI.le⟩;have h6:=((hI.iff (lo-1) z hz).1 (h4.trans h5)).1;omega
 have hml:lo∈bA W d q.length (n+1):=(mB hq).2 ⟨by omega,hlo⟩;obtain⟨j,hj⟩:=List.mem_iff_getElem?.1 hml;have hjl:=(List.getElem?_eq_some_iff.1 hj).1;obtain⟨k,ek⟩:∃k,aR W d q.length (n+1)=k+1:=⟨aR W d q.length (n+1)-1,by unfold aR;omega⟩;have hka:a≤k:=by have h3:¬j<aR W d q.length lo:=fun h=>absurd ((nJ hj (by omega)).1 h) (by omega);have h4:j<aR W d q.length (n+1):=hjl;omega
 have hkb:k<b:=by have:=lU (W:=W) (d:=d) q.length (show n+1≤hi from h2);omega
 obtain⟨s,r',x',hs,hr',he',hk',hI'⟩:=hS.place hW hq hka hkb;refine⟨k,hka,hkb,?_⟩;have hsn:s<n+1:=(nJ hs (by omega)).1 (by omega);have hne:n< (bA W d q.length W.length).getD (k+1) W.length:=by
  rw [List.getD_eq_getElem?_getD];cases h4:(bA W d q.length W.length)[k+1]? with
  |none=>exact hnl
  |some e=>
   have h5:¬e<n+1:=fun h=>absurd ((nJ h4 (by omega)).2 h) (by omega);show n<e;omega
 have h7:=(hI'.iff n r hn).2 ⟨by omega,hne⟩;rw [List.length_append,List.length_singleton,he]at h7;have h8:=(List.append_inj h7 rfl).2;rw [hk'];simpa using h8.symm
theorem SpanOf.rise(hW:WaysOk W d){q:List ByteArray}{a b:Nat}(h:SpanOf W d q a b)(hq:q.length<d){k l:Nat}(ha:a≤k)(hl:k<l)(hb:l<b){x y:ByteArray}(hx:(cB W d q.length W.length)[k]?=some x)(hy:(cB W d q.length W.length)[l]?=some y):bE x.toList y.toList<0:=by
 obtain⟨s,r,x',hs,hr,he,hk,hI⟩:=h.place hW hq ha (by omega);obtain⟨t,u,y',ht,hu,he2,hk2,hI2⟩:=h.place hW hq (show a≤l by omega) hb;rw [hk]at hx;cases hx;rw [hk2]at hy;cases hy;obtain⟨l1,e1⟩:=List.getElem?_eq_some_iff.1 hs;obtain⟨l2,e2⟩:=List.getElem?_eq_some_iff.1 ht;have hst:=List.pairwise_iff_getElem.1 (gH W d q.length W.length) k l l1 l2 hl;rw [e1,e2]at hst;have h1:=kP (q.length+1) ((hW.len r (List.mem_of_getElem? hr)).trans (hW.len u (List.mem_of_getElem? hu)).symm) (hW.le hr hu (Nat.le_of_lt hst));rw [he,he2,uV]at h1;have h2:bE x.toList y.toList≠0:=fun e=>by have exy:x=y:=dL (eO e);subst exy;have h3:=((hI2.iff s r hr).1 (by rw [List.length_append,List.length_singleton];exact he)).1;omega
 omega
theorem SpanOf.down(hW:WaysOk W d){q:List ByteArray}{a b:Nat}(h:SpanOf W d q a b)(hq:q.length<d){k:Nat}(ha:a≤k)(hb:k<b){x:ByteArray}(hx:(cB W d q.length W.length)[k]?=some x):
 ∃f t,(cL W d q.length W.length++ [(aR W d (q.length+1) W.length:Int)])[k]?=some ((f:Nat):Int)/\(cL W d q.length W.length++ [(aR W d (q.length+1) W.length:Int)])[k+1]?=some ((t:Nat):Int)/\SpanOf W d (q++ [x]) f t:=by
 obtain⟨s,r,x',hs,hr,he,hk,hI⟩:=h.place hW hq ha hb;rw [hk]at hx;cases hx;refine⟨aR W d (q.length+1) s,aR W d (q.length+1) ((bA W d q.length W.length).getD (k+1) W.length),?_,?_,s,_,hI,by rw [List.length_append,List.length_singleton],by rw [List.length_append,List.length_singleton]⟩
 ·have hkl:k< (cL W d q.length W.length).length:=by rw [iS];exact(List.getElem?_eq_some_iff.1 hs).1
  rw [List.getElem?_append_left hkl];unfold cL;rw [List.getElem?_map,hs];rfl
 ·rw [List.getD_eq_getElem?_getD];cases h4:(bA W d q.length W.length)[k+1]? with
  |none=>
   have h5:=List.getElem?_eq_none_iff.1 h4;have h6:=(List.getElem?_eq_some_iff.1 hs).1;have h7:(cL W d q.length W.length).length=k+1:=by rw [iS];unfold aR;omega
   rw [List.getElem?_append_right (by omega),h7,Nat.sub_self];rfl
  |some e=>
   have hkl:k+1< (cL W d q.length W.length).length:=by rw [iS];exact(List.getElem?_eq_some_iff.1 h4).1
   rw [List.getElem?_append_left hkl];unfold cL;rw [List.getElem?_map,h4];rfl
theorem SpanOf.le{q:List ByteArray}{a b:Nat}(h:SpanOf W d q a b):a≤b/\b≤aR W d q.length W.length:=by obtain⟨lo,hi,hI,rfl,rfl⟩:=h;exact⟨lU _ (Nat.le_of_lt hI.le),lU _ hI.few⟩
theorem SpanOf.some(hW:WaysOk W d){q:List ByteArray}{a b:Nat}(h:SpanOf W d q a b)(hq:q.length<d):a<b:=by have hS:=h;obtain⟨lo,hi,hI,ea,eb⟩:=h;obtain⟨r,hr⟩:∃r,W[lo]?= .some r:=⟨_,qG (Nat.lt_of_lt_of_le hI.le hI.few)⟩;obtain⟨x,hx,et⟩:=hW.cell hr hq;have e:=(hI.iff lo r hr).2 ⟨Nat.le_refl _,hI.le⟩;rw [e]at et;obtain⟨k,h1,h2,_⟩:=hS.all hW hq (List.mem_of_getElem? hr) et;omega
end
section
variable {W:aD}{d:Nat}
theorem tJ{i n:Nat}(hi:i<d){r:List ByteArray}{x:ByteArray}(hr:W[n]?=some r)(hx:r[i]?=some x):cB W d i (n+1)=cB W d i n++if dS W (i+1) n then [x]else []:=by
 unfold cB;rw [nH W hi,List.map_append]
 congr 1
 split
 ·rw [List.map_singleton,bM hr,bM hx]
 ·rfl
theorem tM{i n:Nat}(hi:i<d):cL W d i (n+1)=cL W d i n++if dS W (i+1) n then [(aR W d (i+1) n:Int)]else []:=by
 unfold cL;rw [nH W hi,List.map_append]
 congr 1
 split
 ·rfl
 ·rfl
theorem qI{n:Nat}:aR W d d n=n:=by unfold aR;rw [nI W (Nat.lt_irrefl d),List.length_range]
theorem aGb{n:Nat}:dS W 0 n=(n==0):=by unfold dS;rw [List.take_zero,List.take_zero];simp
structure PathOk(W:aD)(d:Nat)(q:List ByteArray)(st:List (Nat×Nat)):Prop where
 len:st.length=q.length
 at_:∀(j:Nat) (e:Nat×Nat),st[j]?=some e->∃a x,SpanOf W d (q.take j) a e.2/\a≤e.1/\e.1<e.2/\q[j]?=some x/\(cB W d j W.length)[e.1]?=some x
 few:q.length≤d
theorem PathOk.nil:PathOk W d [] []:=⟨rfl,fun j e h=>by simp at h,Nat.zero_le _⟩
theorem PathOk.push{q:List ByteArray}{st:List (Nat×Nat)}(h:PathOk W d q st)(hq:q.length<d){a b k:Nat}{x:ByteArray}(hs:SpanOf W d q a b)(ha:a≤k)(hb:k<b)(hx:(cB W d q.length W.length)[k]?=some x):PathOk W d (q++ [x]) (st++ [(k,b)]):=by
 refine⟨by simp [h.len],fun j e he=>?_,by simp;omega⟩;rcases Nat.lt_trichotomy j st.length with h1|h1|h1
 ·rw [List.getElem?_append_left h1]at he;obtain⟨a',x',h2,h3,h4,h5,h6⟩:=h.at_ j e he;have hj:j<q.length:=by rw [<-h.len];exact h1
  exact⟨a',x',by rw [List.take_append_of_le_length (by omega)];exact h2,h3,h4,by rw [List.getElem?_append_left hj];exact h5,h6⟩
 ·subst h1;rw [List.getElem?_append_right (Nat.le_refl _),Nat.sub_self]at he;cases he;refine⟨a,x,?_,ha,hb,?_,?_⟩
  ·rw [h.len,List.take_left];exact hs
  ·rw [h.len,List.getElem?_append_right (Nat.le_refl _),Nat.sub_self];rfl
  ·rw [h.len];exact hx
 ·rw [List.getElem?_append_right (by omega)]at he;have:j-st.length≠0:=by omega
  cases hj:j-st.length with
  |zero=>omega
  |succ m=>rw [hj]at he;simp at he
theorem PathOk.open(hW:WaysOk W d)(hne:0<W.length){q:List ByteArray}{st:List (Nat×Nat)}(h:PathOk W d q st)(hq:q.length<d):
 ∃a b,SpanOf W d q a b/\a<b/\((q= []/\a=0/\b=aR W d 0 W.length)\/
  ∃(m:Nat) (e:Nat×Nat),q.length=m+1/\st[m]?=some e/\(cL W d m W.length++ [(aR W d (m+1) W.length:Int)])[e.1]?=some ((a:Nat):Int)/\(cL W d m W.length++ [(aR W d (m+1) W.length:Int)])[e.1+1]?=some ((b:Nat):Int)):=by
 cases hl:q.length with
 |zero=>
  have e:q= []:=List.eq_nil_of_length_eq_zero hl;subst e;have hs:=aI5 (W:=W) (d:=d) hne;exact⟨0,_,hs,hs.some hW hq,.inl ⟨rfl,rfl,rfl⟩⟩
 |succ m=>
  obtain⟨e,he⟩:∃e,st[m]?=some e:=⟨_,qG (by rw [h.len,hl];omega)⟩;obtain⟨a',x,h1,h2,h3,h4,h5⟩:=h.at_ m e he;have hlen:(q.take m).length=m:=by rw [List.length_take];omega
  have hd:=h1.down hW (by rw [hlen];omega) h2 h3 (x:=x) (by rw [hlen];exact h5);rw [hlen]at hd;obtain⟨f,t,h6,h7,h8⟩:=hd;have eq:q.take m++ [x]=q:=by
   have:q.take (m+1)=q.take m++ [x]:=by rw [List.take_add_one,h4];rfl
   rw [<-this,<-hl,List.take_length]
  rw [eq]at h8;exact⟨f,t,h8,h8.some hW hq,.inr ⟨m,e,rfl,he,h6,h7⟩⟩
end
def kD(N V:List ByteArray)(R:aD)(l:aL):Prop:=
 if l.1=1 then(aY N (aA l)).map (bK V)∈dU N (aA l) R
 else if l.1=2 then ¬(aY N (aA l)).map (bK V)∈dU N (aA l) R
 else rR (gM l) (mZ N V (leftOf l)) (mZ N V (aN l))
theorem aE9{N V:List ByteArray}{R:aD}{l:aL}(hN:N.Nodup)(hV:V.length=N.length)(hin:l.1=1\/l.1=2->∀t∈aA l,t.1=1->t.2.1∈N):kD N V R l↔mM N V R l:=by
 unfold kD mM;by_cases h1:l.1=1
 ·rw [if_pos h1,if_pos h1];exact aH1 R hN hV (hin (.inl h1))
 ·rw [if_neg h1,if_neg h1];by_cases h2:l.1=2
  ·rw [if_pos h2,if_pos h2,aH1 R hN hV (hin (.inr h2))]
  ·rw [if_neg h2,if_neg h2]
theorem aAy:∀(ts:List aE) (a:List ByteArray) (t:aE),t∈ts->t.1=1->t.2.1∈cE a ts
 | [],_,_,h,_=>by simp at h
 |u::ts,a,t,h,h1=>by
  show t.2.1∈cE (bI a u) ts;rcases List.mem_cons.1 h with h|h
  ·subst h;have hm:t.2.1∈bI a t:=by
    unfold bI;split
    ·simp
    ·rename_i h2;rw [<-dB];cases h3:gN a t.2.1 with
     |true=>rfl
     |false=>exact absurd ⟨h1,h3⟩ h2
   have hp:=tH ts (bI a t);rw [<-hp]at hm;exact List.mem_of_mem_take hm
  ·exact aAy ts (bI a u) t h h1
theorem aGm{ls:List aL}{l:aL}(hl:l∈ls)(h1:l.1=1){t:aE}(ht:t∈aA l)(h:t.1=1):t.2.1∈aB ls:=by
 obtain⟨i,hi⟩:=List.mem_iff_getElem?.1 hl;have e:=gK hi;have hm:t.2.1∈aB (ls.take (i+1)):=by rw [e];unfold bQ;rw [if_pos h1];exact aAy _ _ _ ht h
 rw [<-jT ls (i+1)]at hm;exact List.mem_of_mem_take hm
theorem aB1{r:cG}(h:aU r=0){l:aL}(hl:l∈r.2.1)(hk:l.1=1\/l.1=2):∀t∈aA l,t.1=1->t.2.1∈aB r.2.1:=fun t ht h1=>by
 rcases hk with hk|hk
 ·exact aGm hl hk ht h1
 ·unfold aU at h;split at h
  ·split at h
   ·rename_i hp hs;unfold iZ at hs;rw [Bool.and_eq_true]at hs;have h2:=List.all_eq_true.1 hs.2 l hl;unfold eH at h2;rw [if_neg (by omega),if_pos hk]at h2;have h3:=List.all_eq_true.1 h2 t ht;unfold cD at h3;rw [if_neg (by omega)]at h3;rcases of_decide_eq_true h3 with h4|h4|h4
    ·omega
    ·omega
    ·exact dB.1 h4
   ·cases h
  ·cases h
theorem zF{r:cG}(h:aU r=0){R:Nat->aD}{V:List ByteArray}:dN r.2.1 R V↔V.length=(aB r.2.1).length/\∀(i:Nat) (l:aL),r.2.1[i]?=some l->kD (aB r.2.1) V (R i) l:=by unfold dN;refine and_congr_right fun hV=>⟨fun h1 i l hl=>(aE9 (dG _) hV fun hk=>aB1 h (List.mem_of_getElem? hl) hk).2 (h1 i l hl),fun h1 i l hl=>(aE9 (dG _) hV fun hk=>aB1 h (List.mem_of_getElem? hl) hk).1 (h1 i l hl)⟩
theorem xL:∀(ts:List aE) (a:List ByteArray) (s:ByteArray),s∈cE a ts->s∈a\/∃t∈ts,t.1=1/\t.2.1=s
 | [],a,s,h=> .inl h
 |t::ts,a,s,h=>by
  rcases xL ts (bI a t) s h with h1|⟨u,hu,h1⟩
  ·unfold bI at h1;split at h1
   ·rename_i h2;rcases List.mem_append.1 h1 with h1|h1
    ·exact .inl h1
    ·rw [List.mem_singleton]at h1;exact .inr ⟨t,List.mem_cons_self ..,h2.1,h1.symm⟩
   ·exact .inl h1
  ·exact .inr ⟨u,List.mem_cons_of_mem _ hu,h1⟩
theorem uL:∀(ls:List aL) (a:List ByteArray) (s:ByteArray),s∈ls.foldl bQ a->s∈a\/∃l∈ls,l.1=1/\∃t∈aA l,t.1=1/\t.2.1=s
 | [],a,s,h=> .inl h
 |l::ls,a,s,h=>by
  rcases uL ls (bQ a l) s h with h1|⟨m,hm,h1⟩
  ·unfold bQ at h1;split at h1
   ·rename_i h2;rcases xL _ _ _ h1 with h3|h3
    ·exact .inl h3
    ·exact .inr ⟨l,List.mem_cons_self ..,h2,h3⟩
   ·exact .inl h1
  ·exact .inr ⟨m,List.mem_cons_of_mem _ hm,h1⟩
theorem oD{ls:List aL}{v:Nat}(hv:v< (aB ls).length):∃l∈ls,l.1=1/\v∈aY (aB ls) (aA l):=by
 have hg:(aB ls)[v]?=some (bK (aB ls) v):=by unfold bK;rw [List.getD_eq_getElem?_getD,qG hv];rfl
 rcases uL ls [] _ (List.mem_of_getElem? hg)with h|⟨l,hl,h1,t,ht,h2,h3⟩
 ·simp at h
 ·obtain⟨i,hi⟩:=List.mem_iff_getElem?.1 ht;exact⟨l,hl,h1,eD.2 ⟨hv,i,t,hi,h2,h3⟩⟩
theorem aFj{vs:List Nat}(hr:vs.Pairwise (· < ·)){m v:Nat}(hm:vs[m]?=some v){p V:List ByteArray}(hp:V.take v=p)(hV:v<V.length):
 (vs.map (bK V)).take (m+1)=(vs.take m).map (bK p)++ [bK V v]:=by
 have hml:=(List.getElem?_eq_some_iff.1 hm);rw [List.take_add_one,List.getElem?_map,hm];show(vs.map (bK V)).take m++ [bK V v]=_;rw [<-List.map_take]
 congr 1
 refine List.map_congr_left fun u hu=>?_;obtain⟨j,hj⟩:=List.mem_iff_getElem?.1 hu;have hjm:j<m:=by have:=(List.getElem?_eq_some_iff.1 hj).1;rw [List.length_take]at this;omega
 rw [List.getElem?_take_of_lt hjm]at hj;obtain⟨l1,e1⟩:=List.getElem?_eq_some_iff.1 hj;have huv:=List.pairwise_iff_getElem.1 hr j m l1 hml.1 hjm;rw [e1,hml.2]at huv;unfold bK;rw [List.getD_eq_getElem?_getD,List.getD_eq_getElem?_getD,<-hp,List.getElem?_take_of_lt huv]
theorem aOq{W:aD}{d:Nat}(hW:WaysOk W d){q:List ByteArray}{a b:Nat}(h:SpanOf W d q a b)(hq:q.length<d):CurOk ⟨cB W d q.length W.length,a,b⟩:=
 ⟨h.le.1,by show b≤(cB W d q.length W.length).length;rw [fV];exact h.le.2,fun k l x y h1 h2 h3 h4 h5=>h.rise hW hq h1 h2 h3 h4 h5⟩
theorem aHj{W:aD}{d:Nat}(hW:WaysOk W d){q:List ByteArray}{a b:Nat}(h:SpanOf W d q a b)(hq:q.length<d){r:List ByteArray}{x:ByteArray}(hr:r∈W)(he:r.take (q.length+1)=q++ [x]):lR ⟨cB W d q.length W.length,a,b⟩ a x:=by obtain⟨k,h1,h2,h3⟩:=h.all hW hq hr he;exact⟨k,h1,h2,h3⟩
def sF(N:List ByteArray)(t:aE):Int:=if t.1=1/\gN N t.2.1=true then((N.findIdx fun s=>decide (s=t.2.1):Nat):Int)else-1
def jV(N:List ByteArray)(l:aL):Int:=
 if l.1=2 then match (aY N (aA l)).getLast? with|some v=>(v:Int)|none=> -1
 else max (sF N (leftOf l)) (sF N (aN l))
theorem aEe{V V':List ByteArray}{k v:Nat}(h:V.take k=V'.take k)(hv:v<k):bK V v=bK V' v:=by unfold bK;rw [List.getD_eq_getElem?_getD,List.getD_eq_getElem?_getD,<-List.getElem?_take_of_lt hv,h,List.getElem?_take_of_lt hv]
theorem aCx{N V V':List ByteArray}{k:Nat}(h:V.take k=V'.take k){t:aE}(hk:sF N t<k)(hin:t.1=1->t.2.1∈N):mZ N V t=mZ N V' t:=by
 unfold mZ;split
 ·rename_i h1;refine aEe h ?_;unfold sF at hk;rw [if_pos ⟨h1,dB.2 (hin h1)⟩]at hk;omega
 ·rfl
theorem aK3{N V V':List ByteArray}{R:aD}{l:aL}{k:Nat}(h:V.take k=V'.take k)(h1:l.1≠1)(hk:jV N l<k)(hin:l.1≠2->(leftOf l).1=1->(leftOf l).2.1∈N)(hin2:l.1≠2->(aN l).1=1->(aN l).2.1∈N):kD N V R l↔kD N V' R l:=by
 unfold kD;rw [if_neg h1,if_neg h1];by_cases h2:l.1=2
 ·rw [if_pos h2,if_pos h2];unfold jV at hk;rw [if_pos h2]at hk;have e:(aY N (aA l)).map (bK V)=(aY N (aA l)).map (bK V'):=by
   refine List.map_congr_left fun v hv=>aEe h ?_;obtain⟨j,hj⟩:=List.mem_iff_getElem?.1 hv;have hjl:=List.getElem?_eq_some_iff.1 hj;have hlast:(aY N (aA l)).getLast?=(aY N (aA l))[(aY N (aA l)).length-1]?:=List.getLast?_eq_getElem?;obtain⟨u,hu⟩:∃u,(aY N (aA l))[(aY N (aA l)).length-1]?=some u:=⟨_,qG (by have:=hjl.1;omega)⟩;rw [hlast,hu]at hk;have hul:=List.getElem?_eq_some_iff.1 hu;have hk':(u:Int)<k:=hk;rcases Nat.lt_or_ge j ((aY N (aA l)).length-1)with h3|h3
   ·have:=List.pairwise_iff_getElem.1 (aAc N (aA l)) j _ hjl.1 hul.1 h3;rw [hjl.2,hul.2]at this;omega
   ·have:j=(aY N (aA l)).length-1:=by have:=hjl.1;omega
    subst this;rw [hj]at hu;cases hu;omega
  rw [e]
 ·rw [if_neg h2,if_neg h2];unfold jV at hk;rw [if_neg h2]at hk;rw [aCx h (by omega) (hin h2),aCx h (by omega) (hin2 h2)]
theorem aIg{N:List ByteArray}{l:aL}:jV N l<N.length:=by
 have hi:∀t,sF N t<N.length:=fun t=>by
  unfold sF;split
  ·rename_i h;have:=(List.getElem?_eq_some_iff.1 (aGy (dB.1 h.2))).1;omega
  ·omega
 unfold jV;split
 ·split
  ·rename_i v hv;have:=(eD.1 (List.mem_of_getLast? hv)).1;omega
  ·omega
 ·have h1:=hi (leftOf l);have h2:=hi (aN l);omega
end
section
open Go.RowKit
def dH{α:Type}(q:α->Bool)(l:List α):Int:=if l.any q=true then((l.findIdx q:Nat):Int)else-1
theorem aBc{α:Type}{q:α->Bool}{l:List α}{i:Nat}{u:α}(hno:∀(j:Nat) x,j<i->l[j]?=some x->q x=false)(hi:l[i]?=some u)(hq:q u=true):dH q l=i:=by
 unfold dH;rw [if_pos (lQ hi hq)];have hl:=List.getElem?_eq_some_iff.1 hi
 congr 1
 have h1:l.findIdx q≤i:=by refine Nat.not_lt.1 fun h=>?_;have:=List.not_of_lt_findIdx h;rw [hl.2,hq]at this;exact absurd this (by simp)
 rcases Nat.lt_or_eq_of_le h1 with h2|h2
 ·have h3:l.findIdx q<l.length:=Nat.lt_trans h2 hl.1;have h4:=List.findIdx_getElem (w:=h3);rw [hno _ _ h2 (qG h3)]at h4;cases h4
 ·exact h2
theorem uS{α:Type}{q:α->Bool}{l:List α}(hno:∀(j:Nat) x,j<l.length->l[j]?=some x->q x=false):dH q l= -1:=by unfold dH;rw [pP rfl hno];rfl
set_option maxHeartbeats 1000000 in
theorem oL(ss:List ByteArray)(s:ByteArray)(ao:Option Addr)(n cap:Nat)(w:World)(hn:n=ss.length)(h:CellsAt w ao (strs ss))(hl:n≤4611686018427387904):
 Calls Tryz.prog 75 #[.slice ao n cap,.string s] w (RetN w fun w' v=>v= .int .i64 (dH (fun x=>decide (x=s)) ss)):=by
 have HN:=qH hn;have HE:=qH h;clear hn h;go_enter Tryz.func75,Tryz.ntmps75;go_wp2;go_loopw [8] (fun iv wr=>aM8 w ss s n iv wr) (fun iv _=>n- (intOf iv).toNat)
 case atStart=>exact⟨0,Nat.zero_le _,rfl,fun j u h=>by omega,Kp.refl w⟩
 case round=>
  obtain⟨i,hi,rfl,hno,hex⟩:=hrel;by_cases hlt:i<n
  ·have hlt':i<ss.length:=by rw [<-HN.out];exact hlt
   obtain⟨b,off,eao,hc0⟩:=(HE.out.ext hex.out).str hlt';subst eao;have ht:ss[i]?=some ss[i]:=qG hlt';generalize ss[i]=u at*;by_cases hu:s=u
   ·have HT:=qH (nIX ht hu);clear ht hlt';subst hu;have hb:=str_eq s;go_wp2;go_ret;exact RetN.mk hex.out (by rw [aBc hno.out HT.out.1 (by simp)];rfl)
   ·have HT:=qH (nIX ht hu);have hb:=kU hu;clear ht hlt' hu;go_wp2;go_roundw
    case rel=>
     refine⟨i+1,by omega,nMX,fun j u hj hu=>?_,hex⟩;by_cases e:j=i
     ·subst e;rw [HT.out.1]at hu;cases hu;exact decide_eq_false (fun e=>HT.out.2 e.symm)
     ·exact hno.out j u (by omega) hu
    case measure=>simp [intOf];omega
  ·go_wp2;go_ret;exact RetN.mk hex.out (by rw [uS fun j u hj=>hno.out j u (by have:=HN.out;omega)];rfl)
def isT(k:Int)(s:ByteArray)(t:aE):Bool:=decide (t.1=k/\t.2.1=s)
def NoneX(w0:World)(ts:List aE)(q:aE->Bool)(n:Nat)(iv:Value)(w:World):Prop:=∃i:Nat,i≤n/\iv= .int .i64 i/\Hid (∀(j:Nat) u,j<i->ts[j]?=some u->q u=false)/\Hid (Ext w0 w)
set_option maxHeartbeats 2000000 in
theorem oK(ts:List aE)(k:Int)(s:ByteArray)(ao:Option Addr)(n cap:Nat)(w:World)(G:Nat->Prop)(hn:n=ts.length)(h:aO w G ao ts)(hl:n≤1048576):
 Calls Tryz.prog 150 #[.slice ao n cap,wH k s] w (RetN w fun w' v=>v= .int .i64 (dH (isT k s) ts)):=by
 have HN:=qH hn;have HE:=qH h;clear hn h;go_enter Tryz.func150,Tryz.ntmps150;obtain⟨w1,e1⟩:=nm (w.alloc (.cells #[.int .i64 k,.string s] 38));obtain⟨g0,eg0⟩:=nm w.heap.size;have hB:=bNX eg0 e1;have hx:Ext w w1:=xAX e1;have H1:=qH (nIX hx hB);clear hx hB;go_wp2;clear e1 eg0;go_loopw [8] (fun iv wr=>NoneX w1 ts (isT k s) n iv wr) (fun iv _=>n- (intOf iv).toNat)
 case atStart=>exact⟨0,Nat.zero_le _,rfl,fun j u h=>by omega,Kp.refl w1⟩
 case round=>
  obtain⟨i,hi,rfl,hno,hex⟩:=hrel;by_cases hlt:i<n
  ·obtain⟨t,ht⟩:∃t,ts[i]?=some t:=⟨_,qG (by rw [<-HN.out];exact hlt)⟩;obtain⟨b,off,eao,f0,f1,-,-⟩:=cX ((HE.out.ext H1.out.1).ext hex.out) ht;subst eao;have hB:=H1.out.2.ext hex.out;have b0:=hB.c0;have b1:=hB.c1;obtain⟨kt,st,⟨⟩⟩:=t;simp only at f0 f1;clear hB;by_cases hq:kt=k/\st=s
   ·have HT:=qH (nIX ht (show isT k s (kt,st,())=true from decide_eq_true hq));obtain⟨rfl,rfl⟩:=hq;have hb:=str_eq st;clear ht;go_wp2;go_quiet (fail)
    go_wp2;go_ret;exact RetN.mk ((H1.out.1.trans hex.out).drewN _) (by rw [aBc hno.out HT.out.1 HT.out.2];rfl)
   ·have HT:=qH (nIX ht (show isT k s (kt,st,())=false from decide_eq_false hq));clear ht;by_cases h1:k=kt
    ·subst h1;have hb:=kU (a:=s) (b:=st) (fun e=>hq ⟨rfl,e.symm⟩);have hb2:(k==k)=true:=by simp
     clear hq;go_wp2;go_quiet (fail)
     go_wp2;go_roundw
     case rel=>
      refine⟨i+1,by omega,nMX,fun j u hj hu=>?_,qH (hex.out.drewN _)⟩;by_cases e:j=i
      ·subst e;rw [HT.out.1]at hu;cases hu;exact HT.out.2
      ·exact hno.out j u (by omega) hu
     case measure=>simp [intOf];omega
    ·have hb:(k==kt)=false:=by simp [h1]
     clear hq h1;go_wp2;go_quiet (fail)
     go_wp2;go_roundw
     case rel=>
      refine⟨i+1,by omega,nMX,fun j u hj hu=>?_,qH (hex.out.drewN _)⟩;by_cases e:j=i
      ·subst e;rw [HT.out.1]at hu;cases hu;exact HT.out.2
      ·exact hno.out j u (by omega) hu
     case measure=>simp [intOf];omega
  ·go_wp2;go_ret;exact RetN.mk (H1.out.1.trans hex.out) (by rw [uS fun j u hj=>hno.out j u (by have:=HN.out;omega)];rfl)
theorem yY(ts:List aE)(k:Int)(s:ByteArray)(ao:Option Addr)(n cap:Nat)(w:World)(G:Nat->Prop)(hn:n=ts.length)(h:aO w G ao ts)(hl:n≤1048576):
 Calls Tryz.prog 148 #[.slice ao n cap,wH k s] w (RetN w fun w' v=>v= .bool (ts.any (isT k s))):=by
 have HI:=qH (fun W (hW:Ext w W)=>oK ts k s ao n cap W G hn (h.ext hW) hl);clear hn h hl;go_enter Tryz.func148,Tryz.ntmps148;obtain⟨w1,e1⟩:=nm (w.alloc (.cells #[.int .i64 k,.string s] 38));obtain⟨g0,eg0⟩:=nm w.heap.size;have hB:=bNX eg0 e1;have hx:Ext w w1:=xAX e1;have b0:=hB.c0;have b1:=hB.c1;have H1:=qH hx;clear hx hB;go_wp2_with fail
 refine(HI.out w1 H1.out).mono ?_;rintro e w2 ⟨v,rfl,hk,rfl⟩;go_wp2;go_ret;refine RetN.mk (H1.out.trans hk) (congrArg Value.bool ?_);unfold dH;cases h2:ts.any (isT k s)
 ·simp
 ·simp
end
section
theorem qO:BaseOk []:=⟨List.nodup_nil,fun p hp=>by simp at hp,Nat.zero_le _⟩
theorem aCc{s:ByteArray}:∀{rs:aD} {C:List aZ},BaseOk C->BaseOk (dA C s rs).1
 | [],C,h=>h
 |r::rs,C,h=>by
  unfold dA;split
  ·exact aCc (oC h s r)
  ·exact h
theorem aIa:∀{L:List eJ} {C:List aZ},BaseOk C->BaseOk (bX C L).1
 | [],C,h=>h
 |r::L,C,h=>by
  unfold bX;split
  ·split
   ·exact aIa (aCc (mI h _ _))
   ·exact aCc (mI h _ _)
  ·exact h
theorem xQ{α β:Type}{f:α->β}{o:Option α}{b:β}(h:o.map f=some b):∃a,o=some a/\f a=b:=by
 cases o with
 |none=>cases h
 |some a=>exact⟨a,rfl,by simpa using h⟩
theorem aIp{s:ByteArray}:∀{rs:aD} {C:List aZ},BaseOk C->(∃v,bL C s=some v)->(dA C s rs).2=0->
 (∀t x,x∈bG (dA C s rs).1 t↔x∈bG C t\/ (s=t/\x∈rs))/\∀t,(bL (dA C s rs).1 t).map (·.1)=(bL C t).map (·.1)
 | [],C,h,hs,h0=>⟨fun t x=>by simp [dA],fun t=>rfl⟩
 |r::rs,C,h,hs,h0=>by
  unfold dA at h0 ⊢;split at h0
  ·rename_i h1;rw [if_pos h1];have ha:∀t,(∃v,bL C s=some v)->(bL (fN C s r) t).map (·.1)=(bL C t).map (·.1):=fun t hs=>aK4 h h1 hs;have hs':∃v,bL (fN C s r) s=some v:=by
    obtain⟨v,hv⟩:=hs;have:=ha s ⟨v,hv⟩;rw [hv]at this;obtain⟨u,hu,_⟩:=xQ this;exact⟨u,hu⟩
   obtain⟨i1,i2⟩:=aIp (oC h s r) hs' h0;refine⟨fun t x=>?_,fun t=>(i2 t).trans (ha t hs)⟩;rw [i1 t x,aLu h h1,List.mem_cons];constructor
   ·rintro((h2|⟨h2,h3⟩)|⟨h2,h3⟩)
    ·exact .inl h2
    ·exact .inr ⟨h2,.inl h3⟩
    ·exact .inr ⟨h2,.inr h3⟩
   ·rintro(h2|⟨h2,h3|h3⟩)
    ·exact .inl (.inl h2)
    ·exact .inl (.inr ⟨h2,h3⟩)
    ·exact .inr ⟨h2,h3⟩
  ·rename_i h1;exact absurd h0 h1
theorem aEg:∀{L:List eJ} {C:List aZ},BaseOk C->(bX C L).2=0->
 (∀t x,x∈bG (bX C L).1 t↔x∈bG C t\/∃r∈L,r.1=t/\x∈r.2.2.1)/\(∀t v,bL C t=some v->∃LL,bL (bX C L).1 t=some (v.1,LL))/\
  (∀r∈L,0≤r.2.1/\∃LL,bL (bX C L).1 r.1=some (r.2.1.toNat,LL))/\∀t v,bL (bX C L).1 t=some v->(∃u,bL C t=some u)\/∃r∈L,r.1=t
 | [],C,h,h0=>⟨fun t x=>by simp [bX],fun t v hv=>⟨v.2,hv⟩,fun r hr=>by simp at hr,fun t v hv=> .inl ⟨v,hv⟩⟩
 |r::L,C,h,h0=>by
  unfold bX at h0 ⊢;split at h0
  ·rename_i h1;rw [if_pos h1];split at h0
   ·rename_i h2;rw [if_pos h2];obtain⟨LL,hg,ha0,ha1,hn⟩:=aIk h1;obtain⟨a1,a2⟩:=aIp (mI h _ _) ⟨_,hg⟩ h2;obtain⟨i1,i2,i3,i4⟩:=aEg (aCc (s:=r.1) (rs:=r.2.2.1) (mI h r.1 r.2.1)) h0;have hup:∀t v,bL (cV C r.1 r.2.1) t=some v->∃LL,bL (bX (dA (cV C r.1 r.2.1) r.1 r.2.2.1).1 L).1 t=some (v.1,LL):=fun t v hv=>by
     have:=a2 t;rw [hv]at this;obtain⟨u,hu,e⟩:=xQ this;obtain⟨L2,h3⟩:=i2 t u hu;exact⟨L2,by rw [h3,e]⟩
    refine⟨fun t x=>?_,fun t v hv=>?_,fun q hq=>?_,fun t v hv=>?_⟩
    ·rw [i1 t x,a1 t x,aJf h1];constructor
     ·rintro((h3|⟨h3,h4⟩)|⟨q,h3,h4⟩)
      ·exact .inl h3
      ·exact .inr ⟨r,List.mem_cons_self,h3,h4⟩
      ·exact .inr ⟨q,List.mem_cons_of_mem _ h3,h4⟩
     ·rintro(h3|⟨q,h3,h4,h5⟩)
      ·exact .inl (.inl h3)
      ·rcases List.mem_cons.1 h3 with rfl|h3
       ·exact .inl (.inr ⟨h4,h5⟩)
       ·exact .inr ⟨q,h3,h4,h5⟩
    ·by_cases e:r.1=t/\bL C r.1=none
     ·rw [<-e.1,e.2]at hv;cases hv
     ·exact hup t v (by rw [lM h1,if_neg e];exact hv)
    ·rcases List.mem_cons.1 hq with rfl|hq
     ·exact⟨ha0,hup _ _ hg⟩
     ·exact i3 q hq
    ·rcases i4 t v hv with⟨u,hu⟩|⟨q,hq,e⟩
     ·have:=a2 t;rw [hu]at this;obtain⟨u2,hu2,_⟩:=xQ this.symm;rw [lM h1]at hu2;split at hu2
      ·rename_i e;exact .inr ⟨r,List.mem_cons_self,e.1⟩
      ·exact .inl ⟨u2,hu2⟩
     ·exact .inr ⟨q,List.mem_cons_of_mem _ hq,e⟩
   ·rename_i h2;exact absurd h0 h2
  ·rename_i h1;exact absurd h0 h1
def SameC(C D:List aZ):Prop:=∀s,bL C s=bL D s
def leN(a b:ByteArray):Bool:=!decide (bE b.toList a.toList<0)
def mP(a b:ByteArray):Int:=bE a.toList b.toList
def oH(C:List aZ):List ByteArray:=(C.map (·.1)).mergeSort leN
def arC(C:List aZ)(s:ByteArray):Nat:=match bL C s with|some v=>v.1|none=>0
def aN5(C:List aZ)(s:ByteArray):eJ:=(s,(arC C s:Int),bG C s,())
def aAq(C:List aZ):List eJ:=(oH C).map (aN5 C)
theorem sN:OrdLaw mP:=⟨fun x y=>by
 have:=dK x.toList y.toList;unfold mP;omega,fun x y z=>by
 intro h1 h2;have:=mO (xs:= [x]) (ys:= [y]) (zs:= [z]);have e:∀a b:ByteArray,aC [a] [b]=mP a b:=fun a b=>by
  unfold mP;simp only [aC];split
  ·rfl
  ·rename_i h;rw [Classical.not_not.1 h]
 rw [e,e,e]at this;exact this h1 h2⟩
theorem gE(C:List aZ):(oH C).Perm (C.map (·.1)):=List.mergeSort_perm _ _
theorem aAx{C:List aZ}{s:ByteArray}:s∈oH C↔∃v,bL C s=some v:=by
 rw [(gE C).mem_iff];cases hg:bL C s with
 |none=>exact⟨fun h=>absurd h (jI.1 hg),fun⟨v,h⟩=>by cases h⟩
 |some v=>exact⟨fun _=>⟨v,rfl⟩,fun _=>by
  by_cases h:s∈C.map (·.1)
  ·exact h
  ·rw [jI.2 h]at hg;cases hg⟩
theorem aJ2(a b c:ByteArray)(h1:leN a b=true)(h2:leN b c=true):leN a c=true:=by unfold leN at*;simp only [Bool.not_eq_true',decide_eq_false_iff_not]at*;have s1:=dK a.toList b.toList;have s2:=dK b.toList c.toList;have s3:=dK a.toList c.toList;have:=sN.trans a b c (by show bE _ _≤0;omega) (by show bE _ _≤0;omega);have this':bE a.toList c.toList≤0:=this;omega
theorem aJ3(a b:ByteArray):(leN a b||leN b a)=true:=by
 unfold leN;have s1:=dK a.toList b.toList;rw [Bool.or_eq_true];by_cases h:bE b.toList a.toList<0
 ·right
  simp only [Bool.not_eq_true',decide_eq_false_iff_not];omega
 ·left;simpa using h
theorem rS{C:List aZ}(h:(C.map (·.1)).Nodup):Strict mP (oH C):=by have h1:=List.pairwise_mergeSort (le:=leN) aJ2 aJ3 (C.map (·.1));have h2:(oH C).Nodup:=(gE C).nodup_iff.2 h;refine(List.Pairwise.and h1 h2).imp fun{a b} hab=>?_;obtain⟨h3,h4⟩:=hab;unfold leN at h3;simp only [Bool.not_eq_true',decide_eq_false_iff_not]at h3;show bE a.toList b.toList<0;have s1:=dK a.toList b.toList;have hne:¬bE a.toList b.toList=0:=fun e=>h4 (dL (eO e));omega
theorem qP{C D:List aZ}(hC:(C.map (·.1)).Nodup)(hD:(D.map (·.1)).Nodup)(h:SameC C D):oH C=oH D:=(rS hC).unique sN (rS hD) fun x=>by rw [aAx,aAx,h x]
theorem aJh{C D:List aZ}(hC:(C.map (·.1)).Nodup)(hD:(D.map (·.1)).Nodup)(h:SameC C D):aAq C=aAq D:=by unfold aAq;rw [qP hC hD h];apply List.map_congr_left;intro s _;unfold aN5 arC bG;rw [h s]
theorem xE{l m:List Nat}(h:l.Perm m):l.sum=m.sum:=by
 induction h with
 |nil=>rfl
 |cons x _ ih=>rw [List.sum_cons,List.sum_cons,ih]
 |swap x y l=>simp only [List.sum_cons];omega
 |trans _ _ ih1 ih2=>exact ih1.trans ih2
theorem xA{C:List aZ}(hC:BaseOk C):((aAq C).map fun r=>r.2.2.1.length).sum=aX C:=by
 have h1:((aAq C).map fun r=>r.2.2.1.length)=(oH C).map fun s=>(bG C s).length:=by unfold aAq;rw [List.map_map];rfl
 have h2:((C.map (·.1)).map fun s=>(bG C s).length)=C.map fun p=>p.2.2.length:=by rw [List.map_map];apply List.map_congr_left;intro p hp;show(bG C p.1).length=_;rw [iG ((dT hC.nodup).2 (show(p.1,p.2)∈C from hp))]
 rw [h1,xE ((gE C).map fun s=>(bG C s).length),h2];rfl
end
section
open Go.RowKit
section
variable {w w':World}{bb r:Nat}{n:Int}{m:List (ByteArray×Value)}
theorem gL(hB:Blk w bb [.map (some r),.int .i64 n] 129)(hm:MapIs w r m)(s:ByteArray)(p:Option Addr):
 Calls Tryz.prog 89 #[.pointer (some ⟨bb,0,none⟩),.string s,.pointer p] w (RetF (fun k=>k=r) w fun w' v=>MapIs w' r (mG m s (.pointer p))):=by
 have c0:=hB.c0;obtain⟨w2,hrun,hm2,hk2⟩:=nQ (P:=Tryz.prog) Tryz.underlying127 Tryz.underlying9 hm s (.pointer p);have hq:∀w:World,(binOp .eql 127 (.map (some r)) (.map none)).run Tryz.prog w= .ok (.bool false) w:=fun w=>by kernel_rfl
 have HM:=qH (nIX hm2 hk2);clear hB hm hm2 hk2;go_enter Tryz.func89,Tryz.ntmps89;go_wp2
 go_end0
 exact RetF.mk HM.out.2 HM.out.1
theorem aD1(w:World):Calls Tryz.prog 106 #[] w (RetN w fun w' v=>v= .pointer (some ⟨w.heap.size+1,0,none⟩)/\Blk w' (w.heap.size+1) [.map (some w.heap.size),.int .i64 0] 129/\MapIs w' w.heap.size []):=by have hmm:= @run_makeMap Tryz.prog;go_enter Tryz.func106,Tryz.ntmps106;go_wp2;go_ret;have hB:=Blk.new (w.alloc (.map #[] 0)) [.map (some w.heap.size),.int .i64 0] 129;rw [aJ]at hB;exact RetN.mk (((Kp.refl w).alloc _).alloc _) ⟨rfl,hB,(MapIs.new w).ext ((Kp.refl _).alloc _)⟩
end
def RowsQ(z:Prop)(S:Nat->Prop)(w:World)(b:Nat)(iv:Value)(arity:Nat)(LL:List (List ByteArray)):Prop:=
 RowsAt S w b iv arity LL\/ (z/\iv= .slice none 0 0/\LL= []/\Blk w b [.nilFunc,.slice none 0 0,.int .i64 arity] 135/\(∀k,S k->k<w.heap.size)/\¬S b)
abbrev FQ(z:Prop)(b:Nat):Nat->Prop:=fun k=>z/\k=b
theorem FQ.owns{z:Prop}{b:Nat}{iv:Value}:∀k,FQ z b k->dY b iv k:=fun k h=> .inl h.2
theorem Kp.fq{b:Nat}{w w':World}(h:Kp (FQ False b) w w'):Ext w w':=h.mono fun _ _ h=>h.1
section
variable {z:Prop}{S:Nat->Prop}{w w':World}{b:Nat}{iv:Value}{arity:Nat}{LL:List (List ByteArray)}
theorem RowsAt.q(h:RowsAt S w b iv arity LL):RowsQ z S w b iv arity LL:= .inl h
theorem RowsQ.kp{F:Nat->Prop}(h:RowsQ z S w b iv arity LL)(hk:Kp F w w')(hF:∀k,F k->¬dY b iv k)(hS:∀k,F k->¬S k):RowsQ z S w' b iv arity LL:=by
 rcases h with h|⟨hz,e,el,hB,h1,h2⟩
 ·exact .inl (h.move hk hF hS (fun _ h=>h) (fun k hk'=>Nat.lt_of_lt_of_le (h.inS k hk') hk.size) h.notS)
 ·exact .inr ⟨hz,e,el,hB.kp hk (fun hf=>hF _ hf (.inl rfl)),fun k hk'=>Nat.lt_of_lt_of_le (h1 k hk') hk.size,h2⟩
theorem RowsQ.ext(h:RowsQ z S w b iv arity LL)(hk:Ext w w'):RowsQ z S w' b iv arity LL:=h.kp hk (fun _ x=>x.elim) (fun _ x=>x.elim)
theorem RowsQ.blk'(h:RowsQ z S w b iv arity LL):∃ov,Blk w b [ov,iv,.int .i64 arity] 135:=by
 rcases h with h|⟨_,e,_,hB,_⟩
 ·exact⟨_,h.blk⟩
 ·exact⟨_,by rw [e];exact hB⟩
theorem RowsQ.lt(h:RowsQ z S w b iv arity LL):b<w.heap.size:=by obtain⟨ov,h⟩:=h.blk';exact h.lt
theorem RowsQ.ar(h:RowsQ z S w b iv arity LL):w.cell? ⟨b,2,none⟩=some (.int .i64 arity):=by obtain⟨ov,h⟩:=h.blk';rw [h.cell'];rfl
theorem RowsQ.inS(h:RowsQ z S w b iv arity LL):∀k,S k->k<w.heap.size:=by
 rcases h with h|⟨_,_,_,_,h,_⟩
 ·exact h.inS
 ·exact h
theorem RowsQ.notS(h:RowsQ z S w b iv arity LL):∀k,dY b iv k->¬S k:=by
 rcases h with h|⟨_,rfl,_,_,_,h⟩
 ·exact h.notS
 ·intro k hk hs;rcases hk with rfl|hk
  ·exact h hs
  ·cases hk
theorem jG(h:RowsQ z S w b iv arity LL):
 Calls Tryz.prog 99 #[.pointer (some ⟨b,0,none⟩)] w (RetF (FQ z b) w fun w' v=>v= .pointer (some ⟨b,0,none⟩)/\RowsAt S w' b iv arity LL):=by
 rcases h with h|⟨hz,rfl,rfl,hB,h1,h2⟩
 ·refine(iQ h).mono ?_;rintro e w' ⟨rfl,rfl⟩;exact RetF.mk (Kp.refl _) ⟨rfl,h⟩
 ·have c0:=hB.c0;have f0:=hB.free 0;have hq:∀w:World,(binOp .eql 131 .nilFunc .nilFunc).run Tryz.prog w= .ok (.bool true) w:=fun _=>by kernel_rfl
  have HB:=qH (nIX hB (nIX h1 h2));have HZ:=qH hz;clear hB h1 h2 hz;go_enter Tryz.func99,Tryz.ntmps99;go_wp2;go_ret;obtain⟨hB,h1,h2⟩:=HB.out;have hset:=hB.set 0 (.func (Fn.func 124) #[] #[]);have hk:Kp (FQ z b) w (w.setCell ⟨b,0,none⟩ (.func (Fn.func 124) #[] #[])):=Kp.setCell (Kp.refl w) (fun _=>⟨HZ.out,rfl⟩) _;obtain⟨con,hc⟩:=yZ (w.setCell ⟨b,0,none⟩ (.func (Fn.func 124) #[] #[]));refine RetF.mk hk ⟨rfl,con,[],hc,⟨hset,Row.nil _ _ _ _,by simp [Value.ownBlock],fun k hk'=>Nat.lt_of_lt_of_le (h1 k hk') hk.size,fun k ho hs=>?_,lA hc,by simp,by simp⟩,rfl⟩;rcases ho with rfl|ho
  ·exact h2 hs
  ·cases ho
theorem tC(h:RowsQ z S w b iv arity LL):Calls Tryz.prog 105 #[.pointer (some ⟨b,0,none⟩)] w (RetF (FQ z b) w fun w' v=>v= .int .i64 (LL.length:Nat)/\RowsAt S w' b iv arity LL):=by
 have HS:=qH (jG h);clear h;go_enter Tryz.func105,Tryz.ntmps105;go_wp2_with fail
 refine HS.out.mono ?_;rintro e w1 ⟨v,rfl,hk,rfl,h1⟩;have HK:=qH (nIX hk h1);obtain⟨con,zs,hc,hs,hl⟩:=h1;have HS1:=qH hs;have HL:=qH (show zs.length=LL.length by rw [<-hl];simp);clear hk hs hc hl;go_wp2_with fail
 refine(pW HS1.out).mono ?_;rintro e w' ⟨rfl,rfl⟩;go_wp2;go_ret;exact RetF.mk HK.out.1 ⟨by rw [<-HL.out];rfl,HK.out.2⟩
theorem RowIn.kp{F:Nat->Prop}{x:gZ}{ss:List ByteArray}(h:RowIn w x ss)(hk:Kp F w w')(ho:kE x F):RowIn w' x ss:=
 ⟨⟨h.1.1,fun i u hu=>by
  have hne:x.2.1≠0:=by have h1:=(List.getElem?_eq_some_iff.1 hu).1;simp only [strs,List.length_map]at h1;rw [h.1.1];omega
  obtain⟨b,o,e,c⟩:=h.1.2 i u hu;exact⟨b,o,e,hk.cell c (ho _ e hne)⟩⟩,h.2.1,fun a e hne=>Nat.lt_of_lt_of_le (h.2.2 a e hne) hk.size⟩
theorem aJg(h:RowsQ z S w b iv arity LL)(hst:Strict aC LL){x:gZ}{ss:List ByteArray}(hx:RowIn w x ss)(ho:kE x (dY b iv)):
 Calls Tryz.prog 87 #[.pointer (some ⟨b,0,none⟩),.slice x.1 x.2.1 x.2.2] w (RetF (FQ z b) w fun w' v=>v= .bool (bD aC LL ss)/\RowsAt S w' b iv arity LL):=by
 have HS:=qH (jG h);clear h;have HX:=qH (nIX hst (nIX hx ho));clear hst hx ho;go_enter Tryz.func87,Tryz.ntmps87;go_wp2_with fail
 refine HS.out.mono ?_;rintro e w1 ⟨v,rfl,hk,rfl,h1⟩;have hx1:=HX.out.2.1.kp hk (fun a e hne hf=>HX.out.2.2 a e hne (.inl hf.2));obtain⟨con,zs,hc,hs,hl,hd,ex,hz,e1,e2⟩:=h1.open HX.out.1 hx1 HX.out.2.2;have HF:=qH (pX (fG con) x hd hz hs);rw [e1]at HF;have HK:=qH (nIX hk h1);clear hc hs hl hd ex hz e1 e2 hk h1 hx1;go_wp2_with fail
 refine HF.out.mono ?_;rintro e w2 ⟨v,rfl,hk2,rfl⟩;have HK2:=qH hk2;clear hk2;go_wp2;go_ret;exact RetF.mk (HK.out.1.ext HK2.out) ⟨rfl,HK.out.2.ext HK2.out⟩
theorem uA(h:RowsQ z S w b iv arity LL):Calls Tryz.prog 51 #[.pointer (some ⟨b,0,none⟩)] w (Ret (.int .i64 arity) w):=by have c2:=h.ar;clear h;go_enter Tryz.func51,Tryz.ntmps51;go_wp2;go_ret;exact Ret.mk rfl
end
section
variable {z:Prop}{S:Nat->Prop}{w w':World}{b:Nat}{iv:Value}{arity:Nat}{LL:List (List ByteArray)}
def RowsAddedQ(z:Prop)(S:Nat->Prop)(w:World)(b:Nat)(iv:Value)(arity:Nat)(LL:List (List ByteArray))(ss:List ByteArray)(w':World)(v:Value):Prop:=
 v= .tuple #[.bool (aI arity LL ss).1,.int .i64 ((aI arity LL ss).2:Nat)]/\
  ∃S' iv',(∀k,S k->S' k)/\(∀k,S' k->S k\/w.heap.size≤k)/\RowsQ z S' w' b iv' arity (aP arity LL ss)/\∀k,iv'.ownBlock=some k->iv.ownBlock=some k\/w.heap.size≤k
theorem RowsAddedQ.same(h:RowsQ z S w b iv arity LL){ss:List ByteArray}{w1:World}(hk:Ext w w1){v:Value}(hv:v= .tuple #[.bool (aI arity LL ss).1,.int .i64 ((aI arity LL ss).2:Nat)])(h0:aP arity LL ss=LL):RowsAddedQ z S w b iv arity LL ss w1 v:=
 ⟨hv,S,iv,fun _ h=>h,fun _ h=> .inl h,by rw [h0];exact h.ext hk,fun _ h=> .inl h⟩
set_option maxHeartbeats 2000000 in
theorem aAp(h:RowsQ z S w b iv arity LL)(hst:Strict aC LL){ao:Option Addr}{n cap:Nat}{ss:List ByteArray}(hx:RowIn w (ao,n,cap) ss)(ho:kE (ao,n,cap) (dY b iv))(hLL:LL.length+1≤1048576*1048576):
 Calls Tryz.prog 88 #[.pointer (some ⟨b,0,none⟩),.slice ao n cap] w (RetF (dY b iv) w (RowsAddedQ z S w b iv arity LL ss)):=by
 rcases h with h|h0
 ·refine(nW h hst hx ho hLL).mono ?_;rintro e w' ⟨v,rfl,hk,e1,S',iv',h1,h2,h3,h4⟩;exact RetF.mk hk ⟨e1,S',iv',h1,h2,.inl h3,h4⟩
 have eLL:LL= []:=h0.2.2.1;have h:RowsQ z S w b iv arity LL:= .inr h0;clear h0;subst eLL;have hn:n=ss.length:=hx.1.1;have hcs:CellsAt w ao (strs ss):=hx.1.2;have hl:ss.length≤8796093021952:=hx.2.1;have c2:w.cell? ⟨b,2,none⟩=some (.int .i64 arity):=h.ar;have HT:=qH (sW ss ao n cap w hn hcs (by omega));have HLN:=qH (fun w1 (hw:Ext w w1)=>tC (h.ext hw));have hob:kE (ao,n,cap) (FQ z b):=fun a e hne hf=>ho a e hne (.inl hf.2);have HCL:=qH (fun w1 (hw:Kp (FQ z b) w w1)=>jE (strs ss) ao cap w1 n (by simp [strs,hn]) (RowIn.kp hx hw hob).1.2 (gP ss) (by omega));have HP:=qH (fun w0 w1 ao1 cap1 (h0:RowsAt S w0 b iv arity []) (hk:Ext w0 w1) hr=>aH3 (w:=w0) (w1:=w1) (ao:=ao1) (n:=n) (cap:=cap1) h0 hst hk hr hn (by omega) hLL);have H:=qH h;have HN:=qH hn;clear h hst hx ho hcs hn hLL hob;by_cases h1:n=arity
 ·have q1:((n:Int) !=(arity:Int))=false:=by simp [h1]
  have H1:=qH h1;clear h1;cases ht:bP ss with
  |false=>
   have HTX:=qH ht;rw [ht]at HT;clear ht;go_enter Tryz.func88,Tryz.ntmps88;go_wp2_with fail
   refine HT.out.mono ?_;rintro e w1 ⟨v,rfl,hk,rfl⟩;have HK:=qH hk;clear hk;go_wp2;go_ret2;have e0:aI arity [] ss=(false,31):=by unfold aI;rw [if_neg (by rw [<-HN.out,H1.out];simp),if_pos HTX.out]
   exact RetF.mk (Ext.kp HK.out) (RowsAddedQ.same H.out HK.out (by rw [e0];rfl) (by unfold aP;rw [e0];rfl))
  |true=>
   have HTX:=qH ht;rw [ht]at HT;clear ht;go_enter Tryz.func88,Tryz.ntmps88;go_wp2_with fail
   refine HT.out.mono ?_;rintro e w0 ⟨v,rfl,hk0,rfl⟩;have HK0:=qH hk0;clear hk0;go_wp2_with fail
   refine(HLN.out w0 HK0.out).mono ?_;rintro e w1 ⟨v,rfl,hk1,rfl,hr1⟩;have HK1:=qH (nIX hk1 hr1);clear hk1 hr1;go_wp2_with fail
   refine(iQ HK1.out.2).mono ?_;rintro e w' ⟨rfl,rfl⟩;go_wp2_with fail
   refine(HCL.out w1 ((Ext.kp HK0.out).trans HK1.out.1)).mono ?_;rintro e w2 ⟨v,rfl,hk2,hr2⟩;obtain⟨ao2,cap2,ev,_,_⟩:=hr2.shape;subst ev;go_wp2_with fail
   refine(HP.out w1 w2 ao2 cap2 HK1.out.2 hk2 hr2).mono ?_;rintro e w3 ⟨v,rfl,hk3,rfl,iv',hrows,hiv⟩;have HR:=qH (nIX hk3 (nIX hrows hiv));have HB:=qH (nIX hk2 hr2.block);clear hk3 hrows hiv hr2 hk2;go_wp2;go_ret2;have e0:aI arity [] ss=(!bD aC [] ss,0):=by unfold aI;rw [if_neg (by rw [<-HN.out,H1.out];simp),if_neg (by rw [HTX.out];simp),if_neg (fun h=>by simp at h)]
   have z0:=HK0.out.size;have z1:=HK1.out.1.size;have z2:=HB.out.1.size;refine RetF.mk ((((Ext.kp HK0.out).trans (HK1.out.1.mono fun k _ h=>FQ.owns k h)).trans (Ext.kp HB.out.1)).trans HR.out.1) ⟨by rw [e0];rfl,mH S (ao2,n,cap2),iv',fun k h=> .inl h,fun k h=>?_,.inl (by unfold aP;rw [e0];exact HR.out.2.1),fun k h=>(HR.out.2.2 k h).imp id (fun h=>by omega)⟩;rcases h with h|⟨a,e,_,rfl⟩
   ·exact .inl h
   ·have e':ao2=some a:=e;subst e';have:=HB.out.2 a.block rfl;exact .inr (by unfold New at this;omega)
 ·have q1:((n:Int) !=(arity:Int))=true:=by rw [bne_iff_ne];omega
  have HN1:=qH (show ss.length≠arity by have:=HN.out;omega);clear h1;go_enter Tryz.func88,Tryz.ntmps88;go_wp2;go_ret2;have e0:aI arity [] ss=(false,30):=by unfold aI;rw [if_pos HN1.out]
  exact RetF.mk (Kp.refl _) (RowsAddedQ.same H.out (Kp.refl _) (by rw [e0];rfl) (by unfold aP;rw [e0];rfl))
end
section
variable {z:Prop}{S:Nat->Prop}{w w':World}{b:Nat}{iv:Value}{arity:Nat}{LL:List (List ByteArray)}
def aM7(w0 w:World)(v:Value)(ss:List ByteArray):Prop:=Row w 9 1 v ss.length (strs ss) (New w0)
end
abbrev eY:=gZ×List ByteArray
def cJ(ps:List eY):List Value:=ps.map fun p=> .slice p.1.1 p.1.2.1 p.1.2.2
theorem lC(ps:List eY):(cJ ps).length=ps.length:=by simp [cJ]
theorem tE(ps:List eY):∀u∈cJ ps,u.oneCell'=true:=by intro u hu;obtain⟨x,_,rfl⟩:=List.mem_map.1 hu;rfl
theorem tF(ps:List eY)(k:Nat)(p:eY)(h:ps[k]?=some p):(cJ ps)[k]?=some (.slice p.1.1 p.1.2.1 p.1.2.2):=by simp [cJ,h]
theorem jC(ps qs:List eY):cJ (ps++qs)=cJ ps++cJ qs:=by simp [cJ]
def RowsIn(S:Nat->Prop)(w:World)(ao:Option Addr)(LL:List (List ByteArray)):Prop:=
 ∃ps:List eY,LL=ps.map Prod.snd/\CellsAt w ao (cJ ps)/\(∀a,ao=some a->S a.block)/\
  ∀p∈ps,ReadsAs w p.1 p.2/\p.2.length≤8796093021952/\∀a,p.1.1=some a->S a.block
def OwnRows(lo:Nat)(w:World)(v:Value)(LL:List (List ByteArray)):Prop:=
 ∃ps:List eY,LL=ps.map Prod.snd/\Row w 34 1 v ps.length (cJ ps) (fun g=>lo≤g)/\
  (∀p∈ps,Row w 9 1 (.slice p.1.1 p.1.2.1 p.1.2.2) p.2.length (strs p.2) (fun g=>lo≤g)/\p.2.length≤8796093021952)/\
  ps.Pairwise fun p q=>∀g,(Value.slice p.1.1 p.1.2.1 p.1.2.2).ownBlock=some g->(Value.slice q.1.1 q.1.2.1 q.1.2.2).ownBlock≠some g
section
variable {S S':Nat->Prop}{w w':World}{ao:Option Addr}{LL:List (List ByteArray)}{v:Value}{lo:Nat}
theorem RowsIn.nil(S:Nat->Prop)(w:World):RowsIn S w none []:=⟨[],rfl,CellsAt.nil _ _,fun a e=>(by cases e),by simp⟩
theorem RowsIn.kp{F:Nat->Prop}(h:RowsIn S w ao LL)(hk:Kp F w w')(hF:∀k,F k->¬S k):RowsIn S w' ao LL:=by obtain⟨ps,h1,h2,h3,h4⟩:=h;exact⟨ps,h1,h2.kp hk (fun a e hf=>hF _ hf (h3 a e)),h3,fun p hp=>⟨⟨(h4 p hp).1.1,(h4 p hp).1.2.kp hk (fun a e hf=>hF _ hf ((h4 p hp).2.2 a e))⟩,(h4 p hp).2⟩⟩
theorem RowsIn.ext(h:RowsIn S w ao LL)(hk:Ext w w'):RowsIn S w' ao LL:=h.kp hk fun _ x=>x.elim
theorem RowsIn.mono(h:RowsIn S w ao LL)(hs:∀k,S k->S' k):RowsIn S' w ao LL:=by obtain⟨ps,h1,h2,h3,h4⟩:=h;exact⟨ps,h1,h2,fun a e=>hs _ (h3 a e),fun p hp=>⟨(h4 p hp).1,(h4 p hp).2.1,fun a e=>hs _ ((h4 p hp).2.2 a e)⟩⟩
theorem RowsIn.get(h:RowsIn S w ao LL){k:Nat}{ss:List ByteArray}(hk:LL[k]?=some ss):
 ∃g o x cap,ao=some ⟨g,o,none⟩/\w.cell? ⟨g,o+k,none⟩=some (.slice x ss.length cap)/\CellsAt w x (strs ss)/\ss.length≤8796093021952/\∀a,x=some a->S a.block:=by
 obtain⟨ps,rfl,h2,h3,h4⟩:=h;rw [List.getElem?_map]at hk;cases hp:ps[k]? with
 |none=>rw [hp]at hk;cases hk
 |some p=>
  rw [hp]at hk;cases hk;obtain⟨g,o,e,c⟩:=h2 k _ (tF ps k p hp);obtain⟨⟨h5,h6⟩,h7,h8⟩:=h4 p (List.mem_of_getElem? hp);exact⟨g,o,p.1.1,p.1.2.2,e,by rw [c,h5],h6,h7,h8⟩
theorem Row.has{e:TypeId}{k:Nat}{n:Nat}{xs:List Value}{M:Nat->Prop}(h:Row w e k v n xs M){g:Nat}(hg:v.ownBlock=some g):∃cs,Blk w g cs e/\n*k≤cs.length/\M g:=by
 obtain⟨h1,⟨rfl,rfl⟩|⟨g',cap,rest,rfl,b,c,d,e,f⟩⟩:=h
 ·cases hg
 ·cases hg;exact⟨_,c,by simp at d ⊢;omega,b⟩
theorem Row.sort_ne{e e':TypeId}{k k':Nat}{n n':Nat}{xs xs':List Value}{M M':Nat->Prop}{v':Value}(h:Row w e k v n xs M)(h':Row w e' k' v' n' xs' M')(he:e≠e'){g:Nat}(hg:v.ownBlock=some g):v'.ownBlock≠some g:=by intro hg';obtain⟨cs,hb,_⟩:=h.has hg;obtain⟨cs',hb',_⟩:=h'.has hg';unfold Blk at hb hb';rw [hb]at hb';simp only [Option.some.injEq,Obj.cells.injEq]at hb';exact he hb'.2.1
theorem OwnRows.nil(lo:Nat)(w:World):OwnRows lo w (.slice none 0 0) []:=⟨[],rfl,Row.nil _ _ _ _,by simp,List.Pairwise.nil⟩
theorem OwnRows.kp{F:Nat->Prop}(h:OwnRows lo w v LL)(hk:Kp F w w')(hF:∀g,lo≤g->¬F g):OwnRows lo w' v LL:=by obtain⟨ps,h1,h2,h3,h4⟩:=h;exact⟨ps,h1,h2.kp hk hF,fun p hp=>⟨(h3 p hp).1.kp hk hF,(h3 p hp).2⟩,h4⟩
theorem OwnRows.ext(h:OwnRows lo w v LL)(hk:Ext w w'):OwnRows lo w' v LL:=h.kp hk fun _ _=>id
theorem OwnRows.mono{lo':Nat}(h:OwnRows lo w v LL)(hl:lo'≤lo):OwnRows lo' w v LL:=by obtain⟨ps,h1,h2,h3,h4⟩:=h;exact⟨ps,h1,Row.mono h2 fun g hg=>Nat.le_trans hl hg,fun p hp=>⟨Row.mono (h3 p hp).1 fun g hg=>Nat.le_trans hl hg,(h3 p hp).2⟩,h4⟩
theorem Row.readsAs{e:TypeId}{x:gZ}{ss:List ByteArray}{M:Nat->Prop}(h:Row w e 1 (.slice x.1 x.2.1 x.2.2) ss.length (strs ss) M):ReadsAs w x ss/\∀a,x.1=some a->M a.block/\a.block<w.heap.size:=by have hb:=h.block;have hl:=h.lt;obtain⟨ao,cap,e,hc,_⟩:=h.shape;obtain⟨x1,x2,x3⟩:=x;simp only [Value.slice.injEq]at e;obtain⟨rfl,e2,rfl⟩:=e;refine⟨⟨e2,hc⟩,fun a ea=>?_⟩;simp only at ea;subst ea;exact⟨hb a.block rfl,hl a.block rfl⟩
theorem OwnRows.shape(h:OwnRows lo w v LL):∃ao cap,v= .slice ao LL.length cap/\RowsIn (fun g=>lo≤g/\g<w.heap.size) w ao LL:=by
 obtain⟨ps,rfl,h2,h3,h4⟩:=h;have hb:=h2.block;have hl:=h2.lt;obtain⟨ao,cap,rfl,hc,_⟩:=h2.shape;refine⟨ao,cap,by simp,ps,rfl,hc,fun a e=>?_,fun p hp=>?_⟩
 ·subst e;exact⟨hb a.block rfl,hl a.block rfl⟩
 ·obtain⟨h5,h6⟩:=h3 p hp;exact⟨h5.readsAs.1,h6,fun a e=>h5.readsAs.2 a e⟩
theorem OwnRows.lt(h:OwnRows lo w v LL):∀g,v.ownBlock=some g->lo≤g/\g<w.heap.size:=by obtain⟨ps,rfl,h2,h3,h4⟩:=h;exact fun g hg=>⟨h2.block g hg,h2.lt g hg⟩
theorem OwnRows.push{ps:List eY}(h2:Row w 34 1 v ps.length (cJ ps) (fun g=>lo≤g))
 (h3:∀p∈ps,Row w 9 1 (.slice p.1.1 p.1.2.1 p.1.2.2) p.2.length (strs p.2) (fun g=>lo≤g)/\p.2.length≤8796093021952)
 (h4:ps.Pairwise fun p q=>∀g,(Value.slice p.1.1 p.1.2.1 p.1.2.2).ownBlock=some g->(Value.slice q.1.1 q.1.2.1 q.1.2.2).ownBlock≠some g)
 {B:Nat}(hB:∀p∈ps,∀g,(Value.slice p.1.1 p.1.2.1 p.1.2.2).ownBlock=some g->g<B)(hlo:lo≤B){x:gZ}{ss:List ByteArray}(hx:Row w 9 1 (.slice x.1 x.2.1 x.2.2) ss.length (strs ss) (fun g=>B≤g))(hss:ss.length≤8796093021952)
 {v':Value}(hr:Row w' 34 1 v' (ps.length+1) (cJ ps++ [.slice x.1 x.2.1 x.2.2]) (fun g=>lo≤g))(hk:Kp (fun g=>v.ownBlock=some g) w w'):OwnRows lo w' v' (ps.map Prod.snd++ [ss]):=by
 have hne:9≠34:=by decide
 refine⟨ps++ [(x,ss)],by simp,?_,fun p hp=>?_,?_⟩
 ·rw [jC];simpa [cJ]using hr
 ·rcases List.mem_append.1 hp with hp|hp
  ·exact⟨(h3 p hp).1.kp' hk fun g hg _ hf=>(h3 p hp).1.sort_ne h2 hne hg hf,(h3 p hp).2⟩
  ·obtain rfl:=List.mem_singleton.1 hp;exact⟨Row.mono (hx.kp' hk fun g hg _ hf=>hx.sort_ne h2 hne hg hf) fun g hg=>Nat.le_trans hlo hg,hss⟩
 ·refine List.pairwise_append.2 ⟨h4,List.pairwise_singleton _ _,fun p hp q hq g hg hg'=>?_⟩;obtain rfl:=List.mem_singleton.1 hq;have h1:=hB p hp g hg;have h2:B≤g:=hx.block g hg';omega
end
end
section
open Go.RowKit Go.Shelf
attribute [local go_sem] Oper.semAt_some
def GotRows{α:Type}(f:α->List ByteArray)(m:Nat)(w0:World)(b:Nat)(pre:List α)(W:World):Prop:=
 pre.length≤m/\Kp (fun g=>g=b) w0 W/\∃v,Blk W b [v] 69/\OwnRows w0.heap.size W v (pre.map f)
theorem OwnRows.grown{lo:Nat}{W W':World}{v:Value}{LL:List (List ByteArray)}{row:Option Nat}(h:OwnRows lo W v LL)(hg:W.grownBy W' row)(hr:∀r,row=some r->∃o:Obj,W.heap[r]?=some o/\o.isCells=false):OwnRows lo W' v LL:=by obtain⟨ps,h1,h2,h3,h4⟩:=h;exact⟨ps,h1,h2.grown hg hr,fun p hp=>⟨(h3 p hp).1.grown hg hr,(h3 p hp).2⟩,h4⟩
theorem OwnRows.kpc{F:Nat->Prop}{lo:Nat}{w w':World}{v:Value}{LL:List (List ByteArray)}(h:OwnRows lo w v LL)(hk:Kp F w w')(hF:∀g,F g->¬∃o:Obj,w.heap[g]?=some o/\o.isCells=true):OwnRows lo w' v LL:=by
 obtain⟨ps,h1,h2,h3,h4⟩:=h;have key:∀{e:TypeId} {k n:Nat} {v:Value} {xs:List Value} {M:Nat->Prop},Row w e k v n xs M->Row w' e k v n xs M:=fun h=>h.kp' hk fun g hg _ hf=>by obtain⟨cs,hb,_⟩:=h.has hg;exact hF g hf ⟨_,hb,rfl⟩
 exact⟨ps,h1,key h2,fun p hp=>⟨key (h3 p hp).1,(h3 p hp).2⟩,h4⟩
theorem GotRows.own{α:Type}{f:α->List ByteArray}{m:Nat}{w0:World}{b B:Nat}(hB:w0.heap.size≤B):OwnFrom B (GotRows f m w0 b):=fun pre W W' row hs hg hr=>by obtain⟨h1,h2,v,h3,h4⟩:=hs;refine⟨h1,h2.grown hg fun k e hk=>?_,v,h3.grown hg fun r e=>(hr r e).2,h4.grown hg fun r e=>(hr r e).2⟩;have:=(hr k e).1;omega
theorem KeepsOthers.of_ext{W W':World}(h:Ext W W'):KeepsOthers W W':=⟨h.size,fun k o hk _=>(h.block k (lt_of_block hk) id).trans hk⟩
theorem kJ{α:Type}{f:α->List ByteArray}{m:Nat}{w0 X X1:World}{B:Nat}{ao:Option Addr}{n cap:Nat}{pre:List α}{x:gZ}{ss:List ByteArray}(hm:pre.length≤m/\m≤1048576*1048576)(hpk:Kp (fun g=>g=B) w0 X)(hBlt:B<w0.heap.size)
 (hB:Blk X B [.slice ao n cap] 69)(hr:OwnRows w0.heap.size X (.slice ao n cap) (pre.map f))(hk:Ext X X1)(hx:Row X1 9 1 (.slice x.1 x.2.1 x.2.2) ss.length (strs ss) (New X))(hss:ss.length≤8796093021952):
 ∃ao3 n3 cap3 w3,(Builtin.append_ #[69,69] 69 #[.slice ao n cap,.slice (some ⟨X1.heap.size,0,none⟩) 1 1]).run Tryz.prog (X1.alloc (.cells #[.slice x.1 x.2.1 x.2.2] 34))= .ok (.slice ao3 n3 cap3) w3/\
  w3.cell? ⟨B,0,none⟩=some (.slice ao n cap)/\w3.frozen? ⟨B,0,none⟩=false/\∀y,f y=ss->KeepsOthers X (w3.setCell ⟨B,0,none⟩ (.slice ao3 n3 cap3))/\Kp (fun g=>g=B\/w0.heap.size≤g) X (w3.setCell ⟨B,0,none⟩ (.slice ao3 n3 cap3))/\
   Kp (fun g=>g=B) w0 (w3.setCell ⟨B,0,none⟩ (.slice ao3 n3 cap3))/\∃v,Blk (w3.setCell ⟨B,0,none⟩ (.slice ao3 n3 cap3)) B [v] 69/\OwnRows w0.heap.size (w3.setCell ⟨B,0,none⟩ (.slice ao3 n3 cap3)) v ((pre++ [y]).map f):=by
 obtain⟨ps,e1,h2,h3,h4⟩:=hr;have hlen:ps.length=pre.length:=by have:=congrArg List.length e1;simpa using this.symm
 obtain⟨w2,ew2⟩:=nm (X1.alloc (.cells #[.slice x.1 x.2.1 x.2.2] 34));have hk2:Ext X w2:=by rw [<-ew2];exact hk.alloc _
 have hx2:Row w2 9 1 (.slice x.1 x.2.1 x.2.2) ss.length (strs ss) (New X):=by rw [<-ew2];exact hx.alloc _
 have hsrc:CellsAt w2 (some ⟨X1.heap.size,0,none⟩) [.slice x.1 x.2.1 x.2.2]:=by rw [<-ew2];exact CellsAt.one X1 _ _
 have h2':=h2.ext hk2;obtain⟨v3,w3,hrun,hr3,hk3,_⟩:=pG (P:=Tryz.prog) dP 69 h2' (m:=1) (c:=1) rfl hsrc (by simp;rfl) (by omega) (by unfold maxLen;omega);obtain⟨ao3,cap3,ev,_,_⟩:=hr3.shape;subst ev;have hBne:(Value.slice ao n cap).ownBlock≠some B:=fun e=>by have:=h2.block B e;omega
 have hB3:Blk w3 B [.slice ao n cap] 69:=(hB.ext hk2).kp hk3 hBne;have hsz0:=hpk.size;refine⟨ao3,_,cap3,w3,by rw [ew2];exact hrun,by rw [hB3.cell'];rfl,hB3.free 0,fun y hy=>?_⟩;have hko:KeepsOthers w2 w3:=⟨hk3.size,fun k o hk' ho=>(hk3.block k (lt_of_block hk') (fun hg=>by obtain⟨cs,hb,_⟩:=h2'.has hg;unfold Blk at hb;rw [hb]at hk';cases hk';cases ho)).trans hk'⟩;have kX:Kp (fun g=>g=B\/w0.heap.size≤g) X w3:=(Ext.kp hk2).trans (hk3.mono fun g _ hg=> .inr (h2.block g hg));have k0:Kp (fun g=>g=B) w0 w3:=hpk.trans' kX fun i hi hg=>by rcases hg with hg|hg;exact hg;omega
 refine⟨((KeepsOthers.of_ext hk2).trans hko).trans (KeepsOthers.setCell _ _ _),kX.setCell (fun _=> .inl rfl) _,k0.setCell (fun _=>rfl) _,_,hB3.set 0 _,?_⟩;have hown:OwnRows w0.heap.size w3 (.slice ao3 (ps.length+1) cap3) (ps.map Prod.snd++ [ss]):=
  OwnRows.push h2' (fun p hp=>⟨(h3 p hp).1.ext hk2,(h3 p hp).2⟩) h4 (B:=X.heap.size) (fun p hp g hg=>(h3 p hp).1.lt g hg) hsz0 hx2 hss
   (hr3.mono fun g hg=>by rcases hg with hg|hg;exact h2.block g hg;exact Nat.le_trans hsz0 (Nat.le_trans hk2.size hg)) hk3
 rw [List.map_append,List.map_singleton,hy,e1];exact hown.kp (Kp.setCell (F:=fun g=>g=B) (Kp.refl _) (fun _=>rfl) _) fun g hg e=>by omega
theorem lZ{F:Fence}{n:Nat}{P:Program}{o:Oper}{a:Act}{w w':World}{K:Act->World->Prop}{Q:Exit->Act->World->Prop}{b:Bool}{p:Prop} [Decidable (b=true)](s x:Operand){t:TypeId}{v vx v':Value}
 (ho:o.op= .call {callee:= .builtin .append,args:=#[s,x],argTypes:=#[t,t]})(hs:a.eval s=v)(hx:a.eval x=vx)(hb:b=true)(hrun:(Builtin.append_ #[t,t] o.type #[v,vx]).run P w= .ok v' w')(hK:K (a.put o.dst v') w'):if b=true then Oper.wpIn F n P o a w K Q else p:=by
 rw [if_pos hb];unfold Oper.wpIn;refine⟨by simp [Oper.about,ho,resolve,Target.leads,Sem.run_pure],?_⟩;rw [Oper.semAt_plain F _ _ (by rw [ho];intro c hc';cases hc')];simp only [execOp,ho,resolve,invoke,builtin,Sem.run_bind,Sem.run_pure,Result.andThen_ok,List.map_toArray,List.map_cons,List.map_nil,hs,hx,hrun];exact hK
theorem aDe{F:Nat->Prop}{w W:World}{P:World->Value->Prop}{tmps:Array Value}{ds:List Deferred}{lo:Nat}(hm:Marks lo W ds)(hk:Kp F w W)(hlo:w.heap.size≤lo){v:Value}(ht:tmps.getD 2 undef=v)
 (hP:∀w',Kp (fun k=>lo≤k/\¬∃o:Obj,W.heap[k]?=some o/\o.isCells=true) W w'->P w' v):
 bodyPostM Fence.wide 4 Tryz.prog Tryz.f53 (RetF F w P) .ret {tmps:=tmps,defers:=ds} W:=by
 refine fJ hm fun w' e1 e2 e3 e4 e5 e6=>?_;have kx:Kp (fun k=>lo≤k/\¬∃o:Obj,W.heap[k]?=some o/\o.isCells=true) W w':=⟨e1,e2,e3,by omega,fun k hk hf=>by
  by_cases h:lo≤k
  ·by_cases h2:∃o:Obj,W.heap[k]?=some o/\o.isCells=true
   ·obtain⟨o,h2,h3⟩:=h2;rw [h2];exact e6 k o h2 h3
   ·exact absurd ⟨h,h2⟩ hf
  ·exact e5 k (by omega)⟩
 refine⟨v,?_,RetF.mk (hk.trans' kx fun i hi h=>absurd h.1 (by omega)) (hP w' kx)⟩;have ht':tmps[2]?.getD undef=v:=by simpa using ht
 simp [results,Tryz.f53,go_sem,ht']
section
variable {z:Prop}{S:Nat->Prop}{w w':World}{b:Nat}{iv:Value}{arity:Nat}{LL:List (List ByteArray)}
theorem RowsQ.ownLt(h:RowsQ z S w b iv arity LL):∀k,dY b iv k->k<w.heap.size:=by
 rcases h with⟨con,zs,hc,hs,hl⟩|⟨hz,rfl,rfl,hB,h1,h2⟩
 ·rintro k (rfl|hk)
  ·exact hs.blk.lt
  ·exact hs.row.lt k hk
 ·rintro k (rfl|hk)
  ·exact hB.lt
  ·cases hk
def aM4(w:World)(F:Nat->Prop)(R:World->Prop)(LL:List (List ByteArray))(rv:Value):Prop:=
 ∀W,Ext w W->Calls Tryz.prog 99 #[rv] W (RetF F W fun w' v=>R w'/\∃S con,∃zs:List gZ,PtrSetRow Tryz.prog S w' v zs/\(∀k,S k->k<w.heap.size)/\zs.map con=LL/\
  ∀x∈zs,∃ss,ReadsAs w' x ss/\ss.length≤8796093021952/\(∀a,x.1=some a->x.2.1≠0->S a.block)/\con x=ss)
set_option maxHeartbeats 2000000 in
theorem wV{F:Nat->Prop}{R:World->Prop}{rv:Value}(hset:aM4 w F R LL rv)(hF:∀k,F k->k<w.heap.size)(hR:∀{W W':World},R W->Kp (fun g=>w.heap.size≤g) W W'->R W'):
 Calls Tryz.prog 53 #[rv] w (RetF F w fun w' v=>R w'/\OwnRows w.heap.size w' v LL):=by
 refine callsIn_wide.1 (callsIn_of_wp_marks (n:=4) Tryz.func53 rfl trivial ?_ rfl);refine wpIn_wide.2 ?_;obtain⟨Q,eQ⟩:∃Q,Q=bodyPostM Fence.wide 4 Tryz.prog Tryz.f53 (RetF F w fun w' v=>R w'/\OwnRows w.heap.size w' v LL):=⟨_,rfl⟩;rw [<-eQ];have EQ:=qH eQ;clear eQ;have H:=qH hset;have HR:=qH (nIX hF (@hR));clear hset hF hR;simp only [Tryz.ntmps53,List.size_toArray,List.length_cons,List.length_nil,Nat.reduceAdd,Nat.reduceSub,Array.replicate_succ,Array.replicate_zero,List.push_toArray,List.append_toArray,List.nil_append,List.cons_append];go_wp2_with fail
 have x0:Ext w (w.alloc (.cells #[.slice none 0 0] 69)):=(Kp.refl w).alloc _;have b0:Blk (w.alloc (.cells #[.slice none 0 0] 69)) w.heap.size [.slice none 0 0] 69:=Blk.new w [_] _;refine(H.out _ x0).mono ?_;rintro e w1 ⟨v1,rfl,hk1,hR1,S,con,zs,hp,hSw,hl,hall⟩;have k01:Kp F w w1:=(Ext.kp x0).trans hk1;have b1:=b0.kp hk1 (fun e=>by have:=HR.out.1 _ e;omega);have HK1:=qH (nIX k01 hR1);have hlen:=hp.len;have HS:=qH (nIX hall hl);have HE:=qH (wM hp);have B1:=qH b1;have hsz1:=b1.lt;clear hall hp hl b0 b1 hk1 k01 x0 H hR1;go_wp2_with fail
 refine HE.out.mono ?_;rintro e w2 ⟨v2,rfl,hk2,hit⟩;obtain⟨Bs,hv2,hseq⟩:=hit.sub.stops Fence.wide 3 trivial rfl (by omega);subst hv2;have HQ:=qH hseq;clear hseq hit;have B2:=qH (B1.out.ext hk2);have HK2:=qH hk2;have hsz2:=hk2.size;have hn0:zs.attach.length=zs.length:=List.length_attach;have HSW:=qH hSw;clear hk2 HE B1 hSw;go_wp2_with fail
 refine' wpIn_wide.1 (wpIn_rangeFunc_ownG (F:=Fence.wide) (n:=4) (w0:=w2) rfl (by omega) (gf:=171) (lb:=#[.pointer (some ⟨Bs,0,none⟩)]) rfl trivial (enters_of Tryz.func171 (by kernel_rfl) rfl)
  HQ.out SameOn.trans (SameOn.put (fun k h=>h.2)) (Kp.refl w2).below (fun _=>rfl) (GotRows (fun x=>con x.1) zs.length w2 w.heap.size) (fun _ _ _=>False) (GotRows.own (Nat.le_refl _)) (fun _ _ _ _ _ h _ _=>h) ⟨by simp,Kp.refl _,_,B2.out,OwnRows.nil _ _⟩ _ ?assign ?body ?done ?stop)
 case assign=>
  intro l x W K hK;gi_wp2;exact hK
 case body=>
  rintro l pre x X ⟨hpl,hpk,v,hB,hr⟩ hlen';obtain⟨xv,xm⟩:=x;obtain⟨ao1,n1,cap1,ev,_⟩:∃ao n cap,v= .slice ao n cap/\True:=by obtain⟨ao,cap,e,_⟩:=hr.shape;exact⟨_,_,_,e,trivial⟩
  subst ev;have HPL:=qH (nIX hpl hlen);obtain⟨ss,hrd,hss,hxS,hcx⟩:=HS.out.1 xv xm;have hrd2:ReadsAs X xv ss:=⟨hrd.1,fun i u hu=>by
   have hne:xv.2.1≠0:=by have h1:=(List.getElem?_eq_some_iff.1 hu).1;simp only [strs,List.length_map]at h1;rw [hrd.1];omega
   obtain⟨b,o,e,c⟩:=(hrd.2.ext HK2.out) i u hu;exact⟨b,o,e,hpk.cell c fun hf=>by have h8:b<_:=HSW.out _ (hxS _ e hne);omega⟩⟩
  clear hrd hxS;obtain⟨ao,n,cap⟩:=xv;obtain⟨hn,hcs⟩:=hrd2;simp only at hn hcs;have hmix:Tryz.prog.follows .mixedOrders=true:=by kernel_rfl
  have HCL:=qH (jE (strs ss) ao cap X.drew n (by simp [strs,hn]) (hcs.ext (Kp.refl X).drew) (gP ss) (by omega));have hc0:=hB.cell 0 (by simp);have hf0:=hB.free 0;simp only [List.getElem_cons_zero]at hc0;have HB:=qH (nIX hB hr);have HCX:=qH (nIX hcx hn);clear hB hr hcx hn hcs;gi_wp2;refine wpIn_region_any (by kernel_rfl) ?_
  change wpAnyIn _ _ _ _ _ _ _ _ _ (World.drew _)
  refine wpAnyIn_ready (rs:= [0,1]) (by kernel_rfl) (by simp) (AllReadyIn.cons rfl (fun K hK=>?_) (AllReadyIn.cons rfl (fun K hK=>?_) AllReadyIn.nil))
  ·go_simp;refine hK _ _ ?_;clear hK K;refine wpAnyIn_ready (rs:= [1]) (by kernel_rfl) (by simp) (AllReadyIn.cons rfl (fun K hK=>?_) AllReadyIn.nil);go_simp;refine hK _ _ ?_;clear hK K;refine wpAnyIn_ready (rs:= [2]) (by kernel_rfl) (by simp) (AllReadyIn.cons rfl (fun K hK=>?_) AllReadyIn.nil);go_simp;refine nIX trivial ?_;refine(CallsIn.inRound l (callsIn_wide.2 HCL.out)).mono ?_;rintro e X1 ⟨v1,rfl,hk1,hr1⟩;obtain⟨ao2,cap2,ev,_,_⟩:=hr1.shape;subst ev;rw [HCX.out.2]at hr1;obtain⟨ao3,n3,cap3,w3,hrunA,d1,d2,HFIN⟩:=kJ (x:=(ao2,ss.length,cap2)) HPL.out hpk (by omega) HB.out.1 HB.out.2 ((Kp.refl X).drew.trans hk1) hr1 hss;rw [<-HCX.out.2]at hrunA;have HFI:=qH HFIN;clear HFIN hr1;have e0:=hk1.cell (w:=X.drew) hc0 id;have e1:=(hk1.alloc (.cells #[.slice ao2 n cap2] 34)).cell (w:=X.drew) hc0 id
   change K _ _
   refine hK _ _ ?_;clear hK K;refine wpAnyIn_ready (rs:= [3]) (by kernel_rfl) (by simp) (AllReadyIn.cons rfl (fun K hK=>?_) AllReadyIn.nil);go_simp;refine hK _ _ ?_;clear hK K;refine wpAnyIn_ready (rs:= [4]) (by kernel_rfl) (by simp) (AllReadyIn.cons rfl (fun K hK=>?_) AllReadyIn.nil);refine lZ (.tmp 9) (.tmp 12) rfl rfl rfl rfl hrunA ?_;refine hK _ _ ?_;clear hK K;refine wpAnyIn_ready (rs:= [5]) (by kernel_rfl) (by simp) (AllReadyIn.cons rfl (fun K hK=>?_) AllReadyIn.nil);go_simp;refine hK _ _ ?_;clear hK K;refine wpAnyIn_done (by kernel_rfl) ?_ _;obtain⟨q1,q2,q3,q4⟩:=HFI.out ⟨(ao,n,cap),xm⟩ HCX.out.1;refine nIX (q1.from _) (nIX (SameOn.of_kp q2 (fun k h=>Nat.lt_of_lt_of_le h.2 hpk.size) (fun k h h'=>by omega)) ⟨by rw [List.length_append];simp;omega,q3,q4⟩)
  ·go_simp;refine hK _ _ ?_;clear hK K;refine wpAnyIn_ready (rs:= [0,2]) (by kernel_rfl) (by simp) (AllReadyIn.cons rfl (fun K hK=>?_) (AllReadyIn.cons rfl (fun K hK=>?_) AllReadyIn.nil))
   ·go_simp;refine hK _ _ ?_;clear hK K;refine wpAnyIn_ready (rs:= [2]) (by kernel_rfl) (by simp) (AllReadyIn.cons rfl (fun K hK=>?_) AllReadyIn.nil);go_simp;refine nIX trivial ?_;refine(CallsIn.inRound l (callsIn_wide.2 HCL.out)).mono ?_;rintro e X1 ⟨v1,rfl,hk1,hr1⟩;obtain⟨ao2,cap2,ev,_,_⟩:=hr1.shape;subst ev;rw [HCX.out.2]at hr1;obtain⟨ao3,n3,cap3,w3,hrunA,d1,d2,HFIN⟩:=kJ (x:=(ao2,ss.length,cap2)) HPL.out hpk (by omega) HB.out.1 HB.out.2 ((Kp.refl X).drew.trans hk1) hr1 hss;rw [<-HCX.out.2]at hrunA;have HFI:=qH HFIN;clear HFIN hr1;have e0:=hk1.cell (w:=X.drew) hc0 id;have e1:=(hk1.alloc (.cells #[.slice ao2 n cap2] 34)).cell (w:=X.drew) hc0 id
    change K _ _
    refine hK _ _ ?_;clear hK K;refine wpAnyIn_ready (rs:= [3]) (by kernel_rfl) (by simp) (AllReadyIn.cons rfl (fun K hK=>?_) AllReadyIn.nil);go_simp;refine hK _ _ ?_;clear hK K;refine wpAnyIn_ready (rs:= [4]) (by kernel_rfl) (by simp) (AllReadyIn.cons rfl (fun K hK=>?_) AllReadyIn.nil);refine lZ (.tmp 9) (.tmp 12) rfl rfl rfl rfl hrunA ?_;refine hK _ _ ?_;clear hK K;refine wpAnyIn_ready (rs:= [5]) (by kernel_rfl) (by simp) (AllReadyIn.cons rfl (fun K hK=>?_) AllReadyIn.nil);go_simp;refine hK _ _ ?_;clear hK K;refine wpAnyIn_done (by kernel_rfl) ?_ _;obtain⟨q1,q2,q3,q4⟩:=HFI.out ⟨(ao,n,cap),xm⟩ HCX.out.1;refine nIX (q1.from _) (nIX (SameOn.of_kp q2 (fun k h=>Nat.lt_of_lt_of_le h.2 hpk.size) (fun k h h'=>by omega)) ⟨by rw [List.length_append];simp;omega,q3,q4⟩)
   ·go_simp;refine nIX trivial ?_;refine(CallsIn.inRound l (callsIn_wide.2 HCL.out)).mono ?_;rintro e X1 ⟨v1,rfl,hk1,hr1⟩;obtain⟨ao2,cap2,ev,_,_⟩:=hr1.shape;subst ev;rw [HCX.out.2]at hr1;obtain⟨ao3,n3,cap3,w3,hrunA,d1,d2,HFIN⟩:=kJ (x:=(ao2,ss.length,cap2)) HPL.out hpk (by omega) HB.out.1 HB.out.2 ((Kp.refl X).drew.trans hk1) hr1 hss;rw [<-HCX.out.2]at hrunA;have HFI:=qH HFIN;clear HFIN hr1;have e0:=hk1.cell (w:=X.drew) hc0 id;have e1:=(hk1.alloc (.cells #[.slice ao2 n cap2] 34)).cell (w:=X.drew) hc0 id
    change K _ _
    refine hK _ _ ?_;clear hK K;refine wpAnyIn_ready (rs:= [0,3]) (by kernel_rfl) (by simp) (AllReadyIn.cons rfl (fun K hK=>?_) (AllReadyIn.cons rfl (fun K hK=>?_) AllReadyIn.nil))
    ·go_simp;refine hK _ _ ?_;clear hK K;refine wpAnyIn_ready (rs:= [3]) (by kernel_rfl) (by simp) (AllReadyIn.cons rfl (fun K hK=>?_) AllReadyIn.nil);go_simp;refine hK _ _ ?_;clear hK K;refine wpAnyIn_ready (rs:= [4]) (by kernel_rfl) (by simp) (AllReadyIn.cons rfl (fun K hK=>?_) AllReadyIn.nil);refine lZ (.tmp 9) (.tmp 12) rfl rfl rfl rfl hrunA ?_;refine hK _ _ ?_;clear hK K;refine wpAnyIn_ready (rs:= [5]) (by kernel_rfl) (by simp) (AllReadyIn.cons rfl (fun K hK=>?_) AllReadyIn.nil);go_simp;refine hK _ _ ?_;clear hK K;refine wpAnyIn_done (by kernel_rfl) ?_ _;obtain⟨q1,q2,q3,q4⟩:=HFI.out ⟨(ao,n,cap),xm⟩ HCX.out.1;refine nIX (q1.from _) (nIX (SameOn.of_kp q2 (fun k h=>Nat.lt_of_lt_of_le h.2 hpk.size) (fun k h h'=>by omega)) ⟨by rw [List.length_append];simp;omega,q3,q4⟩)
    ·go_simp;refine hK _ _ ?_;clear hK K;refine wpAnyIn_ready (rs:= [0]) (by kernel_rfl) (by simp) (AllReadyIn.cons rfl (fun K hK=>?_) AllReadyIn.nil);go_simp;refine hK _ _ ?_;clear hK K;refine wpAnyIn_ready (rs:= [4]) (by kernel_rfl) (by simp) (AllReadyIn.cons rfl (fun K hK=>?_) AllReadyIn.nil);refine lZ (.tmp 9) (.tmp 12) rfl rfl rfl rfl hrunA ?_;refine hK _ _ ?_;clear hK K;refine wpAnyIn_ready (rs:= [5]) (by kernel_rfl) (by simp) (AllReadyIn.cons rfl (fun K hK=>?_) AllReadyIn.nil);go_simp;refine hK _ _ ?_;clear hK K;refine wpAnyIn_done (by kernel_rfl) ?_ _;obtain⟨q1,q2,q3,q4⟩:=HFI.out ⟨(ao,n,cap),xm⟩ HCX.out.1;refine nIX (q1.from _) (nIX (SameOn.of_kp q2 (fun k h=>Nat.lt_of_lt_of_le h.2 hpk.size) (fun k h h'=>by omega)) ⟨by rw [List.length_append];simp;omega,q3,q4⟩)
 case stop=>
  rintro D c pre W _ _ h _;exact h.elim
 case done=>
  rintro D ys W2 hD hys ⟨hl2,hkd,v,hBd,hrd⟩ hd;subst hys;have kw:Kp F w W2:=(HK1.out.1.ext HK2.out).trans' hkd fun k hk e=>by omega
  have hra:R W2:=HR.out.2 HK1.out.2 ((Ext.kp HK2.out).trans (hkd.mono fun g _ e=>by omega));have hown:OwnRows w.heap.size W2 v LL:=by
   have e:zs.attach.map (fun x=>con x.1)=LL:=by
    rw [<-HS.out.2];have h:(zs.attach.map fun x:{x//x∈zs}=>con x.1)=(zs.attach.map Subtype.val).map con:=by rw [List.map_map];rfl
    rw [h,List.attach_map_subtype_val]
   rw [e]at hrd;exact hrd.mono (by omega)
  have hmk:=(Marks.nil w2.heap.size w2).push (w':=W2) (D:=D) (fun k o h ho=>(hkd.block k (lt_of_block h) (fun e=>by subst e;have hb:=B2.out;unfold Blk at hb;rw [hb]at h;cases h;cases ho)).trans h) hD hD hd;obtain⟨ao4,cap4,ev,_⟩:=hown.shape;subst ev;have c0:=hBd.cell 0 (by simp);simp only [List.getElem_cons_zero]at c0;have HF:=qH (nIX kw (nIX hra (nIX hown hmk)));clear kw hra hown hmk hrd hBd hkd hd;go_wp2;rw [EQ.out];obtain⟨kw,hra,hown,hmk⟩:=HF.out;refine aDe hmk kw (by omega) rfl fun w' kx=>⟨HR.out.2 hra (kx.mono fun g _ h=>by omega),hown.kpc kx fun g h=>h.2⟩
theorem RowsAt.tells(h:RowsAt S w b iv arity LL):∃con,∃zs:List gZ,PtrSetRow Tryz.prog S w (.pointer (some ⟨b,0,none⟩)) zs/\zs.map con=LL/\
 ∀x∈zs,∃ss,ReadsAs w x ss/\ss.length≤8796093021952/\(∀a,x.1=some a->x.2.1≠0->S a.block)/\con x=ss:=by
 obtain⟨con,zs,hc,hs,hl⟩:=h;refine⟨con,zs,.inr ⟨_,_,_,_,_,_,_,rfl,hs⟩,hl,fun x hx=>?_⟩;obtain⟨ss,h1,h2,h3⟩:=hs.all x hx;exact⟨ss,h1,h2,h3,hc x ss h1⟩
theorem aAo(h:RowsQ z S w b iv arity LL):
 Calls Tryz.prog 53 #[.pointer (some ⟨b,0,none⟩)] w (RetF (FQ z b) w fun w' v=>RowsAt S w' b iv arity LL/\OwnRows w.heap.size w' v LL):=by
 refine wV (R:=fun W=>RowsAt S W b iv arity LL) (fun W hW=>?_) (fun k hk=>by rw [hk.2];exact h.lt) (fun{W W'} hr hk=>?_)
 ·refine(jG (h.ext hW)).mono ?_;rintro e w1 ⟨v,rfl,hk,rfl,h1⟩;obtain⟨con,zs,hp,hl,hall⟩:=h1.tells;exact RetF.mk hk ⟨h1,S,con,zs,hp,h.inS,hl,hall⟩
 ·exact hr.move hk (fun k hg ho=>by have:=h.ownLt k ho;omega) (fun k hg hS=>by have:=h.inS k hS;omega) (fun _ h=>h) (fun k hS=>Nat.lt_of_lt_of_le (hr.inS k hS) hk.size) hr.notS
theorem aDf(w:World):Calls Tryz.prog 53 #[.pointer none] w (RetN w fun w' v=>OwnRows w.heap.size w' v []):=by
 refine(wV (w:=w) (F:=fun _=>False) (R:=fun _=>True) (LL:= []) (fun W hW=>?_) (fun k hk=>hk.elim) (fun _ _=>trivial)).mono ?_
 ·refine(aDb W).mono ?_;rintro e w1 ⟨rfl,rfl⟩;exact RetF.mk (Kp.refl _) ⟨trivial,fun _=>False,fun _=> [],[],.inl ⟨rfl,rfl⟩,fun k hk=>hk.elim,rfl,by simp⟩
 ·rintro e w' ⟨v,rfl,hk,_,h⟩;exact RetN.mk hk h
end
end
end Go.Proofs.YtinnmeiphbdogaaGreat
